/- How blocks are written: the document. Own work. -/
import Derived.Test.YtpfjchnpkolmkaaRsum
set_option linter.unusedVariables false
set_option linter.unusedSimpArgs false
namespace Go.Proofs.Ytpfjchnpkolmkaa
open Go Go.Pi
set_option maxHeartbeats 2000000
set_option maxRecDepth 10000
theorem epochU {n : Int} (h : epochOk n = true) : U64 n := by
  unfold epochOk at h
  simp at h
  exact ⟨by omega, by omega⟩
/-- What an episode that may be has. -/
def EpR (e : Epi) : Prop := (e.spans.length : Int) ≤ 9223372036854775807 ∧ (∀ s ∈ e.spans, SpR s) ∧ U64 e.first ∧ U64 e.last
theorem epR_of {e : Epi} (hM : (e.spans.length : Int) ≤ 9223372036854775807) (h : epOk e = true) : EpR e := by
  unfold epOk at h
  simp only [Bool.and_eq_true, List.all_cons, List.all_nil, Bool.and_true] at h
  exact ⟨hM, fun s hs => spR_of (List.all_eq_true.1 h.1.2 s hs), epochU h.1.1.1.1, epochU h.1.1.1.2⟩
theorem BBloop (b : Blo) (hM : (b.eps.length : Int) ≤ 9223372036854775807) (hE : ∀ e ∈ b.eps, EpR e) : ∀ (n i : Nat) (p q : List Int), i + n = b.eps.length → (p ++ idxsB (b.eps.drop i)).length ≤ 140737488355328 → (q ++ epsB (b.eps.drop i)).length ≤ 140737488355328 →
   ∃ f H, Pi.Loop (exec cx (Cal cx) c16_0) (Rst Try.prog ([(1, none), (3, some 5), (4, some 5), (5, none)], [])) (St.mk (sF [(1, .ad 1 0 0 0), (3, .sl 500003 0 0 p.length), (4, .sl 500004 0 0 q.length), (5, .s (.int .i64 i))]) (hF [(1, some (.row 0 27 4 true [bkC b])), (500003, some (.row 0 5 1 false (p.map bC))), (500004, some (.row 0 5 1 false (q.map bC)))])) = some (.ex 0, St.mk f H) ∧ f 3 = .sl 500003 0 0 (p ++ idxsB (b.eps.drop i)).length ∧ H 500003 = some (.row 0 5 1 false ((p ++ idxsB (b.eps.drop i)).map bC)) ∧ f 4 = .sl 500004 0 0 (q ++ epsB (b.eps.drop i)).length ∧ H 500004 = some (.row 0 5 1 false ((q ++ epsB (b.eps.drop i)).map bC)) ∧ H 52 = none := by
  intro n
  induction n with
  | zero =>
    intro i p q h hL hQ
    have h0 : ¬ (i : Int) < (b.eps.length : Int) := by omega
    rw [Loop_eq, drop_end (by omega)]
    simp -implicitDefEqProofs only [fns_16, c16, body, startSt, pkeys, slots, recvL, recv, noH, finish, resPV, outRs, outR, outC, outCs, outMs, go_sem, Nat.reduceShiftRight, Nat.reduceAnd, reduceIte, reduceCtorEq, Nat.reduceEqDiff, Nat.reduceAdd, Nat.reduceMul, Nat.reduceSub, Nat.reduceLT, Nat.reduceLeDiff, Nat.reduceBEq, Nat.reduceBNe, Int.reduceToNat, Int.reduceLT, Int.reduceLE, Int.reduceEq, Int.reduceNe, Int.reduceMul, Int.reduceAdd, Int.reduceSub, Int.reduceNeg, or_self, true_or, or_true, false_or, or_false, Int.natCast_nonneg, Int.toNat_natCast, List.length_map, implies_true, Int.cast_ofNat_Int, List.mem_cons, List.not_mem_nil, forall_eq_or_imp, forall_eq, false_implies, List.replicate_succ, List.replicate_zero, List.set_cons_zero, List.set_cons_succ, List.length_set, Nat.zero_add, Nat.not_succ_le_self, Nat.mul_one, exec_loop, Rst, keys1, keys2, keysB, proms, prom, keepV, freshV, freshC, freshB, liveVer, mpVer, pk, ded, insH, sortH, rnP, rnA, rnM, List.map_nil, St.of, List.map_cons, c16_0, h0, bkC, idxsB, epsB, List.flatMap_nil, List.append_nil]
    exact ⟨_, _, rfl, rfl, rfl, rfl, rfl, rfl⟩
  | succ n ih =>
    intro i p q h hL hQ
    have h0 : (i : Int) < (b.eps.length : Int) := by omega
    obtain ⟨x, hx⟩ := get_of_lt (l := b.eps) (i := i) (by omega)
    have h8 : IntKind.i64.wrap ((i : Int) + 1) = ((i + 1 : Nat) : Int) := by rw [wrap64_id] <;> omega
    have hd : idxsB (b.eps.drop i) = trB x.tr ++ (vput (epB x).length ++ idxsB (b.eps.drop (i + 1))) := by rw [drop_get hx]; simp [idxsB, idxB]
    have he : epsB (b.eps.drop i) = epB x ++ epsB (b.eps.drop (i + 1)) := by rw [drop_get hx]; simp [epsB]
    rw [hd] at hL ⊢
    rw [he] at hQ ⊢
    simp only [← List.append_assoc] at hL hQ ⊢
    obtain ⟨r1, r2, r3, r4⟩ := hE x (mem_get hx)
    have hy : (epB x).length ≤ 140737488355328 := by simp at hQ; omega
    have h1 := bodyR [] x r1 r2 r3 r4 (by simpa using hy)
    have h2 := trace p x.tr (by simp at hL ⊢; omega)
    have h3 := Put (p ++ trB x.tr) (epB x).length (by simp at hL ⊢; omega)
    have h4 : IntKind.u64.wrap ((epB x).length : Int) = ((epB x).length : Int) := u64_small (by omega)
    have h5 : (q ++ epB x).length ≤ 140737488355328 := by simp at hQ ⊢; omega
    have h7 := ih (i + 1) (p ++ trB x.tr ++ vput (epB x).length) (q ++ epB x) (by omega) hL hQ
    simp only [bkC] at h7
    simp only [oB, epC, List.map_nil, List.nil_append] at h1
    simp only [trC] at h2
    rw [Loop_eq]
    simp -implicitDefEqProofs only [fns_16, c16, body, startSt, pkeys, slots, recvL, recv, noH, finish, resPV, outRs, outR, outC, outCs, outMs, go_sem, Nat.reduceShiftRight, Nat.reduceAnd, reduceIte, reduceCtorEq, Nat.reduceEqDiff, Nat.reduceAdd, Nat.reduceMul, Nat.reduceSub, Nat.reduceLT, Nat.reduceLeDiff, Nat.reduceBEq, Nat.reduceBNe, Int.reduceToNat, Int.reduceLT, Int.reduceLE, Int.reduceEq, Int.reduceNe, Int.reduceMul, Int.reduceAdd, Int.reduceSub, Int.reduceNeg, or_self, true_or, or_true, false_or, or_false, Int.natCast_nonneg, Int.toNat_natCast, List.length_map, implies_true, Int.cast_ofNat_Int, List.mem_cons, List.not_mem_nil, forall_eq_or_imp, forall_eq, false_implies, List.replicate_succ, List.replicate_zero, List.set_cons_zero, List.set_cons_succ, List.length_set, Nat.zero_add, Nat.not_succ_le_self, Nat.mul_one, exec_loop, Rst, keys1, keys2, keysB, proms, prom, keepV, freshV, freshC, freshB, liveVer, mpVer, pk, ded, insH, sortH, rnP, rnA, rnM, List.map_nil, St.of, List.map_cons, c16_0, h0, getD_map epC hx, h1, h2, h3, h4, h5, bkC, epC, h8, appSl_map _ _ _ _ (epB_ne x)]
    exact h7
def bkBody (b : Blo) : List Int := nums [b.number, b.born, b.tier, (b.eps.length : Int)] ++ idxsB b.eps ++ epsB b.eps
def bkB (b : Blo) : List Int := if blOk b = true then sealB (bkBody b) else []
theorem BlockBytes (b : Blo) (hM : (b.eps.length : Int) ≤ 9223372036854775807) (hE : Eps b.eps) (hL : (sealB (bkBody b)).length ≤ 140737488355328) : Cal cx 16 [.ag (bkC b)] = some ([oB (bkB b)], []) := by
  have h1 := RightBlock b hM hE
  simp only [bkC] at h1
  unfold bkB
  rw [Cal_eq]
  cases hb : blOk b
  · simp -implicitDefEqProofs only [fns_16, c16, body, startSt, pkeys, slots, recvL, recv, noH, finish, resPV, outRs, outR, outC, outCs, outMs, go_sem, Nat.reduceShiftRight, Nat.reduceAnd, reduceIte, reduceCtorEq, Nat.reduceEqDiff, Nat.reduceAdd, Nat.reduceMul, Nat.reduceSub, Nat.reduceLT, Nat.reduceLeDiff, Nat.reduceBEq, Nat.reduceBNe, Int.reduceToNat, Int.reduceLT, Int.reduceLE, Int.reduceEq, Int.reduceNe, Int.reduceMul, Int.reduceAdd, Int.reduceSub, Int.reduceNeg, or_self, true_or, or_true, false_or, or_false, Int.natCast_nonneg, Int.toNat_natCast, List.length_map, implies_true, Int.cast_ofNat_Int, List.mem_cons, List.not_mem_nil, forall_eq_or_imp, forall_eq, false_implies, List.replicate_succ, List.replicate_zero, List.set_cons_zero, List.set_cons_succ, List.length_set, Nat.zero_add, Nat.not_succ_le_self, Nat.mul_one, exec_loop, Rst, keys1, keys2, keysB, proms, prom, keepV, freshV, freshC, freshB, liveVer, mpVer, pk, ded, insH, sortH, rnP, rnA, rnM, List.map_nil, St.of, List.map_cons, bkC, h1, hb]
    rfl
  · have hR : ∀ e ∈ b.eps, EpR e := fun e he => epR_of (hE e he).1 (by
      unfold blOk at hb
      simp only [Bool.and_eq_true] at hb
      exact List.all_eq_true.1 hb.2 e he)
    have hN : ∀ n ∈ [b.number, b.born, b.tier, (b.eps.length : Int)], U64 n := by
      unfold blOk at hb
      simp only [Bool.and_eq_true, List.all_cons, List.all_nil, Bool.and_true] at hb
      intro n hn
      simp only [List.mem_cons, List.not_mem_nil, or_false] at hn
      rcases hn with rfl | rfl | rfl | rfl
      · exact epochU hb.1.1.1
      · exact epochU hb.1.1.2.1
      · exact epochU hb.1.1.2.2
      · exact ⟨by omega, by omega⟩
    have hS := Sealed true (bkBody b) hL
    unfold bkBody sealB at hL
    have h2 := puts [] true [b.number, b.born, b.tier, (b.eps.length : Int)] hN (by simp) (by simp at hL ⊢; omega)
    obtain ⟨f, H, g1, g2, g3, g4, g5, g6⟩ := BBloop b hM hR b.eps.length 0 (nums [b.number, b.born, b.tier, (b.eps.length : Int)]) [] (by omega) (by simp at hL ⊢; omega) (by simp at hL ⊢; omega)
    simp only [oB, List.map_cons, List.map_nil, iC, List.nil_append] at h2
    simp only [bkC, Int.cast_ofNat_Int, List.drop_zero, List.map_nil, List.length_nil, List.nil_append] at g1 g2 g3 g4 g5
    unfold bkBody at hS ⊢
    have hq : (nums [b.number, b.born, b.tier, (b.eps.length : Int)] ++ idxsB b.eps ++ epsB b.eps).length ≤ 140737488355328 := by simp at hL ⊢; omega
    by_cases he : epsB b.eps = []
    · rw [he] at g4 g5 hS ⊢
      simp only [List.append_nil, List.length_nil, List.map_nil] at g4 g5 hS ⊢
      simp -implicitDefEqProofs only [fns_16, c16, body, startSt, pkeys, slots, recvL, recv, noH, finish, resPV, outRs, outR, outC, outCs, outMs, go_sem, Nat.reduceShiftRight, Nat.reduceAnd, reduceIte, reduceCtorEq, Nat.reduceEqDiff, Nat.reduceAdd, Nat.reduceMul, Nat.reduceSub, Nat.reduceLT, Nat.reduceLeDiff, Nat.reduceBEq, Nat.reduceBNe, Int.reduceToNat, Int.reduceLT, Int.reduceLE, Int.reduceEq, Int.reduceNe, Int.reduceMul, Int.reduceAdd, Int.reduceSub, Int.reduceNeg, or_self, true_or, or_true, false_or, or_false, Int.natCast_nonneg, Int.toNat_natCast, List.length_map, implies_true, Int.cast_ofNat_Int, List.mem_cons, List.not_mem_nil, forall_eq_or_imp, forall_eq, false_implies, List.replicate_succ, List.replicate_zero, List.set_cons_zero, List.set_cons_succ, List.length_set, Nat.zero_add, Nat.not_succ_le_self, Nat.mul_one, exec_loop, Rst, keys1, keys2, keysB, proms, prom, keepV, freshV, freshC, freshB, liveVer, mpVer, pk, ded, insH, sortH, rnP, rnA, rnM, List.map_nil, St.of, List.map_cons, bkC, h1, hb, h2, g1, g2, g3, g4, g5, g6, hS]
    · simp -implicitDefEqProofs only [fns_16, c16, body, startSt, pkeys, slots, recvL, recv, noH, finish, resPV, outRs, outR, outC, outCs, outMs, go_sem, Nat.reduceShiftRight, Nat.reduceAnd, reduceIte, reduceCtorEq, Nat.reduceEqDiff, Nat.reduceAdd, Nat.reduceMul, Nat.reduceSub, Nat.reduceLT, Nat.reduceLeDiff, Nat.reduceBEq, Nat.reduceBNe, Int.reduceToNat, Int.reduceLT, Int.reduceLE, Int.reduceEq, Int.reduceNe, Int.reduceMul, Int.reduceAdd, Int.reduceSub, Int.reduceNeg, or_self, true_or, or_true, false_or, or_false, Int.natCast_nonneg, Int.toNat_natCast, List.length_map, implies_true, Int.cast_ofNat_Int, List.mem_cons, List.not_mem_nil, forall_eq_or_imp, forall_eq, false_implies, List.replicate_succ, List.replicate_zero, List.set_cons_zero, List.set_cons_succ, List.length_set, Nat.zero_add, Nat.not_succ_le_self, Nat.mul_one, exec_loop, Rst, keys1, keys2, keysB, proms, prom, keepV, freshV, freshC, freshB, liveVer, mpVer, pk, ded, insH, sortH, rnP, rnA, rnM, List.map_nil, St.of, List.map_cons, bkC, h1, hb, h2, g1, g2, g3, g4, g5, g6, appSl_map _ _ _ _ he, hq, hS]
end Go.Proofs.Ytpfjchnpkolmkaa
