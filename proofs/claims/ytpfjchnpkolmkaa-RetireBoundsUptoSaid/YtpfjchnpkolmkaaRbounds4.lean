/- RetireBounds: the rounds. Own work. -/
import Derived.Test.YtpfjchnpkolmkaaRbounds3
set_option linter.unusedVariables false
set_option linter.unusedSimpArgs false
namespace Go.Proofs.Ytpfjchnpkolmkaa
open Go Go.Pi
set_option maxHeartbeats 2000000
set_option maxRecDepth 10000
def RgL (l : List Blo) : Prop := (∀ b ∈ l, Fit b) ∧ (∀ b ∈ l, 0 ≤ b.born ∧ b.born ≤ 1099511627776) ∧ (l.length : Int) ≤ 1000000
theorem rgL_gone {l : List Blo} (h : RgL l) (n : Int) : RgL (gone n l) := by
  have hs : ∀ b ∈ gone n l, b ∈ l := fun b hb => (List.mem_filter.1 hb).1
  have hl : (gone n l).length ≤ l.length := List.length_filter_le _ _
  exact ⟨fun b hb => h.1 b (hs b hb), fun b hb => h.2.1 b (hs b hb), by have := h.2.2; omega⟩
theorem lastAt_lt (n : Int) : ∀ (l : List Blo) (k : Nat) (a : Int) (M : Nat), k + l.length = M → -1 ≤ a → a < M → -1 ≤ lastAt n l k a ∧ lastAt n l k a < M
  | [], _, a, M, _, h1, h2 => ⟨h1, h2⟩
  | b :: r, k, a, M, h, h1, h2 => by
    rw [List.length_cons] at h
    unfold lastAt
    refine lastAt_lt n r (k + 1) _ M (by omega) ?_ ?_ <;> split <;> omega
theorem RoundLoop (xs : List Int) (now keep budget : Int) (hn : 0 ≤ now ∧ now ≤ 1099511627776) (hM2 : (xs.length : Int) ≤ 1000000) : ∀ (n i : Nat) (l fin : List Blo), i + n = xs.length → RgL l → rounds now keep budget (xs.drop i) l = some fin →
   ∃ f H, Pi.Loop (exec cx (Cal cx) c3_4) (Rst Try.prog ([(1, none), (2, none), (3, none), (12, some 3), (13, some 27), (14, none)], [])) (St.mk (sF [(1, .s (.int .i64 now)), (2, .s (.int .i64 keep)), (3, .s (.int .i64 budget)), (12, .sl 500012 0 0 xs.length), (13, .sl 500013 0 0 l.length), (14, .s (.int .i64 i))]) (hF [(500012, oRow xs), (500013, lRow l)])) = some (.ex 4, St.mk f H) ∧
     f 1 = .s (.int .i64 now) ∧ f 2 = .s (.int .i64 keep) ∧ f 3 = .s (.int .i64 budget) ∧ f 13 = .sl 500013 0 0 fin.length ∧ H 500013 = lRow fin := by
  intro n
  induction n with
  | zero =>
    intro i l fin h hR hr
    have h0 : ¬ (i : Int) < (xs.length : Int) := by omega
    rw [drop_end (by omega), rounds] at hr
    cases hr
    rw [Loop_eq]
    simp -implicitDefEqProofs only [fns_3, c3, body, startSt, pkeys, slots, recvL, recv, noH, finish, resPV, outRs, outR, outC, outCs, outMs, go_sem, Nat.reduceShiftRight, Nat.reduceAnd, reduceIte, reduceCtorEq, Nat.reduceEqDiff, Nat.reduceAdd, Nat.reduceMul, Nat.reduceSub, Nat.reduceLT, Nat.reduceLeDiff, Nat.reduceBEq, Nat.reduceBNe, Int.reduceToNat, Int.reduceLT, Int.reduceLE, Int.reduceEq, Int.reduceNe, Int.reduceMul, Int.reduceAdd, Int.reduceSub, Int.reduceNeg, or_self, true_or, or_true, false_or, or_false, Int.natCast_nonneg, Int.toNat_natCast, List.length_map, implies_true, Int.cast_ofNat_Int, List.mem_cons, List.not_mem_nil, forall_eq_or_imp, forall_eq, false_implies, List.replicate_succ, List.replicate_zero, List.set_cons_zero, List.set_cons_succ, List.length_set, Nat.zero_add, Nat.not_succ_le_self, Nat.mul_one, exec_loop, Rst, keys1, keys2, keysB, proms, prom, keepV, freshV, freshC, freshB, liveVer, mpVer, pk, ded, insH, sortH, rnP, rnA, rnM, List.map_nil, St.of, List.map_cons, c3_4, h0]
    exact ⟨_, _, rfl, rfl, rfl, rfl, rfl, rfl⟩
  | succ n ih =>
    intro i l fin h hR hr
    have h0 : (i : Int) < (xs.length : Int) := by omega
    have h0n : i < xs.length := by omega
    obtain ⟨y, hy⟩ := get_of_lt (l := xs) (i := i) (by omega)
    have h8 : IntKind.i64.wrap ((i : Int) + 1) = ((i + 1 : Nat) : Int) := by rw [wrap64_id] <;> omega
    rw [drop_get hy, rounds] at hr
    have hb : roundBad now keep budget l y = false := by
      cases e : roundBad now keep budget l y
      · rfl
      · rw [if_pos e] at hr; cases hr
    rw [if_neg (by simp [hb])] at hr
    have hM := hR.2.2
    have h7 := ih (i + 1) (gone y l) fin (by omega) (rgL_gone hR y) hr
    have ba := lastAt_lt y l 0 (-1) l.length (by omega) (by omega) (by omega)
    obtain ⟨f, H, g1, g2, g3, g4, g5, g6, g7, g8, g9, g10, g11, g12, g13⟩ := FindLoop true l xs now keep budget i y hy hM l.length 0 [] (-1) (by omega) (by simp)
    simp only [oRow, lRow, Int.cast_ofNat_Int, List.drop_zero, List.nil_append, List.length_nil, List.map_nil] at g1 g8 g9 g11 g12 g13
    unfold roundBad at hb
    generalize lastAt y l 0 (-1) = a at g9 hb ba
    simp only [Bool.or_eq_false_iff, decide_eq_false_iff_not, Bool.and_eq_false_iff, Bool.not_eq_false', decide_eq_true_eq] at hb
    obtain ⟨A, rfl⟩ : ∃ A : Nat, a = (A : Int) := ⟨a.toNat, by omega⟩
    have hA : (A : Int) < (l.length : Int) := by omega
    have hAn : A < l.length := by omega
    have hA0 : ¬ (A : Int) < 0 := by omega
    obtain ⟨z1, hz⟩ := get_of_lt (l := l) (i := A) (by omega)
    have hzb := hR.2.1 z1 (mem_get hz)
    have w1 : IntKind.i64.wrap (now - z1.born) = now - z1.born := by rw [wrap64_id] <;> omega
    obtain ⟨f2, H2, k1, k2, k3, k4, k5, k6, k7, k8, k9, k10, k11, k12, k13⟩ := LeastLoop true l (gone y l) xs now keep budget A i z1 hz hM l.length 0 true (by omega)
    simp only [oRow, lRow, Int.cast_ofNat_Int, List.drop_zero, Bool.true_and] at k1 k10 k11 k12 k13
    have t1 := TotalR true l hR.1 hM
    have e1 : atB l (A : Int) = z1.born := by unfold atB; rw [Int.toNat_natCast]; exact bornAt_get hz
    rw [e1] at hb
    rw [Loop_eq]
    by_cases hO : keep < now - z1.born
    · simp -implicitDefEqProofs only [fns_3, c3, body, startSt, pkeys, slots, recvL, recv, noH, finish, resPV, outRs, outR, outC, outCs, outMs, go_sem, Nat.reduceShiftRight, Nat.reduceAnd, reduceIte, reduceCtorEq, Nat.reduceEqDiff, Nat.reduceAdd, Nat.reduceMul, Nat.reduceSub, Nat.reduceLT, Nat.reduceLeDiff, Nat.reduceBEq, Nat.reduceBNe, Int.reduceToNat, Int.reduceLT, Int.reduceLE, Int.reduceEq, Int.reduceNe, Int.reduceMul, Int.reduceAdd, Int.reduceSub, Int.reduceNeg, or_self, true_or, or_true, false_or, or_false, Int.natCast_nonneg, Int.toNat_natCast, List.length_map, implies_true, Int.cast_ofNat_Int, List.mem_cons, List.not_mem_nil, forall_eq_or_imp, forall_eq, false_implies, List.replicate_succ, List.replicate_zero, List.set_cons_zero, List.set_cons_succ, List.length_set, Nat.zero_add, Nat.not_succ_le_self, Nat.mul_one, exec_loop, Rst, keys1, keys2, keysB, proms, prom, keepV, freshV, freshC, freshB, liveVer, mpVer, pk, ded, insH, sortH, rnP, rnA, rnM, List.map_nil, St.of, List.map_cons, c3_4, h0, h0n, hA, hAn, hA0, getD_map bkC hz, bkC, w1, hO, g1, g2, g3, g4, g5, g6, g7, g8, g9, g10, g11, g12, g13, k1, k2, k3, k4, k5, k6, k7, k8, k9, k10, k11, k12, k13, h8]
      exact h7
    · rcases hb.2 with c | ⟨⟨c1, c2⟩, c3⟩
      · exact absurd c hO
      rw [c1] at k10
      simp -implicitDefEqProofs only [fns_3, c3, body, startSt, pkeys, slots, recvL, recv, noH, finish, resPV, outRs, outR, outC, outCs, outMs, go_sem, Nat.reduceShiftRight, Nat.reduceAnd, reduceIte, reduceCtorEq, Nat.reduceEqDiff, Nat.reduceAdd, Nat.reduceMul, Nat.reduceSub, Nat.reduceLT, Nat.reduceLeDiff, Nat.reduceBEq, Nat.reduceBNe, Int.reduceToNat, Int.reduceLT, Int.reduceLE, Int.reduceEq, Int.reduceNe, Int.reduceMul, Int.reduceAdd, Int.reduceSub, Int.reduceNeg, or_self, true_or, or_true, false_or, or_false, Int.natCast_nonneg, Int.toNat_natCast, List.length_map, implies_true, Int.cast_ofNat_Int, List.mem_cons, List.not_mem_nil, forall_eq_or_imp, forall_eq, false_implies, List.replicate_succ, List.replicate_zero, List.set_cons_zero, List.set_cons_succ, List.length_set, Nat.zero_add, Nat.not_succ_le_self, Nat.mul_one, exec_loop, Rst, keys1, keys2, keysB, proms, prom, keepV, freshV, freshC, freshB, liveVer, mpVer, pk, ded, insH, sortH, rnP, rnA, rnM, List.map_nil, St.of, List.map_cons, c3_4, h0, h0n, hA, hAn, hA0, getD_map bkC hz, bkC, w1, hO, c2, c3, t1, g1, g2, g3, g4, g5, g6, g7, g8, g9, g10, g11, g12, g13, k1, k2, k3, k4, k5, k6, k7, k8, k9, k10, k11, k12, k13, h8]
      exact h7
end Go.Proofs.Ytpfjchnpkolmkaa
