/- The laws' guards, and their example. Own work. -/
import Derived.Test.YtpfjchnpkolmkaaRfew
set_option linter.unusedVariables false
set_option linter.unusedSimpArgs false
namespace Go.Proofs.Ytpfjchnpkolmkaa
open Go Go.Pi
set_option maxHeartbeats 2000000
set_option maxRecDepth 10000
def allE (l : List Blo) : List Epi := l.flatMap Blo.eps
def fewB (l : List Blo) : Bool := decide ((l.length : Int) ≤ 12) && fewE (allE (l.take 20)) 0
abbrev eRow (l : List Epi) : Option Blk := some (.row 0 47 6 false (l.map epC))
theorem FewBLoop (ln : Bool) (l : List Blo) (hM : (l.length : Int) ≤ 1048576) (hB : ∀ b ∈ l, b.eps.length ≤ 1048576) : ∀ (n i : Nat) (all : List Epi), i + n = 20 → all.length ≤ i * 1048576 →
   ∃ f H, Pi.Loop (exec cx (Cal cx) c7_0) (Rst Try.prog ([(0, none), (3, some 47), (4, none)], [])) (St.mk (sF [(0, .sh ln (l.map bkC)), (3, .sl 500003 0 0 all.length), (4, .s (.int .i64 i))]) (hF [(500003, eRow all)])) = some (.ex 0, St.mk f H) ∧ f 0 = .sh ln (l.map bkC) ∧ f 3 = .sl 500003 0 0 (all ++ allE ((l.drop i).take n)).length ∧ H 500003 = eRow (all ++ allE ((l.drop i).take n)) := by
  intro n
  induction n with
  | zero =>
    intro i all h _
    have h0 : ¬ (i : Int) < 20 := by omega
    rw [Loop_eq]
    by_cases h1 : (i : Int) < (l.length : Int)
    · simp -implicitDefEqProofs only [fns_7, c7, body, startSt, pkeys, slots, recvL, recv, noH, finish, resPV, outRs, outR, outC, outCs, outMs, go_sem, Nat.reduceShiftRight, Nat.reduceAnd, reduceIte, reduceCtorEq, Nat.reduceEqDiff, Nat.reduceAdd, Nat.reduceMul, Nat.reduceSub, Nat.reduceLT, Nat.reduceLeDiff, Nat.reduceBEq, Nat.reduceBNe, Int.reduceToNat, Int.reduceLT, Int.reduceLE, Int.reduceEq, Int.reduceNe, Int.reduceMul, Int.reduceAdd, Int.reduceSub, Int.reduceNeg, or_self, true_or, or_true, false_or, or_false, Int.natCast_nonneg, Int.toNat_natCast, List.length_map, implies_true, Int.cast_ofNat_Int, List.mem_cons, List.not_mem_nil, forall_eq_or_imp, forall_eq, false_implies, List.replicate_succ, List.replicate_zero, List.set_cons_zero, List.set_cons_succ, List.length_set, Nat.zero_add, Nat.not_succ_le_self, Nat.mul_one, exec_loop, Rst, keys1, keys2, keysB, proms, prom, keepV, freshV, freshC, freshB, liveVer, mpVer, pk, ded, insH, sortH, rnP, rnA, rnM, List.map_nil, St.of, List.map_cons, c7_0, h0, h1, allE, List.take_zero, List.flatMap_nil, List.append_nil]
      (first | exact ⟨_, _, rfl⟩ | (refine ⟨_, _, rfl, ?_⟩; first | exact (fun _ => rfl) | exact (fun h => by cases h) | rfl | exact ⟨rfl, rfl⟩ | exact ⟨fun _ => rfl, fun _ => rfl⟩ | exact ⟨rfl, rfl, rfl⟩ | exact ⟨fun _ => rfl, rfl, rfl, rfl⟩ | exact ⟨rfl, rfl, rfl, rfl⟩))
    · simp -implicitDefEqProofs only [fns_7, c7, body, startSt, pkeys, slots, recvL, recv, noH, finish, resPV, outRs, outR, outC, outCs, outMs, go_sem, Nat.reduceShiftRight, Nat.reduceAnd, reduceIte, reduceCtorEq, Nat.reduceEqDiff, Nat.reduceAdd, Nat.reduceMul, Nat.reduceSub, Nat.reduceLT, Nat.reduceLeDiff, Nat.reduceBEq, Nat.reduceBNe, Int.reduceToNat, Int.reduceLT, Int.reduceLE, Int.reduceEq, Int.reduceNe, Int.reduceMul, Int.reduceAdd, Int.reduceSub, Int.reduceNeg, or_self, true_or, or_true, false_or, or_false, Int.natCast_nonneg, Int.toNat_natCast, List.length_map, implies_true, Int.cast_ofNat_Int, List.mem_cons, List.not_mem_nil, forall_eq_or_imp, forall_eq, false_implies, List.replicate_succ, List.replicate_zero, List.set_cons_zero, List.set_cons_succ, List.length_set, Nat.zero_add, Nat.not_succ_le_self, Nat.mul_one, exec_loop, Rst, keys1, keys2, keysB, proms, prom, keepV, freshV, freshC, freshB, liveVer, mpVer, pk, ded, insH, sortH, rnP, rnA, rnM, List.map_nil, St.of, List.map_cons, c7_0, h0, h1, allE, List.take_zero, List.flatMap_nil, List.append_nil]
      (first | exact ⟨_, _, rfl⟩ | (refine ⟨_, _, rfl, ?_⟩; first | exact (fun _ => rfl) | exact (fun h => by cases h) | rfl | exact ⟨rfl, rfl⟩ | exact ⟨fun _ => rfl, fun _ => rfl⟩ | exact ⟨rfl, rfl, rfl⟩ | exact ⟨fun _ => rfl, rfl, rfl, rfl⟩ | exact ⟨rfl, rfl, rfl, rfl⟩))
  | succ n ih =>
    intro i all h ha
    have h0 : (i : Int) < 20 := by omega
    rw [Loop_eq]
    by_cases h1 : (i : Int) < (l.length : Int)
    · obtain ⟨x, hx⟩ := get_of_lt (l := l) (i := i) (by omega)
      have h8 : IntKind.i64.wrap ((i : Int) + 1) = ((i + 1 : Nat) : Int) := by rw [wrap64_id] <;> omega
      have hb := hB x (mem_get hx)
      have h7 := ih (i + 1) (all ++ x.eps) (by omega) (by simp; omega)
      have hL : (all ++ x.eps).length * 64 ≤ 140737488355328 := by simp; omega
      have e : allE ((l.drop i).take (n + 1)) = x.eps ++ allE ((l.drop (i + 1)).take n) := by rw [drop_get hx]; simp [allE]
      rw [e, ← List.append_assoc]
      by_cases hz : x.eps = []
      · rw [hz, List.append_nil] at h7 ⊢
        simp -implicitDefEqProofs only [fns_7, c7, body, startSt, pkeys, slots, recvL, recv, noH, finish, resPV, outRs, outR, outC, outCs, outMs, go_sem, Nat.reduceShiftRight, Nat.reduceAnd, reduceIte, reduceCtorEq, Nat.reduceEqDiff, Nat.reduceAdd, Nat.reduceMul, Nat.reduceSub, Nat.reduceLT, Nat.reduceLeDiff, Nat.reduceBEq, Nat.reduceBNe, Int.reduceToNat, Int.reduceLT, Int.reduceLE, Int.reduceEq, Int.reduceNe, Int.reduceMul, Int.reduceAdd, Int.reduceSub, Int.reduceNeg, or_self, true_or, or_true, false_or, or_false, Int.natCast_nonneg, Int.toNat_natCast, List.length_map, implies_true, Int.cast_ofNat_Int, List.mem_cons, List.not_mem_nil, forall_eq_or_imp, forall_eq, false_implies, List.replicate_succ, List.replicate_zero, List.set_cons_zero, List.set_cons_succ, List.length_set, Nat.zero_add, Nat.not_succ_le_self, Nat.mul_one, exec_loop, Rst, keys1, keys2, keysB, proms, prom, keepV, freshV, freshC, freshB, liveVer, mpVer, pk, ded, insH, sortH, rnP, rnA, rnM, List.map_nil, St.of, List.map_cons, c7_0, h0, h1, getD_map bkC hx, bkC, h8, hz, List.map_nil]
        exact h7
      · simp -implicitDefEqProofs only [fns_7, c7, body, startSt, pkeys, slots, recvL, recv, noH, finish, resPV, outRs, outR, outC, outCs, outMs, go_sem, Nat.reduceShiftRight, Nat.reduceAnd, reduceIte, reduceCtorEq, Nat.reduceEqDiff, Nat.reduceAdd, Nat.reduceMul, Nat.reduceSub, Nat.reduceLT, Nat.reduceLeDiff, Nat.reduceBEq, Nat.reduceBNe, Int.reduceToNat, Int.reduceLT, Int.reduceLE, Int.reduceEq, Int.reduceNe, Int.reduceMul, Int.reduceAdd, Int.reduceSub, Int.reduceNeg, or_self, true_or, or_true, false_or, or_false, Int.natCast_nonneg, Int.toNat_natCast, List.length_map, implies_true, Int.cast_ofNat_Int, List.mem_cons, List.not_mem_nil, forall_eq_or_imp, forall_eq, false_implies, List.replicate_succ, List.replicate_zero, List.set_cons_zero, List.set_cons_succ, List.length_set, Nat.zero_add, Nat.not_succ_le_self, Nat.mul_one, exec_loop, Rst, keys1, keys2, keysB, proms, prom, keepV, freshV, freshC, freshB, liveVer, mpVer, pk, ded, insH, sortH, rnP, rnA, rnM, List.map_nil, St.of, List.map_cons, c7_0, h0, h1, getD_map bkC hx, bkC, h8, hL, appSl_map _ _ _ _ hz]
        exact h7
    · have e : l.drop i = [] := drop_end (by omega)
      rw [e]
      simp -implicitDefEqProofs only [fns_7, c7, body, startSt, pkeys, slots, recvL, recv, noH, finish, resPV, outRs, outR, outC, outCs, outMs, go_sem, Nat.reduceShiftRight, Nat.reduceAnd, reduceIte, reduceCtorEq, Nat.reduceEqDiff, Nat.reduceAdd, Nat.reduceMul, Nat.reduceSub, Nat.reduceLT, Nat.reduceLeDiff, Nat.reduceBEq, Nat.reduceBNe, Int.reduceToNat, Int.reduceLT, Int.reduceLE, Int.reduceEq, Int.reduceNe, Int.reduceMul, Int.reduceAdd, Int.reduceSub, Int.reduceNeg, or_self, true_or, or_true, false_or, or_false, Int.natCast_nonneg, Int.toNat_natCast, List.length_map, implies_true, Int.cast_ofNat_Int, List.mem_cons, List.not_mem_nil, forall_eq_or_imp, forall_eq, false_implies, List.replicate_succ, List.replicate_zero, List.set_cons_zero, List.set_cons_succ, List.length_set, Nat.zero_add, Nat.not_succ_le_self, Nat.mul_one, exec_loop, Rst, keys1, keys2, keysB, proms, prom, keepV, freshV, freshC, freshB, liveVer, mpVer, pk, ded, insH, sortH, rnP, rnA, rnM, List.map_nil, St.of, List.map_cons, c7_0, h0, h1, allE, List.take_nil, List.flatMap_nil, List.append_nil]
      (first | exact ⟨_, _, rfl⟩ | (refine ⟨_, _, rfl, ?_⟩; first | exact (fun _ => rfl) | exact (fun h => by cases h) | rfl | exact ⟨rfl, rfl⟩ | exact ⟨fun _ => rfl, fun _ => rfl⟩ | exact ⟨rfl, rfl, rfl⟩ | exact ⟨fun _ => rfl, rfl, rfl, rfl⟩ | exact ⟨rfl, rfl, rfl, rfl⟩))
theorem allE_len : ∀ (r : List Blo) (K : Nat), (∀ b ∈ r, b.eps.length ≤ K) → (allE r).length ≤ r.length * K
  | [], K, _ => by simp [allE]
  | b :: r, K, h => by
    have h1 := h b List.mem_cons_self
    have h2 := allE_len r K (fun x hx => h x (List.mem_cons_of_mem _ hx))
    simp only [allE, List.flatMap_cons, List.length_append, List.length_cons, Nat.add_mul, Nat.one_mul] at h2 ⊢
    omega
theorem FewB (ln : Bool) (l : List Blo) (hM : (l.length : Int) ≤ 1048576) (hB : ∀ b ∈ l, b.eps.length ≤ 1048576) (hE : ∀ b ∈ l, Eps b.eps) : Cal cx 7 [.sh ln (l.map bkC)] = some ([.s (.bool (fewB l))], []) := by
  obtain ⟨f, H, g1, g2, g3, g4⟩ := FewBLoop ln l hM hB 20 0 [] rfl (by simp)
  have hl := allE_len (l.take 20) 1048576 (fun b hb => hB b (List.mem_of_mem_take hb))
  have hl2 : (l.take 20).length ≤ 20 := by simp; omega
  have hl3 := Nat.mul_le_mul_right 1048576 hl2
  have h1 := FewE true (allE (l.take 20)) (by omega) (fun e he => by
    obtain ⟨b, hb, he2⟩ := List.mem_flatMap.1 he
    exact hE b (List.mem_of_mem_take hb) e he2)
  simp only [eRow, Int.cast_ofNat_Int, List.drop_zero, List.map_nil, List.length_nil, List.nil_append] at g1 g3 g4
  rw [Cal_eq]
  unfold fewB
  by_cases hc : (l.length : Int) ≤ 12
  · simp -implicitDefEqProofs only [fns_7, c7, body, startSt, pkeys, slots, recvL, recv, noH, finish, resPV, outRs, outR, outC, outCs, outMs, go_sem, Nat.reduceShiftRight, Nat.reduceAnd, reduceIte, reduceCtorEq, Nat.reduceEqDiff, Nat.reduceAdd, Nat.reduceMul, Nat.reduceSub, Nat.reduceLT, Nat.reduceLeDiff, Nat.reduceBEq, Nat.reduceBNe, Int.reduceToNat, Int.reduceLT, Int.reduceLE, Int.reduceEq, Int.reduceNe, Int.reduceMul, Int.reduceAdd, Int.reduceSub, Int.reduceNeg, or_self, true_or, or_true, false_or, or_false, Int.natCast_nonneg, Int.toNat_natCast, List.length_map, implies_true, Int.cast_ofNat_Int, List.mem_cons, List.not_mem_nil, forall_eq_or_imp, forall_eq, false_implies, List.replicate_succ, List.replicate_zero, List.set_cons_zero, List.set_cons_succ, List.length_set, Nat.zero_add, Nat.not_succ_le_self, Nat.mul_one, exec_loop, Rst, keys1, keys2, keysB, proms, prom, keepV, freshV, freshC, freshB, liveVer, mpVer, pk, ded, insH, sortH, rnP, rnA, rnM, List.map_nil, St.of, List.map_cons, g1, g2, g3, g4, h1, hc]
  · simp -implicitDefEqProofs only [fns_7, c7, body, startSt, pkeys, slots, recvL, recv, noH, finish, resPV, outRs, outR, outC, outCs, outMs, go_sem, Nat.reduceShiftRight, Nat.reduceAnd, reduceIte, reduceCtorEq, Nat.reduceEqDiff, Nat.reduceAdd, Nat.reduceMul, Nat.reduceSub, Nat.reduceLT, Nat.reduceLeDiff, Nat.reduceBEq, Nat.reduceBNe, Int.reduceToNat, Int.reduceLT, Int.reduceLE, Int.reduceEq, Int.reduceNe, Int.reduceMul, Int.reduceAdd, Int.reduceSub, Int.reduceNeg, or_self, true_or, or_true, false_or, or_false, Int.natCast_nonneg, Int.toNat_natCast, List.length_map, implies_true, Int.cast_ofNat_Int, List.mem_cons, List.not_mem_nil, forall_eq_or_imp, forall_eq, false_implies, List.replicate_succ, List.replicate_zero, List.set_cons_zero, List.set_cons_succ, List.length_set, Nat.zero_add, Nat.not_succ_le_self, Nat.mul_one, exec_loop, Rst, keys1, keys2, keysB, proms, prom, keepV, freshV, freshC, freshB, liveVer, mpVer, pk, ded, insH, sortH, rnP, rnA, rnM, List.map_nil, St.of, List.map_cons, g1, g2, g3, g4, h1, hc]
/-! What is few is short. -/
theorem vput_len : ∀ (k n : Nat), n < 128 ^ (k + 1) → (vput n).length ≤ k + 1
  | 0, n, h => by rw [vput_lt (by simpa using h)]; simp
  | k + 1, n, h => by
    by_cases hn : n < 128
    · rw [vput_lt hn]; simp
    · rw [vput_ge hn]
      have := vput_len k (n / 128) (by rw [Nat.pow_succ] at h; exact Nat.div_lt_of_lt_mul (by rw [Nat.mul_comm]; exact h))
      simp only [List.length_cons]
      omega
theorem vput10 {n : Nat} (h : n < 18446744073709551616) : (vput n).length ≤ 10 := vput_len 9 n (Nat.lt_of_lt_of_le h (by decide))
def I64 (n : Int) : Prop := -9223372036854775808 ≤ n ∧ n ≤ 9223372036854775807
def RgT (t : Trc) : Prop := t.hi < 18446744073709551616 ∧ t.lo < 18446744073709551616
structure RgS (s : Spn) : Prop where
  tr : RgT s.tr
  id : s.id < 18446744073709551616
  parent : s.parent < 18446744073709551616
  start : I64 s.start
  dur : I64 s.dur
structure RgE (e : Epi) : Prop where
  tr : RgT e.tr
  first : I64 e.first
  last : I64 e.last
  spans : ∀ s ∈ e.spans, RgS s
structure RgB (b : Blo) : Prop where
  number : I64 b.number
  born : I64 b.born
  tier : I64 b.tier
  eps : ∀ e ∈ b.eps, RgE e
theorem flat_len {α : Type} (f : α → List Int) (K : Nat) : ∀ (l : List α), (∀ x ∈ l, (f x).length ≤ K) → (l.flatMap f).length ≤ l.length * K
  | [], _ => by simp
  | x :: l, h => by
    have h1 := h x List.mem_cons_self
    have h2 := flat_len f K l (fun y hy => h y (List.mem_cons_of_mem _ hy))
    simp only [List.flatMap_cons, List.length_append, List.length_cons, Nat.add_mul, Nat.one_mul]
    omega
theorem tput_len {s : ByteArray} (h : (s.size : Int) ≤ 100) : (tput s).length ≤ 110 := by
  unfold tput
  have := vput10 (n := s.size) (by omega)
  rw [List.length_append, strI_len]
  omega
theorem vnum {n : Int} (h : I64 n) : (vput n.toNat).length ≤ 10 := vput10 (by have := h.2; omega)
theorem spB_len {s : Spn} (hR : RgS s) (hF : fewS s = true) : (spB s).length ≤ 4700 := by
  unfold fewS at hF
  simp only [Bool.and_eq_true, decide_eq_true_eq] at hF
  obtain ⟨⟨⟨h1, h2⟩, h3⟩, h4⟩ := hF
  have a1 := vput10 hR.tr.1
  have a2 := vput10 hR.tr.2
  have a3 := vput10 hR.id
  have a4 := vput10 hR.parent
  have a5 := tput_len h1
  have a6 := tput_len h2
  have a7 := vnum hR.start
  have a8 := vnum hR.dur
  have a9 := vput10 (n := bitN s.err) (by unfold bitN; split <;> decide)
  have a10 := vput10 (n := s.attrs.length) (by omega)
  have a11 := flat_len atB 220 s.attrs (fun a ha => by
    have := List.all_eq_true.1 h4 a ha
    unfold fewA at this
    simp only [Bool.and_eq_true, decide_eq_true_eq] at this
    have b1 := tput_len this.1
    have b2 := tput_len this.2
    unfold atB
    rw [List.length_append]
    omega)
  have a12 : s.attrs.length * 220 ≤ 20 * 220 := Nat.mul_le_mul_right 220 (by omega)
  unfold spB atsB
  simp only [List.length_append]
  omega
theorem epB_len {e : Epi} (hR : RgE e) (hF : fewAll e.spans = true) : (epB e).length ≤ 282040 := by
  unfold fewAll at hF
  simp only [Bool.and_eq_true, decide_eq_true_eq] at hF
  have a1 := vnum hR.first
  have a2 := vnum hR.last
  have a3 := vput10 (n := bitN e.sure) (by unfold bitN; split <;> decide)
  have a4 := vput10 (n := e.spans.length) (by omega)
  have a5 := flat_len spB 4700 e.spans (fun s hs => spB_len (hR.spans s hs) (List.all_eq_true.1 hF.2 s hs))
  have a6 : e.spans.length * 4700 ≤ 60 * 4700 := Nat.mul_le_mul_right 4700 (by omega)
  unfold epB spsB
  simp only [List.length_append]
  omega
theorem fewE_all : ∀ (l : List Epi) (n : Int), 0 ≤ n → fewE l n = true → (l.length : Int) + n ≤ 120 ∧ ∀ e ∈ l, fewAll e.spans = true
  | [], n, h0, h => by
    unfold fewE at h
    simp at h
    exact ⟨by simp; omega, fun e he => by cases he⟩
  | e :: l, n, h0, h => by
    unfold fewE at h
    split at h
    · simp only [Bool.and_eq_true] at h
      have := fewE_all l _ (by omega) h.2
      refine ⟨by simp only [List.length_cons]; omega, fun x hx => ?_⟩
      rcases List.mem_cons.1 hx with rfl | hx
      · exact h.1
      · exact this.2 x hx
    · cases h
theorem fit_of {b : Blo} (hR : RgB b) (hl : b.eps.length ≤ 120) (hF : ∀ e ∈ b.eps, fewAll e.spans = true) : Fit b := by
  have hsp : ∀ e ∈ b.eps, e.spans.length ≤ 60 := fun e he => by
    have := hF e he
    unfold fewAll at this
    simp only [Bool.and_eq_true, decide_eq_true_eq] at this
    omega
  have hat : ∀ e ∈ b.eps, ∀ s ∈ e.spans, s.attrs.length ≤ 20 := fun e he s hs => by
    have := hF e he
    unfold fewAll at this
    simp only [Bool.and_eq_true] at this
    have := List.all_eq_true.1 this.2 s hs
    unfold fewS at this
    simp only [Bool.and_eq_true, decide_eq_true_eq] at this
    omega
  have a1 := vnum hR.number
  have a2 := vnum hR.born
  have a3 := vnum hR.tier
  have a4 := vput10 (n := b.eps.length) (by omega)
  have a5 := flat_len idxB 30 b.eps (fun e he => by
    have b1 := vput10 (hR.eps e he).tr.1
    have b2 := vput10 (hR.eps e he).tr.2
    have b3 := epB_len (hR.eps e he) (hF e he)
    have b4 := vput10 (n := (epB e).length) (by omega)
    unfold idxB trB
    simp only [List.length_append]
    omega)
  have a6 := flat_len epB 282040 b.eps (fun e he => epB_len (hR.eps e he) (hF e he))
  have a7 : b.eps.length * 30 ≤ 120 * 30 := Nat.mul_le_mul_right 30 hl
  have a8 : b.eps.length * 282040 ≤ 120 * 282040 := Nat.mul_le_mul_right 282040 hl
  refine ⟨by omega, fun e he => ⟨by have := hsp e he; omega, fun s hs => by have := hat e he s hs; omega⟩, ?_⟩
  unfold sealB bkBody nums idxsB epsB sum4
  simp only [List.length_append, List.flatMap_cons, List.flatMap_nil, List.length_nil, List.length_cons, Int.toNat_natCast]
  omega
theorem fit_few {l : List Blo} (hR : ∀ b ∈ l, RgB b) (hF : fewB l = true) : ∀ b ∈ l, Fit b := by
  unfold fewB at hF
  simp only [Bool.and_eq_true, decide_eq_true_eq] at hF
  have e : l.take 20 = l := List.take_of_length_le (by omega)
  rw [e] at hF
  obtain ⟨h1, h2⟩ := fewE_all _ 0 (by omega) hF.2
  intro b hb
  refine fit_of (hR b hb) ?_ (fun e he => h2 e (List.mem_flatMap.2 ⟨b, hb, he⟩))
  have key : ∀ (r : List Blo), b ∈ r → b.eps.length ≤ (allE r).length := by
    intro r
    induction r with
    | nil => intro h; cases h
    | cons c r ih =>
      intro h
      simp only [allE, List.flatMap_cons, List.length_append]
      rcases List.mem_cons.1 h with rfl | h
      · omega
      · have := ih h
        unfold allE at this
        omega
  have := key l hb
  omega
theorem fit_bare {a b c : Int} (h1 : I64 a) (h2 : I64 b) (h3 : I64 c) : Fit ⟨a, b, c, []⟩ := fit_of ⟨h1, h2, h3, fun e he => by cases he⟩ (by simp) (fun e he => by cases he)
theorem lessI_sub {a b : Int} (ha : 0 ≤ a) (ha2 : a ≤ 1099511627776) (hb : 0 ≤ b) (hb2 : b ≤ 1099511627776) : lessI a b = a - b := by
  have w : IntKind.i64.wrap (a - b) = a - b := by rw [wrap64_id] <;> omega
  unfold lessI
  rw [w, if_neg (by omega), if_neg (by omega)]
theorem alive : Cal cx 6 [] = some ([.s (.bool true)], []) := by
  have h1 := Choose true [⟨7, 0, 0, []⟩, ⟨8, 9, 0, []⟩] 10 5 1000 (fun b hb => by
    simp only [List.mem_cons, List.not_mem_nil, or_false] at hb
    rcases hb with rfl | rfl
    · exact fit_bare ⟨by decide, by decide⟩ ⟨by decide, by decide⟩ ⟨by decide, by decide⟩
    · exact fit_bare ⟨by decide, by decide⟩ ⟨by decide, by decide⟩ ⟨by decide, by decide⟩) (by simp)
  have h2 := Choose false [] 0 0 0 (fun b hb => by cases hb) (by simp)
  have e0 : lessI 10 0 = 10 := by decide
  have e9 : lessI 10 9 = 1 := by decide
  have e1 : choose [⟨7, 0, 0, []⟩, ⟨8, 9, 0, []⟩] 10 5 1000 = [7] := by
    simp [choose, young, old, e0, e9, evict]
  have e2 : choose [] 0 0 0 = [] := by simp [choose, young, evict]
  rw [e1] at h1
  rw [e2] at h2
  simp only [List.map_cons, List.map_nil, bkC, iC] at h1 h2
  rw [Cal_eq]
  simp -implicitDefEqProofs only [fns_6, c6, body, startSt, pkeys, slots, recvL, recv, noH, finish, resPV, outRs, outR, outC, outCs, outMs, go_sem, Nat.reduceShiftRight, Nat.reduceAnd, reduceIte, reduceCtorEq, Nat.reduceEqDiff, Nat.reduceAdd, Nat.reduceMul, Nat.reduceSub, Nat.reduceLT, Nat.reduceLeDiff, Nat.reduceBEq, Nat.reduceBNe, Int.reduceToNat, Int.reduceLT, Int.reduceLE, Int.reduceEq, Int.reduceNe, Int.reduceMul, Int.reduceAdd, Int.reduceSub, Int.reduceNeg, or_self, true_or, or_true, false_or, or_false, Int.natCast_nonneg, Int.toNat_natCast, List.length_map, implies_true, Int.cast_ofNat_Int, List.mem_cons, List.not_mem_nil, forall_eq_or_imp, forall_eq, false_implies, List.replicate_succ, List.replicate_zero, List.set_cons_zero, List.set_cons_succ, List.length_set, Nat.zero_add, Nat.not_succ_le_self, Nat.mul_one, exec_loop, Rst, keys1, keys2, keysB, proms, prom, keepV, freshV, freshC, freshB, liveVer, mpVer, pk, ded, insH, sortH, rnP, rnA, rnM, List.map_nil, St.of, List.map_cons, h1, h2]
end Go.Proofs.Ytpfjchnpkolmkaa
