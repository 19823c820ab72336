/- Who goes: the program. Own work. -/
import Derived.Test.YtpfjchnpkolmkaaRblockp
set_option linter.unusedVariables false
set_option linter.unusedSimpArgs false
namespace Go.Proofs.Ytpfjchnpkolmkaa
open Go Go.Pi
set_option maxHeartbeats 2000000
set_option maxRecDepth 10000
/-- A block that can be written. -/
structure Fit (b : Blo) : Prop where
  len : (b.eps.length : Int) ≤ 9223372036854775807
  eps : Eps b.eps
  size : (sealB (bkBody b)).length ≤ 1099511627776
def sz (b : Blo) : Int := ((bkB b).length : Int)
theorem sz_nonneg (b : Blo) : 0 ≤ sz b := by unfold sz; omega
theorem sz_le {b : Blo} (h : Fit b) : sz b ≤ 1099511627776 := by
  unfold sz bkB
  have := h.size
  split
  · omega
  · simp
def total : List Blo → Int
  | [] => 0
  | b :: l => sz b + total l
theorem total_nonneg : ∀ l : List Blo, 0 ≤ total l
  | [] => Int.le_refl _
  | b :: l => by have := sz_nonneg b; have := total_nonneg l; unfold total; omega
theorem total_le : ∀ l : List Blo, (∀ b ∈ l, Fit b) → total l ≤ (l.length : Int) * 1099511627776
  | [], _ => by simp [total]
  | b :: l, h => by
    have h1 := sz_le (h b List.mem_cons_self)
    have h2 := total_le l (fun x hx => h x (List.mem_cons_of_mem _ hx))
    unfold total
    simp only [List.length_cons]
    omega
theorem total_append : ∀ (l r : List Blo), total (l ++ r) = total l + total r
  | [], r => by simp [total]
  | b :: l, r => by simp only [List.cons_append, total, total_append l r]; omega
def lessI (a b : Int) : Int := if 0 < b ∧ a < IntKind.i64.wrap (a - b) then -9223372036854775808 else if b < 0 ∧ IntKind.i64.wrap (a - b) < a then 9223372036854775807 else IntKind.i64.wrap (a - b)
theorem Less (a b : Int) : Cal cx 12 [.s (.int .i64 a), .s (.int .i64 b)] = some ([.s (.int .i64 (lessI a b))], []) := by
  rw [Cal_eq]
  unfold lessI
  by_cases h1 : 0 < b
  · have h3 : ¬ b < 0 := by omega
    by_cases h2 : a < IntKind.i64.wrap (a - b)
    · simp -implicitDefEqProofs only [fns_12, c12, body, startSt, pkeys, slots, recvL, recv, noH, finish, resPV, outRs, outR, outC, outCs, outMs, go_sem, Nat.reduceShiftRight, Nat.reduceAnd, reduceIte, reduceCtorEq, Nat.reduceEqDiff, Nat.reduceAdd, Nat.reduceMul, Nat.reduceSub, Nat.reduceLT, Nat.reduceLeDiff, Nat.reduceBEq, Nat.reduceBNe, Int.reduceToNat, Int.reduceLT, Int.reduceLE, Int.reduceEq, Int.reduceNe, Int.reduceMul, Int.reduceAdd, Int.reduceSub, Int.reduceNeg, or_self, true_or, or_true, false_or, or_false, Int.natCast_nonneg, Int.toNat_natCast, List.length_map, implies_true, Int.cast_ofNat_Int, List.mem_cons, List.not_mem_nil, forall_eq_or_imp, forall_eq, false_implies, List.replicate_succ, List.replicate_zero, List.set_cons_zero, List.set_cons_succ, List.length_set, Nat.zero_add, Nat.not_succ_le_self, Nat.mul_one, exec_loop, Rst, keys1, keys2, keysB, proms, prom, keepV, freshV, freshC, freshB, liveVer, mpVer, pk, ded, insH, sortH, rnP, rnA, rnM, List.map_nil, St.of, List.map_cons, h1, h2, h3]
    · simp -implicitDefEqProofs only [fns_12, c12, body, startSt, pkeys, slots, recvL, recv, noH, finish, resPV, outRs, outR, outC, outCs, outMs, go_sem, Nat.reduceShiftRight, Nat.reduceAnd, reduceIte, reduceCtorEq, Nat.reduceEqDiff, Nat.reduceAdd, Nat.reduceMul, Nat.reduceSub, Nat.reduceLT, Nat.reduceLeDiff, Nat.reduceBEq, Nat.reduceBNe, Int.reduceToNat, Int.reduceLT, Int.reduceLE, Int.reduceEq, Int.reduceNe, Int.reduceMul, Int.reduceAdd, Int.reduceSub, Int.reduceNeg, or_self, true_or, or_true, false_or, or_false, Int.natCast_nonneg, Int.toNat_natCast, List.length_map, implies_true, Int.cast_ofNat_Int, List.mem_cons, List.not_mem_nil, forall_eq_or_imp, forall_eq, false_implies, List.replicate_succ, List.replicate_zero, List.set_cons_zero, List.set_cons_succ, List.length_set, Nat.zero_add, Nat.not_succ_le_self, Nat.mul_one, exec_loop, Rst, keys1, keys2, keysB, proms, prom, keepV, freshV, freshC, freshB, liveVer, mpVer, pk, ded, insH, sortH, rnP, rnA, rnM, List.map_nil, St.of, List.map_cons, h1, h2, h3]
  · by_cases h3 : b < 0
    · by_cases h4 : IntKind.i64.wrap (a - b) < a
      · simp -implicitDefEqProofs only [fns_12, c12, body, startSt, pkeys, slots, recvL, recv, noH, finish, resPV, outRs, outR, outC, outCs, outMs, go_sem, Nat.reduceShiftRight, Nat.reduceAnd, reduceIte, reduceCtorEq, Nat.reduceEqDiff, Nat.reduceAdd, Nat.reduceMul, Nat.reduceSub, Nat.reduceLT, Nat.reduceLeDiff, Nat.reduceBEq, Nat.reduceBNe, Int.reduceToNat, Int.reduceLT, Int.reduceLE, Int.reduceEq, Int.reduceNe, Int.reduceMul, Int.reduceAdd, Int.reduceSub, Int.reduceNeg, or_self, true_or, or_true, false_or, or_false, Int.natCast_nonneg, Int.toNat_natCast, List.length_map, implies_true, Int.cast_ofNat_Int, List.mem_cons, List.not_mem_nil, forall_eq_or_imp, forall_eq, false_implies, List.replicate_succ, List.replicate_zero, List.set_cons_zero, List.set_cons_succ, List.length_set, Nat.zero_add, Nat.not_succ_le_self, Nat.mul_one, exec_loop, Rst, keys1, keys2, keysB, proms, prom, keepV, freshV, freshC, freshB, liveVer, mpVer, pk, ded, insH, sortH, rnP, rnA, rnM, List.map_nil, St.of, List.map_cons, h1, h3, h4]
      · simp -implicitDefEqProofs only [fns_12, c12, body, startSt, pkeys, slots, recvL, recv, noH, finish, resPV, outRs, outR, outC, outCs, outMs, go_sem, Nat.reduceShiftRight, Nat.reduceAnd, reduceIte, reduceCtorEq, Nat.reduceEqDiff, Nat.reduceAdd, Nat.reduceMul, Nat.reduceSub, Nat.reduceLT, Nat.reduceLeDiff, Nat.reduceBEq, Nat.reduceBNe, Int.reduceToNat, Int.reduceLT, Int.reduceLE, Int.reduceEq, Int.reduceNe, Int.reduceMul, Int.reduceAdd, Int.reduceSub, Int.reduceNeg, or_self, true_or, or_true, false_or, or_false, Int.natCast_nonneg, Int.toNat_natCast, List.length_map, implies_true, Int.cast_ofNat_Int, List.mem_cons, List.not_mem_nil, forall_eq_or_imp, forall_eq, false_implies, List.replicate_succ, List.replicate_zero, List.set_cons_zero, List.set_cons_succ, List.length_set, Nat.zero_add, Nat.not_succ_le_self, Nat.mul_one, exec_loop, Rst, keys1, keys2, keysB, proms, prom, keepV, freshV, freshC, freshB, liveVer, mpVer, pk, ded, insH, sortH, rnP, rnA, rnM, List.map_nil, St.of, List.map_cons, h1, h3, h4]
    · simp -implicitDefEqProofs only [fns_12, c12, body, startSt, pkeys, slots, recvL, recv, noH, finish, resPV, outRs, outR, outC, outCs, outMs, go_sem, Nat.reduceShiftRight, Nat.reduceAnd, reduceIte, reduceCtorEq, Nat.reduceEqDiff, Nat.reduceAdd, Nat.reduceMul, Nat.reduceSub, Nat.reduceLT, Nat.reduceLeDiff, Nat.reduceBEq, Nat.reduceBNe, Int.reduceToNat, Int.reduceLT, Int.reduceLE, Int.reduceEq, Int.reduceNe, Int.reduceMul, Int.reduceAdd, Int.reduceSub, Int.reduceNeg, or_self, true_or, or_true, false_or, or_false, Int.natCast_nonneg, Int.toNat_natCast, List.length_map, implies_true, Int.cast_ofNat_Int, List.mem_cons, List.not_mem_nil, forall_eq_or_imp, forall_eq, false_implies, List.replicate_succ, List.replicate_zero, List.set_cons_zero, List.set_cons_succ, List.length_set, Nat.zero_add, Nat.not_succ_le_self, Nat.mul_one, exec_loop, Rst, keys1, keys2, keysB, proms, prom, keepV, freshV, freshC, freshB, liveVer, mpVer, pk, ded, insH, sortH, rnP, rnA, rnM, List.map_nil, St.of, List.map_cons, h1, h3]
theorem TotalLoop (ln : Bool) (l : List Blo) (hFt : ∀ b ∈ l, Fit b) (hM : (l.length : Int) ≤ 1000000) : ∀ (n i : Nat) (t : Int), i + n = l.length → t = total (l.take i) →
   ∃ f H, Pi.Loop (exec cx (Cal cx) c13_0) (Rst Try.prog ([(3, none), (6, none), (7, none), (8, none)], [])) (St.mk (sF [(3, .s (.int .i64 t)), (6, .sh ln (l.map bkC)), (7, .s (.int .i64 l.length)), (8, .s (.int .i64 i))]) (hF [])) = some (.ex 0, St.mk f H) ∧ f 3 = .s (.int .i64 (total l)) := by
  intro n
  induction n with
  | zero =>
    intro i t h ht
    have h0 : ¬ (i : Int) < (l.length : Int) := by omega
    have h1 : l.take i = l := List.take_of_length_le (by omega)
    rw [h1] at ht
    rw [Loop_eq]
    simp -implicitDefEqProofs only [fns_13, c13, body, startSt, pkeys, slots, recvL, recv, noH, finish, resPV, outRs, outR, outC, outCs, outMs, go_sem, Nat.reduceShiftRight, Nat.reduceAnd, reduceIte, reduceCtorEq, Nat.reduceEqDiff, Nat.reduceAdd, Nat.reduceMul, Nat.reduceSub, Nat.reduceLT, Nat.reduceLeDiff, Nat.reduceBEq, Nat.reduceBNe, Int.reduceToNat, Int.reduceLT, Int.reduceLE, Int.reduceEq, Int.reduceNe, Int.reduceMul, Int.reduceAdd, Int.reduceSub, Int.reduceNeg, or_self, true_or, or_true, false_or, or_false, Int.natCast_nonneg, Int.toNat_natCast, List.length_map, implies_true, Int.cast_ofNat_Int, List.mem_cons, List.not_mem_nil, forall_eq_or_imp, forall_eq, false_implies, List.replicate_succ, List.replicate_zero, List.set_cons_zero, List.set_cons_succ, List.length_set, Nat.zero_add, Nat.not_succ_le_self, Nat.mul_one, exec_loop, Rst, keys1, keys2, keysB, proms, prom, keepV, freshV, freshC, freshB, liveVer, mpVer, pk, ded, insH, sortH, rnP, rnA, rnM, List.map_nil, St.of, List.map_cons, c13_0, h0, ht]
    exact ⟨_, _, rfl, rfl⟩
  | succ n ih =>
    intro i t h ht
    have h0 : (i : Int) < (l.length : Int) := by omega
    obtain ⟨x, hx⟩ := get_of_lt (l := l) (i := i) (by omega)
    have h8 : IntKind.i64.wrap ((i : Int) + 1) = ((i + 1 : Nat) : Int) := by rw [wrap64_id] <;> omega
    have hf := hFt x (mem_get hx)
    have h1 := Size x hf.len hf.eps (by have := hf.size; omega)
    have e1 : total (l.take (i + 1)) = t + sz x := by rw [take_get hx, total_append, ht]; simp [total]
    have b1 := total_nonneg (l.take i)
    have b2 := total_le (l.take i) (fun b hb => hFt b (List.mem_of_mem_take hb))
    have b3 := sz_nonneg x
    have b4 := sz_le hf
    have b5 : ((l.take i).length : Int) ≤ 1000000 := by simp; omega
    have h2 : IntKind.i64.wrap (t + ((bkB x).length : Int)) = t + sz x := by
      show IntKind.i64.wrap (t + sz x) = _
      rw [wrap64_id] <;> omega
    have h7 := ih (i + 1) (t + sz x) (by omega) e1.symm
    simp only [bkC] at h1
    rw [Loop_eq]
    simp -implicitDefEqProofs only [fns_13, c13, body, startSt, pkeys, slots, recvL, recv, noH, finish, resPV, outRs, outR, outC, outCs, outMs, go_sem, Nat.reduceShiftRight, Nat.reduceAnd, reduceIte, reduceCtorEq, Nat.reduceEqDiff, Nat.reduceAdd, Nat.reduceMul, Nat.reduceSub, Nat.reduceLT, Nat.reduceLeDiff, Nat.reduceBEq, Nat.reduceBNe, Int.reduceToNat, Int.reduceLT, Int.reduceLE, Int.reduceEq, Int.reduceNe, Int.reduceMul, Int.reduceAdd, Int.reduceSub, Int.reduceNeg, or_self, true_or, or_true, false_or, or_false, Int.natCast_nonneg, Int.toNat_natCast, List.length_map, implies_true, Int.cast_ofNat_Int, List.mem_cons, List.not_mem_nil, forall_eq_or_imp, forall_eq, false_implies, List.replicate_succ, List.replicate_zero, List.set_cons_zero, List.set_cons_succ, List.length_set, Nat.zero_add, Nat.not_succ_le_self, Nat.mul_one, exec_loop, Rst, keys1, keys2, keysB, proms, prom, keepV, freshV, freshC, freshB, liveVer, mpVer, pk, ded, insH, sortH, rnP, rnA, rnM, List.map_nil, St.of, List.map_cons, c13_0, h0, getD_map bkC hx, bkC, h1, h2, h8]
    exact h7
theorem Total (ln : Bool) (l : List Blo) (hFt : ∀ b ∈ l, Fit b) (hM : (l.length : Int) ≤ 1000000) : Cal cx 13 [.sh ln (l.map bkC)] = some ([.s (.int .i64 (total l))], []) := by
  obtain ⟨f, H, h1, h2⟩ := TotalLoop ln l hFt hM l.length 0 0 (by omega) (by simp [total])
  simp only [Int.cast_ofNat_Int] at h1
  rw [Cal_eq]
  simp -implicitDefEqProofs only [fns_13, c13, body, startSt, pkeys, slots, recvL, recv, noH, finish, resPV, outRs, outR, outC, outCs, outMs, go_sem, Nat.reduceShiftRight, Nat.reduceAnd, reduceIte, reduceCtorEq, Nat.reduceEqDiff, Nat.reduceAdd, Nat.reduceMul, Nat.reduceSub, Nat.reduceLT, Nat.reduceLeDiff, Nat.reduceBEq, Nat.reduceBNe, Int.reduceToNat, Int.reduceLT, Int.reduceLE, Int.reduceEq, Int.reduceNe, Int.reduceMul, Int.reduceAdd, Int.reduceSub, Int.reduceNeg, or_self, true_or, or_true, false_or, or_false, Int.natCast_nonneg, Int.toNat_natCast, List.length_map, implies_true, Int.cast_ofNat_Int, List.mem_cons, List.not_mem_nil, forall_eq_or_imp, forall_eq, false_implies, List.replicate_succ, List.replicate_zero, List.set_cons_zero, List.set_cons_succ, List.length_set, Nat.zero_add, Nat.not_succ_le_self, Nat.mul_one, exec_loop, Rst, keys1, keys2, keysB, proms, prom, keepV, freshV, freshC, freshB, liveVer, mpVer, pk, ded, insH, sortH, rnP, rnA, rnM, List.map_nil, St.of, List.map_cons, h1, h2]
theorem TotalRLoop (ln : Bool) (l : List Blo) (hFt : ∀ b ∈ l, Fit b) (hM : (l.length : Int) ≤ 1000000) : ∀ (n i : Nat) (t : Int), i + n = l.length → t = total (l.take i) →
   ∃ f H, Pi.Loop (exec cx (Cal cx) c9_0) (Rst Try.prog ([(0, none), (3, none), (4, none)], [])) (St.mk (sF [(0, .sh ln (l.map bkC)), (3, .s (.int .i64 t)), (4, .s (.int .i64 i))]) (hF [])) = some (.ex 0, St.mk f H) ∧ f 3 = .s (.int .i64 (total l)) := by
  intro n
  induction n with
  | zero =>
    intro i t h ht
    have h0 : ¬ (i : Int) < (l.length : Int) := by omega
    have h1 : l.take i = l := List.take_of_length_le (by omega)
    rw [h1] at ht
    rw [Loop_eq]
    simp -implicitDefEqProofs only [fns_9, c9, body, startSt, pkeys, slots, recvL, recv, noH, finish, resPV, outRs, outR, outC, outCs, outMs, go_sem, Nat.reduceShiftRight, Nat.reduceAnd, reduceIte, reduceCtorEq, Nat.reduceEqDiff, Nat.reduceAdd, Nat.reduceMul, Nat.reduceSub, Nat.reduceLT, Nat.reduceLeDiff, Nat.reduceBEq, Nat.reduceBNe, Int.reduceToNat, Int.reduceLT, Int.reduceLE, Int.reduceEq, Int.reduceNe, Int.reduceMul, Int.reduceAdd, Int.reduceSub, Int.reduceNeg, or_self, true_or, or_true, false_or, or_false, Int.natCast_nonneg, Int.toNat_natCast, List.length_map, implies_true, Int.cast_ofNat_Int, List.mem_cons, List.not_mem_nil, forall_eq_or_imp, forall_eq, false_implies, List.replicate_succ, List.replicate_zero, List.set_cons_zero, List.set_cons_succ, List.length_set, Nat.zero_add, Nat.not_succ_le_self, Nat.mul_one, exec_loop, Rst, keys1, keys2, keysB, proms, prom, keepV, freshV, freshC, freshB, liveVer, mpVer, pk, ded, insH, sortH, rnP, rnA, rnM, List.map_nil, St.of, List.map_cons, c9_0, h0, ht]
    exact ⟨_, _, rfl, rfl⟩
  | succ n ih =>
    intro i t h ht
    have h0 : (i : Int) < (l.length : Int) := by omega
    obtain ⟨x, hx⟩ := get_of_lt (l := l) (i := i) (by omega)
    have h8 : IntKind.i64.wrap ((i : Int) + 1) = ((i + 1 : Nat) : Int) := by rw [wrap64_id] <;> omega
    have hf := hFt x (mem_get hx)
    have h1 := BlockBytes x hf.len hf.eps (by have := hf.size; omega)
    have e1 : total (l.take (i + 1)) = t + sz x := by rw [take_get hx, total_append, ht]; simp [total]
    have b1 := total_nonneg (l.take i)
    have b2 := total_le (l.take i) (fun b hb => hFt b (List.mem_of_mem_take hb))
    have b3 := sz_nonneg x
    have b4 := sz_le hf
    have b5 : ((l.take i).length : Int) ≤ 1000000 := by simp; omega
    have h2 : IntKind.i64.wrap (t + ((bkB x).length : Int)) = t + sz x := by
      show IntKind.i64.wrap (t + sz x) = _
      rw [wrap64_id] <;> omega
    have h7 := ih (i + 1) (t + sz x) (by omega) e1.symm
    simp only [bkC] at h1
    rw [Loop_eq]
    simp -implicitDefEqProofs only [fns_9, c9, body, startSt, pkeys, slots, recvL, recv, noH, finish, resPV, outRs, outR, outC, outCs, outMs, go_sem, Nat.reduceShiftRight, Nat.reduceAnd, reduceIte, reduceCtorEq, Nat.reduceEqDiff, Nat.reduceAdd, Nat.reduceMul, Nat.reduceSub, Nat.reduceLT, Nat.reduceLeDiff, Nat.reduceBEq, Nat.reduceBNe, Int.reduceToNat, Int.reduceLT, Int.reduceLE, Int.reduceEq, Int.reduceNe, Int.reduceMul, Int.reduceAdd, Int.reduceSub, Int.reduceNeg, or_self, true_or, or_true, false_or, or_false, Int.natCast_nonneg, Int.toNat_natCast, List.length_map, implies_true, Int.cast_ofNat_Int, List.mem_cons, List.not_mem_nil, forall_eq_or_imp, forall_eq, false_implies, List.replicate_succ, List.replicate_zero, List.set_cons_zero, List.set_cons_succ, List.length_set, Nat.zero_add, Nat.not_succ_le_self, Nat.mul_one, exec_loop, Rst, keys1, keys2, keysB, proms, prom, keepV, freshV, freshC, freshB, liveVer, mpVer, pk, ded, insH, sortH, rnP, rnA, rnM, List.map_nil, St.of, List.map_cons, c9_0, h0, getD_map bkC hx, bkC, h1, h2, h8]
    exact h7
theorem TotalR (ln : Bool) (l : List Blo) (hFt : ∀ b ∈ l, Fit b) (hM : (l.length : Int) ≤ 1000000) : Cal cx 9 [.sh ln (l.map bkC)] = some ([.s (.int .i64 (total l))], []) := by
  obtain ⟨f, H, h1, h2⟩ := TotalRLoop ln l hFt hM l.length 0 0 (by omega) (by simp [total])
  simp only [Int.cast_ofNat_Int] at h1
  rw [Cal_eq]
  simp -implicitDefEqProofs only [fns_9, c9, body, startSt, pkeys, slots, recvL, recv, noH, finish, resPV, outRs, outR, outC, outCs, outMs, go_sem, Nat.reduceShiftRight, Nat.reduceAnd, reduceIte, reduceCtorEq, Nat.reduceEqDiff, Nat.reduceAdd, Nat.reduceMul, Nat.reduceSub, Nat.reduceLT, Nat.reduceLeDiff, Nat.reduceBEq, Nat.reduceBNe, Int.reduceToNat, Int.reduceLT, Int.reduceLE, Int.reduceEq, Int.reduceNe, Int.reduceMul, Int.reduceAdd, Int.reduceSub, Int.reduceNeg, or_self, true_or, or_true, false_or, or_false, Int.natCast_nonneg, Int.toNat_natCast, List.length_map, implies_true, Int.cast_ofNat_Int, List.mem_cons, List.not_mem_nil, forall_eq_or_imp, forall_eq, false_implies, List.replicate_succ, List.replicate_zero, List.set_cons_zero, List.set_cons_succ, List.length_set, Nat.zero_add, Nat.not_succ_le_self, Nat.mul_one, exec_loop, Rst, keys1, keys2, keysB, proms, prom, keepV, freshV, freshC, freshB, liveVer, mpVer, pk, ded, insH, sortH, rnP, rnA, rnM, List.map_nil, St.of, List.map_cons, h1, h2]
theorem rows_sub {α : Type} (f : α → List PV) (l : List α) (a b k : Nat) (h : ∀ x ∈ l, (f x).length = k) : ∀ r ∈ List.take a (List.drop b (l.map f)), r.length = k := by
  intro r hr
  obtain ⟨x, hx, rfl⟩ := List.mem_map.1 (List.mem_of_mem_drop (List.mem_of_mem_take hr))
  exact h x hx
theorem Delete (l : List Blo) (i : Nat) (hi : i < l.length) (hM : (l.length : Int) ≤ 1000000) : Cal cx 15 [.ow 27 (l.map bkC), .s (.int .i64 i), .s (.int .i64 (i + 1 : Nat))] = some ([.ow 27 ((l.eraseIdx i).map bkC)], []) := by
  rw [Cal_eq]
  have h0 : (i : Int) ≤ ((i + 1 : Nat) : Int) := by omega
  have h1 : ((i + 1 : Nat) : Int) ≤ (l.length : Int) := by omega
  have h2 : ¬ ((i : Int) = (l.length : Int)) := by omega
  have h3 : ¬ ((i : Int) = ((i + 1 : Nat) : Int)) := by omega
  have h4 : (i : Int) ≤ (l.length : Int) := by omega
  have h5 := rows_sub bkC l (l.length - (i + 1)) (i + 1) 4 (fun _ _ => rfl)
  have h6 : i + (List.take (l.length - (i + 1)) (List.drop (i + 1) (l.map bkC))).length ≤ (l.map bkC).length := by simp; omega
  simp -implicitDefEqProofs only [fns_15, c15, body, startSt, pkeys, slots, recvL, recv, noH, finish, resPV, outRs, outR, outC, outCs, outMs, go_sem, Nat.reduceShiftRight, Nat.reduceAnd, reduceIte, reduceCtorEq, Nat.reduceEqDiff, Nat.reduceAdd, Nat.reduceMul, Nat.reduceSub, Nat.reduceLT, Nat.reduceLeDiff, Nat.reduceBEq, Nat.reduceBNe, Int.reduceToNat, Int.reduceLT, Int.reduceLE, Int.reduceEq, Int.reduceNe, Int.reduceMul, Int.reduceAdd, Int.reduceSub, Int.reduceNeg, or_self, true_or, or_true, false_or, or_false, Int.natCast_nonneg, Int.toNat_natCast, List.length_map, implies_true, Int.cast_ofNat_Int, List.mem_cons, List.not_mem_nil, forall_eq_or_imp, forall_eq, false_implies, List.replicate_succ, List.replicate_zero, List.set_cons_zero, List.set_cons_succ, List.length_set, Nat.zero_add, Nat.not_succ_le_self, Nat.mul_one, exec_loop, Rst, keys1, keys2, keysB, proms, prom, keepV, freshV, freshC, freshB, liveVer, mpVer, pk, ded, insH, sortH, rnP, rnA, rnM, List.map_nil, St.of, List.map_cons, h0, h1, h2, h3, h4, h5, appSl_in _ _ _ _ _ _ _ _ _ h6, Int.sub_zero, Int.zero_add, Int.le_refl, Nat.sub_zero]
  have hd : List.take (l.length - (i + 1)) (List.drop (i + 1) (List.map bkC l)) = List.drop (i + 1) (List.map bkC l) := List.take_of_length_le (by simp)
  have hn : i + (List.drop (i + 1) (List.map bkC l)).length = l.length - 1 := by simp; omega
  have hx : (List.take i (List.map bkC l) ++ List.drop (i + 1) (List.map bkC l)).length = l.length - 1 := by simp; omega
  rw [if_pos h5, hd, hn]
  have e1 : ((l.length - 1 : Nat) : Int) ≤ (l.length : Int) ∧ (l.length : Int) ≤ ((List.take i (List.map bkC l) ++ List.drop (i + 1) (List.map bkC l) ++ List.drop (l.length - 1) (List.map bkC l)).length : Int) := by
    rw [List.length_append, hx]; simp
    try omega
  have e2 : l.length - 1 + (l.length - (l.length - 1)) ≤ (List.take i (List.map bkC l) ++ List.drop (i + 1) (List.map bkC l) ++ List.drop (l.length - 1) (List.map bkC l)).length := by
    rw [List.length_append, hx]; simp
    try omega
  have e4 : List.take (l.length - 1) (List.take i (List.map bkC l) ++ List.drop (i + 1) (List.map bkC l) ++ List.drop (l.length - 1) (List.map bkC l)) = List.take i (List.map bkC l) ++ List.drop (i + 1) (List.map bkC l) := by
    rw [List.take_append_of_le_length (by omega), List.take_of_length_le (by omega)]
  rw [if_pos e1, if_pos e2, e4]
  have e3 : l.length - 1 ≤ (List.take i (List.map bkC l) ++ List.drop (i + 1) (List.map bkC l) ++ List.replicate (l.length - (l.length - 1)) [PV.s (Value.int IntKind.i64 0), PV.s (Value.int IntKind.i64 0), PV.s (Value.int IntKind.i64 0), PV.sh false []] ++ List.drop (l.length - 1 + (l.length - (l.length - 1))) (List.take i (List.map bkC l) ++ List.drop (i + 1) (List.map bkC l) ++ List.drop (l.length - 1) (List.map bkC l))).length := by
    rw [List.length_append, List.length_append, hx]; omega
  rw [if_pos e3, List.append_assoc (List.take i (List.map bkC l) ++ List.drop (i + 1) (List.map bkC l)), List.take_append_of_le_length (by omega), List.take_of_length_le (by omega)]
  rw [List.eraseIdx_eq_take_drop_succ, List.map_append, List.map_take, List.map_drop]
end Go.Proofs.Ytpfjchnpkolmkaa
