/- RetireBounds: the loops. Own work. -/
import Derived.Test.YtpfjchnpkolmkaaRbounds
set_option linter.unusedVariables false
set_option linter.unusedSimpArgs false
namespace Go.Proofs.Ytpfjchnpkolmkaa
open Go Go.Pi
set_option maxHeartbeats 2000000
set_option maxRecDepth 10000
theorem BoundsTwin (ln : Bool) (l : List Blo) (a1 a2 a3 : Int) (hM : (l.length : Int) ≤ 1000000) (i : Nat) (y : Blo) (hy : l[i]? = some y) : ∀ (n k : Nat), k + n = i →
   ∃ f H, Pi.Loop (exec cx (Cal cx) c3_2) (Rst Try.prog ([(0, none), (1, none), (2, none), (3, none), (10, none), (11, none)], [])) (St.mk (sF [(0, .sh ln (l.map bkC)), (1, .s (.int .i64 a1)), (2, .s (.int .i64 a2)), (3, .s (.int .i64 a3)), (10, .s (.int .i64 i)), (11, .s (.int .i64 k))]) (hF [])) = some ((if ((l.drop k).take n).any (fun b => decide (b.number = y.number)) = true then .ret else .ex 2), St.mk f H) ∧
     (((l.drop k).take n).any (fun b => decide (b.number = y.number)) = true → f 8 = .s (.bool true)) ∧
     (((l.drop k).take n).any (fun b => decide (b.number = y.number)) = false → f 0 = .sh ln (l.map bkC) ∧ f 1 = .s (.int .i64 a1) ∧ f 2 = .s (.int .i64 a2) ∧ f 3 = .s (.int .i64 a3) ∧ f 10 = .s (.int .i64 i) ∧ H = hF []) := by
  intro n
  have hi : (i : Int) < (l.length : Int) := by
    obtain ⟨h, _⟩ := List.getElem?_eq_some_iff.1 hy
    omega
  induction n with
  | zero =>
    intro k h
    have h0 : ¬ (k : Int) < (i : Int) := by omega
    rw [Loop_eq]
    simp -implicitDefEqProofs only [fns_3, c3, body, startSt, pkeys, slots, recvL, recv, noH, finish, resPV, outRs, outR, outC, outCs, outMs, go_sem, Nat.reduceShiftRight, Nat.reduceAnd, reduceIte, reduceCtorEq, Nat.reduceEqDiff, Nat.reduceAdd, Nat.reduceMul, Nat.reduceSub, Nat.reduceLT, Nat.reduceLeDiff, Nat.reduceBEq, Nat.reduceBNe, Int.reduceToNat, Int.reduceLT, Int.reduceLE, Int.reduceEq, Int.reduceNe, Int.reduceMul, Int.reduceAdd, Int.reduceSub, Int.reduceNeg, or_self, true_or, or_true, false_or, or_false, Int.natCast_nonneg, Int.toNat_natCast, List.length_map, implies_true, Int.cast_ofNat_Int, List.mem_cons, List.not_mem_nil, forall_eq_or_imp, forall_eq, false_implies, List.replicate_succ, List.replicate_zero, List.set_cons_zero, List.set_cons_succ, List.length_set, Nat.zero_add, Nat.not_succ_le_self, Nat.mul_one, exec_loop, Rst, keys1, keys2, keysB, proms, prom, keepV, freshV, freshC, freshB, liveVer, mpVer, pk, ded, insH, sortH, rnP, rnA, rnM, List.map_nil, St.of, List.map_cons, c3_2, h0, List.take_zero, List.any_nil]
    exact ⟨_, _, rfl, fun _ => ⟨rfl, rfl, rfl, rfl, rfl, rfl⟩⟩
  | succ n ih =>
    intro k h
    have h0 : (k : Int) < (i : Int) := by omega
    have h0' : (k : Int) < (l.length : Int) := by omega
    obtain ⟨x, hx⟩ := get_of_lt (l := l) (i := k) (by omega)
    have h8 : IntKind.i64.wrap ((k : Int) + 1) = ((k + 1 : Nat) : Int) := by rw [wrap64_id] <;> omega
    have h7 := ih (k + 1) (by omega)
    rw [Loop_eq, drop_get hx, List.take_succ_cons, List.any_cons]
    by_cases hS : x.number = y.number
    · simp -implicitDefEqProofs only [fns_3, c3, body, startSt, pkeys, slots, recvL, recv, noH, finish, resPV, outRs, outR, outC, outCs, outMs, go_sem, Nat.reduceShiftRight, Nat.reduceAnd, reduceIte, reduceCtorEq, Nat.reduceEqDiff, Nat.reduceAdd, Nat.reduceMul, Nat.reduceSub, Nat.reduceLT, Nat.reduceLeDiff, Nat.reduceBEq, Nat.reduceBNe, Int.reduceToNat, Int.reduceLT, Int.reduceLE, Int.reduceEq, Int.reduceNe, Int.reduceMul, Int.reduceAdd, Int.reduceSub, Int.reduceNeg, or_self, true_or, or_true, false_or, or_false, Int.natCast_nonneg, Int.toNat_natCast, List.length_map, implies_true, Int.cast_ofNat_Int, List.mem_cons, List.not_mem_nil, forall_eq_or_imp, forall_eq, false_implies, List.replicate_succ, List.replicate_zero, List.set_cons_zero, List.set_cons_succ, List.length_set, Nat.zero_add, Nat.not_succ_le_self, Nat.mul_one, exec_loop, Rst, keys1, keys2, keysB, proms, prom, keepV, freshV, freshC, freshB, liveVer, mpVer, pk, ded, insH, sortH, rnP, rnA, rnM, List.map_nil, St.of, List.map_cons, c3_2, h0, h0', hi, getD_map bkC hx, getD_map bkC hy, bkC, hS]
      exact ⟨_, _, rfl, fun _ => rfl⟩
    · simp -implicitDefEqProofs only [fns_3, c3, body, startSt, pkeys, slots, recvL, recv, noH, finish, resPV, outRs, outR, outC, outCs, outMs, go_sem, Nat.reduceShiftRight, Nat.reduceAnd, reduceIte, reduceCtorEq, Nat.reduceEqDiff, Nat.reduceAdd, Nat.reduceMul, Nat.reduceSub, Nat.reduceLT, Nat.reduceLeDiff, Nat.reduceBEq, Nat.reduceBNe, Int.reduceToNat, Int.reduceLT, Int.reduceLE, Int.reduceEq, Int.reduceNe, Int.reduceMul, Int.reduceAdd, Int.reduceSub, Int.reduceNeg, or_self, true_or, or_true, false_or, or_false, Int.natCast_nonneg, Int.toNat_natCast, List.length_map, implies_true, Int.cast_ofNat_Int, List.mem_cons, List.not_mem_nil, forall_eq_or_imp, forall_eq, false_implies, List.replicate_succ, List.replicate_zero, List.set_cons_zero, List.set_cons_succ, List.length_set, Nat.zero_add, Nat.not_succ_le_self, Nat.mul_one, exec_loop, Rst, keys1, keys2, keysB, proms, prom, keepV, freshV, freshC, freshB, liveVer, mpVer, pk, ded, insH, sortH, rnP, rnA, rnM, List.map_nil, St.of, List.map_cons, c3_2, h0, h0', hi, getD_map bkC hx, getD_map bkC hy, bkC, hS, h8]
      exact h7
def bndBad (l : List Blo) (i : Nat) (x : Blo) : Bool := decide (x.born < 0) || decide (1099511627776 < x.born) || (l.take i).any (fun b => decide (b.number = x.number))
def bndOk (l : List Blo) : Nat → Nat → Bool
  | 0, _ => true
  | n + 1, i => match l[i]? with | some x => !bndBad l i x && bndOk l n (i + 1) | none => true
theorem bndOk_bad {l : List Blo} {n i : Nat} {x : Blo} (hx : l[i]? = some x) (h : bndBad l i x = true) : bndOk l (n + 1) i = false := by simp [bndOk, hx, h]
theorem bndOk_good {l : List Blo} {n i : Nat} {x : Blo} (hx : l[i]? = some x) (h : bndBad l i x = false) : bndOk l (n + 1) i = bndOk l n (i + 1) := by simp [bndOk, hx, h]
theorem BoundsLoop (ln : Bool) (l : List Blo) (a1 a2 a3 : Int) (hM : (l.length : Int) ≤ 1000000) : ∀ (n i : Nat), i + n = l.length →
   ∃ f H, Pi.Loop (exec cx (Cal cx) c3_0) (Rst Try.prog ([(0, none), (1, none), (2, none), (3, none), (10, none)], [])) (St.mk (sF [(0, .sh ln (l.map bkC)), (1, .s (.int .i64 a1)), (2, .s (.int .i64 a2)), (3, .s (.int .i64 a3)), (10, .s (.int .i64 i))]) (hF [])) = some ((if bndOk l n i = true then .ex 0 else .ret), St.mk f H) ∧
     (bndOk l n i = false → f 8 = .s (.bool true)) ∧
     (bndOk l n i = true → f 0 = .sh ln (l.map bkC) ∧ f 1 = .s (.int .i64 a1) ∧ f 2 = .s (.int .i64 a2) ∧ f 3 = .s (.int .i64 a3) ∧ H = hF []) := by
  intro n
  induction n with
  | zero =>
    intro i h
    have h0 : ¬ (i : Int) < (l.length : Int) := by omega
    rw [Loop_eq]
    simp -implicitDefEqProofs only [fns_3, c3, body, startSt, pkeys, slots, recvL, recv, noH, finish, resPV, outRs, outR, outC, outCs, outMs, go_sem, Nat.reduceShiftRight, Nat.reduceAnd, reduceIte, reduceCtorEq, Nat.reduceEqDiff, Nat.reduceAdd, Nat.reduceMul, Nat.reduceSub, Nat.reduceLT, Nat.reduceLeDiff, Nat.reduceBEq, Nat.reduceBNe, Int.reduceToNat, Int.reduceLT, Int.reduceLE, Int.reduceEq, Int.reduceNe, Int.reduceMul, Int.reduceAdd, Int.reduceSub, Int.reduceNeg, or_self, true_or, or_true, false_or, or_false, Int.natCast_nonneg, Int.toNat_natCast, List.length_map, implies_true, Int.cast_ofNat_Int, List.mem_cons, List.not_mem_nil, forall_eq_or_imp, forall_eq, false_implies, List.replicate_succ, List.replicate_zero, List.set_cons_zero, List.set_cons_succ, List.length_set, Nat.zero_add, Nat.not_succ_le_self, Nat.mul_one, exec_loop, Rst, keys1, keys2, keysB, proms, prom, keepV, freshV, freshC, freshB, liveVer, mpVer, pk, ded, insH, sortH, rnP, rnA, rnM, List.map_nil, St.of, List.map_cons, c3_0, h0, bndOk]
    exact ⟨_, _, rfl, fun _ => ⟨rfl, rfl, rfl, rfl, rfl⟩⟩
  | succ n ih =>
    intro i h
    have h0 : (i : Int) < (l.length : Int) := by omega
    obtain ⟨x, hx⟩ := get_of_lt (l := l) (i := i) (by omega)
    have h8 : IntKind.i64.wrap ((i : Int) + 1) = ((i + 1 : Nat) : Int) := by rw [wrap64_id] <;> omega
    have h7 := ih (i + 1) (by omega)
    rw [Loop_eq]
    by_cases hA : x.born < 0
    · have e : bndOk l (n + 1) i = false := bndOk_bad hx (by simp [bndBad, hA])
      simp -implicitDefEqProofs only [fns_3, c3, body, startSt, pkeys, slots, recvL, recv, noH, finish, resPV, outRs, outR, outC, outCs, outMs, go_sem, Nat.reduceShiftRight, Nat.reduceAnd, reduceIte, reduceCtorEq, Nat.reduceEqDiff, Nat.reduceAdd, Nat.reduceMul, Nat.reduceSub, Nat.reduceLT, Nat.reduceLeDiff, Nat.reduceBEq, Nat.reduceBNe, Int.reduceToNat, Int.reduceLT, Int.reduceLE, Int.reduceEq, Int.reduceNe, Int.reduceMul, Int.reduceAdd, Int.reduceSub, Int.reduceNeg, or_self, true_or, or_true, false_or, or_false, Int.natCast_nonneg, Int.toNat_natCast, List.length_map, implies_true, Int.cast_ofNat_Int, List.mem_cons, List.not_mem_nil, forall_eq_or_imp, forall_eq, false_implies, List.replicate_succ, List.replicate_zero, List.set_cons_zero, List.set_cons_succ, List.length_set, Nat.zero_add, Nat.not_succ_le_self, Nat.mul_one, exec_loop, Rst, keys1, keys2, keysB, proms, prom, keepV, freshV, freshC, freshB, liveVer, mpVer, pk, ded, insH, sortH, rnP, rnA, rnM, List.map_nil, St.of, List.map_cons, c3_0, h0, getD_map bkC hx, bkC, hA, e]
      exact ⟨_, _, rfl, fun _ => rfl⟩
    · by_cases hB : (1099511627776 : Int) < x.born
      · have e : bndOk l (n + 1) i = false := bndOk_bad hx (by simp [bndBad, hB])
        simp -implicitDefEqProofs only [fns_3, c3, body, startSt, pkeys, slots, recvL, recv, noH, finish, resPV, outRs, outR, outC, outCs, outMs, go_sem, Nat.reduceShiftRight, Nat.reduceAnd, reduceIte, reduceCtorEq, Nat.reduceEqDiff, Nat.reduceAdd, Nat.reduceMul, Nat.reduceSub, Nat.reduceLT, Nat.reduceLeDiff, Nat.reduceBEq, Nat.reduceBNe, Int.reduceToNat, Int.reduceLT, Int.reduceLE, Int.reduceEq, Int.reduceNe, Int.reduceMul, Int.reduceAdd, Int.reduceSub, Int.reduceNeg, or_self, true_or, or_true, false_or, or_false, Int.natCast_nonneg, Int.toNat_natCast, List.length_map, implies_true, Int.cast_ofNat_Int, List.mem_cons, List.not_mem_nil, forall_eq_or_imp, forall_eq, false_implies, List.replicate_succ, List.replicate_zero, List.set_cons_zero, List.set_cons_succ, List.length_set, Nat.zero_add, Nat.not_succ_le_self, Nat.mul_one, exec_loop, Rst, keys1, keys2, keysB, proms, prom, keepV, freshV, freshC, freshB, liveVer, mpVer, pk, ded, insH, sortH, rnP, rnA, rnM, List.map_nil, St.of, List.map_cons, c3_0, h0, getD_map bkC hx, bkC, hA, hB, e]
        exact ⟨_, _, rfl, fun _ => rfl⟩
      · obtain ⟨f, H, g1, g2, g3⟩ := BoundsTwin ln l a1 a2 a3 hM i x hx i 0 (by omega)
        simp only [Int.cast_ofNat_Int, List.drop_zero] at g1 g2 g3
        cases hT : (l.take i).any (fun b => decide (b.number = x.number))
        · have e : bndOk l (n + 1) i = bndOk l n (i + 1) := bndOk_good hx (by simp only [bndBad, hT]; simp; omega)
          rw [hT] at g1 g3
          obtain ⟨k0, k1, k2, k3, k4, k5⟩ := g3 rfl
          simp -implicitDefEqProofs only [fns_3, c3, body, startSt, pkeys, slots, recvL, recv, noH, finish, resPV, outRs, outR, outC, outCs, outMs, go_sem, Nat.reduceShiftRight, Nat.reduceAnd, reduceIte, reduceCtorEq, Nat.reduceEqDiff, Nat.reduceAdd, Nat.reduceMul, Nat.reduceSub, Nat.reduceLT, Nat.reduceLeDiff, Nat.reduceBEq, Nat.reduceBNe, Int.reduceToNat, Int.reduceLT, Int.reduceLE, Int.reduceEq, Int.reduceNe, Int.reduceMul, Int.reduceAdd, Int.reduceSub, Int.reduceNeg, or_self, true_or, or_true, false_or, or_false, Int.natCast_nonneg, Int.toNat_natCast, List.length_map, implies_true, Int.cast_ofNat_Int, List.mem_cons, List.not_mem_nil, forall_eq_or_imp, forall_eq, false_implies, List.replicate_succ, List.replicate_zero, List.set_cons_zero, List.set_cons_succ, List.length_set, Nat.zero_add, Nat.not_succ_le_self, Nat.mul_one, exec_loop, Rst, keys1, keys2, keysB, proms, prom, keepV, freshV, freshC, freshB, liveVer, mpVer, pk, ded, insH, sortH, rnP, rnA, rnM, List.map_nil, St.of, List.map_cons, c3_0, h0, getD_map bkC hx, bkC, hA, hB, e, g1, k0, k1, k2, k3, k4, k5, h8]
          exact h7
        · have e : bndOk l (n + 1) i = false := bndOk_bad hx (by simp only [bndBad, hT]; simp)
          rw [hT] at g1 g2
          have k0 := g2 rfl
          simp -implicitDefEqProofs only [fns_3, c3, body, startSt, pkeys, slots, recvL, recv, noH, finish, resPV, outRs, outR, outC, outCs, outMs, go_sem, Nat.reduceShiftRight, Nat.reduceAnd, reduceIte, reduceCtorEq, Nat.reduceEqDiff, Nat.reduceAdd, Nat.reduceMul, Nat.reduceSub, Nat.reduceLT, Nat.reduceLeDiff, Nat.reduceBEq, Nat.reduceBNe, Int.reduceToNat, Int.reduceLT, Int.reduceLE, Int.reduceEq, Int.reduceNe, Int.reduceMul, Int.reduceAdd, Int.reduceSub, Int.reduceNeg, or_self, true_or, or_true, false_or, or_false, Int.natCast_nonneg, Int.toNat_natCast, List.length_map, implies_true, Int.cast_ofNat_Int, List.mem_cons, List.not_mem_nil, forall_eq_or_imp, forall_eq, false_implies, List.replicate_succ, List.replicate_zero, List.set_cons_zero, List.set_cons_succ, List.length_set, Nat.zero_add, Nat.not_succ_le_self, Nat.mul_one, exec_loop, Rst, keys1, keys2, keysB, proms, prom, keepV, freshV, freshC, freshB, liveVer, mpVer, pk, ded, insH, sortH, rnP, rnA, rnM, List.map_nil, St.of, List.map_cons, c3_0, h0, getD_map bkC hx, bkC, hA, hB, e, g1, k0]
          exact ⟨_, _, rfl, fun _ => k0⟩
theorem YoungLoop (ln : Bool) (l : List Blo) (now keep budget : Int) (hn : 0 ≤ now ∧ now ≤ 1099511627776) (hR : ∀ b ∈ l, 0 ≤ b.born ∧ b.born ≤ 1099511627776) (hY : ∀ b ∈ l, ¬ keep < now - b.born) (hM : (l.length : Int) ≤ 1000000) : ∀ (n i : Nat), i + n = l.length →
   (∃ f H, Pi.Loop (exec cx (Cal cx) c3_10) (Rst Try.prog ([(1, none), (2, none), (3, none), (13, some 27), (21, none)], [])) (St.mk (sF [(1, .s (.int .i64 now)), (2, .s (.int .i64 keep)), (3, .s (.int .i64 budget)), (13, .sl 500013 0 0 l.length), (21, .s (.int .i64 i))]) (hF [(500013, lRow l)])) = some (.ex 10, St.mk f H) ∧ f 3 = .s (.int .i64 budget) ∧ f 13 = .sl 500013 0 0 l.length ∧ H 500013 = lRow l) ∧
   (∃ f H, Pi.Loop (exec cx (Cal cx) c3_10) (Rst Try.prog ([(1, none), (2, none), (3, none), (13, some 27), (21, none)], [])) (St.mk (sF [(1, .s (.int .i64 now)), (2, .s (.int .i64 keep)), (3, .s (.int .i64 budget)), (13, .sh ln (l.map bkC)), (21, .s (.int .i64 i))]) (hF [])) = some (.ex 10, St.mk f H) ∧ f 3 = .s (.int .i64 budget) ∧ f 13 = .sh ln (l.map bkC) ∧ H = hF []) := by
  intro n
  induction n with
  | zero =>
    intro i h
    have h0 : ¬ (i : Int) < (l.length : Int) := by omega
    constructor
    · rw [Loop_eq]
      simp -implicitDefEqProofs only [fns_3, c3, body, startSt, pkeys, slots, recvL, recv, noH, finish, resPV, outRs, outR, outC, outCs, outMs, go_sem, Nat.reduceShiftRight, Nat.reduceAnd, reduceIte, reduceCtorEq, Nat.reduceEqDiff, Nat.reduceAdd, Nat.reduceMul, Nat.reduceSub, Nat.reduceLT, Nat.reduceLeDiff, Nat.reduceBEq, Nat.reduceBNe, Int.reduceToNat, Int.reduceLT, Int.reduceLE, Int.reduceEq, Int.reduceNe, Int.reduceMul, Int.reduceAdd, Int.reduceSub, Int.reduceNeg, or_self, true_or, or_true, false_or, or_false, Int.natCast_nonneg, Int.toNat_natCast, List.length_map, implies_true, Int.cast_ofNat_Int, List.mem_cons, List.not_mem_nil, forall_eq_or_imp, forall_eq, false_implies, List.replicate_succ, List.replicate_zero, List.set_cons_zero, List.set_cons_succ, List.length_set, Nat.zero_add, Nat.not_succ_le_self, Nat.mul_one, exec_loop, Rst, keys1, keys2, keysB, proms, prom, keepV, freshV, freshC, freshB, liveVer, mpVer, pk, ded, insH, sortH, rnP, rnA, rnM, List.map_nil, St.of, List.map_cons, c3_10, h0]
      exact ⟨_, _, rfl, rfl, rfl, rfl⟩
    · rw [Loop_eq]
      simp -implicitDefEqProofs only [fns_3, c3, body, startSt, pkeys, slots, recvL, recv, noH, finish, resPV, outRs, outR, outC, outCs, outMs, go_sem, Nat.reduceShiftRight, Nat.reduceAnd, reduceIte, reduceCtorEq, Nat.reduceEqDiff, Nat.reduceAdd, Nat.reduceMul, Nat.reduceSub, Nat.reduceLT, Nat.reduceLeDiff, Nat.reduceBEq, Nat.reduceBNe, Int.reduceToNat, Int.reduceLT, Int.reduceLE, Int.reduceEq, Int.reduceNe, Int.reduceMul, Int.reduceAdd, Int.reduceSub, Int.reduceNeg, or_self, true_or, or_true, false_or, or_false, Int.natCast_nonneg, Int.toNat_natCast, List.length_map, implies_true, Int.cast_ofNat_Int, List.mem_cons, List.not_mem_nil, forall_eq_or_imp, forall_eq, false_implies, List.replicate_succ, List.replicate_zero, List.set_cons_zero, List.set_cons_succ, List.length_set, Nat.zero_add, Nat.not_succ_le_self, Nat.mul_one, exec_loop, Rst, keys1, keys2, keysB, proms, prom, keepV, freshV, freshC, freshB, liveVer, mpVer, pk, ded, insH, sortH, rnP, rnA, rnM, List.map_nil, St.of, List.map_cons, c3_10, h0]
      exact ⟨_, _, rfl, rfl, rfl, rfl⟩
  | succ n ih =>
    intro i h
    have h0 : (i : Int) < (l.length : Int) := by omega
    have h0n : i < l.length := by omega
    obtain ⟨x, hx⟩ := get_of_lt (l := l) (i := i) (by omega)
    have h8 : IntKind.i64.wrap ((i : Int) + 1) = ((i + 1 : Nat) : Int) := by rw [wrap64_id] <;> omega
    obtain ⟨h7, h7'⟩ := ih (i + 1) (by omega)
    have hr := hR x (mem_get hx)
    have hy := hY x (mem_get hx)
    have w1 : IntKind.i64.wrap (now - x.born) = now - x.born := by rw [wrap64_id] <;> omega
    constructor
    · rw [Loop_eq]
      simp -implicitDefEqProofs only [fns_3, c3, body, startSt, pkeys, slots, recvL, recv, noH, finish, resPV, outRs, outR, outC, outCs, outMs, go_sem, Nat.reduceShiftRight, Nat.reduceAnd, reduceIte, reduceCtorEq, Nat.reduceEqDiff, Nat.reduceAdd, Nat.reduceMul, Nat.reduceSub, Nat.reduceLT, Nat.reduceLeDiff, Nat.reduceBEq, Nat.reduceBNe, Int.reduceToNat, Int.reduceLT, Int.reduceLE, Int.reduceEq, Int.reduceNe, Int.reduceMul, Int.reduceAdd, Int.reduceSub, Int.reduceNeg, or_self, true_or, or_true, false_or, or_false, Int.natCast_nonneg, Int.toNat_natCast, List.length_map, implies_true, Int.cast_ofNat_Int, List.mem_cons, List.not_mem_nil, forall_eq_or_imp, forall_eq, false_implies, List.replicate_succ, List.replicate_zero, List.set_cons_zero, List.set_cons_succ, List.length_set, Nat.zero_add, Nat.not_succ_le_self, Nat.mul_one, exec_loop, Rst, keys1, keys2, keysB, proms, prom, keepV, freshV, freshC, freshB, liveVer, mpVer, pk, ded, insH, sortH, rnP, rnA, rnM, List.map_nil, St.of, List.map_cons, c3_10, h0, h0n, getD_map bkC hx, bkC, w1, hy, h8]
      exact h7
    · rw [Loop_eq]
      simp -implicitDefEqProofs only [fns_3, c3, body, startSt, pkeys, slots, recvL, recv, noH, finish, resPV, outRs, outR, outC, outCs, outMs, go_sem, Nat.reduceShiftRight, Nat.reduceAnd, reduceIte, reduceCtorEq, Nat.reduceEqDiff, Nat.reduceAdd, Nat.reduceMul, Nat.reduceSub, Nat.reduceLT, Nat.reduceLeDiff, Nat.reduceBEq, Nat.reduceBNe, Int.reduceToNat, Int.reduceLT, Int.reduceLE, Int.reduceEq, Int.reduceNe, Int.reduceMul, Int.reduceAdd, Int.reduceSub, Int.reduceNeg, or_self, true_or, or_true, false_or, or_false, Int.natCast_nonneg, Int.toNat_natCast, List.length_map, implies_true, Int.cast_ofNat_Int, List.mem_cons, List.not_mem_nil, forall_eq_or_imp, forall_eq, false_implies, List.replicate_succ, List.replicate_zero, List.set_cons_zero, List.set_cons_succ, List.length_set, Nat.zero_add, Nat.not_succ_le_self, Nat.mul_one, exec_loop, Rst, keys1, keys2, keysB, proms, prom, keepV, freshV, freshC, freshB, liveVer, mpVer, pk, ded, insH, sortH, rnP, rnA, rnM, List.map_nil, St.of, List.map_cons, c3_10, h0, h0n, getD_map bkC hx, bkC, w1, hy, h8]
      exact h7'
theorem LeastLoop (ln : Bool) (l m : List Blo) (xs : List Int) (now keep budget : Int) (a i : Nat) (y : Blo) (hy : l[a]? = some y) (hM : (l.length : Int) ≤ 1000000) : ∀ (n k : Nat) (t : Bool), k + n = l.length →
   (∃ f H, Pi.Loop (exec cx (Cal cx) c3_8) (Rst Try.prog ([(1, none), (2, none), (3, none), (12, some 3), (13, some 27), (14, none), (15, some 27), (16, none), (17, none), (19, none)], [])) (St.mk (sF [(1, .s (.int .i64 now)), (2, .s (.int .i64 keep)), (3, .s (.int .i64 budget)), (12, .sl 500012 0 0 xs.length), (13, .sl 500013 0 0 l.length), (14, .s (.int .i64 i)), (15, .sl 500015 0 0 m.length), (16, .s (.int .i64 a)), (17, .s (.bool t)), (19, .s (.int .i64 k))]) (hF [(500012, oRow xs), (500013, lRow l), (500015, lRow m)])) = some (.ex 8, St.mk f H) ∧
     f 1 = .s (.int .i64 now) ∧ f 2 = .s (.int .i64 keep) ∧ f 3 = .s (.int .i64 budget) ∧ f 12 = .sl 500012 0 0 xs.length ∧ f 13 = .sl 500013 0 0 l.length ∧ f 14 = .s (.int .i64 i) ∧ f 15 = .sl 500015 0 0 m.length ∧ f 16 = .s (.int .i64 a) ∧ f 17 = .s (.bool (t && (l.drop k).all fun b => decide (y.born ≤ b.born))) ∧ H 500012 = oRow xs ∧ H 500013 = lRow l ∧ H 500015 = lRow m) := by
  intro n
  have ha : (a : Int) < (l.length : Int) := by
    obtain ⟨h, _⟩ := List.getElem?_eq_some_iff.1 hy
    omega
  have han : a < l.length := by omega
  induction n with
  | zero =>
    intro k t h
    have h0 : ¬ (k : Int) < (l.length : Int) := by omega
    rw [Loop_eq, drop_end (by omega)]
    simp -implicitDefEqProofs only [fns_3, c3, body, startSt, pkeys, slots, recvL, recv, noH, finish, resPV, outRs, outR, outC, outCs, outMs, go_sem, Nat.reduceShiftRight, Nat.reduceAnd, reduceIte, reduceCtorEq, Nat.reduceEqDiff, Nat.reduceAdd, Nat.reduceMul, Nat.reduceSub, Nat.reduceLT, Nat.reduceLeDiff, Nat.reduceBEq, Nat.reduceBNe, Int.reduceToNat, Int.reduceLT, Int.reduceLE, Int.reduceEq, Int.reduceNe, Int.reduceMul, Int.reduceAdd, Int.reduceSub, Int.reduceNeg, or_self, true_or, or_true, false_or, or_false, Int.natCast_nonneg, Int.toNat_natCast, List.length_map, implies_true, Int.cast_ofNat_Int, List.mem_cons, List.not_mem_nil, forall_eq_or_imp, forall_eq, false_implies, List.replicate_succ, List.replicate_zero, List.set_cons_zero, List.set_cons_succ, List.length_set, Nat.zero_add, Nat.not_succ_le_self, Nat.mul_one, exec_loop, Rst, keys1, keys2, keysB, proms, prom, keepV, freshV, freshC, freshB, liveVer, mpVer, pk, ded, insH, sortH, rnP, rnA, rnM, List.map_nil, St.of, List.map_cons, c3_8, h0, List.all_nil, Bool.and_true]
    exact ⟨_, _, rfl, rfl, rfl, rfl, rfl, rfl, rfl, rfl, rfl, rfl, rfl, rfl, rfl⟩
  | succ n ih =>
    intro k t h
    have h0 : (k : Int) < (l.length : Int) := by omega
    have h0n : k < l.length := by omega
    obtain ⟨x, hx⟩ := get_of_lt (l := l) (i := k) (by omega)
    have h8 : IntKind.i64.wrap ((k : Int) + 1) = ((k + 1 : Nat) : Int) := by rw [wrap64_id] <;> omega
    rw [Loop_eq, drop_get hx, List.all_cons, ← Bool.and_assoc]
    cases t
    · have h7 := ih (k + 1) false (by omega)
      rw [Bool.false_and]
      simp -implicitDefEqProofs only [fns_3, c3, body, startSt, pkeys, slots, recvL, recv, noH, finish, resPV, outRs, outR, outC, outCs, outMs, go_sem, Nat.reduceShiftRight, Nat.reduceAnd, reduceIte, reduceCtorEq, Nat.reduceEqDiff, Nat.reduceAdd, Nat.reduceMul, Nat.reduceSub, Nat.reduceLT, Nat.reduceLeDiff, Nat.reduceBEq, Nat.reduceBNe, Int.reduceToNat, Int.reduceLT, Int.reduceLE, Int.reduceEq, Int.reduceNe, Int.reduceMul, Int.reduceAdd, Int.reduceSub, Int.reduceNeg, or_self, true_or, or_true, false_or, or_false, Int.natCast_nonneg, Int.toNat_natCast, List.length_map, implies_true, Int.cast_ofNat_Int, List.mem_cons, List.not_mem_nil, forall_eq_or_imp, forall_eq, false_implies, List.replicate_succ, List.replicate_zero, List.set_cons_zero, List.set_cons_succ, List.length_set, Nat.zero_add, Nat.not_succ_le_self, Nat.mul_one, exec_loop, Rst, keys1, keys2, keysB, proms, prom, keepV, freshV, freshC, freshB, liveVer, mpVer, pk, ded, insH, sortH, rnP, rnA, rnM, List.map_nil, St.of, List.map_cons, c3_8, h0, h0n, ha, han, getD_map bkC hx, getD_map bkC hy, bkC, h8]
      exact h7
    · have h7 := ih (k + 1) (decide (y.born ≤ x.born)) (by omega)
      rw [Bool.true_and]
      by_cases hS : y.born ≤ x.born
      · simp only [hS, decide_true] at h7 ⊢
        simp -implicitDefEqProofs only [fns_3, c3, body, startSt, pkeys, slots, recvL, recv, noH, finish, resPV, outRs, outR, outC, outCs, outMs, go_sem, Nat.reduceShiftRight, Nat.reduceAnd, reduceIte, reduceCtorEq, Nat.reduceEqDiff, Nat.reduceAdd, Nat.reduceMul, Nat.reduceSub, Nat.reduceLT, Nat.reduceLeDiff, Nat.reduceBEq, Nat.reduceBNe, Int.reduceToNat, Int.reduceLT, Int.reduceLE, Int.reduceEq, Int.reduceNe, Int.reduceMul, Int.reduceAdd, Int.reduceSub, Int.reduceNeg, or_self, true_or, or_true, false_or, or_false, Int.natCast_nonneg, Int.toNat_natCast, List.length_map, implies_true, Int.cast_ofNat_Int, List.mem_cons, List.not_mem_nil, forall_eq_or_imp, forall_eq, false_implies, List.replicate_succ, List.replicate_zero, List.set_cons_zero, List.set_cons_succ, List.length_set, Nat.zero_add, Nat.not_succ_le_self, Nat.mul_one, exec_loop, Rst, keys1, keys2, keysB, proms, prom, keepV, freshV, freshC, freshB, liveVer, mpVer, pk, ded, insH, sortH, rnP, rnA, rnM, List.map_nil, St.of, List.map_cons, c3_8, h0, h0n, ha, han, getD_map bkC hx, getD_map bkC hy, bkC, hS, h8]
        exact h7
      · simp only [hS, decide_false] at h7 ⊢
        simp -implicitDefEqProofs only [fns_3, c3, body, startSt, pkeys, slots, recvL, recv, noH, finish, resPV, outRs, outR, outC, outCs, outMs, go_sem, Nat.reduceShiftRight, Nat.reduceAnd, reduceIte, reduceCtorEq, Nat.reduceEqDiff, Nat.reduceAdd, Nat.reduceMul, Nat.reduceSub, Nat.reduceLT, Nat.reduceLeDiff, Nat.reduceBEq, Nat.reduceBNe, Int.reduceToNat, Int.reduceLT, Int.reduceLE, Int.reduceEq, Int.reduceNe, Int.reduceMul, Int.reduceAdd, Int.reduceSub, Int.reduceNeg, or_self, true_or, or_true, false_or, or_false, Int.natCast_nonneg, Int.toNat_natCast, List.length_map, implies_true, Int.cast_ofNat_Int, List.mem_cons, List.not_mem_nil, forall_eq_or_imp, forall_eq, false_implies, List.replicate_succ, List.replicate_zero, List.set_cons_zero, List.set_cons_succ, List.length_set, Nat.zero_add, Nat.not_succ_le_self, Nat.mul_one, exec_loop, Rst, keys1, keys2, keysB, proms, prom, keepV, freshV, freshC, freshB, liveVer, mpVer, pk, ded, insH, sortH, rnP, rnA, rnM, List.map_nil, St.of, List.map_cons, c3_8, h0, h0n, ha, han, getD_map bkC hx, getD_map bkC hy, bkC, hS, h8]
        exact h7
theorem LeastLoopS (ln : Bool) (l m : List Blo) (xs : List Int) (now keep budget : Int) (a i : Nat) (y : Blo) (hy : l[a]? = some y) (hM : (l.length : Int) ≤ 1000000) : ∀ (n k : Nat) (t : Bool), k + n = l.length →
   (∃ f H, Pi.Loop (exec cx (Cal cx) c3_8) (Rst Try.prog ([(1, none), (2, none), (3, none), (12, some 3), (13, some 27), (14, none), (15, some 27), (16, none), (17, none), (19, none)], [])) (St.mk (sF [(1, .s (.int .i64 now)), (2, .s (.int .i64 keep)), (3, .s (.int .i64 budget)), (12, .sl 500012 0 0 xs.length), (13, .sh ln (l.map bkC)), (14, .s (.int .i64 i)), (15, .sl 500015 0 0 m.length), (16, .s (.int .i64 a)), (17, .s (.bool t)), (19, .s (.int .i64 k))]) (hF [(500012, oRow xs), (500015, lRow m)])) = some (.ex 8, St.mk f H) ∧
     f 1 = .s (.int .i64 now) ∧ f 2 = .s (.int .i64 keep) ∧ f 3 = .s (.int .i64 budget) ∧ f 12 = .sl 500012 0 0 xs.length ∧ f 13 = .sh ln (l.map bkC) ∧ f 14 = .s (.int .i64 i) ∧ f 15 = .sl 500015 0 0 m.length ∧ f 16 = .s (.int .i64 a) ∧ f 17 = .s (.bool (t && (l.drop k).all fun b => decide (y.born ≤ b.born))) ∧ H 500012 = oRow xs ∧ H 500015 = lRow m) := by
  intro n
  have ha : (a : Int) < (l.length : Int) := by
    obtain ⟨h, _⟩ := List.getElem?_eq_some_iff.1 hy
    omega
  have han : a < l.length := by omega
  induction n with
  | zero =>
    intro k t h
    have h0 : ¬ (k : Int) < (l.length : Int) := by omega
    rw [Loop_eq, drop_end (by omega)]
    simp -implicitDefEqProofs only [fns_3, c3, body, startSt, pkeys, slots, recvL, recv, noH, finish, resPV, outRs, outR, outC, outCs, outMs, go_sem, Nat.reduceShiftRight, Nat.reduceAnd, reduceIte, reduceCtorEq, Nat.reduceEqDiff, Nat.reduceAdd, Nat.reduceMul, Nat.reduceSub, Nat.reduceLT, Nat.reduceLeDiff, Nat.reduceBEq, Nat.reduceBNe, Int.reduceToNat, Int.reduceLT, Int.reduceLE, Int.reduceEq, Int.reduceNe, Int.reduceMul, Int.reduceAdd, Int.reduceSub, Int.reduceNeg, or_self, true_or, or_true, false_or, or_false, Int.natCast_nonneg, Int.toNat_natCast, List.length_map, implies_true, Int.cast_ofNat_Int, List.mem_cons, List.not_mem_nil, forall_eq_or_imp, forall_eq, false_implies, List.replicate_succ, List.replicate_zero, List.set_cons_zero, List.set_cons_succ, List.length_set, Nat.zero_add, Nat.not_succ_le_self, Nat.mul_one, exec_loop, Rst, keys1, keys2, keysB, proms, prom, keepV, freshV, freshC, freshB, liveVer, mpVer, pk, ded, insH, sortH, rnP, rnA, rnM, List.map_nil, St.of, List.map_cons, c3_8, h0, List.all_nil, Bool.and_true]
    exact ⟨_, _, rfl, rfl, rfl, rfl, rfl, rfl, rfl, rfl, rfl, rfl, rfl, rfl⟩
  | succ n ih =>
    intro k t h
    have h0 : (k : Int) < (l.length : Int) := by omega
    have h0n : k < l.length := by omega
    obtain ⟨x, hx⟩ := get_of_lt (l := l) (i := k) (by omega)
    have h8 : IntKind.i64.wrap ((k : Int) + 1) = ((k + 1 : Nat) : Int) := by rw [wrap64_id] <;> omega
    rw [Loop_eq, drop_get hx, List.all_cons, ← Bool.and_assoc]
    cases t
    · have h7 := ih (k + 1) false (by omega)
      rw [Bool.false_and]
      simp -implicitDefEqProofs only [fns_3, c3, body, startSt, pkeys, slots, recvL, recv, noH, finish, resPV, outRs, outR, outC, outCs, outMs, go_sem, Nat.reduceShiftRight, Nat.reduceAnd, reduceIte, reduceCtorEq, Nat.reduceEqDiff, Nat.reduceAdd, Nat.reduceMul, Nat.reduceSub, Nat.reduceLT, Nat.reduceLeDiff, Nat.reduceBEq, Nat.reduceBNe, Int.reduceToNat, Int.reduceLT, Int.reduceLE, Int.reduceEq, Int.reduceNe, Int.reduceMul, Int.reduceAdd, Int.reduceSub, Int.reduceNeg, or_self, true_or, or_true, false_or, or_false, Int.natCast_nonneg, Int.toNat_natCast, List.length_map, implies_true, Int.cast_ofNat_Int, List.mem_cons, List.not_mem_nil, forall_eq_or_imp, forall_eq, false_implies, List.replicate_succ, List.replicate_zero, List.set_cons_zero, List.set_cons_succ, List.length_set, Nat.zero_add, Nat.not_succ_le_self, Nat.mul_one, exec_loop, Rst, keys1, keys2, keysB, proms, prom, keepV, freshV, freshC, freshB, liveVer, mpVer, pk, ded, insH, sortH, rnP, rnA, rnM, List.map_nil, St.of, List.map_cons, c3_8, h0, h0n, ha, han, getD_map bkC hx, getD_map bkC hy, bkC, h8]
      exact h7
    · have h7 := ih (k + 1) (decide (y.born ≤ x.born)) (by omega)
      rw [Bool.true_and]
      by_cases hS : y.born ≤ x.born
      · simp only [hS, decide_true] at h7 ⊢
        simp -implicitDefEqProofs only [fns_3, c3, body, startSt, pkeys, slots, recvL, recv, noH, finish, resPV, outRs, outR, outC, outCs, outMs, go_sem, Nat.reduceShiftRight, Nat.reduceAnd, reduceIte, reduceCtorEq, Nat.reduceEqDiff, Nat.reduceAdd, Nat.reduceMul, Nat.reduceSub, Nat.reduceLT, Nat.reduceLeDiff, Nat.reduceBEq, Nat.reduceBNe, Int.reduceToNat, Int.reduceLT, Int.reduceLE, Int.reduceEq, Int.reduceNe, Int.reduceMul, Int.reduceAdd, Int.reduceSub, Int.reduceNeg, or_self, true_or, or_true, false_or, or_false, Int.natCast_nonneg, Int.toNat_natCast, List.length_map, implies_true, Int.cast_ofNat_Int, List.mem_cons, List.not_mem_nil, forall_eq_or_imp, forall_eq, false_implies, List.replicate_succ, List.replicate_zero, List.set_cons_zero, List.set_cons_succ, List.length_set, Nat.zero_add, Nat.not_succ_le_self, Nat.mul_one, exec_loop, Rst, keys1, keys2, keysB, proms, prom, keepV, freshV, freshC, freshB, liveVer, mpVer, pk, ded, insH, sortH, rnP, rnA, rnM, List.map_nil, St.of, List.map_cons, c3_8, h0, h0n, ha, han, getD_map bkC hx, getD_map bkC hy, bkC, hS, h8]
        exact h7
      · simp only [hS, decide_false] at h7 ⊢
        simp -implicitDefEqProofs only [fns_3, c3, body, startSt, pkeys, slots, recvL, recv, noH, finish, resPV, outRs, outR, outC, outCs, outMs, go_sem, Nat.reduceShiftRight, Nat.reduceAnd, reduceIte, reduceCtorEq, Nat.reduceEqDiff, Nat.reduceAdd, Nat.reduceMul, Nat.reduceSub, Nat.reduceLT, Nat.reduceLeDiff, Nat.reduceBEq, Nat.reduceBNe, Int.reduceToNat, Int.reduceLT, Int.reduceLE, Int.reduceEq, Int.reduceNe, Int.reduceMul, Int.reduceAdd, Int.reduceSub, Int.reduceNeg, or_self, true_or, or_true, false_or, or_false, Int.natCast_nonneg, Int.toNat_natCast, List.length_map, implies_true, Int.cast_ofNat_Int, List.mem_cons, List.not_mem_nil, forall_eq_or_imp, forall_eq, false_implies, List.replicate_succ, List.replicate_zero, List.set_cons_zero, List.set_cons_succ, List.length_set, Nat.zero_add, Nat.not_succ_le_self, Nat.mul_one, exec_loop, Rst, keys1, keys2, keysB, proms, prom, keepV, freshV, freshC, freshB, liveVer, mpVer, pk, ded, insH, sortH, rnP, rnA, rnM, List.map_nil, St.of, List.map_cons, c3_8, h0, h0n, ha, han, getD_map bkC hx, getD_map bkC hy, bkC, hS, h8]
        exact h7
end Go.Proofs.Ytpfjchnpkolmkaa
