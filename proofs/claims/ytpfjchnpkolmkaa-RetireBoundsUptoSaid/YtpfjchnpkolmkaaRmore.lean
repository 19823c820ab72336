/- RetireMore: the law's function answers true. Own work. -/
import Derived.Test.YtpfjchnpkolmkaaRlaw20
set_option linter.unusedVariables false
set_option linter.unusedSimpArgs false
namespace Go.Proofs.Ytpfjchnpkolmkaa
open Go Go.Pi
set_option maxHeartbeats 2000000
set_option maxRecDepth 10000
abbrev iV (n : Int) : PV := .s (.int .i64 n)
theorem MoreTwin (ln : Bool) (l : List Blo) (a1 a2 a3 a4 a5 : Int) (hM : (l.length : Int) ≤ 1000000) (i : Nat) (y : Blo) (hy : l[i]? = some y) : ∀ (n k : Nat), k + n = i →
   ∃ f H, Pi.Loop (exec cx (Cal cx) c5_2) (Rst Try.prog ([(0, none), (1, none), (2, none), (3, none), (4, none), (5, none), (14, none), (15, none)], [])) (St.mk (sF [(0, .sh ln (l.map bkC)), (1, .s (.int .i64 a1)), (2, .s (.int .i64 a2)), (3, .s (.int .i64 a3)), (4, .s (.int .i64 a4)), (5, .s (.int .i64 a5)), (14, .s (.int .i64 i)), (15, .s (.int .i64 k))]) (hF [])) = some ((if ((l.drop k).take n).any (fun b => decide (b.number = y.number)) = true then .ret else .ex 2), St.mk f H) ∧
     (((l.drop k).take n).any (fun b => decide (b.number = y.number)) = true → f 12 = .s (.bool true)) ∧
     (((l.drop k).take n).any (fun b => decide (b.number = y.number)) = false → f 0 = .sh ln (l.map bkC) ∧ f 1 = .s (.int .i64 a1) ∧ f 2 = .s (.int .i64 a2) ∧ f 3 = .s (.int .i64 a3) ∧ f 4 = .s (.int .i64 a4) ∧ f 5 = .s (.int .i64 a5) ∧ f 14 = .s (.int .i64 i) ∧ H = hF []) := by
  intro n
  have hi : (i : Int) < (l.length : Int) := by
    obtain ⟨h, _⟩ := List.getElem?_eq_some_iff.1 hy
    omega
  induction n with
  | zero =>
    intro k h
    have h0 : ¬ (k : Int) < (i : Int) := by omega
    rw [Loop_eq]
    simp -implicitDefEqProofs only [fns_5, c5, body, startSt, pkeys, slots, recvL, recv, noH, finish, resPV, outRs, outR, outC, outCs, outMs, go_sem, Nat.reduceShiftRight, Nat.reduceAnd, reduceIte, reduceCtorEq, Nat.reduceEqDiff, Nat.reduceAdd, Nat.reduceMul, Nat.reduceSub, Nat.reduceLT, Nat.reduceLeDiff, Nat.reduceBEq, Nat.reduceBNe, Int.reduceToNat, Int.reduceLT, Int.reduceLE, Int.reduceEq, Int.reduceNe, Int.reduceMul, Int.reduceAdd, Int.reduceSub, Int.reduceNeg, or_self, true_or, or_true, false_or, or_false, Int.natCast_nonneg, Int.toNat_natCast, List.length_map, implies_true, Int.cast_ofNat_Int, List.mem_cons, List.not_mem_nil, forall_eq_or_imp, forall_eq, false_implies, List.replicate_succ, List.replicate_zero, List.set_cons_zero, List.set_cons_succ, List.length_set, Nat.zero_add, Nat.not_succ_le_self, Nat.mul_one, exec_loop, Rst, keys1, keys2, keysB, proms, prom, keepV, freshV, freshC, freshB, liveVer, mpVer, pk, ded, insH, sortH, rnP, rnA, rnM, List.map_nil, St.of, List.map_cons, c5_2, h0, List.take_zero, List.any_nil]
    exact ⟨_, _, rfl, fun _ => ⟨rfl, rfl, rfl, rfl, rfl, rfl, rfl, rfl⟩⟩
  | succ n ih =>
    intro k h
    have h0 : (k : Int) < (i : Int) := by omega
    have h0' : (k : Int) < (l.length : Int) := by omega
    obtain ⟨x, hx⟩ := get_of_lt (l := l) (i := k) (by omega)
    have h8 : IntKind.i64.wrap ((k : Int) + 1) = ((k + 1 : Nat) : Int) := by rw [wrap64_id] <;> omega
    have h7 := ih (k + 1) (by omega)
    rw [Loop_eq, drop_get hx, List.take_succ_cons, List.any_cons]
    by_cases hS : x.number = y.number
    · simp -implicitDefEqProofs only [fns_5, c5, body, startSt, pkeys, slots, recvL, recv, noH, finish, resPV, outRs, outR, outC, outCs, outMs, go_sem, Nat.reduceShiftRight, Nat.reduceAnd, reduceIte, reduceCtorEq, Nat.reduceEqDiff, Nat.reduceAdd, Nat.reduceMul, Nat.reduceSub, Nat.reduceLT, Nat.reduceLeDiff, Nat.reduceBEq, Nat.reduceBNe, Int.reduceToNat, Int.reduceLT, Int.reduceLE, Int.reduceEq, Int.reduceNe, Int.reduceMul, Int.reduceAdd, Int.reduceSub, Int.reduceNeg, or_self, true_or, or_true, false_or, or_false, Int.natCast_nonneg, Int.toNat_natCast, List.length_map, implies_true, Int.cast_ofNat_Int, List.mem_cons, List.not_mem_nil, forall_eq_or_imp, forall_eq, false_implies, List.replicate_succ, List.replicate_zero, List.set_cons_zero, List.set_cons_succ, List.length_set, Nat.zero_add, Nat.not_succ_le_self, Nat.mul_one, exec_loop, Rst, keys1, keys2, keysB, proms, prom, keepV, freshV, freshC, freshB, liveVer, mpVer, pk, ded, insH, sortH, rnP, rnA, rnM, List.map_nil, St.of, List.map_cons, c5_2, h0, h0', hi, getD_map bkC hx, getD_map bkC hy, bkC, hS]
      exact ⟨_, _, rfl, fun _ => rfl⟩
    · simp -implicitDefEqProofs only [fns_5, c5, body, startSt, pkeys, slots, recvL, recv, noH, finish, resPV, outRs, outR, outC, outCs, outMs, go_sem, Nat.reduceShiftRight, Nat.reduceAnd, reduceIte, reduceCtorEq, Nat.reduceEqDiff, Nat.reduceAdd, Nat.reduceMul, Nat.reduceSub, Nat.reduceLT, Nat.reduceLeDiff, Nat.reduceBEq, Nat.reduceBNe, Int.reduceToNat, Int.reduceLT, Int.reduceLE, Int.reduceEq, Int.reduceNe, Int.reduceMul, Int.reduceAdd, Int.reduceSub, Int.reduceNeg, or_self, true_or, or_true, false_or, or_false, Int.natCast_nonneg, Int.toNat_natCast, List.length_map, implies_true, Int.cast_ofNat_Int, List.mem_cons, List.not_mem_nil, forall_eq_or_imp, forall_eq, false_implies, List.replicate_succ, List.replicate_zero, List.set_cons_zero, List.set_cons_succ, List.length_set, Nat.zero_add, Nat.not_succ_le_self, Nat.mul_one, exec_loop, Rst, keys1, keys2, keysB, proms, prom, keepV, freshV, freshC, freshB, liveVer, mpVer, pk, ded, insH, sortH, rnP, rnA, rnM, List.map_nil, St.of, List.map_cons, c5_2, h0, h0', hi, getD_map bkC hx, getD_map bkC hy, bkC, hS, h8]
      exact h7
def moreBad (l : List Blo) (i : Nat) (x : Blo) : Bool := decide (x.born < 0) || decide (1099511627776 < x.born) || (decide (0 < i) && decide (x.born < bornAt l (i - 1))) || (l.take i).any (fun b => decide (b.number = x.number))
def moreOk (l : List Blo) : Nat → Nat → Bool
  | 0, _ => true
  | n + 1, i => match l[i]? with | some x => !moreBad l i x && moreOk l n (i + 1) | none => true
theorem moreOk_bad {l : List Blo} {n i : Nat} {x : Blo} (hx : l[i]? = some x) (h : moreBad l i x = true) : moreOk l (n + 1) i = false := by simp [moreOk, hx, h]
theorem moreOk_good {l : List Blo} {n i : Nat} {x : Blo} (hx : l[i]? = some x) (h : moreBad l i x = false) : moreOk l (n + 1) i = moreOk l n (i + 1) := by simp [moreOk, hx, h]
theorem bornAt_get {l : List Blo} {i : Nat} {x : Blo} (hx : l[i]? = some x) : bornAt l i = x.born := by simp [bornAt, hx]
theorem MoresLoop (ln : Bool) (l : List Blo) (a1 a2 a3 a4 a5 : Int) (hM : (l.length : Int) ≤ 1000000) : ∀ (n i : Nat), i + n = l.length →
   ∃ f H, Pi.Loop (exec cx (Cal cx) c5_0) (Rst Try.prog ([(0, none), (1, none), (2, none), (3, none), (4, none), (5, none), (14, none)], [])) (St.mk (sF [(0, .sh ln (l.map bkC)), (1, .s (.int .i64 a1)), (2, .s (.int .i64 a2)), (3, .s (.int .i64 a3)), (4, .s (.int .i64 a4)), (5, .s (.int .i64 a5)), (14, .s (.int .i64 i))]) (hF [])) = some ((if moreOk l n i = true then .ex 0 else .ret), St.mk f H) ∧
     (moreOk l n i = false → f 12 = .s (.bool true)) ∧
     (moreOk l n i = true → f 0 = .sh ln (l.map bkC) ∧ f 1 = .s (.int .i64 a1) ∧ f 2 = .s (.int .i64 a2) ∧ f 3 = .s (.int .i64 a3) ∧ f 4 = .s (.int .i64 a4) ∧ f 5 = .s (.int .i64 a5) ∧ H = hF []) := by
  intro n
  induction n with
  | zero =>
    intro i h
    have h0 : ¬ (i : Int) < (l.length : Int) := by omega
    rw [Loop_eq]
    simp -implicitDefEqProofs only [fns_5, c5, body, startSt, pkeys, slots, recvL, recv, noH, finish, resPV, outRs, outR, outC, outCs, outMs, go_sem, Nat.reduceShiftRight, Nat.reduceAnd, reduceIte, reduceCtorEq, Nat.reduceEqDiff, Nat.reduceAdd, Nat.reduceMul, Nat.reduceSub, Nat.reduceLT, Nat.reduceLeDiff, Nat.reduceBEq, Nat.reduceBNe, Int.reduceToNat, Int.reduceLT, Int.reduceLE, Int.reduceEq, Int.reduceNe, Int.reduceMul, Int.reduceAdd, Int.reduceSub, Int.reduceNeg, or_self, true_or, or_true, false_or, or_false, Int.natCast_nonneg, Int.toNat_natCast, List.length_map, implies_true, Int.cast_ofNat_Int, List.mem_cons, List.not_mem_nil, forall_eq_or_imp, forall_eq, false_implies, List.replicate_succ, List.replicate_zero, List.set_cons_zero, List.set_cons_succ, List.length_set, Nat.zero_add, Nat.not_succ_le_self, Nat.mul_one, exec_loop, Rst, keys1, keys2, keysB, proms, prom, keepV, freshV, freshC, freshB, liveVer, mpVer, pk, ded, insH, sortH, rnP, rnA, rnM, List.map_nil, St.of, List.map_cons, c5_0, h0, moreOk]
    exact ⟨_, _, rfl, fun _ => ⟨rfl, rfl, rfl, rfl, rfl, rfl, rfl⟩⟩
  | succ n ih =>
    intro i h
    have h0 : (i : Int) < (l.length : Int) := by omega
    obtain ⟨x, hx⟩ := get_of_lt (l := l) (i := i) (by omega)
    have h8 : IntKind.i64.wrap ((i : Int) + 1) = ((i + 1 : Nat) : Int) := by rw [wrap64_id] <;> omega
    have h7 := ih (i + 1) (by omega)
    rw [Loop_eq]
    by_cases hA : x.born < 0
    · have e : moreOk l (n + 1) i = false := moreOk_bad hx (by simp [moreBad, hA])
      simp -implicitDefEqProofs only [fns_5, c5, body, startSt, pkeys, slots, recvL, recv, noH, finish, resPV, outRs, outR, outC, outCs, outMs, go_sem, Nat.reduceShiftRight, Nat.reduceAnd, reduceIte, reduceCtorEq, Nat.reduceEqDiff, Nat.reduceAdd, Nat.reduceMul, Nat.reduceSub, Nat.reduceLT, Nat.reduceLeDiff, Nat.reduceBEq, Nat.reduceBNe, Int.reduceToNat, Int.reduceLT, Int.reduceLE, Int.reduceEq, Int.reduceNe, Int.reduceMul, Int.reduceAdd, Int.reduceSub, Int.reduceNeg, or_self, true_or, or_true, false_or, or_false, Int.natCast_nonneg, Int.toNat_natCast, List.length_map, implies_true, Int.cast_ofNat_Int, List.mem_cons, List.not_mem_nil, forall_eq_or_imp, forall_eq, false_implies, List.replicate_succ, List.replicate_zero, List.set_cons_zero, List.set_cons_succ, List.length_set, Nat.zero_add, Nat.not_succ_le_self, Nat.mul_one, exec_loop, Rst, keys1, keys2, keysB, proms, prom, keepV, freshV, freshC, freshB, liveVer, mpVer, pk, ded, insH, sortH, rnP, rnA, rnM, List.map_nil, St.of, List.map_cons, c5_0, h0, getD_map bkC hx, bkC, hA, e]
      exact ⟨_, _, rfl, fun _ => rfl⟩
    · by_cases hB : (1099511627776 : Int) < x.born
      · have e : moreOk l (n + 1) i = false := moreOk_bad hx (by simp [moreBad, hB])
        simp -implicitDefEqProofs only [fns_5, c5, body, startSt, pkeys, slots, recvL, recv, noH, finish, resPV, outRs, outR, outC, outCs, outMs, go_sem, Nat.reduceShiftRight, Nat.reduceAnd, reduceIte, reduceCtorEq, Nat.reduceEqDiff, Nat.reduceAdd, Nat.reduceMul, Nat.reduceSub, Nat.reduceLT, Nat.reduceLeDiff, Nat.reduceBEq, Nat.reduceBNe, Int.reduceToNat, Int.reduceLT, Int.reduceLE, Int.reduceEq, Int.reduceNe, Int.reduceMul, Int.reduceAdd, Int.reduceSub, Int.reduceNeg, or_self, true_or, or_true, false_or, or_false, Int.natCast_nonneg, Int.toNat_natCast, List.length_map, implies_true, Int.cast_ofNat_Int, List.mem_cons, List.not_mem_nil, forall_eq_or_imp, forall_eq, false_implies, List.replicate_succ, List.replicate_zero, List.set_cons_zero, List.set_cons_succ, List.length_set, Nat.zero_add, Nat.not_succ_le_self, Nat.mul_one, exec_loop, Rst, keys1, keys2, keysB, proms, prom, keepV, freshV, freshC, freshB, liveVer, mpVer, pk, ded, insH, sortH, rnP, rnA, rnM, List.map_nil, St.of, List.map_cons, c5_0, h0, getD_map bkC hx, bkC, hA, hB, e]
        exact ⟨_, _, rfl, fun _ => rfl⟩
      · obtain ⟨f, H, g1, g2, g3⟩ := MoreTwin ln l a1 a2 a3 a4 a5 hM i x hx i 0 (by omega)
        simp only [Int.cast_ofNat_Int, List.drop_zero] at g1 g2 g3
        by_cases hi : (0 : Int) < (i : Int)
        · obtain ⟨j, hj⟩ : ∃ j, j + 1 = i := ⟨i - 1, by omega⟩
          obtain ⟨y, hy⟩ := get_of_lt (l := l) (i := j) (by omega)
          have hj0 : (j : Int) < (l.length : Int) := by omega
          have h9 : IntKind.i64.wrap ((i : Int) - 1) = (j : Int) := by rw [wrap64_id] <;> omega
          have hb : bornAt l (i - 1) = y.born := bornAt_get (by rw [show i - 1 = j by omega]; exact hy)
          by_cases hC : x.born < y.born
          · have e : moreOk l (n + 1) i = false := moreOk_bad hx (by simp [moreBad, hb, hC]; omega)
            simp -implicitDefEqProofs only [fns_5, c5, body, startSt, pkeys, slots, recvL, recv, noH, finish, resPV, outRs, outR, outC, outCs, outMs, go_sem, Nat.reduceShiftRight, Nat.reduceAnd, reduceIte, reduceCtorEq, Nat.reduceEqDiff, Nat.reduceAdd, Nat.reduceMul, Nat.reduceSub, Nat.reduceLT, Nat.reduceLeDiff, Nat.reduceBEq, Nat.reduceBNe, Int.reduceToNat, Int.reduceLT, Int.reduceLE, Int.reduceEq, Int.reduceNe, Int.reduceMul, Int.reduceAdd, Int.reduceSub, Int.reduceNeg, or_self, true_or, or_true, false_or, or_false, Int.natCast_nonneg, Int.toNat_natCast, List.length_map, implies_true, Int.cast_ofNat_Int, List.mem_cons, List.not_mem_nil, forall_eq_or_imp, forall_eq, false_implies, List.replicate_succ, List.replicate_zero, List.set_cons_zero, List.set_cons_succ, List.length_set, Nat.zero_add, Nat.not_succ_le_self, Nat.mul_one, exec_loop, Rst, keys1, keys2, keysB, proms, prom, keepV, freshV, freshC, freshB, liveVer, mpVer, pk, ded, insH, sortH, rnP, rnA, rnM, List.map_nil, St.of, List.map_cons, c5_0, h0, hj0, getD_map bkC hx, getD_map bkC hy, bkC, hA, hB, hi, h9, hC, e]
            exact ⟨_, _, rfl, fun _ => rfl⟩
          · cases hT : (l.take i).any (fun b => decide (b.number = x.number))
            · have e : moreOk l (n + 1) i = moreOk l n (i + 1) := moreOk_good hx (by simp only [moreBad, hb, hT]; simp; omega)
              rw [hT] at g1 g3
              obtain ⟨k0, k1, k2, k3, k4, k5, k6, k7⟩ := g3 rfl
              simp -implicitDefEqProofs only [fns_5, c5, body, startSt, pkeys, slots, recvL, recv, noH, finish, resPV, outRs, outR, outC, outCs, outMs, go_sem, Nat.reduceShiftRight, Nat.reduceAnd, reduceIte, reduceCtorEq, Nat.reduceEqDiff, Nat.reduceAdd, Nat.reduceMul, Nat.reduceSub, Nat.reduceLT, Nat.reduceLeDiff, Nat.reduceBEq, Nat.reduceBNe, Int.reduceToNat, Int.reduceLT, Int.reduceLE, Int.reduceEq, Int.reduceNe, Int.reduceMul, Int.reduceAdd, Int.reduceSub, Int.reduceNeg, or_self, true_or, or_true, false_or, or_false, Int.natCast_nonneg, Int.toNat_natCast, List.length_map, implies_true, Int.cast_ofNat_Int, List.mem_cons, List.not_mem_nil, forall_eq_or_imp, forall_eq, false_implies, List.replicate_succ, List.replicate_zero, List.set_cons_zero, List.set_cons_succ, List.length_set, Nat.zero_add, Nat.not_succ_le_self, Nat.mul_one, exec_loop, Rst, keys1, keys2, keysB, proms, prom, keepV, freshV, freshC, freshB, liveVer, mpVer, pk, ded, insH, sortH, rnP, rnA, rnM, List.map_nil, St.of, List.map_cons, c5_0, h0, hj0, getD_map bkC hx, getD_map bkC hy, bkC, hA, hB, hi, h9, hC, e, g1, k0, k1, k2, k3, k4, k5, k6, k7, h8]
              exact h7
            · have e : moreOk l (n + 1) i = false := moreOk_bad hx (by simp only [moreBad, hT]; simp)
              rw [hT] at g1 g2
              have k0 := g2 rfl
              simp -implicitDefEqProofs only [fns_5, c5, body, startSt, pkeys, slots, recvL, recv, noH, finish, resPV, outRs, outR, outC, outCs, outMs, go_sem, Nat.reduceShiftRight, Nat.reduceAnd, reduceIte, reduceCtorEq, Nat.reduceEqDiff, Nat.reduceAdd, Nat.reduceMul, Nat.reduceSub, Nat.reduceLT, Nat.reduceLeDiff, Nat.reduceBEq, Nat.reduceBNe, Int.reduceToNat, Int.reduceLT, Int.reduceLE, Int.reduceEq, Int.reduceNe, Int.reduceMul, Int.reduceAdd, Int.reduceSub, Int.reduceNeg, or_self, true_or, or_true, false_or, or_false, Int.natCast_nonneg, Int.toNat_natCast, List.length_map, implies_true, Int.cast_ofNat_Int, List.mem_cons, List.not_mem_nil, forall_eq_or_imp, forall_eq, false_implies, List.replicate_succ, List.replicate_zero, List.set_cons_zero, List.set_cons_succ, List.length_set, Nat.zero_add, Nat.not_succ_le_self, Nat.mul_one, exec_loop, Rst, keys1, keys2, keysB, proms, prom, keepV, freshV, freshC, freshB, liveVer, mpVer, pk, ded, insH, sortH, rnP, rnA, rnM, List.map_nil, St.of, List.map_cons, c5_0, h0, hj0, getD_map bkC hx, getD_map bkC hy, bkC, hA, hB, hi, h9, hC, e, g1, k0]
              exact ⟨_, _, rfl, fun _ => k0⟩
        · cases hT : (l.take i).any (fun b => decide (b.number = x.number))
          · have e : moreOk l (n + 1) i = moreOk l n (i + 1) := moreOk_good hx (by simp only [moreBad, hT]; simp; omega)
            rw [hT] at g1 g3
            obtain ⟨k0, k1, k2, k3, k4, k5, k6, k7⟩ := g3 rfl
            simp -implicitDefEqProofs only [fns_5, c5, body, startSt, pkeys, slots, recvL, recv, noH, finish, resPV, outRs, outR, outC, outCs, outMs, go_sem, Nat.reduceShiftRight, Nat.reduceAnd, reduceIte, reduceCtorEq, Nat.reduceEqDiff, Nat.reduceAdd, Nat.reduceMul, Nat.reduceSub, Nat.reduceLT, Nat.reduceLeDiff, Nat.reduceBEq, Nat.reduceBNe, Int.reduceToNat, Int.reduceLT, Int.reduceLE, Int.reduceEq, Int.reduceNe, Int.reduceMul, Int.reduceAdd, Int.reduceSub, Int.reduceNeg, or_self, true_or, or_true, false_or, or_false, Int.natCast_nonneg, Int.toNat_natCast, List.length_map, implies_true, Int.cast_ofNat_Int, List.mem_cons, List.not_mem_nil, forall_eq_or_imp, forall_eq, false_implies, List.replicate_succ, List.replicate_zero, List.set_cons_zero, List.set_cons_succ, List.length_set, Nat.zero_add, Nat.not_succ_le_self, Nat.mul_one, exec_loop, Rst, keys1, keys2, keysB, proms, prom, keepV, freshV, freshC, freshB, liveVer, mpVer, pk, ded, insH, sortH, rnP, rnA, rnM, List.map_nil, St.of, List.map_cons, c5_0, h0, getD_map bkC hx, bkC, hA, hB, hi, e, g1, k0, k1, k2, k3, k4, k5, k6, k7, h8]
            exact h7
          · have e : moreOk l (n + 1) i = false := moreOk_bad hx (by simp only [moreBad, hT]; simp)
            rw [hT] at g1 g2
            have k0 := g2 rfl
            simp -implicitDefEqProofs only [fns_5, c5, body, startSt, pkeys, slots, recvL, recv, noH, finish, resPV, outRs, outR, outC, outCs, outMs, go_sem, Nat.reduceShiftRight, Nat.reduceAnd, reduceIte, reduceCtorEq, Nat.reduceEqDiff, Nat.reduceAdd, Nat.reduceMul, Nat.reduceSub, Nat.reduceLT, Nat.reduceLeDiff, Nat.reduceBEq, Nat.reduceBNe, Int.reduceToNat, Int.reduceLT, Int.reduceLE, Int.reduceEq, Int.reduceNe, Int.reduceMul, Int.reduceAdd, Int.reduceSub, Int.reduceNeg, or_self, true_or, or_true, false_or, or_false, Int.natCast_nonneg, Int.toNat_natCast, List.length_map, implies_true, Int.cast_ofNat_Int, List.mem_cons, List.not_mem_nil, forall_eq_or_imp, forall_eq, false_implies, List.replicate_succ, List.replicate_zero, List.set_cons_zero, List.set_cons_succ, List.length_set, Nat.zero_add, Nat.not_succ_le_self, Nat.mul_one, exec_loop, Rst, keys1, keys2, keysB, proms, prom, keepV, freshV, freshC, freshB, liveVer, mpVer, pk, ded, insH, sortH, rnP, rnA, rnM, List.map_nil, St.of, List.map_cons, c5_0, h0, getD_map bkC hx, bkC, hA, hB, hi, e, g1, k0]
            exact ⟨_, _, rfl, fun _ => k0⟩
theorem ThereLoop (xs ys : List Int) (hM : (xs.length : Int) ≤ 1000000) (i : Nat) (y : Int) (hy : ys[i]? = some y) : ∀ (n k : Nat) (t : Bool), k + n = xs.length →
   ∃ f H, Pi.Loop (exec cx (Cal cx) c5_6) (Rst Try.prog ([(16, some 3), (17, some 3), (18, none), (19, none), (20, none)], [])) (St.mk (sF [(16, .sl 500016 0 0 xs.length), (17, .sl 500017 0 0 ys.length), (18, .s (.int .i64 i)), (19, .s (.bool t)), (20, .s (.int .i64 k))]) (hF [(500016, oRow xs), (500017, oRow ys)])) = some (.ex 6, St.mk f H) ∧
     f 16 = .sl 500016 0 0 xs.length ∧ f 17 = .sl 500017 0 0 ys.length ∧ f 18 = .s (.int .i64 i) ∧ f 19 = .s (.bool (t || (xs.drop k).any (fun x => decide (x = y)))) ∧ H 500016 = oRow xs ∧ H 500017 = oRow ys := by
  intro n
  have hi : (i : Int) < (ys.length : Int) := by
    obtain ⟨h, _⟩ := List.getElem?_eq_some_iff.1 hy
    omega
  induction n with
  | zero =>
    intro k t h
    have h0 : ¬ (k : Int) < (xs.length : Int) := by omega
    rw [Loop_eq, drop_end (by omega)]
    simp -implicitDefEqProofs only [fns_5, c5, body, startSt, pkeys, slots, recvL, recv, noH, finish, resPV, outRs, outR, outC, outCs, outMs, go_sem, Nat.reduceShiftRight, Nat.reduceAnd, reduceIte, reduceCtorEq, Nat.reduceEqDiff, Nat.reduceAdd, Nat.reduceMul, Nat.reduceSub, Nat.reduceLT, Nat.reduceLeDiff, Nat.reduceBEq, Nat.reduceBNe, Int.reduceToNat, Int.reduceLT, Int.reduceLE, Int.reduceEq, Int.reduceNe, Int.reduceMul, Int.reduceAdd, Int.reduceSub, Int.reduceNeg, or_self, true_or, or_true, false_or, or_false, Int.natCast_nonneg, Int.toNat_natCast, List.length_map, implies_true, Int.cast_ofNat_Int, List.mem_cons, List.not_mem_nil, forall_eq_or_imp, forall_eq, false_implies, List.replicate_succ, List.replicate_zero, List.set_cons_zero, List.set_cons_succ, List.length_set, Nat.zero_add, Nat.not_succ_le_self, Nat.mul_one, exec_loop, Rst, keys1, keys2, keysB, proms, prom, keepV, freshV, freshC, freshB, liveVer, mpVer, pk, ded, insH, sortH, rnP, rnA, rnM, List.map_nil, St.of, List.map_cons, c5_6, h0, List.any_nil, Bool.or_false]
    exact ⟨_, _, rfl, rfl, rfl, rfl, rfl, rfl, rfl⟩
  | succ n ih =>
    intro k t h
    have h0 : (k : Int) < (xs.length : Int) := by omega
    have hkn : k < xs.length := by omega
    have hin : i < ys.length := by omega
    obtain ⟨x, hx⟩ := get_of_lt (l := xs) (i := k) (by omega)
    have h8 : IntKind.i64.wrap ((k : Int) + 1) = ((k + 1 : Nat) : Int) := by rw [wrap64_id] <;> omega
    rw [Loop_eq, drop_get hx, List.any_cons, ← Bool.or_assoc]
    cases t
    · have h7 := ih (k + 1) (decide (x = y)) (by omega)
      rw [Bool.false_or]
      by_cases hS : x = y
      · simp only [hS, decide_true] at h7 ⊢
        subst hS
        simp -implicitDefEqProofs only [fns_5, c5, body, startSt, pkeys, slots, recvL, recv, noH, finish, resPV, outRs, outR, outC, outCs, outMs, go_sem, Nat.reduceShiftRight, Nat.reduceAnd, reduceIte, reduceCtorEq, Nat.reduceEqDiff, Nat.reduceAdd, Nat.reduceMul, Nat.reduceSub, Nat.reduceLT, Nat.reduceLeDiff, Nat.reduceBEq, Nat.reduceBNe, Int.reduceToNat, Int.reduceLT, Int.reduceLE, Int.reduceEq, Int.reduceNe, Int.reduceMul, Int.reduceAdd, Int.reduceSub, Int.reduceNeg, or_self, true_or, or_true, false_or, or_false, Int.natCast_nonneg, Int.toNat_natCast, List.length_map, implies_true, Int.cast_ofNat_Int, List.mem_cons, List.not_mem_nil, forall_eq_or_imp, forall_eq, false_implies, List.replicate_succ, List.replicate_zero, List.set_cons_zero, List.set_cons_succ, List.length_set, Nat.zero_add, Nat.not_succ_le_self, Nat.mul_one, exec_loop, Rst, keys1, keys2, keysB, proms, prom, keepV, freshV, freshC, freshB, liveVer, mpVer, pk, ded, insH, sortH, rnP, rnA, rnM, List.map_nil, St.of, List.map_cons, c5_6, h0, hi, getD_map iC hx, getD_map iC hy, iC, hkn, hin, h8]
        exact h7
      · simp only [hS, decide_false] at h7 ⊢
        simp -implicitDefEqProofs only [fns_5, c5, body, startSt, pkeys, slots, recvL, recv, noH, finish, resPV, outRs, outR, outC, outCs, outMs, go_sem, Nat.reduceShiftRight, Nat.reduceAnd, reduceIte, reduceCtorEq, Nat.reduceEqDiff, Nat.reduceAdd, Nat.reduceMul, Nat.reduceSub, Nat.reduceLT, Nat.reduceLeDiff, Nat.reduceBEq, Nat.reduceBNe, Int.reduceToNat, Int.reduceLT, Int.reduceLE, Int.reduceEq, Int.reduceNe, Int.reduceMul, Int.reduceAdd, Int.reduceSub, Int.reduceNeg, or_self, true_or, or_true, false_or, or_false, Int.natCast_nonneg, Int.toNat_natCast, List.length_map, implies_true, Int.cast_ofNat_Int, List.mem_cons, List.not_mem_nil, forall_eq_or_imp, forall_eq, false_implies, List.replicate_succ, List.replicate_zero, List.set_cons_zero, List.set_cons_succ, List.length_set, Nat.zero_add, Nat.not_succ_le_self, Nat.mul_one, exec_loop, Rst, keys1, keys2, keysB, proms, prom, keepV, freshV, freshC, freshB, liveVer, mpVer, pk, ded, insH, sortH, rnP, rnA, rnM, List.map_nil, St.of, List.map_cons, c5_6, h0, hi, getD_map iC hx, getD_map iC hy, iC, hkn, hin, hS, h8]
        exact h7
    · have h7 := ih (k + 1) true (by omega)
      rw [Bool.true_or]
      simp -implicitDefEqProofs only [fns_5, c5, body, startSt, pkeys, slots, recvL, recv, noH, finish, resPV, outRs, outR, outC, outCs, outMs, go_sem, Nat.reduceShiftRight, Nat.reduceAnd, reduceIte, reduceCtorEq, Nat.reduceEqDiff, Nat.reduceAdd, Nat.reduceMul, Nat.reduceSub, Nat.reduceLT, Nat.reduceLeDiff, Nat.reduceBEq, Nat.reduceBNe, Int.reduceToNat, Int.reduceLT, Int.reduceLE, Int.reduceEq, Int.reduceNe, Int.reduceMul, Int.reduceAdd, Int.reduceSub, Int.reduceNeg, or_self, true_or, or_true, false_or, or_false, Int.natCast_nonneg, Int.toNat_natCast, List.length_map, implies_true, Int.cast_ofNat_Int, List.mem_cons, List.not_mem_nil, forall_eq_or_imp, forall_eq, false_implies, List.replicate_succ, List.replicate_zero, List.set_cons_zero, List.set_cons_succ, List.length_set, Nat.zero_add, Nat.not_succ_le_self, Nat.mul_one, exec_loop, Rst, keys1, keys2, keysB, proms, prom, keepV, freshV, freshC, freshB, liveVer, mpVer, pk, ded, insH, sortH, rnP, rnA, rnM, List.map_nil, St.of, List.map_cons, c5_6, h0, hi, getD_map iC hx, getD_map iC hy, iC, hkn, hin, h8]
      exact h7
theorem EveryLoop (xs ys : List Int) (hM : (xs.length : Int) ≤ 1000000) (hM2 : (ys.length : Int) ≤ 1000000) (hS : ∀ y ∈ ys, y ∈ xs) : ∀ (n i : Nat), i + n = ys.length →
   ∃ f H, Pi.Loop (exec cx (Cal cx) c5_4) (Rst Try.prog ([(16, some 3), (17, some 3), (18, none)], [])) (St.mk (sF [(16, .sl 500016 0 0 xs.length), (17, .sl 500017 0 0 ys.length), (18, .s (.int .i64 i))]) (hF [(500016, oRow xs), (500017, oRow ys)])) = some (.ex 4, St.mk f H) ∧
     f 16 = .sl 500016 0 0 xs.length ∧ f 17 = .sl 500017 0 0 ys.length ∧ H 500016 = oRow xs ∧ H 500017 = oRow ys := by
  intro n
  induction n with
  | zero =>
    intro i h
    have h0 : ¬ (i : Int) < (ys.length : Int) := by omega
    rw [Loop_eq]
    simp -implicitDefEqProofs only [fns_5, c5, body, startSt, pkeys, slots, recvL, recv, noH, finish, resPV, outRs, outR, outC, outCs, outMs, go_sem, Nat.reduceShiftRight, Nat.reduceAnd, reduceIte, reduceCtorEq, Nat.reduceEqDiff, Nat.reduceAdd, Nat.reduceMul, Nat.reduceSub, Nat.reduceLT, Nat.reduceLeDiff, Nat.reduceBEq, Nat.reduceBNe, Int.reduceToNat, Int.reduceLT, Int.reduceLE, Int.reduceEq, Int.reduceNe, Int.reduceMul, Int.reduceAdd, Int.reduceSub, Int.reduceNeg, or_self, true_or, or_true, false_or, or_false, Int.natCast_nonneg, Int.toNat_natCast, List.length_map, implies_true, Int.cast_ofNat_Int, List.mem_cons, List.not_mem_nil, forall_eq_or_imp, forall_eq, false_implies, List.replicate_succ, List.replicate_zero, List.set_cons_zero, List.set_cons_succ, List.length_set, Nat.zero_add, Nat.not_succ_le_self, Nat.mul_one, exec_loop, Rst, keys1, keys2, keysB, proms, prom, keepV, freshV, freshC, freshB, liveVer, mpVer, pk, ded, insH, sortH, rnP, rnA, rnM, List.map_nil, St.of, List.map_cons, c5_4, h0]
    exact ⟨_, _, rfl, rfl, rfl, rfl, rfl⟩
  | succ n ih =>
    intro i h
    have h0 : (i : Int) < (ys.length : Int) := by omega
    obtain ⟨y, hy⟩ := get_of_lt (l := ys) (i := i) (by omega)
    have h8 : IntKind.i64.wrap ((i : Int) + 1) = ((i + 1 : Nat) : Int) := by rw [wrap64_id] <;> omega
    have h7 := ih (i + 1) (by omega)
    obtain ⟨f, H, g1, g2, g3, g4, g5, g6, g7⟩ := ThereLoop xs ys hM i y hy xs.length 0 false (by omega)
    have hm : (xs.any (fun x => decide (x = y))) = true := by
      rw [List.any_eq_true]
      exact ⟨y, hS y (mem_get hy), by simp⟩
    simp only [Int.cast_ofNat_Int, List.drop_zero, Bool.false_or, hm] at g1 g5
    rw [Loop_eq]
    simp -implicitDefEqProofs only [fns_5, c5, body, startSt, pkeys, slots, recvL, recv, noH, finish, resPV, outRs, outR, outC, outCs, outMs, go_sem, Nat.reduceShiftRight, Nat.reduceAnd, reduceIte, reduceCtorEq, Nat.reduceEqDiff, Nat.reduceAdd, Nat.reduceMul, Nat.reduceSub, Nat.reduceLT, Nat.reduceLeDiff, Nat.reduceBEq, Nat.reduceBNe, Int.reduceToNat, Int.reduceLT, Int.reduceLE, Int.reduceEq, Int.reduceNe, Int.reduceMul, Int.reduceAdd, Int.reduceSub, Int.reduceNeg, or_self, true_or, or_true, false_or, or_false, Int.natCast_nonneg, Int.toNat_natCast, List.length_map, implies_true, Int.cast_ofNat_Int, List.mem_cons, List.not_mem_nil, forall_eq_or_imp, forall_eq, false_implies, List.replicate_succ, List.replicate_zero, List.set_cons_zero, List.set_cons_succ, List.length_set, Nat.zero_add, Nat.not_succ_le_self, Nat.mul_one, exec_loop, Rst, keys1, keys2, keysB, proms, prom, keepV, freshV, freshC, freshB, liveVer, mpVer, pk, ded, insH, sortH, rnP, rnA, rnM, List.map_nil, St.of, List.map_cons, c5_4, h0, g1, g2, g3, g4, g5, g6, g7, h8]
    exact h7
/-! The plain law. -/
def stopN (B : Int) : List Blo → Nat
  | [] => 0
  | x :: r => if B < total (x :: r) ∧ 1 < (x :: r).length then stopN B r + 1 else 0
def cnt (now keep B : Int) : List Blo → Nat
  | [] => 0
  | x :: r => if old now keep x = true then cnt now keep B r + 1 else stopN B (x :: r)
def Up (l : List Blo) : Prop := l.Pairwise fun a b => a.born ≤ b.born
theorem amin_zero {l : List Blo} {x : Blo} {r : List Blo} (e : l = x :: r) (h : Up l) : ∀ (n i : Nat), i + n = l.length → aminF l n i 0 = 0
  | 0, i, _ => rfl
  | n + 1, i, hn => by
    have hb : ¬ bornAt l i < bornAt l 0 := by
      subst e
      obtain ⟨y, hy⟩ := get_of_lt (l := x :: r) (i := i) (by omega)
      rw [bornAt_get hy, bornAt_get (show (x :: r)[0]? = some x from rfl)]
      have := List.pairwise_cons.1 h
      rcases List.mem_cons.1 (mem_get hy) with e | e
      · subst e; omega
      · have := this.1 y e; omega
    unfold aminF
    rw [if_neg hb]
    exact amin_zero e h n (i + 1) (by omega)
theorem evict_take (B : Int) : ∀ (l : List Blo), Up l → evict B l.length l = (l.take (stopN B l)).map Blo.number
  | [], _ => rfl
  | x :: r, h => by
    have ho : oldest (x :: r) = 0 := amin_zero rfl h _ 0 (by omega)
    rw [List.length_cons, evict, stopN, ho]
    by_cases hc : B < total (x :: r) ∧ 1 < (x :: r).length
    · rw [if_pos hc, if_pos hc, List.eraseIdx_zero, List.tail_cons, evict_take B r (List.pairwise_cons.1 h).2, List.take_succ_cons, List.map_cons]
      rfl
    · rw [if_neg hc, if_neg hc]
      rfl
theorem choose_take (now keep B : Int) : ∀ (l : List Blo), Up l → (∀ b ∈ l, lessI now b.born = now - b.born) → choose l now keep B = (l.take (cnt now keep B l)).map Blo.number
  | [], _, _ => rfl
  | x :: r, h, hL => by
    have hp := List.pairwise_cons.1 h
    cases hx : old now keep x
    · have e1 : (x :: r).filter (old now keep) = [] := by
        rw [List.filter_eq_nil_iff]
        intro b hb
        have h1 := hL b hb
        have h2 := hL x List.mem_cons_self
        have h3 : x.born ≤ b.born := by
          rcases List.mem_cons.1 hb with e | e
          · subst e; omega
          · exact hp.1 b e
        unfold old at hx ⊢
        simp only [decide_eq_false_iff_not, decide_eq_true_eq, h1, h2] at hx ⊢
        omega
      have e2 : young now keep (x :: r) = x :: r := by
        unfold young
        rw [List.filter_eq_self]
        intro b hb
        have := List.filter_eq_nil_iff.1 e1 b hb
        simpa using this
      unfold choose
      rw [e1, e2, List.map_nil, List.nil_append, evict_take B _ h, cnt, if_neg (by simp [hx])]
    · have ih := choose_take now keep B r hp.2 (fun b hb => hL b (List.mem_cons_of_mem _ hb))
      have e2 : young now keep (x :: r) = young now keep r := by
        unfold young
        rw [List.filter_cons_of_neg (by simp [hx])]
      unfold choose at ih ⊢
      rw [List.filter_cons_of_pos hx, e2, cnt, if_pos hx, List.take_succ_cons, List.map_cons, List.map_cons, List.cons_append, ih]
theorem stop_mono {B C : Int} (hBC : B ≤ C) : ∀ l, stopN C l ≤ stopN B l
  | [] => Nat.le_refl _
  | x :: r => by
    have := stop_mono hBC r
    unfold stopN
    by_cases hc : C < total (x :: r) ∧ 1 < (x :: r).length
    · rw [if_pos hc, if_pos ⟨by omega, hc.2⟩]; omega
    · rw [if_neg hc]; omega
theorem stop_cnt {B C : Int} (hBC : B ≤ C) (now keep : Int) : ∀ l, stopN C l ≤ cnt now keep B l
  | [] => Nat.le_refl _
  | x :: r => by
    have h1 := stop_cnt hBC now keep r
    have h2 := stop_mono hBC (x :: r)
    unfold cnt
    split
    · unfold stopN
      split <;> omega
    · exact h2
theorem cnt_mono {B C : Int} (hBC : B ≤ C) {now k1 k2 : Int} (hk : k1 ≤ k2) : ∀ l, cnt now k2 C l ≤ cnt now k1 B l
  | [] => Nat.le_refl _
  | x :: r => by
    have h1 := cnt_mono hBC (now := now) hk r
    have h2 := stop_cnt hBC now k1 (x :: r)
    cases hx : old now k2 x
    · rw [cnt, if_neg (by simp [hx])]
      exact h2
    · have hy : old now k1 x = true := by
        unfold old at hx ⊢
        simp only [decide_eq_true_eq] at hx ⊢
        omega
      rw [cnt, if_pos hx, cnt, if_pos hy]
      omega
theorem moreOk_born {l : List Blo} : ∀ (n i : Nat), i + n = l.length → moreOk l n i = true → (∀ j x, i ≤ j → l[j]? = some x → 0 ≤ x.born ∧ x.born ≤ 1099511627776 ∧ (0 < j → bornAt l (j - 1) ≤ x.born))
  | 0, i, hn, _, j, x, hj, hx => by
    obtain ⟨h, _⟩ := List.getElem?_eq_some_iff.1 hx
    omega
  | n + 1, i, hn, h, j, x, hj, hx => by
    obtain ⟨y, hy⟩ := get_of_lt (l := l) (i := i) (by omega)
    cases hb : moreBad l i y
    · rw [moreOk_good hy hb] at h
      by_cases e : i = j
      · subst e
        rw [hx] at hy
        cases hy
        simp only [moreBad, Bool.or_eq_false_iff, Bool.and_eq_false_iff, decide_eq_false_iff_not] at hb
        obtain ⟨⟨⟨b1, b2⟩, b3⟩, _⟩ := hb
        refine ⟨by omega, by omega, fun h0 => ?_⟩
        rcases b3 with b3 | b3 <;> omega
      · exact moreOk_born n (i + 1) (by omega) h j x (by omega) hx
    · rw [moreOk_bad hy hb] at h
      cases h
theorem up_of {l : List Blo} (h : ∀ j x, l[j]? = some x → 0 < j → bornAt l (j - 1) ≤ x.born) : Up l := by
  unfold Up
  have key : ∀ (d i : Nat) x y, l[i]? = some x → l[i + d]? = some y → x.born ≤ y.born := by
    intro d
    induction d with
    | zero => intro i x y hx hy; rw [Nat.add_zero, hx] at hy; cases hy; omega
    | succ d ih =>
      intro i x y hx hy
      obtain ⟨hl, _⟩ := List.getElem?_eq_some_iff.1 hy
      obtain ⟨z1, hz⟩ := get_of_lt (l := l) (i := i + d) (by omega)
      have h1 := ih i x z1 hx hz
      have h2 := h (i + (d + 1)) y hy (by omega)
      rw [show i + (d + 1) - 1 = i + d by omega, bornAt_get hz] at h2
      omega
  rw [List.pairwise_iff_getElem]
  intro i j hi hj hij
  have := key (j - i) i l[i] l[j] (List.getElem?_eq_getElem hi) (by rw [show i + (j - i) = j by omega]; exact List.getElem?_eq_getElem hj)
  exact this
end Go.Proofs.Ytpfjchnpkolmkaa
