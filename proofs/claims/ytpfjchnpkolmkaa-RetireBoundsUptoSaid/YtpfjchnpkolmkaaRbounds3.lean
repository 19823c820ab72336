/- RetireBounds: the loops. Own work. -/
import Derived.Test.YtpfjchnpkolmkaaRbounds2
set_option linter.unusedVariables false
set_option linter.unusedSimpArgs false
namespace Go.Proofs.Ytpfjchnpkolmkaa
open Go Go.Pi
set_option maxHeartbeats 2000000
set_option maxRecDepth 10000
theorem FindLoop (ln : Bool) (l : List Blo) (xs : List Int) (now keep budget : Int) (i : Nat) (y : Int) (hy : xs[i]? = some y) (hM : (l.length : Int) ≤ 1000000) : ∀ (n k : Nat) (m : List Blo) (a : Int), k + n = l.length → m.length ≤ k →
   (∃ f H, Pi.Loop (exec cx (Cal cx) c3_6) (Rst Try.prog ([(1, none), (2, none), (3, none), (12, some 3), (13, some 27), (14, none), (15, some 27), (16, none), (17, none), (18, none)], [])) (St.mk (sF [(1, .s (.int .i64 now)), (2, .s (.int .i64 keep)), (3, .s (.int .i64 budget)), (12, .sl 500012 0 0 xs.length), (13, .sl 500013 0 0 l.length), (14, .s (.int .i64 i)), (15, .sl 500015 0 0 m.length), (16, .s (.int .i64 a)), (17, .s (.bool true)), (18, .s (.int .i64 k))]) (hF [(500012, oRow xs), (500013, lRow l), (500015, lRow m)])) = some (.ex 6, St.mk f H) ∧
     f 1 = .s (.int .i64 now) ∧ f 2 = .s (.int .i64 keep) ∧ f 3 = .s (.int .i64 budget) ∧ f 12 = .sl 500012 0 0 xs.length ∧ f 13 = .sl 500013 0 0 l.length ∧ f 14 = .s (.int .i64 i) ∧ f 15 = .sl 500015 0 0 (m ++ gone y (l.drop k)).length ∧ f 16 = .s (.int .i64 (lastAt y (l.drop k) k a)) ∧ f 17 = .s (.bool true) ∧ H 500012 = oRow xs ∧ H 500013 = lRow l ∧ H 500015 = lRow (m ++ gone y (l.drop k))) := by
  intro n
  have ha : (i : Int) < (xs.length : Int) := by
    obtain ⟨h, _⟩ := List.getElem?_eq_some_iff.1 hy
    omega
  have han : i < xs.length := by omega
  induction n with
  | zero =>
    intro k m a h hm
    have h0 : ¬ (k : Int) < (l.length : Int) := by omega
    rw [Loop_eq, drop_end (by omega)]
    simp -implicitDefEqProofs only [fns_3, c3, body, startSt, pkeys, slots, recvL, recv, noH, finish, resPV, outRs, outR, outC, outCs, outMs, go_sem, Nat.reduceShiftRight, Nat.reduceAnd, reduceIte, reduceCtorEq, Nat.reduceEqDiff, Nat.reduceAdd, Nat.reduceMul, Nat.reduceSub, Nat.reduceLT, Nat.reduceLeDiff, Nat.reduceBEq, Nat.reduceBNe, Int.reduceToNat, Int.reduceLT, Int.reduceLE, Int.reduceEq, Int.reduceNe, Int.reduceMul, Int.reduceAdd, Int.reduceSub, Int.reduceNeg, or_self, true_or, or_true, false_or, or_false, Int.natCast_nonneg, Int.toNat_natCast, List.length_map, implies_true, Int.cast_ofNat_Int, List.mem_cons, List.not_mem_nil, forall_eq_or_imp, forall_eq, false_implies, List.replicate_succ, List.replicate_zero, List.set_cons_zero, List.set_cons_succ, List.length_set, Nat.zero_add, Nat.not_succ_le_self, Nat.mul_one, exec_loop, Rst, keys1, keys2, keysB, proms, prom, keepV, freshV, freshC, freshB, liveVer, mpVer, pk, ded, insH, sortH, rnP, rnA, rnM, List.map_nil, St.of, List.map_cons, c3_6, h0, gone, lastAt, List.filter_nil, List.append_nil]
    exact ⟨_, _, rfl, rfl, rfl, rfl, rfl, rfl, rfl, rfl, rfl, rfl, rfl, rfl, rfl⟩
  | succ n ih =>
    intro k m a h hm
    have h0 : (k : Int) < (l.length : Int) := by omega
    have h0n : k < l.length := by omega
    obtain ⟨x, hx⟩ := get_of_lt (l := l) (i := k) (by omega)
    have h8 : IntKind.i64.wrap ((k : Int) + 1) = ((k + 1 : Nat) : Int) := by rw [wrap64_id] <;> omega
    have b2 : (m ++ [x]).length * 48 ≤ 140737488355328 := by simp; omega
    rw [Loop_eq, drop_get hx, lastAt]
    by_cases hS : x.number = y
    · have h7 := ih (k + 1) m k (by omega) (by omega)
      have e : gone y (x :: l.drop (k + 1)) = gone y (l.drop (k + 1)) := by unfold gone; rw [List.filter_cons_of_neg (by simp [hS])]
      rw [e, if_pos hS]
      simp -implicitDefEqProofs only [fns_3, c3, body, startSt, pkeys, slots, recvL, recv, noH, finish, resPV, outRs, outR, outC, outCs, outMs, go_sem, Nat.reduceShiftRight, Nat.reduceAnd, reduceIte, reduceCtorEq, Nat.reduceEqDiff, Nat.reduceAdd, Nat.reduceMul, Nat.reduceSub, Nat.reduceLT, Nat.reduceLeDiff, Nat.reduceBEq, Nat.reduceBNe, Int.reduceToNat, Int.reduceLT, Int.reduceLE, Int.reduceEq, Int.reduceNe, Int.reduceMul, Int.reduceAdd, Int.reduceSub, Int.reduceNeg, or_self, true_or, or_true, false_or, or_false, Int.natCast_nonneg, Int.toNat_natCast, List.length_map, implies_true, Int.cast_ofNat_Int, List.mem_cons, List.not_mem_nil, forall_eq_or_imp, forall_eq, false_implies, List.replicate_succ, List.replicate_zero, List.set_cons_zero, List.set_cons_succ, List.length_set, Nat.zero_add, Nat.not_succ_le_self, Nat.mul_one, exec_loop, Rst, keys1, keys2, keysB, proms, prom, keepV, freshV, freshC, freshB, liveVer, mpVer, pk, ded, insH, sortH, rnP, rnA, rnM, List.map_nil, St.of, List.map_cons, c3_6, h0, h0n, ha, han, getD_map bkC hx, getD_map iC hy, iC, bkC, hS, h8]
      exact h7
    · have h7 := ih (k + 1) (m ++ [x]) a (by omega) (by simp; omega)
      have e : gone y (x :: l.drop (k + 1)) = x :: gone y (l.drop (k + 1)) := by unfold gone; rw [List.filter_cons_of_pos (by simp [hS])]
      rw [e, if_neg hS]
      simp only [List.append_assoc, List.singleton_append] at h7
      simp -implicitDefEqProofs only [fns_3, c3, body, startSt, pkeys, slots, recvL, recv, noH, finish, resPV, outRs, outR, outC, outCs, outMs, go_sem, Nat.reduceShiftRight, Nat.reduceAnd, reduceIte, reduceCtorEq, Nat.reduceEqDiff, Nat.reduceAdd, Nat.reduceMul, Nat.reduceSub, Nat.reduceLT, Nat.reduceLeDiff, Nat.reduceBEq, Nat.reduceBNe, Int.reduceToNat, Int.reduceLT, Int.reduceLE, Int.reduceEq, Int.reduceNe, Int.reduceMul, Int.reduceAdd, Int.reduceSub, Int.reduceNeg, or_self, true_or, or_true, false_or, or_false, Int.natCast_nonneg, Int.toNat_natCast, List.length_map, implies_true, Int.cast_ofNat_Int, List.mem_cons, List.not_mem_nil, forall_eq_or_imp, forall_eq, false_implies, List.replicate_succ, List.replicate_zero, List.set_cons_zero, List.set_cons_succ, List.length_set, Nat.zero_add, Nat.not_succ_le_self, Nat.mul_one, exec_loop, Rst, keys1, keys2, keysB, proms, prom, keepV, freshV, freshC, freshB, liveVer, mpVer, pk, ded, insH, sortH, rnP, rnA, rnM, List.map_nil, St.of, List.map_cons, c3_6, h0, h0n, ha, han, getD_map bkC hx, getD_map iC hy, iC, bkC, hS, b2, h8]
      exact h7
theorem FindLoopS (ln : Bool) (l : List Blo) (xs : List Int) (now keep budget : Int) (i : Nat) (y : Int) (hy : xs[i]? = some y) (hM : (l.length : Int) ≤ 1000000) : ∀ (n k : Nat) (m : List Blo) (a : Int), k + n = l.length → m.length ≤ k →
   (∃ f H, Pi.Loop (exec cx (Cal cx) c3_6) (Rst Try.prog ([(1, none), (2, none), (3, none), (12, some 3), (13, some 27), (14, none), (15, some 27), (16, none), (17, none), (18, none)], [])) (St.mk (sF [(1, .s (.int .i64 now)), (2, .s (.int .i64 keep)), (3, .s (.int .i64 budget)), (12, .sl 500012 0 0 xs.length), (13, .sh ln (l.map bkC)), (14, .s (.int .i64 i)), (15, .sl 500015 0 0 m.length), (16, .s (.int .i64 a)), (17, .s (.bool true)), (18, .s (.int .i64 k))]) (hF [(500012, oRow xs), (500015, lRow m)])) = some (.ex 6, St.mk f H) ∧
     f 1 = .s (.int .i64 now) ∧ f 2 = .s (.int .i64 keep) ∧ f 3 = .s (.int .i64 budget) ∧ f 12 = .sl 500012 0 0 xs.length ∧ f 13 = .sh ln (l.map bkC) ∧ f 14 = .s (.int .i64 i) ∧ f 15 = .sl 500015 0 0 (m ++ gone y (l.drop k)).length ∧ f 16 = .s (.int .i64 (lastAt y (l.drop k) k a)) ∧ f 17 = .s (.bool true) ∧ H 500012 = oRow xs ∧ H 500015 = lRow (m ++ gone y (l.drop k))) := by
  intro n
  have ha : (i : Int) < (xs.length : Int) := by
    obtain ⟨h, _⟩ := List.getElem?_eq_some_iff.1 hy
    omega
  have han : i < xs.length := by omega
  induction n with
  | zero =>
    intro k m a h hm
    have h0 : ¬ (k : Int) < (l.length : Int) := by omega
    rw [Loop_eq, drop_end (by omega)]
    simp -implicitDefEqProofs only [fns_3, c3, body, startSt, pkeys, slots, recvL, recv, noH, finish, resPV, outRs, outR, outC, outCs, outMs, go_sem, Nat.reduceShiftRight, Nat.reduceAnd, reduceIte, reduceCtorEq, Nat.reduceEqDiff, Nat.reduceAdd, Nat.reduceMul, Nat.reduceSub, Nat.reduceLT, Nat.reduceLeDiff, Nat.reduceBEq, Nat.reduceBNe, Int.reduceToNat, Int.reduceLT, Int.reduceLE, Int.reduceEq, Int.reduceNe, Int.reduceMul, Int.reduceAdd, Int.reduceSub, Int.reduceNeg, or_self, true_or, or_true, false_or, or_false, Int.natCast_nonneg, Int.toNat_natCast, List.length_map, implies_true, Int.cast_ofNat_Int, List.mem_cons, List.not_mem_nil, forall_eq_or_imp, forall_eq, false_implies, List.replicate_succ, List.replicate_zero, List.set_cons_zero, List.set_cons_succ, List.length_set, Nat.zero_add, Nat.not_succ_le_self, Nat.mul_one, exec_loop, Rst, keys1, keys2, keysB, proms, prom, keepV, freshV, freshC, freshB, liveVer, mpVer, pk, ded, insH, sortH, rnP, rnA, rnM, List.map_nil, St.of, List.map_cons, c3_6, h0, gone, lastAt, List.filter_nil, List.append_nil]
    exact ⟨_, _, rfl, rfl, rfl, rfl, rfl, rfl, rfl, rfl, rfl, rfl, rfl, rfl⟩
  | succ n ih =>
    intro k m a h hm
    have h0 : (k : Int) < (l.length : Int) := by omega
    have h0n : k < l.length := by omega
    obtain ⟨x, hx⟩ := get_of_lt (l := l) (i := k) (by omega)
    have h8 : IntKind.i64.wrap ((k : Int) + 1) = ((k + 1 : Nat) : Int) := by rw [wrap64_id] <;> omega
    have b2 : (m ++ [x]).length * 48 ≤ 140737488355328 := by simp; omega
    rw [Loop_eq, drop_get hx, lastAt]
    by_cases hS : x.number = y
    · have h7 := ih (k + 1) m k (by omega) (by omega)
      have e : gone y (x :: l.drop (k + 1)) = gone y (l.drop (k + 1)) := by unfold gone; rw [List.filter_cons_of_neg (by simp [hS])]
      rw [e, if_pos hS]
      simp -implicitDefEqProofs only [fns_3, c3, body, startSt, pkeys, slots, recvL, recv, noH, finish, resPV, outRs, outR, outC, outCs, outMs, go_sem, Nat.reduceShiftRight, Nat.reduceAnd, reduceIte, reduceCtorEq, Nat.reduceEqDiff, Nat.reduceAdd, Nat.reduceMul, Nat.reduceSub, Nat.reduceLT, Nat.reduceLeDiff, Nat.reduceBEq, Nat.reduceBNe, Int.reduceToNat, Int.reduceLT, Int.reduceLE, Int.reduceEq, Int.reduceNe, Int.reduceMul, Int.reduceAdd, Int.reduceSub, Int.reduceNeg, or_self, true_or, or_true, false_or, or_false, Int.natCast_nonneg, Int.toNat_natCast, List.length_map, implies_true, Int.cast_ofNat_Int, List.mem_cons, List.not_mem_nil, forall_eq_or_imp, forall_eq, false_implies, List.replicate_succ, List.replicate_zero, List.set_cons_zero, List.set_cons_succ, List.length_set, Nat.zero_add, Nat.not_succ_le_self, Nat.mul_one, exec_loop, Rst, keys1, keys2, keysB, proms, prom, keepV, freshV, freshC, freshB, liveVer, mpVer, pk, ded, insH, sortH, rnP, rnA, rnM, List.map_nil, St.of, List.map_cons, c3_6, h0, h0n, ha, han, getD_map bkC hx, getD_map iC hy, iC, bkC, hS, h8]
      exact h7
    · have h7 := ih (k + 1) (m ++ [x]) a (by omega) (by simp; omega)
      have e : gone y (x :: l.drop (k + 1)) = x :: gone y (l.drop (k + 1)) := by unfold gone; rw [List.filter_cons_of_pos (by simp [hS])]
      rw [e, if_neg hS]
      simp only [List.append_assoc, List.singleton_append] at h7
      simp -implicitDefEqProofs only [fns_3, c3, body, startSt, pkeys, slots, recvL, recv, noH, finish, resPV, outRs, outR, outC, outCs, outMs, go_sem, Nat.reduceShiftRight, Nat.reduceAnd, reduceIte, reduceCtorEq, Nat.reduceEqDiff, Nat.reduceAdd, Nat.reduceMul, Nat.reduceSub, Nat.reduceLT, Nat.reduceLeDiff, Nat.reduceBEq, Nat.reduceBNe, Int.reduceToNat, Int.reduceLT, Int.reduceLE, Int.reduceEq, Int.reduceNe, Int.reduceMul, Int.reduceAdd, Int.reduceSub, Int.reduceNeg, or_self, true_or, or_true, false_or, or_false, Int.natCast_nonneg, Int.toNat_natCast, List.length_map, implies_true, Int.cast_ofNat_Int, List.mem_cons, List.not_mem_nil, forall_eq_or_imp, forall_eq, false_implies, List.replicate_succ, List.replicate_zero, List.set_cons_zero, List.set_cons_succ, List.length_set, Nat.zero_add, Nat.not_succ_le_self, Nat.mul_one, exec_loop, Rst, keys1, keys2, keysB, proms, prom, keepV, freshV, freshC, freshB, liveVer, mpVer, pk, ded, insH, sortH, rnP, rnA, rnM, List.map_nil, St.of, List.map_cons, c3_6, h0, h0n, ha, han, getD_map bkC hx, getD_map iC hy, iC, bkC, hS, b2, h8]
      exact h7
end Go.Proofs.Ytpfjchnpkolmkaa
