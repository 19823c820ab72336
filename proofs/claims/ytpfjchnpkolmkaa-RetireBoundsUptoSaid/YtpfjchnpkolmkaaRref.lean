/- What may be: the document's answer is the program's. Own work. -/
import Derived.Test.YtpfjchnpkolmkaaRright
set_option linter.unusedVariables false
set_option linter.unusedSimpArgs false
namespace Go.Proofs.Ytpfjchnpkolmkaa
open Go Go.Pi
set_option maxHeartbeats 2000000
def within (n a b : Int) : Bool := decide (a ≤ n) && decide (n ≤ b)
theorem Within (n a b : Int) : Cal cx 38 [.s (.int .i64 n), .s (.int .i64 a), .s (.int .i64 b)] = some ([.s (.bool (within n a b))], []) := by
  rw [Cal_eq]
  simp -implicitDefEqProofs only [fns_38, c38, body, startSt, pkeys, slots, recvL, recv, noH, finish, resPV, outRs, outR, outC, outCs, outMs, go_sem, Nat.reduceShiftRight, Nat.reduceAnd, reduceIte, reduceCtorEq, Nat.reduceEqDiff, Nat.reduceAdd, Nat.reduceMul, Nat.reduceSub, Nat.reduceLT, Nat.reduceLeDiff, Nat.reduceBEq, Nat.reduceBNe, Int.reduceToNat, Int.reduceLT, Int.reduceLE, Int.reduceEq, Int.reduceNe, Int.reduceMul, Int.reduceAdd, Int.reduceSub, Int.reduceNeg, or_self, true_or, or_true, false_or, or_false, Int.natCast_nonneg, Int.toNat_natCast, List.length_map, implies_true, Int.cast_ofNat_Int, List.mem_cons, List.not_mem_nil, forall_eq_or_imp, forall_eq, false_implies, List.replicate_succ, List.replicate_zero, List.set_cons_zero, List.set_cons_succ, List.length_set, Nat.zero_add, Nat.not_succ_le_self, Nat.mul_one, exec_loop, Rst, keys1, keys2, keysB, proms, prom, keepV, freshV, freshC, freshB, liveVer, mpVer, pk, ded, insH, sortH, rnP, rnA, rnM, List.map_nil, St.of, List.map_cons]
  unfold within
  (repeat' split) <;> exact resB (by first | rfl | (simp_all; done) | (simp_all; intros; omega) | (rw [Bool.eq_iff_iff]; simp; omega))
theorem count (n : Int) : Cal cx 19 [.s (.int .i64 n)] = some ([.s (.bool (epochOk n))], []) := by
  rw [Cal_eq]
  simp -implicitDefEqProofs only [fns_19, c19, body, startSt, pkeys, slots, recvL, recv, noH, finish, resPV, outRs, outR, outC, outCs, outMs, go_sem, Nat.reduceShiftRight, Nat.reduceAnd, reduceIte, reduceCtorEq, Nat.reduceEqDiff, Nat.reduceAdd, Nat.reduceMul, Nat.reduceSub, Nat.reduceLT, Nat.reduceLeDiff, Nat.reduceBEq, Nat.reduceBNe, Int.reduceToNat, Int.reduceLT, Int.reduceLE, Int.reduceEq, Int.reduceNe, Int.reduceMul, Int.reduceAdd, Int.reduceSub, Int.reduceNeg, or_self, true_or, or_true, false_or, or_false, Int.natCast_nonneg, Int.toNat_natCast, List.length_map, implies_true, Int.cast_ofNat_Int, List.mem_cons, List.not_mem_nil, forall_eq_or_imp, forall_eq, false_implies, List.replicate_succ, List.replicate_zero, List.set_cons_zero, List.set_cons_succ, List.length_set, Nat.zero_add, Nat.not_succ_le_self, Nat.mul_one, exec_loop, Rst, keys1, keys2, keysB, proms, prom, keepV, freshV, freshC, freshB, liveVer, mpVer, pk, ded, insH, sortH, rnP, rnA, rnM, List.map_nil, St.of, List.map_cons]
  unfold epochOk
  (repeat' split) <;> exact resB (by first | rfl | (simp_all; done) | (simp_all; intros; omega) | (rw [Bool.eq_iff_iff]; simp; omega))
def lessTr (a b : Trc) : Bool := decide ((a.hi : Int) < b.hi) || decide ((a.hi : Int) = b.hi) && decide ((a.lo : Int) < b.lo)
theorem lessTr_cmp (a b : Trc) : decide (cmpTr a b < 0) = lessTr a b := by
  unfold cmpTr or2 cmpI lessTr
  rw [Bool.eq_iff_iff]
  simp
  split <;> (repeat' split) <;> omega
theorem LessTrace (a b : Trc) : Cal cx 18 [.ag (trC a), .ag (trC b)] = some ([.s (.bool (lessTr a b))], []) := by
  rw [Cal_eq]
  simp -implicitDefEqProofs only [fns_18, c18, body, startSt, pkeys, slots, recvL, recv, noH, finish, resPV, outRs, outR, outC, outCs, outMs, go_sem, Nat.reduceShiftRight, Nat.reduceAnd, reduceIte, reduceCtorEq, Nat.reduceEqDiff, Nat.reduceAdd, Nat.reduceMul, Nat.reduceSub, Nat.reduceLT, Nat.reduceLeDiff, Nat.reduceBEq, Nat.reduceBNe, Int.reduceToNat, Int.reduceLT, Int.reduceLE, Int.reduceEq, Int.reduceNe, Int.reduceMul, Int.reduceAdd, Int.reduceSub, Int.reduceNeg, or_self, true_or, or_true, false_or, or_false, Int.natCast_nonneg, Int.toNat_natCast, List.length_map, implies_true, Int.cast_ofNat_Int, List.mem_cons, List.not_mem_nil, forall_eq_or_imp, forall_eq, false_implies, List.replicate_succ, List.replicate_zero, List.set_cons_zero, List.set_cons_succ, List.length_set, Nat.zero_add, Nat.not_succ_le_self, Nat.mul_one, exec_loop, Rst, keys1, keys2, keysB, proms, prom, keepV, freshV, freshC, freshB, liveVer, mpVer, pk, ded, insH, sortH, rnP, rnA, rnM, List.map_nil, St.of, List.map_cons, trC]
  unfold lessTr
  (repeat' split) <;> exact resB (by first | rfl | (simp_all; done) | (simp_all; intros; omega) | (rw [Bool.eq_iff_iff]; simp; omega))
theorem RSinner (s : Spn) (i : Nat) (x : Atr) (hx : s.attrs[i]? = some x) (hM : (s.attrs.length : Int) ≤ 9223372036854775807) : ∀ (n k : Nat), k + n = i →
   ∃ f H, Pi.Loop (exec cx (Cal cx) c27_2) (Rst Try.prog ([(1, none), (3, none), (4, none)], [])) (St.mk (sF [(1, .ad 1 0 0 0), (3, .s (.int .i64 i)), (4, .s (.int .i64 k))]) (hF [(1, some (.row 0 59 10 true [spC s]))])) = some ((if ((s.attrs.take i).drop k).any (fun b => decide (b.key = x.key)) = true then .ret else .ex 2), St.mk f H) ∧ (((s.attrs.take i).drop k).any (fun b => decide (b.key = x.key)) = true → f 2 = .s (.bool false)) ∧ f 1 = .ad 1 0 0 0 ∧ f 3 = .s (.int .i64 i) ∧ H 1 = some (.row 0 59 10 true [spC s]) := by
  have hi : i < s.attrs.length := (List.getElem?_eq_some_iff.1 hx).1
  intro n
  induction n with
  | zero =>
    intro k h
    have h0 : ¬ (k : Int) < (i : Int) := by omega
    rw [Loop_eq, drop_end (by simp; omega)]
    simp -implicitDefEqProofs only [fns_27, c27, body, startSt, pkeys, slots, recvL, recv, noH, finish, resPV, outRs, outR, outC, outCs, outMs, go_sem, Nat.reduceShiftRight, Nat.reduceAnd, reduceIte, reduceCtorEq, Nat.reduceEqDiff, Nat.reduceAdd, Nat.reduceMul, Nat.reduceSub, Nat.reduceLT, Nat.reduceLeDiff, Nat.reduceBEq, Nat.reduceBNe, Int.reduceToNat, Int.reduceLT, Int.reduceLE, Int.reduceEq, Int.reduceNe, Int.reduceMul, Int.reduceAdd, Int.reduceSub, Int.reduceNeg, or_self, true_or, or_true, false_or, or_false, Int.natCast_nonneg, Int.toNat_natCast, List.length_map, implies_true, Int.cast_ofNat_Int, List.mem_cons, List.not_mem_nil, forall_eq_or_imp, forall_eq, false_implies, List.replicate_succ, List.replicate_zero, List.set_cons_zero, List.set_cons_succ, List.length_set, Nat.zero_add, Nat.not_succ_le_self, Nat.mul_one, exec_loop, Rst, keys1, keys2, keysB, proms, prom, keepV, freshV, freshC, freshB, liveVer, mpVer, pk, ded, insH, sortH, rnP, rnA, rnM, List.map_nil, St.of, List.map_cons, c27_2, h0]
    (first | exact ⟨_, _, rfl⟩ | (refine ⟨_, _, rfl, ?_⟩; first | exact (fun _ => rfl) | exact (fun h => by cases h) | rfl | exact ⟨rfl, rfl⟩ | exact ⟨fun _ => rfl, fun _ => rfl⟩ | exact ⟨rfl, rfl, rfl⟩ | exact ⟨fun _ => rfl, rfl, rfl, rfl⟩ | exact ⟨rfl, rfl, rfl, rfl⟩))
  | succ n ih =>
    intro k h
    have h0 : (k : Int) < (i : Int) := by omega
    have h1 : (i : Int) < (s.attrs.length : Int) := by omega
    have h2 : (k : Int) < (s.attrs.length : Int) := by omega
    obtain ⟨y, hy⟩ := get_of_lt (l := s.attrs) (i := k) (by omega)
    have hy' : (s.attrs.take i)[k]? = some y := by rw [List.getElem?_take, if_pos (by omega), hy]
    have h8 : IntKind.i64.wrap ((k : Int) + 1) = ((k + 1 : Nat) : Int) := by rw [wrap64_id] <;> omega
    have h7 := ih (k + 1) (by omega)
    simp only [spC] at h7
    rw [Loop_eq, drop_get hy']
    by_cases hc : y.key = x.key
    · simp -implicitDefEqProofs only [fns_27, c27, body, startSt, pkeys, slots, recvL, recv, noH, finish, resPV, outRs, outR, outC, outCs, outMs, go_sem, Nat.reduceShiftRight, Nat.reduceAnd, reduceIte, reduceCtorEq, Nat.reduceEqDiff, Nat.reduceAdd, Nat.reduceMul, Nat.reduceSub, Nat.reduceLT, Nat.reduceLeDiff, Nat.reduceBEq, Nat.reduceBNe, Int.reduceToNat, Int.reduceLT, Int.reduceLE, Int.reduceEq, Int.reduceNe, Int.reduceMul, Int.reduceAdd, Int.reduceSub, Int.reduceNeg, or_self, true_or, or_true, false_or, or_false, Int.natCast_nonneg, Int.toNat_natCast, List.length_map, implies_true, Int.cast_ofNat_Int, List.mem_cons, List.not_mem_nil, forall_eq_or_imp, forall_eq, false_implies, List.replicate_succ, List.replicate_zero, List.set_cons_zero, List.set_cons_succ, List.length_set, Nat.zero_add, Nat.not_succ_le_self, Nat.mul_one, exec_loop, Rst, keys1, keys2, keysB, proms, prom, keepV, freshV, freshC, freshB, liveVer, mpVer, pk, ded, insH, sortH, rnP, rnA, rnM, List.map_nil, St.of, List.map_cons, c27_2, h0, h1, h2, getD_map atC hx, getD_map atC hy, spC, atC, hc]
      exact ⟨_, _, rfl, fun _ => rfl, rfl, rfl, rfl⟩
    · simp -implicitDefEqProofs only [fns_27, c27, body, startSt, pkeys, slots, recvL, recv, noH, finish, resPV, outRs, outR, outC, outCs, outMs, go_sem, Nat.reduceShiftRight, Nat.reduceAnd, reduceIte, reduceCtorEq, Nat.reduceEqDiff, Nat.reduceAdd, Nat.reduceMul, Nat.reduceSub, Nat.reduceLT, Nat.reduceLeDiff, Nat.reduceBEq, Nat.reduceBNe, Int.reduceToNat, Int.reduceLT, Int.reduceLE, Int.reduceEq, Int.reduceNe, Int.reduceMul, Int.reduceAdd, Int.reduceSub, Int.reduceNeg, or_self, true_or, or_true, false_or, or_false, Int.natCast_nonneg, Int.toNat_natCast, List.length_map, implies_true, Int.cast_ofNat_Int, List.mem_cons, List.not_mem_nil, forall_eq_or_imp, forall_eq, false_implies, List.replicate_succ, List.replicate_zero, List.set_cons_zero, List.set_cons_succ, List.length_set, Nat.zero_add, Nat.not_succ_le_self, Nat.mul_one, exec_loop, Rst, keys1, keys2, keysB, proms, prom, keepV, freshV, freshC, freshB, liveVer, mpVer, pk, ded, insH, sortH, rnP, rnA, rnM, List.map_nil, St.of, List.map_cons, c27_2, h0, h1, h2, getD_map atC hx, getD_map atC hy, spC, atC, hc, h8]
      exact h7
theorem RSouter (s : Spn) (hM : (s.attrs.length : Int) ≤ 9223372036854775807) : ∀ (n i : Nat), i + n = s.attrs.length →
   ∃ f H, Pi.Loop (exec cx (Cal cx) c27_0) (Rst Try.prog ([(1, none), (3, none)], [])) (St.mk (sF [(1, .ad 1 0 0 0), (3, .s (.int .i64 i))]) (hF [(1, some (.row 0 59 10 true [spC s]))])) = some ((if attrsL (s.attrs.take i) (s.attrs.drop i) = true then .ex 0 else .ret), St.mk f H) ∧ (attrsL (s.attrs.take i) (s.attrs.drop i) = false → f 2 = .s (.bool false)) := by
  intro n
  induction n with
  | zero =>
    intro i h
    have h0 : ¬ (i : Int) < (s.attrs.length : Int) := by omega
    rw [Loop_eq, drop_end (by omega)]
    simp -implicitDefEqProofs only [fns_27, c27, body, startSt, pkeys, slots, recvL, recv, noH, finish, resPV, outRs, outR, outC, outCs, outMs, go_sem, Nat.reduceShiftRight, Nat.reduceAnd, reduceIte, reduceCtorEq, Nat.reduceEqDiff, Nat.reduceAdd, Nat.reduceMul, Nat.reduceSub, Nat.reduceLT, Nat.reduceLeDiff, Nat.reduceBEq, Nat.reduceBNe, Int.reduceToNat, Int.reduceLT, Int.reduceLE, Int.reduceEq, Int.reduceNe, Int.reduceMul, Int.reduceAdd, Int.reduceSub, Int.reduceNeg, or_self, true_or, or_true, false_or, or_false, Int.natCast_nonneg, Int.toNat_natCast, List.length_map, implies_true, Int.cast_ofNat_Int, List.mem_cons, List.not_mem_nil, forall_eq_or_imp, forall_eq, false_implies, List.replicate_succ, List.replicate_zero, List.set_cons_zero, List.set_cons_succ, List.length_set, Nat.zero_add, Nat.not_succ_le_self, Nat.mul_one, exec_loop, Rst, keys1, keys2, keysB, proms, prom, keepV, freshV, freshC, freshB, liveVer, mpVer, pk, ded, insH, sortH, rnP, rnA, rnM, List.map_nil, St.of, List.map_cons, c27_0, h0, spC, attrsL]
    first | exact ⟨_, _, rfl⟩ | exact ⟨_, _, rfl, fun h => by cases h⟩
  | succ n ih =>
    intro i h
    have h0 : (i : Int) < (s.attrs.length : Int) := by omega
    obtain ⟨x, hx⟩ := get_of_lt (l := s.attrs) (i := i) (by omega)
    have h8 : IntKind.i64.wrap ((i : Int) + 1) = ((i + 1 : Nat) : Int) := by rw [wrap64_id] <;> omega
    have h7 := ih (i + 1) (by omega)
    obtain ⟨f, H, g1, g2, g3, g4, g5⟩ := RSinner s i x hx hM i 0 (by omega)
    have h10 := Within
    rw [take_get hx] at h7
    simp only [spC] at h7
    simp only [List.drop_zero, Int.cast_ofNat_Int, spC] at g1 g2 g5
    have hw : within (x.key.size : Int) 1 16 = nameOk x.key := rfl
    rw [Loop_eq, drop_get hx]
    cases hA : nameOk x.key
    · simp -implicitDefEqProofs only [fns_27, c27, body, startSt, pkeys, slots, recvL, recv, noH, finish, resPV, outRs, outR, outC, outCs, outMs, go_sem, Nat.reduceShiftRight, Nat.reduceAnd, reduceIte, reduceCtorEq, Nat.reduceEqDiff, Nat.reduceAdd, Nat.reduceMul, Nat.reduceSub, Nat.reduceLT, Nat.reduceLeDiff, Nat.reduceBEq, Nat.reduceBNe, Int.reduceToNat, Int.reduceLT, Int.reduceLE, Int.reduceEq, Int.reduceNe, Int.reduceMul, Int.reduceAdd, Int.reduceSub, Int.reduceNeg, or_self, true_or, or_true, false_or, or_false, Int.natCast_nonneg, Int.toNat_natCast, List.length_map, implies_true, Int.cast_ofNat_Int, List.mem_cons, List.not_mem_nil, forall_eq_or_imp, forall_eq, false_implies, List.replicate_succ, List.replicate_zero, List.set_cons_zero, List.set_cons_succ, List.length_set, Nat.zero_add, Nat.not_succ_le_self, Nat.mul_one, exec_loop, Rst, keys1, keys2, keysB, proms, prom, keepV, freshV, freshC, freshB, liveVer, mpVer, pk, ded, insH, sortH, rnP, rnA, rnM, List.map_nil, St.of, List.map_cons, c27_0, h0, getD_map atC hx, h10, hw, attrsL, spC, atC, hA]
      exact ⟨_, _, rfl, fun _ => rfl⟩
    · by_cases hB : (16 : Int) < (x.val.size : Int)
      · have hB' : ¬ (x.val.size : Int) ≤ 16 := by omega
        simp -implicitDefEqProofs only [fns_27, c27, body, startSt, pkeys, slots, recvL, recv, noH, finish, resPV, outRs, outR, outC, outCs, outMs, go_sem, Nat.reduceShiftRight, Nat.reduceAnd, reduceIte, reduceCtorEq, Nat.reduceEqDiff, Nat.reduceAdd, Nat.reduceMul, Nat.reduceSub, Nat.reduceLT, Nat.reduceLeDiff, Nat.reduceBEq, Nat.reduceBNe, Int.reduceToNat, Int.reduceLT, Int.reduceLE, Int.reduceEq, Int.reduceNe, Int.reduceMul, Int.reduceAdd, Int.reduceSub, Int.reduceNeg, or_self, true_or, or_true, false_or, or_false, Int.natCast_nonneg, Int.toNat_natCast, List.length_map, implies_true, Int.cast_ofNat_Int, List.mem_cons, List.not_mem_nil, forall_eq_or_imp, forall_eq, false_implies, List.replicate_succ, List.replicate_zero, List.set_cons_zero, List.set_cons_succ, List.length_set, Nat.zero_add, Nat.not_succ_le_self, Nat.mul_one, exec_loop, Rst, keys1, keys2, keysB, proms, prom, keepV, freshV, freshC, freshB, liveVer, mpVer, pk, ded, insH, sortH, rnP, rnA, rnM, List.map_nil, St.of, List.map_cons, c27_0, h0, getD_map atC hx, h10, hw, attrsL, spC, atC, hA, hB, hB']
        exact ⟨_, _, rfl, fun _ => rfl⟩
      · have hB' : (x.val.size : Int) ≤ 16 := by omega
        cases hC : (s.attrs.take i).any fun b => decide (b.key = x.key)
        · rw [hC] at g1
          simp -implicitDefEqProofs only [fns_27, c27, body, startSt, pkeys, slots, recvL, recv, noH, finish, resPV, outRs, outR, outC, outCs, outMs, go_sem, Nat.reduceShiftRight, Nat.reduceAnd, reduceIte, reduceCtorEq, Nat.reduceEqDiff, Nat.reduceAdd, Nat.reduceMul, Nat.reduceSub, Nat.reduceLT, Nat.reduceLeDiff, Nat.reduceBEq, Nat.reduceBNe, Int.reduceToNat, Int.reduceLT, Int.reduceLE, Int.reduceEq, Int.reduceNe, Int.reduceMul, Int.reduceAdd, Int.reduceSub, Int.reduceNeg, or_self, true_or, or_true, false_or, or_false, Int.natCast_nonneg, Int.toNat_natCast, List.length_map, implies_true, Int.cast_ofNat_Int, List.mem_cons, List.not_mem_nil, forall_eq_or_imp, forall_eq, false_implies, List.replicate_succ, List.replicate_zero, List.set_cons_zero, List.set_cons_succ, List.length_set, Nat.zero_add, Nat.not_succ_le_self, Nat.mul_one, exec_loop, Rst, keys1, keys2, keysB, proms, prom, keepV, freshV, freshC, freshB, liveVer, mpVer, pk, ded, insH, sortH, rnP, rnA, rnM, List.map_nil, St.of, List.map_cons, c27_0, h0, getD_map atC hx, h10, hw, attrsL, spC, atC, hA, hB, hB', hC, g1, g3, g4, g5, h8]
          exact h7
        · rw [hC] at g1
          simp -implicitDefEqProofs only [fns_27, c27, body, startSt, pkeys, slots, recvL, recv, noH, finish, resPV, outRs, outR, outC, outCs, outMs, go_sem, Nat.reduceShiftRight, Nat.reduceAnd, reduceIte, reduceCtorEq, Nat.reduceEqDiff, Nat.reduceAdd, Nat.reduceMul, Nat.reduceSub, Nat.reduceLT, Nat.reduceLeDiff, Nat.reduceBEq, Nat.reduceBNe, Int.reduceToNat, Int.reduceLT, Int.reduceLE, Int.reduceEq, Int.reduceNe, Int.reduceMul, Int.reduceAdd, Int.reduceSub, Int.reduceNeg, or_self, true_or, or_true, false_or, or_false, Int.natCast_nonneg, Int.toNat_natCast, List.length_map, implies_true, Int.cast_ofNat_Int, List.mem_cons, List.not_mem_nil, forall_eq_or_imp, forall_eq, false_implies, List.replicate_succ, List.replicate_zero, List.set_cons_zero, List.set_cons_succ, List.length_set, Nat.zero_add, Nat.not_succ_le_self, Nat.mul_one, exec_loop, Rst, keys1, keys2, keysB, proms, prom, keepV, freshV, freshC, freshB, liveVer, mpVer, pk, ded, insH, sortH, rnP, rnA, rnM, List.map_nil, St.of, List.map_cons, c27_0, h0, getD_map atC hx, h10, hw, attrsL, spC, atC, hA, hB, hB', hC, g1]
          exact ⟨_, _, rfl, fun _ => g2 hC⟩
theorem RightSpan (s : Spn) (hM : (s.attrs.length : Int) ≤ 9223372036854775807) : Cal cx 27 [.ag (spC s)] = some ([.s (.bool (spanOk s))], []) := by
  have h1 := Within
  obtain ⟨f, H, h2, h3⟩ := RSouter s hM s.attrs.length 0 (by omega)
  simp only [List.drop_zero, List.take_zero, Int.cast_ofNat_Int, spC] at h2 h3
  rw [Cal_eq]
  simp -implicitDefEqProofs only [fns_27, c27, body, startSt, pkeys, slots, recvL, recv, noH, finish, resPV, outRs, outR, outC, outCs, outMs, go_sem, Nat.reduceShiftRight, Nat.reduceAnd, reduceIte, reduceCtorEq, Nat.reduceEqDiff, Nat.reduceAdd, Nat.reduceMul, Nat.reduceSub, Nat.reduceLT, Nat.reduceLeDiff, Nat.reduceBEq, Nat.reduceBNe, Int.reduceToNat, Int.reduceLT, Int.reduceLE, Int.reduceEq, Int.reduceNe, Int.reduceMul, Int.reduceAdd, Int.reduceSub, Int.reduceNeg, or_self, true_or, or_true, false_or, or_false, Int.natCast_nonneg, Int.toNat_natCast, List.length_map, implies_true, Int.cast_ofNat_Int, List.mem_cons, List.not_mem_nil, forall_eq_or_imp, forall_eq, false_implies, List.replicate_succ, List.replicate_zero, List.set_cons_zero, List.set_cons_succ, List.length_set, Nat.zero_add, Nat.not_succ_le_self, Nat.mul_one, exec_loop, Rst, keys1, keys2, keysB, proms, prom, keepV, freshV, freshC, freshB, liveVer, mpVer, pk, ded, insH, sortH, rnP, rnA, rnM, List.map_nil, St.of, List.map_cons, spC, h1]
  have hw : ∀ x : ByteArray, within (x.size : Int) 1 16 = nameOk x := fun _ => rfl
  rw [h2]
  unfold spanOk attrsOk
  cases hD : attrsL [] s.attrs
  · simp -implicitDefEqProofs only [fns_27, c27, body, startSt, pkeys, slots, recvL, recv, noH, finish, resPV, outRs, outR, outC, outCs, outMs, go_sem, Nat.reduceShiftRight, Nat.reduceAnd, reduceIte, reduceCtorEq, Nat.reduceEqDiff, Nat.reduceAdd, Nat.reduceMul, Nat.reduceSub, Nat.reduceLT, Nat.reduceLeDiff, Nat.reduceBEq, Nat.reduceBNe, Int.reduceToNat, Int.reduceLT, Int.reduceLE, Int.reduceEq, Int.reduceNe, Int.reduceMul, Int.reduceAdd, Int.reduceSub, Int.reduceNeg, or_self, true_or, or_true, false_or, or_false, Int.natCast_nonneg, Int.toNat_natCast, List.length_map, implies_true, Int.cast_ofNat_Int, List.mem_cons, List.not_mem_nil, forall_eq_or_imp, forall_eq, false_implies, List.replicate_succ, List.replicate_zero, List.set_cons_zero, List.set_cons_succ, List.length_set, Nat.zero_add, Nat.not_succ_le_self, Nat.mul_one, exec_loop, Rst, keys1, keys2, keysB, proms, prom, keepV, freshV, freshC, freshB, liveVer, mpVer, pk, ded, insH, sortH, rnP, rnA, rnM, List.map_nil, St.of, List.map_cons, h3 hD, hw]
  · simp -implicitDefEqProofs only [fns_27, c27, body, startSt, pkeys, slots, recvL, recv, noH, finish, resPV, outRs, outR, outC, outCs, outMs, go_sem, Nat.reduceShiftRight, Nat.reduceAnd, reduceIte, reduceCtorEq, Nat.reduceEqDiff, Nat.reduceAdd, Nat.reduceMul, Nat.reduceSub, Nat.reduceLT, Nat.reduceLeDiff, Nat.reduceBEq, Nat.reduceBNe, Int.reduceToNat, Int.reduceLT, Int.reduceLE, Int.reduceEq, Int.reduceNe, Int.reduceMul, Int.reduceAdd, Int.reduceSub, Int.reduceNeg, or_self, true_or, or_true, false_or, or_false, Int.natCast_nonneg, Int.toNat_natCast, List.length_map, implies_true, Int.cast_ofNat_Int, List.mem_cons, List.not_mem_nil, forall_eq_or_imp, forall_eq, false_implies, List.replicate_succ, List.replicate_zero, List.set_cons_zero, List.set_cons_succ, List.length_set, Nat.zero_add, Nat.not_succ_le_self, Nat.mul_one, exec_loop, Rst, keys1, keys2, keysB, proms, prom, keepV, freshV, freshC, freshB, liveVer, mpVer, pk, ded, insH, sortH, rnP, rnA, rnM, List.map_nil, St.of, List.map_cons, hw]
    unfold within
    (repeat' split) <;> exact resB (by first | rfl | (simp_all; done) | (simp_all; intros; omega) | (rw [Bool.eq_iff_iff]; simp; omega))
theorem REinner (e : Epi) (i : Nat) (x : Spn) (hx : e.spans[i]? = some x) (hM : (e.spans.length : Int) ≤ 9223372036854775807) : ∀ (n k : Nat), k + n = i →
   ∃ f H, Pi.Loop (exec cx (Cal cx) c17_2) (Rst Try.prog ([(1, none), (3, none), (4, none)], [])) (St.mk (sF [(1, .ad 1 0 0 0), (3, .s (.int .i64 i)), (4, .s (.int .i64 k))]) (hF [(1, some (.row 0 47 6 true [epC e]))])) = some ((if ((e.spans.take i).drop k).any (fun b => decide ((b.id : Int) = x.id)) = true then .ret else .ex 2), St.mk f H) ∧ (((e.spans.take i).drop k).any (fun b => decide ((b.id : Int) = x.id)) = true → f 2 = .s (.bool false)) ∧ f 1 = .ad 1 0 0 0 ∧ f 3 = .s (.int .i64 i) ∧ H 1 = some (.row 0 47 6 true [epC e]) := by
  have hi : i < e.spans.length := (List.getElem?_eq_some_iff.1 hx).1
  intro n
  induction n with
  | zero =>
    intro k h
    have h0 : ¬ (k : Int) < (i : Int) := by omega
    rw [Loop_eq, drop_end (by simp; omega)]
    simp -implicitDefEqProofs only [fns_17, c17, body, startSt, pkeys, slots, recvL, recv, noH, finish, resPV, outRs, outR, outC, outCs, outMs, go_sem, Nat.reduceShiftRight, Nat.reduceAnd, reduceIte, reduceCtorEq, Nat.reduceEqDiff, Nat.reduceAdd, Nat.reduceMul, Nat.reduceSub, Nat.reduceLT, Nat.reduceLeDiff, Nat.reduceBEq, Nat.reduceBNe, Int.reduceToNat, Int.reduceLT, Int.reduceLE, Int.reduceEq, Int.reduceNe, Int.reduceMul, Int.reduceAdd, Int.reduceSub, Int.reduceNeg, or_self, true_or, or_true, false_or, or_false, Int.natCast_nonneg, Int.toNat_natCast, List.length_map, implies_true, Int.cast_ofNat_Int, List.mem_cons, List.not_mem_nil, forall_eq_or_imp, forall_eq, false_implies, List.replicate_succ, List.replicate_zero, List.set_cons_zero, List.set_cons_succ, List.length_set, Nat.zero_add, Nat.not_succ_le_self, Nat.mul_one, exec_loop, Rst, keys1, keys2, keysB, proms, prom, keepV, freshV, freshC, freshB, liveVer, mpVer, pk, ded, insH, sortH, rnP, rnA, rnM, List.map_nil, St.of, List.map_cons, c17_2, h0]
    (first | exact ⟨_, _, rfl⟩ | (refine ⟨_, _, rfl, ?_⟩; first | exact (fun _ => rfl) | exact (fun h => by cases h) | rfl | exact ⟨rfl, rfl⟩ | exact ⟨fun _ => rfl, fun _ => rfl⟩ | exact ⟨rfl, rfl, rfl⟩ | exact ⟨fun _ => rfl, rfl, rfl, rfl⟩ | exact ⟨rfl, rfl, rfl, rfl⟩))
  | succ n ih =>
    intro k h
    have h0 : (k : Int) < (i : Int) := by omega
    have h1 : (i : Int) < (e.spans.length : Int) := by omega
    have h2 : (k : Int) < (e.spans.length : Int) := by omega
    obtain ⟨y, hy⟩ := get_of_lt (l := e.spans) (i := k) (by omega)
    have hy' : (e.spans.take i)[k]? = some y := by rw [List.getElem?_take, if_pos (by omega), hy]
    have h8 : IntKind.i64.wrap ((k : Int) + 1) = ((k + 1 : Nat) : Int) := by rw [wrap64_id] <;> omega
    have h7 := ih (k + 1) (by omega)
    simp only [epC] at h7
    rw [Loop_eq, drop_get hy']
    by_cases hc : (y.id : Int) = x.id
    · simp -implicitDefEqProofs only [fns_17, c17, body, startSt, pkeys, slots, recvL, recv, noH, finish, resPV, outRs, outR, outC, outCs, outMs, go_sem, Nat.reduceShiftRight, Nat.reduceAnd, reduceIte, reduceCtorEq, Nat.reduceEqDiff, Nat.reduceAdd, Nat.reduceMul, Nat.reduceSub, Nat.reduceLT, Nat.reduceLeDiff, Nat.reduceBEq, Nat.reduceBNe, Int.reduceToNat, Int.reduceLT, Int.reduceLE, Int.reduceEq, Int.reduceNe, Int.reduceMul, Int.reduceAdd, Int.reduceSub, Int.reduceNeg, or_self, true_or, or_true, false_or, or_false, Int.natCast_nonneg, Int.toNat_natCast, List.length_map, implies_true, Int.cast_ofNat_Int, List.mem_cons, List.not_mem_nil, forall_eq_or_imp, forall_eq, false_implies, List.replicate_succ, List.replicate_zero, List.set_cons_zero, List.set_cons_succ, List.length_set, Nat.zero_add, Nat.not_succ_le_self, Nat.mul_one, exec_loop, Rst, keys1, keys2, keysB, proms, prom, keepV, freshV, freshC, freshB, liveVer, mpVer, pk, ded, insH, sortH, rnP, rnA, rnM, List.map_nil, St.of, List.map_cons, c17_2, h0, h1, h2, getD_map spC hx, getD_map spC hy, epC, spC, hc]
      (first | exact ⟨_, _, rfl⟩ | (refine ⟨_, _, rfl, ?_⟩; first | exact (fun _ => rfl) | exact (fun h => by cases h) | rfl | exact ⟨rfl, rfl⟩ | exact ⟨fun _ => rfl, fun _ => rfl⟩ | exact ⟨rfl, rfl, rfl⟩ | exact ⟨fun _ => rfl, rfl, rfl, rfl⟩ | exact ⟨rfl, rfl, rfl, rfl⟩))
    · simp -implicitDefEqProofs only [fns_17, c17, body, startSt, pkeys, slots, recvL, recv, noH, finish, resPV, outRs, outR, outC, outCs, outMs, go_sem, Nat.reduceShiftRight, Nat.reduceAnd, reduceIte, reduceCtorEq, Nat.reduceEqDiff, Nat.reduceAdd, Nat.reduceMul, Nat.reduceSub, Nat.reduceLT, Nat.reduceLeDiff, Nat.reduceBEq, Nat.reduceBNe, Int.reduceToNat, Int.reduceLT, Int.reduceLE, Int.reduceEq, Int.reduceNe, Int.reduceMul, Int.reduceAdd, Int.reduceSub, Int.reduceNeg, or_self, true_or, or_true, false_or, or_false, Int.natCast_nonneg, Int.toNat_natCast, List.length_map, implies_true, Int.cast_ofNat_Int, List.mem_cons, List.not_mem_nil, forall_eq_or_imp, forall_eq, false_implies, List.replicate_succ, List.replicate_zero, List.set_cons_zero, List.set_cons_succ, List.length_set, Nat.zero_add, Nat.not_succ_le_self, Nat.mul_one, exec_loop, Rst, keys1, keys2, keysB, proms, prom, keepV, freshV, freshC, freshB, liveVer, mpVer, pk, ded, insH, sortH, rnP, rnA, rnM, List.map_nil, St.of, List.map_cons, c17_2, h0, h1, h2, getD_map spC hx, getD_map spC hy, epC, spC, hc, h8]
      exact h7
/-- As the document goes through an episode's spans. -/
def reL (t : Trc) : List Spn → List Spn → Bool
  | _, [] => true
  | pre, s :: l => spanOk s && trEq s.tr t && !(pre.any fun b => decide ((b.id : Int) = s.id)) && reL t (pre ++ [s]) l
theorem REouter (e : Epi) (hM : (e.spans.length : Int) ≤ 9223372036854775807) (hA : Att e.spans) : ∀ (n i : Nat), i + n = e.spans.length →
   ∃ f H, Pi.Loop (exec cx (Cal cx) c17_0) (Rst Try.prog ([(1, none), (3, none)], [])) (St.mk (sF [(1, .ad 1 0 0 0), (3, .s (.int .i64 i))]) (hF [(1, some (.row 0 47 6 true [epC e]))])) = some ((if reL e.tr (e.spans.take i) (e.spans.drop i) = true then .ex 0 else .ret), St.mk f H) ∧ (reL e.tr (e.spans.take i) (e.spans.drop i) = false → f 2 = .s (.bool false)) := by
  intro n
  induction n with
  | zero =>
    intro i h
    have h0 : ¬ (i : Int) < (e.spans.length : Int) := by omega
    rw [Loop_eq, drop_end (by omega)]
    simp -implicitDefEqProofs only [fns_17, c17, body, startSt, pkeys, slots, recvL, recv, noH, finish, resPV, outRs, outR, outC, outCs, outMs, go_sem, Nat.reduceShiftRight, Nat.reduceAnd, reduceIte, reduceCtorEq, Nat.reduceEqDiff, Nat.reduceAdd, Nat.reduceMul, Nat.reduceSub, Nat.reduceLT, Nat.reduceLeDiff, Nat.reduceBEq, Nat.reduceBNe, Int.reduceToNat, Int.reduceLT, Int.reduceLE, Int.reduceEq, Int.reduceNe, Int.reduceMul, Int.reduceAdd, Int.reduceSub, Int.reduceNeg, or_self, true_or, or_true, false_or, or_false, Int.natCast_nonneg, Int.toNat_natCast, List.length_map, implies_true, Int.cast_ofNat_Int, List.mem_cons, List.not_mem_nil, forall_eq_or_imp, forall_eq, false_implies, List.replicate_succ, List.replicate_zero, List.set_cons_zero, List.set_cons_succ, List.length_set, Nat.zero_add, Nat.not_succ_le_self, Nat.mul_one, exec_loop, Rst, keys1, keys2, keysB, proms, prom, keepV, freshV, freshC, freshB, liveVer, mpVer, pk, ded, insH, sortH, rnP, rnA, rnM, List.map_nil, St.of, List.map_cons, c17_0, h0, epC, reL]
    (first | exact ⟨_, _, rfl⟩ | (refine ⟨_, _, rfl, ?_⟩; first | exact (fun _ => rfl) | exact (fun h => by cases h) | rfl | exact ⟨rfl, rfl⟩ | exact ⟨fun _ => rfl, fun _ => rfl⟩ | exact ⟨rfl, rfl, rfl⟩ | exact ⟨fun _ => rfl, rfl, rfl, rfl⟩ | exact ⟨rfl, rfl, rfl, rfl⟩))
  | succ n ih =>
    intro i h
    have h0 : (i : Int) < (e.spans.length : Int) := by omega
    obtain ⟨x, hx⟩ := get_of_lt (l := e.spans) (i := i) (by omega)
    have h8 : IntKind.i64.wrap ((i : Int) + 1) = ((i + 1 : Nat) : Int) := by rw [wrap64_id] <;> omega
    have h7 := ih (i + 1) (by omega)
    obtain ⟨f, H, g1, g2, g3, g4, g5⟩ := REinner e i x hx hM i 0 (by omega)
    have h10 := RightSpan x (hA x (mem_get hx))
    rw [take_get hx] at h7
    simp only [epC] at h7
    simp only [spC] at h10
    simp only [List.drop_zero, Int.cast_ofNat_Int, epC] at g1 g2 g5
    rw [Loop_eq, drop_get hx]
    cases hS : spanOk x
    · simp -implicitDefEqProofs only [fns_17, c17, body, startSt, pkeys, slots, recvL, recv, noH, finish, resPV, outRs, outR, outC, outCs, outMs, go_sem, Nat.reduceShiftRight, Nat.reduceAnd, reduceIte, reduceCtorEq, Nat.reduceEqDiff, Nat.reduceAdd, Nat.reduceMul, Nat.reduceSub, Nat.reduceLT, Nat.reduceLeDiff, Nat.reduceBEq, Nat.reduceBNe, Int.reduceToNat, Int.reduceLT, Int.reduceLE, Int.reduceEq, Int.reduceNe, Int.reduceMul, Int.reduceAdd, Int.reduceSub, Int.reduceNeg, or_self, true_or, or_true, false_or, or_false, Int.natCast_nonneg, Int.toNat_natCast, List.length_map, implies_true, Int.cast_ofNat_Int, List.mem_cons, List.not_mem_nil, forall_eq_or_imp, forall_eq, false_implies, List.replicate_succ, List.replicate_zero, List.set_cons_zero, List.set_cons_succ, List.length_set, Nat.zero_add, Nat.not_succ_le_self, Nat.mul_one, exec_loop, Rst, keys1, keys2, keysB, proms, prom, keepV, freshV, freshC, freshB, liveVer, mpVer, pk, ded, insH, sortH, rnP, rnA, rnM, List.map_nil, St.of, List.map_cons, c17_0, h0, getD_map spC hx, h10, reL, epC, spC, hS]
      (first | exact ⟨_, _, rfl⟩ | (refine ⟨_, _, rfl, ?_⟩; first | exact (fun _ => rfl) | exact (fun h => by cases h) | rfl | exact ⟨rfl, rfl⟩ | exact ⟨fun _ => rfl, fun _ => rfl⟩ | exact ⟨rfl, rfl, rfl⟩ | exact ⟨fun _ => rfl, rfl, rfl, rfl⟩ | exact ⟨rfl, rfl, rfl, rfl⟩))
    · cases hT : trEq x.tr e.tr
      · have hT' := hT
        unfold trEq at hT'
        simp -implicitDefEqProofs only [fns_17, c17, body, startSt, pkeys, slots, recvL, recv, noH, finish, resPV, outRs, outR, outC, outCs, outMs, go_sem, Nat.reduceShiftRight, Nat.reduceAnd, reduceIte, reduceCtorEq, Nat.reduceEqDiff, Nat.reduceAdd, Nat.reduceMul, Nat.reduceSub, Nat.reduceLT, Nat.reduceLeDiff, Nat.reduceBEq, Nat.reduceBNe, Int.reduceToNat, Int.reduceLT, Int.reduceLE, Int.reduceEq, Int.reduceNe, Int.reduceMul, Int.reduceAdd, Int.reduceSub, Int.reduceNeg, or_self, true_or, or_true, false_or, or_false, Int.natCast_nonneg, Int.toNat_natCast, List.length_map, implies_true, Int.cast_ofNat_Int, List.mem_cons, List.not_mem_nil, forall_eq_or_imp, forall_eq, false_implies, List.replicate_succ, List.replicate_zero, List.set_cons_zero, List.set_cons_succ, List.length_set, Nat.zero_add, Nat.not_succ_le_self, Nat.mul_one, exec_loop, Rst, keys1, keys2, keysB, proms, prom, keepV, freshV, freshC, freshB, liveVer, mpVer, pk, ded, insH, sortH, rnP, rnA, rnM, List.map_nil, St.of, List.map_cons, c17_0, h0, getD_map spC hx, h10, reL, epC, spC, hS, hT, hT']
        (first | exact ⟨_, _, rfl⟩ | (refine ⟨_, _, rfl, ?_⟩; first | exact (fun _ => rfl) | exact (fun h => by cases h) | rfl | exact ⟨rfl, rfl⟩ | exact ⟨fun _ => rfl, fun _ => rfl⟩ | exact ⟨rfl, rfl, rfl⟩ | exact ⟨fun _ => rfl, rfl, rfl, rfl⟩ | exact ⟨rfl, rfl, rfl, rfl⟩))
      · have hT' := hT
        unfold trEq at hT'
        cases hC : (e.spans.take i).any fun b => decide ((b.id : Int) = x.id)
        · rw [hC] at g1
          simp -implicitDefEqProofs only [fns_17, c17, body, startSt, pkeys, slots, recvL, recv, noH, finish, resPV, outRs, outR, outC, outCs, outMs, go_sem, Nat.reduceShiftRight, Nat.reduceAnd, reduceIte, reduceCtorEq, Nat.reduceEqDiff, Nat.reduceAdd, Nat.reduceMul, Nat.reduceSub, Nat.reduceLT, Nat.reduceLeDiff, Nat.reduceBEq, Nat.reduceBNe, Int.reduceToNat, Int.reduceLT, Int.reduceLE, Int.reduceEq, Int.reduceNe, Int.reduceMul, Int.reduceAdd, Int.reduceSub, Int.reduceNeg, or_self, true_or, or_true, false_or, or_false, Int.natCast_nonneg, Int.toNat_natCast, List.length_map, implies_true, Int.cast_ofNat_Int, List.mem_cons, List.not_mem_nil, forall_eq_or_imp, forall_eq, false_implies, List.replicate_succ, List.replicate_zero, List.set_cons_zero, List.set_cons_succ, List.length_set, Nat.zero_add, Nat.not_succ_le_self, Nat.mul_one, exec_loop, Rst, keys1, keys2, keysB, proms, prom, keepV, freshV, freshC, freshB, liveVer, mpVer, pk, ded, insH, sortH, rnP, rnA, rnM, List.map_nil, St.of, List.map_cons, c17_0, h0, getD_map spC hx, h10, reL, epC, spC, hS, hT, hT', hC, g1, g3, g4, g5, h8]
          exact h7
        · rw [hC] at g1
          simp -implicitDefEqProofs only [fns_17, c17, body, startSt, pkeys, slots, recvL, recv, noH, finish, resPV, outRs, outR, outC, outCs, outMs, go_sem, Nat.reduceShiftRight, Nat.reduceAnd, reduceIte, reduceCtorEq, Nat.reduceEqDiff, Nat.reduceAdd, Nat.reduceMul, Nat.reduceSub, Nat.reduceLT, Nat.reduceLeDiff, Nat.reduceBEq, Nat.reduceBNe, Int.reduceToNat, Int.reduceLT, Int.reduceLE, Int.reduceEq, Int.reduceNe, Int.reduceMul, Int.reduceAdd, Int.reduceSub, Int.reduceNeg, or_self, true_or, or_true, false_or, or_false, Int.natCast_nonneg, Int.toNat_natCast, List.length_map, implies_true, Int.cast_ofNat_Int, List.mem_cons, List.not_mem_nil, forall_eq_or_imp, forall_eq, false_implies, List.replicate_succ, List.replicate_zero, List.set_cons_zero, List.set_cons_succ, List.length_set, Nat.zero_add, Nat.not_succ_le_self, Nat.mul_one, exec_loop, Rst, keys1, keys2, keysB, proms, prom, keepV, freshV, freshC, freshB, liveVer, mpVer, pk, ded, insH, sortH, rnP, rnA, rnM, List.map_nil, St.of, List.map_cons, c17_0, h0, getD_map spC hx, h10, reL, epC, spC, hS, hT, hT', hC, g1]
          exact ⟨_, _, rfl, fun _ => g2 hC⟩
theorem reL_sole (t : Trc) : ∀ (l pre : List Spn) (ks : List Int), (∀ n : Int, ks.contains n = pre.any fun b => decide ((b.id : Int) = n)) → reL t pre l = (l.all spanOk && sole t ks l)
  | [], _, _, _ => rfl
  | s :: l, pre, ks, h => by
    have h2 := reL_sole t l (pre ++ [s]) (if ks.contains (s.id : Int) = true then ks else ks ++ [(s.id : Int)]) (by
      intro n
      rw [List.any_append]
      split
      · rename_i hc
        rw [h n]
        by_cases hn : (s.id : Int) = n
        · subst hn; rw [h] at hc; simp [hc]
        · simp [hn]
      · have := h n
        simp at this ⊢
        rw [this]
        simp [eq_comm])
    simp only [reL, sole, List.all_cons, h2, h]
    cases spanOk s <;> simp
    cases trEq s.tr t <;> simp
    cases l.all spanOk <;> simp
theorem RightEpisode (e : Epi) (hM : (e.spans.length : Int) ≤ 9223372036854775807) (hA : Att e.spans) : Cal cx 17 [.ag (epC e)] = some ([.s (.bool (epOk e))], []) := by
  have h1 := count
  obtain ⟨f, H, h2, h3⟩ := REouter e hM hA e.spans.length 0 (by omega)
  rw [List.take_zero, List.drop_zero, reL_sole e.tr e.spans [] [] (fun n => rfl)] at h2 h3
  simp only [Int.cast_ofNat_Int, epC] at h2 h3
  rw [Cal_eq]
  simp -implicitDefEqProofs only [fns_17, c17, body, startSt, pkeys, slots, recvL, recv, noH, finish, resPV, outRs, outR, outC, outCs, outMs, go_sem, Nat.reduceShiftRight, Nat.reduceAnd, reduceIte, reduceCtorEq, Nat.reduceEqDiff, Nat.reduceAdd, Nat.reduceMul, Nat.reduceSub, Nat.reduceLT, Nat.reduceLeDiff, Nat.reduceBEq, Nat.reduceBNe, Int.reduceToNat, Int.reduceLT, Int.reduceLE, Int.reduceEq, Int.reduceNe, Int.reduceMul, Int.reduceAdd, Int.reduceSub, Int.reduceNeg, or_self, true_or, or_true, false_or, or_false, Int.natCast_nonneg, Int.toNat_natCast, List.length_map, implies_true, Int.cast_ofNat_Int, List.mem_cons, List.not_mem_nil, forall_eq_or_imp, forall_eq, false_implies, List.replicate_succ, List.replicate_zero, List.set_cons_zero, List.set_cons_succ, List.length_set, Nat.zero_add, Nat.not_succ_le_self, Nat.mul_one, exec_loop, Rst, keys1, keys2, keysB, proms, prom, keepV, freshV, freshC, freshB, liveVer, mpVer, pk, ded, insH, sortH, rnP, rnA, rnM, List.map_nil, St.of, List.map_cons, epC, h1]
  rw [h2]
  unfold epOk
  cases hD : e.spans.all spanOk && sole e.tr [] e.spans
  · simp -implicitDefEqProofs only [fns_17, c17, body, startSt, pkeys, slots, recvL, recv, noH, finish, resPV, outRs, outR, outC, outCs, outMs, go_sem, Nat.reduceShiftRight, Nat.reduceAnd, reduceIte, reduceCtorEq, Nat.reduceEqDiff, Nat.reduceAdd, Nat.reduceMul, Nat.reduceSub, Nat.reduceLT, Nat.reduceLeDiff, Nat.reduceBEq, Nat.reduceBNe, Int.reduceToNat, Int.reduceLT, Int.reduceLE, Int.reduceEq, Int.reduceNe, Int.reduceMul, Int.reduceAdd, Int.reduceSub, Int.reduceNeg, or_self, true_or, or_true, false_or, or_false, Int.natCast_nonneg, Int.toNat_natCast, List.length_map, implies_true, Int.cast_ofNat_Int, List.mem_cons, List.not_mem_nil, forall_eq_or_imp, forall_eq, false_implies, List.replicate_succ, List.replicate_zero, List.set_cons_zero, List.set_cons_succ, List.length_set, Nat.zero_add, Nat.not_succ_le_self, Nat.mul_one, exec_loop, Rst, keys1, keys2, keysB, proms, prom, keepV, freshV, freshC, freshB, liveVer, mpVer, pk, ded, insH, sortH, rnP, rnA, rnM, List.map_nil, St.of, List.map_cons, h3 hD]
    (repeat' split) <;> exact resB (by first | rfl | (simp_all; done) | (simp_all; intros; omega) | (rw [Bool.eq_iff_iff]; simp; omega))
  · simp -implicitDefEqProofs only [fns_17, c17, body, startSt, pkeys, slots, recvL, recv, noH, finish, resPV, outRs, outR, outC, outCs, outMs, go_sem, Nat.reduceShiftRight, Nat.reduceAnd, reduceIte, reduceCtorEq, Nat.reduceEqDiff, Nat.reduceAdd, Nat.reduceMul, Nat.reduceSub, Nat.reduceLT, Nat.reduceLeDiff, Nat.reduceBEq, Nat.reduceBNe, Int.reduceToNat, Int.reduceLT, Int.reduceLE, Int.reduceEq, Int.reduceNe, Int.reduceMul, Int.reduceAdd, Int.reduceSub, Int.reduceNeg, or_self, true_or, or_true, false_or, or_false, Int.natCast_nonneg, Int.toNat_natCast, List.length_map, implies_true, Int.cast_ofNat_Int, List.mem_cons, List.not_mem_nil, forall_eq_or_imp, forall_eq, false_implies, List.replicate_succ, List.replicate_zero, List.set_cons_zero, List.set_cons_succ, List.length_set, Nat.zero_add, Nat.not_succ_le_self, Nat.mul_one, exec_loop, Rst, keys1, keys2, keysB, proms, prom, keepV, freshV, freshC, freshB, liveVer, mpVer, pk, ded, insH, sortH, rnP, rnA, rnM, List.map_nil, St.of, List.map_cons]
    (repeat' split) <;> exact resB (by first | rfl | (simp_all; done) | (simp_all; intros; omega) | (rw [Bool.eq_iff_iff]; simp; omega))
/-- A place of a block, as the document asks. -/
def rbAt (l : List Epi) (i : Nat) : Bool := match l[i]? with
  | some e => epOk e && (match i with | 0 => true | j + 1 => match l[j]? with | some a => !lessTr e.tr a.tr | none => true)
  | none => true
def rbL (l : List Epi) : Nat → Nat → Bool
  | 0, _ => true
  | n + 1, i => rbAt l i && rbL l n (i + 1)
theorem RBloop (b : Blo) (hM : (b.eps.length : Int) ≤ 9223372036854775807) (hE : Eps b.eps) : ∀ (n i : Nat), i + n = b.eps.length →
   ∃ f H, Pi.Loop (exec cx (Cal cx) c10_0) (Rst Try.prog ([(1, none), (3, none)], [])) (St.mk (sF [(1, .ad 1 0 0 0), (3, .s (.int .i64 i))]) (hF [(1, some (.row 0 27 4 true [bkC b]))])) = some ((if rbL b.eps n i = true then .ex 0 else .ret), St.mk f H) ∧ (rbL b.eps n i = false → f 2 = .s (.bool false)) ∧ (rbL b.eps n i = true → f 1 = .ad 1 0 0 0 ∧ H 1 = some (.row 0 27 4 true [bkC b])) := by
  intro n
  induction n with
  | zero =>
    intro i h
    have h0 : ¬ (i : Int) < (b.eps.length : Int) := by omega
    rw [Loop_eq]
    simp -implicitDefEqProofs only [fns_10, c10, body, startSt, pkeys, slots, recvL, recv, noH, finish, resPV, outRs, outR, outC, outCs, outMs, go_sem, Nat.reduceShiftRight, Nat.reduceAnd, reduceIte, reduceCtorEq, Nat.reduceEqDiff, Nat.reduceAdd, Nat.reduceMul, Nat.reduceSub, Nat.reduceLT, Nat.reduceLeDiff, Nat.reduceBEq, Nat.reduceBNe, Int.reduceToNat, Int.reduceLT, Int.reduceLE, Int.reduceEq, Int.reduceNe, Int.reduceMul, Int.reduceAdd, Int.reduceSub, Int.reduceNeg, or_self, true_or, or_true, false_or, or_false, Int.natCast_nonneg, Int.toNat_natCast, List.length_map, implies_true, Int.cast_ofNat_Int, List.mem_cons, List.not_mem_nil, forall_eq_or_imp, forall_eq, false_implies, List.replicate_succ, List.replicate_zero, List.set_cons_zero, List.set_cons_succ, List.length_set, Nat.zero_add, Nat.not_succ_le_self, Nat.mul_one, exec_loop, Rst, keys1, keys2, keysB, proms, prom, keepV, freshV, freshC, freshB, liveVer, mpVer, pk, ded, insH, sortH, rnP, rnA, rnM, List.map_nil, St.of, List.map_cons, c10_0, h0, bkC, rbL]
    exact ⟨_, _, rfl, fun _ => ⟨rfl, rfl⟩⟩
  | succ n ih =>
    intro i h
    have h0 : (i : Int) < (b.eps.length : Int) := by omega
    obtain ⟨x, hx⟩ := get_of_lt (l := b.eps) (i := i) (by omega)
    have h8 : IntKind.i64.wrap ((i : Int) + 1) = ((i + 1 : Nat) : Int) := by rw [wrap64_id] <;> omega
    have h7 := ih (i + 1) (by omega)
    have h9 := RightEpisode x (hE x (mem_get hx)).1 (hE x (mem_get hx)).2
    simp only [bkC] at h7
    simp only [epC] at h9
    rw [Loop_eq]
    cases hS : epOk x
    · simp -implicitDefEqProofs only [fns_10, c10, body, startSt, pkeys, slots, recvL, recv, noH, finish, resPV, outRs, outR, outC, outCs, outMs, go_sem, Nat.reduceShiftRight, Nat.reduceAnd, reduceIte, reduceCtorEq, Nat.reduceEqDiff, Nat.reduceAdd, Nat.reduceMul, Nat.reduceSub, Nat.reduceLT, Nat.reduceLeDiff, Nat.reduceBEq, Nat.reduceBNe, Int.reduceToNat, Int.reduceLT, Int.reduceLE, Int.reduceEq, Int.reduceNe, Int.reduceMul, Int.reduceAdd, Int.reduceSub, Int.reduceNeg, or_self, true_or, or_true, false_or, or_false, Int.natCast_nonneg, Int.toNat_natCast, List.length_map, implies_true, Int.cast_ofNat_Int, List.mem_cons, List.not_mem_nil, forall_eq_or_imp, forall_eq, false_implies, List.replicate_succ, List.replicate_zero, List.set_cons_zero, List.set_cons_succ, List.length_set, Nat.zero_add, Nat.not_succ_le_self, Nat.mul_one, exec_loop, Rst, keys1, keys2, keysB, proms, prom, keepV, freshV, freshC, freshB, liveVer, mpVer, pk, ded, insH, sortH, rnP, rnA, rnM, List.map_nil, St.of, List.map_cons, c10_0, h0, getD_map epC hx, h9, bkC, epC, rbL, rbAt, hx, hS]
      (first | exact ⟨_, _, rfl⟩ | (refine ⟨_, _, rfl, ?_⟩; first | exact (fun _ => rfl) | exact (fun h => by cases h) | rfl | exact ⟨rfl, rfl⟩ | exact ⟨fun _ => rfl, fun _ => rfl⟩ | exact ⟨rfl, rfl, rfl⟩ | exact ⟨fun _ => rfl, rfl, rfl, rfl⟩ | exact ⟨rfl, rfl, rfl, rfl⟩))
    · cases i with
      | zero =>
        have h0' : (0 : Int) < (b.eps.length : Int) := by omega
        simp only [Nat.zero_add, Int.cast_ofNat_Int] at h7
        simp -implicitDefEqProofs only [fns_10, c10, body, startSt, pkeys, slots, recvL, recv, noH, finish, resPV, outRs, outR, outC, outCs, outMs, go_sem, Nat.reduceShiftRight, Nat.reduceAnd, reduceIte, reduceCtorEq, Nat.reduceEqDiff, Nat.reduceAdd, Nat.reduceMul, Nat.reduceSub, Nat.reduceLT, Nat.reduceLeDiff, Nat.reduceBEq, Nat.reduceBNe, Int.reduceToNat, Int.reduceLT, Int.reduceLE, Int.reduceEq, Int.reduceNe, Int.reduceMul, Int.reduceAdd, Int.reduceSub, Int.reduceNeg, or_self, true_or, or_true, false_or, or_false, Int.natCast_nonneg, Int.toNat_natCast, List.length_map, implies_true, Int.cast_ofNat_Int, List.mem_cons, List.not_mem_nil, forall_eq_or_imp, forall_eq, false_implies, List.replicate_succ, List.replicate_zero, List.set_cons_zero, List.set_cons_succ, List.length_set, Nat.zero_add, Nat.not_succ_le_self, Nat.mul_one, exec_loop, Rst, keys1, keys2, keysB, proms, prom, keepV, freshV, freshC, freshB, liveVer, mpVer, pk, ded, insH, sortH, rnP, rnA, rnM, List.map_nil, St.of, List.map_cons, c10_0, h0', getD_map epC hx, h9, bkC, epC, rbL, rbAt, hx, hS, w64_1]
        exact h7
      | succ j =>
        have hj : (0 : Int) < ((j + 1 : Nat) : Int) := by omega
        have hj1 : IntKind.i64.wrap (((j + 1 : Nat) : Int) - 1) = (j : Int) := by rw [wrap64_id] <;> omega
        have hj2 : (j : Int) < (b.eps.length : Int) := by omega
        obtain ⟨y, hy⟩ := get_of_lt (l := b.eps) (i := j) (by omega)
        have h10 := LessTrace x.tr y.tr
        simp only [trC] at h10
        cases hL : lessTr x.tr y.tr
        · simp -implicitDefEqProofs only [fns_10, c10, body, startSt, pkeys, slots, recvL, recv, noH, finish, resPV, outRs, outR, outC, outCs, outMs, go_sem, Nat.reduceShiftRight, Nat.reduceAnd, reduceIte, reduceCtorEq, Nat.reduceEqDiff, Nat.reduceAdd, Nat.reduceMul, Nat.reduceSub, Nat.reduceLT, Nat.reduceLeDiff, Nat.reduceBEq, Nat.reduceBNe, Int.reduceToNat, Int.reduceLT, Int.reduceLE, Int.reduceEq, Int.reduceNe, Int.reduceMul, Int.reduceAdd, Int.reduceSub, Int.reduceNeg, or_self, true_or, or_true, false_or, or_false, Int.natCast_nonneg, Int.toNat_natCast, List.length_map, implies_true, Int.cast_ofNat_Int, List.mem_cons, List.not_mem_nil, forall_eq_or_imp, forall_eq, false_implies, List.replicate_succ, List.replicate_zero, List.set_cons_zero, List.set_cons_succ, List.length_set, Nat.zero_add, Nat.not_succ_le_self, Nat.mul_one, exec_loop, Rst, keys1, keys2, keysB, proms, prom, keepV, freshV, freshC, freshB, liveVer, mpVer, pk, ded, insH, sortH, rnP, rnA, rnM, List.map_nil, St.of, List.map_cons, c10_0, h0, getD_map epC hx, getD_map epC hy, h9, h10, bkC, epC, rbL, rbAt, hx, hy, hS, h8, hj, hj1, hj2, hL]
          exact h7
        · simp -implicitDefEqProofs only [fns_10, c10, body, startSt, pkeys, slots, recvL, recv, noH, finish, resPV, outRs, outR, outC, outCs, outMs, go_sem, Nat.reduceShiftRight, Nat.reduceAnd, reduceIte, reduceCtorEq, Nat.reduceEqDiff, Nat.reduceAdd, Nat.reduceMul, Nat.reduceSub, Nat.reduceLT, Nat.reduceLeDiff, Nat.reduceBEq, Nat.reduceBNe, Int.reduceToNat, Int.reduceLT, Int.reduceLE, Int.reduceEq, Int.reduceNe, Int.reduceMul, Int.reduceAdd, Int.reduceSub, Int.reduceNeg, or_self, true_or, or_true, false_or, or_false, Int.natCast_nonneg, Int.toNat_natCast, List.length_map, implies_true, Int.cast_ofNat_Int, List.mem_cons, List.not_mem_nil, forall_eq_or_imp, forall_eq, false_implies, List.replicate_succ, List.replicate_zero, List.set_cons_zero, List.set_cons_succ, List.length_set, Nat.zero_add, Nat.not_succ_le_self, Nat.mul_one, exec_loop, Rst, keys1, keys2, keysB, proms, prom, keepV, freshV, freshC, freshB, liveVer, mpVer, pk, ded, insH, sortH, rnP, rnA, rnM, List.map_nil, St.of, List.map_cons, c10_0, h0, getD_map epC hx, getD_map epC hy, h9, h10, bkC, epC, rbL, rbAt, hx, hy, hS, h8, hj, hj1, hj2, hL]
          (first | exact ⟨_, _, rfl⟩ | (refine ⟨_, _, rfl, ?_⟩; first | exact (fun _ => rfl) | exact (fun h => by cases h) | rfl | exact ⟨rfl, rfl⟩ | exact ⟨fun _ => rfl, fun _ => rfl⟩ | exact ⟨rfl, rfl, rfl⟩ | exact ⟨fun _ => rfl, rfl, rfl, rfl⟩ | exact ⟨rfl, rfl, rfl, rfl⟩))
theorem rbL_iff (l : List Epi) : ∀ (n i : Nat), rbL l n i = true ↔ ∀ k, i ≤ k → k < i + n → rbAt l k = true
  | 0, i => by simp [rbL]; omega
  | n + 1, i => by
    simp only [rbL, Bool.and_eq_true, rbL_iff l n (i + 1)]
    constructor
    · rintro ⟨h1, h2⟩ k hk hk2
      by_cases he : k = i
      · rw [he]; exact h1
      · exact h2 k (by omega) (by omega)
    · intro h
      exact ⟨h i (by omega) (by omega), fun k h1 h2 => h k (by omega) (by omega)⟩
theorem sortedTo_iff (l : List Epi) : ∀ (n : Nat), sortedTo l n = true ↔ ∀ k, k < n → ∀ a b, l[k]? = some a → l[k + 1]? = some b → lessTr b.tr a.tr = false
  | 0 => by simp [sortedTo]
  | n + 1 => by
    simp only [sortedTo, Bool.and_eq_true, sortedTo_iff l n]
    constructor
    · rintro ⟨h1, h2⟩ k hk a b ha hb
      by_cases he : k = n
      · subst he
        simp only [ha, hb] at h1
        rw [lessTr_cmp] at h1
        simpa using h1
      · exact h2 k (by omega) a b ha hb
    · intro h
      refine ⟨?_, fun k hk => h k (by omega)⟩
      cases ha : l[n]? with
      | none => cases l[n + 1]? <;> rfl
      | some a =>
        cases hb : l[n + 1]? with
        | none => rfl
        | some b => simp only []; rw [lessTr_cmp, h n (by omega) a b ha hb]; rfl
theorem rbL_blOk (l : List Epi) : rbL l l.length 0 = (sortedTo l (l.length - 1) && l.all epOk) := by
  rw [Bool.eq_iff_iff, Bool.and_eq_true, rbL_iff, sortedTo_iff, List.all_eq_true]
  constructor
  · intro h
    refine ⟨fun k hk a b ha hb => ?_, fun e he => ?_⟩
    · have := h (k + 1) (by omega) (by have := (List.getElem?_eq_some_iff.1 hb).1; omega)
      simp only [rbAt, hb, ha, Bool.and_eq_true] at this
      simpa using this.2
    · obtain ⟨k, hk, rfl⟩ := List.getElem_of_mem he
      have := h k (by omega) (by omega)
      simp only [rbAt, List.getElem?_eq_getElem hk, Bool.and_eq_true] at this
      exact this.1
  · rintro ⟨h1, h2⟩ k _ hk
    obtain ⟨x, hx⟩ := get_of_lt (l := l) (i := k) (by omega)
    simp only [rbAt, hx, h2 x (mem_get hx), Bool.true_and]
    cases k with
    | zero => rfl
    | succ j =>
      obtain ⟨y, hy⟩ := get_of_lt (l := l) (i := j) (by omega)
      simp only [hy, h1 j (by omega) y x hy hx]
      rfl
theorem RightBlock (b : Blo) (hM : (b.eps.length : Int) ≤ 9223372036854775807) (hE : Eps b.eps) : Cal cx 10 [.ag (bkC b)] = some ([.s (.bool (blOk b))], []) := by
  have h1 := count
  obtain ⟨f, H, h2, h3, h4⟩ := RBloop b hM hE b.eps.length 0 (by omega)
  rw [rbL_blOk] at h2 h3 h4
  simp only [Int.cast_ofNat_Int, bkC] at h2 h3 h4
  rw [Cal_eq]
  simp -implicitDefEqProofs only [fns_10, c10, body, startSt, pkeys, slots, recvL, recv, noH, finish, resPV, outRs, outR, outC, outCs, outMs, go_sem, Nat.reduceShiftRight, Nat.reduceAnd, reduceIte, reduceCtorEq, Nat.reduceEqDiff, Nat.reduceAdd, Nat.reduceMul, Nat.reduceSub, Nat.reduceLT, Nat.reduceLeDiff, Nat.reduceBEq, Nat.reduceBNe, Int.reduceToNat, Int.reduceLT, Int.reduceLE, Int.reduceEq, Int.reduceNe, Int.reduceMul, Int.reduceAdd, Int.reduceSub, Int.reduceNeg, or_self, true_or, or_true, false_or, or_false, Int.natCast_nonneg, Int.toNat_natCast, List.length_map, implies_true, Int.cast_ofNat_Int, List.mem_cons, List.not_mem_nil, forall_eq_or_imp, forall_eq, false_implies, List.replicate_succ, List.replicate_zero, List.set_cons_zero, List.set_cons_succ, List.length_set, Nat.zero_add, Nat.not_succ_le_self, Nat.mul_one, exec_loop, Rst, keys1, keys2, keysB, proms, prom, keepV, freshV, freshC, freshB, liveVer, mpVer, pk, ded, insH, sortH, rnP, rnA, rnM, List.map_nil, St.of, List.map_cons, bkC, h1]
  rw [h2]
  unfold blOk
  cases hD : sortedTo b.eps (b.eps.length - 1) && b.eps.all epOk
  · simp -implicitDefEqProofs only [fns_10, c10, body, startSt, pkeys, slots, recvL, recv, noH, finish, resPV, outRs, outR, outC, outCs, outMs, go_sem, Nat.reduceShiftRight, Nat.reduceAnd, reduceIte, reduceCtorEq, Nat.reduceEqDiff, Nat.reduceAdd, Nat.reduceMul, Nat.reduceSub, Nat.reduceLT, Nat.reduceLeDiff, Nat.reduceBEq, Nat.reduceBNe, Int.reduceToNat, Int.reduceLT, Int.reduceLE, Int.reduceEq, Int.reduceNe, Int.reduceMul, Int.reduceAdd, Int.reduceSub, Int.reduceNeg, or_self, true_or, or_true, false_or, or_false, Int.natCast_nonneg, Int.toNat_natCast, List.length_map, implies_true, Int.cast_ofNat_Int, List.mem_cons, List.not_mem_nil, forall_eq_or_imp, forall_eq, false_implies, List.replicate_succ, List.replicate_zero, List.set_cons_zero, List.set_cons_succ, List.length_set, Nat.zero_add, Nat.not_succ_le_self, Nat.mul_one, exec_loop, Rst, keys1, keys2, keysB, proms, prom, keepV, freshV, freshC, freshB, liveVer, mpVer, pk, ded, insH, sortH, rnP, rnA, rnM, List.map_nil, St.of, List.map_cons, h3 hD]
    exact resB (by rw [Bool.and_assoc, hD, Bool.and_false])
  · obtain ⟨g1, g2⟩ := h4 hD
    simp -implicitDefEqProofs only [fns_10, c10, body, startSt, pkeys, slots, recvL, recv, noH, finish, resPV, outRs, outR, outC, outCs, outMs, go_sem, Nat.reduceShiftRight, Nat.reduceAnd, reduceIte, reduceCtorEq, Nat.reduceEqDiff, Nat.reduceAdd, Nat.reduceMul, Nat.reduceSub, Nat.reduceLT, Nat.reduceLeDiff, Nat.reduceBEq, Nat.reduceBNe, Int.reduceToNat, Int.reduceLT, Int.reduceLE, Int.reduceEq, Int.reduceNe, Int.reduceMul, Int.reduceAdd, Int.reduceSub, Int.reduceNeg, or_self, true_or, or_true, false_or, or_false, Int.natCast_nonneg, Int.toNat_natCast, List.length_map, implies_true, Int.cast_ofNat_Int, List.mem_cons, List.not_mem_nil, forall_eq_or_imp, forall_eq, false_implies, List.replicate_succ, List.replicate_zero, List.set_cons_zero, List.set_cons_succ, List.length_set, Nat.zero_add, Nat.not_succ_le_self, Nat.mul_one, exec_loop, Rst, keys1, keys2, keysB, proms, prom, keepV, freshV, freshC, freshB, liveVer, mpVer, pk, ded, insH, sortH, rnP, rnA, rnM, List.map_nil, St.of, List.map_cons, g1, g2, h1]
    rw [Bool.and_assoc, hD]
    (repeat' split) <;> exact resB (by first | rfl | (simp_all; done) | (simp_all; intros; omega) | (rw [Bool.eq_iff_iff]; simp; omega))
end Go.Proofs.Ytpfjchnpkolmkaa
