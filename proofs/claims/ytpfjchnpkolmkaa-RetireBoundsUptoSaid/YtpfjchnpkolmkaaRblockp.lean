/- How blocks are written: the program. Own work. -/
import Derived.Test.YtpfjchnpkolmkaaRwriter
set_option linter.unusedVariables false
set_option linter.unusedSimpArgs false
namespace Go.Proofs.Ytpfjchnpkolmkaa
open Go Go.Pi
set_option maxHeartbeats 2000000
set_option maxRecDepth 10000
theorem SpanPutLoop (s : Spn) (hM : (s.attrs.length : Int) ≤ 9223372036854775807) : ∀ (n i : Nat) (pre : List Int), i + n = s.attrs.length → (pre ++ atsB (s.attrs.drop i)).length ≤ 140737488355328 →
   ∃ f H, Pi.Loop (exec cx (Cal cx) c46_0) (Rst Try.prog ([(0, none), (44, none), (45, none), (46, none)], [0])) (St.mk (sF [(0, .ad 0 0 0 0), (44, .sh false (s.attrs.map atC)), (45, .s (.int .i64 s.attrs.length)), (46, .s (.int .i64 i))]) (hF [(0, wRow pre), (1000, bRow pre)])) = some (.ex 0, St.mk f H) ∧ f 0 = .ad 0 0 0 0 ∧ H 0 = wRow (pre ++ atsB (s.attrs.drop i)) ∧ H 1000 = bRow (pre ++ atsB (s.attrs.drop i)) := by
  intro n
  induction n with
  | zero =>
    intro i pre h hL
    have h0 : ¬ (i : Int) < (s.attrs.length : Int) := by omega
    rw [Loop_eq, drop_end (by omega)]
    simp -implicitDefEqProofs only [fns_46, c46, body, startSt, pkeys, slots, recvL, recv, noH, finish, resPV, outRs, outR, outC, outCs, outMs, go_sem, Nat.reduceShiftRight, Nat.reduceAnd, reduceIte, reduceCtorEq, Nat.reduceEqDiff, Nat.reduceAdd, Nat.reduceMul, Nat.reduceSub, Nat.reduceLT, Nat.reduceLeDiff, Nat.reduceBEq, Nat.reduceBNe, Int.reduceToNat, Int.reduceLT, Int.reduceLE, Int.reduceEq, Int.reduceNe, Int.reduceMul, Int.reduceAdd, Int.reduceSub, Int.reduceNeg, or_self, true_or, or_true, false_or, or_false, Int.natCast_nonneg, Int.toNat_natCast, List.length_map, implies_true, Int.cast_ofNat_Int, List.mem_cons, List.not_mem_nil, forall_eq_or_imp, forall_eq, false_implies, List.replicate_succ, List.replicate_zero, List.set_cons_zero, List.set_cons_succ, List.length_set, Nat.zero_add, Nat.not_succ_le_self, Nat.mul_one, exec_loop, Rst, keys1, keys2, keysB, proms, prom, keepV, freshV, freshC, freshB, liveVer, mpVer, pk, ded, insH, sortH, rnP, rnA, rnM, List.map_nil, St.of, List.map_cons, c46_0, h0, atsB, List.flatMap_nil, List.append_nil]
    exact ⟨_, _, rfl, rfl, rfl, rfl⟩
  | succ n ih =>
    intro i pre h hL
    have h0 : (i : Int) < (s.attrs.length : Int) := by omega
    obtain ⟨x, hx⟩ := get_of_lt (l := s.attrs) (i := i) (by omega)
    have h8 : IntKind.i64.wrap ((i : Int) + 1) = ((i + 1 : Nat) : Int) := by rw [wrap64_id] <;> omega
    have hd : atsB (s.attrs.drop i) = atB x ++ atsB (s.attrs.drop (i + 1)) := by rw [drop_get hx]; simp [atsB]
    rw [hd, ← List.append_assoc] at hL ⊢
    have hw : texts [x.key, x.val] = atB x := by simp [texts, atB]
    have h1 := TextP true pre [x.key, x.val] (by simp) (by rw [hw]; simp at hL ⊢; omega)
    rw [hw] at h1
    simp only [List.map_cons, List.map_nil, sC] at h1
    have h7 := ih (i + 1) (pre ++ atB x) (by omega) hL
    rw [Loop_eq]
    simp -implicitDefEqProofs only [fns_46, c46, body, startSt, pkeys, slots, recvL, recv, noH, finish, resPV, outRs, outR, outC, outCs, outMs, go_sem, Nat.reduceShiftRight, Nat.reduceAnd, reduceIte, reduceCtorEq, Nat.reduceEqDiff, Nat.reduceAdd, Nat.reduceMul, Nat.reduceSub, Nat.reduceLT, Nat.reduceLeDiff, Nat.reduceBEq, Nat.reduceBNe, Int.reduceToNat, Int.reduceLT, Int.reduceLE, Int.reduceEq, Int.reduceNe, Int.reduceMul, Int.reduceAdd, Int.reduceSub, Int.reduceNeg, or_self, true_or, or_true, false_or, or_false, Int.natCast_nonneg, Int.toNat_natCast, List.length_map, implies_true, Int.cast_ofNat_Int, List.mem_cons, List.not_mem_nil, forall_eq_or_imp, forall_eq, false_implies, List.replicate_succ, List.replicate_zero, List.set_cons_zero, List.set_cons_succ, List.length_set, Nat.zero_add, Nat.not_succ_le_self, Nat.mul_one, exec_loop, Rst, keys1, keys2, keysB, proms, prom, keepV, freshV, freshC, freshB, liveVer, mpVer, pk, ded, insH, sortH, rnP, rnA, rnM, List.map_nil, St.of, List.map_cons, c46_0, h0, getD_map atC hx, atC, h1, h8]
    exact h7
theorem SpanPut (pre : List Int) (s : Spn) (hS : SpR s) (hL : (pre ++ spB s).length ≤ 140737488355328) : Cal cx 46 [wB pre, .ag (spC s)] = some ([], [wB (pre ++ spB s)]) := by
  obtain ⟨hM, h3, h4⟩ := hS
  have e1 : spB s = wides [s.tr.hi, s.tr.lo, s.id, s.parent] ++ (texts [s.svc, s.op] ++ (nums [s.start, s.dur] ++ (vput (bitN s.err) ++ (nums [(s.attrs.length : Int)] ++ atsB s.attrs)))) := by
    simp [spB, wides, texts, nums]
  rw [e1] at hL ⊢
  simp only [← List.append_assoc] at hL ⊢
  have a1 := Wide true pre [s.tr.hi, s.tr.lo, s.id, s.parent] (by simp) (by simp at hL ⊢; omega)
  have a2 := TextP true (pre ++ wides [s.tr.hi, s.tr.lo, s.id, s.parent]) [s.svc, s.op] (by simp) (by simp at hL ⊢; omega)
  have a3 := Num true (pre ++ wides [s.tr.hi, s.tr.lo, s.id, s.parent] ++ texts [s.svc, s.op]) [s.start, s.dur] (fun n hn => by
    simp only [List.mem_cons, List.not_mem_nil, or_false] at hn
    rcases hn with rfl | rfl
    · exact h3
    · exact h4) (by simp) (by simp at hL ⊢; omega)
  have a4 := Flag (pre ++ wides [s.tr.hi, s.tr.lo, s.id, s.parent] ++ texts [s.svc, s.op] ++ nums [s.start, s.dur]) s.err (by simp at hL ⊢; omega)
  have a5 := Num true (pre ++ wides [s.tr.hi, s.tr.lo, s.id, s.parent] ++ texts [s.svc, s.op] ++ nums [s.start, s.dur] ++ vput (bitN s.err)) [(s.attrs.length : Int)] (fun n hn => by simp at hn; subst hn; exact ⟨by omega, by omega⟩) (by simp) (by simp at hL ⊢; omega)
  obtain ⟨f, H, b1, b2, b3, b4⟩ := SpanPutLoop s hM s.attrs.length 0 _ (by omega) hL
  simp only [List.map_cons, List.map_nil, uN, sC, iC] at a1 a2 a3 a5
  simp only [Int.cast_ofNat_Int, List.drop_zero] at b1 b2 b3 b4
  rw [Cal_eq]
  simp -implicitDefEqProofs only [fns_46, c46, body, startSt, pkeys, slots, recvL, recv, noH, finish, resPV, outRs, outR, outC, outCs, outMs, go_sem, Nat.reduceShiftRight, Nat.reduceAnd, reduceIte, reduceCtorEq, Nat.reduceEqDiff, Nat.reduceAdd, Nat.reduceMul, Nat.reduceSub, Nat.reduceLT, Nat.reduceLeDiff, Nat.reduceBEq, Nat.reduceBNe, Int.reduceToNat, Int.reduceLT, Int.reduceLE, Int.reduceEq, Int.reduceNe, Int.reduceMul, Int.reduceAdd, Int.reduceSub, Int.reduceNeg, or_self, true_or, or_true, false_or, or_false, Int.natCast_nonneg, Int.toNat_natCast, List.length_map, implies_true, Int.cast_ofNat_Int, List.mem_cons, List.not_mem_nil, forall_eq_or_imp, forall_eq, false_implies, List.replicate_succ, List.replicate_zero, List.set_cons_zero, List.set_cons_succ, List.length_set, Nat.zero_add, Nat.not_succ_le_self, Nat.mul_one, exec_loop, Rst, keys1, keys2, keysB, proms, prom, keepV, freshV, freshC, freshB, liveVer, mpVer, pk, ded, insH, sortH, rnP, rnA, rnM, List.map_nil, St.of, List.map_cons, spC, a1, a2, a3, a4, a5, b1, b2, b3, b4]
theorem PutSpansLoop (e : Epi) (hM : (e.spans.length : Int) ≤ 9223372036854775807) (hS : ∀ s ∈ e.spans, SpR s) : ∀ (n i : Nat) (pre : List Int), i + n = e.spans.length → (pre ++ spsB (e.spans.drop i)).length ≤ 140737488355328 →
   ∃ f H, Pi.Loop (exec cx (Cal cx) c31_0) (Rst Try.prog ([(0, none), (24, none), (25, none), (26, none)], [0])) (St.mk (sF [(0, .ad 0 0 0 0), (24, .sh false (e.spans.map spC)), (25, .s (.int .i64 e.spans.length)), (26, .s (.int .i64 i))]) (hF [(0, wRow pre), (1000, bRow pre)])) = some (.ex 0, St.mk f H) ∧ f 0 = .ad 0 0 0 0 ∧ H 0 = wRow (pre ++ spsB (e.spans.drop i)) ∧ H 1000 = bRow (pre ++ spsB (e.spans.drop i)) := by
  intro n
  induction n with
  | zero =>
    intro i pre h hL
    have h0 : ¬ (i : Int) < (e.spans.length : Int) := by omega
    rw [Loop_eq, drop_end (by omega)]
    simp -implicitDefEqProofs only [fns_31, c31, body, startSt, pkeys, slots, recvL, recv, noH, finish, resPV, outRs, outR, outC, outCs, outMs, go_sem, Nat.reduceShiftRight, Nat.reduceAnd, reduceIte, reduceCtorEq, Nat.reduceEqDiff, Nat.reduceAdd, Nat.reduceMul, Nat.reduceSub, Nat.reduceLT, Nat.reduceLeDiff, Nat.reduceBEq, Nat.reduceBNe, Int.reduceToNat, Int.reduceLT, Int.reduceLE, Int.reduceEq, Int.reduceNe, Int.reduceMul, Int.reduceAdd, Int.reduceSub, Int.reduceNeg, or_self, true_or, or_true, false_or, or_false, Int.natCast_nonneg, Int.toNat_natCast, List.length_map, implies_true, Int.cast_ofNat_Int, List.mem_cons, List.not_mem_nil, forall_eq_or_imp, forall_eq, false_implies, List.replicate_succ, List.replicate_zero, List.set_cons_zero, List.set_cons_succ, List.length_set, Nat.zero_add, Nat.not_succ_le_self, Nat.mul_one, exec_loop, Rst, keys1, keys2, keysB, proms, prom, keepV, freshV, freshC, freshB, liveVer, mpVer, pk, ded, insH, sortH, rnP, rnA, rnM, List.map_nil, St.of, List.map_cons, c31_0, h0, spsB, List.flatMap_nil, List.append_nil]
    exact ⟨_, _, rfl, rfl, rfl, rfl⟩
  | succ n ih =>
    intro i pre h hL
    have h0 : (i : Int) < (e.spans.length : Int) := by omega
    obtain ⟨x, hx⟩ := get_of_lt (l := e.spans) (i := i) (by omega)
    have h8 : IntKind.i64.wrap ((i : Int) + 1) = ((i + 1 : Nat) : Int) := by rw [wrap64_id] <;> omega
    have hd : spsB (e.spans.drop i) = spB x ++ spsB (e.spans.drop (i + 1)) := by rw [drop_get hx]; simp [spsB]
    rw [hd, ← List.append_assoc] at hL ⊢
    have h1 := SpanPut pre x (hS x (mem_get hx)) (by simp at hL ⊢; omega)
    simp only [spC] at h1
    have h7 := ih (i + 1) (pre ++ spB x) (by omega) hL
    rw [Loop_eq]
    simp -implicitDefEqProofs only [fns_31, c31, body, startSt, pkeys, slots, recvL, recv, noH, finish, resPV, outRs, outR, outC, outCs, outMs, go_sem, Nat.reduceShiftRight, Nat.reduceAnd, reduceIte, reduceCtorEq, Nat.reduceEqDiff, Nat.reduceAdd, Nat.reduceMul, Nat.reduceSub, Nat.reduceLT, Nat.reduceLeDiff, Nat.reduceBEq, Nat.reduceBNe, Int.reduceToNat, Int.reduceLT, Int.reduceLE, Int.reduceEq, Int.reduceNe, Int.reduceMul, Int.reduceAdd, Int.reduceSub, Int.reduceNeg, or_self, true_or, or_true, false_or, or_false, Int.natCast_nonneg, Int.toNat_natCast, List.length_map, implies_true, Int.cast_ofNat_Int, List.mem_cons, List.not_mem_nil, forall_eq_or_imp, forall_eq, false_implies, List.replicate_succ, List.replicate_zero, List.set_cons_zero, List.set_cons_succ, List.length_set, Nat.zero_add, Nat.not_succ_le_self, Nat.mul_one, exec_loop, Rst, keys1, keys2, keysB, proms, prom, keepV, freshV, freshC, freshB, liveVer, mpVer, pk, ded, insH, sortH, rnP, rnA, rnM, List.map_nil, St.of, List.map_cons, c31_0, h0, getD_map spC hx, spC, h1, h8]
    exact h7
theorem PutSpans (pre : List Int) (e : Epi) (hE : EpR e) (hL : (pre ++ epB e).length ≤ 140737488355328) : Cal cx 31 [wB pre, .ag (epC e)] = some ([], [wB (pre ++ epB e)]) := by
  obtain ⟨hM, h2, h3, h4⟩ := hE
  have e1 : epB e = nums [e.first, e.last] ++ (vput (bitN e.sure) ++ (nums [(e.spans.length : Int)] ++ spsB e.spans)) := by
    simp [epB, nums]
  rw [e1] at hL ⊢
  simp only [← List.append_assoc] at hL ⊢
  have a3 := Num true pre [e.first, e.last] (fun n hn => by
    simp only [List.mem_cons, List.not_mem_nil, or_false] at hn
    rcases hn with rfl | rfl
    · exact h3
    · exact h4) (by simp) (by simp at hL ⊢; omega)
  have a4 := Flag (pre ++ nums [e.first, e.last]) e.sure (by simp at hL ⊢; omega)
  have a5 := Num true (pre ++ nums [e.first, e.last] ++ vput (bitN e.sure)) [(e.spans.length : Int)] (fun n hn => by simp at hn; subst hn; exact ⟨by omega, by omega⟩) (by simp) (by simp at hL ⊢; omega)
  obtain ⟨f, H, b1, b2, b3, b4⟩ := PutSpansLoop e hM h2 e.spans.length 0 _ (by omega) hL
  simp only [List.map_cons, List.map_nil, iC] at a3 a5
  simp only [Int.cast_ofNat_Int, List.drop_zero] at b1 b2 b3 b4
  rw [Cal_eq]
  simp -implicitDefEqProofs only [fns_31, c31, body, startSt, pkeys, slots, recvL, recv, noH, finish, resPV, outRs, outR, outC, outCs, outMs, go_sem, Nat.reduceShiftRight, Nat.reduceAnd, reduceIte, reduceCtorEq, Nat.reduceEqDiff, Nat.reduceAdd, Nat.reduceMul, Nat.reduceSub, Nat.reduceLT, Nat.reduceLeDiff, Nat.reduceBEq, Nat.reduceBNe, Int.reduceToNat, Int.reduceLT, Int.reduceLE, Int.reduceEq, Int.reduceNe, Int.reduceMul, Int.reduceAdd, Int.reduceSub, Int.reduceNeg, or_self, true_or, or_true, false_or, or_false, Int.natCast_nonneg, Int.toNat_natCast, List.length_map, implies_true, Int.cast_ofNat_Int, List.mem_cons, List.not_mem_nil, forall_eq_or_imp, forall_eq, false_implies, List.replicate_succ, List.replicate_zero, List.set_cons_zero, List.set_cons_succ, List.length_set, Nat.zero_add, Nat.not_succ_le_self, Nat.mul_one, exec_loop, Rst, keys1, keys2, keysB, proms, prom, keepV, freshV, freshC, freshB, liveVer, mpVer, pk, ded, insH, sortH, rnP, rnA, rnM, List.map_nil, St.of, List.map_cons, epC, a3, a4, a5, b1, b2, b3, b4]
abbrev w2 (p : List Int) : Option Blk := some (.row 0 62 1 true [[.sl 1768 0 0 p.length]])
abbrev w4 (p : List Int) : Option Blk := some (.row 0 62 1 true [[.sl 1896 0 0 p.length]])
theorem BytesLoop (l : List Epi) (hM : (l.length : Int) ≤ 9223372036854775807) (hE : ∀ e ∈ l, EpR e) : ∀ (n i : Nat) (p q : List Int), i + n = l.length → (p ++ idxsB (l.drop i)).length ≤ 140737488355328 → (q ++ epsB (l.drop i)).length ≤ 140737488355328 →
   ∃ f H, Pi.Loop (exec cx (Cal cx) c21_0) (Rst Try.prog ([(3, none), (4, none), (28, none), (29, none), (30, none)], [])) (St.mk (sF [(3, .ad 12 0 0 0), (4, .ad 14 0 0 0), (28, .sh false (l.map epC)), (29, .s (.int .i64 l.length)), (30, .s (.int .i64 i))]) (hF [(12, w2 p), (14, w4 q), (1768, bRow p), (1896, bRow q)])) = some (.ex 0, St.mk f H) ∧ f 3 = .ad 12 0 0 0 ∧ f 4 = .ad 14 0 0 0 ∧ H 12 = w2 (p ++ idxsB (l.drop i)) ∧ H 14 = w4 (q ++ epsB (l.drop i)) ∧ H 1768 = bRow (p ++ idxsB (l.drop i)) ∧ H 1896 = bRow (q ++ epsB (l.drop i)) ∧ H 71 = none := by
  intro n
  induction n with
  | zero =>
    intro i p q h hL hQ
    have h0 : ¬ (i : Int) < (l.length : Int) := by omega
    rw [Loop_eq, drop_end (by omega)]
    simp -implicitDefEqProofs only [fns_21, c21, body, startSt, pkeys, slots, recvL, recv, noH, finish, resPV, outRs, outR, outC, outCs, outMs, go_sem, Nat.reduceShiftRight, Nat.reduceAnd, reduceIte, reduceCtorEq, Nat.reduceEqDiff, Nat.reduceAdd, Nat.reduceMul, Nat.reduceSub, Nat.reduceLT, Nat.reduceLeDiff, Nat.reduceBEq, Nat.reduceBNe, Int.reduceToNat, Int.reduceLT, Int.reduceLE, Int.reduceEq, Int.reduceNe, Int.reduceMul, Int.reduceAdd, Int.reduceSub, Int.reduceNeg, or_self, true_or, or_true, false_or, or_false, Int.natCast_nonneg, Int.toNat_natCast, List.length_map, implies_true, Int.cast_ofNat_Int, List.mem_cons, List.not_mem_nil, forall_eq_or_imp, forall_eq, false_implies, List.replicate_succ, List.replicate_zero, List.set_cons_zero, List.set_cons_succ, List.length_set, Nat.zero_add, Nat.not_succ_le_self, Nat.mul_one, exec_loop, Rst, keys1, keys2, keysB, proms, prom, keepV, freshV, freshC, freshB, liveVer, mpVer, pk, ded, insH, sortH, rnP, rnA, rnM, List.map_nil, St.of, List.map_cons, c21_0, h0, idxsB, epsB, List.flatMap_nil, List.append_nil]
    exact ⟨_, _, rfl, rfl, rfl, rfl, rfl, rfl, rfl, rfl⟩
  | succ n ih =>
    intro i p q h hL hQ
    have h0 : (i : Int) < (l.length : Int) := by omega
    obtain ⟨x, hx⟩ := get_of_lt (l := l) (i := i) (by omega)
    have h8 : IntKind.i64.wrap ((i : Int) + 1) = ((i + 1 : Nat) : Int) := by rw [wrap64_id] <;> omega
    have hd : idxsB (l.drop i) = trB x.tr ++ (vput (epB x).length ++ idxsB (l.drop (i + 1))) := by rw [drop_get hx]; simp [idxsB, idxB]
    have he : epsB (l.drop i) = epB x ++ epsB (l.drop (i + 1)) := by rw [drop_get hx]; simp [epsB]
    rw [hd] at hL ⊢
    rw [he] at hQ ⊢
    simp only [← List.append_assoc] at hL hQ ⊢
    have hy : (epB x).length ≤ 140737488355328 := by simp at hQ; omega
    have hq : q.length ≤ 140737488355328 := by simp at hQ; omega
    have h1 := PutSpans q x (hE x (mem_get hx)) (by simp at hQ ⊢; omega)
    have e1 : wides [x.tr.hi, x.tr.lo] = trB x.tr := by simp [wides, trB]
    have e2 : nums [((epB x).length : Int)] = vput (epB x).length := by simp [nums]
    have h2 := Wide true p [x.tr.hi, x.tr.lo] (by simp) (by rw [e1]; simp at hL ⊢; omega)
    have h3 := Num true (p ++ trB x.tr) [((epB x).length : Int)] (fun n hn => by simp at hn; subst hn; exact ⟨by omega, by omega⟩) (by simp) (by rw [e2]; simp at hL ⊢; omega)
    rw [e1] at h2
    rw [e2] at h3
    have h4 : IntKind.i64.wrap (((q ++ epB x).length : Int) - (q.length : Int)) = ((epB x).length : Int) := by
      rw [List.length_append, wrap64_id] <;> omega
    have h7 := ih (i + 1) (p ++ trB x.tr ++ vput (epB x).length) (q ++ epB x) (by omega) hL hQ
    simp only [epC] at h1
    simp only [List.map_cons, List.map_nil, uN] at h2
    simp only [List.map_cons, List.map_nil, iC] at h3
    rw [Loop_eq]
    simp -implicitDefEqProofs only [fns_21, c21, body, startSt, pkeys, slots, recvL, recv, noH, finish, resPV, outRs, outR, outC, outCs, outMs, go_sem, Nat.reduceShiftRight, Nat.reduceAnd, reduceIte, reduceCtorEq, Nat.reduceEqDiff, Nat.reduceAdd, Nat.reduceMul, Nat.reduceSub, Nat.reduceLT, Nat.reduceLeDiff, Nat.reduceBEq, Nat.reduceBNe, Int.reduceToNat, Int.reduceLT, Int.reduceLE, Int.reduceEq, Int.reduceNe, Int.reduceMul, Int.reduceAdd, Int.reduceSub, Int.reduceNeg, or_self, true_or, or_true, false_or, or_false, Int.natCast_nonneg, Int.toNat_natCast, List.length_map, implies_true, Int.cast_ofNat_Int, List.mem_cons, List.not_mem_nil, forall_eq_or_imp, forall_eq, false_implies, List.replicate_succ, List.replicate_zero, List.set_cons_zero, List.set_cons_succ, List.length_set, Nat.zero_add, Nat.not_succ_le_self, Nat.mul_one, exec_loop, Rst, keys1, keys2, keysB, proms, prom, keepV, freshV, freshC, freshB, liveVer, mpVer, pk, ded, insH, sortH, rnP, rnA, rnM, List.map_nil, St.of, List.map_cons, c21_0, h0, getD_map epC hx, epC, h1, h2, h3, h4, h8]
    exact h7
theorem Bytes (b : Blo) (hM : (b.eps.length : Int) ≤ 9223372036854775807) (hE : Eps b.eps) (hL : (sealB (bkBody b)).length ≤ 140737488355328) : Cal cx 21 [.ag (bkC b)] = some ([oB (bkB b)], []) := by
  have h1 := RightB b hM hE
  simp only [bkC] at h1
  unfold bkB
  rw [Cal_eq]
  cases hb : blOk b
  · simp -implicitDefEqProofs only [fns_21, c21, body, startSt, pkeys, slots, recvL, recv, noH, finish, resPV, outRs, outR, outC, outCs, outMs, go_sem, Nat.reduceShiftRight, Nat.reduceAnd, reduceIte, reduceCtorEq, Nat.reduceEqDiff, Nat.reduceAdd, Nat.reduceMul, Nat.reduceSub, Nat.reduceLT, Nat.reduceLeDiff, Nat.reduceBEq, Nat.reduceBNe, Int.reduceToNat, Int.reduceLT, Int.reduceLE, Int.reduceEq, Int.reduceNe, Int.reduceMul, Int.reduceAdd, Int.reduceSub, Int.reduceNeg, or_self, true_or, or_true, false_or, or_false, Int.natCast_nonneg, Int.toNat_natCast, List.length_map, implies_true, Int.cast_ofNat_Int, List.mem_cons, List.not_mem_nil, forall_eq_or_imp, forall_eq, false_implies, List.replicate_succ, List.replicate_zero, List.set_cons_zero, List.set_cons_succ, List.length_set, Nat.zero_add, Nat.not_succ_le_self, Nat.mul_one, exec_loop, Rst, keys1, keys2, keysB, proms, prom, keepV, freshV, freshC, freshB, liveVer, mpVer, pk, ded, insH, sortH, rnP, rnA, rnM, List.map_nil, St.of, List.map_cons, bkC, h1, hb]
    rfl
  · have hR : ∀ e ∈ b.eps, EpR e := fun e he => epR_of (hE e he).1 (by
      unfold blOk at hb
      simp only [Bool.and_eq_true] at hb
      exact List.all_eq_true.1 hb.2 e he)
    have hN : ∀ n ∈ [b.number, b.born, b.tier, (b.eps.length : Int)], U64 n := by
      unfold blOk at hb
      simp only [Bool.and_eq_true, List.all_cons, List.all_nil, Bool.and_true] at hb
      intro n hn
      simp only [List.mem_cons, List.not_mem_nil, or_false] at hn
      rcases hn with rfl | rfl | rfl | rfl
      · exact epochU hb.1.1.1
      · exact epochU hb.1.1.2.1
      · exact epochU hb.1.1.2.2
      · exact ⟨by omega, by omega⟩
    have hS := Seal true (bkBody b) hL
    unfold bkBody sealB at hL
    have h2 := Num true [] [b.number, b.born, b.tier, (b.eps.length : Int)] hN (by simp) (by simp at hL ⊢; omega)
    simp only [wB, List.map_cons, List.map_nil, iC, List.nil_append] at h2
    obtain ⟨f, H, g1, g2, g3, g4, g5, g6, g7, g8⟩ := BytesLoop b.eps hM hR b.eps.length 0 (nums [b.number, b.born, b.tier, (b.eps.length : Int)]) [] (by omega) (by simp at hL ⊢; omega) (by simp at hL ⊢; omega)
    simp only [w2, w4, bRow, Int.cast_ofNat_Int, List.drop_zero, List.map_nil, List.length_nil, List.nil_append] at g1 g2 g3 g4 g5 g6 g7
    unfold bkBody at hS ⊢
    have hq : (nums [b.number, b.born, b.tier, (b.eps.length : Int)] ++ idxsB b.eps ++ epsB b.eps).length ≤ 140737488355328 := by simp at hL ⊢; omega
    by_cases he : epsB b.eps = []
    · rw [he] at g5 g7 hS ⊢
      simp only [List.append_nil, List.length_nil, List.map_nil] at g5 g7 hS ⊢
      simp -implicitDefEqProofs only [fns_21, c21, body, startSt, pkeys, slots, recvL, recv, noH, finish, resPV, outRs, outR, outC, outCs, outMs, go_sem, Nat.reduceShiftRight, Nat.reduceAnd, reduceIte, reduceCtorEq, Nat.reduceEqDiff, Nat.reduceAdd, Nat.reduceMul, Nat.reduceSub, Nat.reduceLT, Nat.reduceLeDiff, Nat.reduceBEq, Nat.reduceBNe, Int.reduceToNat, Int.reduceLT, Int.reduceLE, Int.reduceEq, Int.reduceNe, Int.reduceMul, Int.reduceAdd, Int.reduceSub, Int.reduceNeg, or_self, true_or, or_true, false_or, or_false, Int.natCast_nonneg, Int.toNat_natCast, List.length_map, implies_true, Int.cast_ofNat_Int, List.mem_cons, List.not_mem_nil, forall_eq_or_imp, forall_eq, false_implies, List.replicate_succ, List.replicate_zero, List.set_cons_zero, List.set_cons_succ, List.length_set, Nat.zero_add, Nat.not_succ_le_self, Nat.mul_one, exec_loop, Rst, keys1, keys2, keysB, proms, prom, keepV, freshV, freshC, freshB, liveVer, mpVer, pk, ded, insH, sortH, rnP, rnA, rnM, List.map_nil, St.of, List.map_cons, bkC, h1, hb, h2, g1, g2, g3, g4, g5, g6, g7, g8, hS]
    · simp -implicitDefEqProofs only [fns_21, c21, body, startSt, pkeys, slots, recvL, recv, noH, finish, resPV, outRs, outR, outC, outCs, outMs, go_sem, Nat.reduceShiftRight, Nat.reduceAnd, reduceIte, reduceCtorEq, Nat.reduceEqDiff, Nat.reduceAdd, Nat.reduceMul, Nat.reduceSub, Nat.reduceLT, Nat.reduceLeDiff, Nat.reduceBEq, Nat.reduceBNe, Int.reduceToNat, Int.reduceLT, Int.reduceLE, Int.reduceEq, Int.reduceNe, Int.reduceMul, Int.reduceAdd, Int.reduceSub, Int.reduceNeg, or_self, true_or, or_true, false_or, or_false, Int.natCast_nonneg, Int.toNat_natCast, List.length_map, implies_true, Int.cast_ofNat_Int, List.mem_cons, List.not_mem_nil, forall_eq_or_imp, forall_eq, false_implies, List.replicate_succ, List.replicate_zero, List.set_cons_zero, List.set_cons_succ, List.length_set, Nat.zero_add, Nat.not_succ_le_self, Nat.mul_one, exec_loop, Rst, keys1, keys2, keysB, proms, prom, keepV, freshV, freshC, freshB, liveVer, mpVer, pk, ded, insH, sortH, rnP, rnA, rnM, List.map_nil, St.of, List.map_cons, bkC, h1, hb, h2, g1, g2, g3, g4, g5, g6, g7, g8, appSl_map _ _ _ _ he, hq, hS]
theorem Size (b : Blo) (hM : (b.eps.length : Int) ≤ 9223372036854775807) (hE : Eps b.eps) (hL : (sealB (bkBody b)).length ≤ 140737488355328) : Cal cx 14 [.ag (bkC b)] = some ([.s (.int .i64 (bkB b).length)], []) := by
  have h1 := Bytes b hM hE hL
  simp only [bkC] at h1
  rw [Cal_eq]
  simp -implicitDefEqProofs only [fns_14, c14, body, startSt, pkeys, slots, recvL, recv, noH, finish, resPV, outRs, outR, outC, outCs, outMs, go_sem, Nat.reduceShiftRight, Nat.reduceAnd, reduceIte, reduceCtorEq, Nat.reduceEqDiff, Nat.reduceAdd, Nat.reduceMul, Nat.reduceSub, Nat.reduceLT, Nat.reduceLeDiff, Nat.reduceBEq, Nat.reduceBNe, Int.reduceToNat, Int.reduceLT, Int.reduceLE, Int.reduceEq, Int.reduceNe, Int.reduceMul, Int.reduceAdd, Int.reduceSub, Int.reduceNeg, or_self, true_or, or_true, false_or, or_false, Int.natCast_nonneg, Int.toNat_natCast, List.length_map, implies_true, Int.cast_ofNat_Int, List.mem_cons, List.not_mem_nil, forall_eq_or_imp, forall_eq, false_implies, List.replicate_succ, List.replicate_zero, List.set_cons_zero, List.set_cons_succ, List.length_set, Nat.zero_add, Nat.not_succ_le_self, Nat.mul_one, exec_loop, Rst, keys1, keys2, keysB, proms, prom, keepV, freshV, freshC, freshB, liveVer, mpVer, pk, ded, insH, sortH, rnP, rnA, rnM, List.map_nil, St.of, List.map_cons, bkC, h1]
end Go.Proofs.Ytpfjchnpkolmkaa
