/- How episodes are written: the document. Own work. -/
import Derived.Test.YtpfjchnpkolmkaaRbytes
set_option linter.unusedVariables false
set_option linter.unusedSimpArgs false
namespace Go.Proofs.Ytpfjchnpkolmkaa
open Go Go.Pi
set_option maxHeartbeats 2000000
set_option maxRecDepth 10000
def U64 (n : Int) : Prop := 0 ≤ n ∧ n < 18446744073709551616
def SpR (s : Spn) : Prop := (s.attrs.length : Int) ≤ 9223372036854775807 ∧ U64 s.start ∧ U64 s.dur
theorem spR_of {s : Spn} (h : spanOk s = true) : SpR s := by
  unfold spanOk attrsOk at h
  simp at h
  refine ⟨by omega, ⟨by omega, by omega⟩, ⟨by omega, by omega⟩⟩
theorem trace (pre : List Int) (t : Trc) (hL : (pre ++ trB t).length ≤ 140737488355328) : Cal cx 25 [oB pre, .ag (trC t)] = some ([oB (pre ++ trB t)], []) := by
  unfold trB at hL ⊢
  rw [← List.append_assoc] at hL ⊢
  have a1 := Put pre t.hi (by simp at hL ⊢; omega)
  have a2 := Put (pre ++ vput t.hi) t.lo (by simp at hL ⊢; omega)
  rw [Cal_eq]
  simp -implicitDefEqProofs only [fns_25, c25, body, startSt, pkeys, slots, recvL, recv, noH, finish, resPV, outRs, outR, outC, outCs, outMs, go_sem, Nat.reduceShiftRight, Nat.reduceAnd, reduceIte, reduceCtorEq, Nat.reduceEqDiff, Nat.reduceAdd, Nat.reduceMul, Nat.reduceSub, Nat.reduceLT, Nat.reduceLeDiff, Nat.reduceBEq, Nat.reduceBNe, Int.reduceToNat, Int.reduceLT, Int.reduceLE, Int.reduceEq, Int.reduceNe, Int.reduceMul, Int.reduceAdd, Int.reduceSub, Int.reduceNeg, or_self, true_or, or_true, false_or, or_false, Int.natCast_nonneg, Int.toNat_natCast, List.length_map, implies_true, Int.cast_ofNat_Int, List.mem_cons, List.not_mem_nil, forall_eq_or_imp, forall_eq, false_implies, List.replicate_succ, List.replicate_zero, List.set_cons_zero, List.set_cons_succ, List.length_set, Nat.zero_add, Nat.not_succ_le_self, Nat.mul_one, exec_loop, Rst, keys1, keys2, keysB, proms, prom, keepV, freshV, freshC, freshB, liveVer, mpVer, pk, ded, insH, sortH, rnP, rnA, rnM, List.map_nil, St.of, List.map_cons, trC, a1, a2]
theorem putsLoop (ln : Bool) (l : List Int) (hU : ∀ n ∈ l, U64 n) (hM : (l.length : Int) ≤ 9223372036854775807) : ∀ (n i : Nat) (pre : List Int), i + n = l.length → (pre ++ nums (l.drop i)).length ≤ 140737488355328 →
   ∃ f H, Pi.Loop (exec cx (Cal cx) c22_0) (Rst Try.prog ([(0, some 5), (1, none), (5, none)], [])) (St.mk (sF [(0, .sl 500000 0 0 pre.length), (1, .sh ln (l.map iC)), (5, .s (.int .i64 i))]) (hF [(500000, some (.row 0 5 1 false (pre.map bC)))])) = some (.ex 0, St.mk f H) ∧ f 0 = .sl 500000 0 0 (pre ++ nums (l.drop i)).length ∧ H 500000 = some (.row 0 5 1 false ((pre ++ nums (l.drop i)).map bC)) := by
  intro n
  induction n with
  | zero =>
    intro i pre h hL
    have h0 : ¬ (i : Int) < (l.length : Int) := by omega
    rw [Loop_eq, drop_end (by omega)]
    simp -implicitDefEqProofs only [fns_22, c22, body, startSt, pkeys, slots, recvL, recv, noH, finish, resPV, outRs, outR, outC, outCs, outMs, go_sem, Nat.reduceShiftRight, Nat.reduceAnd, reduceIte, reduceCtorEq, Nat.reduceEqDiff, Nat.reduceAdd, Nat.reduceMul, Nat.reduceSub, Nat.reduceLT, Nat.reduceLeDiff, Nat.reduceBEq, Nat.reduceBNe, Int.reduceToNat, Int.reduceLT, Int.reduceLE, Int.reduceEq, Int.reduceNe, Int.reduceMul, Int.reduceAdd, Int.reduceSub, Int.reduceNeg, or_self, true_or, or_true, false_or, or_false, Int.natCast_nonneg, Int.toNat_natCast, List.length_map, implies_true, Int.cast_ofNat_Int, List.mem_cons, List.not_mem_nil, forall_eq_or_imp, forall_eq, false_implies, List.replicate_succ, List.replicate_zero, List.set_cons_zero, List.set_cons_succ, List.length_set, Nat.zero_add, Nat.not_succ_le_self, Nat.mul_one, exec_loop, Rst, keys1, keys2, keysB, proms, prom, keepV, freshV, freshC, freshB, liveVer, mpVer, pk, ded, insH, sortH, rnP, rnA, rnM, List.map_nil, St.of, List.map_cons, c22_0, h0, nums, List.flatMap_nil, List.append_nil]
    (first | exact ⟨_, _, rfl⟩ | (refine ⟨_, _, rfl, ?_⟩; first | exact (fun _ => rfl) | exact (fun h => by cases h) | rfl | exact ⟨rfl, rfl⟩ | exact ⟨fun _ => rfl, fun _ => rfl⟩ | exact ⟨rfl, rfl, rfl⟩ | exact ⟨fun _ => rfl, rfl, rfl, rfl⟩ | exact ⟨rfl, rfl, rfl, rfl⟩))
  | succ n ih =>
    intro i pre h hL
    have h0 : (i : Int) < (l.length : Int) := by omega
    obtain ⟨x, hx⟩ := get_of_lt (l := l) (i := i) (by omega)
    have h8 : IntKind.i64.wrap ((i : Int) + 1) = ((i + 1 : Nat) : Int) := by rw [wrap64_id] <;> omega
    have hd : nums (l.drop i) = vput x.toNat ++ nums (l.drop (i + 1)) := by rw [drop_get hx]; simp [nums]
    rw [hd, ← List.append_assoc] at hL ⊢
    have hu := hU x (mem_get hx)
    have h2 := u64_int hu.1 hu.2
    have h1 := Put pre x.toNat (by simp at hL ⊢; omega)
    have h7 := ih (i + 1) (pre ++ vput x.toNat) (by omega) hL
    rw [Loop_eq]
    simp -implicitDefEqProofs only [fns_22, c22, body, startSt, pkeys, slots, recvL, recv, noH, finish, resPV, outRs, outR, outC, outCs, outMs, go_sem, Nat.reduceShiftRight, Nat.reduceAnd, reduceIte, reduceCtorEq, Nat.reduceEqDiff, Nat.reduceAdd, Nat.reduceMul, Nat.reduceSub, Nat.reduceLT, Nat.reduceLeDiff, Nat.reduceBEq, Nat.reduceBNe, Int.reduceToNat, Int.reduceLT, Int.reduceLE, Int.reduceEq, Int.reduceNe, Int.reduceMul, Int.reduceAdd, Int.reduceSub, Int.reduceNeg, or_self, true_or, or_true, false_or, or_false, Int.natCast_nonneg, Int.toNat_natCast, List.length_map, implies_true, Int.cast_ofNat_Int, List.mem_cons, List.not_mem_nil, forall_eq_or_imp, forall_eq, false_implies, List.replicate_succ, List.replicate_zero, List.set_cons_zero, List.set_cons_succ, List.length_set, Nat.zero_add, Nat.not_succ_le_self, Nat.mul_one, exec_loop, Rst, keys1, keys2, keysB, proms, prom, keepV, freshV, freshC, freshB, liveVer, mpVer, pk, ded, insH, sortH, rnP, rnA, rnM, List.map_nil, St.of, List.map_cons, c22_0, h0, getD_map iC hx, h1, h2, iC, h8]
    exact h7
theorem puts (pre : List Int) (ln : Bool) (l : List Int) (hU : ∀ n ∈ l, U64 n) (hM : (l.length : Int) ≤ 9223372036854775807) (hL : (pre ++ nums l).length ≤ 140737488355328) : Cal cx 22 [oB pre, .sh ln (l.map iC)] = some ([oB (pre ++ nums l)], []) := by
  obtain ⟨f, H, b1, b2, b3⟩ := putsLoop ln l hU hM l.length 0 pre (by omega) hL
  simp only [Int.cast_ofNat_Int, List.drop_zero] at b1 b2 b3
  rw [Cal_eq]
  simp -implicitDefEqProofs only [fns_22, c22, body, startSt, pkeys, slots, recvL, recv, noH, finish, resPV, outRs, outR, outC, outCs, outMs, go_sem, Nat.reduceShiftRight, Nat.reduceAnd, reduceIte, reduceCtorEq, Nat.reduceEqDiff, Nat.reduceAdd, Nat.reduceMul, Nat.reduceSub, Nat.reduceLT, Nat.reduceLeDiff, Nat.reduceBEq, Nat.reduceBNe, Int.reduceToNat, Int.reduceLT, Int.reduceLE, Int.reduceEq, Int.reduceNe, Int.reduceMul, Int.reduceAdd, Int.reduceSub, Int.reduceNeg, or_self, true_or, or_true, false_or, or_false, Int.natCast_nonneg, Int.toNat_natCast, List.length_map, implies_true, Int.cast_ofNat_Int, List.mem_cons, List.not_mem_nil, forall_eq_or_imp, forall_eq, false_implies, List.replicate_succ, List.replicate_zero, List.set_cons_zero, List.set_cons_succ, List.length_set, Nat.zero_add, Nat.not_succ_le_self, Nat.mul_one, exec_loop, Rst, keys1, keys2, keysB, proms, prom, keepV, freshV, freshC, freshB, liveVer, mpVer, pk, ded, insH, sortH, rnP, rnA, rnM, List.map_nil, St.of, List.map_cons, b1, b2, b3]
theorem bodyLoop (e : Epi) (hM : (e.spans.length : Int) ≤ 9223372036854775807) (hS : ∀ s ∈ e.spans, SpR s) : ∀ (n i : Nat) (pre : List Int), i + n = e.spans.length → (pre ++ spsB (e.spans.drop i)).length ≤ 140737488355328 →
   ∃ f H, Pi.Loop (exec cx (Cal cx) c23_0) (Rst Try.prog ([(0, some 5), (3, none), (5, none)], [])) (St.mk (sF [(0, .sl 500000 0 0 pre.length), (3, .ad 3 0 0 0), (5, .s (.int .i64 i))]) (hF [(3, some (.row 0 47 6 true [epC e])), (500000, some (.row 0 5 1 false (pre.map bC)))])) = some (.ex 0, St.mk f H) ∧ f 0 = .sl 500000 0 0 (pre ++ spsB (e.spans.drop i)).length ∧ H 500000 = some (.row 0 5 1 false ((pre ++ spsB (e.spans.drop i)).map bC)) := by
  intro n
  induction n with
  | zero =>
    intro i pre h hL
    have h0 : ¬ (i : Int) < (e.spans.length : Int) := by omega
    rw [Loop_eq, drop_end (by omega)]
    simp -implicitDefEqProofs only [fns_23, c23, body, startSt, pkeys, slots, recvL, recv, noH, finish, resPV, outRs, outR, outC, outCs, outMs, go_sem, Nat.reduceShiftRight, Nat.reduceAnd, reduceIte, reduceCtorEq, Nat.reduceEqDiff, Nat.reduceAdd, Nat.reduceMul, Nat.reduceSub, Nat.reduceLT, Nat.reduceLeDiff, Nat.reduceBEq, Nat.reduceBNe, Int.reduceToNat, Int.reduceLT, Int.reduceLE, Int.reduceEq, Int.reduceNe, Int.reduceMul, Int.reduceAdd, Int.reduceSub, Int.reduceNeg, or_self, true_or, or_true, false_or, or_false, Int.natCast_nonneg, Int.toNat_natCast, List.length_map, implies_true, Int.cast_ofNat_Int, List.mem_cons, List.not_mem_nil, forall_eq_or_imp, forall_eq, false_implies, List.replicate_succ, List.replicate_zero, List.set_cons_zero, List.set_cons_succ, List.length_set, Nat.zero_add, Nat.not_succ_le_self, Nat.mul_one, exec_loop, Rst, keys1, keys2, keysB, proms, prom, keepV, freshV, freshC, freshB, liveVer, mpVer, pk, ded, insH, sortH, rnP, rnA, rnM, List.map_nil, St.of, List.map_cons, c23_0, h0, epC, spsB, List.flatMap_nil, List.append_nil]
    (first | exact ⟨_, _, rfl⟩ | (refine ⟨_, _, rfl, ?_⟩; first | exact (fun _ => rfl) | exact (fun h => by cases h) | rfl | exact ⟨rfl, rfl⟩ | exact ⟨fun _ => rfl, fun _ => rfl⟩ | exact ⟨rfl, rfl, rfl⟩ | exact ⟨fun _ => rfl, rfl, rfl, rfl⟩ | exact ⟨rfl, rfl, rfl, rfl⟩))
  | succ n ih =>
    intro i pre h hL
    have h0 : (i : Int) < (e.spans.length : Int) := by omega
    obtain ⟨x, hx⟩ := get_of_lt (l := e.spans) (i := i) (by omega)
    have h8 : IntKind.i64.wrap ((i : Int) + 1) = ((i + 1 : Nat) : Int) := by rw [wrap64_id] <;> omega
    have hd : spsB (e.spans.drop i) = spB x ++ spsB (e.spans.drop (i + 1)) := by rw [drop_get hx]; simp [spsB]
    rw [hd, ← List.append_assoc] at hL ⊢
    obtain ⟨r1, r2, r3⟩ := hS x (mem_get hx)
    have h1 := AddSpan pre x r1 r2.1 r2.2 r3.1 r3.2 (by simp at hL ⊢; omega)
    have h7 := ih (i + 1) (pre ++ spB x) (by omega) hL
    simp only [epC] at h7
    simp only [spC] at h1
    rw [Loop_eq]
    simp -implicitDefEqProofs only [fns_23, c23, body, startSt, pkeys, slots, recvL, recv, noH, finish, resPV, outRs, outR, outC, outCs, outMs, go_sem, Nat.reduceShiftRight, Nat.reduceAnd, reduceIte, reduceCtorEq, Nat.reduceEqDiff, Nat.reduceAdd, Nat.reduceMul, Nat.reduceSub, Nat.reduceLT, Nat.reduceLeDiff, Nat.reduceBEq, Nat.reduceBNe, Int.reduceToNat, Int.reduceLT, Int.reduceLE, Int.reduceEq, Int.reduceNe, Int.reduceMul, Int.reduceAdd, Int.reduceSub, Int.reduceNeg, or_self, true_or, or_true, false_or, or_false, Int.natCast_nonneg, Int.toNat_natCast, List.length_map, implies_true, Int.cast_ofNat_Int, List.mem_cons, List.not_mem_nil, forall_eq_or_imp, forall_eq, false_implies, List.replicate_succ, List.replicate_zero, List.set_cons_zero, List.set_cons_succ, List.length_set, Nat.zero_add, Nat.not_succ_le_self, Nat.mul_one, exec_loop, Rst, keys1, keys2, keysB, proms, prom, keepV, freshV, freshC, freshB, liveVer, mpVer, pk, ded, insH, sortH, rnP, rnA, rnM, List.map_nil, St.of, List.map_cons, c23_0, h0, getD_map spC hx, h1, epC, spC, h8]
    exact h7
theorem bodyR (pre : List Int) (e : Epi) (hM : (e.spans.length : Int) ≤ 9223372036854775807) (hS : ∀ s ∈ e.spans, SpR s) (h1 : U64 e.first) (h2 : U64 e.last) (hL : (pre ++ epB e).length ≤ 140737488355328) : Cal cx 23 [oB pre, .ag (epC e)] = some ([oB (pre ++ epB e)], []) := by
  unfold epB at hL ⊢
  simp only [← List.append_assoc] at hL ⊢
  have a1 := Put pre e.first.toNat (by simp at hL ⊢; omega)
  have a2 := Put (pre ++ vput e.first.toNat) e.last.toNat (by simp at hL ⊢; omega)
  have a3 := Put (pre ++ vput e.first.toNat ++ vput e.last.toNat) (bitN e.sure) (by simp at hL ⊢; omega)
  have a4 := Put (pre ++ vput e.first.toNat ++ vput e.last.toNat ++ vput (bitN e.sure)) e.spans.length (by simp at hL ⊢; omega)
  obtain ⟨f, H, b1, b2, b3⟩ := bodyLoop e hM hS e.spans.length 0 (pre ++ vput e.first.toNat ++ vput e.last.toNat ++ vput (bitN e.sure) ++ vput e.spans.length) (by omega) hL
  have c1 := u64_int h1.1 h1.2
  have c2 := u64_int h2.1 h2.2
  have c3 : IntKind.u64.wrap (e.spans.length : Int) = (e.spans.length : Int) := u64_small (by omega)
  have c4 := Bit
  simp only [epC, Int.cast_ofNat_Int, List.drop_zero] at b1 b2 b3
  rw [Cal_eq]
  simp -implicitDefEqProofs only [fns_23, c23, body, startSt, pkeys, slots, recvL, recv, noH, finish, resPV, outRs, outR, outC, outCs, outMs, go_sem, Nat.reduceShiftRight, Nat.reduceAnd, reduceIte, reduceCtorEq, Nat.reduceEqDiff, Nat.reduceAdd, Nat.reduceMul, Nat.reduceSub, Nat.reduceLT, Nat.reduceLeDiff, Nat.reduceBEq, Nat.reduceBNe, Int.reduceToNat, Int.reduceLT, Int.reduceLE, Int.reduceEq, Int.reduceNe, Int.reduceMul, Int.reduceAdd, Int.reduceSub, Int.reduceNeg, or_self, true_or, or_true, false_or, or_false, Int.natCast_nonneg, Int.toNat_natCast, List.length_map, implies_true, Int.cast_ofNat_Int, List.mem_cons, List.not_mem_nil, forall_eq_or_imp, forall_eq, false_implies, List.replicate_succ, List.replicate_zero, List.set_cons_zero, List.set_cons_succ, List.length_set, Nat.zero_add, Nat.not_succ_le_self, Nat.mul_one, exec_loop, Rst, keys1, keys2, keysB, proms, prom, keepV, freshV, freshC, freshB, liveVer, mpVer, pk, ded, insH, sortH, rnP, rnA, rnM, List.map_nil, St.of, List.map_cons, epC, a1, a2, a3, a4, c1, c2, c3, c4, b1, b2, b3]
end Go.Proofs.Ytpfjchnpkolmkaa
