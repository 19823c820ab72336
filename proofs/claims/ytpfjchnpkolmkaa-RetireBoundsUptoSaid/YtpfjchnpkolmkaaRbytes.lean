/- How numbers, texts and sums are written. Own work. -/
import Derived.Test.YtpfjchnpkolmkaaRref
set_option linter.unusedVariables false
set_option linter.unusedSimpArgs false
namespace Go.Proofs.Ytpfjchnpkolmkaa
open Go Go.Pi
set_option maxHeartbeats 2000000
set_option maxRecDepth 10000
abbrev wB (l : List Int) : PV := .bx 62 [.ow 5 (l.map bC)]
def wides (l : List Nat) : List Int := l.flatMap vput
def nC (n : Nat) : List PV := [.s (.int .u64 n)]
@[go_sem] theorem len_nC (n : Nat) : (nC n).length = 1 := rfl
theorem PutLoop : ∀ (n : Nat) (pre : List Int), pre.length + (vput n).length ≤ 140737488355328 →
   ∃ f H, Pi.Loop (exec cx (Cal cx) c24_0) (Rst Try.prog ([(0, some 5), (1, none)], [])) (St.mk (sF [(0, .sl 500000 0 0 pre.length), (1, .s (.int .u64 n))]) (hF [(500000, some (.row 0 5 1 false (pre.map bC)))])) = some (.ex 0, St.mk f H) ∧ f 0 = .sl 500000 0 0 (pre ++ vinit n).length ∧ f 1 = .s (.int .u64 (vlast n : Nat)) ∧ H 500000 = some (.row 0 5 1 false ((pre ++ vinit n).map bC)) ∧ H 19 = none := by
  intro n
  induction n using Nat.strongRecOn with
  | _ n ih =>
    intro pre hL
    rw [Loop_eq]
    by_cases h : n < 128
    · have h0 : ¬ (127 : Int) < (n : Int) := by omega
      have h1 : vinit n = [] := by rw [vinit, if_pos h]
      have h2 : vlast n = n := by rw [vlast, if_pos h]
      rw [h1, h2]
      simp -implicitDefEqProofs only [fns_24, c24, body, startSt, pkeys, slots, recvL, recv, noH, finish, resPV, outRs, outR, outC, outCs, outMs, go_sem, Nat.reduceShiftRight, Nat.reduceAnd, reduceIte, reduceCtorEq, Nat.reduceEqDiff, Nat.reduceAdd, Nat.reduceMul, Nat.reduceSub, Nat.reduceLT, Nat.reduceLeDiff, Nat.reduceBEq, Nat.reduceBNe, Int.reduceToNat, Int.reduceLT, Int.reduceLE, Int.reduceEq, Int.reduceNe, Int.reduceMul, Int.reduceAdd, Int.reduceSub, Int.reduceNeg, or_self, true_or, or_true, false_or, or_false, Int.natCast_nonneg, Int.toNat_natCast, List.length_map, implies_true, Int.cast_ofNat_Int, List.mem_cons, List.not_mem_nil, forall_eq_or_imp, forall_eq, false_implies, List.replicate_succ, List.replicate_zero, List.set_cons_zero, List.set_cons_succ, List.length_set, Nat.zero_add, Nat.not_succ_le_self, Nat.mul_one, exec_loop, Rst, keys1, keys2, keysB, proms, prom, keepV, freshV, freshC, freshB, liveVer, mpVer, pk, ded, insH, sortH, rnP, rnA, rnM, List.map_nil, St.of, List.map_cons, c24_0, h0]
      exact ⟨_, _, rfl, rfl, rfl, rfl, rfl⟩
    · have h0 : (127 : Int) < (n : Int) := by omega
      have h1 : vinit n = ((n % 128 + 128 : Nat) : Int) :: vinit (n / 128) := by rw [vinit, if_neg h]
      have h2 : vlast n = vlast (n / 128) := by rw [vlast, if_neg h]
      rw [vput_ge h] at hL
      simp only [List.length_cons] at hL
      have hL1 : (pre ++ [((n % 128 + 128 : Nat) : Int)]).length ≤ 140737488355328 := by simp; omega
      have h7 := ih (n / 128) (by omega) (pre ++ [((n % 128 + 128 : Nat) : Int)]) (by simp; omega)
      rw [h1, h2]
      simp -implicitDefEqProofs only [fns_24, c24, body, startSt, pkeys, slots, recvL, recv, noH, finish, resPV, outRs, outR, outC, outCs, outMs, go_sem, Nat.reduceShiftRight, Nat.reduceAnd, reduceIte, reduceCtorEq, Nat.reduceEqDiff, Nat.reduceAdd, Nat.reduceMul, Nat.reduceSub, Nat.reduceLT, Nat.reduceLeDiff, Nat.reduceBEq, Nat.reduceBNe, Int.reduceToNat, Int.reduceLT, Int.reduceLE, Int.reduceEq, Int.reduceNe, Int.reduceMul, Int.reduceAdd, Int.reduceSub, Int.reduceNeg, or_self, true_or, or_true, false_or, or_false, Int.natCast_nonneg, Int.toNat_natCast, List.length_map, implies_true, Int.cast_ofNat_Int, List.mem_cons, List.not_mem_nil, forall_eq_or_imp, forall_eq, false_implies, List.replicate_succ, List.replicate_zero, List.set_cons_zero, List.set_cons_succ, List.length_set, Nat.zero_add, Nat.not_succ_le_self, Nat.mul_one, exec_loop, Rst, keys1, keys2, keysB, proms, prom, keepV, freshV, freshC, freshB, liveVer, mpVer, pk, ded, insH, sortH, rnP, rnA, rnM, List.map_nil, St.of, List.map_cons, c24_0, h0, shr7, and127, u8_small (show n % 128 < 256 by omega), or_key (n % 128) (by omega), Nat.mod_mod, hL1]
      simp only [List.append_assoc, List.singleton_append] at h7 ⊢
      exact h7
abbrev oB (l : List Int) : PV := .ow 5 (l.map bC)
theorem Put (pre : List Int) (n : Nat) (hL : (pre ++ vput n).length ≤ 140737488355328) : Cal cx 24 [oB pre, .s (.int .u64 n)] = some ([oB (pre ++ vput n)], []) := by
  obtain ⟨f, H, h1, h2, h3, h4, h5⟩ := PutLoop n pre (by simpa using hL)
  have h6 : IntKind.u8.wrap ((vlast n : Nat) : Int) = ((vlast n : Nat) : Int) := u8_small (by have := vlast_lt n; omega)
  rw [vput_eq, ← List.append_assoc] at hL ⊢
  rw [Cal_eq]
  simp -implicitDefEqProofs only [fns_24, c24, body, startSt, pkeys, slots, recvL, recv, noH, finish, resPV, outRs, outR, outC, outCs, outMs, go_sem, Nat.reduceShiftRight, Nat.reduceAnd, reduceIte, reduceCtorEq, Nat.reduceEqDiff, Nat.reduceAdd, Nat.reduceMul, Nat.reduceSub, Nat.reduceLT, Nat.reduceLeDiff, Nat.reduceBEq, Nat.reduceBNe, Int.reduceToNat, Int.reduceLT, Int.reduceLE, Int.reduceEq, Int.reduceNe, Int.reduceMul, Int.reduceAdd, Int.reduceSub, Int.reduceNeg, or_self, true_or, or_true, false_or, or_false, Int.natCast_nonneg, Int.toNat_natCast, List.length_map, implies_true, Int.cast_ofNat_Int, List.mem_cons, List.not_mem_nil, forall_eq_or_imp, forall_eq, false_implies, List.replicate_succ, List.replicate_zero, List.set_cons_zero, List.set_cons_succ, List.length_set, Nat.zero_add, Nat.not_succ_le_self, Nat.mul_one, exec_loop, Rst, keys1, keys2, keysB, proms, prom, keepV, freshV, freshC, freshB, liveVer, mpVer, pk, ded, insH, sortH, rnP, rnA, rnM, List.map_nil, St.of, List.map_cons, h1, h2, h3, h4, h5, h6, hL]
theorem Bit (b : Bool) : Cal cx 34 [.s (.bool b)] = some ([.s (.int .u64 (bitN b : Nat))], []) := by
  rw [Cal_eq]
  cases b <;> simp -implicitDefEqProofs only [fns_34, c34, body, startSt, pkeys, slots, recvL, recv, noH, finish, resPV, outRs, outR, outC, outCs, outMs, go_sem, Nat.reduceShiftRight, Nat.reduceAnd, reduceIte, reduceCtorEq, Nat.reduceEqDiff, Nat.reduceAdd, Nat.reduceMul, Nat.reduceSub, Nat.reduceLT, Nat.reduceLeDiff, Nat.reduceBEq, Nat.reduceBNe, Int.reduceToNat, Int.reduceLT, Int.reduceLE, Int.reduceEq, Int.reduceNe, Int.reduceMul, Int.reduceAdd, Int.reduceSub, Int.reduceNeg, or_self, true_or, or_true, false_or, or_false, Int.natCast_nonneg, Int.toNat_natCast, List.length_map, implies_true, Int.cast_ofNat_Int, List.mem_cons, List.not_mem_nil, forall_eq_or_imp, forall_eq, false_implies, List.replicate_succ, List.replicate_zero, List.set_cons_zero, List.set_cons_succ, List.length_set, Nat.zero_add, Nat.not_succ_le_self, Nat.mul_one, exec_loop, Rst, keys1, keys2, keysB, proms, prom, keepV, freshV, freshC, freshB, liveVer, mpVer, pk, ded, insH, sortH, rnP, rnA, rnM, List.map_nil, St.of, List.map_cons, bitN]
theorem strI_nil {s : ByteArray} (h : s.size = 0) : strI s = [] := List.eq_nil_of_length_eq_zero (by rw [strI_len, h])
theorem strI_ne {s : ByteArray} (h : ¬ s.size = 0) : strI s ≠ [] := fun e => h (by rw [← strI_len, e]; rfl)
theorem TextR (pre : List Int) (s : ByteArray) (hL : (pre ++ tput s).length ≤ 140737488355328) : Cal cx 49 [oB pre, .s (.string s)] = some ([oB (pre ++ tput s)], []) := by
  unfold tput at hL ⊢
  rw [← List.append_assoc] at hL ⊢
  have hs : s.size ≤ 140737488355328 := by simp [strI_len] at hL; omega
  have h1 := Put pre s.size (by simp at hL ⊢; omega)
  have h2 : IntKind.u64.wrap (s.size : Int) = (s.size : Int) := u64_small (by omega)
  rw [Cal_eq]
  by_cases h0 : s.size = 0
  · rw [strI_nil h0, List.append_nil]
    simp -implicitDefEqProofs only [fns_49, c49, body, startSt, pkeys, slots, recvL, recv, noH, finish, resPV, outRs, outR, outC, outCs, outMs, go_sem, Nat.reduceShiftRight, Nat.reduceAnd, reduceIte, reduceCtorEq, Nat.reduceEqDiff, Nat.reduceAdd, Nat.reduceMul, Nat.reduceSub, Nat.reduceLT, Nat.reduceLeDiff, Nat.reduceBEq, Nat.reduceBNe, Int.reduceToNat, Int.reduceLT, Int.reduceLE, Int.reduceEq, Int.reduceNe, Int.reduceMul, Int.reduceAdd, Int.reduceSub, Int.reduceNeg, or_self, true_or, or_true, false_or, or_false, Int.natCast_nonneg, Int.toNat_natCast, List.length_map, implies_true, Int.cast_ofNat_Int, List.mem_cons, List.not_mem_nil, forall_eq_or_imp, forall_eq, false_implies, List.replicate_succ, List.replicate_zero, List.set_cons_zero, List.set_cons_succ, List.length_set, Nat.zero_add, Nat.not_succ_le_self, Nat.mul_one, exec_loop, Rst, keys1, keys2, keysB, proms, prom, keepV, freshV, freshC, freshB, liveVer, mpVer, pk, ded, insH, sortH, rnP, rnA, rnM, List.map_nil, St.of, List.map_cons, h1, h2, strI_nil h0, List.map_nil]
  · have h3 := strI_ne h0
    simp -implicitDefEqProofs only [fns_49, c49, body, startSt, pkeys, slots, recvL, recv, noH, finish, resPV, outRs, outR, outC, outCs, outMs, go_sem, Nat.reduceShiftRight, Nat.reduceAnd, reduceIte, reduceCtorEq, Nat.reduceEqDiff, Nat.reduceAdd, Nat.reduceMul, Nat.reduceSub, Nat.reduceLT, Nat.reduceLeDiff, Nat.reduceBEq, Nat.reduceBNe, Int.reduceToNat, Int.reduceLT, Int.reduceLE, Int.reduceEq, Int.reduceNe, Int.reduceMul, Int.reduceAdd, Int.reduceSub, Int.reduceNeg, or_self, true_or, or_true, false_or, or_false, Int.natCast_nonneg, Int.toNat_natCast, List.length_map, implies_true, Int.cast_ofNat_Int, List.mem_cons, List.not_mem_nil, forall_eq_or_imp, forall_eq, false_implies, List.replicate_succ, List.replicate_zero, List.set_cons_zero, List.set_cons_succ, List.length_set, Nat.zero_add, Nat.not_succ_le_self, Nat.mul_one, exec_loop, Rst, keys1, keys2, keysB, proms, prom, keepV, freshV, freshC, freshB, liveVer, mpVer, pk, ded, insH, sortH, rnP, rnA, rnM, List.map_nil, St.of, List.map_cons, h1, h2, hL, appSl_map _ _ _ _ h3]
theorem AddLoop (s : Spn) (hM : (s.attrs.length : Int) ≤ 9223372036854775807) : ∀ (n i : Nat) (pre : List Int), i + n = s.attrs.length → (pre ++ atsB (s.attrs.drop i)).length ≤ 140737488355328 →
   ∃ f H, Pi.Loop (exec cx (Cal cx) c35_0) (Rst Try.prog ([(0, some 5), (3, none), (5, none)], [])) (St.mk (sF [(0, .sl 500000 0 0 pre.length), (3, .ad 3 0 0 0), (5, .s (.int .i64 i))]) (hF [(3, some (.row 0 59 10 true [spC s])), (500000, some (.row 0 5 1 false (pre.map bC)))])) = some (.ex 0, St.mk f H) ∧ f 0 = .sl 500000 0 0 (pre ++ atsB (s.attrs.drop i)).length ∧ H 500000 = some (.row 0 5 1 false ((pre ++ atsB (s.attrs.drop i)).map bC)) := by
  intro n
  induction n with
  | zero =>
    intro i pre h hL
    have h0 : ¬ (i : Int) < (s.attrs.length : Int) := by omega
    rw [Loop_eq, drop_end (by omega)]
    simp -implicitDefEqProofs only [fns_35, c35, body, startSt, pkeys, slots, recvL, recv, noH, finish, resPV, outRs, outR, outC, outCs, outMs, go_sem, Nat.reduceShiftRight, Nat.reduceAnd, reduceIte, reduceCtorEq, Nat.reduceEqDiff, Nat.reduceAdd, Nat.reduceMul, Nat.reduceSub, Nat.reduceLT, Nat.reduceLeDiff, Nat.reduceBEq, Nat.reduceBNe, Int.reduceToNat, Int.reduceLT, Int.reduceLE, Int.reduceEq, Int.reduceNe, Int.reduceMul, Int.reduceAdd, Int.reduceSub, Int.reduceNeg, or_self, true_or, or_true, false_or, or_false, Int.natCast_nonneg, Int.toNat_natCast, List.length_map, implies_true, Int.cast_ofNat_Int, List.mem_cons, List.not_mem_nil, forall_eq_or_imp, forall_eq, false_implies, List.replicate_succ, List.replicate_zero, List.set_cons_zero, List.set_cons_succ, List.length_set, Nat.zero_add, Nat.not_succ_le_self, Nat.mul_one, exec_loop, Rst, keys1, keys2, keysB, proms, prom, keepV, freshV, freshC, freshB, liveVer, mpVer, pk, ded, insH, sortH, rnP, rnA, rnM, List.map_nil, St.of, List.map_cons, c35_0, h0, spC, atsB, List.flatMap_nil, List.append_nil]
    (first | exact ⟨_, _, rfl⟩ | (refine ⟨_, _, rfl, ?_⟩; first | exact (fun _ => rfl) | exact (fun h => by cases h) | rfl | exact ⟨rfl, rfl⟩ | exact ⟨fun _ => rfl, fun _ => rfl⟩ | exact ⟨rfl, rfl, rfl⟩ | exact ⟨fun _ => rfl, rfl, rfl, rfl⟩ | exact ⟨rfl, rfl, rfl, rfl⟩))
  | succ n ih =>
    intro i pre h hL
    have h0 : (i : Int) < (s.attrs.length : Int) := by omega
    obtain ⟨x, hx⟩ := get_of_lt (l := s.attrs) (i := i) (by omega)
    have h8 : IntKind.i64.wrap ((i : Int) + 1) = ((i + 1 : Nat) : Int) := by rw [wrap64_id] <;> omega
    have hd : atsB (s.attrs.drop i) = tput x.key ++ (tput x.val ++ atsB (s.attrs.drop (i + 1))) := by rw [drop_get hx]; simp [atsB, atB]
    rw [hd] at hL ⊢
    simp only [← List.append_assoc] at hL ⊢
    have h1 := TextR pre x.key (by simp at hL ⊢; omega)
    have h2 := TextR (pre ++ tput x.key) x.val (by simp at hL ⊢; omega)
    have h7 := ih (i + 1) (pre ++ tput x.key ++ tput x.val) (by omega) hL
    simp only [spC] at h7
    rw [Loop_eq]
    simp -implicitDefEqProofs only [fns_35, c35, body, startSt, pkeys, slots, recvL, recv, noH, finish, resPV, outRs, outR, outC, outCs, outMs, go_sem, Nat.reduceShiftRight, Nat.reduceAnd, reduceIte, reduceCtorEq, Nat.reduceEqDiff, Nat.reduceAdd, Nat.reduceMul, Nat.reduceSub, Nat.reduceLT, Nat.reduceLeDiff, Nat.reduceBEq, Nat.reduceBNe, Int.reduceToNat, Int.reduceLT, Int.reduceLE, Int.reduceEq, Int.reduceNe, Int.reduceMul, Int.reduceAdd, Int.reduceSub, Int.reduceNeg, or_self, true_or, or_true, false_or, or_false, Int.natCast_nonneg, Int.toNat_natCast, List.length_map, implies_true, Int.cast_ofNat_Int, List.mem_cons, List.not_mem_nil, forall_eq_or_imp, forall_eq, false_implies, List.replicate_succ, List.replicate_zero, List.set_cons_zero, List.set_cons_succ, List.length_set, Nat.zero_add, Nat.not_succ_le_self, Nat.mul_one, exec_loop, Rst, keys1, keys2, keysB, proms, prom, keepV, freshV, freshC, freshB, liveVer, mpVer, pk, ded, insH, sortH, rnP, rnA, rnM, List.map_nil, St.of, List.map_cons, c35_0, h0, getD_map atC hx, h1, h2, spC, atC, h8]
    exact h7
theorem AddSpan (pre : List Int) (s : Spn) (hM : (s.attrs.length : Int) ≤ 9223372036854775807) (h3 : 0 ≤ s.start) (h4 : s.start < 18446744073709551616) (h5 : 0 ≤ s.dur) (h6 : s.dur < 18446744073709551616) (hL : (pre ++ spB s).length ≤ 140737488355328) : Cal cx 35 [oB pre, .ag (spC s)] = some ([oB (pre ++ spB s)], []) := by
  unfold spB at hL ⊢
  simp only [← List.append_assoc] at hL ⊢
  have a1 := Put pre s.tr.hi (by simp at hL ⊢; omega)
  have a2 := Put (pre ++ vput s.tr.hi) s.tr.lo (by simp at hL ⊢; omega)
  have a3 := Put (pre ++ vput s.tr.hi ++ vput s.tr.lo) s.id (by simp at hL ⊢; omega)
  have a4 := Put (pre ++ vput s.tr.hi ++ vput s.tr.lo ++ vput s.id) s.parent (by simp at hL ⊢; omega)
  have a5 := TextR (pre ++ vput s.tr.hi ++ vput s.tr.lo ++ vput s.id ++ vput s.parent) s.svc (by simp at hL ⊢; omega)
  have a6 := TextR (pre ++ vput s.tr.hi ++ vput s.tr.lo ++ vput s.id ++ vput s.parent ++ tput s.svc) s.op (by simp at hL ⊢; omega)
  have a7 := Put (pre ++ vput s.tr.hi ++ vput s.tr.lo ++ vput s.id ++ vput s.parent ++ tput s.svc ++ tput s.op) s.start.toNat (by simp at hL ⊢; omega)
  have a8 := Put (pre ++ vput s.tr.hi ++ vput s.tr.lo ++ vput s.id ++ vput s.parent ++ tput s.svc ++ tput s.op ++ vput s.start.toNat) s.dur.toNat (by simp at hL ⊢; omega)
  have a9 := Put (pre ++ vput s.tr.hi ++ vput s.tr.lo ++ vput s.id ++ vput s.parent ++ tput s.svc ++ tput s.op ++ vput s.start.toNat ++ vput s.dur.toNat) (bitN s.err) (by simp at hL ⊢; omega)
  have a10 := Put (pre ++ vput s.tr.hi ++ vput s.tr.lo ++ vput s.id ++ vput s.parent ++ tput s.svc ++ tput s.op ++ vput s.start.toNat ++ vput s.dur.toNat ++ vput (bitN s.err)) s.attrs.length (by simp at hL ⊢; omega)
  obtain ⟨f, H, b1, b2, b3⟩ := AddLoop s hM s.attrs.length 0 (pre ++ vput s.tr.hi ++ vput s.tr.lo ++ vput s.id ++ vput s.parent ++ tput s.svc ++ tput s.op ++ vput s.start.toNat ++ vput s.dur.toNat ++ vput (bitN s.err) ++ vput s.attrs.length) (by omega) hL
  have c1 := u64_int h3 h4
  have c2 := u64_int h5 h6
  have c3 : IntKind.u64.wrap (s.attrs.length : Int) = (s.attrs.length : Int) := u64_small (by omega)
  have c4 := Bit
  simp only [spC, Int.cast_ofNat_Int, List.drop_zero] at b1 b2 b3
  rw [Cal_eq]
  simp -implicitDefEqProofs only [fns_35, c35, body, startSt, pkeys, slots, recvL, recv, noH, finish, resPV, outRs, outR, outC, outCs, outMs, go_sem, Nat.reduceShiftRight, Nat.reduceAnd, reduceIte, reduceCtorEq, Nat.reduceEqDiff, Nat.reduceAdd, Nat.reduceMul, Nat.reduceSub, Nat.reduceLT, Nat.reduceLeDiff, Nat.reduceBEq, Nat.reduceBNe, Int.reduceToNat, Int.reduceLT, Int.reduceLE, Int.reduceEq, Int.reduceNe, Int.reduceMul, Int.reduceAdd, Int.reduceSub, Int.reduceNeg, or_self, true_or, or_true, false_or, or_false, Int.natCast_nonneg, Int.toNat_natCast, List.length_map, implies_true, Int.cast_ofNat_Int, List.mem_cons, List.not_mem_nil, forall_eq_or_imp, forall_eq, false_implies, List.replicate_succ, List.replicate_zero, List.set_cons_zero, List.set_cons_succ, List.length_set, Nat.zero_add, Nat.not_succ_le_self, Nat.mul_one, exec_loop, Rst, keys1, keys2, keysB, proms, prom, keepV, freshV, freshC, freshB, liveVer, mpVer, pk, ded, insH, sortH, rnP, rnA, rnM, List.map_nil, St.of, List.map_cons, spC, a1, a2, a3, a4, a5, a6, a7, a8, a9, a10, c1, c2, c3, c4, b1, b2, b3]
end Go.Proofs.Ytpfjchnpkolmkaa
