/- How numbers, texts, spans and blocks are written: the program. Own work. -/
import Derived.Test.YtpfjchnpkolmkaaRblockr
set_option linter.unusedVariables false
set_option linter.unusedSimpArgs false
namespace Go.Proofs.Ytpfjchnpkolmkaa
open Go Go.Pi
set_option maxHeartbeats 2000000
set_option maxRecDepth 10000
def uN (n : Nat) : List PV := [.s (.int .u64 n)]
@[go_sem] theorem len_uN (n : Nat) : (uN n).length = 1 := rfl
abbrev wRow (l : List Int) : Option Blk := some (.row 0 62 1 true [[.sl 1000 0 0 l.length]])
abbrev bRow (l : List Int) : Option Blk := some (.row 0 5 1 false (l.map bC))
theorem WideInner (ln : Bool) (l : List Nat) (i : Nat) : ∀ (n : Nat) (pre : List Int), (pre ++ vinit n).length ≤ 140737488355328 →
   ∃ f H, Pi.Loop (exec cx (Cal cx) c32_2) (Rst Try.prog ([(0, none), (5, none), (6, none), (7, none), (8, none)], [0])) (St.mk (sF [(0, .ad 0 0 0 0), (5, .s (.int .u64 n)), (6, .sh ln (l.map uN)), (7, .s (.int .i64 l.length)), (8, .s (.int .i64 i))]) (hF [(0, wRow pre), (1000, bRow pre)])) = some (.ex 2, St.mk f H) ∧ f 0 = .ad 0 0 0 0 ∧ f 5 = .s (.int .u64 (vlast n : Nat)) ∧ f 6 = .sh ln (l.map uN) ∧ f 7 = .s (.int .i64 l.length) ∧ f 8 = .s (.int .i64 i) ∧ H 0 = wRow (pre ++ vinit n) ∧ H 1000 = bRow (pre ++ vinit n) ∧ H 35 = none := by
  intro n
  induction n using Nat.strongRecOn with
  | _ n ih =>
    intro pre hL
    rw [Loop_eq]
    by_cases h : n < 128
    · have h0 : ¬ (128 : Int) ≤ (n : Int) := by omega
      have h1 : vinit n = [] := by rw [vinit, if_pos h]
      have h2 : vlast n = n := by rw [vlast, if_pos h]
      rw [h1, h2]
      simp -implicitDefEqProofs only [fns_32, c32, body, startSt, pkeys, slots, recvL, recv, noH, finish, resPV, outRs, outR, outC, outCs, outMs, go_sem, Nat.reduceShiftRight, Nat.reduceAnd, reduceIte, reduceCtorEq, Nat.reduceEqDiff, Nat.reduceAdd, Nat.reduceMul, Nat.reduceSub, Nat.reduceLT, Nat.reduceLeDiff, Nat.reduceBEq, Nat.reduceBNe, Int.reduceToNat, Int.reduceLT, Int.reduceLE, Int.reduceEq, Int.reduceNe, Int.reduceMul, Int.reduceAdd, Int.reduceSub, Int.reduceNeg, or_self, true_or, or_true, false_or, or_false, Int.natCast_nonneg, Int.toNat_natCast, List.length_map, implies_true, Int.cast_ofNat_Int, List.mem_cons, List.not_mem_nil, forall_eq_or_imp, forall_eq, false_implies, List.replicate_succ, List.replicate_zero, List.set_cons_zero, List.set_cons_succ, List.length_set, Nat.zero_add, Nat.not_succ_le_self, Nat.mul_one, exec_loop, Rst, keys1, keys2, keysB, proms, prom, keepV, freshV, freshC, freshB, liveVer, mpVer, pk, ded, insH, sortH, rnP, rnA, rnM, List.map_nil, St.of, List.map_cons, c32_2, h0]
      exact ⟨_, _, rfl, rfl, rfl, rfl, rfl, rfl, rfl, rfl, rfl⟩
    · have h0 : (128 : Int) ≤ (n : Int) := by omega
      have h1 : vinit n = ((n % 128 + 128 : Nat) : Int) :: vinit (n / 128) := by rw [vinit, if_neg h]
      have h2 : vlast n = vlast (n / 128) := by rw [vlast, if_neg h]
      rw [h1] at hL ⊢
      rw [h2]
      have hL1 : (pre ++ [((n % 128 + 128 : Nat) : Int)]).length ≤ 140737488355328 := by simp at hL ⊢; omega
      have h7 := ih (n / 128) (by omega) (pre ++ [((n % 128 + 128 : Nat) : Int)]) (by simpa using hL)
      simp -implicitDefEqProofs only [fns_32, c32, body, startSt, pkeys, slots, recvL, recv, noH, finish, resPV, outRs, outR, outC, outCs, outMs, go_sem, Nat.reduceShiftRight, Nat.reduceAnd, reduceIte, reduceCtorEq, Nat.reduceEqDiff, Nat.reduceAdd, Nat.reduceMul, Nat.reduceSub, Nat.reduceLT, Nat.reduceLeDiff, Nat.reduceBEq, Nat.reduceBNe, Int.reduceToNat, Int.reduceLT, Int.reduceLE, Int.reduceEq, Int.reduceNe, Int.reduceMul, Int.reduceAdd, Int.reduceSub, Int.reduceNeg, or_self, true_or, or_true, false_or, or_false, Int.natCast_nonneg, Int.toNat_natCast, List.length_map, implies_true, Int.cast_ofNat_Int, List.mem_cons, List.not_mem_nil, forall_eq_or_imp, forall_eq, false_implies, List.replicate_succ, List.replicate_zero, List.set_cons_zero, List.set_cons_succ, List.length_set, Nat.zero_add, Nat.not_succ_le_self, Nat.mul_one, exec_loop, Rst, keys1, keys2, keysB, proms, prom, keepV, freshV, freshC, freshB, liveVer, mpVer, pk, ded, insH, sortH, rnP, rnA, rnM, List.map_nil, St.of, List.map_cons, c32_2, h0, shr7, or128, hL1]
      simp only [List.append_assoc, List.singleton_append] at h7 ⊢
      exact h7
theorem WideLoop (ln : Bool) (l : List Nat) (hM : (l.length : Int) ≤ 9223372036854775807) : ∀ (n i : Nat) (pre : List Int), i + n = l.length → (pre ++ wides (l.drop i)).length ≤ 140737488355328 →
   ∃ f H, Pi.Loop (exec cx (Cal cx) c32_0) (Rst Try.prog ([(0, none), (6, none), (7, none), (8, none)], [0])) (St.mk (sF [(0, .ad 0 0 0 0), (6, .sh ln (l.map uN)), (7, .s (.int .i64 l.length)), (8, .s (.int .i64 i))]) (hF [(0, wRow pre), (1000, bRow pre)])) = some (.ex 0, St.mk f H) ∧ f 0 = .ad 0 0 0 0 ∧ H 0 = wRow (pre ++ wides (l.drop i)) ∧ H 1000 = bRow (pre ++ wides (l.drop i)) := by
  intro n
  induction n with
  | zero =>
    intro i pre h hL
    have h0 : ¬ (i : Int) < (l.length : Int) := by omega
    rw [Loop_eq, drop_end (by omega)]
    simp -implicitDefEqProofs only [fns_32, c32, body, startSt, pkeys, slots, recvL, recv, noH, finish, resPV, outRs, outR, outC, outCs, outMs, go_sem, Nat.reduceShiftRight, Nat.reduceAnd, reduceIte, reduceCtorEq, Nat.reduceEqDiff, Nat.reduceAdd, Nat.reduceMul, Nat.reduceSub, Nat.reduceLT, Nat.reduceLeDiff, Nat.reduceBEq, Nat.reduceBNe, Int.reduceToNat, Int.reduceLT, Int.reduceLE, Int.reduceEq, Int.reduceNe, Int.reduceMul, Int.reduceAdd, Int.reduceSub, Int.reduceNeg, or_self, true_or, or_true, false_or, or_false, Int.natCast_nonneg, Int.toNat_natCast, List.length_map, implies_true, Int.cast_ofNat_Int, List.mem_cons, List.not_mem_nil, forall_eq_or_imp, forall_eq, false_implies, List.replicate_succ, List.replicate_zero, List.set_cons_zero, List.set_cons_succ, List.length_set, Nat.zero_add, Nat.not_succ_le_self, Nat.mul_one, exec_loop, Rst, keys1, keys2, keysB, proms, prom, keepV, freshV, freshC, freshB, liveVer, mpVer, pk, ded, insH, sortH, rnP, rnA, rnM, List.map_nil, St.of, List.map_cons, c32_0, h0, wides, List.flatMap_nil, List.append_nil]
    exact ⟨_, _, rfl, rfl, rfl, rfl⟩
  | succ n ih =>
    intro i pre h hL
    have h0 : (i : Int) < (l.length : Int) := by omega
    obtain ⟨x, hx⟩ := get_of_lt (l := l) (i := i) (by omega)
    have h8 : IntKind.i64.wrap ((i : Int) + 1) = ((i + 1 : Nat) : Int) := by rw [wrap64_id] <;> omega
    have hd : wides (l.drop i) = vinit x ++ ([(vlast x : Int)] ++ wides (l.drop (i + 1))) := by rw [drop_get hx]; simp [wides, vput_eq]
    rw [hd] at hL ⊢
    simp only [← List.append_assoc] at hL ⊢
    obtain ⟨f, H, g1, g2, g3, g4, g5, g6, g7, g8, g9⟩ := WideInner ln l i x pre (by simp at hL ⊢; omega)
    have h6 : IntKind.u8.wrap ((vlast x : Nat) : Int) = ((vlast x : Nat) : Int) := u8_small (by have := vlast_lt x; omega)
    have h5 : (pre ++ vinit x ++ [(vlast x : Int)]).length ≤ 140737488355328 := by simp at hL ⊢; omega
    have h7 := ih (i + 1) (pre ++ vinit x ++ [(vlast x : Int)]) (by omega) hL
    rw [Loop_eq]
    simp -implicitDefEqProofs only [fns_32, c32, body, startSt, pkeys, slots, recvL, recv, noH, finish, resPV, outRs, outR, outC, outCs, outMs, go_sem, Nat.reduceShiftRight, Nat.reduceAnd, reduceIte, reduceCtorEq, Nat.reduceEqDiff, Nat.reduceAdd, Nat.reduceMul, Nat.reduceSub, Nat.reduceLT, Nat.reduceLeDiff, Nat.reduceBEq, Nat.reduceBNe, Int.reduceToNat, Int.reduceLT, Int.reduceLE, Int.reduceEq, Int.reduceNe, Int.reduceMul, Int.reduceAdd, Int.reduceSub, Int.reduceNeg, or_self, true_or, or_true, false_or, or_false, Int.natCast_nonneg, Int.toNat_natCast, List.length_map, implies_true, Int.cast_ofNat_Int, List.mem_cons, List.not_mem_nil, forall_eq_or_imp, forall_eq, false_implies, List.replicate_succ, List.replicate_zero, List.set_cons_zero, List.set_cons_succ, List.length_set, Nat.zero_add, Nat.not_succ_le_self, Nat.mul_one, exec_loop, Rst, keys1, keys2, keysB, proms, prom, keepV, freshV, freshC, freshB, liveVer, mpVer, pk, ded, insH, sortH, rnP, rnA, rnM, List.map_nil, St.of, List.map_cons, c32_0, h0, getD_map uN hx, uN, g1, g2, g3, g4, g5, g6, g7, g8, g9, h5, h6, h8]
    exact h7
theorem Wide (ln : Bool) (pre : List Int) (l : List Nat) (hM : (l.length : Int) ≤ 9223372036854775807) (hL : (pre ++ wides l).length ≤ 140737488355328) : Cal cx 32 [wB pre, .sh ln (l.map uN)] = some ([], [wB (pre ++ wides l)]) := by
  obtain ⟨f, H, h1, h2, h3, h4⟩ := WideLoop ln l hM l.length 0 pre (by omega) hL
  simp only [Int.cast_ofNat_Int, List.drop_zero] at h1 h2 h3 h4
  rw [Cal_eq]
  simp -implicitDefEqProofs only [fns_32, c32, body, startSt, pkeys, slots, recvL, recv, noH, finish, resPV, outRs, outR, outC, outCs, outMs, go_sem, Nat.reduceShiftRight, Nat.reduceAnd, reduceIte, reduceCtorEq, Nat.reduceEqDiff, Nat.reduceAdd, Nat.reduceMul, Nat.reduceSub, Nat.reduceLT, Nat.reduceLeDiff, Nat.reduceBEq, Nat.reduceBNe, Int.reduceToNat, Int.reduceLT, Int.reduceLE, Int.reduceEq, Int.reduceNe, Int.reduceMul, Int.reduceAdd, Int.reduceSub, Int.reduceNeg, or_self, true_or, or_true, false_or, or_false, Int.natCast_nonneg, Int.toNat_natCast, List.length_map, implies_true, Int.cast_ofNat_Int, List.mem_cons, List.not_mem_nil, forall_eq_or_imp, forall_eq, false_implies, List.replicate_succ, List.replicate_zero, List.set_cons_zero, List.set_cons_succ, List.length_set, Nat.zero_add, Nat.not_succ_le_self, Nat.mul_one, exec_loop, Rst, keys1, keys2, keysB, proms, prom, keepV, freshV, freshC, freshB, liveVer, mpVer, pk, ded, insH, sortH, rnP, rnA, rnM, List.map_nil, St.of, List.map_cons, h1, h2, h3, h4]
theorem NumLoop (ln : Bool) (l : List Int) (hU : ∀ n ∈ l, U64 n) (hM : (l.length : Int) ≤ 9223372036854775807) : ∀ (n i : Nat) (pre : List Int), i + n = l.length → (pre ++ nums (l.drop i)).length ≤ 140737488355328 →
   ∃ f H, Pi.Loop (exec cx (Cal cx) c30_0) (Rst Try.prog ([(0, none), (6, none), (7, none), (8, none)], [0])) (St.mk (sF [(0, .ad 0 0 0 0), (6, .sh ln (l.map iC)), (7, .s (.int .i64 l.length)), (8, .s (.int .i64 i))]) (hF [(0, wRow pre), (1000, bRow pre)])) = some (.ex 0, St.mk f H) ∧ f 0 = .ad 0 0 0 0 ∧ H 0 = wRow (pre ++ nums (l.drop i)) ∧ H 1000 = bRow (pre ++ nums (l.drop i)) := by
  intro n
  induction n with
  | zero =>
    intro i pre h hL
    have h0 : ¬ (i : Int) < (l.length : Int) := by omega
    rw [Loop_eq, drop_end (by omega)]
    simp -implicitDefEqProofs only [fns_30, c30, body, startSt, pkeys, slots, recvL, recv, noH, finish, resPV, outRs, outR, outC, outCs, outMs, go_sem, Nat.reduceShiftRight, Nat.reduceAnd, reduceIte, reduceCtorEq, Nat.reduceEqDiff, Nat.reduceAdd, Nat.reduceMul, Nat.reduceSub, Nat.reduceLT, Nat.reduceLeDiff, Nat.reduceBEq, Nat.reduceBNe, Int.reduceToNat, Int.reduceLT, Int.reduceLE, Int.reduceEq, Int.reduceNe, Int.reduceMul, Int.reduceAdd, Int.reduceSub, Int.reduceNeg, or_self, true_or, or_true, false_or, or_false, Int.natCast_nonneg, Int.toNat_natCast, List.length_map, implies_true, Int.cast_ofNat_Int, List.mem_cons, List.not_mem_nil, forall_eq_or_imp, forall_eq, false_implies, List.replicate_succ, List.replicate_zero, List.set_cons_zero, List.set_cons_succ, List.length_set, Nat.zero_add, Nat.not_succ_le_self, Nat.mul_one, exec_loop, Rst, keys1, keys2, keysB, proms, prom, keepV, freshV, freshC, freshB, liveVer, mpVer, pk, ded, insH, sortH, rnP, rnA, rnM, List.map_nil, St.of, List.map_cons, c30_0, h0, nums, List.flatMap_nil, List.append_nil]
    exact ⟨_, _, rfl, rfl, rfl, rfl⟩
  | succ n ih =>
    intro i pre h hL
    have h0 : (i : Int) < (l.length : Int) := by omega
    obtain ⟨x, hx⟩ := get_of_lt (l := l) (i := i) (by omega)
    have h8 : IntKind.i64.wrap ((i : Int) + 1) = ((i + 1 : Nat) : Int) := by rw [wrap64_id] <;> omega
    have hd : nums (l.drop i) = vput x.toNat ++ nums (l.drop (i + 1)) := by rw [drop_get hx]; simp [nums]
    rw [hd, ← List.append_assoc] at hL ⊢
    have hu := hU x (mem_get hx)
    have h2 := u64_int hu.1 hu.2
    have h1 := Wide true pre [x.toNat] (by simp) (by simp [wides] at hL ⊢; omega)
    have hw : wides [x.toNat] = vput x.toNat := by simp [wides]
    rw [hw] at h1
    simp only [List.map_cons, List.map_nil, uN] at h1
    have h7 := ih (i + 1) (pre ++ vput x.toNat) (by omega) hL
    rw [Loop_eq]
    simp -implicitDefEqProofs only [fns_30, c30, body, startSt, pkeys, slots, recvL, recv, noH, finish, resPV, outRs, outR, outC, outCs, outMs, go_sem, Nat.reduceShiftRight, Nat.reduceAnd, reduceIte, reduceCtorEq, Nat.reduceEqDiff, Nat.reduceAdd, Nat.reduceMul, Nat.reduceSub, Nat.reduceLT, Nat.reduceLeDiff, Nat.reduceBEq, Nat.reduceBNe, Int.reduceToNat, Int.reduceLT, Int.reduceLE, Int.reduceEq, Int.reduceNe, Int.reduceMul, Int.reduceAdd, Int.reduceSub, Int.reduceNeg, or_self, true_or, or_true, false_or, or_false, Int.natCast_nonneg, Int.toNat_natCast, List.length_map, implies_true, Int.cast_ofNat_Int, List.mem_cons, List.not_mem_nil, forall_eq_or_imp, forall_eq, false_implies, List.replicate_succ, List.replicate_zero, List.set_cons_zero, List.set_cons_succ, List.length_set, Nat.zero_add, Nat.not_succ_le_self, Nat.mul_one, exec_loop, Rst, keys1, keys2, keysB, proms, prom, keepV, freshV, freshC, freshB, liveVer, mpVer, pk, ded, insH, sortH, rnP, rnA, rnM, List.map_nil, St.of, List.map_cons, c30_0, h0, getD_map iC hx, iC, h1, h2, h8]
    exact h7
theorem Num (ln : Bool) (pre : List Int) (l : List Int) (hU : ∀ n ∈ l, U64 n) (hM : (l.length : Int) ≤ 9223372036854775807) (hL : (pre ++ nums l).length ≤ 140737488355328) : Cal cx 30 [wB pre, .sh ln (l.map iC)] = some ([], [wB (pre ++ nums l)]) := by
  obtain ⟨f, H, h1, h2, h3, h4⟩ := NumLoop ln l hU hM l.length 0 pre (by omega) hL
  simp only [Int.cast_ofNat_Int, List.drop_zero] at h1 h2 h3 h4
  rw [Cal_eq]
  simp -implicitDefEqProofs only [fns_30, c30, body, startSt, pkeys, slots, recvL, recv, noH, finish, resPV, outRs, outR, outC, outCs, outMs, go_sem, Nat.reduceShiftRight, Nat.reduceAnd, reduceIte, reduceCtorEq, Nat.reduceEqDiff, Nat.reduceAdd, Nat.reduceMul, Nat.reduceSub, Nat.reduceLT, Nat.reduceLeDiff, Nat.reduceBEq, Nat.reduceBNe, Int.reduceToNat, Int.reduceLT, Int.reduceLE, Int.reduceEq, Int.reduceNe, Int.reduceMul, Int.reduceAdd, Int.reduceSub, Int.reduceNeg, or_self, true_or, or_true, false_or, or_false, Int.natCast_nonneg, Int.toNat_natCast, List.length_map, implies_true, Int.cast_ofNat_Int, List.mem_cons, List.not_mem_nil, forall_eq_or_imp, forall_eq, false_implies, List.replicate_succ, List.replicate_zero, List.set_cons_zero, List.set_cons_succ, List.length_set, Nat.zero_add, Nat.not_succ_le_self, Nat.mul_one, exec_loop, Rst, keys1, keys2, keysB, proms, prom, keepV, freshV, freshC, freshB, liveVer, mpVer, pk, ded, insH, sortH, rnP, rnA, rnM, List.map_nil, St.of, List.map_cons, h1, h2, h3, h4]
def texts (l : List ByteArray) : List Int := l.flatMap tput
theorem TextLoop (ln : Bool) (l : List ByteArray) (hM : (l.length : Int) ≤ 9223372036854775807) : ∀ (n i : Nat) (pre : List Int), i + n = l.length → (pre ++ texts (l.drop i)).length ≤ 140737488355328 →
   ∃ f H, Pi.Loop (exec cx (Cal cx) c57_0) (Rst Try.prog ([(0, none), (6, none), (7, none), (8, none)], [0])) (St.mk (sF [(0, .ad 0 0 0 0), (6, .sh ln (l.map sC)), (7, .s (.int .i64 l.length)), (8, .s (.int .i64 i))]) (hF [(0, wRow pre), (1000, bRow pre)])) = some (.ex 0, St.mk f H) ∧ f 0 = .ad 0 0 0 0 ∧ H 0 = wRow (pre ++ texts (l.drop i)) ∧ H 1000 = bRow (pre ++ texts (l.drop i)) := by
  intro n
  induction n with
  | zero =>
    intro i pre h hL
    have h0 : ¬ (i : Int) < (l.length : Int) := by omega
    rw [Loop_eq, drop_end (by omega)]
    simp -implicitDefEqProofs only [fns_57, c57, body, startSt, pkeys, slots, recvL, recv, noH, finish, resPV, outRs, outR, outC, outCs, outMs, go_sem, Nat.reduceShiftRight, Nat.reduceAnd, reduceIte, reduceCtorEq, Nat.reduceEqDiff, Nat.reduceAdd, Nat.reduceMul, Nat.reduceSub, Nat.reduceLT, Nat.reduceLeDiff, Nat.reduceBEq, Nat.reduceBNe, Int.reduceToNat, Int.reduceLT, Int.reduceLE, Int.reduceEq, Int.reduceNe, Int.reduceMul, Int.reduceAdd, Int.reduceSub, Int.reduceNeg, or_self, true_or, or_true, false_or, or_false, Int.natCast_nonneg, Int.toNat_natCast, List.length_map, implies_true, Int.cast_ofNat_Int, List.mem_cons, List.not_mem_nil, forall_eq_or_imp, forall_eq, false_implies, List.replicate_succ, List.replicate_zero, List.set_cons_zero, List.set_cons_succ, List.length_set, Nat.zero_add, Nat.not_succ_le_self, Nat.mul_one, exec_loop, Rst, keys1, keys2, keysB, proms, prom, keepV, freshV, freshC, freshB, liveVer, mpVer, pk, ded, insH, sortH, rnP, rnA, rnM, List.map_nil, St.of, List.map_cons, c57_0, h0, texts, List.flatMap_nil, List.append_nil]
    exact ⟨_, _, rfl, rfl, rfl, rfl⟩
  | succ n ih =>
    intro i pre h hL
    have h0 : (i : Int) < (l.length : Int) := by omega
    obtain ⟨x, hx⟩ := get_of_lt (l := l) (i := i) (by omega)
    have h8 : IntKind.i64.wrap ((i : Int) + 1) = ((i + 1 : Nat) : Int) := by rw [wrap64_id] <;> omega
    have hd : texts (l.drop i) = vput x.size ++ (strI x ++ texts (l.drop (i + 1))) := by rw [drop_get hx]; simp [texts, tput]
    rw [hd] at hL ⊢
    simp only [← List.append_assoc] at hL ⊢
    have hs : x.size ≤ 140737488355328 := by simp [strI_len] at hL; omega
    have h1 := Num true pre [(x.size : Int)] (fun n hn => by simp at hn; subst hn; exact ⟨by omega, by omega⟩) (by simp) (by simp [nums] at hL ⊢; omega)
    have hw : nums [(x.size : Int)] = vput x.size := by simp [nums]
    rw [hw] at h1
    simp only [List.map_cons, List.map_nil, iC] at h1
    have h2 : (pre ++ vput x.size ++ strI x).length ≤ 140737488355328 := by simp at hL ⊢; omega
    have h7 := ih (i + 1) (pre ++ vput x.size ++ strI x) (by omega) hL
    rw [Loop_eq]
    by_cases hz : x.size = 0
    · rw [strI_nil hz, List.append_nil] at h7 ⊢
      simp -implicitDefEqProofs only [fns_57, c57, body, startSt, pkeys, slots, recvL, recv, noH, finish, resPV, outRs, outR, outC, outCs, outMs, go_sem, Nat.reduceShiftRight, Nat.reduceAnd, reduceIte, reduceCtorEq, Nat.reduceEqDiff, Nat.reduceAdd, Nat.reduceMul, Nat.reduceSub, Nat.reduceLT, Nat.reduceLeDiff, Nat.reduceBEq, Nat.reduceBNe, Int.reduceToNat, Int.reduceLT, Int.reduceLE, Int.reduceEq, Int.reduceNe, Int.reduceMul, Int.reduceAdd, Int.reduceSub, Int.reduceNeg, or_self, true_or, or_true, false_or, or_false, Int.natCast_nonneg, Int.toNat_natCast, List.length_map, implies_true, Int.cast_ofNat_Int, List.mem_cons, List.not_mem_nil, forall_eq_or_imp, forall_eq, false_implies, List.replicate_succ, List.replicate_zero, List.set_cons_zero, List.set_cons_succ, List.length_set, Nat.zero_add, Nat.not_succ_le_self, Nat.mul_one, exec_loop, Rst, keys1, keys2, keysB, proms, prom, keepV, freshV, freshC, freshB, liveVer, mpVer, pk, ded, insH, sortH, rnP, rnA, rnM, List.map_nil, St.of, List.map_cons, c57_0, h0, getD_map sC hx, sC, h1, h2, h8, strI_nil hz, List.map_nil]
      exact h7
    · simp -implicitDefEqProofs only [fns_57, c57, body, startSt, pkeys, slots, recvL, recv, noH, finish, resPV, outRs, outR, outC, outCs, outMs, go_sem, Nat.reduceShiftRight, Nat.reduceAnd, reduceIte, reduceCtorEq, Nat.reduceEqDiff, Nat.reduceAdd, Nat.reduceMul, Nat.reduceSub, Nat.reduceLT, Nat.reduceLeDiff, Nat.reduceBEq, Nat.reduceBNe, Int.reduceToNat, Int.reduceLT, Int.reduceLE, Int.reduceEq, Int.reduceNe, Int.reduceMul, Int.reduceAdd, Int.reduceSub, Int.reduceNeg, or_self, true_or, or_true, false_or, or_false, Int.natCast_nonneg, Int.toNat_natCast, List.length_map, implies_true, Int.cast_ofNat_Int, List.mem_cons, List.not_mem_nil, forall_eq_or_imp, forall_eq, false_implies, List.replicate_succ, List.replicate_zero, List.set_cons_zero, List.set_cons_succ, List.length_set, Nat.zero_add, Nat.not_succ_le_self, Nat.mul_one, exec_loop, Rst, keys1, keys2, keysB, proms, prom, keepV, freshV, freshC, freshB, liveVer, mpVer, pk, ded, insH, sortH, rnP, rnA, rnM, List.map_nil, St.of, List.map_cons, c57_0, h0, getD_map sC hx, sC, h1, h2, h8, appSl_map _ _ _ _ (strI_ne hz)]
      exact h7
theorem TextP (ln : Bool) (pre : List Int) (l : List ByteArray) (hM : (l.length : Int) ≤ 9223372036854775807) (hL : (pre ++ texts l).length ≤ 140737488355328) : Cal cx 57 [wB pre, .sh ln (l.map sC)] = some ([], [wB (pre ++ texts l)]) := by
  obtain ⟨f, H, h1, h2, h3, h4⟩ := TextLoop ln l hM l.length 0 pre (by omega) hL
  simp only [Int.cast_ofNat_Int, List.drop_zero] at h1 h2 h3 h4
  rw [Cal_eq]
  simp -implicitDefEqProofs only [fns_57, c57, body, startSt, pkeys, slots, recvL, recv, noH, finish, resPV, outRs, outR, outC, outCs, outMs, go_sem, Nat.reduceShiftRight, Nat.reduceAnd, reduceIte, reduceCtorEq, Nat.reduceEqDiff, Nat.reduceAdd, Nat.reduceMul, Nat.reduceSub, Nat.reduceLT, Nat.reduceLeDiff, Nat.reduceBEq, Nat.reduceBNe, Int.reduceToNat, Int.reduceLT, Int.reduceLE, Int.reduceEq, Int.reduceNe, Int.reduceMul, Int.reduceAdd, Int.reduceSub, Int.reduceNeg, or_self, true_or, or_true, false_or, or_false, Int.natCast_nonneg, Int.toNat_natCast, List.length_map, implies_true, Int.cast_ofNat_Int, List.mem_cons, List.not_mem_nil, forall_eq_or_imp, forall_eq, false_implies, List.replicate_succ, List.replicate_zero, List.set_cons_zero, List.set_cons_succ, List.length_set, Nat.zero_add, Nat.not_succ_le_self, Nat.mul_one, exec_loop, Rst, keys1, keys2, keysB, proms, prom, keepV, freshV, freshC, freshB, liveVer, mpVer, pk, ded, insH, sortH, rnP, rnA, rnM, List.map_nil, St.of, List.map_cons, h1, h2, h3, h4]
theorem Flag (pre : List Int) (b : Bool) (hL : (pre ++ vput (bitN b)).length ≤ 140737488355328) : Cal cx 45 [wB pre, .s (.bool b)] = some ([], [wB (pre ++ vput (bitN b))]) := by
  have hw : ∀ n : Nat, nums [(n : Int)] = vput n := fun n => by simp [nums]
  rw [Cal_eq]
  cases b
  · have h1 := Num true pre [((0 : Nat) : Int)] (fun n hn => by simp at hn; subst hn; exact ⟨by omega, by omega⟩) (by simp) (by rw [hw]; exact hL)
    rw [hw] at h1
    simp only [List.map_cons, List.map_nil, iC, Int.cast_ofNat_Int] at h1
    simp -implicitDefEqProofs only [fns_45, c45, body, startSt, pkeys, slots, recvL, recv, noH, finish, resPV, outRs, outR, outC, outCs, outMs, go_sem, Nat.reduceShiftRight, Nat.reduceAnd, reduceIte, reduceCtorEq, Nat.reduceEqDiff, Nat.reduceAdd, Nat.reduceMul, Nat.reduceSub, Nat.reduceLT, Nat.reduceLeDiff, Nat.reduceBEq, Nat.reduceBNe, Int.reduceToNat, Int.reduceLT, Int.reduceLE, Int.reduceEq, Int.reduceNe, Int.reduceMul, Int.reduceAdd, Int.reduceSub, Int.reduceNeg, or_self, true_or, or_true, false_or, or_false, Int.natCast_nonneg, Int.toNat_natCast, List.length_map, implies_true, Int.cast_ofNat_Int, List.mem_cons, List.not_mem_nil, forall_eq_or_imp, forall_eq, false_implies, List.replicate_succ, List.replicate_zero, List.set_cons_zero, List.set_cons_succ, List.length_set, Nat.zero_add, Nat.not_succ_le_self, Nat.mul_one, exec_loop, Rst, keys1, keys2, keysB, proms, prom, keepV, freshV, freshC, freshB, liveVer, mpVer, pk, ded, insH, sortH, rnP, rnA, rnM, List.map_nil, St.of, List.map_cons, h1, bitN]
  · have h1 := Num true pre [((1 : Nat) : Int)] (fun n hn => by simp at hn; subst hn; exact ⟨by omega, by omega⟩) (by simp) (by rw [hw]; exact hL)
    rw [hw] at h1
    simp only [List.map_cons, List.map_nil, iC, Int.cast_ofNat_Int] at h1
    simp -implicitDefEqProofs only [fns_45, c45, body, startSt, pkeys, slots, recvL, recv, noH, finish, resPV, outRs, outR, outC, outCs, outMs, go_sem, Nat.reduceShiftRight, Nat.reduceAnd, reduceIte, reduceCtorEq, Nat.reduceEqDiff, Nat.reduceAdd, Nat.reduceMul, Nat.reduceSub, Nat.reduceLT, Nat.reduceLeDiff, Nat.reduceBEq, Nat.reduceBNe, Int.reduceToNat, Int.reduceLT, Int.reduceLE, Int.reduceEq, Int.reduceNe, Int.reduceMul, Int.reduceAdd, Int.reduceSub, Int.reduceNeg, or_self, true_or, or_true, false_or, or_false, Int.natCast_nonneg, Int.toNat_natCast, List.length_map, implies_true, Int.cast_ofNat_Int, List.mem_cons, List.not_mem_nil, forall_eq_or_imp, forall_eq, false_implies, List.replicate_succ, List.replicate_zero, List.set_cons_zero, List.set_cons_succ, List.length_set, Nat.zero_add, Nat.not_succ_le_self, Nat.mul_one, exec_loop, Rst, keys1, keys2, keysB, proms, prom, keepV, freshV, freshC, freshB, liveVer, mpVer, pk, ded, insH, sortH, rnP, rnA, rnM, List.map_nil, St.of, List.map_cons, h1, bitN]
end Go.Proofs.Ytpfjchnpkolmkaa
