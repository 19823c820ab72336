/- Sums: the program's and the document's. Own work. -/
import Derived.Test.YtpfjchnpkolmkaaRbody
set_option linter.unusedVariables false
set_option linter.unusedSimpArgs false
namespace Go.Proofs.Ytpfjchnpkolmkaa
open Go Go.Pi
set_option maxHeartbeats 2000000
set_option maxRecDepth 10000
def R32 (n : Int) : Prop := 0 ≤ n ∧ n < 4294967296
def crcStep (n : Int) : Int := xorI .u32 (shrI .u32 n 1) (IntKind.u32.wrap (3988292384 * andI .u32 n 1))
def crcIt : Nat → Int → Int
  | 0, x => x
  | n + 1, x => crcIt n (crcStep x)
def crcL : Int → List Int → Int
  | x, [] => x
  | x, c :: l => crcL (crcIt 8 (xorI .u32 x (IntKind.u32.wrap c))) l
def crc (l : List Int) : Int := notI .u32 (crcL (notI .u32 0) l)
def sum4 (n : Int) : List Int := [IntKind.u8.wrap (shrI .u32 n 0), IntKind.u8.wrap (shrI .u32 n 8), IntKind.u8.wrap (shrI .u32 n 16), IntKind.u8.wrap (shrI .u32 n 24)]
def sealB (l : List Int) : List Int := l ++ sum4 (crc l)
theorem wrap32_R (n : Int) : R32 (IntKind.u32.wrap n) := by
  unfold R32 IntKind.wrap
  simp [IntKind.bits, IntKind.signed]
  omega
theorem wrap32_id {n : Int} (h : R32 n) : IntKind.u32.wrap n = n := by
  unfold R32 at h
  unfold IntKind.wrap
  simp [IntKind.bits, IntKind.signed]
  omega
theorem xor_R (a b : Int) : R32 (xorI .u32 a b) := wrap32_R _
theorem crcIt_R : ∀ (n : Nat) (x : Int), R32 x → R32 (crcIt n x)
  | 0, x, h => h
  | n + 1, x, h => crcIt_R n _ (xor_R _ _)
theorem crcL_R : ∀ (l : List Int) (x : Int), R32 x → R32 (crcL x l)
  | [], x, h => h
  | c :: l, x, h => crcL_R l _ (crcIt_R 8 _ (xor_R _ _))
theorem shr1 (n : Nat) : shrI .u32 (n : Int) 1 = ((n / 2 : Nat) : Int) := by
  show (n : Int).fdiv (2 ^ (min 1 32)) = _
  rw [show min 1 32 = 1 from rfl, Int.fdiv_eq_ediv_of_nonneg _ (by decide)]
  simp
theorem and1 {n : Nat} (h : n < 4294967296) : andI .u32 (n : Int) 1 = ((n % 2 : Nat) : Int) := by
  have h1 : (BitVec.ofInt 32 (n : Int) &&& BitVec.ofInt 32 1).toNat = n % 2 := by
    rw [BitVec.toNat_and]
    have h2 : (BitVec.ofInt 32 (n : Int)).toNat = n % 4294967296 := by simp
    have h3 : (BitVec.ofInt 32 1).toNat = 2 ^ 1 - 1 := by decide
    rw [h2, h3, Nat.and_two_pow_sub_one_eq_mod]
    omega
  show IntKind.u32.wrap ((BitVec.ofInt 32 (n : Int) &&& BitVec.ofInt 32 1).toNat : Int) = _
  rw [h1, wrap32_id ⟨by omega, by omega⟩]
theorem and255 {n : Nat} (h : n < 4294967296) : andI .u32 (n : Int) 255 = ((n % 256 : Nat) : Int) := by
  have h1 : (BitVec.ofInt 32 (n : Int) &&& BitVec.ofInt 32 255).toNat = n % 256 := by
    rw [BitVec.toNat_and]
    have h2 : (BitVec.ofInt 32 (n : Int)).toNat = n % 4294967296 := by simp
    have h3 : (BitVec.ofInt 32 255).toNat = 2 ^ 8 - 1 := by decide
    rw [h2, h3, Nat.and_two_pow_sub_one_eq_mod]
    omega
  show IntKind.u32.wrap ((BitVec.ofInt 32 (n : Int) &&& BitVec.ofInt 32 255).toNat : Int) = _
  rw [h1, wrap32_id ⟨by omega, by omega⟩]
theorem xor0 {n : Nat} (h : n < 4294967296) : xorI .u32 (n : Int) 0 = (n : Int) := by
  have h1 : (BitVec.ofInt 32 (n : Int) ^^^ BitVec.ofInt 32 0).toNat = n := by
    rw [show BitVec.ofInt 32 0 = 0#32 from rfl, BitVec.xor_zero]
    simp
    omega
  show IntKind.u32.wrap ((BitVec.ofInt 32 (n : Int) ^^^ BitVec.ofInt 32 0).toNat : Int) = _
  rw [h1, wrap32_id ⟨by omega, by omega⟩]
/-- The document's step is the program's. -/
theorem crcStep_eq {x : Int} (h : R32 x) : crcStep x = if andI .u32 x 1 = 1 then xorI .u32 (shrI .u32 x 1) 3988292384 else shrI .u32 x 1 := by
  obtain ⟨n, rfl⟩ := Int.eq_ofNat_of_zero_le h.1
  have hn : n < 4294967296 := by have := h.2; omega
  unfold crcStep
  rw [and1 hn, shr1]
  have h2 : n % 2 = 0 ∨ n % 2 = 1 := by omega
  rcases h2 with h2 | h2
  · rw [h2, if_neg (by decide)]
    exact xor0 (by omega)
  · rw [h2]
    simp only [Int.cast_ofNat_Int, if_true, Int.reduceMul]
    rw [wrap32_id ⟨by decide, by decide⟩]
theorem w64_3 : IntKind.i64.wrap 3 = 3 := by decide
theorem w64_0 : IntKind.i64.wrap 0 = 0 := by decide
theorem w64_4 : IntKind.i64.wrap 4 = 4 := by decide
theorem w64_8 : IntKind.i64.wrap 8 = 8 := by decide
theorem w64_16 : IntKind.i64.wrap 16 = 16 := by decide
theorem w64_24 : IntKind.i64.wrap 24 = 24 := by decide
theorem MoreInner (ln : Bool) (l : List Int) (i : Nat) : ∀ (n k : Nat) (x : Int), k + n = 8 →
   ∃ f H, Pi.Loop (exec cx (Cal cx) c58_2) (Rst Try.prog ([(5, none), (10, none), (11, none), (12, none), (20, none)], [])) (St.mk (sF [(5, .s (.int .u32 x)), (10, .sh ln (l.map bC)), (11, .s (.int .i64 l.length)), (12, .s (.int .i64 i)), (20, .s (.int .i64 k))]) (hF [])) = some (.ex 2, St.mk f H) ∧ f 5 = .s (.int .u32 (crcIt n x)) ∧ f 10 = .sh ln (l.map bC) ∧ f 11 = .s (.int .i64 l.length) ∧ f 12 = .s (.int .i64 i) := by
  intro n
  induction n with
  | zero =>
    intro k x h
    have h0 : ¬ (k : Int) < 8 := by omega
    rw [Loop_eq]
    simp -implicitDefEqProofs only [fns_58, c58, body, startSt, pkeys, slots, recvL, recv, noH, finish, resPV, outRs, outR, outC, outCs, outMs, go_sem, Nat.reduceShiftRight, Nat.reduceAnd, reduceIte, reduceCtorEq, Nat.reduceEqDiff, Nat.reduceAdd, Nat.reduceMul, Nat.reduceSub, Nat.reduceLT, Nat.reduceLeDiff, Nat.reduceBEq, Nat.reduceBNe, Int.reduceToNat, Int.reduceLT, Int.reduceLE, Int.reduceEq, Int.reduceNe, Int.reduceMul, Int.reduceAdd, Int.reduceSub, Int.reduceNeg, or_self, true_or, or_true, false_or, or_false, Int.natCast_nonneg, Int.toNat_natCast, List.length_map, implies_true, Int.cast_ofNat_Int, List.mem_cons, List.not_mem_nil, forall_eq_or_imp, forall_eq, false_implies, List.replicate_succ, List.replicate_zero, List.set_cons_zero, List.set_cons_succ, List.length_set, Nat.zero_add, Nat.not_succ_le_self, Nat.mul_one, exec_loop, Rst, keys1, keys2, keysB, proms, prom, keepV, freshV, freshC, freshB, liveVer, mpVer, pk, ded, insH, sortH, rnP, rnA, rnM, List.map_nil, St.of, List.map_cons, c58_2, h0, crcIt]
    (first | exact ⟨_, _, rfl⟩ | (refine ⟨_, _, rfl, ?_⟩; first | exact (fun _ => rfl) | exact (fun h => by cases h) | rfl | exact ⟨rfl, rfl⟩ | exact ⟨fun _ => rfl, fun _ => rfl⟩ | exact ⟨rfl, rfl, rfl⟩ | exact ⟨fun _ => rfl, rfl, rfl, rfl⟩ | exact ⟨rfl, rfl, rfl, rfl⟩))
  | succ n ih =>
    intro k x h
    have h0 : (k : Int) < 8 := by omega
    have h8 : IntKind.i64.wrap ((k : Int) + 1) = ((k + 1 : Nat) : Int) := by rw [wrap64_id] <;> omega
    have h7 := ih (k + 1) (crcStep x) (by omega)
    rw [Loop_eq]
    simp only [crcStep] at h7
    simp -implicitDefEqProofs only [fns_58, c58, body, startSt, pkeys, slots, recvL, recv, noH, finish, resPV, outRs, outR, outC, outCs, outMs, go_sem, Nat.reduceShiftRight, Nat.reduceAnd, reduceIte, reduceCtorEq, Nat.reduceEqDiff, Nat.reduceAdd, Nat.reduceMul, Nat.reduceSub, Nat.reduceLT, Nat.reduceLeDiff, Nat.reduceBEq, Nat.reduceBNe, Int.reduceToNat, Int.reduceLT, Int.reduceLE, Int.reduceEq, Int.reduceNe, Int.reduceMul, Int.reduceAdd, Int.reduceSub, Int.reduceNeg, or_self, true_or, or_true, false_or, or_false, Int.natCast_nonneg, Int.toNat_natCast, List.length_map, implies_true, Int.cast_ofNat_Int, List.mem_cons, List.not_mem_nil, forall_eq_or_imp, forall_eq, false_implies, List.replicate_succ, List.replicate_zero, List.set_cons_zero, List.set_cons_succ, List.length_set, Nat.zero_add, Nat.not_succ_le_self, Nat.mul_one, exec_loop, Rst, keys1, keys2, keysB, proms, prom, keepV, freshV, freshC, freshB, liveVer, mpVer, pk, ded, insH, sortH, rnP, rnA, rnM, List.map_nil, St.of, List.map_cons, c58_2, h0, crcIt, crcStep, h8]
    exact h7
theorem MoreLoop (ln : Bool) (l : List Int) (hM : (l.length : Int) ≤ 9223372036854775807) : ∀ (n i : Nat) (x : Int), i + n = l.length →
   ∃ f H, Pi.Loop (exec cx (Cal cx) c58_0) (Rst Try.prog ([(5, none), (10, none), (11, none), (12, none)], [])) (St.mk (sF [(5, .s (.int .u32 x)), (10, .sh ln (l.map bC)), (11, .s (.int .i64 l.length)), (12, .s (.int .i64 i))]) (hF [])) = some (.ex 0, St.mk f H) ∧ f 5 = .s (.int .u32 (crcL x (l.drop i))) := by
  intro n
  induction n with
  | zero =>
    intro i x h
    have h0 : ¬ (i : Int) < (l.length : Int) := by omega
    rw [Loop_eq, drop_end (by omega)]
    simp -implicitDefEqProofs only [fns_58, c58, body, startSt, pkeys, slots, recvL, recv, noH, finish, resPV, outRs, outR, outC, outCs, outMs, go_sem, Nat.reduceShiftRight, Nat.reduceAnd, reduceIte, reduceCtorEq, Nat.reduceEqDiff, Nat.reduceAdd, Nat.reduceMul, Nat.reduceSub, Nat.reduceLT, Nat.reduceLeDiff, Nat.reduceBEq, Nat.reduceBNe, Int.reduceToNat, Int.reduceLT, Int.reduceLE, Int.reduceEq, Int.reduceNe, Int.reduceMul, Int.reduceAdd, Int.reduceSub, Int.reduceNeg, or_self, true_or, or_true, false_or, or_false, Int.natCast_nonneg, Int.toNat_natCast, List.length_map, implies_true, Int.cast_ofNat_Int, List.mem_cons, List.not_mem_nil, forall_eq_or_imp, forall_eq, false_implies, List.replicate_succ, List.replicate_zero, List.set_cons_zero, List.set_cons_succ, List.length_set, Nat.zero_add, Nat.not_succ_le_self, Nat.mul_one, exec_loop, Rst, keys1, keys2, keysB, proms, prom, keepV, freshV, freshC, freshB, liveVer, mpVer, pk, ded, insH, sortH, rnP, rnA, rnM, List.map_nil, St.of, List.map_cons, c58_0, h0, crcL]
    (first | exact ⟨_, _, rfl⟩ | (refine ⟨_, _, rfl, ?_⟩; first | exact (fun _ => rfl) | exact (fun h => by cases h) | rfl | exact ⟨rfl, rfl⟩ | exact ⟨fun _ => rfl, fun _ => rfl⟩ | exact ⟨rfl, rfl, rfl⟩ | exact ⟨fun _ => rfl, rfl, rfl, rfl⟩ | exact ⟨rfl, rfl, rfl, rfl⟩))
  | succ n ih =>
    intro i x h
    have h0 : (i : Int) < (l.length : Int) := by omega
    obtain ⟨c, hx⟩ := get_of_lt (l := l) (i := i) (by omega)
    have h8 : IntKind.i64.wrap ((i : Int) + 1) = ((i + 1 : Nat) : Int) := by rw [wrap64_id] <;> omega
    have h7 := ih (i + 1) (crcIt 8 (xorI .u32 x (IntKind.u32.wrap c))) (by omega)
    obtain ⟨f, H, g1, g2, g3, g4, g5⟩ := MoreInner ln l i 8 0 (xorI .u32 x (IntKind.u32.wrap c)) rfl
    simp only [Int.cast_ofNat_Int] at g1
    rw [Loop_eq, drop_get hx]
    simp -implicitDefEqProofs only [fns_58, c58, body, startSt, pkeys, slots, recvL, recv, noH, finish, resPV, outRs, outR, outC, outCs, outMs, go_sem, Nat.reduceShiftRight, Nat.reduceAnd, reduceIte, reduceCtorEq, Nat.reduceEqDiff, Nat.reduceAdd, Nat.reduceMul, Nat.reduceSub, Nat.reduceLT, Nat.reduceLeDiff, Nat.reduceBEq, Nat.reduceBNe, Int.reduceToNat, Int.reduceLT, Int.reduceLE, Int.reduceEq, Int.reduceNe, Int.reduceMul, Int.reduceAdd, Int.reduceSub, Int.reduceNeg, or_self, true_or, or_true, false_or, or_false, Int.natCast_nonneg, Int.toNat_natCast, List.length_map, implies_true, Int.cast_ofNat_Int, List.mem_cons, List.not_mem_nil, forall_eq_or_imp, forall_eq, false_implies, List.replicate_succ, List.replicate_zero, List.set_cons_zero, List.set_cons_succ, List.length_set, Nat.zero_add, Nat.not_succ_le_self, Nat.mul_one, exec_loop, Rst, keys1, keys2, keysB, proms, prom, keepV, freshV, freshC, freshB, liveVer, mpVer, pk, ded, insH, sortH, rnP, rnA, rnM, List.map_nil, St.of, List.map_cons, c58_0, h0, crcL, getD_map bC hx, bC, g1, g2, g3, g4, g5, h8]
    exact h7
theorem MoreP (x : Int) (ln : Bool) (l : List Int) (hM : (l.length : Int) ≤ 9223372036854775807) : Cal cx 58 [.s (.int .u32 x), .sh ln (l.map bC)] = some ([.s (.int .u32 (notI .u32 (crcL (notI .u32 x) l)))], []) := by
  obtain ⟨f, H, h1, h2⟩ := MoreLoop ln l hM l.length 0 (notI .u32 x) (by omega)
  simp only [Int.cast_ofNat_Int, List.drop_zero] at h1 h2
  rw [Cal_eq]
  simp -implicitDefEqProofs only [fns_58, c58, body, startSt, pkeys, slots, recvL, recv, noH, finish, resPV, outRs, outR, outC, outCs, outMs, go_sem, Nat.reduceShiftRight, Nat.reduceAnd, reduceIte, reduceCtorEq, Nat.reduceEqDiff, Nat.reduceAdd, Nat.reduceMul, Nat.reduceSub, Nat.reduceLT, Nat.reduceLeDiff, Nat.reduceBEq, Nat.reduceBNe, Int.reduceToNat, Int.reduceLT, Int.reduceLE, Int.reduceEq, Int.reduceNe, Int.reduceMul, Int.reduceAdd, Int.reduceSub, Int.reduceNeg, or_self, true_or, or_true, false_or, or_false, Int.natCast_nonneg, Int.toNat_natCast, List.length_map, implies_true, Int.cast_ofNat_Int, List.mem_cons, List.not_mem_nil, forall_eq_or_imp, forall_eq, false_implies, List.replicate_succ, List.replicate_zero, List.set_cons_zero, List.set_cons_succ, List.length_set, Nat.zero_add, Nat.not_succ_le_self, Nat.mul_one, exec_loop, Rst, keys1, keys2, keysB, proms, prom, keepV, freshV, freshC, freshB, liveVer, mpVer, pk, ded, insH, sortH, rnP, rnA, rnM, List.map_nil, St.of, List.map_cons, h1, h2]
theorem SumP (ln : Bool) (l : List Int) (hM : (l.length : Int) ≤ 9223372036854775807) : Cal cx 48 [.sh ln (l.map bC)] = some ([.s (.int .u32 (crc l))], []) := by
  have h1 := MoreP 0 ln l hM
  rw [Cal_eq]
  simp -implicitDefEqProofs only [fns_48, c48, body, startSt, pkeys, slots, recvL, recv, noH, finish, resPV, outRs, outR, outC, outCs, outMs, go_sem, Nat.reduceShiftRight, Nat.reduceAnd, reduceIte, reduceCtorEq, Nat.reduceEqDiff, Nat.reduceAdd, Nat.reduceMul, Nat.reduceSub, Nat.reduceLT, Nat.reduceLeDiff, Nat.reduceBEq, Nat.reduceBNe, Int.reduceToNat, Int.reduceLT, Int.reduceLE, Int.reduceEq, Int.reduceNe, Int.reduceMul, Int.reduceAdd, Int.reduceSub, Int.reduceNeg, or_self, true_or, or_true, false_or, or_false, Int.natCast_nonneg, Int.toNat_natCast, List.length_map, implies_true, Int.cast_ofNat_Int, List.mem_cons, List.not_mem_nil, forall_eq_or_imp, forall_eq, false_implies, List.replicate_succ, List.replicate_zero, List.set_cons_zero, List.set_cons_succ, List.length_set, Nat.zero_add, Nat.not_succ_le_self, Nat.mul_one, exec_loop, Rst, keys1, keys2, keysB, proms, prom, keepV, freshV, freshC, freshB, liveVer, mpVer, pk, ded, insH, sortH, rnP, rnA, rnM, List.map_nil, St.of, List.map_cons, h1, crc]
theorem PutP (pre : List Int) (n : Int) (hL : (pre ++ sum4 n).length ≤ 140737488355328) : Cal cx 47 [oB pre, .s (.int .u32 n)] = some ([oB (pre ++ sum4 n)], []) := by
  have l1 : (pre ++ [IntKind.u8.wrap (shrI .u32 n 0)]).length ≤ 140737488355328 := by simp [sum4] at hL ⊢; omega
  have l2 : (pre ++ [IntKind.u8.wrap (shrI .u32 n 0)] ++ [IntKind.u8.wrap (shrI .u32 n 8)]).length ≤ 140737488355328 := by simp [sum4] at hL ⊢; omega
  have l3 : (pre ++ [IntKind.u8.wrap (shrI .u32 n 0)] ++ [IntKind.u8.wrap (shrI .u32 n 8)] ++ [IntKind.u8.wrap (shrI .u32 n 16)]).length ≤ 140737488355328 := by simp [sum4] at hL ⊢; omega
  have l4 : (pre ++ [IntKind.u8.wrap (shrI .u32 n 0)] ++ [IntKind.u8.wrap (shrI .u32 n 8)] ++ [IntKind.u8.wrap (shrI .u32 n 16)] ++ [IntKind.u8.wrap (shrI .u32 n 24)]).length ≤ 140737488355328 := by simp [sum4] at hL ⊢; omega
  rw [Cal_eq]
  simp -implicitDefEqProofs only [fns_47, c47, body, startSt, pkeys, slots, recvL, recv, noH, finish, resPV, outRs, outR, outC, outCs, outMs, go_sem, Nat.reduceShiftRight, Nat.reduceAnd, reduceIte, reduceCtorEq, Nat.reduceEqDiff, Nat.reduceAdd, Nat.reduceMul, Nat.reduceSub, Nat.reduceLT, Nat.reduceLeDiff, Nat.reduceBEq, Nat.reduceBNe, Int.reduceToNat, Int.reduceLT, Int.reduceLE, Int.reduceEq, Int.reduceNe, Int.reduceMul, Int.reduceAdd, Int.reduceSub, Int.reduceNeg, or_self, true_or, or_true, false_or, or_false, Int.natCast_nonneg, Int.toNat_natCast, List.length_map, implies_true, Int.cast_ofNat_Int, List.mem_cons, List.not_mem_nil, forall_eq_or_imp, forall_eq, false_implies, List.replicate_succ, List.replicate_zero, List.set_cons_zero, List.set_cons_succ, List.length_set, Nat.zero_add, Nat.not_succ_le_self, Nat.mul_one, exec_loop, Rst, keys1, keys2, keysB, proms, prom, keepV, freshV, freshC, freshB, liveVer, mpVer, pk, ded, insH, sortH, rnP, rnA, rnM, List.map_nil, St.of, List.map_cons]
  rw [Loop_eq]
  simp -implicitDefEqProofs only [fns_47, c47, body, startSt, pkeys, slots, recvL, recv, noH, finish, resPV, outRs, outR, outC, outCs, outMs, go_sem, Nat.reduceShiftRight, Nat.reduceAnd, reduceIte, reduceCtorEq, Nat.reduceEqDiff, Nat.reduceAdd, Nat.reduceMul, Nat.reduceSub, Nat.reduceLT, Nat.reduceLeDiff, Nat.reduceBEq, Nat.reduceBNe, Int.reduceToNat, Int.reduceLT, Int.reduceLE, Int.reduceEq, Int.reduceNe, Int.reduceMul, Int.reduceAdd, Int.reduceSub, Int.reduceNeg, or_self, true_or, or_true, false_or, or_false, Int.natCast_nonneg, Int.toNat_natCast, List.length_map, implies_true, Int.cast_ofNat_Int, List.mem_cons, List.not_mem_nil, forall_eq_or_imp, forall_eq, false_implies, List.replicate_succ, List.replicate_zero, List.set_cons_zero, List.set_cons_succ, List.length_set, Nat.zero_add, Nat.not_succ_le_self, Nat.mul_one, exec_loop, Rst, keys1, keys2, keysB, proms, prom, keepV, freshV, freshC, freshB, liveVer, mpVer, pk, ded, insH, sortH, rnP, rnA, rnM, List.map_nil, St.of, List.map_cons, c47_0, w64_0, w64_1, l1]
  rw [Loop_eq]
  simp -implicitDefEqProofs only [fns_47, c47, body, startSt, pkeys, slots, recvL, recv, noH, finish, resPV, outRs, outR, outC, outCs, outMs, go_sem, Nat.reduceShiftRight, Nat.reduceAnd, reduceIte, reduceCtorEq, Nat.reduceEqDiff, Nat.reduceAdd, Nat.reduceMul, Nat.reduceSub, Nat.reduceLT, Nat.reduceLeDiff, Nat.reduceBEq, Nat.reduceBNe, Int.reduceToNat, Int.reduceLT, Int.reduceLE, Int.reduceEq, Int.reduceNe, Int.reduceMul, Int.reduceAdd, Int.reduceSub, Int.reduceNeg, or_self, true_or, or_true, false_or, or_false, Int.natCast_nonneg, Int.toNat_natCast, List.length_map, implies_true, Int.cast_ofNat_Int, List.mem_cons, List.not_mem_nil, forall_eq_or_imp, forall_eq, false_implies, List.replicate_succ, List.replicate_zero, List.set_cons_zero, List.set_cons_succ, List.length_set, Nat.zero_add, Nat.not_succ_le_self, Nat.mul_one, exec_loop, Rst, keys1, keys2, keysB, proms, prom, keepV, freshV, freshC, freshB, liveVer, mpVer, pk, ded, insH, sortH, rnP, rnA, rnM, List.map_nil, St.of, List.map_cons, w64_8, w64_2, l2]
  rw [Loop_eq]
  simp -implicitDefEqProofs only [fns_47, c47, body, startSt, pkeys, slots, recvL, recv, noH, finish, resPV, outRs, outR, outC, outCs, outMs, go_sem, Nat.reduceShiftRight, Nat.reduceAnd, reduceIte, reduceCtorEq, Nat.reduceEqDiff, Nat.reduceAdd, Nat.reduceMul, Nat.reduceSub, Nat.reduceLT, Nat.reduceLeDiff, Nat.reduceBEq, Nat.reduceBNe, Int.reduceToNat, Int.reduceLT, Int.reduceLE, Int.reduceEq, Int.reduceNe, Int.reduceMul, Int.reduceAdd, Int.reduceSub, Int.reduceNeg, or_self, true_or, or_true, false_or, or_false, Int.natCast_nonneg, Int.toNat_natCast, List.length_map, implies_true, Int.cast_ofNat_Int, List.mem_cons, List.not_mem_nil, forall_eq_or_imp, forall_eq, false_implies, List.replicate_succ, List.replicate_zero, List.set_cons_zero, List.set_cons_succ, List.length_set, Nat.zero_add, Nat.not_succ_le_self, Nat.mul_one, exec_loop, Rst, keys1, keys2, keysB, proms, prom, keepV, freshV, freshC, freshB, liveVer, mpVer, pk, ded, insH, sortH, rnP, rnA, rnM, List.map_nil, St.of, List.map_cons, w64_16, w64_3, l3]
  rw [Loop_eq]
  simp -implicitDefEqProofs only [fns_47, c47, body, startSt, pkeys, slots, recvL, recv, noH, finish, resPV, outRs, outR, outC, outCs, outMs, go_sem, Nat.reduceShiftRight, Nat.reduceAnd, reduceIte, reduceCtorEq, Nat.reduceEqDiff, Nat.reduceAdd, Nat.reduceMul, Nat.reduceSub, Nat.reduceLT, Nat.reduceLeDiff, Nat.reduceBEq, Nat.reduceBNe, Int.reduceToNat, Int.reduceLT, Int.reduceLE, Int.reduceEq, Int.reduceNe, Int.reduceMul, Int.reduceAdd, Int.reduceSub, Int.reduceNeg, or_self, true_or, or_true, false_or, or_false, Int.natCast_nonneg, Int.toNat_natCast, List.length_map, implies_true, Int.cast_ofNat_Int, List.mem_cons, List.not_mem_nil, forall_eq_or_imp, forall_eq, false_implies, List.replicate_succ, List.replicate_zero, List.set_cons_zero, List.set_cons_succ, List.length_set, Nat.zero_add, Nat.not_succ_le_self, Nat.mul_one, exec_loop, Rst, keys1, keys2, keysB, proms, prom, keepV, freshV, freshC, freshB, liveVer, mpVer, pk, ded, insH, sortH, rnP, rnA, rnM, List.map_nil, St.of, List.map_cons, w64_24, w64_4, l4]
  rw [Loop_eq]
  simp -implicitDefEqProofs only [fns_47, c47, body, startSt, pkeys, slots, recvL, recv, noH, finish, resPV, outRs, outR, outC, outCs, outMs, go_sem, Nat.reduceShiftRight, Nat.reduceAnd, reduceIte, reduceCtorEq, Nat.reduceEqDiff, Nat.reduceAdd, Nat.reduceMul, Nat.reduceSub, Nat.reduceLT, Nat.reduceLeDiff, Nat.reduceBEq, Nat.reduceBNe, Int.reduceToNat, Int.reduceLT, Int.reduceLE, Int.reduceEq, Int.reduceNe, Int.reduceMul, Int.reduceAdd, Int.reduceSub, Int.reduceNeg, or_self, true_or, or_true, false_or, or_false, Int.natCast_nonneg, Int.toNat_natCast, List.length_map, implies_true, Int.cast_ofNat_Int, List.mem_cons, List.not_mem_nil, forall_eq_or_imp, forall_eq, false_implies, List.replicate_succ, List.replicate_zero, List.set_cons_zero, List.set_cons_succ, List.length_set, Nat.zero_add, Nat.not_succ_le_self, Nat.mul_one, exec_loop, Rst, keys1, keys2, keysB, proms, prom, keepV, freshV, freshC, freshB, liveVer, mpVer, pk, ded, insH, sortH, rnP, rnA, rnM, List.map_nil, St.of, List.map_cons]
  simp [sum4]
theorem Seal (ln : Bool) (l : List Int) (hL : (sealB l).length ≤ 140737488355328) : Cal cx 33 [.sh ln (l.map bC)] = some ([oB (sealB l)], []) := by
  unfold sealB at hL ⊢
  have hl : l.length ≤ 140737488355328 := by simp at hL; omega
  have h1 := SumP ln l (by omega)
  have h2 := PutP l (crc l) hL
  rw [Cal_eq]
  have hl2 : l.length ≤ 9223372036854775807 := by omega
  simp -implicitDefEqProofs only [fns_33, c33, body, startSt, pkeys, slots, recvL, recv, noH, finish, resPV, outRs, outR, outC, outCs, outMs, go_sem, Nat.reduceShiftRight, Nat.reduceAnd, reduceIte, reduceCtorEq, Nat.reduceEqDiff, Nat.reduceAdd, Nat.reduceMul, Nat.reduceSub, Nat.reduceLT, Nat.reduceLeDiff, Nat.reduceBEq, Nat.reduceBNe, Int.reduceToNat, Int.reduceLT, Int.reduceLE, Int.reduceEq, Int.reduceNe, Int.reduceMul, Int.reduceAdd, Int.reduceSub, Int.reduceNeg, or_self, true_or, or_true, false_or, or_false, Int.natCast_nonneg, Int.toNat_natCast, List.length_map, implies_true, Int.cast_ofNat_Int, List.mem_cons, List.not_mem_nil, forall_eq_or_imp, forall_eq, false_implies, List.replicate_succ, List.replicate_zero, List.set_cons_zero, List.set_cons_succ, List.length_set, Nat.zero_add, Nat.not_succ_le_self, Nat.mul_one, exec_loop, Rst, keys1, keys2, keysB, proms, prom, keepV, freshV, freshC, freshB, liveVer, mpVer, pk, ded, insH, sortH, rnP, rnA, rnM, List.map_nil, St.of, List.map_cons, h1, h2, hl, hl2]
theorem MoreInnerR (ln : Bool) (l : List Int) (i : Nat) : ∀ (n k : Nat) (x : Int), R32 x → k + n = 8 →
   ∃ f H, Pi.Loop (exec cx (Cal cx) c50_2) (Rst Try.prog ([(1, none), (5, none), (6, none), (7, none)], [])) (St.mk (sF [(1, .sh ln (l.map bC)), (5, .s (.int .u32 x)), (6, .s (.int .i64 i)), (7, .s (.int .i64 k))]) (hF [])) = some (.ex 2, St.mk f H) ∧ f 5 = .s (.int .u32 (crcIt n x)) ∧ f 1 = .sh ln (l.map bC) ∧ f 6 = .s (.int .i64 i) := by
  intro n
  induction n with
  | zero =>
    intro k x hx h
    have h0 : ¬ (k : Int) < 8 := by omega
    rw [Loop_eq]
    simp -implicitDefEqProofs only [fns_50, c50, body, startSt, pkeys, slots, recvL, recv, noH, finish, resPV, outRs, outR, outC, outCs, outMs, go_sem, Nat.reduceShiftRight, Nat.reduceAnd, reduceIte, reduceCtorEq, Nat.reduceEqDiff, Nat.reduceAdd, Nat.reduceMul, Nat.reduceSub, Nat.reduceLT, Nat.reduceLeDiff, Nat.reduceBEq, Nat.reduceBNe, Int.reduceToNat, Int.reduceLT, Int.reduceLE, Int.reduceEq, Int.reduceNe, Int.reduceMul, Int.reduceAdd, Int.reduceSub, Int.reduceNeg, or_self, true_or, or_true, false_or, or_false, Int.natCast_nonneg, Int.toNat_natCast, List.length_map, implies_true, Int.cast_ofNat_Int, List.mem_cons, List.not_mem_nil, forall_eq_or_imp, forall_eq, false_implies, List.replicate_succ, List.replicate_zero, List.set_cons_zero, List.set_cons_succ, List.length_set, Nat.zero_add, Nat.not_succ_le_self, Nat.mul_one, exec_loop, Rst, keys1, keys2, keysB, proms, prom, keepV, freshV, freshC, freshB, liveVer, mpVer, pk, ded, insH, sortH, rnP, rnA, rnM, List.map_nil, St.of, List.map_cons, c50_2, h0, crcIt]
    (first | exact ⟨_, _, rfl⟩ | (refine ⟨_, _, rfl, ?_⟩; first | exact (fun _ => rfl) | exact (fun h => by cases h) | rfl | exact ⟨rfl, rfl⟩ | exact ⟨fun _ => rfl, fun _ => rfl⟩ | exact ⟨rfl, rfl, rfl⟩ | exact ⟨fun _ => rfl, rfl, rfl, rfl⟩ | exact ⟨rfl, rfl, rfl, rfl⟩))
  | succ n ih =>
    intro k x hx h
    have h0 : (k : Int) < 8 := by omega
    have h8 : IntKind.i64.wrap ((k : Int) + 1) = ((k + 1 : Nat) : Int) := by rw [wrap64_id] <;> omega
    have hR : R32 (crcStep x) := xor_R _ _
    have h7 := ih (k + 1) (crcStep x) hR (by omega)
    rw [Loop_eq]
    by_cases hb : andI .u32 x 1 = 1
    · rw [crcStep_eq hx, if_pos hb] at h7
      simp -implicitDefEqProofs only [fns_50, c50, body, startSt, pkeys, slots, recvL, recv, noH, finish, resPV, outRs, outR, outC, outCs, outMs, go_sem, Nat.reduceShiftRight, Nat.reduceAnd, reduceIte, reduceCtorEq, Nat.reduceEqDiff, Nat.reduceAdd, Nat.reduceMul, Nat.reduceSub, Nat.reduceLT, Nat.reduceLeDiff, Nat.reduceBEq, Nat.reduceBNe, Int.reduceToNat, Int.reduceLT, Int.reduceLE, Int.reduceEq, Int.reduceNe, Int.reduceMul, Int.reduceAdd, Int.reduceSub, Int.reduceNeg, or_self, true_or, or_true, false_or, or_false, Int.natCast_nonneg, Int.toNat_natCast, List.length_map, implies_true, Int.cast_ofNat_Int, List.mem_cons, List.not_mem_nil, forall_eq_or_imp, forall_eq, false_implies, List.replicate_succ, List.replicate_zero, List.set_cons_zero, List.set_cons_succ, List.length_set, Nat.zero_add, Nat.not_succ_le_self, Nat.mul_one, exec_loop, Rst, keys1, keys2, keysB, proms, prom, keepV, freshV, freshC, freshB, liveVer, mpVer, pk, ded, insH, sortH, rnP, rnA, rnM, List.map_nil, St.of, List.map_cons, c50_2, h0, crcIt, crcStep_eq hx, h8, hb]
      exact h7
    · rw [crcStep_eq hx, if_neg hb] at h7
      simp -implicitDefEqProofs only [fns_50, c50, body, startSt, pkeys, slots, recvL, recv, noH, finish, resPV, outRs, outR, outC, outCs, outMs, go_sem, Nat.reduceShiftRight, Nat.reduceAnd, reduceIte, reduceCtorEq, Nat.reduceEqDiff, Nat.reduceAdd, Nat.reduceMul, Nat.reduceSub, Nat.reduceLT, Nat.reduceLeDiff, Nat.reduceBEq, Nat.reduceBNe, Int.reduceToNat, Int.reduceLT, Int.reduceLE, Int.reduceEq, Int.reduceNe, Int.reduceMul, Int.reduceAdd, Int.reduceSub, Int.reduceNeg, or_self, true_or, or_true, false_or, or_false, Int.natCast_nonneg, Int.toNat_natCast, List.length_map, implies_true, Int.cast_ofNat_Int, List.mem_cons, List.not_mem_nil, forall_eq_or_imp, forall_eq, false_implies, List.replicate_succ, List.replicate_zero, List.set_cons_zero, List.set_cons_succ, List.length_set, Nat.zero_add, Nat.not_succ_le_self, Nat.mul_one, exec_loop, Rst, keys1, keys2, keysB, proms, prom, keepV, freshV, freshC, freshB, liveVer, mpVer, pk, ded, insH, sortH, rnP, rnA, rnM, List.map_nil, St.of, List.map_cons, c50_2, h0, crcIt, crcStep_eq hx, h8, hb]
      exact h7
theorem MoreLoopR (ln : Bool) (l : List Int) (hM : (l.length : Int) ≤ 9223372036854775807) : ∀ (n i : Nat) (x : Int), R32 x → i + n = l.length →
   ∃ f H, Pi.Loop (exec cx (Cal cx) c50_0) (Rst Try.prog ([(1, none), (5, none), (6, none)], [])) (St.mk (sF [(1, .sh ln (l.map bC)), (5, .s (.int .u32 x)), (6, .s (.int .i64 i))]) (hF [])) = some (.ex 0, St.mk f H) ∧ f 5 = .s (.int .u32 (crcL x (l.drop i))) := by
  intro n
  induction n with
  | zero =>
    intro i x hx h
    have h0 : ¬ (i : Int) < (l.length : Int) := by omega
    rw [Loop_eq, drop_end (by omega)]
    simp -implicitDefEqProofs only [fns_50, c50, body, startSt, pkeys, slots, recvL, recv, noH, finish, resPV, outRs, outR, outC, outCs, outMs, go_sem, Nat.reduceShiftRight, Nat.reduceAnd, reduceIte, reduceCtorEq, Nat.reduceEqDiff, Nat.reduceAdd, Nat.reduceMul, Nat.reduceSub, Nat.reduceLT, Nat.reduceLeDiff, Nat.reduceBEq, Nat.reduceBNe, Int.reduceToNat, Int.reduceLT, Int.reduceLE, Int.reduceEq, Int.reduceNe, Int.reduceMul, Int.reduceAdd, Int.reduceSub, Int.reduceNeg, or_self, true_or, or_true, false_or, or_false, Int.natCast_nonneg, Int.toNat_natCast, List.length_map, implies_true, Int.cast_ofNat_Int, List.mem_cons, List.not_mem_nil, forall_eq_or_imp, forall_eq, false_implies, List.replicate_succ, List.replicate_zero, List.set_cons_zero, List.set_cons_succ, List.length_set, Nat.zero_add, Nat.not_succ_le_self, Nat.mul_one, exec_loop, Rst, keys1, keys2, keysB, proms, prom, keepV, freshV, freshC, freshB, liveVer, mpVer, pk, ded, insH, sortH, rnP, rnA, rnM, List.map_nil, St.of, List.map_cons, c50_0, h0, crcL]
    (first | exact ⟨_, _, rfl⟩ | (refine ⟨_, _, rfl, ?_⟩; first | exact (fun _ => rfl) | exact (fun h => by cases h) | rfl | exact ⟨rfl, rfl⟩ | exact ⟨fun _ => rfl, fun _ => rfl⟩ | exact ⟨rfl, rfl, rfl⟩ | exact ⟨fun _ => rfl, rfl, rfl, rfl⟩ | exact ⟨rfl, rfl, rfl, rfl⟩))
  | succ n ih =>
    intro i x hx h
    have h0 : (i : Int) < (l.length : Int) := by omega
    obtain ⟨c, hc⟩ := get_of_lt (l := l) (i := i) (by omega)
    have h8 : IntKind.i64.wrap ((i : Int) + 1) = ((i + 1 : Nat) : Int) := by rw [wrap64_id] <;> omega
    have h7 := ih (i + 1) (crcIt 8 (xorI .u32 x (IntKind.u32.wrap c))) (crcIt_R _ _ (xor_R _ _)) (by omega)
    obtain ⟨f, H, g1, g2, g3, g4⟩ := MoreInnerR ln l i 8 0 (xorI .u32 x (IntKind.u32.wrap c)) (xor_R _ _) rfl
    simp only [Int.cast_ofNat_Int] at g1
    rw [Loop_eq, drop_get hc]
    simp -implicitDefEqProofs only [fns_50, c50, body, startSt, pkeys, slots, recvL, recv, noH, finish, resPV, outRs, outR, outC, outCs, outMs, go_sem, Nat.reduceShiftRight, Nat.reduceAnd, reduceIte, reduceCtorEq, Nat.reduceEqDiff, Nat.reduceAdd, Nat.reduceMul, Nat.reduceSub, Nat.reduceLT, Nat.reduceLeDiff, Nat.reduceBEq, Nat.reduceBNe, Int.reduceToNat, Int.reduceLT, Int.reduceLE, Int.reduceEq, Int.reduceNe, Int.reduceMul, Int.reduceAdd, Int.reduceSub, Int.reduceNeg, or_self, true_or, or_true, false_or, or_false, Int.natCast_nonneg, Int.toNat_natCast, List.length_map, implies_true, Int.cast_ofNat_Int, List.mem_cons, List.not_mem_nil, forall_eq_or_imp, forall_eq, false_implies, List.replicate_succ, List.replicate_zero, List.set_cons_zero, List.set_cons_succ, List.length_set, Nat.zero_add, Nat.not_succ_le_self, Nat.mul_one, exec_loop, Rst, keys1, keys2, keysB, proms, prom, keepV, freshV, freshC, freshB, liveVer, mpVer, pk, ded, insH, sortH, rnP, rnA, rnM, List.map_nil, St.of, List.map_cons, c50_0, h0, crcL, getD_map bC hc, bC, g1, g2, g3, g4, h8]
    exact h7
theorem MoreR (x : Int) (ln : Bool) (l : List Int) (hM : (l.length : Int) ≤ 9223372036854775807) : Cal cx 50 [.s (.int .u32 x), .sh ln (l.map bC)] = some ([.s (.int .u32 (notI .u32 (crcL (notI .u32 x) l)))], []) := by
  obtain ⟨f, H, h1, h2⟩ := MoreLoopR ln l hM l.length 0 (notI .u32 x) (wrap32_R _) (by omega)
  simp only [Int.cast_ofNat_Int, List.drop_zero] at h1 h2
  rw [Cal_eq]
  simp -implicitDefEqProofs only [fns_50, c50, body, startSt, pkeys, slots, recvL, recv, noH, finish, resPV, outRs, outR, outC, outCs, outMs, go_sem, Nat.reduceShiftRight, Nat.reduceAnd, reduceIte, reduceCtorEq, Nat.reduceEqDiff, Nat.reduceAdd, Nat.reduceMul, Nat.reduceSub, Nat.reduceLT, Nat.reduceLeDiff, Nat.reduceBEq, Nat.reduceBNe, Int.reduceToNat, Int.reduceLT, Int.reduceLE, Int.reduceEq, Int.reduceNe, Int.reduceMul, Int.reduceAdd, Int.reduceSub, Int.reduceNeg, or_self, true_or, or_true, false_or, or_false, Int.natCast_nonneg, Int.toNat_natCast, List.length_map, implies_true, Int.cast_ofNat_Int, List.mem_cons, List.not_mem_nil, forall_eq_or_imp, forall_eq, false_implies, List.replicate_succ, List.replicate_zero, List.set_cons_zero, List.set_cons_succ, List.length_set, Nat.zero_add, Nat.not_succ_le_self, Nat.mul_one, exec_loop, Rst, keys1, keys2, keysB, proms, prom, keepV, freshV, freshC, freshB, liveVer, mpVer, pk, ded, insH, sortH, rnP, rnA, rnM, List.map_nil, St.of, List.map_cons, h1, h2]
theorem SumR (ln : Bool) (l : List Int) (hM : (l.length : Int) ≤ 9223372036854775807) : Cal cx 37 [.sh ln (l.map bC)] = some ([.s (.int .u32 (crc l))], []) := by
  have h1 := MoreR 0 ln l hM
  rw [Cal_eq]
  simp -implicitDefEqProofs only [fns_37, c37, body, startSt, pkeys, slots, recvL, recv, noH, finish, resPV, outRs, outR, outC, outCs, outMs, go_sem, Nat.reduceShiftRight, Nat.reduceAnd, reduceIte, reduceCtorEq, Nat.reduceEqDiff, Nat.reduceAdd, Nat.reduceMul, Nat.reduceSub, Nat.reduceLT, Nat.reduceLeDiff, Nat.reduceBEq, Nat.reduceBNe, Int.reduceToNat, Int.reduceLT, Int.reduceLE, Int.reduceEq, Int.reduceNe, Int.reduceMul, Int.reduceAdd, Int.reduceSub, Int.reduceNeg, or_self, true_or, or_true, false_or, or_false, Int.natCast_nonneg, Int.toNat_natCast, List.length_map, implies_true, Int.cast_ofNat_Int, List.mem_cons, List.not_mem_nil, forall_eq_or_imp, forall_eq, false_implies, List.replicate_succ, List.replicate_zero, List.set_cons_zero, List.set_cons_succ, List.length_set, Nat.zero_add, Nat.not_succ_le_self, Nat.mul_one, exec_loop, Rst, keys1, keys2, keysB, proms, prom, keepV, freshV, freshC, freshB, liveVer, mpVer, pk, ded, insH, sortH, rnP, rnA, rnM, List.map_nil, St.of, List.map_cons, h1, crc]
theorem shr_u32 (n k : Nat) (hk : k ≤ 32) : shrI .u32 (n : Int) (k : Int) = ((n / 2 ^ k : Nat) : Int) := by
  show (n : Int).fdiv (2 ^ (min k 32)) = _
  rw [Nat.min_eq_left hk, Int.fdiv_eq_ediv_of_nonneg _ (Int.le_of_lt (Int.pow_pos (by decide)))]
  simp
theorem four_byte (n : Nat) (h : n < 4294967296) : IntKind.u8.wrap (andI .u32 (n : Int) 255) = IntKind.u8.wrap (n : Int) := by
  rw [and255 h, u8_wrap, u8_wrap]
  congr 1
  omega
theorem four (x : Int) (hx : R32 x) : Cal cx 36 [.s (.int .u32 x)] = some ([oB (sum4 x)], []) := by
  obtain ⟨n, rfl⟩ := Int.eq_ofNat_of_zero_le hx.1
  have hn : n < 4294967296 := by have := hx.2; omega
  have e0 := shr_u32 n 0 (by decide)
  have e1 := shr_u32 n 8 (by decide)
  have e2 := shr_u32 n 16 (by decide)
  have e3 := shr_u32 n 24 (by decide)
  simp only [Int.cast_ofNat_Int, Nat.reducePow, Nat.div_one] at e0 e1 e2 e3
  have f0 := four_byte n hn
  have f1 := four_byte (n / 256) (by omega)
  have f2 := four_byte (n / 65536) (by omega)
  rw [Cal_eq]
  simp -implicitDefEqProofs only [fns_36, c36, body, startSt, pkeys, slots, recvL, recv, noH, finish, resPV, outRs, outR, outC, outCs, outMs, go_sem, Nat.reduceShiftRight, Nat.reduceAnd, reduceIte, reduceCtorEq, Nat.reduceEqDiff, Nat.reduceAdd, Nat.reduceMul, Nat.reduceSub, Nat.reduceLT, Nat.reduceLeDiff, Nat.reduceBEq, Nat.reduceBNe, Int.reduceToNat, Int.reduceLT, Int.reduceLE, Int.reduceEq, Int.reduceNe, Int.reduceMul, Int.reduceAdd, Int.reduceSub, Int.reduceNeg, or_self, true_or, or_true, false_or, or_false, Int.natCast_nonneg, Int.toNat_natCast, List.length_map, implies_true, Int.cast_ofNat_Int, List.mem_cons, List.not_mem_nil, forall_eq_or_imp, forall_eq, false_implies, List.replicate_succ, List.replicate_zero, List.set_cons_zero, List.set_cons_succ, List.length_set, Nat.zero_add, Nat.not_succ_le_self, Nat.mul_one, exec_loop, Rst, keys1, keys2, keysB, proms, prom, keepV, freshV, freshC, freshB, liveVer, mpVer, pk, ded, insH, sortH, rnP, rnA, rnM, List.map_nil, St.of, List.map_cons, e1, e2, e3, f0, f1, f2]
  simp only [sum4, e0, e1, e2, e3, List.map_cons, List.map_nil, bC]
  rfl
theorem Sealed (ln : Bool) (l : List Int) (hL : (sealB l).length ≤ 140737488355328) : Cal cx 26 [.sh ln (l.map bC)] = some ([oB (sealB l)], []) := by
  unfold sealB at hL ⊢
  have hl : l.length ≤ 140737488355328 := by simp at hL; omega
  have hl2 : l.length ≤ 9223372036854775807 := by omega
  have h1 := SumR ln l (by omega)
  have h2 := four (crc l) (wrap32_R _)
  have h3 : sum4 (crc l) ≠ [] := by unfold sum4; simp
  rw [Cal_eq]
  simp -implicitDefEqProofs only [fns_26, c26, body, startSt, pkeys, slots, recvL, recv, noH, finish, resPV, outRs, outR, outC, outCs, outMs, go_sem, Nat.reduceShiftRight, Nat.reduceAnd, reduceIte, reduceCtorEq, Nat.reduceEqDiff, Nat.reduceAdd, Nat.reduceMul, Nat.reduceSub, Nat.reduceLT, Nat.reduceLeDiff, Nat.reduceBEq, Nat.reduceBNe, Int.reduceToNat, Int.reduceLT, Int.reduceLE, Int.reduceEq, Int.reduceNe, Int.reduceMul, Int.reduceAdd, Int.reduceSub, Int.reduceNeg, or_self, true_or, or_true, false_or, or_false, Int.natCast_nonneg, Int.toNat_natCast, List.length_map, implies_true, Int.cast_ofNat_Int, List.mem_cons, List.not_mem_nil, forall_eq_or_imp, forall_eq, false_implies, List.replicate_succ, List.replicate_zero, List.set_cons_zero, List.set_cons_succ, List.length_set, Nat.zero_add, Nat.not_succ_le_self, Nat.mul_one, exec_loop, Rst, keys1, keys2, keysB, proms, prom, keepV, freshV, freshC, freshB, liveVer, mpVer, pk, ded, insH, sortH, rnP, rnA, rnM, List.map_nil, St.of, List.map_cons, h1, h2, hl, hl2, hL, appSl_map _ _ _ _ h3]
end Go.Proofs.Ytpfjchnpkolmkaa
