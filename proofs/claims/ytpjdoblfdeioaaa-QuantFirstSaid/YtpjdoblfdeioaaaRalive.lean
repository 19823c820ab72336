/- What stands ahead of every law of the quant seat: alive. Own work. -/
import Derived.Test.YtpjdoblfdeioaaaRleaf
set_option linter.unusedVariables false
set_option linter.unusedSimpArgs false
namespace Go.Proofs.Ytpjdoblfdeioaaa
open Go Go.Pi
set_option maxHeartbeats 4000000
set_option maxRecDepth 10000
theorem wS4 : IntKind.i64.wrap 4 = 4 := by decide
theorem wS5 : IntKind.i64.wrap 5 = 5 := by decide
theorem wS6 : IntKind.i64.wrap 6 = 6 := by decide
theorem wS7 : IntKind.i64.wrap 7 = 7 := by decide
theorem wS8 : IntKind.i64.wrap 8 = 8 := by decide
abbrev cnt (c e b0 b1 b2 b3 b4 b5 b6 b7 : Int) : List PV := [.s (.int .i64 c), .s (.int .i64 e), .s (.int .i64 b0), .s (.int .i64 b1), .s (.int .i64 b2), .s (.int .i64 b3), .s (.int .i64 b4), .s (.int .i64 b5), .s (.int .i64 b6), .s (.int .i64 b7)]
section
variable (c0 c1 c2 c3 c4 c5 c6 c7 : PV)
theorem ix0 : ixA Try.prog 24 [c0, c1, c2, c3, c4, c5, c6, c7] 0 = some c0 := by simp [ixA, arT24, szT3, agT3, okT3]
theorem ix1 : ixA Try.prog 24 [c0, c1, c2, c3, c4, c5, c6, c7] 1 = some c1 := by simp [ixA, arT24, szT3, agT3, okT3]
theorem ix2 : ixA Try.prog 24 [c0, c1, c2, c3, c4, c5, c6, c7] 2 = some c2 := by simp [ixA, arT24, szT3, agT3, okT3]
theorem ix3 : ixA Try.prog 24 [c0, c1, c2, c3, c4, c5, c6, c7] 3 = some c3 := by simp [ixA, arT24, szT3, agT3, okT3]
theorem ix4 : ixA Try.prog 24 [c0, c1, c2, c3, c4, c5, c6, c7] 4 = some c4 := by simp [ixA, arT24, szT3, agT3, okT3]
theorem ix5 : ixA Try.prog 24 [c0, c1, c2, c3, c4, c5, c6, c7] 5 = some c5 := by simp [ixA, arT24, szT3, agT3, okT3]
theorem ix6 : ixA Try.prog 24 [c0, c1, c2, c3, c4, c5, c6, c7] 6 = some c6 := by simp [ixA, arT24, szT3, agT3, okT3]
theorem ix7 : ixA Try.prog 24 [c0, c1, c2, c3, c4, c5, c6, c7] 7 = some c7 := by simp [ixA, arT24, szT3, agT3, okT3]
end
theorem Total (c e b0 b1 b2 b3 b4 b5 b6 b7 : Int) : Cal cx 11 [.ag (cnt c e b0 b1 b2 b3 b4 b5 b6 b7)] = some ([.s (.int .i64 (pl (pl (pl (pl (pl (pl (pl (pl 0 b0) b1) b2) b3) b4) b5) b6) b7))], []) := by
  have h2 := QPlus
  rw [Cal_eq]
  simp -implicitDefEqProofs only [fns_11, c11, go_sem, Nat.reduceShiftRight, Nat.reduceAnd, reduceIte, reduceCtorEq, Nat.reduceEqDiff, Nat.reduceAdd, Nat.reduceMul, Nat.reduceSub, Nat.reduceLT, Nat.reduceLeDiff, Nat.reduceBEq, Nat.reduceBNe, Int.reduceToNat, Int.reduceLT, Int.reduceLE, Int.reduceEq, Int.reduceNe, Int.reduceMul, Int.reduceAdd, Int.reduceSub, Int.reduceNeg]
  rw [Loop_eq]
  simp -implicitDefEqProofs only [fns_11, c11, go_sem, Nat.reduceShiftRight, Nat.reduceAnd, reduceIte, reduceCtorEq, Nat.reduceEqDiff, Nat.reduceAdd, Nat.reduceMul, Nat.reduceSub, Nat.reduceLT, Nat.reduceLeDiff, Nat.reduceBEq, Nat.reduceBNe, Int.reduceToNat, Int.reduceLT, Int.reduceLE, Int.reduceEq, Int.reduceNe, Int.reduceMul, Int.reduceAdd, Int.reduceSub, Int.reduceNeg, c11_0, h2, ix0, wS1]
  rw [Loop_eq]
  simp -implicitDefEqProofs only [fns_11, c11, go_sem, Nat.reduceShiftRight, Nat.reduceAnd, reduceIte, reduceCtorEq, Nat.reduceEqDiff, Nat.reduceAdd, Nat.reduceMul, Nat.reduceSub, Nat.reduceLT, Nat.reduceLeDiff, Nat.reduceBEq, Nat.reduceBNe, Int.reduceToNat, Int.reduceLT, Int.reduceLE, Int.reduceEq, Int.reduceNe, Int.reduceMul, Int.reduceAdd, Int.reduceSub, Int.reduceNeg, h2, ix1, wS2]
  rw [Loop_eq]
  simp -implicitDefEqProofs only [fns_11, c11, go_sem, Nat.reduceShiftRight, Nat.reduceAnd, reduceIte, reduceCtorEq, Nat.reduceEqDiff, Nat.reduceAdd, Nat.reduceMul, Nat.reduceSub, Nat.reduceLT, Nat.reduceLeDiff, Nat.reduceBEq, Nat.reduceBNe, Int.reduceToNat, Int.reduceLT, Int.reduceLE, Int.reduceEq, Int.reduceNe, Int.reduceMul, Int.reduceAdd, Int.reduceSub, Int.reduceNeg, h2, ix2, wS3]
  rw [Loop_eq]
  simp -implicitDefEqProofs only [fns_11, c11, go_sem, Nat.reduceShiftRight, Nat.reduceAnd, reduceIte, reduceCtorEq, Nat.reduceEqDiff, Nat.reduceAdd, Nat.reduceMul, Nat.reduceSub, Nat.reduceLT, Nat.reduceLeDiff, Nat.reduceBEq, Nat.reduceBNe, Int.reduceToNat, Int.reduceLT, Int.reduceLE, Int.reduceEq, Int.reduceNe, Int.reduceMul, Int.reduceAdd, Int.reduceSub, Int.reduceNeg, h2, ix3, wS4]
  rw [Loop_eq]
  simp -implicitDefEqProofs only [fns_11, c11, go_sem, Nat.reduceShiftRight, Nat.reduceAnd, reduceIte, reduceCtorEq, Nat.reduceEqDiff, Nat.reduceAdd, Nat.reduceMul, Nat.reduceSub, Nat.reduceLT, Nat.reduceLeDiff, Nat.reduceBEq, Nat.reduceBNe, Int.reduceToNat, Int.reduceLT, Int.reduceLE, Int.reduceEq, Int.reduceNe, Int.reduceMul, Int.reduceAdd, Int.reduceSub, Int.reduceNeg, h2, ix4, wS5]
  rw [Loop_eq]
  simp -implicitDefEqProofs only [fns_11, c11, go_sem, Nat.reduceShiftRight, Nat.reduceAnd, reduceIte, reduceCtorEq, Nat.reduceEqDiff, Nat.reduceAdd, Nat.reduceMul, Nat.reduceSub, Nat.reduceLT, Nat.reduceLeDiff, Nat.reduceBEq, Nat.reduceBNe, Int.reduceToNat, Int.reduceLT, Int.reduceLE, Int.reduceEq, Int.reduceNe, Int.reduceMul, Int.reduceAdd, Int.reduceSub, Int.reduceNeg, h2, ix5, wS6]
  rw [Loop_eq]
  simp -implicitDefEqProofs only [fns_11, c11, go_sem, Nat.reduceShiftRight, Nat.reduceAnd, reduceIte, reduceCtorEq, Nat.reduceEqDiff, Nat.reduceAdd, Nat.reduceMul, Nat.reduceSub, Nat.reduceLT, Nat.reduceLeDiff, Nat.reduceBEq, Nat.reduceBNe, Int.reduceToNat, Int.reduceLT, Int.reduceLE, Int.reduceEq, Int.reduceNe, Int.reduceMul, Int.reduceAdd, Int.reduceSub, Int.reduceNeg, h2, ix6, wS7]
  rw [Loop_eq]
  simp -implicitDefEqProofs only [fns_11, c11, go_sem, Nat.reduceShiftRight, Nat.reduceAnd, reduceIte, reduceCtorEq, Nat.reduceEqDiff, Nat.reduceAdd, Nat.reduceMul, Nat.reduceSub, Nat.reduceLT, Nat.reduceLeDiff, Nat.reduceBEq, Nat.reduceBNe, Int.reduceToNat, Int.reduceLT, Int.reduceLE, Int.reduceEq, Int.reduceNe, Int.reduceMul, Int.reduceAdd, Int.reduceSub, Int.reduceNeg, h2, ix7, wS8]
  rw [Loop_eq]
  simp -implicitDefEqProofs only [fns_11, c11, go_sem, Nat.reduceShiftRight, Nat.reduceAnd, reduceIte, reduceCtorEq, Nat.reduceEqDiff, Nat.reduceAdd, Nat.reduceMul, Nat.reduceSub, Nat.reduceLT, Nat.reduceLeDiff, Nat.reduceBEq, Nat.reduceBNe, Int.reduceToNat, Int.reduceLT, Int.reduceLE, Int.reduceEq, Int.reduceNe, Int.reduceMul, Int.reduceAdd, Int.reduceSub, Int.reduceNeg, h2]
theorem MulA : Cal cx 21 [.s (.int .u64 1), .s (.int .u64 1000)] = some ([.s (.int .u64 0), .s (.int .u64 1000)], []) := by
  rw [Cal_eq]
  simp -implicitDefEqProofs only [fns_21, c21, go_sem, Nat.reduceShiftRight, Nat.reduceAnd, reduceIte, reduceCtorEq, Nat.reduceEqDiff, Nat.reduceAdd, Nat.reduceMul, Nat.reduceSub, Nat.reduceLT, Nat.reduceLeDiff, Nat.reduceBEq, Nat.reduceBNe, Int.reduceToNat, Int.reduceLT, Int.reduceLE, Int.reduceEq, Int.reduceNe, Int.reduceMul, Int.reduceAdd, Int.reduceSub, Int.reduceNeg]
  kernel_rfl
theorem MulB : Cal cx 21 [.s (.int .u64 500), .s (.int .u64 2)] = some ([.s (.int .u64 0), .s (.int .u64 1000)], []) := by
  rw [Cal_eq]
  simp -implicitDefEqProofs only [fns_21, c21, go_sem, Nat.reduceShiftRight, Nat.reduceAnd, reduceIte, reduceCtorEq, Nat.reduceEqDiff, Nat.reduceAdd, Nat.reduceMul, Nat.reduceSub, Nat.reduceLT, Nat.reduceLeDiff, Nat.reduceBEq, Nat.reduceBNe, Int.reduceToNat, Int.reduceLT, Int.reduceLE, Int.reduceEq, Int.reduceNe, Int.reduceMul, Int.reduceAdd, Int.reduceSub, Int.reduceNeg]
  kernel_rfl
theorem wU1 : IntKind.u64.wrap 1 = 1 := by decide
theorem wU2 : IntKind.u64.wrap 2 = 2 := by decide
theorem wU500 : IntKind.u64.wrap 500 = 500 := by decide
theorem wU1000 : IntKind.u64.wrap 1000 = 1000 := by decide
theorem wU4 : IntKind.u64.wrap 4 = 4 := by decide
theorem Less : Cal cx 20 [.s (.int .i64 1), .s (.int .i64 1000), .s (.int .i64 500), .s (.int .i64 2)] = some ([.s (.bool false)], []) := by
  have h1 := MulA
  have h2 := MulB
  rw [Cal_eq]
  simp -implicitDefEqProofs only [fns_20, c20, go_sem, Nat.reduceShiftRight, Nat.reduceAnd, reduceIte, reduceCtorEq, Nat.reduceEqDiff, Nat.reduceAdd, Nat.reduceMul, Nat.reduceSub, Nat.reduceLT, Nat.reduceLeDiff, Nat.reduceBEq, Nat.reduceBNe, Int.reduceToNat, Int.reduceLT, Int.reduceLE, Int.reduceEq, Int.reduceNe, Int.reduceMul, Int.reduceAdd, Int.reduceSub, Int.reduceNeg, h1, h2, wU1, wU2, wU500, wU1000]
theorem Div : Cal cx 22 [.s (.int .u64 0), .s (.int .u64 1000), .s (.int .u64 4)] = some ([.s (.int .u64 250), .s (.int .u64 0)], []) := by
  rw [Cal_eq]
  simp -implicitDefEqProofs only [fns_22, c22, go_sem, Nat.reduceShiftRight, Nat.reduceAnd, reduceIte, reduceCtorEq, Nat.reduceEqDiff, Nat.reduceAdd, Nat.reduceMul, Nat.reduceSub, Nat.reduceLT, Nat.reduceLeDiff, Nat.reduceBEq, Nat.reduceBNe, Int.reduceToNat, Int.reduceLT, Int.reduceLE, Int.reduceEq, Int.reduceNe, Int.reduceMul, Int.reduceAdd, Int.reduceSub, Int.reduceNeg]
  kernel_rfl
theorem Rate : Cal cx 10 [.ag (cnt 4 1 0 0 0 0 0 0 0 0)] = some ([.s (.int .i64 250), .s (.bool true)], []) := by
  have h1 := MulA
  have h2 := Div
  have h3 : IntKind.i64.wrap 250 = 250 := by decide
  rw [Cal_eq]
  simp -implicitDefEqProofs only [fns_10, c10, go_sem, Nat.reduceShiftRight, Nat.reduceAnd, reduceIte, reduceCtorEq, Nat.reduceEqDiff, Nat.reduceAdd, Nat.reduceMul, Nat.reduceSub, Nat.reduceLT, Nat.reduceLeDiff, Nat.reduceBEq, Nat.reduceBNe, Int.reduceToNat, Int.reduceLT, Int.reduceLE, Int.reduceEq, Int.reduceNe, Int.reduceMul, Int.reduceAdd, Int.reduceSub, Int.reduceNeg, h1, h2, h3, wU1, wU4]
theorem p0 : pl 0 0 = 0 := by rw [pl_add] <;> omega
theorem p1 : pl 0 1 = 1 := by rw [pl_add] <;> omega
theorem p2 : pl 1 0 = 1 := by rw [pl_add] <;> omega
theorem p3 : pl 1 1 = 2 := by rw [pl_add] <;> omega
theorem p4 : pl 2 0 = 2 := by rw [pl_add] <;> omega
theorem p5 : pl 0 2 = 2 := by rw [pl_add] <;> omega
theorem Quant0 : Cal cx 9 [.ag (cnt 0 0 0 0 0 0 0 0 0 0), .s (.int .i64 500)] = some ([.s (.int .i64 0), .s (.bool false)], []) := by
  have h1 := Total 0 0 0 0 0 0 0 0 0 0
  simp only [p0] at h1
  rw [Cal_eq]
  simp -implicitDefEqProofs only [fns_9, c9, go_sem, Nat.reduceShiftRight, Nat.reduceAnd, reduceIte, reduceCtorEq, Nat.reduceEqDiff, Nat.reduceAdd, Nat.reduceMul, Nat.reduceSub, Nat.reduceLT, Nat.reduceLeDiff, Nat.reduceBEq, Nat.reduceBNe, Int.reduceToNat, Int.reduceLT, Int.reduceLE, Int.reduceEq, Int.reduceNe, Int.reduceMul, Int.reduceAdd, Int.reduceSub, Int.reduceNeg, h1]
theorem Quant1 : Cal cx 9 [.ag (cnt 0 0 0 1 0 0 1 0 0 0), .s (.int .i64 500)] = some ([.s (.int .i64 1), .s (.bool true)], []) := by
  have h1 := Total 0 0 0 1 0 0 1 0 0 0
  simp only [p0, p1, p2, p3, p4] at h1
  have h2 := QPlus
  have h3 := Less
  rw [Cal_eq]
  simp -implicitDefEqProofs only [fns_9, c9, go_sem, Nat.reduceShiftRight, Nat.reduceAnd, reduceIte, reduceCtorEq, Nat.reduceEqDiff, Nat.reduceAdd, Nat.reduceMul, Nat.reduceSub, Nat.reduceLT, Nat.reduceLeDiff, Nat.reduceBEq, Nat.reduceBNe, Int.reduceToNat, Int.reduceLT, Int.reduceLE, Int.reduceEq, Int.reduceNe, Int.reduceMul, Int.reduceAdd, Int.reduceSub, Int.reduceNeg, h1]
  rw [Loop_eq]
  simp -implicitDefEqProofs only [fns_9, c9, go_sem, Nat.reduceShiftRight, Nat.reduceAnd, reduceIte, reduceCtorEq, Nat.reduceEqDiff, Nat.reduceAdd, Nat.reduceMul, Nat.reduceSub, Nat.reduceLT, Nat.reduceLeDiff, Nat.reduceBEq, Nat.reduceBNe, Int.reduceToNat, Int.reduceLT, Int.reduceLE, Int.reduceEq, Int.reduceNe, Int.reduceMul, Int.reduceAdd, Int.reduceSub, Int.reduceNeg, c9_0, h2, h3, p0, p1, wS1]
  rw [Loop_eq]
  simp -implicitDefEqProofs only [fns_9, c9, go_sem, Nat.reduceShiftRight, Nat.reduceAnd, reduceIte, reduceCtorEq, Nat.reduceEqDiff, Nat.reduceAdd, Nat.reduceMul, Nat.reduceSub, Nat.reduceLT, Nat.reduceLeDiff, Nat.reduceBEq, Nat.reduceBNe, Int.reduceToNat, Int.reduceLT, Int.reduceLE, Int.reduceEq, Int.reduceNe, Int.reduceMul, Int.reduceAdd, Int.reduceSub, Int.reduceNeg, h2, h3, p0, p1, wS1]
theorem alive : Cal cx 5 [] = some ([.s (.bool true)], []) := by
  have h1 := Quant0
  have h2 := Quant1
  have h3 := Rate
  have h4 := Total 0 0 0 2 0 0 0 0 0 0
  simp only [p0, p5, p4] at h4
  rw [Cal_eq]
  simp -implicitDefEqProofs only [fns_5, c5, go_sem, Nat.reduceShiftRight, Nat.reduceAnd, reduceIte, reduceCtorEq, Nat.reduceEqDiff, Nat.reduceAdd, Nat.reduceMul, Nat.reduceSub, Nat.reduceLT, Nat.reduceLeDiff, Nat.reduceBEq, Nat.reduceBNe, Int.reduceToNat, Int.reduceLT, Int.reduceLE, Int.reduceEq, Int.reduceNe, Int.reduceMul, Int.reduceAdd, Int.reduceSub, Int.reduceNeg, h1, h2, h3, h4]
end Go.Proofs.Ytpjdoblfdeioaaa
