/- Small functions of the quant seat. Own work. -/
import Derived.Test.YtpjdoblfdeioaaaRcmp0
set_option linter.unusedVariables false
set_option linter.unusedSimpArgs false
namespace Go.Pi
/-- A number within nought and the highest. -/
def cl (a : Int) : Int := if a < 0 then 0 else if a > 9223372036854775807 then 9223372036854775807 else a
/-- Two numbers together, none above the highest. -/
def pl (a b : Int) : Int := if cl a + cl b > 9223372036854775807 then 9223372036854775807 else cl a + cl b
theorem cl_rg (a : Int) : 0 ≤ cl a ∧ cl a ≤ 9223372036854775807 := by unfold cl; (repeat' split) <;> omega
theorem pl_rg (a b : Int) : 0 ≤ pl a b ∧ pl a b ≤ 9223372036854775807 := by
  have h1 := cl_rg a
  have h2 := cl_rg b
  unfold pl; split <;> omega
theorem cl_id {a : Int} (h0 : 0 ≤ a) (h1 : a ≤ 9223372036854775807) : cl a = a := by unfold cl; (repeat' split) <;> omega
theorem pl_add {a b : Int} (h0 : 0 ≤ a) (h1 : 0 ≤ b) (h2 : a + b ≤ 9223372036854775807) : pl a b = a + b := by
  unfold pl; rw [cl_id h0 (by omega), cl_id h1 (by omega), if_neg (by omega)]
def sameK (b : Bz) (r : Rw) : Bool := decide (b.svc = r.svc) && decide (b.op = r.op)
end Go.Pi
namespace Go.Proofs.Ytpjdoblfdeioaaa
open Go Go.Pi
set_option maxHeartbeats 2000000
set_option maxRecDepth 10000
theorem Cap (n lo hi : Int) : Cal cx 19 [.s (.int .i64 n), .s (.int .i64 lo), .s (.int .i64 hi)] = some ([.s (.int .i64 (if n < lo then lo else if n > hi then hi else n))], []) := by
  rw [Cal_eq]
  by_cases h1 : n < lo
  · simp -implicitDefEqProofs only [fns_19, c19, go_sem, Nat.reduceShiftRight, Nat.reduceAnd, reduceIte, reduceCtorEq, Nat.reduceEqDiff, Nat.reduceAdd, Nat.reduceMul, Nat.reduceSub, Nat.reduceLT, Nat.reduceLeDiff, Nat.reduceBEq, Nat.reduceBNe, Int.reduceToNat, Int.reduceLT, Int.reduceLE, Int.reduceEq, Int.reduceNe, Int.reduceMul, Int.reduceAdd, Int.reduceSub, Int.reduceNeg, h1]
  · by_cases h2 : n > hi
    · simp -implicitDefEqProofs only [fns_19, c19, go_sem, Nat.reduceShiftRight, Nat.reduceAnd, reduceIte, reduceCtorEq, Nat.reduceEqDiff, Nat.reduceAdd, Nat.reduceMul, Nat.reduceSub, Nat.reduceLT, Nat.reduceLeDiff, Nat.reduceBEq, Nat.reduceBNe, Int.reduceToNat, Int.reduceLT, Int.reduceLE, Int.reduceEq, Int.reduceNe, Int.reduceMul, Int.reduceAdd, Int.reduceSub, Int.reduceNeg, h1, h2]
    · simp -implicitDefEqProofs only [fns_19, c19, go_sem, Nat.reduceShiftRight, Nat.reduceAnd, reduceIte, reduceCtorEq, Nat.reduceEqDiff, Nat.reduceAdd, Nat.reduceMul, Nat.reduceSub, Nat.reduceLT, Nat.reduceLeDiff, Nat.reduceBEq, Nat.reduceBNe, Int.reduceToNat, Int.reduceLT, Int.reduceLE, Int.reduceEq, Int.reduceNe, Int.reduceMul, Int.reduceAdd, Int.reduceSub, Int.reduceNeg, h1, h2]
theorem RPlus (a b : Int) : Cal cx 17 [.s (.int .i64 a), .s (.int .i64 b)] = some ([.s (.int .i64 (pl a b))], []) := by
  have h1 : ∀ n, Cal cx 19 [.s (.int .i64 n), .s (.int .i64 0), .s (.int .i64 9223372036854775807)] = some ([.s (.int .i64 (cl n))], []) := fun n => Cap n 0 _
  have ha := cl_rg a
  have hb := cl_rg b
  have h2 : IntKind.i64.wrap (9223372036854775807 - cl a) = 9223372036854775807 - cl a := by rw [wrap64_id] <;> omega
  rw [Cal_eq]
  unfold pl
  by_cases h3 : cl a + cl b > 9223372036854775807
  · have h4 : cl b > 9223372036854775807 - cl a := by omega
    simp -implicitDefEqProofs only [fns_17, c17, go_sem, Nat.reduceShiftRight, Nat.reduceAnd, reduceIte, reduceCtorEq, Nat.reduceEqDiff, Nat.reduceAdd, Nat.reduceMul, Nat.reduceSub, Nat.reduceLT, Nat.reduceLeDiff, Nat.reduceBEq, Nat.reduceBNe, Int.reduceToNat, Int.reduceLT, Int.reduceLE, Int.reduceEq, Int.reduceNe, Int.reduceMul, Int.reduceAdd, Int.reduceSub, Int.reduceNeg, h1, h2, h3, h4]
  · have h4 : ¬ cl b > 9223372036854775807 - cl a := by omega
    have h5 : IntKind.i64.wrap (cl a + cl b) = cl a + cl b := by rw [wrap64_id] <;> omega
    simp -implicitDefEqProofs only [fns_17, c17, go_sem, Nat.reduceShiftRight, Nat.reduceAnd, reduceIte, reduceCtorEq, Nat.reduceEqDiff, Nat.reduceAdd, Nat.reduceMul, Nat.reduceSub, Nat.reduceLT, Nat.reduceLeDiff, Nat.reduceBEq, Nat.reduceBNe, Int.reduceToNat, Int.reduceLT, Int.reduceLE, Int.reduceEq, Int.reduceNe, Int.reduceMul, Int.reduceAdd, Int.reduceSub, Int.reduceNeg, h1, h2, h3, h4, h5]
theorem BPlus (a b : Int) : Cal cx 23 [.s (.int .i64 a), .s (.int .i64 b), .s (.int .i64 9223372036854775807)] = some ([.s (.int .i64 (pl a b))], []) := by
  rw [Cal_eq]
  simp -implicitDefEqProofs only [fns_23, c23, go_sem, Nat.reduceShiftRight, Nat.reduceAnd, reduceIte, reduceCtorEq, Nat.reduceEqDiff, Nat.reduceAdd, Nat.reduceMul, Nat.reduceSub, Nat.reduceLT, Nat.reduceLeDiff, Nat.reduceBEq, Nat.reduceBNe, Int.reduceToNat, Int.reduceLT, Int.reduceLE, Int.reduceEq, Int.reduceNe, Int.reduceMul, Int.reduceAdd, Int.reduceSub, Int.reduceNeg]
  have e : ∀ x : Int, (if 0 < if 9223372036854775807 < x then 9223372036854775807 else x then if 9223372036854775807 < x then 9223372036854775807 else x else 0) = cl x := by
    intro x; unfold cl; (repeat' split) <;> omega
  have ha := cl_rg a
  have hb := cl_rg b
  have h2 : IntKind.i64.wrap (9223372036854775807 - cl a) = 9223372036854775807 - cl a := by rw [wrap64_id] <;> omega
  rw [e, e, h2]
  have h3 : cl a + (if 9223372036854775807 - cl a < cl b then 9223372036854775807 - cl a else cl b) = pl a b := by unfold pl; (repeat' split) <;> omega
  rw [h3, wrap64_id (by have := pl_rg a b; omega) (by have := pl_rg a b; omega)]
theorem Bsame (b : Bz) (r : Rw) : Cal cx 13 [.ag (bzC b), .sa true (rwC r)] = some ([.s (.bool (sameK b r))], []) := by
  rw [Cal_eq]
  unfold sameK
  by_cases h1 : b.svc = r.svc
  · by_cases h2 : b.op = r.op
    · simp -implicitDefEqProofs only [fns_13, c13, go_sem, Nat.reduceShiftRight, Nat.reduceAnd, reduceIte, reduceCtorEq, Nat.reduceEqDiff, Nat.reduceAdd, Nat.reduceMul, Nat.reduceSub, Nat.reduceLT, Nat.reduceLeDiff, Nat.reduceBEq, Nat.reduceBNe, Int.reduceToNat, Int.reduceLT, Int.reduceLE, Int.reduceEq, Int.reduceNe, Int.reduceMul, Int.reduceAdd, Int.reduceSub, Int.reduceNeg, bzC, rwC, h1, h2]
    · simp -implicitDefEqProofs only [fns_13, c13, go_sem, Nat.reduceShiftRight, Nat.reduceAnd, reduceIte, reduceCtorEq, Nat.reduceEqDiff, Nat.reduceAdd, Nat.reduceMul, Nat.reduceSub, Nat.reduceLT, Nat.reduceLeDiff, Nat.reduceBEq, Nat.reduceBNe, Int.reduceToNat, Int.reduceLT, Int.reduceLE, Int.reduceEq, Int.reduceNe, Int.reduceMul, Int.reduceAdd, Int.reduceSub, Int.reduceNeg, bzC, rwC, h1, h2]
  · simp -implicitDefEqProofs only [fns_13, c13, go_sem, Nat.reduceShiftRight, Nat.reduceAnd, reduceIte, reduceCtorEq, Nat.reduceEqDiff, Nat.reduceAdd, Nat.reduceMul, Nat.reduceSub, Nat.reduceLT, Nat.reduceLeDiff, Nat.reduceBEq, Nat.reduceBNe, Int.reduceToNat, Int.reduceLT, Int.reduceLE, Int.reduceEq, Int.reduceNe, Int.reduceMul, Int.reduceAdd, Int.reduceSub, Int.reduceNeg, bzC, rwC, h1]
theorem Busier (a b : Bz) : Cal cx 18 [.ag (bzC a), .ag (bzC b)] = some ([.s (.bool (ltBz a b))], []) := by
  have key : ltBz a b = if a.count ≠ b.count then decide (a.count > b.count) else if a.svc ≠ b.svc then ltB a.svc b.svc else ltB a.op b.op := by
    rw [Bool.eq_iff_iff, ltBz_iff]
    by_cases h1 : a.count = b.count
    · by_cases h2 : a.svc = b.svc
      · simp [h1, h2, ltB_irr]
      · simp [h1, h2]
    · simp [h1]
  rw [Cal_eq]
  by_cases h1 : a.count = b.count
  · by_cases h2 : a.svc = b.svc
    · have k : ltBz a b = Op.bytesLess a.op.toList b.op.toList := by rw [key]; simp [h1, h2, ltB]
      rw [k]
      simp -implicitDefEqProofs only [fns_18, c18, go_sem, Nat.reduceShiftRight, Nat.reduceAnd, reduceIte, reduceCtorEq, Nat.reduceEqDiff, Nat.reduceAdd, Nat.reduceMul, Nat.reduceSub, Nat.reduceLT, Nat.reduceLeDiff, Nat.reduceBEq, Nat.reduceBNe, Int.reduceToNat, Int.reduceLT, Int.reduceLE, Int.reduceEq, Int.reduceNe, Int.reduceMul, Int.reduceAdd, Int.reduceSub, Int.reduceNeg, bzC, h1, h2]
    · have k : ltBz a b = Op.bytesLess a.svc.toList b.svc.toList := by rw [key]; simp [h1, h2, ltB]
      rw [k]
      simp -implicitDefEqProofs only [fns_18, c18, go_sem, Nat.reduceShiftRight, Nat.reduceAnd, reduceIte, reduceCtorEq, Nat.reduceEqDiff, Nat.reduceAdd, Nat.reduceMul, Nat.reduceSub, Nat.reduceLT, Nat.reduceLeDiff, Nat.reduceBEq, Nat.reduceBNe, Int.reduceToNat, Int.reduceLT, Int.reduceLE, Int.reduceEq, Int.reduceNe, Int.reduceMul, Int.reduceAdd, Int.reduceSub, Int.reduceNeg, bzC, h1, h2]
  · have k : ltBz a b = decide (b.count < a.count) := by rw [key]; simp [h1]
    rw [k]
    simp -implicitDefEqProofs only [fns_18, c18, go_sem, Nat.reduceShiftRight, Nat.reduceAnd, reduceIte, reduceCtorEq, Nat.reduceEqDiff, Nat.reduceAdd, Nat.reduceMul, Nat.reduceSub, Nat.reduceLT, Nat.reduceLeDiff, Nat.reduceBEq, Nat.reduceBNe, Int.reduceToNat, Int.reduceLT, Int.reduceLE, Int.reduceEq, Int.reduceNe, Int.reduceMul, Int.reduceAdd, Int.reduceSub, Int.reduceNeg, bzC, h1]
theorem QPlus (a b : Int) : Cal cx 14 [.s (.int .i64 a), .s (.int .i64 b)] = some ([.s (.int .i64 (pl a b))], []) := by
  have h1 := BPlus
  rw [Cal_eq]
  simp -implicitDefEqProofs only [fns_14, c14, go_sem, Nat.reduceShiftRight, Nat.reduceAnd, reduceIte, reduceCtorEq, Nat.reduceEqDiff, Nat.reduceAdd, Nat.reduceMul, Nat.reduceSub, Nat.reduceLT, Nat.reduceLeDiff, Nat.reduceBEq, Nat.reduceBNe, Int.reduceToNat, Int.reduceLT, Int.reduceLE, Int.reduceEq, Int.reduceNe, Int.reduceMul, Int.reduceAdd, Int.reduceSub, Int.reduceNeg, h1]
end Go.Proofs.Ytpjdoblfdeioaaa
