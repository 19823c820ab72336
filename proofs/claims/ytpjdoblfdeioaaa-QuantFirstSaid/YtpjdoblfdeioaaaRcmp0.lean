/- The comparison of the busiest, and the sort's fact. Own work. -/
import Derived.Test.YtpjdoblfdeioaaaQcode
import Derived.Test.YtpjdoblfdeioaaaReq
import Derived.Shelf.SlGeneric
import Derived.Ground.SlsfProg
set_option linter.unusedVariables false
set_option linter.unusedSimpArgs false
namespace Go.Proofs.Ytpjdoblfdeioaaa
open Go Go.Pi
set_option maxHeartbeats 2000000
set_option maxRecDepth 10000
/-- The program's code, without the sort. -/
noncomputable abbrev cxN : Cx := { cx with srt := fun _ => none }
theorem wS1 : IntKind.i64.wrap 1 = 1 := by decide
theorem wS2 : IntKind.i64.wrap 2 = 2 := by decide
theorem wS3 : IntKind.i64.wrap 3 = 3 := by decide
theorem isNaNI (x : Int) : Cal cxN 40 [.s (.int .i64 x)] = some ([.s (.bool false)], []) := by
  rw [Cal_eq]
  simp -implicitDefEqProofs only [fns_40, c40, go_sem, Nat.reduceShiftRight, Nat.reduceAnd, reduceIte, reduceCtorEq, Nat.reduceEqDiff, Nat.reduceAdd, Nat.reduceMul, Nat.reduceSub, Nat.reduceLT, Nat.reduceLeDiff, Nat.reduceBEq, Nat.reduceBNe, Int.reduceToNat, Int.reduceLT, Int.reduceLE, Int.reduceEq, Int.reduceNe, Int.reduceMul, Int.reduceAdd, Int.reduceSub, Int.reduceNeg]
theorem isNaNS (x : ByteArray) : Cal cxN 41 [.s (.string x)] = some ([.s (.bool false)], []) := by
  rw [Cal_eq]
  simp -implicitDefEqProofs only [fns_41, c41, go_sem, Nat.reduceShiftRight, Nat.reduceAnd, reduceIte, reduceCtorEq, Nat.reduceEqDiff, Nat.reduceAdd, Nat.reduceMul, Nat.reduceSub, Nat.reduceLT, Nat.reduceLeDiff, Nat.reduceBEq, Nat.reduceBNe, Int.reduceToNat, Int.reduceLT, Int.reduceLE, Int.reduceEq, Int.reduceNe, Int.reduceMul, Int.reduceAdd, Int.reduceSub, Int.reduceNeg]
theorem CompareI (x y : Int) : Cal cxN 27 [.s (.int .i64 x), .s (.int .i64 y)] = some ([.s (.int .i64 (cmpI x y))], []) := by
  have h1 := isNaNI
  rw [Cal_eq]
  unfold cmpI
  by_cases h2 : x < y
  · simp -implicitDefEqProofs only [fns_27, c27, go_sem, Nat.reduceShiftRight, Nat.reduceAnd, reduceIte, reduceCtorEq, Nat.reduceEqDiff, Nat.reduceAdd, Nat.reduceMul, Nat.reduceSub, Nat.reduceLT, Nat.reduceLeDiff, Nat.reduceBEq, Nat.reduceBNe, Int.reduceToNat, Int.reduceLT, Int.reduceLE, Int.reduceEq, Int.reduceNe, Int.reduceMul, Int.reduceAdd, Int.reduceSub, Int.reduceNeg, h1, h2]
  · by_cases h3 : y < x
    · simp -implicitDefEqProofs only [fns_27, c27, go_sem, Nat.reduceShiftRight, Nat.reduceAnd, reduceIte, reduceCtorEq, Nat.reduceEqDiff, Nat.reduceAdd, Nat.reduceMul, Nat.reduceSub, Nat.reduceLT, Nat.reduceLeDiff, Nat.reduceBEq, Nat.reduceBNe, Int.reduceToNat, Int.reduceLT, Int.reduceLE, Int.reduceEq, Int.reduceNe, Int.reduceMul, Int.reduceAdd, Int.reduceSub, Int.reduceNeg, h1, h2, h3]
    · simp -implicitDefEqProofs only [fns_27, c27, go_sem, Nat.reduceShiftRight, Nat.reduceAnd, reduceIte, reduceCtorEq, Nat.reduceEqDiff, Nat.reduceAdd, Nat.reduceMul, Nat.reduceSub, Nat.reduceLT, Nat.reduceLeDiff, Nat.reduceBEq, Nat.reduceBNe, Int.reduceToNat, Int.reduceLT, Int.reduceLE, Int.reduceEq, Int.reduceNe, Int.reduceMul, Int.reduceAdd, Int.reduceSub, Int.reduceNeg, h1, h2, h3]
theorem CompareS (x y : ByteArray) : Cal cxN 28 [.s (.string x), .s (.string y)] = some ([.s (.int .i64 (cmpS x y))], []) := by
  have h1 := isNaNS
  rw [Cal_eq]
  unfold cmpS ltB
  cases h2 : Op.bytesLess x.toList y.toList
  · by_cases h3 : x = y
    · subst h3
      simp -implicitDefEqProofs only [fns_28, c28, go_sem, Nat.reduceShiftRight, Nat.reduceAnd, reduceIte, reduceCtorEq, Nat.reduceEqDiff, Nat.reduceAdd, Nat.reduceMul, Nat.reduceSub, Nat.reduceLT, Nat.reduceLeDiff, Nat.reduceBEq, Nat.reduceBNe, Int.reduceToNat, Int.reduceLT, Int.reduceLE, Int.reduceEq, Int.reduceNe, Int.reduceMul, Int.reduceAdd, Int.reduceSub, Int.reduceNeg, h1, h2]
    · simp -implicitDefEqProofs only [fns_28, c28, go_sem, Nat.reduceShiftRight, Nat.reduceAnd, reduceIte, reduceCtorEq, Nat.reduceEqDiff, Nat.reduceAdd, Nat.reduceMul, Nat.reduceSub, Nat.reduceLT, Nat.reduceLeDiff, Nat.reduceBEq, Nat.reduceBNe, Int.reduceToNat, Int.reduceLT, Int.reduceLE, Int.reduceEq, Int.reduceNe, Int.reduceMul, Int.reduceAdd, Int.reduceSub, Int.reduceNeg, h1, h2, h3]
  · simp -implicitDefEqProofs only [fns_28, c28, go_sem, Nat.reduceShiftRight, Nat.reduceAnd, reduceIte, reduceCtorEq, Nat.reduceEqDiff, Nat.reduceAdd, Nat.reduceMul, Nat.reduceSub, Nat.reduceLT, Nat.reduceLeDiff, Nat.reduceBEq, Nat.reduceBNe, Int.reduceToNat, Int.reduceLT, Int.reduceLE, Int.reduceEq, Int.reduceNe, Int.reduceMul, Int.reduceAdd, Int.reduceSub, Int.reduceNeg, h1, h2]
theorem Or0 (ln : Bool) (x y z : Int) : Cal cxN 26 [.sh ln [iC x, iC y, iC z]] = some ([.s (.int .i64 (or3 x y z))], []) := by
  rw [Cal_eq]
  unfold or3
  by_cases h2 : x = 0
  · simp -implicitDefEqProofs only [fns_26, c26, go_sem, Nat.reduceShiftRight, Nat.reduceAnd, reduceIte, reduceCtorEq, Nat.reduceEqDiff, Nat.reduceAdd, Nat.reduceMul, Nat.reduceSub, Nat.reduceLT, Nat.reduceLeDiff, Nat.reduceBEq, Nat.reduceBNe, Int.reduceToNat, Int.reduceLT, Int.reduceLE, Int.reduceEq, Int.reduceNe, Int.reduceMul, Int.reduceAdd, Int.reduceSub, Int.reduceNeg]
    rw [Loop_eq]
    simp -implicitDefEqProofs only [fns_26, c26, go_sem, Nat.reduceShiftRight, Nat.reduceAnd, reduceIte, reduceCtorEq, Nat.reduceEqDiff, Nat.reduceAdd, Nat.reduceMul, Nat.reduceSub, Nat.reduceLT, Nat.reduceLeDiff, Nat.reduceBEq, Nat.reduceBNe, Int.reduceToNat, Int.reduceLT, Int.reduceLE, Int.reduceEq, Int.reduceNe, Int.reduceMul, Int.reduceAdd, Int.reduceSub, Int.reduceNeg, c26_0, h2, iC, wS1]
    rw [Loop_eq]
    by_cases h3 : y = 0
    · simp -implicitDefEqProofs only [fns_26, c26, go_sem, Nat.reduceShiftRight, Nat.reduceAnd, reduceIte, reduceCtorEq, Nat.reduceEqDiff, Nat.reduceAdd, Nat.reduceMul, Nat.reduceSub, Nat.reduceLT, Nat.reduceLeDiff, Nat.reduceBEq, Nat.reduceBNe, Int.reduceToNat, Int.reduceLT, Int.reduceLE, Int.reduceEq, Int.reduceNe, Int.reduceMul, Int.reduceAdd, Int.reduceSub, Int.reduceNeg, h2, h3, iC, wS1, wS2]
      rw [Loop_eq]
      by_cases h4 : z = 0
      · simp -implicitDefEqProofs only [fns_26, c26, go_sem, Nat.reduceShiftRight, Nat.reduceAnd, reduceIte, reduceCtorEq, Nat.reduceEqDiff, Nat.reduceAdd, Nat.reduceMul, Nat.reduceSub, Nat.reduceLT, Nat.reduceLeDiff, Nat.reduceBEq, Nat.reduceBNe, Int.reduceToNat, Int.reduceLT, Int.reduceLE, Int.reduceEq, Int.reduceNe, Int.reduceMul, Int.reduceAdd, Int.reduceSub, Int.reduceNeg, h2, h3, h4, iC, wS1, wS2, wS3]
        rw [Loop_eq]
        simp -implicitDefEqProofs only [fns_26, c26, go_sem, Nat.reduceShiftRight, Nat.reduceAnd, reduceIte, reduceCtorEq, Nat.reduceEqDiff, Nat.reduceAdd, Nat.reduceMul, Nat.reduceSub, Nat.reduceLT, Nat.reduceLeDiff, Nat.reduceBEq, Nat.reduceBNe, Int.reduceToNat, Int.reduceLT, Int.reduceLE, Int.reduceEq, Int.reduceNe, Int.reduceMul, Int.reduceAdd, Int.reduceSub, Int.reduceNeg, h2, h3, h4, iC, wS1, wS2, wS3]
      · simp -implicitDefEqProofs only [fns_26, c26, go_sem, Nat.reduceShiftRight, Nat.reduceAnd, reduceIte, reduceCtorEq, Nat.reduceEqDiff, Nat.reduceAdd, Nat.reduceMul, Nat.reduceSub, Nat.reduceLT, Nat.reduceLeDiff, Nat.reduceBEq, Nat.reduceBNe, Int.reduceToNat, Int.reduceLT, Int.reduceLE, Int.reduceEq, Int.reduceNe, Int.reduceMul, Int.reduceAdd, Int.reduceSub, Int.reduceNeg, h2, h3, h4, iC, wS1, wS2, wS3]
    · simp -implicitDefEqProofs only [fns_26, c26, go_sem, Nat.reduceShiftRight, Nat.reduceAnd, reduceIte, reduceCtorEq, Nat.reduceEqDiff, Nat.reduceAdd, Nat.reduceMul, Nat.reduceSub, Nat.reduceLT, Nat.reduceLeDiff, Nat.reduceBEq, Nat.reduceBNe, Int.reduceToNat, Int.reduceLT, Int.reduceLE, Int.reduceEq, Int.reduceNe, Int.reduceMul, Int.reduceAdd, Int.reduceSub, Int.reduceNeg, h2, h3, iC, wS1, wS2]
  · simp -implicitDefEqProofs only [fns_26, c26, go_sem, Nat.reduceShiftRight, Nat.reduceAnd, reduceIte, reduceCtorEq, Nat.reduceEqDiff, Nat.reduceAdd, Nat.reduceMul, Nat.reduceSub, Nat.reduceLT, Nat.reduceLeDiff, Nat.reduceBEq, Nat.reduceBNe, Int.reduceToNat, Int.reduceLT, Int.reduceLE, Int.reduceEq, Int.reduceNe, Int.reduceMul, Int.reduceAdd, Int.reduceSub, Int.reduceNeg]
    rw [Loop_eq]
    simp -implicitDefEqProofs only [fns_26, c26, go_sem, Nat.reduceShiftRight, Nat.reduceAnd, reduceIte, reduceCtorEq, Nat.reduceEqDiff, Nat.reduceAdd, Nat.reduceMul, Nat.reduceSub, Nat.reduceLT, Nat.reduceLeDiff, Nat.reduceBEq, Nat.reduceBNe, Int.reduceToNat, Int.reduceLT, Int.reduceLE, Int.reduceEq, Int.reduceNe, Int.reduceMul, Int.reduceAdd, Int.reduceSub, Int.reduceNeg, c26_0, h2, iC]
theorem compare0 (a b : Bz) : Cal cxN 16 [.ag (bzC a), .ag (bzC b)] = some ([.s (.int .i64 (cmpBz a b))], []) := by
  have h1 := CompareI
  have h3 := CompareS
  have h2 := Or0
  simp only [iC] at h2
  rw [Cal_eq]
  unfold cmpBz
  simp -implicitDefEqProofs only [fns_16, c16, go_sem, Nat.reduceShiftRight, Nat.reduceAnd, reduceIte, reduceCtorEq, Nat.reduceEqDiff, Nat.reduceAdd, Nat.reduceMul, Nat.reduceSub, Nat.reduceLT, Nat.reduceLeDiff, Nat.reduceBEq, Nat.reduceBNe, Int.reduceToNat, Int.reduceLT, Int.reduceLE, Int.reduceEq, Int.reduceNe, Int.reduceMul, Int.reduceAdd, Int.reduceSub, Int.reduceNeg, bzC, h1, h2, h3]
theorem factsN : Facts cxN := ⟨eqFact, fun g F h => by cases h⟩
theorem callN_ok : CallOk cxN (Cal cxN) := callOk factsN (fun g t r o h => by cases h) follows (fun f cf h => ⟨(fok f cf h).ex⟩)
theorem bzV_one (x : Bz) (v : Value) (hv : v ∈ bzV x) : v.oneCell' = true := by simp [bzV] at hv; rcases hv with rfl | rfl | rfl | rfl <;> rfl
theorem compareCalls (W : World) (x y : Bz) : Calls Try.prog 16 #[.agg (bzV x).toArray, .agg (bzV y).toArray] W fun e W' => e = .returned (.int .i64 (cmpBz x y)) ∧ Keep W W' (fun _ => False) :=
  cmp_calls callN_ok bzV_one (compare0 x y) W
shelf_lay_g SlLaysF0.n6 Slsf 6 at Try 15 as sortBz
theorem srtOkBz : SortOk Try.prog 15 srtBz :=
  sortOk_pdq sortBz 4 Try.isAgg34 Try.sizeOf34 bzV (fun _ => rfl) bzV_one cmpBz swoBz 16
    (enters_of Try.func16 (by kernel_rfl) rfl) 34 (by kernel_rfl) compareCalls ⟨_, Try.func15, by kernel_rfl, by kernel_rfl⟩
theorem facts : Facts cx := ⟨eqFact, fun g F h => by
  have h : srtT g = some F := h
  unfold srtT at h
  split at h
  · cases h; exact srtOkBz
  · cases h⟩
end Go.Proofs.Ytpjdoblfdeioaaa
