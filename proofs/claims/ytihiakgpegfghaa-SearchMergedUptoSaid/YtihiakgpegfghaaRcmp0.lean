/- The comparison of traces, and the sort's fact. Own work. -/
import Derived.Test.YtihiakgpegfghaaQcode
import Derived.Test.YtihiakgpegfghaaReq
import Derived.Shelf.SlGeneric
import Derived.Ground.SlsfProg
set_option linter.unusedVariables false
set_option linter.unusedSimpArgs false
namespace Go.Proofs.Ytihiakgpegfghaa
open Go Go.Pi
set_option maxHeartbeats 2000000
set_option maxRecDepth 10000
/-- The program's code, without the sort. -/
noncomputable abbrev cxN : Cx := { cx with srt := fun _ => none }
theorem wS1 : IntKind.i64.wrap 1 = 1 := by decide
theorem wS2 : IntKind.i64.wrap 2 = 2 := by decide
theorem isNaN0 (x : Int) : Cal cxN 50 [.s (.int .u64 x)] = some ([.s (.bool false)], []) := by
  rw [Cal_eq]
  simp -implicitDefEqProofs only [fns_50, c50, go_sem, Nat.reduceShiftRight, Nat.reduceAnd, reduceIte, reduceCtorEq, Nat.reduceEqDiff, Nat.reduceAdd, Nat.reduceMul, Nat.reduceSub, Nat.reduceLT, Nat.reduceLeDiff, Nat.reduceBEq, Nat.reduceBNe, Int.reduceToNat, Int.reduceLT, Int.reduceLE, Int.reduceEq, Int.reduceNe, Int.reduceMul, Int.reduceAdd, Int.reduceSub, Int.reduceNeg]
theorem Compare0 (x y : Int) : Cal cxN 39 [.s (.int .u64 x), .s (.int .u64 y)] = some ([.s (.int .i64 (cmpI x y))], []) := by
  have h1 := isNaN0
  rw [Cal_eq]
  unfold cmpI
  by_cases h2 : x < y
  · simp -implicitDefEqProofs only [fns_39, c39, go_sem, Nat.reduceShiftRight, Nat.reduceAnd, reduceIte, reduceCtorEq, Nat.reduceEqDiff, Nat.reduceAdd, Nat.reduceMul, Nat.reduceSub, Nat.reduceLT, Nat.reduceLeDiff, Nat.reduceBEq, Nat.reduceBNe, Int.reduceToNat, Int.reduceLT, Int.reduceLE, Int.reduceEq, Int.reduceNe, Int.reduceMul, Int.reduceAdd, Int.reduceSub, Int.reduceNeg, h1, h2]
  · by_cases h3 : y < x
    · simp -implicitDefEqProofs only [fns_39, c39, go_sem, Nat.reduceShiftRight, Nat.reduceAnd, reduceIte, reduceCtorEq, Nat.reduceEqDiff, Nat.reduceAdd, Nat.reduceMul, Nat.reduceSub, Nat.reduceLT, Nat.reduceLeDiff, Nat.reduceBEq, Nat.reduceBNe, Int.reduceToNat, Int.reduceLT, Int.reduceLE, Int.reduceEq, Int.reduceNe, Int.reduceMul, Int.reduceAdd, Int.reduceSub, Int.reduceNeg, h1, h2, h3]
    · simp -implicitDefEqProofs only [fns_39, c39, go_sem, Nat.reduceShiftRight, Nat.reduceAnd, reduceIte, reduceCtorEq, Nat.reduceEqDiff, Nat.reduceAdd, Nat.reduceMul, Nat.reduceSub, Nat.reduceLT, Nat.reduceLeDiff, Nat.reduceBEq, Nat.reduceBNe, Int.reduceToNat, Int.reduceLT, Int.reduceLE, Int.reduceEq, Int.reduceNe, Int.reduceMul, Int.reduceAdd, Int.reduceSub, Int.reduceNeg, h1, h2, h3]
theorem Or0 (ln : Bool) (x y : Int) : Cal cxN 38 [.sh ln [iC x, iC y]] = some ([.s (.int .i64 (or2 x y))], []) := by
  rw [Cal_eq]
  unfold or2
  by_cases h2 : x = 0
  · simp -implicitDefEqProofs only [fns_38, c38, go_sem, Nat.reduceShiftRight, Nat.reduceAnd, reduceIte, reduceCtorEq, Nat.reduceEqDiff, Nat.reduceAdd, Nat.reduceMul, Nat.reduceSub, Nat.reduceLT, Nat.reduceLeDiff, Nat.reduceBEq, Nat.reduceBNe, Int.reduceToNat, Int.reduceLT, Int.reduceLE, Int.reduceEq, Int.reduceNe, Int.reduceMul, Int.reduceAdd, Int.reduceSub, Int.reduceNeg]
    rw [Loop_eq]
    simp -implicitDefEqProofs only [fns_38, c38, go_sem, Nat.reduceShiftRight, Nat.reduceAnd, reduceIte, reduceCtorEq, Nat.reduceEqDiff, Nat.reduceAdd, Nat.reduceMul, Nat.reduceSub, Nat.reduceLT, Nat.reduceLeDiff, Nat.reduceBEq, Nat.reduceBNe, Int.reduceToNat, Int.reduceLT, Int.reduceLE, Int.reduceEq, Int.reduceNe, Int.reduceMul, Int.reduceAdd, Int.reduceSub, Int.reduceNeg, c38_0, h2, iC, wS1]
    rw [Loop_eq]
    by_cases h3 : y = 0
    · simp -implicitDefEqProofs only [fns_38, c38, go_sem, Nat.reduceShiftRight, Nat.reduceAnd, reduceIte, reduceCtorEq, Nat.reduceEqDiff, Nat.reduceAdd, Nat.reduceMul, Nat.reduceSub, Nat.reduceLT, Nat.reduceLeDiff, Nat.reduceBEq, Nat.reduceBNe, Int.reduceToNat, Int.reduceLT, Int.reduceLE, Int.reduceEq, Int.reduceNe, Int.reduceMul, Int.reduceAdd, Int.reduceSub, Int.reduceNeg, h2, h3, iC, wS1, wS2]
      rw [Loop_eq]
      simp -implicitDefEqProofs only [fns_38, c38, go_sem, Nat.reduceShiftRight, Nat.reduceAnd, reduceIte, reduceCtorEq, Nat.reduceEqDiff, Nat.reduceAdd, Nat.reduceMul, Nat.reduceSub, Nat.reduceLT, Nat.reduceLeDiff, Nat.reduceBEq, Nat.reduceBNe, Int.reduceToNat, Int.reduceLT, Int.reduceLE, Int.reduceEq, Int.reduceNe, Int.reduceMul, Int.reduceAdd, Int.reduceSub, Int.reduceNeg, h2, h3, iC, wS1, wS2]
    · simp -implicitDefEqProofs only [fns_38, c38, go_sem, Nat.reduceShiftRight, Nat.reduceAnd, reduceIte, reduceCtorEq, Nat.reduceEqDiff, Nat.reduceAdd, Nat.reduceMul, Nat.reduceSub, Nat.reduceLT, Nat.reduceLeDiff, Nat.reduceBEq, Nat.reduceBNe, Int.reduceToNat, Int.reduceLT, Int.reduceLE, Int.reduceEq, Int.reduceNe, Int.reduceMul, Int.reduceAdd, Int.reduceSub, Int.reduceNeg, h2, h3, iC, wS1, wS2]
  · simp -implicitDefEqProofs only [fns_38, c38, go_sem, Nat.reduceShiftRight, Nat.reduceAnd, reduceIte, reduceCtorEq, Nat.reduceEqDiff, Nat.reduceAdd, Nat.reduceMul, Nat.reduceSub, Nat.reduceLT, Nat.reduceLeDiff, Nat.reduceBEq, Nat.reduceBNe, Int.reduceToNat, Int.reduceLT, Int.reduceLE, Int.reduceEq, Int.reduceNe, Int.reduceMul, Int.reduceAdd, Int.reduceSub, Int.reduceNeg]
    rw [Loop_eq]
    simp -implicitDefEqProofs only [fns_38, c38, go_sem, Nat.reduceShiftRight, Nat.reduceAnd, reduceIte, reduceCtorEq, Nat.reduceEqDiff, Nat.reduceAdd, Nat.reduceMul, Nat.reduceSub, Nat.reduceLT, Nat.reduceLeDiff, Nat.reduceBEq, Nat.reduceBNe, Int.reduceToNat, Int.reduceLT, Int.reduceLE, Int.reduceEq, Int.reduceNe, Int.reduceMul, Int.reduceAdd, Int.reduceSub, Int.reduceNeg, c38_0, h2, iC]
theorem compare0 (a b : Trc) : Cal cxN 33 [.ag (trC a), .ag (trC b)] = some ([.s (.int .i64 (cmpTr a b))], []) := by
  have h1 := Compare0
  have h2 := Or0
  simp only [iC] at h2
  rw [Cal_eq]
  unfold cmpTr
  simp -implicitDefEqProofs only [fns_33, c33, go_sem, Nat.reduceShiftRight, Nat.reduceAnd, reduceIte, reduceCtorEq, Nat.reduceEqDiff, Nat.reduceAdd, Nat.reduceMul, Nat.reduceSub, Nat.reduceLT, Nat.reduceLeDiff, Nat.reduceBEq, Nat.reduceBNe, Int.reduceToNat, Int.reduceLT, Int.reduceLE, Int.reduceEq, Int.reduceNe, Int.reduceMul, Int.reduceAdd, Int.reduceSub, Int.reduceNeg, trC, h1, h2]
theorem factsN : Facts cxN := ⟨eqFact, fun g F h => by cases h⟩
theorem callN_ok : CallOk cxN (Cal cxN) := callOk factsN (fun g t r o h => by cases h) follows (fun f cf h => ⟨(fok f cf h).ex⟩)
theorem trV_one (x : Trc) (v : Value) (hv : v ∈ trV x) : v.oneCell' = true := by simp [trV] at hv; rcases hv with rfl | rfl <;> rfl
theorem compareCalls (W : World) (x y : Trc) : Calls Try.prog 33 #[.agg (trV x).toArray, .agg (trV y).toArray] W fun e W' => e = .returned (.int .i64 (cmpTr x y)) ∧ Keep W W' (fun _ => False) :=
  cmp_calls callN_ok trV_one (compare0 x y) W
shelf_lay_g SlLaysF0.n6 Slsf 6 at Try 32 as sortTr
theorem srtOkTr : SortOk Try.prog 32 srtTr :=
  sortOk_agg sortTr 2 Try.isAgg27 Try.sizeOf27 trV (fun _ => rfl) trV_one cmpTr swoTr totTr 33
    (enters_of Try.func33 (by kernel_rfl) rfl) 27 (by kernel_rfl) compareCalls ⟨_, Try.func32, by kernel_rfl, by kernel_rfl⟩
theorem facts : Facts cx := ⟨eqFact, fun g F h => by
  have h : srtT g = some F := h
  unfold srtT at h
  split at h
  · cases h; exact srtOkTr
  · cases h⟩
end Go.Proofs.Ytihiakgpegfghaa
