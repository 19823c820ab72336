/- QuantFirst: the equation. Own work. -/
import Derived.Test.YtpjdoblfdeioaaaRfirst
set_option linter.unusedVariables false
set_option linter.unusedSimpArgs false
namespace Go.Proofs.Ytpjdoblfdeioaaa
open Go Go.Pi
set_option maxHeartbeats 4000000
set_option maxRecDepth 10000
theorem QuantFirst (ln : Bool) (l : List Rw) (lv n m : Int) : Cal cx 4 [.sh ln (l.map rwC), .s (.int .i64 lv), .s (.int .i64 n), .s (.int .i64 m)] = some ([.s (.bool true)], []) := by
  have h1 := alive
  rw [Cal_eq]
  by_cases hM : (80 : Int) < (l.length : Int)
  · simp -implicitDefEqProofs only [fns_4, c4, go_sem, Nat.reduceShiftRight, Nat.reduceAnd, reduceIte, reduceCtorEq, Nat.reduceEqDiff, Nat.reduceAdd, Nat.reduceMul, Nat.reduceSub, Nat.reduceLT, Nat.reduceLeDiff, Nat.reduceBEq, Nat.reduceBNe, Int.reduceToNat, Int.reduceLT, Int.reduceLE, Int.reduceEq, Int.reduceNe, Int.reduceMul, Int.reduceAdd, Int.reduceSub, Int.reduceNeg, h1, hM]
  by_cases hn : n < 0
  · simp -implicitDefEqProofs only [fns_4, c4, go_sem, Nat.reduceShiftRight, Nat.reduceAnd, reduceIte, reduceCtorEq, Nat.reduceEqDiff, Nat.reduceAdd, Nat.reduceMul, Nat.reduceSub, Nat.reduceLT, Nat.reduceLeDiff, Nat.reduceBEq, Nat.reduceBNe, Int.reduceToNat, Int.reduceLT, Int.reduceLE, Int.reduceEq, Int.reduceNe, Int.reduceMul, Int.reduceAdd, Int.reduceSub, Int.reduceNeg, h1, hM, hn]
  by_cases hm : m < n
  · simp -implicitDefEqProofs only [fns_4, c4, go_sem, Nat.reduceShiftRight, Nat.reduceAnd, reduceIte, reduceCtorEq, Nat.reduceEqDiff, Nat.reduceAdd, Nat.reduceMul, Nat.reduceSub, Nat.reduceLT, Nat.reduceLeDiff, Nat.reduceBEq, Nat.reduceBNe, Int.reduceToNat, Int.reduceLT, Int.reduceLE, Int.reduceEq, Int.reduceNe, Int.reduceMul, Int.reduceAdd, Int.reduceSub, Int.reduceNeg, h1, hM, hn, hm]
  obtain ⟨e, f, H, g1, g2⟩ := SumL ln l lv n m (by omega) l.length 0 0 (by omega) (Int.le_refl _) (by omega)
  simp only [Int.cast_ofNat_Int, List.drop_zero, Int.zero_add] at g1 g2
  rcases g2 with ⟨rfl, g2⟩ | ⟨rfl, g2, g3, g4, g5, g6, g7, g8, g9, g10⟩
  · simp -implicitDefEqProofs only [fns_4, c4, go_sem, Nat.reduceShiftRight, Nat.reduceAnd, reduceIte, reduceCtorEq, Nat.reduceEqDiff, Nat.reduceAdd, Nat.reduceMul, Nat.reduceSub, Nat.reduceLT, Nat.reduceLeDiff, Nat.reduceBEq, Nat.reduceBNe, Int.reduceToNat, Int.reduceLT, Int.reduceLE, Int.reduceEq, Int.reduceNe, Int.reduceMul, Int.reduceAdd, Int.reduceSub, Int.reduceNeg, h1, hM, hn, hm, g1, g2]
  · have b1 := Busy ln l lv n (by omega)
    have b2 := Busy ln l lv m (by omega)
    have b3 := Busy ln l lv l.length (by omega)
    have hl := foldLv_len lv l []
    have hlen := allB_len lv l
    obtain ⟨u1, u2⟩ := allB_sum lv l (by omega) g2
    have u3 := sumR_rg lv l g2
    have u4 : ∀ (i : Nat) (x y : Bz), (allB lv l)[i]? = some y → (allB lv l)[i + 1]? = some x → ¬ y.count < x.count ∧ ¬ (x.svc = y.svc ∧ x.op = y.op) := fun i x y => allB_next
    rw [← hlen] at hl b1 b2 b3
    simp only [List.length_nil, Nat.zero_add] at hl
    rw [show pdqL ltBz (l.foldl (addLv lv) []) = allB lv l from rfl] at b1 b2 b3
    generalize allB lv l = P at b1 b2 b3 hl u1 u2 u4
    have k1 : capN n P.length ≤ capN m P.length := by unfold capN; (repeat' split) <;> omega
    have k2 : capN (l.length : Int) P.length = P.length := by unfold capN; (repeat' split) <;> omega
    have k3 : capN m P.length ≤ P.length := by unfold capN; (repeat' split) <;> omega
    have k4 : ¬ n < (capN n P.length : Int) := by unfold capN; (repeat' split) <;> omega
    have k5 : ¬ (capN m P.length : Int) < (capN n P.length : Int) := by omega
    have k6 : (capN n P.length : Int) < n → ¬ (capN n P.length : Int) < (capN m P.length : Int) := by unfold capN; (repeat' split) <;> omega
    rw [k2, List.take_length] at b3
    generalize capN n P.length = A at b1 k1 k4 k5 k6
    generalize capN m P.length = B at b2 k1 k3 k5 k6
    have la : (P.take A).length = A := by rw [List.length_take]; omega
    have lb : (P.take B).length = B := by rw [List.length_take]; omega
    have tk : (P.take B).take A = P.take A := take_take_cap P k1
    have tk2 : (P.take A).take A = P.take A := take_take_cap P (Nat.le_refl _)
    have sm := Same true true (P.take A) (by rw [la]; omega)
    obtain ⟨f', H', d1, d2⟩ := LeftL P (by omega) u2 (by omega) u4 P.length 0 (by omega) (by rw [List.drop_zero]; omega)
    simp only [Int.cast_ofNat_Int, List.drop_zero, u1, bzR] at d1
    have k7 : (0 : Int) + (A : Int) ≤ (B : Int) := by omega
    have k8 : (A : Int) ≤ (B : Int) := by omega
    by_cases c : (A : Int) < n
    · have k9 := k6 c
      simp -implicitDefEqProofs only [fns_4, c4, go_sem, Nat.reduceShiftRight, Nat.reduceAnd, reduceIte, reduceCtorEq, Nat.reduceEqDiff, Nat.reduceAdd, Nat.reduceMul, Nat.reduceSub, Nat.reduceLT, Nat.reduceLeDiff, Nat.reduceBEq, Nat.reduceBNe, Int.reduceToNat, Int.reduceLT, Int.reduceLE, Int.reduceEq, Int.reduceNe, Int.reduceMul, Int.reduceAdd, Int.reduceSub, Int.reduceNeg, h1, hM, hn, hm, g1, g3, g4, g5, g6, g7, g8, g9, g10, b1, b2, b3, la, lb, k1, k4, k5, k7, k8, k9, c, tk, tk2, Nat.sub_zero, sm, d1, d2, ← List.map_take]
    · simp -implicitDefEqProofs only [fns_4, c4, go_sem, Nat.reduceShiftRight, Nat.reduceAnd, reduceIte, reduceCtorEq, Nat.reduceEqDiff, Nat.reduceAdd, Nat.reduceMul, Nat.reduceSub, Nat.reduceLT, Nat.reduceLeDiff, Nat.reduceBEq, Nat.reduceBNe, Int.reduceToNat, Int.reduceLT, Int.reduceLE, Int.reduceEq, Int.reduceNe, Int.reduceMul, Int.reduceAdd, Int.reduceSub, Int.reduceNeg, h1, hM, hn, hm, g1, g3, g4, g5, g6, g7, g8, g9, g10, b1, b2, b3, la, lb, k1, k4, k5, k7, k8, c, tk, tk2, Nat.sub_zero, sm, d1, d2, ← List.map_take]
end Go.Proofs.Ytpjdoblfdeioaaa
