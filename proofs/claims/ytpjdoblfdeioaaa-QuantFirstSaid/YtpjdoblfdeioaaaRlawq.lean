/- QuantBusy: the equation. Own work. -/
import Derived.Test.YtpjdoblfdeioaaaRrefc
import Derived.Test.YtpjdoblfdeioaaaRalive
set_option linter.unusedVariables false
set_option linter.unusedSimpArgs false
namespace Go.Proofs.Ytpjdoblfdeioaaa
open Go Go.Pi
set_option maxHeartbeats 4000000
set_option maxRecDepth 10000
theorem SameL (l1 l2 : Bool) (a : List Bz) (hM : (a.length : Int) ≤ 1000000000) : ∀ (n i : Nat), i + n = a.length →
   ∃ f H, Pi.Loop (exec cx (Cal cx) c6_0) (Rst Try.prog ([(0, none), (1, none), (5, none)], [])) (St.mk (sF [(0, .sh l1 (a.map bzC)), (1, .sh l2 (a.map bzC)), (5, .s (.int .i64 i))]) (hF [])) = some (.ex 0, St.mk f H) := by
  intro n
  induction n with
  | zero =>
    intro i h
    have h0 : ¬ (i : Int) < (a.length : Int) := by omega
    rw [Loop_eq]
    simp -implicitDefEqProofs only [fns_6, c6, go_sem, Nat.reduceShiftRight, Nat.reduceAnd, reduceIte, reduceCtorEq, Nat.reduceEqDiff, Nat.reduceAdd, Nat.reduceMul, Nat.reduceSub, Nat.reduceLT, Nat.reduceLeDiff, Nat.reduceBEq, Nat.reduceBNe, Int.reduceToNat, Int.reduceLT, Int.reduceLE, Int.reduceEq, Int.reduceNe, Int.reduceMul, Int.reduceAdd, Int.reduceSub, Int.reduceNeg, c6_0, h0]
    exact ⟨_, _, rfl⟩
  | succ n ih =>
    intro i h
    have h0 : (i : Int) < (a.length : Int) := by omega
    obtain ⟨x, hx⟩ := get_of_lt (l := a) (i := i) (by omega)
    have h8 : IntKind.i64.wrap ((i : Int) + 1) = ((i + 1 : Nat) : Int) := by rw [wrap64_id] <;> omega
    have h7 := ih (i + 1) (by omega)
    rw [Loop_eq]
    simp -implicitDefEqProofs only [fns_6, c6, go_sem, Nat.reduceShiftRight, Nat.reduceAnd, reduceIte, reduceCtorEq, Nat.reduceEqDiff, Nat.reduceAdd, Nat.reduceMul, Nat.reduceSub, Nat.reduceLT, Nat.reduceLeDiff, Nat.reduceBEq, Nat.reduceBNe, Int.reduceToNat, Int.reduceLT, Int.reduceLE, Int.reduceEq, Int.reduceNe, Int.reduceMul, Int.reduceAdd, Int.reduceSub, Int.reduceNeg, c6_0, h0, getD_map bzC hx, bzC, h8]
    exact h7
theorem Same (l1 l2 : Bool) (a : List Bz) (hM : (a.length : Int) ≤ 1000000000) : Cal cx 6 [.sh l1 (a.map bzC), .sh l2 (a.map bzC)] = some ([.s (.bool true)], []) := by
  obtain ⟨f, H, g⟩ := SameL l1 l2 a hM a.length 0 (by omega)
  simp only [Int.cast_ofNat_Int] at g
  rw [Cal_eq]
  simp -implicitDefEqProofs only [fns_6, c6, go_sem, Nat.reduceShiftRight, Nat.reduceAnd, reduceIte, reduceCtorEq, Nat.reduceEqDiff, Nat.reduceAdd, Nat.reduceMul, Nat.reduceSub, Nat.reduceLT, Nat.reduceLeDiff, Nat.reduceBEq, Nat.reduceBNe, Int.reduceToNat, Int.reduceLT, Int.reduceLE, Int.reduceEq, Int.reduceNe, Int.reduceMul, Int.reduceAdd, Int.reduceSub, Int.reduceNeg, g]
/-- The law's first loop: a row of a name too long ends it, else it ends of itself. -/
theorem LongL (ln : Bool) (l : List Rw) (lv nn : Int) (hM : (l.length : Int) ≤ 80) : ∀ (n i : Nat), i + n = l.length →
   ∃ e f H, Pi.Loop (exec cx (Cal cx) c3_0) (Rst Try.prog ([(0, none), (1, none), (2, none), (8, none)], [])) (St.mk (sF [(0, .sh ln (l.map rwC)), (1, .s (.int .i64 lv)), (2, .s (.int .i64 nn)), (8, .s (.int .i64 i))]) (hF [])) = some (e, St.mk f H) ∧
     ((e = .ret ∧ f 6 = .s (.bool true)) ∨ (e = .ex 0 ∧ f 0 = .sh ln (l.map rwC) ∧ f 1 = .s (.int .i64 lv) ∧ f 2 = .s (.int .i64 nn) ∧ H 41 = none ∧ H 44 = none ∧ H 48 = none)) := by
  intro n
  induction n with
  | zero =>
    intro i h
    have h0 : ¬ (i : Int) < (l.length : Int) := by omega
    rw [Loop_eq]
    simp -implicitDefEqProofs only [fns_3, c3, go_sem, Nat.reduceShiftRight, Nat.reduceAnd, reduceIte, reduceCtorEq, Nat.reduceEqDiff, Nat.reduceAdd, Nat.reduceMul, Nat.reduceSub, Nat.reduceLT, Nat.reduceLeDiff, Nat.reduceBEq, Nat.reduceBNe, Int.reduceToNat, Int.reduceLT, Int.reduceLE, Int.reduceEq, Int.reduceNe, Int.reduceMul, Int.reduceAdd, Int.reduceSub, Int.reduceNeg, c3_0, h0]
    exact ⟨_, _, _, rfl, .inr ⟨rfl, rfl, rfl, rfl, rfl, rfl, rfl⟩⟩
  | succ n ih =>
    intro i h
    have h0 : (i : Int) < (l.length : Int) := by omega
    obtain ⟨x, hx⟩ := get_of_lt (l := l) (i := i) (by omega)
    have h8 : IntKind.i64.wrap ((i : Int) + 1) = ((i + 1 : Nat) : Int) := by rw [wrap64_id] <;> omega
    have h7 := ih (i + 1) (by omega)
    rw [Loop_eq]
    by_cases c1 : (60 : Int) < (x.svc.size : Int)
    · simp -implicitDefEqProofs only [fns_3, c3, go_sem, Nat.reduceShiftRight, Nat.reduceAnd, reduceIte, reduceCtorEq, Nat.reduceEqDiff, Nat.reduceAdd, Nat.reduceMul, Nat.reduceSub, Nat.reduceLT, Nat.reduceLeDiff, Nat.reduceBEq, Nat.reduceBNe, Int.reduceToNat, Int.reduceLT, Int.reduceLE, Int.reduceEq, Int.reduceNe, Int.reduceMul, Int.reduceAdd, Int.reduceSub, Int.reduceNeg, c3_0, h0, getD_map rwC hx, rwC, c1]
      exact ⟨_, _, _, rfl, .inl ⟨rfl, rfl⟩⟩
    · by_cases c2 : (60 : Int) < (x.op.size : Int)
      · simp -implicitDefEqProofs only [fns_3, c3, go_sem, Nat.reduceShiftRight, Nat.reduceAnd, reduceIte, reduceCtorEq, Nat.reduceEqDiff, Nat.reduceAdd, Nat.reduceMul, Nat.reduceSub, Nat.reduceLT, Nat.reduceLeDiff, Nat.reduceBEq, Nat.reduceBNe, Int.reduceToNat, Int.reduceLT, Int.reduceLE, Int.reduceEq, Int.reduceNe, Int.reduceMul, Int.reduceAdd, Int.reduceSub, Int.reduceNeg, c3_0, h0, getD_map rwC hx, rwC, c1, c2]
        exact ⟨_, _, _, rfl, .inl ⟨rfl, rfl⟩⟩
      · simp -implicitDefEqProofs only [fns_3, c3, go_sem, Nat.reduceShiftRight, Nat.reduceAnd, reduceIte, reduceCtorEq, Nat.reduceEqDiff, Nat.reduceAdd, Nat.reduceMul, Nat.reduceSub, Nat.reduceLT, Nat.reduceLeDiff, Nat.reduceBEq, Nat.reduceBNe, Int.reduceToNat, Int.reduceLT, Int.reduceLE, Int.reduceEq, Int.reduceNe, Int.reduceMul, Int.reduceAdd, Int.reduceSub, Int.reduceNeg, c3_0, h0, getD_map rwC hx, rwC, c1, c2, h8]
        exact h7
theorem QuantBusy (ln : Bool) (l : List Rw) (lv nn : Int) : Cal cx 3 [.sh ln (l.map rwC), .s (.int .i64 lv), .s (.int .i64 nn)] = some ([.s (.bool true)], []) := by
  have h1 := alive
  rw [Cal_eq]
  by_cases hM : (80 : Int) < (l.length : Int)
  · simp -implicitDefEqProofs only [fns_3, c3, go_sem, Nat.reduceShiftRight, Nat.reduceAnd, reduceIte, reduceCtorEq, Nat.reduceEqDiff, Nat.reduceAdd, Nat.reduceMul, Nat.reduceSub, Nat.reduceLT, Nat.reduceLeDiff, Nat.reduceBEq, Nat.reduceBNe, Int.reduceToNat, Int.reduceLT, Int.reduceLE, Int.reduceEq, Int.reduceNe, Int.reduceMul, Int.reduceAdd, Int.reduceSub, Int.reduceNeg, h1, hM]
  obtain ⟨e, f, H, g1, g2⟩ := LongL ln l lv nn (by omega) l.length 0 (by omega)
  simp only [Int.cast_ofNat_Int] at g1
  rcases g2 with ⟨rfl, g2⟩ | ⟨rfl, g2, g3, g4, g5, g6, g7⟩
  · simp -implicitDefEqProofs only [fns_3, c3, go_sem, Nat.reduceShiftRight, Nat.reduceAnd, reduceIte, reduceCtorEq, Nat.reduceEqDiff, Nat.reduceAdd, Nat.reduceMul, Nat.reduceSub, Nat.reduceLT, Nat.reduceLeDiff, Nat.reduceBEq, Nat.reduceBNe, Int.reduceToNat, Int.reduceLT, Int.reduceLE, Int.reduceEq, Int.reduceNe, Int.reduceMul, Int.reduceAdd, Int.reduceSub, Int.reduceNeg, h1, hM, g1, g2]
  · have h2 := Busy true l lv nn (by omega)
    have h3 := RBusy ln l lv nn (by omega)
    have hl := foldLv_len lv l []
    simp only [List.length_nil] at hl
    have ht : ((pdqL ltBz (l.foldl (addLv lv) [])).take (capN nn (l.foldl (addLv lv) []).length)).length ≤ 100 := by
      have h5 : (pdqL ltBz (l.foldl (addLv lv) [])).length = (l.foldl (addLv lv) []).length := (pdqL_perm swoBz _).length_eq
      rw [List.length_take]
      omega
    have h4 := Same true true _ (Int.ofNat_le.2 (Nat.le_trans ht (by decide : 100 ≤ 1000000000)))
    have b1 : l.length * 128 ≤ 140737488355328 := by omega
    have b2 : l.length ≤ 9223372036854775807 := by omega
    simp -implicitDefEqProofs only [fns_3, c3, go_sem, Nat.reduceShiftRight, Nat.reduceAnd, reduceIte, reduceCtorEq, Nat.reduceEqDiff, Nat.reduceAdd, Nat.reduceMul, Nat.reduceSub, Nat.reduceLT, Nat.reduceLeDiff, Nat.reduceBEq, Nat.reduceBNe, Int.reduceToNat, Int.reduceLT, Int.reduceLE, Int.reduceEq, Int.reduceNe, Int.reduceMul, Int.reduceAdd, Int.reduceSub, Int.reduceNeg, h1, hM, g1, g2, g3, g4, g5, g6, g7, h2, h3, h4, b1, b2]
end Go.Proofs.Ytpjdoblfdeioaaa
