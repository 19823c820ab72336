/- The place of a key among the busiest (slices.IndexFunc). Own work. -/
import Derived.Test.YtpjdoblfdeioaaaRleaf
set_option linter.unusedVariables false
set_option linter.unusedSimpArgs false
namespace Go.Pi
/-- The place of a row's key in what is left, counted on. -/
def seekK (r : Rw) : List Bz → Nat → Option Nat
  | [], _ => none
  | b :: l, i => if sameK b r then some i else seekK r l (i + 1)
def posK (r : Rw) (l : List Bz) : Int := match seekK r l 0 with | some i => i | none => -1
end Go.Pi
namespace Go.Proofs.Ytpjdoblfdeioaaa
open Go Go.Pi
set_option maxHeartbeats 2000000
set_option maxRecDepth 10000
theorem IndexL (ln : Bool) (l : List Bz) (r : Rw) (hM : (l.length : Int) ≤ 1000000) : ∀ (n i : Nat), i + n = l.length →
   ∃ e f H, Pi.Loop (exec cx (Cal cx) c12_0) (Rst Try.prog ([(0, none), (1, none), (7, none), (8, none)], [])) (St.mk (sF [(0, .sh ln (l.map bzC)), (1, .fn 13 [.sa true (rwC r)]), (7, .s (.int .i64 l.length)), (8, .s (.int .i64 i))]) (hF [])) = some (e, St.mk f H) ∧
     (∀ j, seekK r (l.drop i) i = some j → e = .ret ∧ f 4 = .s (.int .i64 (j : Nat))) ∧ (seekK r (l.drop i) i = none → e = .ex 0) := by
  intro n
  induction n with
  | zero =>
    intro i h
    have h0 : ¬ (i : Int) < (l.length : Int) := by omega
    rw [Loop_eq]
    simp -implicitDefEqProofs only [fns_12, c12, go_sem, Nat.reduceShiftRight, Nat.reduceAnd, reduceIte, reduceCtorEq, Nat.reduceEqDiff, Nat.reduceAdd, Nat.reduceMul, Nat.reduceSub, Nat.reduceLT, Nat.reduceLeDiff, Nat.reduceBEq, Nat.reduceBNe, Int.reduceToNat, Int.reduceLT, Int.reduceLE, Int.reduceEq, Int.reduceNe, Int.reduceMul, Int.reduceAdd, Int.reduceSub, Int.reduceNeg, c12_0, h0]
    refine ⟨_, _, _, rfl, ?_, fun _ => rfl⟩
    intro j hj
    rw [drop_end (by omega)] at hj
    simp [seekK] at hj
  | succ n ih =>
    intro i h
    have h0 : (i : Int) < (l.length : Int) := by omega
    obtain ⟨x, hx⟩ := get_of_lt (l := l) (i := i) (by omega)
    have h8 : IntKind.i64.wrap ((i : Int) + 1) = ((i + 1 : Nat) : Int) := by rw [wrap64_id] <;> omega
    have h1 := Bsame x r
    simp only [bzC] at h1
    obtain ⟨e, f, H, g1, g2, g3⟩ := ih (i + 1) (by omega)
    rw [Loop_eq, drop_get hx]
    cases hs : sameK x r
    · rw [hs] at h1
      simp only [seekK, hs]
      simp -implicitDefEqProofs only [fns_12, c12, go_sem, Nat.reduceShiftRight, Nat.reduceAnd, reduceIte, reduceCtorEq, Nat.reduceEqDiff, Nat.reduceAdd, Nat.reduceMul, Nat.reduceSub, Nat.reduceLT, Nat.reduceLeDiff, Nat.reduceBEq, Nat.reduceBNe, Int.reduceToNat, Int.reduceLT, Int.reduceLE, Int.reduceEq, Int.reduceNe, Int.reduceMul, Int.reduceAdd, Int.reduceSub, Int.reduceNeg, c12_0, h0, getD_map bzC hx, bzC, h1, h8]
      exact ⟨e, f, H, g1, g2, g3⟩
    · rw [hs] at h1
      simp only [seekK, hs]
      simp -implicitDefEqProofs only [fns_12, c12, go_sem, Nat.reduceShiftRight, Nat.reduceAnd, reduceIte, reduceCtorEq, Nat.reduceEqDiff, Nat.reduceAdd, Nat.reduceMul, Nat.reduceSub, Nat.reduceLT, Nat.reduceLeDiff, Nat.reduceBEq, Nat.reduceBNe, Int.reduceToNat, Int.reduceLT, Int.reduceLE, Int.reduceEq, Int.reduceNe, Int.reduceMul, Int.reduceAdd, Int.reduceSub, Int.reduceNeg, c12_0, h0, getD_map bzC hx, bzC, h1, h8]
      exact ⟨_, _, _, rfl, fun j hj => by cases hj; exact ⟨rfl, rfl⟩⟩
theorem Index (ln : Bool) (l : List Bz) (r : Rw) (hM : (l.length : Int) ≤ 1000000) : Cal cx 12 [.sh ln (l.map bzC), .fn 13 [.sa true (rwC r)]] = some ([.s (.int .i64 (posK r l))], []) := by
  obtain ⟨e, f, H, g1, g2, g3⟩ := IndexL ln l r hM l.length 0 (by omega)
  simp only [Int.cast_ofNat_Int, List.drop_zero] at g1 g2 g3
  rw [Cal_eq]
  unfold posK
  cases hs : seekK r l 0 with
  | none =>
    have := g3 hs; subst this
    simp -implicitDefEqProofs only [fns_12, c12, go_sem, Nat.reduceShiftRight, Nat.reduceAnd, reduceIte, reduceCtorEq, Nat.reduceEqDiff, Nat.reduceAdd, Nat.reduceMul, Nat.reduceSub, Nat.reduceLT, Nat.reduceLeDiff, Nat.reduceBEq, Nat.reduceBNe, Int.reduceToNat, Int.reduceLT, Int.reduceLE, Int.reduceEq, Int.reduceNe, Int.reduceMul, Int.reduceAdd, Int.reduceSub, Int.reduceNeg, g1]
  | some j =>
    obtain ⟨e1, e2⟩ := g2 j hs
    subst e1
    simp -implicitDefEqProofs only [fns_12, c12, go_sem, Nat.reduceShiftRight, Nat.reduceAnd, reduceIte, reduceCtorEq, Nat.reduceEqDiff, Nat.reduceAdd, Nat.reduceMul, Nat.reduceSub, Nat.reduceLT, Nat.reduceLeDiff, Nat.reduceBEq, Nat.reduceBNe, Int.reduceToNat, Int.reduceLT, Int.reduceLE, Int.reduceEq, Int.reduceNe, Int.reduceMul, Int.reduceAdd, Int.reduceSub, Int.reduceNeg, g1, e2]
end Go.Proofs.Ytpjdoblfdeioaaa
