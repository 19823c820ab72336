/- The busiest, as the reference finds them: the rows together. Own work. -/
import Derived.Test.YtpjdoblfdeioaaaRbusyb
set_option linter.unusedVariables false
set_option linter.unusedSimpArgs false
namespace Go.Proofs.Ytpjdoblfdeioaaa
open Go Go.Pi
set_option maxHeartbeats 4000000
set_option maxRecDepth 10000
/-- Where the reference's search for a key ends. -/
theorem SeekL (ln : Bool) (l : List Rw) (lv nn : Int) (i : Nat) (x : Rw) (hx : l[i]? = some x) (out : List Bz) (hM : (l.length : Int) ≤ 100000) (hO : (out.length : Int) ≤ 100000) : ∀ (n k : Nat), k + n = out.length →
   ∃ f H j, Pi.Loop (exec cx (Cal cx) c8_2) (Rst Try.prog ([(0, none), (1, none), (2, none), (7, some 34), (8, none), (9, none)], [])) (St.mk (sF [(0, .sh ln (l.map rwC)), (1, .s (.int .i64 lv)), (2, .s (.int .i64 nn)), (7, .sl 500007 0 0 out.length), (8, .s (.int .i64 i)), (9, .s (.int .i64 k))]) (hF [(500007, bzR out)])) = some (.ex 2, St.mk f H) ∧
     f 0 = .sh ln (l.map rwC) ∧ f 1 = .s (.int .i64 lv) ∧ f 2 = .s (.int .i64 nn) ∧ f 7 = .sl 500007 0 0 out.length ∧ f 8 = .s (.int .i64 i) ∧ f 9 = .s (.int .i64 (j : Nat)) ∧ H 500007 = bzR out ∧ H 73 = none ∧
     j = (seekK x (out.drop k) k).getD out.length := by
  have hi : (i : Int) < (l.length : Int) := by
    obtain ⟨h, _⟩ := List.getElem?_eq_some_iff.1 hx
    omega
  intro n
  induction n with
  | zero =>
    intro k h
    have h0 : ¬ (k : Int) < (out.length : Int) := by omega
    rw [Loop_eq, drop_end (by omega)]
    simp -implicitDefEqProofs only [fns_8, c8, go_sem, Nat.reduceShiftRight, Nat.reduceAnd, reduceIte, reduceCtorEq, Nat.reduceEqDiff, Nat.reduceAdd, Nat.reduceMul, Nat.reduceSub, Nat.reduceLT, Nat.reduceLeDiff, Nat.reduceBEq, Nat.reduceBNe, Int.reduceToNat, Int.reduceLT, Int.reduceLE, Int.reduceEq, Int.reduceNe, Int.reduceMul, Int.reduceAdd, Int.reduceSub, Int.reduceNeg, c8_2, h0]
    exact ⟨_, _, k, rfl, rfl, rfl, rfl, rfl, rfl, rfl, rfl, rfl, by simp [seekK]; omega⟩
  | succ n ih =>
    intro k h
    have h0 : (k : Int) < (out.length : Int) := by omega
    have h1 : k < out.length := by omega
    obtain ⟨b, hb⟩ := get_of_lt (l := out) (i := k) h1
    have h8 : IntKind.i64.wrap ((k : Int) + 1) = ((k + 1 : Nat) : Int) := by rw [wrap64_id] <;> omega
    obtain ⟨f, H, j, g⟩ := ih (k + 1) (by omega)
    obtain ⟨g1, g2⟩ := g
    rw [Loop_eq, drop_get hb]
    by_cases e1 : b.svc = x.svc
    · by_cases e2 : b.op = x.op
      · have hs : sameK b x = true := by simp [sameK, e1, e2]
        simp -implicitDefEqProofs only [fns_8, c8, go_sem, Nat.reduceShiftRight, Nat.reduceAnd, reduceIte, reduceCtorEq, Nat.reduceEqDiff, Nat.reduceAdd, Nat.reduceMul, Nat.reduceSub, Nat.reduceLT, Nat.reduceLeDiff, Nat.reduceBEq, Nat.reduceBNe, Int.reduceToNat, Int.reduceLT, Int.reduceLE, Int.reduceEq, Int.reduceNe, Int.reduceMul, Int.reduceAdd, Int.reduceSub, Int.reduceNeg, c8_2, h0, h1, hi, getD_map bzC hb, bzC, getD_map rwC hx, rwC, e1, e2]
        exact ⟨_, _, k, rfl, rfl, rfl, rfl, rfl, rfl, rfl, rfl, rfl, by simp [seekK, hs]⟩
      · have hs : sameK b x = false := by simp [sameK, e1, e2]
        simp only [bzR] at g1
        simp -implicitDefEqProofs only [fns_8, c8, go_sem, Nat.reduceShiftRight, Nat.reduceAnd, reduceIte, reduceCtorEq, Nat.reduceEqDiff, Nat.reduceAdd, Nat.reduceMul, Nat.reduceSub, Nat.reduceLT, Nat.reduceLeDiff, Nat.reduceBEq, Nat.reduceBNe, Int.reduceToNat, Int.reduceLT, Int.reduceLE, Int.reduceEq, Int.reduceNe, Int.reduceMul, Int.reduceAdd, Int.reduceSub, Int.reduceNeg, c8_2, h0, h1, hi, getD_map bzC hb, bzC, getD_map rwC hx, rwC, e1, e2, h8]
        refine ⟨f, H, j, g1, ?_⟩
        simpa [seekK, hs] using g2
    · have hs : sameK b x = false := by simp [sameK, e1]
      simp only [bzR] at g1
      simp -implicitDefEqProofs only [fns_8, c8, go_sem, Nat.reduceShiftRight, Nat.reduceAnd, reduceIte, reduceCtorEq, Nat.reduceEqDiff, Nat.reduceAdd, Nat.reduceMul, Nat.reduceSub, Nat.reduceLT, Nat.reduceLeDiff, Nat.reduceBEq, Nat.reduceBNe, Int.reduceToNat, Int.reduceLT, Int.reduceLE, Int.reduceEq, Int.reduceNe, Int.reduceMul, Int.reduceAdd, Int.reduceSub, Int.reduceNeg, c8_2, h0, h1, hi, getD_map bzC hb, bzC, getD_map rwC hx, rwC, e1, h8]
      refine ⟨f, H, j, g1, ?_⟩
      simpa [seekK, hs] using g2
end Go.Proofs.Ytpjdoblfdeioaaa
