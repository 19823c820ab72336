/- The busiest, as the reference finds them: the rows together. Own work. -/
import Derived.Test.YtpjdoblfdeioaaaRref
set_option linter.unusedVariables false
set_option linter.unusedSimpArgs false
namespace Go.Proofs.Ytpjdoblfdeioaaa
open Go Go.Pi
set_option maxHeartbeats 4000000
set_option maxRecDepth 10000
theorem RefL (ln : Bool) (l : List Rw) (lv : Int) (nn : Int) (hM : (l.length : Int) ≤ 100000) : ∀ (n i : Nat) (out : List Bz), i + n = l.length → out.length + n ≤ 100000 →
   ∃ f H, Pi.Loop (exec cx (Cal cx) c8_0) (Rst Try.prog ([(0, none), (1, none), (2, none), (7, some 34), (8, none)], [])) (St.mk (sF [(0, .sh ln (l.map rwC)), (1, .s (.int .i64 lv)), (2, .s (.int .i64 nn)), (7, .sl 500007 0 0 out.length), (8, .s (.int .i64 i))]) (hF [(500007, bzR out)])) = some (.ex 0, St.mk f H) ∧
     f 2 = .s (.int .i64 nn) ∧ f 7 = .sl 500007 0 0 ((l.drop i).foldl (addLv lv) out).length ∧ H 500007 = bzR ((l.drop i).foldl (addLv lv) out) := by
  intro n
  induction n with
  | zero =>
    intro i out h _
    have h0 : ¬ (i : Int) < (l.length : Int) := by omega
    rw [Loop_eq, drop_end (by omega)]
    simp -implicitDefEqProofs only [fns_8, c8, go_sem, Nat.reduceShiftRight, Nat.reduceAnd, reduceIte, reduceCtorEq, Nat.reduceEqDiff, Nat.reduceAdd, Nat.reduceMul, Nat.reduceSub, Nat.reduceLT, Nat.reduceLeDiff, Nat.reduceBEq, Nat.reduceBNe, Int.reduceToNat, Int.reduceLT, Int.reduceLE, Int.reduceEq, Int.reduceNe, Int.reduceMul, Int.reduceAdd, Int.reduceSub, Int.reduceNeg, c8_0, h0, List.foldl_nil]
    exact ⟨_, _, rfl, rfl, rfl, rfl⟩
  | succ n ih =>
    intro i out h ho
    have h0 : (i : Int) < (l.length : Int) := by omega
    obtain ⟨x, hx⟩ := get_of_lt (l := l) (i := i) (by omega)
    have h8 : IntKind.i64.wrap ((i : Int) + 1) = ((i + 1 : Nat) : Int) := by rw [wrap64_id] <;> omega
    obtain ⟨f, H, j, g1, g2, g3, g4, g5, g6, g7, g8, g9, g10⟩ := SeekL ln l lv nn i x hx out (by omega) (by omega) out.length 0 (by omega)
    have h2 := RPlus
    have h7 := ih (i + 1) (addLv lv out x) (by omega) (by
      have := addLv_len lv x out
      omega)
    simp only [Int.cast_ofNat_Int, List.drop_zero, bzR] at g1 g8 g10
    simp only [bzR] at h7 ⊢
    rw [Loop_eq, drop_get hx, List.foldl_cons]
    by_cases hl : x.level = lv
    · have e : addLv lv out x = addBz x out := by unfold addLv; rw [if_pos hl]
      rw [e] at h7 ⊢
      cases hs : seekK x out 0 with
      | none =>
        have e2 : addBz x out = out ++ [⟨x.svc, x.op, pl 0 x.count, pl 0 x.errs⟩] := by unfold addBz; rw [hs]
        rw [hs] at g10
        simp only [Option.getD_none] at g10
        subst g10
        rw [e2] at h7 ⊢
        have hlen : ∀ b : Bz, (out ++ [b]).length = out.length + 1 := fun b => by simp
        have b1 : (out.length + 1) * 48 ≤ 140737488355328 := by omega
        have d1 : (out.length : Int) < ((out.length + 1 : Nat) : Int) := by omega
        have d2 : out.length < out.length + 1 := by omega
        have hy : (out ++ [(⟨x.svc, x.op, 0, 0⟩ : Bz)])[out.length]? = some ⟨x.svc, x.op, 0, 0⟩ := by simp
        have hz : (out ++ [(⟨x.svc, x.op, pl 0 x.count, 0⟩ : Bz)])[out.length]? = some ⟨x.svc, x.op, pl 0 x.count, 0⟩ := by simp
        rw [hlen] at h7
        simp -implicitDefEqProofs only [fns_8, c8, go_sem, Nat.reduceShiftRight, Nat.reduceAnd, reduceIte, reduceCtorEq, Nat.reduceEqDiff, Nat.reduceAdd, Nat.reduceMul, Nat.reduceSub, Nat.reduceLT, Nat.reduceLeDiff, Nat.reduceBEq, Nat.reduceBNe, Int.reduceToNat, Int.reduceLT, Int.reduceLE, Int.reduceEq, Int.reduceNe, Int.reduceMul, Int.reduceAdd, Int.reduceSub, Int.reduceNeg, c8_0, h0, getD_map rwC hx, rwC, g1, g2, g3, g4, g5, g6, g7, g8, g9, h2, h8, hl, b1, d1, d2, hlen, getD_map bzC hy, getD_map bzC hz, bzC, setBz, setEnd]
        exact h7
      | some j' =>
        rw [hs] at g10
        simp only [Option.getD_some] at g10
        subst g10
        obtain ⟨b, -, hb, -⟩ := seekK_some hs
        rw [Nat.sub_zero] at hb
        have e2 : addBz x out = out.set j ⟨b.svc, b.op, pl b.count x.count, pl b.errs x.errs⟩ := by unfold addBz addAt; rw [hs]; simp only [hb]
        rw [e2] at h7 ⊢
        have c0 : ¬ (j : Int) < 0 := by omega
        have c1 : j < out.length := by
          obtain ⟨h, _⟩ := List.getElem?_eq_some_iff.1 hb
          exact h
        have c2 : (j : Int) < (out.length : Int) := by omega
        have c3 : ¬ (j : Int) = (out.length : Int) := by omega
        have hy : (out.set j ⟨b.svc, b.op, pl b.count x.count, b.errs⟩)[j]? = some ⟨b.svc, b.op, pl b.count x.count, b.errs⟩ := by simp [c1]
        rw [List.length_set] at h7
        simp -implicitDefEqProofs only [fns_8, c8, go_sem, Nat.reduceShiftRight, Nat.reduceAnd, reduceIte, reduceCtorEq, Nat.reduceEqDiff, Nat.reduceAdd, Nat.reduceMul, Nat.reduceSub, Nat.reduceLT, Nat.reduceLeDiff, Nat.reduceBEq, Nat.reduceBNe, Int.reduceToNat, Int.reduceLT, Int.reduceLE, Int.reduceEq, Int.reduceNe, Int.reduceMul, Int.reduceAdd, Int.reduceSub, Int.reduceNeg, c8_0, h0, getD_map rwC hx, rwC, g1, g2, g3, g4, g5, g6, g7, g8, g9, h2, h8, hl, c0, c1, c2, c3, getD_map bzC hb, getD_map bzC hy, bzC, setBz, List.set_set, List.length_set]
        exact h7
    · have e : addLv lv out x = out := by unfold addLv; rw [if_neg hl]
      rw [e] at h7 ⊢
      simp -implicitDefEqProofs only [fns_8, c8, go_sem, Nat.reduceShiftRight, Nat.reduceAnd, reduceIte, reduceCtorEq, Nat.reduceEqDiff, Nat.reduceAdd, Nat.reduceMul, Nat.reduceSub, Nat.reduceLT, Nat.reduceLeDiff, Nat.reduceBEq, Nat.reduceBNe, Int.reduceToNat, Int.reduceLT, Int.reduceLE, Int.reduceEq, Int.reduceNe, Int.reduceMul, Int.reduceAdd, Int.reduceSub, Int.reduceNeg, c8_0, h0, getD_map rwC hx, rwC, h2, h8, hl]
      exact h7
end Go.Proofs.Ytpjdoblfdeioaaa
