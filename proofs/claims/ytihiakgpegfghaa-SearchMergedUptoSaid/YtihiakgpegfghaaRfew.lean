/- Few enough: the laws' own measure. Own work. -/
import Derived.Test.YtihiakgpegfghaaQcode
import Derived.Test.YtihiakgpegfghaaRrg
set_option linter.unusedVariables false
set_option linter.unusedSimpArgs false
namespace Go.Proofs.Ytihiakgpegfghaa
open Go Go.Pi
set_option maxHeartbeats 2000000
set_option maxRecDepth 10000
def fewA (a : Atr) : Bool := decide ((a.key.size : Int) ≤ 100) && decide ((a.val.size : Int) ≤ 100)
def fewS (s : Spn) : Bool := decide ((s.svc.size : Int) ≤ 100) && decide ((s.op.size : Int) ≤ 100) && decide ((s.attrs.length : Int) ≤ 20) && s.attrs.all fewA
def fewAll (l : List Spn) : Bool := decide ((l.length : Int) ≤ 60) && l.all fewS
def fewE : List Epi → Int → Bool
  | [], n => decide (n ≤ 120)
  | e :: l, n => if n < 1000 then fewAll e.spans && fewE l (n + 1 + (e.spans.length : Int)) else false
theorem FewSLoop (s : Spn) (hM : (s.attrs.length : Int) ≤ 9223372036854775807) : ∀ (n i : Nat), i + n = s.attrs.length →
   ∃ f H, Pi.Loop (exec cx (Cal cx) c10_0) (Rst Try.prog ([(1, none), (3, none)], [])) (St.mk (sF [(1, .ad 1 0 0 0), (3, .s (.int .i64 i))]) (hF [(1, some (.row 0 30 10 true [spC s]))])) = some ((if (s.attrs.drop i).all fewA = true then .ex 0 else .ret), St.mk f H) ∧ ((s.attrs.drop i).all fewA = false → f 2 = .s (.bool false)) := by
  intro n
  induction n with
  | zero =>
    intro i h
    have h0 : ¬ (i : Int) < (s.attrs.length : Int) := by omega
    rw [Loop_eq, drop_end (by omega)]
    simp -implicitDefEqProofs only [fns_10, c10, go_sem, Nat.reduceShiftRight, Nat.reduceAnd, reduceIte, reduceCtorEq, Nat.reduceEqDiff, Nat.reduceAdd, Nat.reduceMul, Nat.reduceSub, Nat.reduceLT, Nat.reduceLeDiff, Nat.reduceBEq, Nat.reduceBNe, Int.reduceToNat, Int.reduceLT, Int.reduceLE, Int.reduceEq, Int.reduceNe, Int.reduceMul, Int.reduceAdd, Int.reduceSub, Int.reduceNeg, c10_0, h0, spC]
    (first | exact ⟨_, _, rfl⟩ | (refine ⟨_, _, rfl, ?_⟩; first | exact (fun _ => rfl) | exact (fun h => by cases h) | rfl | exact ⟨rfl, rfl⟩ | exact ⟨fun _ => rfl, fun _ => rfl⟩ | exact ⟨rfl, rfl, rfl⟩ | exact ⟨fun _ => rfl, rfl, rfl, rfl⟩ | exact ⟨rfl, rfl, rfl, rfl⟩))
  | succ n ih =>
    intro i h
    have h0 : (i : Int) < (s.attrs.length : Int) := by omega
    obtain ⟨x, hx⟩ := get_of_lt (l := s.attrs) (i := i) (by omega)
    have h8 : IntKind.i64.wrap ((i : Int) + 1) = ((i + 1 : Nat) : Int) := by rw [wrap64_id] <;> omega
    have h7 := ih (i + 1) (by omega)
    simp only [spC] at h7
    rw [Loop_eq, drop_get hx, List.all_cons]
    by_cases hA : (100 : Int) < (x.key.size : Int)
    · have e : fewA x = false := by unfold fewA; simp; omega
      simp -implicitDefEqProofs only [fns_10, c10, go_sem, Nat.reduceShiftRight, Nat.reduceAnd, reduceIte, reduceCtorEq, Nat.reduceEqDiff, Nat.reduceAdd, Nat.reduceMul, Nat.reduceSub, Nat.reduceLT, Nat.reduceLeDiff, Nat.reduceBEq, Nat.reduceBNe, Int.reduceToNat, Int.reduceLT, Int.reduceLE, Int.reduceEq, Int.reduceNe, Int.reduceMul, Int.reduceAdd, Int.reduceSub, Int.reduceNeg, c10_0, h0, getD_map atC hx, spC, atC, hA, e]
      (first | exact ⟨_, _, rfl⟩ | (refine ⟨_, _, rfl, ?_⟩; first | exact (fun _ => rfl) | exact (fun h => by cases h) | rfl | exact ⟨rfl, rfl⟩ | exact ⟨fun _ => rfl, fun _ => rfl⟩ | exact ⟨rfl, rfl, rfl⟩ | exact ⟨fun _ => rfl, rfl, rfl, rfl⟩ | exact ⟨rfl, rfl, rfl, rfl⟩))
    · by_cases hB : (100 : Int) < (x.val.size : Int)
      · have e : fewA x = false := by unfold fewA; simp; omega
        simp -implicitDefEqProofs only [fns_10, c10, go_sem, Nat.reduceShiftRight, Nat.reduceAnd, reduceIte, reduceCtorEq, Nat.reduceEqDiff, Nat.reduceAdd, Nat.reduceMul, Nat.reduceSub, Nat.reduceLT, Nat.reduceLeDiff, Nat.reduceBEq, Nat.reduceBNe, Int.reduceToNat, Int.reduceLT, Int.reduceLE, Int.reduceEq, Int.reduceNe, Int.reduceMul, Int.reduceAdd, Int.reduceSub, Int.reduceNeg, c10_0, h0, getD_map atC hx, spC, atC, hA, hB, e]
        (first | exact ⟨_, _, rfl⟩ | (refine ⟨_, _, rfl, ?_⟩; first | exact (fun _ => rfl) | exact (fun h => by cases h) | rfl | exact ⟨rfl, rfl⟩ | exact ⟨fun _ => rfl, fun _ => rfl⟩ | exact ⟨rfl, rfl, rfl⟩ | exact ⟨fun _ => rfl, rfl, rfl, rfl⟩ | exact ⟨rfl, rfl, rfl, rfl⟩))
      · have e : fewA x = true := by unfold fewA; simp; omega
        simp -implicitDefEqProofs only [fns_10, c10, go_sem, Nat.reduceShiftRight, Nat.reduceAnd, reduceIte, reduceCtorEq, Nat.reduceEqDiff, Nat.reduceAdd, Nat.reduceMul, Nat.reduceSub, Nat.reduceLT, Nat.reduceLeDiff, Nat.reduceBEq, Nat.reduceBNe, Int.reduceToNat, Int.reduceLT, Int.reduceLE, Int.reduceEq, Int.reduceNe, Int.reduceMul, Int.reduceAdd, Int.reduceSub, Int.reduceNeg, c10_0, h0, getD_map atC hx, spC, atC, hA, hB, e, h8]
        exact h7
theorem FewS (s : Spn) (hM : (s.attrs.length : Int) ≤ 9223372036854775807) : Cal cx 10 [.ag (spC s)] = some ([.s (.bool (fewS s))], []) := by
  obtain ⟨f, H, h2, h3⟩ := FewSLoop s hM s.attrs.length 0 (by omega)
  simp only [List.drop_zero, Int.cast_ofNat_Int, spC] at h2 h3
  rw [Cal_eq]
  unfold fewS
  by_cases hA : (100 : Int) < (s.svc.size : Int)
  · have e : ¬ (s.svc.size : Int) ≤ 100 := by omega
    simp -implicitDefEqProofs only [fns_10, c10, go_sem, Nat.reduceShiftRight, Nat.reduceAnd, reduceIte, reduceCtorEq, Nat.reduceEqDiff, Nat.reduceAdd, Nat.reduceMul, Nat.reduceSub, Nat.reduceLT, Nat.reduceLeDiff, Nat.reduceBEq, Nat.reduceBNe, Int.reduceToNat, Int.reduceLT, Int.reduceLE, Int.reduceEq, Int.reduceNe, Int.reduceMul, Int.reduceAdd, Int.reduceSub, Int.reduceNeg, spC, hA, e]
  · by_cases hB : (100 : Int) < (s.op.size : Int)
    · have e : ¬ (s.op.size : Int) ≤ 100 := by omega
      simp -implicitDefEqProofs only [fns_10, c10, go_sem, Nat.reduceShiftRight, Nat.reduceAnd, reduceIte, reduceCtorEq, Nat.reduceEqDiff, Nat.reduceAdd, Nat.reduceMul, Nat.reduceSub, Nat.reduceLT, Nat.reduceLeDiff, Nat.reduceBEq, Nat.reduceBNe, Int.reduceToNat, Int.reduceLT, Int.reduceLE, Int.reduceEq, Int.reduceNe, Int.reduceMul, Int.reduceAdd, Int.reduceSub, Int.reduceNeg, spC, hA, hB, e]
    · by_cases hC : (20 : Int) < (s.attrs.length : Int)
      · have e : ¬ (s.attrs.length : Int) ≤ 20 := by omega
        simp -implicitDefEqProofs only [fns_10, c10, go_sem, Nat.reduceShiftRight, Nat.reduceAnd, reduceIte, reduceCtorEq, Nat.reduceEqDiff, Nat.reduceAdd, Nat.reduceMul, Nat.reduceSub, Nat.reduceLT, Nat.reduceLeDiff, Nat.reduceBEq, Nat.reduceBNe, Int.reduceToNat, Int.reduceLT, Int.reduceLE, Int.reduceEq, Int.reduceNe, Int.reduceMul, Int.reduceAdd, Int.reduceSub, Int.reduceNeg, spC, hA, hB, hC, e]
      · have e1 : (s.svc.size : Int) ≤ 100 := by omega
        have e2 : (s.op.size : Int) ≤ 100 := by omega
        have e3 : (s.attrs.length : Int) ≤ 20 := by omega
        simp -implicitDefEqProofs only [fns_10, c10, go_sem, Nat.reduceShiftRight, Nat.reduceAnd, reduceIte, reduceCtorEq, Nat.reduceEqDiff, Nat.reduceAdd, Nat.reduceMul, Nat.reduceSub, Nat.reduceLT, Nat.reduceLeDiff, Nat.reduceBEq, Nat.reduceBNe, Int.reduceToNat, Int.reduceLT, Int.reduceLE, Int.reduceEq, Int.reduceNe, Int.reduceMul, Int.reduceAdd, Int.reduceSub, Int.reduceNeg, spC, hA, hB, hC, e1, e2, e3]
        rw [h2]
        cases hD : s.attrs.all fewA
        · simp -implicitDefEqProofs only [fns_10, c10, go_sem, Nat.reduceShiftRight, Nat.reduceAnd, reduceIte, reduceCtorEq, Nat.reduceEqDiff, Nat.reduceAdd, Nat.reduceMul, Nat.reduceSub, Nat.reduceLT, Nat.reduceLeDiff, Nat.reduceBEq, Nat.reduceBNe, Int.reduceToNat, Int.reduceLT, Int.reduceLE, Int.reduceEq, Int.reduceNe, Int.reduceMul, Int.reduceAdd, Int.reduceSub, Int.reduceNeg, h3 hD]
        · simp -implicitDefEqProofs only [fns_10, c10, go_sem, Nat.reduceShiftRight, Nat.reduceAnd, reduceIte, reduceCtorEq, Nat.reduceEqDiff, Nat.reduceAdd, Nat.reduceMul, Nat.reduceSub, Nat.reduceLT, Nat.reduceLeDiff, Nat.reduceBEq, Nat.reduceBNe, Int.reduceToNat, Int.reduceLT, Int.reduceLE, Int.reduceEq, Int.reduceNe, Int.reduceMul, Int.reduceAdd, Int.reduceSub, Int.reduceNeg]
theorem FewAllLoop (ln : Bool) (l : List Spn) (hM : (l.length : Int) ≤ 9223372036854775807) (hA : Att l) : ∀ (n i : Nat), i + n = l.length →
   ∃ f H, Pi.Loop (exec cx (Cal cx) c28_0) (Rst Try.prog ([(0, none), (3, none)], [])) (St.mk (sF [(0, .sh ln (l.map spC)), (3, .s (.int .i64 i))]) (hF [])) = some ((if (l.drop i).all fewS = true then .ex 0 else .ret), St.mk f H) ∧ ((l.drop i).all fewS = false → f 2 = .s (.bool false)) := by
  intro n
  induction n with
  | zero =>
    intro i h
    have h0 : ¬ (i : Int) < (l.length : Int) := by omega
    rw [Loop_eq, drop_end (by omega)]
    simp -implicitDefEqProofs only [fns_28, c28, go_sem, Nat.reduceShiftRight, Nat.reduceAnd, reduceIte, reduceCtorEq, Nat.reduceEqDiff, Nat.reduceAdd, Nat.reduceMul, Nat.reduceSub, Nat.reduceLT, Nat.reduceLeDiff, Nat.reduceBEq, Nat.reduceBNe, Int.reduceToNat, Int.reduceLT, Int.reduceLE, Int.reduceEq, Int.reduceNe, Int.reduceMul, Int.reduceAdd, Int.reduceSub, Int.reduceNeg, c28_0, h0]
    (first | exact ⟨_, _, rfl⟩ | (refine ⟨_, _, rfl, ?_⟩; first | exact (fun _ => rfl) | exact (fun h => by cases h) | rfl | exact ⟨rfl, rfl⟩ | exact ⟨fun _ => rfl, fun _ => rfl⟩ | exact ⟨rfl, rfl, rfl⟩ | exact ⟨fun _ => rfl, rfl, rfl, rfl⟩ | exact ⟨rfl, rfl, rfl, rfl⟩))
  | succ n ih =>
    intro i h
    have h0 : (i : Int) < (l.length : Int) := by omega
    obtain ⟨x, hx⟩ := get_of_lt (l := l) (i := i) (by omega)
    have h8 : IntKind.i64.wrap ((i : Int) + 1) = ((i + 1 : Nat) : Int) := by rw [wrap64_id] <;> omega
    have h7 := ih (i + 1) (by omega)
    have h1 := FewS x (hA x (mem_get hx))
    simp only [spC] at h1
    rw [Loop_eq, drop_get hx, List.all_cons]
    cases hS : fewS x
    · simp -implicitDefEqProofs only [fns_28, c28, go_sem, Nat.reduceShiftRight, Nat.reduceAnd, reduceIte, reduceCtorEq, Nat.reduceEqDiff, Nat.reduceAdd, Nat.reduceMul, Nat.reduceSub, Nat.reduceLT, Nat.reduceLeDiff, Nat.reduceBEq, Nat.reduceBNe, Int.reduceToNat, Int.reduceLT, Int.reduceLE, Int.reduceEq, Int.reduceNe, Int.reduceMul, Int.reduceAdd, Int.reduceSub, Int.reduceNeg, c28_0, h0, getD_map spC hx, spC, h1, hS]
      (first | exact ⟨_, _, rfl⟩ | (refine ⟨_, _, rfl, ?_⟩; first | exact (fun _ => rfl) | exact (fun h => by cases h) | rfl | exact ⟨rfl, rfl⟩ | exact ⟨fun _ => rfl, fun _ => rfl⟩ | exact ⟨rfl, rfl, rfl⟩ | exact ⟨fun _ => rfl, rfl, rfl, rfl⟩ | exact ⟨rfl, rfl, rfl, rfl⟩))
    · simp -implicitDefEqProofs only [fns_28, c28, go_sem, Nat.reduceShiftRight, Nat.reduceAnd, reduceIte, reduceCtorEq, Nat.reduceEqDiff, Nat.reduceAdd, Nat.reduceMul, Nat.reduceSub, Nat.reduceLT, Nat.reduceLeDiff, Nat.reduceBEq, Nat.reduceBNe, Int.reduceToNat, Int.reduceLT, Int.reduceLE, Int.reduceEq, Int.reduceNe, Int.reduceMul, Int.reduceAdd, Int.reduceSub, Int.reduceNeg, c28_0, h0, getD_map spC hx, spC, h1, hS, h8]
      exact h7
theorem FewAll (ln : Bool) (l : List Spn) (hM : (l.length : Int) ≤ 9223372036854775807) (hA : Att l) : Cal cx 28 [.sh ln (l.map spC)] = some ([.s (.bool (fewAll l))], []) := by
  obtain ⟨f, H, h2, h3⟩ := FewAllLoop ln l hM hA l.length 0 (by omega)
  simp only [List.drop_zero, Int.cast_ofNat_Int] at h2 h3
  rw [Cal_eq]
  unfold fewAll
  by_cases hC : (60 : Int) < (l.length : Int)
  · have e : ¬ (l.length : Int) ≤ 60 := by omega
    simp -implicitDefEqProofs only [fns_28, c28, go_sem, Nat.reduceShiftRight, Nat.reduceAnd, reduceIte, reduceCtorEq, Nat.reduceEqDiff, Nat.reduceAdd, Nat.reduceMul, Nat.reduceSub, Nat.reduceLT, Nat.reduceLeDiff, Nat.reduceBEq, Nat.reduceBNe, Int.reduceToNat, Int.reduceLT, Int.reduceLE, Int.reduceEq, Int.reduceNe, Int.reduceMul, Int.reduceAdd, Int.reduceSub, Int.reduceNeg, hC, e]
  · have e : (l.length : Int) ≤ 60 := by omega
    simp -implicitDefEqProofs only [fns_28, c28, go_sem, Nat.reduceShiftRight, Nat.reduceAnd, reduceIte, reduceCtorEq, Nat.reduceEqDiff, Nat.reduceAdd, Nat.reduceMul, Nat.reduceSub, Nat.reduceLT, Nat.reduceLeDiff, Nat.reduceBEq, Nat.reduceBNe, Int.reduceToNat, Int.reduceLT, Int.reduceLE, Int.reduceEq, Int.reduceNe, Int.reduceMul, Int.reduceAdd, Int.reduceSub, Int.reduceNeg, hC, e]
    rw [h2]
    cases hD : l.all fewS
    · simp -implicitDefEqProofs only [fns_28, c28, go_sem, Nat.reduceShiftRight, Nat.reduceAnd, reduceIte, reduceCtorEq, Nat.reduceEqDiff, Nat.reduceAdd, Nat.reduceMul, Nat.reduceSub, Nat.reduceLT, Nat.reduceLeDiff, Nat.reduceBEq, Nat.reduceBNe, Int.reduceToNat, Int.reduceLT, Int.reduceLE, Int.reduceEq, Int.reduceNe, Int.reduceMul, Int.reduceAdd, Int.reduceSub, Int.reduceNeg, h3 hD]
    · simp -implicitDefEqProofs only [fns_28, c28, go_sem, Nat.reduceShiftRight, Nat.reduceAnd, reduceIte, reduceCtorEq, Nat.reduceEqDiff, Nat.reduceAdd, Nat.reduceMul, Nat.reduceSub, Nat.reduceLT, Nat.reduceLeDiff, Nat.reduceBEq, Nat.reduceBNe, Int.reduceToNat, Int.reduceLT, Int.reduceLE, Int.reduceEq, Int.reduceNe, Int.reduceMul, Int.reduceAdd, Int.reduceSub, Int.reduceNeg]
theorem FewELoop (ln : Bool) (l : List Epi) (hM : (l.length : Int) ≤ 9223372036854775807) (hE : Eps l) : ∀ (n i : Nat) (t : Int), i + n = l.length → 0 ≤ t → t ≤ 2000 →
   ∃ f H, Pi.Loop (exec cx (Cal cx) c22_0) (Rst Try.prog ([(0, none), (3, none), (4, none)], [])) (St.mk (sF [(0, .sh ln (l.map epC)), (3, .s (.int .i64 t)), (4, .s (.int .i64 i))]) (hF [])) = some (.ret, St.mk f H) ∧ f 2 = .s (.bool false) ∧ fewE (l.drop i) t = false ∨ ∃ f H u, Pi.Loop (exec cx (Cal cx) c22_0) (Rst Try.prog ([(0, none), (3, none), (4, none)], [])) (St.mk (sF [(0, .sh ln (l.map epC)), (3, .s (.int .i64 t)), (4, .s (.int .i64 i))]) (hF [])) = some (.ex 0, St.mk f H) ∧ f 3 = .s (.int .i64 u) ∧ fewE (l.drop i) t = decide (u ≤ 120) := by
  intro n
  induction n with
  | zero =>
    intro i t h _ _
    have h0 : ¬ (i : Int) < (l.length : Int) := by omega
    refine ⟨fun _ => .u, noH, .inr ?_⟩
    rw [Loop_eq, drop_end (by omega)]
    simp -implicitDefEqProofs only [fns_22, c22, go_sem, Nat.reduceShiftRight, Nat.reduceAnd, reduceIte, reduceCtorEq, Nat.reduceEqDiff, Nat.reduceAdd, Nat.reduceMul, Nat.reduceSub, Nat.reduceLT, Nat.reduceLeDiff, Nat.reduceBEq, Nat.reduceBNe, Int.reduceToNat, Int.reduceLT, Int.reduceLE, Int.reduceEq, Int.reduceNe, Int.reduceMul, Int.reduceAdd, Int.reduceSub, Int.reduceNeg, c22_0, h0, fewE]
    exact ⟨_, _, _, rfl, rfl, rfl⟩
  | succ n ih =>
    intro i t h ht ht2
    have h0 : (i : Int) < (l.length : Int) := by omega
    obtain ⟨x, hx⟩ := get_of_lt (l := l) (i := i) (by omega)
    have h8 : IntKind.i64.wrap ((i : Int) + 1) = ((i + 1 : Nat) : Int) := by rw [wrap64_id] <;> omega
    have h1 := FewAll false x.spans (hE x (mem_get hx)).1 (hE x (mem_get hx)).2
    rw [Loop_eq, drop_get hx]
    by_cases hb : t < 1000
    · cases hS : fewAll x.spans
      · simp -implicitDefEqProofs only [fns_22, c22, go_sem, Nat.reduceShiftRight, Nat.reduceAnd, reduceIte, reduceCtorEq, Nat.reduceEqDiff, Nat.reduceAdd, Nat.reduceMul, Nat.reduceSub, Nat.reduceLT, Nat.reduceLeDiff, Nat.reduceBEq, Nat.reduceBNe, Int.reduceToNat, Int.reduceLT, Int.reduceLE, Int.reduceEq, Int.reduceNe, Int.reduceMul, Int.reduceAdd, Int.reduceSub, Int.reduceNeg, c22_0, h0, hb, getD_map epC hx, epC, h1, hS, fewE]
        exact ⟨_, _, .inl ⟨rfl, rfl⟩⟩
      · have hl : (x.spans.length : Int) ≤ 60 := by unfold fewAll at hS; simp at hS; omega
        have w1 : IntKind.i64.wrap (t + 1) = t + 1 := by rw [wrap64_id] <;> omega
        have w2 : IntKind.i64.wrap (t + 1 + (x.spans.length : Int)) = t + 1 + (x.spans.length : Int) := by rw [wrap64_id] <;> omega
        have h7 := ih (i + 1) (t + 1 + (x.spans.length : Int)) (by omega) (by omega) (by omega)
        simp -implicitDefEqProofs only [fns_22, c22, go_sem, Nat.reduceShiftRight, Nat.reduceAnd, reduceIte, reduceCtorEq, Nat.reduceEqDiff, Nat.reduceAdd, Nat.reduceMul, Nat.reduceSub, Nat.reduceLT, Nat.reduceLeDiff, Nat.reduceBEq, Nat.reduceBNe, Int.reduceToNat, Int.reduceLT, Int.reduceLE, Int.reduceEq, Int.reduceNe, Int.reduceMul, Int.reduceAdd, Int.reduceSub, Int.reduceNeg, c22_0, h0, hb, getD_map epC hx, epC, h1, hS, fewE, w1, w2, h8]
        exact h7
    · have hb2 : ¬ t ≤ 120 := by omega
      simp -implicitDefEqProofs only [fns_22, c22, go_sem, Nat.reduceShiftRight, Nat.reduceAnd, reduceIte, reduceCtorEq, Nat.reduceEqDiff, Nat.reduceAdd, Nat.reduceMul, Nat.reduceSub, Nat.reduceLT, Nat.reduceLeDiff, Nat.reduceBEq, Nat.reduceBNe, Int.reduceToNat, Int.reduceLT, Int.reduceLE, Int.reduceEq, Int.reduceNe, Int.reduceMul, Int.reduceAdd, Int.reduceSub, Int.reduceNeg, c22_0, h0, hb, fewE]
      refine ⟨fun _ => .u, noH, .inr ⟨_, _, t, rfl, rfl, by simp [hb2]⟩⟩
theorem FewE (ln : Bool) (l : List Epi) (hM : (l.length : Int) ≤ 9223372036854775807) (hE : Eps l) : Cal cx 22 [.sh ln (l.map epC)] = some ([.s (.bool (fewE l 0))], []) := by
  obtain ⟨f, H, h⟩ := FewELoop ln l hM hE l.length 0 0 (by omega) (by omega) (by omega)
  simp only [List.drop_zero, Int.cast_ofNat_Int] at h
  rw [Cal_eq]
  rcases h with ⟨h1, h2, h3⟩ | ⟨f2, H2, u, h1, h2, h3⟩
  · rw [h3]
    simp -implicitDefEqProofs only [fns_22, c22, go_sem, Nat.reduceShiftRight, Nat.reduceAnd, reduceIte, reduceCtorEq, Nat.reduceEqDiff, Nat.reduceAdd, Nat.reduceMul, Nat.reduceSub, Nat.reduceLT, Nat.reduceLeDiff, Nat.reduceBEq, Nat.reduceBNe, Int.reduceToNat, Int.reduceLT, Int.reduceLE, Int.reduceEq, Int.reduceNe, Int.reduceMul, Int.reduceAdd, Int.reduceSub, Int.reduceNeg, h1, h2]
  · rw [h3]
    simp -implicitDefEqProofs only [fns_22, c22, go_sem, Nat.reduceShiftRight, Nat.reduceAnd, reduceIte, reduceCtorEq, Nat.reduceEqDiff, Nat.reduceAdd, Nat.reduceMul, Nat.reduceSub, Nat.reduceLT, Nat.reduceLeDiff, Nat.reduceBEq, Nat.reduceBNe, Int.reduceToNat, Int.reduceLT, Int.reduceLE, Int.reduceEq, Int.reduceNe, Int.reduceMul, Int.reduceAdd, Int.reduceSub, Int.reduceNeg, h1, h2]
theorem fewE_all : ∀ (l : List Epi) (n : Int), 0 ≤ n → fewE l n = true → (l.length : Int) + n ≤ 120 ∧ ∀ e ∈ l, fewAll e.spans = true
  | [], n, h0, h => by
    unfold fewE at h
    simp at h
    exact ⟨by simp; omega, fun e he => by cases he⟩
  | e :: l, n, h0, h => by
    unfold fewE at h
    split at h
    · simp only [Bool.and_eq_true] at h
      have := fewE_all l _ (by omega) h.2
      refine ⟨by simp only [List.length_cons]; omega, fun x hx => ?_⟩
      rcases List.mem_cons.1 hx with rfl | hx
      · exact h.1
      · exact this.2 x hx
    · cases h
end Go.Proofs.Ytihiakgpegfghaa
