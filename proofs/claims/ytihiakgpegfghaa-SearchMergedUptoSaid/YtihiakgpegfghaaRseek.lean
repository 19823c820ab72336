/- The library's searches (slices.IndexFunc, ContainsFunc ..) over closures. Own work. -/
import Derived.Test.YtihiakgpegfghaaQcode
import Derived.Test.YtihiakgpegfghaaRrg
set_option linter.unusedVariables false
set_option linter.unusedSimpArgs false
namespace Go.Proofs.Ytihiakgpegfghaa
open Go Go.Pi
def fi {α : Type} (p : α → Bool) : List α → Nat → Option Nat
  | [], _ => none
  | r :: l, i => if p r = true then some i else fi p l (i + 1)
def fiV : Option Nat → Int
  | some j => (j : Int)
  | none => -1
theorem fi_any {α : Type} (p : α → Bool) : ∀ (l : List α) (i : Nat), (decide (0 ≤ fiV (fi p l i))) = l.any p
  | [], i => rfl
  | r :: l, i => by
    unfold fi
    split
    · rename_i h
      simp [fiV, h]
    · rename_i h
      rw [fi_any p l (i + 1)]
      simp [h]
set_option maxHeartbeats 1000000 in
theorem idxL_Spn (ln : Bool) (l : List Spn) (g : Nat) (p : Spn → Bool) (hg : cx.md g = [0]) (hs : cx.srt g = none) (hM : (l.length : Int) ≤ 9223372036854775807) (hcall : ∀ e ∈ l, Cal cx g [.ag (spC e)] = some ([.s (.bool (p e))], [])) : ∀ (n i : Nat), i + n = l.length → 
   ∃ f H, Pi.Loop (exec cx (Cal cx) c35_0) (Rst Try.prog ([(0, none), (1, none), (7, none), (8, none)], [])) (St.mk (sF [(0, .sh ln (l.map spC)), (1, .fn g []), (7, .s (.int .i64 l.length)), (8, .s (.int .i64 i))]) (hF [])) = some ((match fi p (l.drop i) i with | none => .ex 0 | some _ => .ret), St.mk f H) ∧ ∀ j, fi p (l.drop i) i = some j → f 4 = .s (.int .i64 j) := by
  intro n
  induction n with
  | zero =>
    intro i h
    have h0 : ¬ (i : Int) < (l.length : Int) := by omega
    rw [Loop_eq, drop_end (by omega)]
    simp -implicitDefEqProofs only [fns_35, c35, go_sem, Nat.reduceShiftRight, Nat.reduceAnd, reduceIte, reduceCtorEq, Nat.reduceEqDiff, Nat.reduceAdd, Nat.reduceMul, Nat.reduceSub, Nat.reduceLT, Nat.reduceLeDiff, Nat.reduceBEq, Nat.reduceBNe, Int.reduceToNat, Int.reduceLT, Int.reduceLE, Int.reduceEq, Int.reduceNe, Int.reduceMul, Int.reduceAdd, Int.reduceSub, Int.reduceNeg, c35_0, h0, fi]
    first | exact ⟨_, _, rfl, fun j hj => by cases hj⟩ | exact ⟨_, _, rfl⟩
  | succ n ih =>
    intro i h
    have h0 : (i : Int) < (l.length : Int) := by omega
    obtain ⟨x, hx⟩ := get_of_lt (l := l) (i := i) (by omega)
    have h6 := hcall _ (mem_get hx)
    have h7 := ih (i + 1) (by omega)
    have h8 : IntKind.i64.wrap ((i : Int) + 1) = ((i + 1 : Nat) : Int) := by rw [wrap64_id] <;> omega
    rw [Loop_eq, drop_get hx]
    try simp only [spC] at h6
    simp -implicitDefEqProofs only [fns_35, c35, go_sem, Nat.reduceShiftRight, Nat.reduceAnd, reduceIte, reduceCtorEq, Nat.reduceEqDiff, Nat.reduceAdd, Nat.reduceMul, Nat.reduceSub, Nat.reduceLT, Nat.reduceLeDiff, Nat.reduceBEq, Nat.reduceBNe, Int.reduceToNat, Int.reduceLT, Int.reduceLE, Int.reduceEq, Int.reduceNe, Int.reduceMul, Int.reduceAdd, Int.reduceSub, Int.reduceNeg, c35_0, h0, hg, hs, fi, getD_map spC hx, h6, spC]
    cases hp : p x
    · simp -implicitDefEqProofs only [fns_35, c35, go_sem, Nat.reduceShiftRight, Nat.reduceAnd, reduceIte, reduceCtorEq, Nat.reduceEqDiff, Nat.reduceAdd, Nat.reduceMul, Nat.reduceSub, Nat.reduceLT, Nat.reduceLeDiff, Nat.reduceBEq, Nat.reduceBNe, Int.reduceToNat, Int.reduceLT, Int.reduceLE, Int.reduceEq, Int.reduceNe, Int.reduceMul, Int.reduceAdd, Int.reduceSub, Int.reduceNeg, c35_0, h8]
      exact h7
    · simp -implicitDefEqProofs only [fns_35, c35, go_sem, Nat.reduceShiftRight, Nat.reduceAnd, reduceIte, reduceCtorEq, Nat.reduceEqDiff, Nat.reduceAdd, Nat.reduceMul, Nat.reduceSub, Nat.reduceLT, Nat.reduceLeDiff, Nat.reduceBEq, Nat.reduceBNe, Int.reduceToNat, Int.reduceLT, Int.reduceLE, Int.reduceEq, Int.reduceNe, Int.reduceMul, Int.reduceAdd, Int.reduceSub, Int.reduceNeg, c35_0, h8]
      first | exact ⟨_, _, rfl, fun j hj => by cases hj; rfl⟩ | exact ⟨_, _, rfl, rfl⟩
set_option maxHeartbeats 1000000 in
theorem idx_Spn (ln : Bool) (l : List Spn) (g : Nat) (p : Spn → Bool) (hg : cx.md g = [0]) (hs : cx.srt g = none) (hM : (l.length : Int) ≤ 9223372036854775807) (hcall : ∀ e ∈ l, Cal cx g [.ag (spC e)] = some ([.s (.bool (p e))], [])) :
    Cal cx 35 [.sh ln (l.map spC), .fn g []] = some ([.s (.int .i64 (fiV (fi p l 0)))], []) := by
  obtain ⟨f, H, h1, h2⟩ := idxL_Spn ln l g  p hg hs hM hcall l.length 0 (by omega)
  rw [Cal_eq]
  simp -implicitDefEqProofs only [fns_35, c35, go_sem, Nat.reduceShiftRight, Nat.reduceAnd, reduceIte, reduceCtorEq, Nat.reduceEqDiff, Nat.reduceAdd, Nat.reduceMul, Nat.reduceSub, Nat.reduceLT, Nat.reduceLeDiff, Nat.reduceBEq, Nat.reduceBNe, Int.reduceToNat, Int.reduceLT, Int.reduceLE, Int.reduceEq, Int.reduceNe, Int.reduceMul, Int.reduceAdd, Int.reduceSub, Int.reduceNeg]
  simp only [Int.ofNat_zero, List.drop_zero] at h1 h2
  rw [h1]
  cases hf : fi p l 0 with
  | none =>
    simp -implicitDefEqProofs only [fns_35, c35, go_sem, Nat.reduceShiftRight, Nat.reduceAnd, reduceIte, reduceCtorEq, Nat.reduceEqDiff, Nat.reduceAdd, Nat.reduceMul, Nat.reduceSub, Nat.reduceLT, Nat.reduceLeDiff, Nat.reduceBEq, Nat.reduceBNe, Int.reduceToNat, Int.reduceLT, Int.reduceLE, Int.reduceEq, Int.reduceNe, Int.reduceMul, Int.reduceAdd, Int.reduceSub, Int.reduceNeg, fiV]
  | some j =>
    have h3 := h2 j hf
    simp -implicitDefEqProofs only [fns_35, c35, go_sem, Nat.reduceShiftRight, Nat.reduceAnd, reduceIte, reduceCtorEq, Nat.reduceEqDiff, Nat.reduceAdd, Nat.reduceMul, Nat.reduceSub, Nat.reduceLT, Nat.reduceLeDiff, Nat.reduceBEq, Nat.reduceBNe, Int.reduceToNat, Int.reduceLT, Int.reduceLE, Int.reduceEq, Int.reduceNe, Int.reduceMul, Int.reduceAdd, Int.reduceSub, Int.reduceNeg, fiV, h3]
set_option maxHeartbeats 1000000 in
theorem any_Spn (ln : Bool) (l : List Spn) (g : Nat) (p : Spn → Bool) (hg : cx.md g = [0]) (hs : cx.srt g = none) (hM : (l.length : Int) ≤ 9223372036854775807) (hcall : ∀ e ∈ l, Cal cx g [.ag (spC e)] = some ([.s (.bool (p e))], [])) :
    Cal cx 30 [.sh ln (l.map spC), .fn g []] = some ([.s (.bool (l.any p))], []) := by
  have h1 := idx_Spn ln l g  p hg hs hM hcall
  rw [Cal_eq]
  simp -implicitDefEqProofs only [fns_30, c30, go_sem, Nat.reduceShiftRight, Nat.reduceAnd, reduceIte, reduceCtorEq, Nat.reduceEqDiff, Nat.reduceAdd, Nat.reduceMul, Nat.reduceSub, Nat.reduceLT, Nat.reduceLeDiff, Nat.reduceBEq, Nat.reduceBNe, Int.reduceToNat, Int.reduceLT, Int.reduceLE, Int.reduceEq, Int.reduceNe, Int.reduceMul, Int.reduceAdd, Int.reduceSub, Int.reduceNeg, h1, fi_any]
set_option maxHeartbeats 1000000 in
theorem idxL_SpnC (ln : Bool) (l : List Spn) (g : Nat) (lc : Bool) (cs : List PV) (p : Spn → Bool) (hg : cx.md g = [0, 0]) (hs : cx.srt g = none) (hM : (l.length : Int) ≤ 9223372036854775807) (hcall : ∀ e ∈ l, Cal cx g [.ag (spC e), .sa lc cs] = some ([.s (.bool (p e))], [])) : ∀ (n i : Nat), i + n = l.length → 
   ∃ f H, Pi.Loop (exec cx (Cal cx) c35_0) (Rst Try.prog ([(0, none), (1, none), (7, none), (8, none)], [])) (St.mk (sF [(0, .sh ln (l.map spC)), (1, .fn g [.sa lc cs]), (7, .s (.int .i64 l.length)), (8, .s (.int .i64 i))]) (hF [])) = some ((match fi p (l.drop i) i with | none => .ex 0 | some _ => .ret), St.mk f H) ∧ ∀ j, fi p (l.drop i) i = some j → f 4 = .s (.int .i64 j) := by
  intro n
  induction n with
  | zero =>
    intro i h
    have h0 : ¬ (i : Int) < (l.length : Int) := by omega
    rw [Loop_eq, drop_end (by omega)]
    simp -implicitDefEqProofs only [fns_35, c35, go_sem, Nat.reduceShiftRight, Nat.reduceAnd, reduceIte, reduceCtorEq, Nat.reduceEqDiff, Nat.reduceAdd, Nat.reduceMul, Nat.reduceSub, Nat.reduceLT, Nat.reduceLeDiff, Nat.reduceBEq, Nat.reduceBNe, Int.reduceToNat, Int.reduceLT, Int.reduceLE, Int.reduceEq, Int.reduceNe, Int.reduceMul, Int.reduceAdd, Int.reduceSub, Int.reduceNeg, c35_0, h0, fi]
    first | exact ⟨_, _, rfl, fun j hj => by cases hj⟩ | exact ⟨_, _, rfl⟩
  | succ n ih =>
    intro i h
    have h0 : (i : Int) < (l.length : Int) := by omega
    obtain ⟨x, hx⟩ := get_of_lt (l := l) (i := i) (by omega)
    have h6 := hcall _ (mem_get hx)
    have h7 := ih (i + 1) (by omega)
    have h8 : IntKind.i64.wrap ((i : Int) + 1) = ((i + 1 : Nat) : Int) := by rw [wrap64_id] <;> omega
    rw [Loop_eq, drop_get hx]
    try simp only [spC] at h6
    simp -implicitDefEqProofs only [fns_35, c35, go_sem, Nat.reduceShiftRight, Nat.reduceAnd, reduceIte, reduceCtorEq, Nat.reduceEqDiff, Nat.reduceAdd, Nat.reduceMul, Nat.reduceSub, Nat.reduceLT, Nat.reduceLeDiff, Nat.reduceBEq, Nat.reduceBNe, Int.reduceToNat, Int.reduceLT, Int.reduceLE, Int.reduceEq, Int.reduceNe, Int.reduceMul, Int.reduceAdd, Int.reduceSub, Int.reduceNeg, c35_0, h0, hg, hs, fi, getD_map spC hx, h6, spC]
    cases hp : p x
    · simp -implicitDefEqProofs only [fns_35, c35, go_sem, Nat.reduceShiftRight, Nat.reduceAnd, reduceIte, reduceCtorEq, Nat.reduceEqDiff, Nat.reduceAdd, Nat.reduceMul, Nat.reduceSub, Nat.reduceLT, Nat.reduceLeDiff, Nat.reduceBEq, Nat.reduceBNe, Int.reduceToNat, Int.reduceLT, Int.reduceLE, Int.reduceEq, Int.reduceNe, Int.reduceMul, Int.reduceAdd, Int.reduceSub, Int.reduceNeg, c35_0, h8]
      exact h7
    · simp -implicitDefEqProofs only [fns_35, c35, go_sem, Nat.reduceShiftRight, Nat.reduceAnd, reduceIte, reduceCtorEq, Nat.reduceEqDiff, Nat.reduceAdd, Nat.reduceMul, Nat.reduceSub, Nat.reduceLT, Nat.reduceLeDiff, Nat.reduceBEq, Nat.reduceBNe, Int.reduceToNat, Int.reduceLT, Int.reduceLE, Int.reduceEq, Int.reduceNe, Int.reduceMul, Int.reduceAdd, Int.reduceSub, Int.reduceNeg, c35_0, h8]
      first | exact ⟨_, _, rfl, fun j hj => by cases hj; rfl⟩ | exact ⟨_, _, rfl, rfl⟩
set_option maxHeartbeats 1000000 in
theorem idx_SpnC (ln : Bool) (l : List Spn) (g : Nat) (lc : Bool) (cs : List PV) (p : Spn → Bool) (hg : cx.md g = [0, 0]) (hs : cx.srt g = none) (hM : (l.length : Int) ≤ 9223372036854775807) (hcall : ∀ e ∈ l, Cal cx g [.ag (spC e), .sa lc cs] = some ([.s (.bool (p e))], [])) :
    Cal cx 35 [.sh ln (l.map spC), .fn g [.sa lc cs]] = some ([.s (.int .i64 (fiV (fi p l 0)))], []) := by
  obtain ⟨f, H, h1, h2⟩ := idxL_SpnC ln l g lc cs p hg hs hM hcall l.length 0 (by omega)
  rw [Cal_eq]
  simp -implicitDefEqProofs only [fns_35, c35, go_sem, Nat.reduceShiftRight, Nat.reduceAnd, reduceIte, reduceCtorEq, Nat.reduceEqDiff, Nat.reduceAdd, Nat.reduceMul, Nat.reduceSub, Nat.reduceLT, Nat.reduceLeDiff, Nat.reduceBEq, Nat.reduceBNe, Int.reduceToNat, Int.reduceLT, Int.reduceLE, Int.reduceEq, Int.reduceNe, Int.reduceMul, Int.reduceAdd, Int.reduceSub, Int.reduceNeg]
  simp only [Int.ofNat_zero, List.drop_zero] at h1 h2
  rw [h1]
  cases hf : fi p l 0 with
  | none =>
    simp -implicitDefEqProofs only [fns_35, c35, go_sem, Nat.reduceShiftRight, Nat.reduceAnd, reduceIte, reduceCtorEq, Nat.reduceEqDiff, Nat.reduceAdd, Nat.reduceMul, Nat.reduceSub, Nat.reduceLT, Nat.reduceLeDiff, Nat.reduceBEq, Nat.reduceBNe, Int.reduceToNat, Int.reduceLT, Int.reduceLE, Int.reduceEq, Int.reduceNe, Int.reduceMul, Int.reduceAdd, Int.reduceSub, Int.reduceNeg, fiV]
  | some j =>
    have h3 := h2 j hf
    simp -implicitDefEqProofs only [fns_35, c35, go_sem, Nat.reduceShiftRight, Nat.reduceAnd, reduceIte, reduceCtorEq, Nat.reduceEqDiff, Nat.reduceAdd, Nat.reduceMul, Nat.reduceSub, Nat.reduceLT, Nat.reduceLeDiff, Nat.reduceBEq, Nat.reduceBNe, Int.reduceToNat, Int.reduceLT, Int.reduceLE, Int.reduceEq, Int.reduceNe, Int.reduceMul, Int.reduceAdd, Int.reduceSub, Int.reduceNeg, fiV, h3]
set_option maxHeartbeats 1000000 in
theorem any_SpnC (ln : Bool) (l : List Spn) (g : Nat) (lc : Bool) (cs : List PV) (p : Spn → Bool) (hg : cx.md g = [0, 0]) (hs : cx.srt g = none) (hM : (l.length : Int) ≤ 9223372036854775807) (hcall : ∀ e ∈ l, Cal cx g [.ag (spC e), .sa lc cs] = some ([.s (.bool (p e))], [])) :
    Cal cx 30 [.sh ln (l.map spC), .fn g [.sa lc cs]] = some ([.s (.bool (l.any p))], []) := by
  have h1 := idx_SpnC ln l g lc cs p hg hs hM hcall
  rw [Cal_eq]
  simp -implicitDefEqProofs only [fns_30, c30, go_sem, Nat.reduceShiftRight, Nat.reduceAnd, reduceIte, reduceCtorEq, Nat.reduceEqDiff, Nat.reduceAdd, Nat.reduceMul, Nat.reduceSub, Nat.reduceLT, Nat.reduceLeDiff, Nat.reduceBEq, Nat.reduceBNe, Int.reduceToNat, Int.reduceLT, Int.reduceLE, Int.reduceEq, Int.reduceNe, Int.reduceMul, Int.reduceAdd, Int.reduceSub, Int.reduceNeg, h1, fi_any]
end Go.Proofs.Ytihiakgpegfghaa
