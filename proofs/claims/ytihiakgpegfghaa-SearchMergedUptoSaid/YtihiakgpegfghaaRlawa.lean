/- Searching: the laws' guards and the first laws. Own work. -/
import Derived.Test.YtihiakgpegfghaaRsorted
set_option linter.unusedVariables false
set_option linter.unusedSimpArgs false
namespace Go.Proofs.Ytihiakgpegfghaa
open Go Go.Pi
set_option maxHeartbeats 2000000
set_option maxRecDepth 10000
theorem SameL (l1 l2 : Bool) (a : List Trc) (hM : (a.length : Int) ≤ 1000000000) : ∀ (n i : Nat), i + n = a.length →
   ∃ f H, Pi.Loop (exec cx (Cal cx) c13_0) (Rst Try.prog ([(0, none), (1, none), (5, none)], [])) (St.mk (sF [(0, .sh l1 (a.map trC)), (1, .sh l2 (a.map trC)), (5, .s (.int .i64 i))]) (hF [])) = some (.ex 0, St.mk f H) := by
  intro n
  induction n with
  | zero =>
    intro i h
    have h0 : ¬ (i : Int) < (a.length : Int) := by omega
    rw [Loop_eq]
    simp -implicitDefEqProofs only [fns_13, c13, go_sem, Nat.reduceShiftRight, Nat.reduceAnd, reduceIte, reduceCtorEq, Nat.reduceEqDiff, Nat.reduceAdd, Nat.reduceMul, Nat.reduceSub, Nat.reduceLT, Nat.reduceLeDiff, Nat.reduceBEq, Nat.reduceBNe, Int.reduceToNat, Int.reduceLT, Int.reduceLE, Int.reduceEq, Int.reduceNe, Int.reduceMul, Int.reduceAdd, Int.reduceSub, Int.reduceNeg, c13_0, h0]
    exact ⟨_, _, rfl⟩
  | succ n ih =>
    intro i h
    have h0 : (i : Int) < (a.length : Int) := by omega
    obtain ⟨x, hx⟩ := get_of_lt (l := a) (i := i) (by omega)
    have h8 : IntKind.i64.wrap ((i : Int) + 1) = ((i + 1 : Nat) : Int) := by rw [wrap64_id] <;> omega
    have h7 := ih (i + 1) (by omega)
    rw [Loop_eq]
    simp -implicitDefEqProofs only [fns_13, c13, go_sem, Nat.reduceShiftRight, Nat.reduceAnd, reduceIte, reduceCtorEq, Nat.reduceEqDiff, Nat.reduceAdd, Nat.reduceMul, Nat.reduceSub, Nat.reduceLT, Nat.reduceLeDiff, Nat.reduceBEq, Nat.reduceBNe, Int.reduceToNat, Int.reduceLT, Int.reduceLE, Int.reduceEq, Int.reduceNe, Int.reduceMul, Int.reduceAdd, Int.reduceSub, Int.reduceNeg, c13_0, h0, getD_map trC hx, trC, h8]
    exact h7
theorem Same (l1 l2 : Bool) (a : List Trc) (hM : (a.length : Int) ≤ 1000000000) : Cal cx 13 [.sh l1 (a.map trC), .sh l2 (a.map trC)] = some ([.s (.bool true)], []) := by
  obtain ⟨f, H, g⟩ := SameL l1 l2 a hM a.length 0 (by omega)
  simp only [Int.cast_ofNat_Int] at g
  rw [Cal_eq]
  simp -implicitDefEqProofs only [fns_13, c13, go_sem, Nat.reduceShiftRight, Nat.reduceAnd, reduceIte, reduceCtorEq, Nat.reduceEqDiff, Nat.reduceAdd, Nat.reduceMul, Nat.reduceSub, Nat.reduceLT, Nat.reduceLeDiff, Nat.reduceBEq, Nat.reduceBNe, Int.reduceToNat, Int.reduceLT, Int.reduceLE, Int.reduceEq, Int.reduceNe, Int.reduceMul, Int.reduceAdd, Int.reduceSub, Int.reduceNeg, g]
def fewQ (q : Qry) : Bool := decide ((q.svc.size : Int) ≤ 60) && decide ((q.op.size : Int) ≤ 60) && decide ((q.key.size : Int) ≤ 60) && decide ((q.val.size : Int) ≤ 60)
theorem FewQ (q : Qry) : Cal cx 9 [.ag (qC q)] = some ([.s (.bool (fewQ q))], []) := by
  rw [Cal_eq]
  unfold fewQ
  by_cases h1 : (q.svc.size : Int) ≤ 60
  · by_cases h2 : (q.op.size : Int) ≤ 60
    · by_cases h3 : (q.key.size : Int) ≤ 60
      · by_cases h4 : (q.val.size : Int) ≤ 60
        · simp -implicitDefEqProofs only [fns_9, c9, go_sem, Nat.reduceShiftRight, Nat.reduceAnd, reduceIte, reduceCtorEq, Nat.reduceEqDiff, Nat.reduceAdd, Nat.reduceMul, Nat.reduceSub, Nat.reduceLT, Nat.reduceLeDiff, Nat.reduceBEq, Nat.reduceBNe, Int.reduceToNat, Int.reduceLT, Int.reduceLE, Int.reduceEq, Int.reduceNe, Int.reduceMul, Int.reduceAdd, Int.reduceSub, Int.reduceNeg, qC, h1, h2, h3, h4, decide_true, Bool.and_self]
        · simp -implicitDefEqProofs only [fns_9, c9, go_sem, Nat.reduceShiftRight, Nat.reduceAnd, reduceIte, reduceCtorEq, Nat.reduceEqDiff, Nat.reduceAdd, Nat.reduceMul, Nat.reduceSub, Nat.reduceLT, Nat.reduceLeDiff, Nat.reduceBEq, Nat.reduceBNe, Int.reduceToNat, Int.reduceLT, Int.reduceLE, Int.reduceEq, Int.reduceNe, Int.reduceMul, Int.reduceAdd, Int.reduceSub, Int.reduceNeg, qC, h1, h2, h3, h4, decide_true, decide_false, Bool.and_self, Bool.and_false]
      · simp -implicitDefEqProofs only [fns_9, c9, go_sem, Nat.reduceShiftRight, Nat.reduceAnd, reduceIte, reduceCtorEq, Nat.reduceEqDiff, Nat.reduceAdd, Nat.reduceMul, Nat.reduceSub, Nat.reduceLT, Nat.reduceLeDiff, Nat.reduceBEq, Nat.reduceBNe, Int.reduceToNat, Int.reduceLT, Int.reduceLE, Int.reduceEq, Int.reduceNe, Int.reduceMul, Int.reduceAdd, Int.reduceSub, Int.reduceNeg, qC, h1, h2, h3, decide_true, decide_false, Bool.and_self, Bool.and_false, Bool.false_and]
    · simp -implicitDefEqProofs only [fns_9, c9, go_sem, Nat.reduceShiftRight, Nat.reduceAnd, reduceIte, reduceCtorEq, Nat.reduceEqDiff, Nat.reduceAdd, Nat.reduceMul, Nat.reduceSub, Nat.reduceLT, Nat.reduceLeDiff, Nat.reduceBEq, Nat.reduceBNe, Int.reduceToNat, Int.reduceLT, Int.reduceLE, Int.reduceEq, Int.reduceNe, Int.reduceMul, Int.reduceAdd, Int.reduceSub, Int.reduceNeg, qC, h1, h2, decide_true, decide_false, Bool.and_self, Bool.and_false, Bool.false_and]
  · simp -implicitDefEqProofs only [fns_9, c9, go_sem, Nat.reduceShiftRight, Nat.reduceAnd, reduceIte, reduceCtorEq, Nat.reduceEqDiff, Nat.reduceAdd, Nat.reduceMul, Nat.reduceSub, Nat.reduceLT, Nat.reduceLeDiff, Nat.reduceBEq, Nat.reduceBNe, Int.reduceToNat, Int.reduceLT, Int.reduceLE, Int.reduceEq, Int.reduceNe, Int.reduceMul, Int.reduceAdd, Int.reduceSub, Int.reduceNeg, qC, h1, decide_false, Bool.false_and]
/-! What is few is short. -/
theorem few_bounds {l : List Blo} (h : fewB l = true) : (l.length : Int) ≤ 12 ∧ (∀ b ∈ l, b.eps.length ≤ 120) ∧ ∀ q, (allT q l).length ≤ 120 := by
  unfold fewB at h
  simp only [Bool.and_eq_true, decide_eq_true_eq] at h
  have e : l.take 20 = l := List.take_of_length_le (by omega)
  rw [e] at h
  obtain ⟨h1, _⟩ := fewE_all _ 0 (by omega) h.2
  have key : ∀ (r : List Blo), (∀ b ∈ r, b.eps.length ≤ (allE r).length) ∧ ∀ q, (raw q r).length ≤ (allE r).length := by
    intro r
    induction r with
    | nil => exact ⟨fun b hb => (by cases hb), fun q => Nat.le_refl _⟩
    | cons c r ih =>
      have e1 : allE (c :: r) = c.eps ++ allE r := rfl
      have e2 : ∀ q, raw q (c :: r) = hits q c.eps ++ raw q r := fun q => rfl
      refine ⟨fun b hb => ?_, fun q => ?_⟩
      · rw [e1, List.length_append]
        rcases List.mem_cons.1 hb with rfl | hb
        · omega
        · have := ih.1 b hb; omega
      · rw [e1, e2, List.length_append, List.length_append]
        have h3 : (hits q c.eps).length ≤ c.eps.length := by unfold hits; rw [List.length_map]; exact List.length_filter_le _ _
        have := ih.2 q
        omega
  refine ⟨h.1, fun b hb => by have := (key l).1 b hb; omega, fun q => ?_⟩
  have h2 := dd_len ((raw q l).mergeSort leTr)
  rw [List.length_mergeSort] at h2
  have := (key l).2 q
  unfold allT
  omega
theorem findT_all {q : Qry} {l : List Blo} (h : (allT q l).length ≤ 120) : findT q l 1000 = allT q l := by
  unfold findT capI
  rw [if_neg (by omega), if_pos (by omega), Int.toNat_natCast, List.take_length]

theorem alive : Cal cx 7 [] = some ([.s (.bool true)], []) := by
  let s : Spn := ⟨⟨0, 0⟩, 0, 0, emp, emp, 0, 9, false, []⟩
  let e : Epi := ⟨⟨0, 4⟩, 0, 0, false, [s]⟩
  let b : Blo := ⟨0, 0, 0, [e]⟩
  have hE : ∀ x ∈ [b], Eps x.eps := by
    intro x hx y hy
    simp only [List.mem_cons, List.not_mem_nil, or_false] at hx
    subst hx
    simp only [b, List.mem_cons, List.not_mem_nil, or_false] at hy
    subst hy
    refine ⟨by simp [e], fun z hz => ?_⟩
    simp only [e, List.mem_cons, List.not_mem_nil, or_false] at hz
    subst hz
    simp [s]
  have hB : ∀ x ∈ [b], x.eps.length ≤ 2000 := by
    intro x hx
    simp only [List.mem_cons, List.not_mem_nil, or_false] at hx
    subst hx
    simp [b]
  have h1 := FindP false [] noQ 9 (by simp) (fun b hb => by cases hb) (fun b hb => by cases hb)
  have h2 := FindP true [b] ⟨emp, emp, emp, emp, 9, false⟩ 1 (by simp) hB hE
  have h3 := CountP true [b] ⟨emp, emp, emp, emp, 10, false⟩ (by simp) hB hE
  have h4 := Match noQ ⟨⟨0, 0⟩, 0, 0, emp, emp, 0, 0, false, []⟩ (by simp)
  have e1 : findT noQ [] 9 = [] := by simp [findT, allT, raw, dd, capI]
  have e2 : findT ⟨emp, emp, emp, emp, 9, false⟩ [b] 1 = [⟨0, 4⟩] := by simp [findT, allT, raw, hits, hitE, matchQ, offS, offD, hasA, dd, capI, b, e, s]
  have e3 : allT ⟨emp, emp, emp, emp, 10, false⟩ [b] = [] := by simp [findT, allT, raw, hits, hitE, matchQ, offS, offD, hasA, dd, capI, b, e, s]
  have e4 : matchQ noQ ⟨⟨0, 0⟩, 0, 0, emp, emp, 0, 0, false, []⟩ = true := by simp [matchQ, offS, offD, hasA]
  rw [e1] at h1
  rw [e2] at h2
  rw [e3] at h3
  rw [e4] at h4
  simp only [List.map_cons, List.map_nil, b, e, s, bkC, epC, spC, qC, trC, List.length_nil, Int.cast_ofNat_Int] at h1 h2 h3 h4
  rw [Cal_eq]
  simp -implicitDefEqProofs only [fns_7, c7, go_sem, Nat.reduceShiftRight, Nat.reduceAnd, reduceIte, reduceCtorEq, Nat.reduceEqDiff, Nat.reduceAdd, Nat.reduceMul, Nat.reduceSub, Nat.reduceLT, Nat.reduceLeDiff, Nat.reduceBEq, Nat.reduceBNe, Int.reduceToNat, Int.reduceLT, Int.reduceLE, Int.reduceEq, Int.reduceNe, Int.reduceMul, Int.reduceAdd, Int.reduceSub, Int.reduceNeg, h1, h2, h3, h4]
end Go.Proofs.Ytihiakgpegfghaa
