/- SearchTells and SearchFirst: the equations. Own work. -/
import Derived.Test.YtihiakgpegfghaaRlawa
set_option linter.unusedVariables false
set_option linter.unusedSimpArgs false
namespace Go.Proofs.Ytihiakgpegfghaa
open Go Go.Pi
set_option maxHeartbeats 2000000
set_option maxRecDepth 10000
theorem SearchTells (ln : Bool) (l : List Blo) (q : Qry) (s : Spn) (n : Int) (hM : (l.length : Int) ≤ 1048576) (hB : ∀ b ∈ l, b.eps.length ≤ 1048576) (hE : ∀ b ∈ l, Eps b.eps) (hS : (s.attrs.length : Int) ≤ 1048576) : Cal cx 3 [.sh ln (l.map bkC), .ag (qC q), .ag (spC s), .s (.int .i64 n)] = some ([.s (.bool true)], []) := by
  have h1 := alive
  have h2 := FewB ln l hM hB hE
  have h3 := FewQ q
  have h4 := FewS s (by omega)
  simp only [qC, spC] at h3 h4
  rw [Cal_eq]
  cases hF : fewB l
  · simp -implicitDefEqProofs only [fns_3, c3, go_sem, Nat.reduceShiftRight, Nat.reduceAnd, reduceIte, reduceCtorEq, Nat.reduceEqDiff, Nat.reduceAdd, Nat.reduceMul, Nat.reduceSub, Nat.reduceLT, Nat.reduceLeDiff, Nat.reduceBEq, Nat.reduceBNe, Int.reduceToNat, Int.reduceLT, Int.reduceLE, Int.reduceEq, Int.reduceNe, Int.reduceMul, Int.reduceAdd, Int.reduceSub, Int.reduceNeg, qC, spC, h1, h2, hF]
  cases hQ : fewQ q
  · simp -implicitDefEqProofs only [fns_3, c3, go_sem, Nat.reduceShiftRight, Nat.reduceAnd, reduceIte, reduceCtorEq, Nat.reduceEqDiff, Nat.reduceAdd, Nat.reduceMul, Nat.reduceSub, Nat.reduceLT, Nat.reduceLeDiff, Nat.reduceBEq, Nat.reduceBNe, Int.reduceToNat, Int.reduceLT, Int.reduceLE, Int.reduceEq, Int.reduceNe, Int.reduceMul, Int.reduceAdd, Int.reduceSub, Int.reduceNeg, qC, spC, h1, h2, hF, h3, hQ]
  cases hs : fewS s
  · simp -implicitDefEqProofs only [fns_3, c3, go_sem, Nat.reduceShiftRight, Nat.reduceAnd, reduceIte, reduceCtorEq, Nat.reduceEqDiff, Nat.reduceAdd, Nat.reduceMul, Nat.reduceSub, Nat.reduceLT, Nat.reduceLeDiff, Nat.reduceBEq, Nat.reduceBNe, Int.reduceToNat, Int.reduceLT, Int.reduceLE, Int.reduceEq, Int.reduceNe, Int.reduceMul, Int.reduceAdd, Int.reduceSub, Int.reduceNeg, qC, spC, h1, h2, hF, h3, hQ, h4, hs]
  obtain ⟨b1, b2, b3⟩ := few_bounds hF
  have hB2 : ∀ b ∈ l, b.eps.length ≤ 2000 := fun b hb => by have := b2 b hb; omega
  have m1 := Match q s (by omega)
  have m2 := MatchRef q s (by omega)
  have f1 := FindP ln l q n (by omega) hB2 hE
  have f2 := FindRf ln l q n (by omega) hB2 hE
  have c1 := CountP ln l q (by omega) hB2 hE
  have c2 := CountRf ln l q (by omega) hB2 hE
  rw [allR_eq] at f2 c2
  have e : (allT q l).take (capI n 0 (allT q l).length).toNat = findT q l n := rfl
  rw [e] at f2
  have hl : (findT q l n).length ≤ 120 := by unfold findT; rw [List.length_take]; have := b3 q; omega
  have sm := Same true true (findT q l n) (by omega)
  generalize findT q l n = r at f1 f2 sm
  simp only [qC, spC] at m1 m2 f1 f2 c1 c2
  simp -implicitDefEqProofs only [fns_3, c3, go_sem, Nat.reduceShiftRight, Nat.reduceAnd, reduceIte, reduceCtorEq, Nat.reduceEqDiff, Nat.reduceAdd, Nat.reduceMul, Nat.reduceSub, Nat.reduceLT, Nat.reduceLeDiff, Nat.reduceBEq, Nat.reduceBNe, Int.reduceToNat, Int.reduceLT, Int.reduceLE, Int.reduceEq, Int.reduceNe, Int.reduceMul, Int.reduceAdd, Int.reduceSub, Int.reduceNeg, qC, spC, h1, h2, hF, h3, hQ, h4, hs, m1, m2, f1, f2, c1, c2, sm]
theorem RiseL (a b : List Trc) (n0 : Int) (hr : Rise b) (hM : (b.length : Int) ≤ 1000000000) : ∀ (n i : Nat), b.length ≤ i + n → 1 ≤ i →
   ∃ f H, Pi.Loop (exec cx (Cal cx) c6_0) (Rst Try.prog ([(2, none), (8, some 27), (9, some 27), (10, none)], [])) (St.mk (sF [(2, .s (.int .i64 n0)), (8, .sl 500008 0 0 a.length), (9, .sl 500009 0 0 b.length), (10, .s (.int .i64 i))]) (hF [(500008, tRow a), (500009, tRow b)])) = some (.ex 0, St.mk f H) ∧
     f 2 = .s (.int .i64 n0) ∧ f 8 = .sl 500008 0 0 a.length ∧ f 9 = .sl 500009 0 0 b.length ∧ H 500008 = tRow a ∧ H 500009 = tRow b := by
  intro n
  induction n with
  | zero =>
    intro i h _
    have h0 : ¬ (i : Int) < (b.length : Int) := by omega
    rw [Loop_eq]
    simp -implicitDefEqProofs only [fns_6, c6, go_sem, Nat.reduceShiftRight, Nat.reduceAnd, reduceIte, reduceCtorEq, Nat.reduceEqDiff, Nat.reduceAdd, Nat.reduceMul, Nat.reduceSub, Nat.reduceLT, Nat.reduceLeDiff, Nat.reduceBEq, Nat.reduceBNe, Int.reduceToNat, Int.reduceLT, Int.reduceLE, Int.reduceEq, Int.reduceNe, Int.reduceMul, Int.reduceAdd, Int.reduceSub, Int.reduceNeg, c6_0, h0]
    exact ⟨_, _, rfl, rfl, rfl, rfl, rfl, rfl⟩
  | succ n ih =>
    intro i h hi
    by_cases h0 : ¬ (i : Int) < (b.length : Int)
    · rw [Loop_eq]
      simp -implicitDefEqProofs only [fns_6, c6, go_sem, Nat.reduceShiftRight, Nat.reduceAnd, reduceIte, reduceCtorEq, Nat.reduceEqDiff, Nat.reduceAdd, Nat.reduceMul, Nat.reduceSub, Nat.reduceLT, Nat.reduceLeDiff, Nat.reduceBEq, Nat.reduceBNe, Int.reduceToNat, Int.reduceLT, Int.reduceLE, Int.reduceEq, Int.reduceNe, Int.reduceMul, Int.reduceAdd, Int.reduceSub, Int.reduceNeg, c6_0, h0]
      exact ⟨_, _, rfl, rfl, rfl, rfl, rfl, rfl⟩
    have h0 := Classical.not_not.1 h0
    have h0n : i < b.length := by omega
    have h0p : i - 1 < b.length := by omega
    have h0q : ((i - 1 : Nat) : Int) < (b.length : Int) := by omega
    obtain ⟨x, hx⟩ := get_of_lt (l := b) (i := i - 1) (by omega)
    obtain ⟨y, hy⟩ := get_of_lt (l := b) (i := i) (by omega)
    have h8 : IntKind.i64.wrap ((i : Int) + 1) = ((i + 1 : Nat) : Int) := by rw [wrap64_id] <;> omega
    have h9 : IntKind.i64.wrap ((i : Int) - 1) = ((i - 1 : Nat) : Int) := by rw [wrap64_id] <;> omega
    have hxy : ltTr x y = true := by
      unfold Rise at hr
      rw [List.pairwise_iff_getElem] at hr
      have := hr (i - 1) i h0p h0n (by omega)
      obtain ⟨_, e1⟩ := List.getElem?_eq_some_iff.1 hx
      obtain ⟨_, e2⟩ := List.getElem?_eq_some_iff.1 hy
      rwa [e1, e2] at this
    have h1 := LessTrace x y
    rw [hxy] at h1
    simp only [trC] at h1
    have h7 := ih (i + 1) (by omega) (by omega)
    rw [Loop_eq]
    simp -implicitDefEqProofs only [fns_6, c6, go_sem, Nat.reduceShiftRight, Nat.reduceAnd, reduceIte, reduceCtorEq, Nat.reduceEqDiff, Nat.reduceAdd, Nat.reduceMul, Nat.reduceSub, Nat.reduceLT, Nat.reduceLeDiff, Nat.reduceBEq, Nat.reduceBNe, Int.reduceToNat, Int.reduceLT, Int.reduceLE, Int.reduceEq, Int.reduceNe, Int.reduceMul, Int.reduceAdd, Int.reduceSub, Int.reduceNeg, c6_0, h0, h0n, h0p, h0q, h9, getD_map trC hx, getD_map trC hy, trC, h1, h8]
    exact h7
theorem SearchFirst (ln : Bool) (l : List Blo) (q : Qry) (n : Int) (hM : (l.length : Int) ≤ 1048576) (hB : ∀ b ∈ l, b.eps.length ≤ 1048576) (hE : ∀ b ∈ l, Eps b.eps) : Cal cx 6 [.sh ln (l.map bkC), .ag (qC q), .s (.int .i64 n)] = some ([.s (.bool true)], []) := by
  have h1 := alive
  have h2 := FewB ln l hM hB hE
  have h3 := FewQ q
  simp only [qC] at h3
  rw [Cal_eq]
  cases hw : fewB l
  · simp -implicitDefEqProofs only [fns_6, c6, go_sem, Nat.reduceShiftRight, Nat.reduceAnd, reduceIte, reduceCtorEq, Nat.reduceEqDiff, Nat.reduceAdd, Nat.reduceMul, Nat.reduceSub, Nat.reduceLT, Nat.reduceLeDiff, Nat.reduceBEq, Nat.reduceBNe, Int.reduceToNat, Int.reduceLT, Int.reduceLE, Int.reduceEq, Int.reduceNe, Int.reduceMul, Int.reduceAdd, Int.reduceSub, Int.reduceNeg, qC, h1, h2, hw]
  cases hQ : fewQ q
  · simp -implicitDefEqProofs only [fns_6, c6, go_sem, Nat.reduceShiftRight, Nat.reduceAnd, reduceIte, reduceCtorEq, Nat.reduceEqDiff, Nat.reduceAdd, Nat.reduceMul, Nat.reduceSub, Nat.reduceLT, Nat.reduceLeDiff, Nat.reduceBEq, Nat.reduceBNe, Int.reduceToNat, Int.reduceLT, Int.reduceLE, Int.reduceEq, Int.reduceNe, Int.reduceMul, Int.reduceAdd, Int.reduceSub, Int.reduceNeg, qC, h1, h2, hw, h3, hQ]
  by_cases c0 : n < 0
  · simp -implicitDefEqProofs only [fns_6, c6, go_sem, Nat.reduceShiftRight, Nat.reduceAnd, reduceIte, reduceCtorEq, Nat.reduceEqDiff, Nat.reduceAdd, Nat.reduceMul, Nat.reduceSub, Nat.reduceLT, Nat.reduceLeDiff, Nat.reduceBEq, Nat.reduceBNe, Int.reduceToNat, Int.reduceLT, Int.reduceLE, Int.reduceEq, Int.reduceNe, Int.reduceMul, Int.reduceAdd, Int.reduceSub, Int.reduceNeg, qC, h1, h2, hw, h3, hQ, c0]
  by_cases c1 : (1000 : Int) < n
  · simp -implicitDefEqProofs only [fns_6, c6, go_sem, Nat.reduceShiftRight, Nat.reduceAnd, reduceIte, reduceCtorEq, Nat.reduceEqDiff, Nat.reduceAdd, Nat.reduceMul, Nat.reduceSub, Nat.reduceLT, Nat.reduceLeDiff, Nat.reduceBEq, Nat.reduceBNe, Int.reduceToNat, Int.reduceLT, Int.reduceLE, Int.reduceEq, Int.reduceNe, Int.reduceMul, Int.reduceAdd, Int.reduceSub, Int.reduceNeg, qC, h1, h2, hw, h3, hQ, c0, c1]
  obtain ⟨b1, b2, b3⟩ := few_bounds hw
  have hB2 : ∀ b ∈ l, b.eps.length ≤ 2000 := fun b hb => by have := b2 b hb; omega
  have f1 := FindP ln l q n (by omega) hB2 hE
  have f2 := FindP ln l q 1000 (by omega) hB2 hE
  rw [findT_all (b3 q)] at f2
  have hr := allT_rise q l
  have hl := b3 q
  have e : findT q l n = (allT q l).take (capI n 0 (allT q l).length).toNat := rfl
  rw [e] at f1
  generalize allT q l = r at f1 f2 hr hl
  obtain ⟨k, rfl⟩ : ∃ k : Nat, n = (k : Int) := ⟨n.toNat, by omega⟩
  simp only [qC] at f1 f2
  by_cases c2 : (r.length : Int) < (k : Int)
  · have e2 : r.take (capI (k : Int) 0 r.length).toNat = r := by unfold capI; rw [if_neg c0, if_pos c2, Int.toNat_natCast, List.take_length]
    rw [e2] at f1
    obtain ⟨f, H, g1, g2, g3, g4, g5, g6⟩ := RiseL r r k hr (by omega) r.length 1 (by omega) (by omega)
    have sm := Same true true r (by omega)
    have c4 : (0 : Int) + (r.length : Int) ≤ (r.length : Int) := by omega
    simp only [tRow, Int.cast_ofNat_Int] at g1 g5 g6
    simp -implicitDefEqProofs only [fns_6, c6, go_sem, Nat.reduceShiftRight, Nat.reduceAnd, reduceIte, reduceCtorEq, Nat.reduceEqDiff, Nat.reduceAdd, Nat.reduceMul, Nat.reduceSub, Nat.reduceLT, Nat.reduceLeDiff, Nat.reduceBEq, Nat.reduceBNe, Int.reduceToNat, Int.reduceLT, Int.reduceLE, Int.reduceEq, Int.reduceNe, Int.reduceMul, Int.reduceAdd, Int.reduceSub, Int.reduceNeg, qC, h1, h2, hw, h3, hQ, c0, c1, c2, f1, f2, g1, g2, g3, g4, g5, g6, c4, Nat.sub_zero, sm]
  · have e2 : (r.take (capI (k : Int) 0 r.length).toNat) = r.take k := by unfold capI; rw [if_neg c0, if_neg c2, Int.toNat_natCast]
    rw [e2] at f1
    have c5 : k ≤ r.length := by omega
    have hlk : (r.take k).length = k := by simp; omega
    obtain ⟨f, H, g1, g2, g3, g4, g5, g6⟩ := RiseL (r.take k) r k hr (by omega) r.length 1 (by omega) (by omega)
    have sm := Same true true (r.take k) (by omega)
    have c4 : (0 : Int) + (k : Int) ≤ (r.length : Int) := by omega
    simp only [tRow, hlk, Int.cast_ofNat_Int] at g1 g3 g5 g6
    simp -implicitDefEqProofs only [fns_6, c6, go_sem, Nat.reduceShiftRight, Nat.reduceAnd, reduceIte, reduceCtorEq, Nat.reduceEqDiff, Nat.reduceAdd, Nat.reduceMul, Nat.reduceSub, Nat.reduceLT, Nat.reduceLeDiff, Nat.reduceBEq, Nat.reduceBNe, Int.reduceToNat, Int.reduceLT, Int.reduceLE, Int.reduceEq, Int.reduceNe, Int.reduceMul, Int.reduceAdd, Int.reduceSub, Int.reduceNeg, qC, h1, h2, hw, h3, hQ, c0, c1, c2, f1, f2, g1, g2, g3, g4, g5, g6, c4, c5, hlk, Nat.sub_zero, sm, ← List.map_take, List.take_take, Nat.min_self]
end Go.Proofs.Ytihiakgpegfghaa
