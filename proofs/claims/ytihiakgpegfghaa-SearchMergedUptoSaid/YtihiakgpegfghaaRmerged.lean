/- SearchMerged: the equation, the end. Own work. -/
import Derived.Test.YtihiakgpegfghaaRmerga
set_option linter.unusedVariables false
set_option linter.unusedSimpArgs false
namespace Go.Proofs.Ytihiakgpegfghaa
open Go Go.Pi
set_option maxHeartbeats 4000000
set_option maxRecDepth 10000
theorem OneZ (ln : Bool) (x : Blo) (l : List Blo) (hx : l[0]? = some x) (q : Qry) (a b : List Trc) (hM : (l.length : Int) ≤ 15) (hB : ∀ y ∈ l, y.eps.length ≤ 2000) :
   ∃ f H one', Pi.Loop (exec cx (Cal cx) c5_2) (Rst Try.prog ([(0, none), (3, none), (6, some 27), (9, some 27), (10, none), (11, none)], [])) (St.mk (sF [(0, .sh ln (l.map bkC)), (3, .ad 3 0 0 0), (6, .sl 500006 0 0 a.length), (9, .sl 500009 0 0 b.length), (10, .ad 10 0 0 0), (11, .s (.int .i64 0))]) (hF [(3, qRow q), (10, zR), (500006, tRow a), (500009, tRow b)])) = some (.ex 2, St.mk f H) ∧
     f 0 = .sh ln (l.map bkC) ∧ f 3 = .ad 3 0 0 0 ∧ f 6 = .sl 500006 0 0 a.length ∧ f 9 = .sl 500009 0 0 b.length ∧ f 10 = .ad 10 0 0 0 ∧ H 3 = qRow q ∧ H 10 = some (.row 0 45 4 true [bkC one']) ∧ H 500006 = tRow a ∧ H 500009 = tRow b ∧ one'.eps.Perm (l.flatMap Blo.eps) ∧ H 61 = none ∧ H 63 = none := by
  have h0 : (0 : Int) < (l.length : Int) := by
    obtain ⟨h, _⟩ := List.getElem?_eq_some_iff.1 hx
    omega
  have hx2 := hB x (mem_get hx)
  have h8 : IntKind.i64.wrap 1 = 1 := by rw [wrap64_id] <;> omega
  obtain ⟨j, j1, j2⟩ := Join ⟨0, 0, 0, []⟩ x 0 (by simp) (by omega)
  have jl : j.eps.length = x.eps.length := by rw [j2.length_eq]; simp
  obtain ⟨f, H, one', g1, g2, g3, g4, g5, g6, g7, g8, g9, g10, g11, g12, g13⟩ := OneL ln l q a b (by omega) hB (l.length - 1) 1 j (by omega) (by omega)
  have hp : one'.eps.Perm (l.flatMap Blo.eps) := by
    refine g11.trans ?_
    have e : l = x :: l.drop 1 := by have := drop_get hx; simpa using this
    conv => rhs; rw [e, List.flatMap_cons]
    exact j2.append_right _
  simp only [bkC, List.map_nil] at j1
  simp only [bkC, qRow, qC, Int.cast_ofNat_Int] at g1
  have hg := getD_map bkC hx
  rw [Loop_eq]
  simp -implicitDefEqProofs only [fns_5, c5, go_sem, Nat.reduceShiftRight, Nat.reduceAnd, reduceIte, reduceCtorEq, Nat.reduceEqDiff, Nat.reduceAdd, Nat.reduceMul, Nat.reduceSub, Nat.reduceLT, Nat.reduceLeDiff, Nat.reduceBEq, Nat.reduceBNe, Int.reduceToNat, Int.reduceLT, Int.reduceLE, Int.reduceEq, Int.reduceNe, Int.reduceMul, Int.reduceAdd, Int.reduceSub, Int.reduceNeg, c5_2, h0, hg, bkC, j1, h8]
  exact ⟨f, H, one', g1, g2, g3, g4, g5, g6, g7, g8, g9, g10, hp, g12, g13⟩
theorem SearchMerged (ln : Bool) (l : List Blo) (q : Qry) (hM : (l.length : Int) ≤ 1048576) (hB : ∀ b ∈ l, b.eps.length ≤ 1048576) (hE : ∀ b ∈ l, Eps b.eps) : Cal cx 5 [.sh ln (l.map bkC), .ag (qC q)] = some ([.s (.bool true)], []) := by
  have h1 := alive
  have h2 := FewB ln l hM hB hE
  have h3 := FewQ q
  simp only [qC] at h3
  rw [Cal_eq]
  cases hw : fewB l
  · simp -implicitDefEqProofs only [fns_5, c5, go_sem, Nat.reduceShiftRight, Nat.reduceAnd, reduceIte, reduceCtorEq, Nat.reduceEqDiff, Nat.reduceAdd, Nat.reduceMul, Nat.reduceSub, Nat.reduceLT, Nat.reduceLeDiff, Nat.reduceBEq, Nat.reduceBNe, Int.reduceToNat, Int.reduceLT, Int.reduceLE, Int.reduceEq, Int.reduceNe, Int.reduceMul, Int.reduceAdd, Int.reduceSub, Int.reduceNeg, qC, h1, h2, hw]
  cases hQ : fewQ q
  · simp -implicitDefEqProofs only [fns_5, c5, go_sem, Nat.reduceShiftRight, Nat.reduceAnd, reduceIte, reduceCtorEq, Nat.reduceEqDiff, Nat.reduceAdd, Nat.reduceMul, Nat.reduceSub, Nat.reduceLT, Nat.reduceLeDiff, Nat.reduceBEq, Nat.reduceBNe, Int.reduceToNat, Int.reduceLT, Int.reduceLE, Int.reduceEq, Int.reduceNe, Int.reduceMul, Int.reduceAdd, Int.reduceSub, Int.reduceNeg, qC, h1, h2, hw, h3, hQ]
  obtain ⟨b1, b2, b3⟩ := few_bounds hw
  have hB2 : ∀ b ∈ l, b.eps.length ≤ 2000 := fun b hb => by have := b2 b hb; omega
  have f1 := FindP ln l q 1000 (by omega) hB2 hE
  rw [findT_all (b3 q)] at f1
  have f2 := FindP true l.reverse q 1000 (by simp; omega) (fun b hb => hB2 b (by simpa using hb)) (fun b hb => hE b (by simpa using hb))
  have e2 : allT q l.reverse = allT q l := allT_same fun e => by simp
  have l2 : (allT q l.reverse).length ≤ 120 := by rw [e2]; exact b3 q
  rw [findT_all l2, e2] at f2
  have c1 := CountP ln l q (by omega) hB2 hE
  have hl := b3 q
  have sm := Same true true (allT q l) (by omega)
  obtain ⟨f, H, g1, g2, g3, g4, g5, g6, g7, g8, g9, g10, g11, g12⟩ := BackL ln l q (allT q l) (by omega) l.length [] (Nat.le_refl _) (by simp; omega)
  have w1 : IntKind.i64.wrap ((l.length : Int) - 1) = (l.length : Int) - 1 := by rw [wrap64_id] <;> omega
  -- what all are together
  have fin : ∀ one : Blo, one.eps.Perm (l.flatMap Blo.eps) → Cal cx 14 [.sh true ([one].map bkC), .ag (qC q), .s (.int .i64 1000)] = some ([.ow 27 ((allT q l).map trC)], []) := by
    intro one hp
    have key : ∀ (r : List Blo), (r.flatMap Blo.eps).length ≤ (r.length * 120) ∨ ∃ b ∈ r, 120 < b.eps.length := by
      intro r
      induction r with
      | nil => exact .inl (by simp)
      | cons c r ih =>
        rcases ih with h | ⟨b, hb, h⟩
        · by_cases hc : c.eps.length ≤ 120
          · left
            simp only [List.flatMap_cons, List.length_append, List.length_cons, Nat.add_mul, Nat.one_mul]
            omega
          · exact .inr ⟨c, List.mem_cons_self, by omega⟩
        · exact .inr ⟨b, List.mem_cons_of_mem _ hb, h⟩
    have hlen : one.eps.length ≤ 1440 := by
      rw [hp.length_eq]
      rcases key l with h | ⟨b, hb, h⟩
      · omega
      · have := b2 b hb; omega
    have hE1 : Eps one.eps := fun e he => by
      obtain ⟨b, hb, he2⟩ := List.mem_flatMap.1 (hp.mem_iff.1 he)
      exact hE b hb e he2
    have f3 := FindP true [one] q 1000 (by simp) (fun b hb => by simp at hb; subst hb; omega) (fun b hb => by simp at hb; subst hb; exact hE1)
    have e3 : allT q [one] = allT q l := allT_same fun e => by
      simp only [List.mem_singleton, exists_eq_left]
      rw [hp.mem_iff, List.mem_flatMap]
    have l3 : (allT q [one]).length ≤ 120 := by rw [e3]; exact b3 q
    rw [findT_all l3, e3] at f3
    exact f3
  simp only [List.nil_append, List.length_nil, List.take_length, Int.cast_ofNat_Int, List.map_nil] at g1 g5 g8
  simp only [qRow, qC, tRow] at g1 g6 g7 g8
  simp only [qC] at f1 f2 c1
  simp only [lR, List.map_nil] at g1 g8
  by_cases hz : l = []
  · have f3 := fin ⟨0, 0, 0, []⟩ (by rw [hz]; exact List.Perm.refl _)
    have h0 : ¬ (0 : Int) < (l.length : Int) := by rw [hz]; simp
    simp only [bkC, List.map_cons, List.map_nil, qC] at f3
    simp -implicitDefEqProofs only [fns_5, c5, go_sem, Nat.reduceShiftRight, Nat.reduceAnd, reduceIte, reduceCtorEq, Nat.reduceEqDiff, Nat.reduceAdd, Nat.reduceMul, Nat.reduceSub, Nat.reduceLT, Nat.reduceLeDiff, Nat.reduceBEq, Nat.reduceBNe, Int.reduceToNat, Int.reduceLT, Int.reduceLE, Int.reduceEq, Int.reduceNe, Int.reduceMul, Int.reduceAdd, Int.reduceSub, Int.reduceNeg, qC, h1, h2, hw, h3, hQ, f1, w1, g1, g2, g3, g4, g5, g6, g7, g8, g9, g10, g11, g12, f2]
    rw [Loop_eq]
    simp -implicitDefEqProofs only [fns_5, c5, go_sem, Nat.reduceShiftRight, Nat.reduceAnd, reduceIte, reduceCtorEq, Nat.reduceEqDiff, Nat.reduceAdd, Nat.reduceMul, Nat.reduceSub, Nat.reduceLT, Nat.reduceLeDiff, Nat.reduceBEq, Nat.reduceBNe, Int.reduceToNat, Int.reduceLT, Int.reduceLE, Int.reduceEq, Int.reduceNe, Int.reduceMul, Int.reduceAdd, Int.reduceSub, Int.reduceNeg, c5_2, h0, f3, sm, c1]
  · obtain ⟨x, hx⟩ := get_of_lt (l := l) (i := 0) (by have := List.length_pos_iff.2 hz; omega)
    obtain ⟨f', H', one', d1, d2, d3, d4, d5, d6, d7, d8, d9, d10, d11, d12, d13⟩ := OneZ ln x l hx q (allT q l) (allT q l) (by omega) hB2
    have f3 := fin one' d11
    simp only [bkC, List.map_cons, List.map_nil, qC] at f3
    simp only [zR, qRow, qC, tRow] at d1 d7 d9 d10
    simp -implicitDefEqProofs only [fns_5, c5, go_sem, Nat.reduceShiftRight, Nat.reduceAnd, reduceIte, reduceCtorEq, Nat.reduceEqDiff, Nat.reduceAdd, Nat.reduceMul, Nat.reduceSub, Nat.reduceLT, Nat.reduceLeDiff, Nat.reduceBEq, Nat.reduceBNe, Int.reduceToNat, Int.reduceLT, Int.reduceLE, Int.reduceEq, Int.reduceNe, Int.reduceMul, Int.reduceAdd, Int.reduceSub, Int.reduceNeg, qC, h1, h2, hw, h3, hQ, f1, w1, g1, g2, g3, g4, g5, g6, g7, g8, g9, g10, g11, g12, f2]
    simp -implicitDefEqProofs only [fns_5, c5, go_sem, Nat.reduceShiftRight, Nat.reduceAnd, reduceIte, reduceCtorEq, Nat.reduceEqDiff, Nat.reduceAdd, Nat.reduceMul, Nat.reduceSub, Nat.reduceLT, Nat.reduceLeDiff, Nat.reduceBEq, Nat.reduceBNe, Int.reduceToNat, Int.reduceLT, Int.reduceLE, Int.reduceEq, Int.reduceNe, Int.reduceMul, Int.reduceAdd, Int.reduceSub, Int.reduceNeg, d1, d2, d3, d4, d5, d6, d7, d8, d9, d10, d12, d13, f3, sm, c1, bkC]
end Go.Proofs.Ytihiakgpegfghaa
