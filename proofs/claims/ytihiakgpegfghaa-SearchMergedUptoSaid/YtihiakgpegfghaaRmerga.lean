/- SearchMerged: the equation. Own work. -/
import Derived.Test.YtihiakgpegfghaaRmake
set_option linter.unusedVariables false
set_option linter.unusedSimpArgs false
namespace Go.Pi
/-- The traces found hang on the episodes alone. -/
theorem allT_same {q : Qry} {l r : List Blo} (h : ∀ e, (∃ b ∈ l, e ∈ b.eps) ↔ ∃ b ∈ r, e ∈ b.eps) : allT q l = allT q r := by
  refine rise_eq (allT_rise q l) (allT_rise q r) fun x => ?_
  rw [mem_allT, mem_allT, mem_raw, mem_raw]
  constructor
  · rintro ⟨b, hb, e, he, h1, h2⟩
    obtain ⟨c, hc, he2⟩ := (h e).1 ⟨b, hb, he⟩
    exact ⟨c, hc, e, he2, h1, h2⟩
  · rintro ⟨b, hb, e, he, h1, h2⟩
    obtain ⟨c, hc, he2⟩ := (h e).2 ⟨b, hb, he⟩
    exact ⟨c, hc, e, he2, h1, h2⟩
end Go.Pi
namespace Go.Proofs.Ytihiakgpegfghaa
open Go Go.Pi
set_option maxHeartbeats 4000000
set_option maxRecDepth 10000
abbrev lR (l : List Blo) : Option Blk := some (.row 0 45 4 false (l.map bkC))
theorem BackL (ln : Bool) (l : List Blo) (q : Qry) (a : List Trc) (hM : (l.length : Int) ≤ 1000) : ∀ (n : Nat) (back : List Blo), n ≤ l.length → back.length + n ≤ 1000 →
   ∃ f H, Pi.Loop (exec cx (Cal cx) c5_0) (Rst Try.prog ([(0, none), (3, none), (6, some 27), (7, some 45), (8, none)], [])) (St.mk (sF [(0, .sh ln (l.map bkC)), (3, .ad 3 0 0 0), (6, .sl 500006 0 0 a.length), (7, .sl 500007 0 0 back.length), (8, .s (.int .i64 ((n : Int) - 1)))]) (hF [(3, qRow q), (500006, tRow a), (500007, lR back)])) = some (.ex 0, St.mk f H) ∧
     f 0 = .sh ln (l.map bkC) ∧ f 3 = .ad 3 0 0 0 ∧ f 6 = .sl 500006 0 0 a.length ∧ f 7 = .sl 500007 0 0 (back ++ (l.take n).reverse).length ∧ H 3 = qRow q ∧ H 500006 = tRow a ∧ H 500007 = lR (back ++ (l.take n).reverse) ∧ H 46 = none ∧ H 10 = none ∧ H 61 = none ∧ H 63 = none := by
  intro n
  induction n with
  | zero =>
    intro back h _
    rw [Loop_eq]
    simp -implicitDefEqProofs only [fns_5, c5, go_sem, Nat.reduceShiftRight, Nat.reduceAnd, reduceIte, reduceCtorEq, Nat.reduceEqDiff, Nat.reduceAdd, Nat.reduceMul, Nat.reduceSub, Nat.reduceLT, Nat.reduceLeDiff, Nat.reduceBEq, Nat.reduceBNe, Int.reduceToNat, Int.reduceLT, Int.reduceLE, Int.reduceEq, Int.reduceNe, Int.reduceMul, Int.reduceAdd, Int.reduceSub, Int.reduceNeg, c5_0, List.take_zero, List.reverse_nil, List.append_nil]
    exact ⟨_, _, rfl, rfl, rfl, rfl, rfl, rfl, rfl, rfl, rfl, rfl, rfl, rfl⟩
  | succ n ih =>
    intro back h hb
    have h0 : (n : Int) < (l.length : Int) := by omega
    obtain ⟨x, hx⟩ := get_of_lt (l := l) (i := n) (by omega)
    have e0 : ((n + 1 : Nat) : Int) - 1 = (n : Int) := by omega
    have h8 : IntKind.i64.wrap ((n : Int) - 1) = (n : Int) - 1 := by rw [wrap64_id] <;> omega
    have h9 : ¬ (n : Int) < 0 := by omega
    have h10 : (0 : Int) ≤ (n : Int) := by omega
    have b1 : (back ++ [x]).length * 48 ≤ 140737488355328 := by simp; omega
    have h7 := ih (back ++ [x]) (by omega) (by simp; omega)
    have e1 : (l.take (n + 1)).reverse = x :: (l.take n).reverse := by rw [take_get hx]; simp
    rw [e1, Loop_eq, e0]
    simp only [List.append_assoc, List.singleton_append, qRow, qC] at h7 ⊢
    simp -implicitDefEqProofs only [fns_5, c5, go_sem, Nat.reduceShiftRight, Nat.reduceAnd, reduceIte, reduceCtorEq, Nat.reduceEqDiff, Nat.reduceAdd, Nat.reduceMul, Nat.reduceSub, Nat.reduceLT, Nat.reduceLeDiff, Nat.reduceBEq, Nat.reduceBNe, Int.reduceToNat, Int.reduceLT, Int.reduceLE, Int.reduceEq, Int.reduceNe, Int.reduceMul, Int.reduceAdd, Int.reduceSub, Int.reduceNeg, c5_0, h0, h9, h10, getD_map bkC hx, bkC, b1, h8]
    exact h7
theorem OneL (ln : Bool) (l : List Blo) (q : Qry) (a b : List Trc) (hM : (l.length : Int) ≤ 1000) (hB : ∀ x ∈ l, x.eps.length ≤ 2000) : ∀ (n i : Nat) (one : Blo), i + n = l.length → one.eps.length + n * 2000 ≤ 40000 →
   ∃ f H one', Pi.Loop (exec cx (Cal cx) c5_2) (Rst Try.prog ([(0, none), (3, none), (6, some 27), (9, some 27), (10, none), (11, none)], [])) (St.mk (sF [(0, .sh ln (l.map bkC)), (3, .ad 3 0 0 0), (6, .sl 500006 0 0 a.length), (9, .sl 500009 0 0 b.length), (10, .ad 10 0 0 0), (11, .s (.int .i64 i))]) (hF [(3, qRow q), (10, some (.row 0 45 4 true [bkC one])), (500006, tRow a), (500009, tRow b)])) = some (.ex 2, St.mk f H) ∧
     f 0 = .sh ln (l.map bkC) ∧ f 3 = .ad 3 0 0 0 ∧ f 6 = .sl 500006 0 0 a.length ∧ f 9 = .sl 500009 0 0 b.length ∧ f 10 = .ad 10 0 0 0 ∧ H 3 = qRow q ∧ H 10 = some (.row 0 45 4 true [bkC one']) ∧ H 500006 = tRow a ∧ H 500009 = tRow b ∧ one'.eps.Perm (one.eps ++ (l.drop i).flatMap Blo.eps) ∧ H 61 = none ∧ H 63 = none := by
  intro n
  induction n with
  | zero =>
    intro i one h _
    have h0 : ¬ (i : Int) < (l.length : Int) := by omega
    rw [Loop_eq]
    simp -implicitDefEqProofs only [fns_5, c5, go_sem, Nat.reduceShiftRight, Nat.reduceAnd, reduceIte, reduceCtorEq, Nat.reduceEqDiff, Nat.reduceAdd, Nat.reduceMul, Nat.reduceSub, Nat.reduceLT, Nat.reduceLeDiff, Nat.reduceBEq, Nat.reduceBNe, Int.reduceToNat, Int.reduceLT, Int.reduceLE, Int.reduceEq, Int.reduceNe, Int.reduceMul, Int.reduceAdd, Int.reduceSub, Int.reduceNeg, c5_2, h0]
    exact ⟨_, _, one, rfl, rfl, rfl, rfl, rfl, rfl, rfl, rfl, rfl, rfl, by rw [drop_end (by omega)]; simp, rfl, rfl⟩
  | succ n ih =>
    intro i one h ho
    have h0 : (i : Int) < (l.length : Int) := by omega
    obtain ⟨x, hx⟩ := get_of_lt (l := l) (i := i) (by omega)
    have h8 : IntKind.i64.wrap ((i : Int) + 1) = ((i + 1 : Nat) : Int) := by rw [wrap64_id] <;> omega
    have hx2 := hB x (mem_get hx)
    obtain ⟨j, j1, j2⟩ := Join one x i (by omega) (by omega)
    have jl : j.eps.length = one.eps.length + x.eps.length := by rw [j2.length_eq, List.length_append]
    obtain ⟨f, H, one', g1, g2, g3, g4, g5, g6, g7, g8, g9, g10, g11, g12, g13⟩ := ih (i + 1) j (by omega) (by omega)
    have hp : one'.eps.Perm (one.eps ++ (l.drop i).flatMap Blo.eps) := by
      refine g11.trans ?_
      rw [drop_get hx, List.flatMap_cons, ← List.append_assoc]
      exact j2.append_right _
    simp only [bkC] at j1
    simp only [bkC, qRow, qC] at g1
    rw [Loop_eq]
    simp -implicitDefEqProofs only [fns_5, c5, go_sem, Nat.reduceShiftRight, Nat.reduceAnd, reduceIte, reduceCtorEq, Nat.reduceEqDiff, Nat.reduceAdd, Nat.reduceMul, Nat.reduceSub, Nat.reduceLT, Nat.reduceLeDiff, Nat.reduceBEq, Nat.reduceBNe, Int.reduceToNat, Int.reduceLT, Int.reduceLE, Int.reduceEq, Int.reduceNe, Int.reduceMul, Int.reduceAdd, Int.reduceSub, Int.reduceNeg, c5_2, h0, getD_map bkC hx, bkC, j1, h8]
    exact ⟨f, H, one', g1, g2, g3, g4, g5, g6, g7, g8, g9, g10, hp, g12, g13⟩
end Go.Proofs.Ytihiakgpegfghaa
