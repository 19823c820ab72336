/- A block of episodes (the reference's Make and Join). Own work. -/
import Derived.Test.YtihiakgpegfghaaRnarrows
set_option linter.unusedVariables false
set_option linter.unusedSimpArgs false
namespace Go.Pi
@[go_sem] theorem snoc_ep (l : List Epi) (e : Epi) : l.map epC ++ [[.s (.int .u64 e.tr.hi), .s (.int .u64 e.tr.lo), .s (.int .i64 e.first), .s (.int .i64 e.last), .s (.bool e.sure), .sh false (e.spans.map spC)]] = (l ++ [e]).map epC := by simp [epC]
@[go_sem] theorem appSl_nilR {P : Program} (r : List PV) (rs : List (List PV)) (e b ver n sz : Nat) (H : Heap) (hn : n = (r :: rs).length) (hs : sz = szOf P e) :
    (appSl P e b ver n [] e sz false (r :: rs)).val H = some (.sl b ver 0 n, [(b, .row ver e sz false (r :: rs))]) := by
  subst hn hs
  unfold appSl
  rw [if_pos ⟨rfl, rfl, rfl, by simp⟩, if_pos (by simp)]
  simp [Rd.val]
end Go.Pi
namespace Go.Proofs.Ytihiakgpegfghaa
open Go Go.Pi
set_option maxHeartbeats 4000000
set_option maxRecDepth 10000
abbrev epR (l : List Epi) : Option Blk := some (.row 0 51 6 false (l.map epC))
abbrev zR : Option Blk := some (.row 0 45 4 true [[.s (.int .i64 0), .s (.int .i64 0), .s (.int .i64 0), .z]])
abbrev mR (a b c : Int) (n : Nat) : Option Blk := some (.row 0 45 4 true [[.s (.int .i64 a), .s (.int .i64 b), .s (.int .i64 c), .sl 1579 0 0 n]])
theorem MakeIn (ln : Bool) (es out : List Epi) (a b c : Int) (i : Nat) (x : Epi) (hx : es[i]? = some x) (hM : (es.length : Int) ≤ 1000000) (hO : (out.length : Int) ≤ 1000000) : ∀ (k : Nat), k ≤ out.length →
   ∃ f H k', Pi.Loop (exec cx (Cal cx) c27_2) (Rst Try.prog ([(3, none), (8, none), (9, none), (10, none), (11, none)], [])) (St.mk (sF [(3, .sh ln (es.map epC)), (8, .ad 8 0 0 0), (9, .ad 9 0 0 0), (10, .s (.int .i64 i)), (11, .s (.int .i64 k))]) (hF [(8, zR), (9, mR a b c out.length), (1579, epR out)])) = some (.ex 2, St.mk f H) ∧
     f 3 = .sh ln (es.map epC) ∧ f 8 = .ad 8 0 0 0 ∧ f 9 = .ad 9 0 0 0 ∧ f 10 = .s (.int .i64 i) ∧ f 11 = .s (.int .i64 (k' : Nat)) ∧ k' ≤ k ∧ H 8 = zR ∧ H 9 = mR a b c out.length ∧ H 1579 = epR out ∧ H 48 = none ∧ H 53 = none := by
  have hi : (i : Int) < (es.length : Int) := by
    obtain ⟨h, _⟩ := List.getElem?_eq_some_iff.1 hx
    omega
  intro k
  induction k with
  | zero =>
    intro h
    rw [Loop_eq]
    simp -implicitDefEqProofs only [fns_27, c27, go_sem, Nat.reduceShiftRight, Nat.reduceAnd, reduceIte, reduceCtorEq, Nat.reduceEqDiff, Nat.reduceAdd, Nat.reduceMul, Nat.reduceSub, Nat.reduceLT, Nat.reduceLeDiff, Nat.reduceBEq, Nat.reduceBNe, Int.reduceToNat, Int.reduceLT, Int.reduceLE, Int.reduceEq, Int.reduceNe, Int.reduceMul, Int.reduceAdd, Int.reduceSub, Int.reduceNeg, c27_2]
    exact ⟨_, _, 0, rfl, rfl, rfl, rfl, rfl, rfl, Nat.le_refl _, rfl, rfl, rfl, rfl, rfl⟩
  | succ k ih =>
    intro h
    have c0 : (0 : Int) < ((k + 1 : Nat) : Int) := by omega
    have c1 : (k : Int) < (out.length : Int) := by omega
    have c2 : k < out.length := by omega
    obtain ⟨y, hy⟩ := get_of_lt (l := out) (i := k) c2
    have h9 : IntKind.i64.wrap (((k + 1 : Nat) : Int) - 1) = (k : Int) := by rw [wrap64_id] <;> omega
    have h1 := LessTrace x.tr y.tr
    simp only [trC] at h1
    have h7 := ih (by omega)
    rw [Loop_eq]
    cases hL : ltTr x.tr y.tr
    · rw [hL] at h1
      simp -implicitDefEqProofs only [fns_27, c27, go_sem, Nat.reduceShiftRight, Nat.reduceAnd, reduceIte, reduceCtorEq, Nat.reduceEqDiff, Nat.reduceAdd, Nat.reduceMul, Nat.reduceSub, Nat.reduceLT, Nat.reduceLeDiff, Nat.reduceBEq, Nat.reduceBNe, Int.reduceToNat, Int.reduceLT, Int.reduceLE, Int.reduceEq, Int.reduceNe, Int.reduceMul, Int.reduceAdd, Int.reduceSub, Int.reduceNeg, c27_2, hi, c0, c1, c2, h9, getD_map epC hx, getD_map epC hy, epC, h1]
      exact ⟨_, _, k + 1, rfl, rfl, rfl, rfl, rfl, rfl, Nat.le_refl _, rfl, rfl, rfl, rfl, rfl⟩
    · rw [hL] at h1
      obtain ⟨f, H, k', g1, g2, g3, g4, g5, g6, g7, g8, g9, g10, g11, g12⟩ := h7
      simp only [epR] at g1 g10
      simp -implicitDefEqProofs only [fns_27, c27, go_sem, Nat.reduceShiftRight, Nat.reduceAnd, reduceIte, reduceCtorEq, Nat.reduceEqDiff, Nat.reduceAdd, Nat.reduceMul, Nat.reduceSub, Nat.reduceLT, Nat.reduceLeDiff, Nat.reduceBEq, Nat.reduceBNe, Int.reduceToNat, Int.reduceLT, Int.reduceLE, Int.reduceEq, Int.reduceNe, Int.reduceMul, Int.reduceAdd, Int.reduceSub, Int.reduceNeg, c27_2, hi, c0, c1, c2, h9, getD_map epC hx, getD_map epC hy, epC, h1]
      exact ⟨f, H, k', g1, g2, g3, g4, g5, g6, Nat.le_succ_of_le g7, g8, g9, g10, g11, g12⟩
theorem MakeLoop (ln : Bool) (es : List Epi) (a b c : Int) (hM : (es.length : Int) ≤ 100000) : ∀ (n i : Nat) (out : List Epi), i + n = es.length → out.length + n ≤ 200000 →
   ∃ f H out', Pi.Loop (exec cx (Cal cx) c27_0) (Rst Try.prog ([(3, none), (8, none), (9, none), (10, none)], [])) (St.mk (sF [(3, .sh ln (es.map epC)), (8, .ad 8 0 0 0), (9, .ad 9 0 0 0), (10, .s (.int .i64 i))]) (hF [(8, zR), (9, mR a b c out.length), (1579, epR out)])) = some (.ex 0, St.mk f H) ∧
     f 8 = .ad 8 0 0 0 ∧ f 9 = .ad 9 0 0 0 ∧ H 8 = zR ∧ H 9 = mR a b c out'.length ∧ H 1579 = epR out' ∧ out'.Perm (out ++ es.drop i) := by
  intro n
  induction n with
  | zero =>
    intro i out h _
    have h0 : ¬ (i : Int) < (es.length : Int) := by omega
    rw [Loop_eq]
    simp -implicitDefEqProofs only [fns_27, c27, go_sem, Nat.reduceShiftRight, Nat.reduceAnd, reduceIte, reduceCtorEq, Nat.reduceEqDiff, Nat.reduceAdd, Nat.reduceMul, Nat.reduceSub, Nat.reduceLT, Nat.reduceLeDiff, Nat.reduceBEq, Nat.reduceBNe, Int.reduceToNat, Int.reduceLT, Int.reduceLE, Int.reduceEq, Int.reduceNe, Int.reduceMul, Int.reduceAdd, Int.reduceSub, Int.reduceNeg, c27_0, h0]
    exact ⟨_, _, out, rfl, rfl, rfl, rfl, rfl, rfl, by rw [drop_end (by omega), List.append_nil]⟩
  | succ n ih =>
    intro i out h ho
    have h0 : (i : Int) < (es.length : Int) := by omega
    obtain ⟨x, hx⟩ := get_of_lt (l := es) (i := i) (by omega)
    have h8 : IntKind.i64.wrap ((i : Int) + 1) = ((i + 1 : Nat) : Int) := by rw [wrap64_id] <;> omega
    obtain ⟨f, H, A, g1, g2, g3, g4, g5, g6, g7, g8, g9, g10, g11, g12⟩ := MakeIn ln es out a b c i x hx (by omega) (by omega) out.length (Nat.le_refl _)
    obtain ⟨f7, H7, out', q1, q2, q3, q4, q5, q6, q7⟩ := ih (i + 1) (out.take A ++ [x] ++ out.drop A) (by omega) (by simp; omega)
    have hp : out'.Perm (out ++ es.drop i) := by
      refine q7.trans ?_
      rw [drop_get hx]
      have e1 : (out.take A ++ [x] ++ out.drop A).Perm (out ++ [x]) := by
        have e2 : (out.take A ++ ([x] ++ out.drop A)).Perm (out.take A ++ (out.drop A ++ [x])) := List.Perm.append_left _ List.perm_append_comm
        rw [← List.append_assoc, ← List.append_assoc, List.take_append_drop] at e2
        exact e2
      have e3 := e1.append_right (es.drop (i + 1))
      simpa using e3
    have c2 : (0 : Int) + (A : Int) ≤ (out.length : Int) := by omega
    have c3 : (A : Int) ≤ (out.length : Int) := by omega
    have c4 : (0 : Int) + (out.length : Int) ≤ (out.length : Int) := by omega
    have e1 : (out.map epC).take A = (out.take A).map epC := by rw [List.map_take]
    have e2 : ((out.map epC).drop A).take (out.length - A) = (out.drop A).map epC := by rw [← List.map_drop, List.take_of_length_le (by simp)]
    have e3 : (out.take A).length = A := by simp; omega
    have b2 : (out.take A ++ [x]).length * 64 ≤ 140737488355328 := by simp; omega
    have b3 : (out.take A ++ [x] ++ out.drop A).length * 64 ≤ 140737488355328 := by simp; omega
    have b4 : A * 64 ≤ 140737488355328 := by omega
    have b5 : A ≤ 9223372036854775807 := by omega
    simp only [zR, mR, epR] at g1 g8 g9 g10 q1 q4 q5 q6
    rw [Loop_eq]
    by_cases hA : A = out.length
    · subst hA
      have hz : out.drop out.length = [] := drop_end (by omega)
      have hz2 : out.take out.length = out := List.take_length
      rw [hz, hz2] at b3 q1
      rw [hz2] at b2
      simp only [List.append_nil] at b3 q1
      simp -implicitDefEqProofs only [fns_27, c27, go_sem, Nat.reduceShiftRight, Nat.reduceAnd, reduceIte, reduceCtorEq, Nat.reduceEqDiff, Nat.reduceAdd, Nat.reduceMul, Nat.reduceSub, Nat.reduceLT, Nat.reduceLeDiff, Nat.reduceBEq, Nat.reduceBNe, Int.reduceToNat, Int.reduceLT, Int.reduceLE, Int.reduceEq, Int.reduceNe, Int.reduceMul, Int.reduceAdd, Int.reduceSub, Int.reduceNeg, c27_0, h0, getD_map epC hx, epC, g1, g2, g3, g4, g5, g6, g8, g9, g10, g11, g12, h8, c2, c3, c4, b2, b3, b4, b5, Nat.sub_zero, Nat.sub_self, List.take_zero, List.append_nil, hz]
      exact ⟨f7, H7, out', q1, q2, q3, q4, q5, q6, hp⟩
    · have hA2 : A < out.length := by omega
      obtain ⟨y, hy⟩ := get_of_lt (l := out) (i := A) hA2
      have hd : out.drop A ≠ [] := by rw [drop_get hy]; simp
      have c6 : (out.take A ++ [x] ++ out.drop A).length = out.length + 1 := by simp; omega
      simp -implicitDefEqProofs only [fns_27, c27, go_sem, Nat.reduceShiftRight, Nat.reduceAnd, reduceIte, reduceCtorEq, Nat.reduceEqDiff, Nat.reduceAdd, Nat.reduceMul, Nat.reduceSub, Nat.reduceLT, Nat.reduceLeDiff, Nat.reduceBEq, Nat.reduceBNe, Int.reduceToNat, Int.reduceLT, Int.reduceLE, Int.reduceEq, Int.reduceNe, Int.reduceMul, Int.reduceAdd, Int.reduceSub, Int.reduceNeg, c27_0, h0, getD_map epC hx, epC, g1, g2, g3, g4, g5, g6, g8, g9, g10, g11, g12, h8, c2, c3, c4, e1, e2, e3, b2, b3, b4, b5, Nat.sub_zero, appSl_map epC epC (out.take A ++ [x]) (out.drop A) hd]
      exact ⟨f7, H7, out', q1, q2, q3, q4, q5, q6, hp⟩
theorem Make (ln : Bool) (es : List Epi) (a b c : Int) (hM : (es.length : Int) ≤ 100000) : ∃ out, Cal cx 27 [.s (.int .i64 a), .s (.int .i64 b), .s (.int .i64 c), .sh ln (es.map epC)] = some ([.ag (bkC ⟨a, b, c, out⟩)], []) ∧ out.Perm es := by
  cases es with
  | nil =>
    refine ⟨[], ?_, List.Perm.refl _⟩
    rw [Cal_eq]
    simp -implicitDefEqProofs only [fns_27, c27, go_sem, Nat.reduceShiftRight, Nat.reduceAnd, reduceIte, reduceCtorEq, Nat.reduceEqDiff, Nat.reduceAdd, Nat.reduceMul, Nat.reduceSub, Nat.reduceLT, Nat.reduceLeDiff, Nat.reduceBEq, Nat.reduceBNe, Int.reduceToNat, Int.reduceLT, Int.reduceLE, Int.reduceEq, Int.reduceNe, Int.reduceMul, Int.reduceAdd, Int.reduceSub, Int.reduceNeg, List.map_nil]
    rw [Loop_eq]
    simp -implicitDefEqProofs only [fns_27, c27, go_sem, Nat.reduceShiftRight, Nat.reduceAnd, reduceIte, reduceCtorEq, Nat.reduceEqDiff, Nat.reduceAdd, Nat.reduceMul, Nat.reduceSub, Nat.reduceLT, Nat.reduceLeDiff, Nat.reduceBEq, Nat.reduceBNe, Int.reduceToNat, Int.reduceLT, Int.reduceLE, Int.reduceEq, Int.reduceNe, Int.reduceMul, Int.reduceAdd, Int.reduceSub, Int.reduceNeg, c27_0, bkC, List.length_nil]
  | cons x r =>
    obtain ⟨f, H, out, g1, g2, g3, g4, g5, g6, g7⟩ := MakeLoop ln (x :: r) a b c hM r.length 1 [x] (by simp; omega) (by simp at hM ⊢; omega)
    refine ⟨out, ?_, by simpa using g7⟩
    have h0 : (0 : Int) < ((x :: r).length : Int) := by rw [List.length_cons]; omega
    have hx : (x :: r)[0]? = some x := rfl
    have w1 : IntKind.i64.wrap 1 = 1 := by decide
    generalize (x :: r) = es at *
    simp only [zR, mR, epR, Int.cast_ofNat_Int, List.length_cons, List.length_nil, Nat.zero_add, List.map_cons, List.map_nil, epC] at g1 g4 g5 g6
    rw [Cal_eq]
    simp -implicitDefEqProofs only [fns_27, c27, go_sem, Nat.reduceShiftRight, Nat.reduceAnd, reduceIte, reduceCtorEq, Nat.reduceEqDiff, Nat.reduceAdd, Nat.reduceMul, Nat.reduceSub, Nat.reduceLT, Nat.reduceLeDiff, Nat.reduceBEq, Nat.reduceBNe, Int.reduceToNat, Int.reduceLT, Int.reduceLE, Int.reduceEq, Int.reduceNe, Int.reduceMul, Int.reduceAdd, Int.reduceSub, Int.reduceNeg]
    rw [Loop_eq]
    simp -implicitDefEqProofs only [fns_27, c27, go_sem, Nat.reduceShiftRight, Nat.reduceAnd, reduceIte, reduceCtorEq, Nat.reduceEqDiff, Nat.reduceAdd, Nat.reduceMul, Nat.reduceSub, Nat.reduceLT, Nat.reduceLeDiff, Nat.reduceBEq, Nat.reduceBNe, Int.reduceToNat, Int.reduceLT, Int.reduceLE, Int.reduceEq, Int.reduceNe, Int.reduceMul, Int.reduceAdd, Int.reduceSub, Int.reduceNeg, c27_0, h0]
    rw [Loop_eq]
    simp -implicitDefEqProofs only [fns_27, c27, go_sem, Nat.reduceShiftRight, Nat.reduceAnd, reduceIte, reduceCtorEq, Nat.reduceEqDiff, Nat.reduceAdd, Nat.reduceMul, Nat.reduceSub, Nat.reduceLT, Nat.reduceLeDiff, Nat.reduceBEq, Nat.reduceBNe, Int.reduceToNat, Int.reduceLT, Int.reduceLE, Int.reduceEq, Int.reduceNe, Int.reduceMul, Int.reduceAdd, Int.reduceSub, Int.reduceNeg, c27_2, h0, getD_map epC hx, epC, w1, List.length_cons, List.length_nil]
    simp only [c27_0, c27_2] at g1
    simp -implicitDefEqProofs only [fns_27, c27, go_sem, Nat.reduceShiftRight, Nat.reduceAnd, reduceIte, reduceCtorEq, Nat.reduceEqDiff, Nat.reduceAdd, Nat.reduceMul, Nat.reduceSub, Nat.reduceLT, Nat.reduceLeDiff, Nat.reduceBEq, Nat.reduceBNe, Int.reduceToNat, Int.reduceLT, Int.reduceLE, Int.reduceEq, Int.reduceNe, Int.reduceMul, Int.reduceAdd, Int.reduceSub, Int.reduceNeg, g1, g2, g3, g4, g5, g6, bkC]
theorem Join (a b : Blo) (n : Int) (ha : (a.eps.length : Int) ≤ 40000) (hb : (b.eps.length : Int) ≤ 40000) : ∃ j : Blo, Cal cx 20 [.ag (bkC a), .ag (bkC b), .s (.int .i64 n)] = some ([.ag (bkC j)], []) ∧ j.eps.Perm (a.eps ++ b.eps) := by
  have mk := fun (x y z : Int) => Make true (a.eps ++ b.eps) x y z (by simp; omega)
  have c1 : a.eps.length * 64 ≤ 140737488355328 := by omega
  have c2 : a.eps.length ≤ 9223372036854775807 := by omega
  have c3 : (a.eps ++ b.eps).length * 64 ≤ 140737488355328 := by simp; omega
  by_cases hz : b.eps = []
  · by_cases h1 : a.born < b.born
    · by_cases h2 : a.tier < b.tier
      · obtain ⟨out, m1, m2⟩ := mk n b.born (IntKind.i64.wrap (b.tier + 1))
        refine ⟨⟨n, b.born, IntKind.i64.wrap (b.tier + 1), out⟩, ?_, m2⟩
        simp only [hz, List.append_nil, bkC] at m1 ⊢
        rw [Cal_eq]
        simp -implicitDefEqProofs only [fns_20, c20, go_sem, Nat.reduceShiftRight, Nat.reduceAnd, reduceIte, reduceCtorEq, Nat.reduceEqDiff, Nat.reduceAdd, Nat.reduceMul, Nat.reduceSub, Nat.reduceLT, Nat.reduceLeDiff, Nat.reduceBEq, Nat.reduceBNe, Int.reduceToNat, Int.reduceLT, Int.reduceLE, Int.reduceEq, Int.reduceNe, Int.reduceMul, Int.reduceAdd, Int.reduceSub, Int.reduceNeg, bkC, h1, h2, hz, List.map_nil, c1, c2, m1]
      · obtain ⟨out, m1, m2⟩ := mk n b.born (IntKind.i64.wrap (a.tier + 1))
        refine ⟨⟨n, b.born, IntKind.i64.wrap (a.tier + 1), out⟩, ?_, m2⟩
        simp only [hz, List.append_nil, bkC] at m1 ⊢
        rw [Cal_eq]
        simp -implicitDefEqProofs only [fns_20, c20, go_sem, Nat.reduceShiftRight, Nat.reduceAnd, reduceIte, reduceCtorEq, Nat.reduceEqDiff, Nat.reduceAdd, Nat.reduceMul, Nat.reduceSub, Nat.reduceLT, Nat.reduceLeDiff, Nat.reduceBEq, Nat.reduceBNe, Int.reduceToNat, Int.reduceLT, Int.reduceLE, Int.reduceEq, Int.reduceNe, Int.reduceMul, Int.reduceAdd, Int.reduceSub, Int.reduceNeg, bkC, h1, h2, hz, List.map_nil, c1, c2, m1]
    · by_cases h2 : a.tier < b.tier
      · obtain ⟨out, m1, m2⟩ := mk n a.born (IntKind.i64.wrap (b.tier + 1))
        refine ⟨⟨n, a.born, IntKind.i64.wrap (b.tier + 1), out⟩, ?_, m2⟩
        simp only [hz, List.append_nil, bkC] at m1 ⊢
        rw [Cal_eq]
        simp -implicitDefEqProofs only [fns_20, c20, go_sem, Nat.reduceShiftRight, Nat.reduceAnd, reduceIte, reduceCtorEq, Nat.reduceEqDiff, Nat.reduceAdd, Nat.reduceMul, Nat.reduceSub, Nat.reduceLT, Nat.reduceLeDiff, Nat.reduceBEq, Nat.reduceBNe, Int.reduceToNat, Int.reduceLT, Int.reduceLE, Int.reduceEq, Int.reduceNe, Int.reduceMul, Int.reduceAdd, Int.reduceSub, Int.reduceNeg, bkC, h1, h2, hz, List.map_nil, c1, c2, m1]
      · obtain ⟨out, m1, m2⟩ := mk n a.born (IntKind.i64.wrap (a.tier + 1))
        refine ⟨⟨n, a.born, IntKind.i64.wrap (a.tier + 1), out⟩, ?_, m2⟩
        simp only [hz, List.append_nil, bkC] at m1 ⊢
        rw [Cal_eq]
        simp -implicitDefEqProofs only [fns_20, c20, go_sem, Nat.reduceShiftRight, Nat.reduceAnd, reduceIte, reduceCtorEq, Nat.reduceEqDiff, Nat.reduceAdd, Nat.reduceMul, Nat.reduceSub, Nat.reduceLT, Nat.reduceLeDiff, Nat.reduceBEq, Nat.reduceBNe, Int.reduceToNat, Int.reduceLT, Int.reduceLE, Int.reduceEq, Int.reduceNe, Int.reduceMul, Int.reduceAdd, Int.reduceSub, Int.reduceNeg, bkC, h1, h2, hz, List.map_nil, c1, c2, m1]
  · by_cases h1 : a.born < b.born
    · by_cases h2 : a.tier < b.tier
      · obtain ⟨out, m1, m2⟩ := mk n b.born (IntKind.i64.wrap (b.tier + 1))
        refine ⟨⟨n, b.born, IntKind.i64.wrap (b.tier + 1), out⟩, ?_, m2⟩
        simp only [bkC] at m1 ⊢
        rw [Cal_eq]
        simp -implicitDefEqProofs only [fns_20, c20, go_sem, Nat.reduceShiftRight, Nat.reduceAnd, reduceIte, reduceCtorEq, Nat.reduceEqDiff, Nat.reduceAdd, Nat.reduceMul, Nat.reduceSub, Nat.reduceLT, Nat.reduceLeDiff, Nat.reduceBEq, Nat.reduceBNe, Int.reduceToNat, Int.reduceLT, Int.reduceLE, Int.reduceEq, Int.reduceNe, Int.reduceMul, Int.reduceAdd, Int.reduceSub, Int.reduceNeg, bkC, h1, h2, c1, c2, c3, appSl_map epC epC a.eps b.eps hz, m1]
      · obtain ⟨out, m1, m2⟩ := mk n b.born (IntKind.i64.wrap (a.tier + 1))
        refine ⟨⟨n, b.born, IntKind.i64.wrap (a.tier + 1), out⟩, ?_, m2⟩
        simp only [bkC] at m1 ⊢
        rw [Cal_eq]
        simp -implicitDefEqProofs only [fns_20, c20, go_sem, Nat.reduceShiftRight, Nat.reduceAnd, reduceIte, reduceCtorEq, Nat.reduceEqDiff, Nat.reduceAdd, Nat.reduceMul, Nat.reduceSub, Nat.reduceLT, Nat.reduceLeDiff, Nat.reduceBEq, Nat.reduceBNe, Int.reduceToNat, Int.reduceLT, Int.reduceLE, Int.reduceEq, Int.reduceNe, Int.reduceMul, Int.reduceAdd, Int.reduceSub, Int.reduceNeg, bkC, h1, h2, c1, c2, c3, appSl_map epC epC a.eps b.eps hz, m1]
    · by_cases h2 : a.tier < b.tier
      · obtain ⟨out, m1, m2⟩ := mk n a.born (IntKind.i64.wrap (b.tier + 1))
        refine ⟨⟨n, a.born, IntKind.i64.wrap (b.tier + 1), out⟩, ?_, m2⟩
        simp only [bkC] at m1 ⊢
        rw [Cal_eq]
        simp -implicitDefEqProofs only [fns_20, c20, go_sem, Nat.reduceShiftRight, Nat.reduceAnd, reduceIte, reduceCtorEq, Nat.reduceEqDiff, Nat.reduceAdd, Nat.reduceMul, Nat.reduceSub, Nat.reduceLT, Nat.reduceLeDiff, Nat.reduceBEq, Nat.reduceBNe, Int.reduceToNat, Int.reduceLT, Int.reduceLE, Int.reduceEq, Int.reduceNe, Int.reduceMul, Int.reduceAdd, Int.reduceSub, Int.reduceNeg, bkC, h1, h2, c1, c2, c3, appSl_map epC epC a.eps b.eps hz, m1]
      · obtain ⟨out, m1, m2⟩ := mk n a.born (IntKind.i64.wrap (a.tier + 1))
        refine ⟨⟨n, a.born, IntKind.i64.wrap (a.tier + 1), out⟩, ?_, m2⟩
        simp only [bkC] at m1 ⊢
        rw [Cal_eq]
        simp -implicitDefEqProofs only [fns_20, c20, go_sem, Nat.reduceShiftRight, Nat.reduceAnd, reduceIte, reduceCtorEq, Nat.reduceEqDiff, Nat.reduceAdd, Nat.reduceMul, Nat.reduceSub, Nat.reduceLT, Nat.reduceLeDiff, Nat.reduceBEq, Nat.reduceBNe, Int.reduceToNat, Int.reduceLT, Int.reduceLE, Int.reduceEq, Int.reduceNe, Int.reduceMul, Int.reduceAdd, Int.reduceSub, Int.reduceNeg, bkC, h1, h2, c1, c2, c3, appSl_map epC epC a.eps b.eps hz, m1]
end Go.Proofs.Ytihiakgpegfghaa
