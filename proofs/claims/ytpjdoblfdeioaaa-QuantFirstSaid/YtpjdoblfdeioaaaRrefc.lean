/- The busiest, as the reference finds them: sorted, so many. Own work. -/
import Derived.Test.YtpjdoblfdeioaaaRins
set_option linter.unusedVariables false
set_option linter.unusedSimpArgs false
namespace Go.Pi
theorem set2B (l : List Bz) (k j : Nat) (a b : Bz) : ((l.map bzC).set k (bzC a)).set j (bzC b) = ((l.set k a).set j b).map bzC := by rw [List.map_set, List.map_set]
end Go.Pi
namespace Go.Proofs.Ytpjdoblfdeioaaa
open Go Go.Pi
set_option maxHeartbeats 4000000
set_option maxRecDepth 10000
theorem SwapL (nn : Int) (i : Nat) : ∀ (k : Nat) (cur : List Bz), k < cur.length → (cur.length : Int) ≤ 100000 →
   ∃ f H, Pi.Loop (exec cx (Cal cx) c8_6) (Rst Try.prog ([(2, none), (7, some 34), (10, none), (11, none)], [])) (St.mk (sF [(2, .s (.int .i64 nn)), (7, .sl 500007 0 0 cur.length), (10, .s (.int .i64 i)), (11, .s (.int .i64 k))]) (hF [(500007, bzR cur)])) = some (.ex 6, St.mk f H) ∧
     f 2 = .s (.int .i64 nn) ∧ f 7 = .sl 500007 0 0 cur.length ∧ f 10 = .s (.int .i64 i) ∧ H 500007 = bzR (swapD k cur) := by
  intro k
  induction k with
  | zero =>
    intro cur h _
    rw [Loop_eq]
    simp -implicitDefEqProofs only [fns_8, c8, go_sem, Nat.reduceShiftRight, Nat.reduceAnd, reduceIte, reduceCtorEq, Nat.reduceEqDiff, Nat.reduceAdd, Nat.reduceMul, Nat.reduceSub, Nat.reduceLT, Nat.reduceLeDiff, Nat.reduceBEq, Nat.reduceBNe, Int.reduceToNat, Int.reduceLT, Int.reduceLE, Int.reduceEq, Int.reduceNe, Int.reduceMul, Int.reduceAdd, Int.reduceSub, Int.reduceNeg, c8_6]
    exact ⟨_, _, rfl, rfl, rfl, rfl, rfl⟩
  | succ k ih =>
    intro cur h hM
    have c0 : (0 : Int) < ((k + 1 : Nat) : Int) := by omega
    have c1 : ((k + 1 : Nat) : Int) < (cur.length : Int) := by omega
    have c2 : (k : Int) < (cur.length : Int) := by omega
    have c3 : k < cur.length := by omega
    have c4 : (0 : Int) ≤ (k : Int) := by omega
    obtain ⟨a, ha⟩ := get_of_lt (l := cur) (i := k + 1) h
    obtain ⟨b, hb⟩ := get_of_lt (l := cur) (i := k) (by omega)
    have h9 : IntKind.i64.wrap (((k + 1 : Nat) : Int) - 1) = (k : Int) := by rw [wrap64_id] <;> omega
    have h1 := Busier a b
    have h7 := ih ((cur.set (k + 1) b).set k a) (by simp; omega) (by simpa using hM)
    have e : swapD (k + 1) cur = if ltBz a b then swapD k ((cur.set (k + 1) b).set k a) else cur := by
      conv => lhs; unfold swapD
      rw [ha, hb]
    simp only [bzC] at h1
    rw [Loop_eq, e]
    cases hL : ltBz a b
    · rw [hL] at h1
      simp -implicitDefEqProofs only [fns_8, c8, go_sem, Nat.reduceShiftRight, Nat.reduceAnd, reduceIte, reduceCtorEq, Nat.reduceEqDiff, Nat.reduceAdd, Nat.reduceMul, Nat.reduceSub, Nat.reduceLT, Nat.reduceLeDiff, Nat.reduceBEq, Nat.reduceBNe, Int.reduceToNat, Int.reduceLT, Int.reduceLE, Int.reduceEq, Int.reduceNe, Int.reduceMul, Int.reduceAdd, Int.reduceSub, Int.reduceNeg, c8_6, h, c0, c1, c2, c3, c4, h9, getD_map bzC ha, getD_map bzC hb, bzC, h1]
      exact ⟨_, _, rfl, rfl, rfl, rfl, rfl⟩
    · rw [hL] at h1
      have hb2 : (cur.set (k + 1) (⟨b.svc, b.op, b.count, b.errs⟩ : Bz))[k]? = some b := by
        rw [List.getElem?_set_ne (by omega)]; exact hb
      rw [List.length_set, List.length_set] at h7
      simp only [bzR] at h7
      simp -implicitDefEqProofs only [fns_8, c8, go_sem, Nat.reduceShiftRight, Nat.reduceAnd, reduceIte, reduceCtorEq, Nat.reduceEqDiff, Nat.reduceAdd, Nat.reduceMul, Nat.reduceSub, Nat.reduceLT, Nat.reduceLeDiff, Nat.reduceBEq, Nat.reduceBNe, Int.reduceToNat, Int.reduceLT, Int.reduceLE, Int.reduceEq, Int.reduceNe, Int.reduceMul, Int.reduceAdd, Int.reduceSub, Int.reduceNeg, c8_6, h, c0, c1, c2, c3, c4, h9, getD_map bzC ha, getD_map bzC hb, getD_map bzC hb2, bzC, h1, setBz, List.length_set, bzR]
      exact h7
theorem SortL (nn : Int) : ∀ (n i : Nat) (cur : List Bz), i + n = cur.length → (cur.length : Int) ≤ 100000 →
   ∃ f H, Pi.Loop (exec cx (Cal cx) c8_4) (Rst Try.prog ([(2, none), (7, some 34), (10, none)], [])) (St.mk (sF [(2, .s (.int .i64 nn)), (7, .sl 500007 0 0 cur.length), (10, .s (.int .i64 i))]) (hF [(500007, bzR cur)])) = some (.ex 4, St.mk f H) ∧
     f 2 = .s (.int .i64 nn) ∧ f 7 = .sl 500007 0 0 cur.length ∧ H 500007 = bzR (sortN n i cur) := by
  intro n
  induction n with
  | zero =>
    intro i cur h _
    have h0 : ¬ (i : Int) < (cur.length : Int) := by omega
    rw [Loop_eq]
    simp -implicitDefEqProofs only [fns_8, c8, go_sem, Nat.reduceShiftRight, Nat.reduceAnd, reduceIte, reduceCtorEq, Nat.reduceEqDiff, Nat.reduceAdd, Nat.reduceMul, Nat.reduceSub, Nat.reduceLT, Nat.reduceLeDiff, Nat.reduceBEq, Nat.reduceBNe, Int.reduceToNat, Int.reduceLT, Int.reduceLE, Int.reduceEq, Int.reduceNe, Int.reduceMul, Int.reduceAdd, Int.reduceSub, Int.reduceNeg, c8_4, h0, sortN]
    exact ⟨_, _, rfl, rfl, rfl, rfl⟩
  | succ n ih =>
    intro i cur h hM
    have h0 : (i : Int) < (cur.length : Int) := by omega
    have h8 : IntKind.i64.wrap ((i : Int) + 1) = ((i + 1 : Nat) : Int) := by rw [wrap64_id] <;> omega
    obtain ⟨f, H, g1, g2, g3, g4, g5⟩ := SwapL nn i i cur (by omega) hM
    have h7 := ih (i + 1) (swapD i cur) (by rw [swapD_len]; omega) (by rw [swapD_len]; exact hM)
    rw [swapD_len] at h7
    simp only [bzR] at g1 g5 h7 ⊢
    rw [Loop_eq]
    simp only [sortN]
    simp -implicitDefEqProofs only [fns_8, c8, go_sem, Nat.reduceShiftRight, Nat.reduceAnd, reduceIte, reduceCtorEq, Nat.reduceEqDiff, Nat.reduceAdd, Nat.reduceMul, Nat.reduceSub, Nat.reduceLT, Nat.reduceLeDiff, Nat.reduceBEq, Nat.reduceBNe, Int.reduceToNat, Int.reduceLT, Int.reduceLE, Int.reduceEq, Int.reduceNe, Int.reduceMul, Int.reduceAdd, Int.reduceSub, Int.reduceNeg, c8_4, h0, g1, g2, g3, g4, g5, h8]
    exact h7
theorem sortN_len : ∀ (n i : Nat) (l : List Bz), (sortN n i l).length = l.length
  | 0, _, _ => rfl
  | n + 1, i, l => by simp only [sortN]; rw [sortN_len, swapD_len]
/-- What the reference's list of rows comes to: the same. -/
theorem RBusy (ln : Bool) (l : List Rw) (lv nn : Int) (hM : (l.length : Int) ≤ 10000) : Cal cx 8 [.sh ln (l.map rwC), .s (.int .i64 lv), .s (.int .i64 nn)] = some ([.ow 34 (((pdqL ltBz (l.foldl (addLv lv) [])).take (capN nn (l.foldl (addLv lv) []).length)).map bzC)], []) := by
  obtain ⟨f, H, g1, g2, g3, g4⟩ := RefL ln l lv nn (by omega) l.length 0 [] (by omega) (by simp; omega)
  have hl := foldLv_len lv l []
  rw [sorts_eq]
  simp only [Int.cast_ofNat_Int, List.drop_zero, List.map_nil, List.length_nil, bzR] at g1 g2 g3 g4 hl
  generalize hr : l.foldl (addLv lv) [] = r at g3 g4 hl
  obtain ⟨f', H', d1, d2, d3, d4⟩ := SortL nn r.length 0 r (by omega) (by omega)
  have hc := Cap nn 0 r.length
  have hlen : (srtR r).length = r.length := sortN_len _ _ _
  have e : (if nn < 0 then (0 : Int) else if nn > (r.length : Int) then (r.length : Int) else nn) = (capN nn r.length : Int) := by unfold capN; (repeat' split) <;> omega
  have c : capN nn r.length ≤ r.length := by unfold capN; (repeat' split) <;> omega
  have c2 : (0 : Int) + (capN nn r.length : Int) ≤ (r.length : Int) := by omega
  rw [e] at hc
  simp only [Int.cast_ofNat_Int, bzR] at d1 d4
  have d5 : H' 500007 = some (.row 0 34 4 false ((srtR r).map bzC)) := d4
  rw [Cal_eq]
  simp -implicitDefEqProofs only [fns_8, c8, go_sem, Nat.reduceShiftRight, Nat.reduceAnd, reduceIte, reduceCtorEq, Nat.reduceEqDiff, Nat.reduceAdd, Nat.reduceMul, Nat.reduceSub, Nat.reduceLT, Nat.reduceLeDiff, Nat.reduceBEq, Nat.reduceBNe, Int.reduceToNat, Int.reduceLT, Int.reduceLE, Int.reduceEq, Int.reduceNe, Int.reduceMul, Int.reduceAdd, Int.reduceSub, Int.reduceNeg, g1, g2, g3, g4, d1, d2, d3, d5, hc, List.length_map, hlen, c, c2, Nat.sub_zero, Int.toNat_natCast, List.map_take]
end Go.Proofs.Ytpjdoblfdeioaaa
