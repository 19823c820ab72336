/- slices.Compact of traces. Own work. -/
import Derived.Test.YtihiakgpegfghaaRall
set_option linter.unusedVariables false
set_option linter.unusedSimpArgs false
namespace Go.Pi
def dd : List Trc → List Trc
  | [] => []
  | [a] => [a]
  | a :: b :: r => if a = b then dd (b :: r) else a :: dd (b :: r)
theorem dd_two (x y : Trc) : ∀ l : List Trc, dd (l ++ [x, y]) = if x = y then dd (l ++ [x]) else dd (l ++ [x]) ++ [y]
  | [] => by simp [dd]; split <;> simp_all
  | [a] => by
    simp only [List.cons_append, List.nil_append, dd]
    by_cases h : a = x <;> by_cases h2 : x = y <;> simp [h, h2]
  | a :: b :: l => by
    have ih := dd_two x y (b :: l)
    simp only [List.cons_append, dd] at ih ⊢
    rw [ih]
    by_cases h : a = b <;> by_cases h2 : x = y <;> simp [h, h2]
theorem take_two {l : List Trc} {p : Nat} {x y : Trc} (hx : l[p]? = some x) (hy : l[p + 1]? = some y) : l.take (p + 2) = l.take p ++ [x, y] := by
  rw [take_get hy, take_get hx]; simp
theorem dd_step {l : List Trc} {p : Nat} {x y : Trc} (hx : l[p]? = some x) (hy : l[p + 1]? = some y) : dd (l.take (p + 2)) = if x = y then dd (l.take (p + 1)) else dd (l.take (p + 1)) ++ [y] := by
  rw [take_two hx hy, dd_two, take_get hx]
theorem dd_len : ∀ l : List Trc, (dd l).length ≤ l.length
  | [] => Nat.le_refl _
  | [a] => Nat.le_refl _
  | a :: b :: r => by
    have := dd_len (b :: r)
    unfold dd
    split <;> simp only [List.length_cons] at this ⊢ <;> omega
theorem dd_short : ∀ {s : List Trc}, s.length < 2 → dd s = s
  | [], _ => by simp [dd]
  | [a], _ => by simp [dd]
  | a :: b :: r, h => by simp at h; omega
theorem dd_one (s : List Trc) : dd (s.take 1) = s.take 1 := dd_short (by simp; omega)
end Go.Pi
namespace Go.Proofs.Ytihiakgpegfghaa
open Go Go.Pi
set_option maxHeartbeats 2000000
set_option maxRecDepth 10000
theorem trNe (a b : Trc) : (decide ((a.hi : Int) = b.hi) && decide ((a.lo : Int) = b.lo)) = decide (a = b) := by
  cases a; cases b
  rw [Bool.eq_iff_iff]
  simp; omega
theorem setE (l : List Trc) (k : Nat) (x : Trc) : (l.map trC).set k [.s (.int .u64 x.hi), .s (.int .u64 x.lo)] = (l.set k x).map trC := by rw [List.map_set]; rfl
theorem CompIn (s : List Trc) (k0 : Nat) (hM : (s.length : Int) ≤ 1000000000) (h0k : 1 ≤ k0) (hkl : k0 < s.length) : ∀ (n k2 k : Nat) (cur : List Trc), k0 + k2 + n = s.length → 1 ≤ k2 → cur.length = s.length → k < k0 + k2 → cur.take k = dd (s.take (k0 + k2)) → cur.drop (k0 + k2 - 1) = s.drop (k0 + k2 - 1) →
   ∃ f H k' cur', Pi.Loop (exec cx (Cal cx) c34_2) (Rst Try.prog ([(0, none), (3, none), (4, none), (5, none)], [])) (St.mk (sF [(0, .sl 0 0 0 s.length), (3, .s (.int .i64 k)), (4, .sl 0 0 k0 (s.length - k0)), (5, .s (.int .i64 k2))]) (hF [(0, tRow cur)])) = some (.ex 2, St.mk f H) ∧
     f 0 = .sl 0 0 0 s.length ∧ f 3 = .s (.int .i64 (k' : Nat)) ∧ H 0 = tRow cur' ∧ cur'.length = s.length ∧ k' ≤ s.length ∧ cur'.take k' = dd s := by
  intro n
  induction n with
  | zero =>
    intro k2 k cur h h1 hc hk ht hd
    have c0 : ¬ (k2 : Int) < ((s.length - k0 : Nat) : Int) := by omega
    rw [Loop_eq]
    simp -implicitDefEqProofs only [fns_34, c34, go_sem, Nat.reduceShiftRight, Nat.reduceAnd, reduceIte, reduceCtorEq, Nat.reduceEqDiff, Nat.reduceAdd, Nat.reduceMul, Nat.reduceSub, Nat.reduceLT, Nat.reduceLeDiff, Nat.reduceBEq, Nat.reduceBNe, Int.reduceToNat, Int.reduceLT, Int.reduceLE, Int.reduceEq, Int.reduceNe, Int.reduceMul, Int.reduceAdd, Int.reduceSub, Int.reduceNeg, c34_2, c0]
    refine ⟨_, _, k, cur, rfl, rfl, rfl, rfl, hc, by omega, ?_⟩
    rw [ht, List.take_of_length_le (by omega)]
  | succ n ih =>
    intro k2 k cur h h1 hc hk ht hd
    have c0 : (k2 : Int) < ((s.length - k0 : Nat) : Int) := by omega
    have c1 : k0 + k2 < cur.length := by omega
    have c1' : k0 + (k2 - 1) < cur.length := by omega
    have c2 : k0 + (s.length - k0) ≤ cur.length := by omega
    obtain ⟨y, hy⟩ := get_of_lt (l := s) (i := k0 + k2) (by omega)
    obtain ⟨x, hx⟩ := get_of_lt (l := s) (i := k0 + (k2 - 1)) (by omega)
    have gcur : ∀ i, k0 + k2 - 1 ≤ i → cur[i]? = s[i]? := by
      intro i hi
      have e := congrArg (fun l => l[i - (k0 + k2 - 1)]?) hd
      simp only [List.getElem?_drop] at e
      rwa [show k0 + k2 - 1 + (i - (k0 + k2 - 1)) = i by omega] at e
    have hy' : cur[k0 + k2]? = some y := by rw [gcur _ (by omega)]; exact hy
    have hx' : cur[k0 + (k2 - 1)]? = some x := by rw [gcur _ (by omega)]; exact hx
    have h8 : IntKind.i64.wrap ((k2 : Int) + 1) = ((k2 + 1 : Nat) : Int) := by rw [wrap64_id] <;> omega
    have h9 : IntKind.i64.wrap ((k2 : Int) - 1) = ((k2 - 1 : Nat) : Int) := by rw [wrap64_id] <;> omega
    have c9 : k2 - 1 < s.length - k0 := by omega
    have c9' : ((k2 - 1 : Nat) : Int) < ((s.length - k0 : Nat) : Int) := by omega
    have step := dd_step (l := s) (p := k0 + (k2 - 1)) hx (by rw [show k0 + (k2 - 1) + 1 = k0 + k2 by omega]; exact hy)
    rw [show k0 + (k2 - 1) + 2 = k0 + (k2 + 1) by omega, show k0 + (k2 - 1) + 1 = k0 + k2 by omega] at step
    rw [Loop_eq]
    by_cases hxy : x = y
    · subst hxy
      rw [if_pos rfl] at step
      have h7 := ih (k2 + 1) k cur (by omega) (by omega) hc (by omega) (by rw [ht, step]) (by
        have := congrArg (List.drop 1) hd
        rw [List.drop_drop, List.drop_drop] at this
        rwa [show k0 + k2 - 1 + 1 = k0 + (k2 + 1) - 1 by omega] at this)
      simp -implicitDefEqProofs only [fns_34, c34, go_sem, Nat.reduceShiftRight, Nat.reduceAnd, reduceIte, reduceCtorEq, Nat.reduceEqDiff, Nat.reduceAdd, Nat.reduceMul, Nat.reduceSub, Nat.reduceLT, Nat.reduceLeDiff, Nat.reduceBEq, Nat.reduceBNe, Int.reduceToNat, Int.reduceLT, Int.reduceLE, Int.reduceEq, Int.reduceNe, Int.reduceMul, Int.reduceAdd, Int.reduceSub, Int.reduceNeg, c34_2, c0, c1, c1', c2, c9, c9', getD_map trC hx', getD_map trC hy', trC, h8, h9]
      exact h7
    · rw [if_neg hxy] at step
      have hks : k < cur.length := by omega
      have hks' : (k : Int) < (s.length : Int) := by omega
      have h10 : IntKind.i64.wrap ((k : Int) + 1) = ((k + 1 : Nat) : Int) := by rw [wrap64_id] <;> omega
      have h7 := ih (k2 + 1) (k + 1) (cur.set k y) (by omega) (by omega) (by simp [hc]) (by omega) (by
        rw [step, ← ht, List.take_add_one, List.take_set_of_le (Nat.le_refl k)]
        simp [hks]) (by
        rw [List.drop_set_of_lt (by omega)]
        have := congrArg (List.drop 1) hd
        rw [List.drop_drop, List.drop_drop] at this
        rwa [show k0 + k2 - 1 + 1 = k0 + (k2 + 1) - 1 by omega] at this)
      have hne : (decide ((y.hi : Int) = x.hi) && decide ((y.lo : Int) = x.lo)) = false := by
        rw [trNe]
        simpa using fun e => hxy e.symm
      obtain ⟨w, hw⟩ := get_of_lt (l := cur) (i := k) hks
      have c3 : s.length ≤ cur.length := by omega
      simp -implicitDefEqProofs only [fns_34, c34, go_sem, Nat.reduceShiftRight, Nat.reduceAnd, reduceIte, reduceCtorEq, Nat.reduceEqDiff, Nat.reduceAdd, Nat.reduceMul, Nat.reduceSub, Nat.reduceLT, Nat.reduceLeDiff, Nat.reduceBEq, Nat.reduceBNe, Int.reduceToNat, Int.reduceLT, Int.reduceLE, Int.reduceEq, Int.reduceNe, Int.reduceMul, Int.reduceAdd, Int.reduceSub, Int.reduceNeg, c34_2, c0, c1, c1', c2, c3, c9, c9', hks, hks', getD_map trC hx', getD_map trC hy', getD_map trC hw, trC, hne, h8, h9, h10, setE]
      exact h7
/-- What the search for a first twin ends in. -/
theorem CompOut (s : List Trc) (hM : (s.length : Int) ≤ 1000000000) : ∀ (n k : Nat), k + n = s.length → 1 ≤ k → dd (s.take k) = s.take k →
   (∃ f H, Pi.Loop (exec cx (Cal cx) c34_0) (Rst Try.prog ([(0, none), (3, none)], [])) (St.mk (sF [(0, .sl 0 0 0 s.length), (3, .s (.int .i64 k))]) (hF [(0, tRow s)])) = some (.ex 0, St.mk f H) ∧ f 0 = .sl 0 0 0 s.length ∧ H 0 = tRow s ∧ dd s = s) ∨
   (∃ f H k' rows, Pi.Loop (exec cx (Cal cx) c34_0) (Rst Try.prog ([(0, none), (3, none)], [])) (St.mk (sF [(0, .sl 0 0 0 s.length), (3, .s (.int .i64 k))]) (hF [(0, tRow s)])) = some (.ret, St.mk f H) ∧ f 2 = .sl 0 0 0 k' ∧ H 0 = some (.row 0 27 2 false rows) ∧ k' ≤ rows.length ∧ rows.take k' = (dd s).map trC) := by
  intro n
  induction n with
  | zero =>
    intro k h h1 hd
    have c0 : ¬ (k : Int) < (s.length : Int) := by omega
    left
    rw [Loop_eq]
    simp -implicitDefEqProofs only [fns_34, c34, go_sem, Nat.reduceShiftRight, Nat.reduceAnd, reduceIte, reduceCtorEq, Nat.reduceEqDiff, Nat.reduceAdd, Nat.reduceMul, Nat.reduceSub, Nat.reduceLT, Nat.reduceLeDiff, Nat.reduceBEq, Nat.reduceBNe, Int.reduceToNat, Int.reduceLT, Int.reduceLE, Int.reduceEq, Int.reduceNe, Int.reduceMul, Int.reduceAdd, Int.reduceSub, Int.reduceNeg, c34_0, c0]
    rw [List.take_of_length_le (by omega)] at hd
    exact ⟨_, _, rfl, rfl, rfl, hd⟩
  | succ n ih =>
    intro k h h1 hd
    have c0 : (k : Int) < (s.length : Int) := by omega
    have c1 : k < s.length := by omega
    have c1' : k - 1 < s.length := by omega
    obtain ⟨y, hy⟩ := get_of_lt (l := s) (i := k) (by omega)
    obtain ⟨x, hx⟩ := get_of_lt (l := s) (i := k - 1) (by omega)
    have h8 : IntKind.i64.wrap ((k : Int) + 1) = ((k + 1 : Nat) : Int) := by rw [wrap64_id] <;> omega
    have h9 : IntKind.i64.wrap ((k : Int) - 1) = ((k - 1 : Nat) : Int) := by rw [wrap64_id] <;> omega
    have c9' : ((k - 1 : Nat) : Int) < (s.length : Int) := by omega
    have step := dd_step (l := s) (p := k - 1) hx (by rw [show k - 1 + 1 = k by omega]; exact hy)
    rw [show k - 1 + 2 = k + 1 by omega, show k - 1 + 1 = k by omega] at step
    rw [Loop_eq]
    by_cases hxy : x = y
    · subst hxy
      rw [if_pos rfl] at step
      right
      obtain ⟨f, H, k', cur', g1, g2, g3, g4, g5, g6, g7⟩ := CompIn s k hM h1 c1 (s.length - (k + 1)) 1 k s (by omega) (by omega) rfl (by omega) (by rw [step, hd]) rfl
      have c6 : (k' : Int) ≤ (s.length : Int) := by omega
      have c7 : k' ≤ s.length := g6
      have c8 : k' + (s.length - k') ≤ s.length := by omega
      have w1 : IntKind.i64.wrap 1 = 1 := by decide
      have d1 : (k : Int) ≤ (s.length : Int) := by omega
      have d2 : (0 : Int) + (s.length : Int) ≤ (s.length : Int) := by omega
      have d4 : k' ≤ ((cur'.map trC).take k' ++ List.replicate (s.length - k') [PV.s (.int .u64 0), PV.s (.int .u64 0)] ++ (cur'.map trC).drop (k' + (s.length - k'))).length := by simp; omega
      have d3 : (0 : Int) + (k' : Int) ≤ (((cur'.map trC).take k' ++ List.replicate (s.length - k') [PV.s (.int .u64 0), PV.s (.int .u64 0)] ++ (cur'.map trC).drop (k' + (s.length - k'))).length : Int) := by omega
      simp only [Int.cast_ofNat_Int, tRow] at g1 g4
      simp -implicitDefEqProofs only [fns_34, c34, go_sem, Nat.reduceShiftRight, Nat.reduceAnd, reduceIte, reduceCtorEq, Nat.reduceEqDiff, Nat.reduceAdd, Nat.reduceMul, Nat.reduceSub, Nat.reduceLT, Nat.reduceLeDiff, Nat.reduceBEq, Nat.reduceBNe, Int.reduceToNat, Int.reduceLT, Int.reduceLE, Int.reduceEq, Int.reduceNe, Int.reduceMul, Int.reduceAdd, Int.reduceSub, Int.reduceNeg, c34_0, c0, c1, c1', c9', getD_map trC hx, getD_map trC hy, trC, h8, h9, g1, g2, g3, g4, g5, c6, c7, c8, w1, d1, d2, d3, Nat.sub_zero]
      refine ⟨_, _, k', _, rfl, rfl, rfl, d4, ?_⟩
      rw [List.append_assoc, List.take_append_of_le_length (by simp; omega), List.take_take, Nat.min_self, ← List.map_take, g7]
    · rw [if_neg hxy] at step
      have hne : (decide ((y.hi : Int) = x.hi) && decide ((y.lo : Int) = x.lo)) = false := by
        rw [trNe]
        simpa using fun e => hxy e.symm
      have h7 := ih (k + 1) (by omega) (by omega) (by rw [step, hd, take_get hy])
      simp -implicitDefEqProofs only [fns_34, c34, go_sem, Nat.reduceShiftRight, Nat.reduceAnd, reduceIte, reduceCtorEq, Nat.reduceEqDiff, Nat.reduceAdd, Nat.reduceMul, Nat.reduceSub, Nat.reduceLT, Nat.reduceLeDiff, Nat.reduceBEq, Nat.reduceBNe, Int.reduceToNat, Int.reduceLT, Int.reduceLE, Int.reduceEq, Int.reduceNe, Int.reduceMul, Int.reduceAdd, Int.reduceSub, Int.reduceNeg, c34_0, c0, c1, c1', c9', getD_map trC hx, getD_map trC hy, trC, hne, h8, h9]
      exact h7
theorem Compact (s : List Trc) (hM : (s.length : Int) ≤ 1000000000) : Cal cx 34 [.ow 27 (s.map trC)] = some ([.ow 27 ((dd s).map trC)], []) := by
  rw [Cal_eq]
  by_cases h2 : (s.length : Int) < 2
  · have e : dd s = s := dd_short (by omega)
    rw [e]
    simp -implicitDefEqProofs only [fns_34, c34, go_sem, Nat.reduceShiftRight, Nat.reduceAnd, reduceIte, reduceCtorEq, Nat.reduceEqDiff, Nat.reduceAdd, Nat.reduceMul, Nat.reduceSub, Nat.reduceLT, Nat.reduceLeDiff, Nat.reduceBEq, Nat.reduceBNe, Int.reduceToNat, Int.reduceLT, Int.reduceLE, Int.reduceEq, Int.reduceNe, Int.reduceMul, Int.reduceAdd, Int.reduceSub, Int.reduceNeg, h2]
  · have h1 := dd_one s
    rcases CompOut s hM (s.length - 1) 1 (by omega) (by omega) h1 with ⟨f, H, g1, g2, g3, g4⟩ | ⟨f, H, k', rows, g1, g2, g3, g4, g5⟩
    · simp only [Int.cast_ofNat_Int, tRow] at g1 g3
      rw [g4]
      simp -implicitDefEqProofs only [fns_34, c34, go_sem, Nat.reduceShiftRight, Nat.reduceAnd, reduceIte, reduceCtorEq, Nat.reduceEqDiff, Nat.reduceAdd, Nat.reduceMul, Nat.reduceSub, Nat.reduceLT, Nat.reduceLeDiff, Nat.reduceBEq, Nat.reduceBNe, Int.reduceToNat, Int.reduceLT, Int.reduceLE, Int.reduceEq, Int.reduceNe, Int.reduceMul, Int.reduceAdd, Int.reduceSub, Int.reduceNeg, h2, g1, g2, g3]
    · simp only [Int.cast_ofNat_Int, tRow] at g1
      simp -implicitDefEqProofs only [fns_34, c34, go_sem, Nat.reduceShiftRight, Nat.reduceAnd, reduceIte, reduceCtorEq, Nat.reduceEqDiff, Nat.reduceAdd, Nat.reduceMul, Nat.reduceSub, Nat.reduceLT, Nat.reduceLeDiff, Nat.reduceBEq, Nat.reduceBNe, Int.reduceToNat, Int.reduceLT, Int.reduceLE, Int.reduceEq, Int.reduceNe, Int.reduceMul, Int.reduceAdd, Int.reduceSub, Int.reduceNeg, h2, g1, g2, g3, g4, g5]
end Go.Proofs.Ytihiakgpegfghaa
