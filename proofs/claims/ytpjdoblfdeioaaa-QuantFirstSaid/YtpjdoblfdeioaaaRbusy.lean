/- The busiest, as the program finds them. Own work. -/
import Derived.Test.YtpjdoblfdeioaaaRindex
set_option linter.unusedVariables false
set_option linter.unusedSimpArgs false
namespace Go.Pi
def addAt (r : Rw) (l : List Bz) (i : Nat) : List Bz :=
  match l[i]? with
  | some b => l.set i ⟨b.svc, b.op, pl b.count r.count, pl b.errs r.errs⟩
  | none => l
def addBz (r : Rw) (l : List Bz) : List Bz :=
  match seekK r l 0 with
  | some i => addAt r l i
  | none => l ++ [⟨r.svc, r.op, pl 0 r.count, pl 0 r.errs⟩]
def addLv (lv : Int) (l : List Bz) (r : Rw) : List Bz := if r.level = lv then addBz r l else l
theorem seekK_some {r : Rw} : ∀ {l : List Bz} {i j : Nat}, seekK r l i = some j → ∃ b, i ≤ j ∧ l[j - i]? = some b ∧ sameK b r = true
  | [], _, _, h => by simp [seekK] at h
  | b :: l, i, j, h => by
    simp only [seekK] at h
    split at h
    · cases h
      exact ⟨b, Nat.le_refl _, by simp, ‹_›⟩
    · obtain ⟨c, h1, h2, h3⟩ := seekK_some h
      refine ⟨c, by omega, ?_, h3⟩
      rw [show j - i = (j - (i + 1)) + 1 by omega, List.getElem?_cons_succ]
      exact h2
theorem addBz_len (r : Rw) (l : List Bz) : (addBz r l).length ≤ l.length + 1 := by
  unfold addBz addAt
  split
  · split <;> simp
  · simp
theorem setBz (l : List Bz) (k : Nat) (s o : ByteArray) (c e : Int) : (l.map bzC).set k [.s (.string s), .s (.string o), .s (.int .i64 c), .s (.int .i64 e)] = (l.set k ⟨s, o, c, e⟩).map bzC := by rw [List.map_set]; rfl
@[go_sem] theorem snoc_bz (l : List Bz) (s o : ByteArray) (c e : Int) : l.map bzC ++ [[.s (.string s), .s (.string o), .s (.int .i64 c), .s (.int .i64 e)]] = (l ++ [(⟨s, o, c, e⟩ : Bz)]).map bzC := by simp [bzC]
theorem setEnd (l : List Bz) (a b : Bz) : (l ++ [a]).set l.length b = l ++ [b] := by simp
end Go.Pi
namespace Go.Proofs.Ytpjdoblfdeioaaa
open Go Go.Pi
set_option maxHeartbeats 2000000
set_option maxRecDepth 10000
abbrev bzR (l : List Bz) : Option Blk := some (.row 0 34 4 false (l.map bzC))
theorem BusyL (ln : Bool) (l : List Rw) (lv : Int) (nn : Int) (hM : (l.length : Int) ≤ 100000) : ∀ (n i : Nat) (out : List Bz), i + n = l.length → out.length + n ≤ 100000 →
   ∃ f H, Pi.Loop (exec cx (Cal cx) c7_0) (Rst Try.prog ([(1, none), (2, none), (7, some 34), (11, none), (12, none), (13, none)], [])) (St.mk (sF [(1, .s (.int .i64 lv)), (2, .s (.int .i64 nn)), (7, .sl 500007 0 0 out.length), (11, .sh ln (l.map rwC)), (12, .s (.int .i64 l.length)), (13, .s (.int .i64 i))]) (hF [(500007, bzR out)])) = some (.ex 0, St.mk f H) ∧
     f 2 = .s (.int .i64 nn) ∧ f 7 = .sl 500007 0 0 ((l.drop i).foldl (addLv lv) out).length ∧ H 500007 = bzR ((l.drop i).foldl (addLv lv) out) := by
  intro n
  induction n with
  | zero =>
    intro i out h _
    have h0 : ¬ (i : Int) < (l.length : Int) := by omega
    rw [Loop_eq, drop_end (by omega)]
    simp -implicitDefEqProofs only [fns_7, c7, go_sem, Nat.reduceShiftRight, Nat.reduceAnd, reduceIte, reduceCtorEq, Nat.reduceEqDiff, Nat.reduceAdd, Nat.reduceMul, Nat.reduceSub, Nat.reduceLT, Nat.reduceLeDiff, Nat.reduceBEq, Nat.reduceBNe, Int.reduceToNat, Int.reduceLT, Int.reduceLE, Int.reduceEq, Int.reduceNe, Int.reduceMul, Int.reduceAdd, Int.reduceSub, Int.reduceNeg, c7_0, h0, List.foldl_nil]
    exact ⟨_, _, rfl, rfl, rfl, rfl⟩
  | succ n ih =>
    intro i out h ho
    have h0 : (i : Int) < (l.length : Int) := by omega
    obtain ⟨x, hx⟩ := get_of_lt (l := l) (i := i) (by omega)
    have h8 : IntKind.i64.wrap ((i : Int) + 1) = ((i + 1 : Nat) : Int) := by rw [wrap64_id] <;> omega
    have h1 := Index true out x (by omega)
    have h2 := QPlus
    have h7 := ih (i + 1) (addLv lv out x) (by omega) (by
      have := addBz_len x out
      unfold addLv
      split <;> omega)
    simp only [rwC] at h1
    simp only [bzR] at h7 ⊢
    rw [Loop_eq, drop_get hx, List.foldl_cons]
    by_cases hl : x.level = lv
    · have e : addLv lv out x = addBz x out := by unfold addLv; rw [if_pos hl]
      rw [e] at h7 ⊢
      rw [hl] at h1
      unfold posK at h1
      cases hs : seekK x out 0 with
      | none =>
        have e2 : addBz x out = out ++ [⟨x.svc, x.op, pl 0 x.count, pl 0 x.errs⟩] := by unfold addBz; rw [hs]
        rw [e2] at h7 ⊢
        rw [hs] at h1
        have hlen : ∀ b : Bz, (out ++ [b]).length = out.length + 1 := fun b => by simp
        have b1 : (out.length + 1) * 48 ≤ 140737488355328 := by omega
        have d1 : (out.length : Int) < ((out.length + 1 : Nat) : Int) := by omega
        have d2 : out.length < out.length + 1 := by omega
        have hy : (out ++ [(⟨x.svc, x.op, 0, 0⟩ : Bz)])[out.length]? = some ⟨x.svc, x.op, 0, 0⟩ := by simp
        have hz : (out ++ [(⟨x.svc, x.op, pl 0 x.count, 0⟩ : Bz)])[out.length]? = some ⟨x.svc, x.op, pl 0 x.count, 0⟩ := by simp
        rw [hlen] at h7
        simp -implicitDefEqProofs only [fns_7, c7, go_sem, Nat.reduceShiftRight, Nat.reduceAnd, reduceIte, reduceCtorEq, Nat.reduceEqDiff, Nat.reduceAdd, Nat.reduceMul, Nat.reduceSub, Nat.reduceLT, Nat.reduceLeDiff, Nat.reduceBEq, Nat.reduceBNe, Int.reduceToNat, Int.reduceLT, Int.reduceLE, Int.reduceEq, Int.reduceNe, Int.reduceMul, Int.reduceAdd, Int.reduceSub, Int.reduceNeg, c7_0, h0, getD_map rwC hx, rwC, h1, h2, h8, hl, b1, d1, d2, hlen, getD_map bzC hy, getD_map bzC hz, bzC, setBz, setEnd]
        exact h7
      | some j =>
        obtain ⟨b, -, hb, -⟩ := seekK_some hs
        rw [Nat.sub_zero] at hb
        have e2 : addBz x out = out.set j ⟨b.svc, b.op, pl b.count x.count, pl b.errs x.errs⟩ := by unfold addBz addAt; rw [hs]; simp only [hb]
        rw [e2] at h7 ⊢
        rw [hs] at h1
        have c0 : ¬ (j : Int) < 0 := by omega
        have c1 : j < out.length := by
          obtain ⟨h, _⟩ := List.getElem?_eq_some_iff.1 hb
          exact h
        have c2 : (j : Int) < (out.length : Int) := by omega
        have hy : (out.set j ⟨b.svc, b.op, pl b.count x.count, b.errs⟩)[j]? = some ⟨b.svc, b.op, pl b.count x.count, b.errs⟩ := by simp [c1]
        rw [List.length_set] at h7
        simp -implicitDefEqProofs only [fns_7, c7, go_sem, Nat.reduceShiftRight, Nat.reduceAnd, reduceIte, reduceCtorEq, Nat.reduceEqDiff, Nat.reduceAdd, Nat.reduceMul, Nat.reduceSub, Nat.reduceLT, Nat.reduceLeDiff, Nat.reduceBEq, Nat.reduceBNe, Int.reduceToNat, Int.reduceLT, Int.reduceLE, Int.reduceEq, Int.reduceNe, Int.reduceMul, Int.reduceAdd, Int.reduceSub, Int.reduceNeg, c7_0, h0, getD_map rwC hx, rwC, h1, h2, h8, hl, c0, c1, c2, getD_map bzC hb, getD_map bzC hy, bzC, setBz, List.set_set]
        exact h7
    · have e : addLv lv out x = out := by unfold addLv; rw [if_neg hl]
      rw [e] at h7 ⊢
      simp -implicitDefEqProofs only [fns_7, c7, go_sem, Nat.reduceShiftRight, Nat.reduceAnd, reduceIte, reduceCtorEq, Nat.reduceEqDiff, Nat.reduceAdd, Nat.reduceMul, Nat.reduceSub, Nat.reduceLT, Nat.reduceLeDiff, Nat.reduceBEq, Nat.reduceBNe, Int.reduceToNat, Int.reduceLT, Int.reduceLE, Int.reduceEq, Int.reduceNe, Int.reduceMul, Int.reduceAdd, Int.reduceSub, Int.reduceNeg, c7_0, h0, getD_map rwC hx, rwC, h1, h2, h8, hl]
      exact h7
end Go.Proofs.Ytpjdoblfdeioaaa
