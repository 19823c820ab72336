/- Searching: the reference's traces. Own work. -/
import Derived.Test.YtihiakgpegfghaaRfind
set_option linter.unusedVariables false
set_option linter.unusedSimpArgs false
namespace Go.Pi
def leadT (t : Trc) : List Trc → Nat
  | [] => 0
  | a :: r => if ltTr a t = true then leadT t r + 1 else 0
theorem leadT_le (t : Trc) : ∀ l, leadT t l ≤ l.length
  | [] => Nat.le_refl _
  | a :: r => by
    have := leadT_le t r
    unfold leadT
    split <;> simp only [List.length_cons] <;> omega
def insT (t : Trc) (out : List Trc) : List Trc := if leadT t out = out.length ∨ out[leadT t out]? ≠ some t then out.take (leadT t out) ++ (t :: out.drop (leadT t out)) else out
def addE (q : Qry) (out : List Trc) (e : Epi) : List Trc := if hitE q e = true then insT e.tr out else out
theorem insT_len (t : Trc) (out : List Trc) : (insT t out).length ≤ out.length + 1 := by
  unfold insT
  have := leadT_le t out
  split <;> simp <;> omega
theorem addE_len (q : Qry) (out : List Trc) (e : Epi) : (addE q out e).length ≤ out.length + 1 := by
  unfold addE
  split
  · exact insT_len _ _
  · omega
end Go.Pi
namespace Go.Proofs.Ytihiakgpegfghaa
open Go Go.Pi
set_option maxHeartbeats 2000000
set_option maxRecDepth 10000
theorem LessTrace (a b : Trc) : Cal cx 21 [.ag (trC a), .ag (trC b)] = some ([.s (.bool (ltTr a b))], []) := by
  have e : ltTr a b = (decide ((a.hi : Int) < b.hi) || decide ((a.hi : Int) = b.hi) && decide ((a.lo : Int) < b.lo)) := by
    rw [Bool.eq_iff_iff, ltTr_iff]
    simp
    omega
  rw [Cal_eq]
  simp -implicitDefEqProofs only [fns_21, c21, go_sem, Nat.reduceShiftRight, Nat.reduceAnd, reduceIte, reduceCtorEq, Nat.reduceEqDiff, Nat.reduceAdd, Nat.reduceMul, Nat.reduceSub, Nat.reduceLT, Nat.reduceLeDiff, Nat.reduceBEq, Nat.reduceBNe, Int.reduceToNat, Int.reduceLT, Int.reduceLE, Int.reduceEq, Int.reduceNe, Int.reduceMul, Int.reduceAdd, Int.reduceSub, Int.reduceNeg, trC]
  rw [e]
  (repeat' split) <;> exact resB (by first | rfl | (simp_all; done) | (simp_all; intros; omega) | (rw [Bool.eq_iff_iff]; simp; omega))
abbrev eRow1 (e : Epi) : Option Blk := some (.row 0 51 6 true [epC e])
theorem RefOk (ln : Bool) (l : List Blo) (q : Qry) (out : List Trc) (i k : Nat) (e : Epi) (hM : (e.spans.length : Int) ≤ 9223372036854775807) (hA : Att e.spans) : ∀ (n j : Nat) (t : Bool), j + n = e.spans.length →
   ∃ f H, Pi.Loop (exec cx (Cal cx) c25_4) (Rst Try.prog ([(0, none), (3, none), (5, some 27), (6, none), (7, none), (8, none), (9, none), (10, none)], [])) (St.mk (sF [(0, .sh ln (l.map bkC)), (3, .ad 3 0 0 0), (5, .sl 500005 0 0 out.length), (6, .s (.int .i64 i)), (7, .s (.int .i64 k)), (8, .ad 8 0 0 0), (9, .s (.bool t)), (10, .s (.int .i64 j))]) (hF [(3, qRow q), (8, eRow1 e), (500005, tRow out)])) = some (.ex 4, St.mk f H) ∧
     f 0 = .sh ln (l.map bkC) ∧ f 3 = .ad 3 0 0 0 ∧ f 5 = .sl 500005 0 0 out.length ∧ f 6 = .s (.int .i64 i) ∧ f 7 = .s (.int .i64 k) ∧ f 8 = .ad 8 0 0 0 ∧ f 9 = .s (.bool (t || (e.spans.drop j).any (matchQ q))) ∧ H 3 = qRow q ∧ H 8 = eRow1 e ∧ H 500005 = tRow out := by
  intro n
  induction n with
  | zero =>
    intro j t h
    have h0 : ¬ (j : Int) < (e.spans.length : Int) := by omega
    rw [Loop_eq, drop_end (by omega)]
    simp -implicitDefEqProofs only [fns_25, c25, go_sem, Nat.reduceShiftRight, Nat.reduceAnd, reduceIte, reduceCtorEq, Nat.reduceEqDiff, Nat.reduceAdd, Nat.reduceMul, Nat.reduceSub, Nat.reduceLT, Nat.reduceLeDiff, Nat.reduceBEq, Nat.reduceBNe, Int.reduceToNat, Int.reduceLT, Int.reduceLE, Int.reduceEq, Int.reduceNe, Int.reduceMul, Int.reduceAdd, Int.reduceSub, Int.reduceNeg, c25_4, h0, epC, List.any_nil, Bool.or_false]
    exact ⟨_, _, rfl, rfl, rfl, rfl, rfl, rfl, rfl, rfl, rfl, rfl, rfl⟩
  | succ n ih =>
    intro j t h
    have h0 : (j : Int) < (e.spans.length : Int) := by omega
    obtain ⟨x, hx⟩ := get_of_lt (l := e.spans) (i := j) (by omega)
    have h8 : IntKind.i64.wrap ((j : Int) + 1) = ((j + 1 : Nat) : Int) := by rw [wrap64_id] <;> omega
    have h1 := MatchRef q x (hA x (mem_get hx))
    simp only [qC, spC] at h1
    rw [Loop_eq, drop_get hx, List.any_cons, ← Bool.or_assoc]
    cases t
    · rw [Bool.false_or]
      have h7 := ih (j + 1) (matchQ q x) (by omega)
      simp only [qRow, qC, eRow1, epC] at h7 ⊢
      simp -implicitDefEqProofs only [fns_25, c25, go_sem, Nat.reduceShiftRight, Nat.reduceAnd, reduceIte, reduceCtorEq, Nat.reduceEqDiff, Nat.reduceAdd, Nat.reduceMul, Nat.reduceSub, Nat.reduceLT, Nat.reduceLeDiff, Nat.reduceBEq, Nat.reduceBNe, Int.reduceToNat, Int.reduceLT, Int.reduceLE, Int.reduceEq, Int.reduceNe, Int.reduceMul, Int.reduceAdd, Int.reduceSub, Int.reduceNeg, c25_4, h0, getD_map spC hx, spC, h1, h8]
      exact h7
    · rw [Bool.true_or]
      have h7 := ih (j + 1) true (by omega)
      simp only [qRow, qC, eRow1, epC] at h7 ⊢
      simp -implicitDefEqProofs only [fns_25, c25, go_sem, Nat.reduceShiftRight, Nat.reduceAnd, reduceIte, reduceCtorEq, Nat.reduceEqDiff, Nat.reduceAdd, Nat.reduceMul, Nat.reduceSub, Nat.reduceLT, Nat.reduceLeDiff, Nat.reduceBEq, Nat.reduceBNe, Int.reduceToNat, Int.reduceLT, Int.reduceLE, Int.reduceEq, Int.reduceNe, Int.reduceMul, Int.reduceAdd, Int.reduceSub, Int.reduceNeg, c25_4, h0, getD_map spC hx, spC, h8]
      exact h7
theorem RefAt (ln : Bool) (l : List Blo) (q : Qry) (out : List Trc) (i k : Nat) (e : Epi) (b : Bool) (hM : (out.length : Int) ≤ 1000000000) : ∀ (n j : Nat), j + n = out.length →
   ∃ f H, Pi.Loop (exec cx (Cal cx) c25_6) (Rst Try.prog ([(0, none), (3, none), (5, some 27), (6, none), (7, none), (8, none), (9, none), (11, none)], [])) (St.mk (sF [(0, .sh ln (l.map bkC)), (3, .ad 3 0 0 0), (5, .sl 500005 0 0 out.length), (6, .s (.int .i64 i)), (7, .s (.int .i64 k)), (8, .ad 8 0 0 0), (9, .s (.bool b)), (11, .s (.int .i64 j))]) (hF [(3, qRow q), (8, eRow1 e), (500005, tRow out)])) = some (.ex 6, St.mk f H) ∧
     f 0 = .sh ln (l.map bkC) ∧ f 3 = .ad 3 0 0 0 ∧ f 5 = .sl 500005 0 0 out.length ∧ f 6 = .s (.int .i64 i) ∧ f 7 = .s (.int .i64 k) ∧ f 8 = .ad 8 0 0 0 ∧ f 9 = .s (.bool b) ∧ f 11 = .s (.int .i64 (j + leadT e.tr (out.drop j) : Nat)) ∧ H 3 = qRow q ∧ H 8 = eRow1 e ∧ H 500005 = tRow out ∧ H 87 = none ∧ H 90 = none := by
  intro n
  induction n with
  | zero =>
    intro j h
    have h0 : ¬ (j : Int) < (out.length : Int) := by omega
    rw [Loop_eq, drop_end (by omega)]
    simp -implicitDefEqProofs only [fns_25, c25, go_sem, Nat.reduceShiftRight, Nat.reduceAnd, reduceIte, reduceCtorEq, Nat.reduceEqDiff, Nat.reduceAdd, Nat.reduceMul, Nat.reduceSub, Nat.reduceLT, Nat.reduceLeDiff, Nat.reduceBEq, Nat.reduceBNe, Int.reduceToNat, Int.reduceLT, Int.reduceLE, Int.reduceEq, Int.reduceNe, Int.reduceMul, Int.reduceAdd, Int.reduceSub, Int.reduceNeg, c25_6, h0, epC, leadT, Nat.add_zero]
    exact ⟨_, _, rfl, rfl, rfl, rfl, rfl, rfl, rfl, rfl, rfl, rfl, rfl, rfl, rfl, rfl⟩
  | succ n ih =>
    intro j h
    have h0 : (j : Int) < (out.length : Int) := by omega
    have h0n : j < out.length := by omega
    obtain ⟨x, hx⟩ := get_of_lt (l := out) (i := j) (by omega)
    have h8 : IntKind.i64.wrap ((j : Int) + 1) = ((j + 1 : Nat) : Int) := by rw [wrap64_id] <;> omega
    have h1 := LessTrace x e.tr
    simp only [trC] at h1
    rw [Loop_eq, drop_get hx, leadT]
    cases hL : ltTr x e.tr
    · rw [hL] at h1
      simp only [Bool.false_eq_true, if_false, Nat.add_zero]
      simp -implicitDefEqProofs only [fns_25, c25, go_sem, Nat.reduceShiftRight, Nat.reduceAnd, reduceIte, reduceCtorEq, Nat.reduceEqDiff, Nat.reduceAdd, Nat.reduceMul, Nat.reduceSub, Nat.reduceLT, Nat.reduceLeDiff, Nat.reduceBEq, Nat.reduceBNe, Int.reduceToNat, Int.reduceLT, Int.reduceLE, Int.reduceEq, Int.reduceNe, Int.reduceMul, Int.reduceAdd, Int.reduceSub, Int.reduceNeg, c25_6, h0, h0n, getD_map trC hx, trC, epC, h1, h8]
      exact ⟨_, _, rfl, rfl, rfl, rfl, rfl, rfl, rfl, rfl, rfl, rfl, rfl, rfl, rfl, rfl⟩
    · rw [hL] at h1
      have h7 := ih (j + 1) (by omega)
      rw [if_pos rfl, show j + (leadT e.tr (out.drop (j + 1)) + 1) = j + 1 + leadT e.tr (out.drop (j + 1)) by omega]
      simp only [qRow, qC, eRow1, epC] at h7 ⊢
      simp -implicitDefEqProofs only [fns_25, c25, go_sem, Nat.reduceShiftRight, Nat.reduceAnd, reduceIte, reduceCtorEq, Nat.reduceEqDiff, Nat.reduceAdd, Nat.reduceMul, Nat.reduceSub, Nat.reduceLT, Nat.reduceLeDiff, Nat.reduceBEq, Nat.reduceBNe, Int.reduceToNat, Int.reduceLT, Int.reduceLE, Int.reduceEq, Int.reduceNe, Int.reduceMul, Int.reduceAdd, Int.reduceSub, Int.reduceNeg, c25_6, h0, h0n, getD_map trC hx, trC, epC, h1, h8]
      exact h7
end Go.Proofs.Ytihiakgpegfghaa
