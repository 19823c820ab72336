/- Searching: which spans a query asks for, in the program and in the reference. Own work. -/
import Derived.Test.YtihiakgpegfghaaRmatch
set_option linter.unusedVariables false
set_option linter.unusedSimpArgs false
namespace Go.Proofs.Ytihiakgpegfghaa
open Go Go.Pi
set_option maxHeartbeats 2000000
set_option maxRecDepth 10000
abbrev qRow (q : Qry) : Option Blk := some (.row 0 24 6 true [qC q])
abbrev sRow (s : Spn) : Option Blk := some (.row 0 30 10 true [spC s])
theorem Match (q : Qry) (s : Spn) (hM : (s.attrs.length : Int) ≤ 9223372036854775807) : Cal cx 11 [.ag (qC q), .ag (spC s)] = some ([.s (.bool (matchQ q s))], []) := by
  have h1 := fun k v => ContAt false s.attrs ⟨k, v⟩ hM
  simp only [atC] at h1
  obtain ⟨f1, e1, p2, p3, p4, p5⟩ := MatchA q s (upd (upd (upd (sF [(0, .ag (qC q)), (1, .ag (spC s))]) 2 (.ad 2 0 0 0)) 3 (.ad 3 0 0 0)) 4 (.s (.bool false))) (upd (upd noH 2 (qRow q)) 3 (sRow s)) rfl rfl rfl rfl
  obtain ⟨f2, e2, r2, r3, r4, r5⟩ := MatchB q s f1 (upd (upd noH 2 (qRow q)) 3 (sRow s)) p2 p3 rfl rfl
  simp only [qRow, sRow, qC, spC] at e1 e2
  rw [Cal_eq]
  cases hA : offS q s
  · rw [hA] at p5
    cases hB : offD q s
    · rw [hB] at r5
      by_cases k : q.key = emp
      · by_cases v : q.val = emp
        · have e : matchQ q s = true := by simp [matchQ, hasA, hA, hB, k, v]
          rw [e]
          simp only [k, v] at e1 e2
          simp -implicitDefEqProofs only [fns_11, c11, go_sem, Nat.reduceShiftRight, Nat.reduceAnd, reduceIte, reduceCtorEq, Nat.reduceEqDiff, Nat.reduceAdd, Nat.reduceMul, Nat.reduceSub, Nat.reduceLT, Nat.reduceLeDiff, Nat.reduceBEq, Nat.reduceBNe, Int.reduceToNat, Int.reduceLT, Int.reduceLE, Int.reduceEq, Int.reduceNe, Int.reduceMul, Int.reduceAdd, Int.reduceSub, Int.reduceNeg, qC, spC, e1, p5, e2, r2, r3, r4, r5, c11_g5, h1, k, v]
        · have e : matchQ q s = s.attrs.any (eqAt ⟨emp, q.val⟩) := by simp [matchQ, hasA, hA, hB, k, v]
          rw [e]
          simp only [k, v] at e1 e2
          simp -implicitDefEqProofs only [fns_11, c11, go_sem, Nat.reduceShiftRight, Nat.reduceAnd, reduceIte, reduceCtorEq, Nat.reduceEqDiff, Nat.reduceAdd, Nat.reduceMul, Nat.reduceSub, Nat.reduceLT, Nat.reduceLeDiff, Nat.reduceBEq, Nat.reduceBNe, Int.reduceToNat, Int.reduceLT, Int.reduceLE, Int.reduceEq, Int.reduceNe, Int.reduceMul, Int.reduceAdd, Int.reduceSub, Int.reduceNeg, qC, spC, e1, p5, e2, r2, r3, r4, r5, c11_g5, h1, k, v]
      · have e : matchQ q s = s.attrs.any (eqAt ⟨q.key, q.val⟩) := by simp [matchQ, hasA, hA, hB, k]
        rw [e]
        simp -implicitDefEqProofs only [fns_11, c11, go_sem, Nat.reduceShiftRight, Nat.reduceAnd, reduceIte, reduceCtorEq, Nat.reduceEqDiff, Nat.reduceAdd, Nat.reduceMul, Nat.reduceSub, Nat.reduceLT, Nat.reduceLeDiff, Nat.reduceBEq, Nat.reduceBNe, Int.reduceToNat, Int.reduceLT, Int.reduceLE, Int.reduceEq, Int.reduceNe, Int.reduceMul, Int.reduceAdd, Int.reduceSub, Int.reduceNeg, qC, spC, e1, p5, e2, r2, r3, r4, r5, c11_g5, h1, k]
    · rw [hB] at r5
      have e : matchQ q s = false := by simp [matchQ, hA, hB]
      rw [e]
      simp -implicitDefEqProofs only [fns_11, c11, go_sem, Nat.reduceShiftRight, Nat.reduceAnd, reduceIte, reduceCtorEq, Nat.reduceEqDiff, Nat.reduceAdd, Nat.reduceMul, Nat.reduceSub, Nat.reduceLT, Nat.reduceLeDiff, Nat.reduceBEq, Nat.reduceBNe, Int.reduceToNat, Int.reduceLT, Int.reduceLE, Int.reduceEq, Int.reduceNe, Int.reduceMul, Int.reduceAdd, Int.reduceSub, Int.reduceNeg, qC, spC, e1, p5, e2, r5]
  · rw [hA] at p5
    have e : matchQ q s = false := by simp [matchQ, hA]
    rw [e]
    simp -implicitDefEqProofs only [fns_11, c11, go_sem, Nat.reduceShiftRight, Nat.reduceAnd, reduceIte, reduceCtorEq, Nat.reduceEqDiff, Nat.reduceAdd, Nat.reduceMul, Nat.reduceSub, Nat.reduceLT, Nat.reduceLeDiff, Nat.reduceBEq, Nat.reduceBNe, Int.reduceToNat, Int.reduceLT, Int.reduceLE, Int.reduceEq, Int.reduceNe, Int.reduceMul, Int.reduceAdd, Int.reduceSub, Int.reduceNeg, qC, spC, e1, p5]
theorem MatchRL (q : Qry) (s : Spn) (hM : (s.attrs.length : Int) ≤ 9223372036854775807) : ∀ (n i : Nat) (t : Bool), i + n = s.attrs.length →
   ∃ f H, Pi.Loop (exec cx (Cal cx) c12_0) (Rst Try.prog ([(2, none), (3, none), (5, none), (6, none)], [])) (St.mk (sF [(2, .ad 2 0 0 0), (3, .ad 3 0 0 0), (5, .s (.bool t)), (6, .s (.int .i64 i))]) (hF [(2, qRow q), (3, sRow s)])) = some (.ex 0, St.mk f H) ∧ f 5 = .s (.bool (t || (s.attrs.drop i).any (eqAt ⟨q.key, q.val⟩))) := by
  intro n
  induction n with
  | zero =>
    intro i t h
    have h0 : ¬ (i : Int) < (s.attrs.length : Int) := by omega
    rw [Loop_eq, drop_end (by omega)]
    simp -implicitDefEqProofs only [fns_12, c12, go_sem, Nat.reduceShiftRight, Nat.reduceAnd, reduceIte, reduceCtorEq, Nat.reduceEqDiff, Nat.reduceAdd, Nat.reduceMul, Nat.reduceSub, Nat.reduceLT, Nat.reduceLeDiff, Nat.reduceBEq, Nat.reduceBNe, Int.reduceToNat, Int.reduceLT, Int.reduceLE, Int.reduceEq, Int.reduceNe, Int.reduceMul, Int.reduceAdd, Int.reduceSub, Int.reduceNeg, c12_0, h0, spC, List.any_nil, Bool.or_false]
    exact ⟨_, _, rfl, rfl⟩
  | succ n ih =>
    intro i t h
    have h0 : (i : Int) < (s.attrs.length : Int) := by omega
    obtain ⟨x, hx⟩ := get_of_lt (l := s.attrs) (i := i) (by omega)
    have h8 : IntKind.i64.wrap ((i : Int) + 1) = ((i + 1 : Nat) : Int) := by rw [wrap64_id] <;> omega
    rw [Loop_eq, drop_get hx, List.any_cons, ← Bool.or_assoc]
    cases t
    · rw [Bool.false_or]
      by_cases k : x.key = q.key
      · by_cases v : x.val = q.val
        · have e : eqAt ⟨q.key, q.val⟩ x = true := by simp [eqAt, k, v]
          have h7 := ih (i + 1) true (by omega)
          rw [e]
          simp only [qRow, sRow, qC, spC] at h7
          simp -implicitDefEqProofs only [fns_12, c12, go_sem, Nat.reduceShiftRight, Nat.reduceAnd, reduceIte, reduceCtorEq, Nat.reduceEqDiff, Nat.reduceAdd, Nat.reduceMul, Nat.reduceSub, Nat.reduceLT, Nat.reduceLeDiff, Nat.reduceBEq, Nat.reduceBNe, Int.reduceToNat, Int.reduceLT, Int.reduceLE, Int.reduceEq, Int.reduceNe, Int.reduceMul, Int.reduceAdd, Int.reduceSub, Int.reduceNeg, c12_0, c12_g7, h0, qC, spC, getD_map atC hx, atC, k, v, h8]
          exact h7
        · have e : eqAt ⟨q.key, q.val⟩ x = false := by simp [eqAt, k]; exact fun h => v h.symm
          have h7 := ih (i + 1) false (by omega)
          rw [e]
          simp only [qRow, sRow, qC, spC] at h7
          simp -implicitDefEqProofs only [fns_12, c12, go_sem, Nat.reduceShiftRight, Nat.reduceAnd, reduceIte, reduceCtorEq, Nat.reduceEqDiff, Nat.reduceAdd, Nat.reduceMul, Nat.reduceSub, Nat.reduceLT, Nat.reduceLeDiff, Nat.reduceBEq, Nat.reduceBNe, Int.reduceToNat, Int.reduceLT, Int.reduceLE, Int.reduceEq, Int.reduceNe, Int.reduceMul, Int.reduceAdd, Int.reduceSub, Int.reduceNeg, c12_0, c12_g7, h0, qC, spC, getD_map atC hx, atC, k, v, h8]
          exact h7
      · have e : eqAt ⟨q.key, q.val⟩ x = false := by simp [eqAt]; exact fun h => absurd h.symm k
        have h7 := ih (i + 1) false (by omega)
        rw [e]
        simp only [qRow, sRow, qC, spC] at h7
        simp -implicitDefEqProofs only [fns_12, c12, go_sem, Nat.reduceShiftRight, Nat.reduceAnd, reduceIte, reduceCtorEq, Nat.reduceEqDiff, Nat.reduceAdd, Nat.reduceMul, Nat.reduceSub, Nat.reduceLT, Nat.reduceLeDiff, Nat.reduceBEq, Nat.reduceBNe, Int.reduceToNat, Int.reduceLT, Int.reduceLE, Int.reduceEq, Int.reduceNe, Int.reduceMul, Int.reduceAdd, Int.reduceSub, Int.reduceNeg, c12_0, c12_g7, h0, qC, spC, getD_map atC hx, atC, k, h8]
        exact h7
    · rw [Bool.true_or]
      have h7 := ih (i + 1) true (by omega)
      simp only [qRow, sRow, qC, spC] at h7
      simp -implicitDefEqProofs only [fns_12, c12, go_sem, Nat.reduceShiftRight, Nat.reduceAnd, reduceIte, reduceCtorEq, Nat.reduceEqDiff, Nat.reduceAdd, Nat.reduceMul, Nat.reduceSub, Nat.reduceLT, Nat.reduceLeDiff, Nat.reduceBEq, Nat.reduceBNe, Int.reduceToNat, Int.reduceLT, Int.reduceLE, Int.reduceEq, Int.reduceNe, Int.reduceMul, Int.reduceAdd, Int.reduceSub, Int.reduceNeg, c12_0, c12_g7, h0, qC, spC, getD_map atC hx, atC, h8]
      exact h7
theorem MatchRef (q : Qry) (s : Spn) (hM : (s.attrs.length : Int) ≤ 9223372036854775807) : Cal cx 12 [.ag (qC q), .ag (spC s)] = some ([.s (.bool (matchQ q s))], []) := by
  obtain ⟨f1, e1, p2, p3, p4, p5⟩ := MatchR q s (upd (upd (upd (sF [(0, .ag (qC q)), (1, .ag (spC s))]) 2 (.ad 2 0 0 0)) 3 (.ad 3 0 0 0)) 4 (.s (.bool false))) (upd (upd noH 2 (qRow q)) 3 (sRow s)) rfl rfl rfl rfl
  obtain ⟨f, H, g1, g2⟩ := MatchRL q s hM s.attrs.length 0 (decide (q.key = emp) && decide (q.val = emp)) (by omega)
  simp only [Int.cast_ofNat_Int, List.drop_zero] at g1 g2
  have hh : (decide (q.key = emp) && decide (q.val = emp) || s.attrs.any (eqAt ⟨q.key, q.val⟩)) = hasA q s.attrs := rfl
  rw [hh] at g2
  simp only [qRow, sRow, qC, spC] at e1 g1
  rw [Cal_eq]
  cases hA : (offS q s || offD q s)
  · rw [hA] at p5
    have e : matchQ q s = hasA q s.attrs := by simp only [Bool.or_eq_false_iff] at hA; simp [matchQ, hA]
    rw [e]
    by_cases k : q.key = emp
    · by_cases v : q.val = emp
      · simp only [k, v, decide_true, Bool.and_self] at g1 e1
        simp -implicitDefEqProofs only [fns_12, c12, go_sem, Nat.reduceShiftRight, Nat.reduceAnd, reduceIte, reduceCtorEq, Nat.reduceEqDiff, Nat.reduceAdd, Nat.reduceMul, Nat.reduceSub, Nat.reduceLT, Nat.reduceLeDiff, Nat.reduceBEq, Nat.reduceBNe, Int.reduceToNat, Int.reduceLT, Int.reduceLE, Int.reduceEq, Int.reduceNe, Int.reduceMul, Int.reduceAdd, Int.reduceSub, Int.reduceNeg, qC, spC, e1, p2, p3, p5, g1, g2, k, v]
      · simp only [k, v, decide_true, decide_false, Bool.and_false] at g1 e1
        simp -implicitDefEqProofs only [fns_12, c12, go_sem, Nat.reduceShiftRight, Nat.reduceAnd, reduceIte, reduceCtorEq, Nat.reduceEqDiff, Nat.reduceAdd, Nat.reduceMul, Nat.reduceSub, Nat.reduceLT, Nat.reduceLeDiff, Nat.reduceBEq, Nat.reduceBNe, Int.reduceToNat, Int.reduceLT, Int.reduceLE, Int.reduceEq, Int.reduceNe, Int.reduceMul, Int.reduceAdd, Int.reduceSub, Int.reduceNeg, qC, spC, e1, p2, p3, p5, g1, g2, k, v]
    · simp only [k, decide_false, Bool.false_and] at g1
      simp -implicitDefEqProofs only [fns_12, c12, go_sem, Nat.reduceShiftRight, Nat.reduceAnd, reduceIte, reduceCtorEq, Nat.reduceEqDiff, Nat.reduceAdd, Nat.reduceMul, Nat.reduceSub, Nat.reduceLT, Nat.reduceLeDiff, Nat.reduceBEq, Nat.reduceBNe, Int.reduceToNat, Int.reduceLT, Int.reduceLE, Int.reduceEq, Int.reduceNe, Int.reduceMul, Int.reduceAdd, Int.reduceSub, Int.reduceNeg, qC, spC, e1, p2, p3, p5, g1, g2, k]
  · rw [hA] at p5
    have e : matchQ q s = false := by simp only [Bool.or_eq_true] at hA; rcases hA with h | h <;> simp [matchQ, h]
    rw [e]
    simp -implicitDefEqProofs only [fns_12, c12, go_sem, Nat.reduceShiftRight, Nat.reduceAnd, reduceIte, reduceCtorEq, Nat.reduceEqDiff, Nat.reduceAdd, Nat.reduceMul, Nat.reduceSub, Nat.reduceLT, Nat.reduceLeDiff, Nat.reduceBEq, Nat.reduceBNe, Int.reduceToNat, Int.reduceLT, Int.reduceLE, Int.reduceEq, Int.reduceNe, Int.reduceMul, Int.reduceAdd, Int.reduceSub, Int.reduceNeg, qC, spC, e1, p5]
end Go.Proofs.Ytihiakgpegfghaa
