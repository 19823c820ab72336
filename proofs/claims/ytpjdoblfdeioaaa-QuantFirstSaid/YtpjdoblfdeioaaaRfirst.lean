/- QuantFirst: the loops. Own work. -/
import Derived.Test.YtpjdoblfdeioaaaRlawq
import Derived.Test.YtpjdoblfdeioaaaRsums
set_option linter.unusedVariables false
set_option linter.unusedSimpArgs false
namespace Go.Pi
def OkR (l : List Rw) : Prop := ∀ r ∈ l, 0 ≤ r.count ∧ r.count ≤ 1099511627776
end Go.Pi
namespace Go.Proofs.Ytpjdoblfdeioaaa
open Go Go.Pi
set_option maxHeartbeats 4000000
set_option maxRecDepth 10000
/-- The law's first loop: a row out of bounds ends it, else it has summed. -/
theorem SumL (ln : Bool) (l : List Rw) (lv n m : Int) (hM : (l.length : Int) ≤ 80) : ∀ (k i : Nat) (s : Int), i + k = l.length → 0 ≤ s → s ≤ (i : Int) * 1099511627776 →
   ∃ e f H, Pi.Loop (exec cx (Cal cx) c4_0) (Rst Try.prog ([(0, none), (1, none), (2, none), (3, none), (10, none), (11, none)], [])) (St.mk (sF [(0, .sh ln (l.map rwC)), (1, .s (.int .i64 lv)), (2, .s (.int .i64 n)), (3, .s (.int .i64 m)), (10, .s (.int .i64 s)), (11, .s (.int .i64 i))]) (hF [])) = some (e, St.mk f H) ∧
     ((e = .ret ∧ f 8 = .s (.bool true)) ∨ (e = .ex 0 ∧ OkR (l.drop i) ∧ f 0 = .sh ln (l.map rwC) ∧ f 1 = .s (.int .i64 lv) ∧ f 2 = .s (.int .i64 n) ∧ f 3 = .s (.int .i64 m) ∧ f 10 = .s (.int .i64 (s + sumR lv (l.drop i))) ∧ H 92 = none ∧ H 96 = none ∧ H 101 = none)) := by
  intro k
  induction k with
  | zero =>
    intro i s h h1 h2
    have h0 : ¬ (i : Int) < (l.length : Int) := by omega
    rw [Loop_eq, drop_end (by omega)]
    simp -implicitDefEqProofs only [fns_4, c4, go_sem, Nat.reduceShiftRight, Nat.reduceAnd, reduceIte, reduceCtorEq, Nat.reduceEqDiff, Nat.reduceAdd, Nat.reduceMul, Nat.reduceSub, Nat.reduceLT, Nat.reduceLeDiff, Nat.reduceBEq, Nat.reduceBNe, Int.reduceToNat, Int.reduceLT, Int.reduceLE, Int.reduceEq, Int.reduceNe, Int.reduceMul, Int.reduceAdd, Int.reduceSub, Int.reduceNeg, c4_0, h0]
    exact ⟨_, _, _, rfl, .inr ⟨rfl, (fun r hr => by cases hr), rfl, rfl, rfl, rfl, (by rw [show sumR lv [] = 0 from rfl, Int.add_zero]; rfl), rfl, rfl, rfl⟩⟩
  | succ k ih =>
    intro i s h s0 s1
    have h0 : (i : Int) < (l.length : Int) := by omega
    obtain ⟨x, hx⟩ := get_of_lt (l := l) (i := i) (by omega)
    have h8 : IntKind.i64.wrap ((i : Int) + 1) = ((i + 1 : Nat) : Int) := by rw [wrap64_id] <;> omega
    rw [Loop_eq, drop_get hx]
    by_cases c1 : (60 : Int) < (x.svc.size : Int)
    · simp -implicitDefEqProofs only [fns_4, c4, go_sem, Nat.reduceShiftRight, Nat.reduceAnd, reduceIte, reduceCtorEq, Nat.reduceEqDiff, Nat.reduceAdd, Nat.reduceMul, Nat.reduceSub, Nat.reduceLT, Nat.reduceLeDiff, Nat.reduceBEq, Nat.reduceBNe, Int.reduceToNat, Int.reduceLT, Int.reduceLE, Int.reduceEq, Int.reduceNe, Int.reduceMul, Int.reduceAdd, Int.reduceSub, Int.reduceNeg, c4_0, h0, getD_map rwC hx, rwC, c1]
      exact ⟨_, _, _, rfl, .inl ⟨rfl, rfl⟩⟩
    by_cases c2 : (60 : Int) < (x.op.size : Int)
    · simp -implicitDefEqProofs only [fns_4, c4, go_sem, Nat.reduceShiftRight, Nat.reduceAnd, reduceIte, reduceCtorEq, Nat.reduceEqDiff, Nat.reduceAdd, Nat.reduceMul, Nat.reduceSub, Nat.reduceLT, Nat.reduceLeDiff, Nat.reduceBEq, Nat.reduceBNe, Int.reduceToNat, Int.reduceLT, Int.reduceLE, Int.reduceEq, Int.reduceNe, Int.reduceMul, Int.reduceAdd, Int.reduceSub, Int.reduceNeg, c4_0, h0, getD_map rwC hx, rwC, c1, c2]
      exact ⟨_, _, _, rfl, .inl ⟨rfl, rfl⟩⟩
    by_cases c3 : x.count < 0
    · simp -implicitDefEqProofs only [fns_4, c4, go_sem, Nat.reduceShiftRight, Nat.reduceAnd, reduceIte, reduceCtorEq, Nat.reduceEqDiff, Nat.reduceAdd, Nat.reduceMul, Nat.reduceSub, Nat.reduceLT, Nat.reduceLeDiff, Nat.reduceBEq, Nat.reduceBNe, Int.reduceToNat, Int.reduceLT, Int.reduceLE, Int.reduceEq, Int.reduceNe, Int.reduceMul, Int.reduceAdd, Int.reduceSub, Int.reduceNeg, c4_0, h0, getD_map rwC hx, rwC, c1, c2, c3]
      exact ⟨_, _, _, rfl, .inl ⟨rfl, rfl⟩⟩
    by_cases c4 : (1099511627776 : Int) < x.count
    · simp -implicitDefEqProofs only [fns_4, c4, go_sem, Nat.reduceShiftRight, Nat.reduceAnd, reduceIte, reduceCtorEq, Nat.reduceEqDiff, Nat.reduceAdd, Nat.reduceMul, Nat.reduceSub, Nat.reduceLT, Nat.reduceLeDiff, Nat.reduceBEq, Nat.reduceBNe, Int.reduceToNat, Int.reduceLT, Int.reduceLE, Int.reduceEq, Int.reduceNe, Int.reduceMul, Int.reduceAdd, Int.reduceSub, Int.reduceNeg, c4_0, h0, getD_map rwC hx, rwC, c1, c2, c3, c4]
      exact ⟨_, _, _, rfl, .inl ⟨rfl, rfl⟩⟩
    have e : ((i + 1 : Nat) : Int) * 1099511627776 = (i : Int) * 1099511627776 + 1099511627776 := by omega
    by_cases hl : x.level = lv
    · have hw : IntKind.i64.wrap (s + x.count) = s + x.count := by rw [wrap64_id] <;> omega
      obtain ⟨e', f, H, g1, g2⟩ := ih (i + 1) (s + x.count) (by omega) (by omega) (by rw [e]; omega)
      simp -implicitDefEqProofs only [fns_4, c4, go_sem, Nat.reduceShiftRight, Nat.reduceAnd, reduceIte, reduceCtorEq, Nat.reduceEqDiff, Nat.reduceAdd, Nat.reduceMul, Nat.reduceSub, Nat.reduceLT, Nat.reduceLeDiff, Nat.reduceBEq, Nat.reduceBNe, Int.reduceToNat, Int.reduceLT, Int.reduceLE, Int.reduceEq, Int.reduceNe, Int.reduceMul, Int.reduceAdd, Int.reduceSub, Int.reduceNeg, c4_0, h0, getD_map rwC hx, rwC, c1, c2, c3, c4, hl, hw, h8]
      refine ⟨e', f, H, g1, ?_⟩
      rcases g2 with g2 | ⟨a1, a2, a3, a4, a5, a6, a7, a8⟩
      · exact .inl g2
      · refine .inr ⟨a1, ?_, a3, a4, a5, a6, ?_, a8⟩
        · intro r hr
          rcases List.mem_cons.1 hr with e | hr
          · rw [e]; omega
          · exact a2 r hr
        · rw [a7]; simp only [sumR, if_pos hl, Int.add_assoc]
    · obtain ⟨e', f, H, g1, g2⟩ := ih (i + 1) s (by omega) (by omega) (by rw [e]; omega)
      simp -implicitDefEqProofs only [fns_4, c4, go_sem, Nat.reduceShiftRight, Nat.reduceAnd, reduceIte, reduceCtorEq, Nat.reduceEqDiff, Nat.reduceAdd, Nat.reduceMul, Nat.reduceSub, Nat.reduceLT, Nat.reduceLeDiff, Nat.reduceBEq, Nat.reduceBNe, Int.reduceToNat, Int.reduceLT, Int.reduceLE, Int.reduceEq, Int.reduceNe, Int.reduceMul, Int.reduceAdd, Int.reduceSub, Int.reduceNeg, c4_0, h0, getD_map rwC hx, rwC, c1, c2, c3, c4, hl, h8]
      refine ⟨e', f, H, g1, ?_⟩
      rcases g2 with g2 | ⟨a1, a2, a3, a4, a5, a6, a7, a8⟩
      · exact .inl g2
      · refine .inr ⟨a1, ?_, a3, a4, a5, a6, ?_, a8⟩
        · intro r hr
          rcases List.mem_cons.1 hr with e | hr
          · rw [e]; omega
          · exact a2 r hr
        · rw [a7]; simp only [sumR, if_neg hl, Int.zero_add]
/-- The law's last loop: it ends of itself, with nothing left. -/
theorem LeftL (a : List Bz) (hM : (a.length : Int) ≤ 100) (hn : NonC a) (hs : sumC a ≤ 9223372036854775807) (hnx : ∀ (i : Nat) (x y : Bz), a[i]? = some y → a[i + 1]? = some x → ¬ y.count < x.count ∧ ¬ (x.svc = y.svc ∧ x.op = y.op)) : ∀ (k i : Nat), i + k = a.length → sumC (a.drop i) ≤ 9223372036854775807 →
   ∃ f H, Pi.Loop (exec cx (Cal cx) c4_2) (Rst Try.prog ([(10, none), (14, some 34), (15, none)], [])) (St.mk (sF [(10, .s (.int .i64 (sumC (a.drop i)))), (14, .sl 500014 0 0 a.length), (15, .s (.int .i64 i))]) (hF [(500014, bzR a)])) = some (.ex 2, St.mk f H) ∧ f 10 = .s (.int .i64 0) := by
  intro k
  induction k with
  | zero =>
    intro i h _
    have h0 : ¬ (i : Int) < (a.length : Int) := by omega
    rw [Loop_eq, drop_end (by omega)]
    simp -implicitDefEqProofs only [fns_4, c4, go_sem, Nat.reduceShiftRight, Nat.reduceAnd, reduceIte, reduceCtorEq, Nat.reduceEqDiff, Nat.reduceAdd, Nat.reduceMul, Nat.reduceSub, Nat.reduceLT, Nat.reduceLeDiff, Nat.reduceBEq, Nat.reduceBNe, Int.reduceToNat, Int.reduceLT, Int.reduceLE, Int.reduceEq, Int.reduceNe, Int.reduceMul, Int.reduceAdd, Int.reduceSub, Int.reduceNeg, c4_2, h0, sumC]
    exact ⟨_, _, rfl, rfl⟩
  | succ k ih =>
    intro i h hb
    have h0 : (i : Int) < (a.length : Int) := by omega
    have h01 : i < a.length := by omega
    obtain ⟨x, hx⟩ := get_of_lt (l := a) (i := i) (by omega)
    have h8 : IntKind.i64.wrap ((i : Int) + 1) = ((i + 1 : Nat) : Int) := by rw [wrap64_id] <;> omega
    have hd := drop_get hx
    have hnd : NonC (a.drop (i + 1)) := fun b hb => hn b (List.mem_of_mem_drop hb)
    have s2 := sumC_nonneg hnd
    have hx0 := hn x (mem_get hx)
    rw [hd] at hb
    simp only [sumC] at hb
    have hw : IntKind.i64.wrap (x.count + sumC (a.drop (i + 1)) - x.count) = sumC (a.drop (i + 1)) := by
      rw [show x.count + sumC (a.drop (i + 1)) - x.count = sumC (a.drop (i + 1)) by omega, wrap64_id] <;> omega
    have h7 := ih (i + 1) (by omega) (by omega)
    simp only [bzR] at h7
    rw [Loop_eq, hd]
    cases i with
    | zero =>
      have z0 : (0 : Int) < (a.length : Int) := by omega
      have hw' : IntKind.i64.wrap (x.count + sumC (a.drop 1) - x.count) = sumC (a.drop 1) := hw
      simp -implicitDefEqProofs only [fns_4, c4, go_sem, Nat.reduceShiftRight, Nat.reduceAnd, reduceIte, reduceCtorEq, Nat.reduceEqDiff, Nat.reduceAdd, Nat.reduceMul, Nat.reduceSub, Nat.reduceLT, Nat.reduceLeDiff, Nat.reduceBEq, Nat.reduceBNe, Int.reduceToNat, Int.reduceLT, Int.reduceLE, Int.reduceEq, Int.reduceNe, Int.reduceMul, Int.reduceAdd, Int.reduceSub, Int.reduceNeg, c4_2, z0, h01, getD_map bzC hx, bzC, sumC, hw', wS1]
      exact h7
    | succ j =>
      obtain ⟨y, hy⟩ := get_of_lt (l := a) (i := j) (by omega)
      obtain ⟨n1, n2⟩ := hnx j x y hy hx
      have c0 : (0 : Int) < ((j + 1 : Nat) : Int) := by omega
      have c1 : (j : Int) < (a.length : Int) := by omega
      have c2 : j < a.length := by omega
      have c3 : (0 : Int) ≤ (j : Int) := by omega
      have h9 : IntKind.i64.wrap (((j + 1 : Nat) : Int) - 1) = (j : Int) := by rw [wrap64_id] <;> omega
      by_cases e1 : x.svc = y.svc
      · have e2 : ¬ x.op = y.op := fun e => n2 ⟨e1, e⟩
        simp -implicitDefEqProofs only [fns_4, c4, go_sem, Nat.reduceShiftRight, Nat.reduceAnd, reduceIte, reduceCtorEq, Nat.reduceEqDiff, Nat.reduceAdd, Nat.reduceMul, Nat.reduceSub, Nat.reduceLT, Nat.reduceLeDiff, Nat.reduceBEq, Nat.reduceBNe, Int.reduceToNat, Int.reduceLT, Int.reduceLE, Int.reduceEq, Int.reduceNe, Int.reduceMul, Int.reduceAdd, Int.reduceSub, Int.reduceNeg, c4_2, h0, h01, getD_map bzC hx, getD_map bzC hy, bzC, sumC, hw, h8, h9, c0, c1, c2, c3, n1, e1, e2]
        exact h7
      · simp -implicitDefEqProofs only [fns_4, c4, go_sem, Nat.reduceShiftRight, Nat.reduceAnd, reduceIte, reduceCtorEq, Nat.reduceEqDiff, Nat.reduceAdd, Nat.reduceMul, Nat.reduceSub, Nat.reduceLT, Nat.reduceLeDiff, Nat.reduceBEq, Nat.reduceBNe, Int.reduceToNat, Int.reduceLT, Int.reduceLE, Int.reduceEq, Int.reduceNe, Int.reduceMul, Int.reduceAdd, Int.reduceSub, Int.reduceNeg, c4_2, h0, h01, getD_map bzC hx, getD_map bzC hy, bzC, sumC, hw, h8, h9, c0, c1, c2, c3, n1, e1]
        exact h7
end Go.Proofs.Ytpjdoblfdeioaaa
