/- RetireNone: the law's function answers true. Own work. -/
import Derived.Test.YtpfjchnpkolmkaaRlaw20
set_option linter.unusedVariables false
set_option linter.unusedSimpArgs false
namespace Go.Proofs.Ytpfjchnpkolmkaa
open Go Go.Pi
set_option maxHeartbeats 2000000
set_option maxRecDepth 10000
def noneOk (now : Int) (b : Blo) : Bool := blOk b && decide (b.born ≤ now) && decide (now ≤ 1099511627776)
theorem NoneLoop (ln : Bool) (l : List Blo) (now : Int) (hFt : ∀ b ∈ l, Fit b) (hM : (l.length : Int) ≤ 1000000) : ∀ (n i : Nat), i + n = l.length →
   ∃ f H, Pi.Loop (exec cx (Cal cx) c4_0) (Rst Try.prog ([(0, none), (1, none), (6, none)], [])) (St.mk (sF [(0, .sh ln (l.map bkC)), (1, .s (.int .i64 now)), (6, .s (.int .i64 i))]) (hF [])) = some ((if (l.drop i).all (noneOk now) = true then .ex 0 else .ret), St.mk f H) ∧ ((l.drop i).all (noneOk now) = false → f 4 = .s (.bool true)) ∧ ((l.drop i).all (noneOk now) = true → f 0 = .sh ln (l.map bkC) ∧ f 1 = .s (.int .i64 now) ∧ H = hF []) := by
  intro n
  induction n with
  | zero =>
    intro i h
    have h0 : ¬ (i : Int) < (l.length : Int) := by omega
    rw [Loop_eq, drop_end (by omega)]
    simp -implicitDefEqProofs only [fns_4, c4, body, startSt, pkeys, slots, recvL, recv, noH, finish, resPV, outRs, outR, outC, outCs, outMs, go_sem, Nat.reduceShiftRight, Nat.reduceAnd, reduceIte, reduceCtorEq, Nat.reduceEqDiff, Nat.reduceAdd, Nat.reduceMul, Nat.reduceSub, Nat.reduceLT, Nat.reduceLeDiff, Nat.reduceBEq, Nat.reduceBNe, Int.reduceToNat, Int.reduceLT, Int.reduceLE, Int.reduceEq, Int.reduceNe, Int.reduceMul, Int.reduceAdd, Int.reduceSub, Int.reduceNeg, or_self, true_or, or_true, false_or, or_false, Int.natCast_nonneg, Int.toNat_natCast, List.length_map, implies_true, Int.cast_ofNat_Int, List.mem_cons, List.not_mem_nil, forall_eq_or_imp, forall_eq, false_implies, List.replicate_succ, List.replicate_zero, List.set_cons_zero, List.set_cons_succ, List.length_set, Nat.zero_add, Nat.not_succ_le_self, Nat.mul_one, exec_loop, Rst, keys1, keys2, keysB, proms, prom, keepV, freshV, freshC, freshB, liveVer, mpVer, pk, ded, insH, sortH, rnP, rnA, rnM, List.map_nil, St.of, List.map_cons, c4_0, h0]
    exact ⟨_, _, rfl, fun _ => ⟨rfl, rfl, rfl⟩⟩
  | succ n ih =>
    intro i h
    have h0 : (i : Int) < (l.length : Int) := by omega
    obtain ⟨x, hx⟩ := get_of_lt (l := l) (i := i) (by omega)
    have h8 : IntKind.i64.wrap ((i : Int) + 1) = ((i + 1 : Nat) : Int) := by rw [wrap64_id] <;> omega
    have h7 := ih (i + 1) (by omega)
    have hf := hFt x (mem_get hx)
    have h1 := RightBlock x hf.len hf.eps
    simp only [bkC] at h1
    rw [Loop_eq, drop_get hx, List.all_cons]
    cases hS : blOk x
    · have e : noneOk now x = false := by simp [noneOk, hS]
      simp -implicitDefEqProofs only [fns_4, c4, body, startSt, pkeys, slots, recvL, recv, noH, finish, resPV, outRs, outR, outC, outCs, outMs, go_sem, Nat.reduceShiftRight, Nat.reduceAnd, reduceIte, reduceCtorEq, Nat.reduceEqDiff, Nat.reduceAdd, Nat.reduceMul, Nat.reduceSub, Nat.reduceLT, Nat.reduceLeDiff, Nat.reduceBEq, Nat.reduceBNe, Int.reduceToNat, Int.reduceLT, Int.reduceLE, Int.reduceEq, Int.reduceNe, Int.reduceMul, Int.reduceAdd, Int.reduceSub, Int.reduceNeg, or_self, true_or, or_true, false_or, or_false, Int.natCast_nonneg, Int.toNat_natCast, List.length_map, implies_true, Int.cast_ofNat_Int, List.mem_cons, List.not_mem_nil, forall_eq_or_imp, forall_eq, false_implies, List.replicate_succ, List.replicate_zero, List.set_cons_zero, List.set_cons_succ, List.length_set, Nat.zero_add, Nat.not_succ_le_self, Nat.mul_one, exec_loop, Rst, keys1, keys2, keysB, proms, prom, keepV, freshV, freshC, freshB, liveVer, mpVer, pk, ded, insH, sortH, rnP, rnA, rnM, List.map_nil, St.of, List.map_cons, c4_0, h0, getD_map bkC hx, bkC, h1, hS, e]
      exact ⟨_, _, rfl, fun _ => rfl⟩
    · by_cases hA : now < x.born
      · have e : noneOk now x = false := by simp [noneOk, hS]; omega
        simp -implicitDefEqProofs only [fns_4, c4, body, startSt, pkeys, slots, recvL, recv, noH, finish, resPV, outRs, outR, outC, outCs, outMs, go_sem, Nat.reduceShiftRight, Nat.reduceAnd, reduceIte, reduceCtorEq, Nat.reduceEqDiff, Nat.reduceAdd, Nat.reduceMul, Nat.reduceSub, Nat.reduceLT, Nat.reduceLeDiff, Nat.reduceBEq, Nat.reduceBNe, Int.reduceToNat, Int.reduceLT, Int.reduceLE, Int.reduceEq, Int.reduceNe, Int.reduceMul, Int.reduceAdd, Int.reduceSub, Int.reduceNeg, or_self, true_or, or_true, false_or, or_false, Int.natCast_nonneg, Int.toNat_natCast, List.length_map, implies_true, Int.cast_ofNat_Int, List.mem_cons, List.not_mem_nil, forall_eq_or_imp, forall_eq, false_implies, List.replicate_succ, List.replicate_zero, List.set_cons_zero, List.set_cons_succ, List.length_set, Nat.zero_add, Nat.not_succ_le_self, Nat.mul_one, exec_loop, Rst, keys1, keys2, keysB, proms, prom, keepV, freshV, freshC, freshB, liveVer, mpVer, pk, ded, insH, sortH, rnP, rnA, rnM, List.map_nil, St.of, List.map_cons, c4_0, h0, getD_map bkC hx, bkC, h1, hS, hA, e]
        exact ⟨_, _, rfl, fun _ => rfl⟩
      · by_cases hB : (1099511627776 : Int) < now
        · have e : noneOk now x = false := by simp [noneOk, hS]; omega
          simp -implicitDefEqProofs only [fns_4, c4, body, startSt, pkeys, slots, recvL, recv, noH, finish, resPV, outRs, outR, outC, outCs, outMs, go_sem, Nat.reduceShiftRight, Nat.reduceAnd, reduceIte, reduceCtorEq, Nat.reduceEqDiff, Nat.reduceAdd, Nat.reduceMul, Nat.reduceSub, Nat.reduceLT, Nat.reduceLeDiff, Nat.reduceBEq, Nat.reduceBNe, Int.reduceToNat, Int.reduceLT, Int.reduceLE, Int.reduceEq, Int.reduceNe, Int.reduceMul, Int.reduceAdd, Int.reduceSub, Int.reduceNeg, or_self, true_or, or_true, false_or, or_false, Int.natCast_nonneg, Int.toNat_natCast, List.length_map, implies_true, Int.cast_ofNat_Int, List.mem_cons, List.not_mem_nil, forall_eq_or_imp, forall_eq, false_implies, List.replicate_succ, List.replicate_zero, List.set_cons_zero, List.set_cons_succ, List.length_set, Nat.zero_add, Nat.not_succ_le_self, Nat.mul_one, exec_loop, Rst, keys1, keys2, keysB, proms, prom, keepV, freshV, freshC, freshB, liveVer, mpVer, pk, ded, insH, sortH, rnP, rnA, rnM, List.map_nil, St.of, List.map_cons, c4_0, h0, getD_map bkC hx, bkC, h1, hS, hA, hB, e]
          exact ⟨_, _, rfl, fun _ => rfl⟩
        · have e : noneOk now x = true := by simp [noneOk, hS]; omega
          simp -implicitDefEqProofs only [fns_4, c4, body, startSt, pkeys, slots, recvL, recv, noH, finish, resPV, outRs, outR, outC, outCs, outMs, go_sem, Nat.reduceShiftRight, Nat.reduceAnd, reduceIte, reduceCtorEq, Nat.reduceEqDiff, Nat.reduceAdd, Nat.reduceMul, Nat.reduceSub, Nat.reduceLT, Nat.reduceLeDiff, Nat.reduceBEq, Nat.reduceBNe, Int.reduceToNat, Int.reduceLT, Int.reduceLE, Int.reduceEq, Int.reduceNe, Int.reduceMul, Int.reduceAdd, Int.reduceSub, Int.reduceNeg, or_self, true_or, or_true, false_or, or_false, Int.natCast_nonneg, Int.toNat_natCast, List.length_map, implies_true, Int.cast_ofNat_Int, List.mem_cons, List.not_mem_nil, forall_eq_or_imp, forall_eq, false_implies, List.replicate_succ, List.replicate_zero, List.set_cons_zero, List.set_cons_succ, List.length_set, Nat.zero_add, Nat.not_succ_le_self, Nat.mul_one, exec_loop, Rst, keys1, keys2, keysB, proms, prom, keepV, freshV, freshC, freshB, liveVer, mpVer, pk, ded, insH, sortH, rnP, rnA, rnM, List.map_nil, St.of, List.map_cons, c4_0, h0, getD_map bkC hx, bkC, h1, hS, hA, hB, e, h8]
          exact h7
theorem sz_pos {b : Blo} (h : blOk b = true) : 0 < sz b := by
  unfold sz bkB
  rw [if_pos h]
  unfold sealB sum4
  simp
  omega
theorem total_pos : ∀ (l : List Blo), l ≠ [] → (∀ b ∈ l, blOk b = true) → 0 < total l
  | [], h, _ => absurd rfl h
  | b :: l, _, h => by
    have := sz_pos (h b List.mem_cons_self)
    have := total_nonneg l
    unfold total
    omega
theorem evict_zero : ∀ (n : Nat) (l : List Blo), l.length = n → 0 < n → (∀ b ∈ l, blOk b = true) → (evict 0 n l).length = n - 1
  | 0, l, h, h0, _ => by omega
  | n + 1, l, h, h0, hO => by
    have hl : l ≠ [] := fun e => by subst e; simp at h
    unfold evict
    by_cases hc : 1 < l.length
    · have ha := aminF_lt l l.length 0 0 (by omega) (by omega)
      rw [if_pos ⟨total_pos l hl hO, hc⟩, List.length_cons, evict_zero n (l.eraseIdx (oldest l)) (by rw [List.length_eraseIdx_of_lt (show oldest l < l.length from ha)]; omega) (by omega) (fun b hb => hO b (List.mem_of_mem_eraseIdx hb))]
      omega
    · rw [if_neg (fun h => hc h.2)]
      simp only [List.length_nil]
      omega
theorem evict_all (budget : Int) : ∀ (n : Nat) (l : List Blo), total l ≤ budget → evict budget n l = []
  | 0, _, _ => rfl
  | n + 1, l, h => by rw [evict, if_neg (fun x => by omega)]
theorem blOk_born {b : Blo} (h : blOk b = true) : 0 ≤ b.born ∧ b.born ≤ 1099511627776 := by
  unfold blOk at h
  simp only [Bool.and_eq_true, List.all_cons, List.all_nil, Bool.and_true] at h
  have := h.1.1.2.1
  unfold epochOk at this
  simp at this
  exact this
theorem RetireNone (ln : Bool) (l : List Blo) (now : Int) (hR : ∀ b ∈ l, RgB b) (hM : (l.length : Int) ≤ 1048576) (hB : ∀ b ∈ l, b.eps.length ≤ 1048576) (hE : ∀ b ∈ l, Eps b.eps) : Cal cx 4 [.sh ln (l.map bkC), .s (.int .i64 now)] = some ([.s (.bool true)], []) := by
  have h1 := alive
  have h2 := FewB ln l hM hB hE
  rw [Cal_eq]
  cases hF : fewB l
  · simp -implicitDefEqProofs only [fns_4, c4, body, startSt, pkeys, slots, recvL, recv, noH, finish, resPV, outRs, outR, outC, outCs, outMs, go_sem, Nat.reduceShiftRight, Nat.reduceAnd, reduceIte, reduceCtorEq, Nat.reduceEqDiff, Nat.reduceAdd, Nat.reduceMul, Nat.reduceSub, Nat.reduceLT, Nat.reduceLeDiff, Nat.reduceBEq, Nat.reduceBNe, Int.reduceToNat, Int.reduceLT, Int.reduceLE, Int.reduceEq, Int.reduceNe, Int.reduceMul, Int.reduceAdd, Int.reduceSub, Int.reduceNeg, or_self, true_or, or_true, false_or, or_false, Int.natCast_nonneg, Int.toNat_natCast, List.length_map, implies_true, Int.cast_ofNat_Int, List.mem_cons, List.not_mem_nil, forall_eq_or_imp, forall_eq, false_implies, List.replicate_succ, List.replicate_zero, List.set_cons_zero, List.set_cons_succ, List.length_set, Nat.zero_add, Nat.not_succ_le_self, Nat.mul_one, exec_loop, Rst, keys1, keys2, keysB, proms, prom, keepV, freshV, freshC, freshB, liveVer, mpVer, pk, ded, insH, sortH, rnP, rnA, rnM, List.map_nil, St.of, List.map_cons, h1, h2, hF]
  · have hFt := fit_few hR hF
    have hl12 : (l.length : Int) ≤ 12 := by unfold fewB at hF; simp at hF; omega
    by_cases hl : (l.length : Int) < 1
    · simp -implicitDefEqProofs only [fns_4, c4, body, startSt, pkeys, slots, recvL, recv, noH, finish, resPV, outRs, outR, outC, outCs, outMs, go_sem, Nat.reduceShiftRight, Nat.reduceAnd, reduceIte, reduceCtorEq, Nat.reduceEqDiff, Nat.reduceAdd, Nat.reduceMul, Nat.reduceSub, Nat.reduceLT, Nat.reduceLeDiff, Nat.reduceBEq, Nat.reduceBNe, Int.reduceToNat, Int.reduceLT, Int.reduceLE, Int.reduceEq, Int.reduceNe, Int.reduceMul, Int.reduceAdd, Int.reduceSub, Int.reduceNeg, or_self, true_or, or_true, false_or, or_false, Int.natCast_nonneg, Int.toNat_natCast, List.length_map, implies_true, Int.cast_ofNat_Int, List.mem_cons, List.not_mem_nil, forall_eq_or_imp, forall_eq, false_implies, List.replicate_succ, List.replicate_zero, List.set_cons_zero, List.set_cons_succ, List.length_set, Nat.zero_add, Nat.not_succ_le_self, Nat.mul_one, exec_loop, Rst, keys1, keys2, keysB, proms, prom, keepV, freshV, freshC, freshB, liveVer, mpVer, pk, ded, insH, sortH, rnP, rnA, rnM, List.map_nil, St.of, List.map_cons, h1, h2, hF, hl]
    · obtain ⟨f, H, g1, g2, g3⟩ := NoneLoop ln l now hFt (by omega) l.length 0 (by omega)
      simp only [List.drop_zero, Int.cast_ofNat_Int] at g1 g2 g3
      cases hA : l.all (noneOk now)
      · have g4 := g2 hA
        rw [hA] at g1
        simp -implicitDefEqProofs only [fns_4, c4, body, startSt, pkeys, slots, recvL, recv, noH, finish, resPV, outRs, outR, outC, outCs, outMs, go_sem, Nat.reduceShiftRight, Nat.reduceAnd, reduceIte, reduceCtorEq, Nat.reduceEqDiff, Nat.reduceAdd, Nat.reduceMul, Nat.reduceSub, Nat.reduceLT, Nat.reduceLeDiff, Nat.reduceBEq, Nat.reduceBNe, Int.reduceToNat, Int.reduceLT, Int.reduceLE, Int.reduceEq, Int.reduceNe, Int.reduceMul, Int.reduceAdd, Int.reduceSub, Int.reduceNeg, or_self, true_or, or_true, false_or, or_false, Int.natCast_nonneg, Int.toNat_natCast, List.length_map, implies_true, Int.cast_ofNat_Int, List.mem_cons, List.not_mem_nil, forall_eq_or_imp, forall_eq, false_implies, List.replicate_succ, List.replicate_zero, List.set_cons_zero, List.set_cons_succ, List.length_set, Nat.zero_add, Nat.not_succ_le_self, Nat.mul_one, exec_loop, Rst, keys1, keys2, keysB, proms, prom, keepV, freshV, freshC, freshB, liveVer, mpVer, pk, ded, insH, sortH, rnP, rnA, rnM, List.map_nil, St.of, List.map_cons, h1, h2, hF, hl, g1, g4]
      · obtain ⟨k1, k2, k3⟩ := g3 hA
        rw [hA] at g1
        have hO : ∀ b ∈ l, blOk b = true ∧ b.born ≤ now ∧ now ≤ 1099511627776 := fun b hb => by
          have := List.all_eq_true.1 hA b hb
          unfold noneOk at this
          simp only [Bool.and_eq_true, decide_eq_true_eq] at this
          exact ⟨this.1.1, this.1.2, this.2⟩
        have hL : ∀ b ∈ l, lessI now b.born = now - b.born ∧ 0 ≤ now - b.born ∧ now - b.born ≤ 1099511627776 := fun b hb => by
          have h1 := blOk_born (hO b hb).1
          have h2 := (hO b hb).2
          refine ⟨lessI_sub (by omega) (by omega) (by omega) (by omega), by omega, by omega⟩
        have y1 : ∀ k, 1099511627776 ≤ k → (l.filter (old now k)) = [] := fun k hk => by
          rw [List.filter_eq_nil_iff]
          intro b hb
          have := hL b hb
          simp [old]
          omega
        have y2 : young now 1099511627776 l = l := by
          unfold young
          rw [List.filter_eq_self]
          intro b hb
          have := hL b hb
          simp [old]
          omega
        have z1 : l.filter (old now (-1)) = l := by
          rw [List.filter_eq_self]
          intro b hb
          have := hL b hb
          simp [old]
          omega
        have z2 : young now (-1) l = [] := by
          unfold young
          rw [List.filter_eq_nil_iff]
          intro b hb
          have := hL b hb
          simp [old]
          omega
        have t0 := TotalR ln l hFt (by omega)
        have t1 := Choose ln l now 1099511627776 (total l) hFt (by omega)
        have t2 := Choose ln l now 1099511627776 0 hFt (by omega)
        have t3 := Choose ln l now (-1) 1099511627776 hFt (by omega)
        have c1 : choose l now 1099511627776 (total l) = [] := by
          unfold choose
          rw [y1 _ (Int.le_refl _), y2, evict_all _ _ _ (Int.le_refl _)]
          rfl
        have c2 : ((choose l now 1099511627776 0).length : Int) = (l.length : Int) - 1 := by
          unfold choose
          rw [y1 _ (Int.le_refl _), y2, List.map_nil, List.nil_append, evict_zero l.length l rfl (by omega) (fun b hb => (hO b hb).1)]
          omega
        have c3 : (choose l now (-1) 1099511627776).length = l.length := by
          unfold choose
          rw [z1, z2]
          simp [evict]
        have w1 : IntKind.i64.wrap ((l.length : Int) - 1) = (l.length : Int) - 1 := by rw [wrap64_id] <;> omega
        rw [c1] at t1
        simp only [List.map_nil] at t1
        simp -implicitDefEqProofs only [fns_4, c4, body, startSt, pkeys, slots, recvL, recv, noH, finish, resPV, outRs, outR, outC, outCs, outMs, go_sem, Nat.reduceShiftRight, Nat.reduceAnd, reduceIte, reduceCtorEq, Nat.reduceEqDiff, Nat.reduceAdd, Nat.reduceMul, Nat.reduceSub, Nat.reduceLT, Nat.reduceLeDiff, Nat.reduceBEq, Nat.reduceBNe, Int.reduceToNat, Int.reduceLT, Int.reduceLE, Int.reduceEq, Int.reduceNe, Int.reduceMul, Int.reduceAdd, Int.reduceSub, Int.reduceNeg, or_self, true_or, or_true, false_or, or_false, Int.natCast_nonneg, Int.toNat_natCast, List.length_map, implies_true, Int.cast_ofNat_Int, List.mem_cons, List.not_mem_nil, forall_eq_or_imp, forall_eq, false_implies, List.replicate_succ, List.replicate_zero, List.set_cons_zero, List.set_cons_succ, List.length_set, Nat.zero_add, Nat.not_succ_le_self, Nat.mul_one, exec_loop, Rst, keys1, keys2, keysB, proms, prom, keepV, freshV, freshC, freshB, liveVer, mpVer, pk, ded, insH, sortH, rnP, rnA, rnM, List.map_nil, St.of, List.map_cons, h1, h2, hF, hl, g1, k1, k2, k3, t0, t1, t2, t3, c2, c3, w1]
end Go.Proofs.Ytpfjchnpkolmkaa
