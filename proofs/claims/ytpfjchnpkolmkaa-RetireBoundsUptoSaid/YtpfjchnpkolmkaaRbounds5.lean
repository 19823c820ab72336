/- RetireBounds: the plain law of the rounds, and the first round. Own work. -/
import Derived.Test.YtpfjchnpkolmkaaRbounds4
set_option linter.unusedVariables false
set_option linter.unusedSimpArgs false
namespace Go.Proofs.Ytpfjchnpkolmkaa
open Go Go.Pi
theorem rounds_old (now keep B : Int) (rest : List Int) : ∀ (r k : List Blo), Dist (k ++ r) → (∀ b ∈ r, lessI now b.born = now - b.born) →
    rounds now keep B ((r.filter (old now keep)).map Blo.number ++ rest) (k ++ r) = rounds now keep B rest (k ++ r.filter fun b => !old now keep b)
  | [], k, _, _ => by simp
  | x :: r, k, hD, hL => by
    have hLr : ∀ b ∈ r, lessI now b.born = now - b.born := fun b hb => hL b (List.mem_cons_of_mem _ hb)
    have hx : (k ++ x :: r)[k.length]? = some x := by simp
    cases ho : old now keep x
    · have h1 := rounds_old now keep B rest r (k ++ [x]) (by simpa using hD) hLr
      rw [List.filter_cons_of_neg (by simp [ho]), List.filter_cons_of_pos (by simp [ho])]
      simpa using h1
    · have e2 : gone x.number (k ++ x :: r) = k ++ r := by
        rw [gone_erase hD _ x hx, List.eraseIdx_append_of_length_le (by omega)]
        simp
      have h1 := rounds_old now keep B rest r k (hD.sublist (by simp)) hLr
      rw [List.filter_cons_of_pos ho, List.filter_cons_of_neg (by simp [ho]), List.map_cons, List.cons_append, rounds, if_neg, e2, h1]
      have e1 := lastAt_get hD _ x 0 (-1) hx
      have e3 : atB (k ++ x :: r) ((0 + k.length : Nat) : Int) = x.born := by
        unfold atB
        rw [Int.toNat_natCast, Nat.zero_add]
        exact bornAt_get hx
      have h3 := hL x List.mem_cons_self
      unfold old at ho
      rw [h3, decide_eq_true_eq] at ho
      unfold roundBad
      rw [e1]
      simp only [e3, ho, decide_true, Bool.not_true, Bool.false_and, Bool.or_false, decide_eq_true_eq]
      omega
theorem rounds_evict (now keep B : Int) : ∀ (n : Nat) (l : List Blo), l.length = n → Dist l →
    ∃ fin, rounds now keep B (evict B n l) l = some fin ∧ (∀ b ∈ fin, b ∈ l) ∧ ((fin.length : Int) < 2 ∨ total fin ≤ B)
  | 0, l, hn, _ => ⟨l, rfl, fun b h => h, by omega⟩
  | n + 1, l, hn, hD => by
    unfold evict
    by_cases hc : B < total l ∧ 1 < l.length
    · rw [if_pos hc]
      have ha : oldest l < l.length := aminF_lt l l.length 0 0 (by omega) (by omega)
      obtain ⟨x, hx⟩ := get_of_lt (l := l) (i := oldest l) ha
      have e2 : numAt l (oldest l) = x.number := by simp [numAt, hx]
      have e3 := gone_erase hD _ x hx
      obtain ⟨fin, h1, h2, h3⟩ := rounds_evict now keep B n (l.eraseIdx (oldest l)) (by rw [List.length_eraseIdx_of_lt ha]; omega) (hD.sublist (List.eraseIdx_sublist _ _))
      refine ⟨fin, ?_, fun b hb => List.mem_of_mem_eraseIdx (h2 b hb), h3⟩
      rw [e2, rounds, if_neg, e3, h1]
      have e1 := lastAt_get hD _ x 0 (-1) hx
      have e4 : atB l ((0 + oldest l : Nat) : Int) = x.born := by
        unfold atB
        rw [Int.toNat_natCast, Nat.zero_add]
        exact bornAt_get hx
      have e5 : (l.all fun b => decide (x.born ≤ b.born)) = true := by
        rw [List.all_eq_true]
        intro b hb
        have := oldest_least hb
        rw [bornAt_get hx] at this
        simpa using this
      have c1 : ¬ total l ≤ B := by omega
      have c2 : ¬ (l.length : Int) < 2 := by omega
      unfold roundBad
      rw [e1]
      simp only [e4, e5, c1, c2, decide_false, Bool.not_true, Bool.or_false, Bool.and_false, decide_eq_true_eq]
      omega
    · rw [if_neg hc]
      exact ⟨l, rfl, fun b h => h, by omega⟩
theorem bounds_law (now keep B : Int) (l : List Blo) (hD : Dist l) (hL : ∀ b ∈ l, lessI now b.born = now - b.born) :
    ∃ fin, rounds now keep B (choose l now keep B) l = some fin ∧ (∀ b ∈ fin, b ∈ l) ∧ (∀ b ∈ fin, ¬ keep < now - b.born) ∧ ((fin.length : Int) < 2 ∨ total fin ≤ B) := by
  have h1 := rounds_old now keep B (evict B (young now keep l).length (young now keep l)) l [] (by simpa using hD) hL
  obtain ⟨fin, h2, h3, h4⟩ := rounds_evict now keep B _ (young now keep l) rfl (hD.sublist List.filter_sublist)
  have h5 : ∀ b ∈ fin, b ∈ l := fun b hb => (List.mem_filter.1 (h3 b hb)).1
  refine ⟨fin, ?_, h5, fun b hb => ?_, h4⟩
  · unfold choose
    simp only [List.nil_append] at h1
    rw [h1]
    exact h2
  · have h6 := (List.mem_filter.1 (h3 b hb)).2
    have h7 := hL b (h5 b hb)
    unfold old at h6
    rw [h7] at h6
    simpa using h6
theorem bndOk_fact {l : List Blo} : ∀ (n i : Nat), i + n = l.length → bndOk l n i = true → ∀ j x, i ≤ j → l[j]? = some x → 0 ≤ x.born ∧ x.born ≤ 1099511627776 ∧ (l.take j).any (fun b => decide (b.number = x.number)) = false
  | 0, i, hn, _, j, x, hj, hx => by
    obtain ⟨h, _⟩ := List.getElem?_eq_some_iff.1 hx
    omega
  | n + 1, i, hn, h, j, x, hj, hx => by
    obtain ⟨y, hy⟩ := get_of_lt (l := l) (i := i) (by omega)
    cases hb : bndBad l i y
    · rw [bndOk_good hy hb] at h
      by_cases e : i = j
      · subst e
        rw [hx] at hy
        cases hy
        simp only [bndBad, Bool.or_eq_false_iff, decide_eq_false_iff_not] at hb
        exact ⟨by omega, by omega, hb.2⟩
      · exact bndOk_fact n (i + 1) (by omega) h j x (by omega) hx
    · rw [bndOk_bad hy hb] at h
      cases h
theorem dist_of {l : List Blo} (h : ∀ j x, l[j]? = some x → (l.take j).any (fun b => decide (b.number = x.number)) = false) : Dist l := by
  unfold Dist
  rw [List.pairwise_iff_getElem]
  intro i j hi hj hij e
  have h1 := h j l[j] (List.getElem?_eq_getElem hj)
  rw [List.any_eq_false] at h1
  refine h1 l[i] ?_ (by simpa using e)
  exact List.mem_take_iff_getElem.2 ⟨i, by omega, rfl⟩
set_option maxHeartbeats 2000000
set_option maxRecDepth 10000
theorem wrap64_one : IntKind.i64.wrap 1 = 1 := by decide
theorem RoundFirst (ln : Bool) (xs : List Int) (now keep budget : Int) (hn : 0 ≤ now ∧ now ≤ 1099511627776) (hM2 : (xs.length : Int) ≤ 1000000) (l fin : List Blo) (hR : RgL l) (hr : rounds now keep budget xs l = some fin) :
   ∃ f H, Pi.Loop (exec cx (Cal cx) c3_4) (Rst Try.prog ([(1, none), (2, none), (3, none), (12, some 3), (13, some 27), (14, none)], [])) (St.mk (sF [(1, .s (.int .i64 now)), (2, .s (.int .i64 keep)), (3, .s (.int .i64 budget)), (12, .sl 500012 0 0 xs.length), (13, .sh ln (l.map bkC)), (14, .s (.int .i64 0))]) (hF [(500012, oRow xs)])) = some (.ex 4, St.mk f H) ∧
     f 1 = .s (.int .i64 now) ∧ f 2 = .s (.int .i64 keep) ∧ f 3 = .s (.int .i64 budget) ∧ ((fin = l ∧ f 13 = .sh ln (l.map bkC)) ∨ (f 13 = .sl 500013 0 0 fin.length ∧ H 500013 = lRow fin)) := by
  cases xs with
  | nil =>
    rw [rounds] at hr
    cases hr
    rw [Loop_eq]
    simp -implicitDefEqProofs only [fns_3, c3, body, startSt, pkeys, slots, recvL, recv, noH, finish, resPV, outRs, outR, outC, outCs, outMs, go_sem, Nat.reduceShiftRight, Nat.reduceAnd, reduceIte, reduceCtorEq, Nat.reduceEqDiff, Nat.reduceAdd, Nat.reduceMul, Nat.reduceSub, Nat.reduceLT, Nat.reduceLeDiff, Nat.reduceBEq, Nat.reduceBNe, Int.reduceToNat, Int.reduceLT, Int.reduceLE, Int.reduceEq, Int.reduceNe, Int.reduceMul, Int.reduceAdd, Int.reduceSub, Int.reduceNeg, or_self, true_or, or_true, false_or, or_false, Int.natCast_nonneg, Int.toNat_natCast, List.length_map, implies_true, Int.cast_ofNat_Int, List.mem_cons, List.not_mem_nil, forall_eq_or_imp, forall_eq, false_implies, List.replicate_succ, List.replicate_zero, List.set_cons_zero, List.set_cons_succ, List.length_set, Nat.zero_add, Nat.not_succ_le_self, Nat.mul_one, exec_loop, Rst, keys1, keys2, keysB, proms, prom, keepV, freshV, freshC, freshB, liveVer, mpVer, pk, ded, insH, sortH, rnP, rnA, rnM, List.map_nil, St.of, List.map_cons, c3_4, List.length_nil]
    first | exact ⟨_, _, rfl, rfl, rfl, rfl, .inl ⟨rfl, rfl⟩⟩ | exact ⟨_, _, rfl, rfl, rfl, rfl, .inl rfl⟩
  | cons y ys =>
    have h0 : (0 : Int) < ((y :: ys).length : Int) := by rw [List.length_cons]; omega
    have hy : (y :: ys)[0]? = some y := rfl
    rw [rounds] at hr
    have hb : roundBad now keep budget l y = false := by
      cases e : roundBad now keep budget l y
      · rfl
      · rw [if_pos e] at hr; cases hr
    rw [if_neg (by simp [hb])] at hr
    have hM := hR.2.2
    have h7 := RoundLoop (y :: ys) now keep budget hn hM2 ys.length 1 (gone y l) fin (by simp; omega) (rgL_gone hR y) (by simpa using hr)
    have ba := lastAt_lt y l 0 (-1) l.length (by omega) (by omega) (by omega)
    obtain ⟨f, H, g1, g2, g3, g4, g5, g6, g7, g8, g9, g10, g11, g13⟩ := FindLoopS ln l (y :: ys) now keep budget 0 y hy hM l.length 0 [] (-1) (by omega) (by simp)
    generalize (y :: ys) = xs at *
    have h0n : 0 < xs.length := by omega
    simp only [oRow, lRow, Int.cast_ofNat_Int, List.drop_zero, List.nil_append, List.length_nil, List.map_nil] at g1 g7 g8 g9 g11 g13
    simp only [Int.cast_ofNat_Int] at h7
    unfold roundBad at hb
    generalize lastAt y l 0 (-1) = a at g9 hb ba
    simp only [Bool.or_eq_false_iff, decide_eq_false_iff_not, Bool.and_eq_false_iff, Bool.not_eq_false', decide_eq_true_eq] at hb
    obtain ⟨A, rfl⟩ : ∃ A : Nat, a = (A : Int) := ⟨a.toNat, by omega⟩
    have hA : (A : Int) < (l.length : Int) := by omega
    have hAn : A < l.length := by omega
    have hA0 : ¬ (A : Int) < 0 := by omega
    obtain ⟨z1, hz⟩ := get_of_lt (l := l) (i := A) (by omega)
    have hzb := hR.2.1 z1 (mem_get hz)
    have w1 : IntKind.i64.wrap (now - z1.born) = now - z1.born := by rw [wrap64_id] <;> omega
    obtain ⟨f2, H2, k1, k2, k3, k4, k5, k6, k7, k8, k9, k10, k11, k13⟩ := LeastLoopS ln l (gone y l) xs now keep budget A 0 z1 hz hM l.length 0 true (by omega)
    simp only [oRow, lRow, Int.cast_ofNat_Int, List.drop_zero, Bool.true_and] at k1 k7 k10 k11 k13
    have t1 := TotalR ln l hR.1 hM
    have e1 : atB l (A : Int) = z1.born := by unfold atB; rw [Int.toNat_natCast]; exact bornAt_get hz
    rw [e1] at hb
    have fin : ∀ (P : Prop) (x : Out), (∃ f H, x = some (.ex 4, St.mk f H) ∧ f 1 = .s (.int .i64 now) ∧ f 2 = .s (.int .i64 keep) ∧ f 3 = .s (.int .i64 budget) ∧ f 13 = .sl 500013 0 0 fin.length ∧ H 500013 = lRow fin) → ∃ f H, x = some (.ex 4, St.mk f H) ∧ f 1 = .s (.int .i64 now) ∧ f 2 = .s (.int .i64 keep) ∧ f 3 = .s (.int .i64 budget) ∧ (P ∧ f 13 = .sh ln (l.map bkC) ∨ f 13 = .sl 500013 0 0 fin.length ∧ H 500013 = lRow fin) := by
      rintro P x ⟨f, H, m1, m2, m3, m4, m5⟩
      exact ⟨f, H, m1, m2, m3, m4, .inr m5⟩
    rw [Loop_eq]
    by_cases hO : keep < now - z1.born
    · simp -implicitDefEqProofs only [fns_3, c3, body, startSt, pkeys, slots, recvL, recv, noH, finish, resPV, outRs, outR, outC, outCs, outMs, go_sem, Nat.reduceShiftRight, Nat.reduceAnd, reduceIte, reduceCtorEq, Nat.reduceEqDiff, Nat.reduceAdd, Nat.reduceMul, Nat.reduceSub, Nat.reduceLT, Nat.reduceLeDiff, Nat.reduceBEq, Nat.reduceBNe, Int.reduceToNat, Int.reduceLT, Int.reduceLE, Int.reduceEq, Int.reduceNe, Int.reduceMul, Int.reduceAdd, Int.reduceSub, Int.reduceNeg, or_self, true_or, or_true, false_or, or_false, Int.natCast_nonneg, Int.toNat_natCast, List.length_map, implies_true, Int.cast_ofNat_Int, List.mem_cons, List.not_mem_nil, forall_eq_or_imp, forall_eq, false_implies, List.replicate_succ, List.replicate_zero, List.set_cons_zero, List.set_cons_succ, List.length_set, Nat.zero_add, Nat.not_succ_le_self, Nat.mul_one, exec_loop, Rst, keys1, keys2, keysB, proms, prom, keepV, freshV, freshC, freshB, liveVer, mpVer, pk, ded, insH, sortH, rnP, rnA, rnM, List.map_nil, St.of, List.map_cons, c3_4, h0, h0n, hA, hAn, hA0, getD_map bkC hz, bkC, w1, hO, g1, g2, g3, g4, g5, g6, g7, g8, g9, g10, g11, g13, k1, k2, k3, k4, k5, k6, k7, k8, k9, k10, k11, k13, wrap64_one]
      exact fin _ _ h7
    · rcases hb.2 with c | ⟨⟨c1, c2⟩, c3⟩
      · exact absurd c hO
      rw [c1] at k10
      simp -implicitDefEqProofs only [fns_3, c3, body, startSt, pkeys, slots, recvL, recv, noH, finish, resPV, outRs, outR, outC, outCs, outMs, go_sem, Nat.reduceShiftRight, Nat.reduceAnd, reduceIte, reduceCtorEq, Nat.reduceEqDiff, Nat.reduceAdd, Nat.reduceMul, Nat.reduceSub, Nat.reduceLT, Nat.reduceLeDiff, Nat.reduceBEq, Nat.reduceBNe, Int.reduceToNat, Int.reduceLT, Int.reduceLE, Int.reduceEq, Int.reduceNe, Int.reduceMul, Int.reduceAdd, Int.reduceSub, Int.reduceNeg, or_self, true_or, or_true, false_or, or_false, Int.natCast_nonneg, Int.toNat_natCast, List.length_map, implies_true, Int.cast_ofNat_Int, List.mem_cons, List.not_mem_nil, forall_eq_or_imp, forall_eq, false_implies, List.replicate_succ, List.replicate_zero, List.set_cons_zero, List.set_cons_succ, List.length_set, Nat.zero_add, Nat.not_succ_le_self, Nat.mul_one, exec_loop, Rst, keys1, keys2, keysB, proms, prom, keepV, freshV, freshC, freshB, liveVer, mpVer, pk, ded, insH, sortH, rnP, rnA, rnM, List.map_nil, St.of, List.map_cons, c3_4, h0, h0n, hA, hAn, hA0, getD_map bkC hz, bkC, w1, hO, c2, c3, t1, g1, g2, g3, g4, g5, g6, g7, g8, g9, g10, g11, g13, k1, k2, k3, k4, k5, k6, k7, k8, k9, k10, k11, k13, wrap64_one]
      exact fin _ _ h7
end Go.Proofs.Ytpfjchnpkolmkaa
