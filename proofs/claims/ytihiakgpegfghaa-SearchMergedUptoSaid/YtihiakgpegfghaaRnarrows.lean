/- SearchNarrows: the equation. Own work. -/
import Derived.Test.YtihiakgpegfghaaRtells
set_option linter.unusedVariables false
set_option linter.unusedSimpArgs false
namespace Go.Pi
theorem rise_drop {l : List Trc} (h : Rise l) {k : Nat} {x : Trc} (hx : l[k]? = some x) : ∀ y ∈ l.drop (k + 1), ltTr x y = true := by
  have h2 : Rise (l.drop k) := h.sublist (List.drop_sublist _ _)
  rw [drop_get hx] at h2
  exact (List.pairwise_cons.1 h2).1
theorem nodup_len {l r : List Trc} (h1 : l.Nodup) (h2 : r.Nodup) (h : ∀ x, x ∈ l ↔ x ∈ r) : l.length = r.length := ((List.perm_ext_iff_of_nodup h1 h2).2 h).length_eq
def spE (out : List Trc) (e : Epi) : List Trc := if (decide (e.spans.length = 0) || out.any fun x => decide (x = e.tr)) = true then out else out ++ [e.tr]
def spB1 (out : List Trc) (b : Blo) : List Trc := b.eps.foldl spE out
theorem noQ_hit (e : Epi) : hitE noQ e = true ↔ e.spans.length ≠ 0 := by
  have h : ∀ s, matchQ noQ s = true := fun s => by simp [matchQ, offS, offD, hasA]
  unfold hitE
  cases e.spans with
  | nil => simp
  | cons s r => simp [h]
theorem spE_fact (out : List Trc) (e : Epi) (h : out.Nodup) : (spE out e).Nodup ∧ (∀ x, x ∈ spE out e ↔ x ∈ out ∨ (hitE noQ e = true ∧ e.tr = x)) ∧ (spE out e).length ≤ out.length + 1 := by
  unfold spE
  split
  · rename_i hc
    refine ⟨h, fun x => ⟨fun hx => .inl hx, ?_⟩, by omega⟩
    rintro (hx | ⟨h1, rfl⟩)
    · exact hx
    · rw [noQ_hit] at h1
      simp only [Bool.or_eq_true, decide_eq_true_eq, List.any_eq_true] at hc
      rcases hc with hc | ⟨y, hy, rfl⟩
      · exact absurd hc h1
      · exact hy
  · rename_i hc
    simp only [Bool.or_eq_true, decide_eq_true_eq, List.any_eq_true, not_or, not_exists, not_and] at hc
    refine ⟨?_, fun x => ?_, by simp⟩
    · rw [List.nodup_append]
      refine ⟨h, by simp, fun a ha b hb => ?_⟩
      simp only [List.mem_cons, List.not_mem_nil, or_false] at hb
      subst hb
      exact hc.2 a ha
    · rw [noQ_hit]
      simp only [List.mem_append, List.mem_cons, List.not_mem_nil, or_false]
      constructor
      · rintro (h | h)
        · exact .inl h
        · exact .inr ⟨hc.1, h.symm⟩
      · rintro (h | ⟨_, h⟩)
        · exact .inl h
        · exact .inr h.symm
theorem spEs_fact : ∀ (l : List Epi) (out : List Trc), out.Nodup → (l.foldl spE out).Nodup ∧ (∀ x, x ∈ l.foldl spE out ↔ x ∈ out ∨ x ∈ hits noQ l) ∧ (l.foldl spE out).length ≤ out.length + l.length
  | [], out, h => ⟨h, fun x => by simp [hits], by simp⟩
  | e :: l, out, h => by
    obtain ⟨g1, g2, g3⟩ := spE_fact out e h
    obtain ⟨h1, h2, h3⟩ := spEs_fact l _ g1
    rw [List.foldl_cons]
    refine ⟨h1, fun x => ?_, by simp only [List.length_cons]; omega⟩
    rw [h2, g2, mem_hits, mem_hits]
    simp only [List.mem_cons]
    constructor
    · rintro ((h | h) | ⟨y, h3, h4⟩)
      · exact .inl h
      · exact .inr ⟨e, .inl rfl, h⟩
      · exact .inr ⟨y, .inr h3, h4⟩
    · rintro (h | ⟨y, rfl | h3, h4⟩)
      · exact .inl (.inl h)
      · exact .inl (.inr h4)
      · exact .inr ⟨y, h3, h4⟩
theorem spBs_fact : ∀ (l : List Blo) (out : List Trc), out.Nodup → (l.foldl spB1 out).Nodup ∧ ∀ x, x ∈ l.foldl spB1 out ↔ x ∈ out ∨ x ∈ raw noQ l
  | [], out, h => ⟨h, fun x => by simp [raw]⟩
  | b :: l, out, h => by
    obtain ⟨g1, g2, g3⟩ := spEs_fact b.eps out h
    obtain ⟨h1, h2⟩ := spBs_fact l _ g1
    rw [List.foldl_cons]
    refine ⟨h1, fun x => (h2 x).trans ?_⟩
    have e : raw noQ (b :: l) = hits noQ b.eps ++ raw noQ l := rfl
    rw [e, List.mem_append, g2, or_assoc]
theorem span_len (l : List Blo) : (l.foldl spB1 []).length = (allT noQ l).length := by
  obtain ⟨h1, h2⟩ := spBs_fact l [] List.nodup_nil
  refine nodup_len h1 (rise_nodup (allT_rise noQ l)) fun x => ?_
  rw [h2, mem_allT]
  simp
/-- Who asks for less finds more. -/
theorem allT_mono {q r : Qry} (l : List Blo) (h : ∀ s, matchQ q s = true → matchQ r s = true) : ∀ x ∈ allT q l, x ∈ allT r l := by
  intro x hx
  rw [mem_allT, mem_raw] at *
  obtain ⟨b, hb, e, he, h1, h2⟩ := hx
  refine ⟨b, hb, e, he, ?_, h2⟩
  unfold hitE at *
  rw [List.any_eq_true] at *
  obtain ⟨s, hs, h3⟩ := h1
  exact ⟨s, hs, h s h3⟩
theorem mq_split {q : Qry} {s : Spn} : matchQ q s = true ↔ (offS q s = false ∧ offD q s = false) ∧ hasA q s.attrs = true := by
  unfold matchQ
  rw [Bool.and_eq_true, Bool.and_eq_true, Bool.not_eq_true', Bool.not_eq_true']
theorem mq_svc {q : Qry} {s : Spn} (h : matchQ q s = true) : matchQ ⟨emp, q.op, q.key, q.val, q.dur, q.err⟩ s = true := by
  rw [mq_split] at *
  refine ⟨⟨?_, h.1.2⟩, h.2⟩
  have a := h.1.1
  unfold offS at a ⊢
  rw [Bool.or_eq_false_iff] at a ⊢
  exact ⟨by simp, a.2⟩
theorem mq_op {q : Qry} {s : Spn} (h : matchQ q s = true) : matchQ ⟨q.svc, emp, q.key, q.val, q.dur, q.err⟩ s = true := by
  rw [mq_split] at *
  refine ⟨⟨?_, h.1.2⟩, h.2⟩
  have a := h.1.1
  unfold offS at a ⊢
  rw [Bool.or_eq_false_iff] at a ⊢
  exact ⟨a.1, by simp⟩
theorem mq_dur {q : Qry} {s : Spn} (h : matchQ q s = true) : matchQ ⟨q.svc, q.op, q.key, q.val, 0, q.err⟩ s = true := by
  rw [mq_split] at *
  refine ⟨⟨h.1.1, ?_⟩, h.2⟩
  have a := h.1.2
  unfold offD at a ⊢
  rw [Bool.or_eq_false_iff] at a ⊢
  exact ⟨by simp, a.2⟩
theorem mq_err {q : Qry} {s : Spn} (h : matchQ q s = true) : matchQ ⟨q.svc, q.op, q.key, q.val, q.dur, false⟩ s = true := by
  rw [mq_split] at *
  refine ⟨⟨h.1.1, ?_⟩, h.2⟩
  have a := h.1.2
  unfold offD at a ⊢
  rw [Bool.or_eq_false_iff] at a ⊢
  exact ⟨a.1, by simp⟩
end Go.Pi
namespace Go.Proofs.Ytihiakgpegfghaa
open Go Go.Pi
set_option maxHeartbeats 2000000
set_option maxRecDepth 10000
theorem WithinL (l1 l2 : Bool) (a b : List Trc) (ha : Rise a) (hb : Rise b) (hMa : (a.length : Int) ≤ 1000000000) (hMb : (b.length : Int) ≤ 1000000000) : ∀ (n i k : Nat), i + n = b.length → k ≤ a.length → (∀ x ∈ a.drop k, x ∈ b.drop i) →
   ∃ f H, Pi.Loop (exec cx (Cal cx) c18_0) (Rst Try.prog ([(0, none), (1, none), (5, none), (6, none)], [])) (St.mk (sF [(0, .sh l1 (a.map trC)), (1, .sh l2 (b.map trC)), (5, .s (.int .i64 k)), (6, .s (.int .i64 i))]) (hF [])) = some (.ex 0, St.mk f H) ∧ f 0 = .sh l1 (a.map trC) ∧ f 5 = .s (.int .i64 a.length) := by
  intro n
  induction n with
  | zero =>
    intro i k h hk hs
    have h0 : ¬ (i : Int) < (b.length : Int) := by omega
    have e : k = a.length := by
      by_cases hlt : k < a.length
      · obtain ⟨x, hx⟩ := get_of_lt (l := a) (i := k) hlt
        have := hs x (by rw [drop_get hx]; exact List.mem_cons_self)
        rw [drop_end (l := b) (by omega)] at this
        cases this
      · omega
    subst e
    rw [Loop_eq]
    simp -implicitDefEqProofs only [fns_18, c18, go_sem, Nat.reduceShiftRight, Nat.reduceAnd, reduceIte, reduceCtorEq, Nat.reduceEqDiff, Nat.reduceAdd, Nat.reduceMul, Nat.reduceSub, Nat.reduceLT, Nat.reduceLeDiff, Nat.reduceBEq, Nat.reduceBNe, Int.reduceToNat, Int.reduceLT, Int.reduceLE, Int.reduceEq, Int.reduceNe, Int.reduceMul, Int.reduceAdd, Int.reduceSub, Int.reduceNeg, c18_0, h0]
    exact ⟨_, _, rfl, rfl, rfl⟩
  | succ n ih =>
    intro i k h hk hs
    have h0 : (i : Int) < (b.length : Int) := by omega
    have h8 : IntKind.i64.wrap ((i : Int) + 1) = ((i + 1 : Nat) : Int) := by rw [wrap64_id] <;> omega
    by_cases hlt : (k : Int) < (a.length : Int)
    · have h9 : IntKind.i64.wrap ((k : Int) + 1) = ((k + 1 : Nat) : Int) := by rw [wrap64_id] <;> omega
      obtain ⟨x, hx⟩ := get_of_lt (l := a) (i := k) (by omega)
      obtain ⟨y, hy⟩ := get_of_lt (l := b) (i := i) (by omega)
      have hra := rise_drop ha hx
      have hrb := rise_drop hb hy
      rw [Loop_eq]
      by_cases hxy : x = y
      · subst hxy
        have h7 := ih (i + 1) (k + 1) (by omega) (by omega) (fun z hz => by
          have h1 := hs z (by rw [drop_get hx]; exact List.mem_cons_of_mem _ hz)
          rw [drop_get hy] at h1
          rcases List.mem_cons.1 h1 with e | e
          · subst e; exact absurd (hra z hz) (lt_irr z)
          · exact e)
        simp -implicitDefEqProofs only [fns_18, c18, go_sem, Nat.reduceShiftRight, Nat.reduceAnd, reduceIte, reduceCtorEq, Nat.reduceEqDiff, Nat.reduceAdd, Nat.reduceMul, Nat.reduceSub, Nat.reduceLT, Nat.reduceLeDiff, Nat.reduceBEq, Nat.reduceBNe, Int.reduceToNat, Int.reduceLT, Int.reduceLE, Int.reduceEq, Int.reduceNe, Int.reduceMul, Int.reduceAdd, Int.reduceSub, Int.reduceNeg, c18_0, h0, hlt, getD_map trC hx, getD_map trC hy, trC, h8, h9]
        exact h7
      · have hne : (decide ((x.hi : Int) = y.hi) && decide ((x.lo : Int) = y.lo)) = false := by
          rw [trNe]; simpa using hxy
        have h7 := ih (i + 1) k (by omega) hk (fun z hz => by
          have hx1 : x ∈ b.drop (i + 1) := by
            have h1 := hs x (by rw [drop_get hx]; exact List.mem_cons_self)
            rw [drop_get hy] at h1
            rcases List.mem_cons.1 h1 with e | e
            · exact absurd e hxy
            · exact e
          have h1 := hs z hz
          rw [drop_get hy] at h1
          rcases List.mem_cons.1 h1 with e | e
          · subst e
            rw [drop_get hx] at hz
            rcases List.mem_cons.1 hz with e | e
            · exact absurd e.symm hxy
            · exact absurd (lt_trans (hra z e) (hrb x hx1)) (lt_irr x)
          · exact e)
        simp -implicitDefEqProofs only [fns_18, c18, go_sem, Nat.reduceShiftRight, Nat.reduceAnd, reduceIte, reduceCtorEq, Nat.reduceEqDiff, Nat.reduceAdd, Nat.reduceMul, Nat.reduceSub, Nat.reduceLT, Nat.reduceLeDiff, Nat.reduceBEq, Nat.reduceBNe, Int.reduceToNat, Int.reduceLT, Int.reduceLE, Int.reduceEq, Int.reduceNe, Int.reduceMul, Int.reduceAdd, Int.reduceSub, Int.reduceNeg, c18_0, h0, hlt, getD_map trC hx, getD_map trC hy, trC, hne, h8]
        exact h7
    · have e : k = a.length := by omega
      subst e
      rw [Loop_eq]
      simp -implicitDefEqProofs only [fns_18, c18, go_sem, Nat.reduceShiftRight, Nat.reduceAnd, reduceIte, reduceCtorEq, Nat.reduceEqDiff, Nat.reduceAdd, Nat.reduceMul, Nat.reduceSub, Nat.reduceLT, Nat.reduceLeDiff, Nat.reduceBEq, Nat.reduceBNe, Int.reduceToNat, Int.reduceLT, Int.reduceLE, Int.reduceEq, Int.reduceNe, Int.reduceMul, Int.reduceAdd, Int.reduceSub, Int.reduceNeg, c18_0, h0, hlt]
      exact ⟨_, _, rfl, rfl, rfl⟩
theorem Within (l1 l2 : Bool) (a b : List Trc) (ha : Rise a) (hb : Rise b) (hMa : (a.length : Int) ≤ 1000000000) (hMb : (b.length : Int) ≤ 1000000000) (hs : ∀ x ∈ a, x ∈ b) : Cal cx 18 [.sh l1 (a.map trC), .sh l2 (b.map trC)] = some ([.s (.bool true)], []) := by
  obtain ⟨f, H, g1, g2, g3⟩ := WithinL l1 l2 a b ha hb hMa hMb b.length 0 0 (by omega) (by omega) (by simpa using hs)
  simp only [Int.cast_ofNat_Int] at g1
  rw [Cal_eq]
  simp -implicitDefEqProofs only [fns_18, c18, go_sem, Nat.reduceShiftRight, Nat.reduceAnd, reduceIte, reduceCtorEq, Nat.reduceEqDiff, Nat.reduceAdd, Nat.reduceMul, Nat.reduceSub, Nat.reduceLT, Nat.reduceLeDiff, Nat.reduceBEq, Nat.reduceBNe, Int.reduceToNat, Int.reduceLT, Int.reduceLE, Int.reduceEq, Int.reduceNe, Int.reduceMul, Int.reduceAdd, Int.reduceSub, Int.reduceNeg, g1, g2, g3]
theorem SpanT (ln : Bool) (l : List Blo) (out : List Trc) (i k : Nat) (e : Epi) (hM : (out.length : Int) ≤ 1000000000) : ∀ (n j : Nat) (t : Bool), j + n = out.length →
   ∃ f H, Pi.Loop (exec cx (Cal cx) c19_4) (Rst Try.prog ([(0, none), (3, some 27), (4, none), (5, none), (6, none), (7, none), (8, none)], [])) (St.mk (sF [(0, .sh ln (l.map bkC)), (3, .sl 500003 0 0 out.length), (4, .s (.int .i64 i)), (5, .s (.int .i64 k)), (6, .ad 6 0 0 0), (7, .s (.bool t)), (8, .s (.int .i64 j))]) (hF [(6, eRow1 e), (500003, tRow out)])) = some (.ex 4, St.mk f H) ∧
     f 0 = .sh ln (l.map bkC) ∧ f 3 = .sl 500003 0 0 out.length ∧ f 4 = .s (.int .i64 i) ∧ f 5 = .s (.int .i64 k) ∧ f 6 = .ad 6 0 0 0 ∧ f 7 = .s (.bool (t || (out.drop j).any fun x => decide (x = e.tr))) ∧ H 6 = eRow1 e ∧ H 500003 = tRow out ∧ H 58 = none := by
  intro n
  induction n with
  | zero =>
    intro j t h
    have h0 : ¬ (j : Int) < (out.length : Int) := by omega
    rw [Loop_eq, drop_end (by omega)]
    simp -implicitDefEqProofs only [fns_19, c19, go_sem, Nat.reduceShiftRight, Nat.reduceAnd, reduceIte, reduceCtorEq, Nat.reduceEqDiff, Nat.reduceAdd, Nat.reduceMul, Nat.reduceSub, Nat.reduceLT, Nat.reduceLeDiff, Nat.reduceBEq, Nat.reduceBNe, Int.reduceToNat, Int.reduceLT, Int.reduceLE, Int.reduceEq, Int.reduceNe, Int.reduceMul, Int.reduceAdd, Int.reduceSub, Int.reduceNeg, c19_4, h0, List.any_nil, Bool.or_false]
    exact ⟨_, _, rfl, rfl, rfl, rfl, rfl, rfl, rfl, rfl, rfl, rfl⟩
  | succ n ih =>
    intro j t h
    have h0 : (j : Int) < (out.length : Int) := by omega
    have h0n : j < out.length := by omega
    obtain ⟨x, hx⟩ := get_of_lt (l := out) (i := j) (by omega)
    have h8 : IntKind.i64.wrap ((j : Int) + 1) = ((j + 1 : Nat) : Int) := by rw [wrap64_id] <;> omega
    rw [Loop_eq, drop_get hx, List.any_cons, ← Bool.or_assoc]
    cases t
    · have h7 := ih (j + 1) (decide (x = e.tr)) (by omega)
      have hne := trNe x e.tr
      rw [Bool.false_or]
      simp only [eRow1, epC] at h7 ⊢
      simp -implicitDefEqProofs only [fns_19, c19, go_sem, Nat.reduceShiftRight, Nat.reduceAnd, reduceIte, reduceCtorEq, Nat.reduceEqDiff, Nat.reduceAdd, Nat.reduceMul, Nat.reduceSub, Nat.reduceLT, Nat.reduceLeDiff, Nat.reduceBEq, Nat.reduceBNe, Int.reduceToNat, Int.reduceLT, Int.reduceLE, Int.reduceEq, Int.reduceNe, Int.reduceMul, Int.reduceAdd, Int.reduceSub, Int.reduceNeg, c19_4, h0, h0n, getD_map trC hx, trC, hne, h8]
      exact h7
    · have h7 := ih (j + 1) true (by omega)
      rw [Bool.true_or]
      simp only [eRow1, epC] at h7 ⊢
      simp -implicitDefEqProofs only [fns_19, c19, go_sem, Nat.reduceShiftRight, Nat.reduceAnd, reduceIte, reduceCtorEq, Nat.reduceEqDiff, Nat.reduceAdd, Nat.reduceMul, Nat.reduceSub, Nat.reduceLT, Nat.reduceLeDiff, Nat.reduceBEq, Nat.reduceBNe, Int.reduceToNat, Int.reduceLT, Int.reduceLE, Int.reduceEq, Int.reduceNe, Int.reduceMul, Int.reduceAdd, Int.reduceSub, Int.reduceNeg, c19_4, h0, h0n, getD_map trC hx, trC, h8]
      exact h7
theorem SpanIn (ln : Bool) (l : List Blo) (i : Nat) (b : Blo) (hb : l[i]? = some b) (hM : (b.eps.length : Int) ≤ 1048576) (hL : (l.length : Int) ≤ 1048576) : ∀ (n k : Nat) (out : List Trc), k + n = b.eps.length → out.length + n ≤ 100000000 → out.Nodup →
   ∃ f H, Pi.Loop (exec cx (Cal cx) c19_2) (Rst Try.prog ([(0, none), (3, some 27), (4, none), (5, none)], [])) (St.mk (sF [(0, .sh ln (l.map bkC)), (3, .sl 500003 0 0 out.length), (4, .s (.int .i64 i)), (5, .s (.int .i64 k))]) (hF [(500003, tRow out)])) = some (.ex 2, St.mk f H) ∧
     f 0 = .sh ln (l.map bkC) ∧ f 3 = .sl 500003 0 0 ((b.eps.drop k).foldl spE out).length ∧ f 4 = .s (.int .i64 i) ∧ H 500003 = tRow ((b.eps.drop k).foldl spE out) := by
  have hi : (i : Int) < (l.length : Int) := by
    obtain ⟨h, _⟩ := List.getElem?_eq_some_iff.1 hb
    omega
  intro n
  induction n with
  | zero =>
    intro k out h _ _
    have h0 : ¬ (k : Int) < (b.eps.length : Int) := by omega
    rw [Loop_eq, drop_end (by omega)]
    simp -implicitDefEqProofs only [fns_19, c19, go_sem, Nat.reduceShiftRight, Nat.reduceAnd, reduceIte, reduceCtorEq, Nat.reduceEqDiff, Nat.reduceAdd, Nat.reduceMul, Nat.reduceSub, Nat.reduceLT, Nat.reduceLeDiff, Nat.reduceBEq, Nat.reduceBNe, Int.reduceToNat, Int.reduceLT, Int.reduceLE, Int.reduceEq, Int.reduceNe, Int.reduceMul, Int.reduceAdd, Int.reduceSub, Int.reduceNeg, c19_2, h0, hi, getD_map bkC hb, bkC, List.foldl_nil]
    exact ⟨_, _, rfl, rfl, rfl, rfl, rfl⟩
  | succ n ih =>
    intro k out h ho hn
    have h0 : (k : Int) < (b.eps.length : Int) := by omega
    obtain ⟨x, hx⟩ := get_of_lt (l := b.eps) (i := k) (by omega)
    have h8 : IntKind.i64.wrap ((k : Int) + 1) = ((k + 1 : Nat) : Int) := by rw [wrap64_id] <;> omega
    obtain ⟨q1, q2, q3⟩ := spE_fact out x hn
    have h7 := ih (k + 1) (spE out x) (by omega) (by omega) q1
    have hz : decide ((x.spans.length : Int) = 0) = decide (x.spans.length = 0) := by rw [Bool.eq_iff_iff]; simp
    obtain ⟨f1, H1, g1, g2, g3, g4, g5, g6, g7, g8, g9, g10⟩ := SpanT ln l out i k x (by omega) out.length 0 (decide (x.spans.length = 0)) (by omega)
    simp only [Int.cast_ofNat_Int, List.drop_zero, tRow, eRow1, epC] at g1 g7 g8 g9
    have b1 : (out ++ [x.tr]).length * 16 ≤ 140737488355328 := by simp; omega
    rw [Loop_eq, drop_get hx, List.foldl_cons]
    unfold spE at h7 ⊢
    cases hc : (decide (x.spans.length = 0) || out.any fun y => decide (y = x.tr))
    · rw [hc] at g7 h7
      simp only [Bool.false_eq_true, if_false] at h7 ⊢
      simp -implicitDefEqProofs only [fns_19, c19, go_sem, Nat.reduceShiftRight, Nat.reduceAnd, reduceIte, reduceCtorEq, Nat.reduceEqDiff, Nat.reduceAdd, Nat.reduceMul, Nat.reduceSub, Nat.reduceLT, Nat.reduceLeDiff, Nat.reduceBEq, Nat.reduceBNe, Int.reduceToNat, Int.reduceLT, Int.reduceLE, Int.reduceEq, Int.reduceNe, Int.reduceMul, Int.reduceAdd, Int.reduceSub, Int.reduceNeg, c19_2, h0, hi, getD_map bkC hb, bkC, getD_map epC hx, epC, hz, g1, g2, g3, g4, g5, g6, g7, g8, g9, g10, b1, h8]
      exact h7
    · rw [hc] at g7 h7
      simp only [if_true] at h7 ⊢
      simp -implicitDefEqProofs only [fns_19, c19, go_sem, Nat.reduceShiftRight, Nat.reduceAnd, reduceIte, reduceCtorEq, Nat.reduceEqDiff, Nat.reduceAdd, Nat.reduceMul, Nat.reduceSub, Nat.reduceLT, Nat.reduceLeDiff, Nat.reduceBEq, Nat.reduceBNe, Int.reduceToNat, Int.reduceLT, Int.reduceLE, Int.reduceEq, Int.reduceNe, Int.reduceMul, Int.reduceAdd, Int.reduceSub, Int.reduceNeg, c19_2, h0, hi, getD_map bkC hb, bkC, getD_map epC hx, epC, hz, g1, g2, g3, g4, g5, g6, g7, g8, g9, g10, b1, h8]
      exact h7
theorem SpanOut (ln : Bool) (l : List Blo) (hM : (l.length : Int) ≤ 1000) (hB : ∀ b ∈ l, b.eps.length ≤ 2000) : ∀ (n i : Nat) (out : List Trc), i + n = l.length → out.length + n * 2000 ≤ 10000000 → out.Nodup →
   ∃ f H, Pi.Loop (exec cx (Cal cx) c19_0) (Rst Try.prog ([(0, none), (3, some 27), (4, none)], [])) (St.mk (sF [(0, .sh ln (l.map bkC)), (3, .sl 500003 0 0 out.length), (4, .s (.int .i64 i))]) (hF [(500003, tRow out)])) = some (.ex 0, St.mk f H) ∧
     f 3 = .sl 500003 0 0 ((l.drop i).foldl spB1 out).length ∧ H 500003 = tRow ((l.drop i).foldl spB1 out) := by
  intro n
  induction n with
  | zero =>
    intro i out h _ _
    have h0 : ¬ (i : Int) < (l.length : Int) := by omega
    rw [Loop_eq, drop_end (by omega)]
    simp -implicitDefEqProofs only [fns_19, c19, go_sem, Nat.reduceShiftRight, Nat.reduceAnd, reduceIte, reduceCtorEq, Nat.reduceEqDiff, Nat.reduceAdd, Nat.reduceMul, Nat.reduceSub, Nat.reduceLT, Nat.reduceLeDiff, Nat.reduceBEq, Nat.reduceBNe, Int.reduceToNat, Int.reduceLT, Int.reduceLE, Int.reduceEq, Int.reduceNe, Int.reduceMul, Int.reduceAdd, Int.reduceSub, Int.reduceNeg, c19_0, h0, List.foldl_nil]
    exact ⟨_, _, rfl, rfl, rfl⟩
  | succ n ih =>
    intro i out h ho hn
    have h0 : (i : Int) < (l.length : Int) := by omega
    obtain ⟨x, hx⟩ := get_of_lt (l := l) (i := i) (by omega)
    have h8 : IntKind.i64.wrap ((i : Int) + 1) = ((i + 1 : Nat) : Int) := by rw [wrap64_id] <;> omega
    have hb := hB x (mem_get hx)
    obtain ⟨f, H, g1, g2, g3, g4, g5⟩ := SpanIn ln l i x hx (by omega) (by omega) x.eps.length 0 out (by omega) (by omega) hn
    obtain ⟨q1, q2, q3⟩ := spEs_fact x.eps out hn
    have h7 := ih (i + 1) (spB1 out x) (by omega) (by unfold spB1; omega) q1
    rw [Loop_eq, drop_get hx, List.foldl_cons]
    simp only [Int.cast_ofNat_Int, List.drop_zero, tRow] at g1 g3 g5
    unfold spB1 at h7 ⊢
    simp -implicitDefEqProofs only [fns_19, c19, go_sem, Nat.reduceShiftRight, Nat.reduceAnd, reduceIte, reduceCtorEq, Nat.reduceEqDiff, Nat.reduceAdd, Nat.reduceMul, Nat.reduceSub, Nat.reduceLT, Nat.reduceLeDiff, Nat.reduceBEq, Nat.reduceBNe, Int.reduceToNat, Int.reduceLT, Int.reduceLE, Int.reduceEq, Int.reduceNe, Int.reduceMul, Int.reduceAdd, Int.reduceSub, Int.reduceNeg, c19_0, h0, g1, g2, g3, g4, g5, h8]
    exact h7
theorem Spanned (ln : Bool) (l : List Blo) (hM : (l.length : Int) ≤ 1000) (hB : ∀ b ∈ l, b.eps.length ≤ 2000) : Cal cx 19 [.sh ln (l.map bkC)] = some ([.s (.int .i64 (allT noQ l).length)], []) := by
  obtain ⟨f, H, g1, g2, g3⟩ := SpanOut ln l hM hB l.length 0 [] (by omega) (by simp; omega) List.nodup_nil
  simp only [Int.cast_ofNat_Int, List.drop_zero, List.map_nil, List.length_nil, tRow] at g1 g2 g3
  rw [span_len] at g2
  rw [Cal_eq]
  simp -implicitDefEqProofs only [fns_19, c19, go_sem, Nat.reduceShiftRight, Nat.reduceAnd, reduceIte, reduceCtorEq, Nat.reduceEqDiff, Nat.reduceAdd, Nat.reduceMul, Nat.reduceSub, Nat.reduceLT, Nat.reduceLeDiff, Nat.reduceBEq, Nat.reduceBNe, Int.reduceToNat, Int.reduceLT, Int.reduceLE, Int.reduceEq, Int.reduceNe, Int.reduceMul, Int.reduceAdd, Int.reduceSub, Int.reduceNeg, g1, g2, g3]
theorem SearchNarrows (ln : Bool) (l : List Blo) (q : Qry) (w : Int) (hM : (l.length : Int) ≤ 1048576) (hB : ∀ b ∈ l, b.eps.length ≤ 1048576) (hE : ∀ b ∈ l, Eps b.eps) : Cal cx 4 [.sh ln (l.map bkC), .ag (qC q), .s (.int .i64 w)] = some ([.s (.bool true)], []) := by
  have h1 := alive
  have h2 := FewB ln l hM hB hE
  have h3 := FewQ q
  simp only [qC] at h3
  rw [Cal_eq]
  cases hw : fewB l
  · simp -implicitDefEqProofs only [fns_4, c4, go_sem, Nat.reduceShiftRight, Nat.reduceAnd, reduceIte, reduceCtorEq, Nat.reduceEqDiff, Nat.reduceAdd, Nat.reduceMul, Nat.reduceSub, Nat.reduceLT, Nat.reduceLeDiff, Nat.reduceBEq, Nat.reduceBNe, Int.reduceToNat, Int.reduceLT, Int.reduceLE, Int.reduceEq, Int.reduceNe, Int.reduceMul, Int.reduceAdd, Int.reduceSub, Int.reduceNeg, qC, h1, h2, hw]
  cases hQ : fewQ q
  · simp -implicitDefEqProofs only [fns_4, c4, go_sem, Nat.reduceShiftRight, Nat.reduceAnd, reduceIte, reduceCtorEq, Nat.reduceEqDiff, Nat.reduceAdd, Nat.reduceMul, Nat.reduceSub, Nat.reduceLT, Nat.reduceLeDiff, Nat.reduceBEq, Nat.reduceBNe, Int.reduceToNat, Int.reduceLT, Int.reduceLE, Int.reduceEq, Int.reduceNe, Int.reduceMul, Int.reduceAdd, Int.reduceSub, Int.reduceNeg, qC, h1, h2, hw, h3, hQ]
  obtain ⟨b1, b2, b3⟩ := few_bounds hw
  have hB2 : ∀ b ∈ l, b.eps.length ≤ 2000 := fun b hb => by have := b2 b hb; omega
  have f1 : ∀ r, Cal cx 14 [.sh ln (l.map bkC), .ag (qC r), .s (.int .i64 1000)] = some ([.ow 27 ((allT r l).map trC)], []) := fun r => by
    have := FindP ln l r 1000 (by omega) hB2 hE
    rwa [findT_all (b3 r)] at this
  have sp := Spanned ln l (by omega) hB2
  have w2 : ∀ r, Cal cx 18 [.sh true ((allT r l).map trC), .sh true ((allT noQ l).map trC)] = some ([.s (.bool true)], []) := fun r =>
    Within true true _ _ (allT_rise r l) (allT_rise noQ l) (by have := b3 r; omega) (by have := b3 noQ; omega) (allT_mono l fun s _ => by simp [matchQ, offS, offD, hasA])
  have w1 : ∀ r, (∀ s, matchQ q s = true → matchQ r s = true) → Cal cx 18 [.sh true ((allT q l).map trC), .sh true ((allT r l).map trC)] = some ([.s (.bool true)], []) := fun r h =>
    Within true true _ _ (allT_rise q l) (allT_rise r l) (by have := b3 q; omega) (by have := b3 r; omega) (allT_mono l h)
  have fq := f1 q
  have fn := f1 noQ
  simp only [qC, noQ] at fq fn sp w2
  by_cases c0 : andI .i64 w 3 = 0
  · have fr := f1 ⟨emp, q.op, q.key, q.val, q.dur, q.err⟩
    have ww := w1 ⟨emp, q.op, q.key, q.val, q.dur, q.err⟩ (fun s h => mq_svc h)
    have w3 := w2 ⟨emp, q.op, q.key, q.val, q.dur, q.err⟩
    simp only [qC] at fr
    simp -implicitDefEqProofs only [fns_4, c4, go_sem, Nat.reduceShiftRight, Nat.reduceAnd, reduceIte, reduceCtorEq, Nat.reduceEqDiff, Nat.reduceAdd, Nat.reduceMul, Nat.reduceSub, Nat.reduceLT, Nat.reduceLeDiff, Nat.reduceBEq, Nat.reduceBNe, Int.reduceToNat, Int.reduceLT, Int.reduceLE, Int.reduceEq, Int.reduceNe, Int.reduceMul, Int.reduceAdd, Int.reduceSub, Int.reduceNeg, qC, h1, h2, hw, h3, hQ, c0, fq, fn, fr, ww, w3, sp]
  by_cases c1 : andI .i64 w 3 = 1
  · have fr := f1 ⟨q.svc, emp, q.key, q.val, q.dur, q.err⟩
    have ww := w1 ⟨q.svc, emp, q.key, q.val, q.dur, q.err⟩ (fun s h => mq_op h)
    have w3 := w2 ⟨q.svc, emp, q.key, q.val, q.dur, q.err⟩
    simp only [qC] at fr
    simp -implicitDefEqProofs only [fns_4, c4, go_sem, Nat.reduceShiftRight, Nat.reduceAnd, reduceIte, reduceCtorEq, Nat.reduceEqDiff, Nat.reduceAdd, Nat.reduceMul, Nat.reduceSub, Nat.reduceLT, Nat.reduceLeDiff, Nat.reduceBEq, Nat.reduceBNe, Int.reduceToNat, Int.reduceLT, Int.reduceLE, Int.reduceEq, Int.reduceNe, Int.reduceMul, Int.reduceAdd, Int.reduceSub, Int.reduceNeg, qC, h1, h2, hw, h3, hQ, c1, fq, fn, fr, ww, w3, sp]
  by_cases c2 : andI .i64 w 3 = 2
  · have fr := f1 ⟨q.svc, q.op, q.key, q.val, 0, q.err⟩
    have ww := w1 ⟨q.svc, q.op, q.key, q.val, 0, q.err⟩ (fun s h => mq_dur h)
    have w3 := w2 ⟨q.svc, q.op, q.key, q.val, 0, q.err⟩
    simp only [qC] at fr
    simp -implicitDefEqProofs only [fns_4, c4, go_sem, Nat.reduceShiftRight, Nat.reduceAnd, reduceIte, reduceCtorEq, Nat.reduceEqDiff, Nat.reduceAdd, Nat.reduceMul, Nat.reduceSub, Nat.reduceLT, Nat.reduceLeDiff, Nat.reduceBEq, Nat.reduceBNe, Int.reduceToNat, Int.reduceLT, Int.reduceLE, Int.reduceEq, Int.reduceNe, Int.reduceMul, Int.reduceAdd, Int.reduceSub, Int.reduceNeg, qC, h1, h2, hw, h3, hQ, c2, fq, fn, fr, ww, w3, sp]
  by_cases c3 : andI .i64 w 3 = 3
  · have fr := f1 ⟨q.svc, q.op, q.key, q.val, q.dur, false⟩
    have ww := w1 ⟨q.svc, q.op, q.key, q.val, q.dur, false⟩ (fun s h => mq_err h)
    have w3 := w2 ⟨q.svc, q.op, q.key, q.val, q.dur, false⟩
    simp only [qC] at fr
    simp -implicitDefEqProofs only [fns_4, c4, go_sem, Nat.reduceShiftRight, Nat.reduceAnd, reduceIte, reduceCtorEq, Nat.reduceEqDiff, Nat.reduceAdd, Nat.reduceMul, Nat.reduceSub, Nat.reduceLT, Nat.reduceLeDiff, Nat.reduceBEq, Nat.reduceBNe, Int.reduceToNat, Int.reduceLT, Int.reduceLE, Int.reduceEq, Int.reduceNe, Int.reduceMul, Int.reduceAdd, Int.reduceSub, Int.reduceNeg, qC, h1, h2, hw, h3, hQ, c3, fq, fn, fr, ww, w3, sp]
  have ww := w1 q (fun s h => h)
  have w3 := w2 q
  simp -implicitDefEqProofs only [fns_4, c4, go_sem, Nat.reduceShiftRight, Nat.reduceAnd, reduceIte, reduceCtorEq, Nat.reduceEqDiff, Nat.reduceAdd, Nat.reduceMul, Nat.reduceSub, Nat.reduceLT, Nat.reduceLeDiff, Nat.reduceBEq, Nat.reduceBNe, Int.reduceToNat, Int.reduceLT, Int.reduceLE, Int.reduceEq, Int.reduceNe, Int.reduceMul, Int.reduceAdd, Int.reduceSub, Int.reduceNeg, qC, h1, h2, hw, h3, hQ, c0, c1, c2, c3, fq, fn, ww, w3, sp]
end Go.Proofs.Ytihiakgpegfghaa
