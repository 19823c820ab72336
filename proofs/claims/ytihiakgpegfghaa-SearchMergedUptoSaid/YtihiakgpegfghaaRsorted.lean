/- Searching: rising lists; the program's list is the reference's. Own work. -/
import Derived.Test.YtihiakgpegfghaaRfindr2
set_option linter.unusedVariables false
set_option linter.unusedSimpArgs false
namespace Go.Pi
def Rise (l : List Trc) : Prop := l.Pairwise fun a b => ltTr a b = true
theorem lt_irr (a : Trc) : ¬ ltTr a a = true := by rw [ltTr_iff]; omega
theorem lt_trans {a b c : Trc} (h1 : ltTr a b = true) (h2 : ltTr b c = true) : ltTr a c = true := by rw [ltTr_iff] at *; omega
theorem lt_or {a b : Trc} (h1 : ¬ ltTr a b = true) (h2 : a ≠ b) : ltTr b a = true := by
  rw [ltTr_iff] at *
  cases a; cases b
  simp only [ne_eq, Trc.mk.injEq] at *
  omega
/-- Two rising lists of the same are one. -/
theorem rise_eq : ∀ {l r : List Trc}, Rise l → Rise r → (∀ x, x ∈ l ↔ x ∈ r) → l = r
  | [], [], _, _, _ => rfl
  | [], b :: r, _, _, h => absurd ((h b).2 List.mem_cons_self) (by simp)
  | a :: l, [], _, _, h => absurd ((h a).1 List.mem_cons_self) (by simp)
  | a :: l, b :: r, hl, hr, h => by
    have hl' := List.pairwise_cons.1 hl
    have hr' := List.pairwise_cons.1 hr
    have hab : a = b := by
      rcases List.mem_cons.1 ((h a).1 List.mem_cons_self) with e | e
      · exact e
      · rcases List.mem_cons.1 ((h b).2 List.mem_cons_self) with e2 | e2
        · exact e2.symm
        · exact absurd (lt_trans (hl'.1 b e2) (hr'.1 a e)) (lt_irr a)
    subst hab
    congr 1
    refine rise_eq hl'.2 hr'.2 fun x => ⟨fun hx => ?_, fun hx => ?_⟩
    · rcases List.mem_cons.1 ((h x).1 (List.mem_cons_of_mem _ hx)) with e | e
      · subst e; exact absurd (hl'.1 x hx) (lt_irr x)
      · exact e
    · rcases List.mem_cons.1 ((h x).2 (List.mem_cons_of_mem _ hx)) with e | e
      · subst e; exact absurd (hr'.1 x hx) (lt_irr x)
      · exact e
theorem rise_nodup {l : List Trc} (h : Rise l) : l.Nodup := h.imp fun {a b} hab e => by subst e; exact lt_irr a hab
/-! Sorted, and each once. -/
theorem mem_dd {x : Trc} : ∀ {l : List Trc}, x ∈ dd l ↔ x ∈ l
  | [] => by simp [dd]
  | [a] => by simp [dd]
  | a :: b :: r => by
    have ih := mem_dd (x := x) (l := b :: r)
    unfold dd
    split
    · rename_i h
      subst h
      rw [ih]
      simp
    · simp only [List.mem_cons] at ih ⊢
      rw [ih]
theorem dd_rise : ∀ {l : List Trc}, l.Pairwise (fun a b => leTr a b = true) → Rise (dd l)
  | [], _ => by simp [dd, Rise]
  | [a], _ => by simp [dd, Rise]
  | a :: b :: r, h => by
    have h1 := List.pairwise_cons.1 h
    have ih := dd_rise h1.2
    unfold dd
    split
    · exact ih
    · rename_i hne
      refine List.pairwise_cons.2 ⟨fun x hx => ?_, ih⟩
      have hx' := mem_dd.1 hx
      have hab : ltTr a b = true := by
        have := h1.1 b List.mem_cons_self
        unfold leTr at this
        refine lt_or ?_ (fun e => hne e.symm)
        simpa using this
      rcases List.mem_cons.1 hx' with e | e
      · subst e; exact hab
      · have h2 := (List.pairwise_cons.1 h1.2).1 x e
        unfold leTr at h2
        by_cases hbx : b = x
        · subst hbx; exact hab
        · exact lt_trans hab (lt_or (by simpa using h2) (fun e => hbx e.symm))
theorem allT_rise (q : Qry) (l : List Blo) : Rise (allT q l) := by
  refine dd_rise (List.pairwise_mergeSort ?_ ?_ _)
  · intro a b c h1 h2
    unfold leTr at *
    simp only [Bool.not_eq_true', Bool.eq_false_iff, ne_eq, ltTr_iff] at *
    omega
  · intro a b
    unfold leTr
    simp only [Bool.or_eq_true, Bool.not_eq_true', Bool.eq_false_iff, ne_eq, ltTr_iff]
    omega
theorem mem_allT {q : Qry} {l : List Blo} {x : Trc} : x ∈ allT q l ↔ x ∈ raw q l := by
  unfold allT
  rw [mem_dd, List.mem_mergeSort]
/-! One put in. -/
theorem lead_lt {t : Trc} : ∀ {l : List Trc}, ∀ x ∈ l.take (leadT t l), ltTr x t = true
  | [], x, h => by simp [leadT] at h
  | a :: r, x, h => by
    unfold leadT at h
    split at h
    · rename_i ha
      rw [List.take_succ_cons] at h
      rcases List.mem_cons.1 h with e | e
      · subst e; exact ha
      · exact lead_lt x e
    · simp at h
theorem lead_stop {t : Trc} : ∀ {l : List Trc} {x : Trc}, l[leadT t l]? = some x → ¬ ltTr x t = true
  | [], x, h => by simp at h
  | a :: r, x, h => by
    unfold leadT at h
    split at h
    · rw [List.getElem?_cons_succ] at h; exact lead_stop h
    · rename_i ha
      simp at h
      subst h
      exact ha
theorem insT_rise {t : Trc} {l : List Trc} (h : Rise l) : Rise (insT t l) ∧ ∀ x, x ∈ insT t l ↔ x = t ∨ x ∈ l := by
  unfold insT
  have hle := leadT_le t l
  have hlt := lead_lt (t := t) (l := l)
  have hst : ∀ x, l[leadT t l]? = some x → ¬ ltTr x t = true := fun x hx => lead_stop hx
  generalize leadT t l = A at hle hlt hst ⊢
  split
  · rename_i hc
    have hsplit : l.take A ++ l.drop A = l := List.take_append_drop A l
    have hdrop : ∀ x ∈ l.drop A, ltTr t x = true := by
      intro x hx
      by_cases hA : A = l.length
      · rw [drop_end (by omega)] at hx; cases hx
      · obtain ⟨y, hy⟩ := get_of_lt (l := l) (i := A) (by omega)
        have hty : ltTr t y = true := by
          refine lt_or (hst y hy) ?_
          rcases hc with hc | hc
          · exact absurd hc hA
          · rw [hy] at hc
            exact fun e => hc (by rw [e])
        rw [drop_get hy] at hx
        rcases List.mem_cons.1 hx with e | e
        · subst e; exact hty
        · have h2 : Rise (l.drop A) := h.sublist (List.drop_sublist _ _)
          rw [drop_get hy] at h2
          exact lt_trans hty ((List.pairwise_cons.1 h2).1 x e)
    refine ⟨?_, fun x => ?_⟩
    · refine List.pairwise_append.2 ⟨h.sublist (List.take_sublist _ _), List.pairwise_cons.2 ⟨hdrop, h.sublist (List.drop_sublist _ _)⟩, fun a ha b hb => ?_⟩
      rcases List.mem_cons.1 hb with e | e
      · subst e; exact hlt a ha
      · exact lt_trans (hlt a ha) (hdrop b e)
    · constructor
      · intro hx
        rcases List.mem_append.1 hx with e | e
        · exact .inr (List.mem_of_mem_take e)
        · rcases List.mem_cons.1 e with e | e
          · exact .inl e
          · exact .inr (List.mem_of_mem_drop e)
      · rintro (e | e)
        · subst e; simp
        · rw [← hsplit] at e
          rcases List.mem_append.1 e with e | e
          · exact List.mem_append_left _ e
          · exact List.mem_append_right _ (List.mem_cons_of_mem _ e)
  · rename_i hc
    refine ⟨h, fun x => ⟨fun hx => .inr hx, ?_⟩⟩
    rintro (e | e)
    · subst e
      by_cases e : l[A]? = some x
      · exact mem_get e
      · exact absurd (.inr e) hc
    · exact e
theorem mem_hits {q : Qry} {l : List Epi} {x : Trc} : x ∈ hits q l ↔ ∃ e ∈ l, hitE q e = true ∧ e.tr = x := by
  unfold hits
  simp only [List.mem_map, List.mem_filter]
  exact ⟨fun ⟨e, ⟨h1, h2⟩, h3⟩ => ⟨e, h1, h2, h3⟩, fun ⟨e, h1, h2, h3⟩ => ⟨e, ⟨h1, h2⟩, h3⟩⟩
theorem mem_raw {q : Qry} {l : List Blo} {x : Trc} : x ∈ raw q l ↔ ∃ b ∈ l, ∃ e ∈ b.eps, hitE q e = true ∧ e.tr = x := by
  unfold raw
  simp only [List.mem_flatMap, mem_hits]
end Go.Pi
namespace Go.Proofs.Ytihiakgpegfghaa
open Go Go.Pi
theorem foldE_rise (q : Qry) : ∀ (l : List Epi) (out : List Trc), Rise out → Rise (l.foldl (addE q) out) ∧ ∀ x, x ∈ l.foldl (addE q) out ↔ x ∈ out ∨ x ∈ hits q l
  | [], out, h => ⟨h, fun x => by simp [hits]⟩
  | e :: l, out, h => by
    rw [List.foldl_cons]
    cases hk : hitE q e
    · have e1 : addE q out e = out := by unfold addE; rw [if_neg (by simp [hk])]
      rw [e1]
      obtain ⟨h1, h2⟩ := foldE_rise q l out h
      refine ⟨h1, fun x => ?_⟩
      rw [h2, mem_hits, mem_hits]
      constructor
      · rintro (h | ⟨y, h3, h4⟩)
        · exact .inl h
        · exact .inr ⟨y, List.mem_cons_of_mem _ h3, h4⟩
      · rintro (h | ⟨y, h3, h4, h5⟩)
        · exact .inl h
        · rcases List.mem_cons.1 h3 with e | e
          · subst e; rw [hk] at h4; cases h4
          · exact .inr ⟨y, e, h4, h5⟩
    · have e1 : addE q out e = insT e.tr out := by unfold addE; rw [if_pos hk]
      rw [e1]
      obtain ⟨g1, g2⟩ := insT_rise (t := e.tr) h
      obtain ⟨h1, h2⟩ := foldE_rise q l _ g1
      refine ⟨h1, fun x => ?_⟩
      rw [h2, g2, mem_hits, mem_hits]
      constructor
      · rintro ((h | h) | ⟨y, h3, h4⟩)
        · exact .inr ⟨e, List.mem_cons_self, hk, h.symm⟩
        · exact .inl h
        · exact .inr ⟨y, List.mem_cons_of_mem _ h3, h4⟩
      · rintro (h | ⟨y, h3, h4, h5⟩)
        · exact .inl (.inr h)
        · rcases List.mem_cons.1 h3 with e | e
          · subst e; exact .inl (.inl h5.symm)
          · exact .inr ⟨y, e, h4, h5⟩
theorem foldB_rise (q : Qry) : ∀ (l : List Blo) (out : List Trc), Rise out → Rise (l.foldl (addB q) out) ∧ ∀ x, x ∈ l.foldl (addB q) out ↔ x ∈ out ∨ x ∈ raw q l
  | [], out, h => ⟨h, fun x => by simp [raw]⟩
  | b :: l, out, h => by
    rw [List.foldl_cons]
    obtain ⟨g1, g2⟩ := foldE_rise q b.eps out h
    obtain ⟨h1, h2⟩ := foldB_rise q l _ g1
    refine ⟨h1, fun x => ?_⟩
    have e : raw q (b :: l) = hits q b.eps ++ raw q l := rfl
    refine (h2 x).trans ?_
    rw [e, List.mem_append, g2, or_assoc]
theorem allR_eq (q : Qry) (l : List Blo) : allR q l = allT q l := by
  obtain ⟨h1, h2⟩ := foldB_rise q l [] List.Pairwise.nil
  refine rise_eq h1 (allT_rise q l) fun x => ?_
  rw [mem_allT]
  show x ∈ l.foldl (addB q) [] ↔ _
  rw [h2]
  simp
end Go.Proofs.Ytihiakgpegfghaa
