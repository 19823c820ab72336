/- Code is sound. Own work of this session. -/
import Derived.Test.YtpjdoblfdeioaaaQany
import Derived.Scope
set_option linter.unusedVariables false
set_option linter.unusedSimpArgs false
namespace Go.Pi
section
variable {cx : Cx} {C : CallF} {P : Program} {W0 W W' : World} {O0 O : List Nat} {S0 : Base} {S S' : Bool → Nat → Prop} {φ φ' : Nat → Option Nat} {st st1 st2 : St} {a : Act} {K : Act → World → Prop} {Q : Exit → Act → World → Prop}
/-! What is carried round a loop. -/
theorem hF_append (l m : List (Nat × Option Blk)) (b : Nat) : hF (l ++ m) b = if b ∈ l.map (·.1) then hF l b else hF m b := by
  induction l with
  | nil => simp
  | cons x l ih =>
    obtain ⟨k, v⟩ := x
    simp only [List.cons_append, hF, List.map_cons, List.mem_cons]
    by_cases h : b = k
    · simp [h]
    · simp only [if_neg h, h, false_or]
      exact ih
theorem proms_mem {sl : Nat → PV} {kk : List Nat} : ∀ {ks : List (Nat × Option Nat)} {b : Nat}, b ∈ (proms P sl kk ks).map (·.1) → (∃ t o T, (t, o) ∈ ks ∧ prom kk t o (sl t) = some T ∧ b = pk t) ∧ ∃ T, hF (proms P sl kk ks) b = some (.row 0 T (szOf P T) false [])
  | [], b, h => by cases h
  | (t, o) :: r, b, h => by
    simp only [proms] at h ⊢
    cases hp : prom kk t o (sl t) with
    | none =>
      simp only [hp, List.nil_append] at h ⊢
      obtain ⟨⟨t', o', T', h1, h2, h3⟩, h4⟩ := proms_mem h
      exact ⟨⟨t', o', T', List.mem_cons_of_mem _ h1, h2, h3⟩, h4⟩
    | some T =>
      simp only [hp, List.singleton_append, List.map_cons, List.mem_cons] at h ⊢
      by_cases hb : b = pk t
      · exact ⟨⟨t, o, T, .inl rfl, hp, hb⟩, T, by simp [hF, hb]⟩
      · obtain ⟨⟨t', o', T', h1, h2, h3⟩, T2, h4⟩ := proms_mem (h.resolve_left hb)
        exact ⟨⟨t', o', T', .inr h1, h2, h3⟩, T2, by simp [hF, hb, h4]⟩
theorem proms_of {sl : Nat → PV} {kk : List Nat} : ∀ {ks : List (Nat × Option Nat)} {t : Nat} {o : Option Nat} {T : Nat}, (t, o) ∈ ks → prom kk t o (sl t) = some T → pk t ∈ (proms P sl kk ks).map (·.1)
  | (t', o') :: r, t, o, T, h, hp => by
    simp only [proms, List.map_append, List.mem_append]
    rcases List.mem_cons.1 h with h | h
    · cases h
      exact .inl (by simp [hp])
    · exact .inr (proms_of h hp)
theorem hF_map {f : Nat → Option Blk} : ∀ {kk : List Nat} {b : Nat}, hF (kk.map fun b => (b, f b)) b = if b ∈ kk then f b else none
  | [], b => rfl
  | k :: kk, b => by
    simp only [List.map_cons, hF, List.mem_cons]
    by_cases h : b = k
    · simp [h]
    · simp [h, hF_map (kk := kk)]
theorem prom_inv {kk : List Nat} {t T : Nat} {o : Option Nat} {p : PV} (h : prom kk t o p = some T) : p = .z ∧ pk t ∉ kk := by
  unfold prom at h
  split at h
  · split at h
    · cases h
    · rename_i hk
      exact ⟨rfl, by simpa using hk⟩
  · cases h
theorem liveVer_inv {x : Option Blk} {v : Nat} (h : liveVer x = some v) : ∃ T sz box rows, x = some (.row v T sz box rows) := by
  unfold liveVer at h
  split at h
  · cases h; exact ⟨_, _, _, _, rfl⟩
  · cases h
theorem mpVer_inv {x : Option Blk} {v : Nat} (h : mpVer x = some v) : ∃ ks, x = some (.mp v ks) := by
  unfold mpVer at h
  split at h
  · cases h; exact ⟨_, rfl⟩
  · cases h
def rows' (H : Heap) (kk : List Nat) (m : List (Nat × Nat)) (box : Bool) (rows : List (List PV)) : List (List PV) := if box = true then rows.map (·.map (freshC H kk m)) else rows
theorem rows'_length (H : Heap) (kk : List Nat) (m : List (Nat × Nat)) (box : Bool) (rows : List (List PV)) : (rows' H kk m box rows).length = rows.length := by unfold rows'; split <;> simp
theorem freshB_row {H : Heap} {kk : List Nat} {m : List (Nat × Nat)} {v T sz : Nat} {box : Bool} {rows : List (List PV)} : freshB H kk m (some (.row v T sz box rows)) = some (.row 0 T sz box (rows' H kk m box rows)) := by cases box <;> rfl
theorem freshB_inv {H : Heap} {kk : List Nat} {m : List (Nat × Nat)} {x : Option Blk} {blk : Blk} (h : freshB H kk m x = some blk) : (∃ v T sz box rows, x = some (.row v T sz box rows) ∧ blk = .row 0 T sz box (rows' H kk m box rows)) ∨ ∃ v ks, x = some (.mp v ks) ∧ blk = .mp 0 ks := by
  cases x with
  | none => cases h
  | some b => cases b with
    | dead v => cases h
    | mp v ks => cases h; exact .inr ⟨v, ks, rfl, rfl⟩
    | row v T sz box rows => rw [freshB_row] at h; cases h; exact .inl ⟨v, T, sz, box, rows, rfl, rfl⟩
theorem ded_mem : ∀ {l : List Nat} {k : Nat}, k ∈ l → k ∈ ded l
  | j :: r, k, h => by
    unfold ded
    split
    · rename_i hc
      rcases List.mem_cons.1 h with rfl | h
      · exact ded_mem (by simpa using hc)
      · exact ded_mem h
    · rcases List.mem_cons.1 h with rfl | h
      · exact List.mem_cons_self
      · exact List.mem_cons_of_mem _ (ded_mem h)
theorem ded_sub : ∀ {l : List Nat} {k : Nat}, k ∈ ded l → k ∈ l
  | j :: r, k, h => by
    unfold ded at h
    split at h
    · exact List.mem_cons_of_mem _ (ded_sub h)
    · rcases List.mem_cons.1 h with rfl | h
      · exact List.mem_cons_self
      · exact List.mem_cons_of_mem _ (ded_sub h)
theorem ded_nodup : ∀ (l : List Nat), (ded l).Nodup
  | [] => List.nodup_nil
  | j :: r => by
    unfold ded
    split
    · exact ded_nodup r
    · rename_i hc
      exact List.nodup_cons.2 ⟨fun h => hc (by simpa using ded_sub h), ded_nodup r⟩
theorem inj_of_nodup {r : Nat → Nat} : ∀ {l : List Nat}, (l.map r).Nodup → ∀ b ∈ l, ∀ b' ∈ l, r b = r b' → b = b' := by
  intro l
  induction l with
  | nil => intro _ b hb; cases hb
  | cons x l ih =>
    intro h b hb b' hb' e
    rw [List.map_cons, List.nodup_cons] at h
    rcases List.mem_cons.1 hb with h1 | h1
    · rcases List.mem_cons.1 hb' with h2 | h2
      · rw [h1, h2]
      · exact (h.1 (List.mem_map.2 ⟨b', h2, by rw [← e, h1]⟩)).elim
    · rcases List.mem_cons.1 hb' with h2 | h2
      · exact (h.1 (List.mem_map.2 ⟨b, h1, by rw [e, h2]⟩)).elim
      · exact ih h.2 b h1 b' h2 e
theorem rnM_inj {kk : List Nat} {l : List (Nat × Nat)} (hn : kk.Nodup) : ∀ b ∈ kk, ∀ b' ∈ kk, rnA (rnM kk l) b = rnA (rnM kk l) b' → b = b' := by
  unfold rnM
  split
  · rename_i h
    exact inj_of_nodup (keysNodup_iff.1 h)
  · intro b _ b' _ e
    exact e
theorem hF_ren {r : Nat → Nat} {f : Nat → Option Blk} : ∀ {kk : List Nat}, (∀ b ∈ kk, ∀ b' ∈ kk, r b = r b' → b = b') → ∀ b ∈ kk, hF (kk.map fun b => (r b, f b)) (r b) = f b
  | k :: kk, h, b, hb => by
    simp only [List.map_cons, hF]
    by_cases he : r b = r k
    · rw [if_pos he, h b hb k List.mem_cons_self he]
    · rw [if_neg he]
      rcases List.mem_cons.1 hb with rfl | hb
      · exact absurd rfl he
      · exact hF_ren (fun x hx y hy => h x (List.mem_cons_of_mem _ hx) y (List.mem_cons_of_mem _ hy)) b hb
theorem hF_off {r : Nat → Nat} {f : Nat → Option Blk} : ∀ {kk : List Nat} {k : Nat}, k ∉ kk.map r → hF (kk.map fun b => (r b, f b)) k = none
  | [], k, _ => rfl
  | j :: kk, k, h => by
    simp only [List.map_cons, List.mem_cons, not_or] at h
    simp only [List.map_cons, hF, if_neg h.1]
    exact hF_off h.2
theorem MpOk.ren {W0 W : World} {O0 : List Nat} {S : Bool → Nat → Prop} {φ φ' : Nat → Option Nat} {H H' : Heap} {r : Nat → Nat} (h : MpOk W0 O0 S φ H W) (hH : ∀ b v ks, H' b = some (.mp v ks) → ∃ b0 v0, b = r b0 ∧ H b0 = some (.mp v0 ks) ∧ φ' b = φ b0) : MpOk W0 O0 S φ' H' W := by
  intro b v ks hb
  obtain ⟨b0, v0, e0, h1, h2⟩ := hH b v ks hb
  obtain ⟨g, es, c, k1, k2, k3, k4, k5, k6⟩ := h b0 v0 ks h1
  refine ⟨g, es, c, h2.trans k1, k2, k3, k4, k5, fun b' v' ks' hb' hg' => ?_⟩
  obtain ⟨b1, v1, e1, q1, q2⟩ := hH b' v' ks' hb'
  rw [e0, e1, k6 b1 v1 ks' q1 (q2.symm.trans hg')]
theorem Rst_rel (hR : Rel W0 O0 S0 S φ st a W) (ks : List (Nat × Option Nat) × List Nat) : ∃ φ', Rel W0 O0 S0 S φ' (Rst P ks st) a W := by
  unfold Rst St.of
  simp only [hF_sortH]
  have hinj := rnM_inj (l := rnP st.hp st.sl ks.1 ++ rnQ st.hp (ded (keys2 st (keys1 st ks.1 ks.2)))) (ded_nodup (keys2 st (keys1 st ks.1 ks.2)))
  generalize rnM (ded (keys2 st (keys1 st ks.1 ks.2))) (rnP st.hp st.sl ks.1 ++ rnQ st.hp (ded (keys2 st (keys1 st ks.1 ks.2)))) = m at hinj ⊢
  generalize ded (keys2 st (keys1 st ks.1 ks.2)) = kk at hinj ⊢
  let H' : Heap := hF (proms P st.sl (kk.map (rnA m)) ks.1 ++ kk.map fun b => (rnA m b, freshB st.hp kk m (st.hp b)))
  let φ' : Nat → Option Nat := fun k => match kk.find? (fun b => rnA m b == k) with | some b => φ b | none => none
  have hφi : ∀ b, b ∈ kk → φ' (rnA m b) = φ b := by
    intro b hb
    show (match kk.find? (fun b' => rnA m b' == rnA m b) with | some b => φ b | none => none) = φ b
    cases hf : kk.find? (fun b' => rnA m b' == rnA m b) with
    | none => exact absurd (List.find?_eq_none.1 hf b hb) (by simp)
    | some b' =>
      have h1 := List.find?_some hf
      have h2 := List.mem_of_find?_eq_some hf
      rw [hinj b' h2 b hb (by simpa using h1)]
  have hφo : ∀ k, k ∉ kk.map (rnA m) → φ' k = none := by
    intro k hk
    show (match kk.find? (fun b' => rnA m b' == k) with | some b => φ b | none => none) = none
    cases hf : kk.find? (fun b' => rnA m b' == k) with
    | none => rfl
    | some b' =>
      have h1 := List.find?_some hf
      exact absurd (List.mem_map.2 ⟨b', List.mem_of_find?_eq_some hf, by simpa using h1⟩) hk
  have hin : ∀ b, b ∈ kk → H' (rnA m b) = freshB st.hp kk m (st.hp b) := by
    intro b hb
    show hF _ (rnA m b) = _
    rw [hF_append, if_neg (fun hm => by
      obtain ⟨⟨t, o, T, _, h2, h3⟩, _⟩ := proms_mem hm
      exact (prom_inv h2).2 (h3 ▸ List.mem_map.2 ⟨b, hb, rfl⟩)), hF_ren hinj b hb]
  have hrow : ∀ k blk, H' k = some blk → (k ∉ kk.map (rnA m) ∧ ∃ T, blk = .row 0 T (szOf P T) false []) ∨ (∃ b ∈ kk, k = rnA m b ∧ ∃ v T sz box rows, st.hp b = some (.row v T sz box rows) ∧ blk = .row 0 T sz box (rows' st.hp kk m box rows)) ∨ (∃ b ∈ kk, k = rnA m b ∧ ∃ v ks, st.hp b = some (.mp v ks) ∧ blk = .mp 0 ks) := by
    intro k blk hb
    by_cases hbk : k ∈ kk.map (rnA m)
    · obtain ⟨b, hbk', rfl⟩ := List.mem_map.1 hbk
      rw [hin b hbk'] at hb
      rcases freshB_inv hb with h | h
      · exact .inr (.inl ⟨b, hbk', rfl, h⟩)
      · exact .inr (.inr ⟨b, hbk', rfl, h⟩)
    · have hb' : hF (proms P st.sl (kk.map (rnA m)) ks.1 ++ kk.map fun b => (rnA m b, freshB st.hp kk m (st.hp b))) k = some blk := hb
      rw [hF_append] at hb'
      split at hb'
      · rename_i hm
        obtain ⟨_, T, h4⟩ := proms_mem hm
        rw [h4] at hb'
        cases hb'
        exact .inl ⟨hbk, T, rfl⟩
      · rw [hF_off hbk] at hb'
        cases hb'
  have hC : ∀ p v, RelC W S φ st.hp p v → RelC W S φ' H' (freshC st.hp kk m p) v := by
    intro p v h
    have hone := h.one
    cases p with
    | u => exact h
    | s a => exact h
    | z => exact h
    | sh a b => exact h
    | sl b ver off len =>
      simp only [freshC]
      split
      · rename_i hc
        obtain ⟨hc1, hc2⟩ := hc
        obtain ⟨T, sz, box, rows, hb⟩ := liveVer_inv hc2
        have hbk : b ∈ kk := by simpa using hc1
        refine ⟨h.1, .row 0 T sz box (rows' st.hp kk m box rows), by rw [hin b hbk, hb, freshB_row], Nat.le_refl _, fun _ => ?_⟩
        have hh := sl_inv (S := S) h hb
        simp only [Hdr] at hh ⊢
        rw [hφi b hbk]
        cases hg : φ b with
        | none =>
          simp only [hg] at hh ⊢
          obtain ⟨rfl, h2⟩ := hh
          exact ⟨by cases box <;> rfl, h2⟩
        | some g =>
          simp only [hg] at hh ⊢
          rw [rows'_length]
          exact hh
      · exact hone
    | ad b ver i j =>
      simp only [freshC]
      split
      · rename_i hc
        obtain ⟨hc1, hc2⟩ := hc
        obtain ⟨T, sz, box, rows, hb⟩ := liveVer_inv hc2
        have hbk : b ∈ kk := by simpa using hc1
        obtain ⟨g, hg, hp⟩ := ad_inv (W := W) (S := S) h hb
        exact ⟨h.1, .row 0 T sz box (rows' st.hp kk m box rows), by rw [hin b hbk, hb, freshB_row], Nat.le_refl _, fun _ => ⟨g, by rw [hφi b hbk, hg], hp⟩⟩
      · exact hone
    | mp b ver =>
      simp only [freshC]
      split
      · rename_i hc
        obtain ⟨hc1, hc2⟩ := hc
        obtain ⟨ks, hb⟩ := mpVer_inv hc2
        have hbk : b ∈ kk := by simpa using hc1
        obtain ⟨g, hg, hp⟩ := mp_inv (W := W) (S := S) h hb
        exact ⟨h.1, .mp 0 ks, by rw [hin b hbk, hb]; rfl, Nat.le_refl _, fun _ => ⟨g, by rw [hφi b hbk, hg], hp⟩⟩
      · exact hone
    | sa a b => exact h
    | fn f caps => cases caps with
      | nil => exact h
      | cons _ _ => exact h.elim
    | _ => exact h.elim
  have hCs : ∀ ps vs, RelCs W S φ st.hp ps vs → RelCs W S φ' H' (ps.map (freshC st.hp kk m)) vs := by
    intro ps vs h
    refine ⟨by simpa using h.1, fun i p x hp hx => ?_⟩
    rw [List.getElem?_map] at hp
    cases hq : ps[i]? with
    | none => simp [hq] at hp
    | some q =>
      simp only [hq, Option.map_some, Option.some.injEq] at hp
      subst hp
      exact hC _ _ (h.2 i q x hq hx)
  have hV : ∀ p v, RelV W S φ st.hp p v → RelV W S φ' H' (freshV st.hp kk m p) v := by
    intro p v h
    cases p with
    | ag cs => obtain ⟨xs, h1, h2⟩ := h; exact ⟨xs, h1, hCs _ _ h2⟩
    | fn f cs => obtain ⟨xs, h1, h2⟩ := h; exact ⟨xs, h1, hCs _ _ h2⟩
    | tu _ => trivial
    | u => trivial
    | ow _ _ => trivial
    | bx _ _ => trivial
    | s a => exact RelV_of_RelC (hC (.s a) _ h)
    | z => exact RelV_of_RelC (hC .z _ h)
    | sh a b => exact RelV_of_RelC (hC (.sh a b) _ h)
    | sl a b c d => exact RelV_of_RelC (hC (.sl a b c d) _ h)
    | ad a b c d => exact RelV_of_RelC (hC (.ad a b c d) _ h)
    | mp a b => exact RelV_of_RelC (hC (.mp a b) _ h)
    | sa a b => exact RelV_of_RelC (hC (.sa a b) _ h)
  have hsl : ∀ (l : List (Nat × Option Nat)), (∀ x ∈ l, x ∈ ks.1) → ∀ t, RelV W S φ' H' (sF (l.map fun x => (x.1, keepV st.hp kk m x.1 x.2 (st.sl x.1))) t) (a.tmps.getD t undef) := by
    intro l
    induction l with
    | nil => intro _ t; trivial
    | cons x l ih =>
      intro hl t
      obtain ⟨t', o⟩ := x
      simp only [List.map_cons, sF]
      split
      · rename_i he
        subst he
        unfold keepV
        cases hp : prom (kk.map (rnA m)) t o (st.sl t) with
        | none => exact hV _ _ (hR.sl t)
        | some T =>
          have hz := (prom_inv hp).1
          have hst := hR.sl t
          rw [hz] at hst
          obtain ⟨A, hA⟩ := hst
          have hm := proms_of (P := P) (hl (t, o) List.mem_cons_self) hp
          obtain ⟨_, T2, h4⟩ := proms_mem hm
          refine ⟨⟨A, 0, 0, hA⟩, .row 0 T2 (szOf P T2) false [], ?_, Nat.le_refl _, fun _ => ?_⟩
          · show hF _ _ = _
            rw [hF_append, if_pos hm]
            exact h4
          · simp only [Hdr]
            have hφ : φ' (pk t) = none := hφo _ (prom_inv hp).2
            simp only [hφ]
            exact ⟨trivial, trivial, trivial, A, hA⟩
      · exact ih (fun y hy => hl y (List.mem_cons_of_mem _ hy)) t
  have hget : ∀ k v T sz box rows g, H' k = some (.row v T sz box rows) → φ' k = some g → ∃ b ∈ kk, k = rnA m b ∧ ∃ v T sz box rows, st.hp b = some (.row v T sz box rows) ∧ φ b = some g := by
    intro k v T sz box rows g hb hg
    rcases hrow k _ hb with ⟨h1, _⟩ | ⟨b, h1, e, v', T', sz', box', rows2, h2, _⟩ | ⟨_, _, _, _, _, _, hq⟩
    · rw [hφo k h1] at hg; cases hg
    · exact ⟨b, h1, e, v', T', sz', box', rows2, h2, by rw [← hφi b h1, ← e]; exact hg⟩
    · cases hq
  refine ⟨φ', { keep := hR.keep, own := fun b v T sz box rows g hb hg => ?_, inj := fun b1 b2 v v' T T' sz sz' bx bx' r r' g h1 h2 e1 e2 => ?_, blk := fun b blk hb => ?_, mps := hR.mps.ren (r := rnA m) (fun b v ks hb => by
      rcases hrow b _ hb with ⟨_, T, hq⟩ | ⟨_, _, _, _, _, _, _, _, _, hq⟩ | ⟨b0, h1, e, v', ks', h2, hq⟩
      · cases hq
      · cases hq
      · cases hq; exact ⟨b0, v', e, h2, by rw [e]; exact hφi b0 h1⟩), sl := fun t => hsl ks.1 (fun x hx => hx) t, sle := hR.sle, slt := hR.slt, s0 := hR.s0, s1 := hR.s1, s2 := hR.s2, dfr := hR.dfr, par := hR.par }⟩
  · obtain ⟨b0, _, _, v', T', sz', box', rows2, h1, h2⟩ := hget b v T sz box rows g hb hg
    exact hR.own b0 _ _ _ _ _ g h1 h2
  · obtain ⟨c1, _, q1, _, _, _, _, _, k1, l1⟩ := hget _ _ _ _ _ _ _ h1 e1
    obtain ⟨c2, _, q2, _, _, _, _, _, k2, l2⟩ := hget _ _ _ _ _ _ _ h2 e2
    rw [q1, q2, hR.inj c1 c2 _ _ _ _ _ _ _ _ _ _ g k1 k2 l1 l2]
  · rcases hrow b blk hb with ⟨h1, T, rfl⟩ | ⟨b0, h1, e, v, T, sz, box, rows, h2, rfl⟩ | ⟨_, _, _, _, _, _, rfl⟩
    rotate_right
    · trivial
    · have hφ : φ' b = none := hφo b h1
      simp only [BlkR, hφ]
      simp
    · subst e
      have hφ : φ' (rnA m b0) = φ b0 := hφi b0 h1
      have hB := hR.blk b0 _ h2
      simp only [BlkR, hφ] at hB ⊢
      cases hg : φ b0 with
      | none =>
        simp only [hg] at hB ⊢
        obtain ⟨rfl, rfl⟩ := hB
        exact ⟨rfl, rfl⟩
      | some g =>
        simp only [hg] at hB ⊢
        obtain ⟨cs, g1, g2, g3, g4, g5⟩ := hB
        refine ⟨cs, g1, fun r hr => ?_, by rw [rows'_length]; exact g3, by rw [rows'_length]; exact g4, fun i r j p hi hj => ?_⟩
        · unfold rows' at hr
          split at hr
          · obtain ⟨r0, hr0, rfl⟩ := List.mem_map.1 hr
            simpa using g2 r0 hr0
          · exact g2 r hr
        · cases box with
          | false =>
            obtain ⟨x, hx, hp⟩ := g5 i r j p hi hj
            exact ⟨x, hx, hp⟩
          | true =>
            simp only [rows', if_true, List.getElem?_map] at hi
            cases hr0 : rows[i]? with
            | none => simp [hr0] at hi
            | some r0 =>
              simp only [hr0, Option.map_some, Option.some.injEq] at hi
              subst hi
              rw [List.getElem?_map] at hj
              cases hp0 : r0[j]? with
              | none => simp [hp0] at hj
              | some p0 =>
                simp only [hp0, Option.map_some, Option.some.injEq] at hj
                subst hj
                obtain ⟨x, hx, hp⟩ := g5 i r0 j p0 hr0 hp0
                refine ⟨x, hx, ?_⟩
                rw [if_pos rfl] at hp ⊢
                exact hC _ _ hp
/-! Code. -/
theorem least_ex (p : Nat → Prop) (h : ∃ n, p n) : ∃ m, p m ∧ ∀ k, p k → m ≤ k := by
  obtain ⟨n, hn⟩ := h
  induction n using Nat.strongRecOn with
  | _ n ih =>
    by_cases hk : ∃ k, k < n ∧ p k
    · obtain ⟨k, hlt, hp⟩ := hk
      exact ih k hlt hp
    · exact ⟨n, hn, fun k hp => Nat.le_of_not_lt fun hlt => hk ⟨k, hlt, hp⟩⟩
open Classical in
noncomputable def least (p : Nat → Prop) : Nat := if h : ∃ n, p n then (least_ex p h).choose else 0
theorem least_spec {p : Nat → Prop} (h : ∃ n, p n) : p (least p) := by unfold least; rw [dif_pos h]; exact (least_ex p h).choose_spec.1
theorem least_min {p : Nat → Prop} {k : Nat} (h : p k) : least p ≤ k := by unfold least; rw [dif_pos ⟨k, h⟩]; exact (least_ex p ⟨k, h⟩).choose_spec.2 k h
def dstOps (n : Nat) (no : List Nat) (l : List Oper) : Bool := l.all fun o => match o.dst with | some t => decide (t < n) && !no.contains t | none => true
def dstC (n : Nat) (no : List Nat) : Code → Bool
  | .region _ ops _ => dstOps n no ops.toList
  | .seq a b => dstC n no a && dstC n no b
  | .cond _ a b => dstC n no a && dstC n no b
  | .block _ c => dstC n no c
  | .loop c => dstC n no c
  | .scope c => dstC n no c
  | _ => true
theorem dstOps_ok {n : Nat} {no : List Nat} {ops : Array Oper} (hno : ∀ t v, S0.par t = some v → t ∈ no) (h : dstOps n no ops.toList = true) : DstOk S0 n ops := by
  intro i o t ho ht
  have := List.all_eq_true.1 h o (List.mem_of_getElem? (by rw [Array.getElem?_toList]; exact ho))
  simp only [ht, Bool.and_eq_true, decide_eq_true_eq, Bool.not_eq_true', List.contains_eq_mem, decide_eq_false_iff_not] at this
  refine ⟨this.1, ?_⟩
  cases hp : S0.par t with
  | none => rfl
  | some v => exact absurd (hno t v hp) this.2
def After (Q : Exit → Act → World → Prop) : Ex → Exit
  | .nrm => .normal
  | .ex i => .exit i
  | .ret => .ret
theorem sound_code (hC : CallOk cx C) (hEq : Facts cx) (hm : cx.P.follows .mixedOrders = true) (kp : Nat → List (Nat × Option Nat) × List Nat) {no : List Nat} (hno : ∀ t v, S0.par t = some v → t ∈ no) : ∀ (c : Code) (k : Nat) (cc : CC) {Q : Exit → Act → World → Prop} {S : Bool → Nat → Prop} {φ : Nat → Option Nat} {st : St} {a : Act} {W : World} {e : Ex} {st2 : St}, comp kp k c = some cc → dstC a.tmps.size no c = true → exec cx C cc st = some (e, st2) → Rel W0 O0 S0 S φ st a W →
    Goes W0 O0 S0 a.tmps.size st2 (Q (After Q e)) → c.wp cx.P Q a W
  | .skip, k, cc, Q, S, φ, st, a, W, e, st2, hc, hd, h, hR, hK => by
    cases hc
    simp only [exec, Option.some.injEq, Prod.mk.injEq] at h
    obtain ⟨rfl, rfl⟩ := h
    exact wp_skip (hK S φ a W hR rfl)
  | .label l, k, cc, Q, S, φ, st, a, W, e, st2, hc, hd, h, hR, hK => by
    cases hc
    simp only [exec, Option.some.injEq, Prod.mk.injEq] at h
    obtain ⟨rfl, rfl⟩ := h
    exact wp_label (hK S φ a W hR rfl)
  | .exit id, k, cc, Q, S, φ, st, a, W, e, st2, hc, hd, h, hR, hK => by
    cases hc
    simp only [exec, Option.some.injEq, Prod.mk.injEq] at h
    obtain ⟨rfl, rfl⟩ := h
    exact wp_exit (hK S φ a W hR rfl)
  | .ret, k, cc, Q, S, φ, st, a, W, e, st2, hc, hd, h, hR, hK => by
    cases hc
    simp only [exec, Option.some.injEq, Prod.mk.injEq] at h
    obtain ⟨rfl, rfl⟩ := h
    exact wp_ret (hK S φ a W hR rfl)
  | .region id ops draw, k, cc, Q, S, φ, st, a, W, e, st2, hc, hd, h, hR, hK => by
    simp only [comp] at hc
    split at hc
    · rename_i cs hcs
      cases draw with
      | true =>
        simp only [if_true] at hc
        split at hc
        · rename_i hok
          cases hc
          simp only [exec] at h
          cases hr : runD cx C (Region.before ops).toList cs 0 [] st with
          | none => rw [hr] at h; cases h
          | some s =>
            rw [hr] at h
            simp only [toOut, Option.some.injEq, Prod.mk.injEq] at h
            obtain ⟨rfl, rfl⟩ := h
            exact sound_draw hC hEq hm hcs hok.1 hok.2 hr hR (dstOps_ok hno hd) hK
        · cases hc
      | false =>
        simp only [Bool.false_eq_true, if_false] at hc
        cases hc
        simp only [exec] at h
        cases hr : runOps cx C cs st with
        | none => rw [hr] at h; cases h
        | some s =>
          rw [hr] at h
          simp only [toOut, Option.some.injEq, Prod.mk.injEq] at h
          obtain ⟨rfl, rfl⟩ := h
          exact sound_run hC hEq hcs hr hR (dstOps_ok hno hd) hK
    · cases hc
  | .seq x y, k, cc, Q, S, φ, st, a, W, e, st2, hc, hd, h, hR, hK => by
    simp only [comp] at hc
    split at hc
    · rename_i cx1 cy1 h1 h2
      cases hc
      simp only [dstC, Bool.and_eq_true] at hd
      simp only [exec] at h
      refine wp_seq ?_
      cases hx : exec cx C cx1 st with
      | none => rw [hx] at h; cases h
      | some r =>
        obtain ⟨e1, s1⟩ := r
        rw [hx] at h
        cases e1 with
        | nrm =>
          refine sound_code hC hEq hm kp hno x k cx1 h1 hd.1 hx hR (fun S' φ' a' W' hR' hs => ?_)
          exact sound_code hC hEq hm kp hno y k cy1 h2 (by rw [hs]; exact hd.2) h hR' (by rw [hs]; exact hK)
        | ex i =>
          simp only [seqK, Option.some.injEq, Prod.mk.injEq] at h
          obtain ⟨rfl, rfl⟩ := h
          exact sound_code hC hEq hm kp hno x k cx1 h1 hd.1 hx hR hK
        | ret =>
          simp only [seqK, Option.some.injEq, Prod.mk.injEq] at h
          obtain ⟨rfl, rfl⟩ := h
          exact sound_code hC hEq hm kp hno x k cx1 h1 hd.1 hx hR hK
    · cases hc
  | .cond c x y, k, cc, Q, S, φ, st, a, W, e, st2, hc, hd, h, hR, hK => by
    simp only [comp] at hc
    split at hc
    · rename_i cx1 cy1 h1 h2
      cases hc
      simp only [dstC, Bool.and_eq_true] at hd
      simp only [exec] at h
      split at h
      · rename_i t ht
        have hb := hR.ev c
        rw [ht] at hb
        refine wp_cond (bool_inv hb) ?_
        cases t with
        | true => exact sound_code hC hEq hm kp hno x k cx1 h1 hd.1 (by simpa using h) hR hK
        | false => exact sound_code hC hEq hm kp hno y k cy1 h2 hd.2 (by simpa using h) hR hK
      · cases h
    · cases hc
  | .block id c, k, cc, Q, S, φ, st, a, W, e, st2, hc, hd, h, hR, hK => by
    simp only [comp] at hc
    cases hc1 : comp kp id c with
    | none => simp [hc1] at hc
    | some c1 =>
      simp only [hc1, Option.map_some, Option.some.injEq] at hc
      subst hc
      simp only [exec] at h
      refine wp_block ?_
      cases hx : exec cx C c1 st with
      | none => rw [hx] at h; cases h
      | some r =>
        obtain ⟨e1, s1⟩ := r
        rw [hx] at h
        refine sound_code hC hEq hm kp hno c id c1 hc1 hd hx hR ?_
        cases e1 with
        | nrm =>
          simp only [blkK, Option.some.injEq, Prod.mk.injEq] at h
          obtain ⟨rfl, rfl⟩ := h
          exact hK
        | ret =>
          simp only [blkK, Option.some.injEq, Prod.mk.injEq] at h
          obtain ⟨rfl, rfl⟩ := h
          exact hK
        | ex i =>
          simp only [blkK] at h
          intro S' φ' a' W' hR' hs
          simp only [After, Exit.inBlock]
          split at h
          · rename_i hi
            simp only [Option.some.injEq, Prod.mk.injEq] at h
            obtain ⟨rfl, rfl⟩ := h
            rw [if_pos hi]
            exact hK S' φ' a' W' hR' hs
          · rename_i hi
            simp only [Option.some.injEq, Prod.mk.injEq] at h
            obtain ⟨rfl, rfl⟩ := h
            rw [if_neg hi]
            exact hK S' φ' a' W' hR' hs
  | .loop c, k, cc, Q, S, φ, st, a, W, e, st2, hc, hd, h, hR, hK => by
    simp only [comp] at hc
    cases hc1 : comp kp k c with
    | none => simp [hc1] at hc
    | some c1 =>
      simp only [hc1, Option.map_some, Option.some.injEq] at hc
      subst hc
      simp only [exec] at h
      obtain ⟨n, hn⟩ := of_Loop h
      have hdn : dstC a.tmps.size no c = true := hd
      let J : Nat → Act → World → Prop := fun n a' w' => a'.tmps.size = a.tmps.size ∧ ∃ st S φ, loopN (exec cx C c1) (Rst cx.P (kp k)) n st = some (e, st2) ∧ Rel W0 O0 S0 S φ st a' w'
      refine wp_loop (fun a' w' => ∃ n, J n a' w') (fun a' w' => least fun n => J n a' w') ?_ ?_
      · obtain ⟨φ1, hr1⟩ := Rst_rel (P := cx.P) hR (kp k)
        exact ⟨n, rfl, _, S, φ1, hn, hr1⟩
      · intro a1 w1 hI
        have hJ := least_spec hI
        generalize hN : (least fun n => J n a1 w1) = N at hJ ⊢
        obtain ⟨hs1, st1, S1, φ1, hl1, hr1⟩ := hJ
        cases N with
        | zero => simp [loopN] at hl1
        | succ N =>
          simp only [loopN] at hl1
          cases hx : exec cx C c1 st1 with
          | none => rw [hx] at hl1; cases hl1
          | some r =>
            obtain ⟨e1, s1⟩ := r
            rw [hx] at hl1
            refine sound_code hC hEq hm kp hno c k c1 hc1 (by rw [hs1]; exact hdn) hx hr1 ?_
            cases e1 with
            | nrm =>
              simp only at hl1
              intro S' φ' a' W' hR' hs'
              obtain ⟨φ2, hr2⟩ := Rst_rel (P := cx.P) hR' (kp k)
              have hJ' : J N a' W' := ⟨by rw [hs', hs1], _, S', φ2, hl1, hr2⟩
              have hI' : ∃ n, J n a' W' := ⟨N, hJ'⟩
              exact ⟨hI', Nat.lt_of_le_of_lt (least_min (p := fun n => J n a' W') hJ') (Nat.lt_succ_self N)⟩
            | ex i =>
              simp only [Option.some.injEq, Prod.mk.injEq] at hl1
              obtain ⟨rfl, rfl⟩ := hl1
              intro S' φ' a' W' hR' hs'
              exact hK S' φ' a' W' hR' (by rw [hs', hs1])
            | ret =>
              simp only [Option.some.injEq, Prod.mk.injEq] at hl1
              obtain ⟨rfl, rfl⟩ := hl1
              intro S' φ' a' W' hR' hs'
              exact hK S' φ' a' W' hR' (by rw [hs', hs1])
  | .scope c, k, cc, Q, S, φ, st, a, W, e, st2, hc, hd, h, hR, hK => by
    simp only [comp] at hc
    refine wp_scope_straight ?_
    refine sound_code hC hEq hm kp hno c k cc hc hd h hR ?_
    cases e <;> exact hK
  | .rangeFunc _ _ _ _, k, cc, _, _, _, _, _, _, _, _, hc, _, _, _, _ => by simp [comp] at hc
  | .goto _, k, cc, _, _, _, _, _, _, _, _, hc, _, _, _, _ => by simp [comp] at hc
  | .refuse _, k, cc, _, _, _, _, _, _, _, _, hc, _, _, _, _ => by simp [comp] at hc
end
end Go.Pi
