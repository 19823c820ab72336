/- Ways in which a state may change. Own work of this session. -/
import Derived.Test.YtpjdoblfdeioaaaQops4
set_option linter.unusedVariables false
set_option linter.unusedSimpArgs false
namespace Go.Pi
section
variable {W0 W W' : World} {O0 : List Nat} {S0 : Base} {S S' : Bool → Nat → Prop} {φ φ' : Nat → Option Nat} {H H' : Heap} {st : St} {a : Act}
theorem Ext.refl : Ext W S φ H W S φ H := ⟨fun _ _ h => h, fun _ _ _ => rfl, fun b blk h => ⟨blk, h, Nat.le_refl _, fun _ => ⟨fun _ _ _ h => h, fun _ _ _ h => h⟩⟩⟩
theorem Ext.trans {W2 : World} {S2 : Bool → Nat → Prop} {φ2 : Nat → Option Nat} {H2 : Heap} (e : Ext W S φ H W' S' φ' H') (f : Ext W' S' φ' H' W2 S2 φ2 H2) : Ext W S φ H W2 S2 φ2 H2 := by
  refine ⟨fun ln k h => f.sS _ _ (e.sS _ _ h), fun ln k h => (f.sW ln k (e.sS _ _ h)).trans (e.sW ln k h), fun b blk h => ?_⟩
  obtain ⟨b1, h1, l1, k1⟩ := e.hdr b blk h
  obtain ⟨b2, h2, l2, k2⟩ := f.hdr b b1 h1
  refine ⟨b2, h2, Nat.le_trans l1 l2, fun he => ?_⟩
  have e1 : blk.ver = b1.ver := by omega
  have e2 : b1.ver = b2.ver := by omega
  exact ⟨fun off len v hh => (k2 e2).1 _ _ _ ((k1 e1).1 _ _ _ hh), fun i j v hh => (k2 e2).2 _ _ _ ((k1 e1).2 _ _ _ hh)⟩
/-- A block of the call's own, in the world. -/
def Live (φ : Nat → Option Nat) (H : Heap) (g : Nat) : Prop := (∃ b v T sz box rows, H b = some (.row v T sz box rows) ∧ φ b = some g) ∨ ∃ b v ks, H b = some (.mp v ks) ∧ φ b = some g
abbrev St.hps (st : St) (H : Heap) : St := { sl := st.sl, hp := H }

/-- A row and a set are never one. -/
theorem Rel.rowmp (h : Rel W0 O0 S0 S φ st a W) {b v T sz : Nat} {box : Bool} {rows : List (List PV)} {g b' v' : Nat} {ks : List Int} (hb : st.hp b = some (.row v T sz box rows)) (hg : φ b = some g) (hb' : st.hp b' = some (.mp v' ks)) (hg' : φ b' = some g) : False := by
  have hB := h.blk b _ hb
  simp only [BlkR, hg] at hB
  obtain ⟨cs, q1, _⟩ := hB
  obtain ⟨g2, es, c, k1, k2, _⟩ := h.mps b' v' ks hb'
  rw [hg'] at k1
  cases k1
  rw [q1] at k2
  cases k2
theorem upd_mp {H : Heap} {b b' v : Nat} {ks : List Int} {blk : Blk} (hx : upd H b (some blk) b' = some (.mp v ks)) (hn : ∀ v ks, blk ≠ .mp v ks) : b' ≠ b ∧ H b' = some (.mp v ks) := by
  by_cases hbb : b' = b
  · subst hbb; simp [upd] at hx; exact absurd hx (hn _ _)
  · simp only [upd, if_neg hbb] at hx; exact ⟨hbb, hx⟩
/-- The world changes where nothing is known. -/
theorem Rel.world {M : Nat → Prop} (h : Rel W0 O0 S0 S φ st a W) (hk : Keep W W' M) (hM : ∀ k, M k → ¬ S true k ∧ ¬ Live φ st.hp k ∧ (k ∈ O0 ∨ W0.heap.size ≤ k)) :
    Rel W0 O0 S0 S φ st a W' ∧ Ext W S φ st.hp W' S φ st.hp := by
  have hS : ∀ ln k, S ln k → W'.heap[k]? = W.heap[k]? := fun ln k hs => hk.block k (h.slt k (by cases ln; exact h.sle k hs; exact hs)) (fun hm => (hM k hm).1 (by cases ln; exact h.sle k hs; exact hs))
  have hL : ∀ g, Live φ st.hp g → W'.heap[g]? = W.heap[g]? := fun g hl => by
    rcases hl with hl | hl
    · obtain ⟨b, v, T, sz, box, rows, hb, hg⟩ := hl
      exact hk.block g (h.sz hb hg) (fun hm => (hM g hm).2.1 (.inl ⟨b, v, T, sz, box, rows, hb, hg⟩))
    · obtain ⟨b, v, ks, hb, hg⟩ := hl
      exact hk.block g (h.mz hb hg) (fun hm => (hM g hm).2.1 (.inr ⟨b, v, ks, hb, hg⟩))
  have e : Ext W S φ st.hp W' S φ st.hp := by
    refine ⟨fun _ _ hs => hs, hS, fun b blk hb => ⟨blk, hb, Nat.le_refl _, fun _ => ⟨fun off len v hh => ?_, fun i j v hh => hh⟩⟩⟩
    cases blk with
    | dead v => trivial
    | mp v ks => trivial
    | row ver T sz box rows =>
      simp only [Hdr] at hh ⊢
      cases hg : φ b with
      | none => simpa only [hg] using hh
      | some g =>
        simp only [hg] at hh ⊢
        obtain ⟨A, cap, cs, h1, h2, h3, h4, h5, h6, h7, h8⟩ := hh
        exact ⟨A, cap, cs, h1, h2, h3, h4, h5, h6, (hL g (.inl ⟨b, ver, T, sz, box, rows, hb, hg⟩)).trans h7, h8⟩
  refine ⟨{ keep := h.keep.trans hk (fun j hj => ?_), own := h.own, inj := h.inj, blk := fun b blk hb => (h.blk b blk hb).mono e rfl (fun hl g hg => ?_), mps := h.mps.mono (fun b v ks hb => ⟨⟨v, hb⟩, rfl⟩) (fun b v ks g hb hg => hL g (.inr ⟨b, v, ks, hb, hg⟩)) (fun _ _ _ _ _ _ k => k), sl := fun t => (h.sl t).mono e, sle := h.sle, slt := fun k hk' => Nat.lt_of_lt_of_le (h.slt k hk') hk.size, s0 := h.s0, s1 := h.s1, s2 := h.s2, dfr := h.dfr, par := h.par }, e⟩
  · exact (hM j hj).2.2
  · cases blk with
    | dead v => exact hl.elim
    | mp v ks => exact hl.elim
    | row ver T sz box rows => exact hL g (.inl ⟨b, ver, T, sz, box, rows, hb, hg⟩)
/-- More is never written again. -/
theorem Rel.grow (h : Rel W0 O0 S0 S φ st a W) (hS : ∀ ln k, S ln k → S' ln k) (hn : ∀ k, S' true k → ¬ S true k → k < W.heap.size ∧ ¬ Live φ st.hp k ∧ S' false k) (hf : ∀ k, S' false k → S' true k) (h2 : ∀ k, S' false k → S false k ∨ (k ∈ O0 ∨ W0.heap.size ≤ k)) :
    Rel W0 O0 S0 S' φ st a W ∧ Ext W S φ st.hp W S' φ st.hp := by
  have e : Ext W S φ st.hp W S' φ st.hp := ⟨hS, fun _ _ _ => rfl, fun b blk hb => ⟨blk, hb, Nat.le_refl _, fun _ => ⟨fun _ _ _ hh => hh, fun _ _ _ hh => hh⟩⟩⟩
  refine ⟨{ keep := h.keep, own := fun b v T sz box rows g hb hg => ⟨fun hs => ?_, (h.own b v T sz box rows g hb hg).2⟩, inj := h.inj, blk := fun b blk hb => (h.blk b blk hb).mono e rfl (fun _ _ _ => rfl), mps := h.mps.mono (fun b v ks hb => ⟨⟨v, hb⟩, rfl⟩) (fun _ _ _ _ _ _ => rfl) (fun b v ks g hb hg hs hs' => (hn g hs' hs).2.1 (.inr ⟨b, v, ks, hb, hg⟩)), sl := fun t => (h.sl t).mono e, sle := hf, slt := fun k hk => ?_, s0 := fun ln k hk => hS _ _ (h.s0 _ _ hk), s1 := fun k hk => ?_, s2 := fun k hk => ?_, dfr := h.dfr, par := h.par }, e⟩
  · by_cases hs' : S true g
    · exact (h.own b v T sz box rows g hb hg).1 hs'
    · exact (hn g hs hs').2.1 (.inl ⟨b, v, T, sz, box, rows, hb, hg⟩)
  · by_cases hs' : S true k
    · exact h.slt k hs'
    · exact (hn k hk hs').1
  · by_cases hs' : S true k
    · rcases h.s1 k hs' with g | g
      · exact .inl g
      · exact .inr (hS _ _ g)
    · exact .inr (hn k hk hs').2.2
  · rcases h2 k hk with g | g
    · exact h.s2 k g
    · exact .inr g
/-- A block is given up. -/
theorem Rel.kill (h : Rel W0 O0 S0 S φ st a W) {b n : Nat} {blk : Blk} (hb : st.hp b = some blk) (hn : blk.ver ≤ n) :
    Rel W0 O0 S0 S φ (st.hps (upd st.hp b (some (.dead n)))) a W ∧ Ext W S φ st.hp W S φ (upd st.hp b (some (.dead n))) := by
  have e : Ext W S φ st.hp W S φ (upd st.hp b (some (.dead n))) := by
    refine ⟨fun _ _ hs => hs, fun _ _ _ => rfl, fun b' blk' hb' => ?_⟩
    by_cases hbb : b' = b
    · subst hbb
      rw [hb] at hb'
      cases hb'
      exact ⟨.dead n, by simp [upd], hn, fun he => ⟨fun _ _ _ _ => trivial, fun _ _ _ _ => trivial⟩⟩
    · exact ⟨blk', by simp [upd, hbb, hb'], Nat.le_refl _, fun _ => ⟨fun _ _ _ hh => hh, fun _ _ _ hh => hh⟩⟩
  have hrow : ∀ b' v T sz box rows, (upd st.hp b (some (.dead n))) b' = some (.row v T sz box rows) → st.hp b' = some (.row v T sz box rows) := by
    intro b' v T sz box rows hx
    simp only [upd] at hx
    split at hx
    · cases hx
    · exact hx
  refine ⟨{ keep := h.keep, own := fun b' v T sz box rows g hx hg => h.own b' v T sz box rows g (hrow _ _ _ _ _ _ hx) hg, inj := fun b1 b2 v v' T T' sz sz' box box' rows rows' g h1 h2 => h.inj b1 b2 v v' T T' sz sz' box box' rows rows' g (hrow _ _ _ _ _ _ h1) (hrow _ _ _ _ _ _ h2), blk := fun b' blk' hx => ?_, mps := h.mps.mono (fun b' v ks hx => ⟨⟨v, by
      simp only [upd] at hx
      split at hx
      · cases hx
      · exact hx⟩, rfl⟩) (fun _ _ _ _ _ _ => rfl) (fun _ _ _ _ _ _ k => k), sl := fun t => (h.sl t).mono e, sle := h.sle, slt := h.slt, s0 := h.s0, s1 := h.s1, s2 := h.s2, dfr := h.dfr, par := h.par }, e⟩
  cases blk' with
  | dead v => trivial
  | mp v ks => trivial
  | row v T sz box rows => exact (h.blk b' _ (hrow _ _ _ _ _ _ hx)).mono e rfl (fun _ _ _ => rfl)
/-- A block gets a number, or a new place. -/
theorem Rel.place (h : Rel W0 O0 S0 S φ st a W) {b ver T sz : Nat} {box : Bool} {rows : List (List PV)} {g : Option Nat} (hv : ∀ blk, st.hp b = some blk → blk.ver < ver)
    (hg : ∀ k, g = some k → ¬ S true k ∧ (k ∈ O0 ∨ W0.heap.size ≤ k) ∧ ∀ b' v T sz box rows, b' ≠ b → st.hp b' = some (.row v T sz box rows) → φ b' ≠ some k)
    (hB : match g with
      | none => rows = [] ∧ box = false
      | some k => ∃ cs, W.heap[k]? = some (.cells cs T (0, 0)) ∧ (∀ r ∈ rows, r.length = sz) ∧ rows.length * sz ≤ cs.size ∧ (rows.length ≤ maxI ∧ (box = true → cs.size = rows.length * sz)) ∧ ∀ i r j p, rows[i]? = some r → r[j]? = some p → ∃ x, cs[i * sz + j]? = some x ∧ (if box = true then RelC W S φ st.hp p x else p.perm = true ∧ Sh W S p x)) :
    Rel W0 O0 S0 S (upd φ b g) (st.hps (upd st.hp b (some (.row ver T sz box rows)))) a W ∧ Ext W S φ st.hp W S (upd φ b g) (upd st.hp b (some (.row ver T sz box rows))) := by
  have hφ : ∀ b', b' ≠ b → upd φ b g b' = φ b' := fun b' hb => by simp [upd, hb]
  have hH : ∀ b', b' ≠ b → (upd st.hp b (some (.row ver T sz box rows))) b' = st.hp b' := fun b' hb => by simp [upd, hb]
  have e : Ext W S φ st.hp W S (upd φ b g) (upd st.hp b (some (.row ver T sz box rows))) := by
    refine ⟨fun _ _ hs => hs, fun _ _ _ => rfl, fun b' blk' hb' => ?_⟩
    by_cases hbb : b' = b
    · subst hbb
      have := hv _ hb'
      exact ⟨.row ver T sz box rows, by simp [upd], Nat.le_of_lt this, fun he => absurd he (Nat.ne_of_lt this)⟩
    · refine ⟨blk', by rw [hH b' hbb, hb'], Nat.le_refl _, fun _ => ⟨fun off len v hh => ?_, fun i j v hh => ?_⟩⟩
      · cases blk' with
        | dead v => trivial
        | mp v ks => trivial
        | row v2 T2 sz2 box2 rows2 => simp only [Hdr, hφ b' hbb] at hh ⊢; exact hh
      · cases blk' with
        | dead v => trivial
        | mp v ks => simp only [Adr, hφ b' hbb] at hh ⊢; exact hh
        | row v2 T2 sz2 box2 rows2 => simp only [Adr, hφ b' hbb] at hh ⊢; exact hh
  refine ⟨{ keep := h.keep, own := fun b' v T' sz' box' rows' k hx hk => ?_, inj := fun b1 b2 v v' T1 T2 sz1 sz2 bx1 bx2 r1 r2 k h1 h2 e1 e2 => ?_, blk := fun b' blk' hx => ?_, mps := h.mps.mono (fun b' v ks hx => by
      by_cases hbb : b' = b
      · subst hbb; simp [upd] at hx
      · exact ⟨⟨v, by rw [← hx]; exact (hH b' hbb).symm⟩, hφ b' hbb⟩) (fun _ _ _ _ _ _ => rfl) (fun _ _ _ _ _ _ k => k), sl := fun t => (h.sl t).mono e, sle := h.sle, slt := h.slt, s0 := h.s0, s1 := h.s1, s2 := h.s2, dfr := h.dfr, par := h.par }, e⟩
  · by_cases hbb : b' = b
    · subst hbb
      simp only [upd, if_true] at hk
      exact ⟨(hg k hk).1, (hg k hk).2.1⟩
    · rw [hφ b' hbb] at hk
      rw [show (st.hps (upd st.hp b (some (.row ver T sz box rows)))).hp b' = st.hp b' from hH b' hbb] at hx
      exact h.own b' _ _ _ _ _ k hx hk
  · by_cases c1 : b1 = b
    · by_cases c2 : b2 = b
      · rw [c1, c2]
      · rw [hφ b2 c2] at e2
        rw [show (st.hps (upd st.hp b (some (.row ver T sz box rows)))).hp b2 = st.hp b2 from hH b2 c2] at h2
        subst c1
        simp only [upd, if_true] at e1
        exact absurd e2 ((hg k e1).2.2 b2 _ _ _ _ _ c2 h2)
    · rw [hφ b1 c1] at e1
      rw [show (st.hps (upd st.hp b (some (.row ver T sz box rows)))).hp b1 = st.hp b1 from hH b1 c1] at h1
      by_cases c2 : b2 = b
      · subst c2
        simp only [upd, if_true] at e2
        exact absurd e1 ((hg k e2).2.2 b1 _ _ _ _ _ c1 h1)
      · rw [hφ b2 c2] at e2
        rw [show (st.hps (upd st.hp b (some (.row ver T sz box rows)))).hp b2 = st.hp b2 from hH b2 c2] at h2
        exact h.inj b1 b2 _ _ _ _ _ _ _ _ _ _ k h1 h2 e1 e2
  · by_cases hbb : b' = b
    · subst hbb
      have : blk' = .row ver T sz box rows := by simpa [upd] using hx.symm
      subst this
      simp only [BlkR, show upd φ b' g b' = g by simp [upd]]
      cases g with
      | none => exact hB
      | some k =>
        obtain ⟨cs, h1, h2, h3, h4, h5⟩ := hB
        refine ⟨cs, h1, h2, h3, h4, fun i r j p hi hj => ?_⟩
        obtain ⟨x, hx1, hx2⟩ := h5 i r j p hi hj
        refine ⟨x, hx1, ?_⟩
        split
        · rename_i hbx; rw [if_pos hbx] at hx2; exact hx2.mono e
        · rename_i hbx; rw [if_neg hbx] at hx2; exact ⟨hx2.1, hx2.2.mono e.sS e.sW⟩
    · rw [show (st.hps (upd st.hp b (some (.row ver T sz box rows)))).hp b' = st.hp b' from hH b' hbb] at hx
      exact (h.blk b' _ hx).mono e (hφ b' hbb) (fun _ _ _ => rfl)
/-- A block is written, in its place. -/
theorem Rel.write (h : Rel W0 O0 S0 S φ st a W) {b ver T sz : Nat} {box : Bool} {rows rows' : List (List PV)} {g : Nat} {cs cs' : Array Value} (hb : st.hp b = some (.row ver T sz box rows)) (hg : φ b = some g)
    (hc : W.heap[g]? = some (.cells cs T (0, 0))) (hk : Keep W W' (fun k => k = g)) (hc' : W'.heap[g]? = some (.cells cs' T (0, 0))) (hs : cs'.size = cs.size) (hz : rows'.length = rows.length)
    (hr : ∀ r ∈ rows', r.length = sz) 
    (hB : ∀ i r j p, rows'[i]? = some r → r[j]? = some p → ∃ x, cs'[i * sz + j]? = some x ∧ (if box = true then RelC W S φ st.hp p x else p.perm = true ∧ Sh W S p x)) :
    Rel W0 O0 S0 S φ (st.hps (upd st.hp b (some (.row ver T sz box rows')))) a W' ∧ Ext W S φ st.hp W' S φ (upd st.hp b (some (.row ver T sz box rows'))) := by
  have how := h.own b _ _ _ _ _ g hb hg
  have hS : ∀ ln k, S ln k → W'.heap[k]? = W.heap[k]? := fun ln k hs => hk.block k (h.slt k (by cases ln; exact h.sle k hs; exact hs)) (fun e => how.1 (by subst e; cases ln; exact h.sle _ hs; exact hs))
  have hL : ∀ b' v T' sz' box' rows2 g', b' ≠ b → st.hp b' = some (.row v T' sz' box' rows2) → φ b' = some g' → W'.heap[g']? = W.heap[g']? := fun b' v T' sz' box' rows2 g' hne hx hg' =>
    hk.block g' (h.sz hx hg') (fun e => hne (h.inj b' b _ _ _ _ _ _ _ _ _ _ g hx hb (by rw [hg', e]) hg))
  have hH : ∀ b', b' ≠ b → (upd st.hp b (some (.row ver T sz box rows'))) b' = st.hp b' := fun b' hb => by simp [upd, hb]
  have e : Ext W S φ st.hp W' S φ (upd st.hp b (some (.row ver T sz box rows'))) := by
    refine ⟨fun _ _ hs => hs, hS, fun b' blk' hb' => ?_⟩
    by_cases hbb : b' = b
    · subst hbb
      rw [hb] at hb'
      cases hb'
      refine ⟨.row ver T sz box rows', by simp [upd], Nat.le_refl _, fun _ => ⟨fun off len v hh => ?_, fun i j v hh => hh⟩⟩
      simp only [Hdr, hg] at hh ⊢
      obtain ⟨A, cap, cs0, h1, h2, h3, h4, h5, h6, h7, h8⟩ := hh
      rw [hc] at h7
      cases h7
      refine ⟨A, cap, cs', h1, h2, by omega, h4, ?_, h6, hc', by rw [hs]; exact h8⟩
      omega
    · refine ⟨blk', by rw [hH b' hbb, hb'], Nat.le_refl _, fun _ => ⟨fun off len v hh => ?_, fun i j v hh => hh⟩⟩
      cases blk' with
      | dead v => trivial
      | mp v ks => trivial
      | row v2 T2 sz2 box2 rows2 =>
        simp only [Hdr] at hh ⊢
        cases hg2 : φ b' with
        | none => simpa only [hg2] using hh
        | some g' =>
          simp only [hg2] at hh ⊢
          obtain ⟨A, cap, cs0, h1, h2, h3, h4, h5, h6, h7, h8⟩ := hh
          exact ⟨A, cap, cs0, h1, h2, h3, h4, h5, h6, (hL b' _ _ _ _ _ g' hbb hb' hg2).trans h7, h8⟩
  refine ⟨{ keep := h.keep.trans hk (fun j hj => ?_), own := fun b' v T' sz' box' rows2 k hx hk => ?_, inj := fun b1 b2 v v' T1 T2 sz1 sz2 bx1 bx2 r1 r2 k h1 h2 e1 e2 => ?_, blk := fun b' blk' hx => ?_, mps := h.mps.mono (fun b' v ks hx => by
      by_cases hbb : b' = b
      · subst hbb; simp [upd] at hx
      · exact ⟨⟨v, by rw [← hx]; exact (hH b' hbb).symm⟩, rfl⟩) (fun b' v ks g' hb' hg' => hk.block g' (h.mz hb' hg') (fun e => by
      subst e
      obtain ⟨g2, es, c, k1, k2, _⟩ := h.mps b' v ks hb'
      rw [hg'] at k1; cases k1
      rw [hc] at k2; cases k2)) (fun _ _ _ _ _ _ k => k), sl := fun t => (h.sl t).mono e, sle := h.sle, slt := fun k hk' => Nat.lt_of_lt_of_le (h.slt k hk') hk.size, s0 := h.s0, s1 := h.s1, s2 := h.s2, dfr := h.dfr, par := h.par }, e⟩
  · subst hj; exact how.2
  · by_cases hbb : b' = b
    · subst hbb
      exact h.own b' _ _ _ _ _ k hb hk
    · rw [show (st.hps (upd st.hp b (some (.row ver T sz box rows')))).hp b' = st.hp b' from hH b' hbb] at hx
      exact h.own b' _ _ _ _ _ k hx hk
  · have get : ∀ b' v T' sz' bx r, (st.hps (upd st.hp b (some (.row ver T sz box rows')))).hp b' = some (.row v T' sz' bx r) → ∃ v T' sz' bx r, st.hp b' = some (.row v T' sz' bx r) := by
      intro b' v T' sz' bx r hx
      by_cases hbb : b' = b
      · subst hbb; exact ⟨_, _, _, _, _, hb⟩
      · rw [show (st.hps (upd st.hp b (some (.row ver T sz box rows')))).hp b' = st.hp b' from hH b' hbb] at hx
        exact ⟨_, _, _, _, _, hx⟩
    obtain ⟨_, _, _, _, _, g1⟩ := get _ _ _ _ _ _ h1
    obtain ⟨_, _, _, _, _, g2⟩ := get _ _ _ _ _ _ h2
    exact h.inj b1 b2 _ _ _ _ _ _ _ _ _ _ k g1 g2 e1 e2
  · by_cases hbb : b' = b
    · subst hbb
      have : blk' = .row ver T sz box rows' := by simpa [upd] using hx.symm
      subst this
      have hB0 := h.blk b' _ hb
      simp only [BlkR, hg] at hB0 ⊢
      obtain ⟨cs0, q1, q2, q3, q4, q5⟩ := hB0
      rw [hc] at q1
      cases q1
      refine ⟨cs', hc', hr, by rw [hz, hs]; exact q3, ⟨by rw [hz]; exact q4.1, fun hbx => by rw [hz, hs]; exact q4.2 hbx⟩, fun i r j p hi hj => ?_⟩
      obtain ⟨x, hx1, hx2⟩ := hB i r j p hi hj
      refine ⟨x, hx1, ?_⟩
      split
      · rename_i hbx; rw [if_pos hbx] at hx2; exact hx2.mono e
      · rename_i hbx; rw [if_neg hbx] at hx2; exact ⟨hx2.1, hx2.2.mono e.sS e.sW⟩
    · rw [show (st.hps (upd st.hp b (some (.row ver T sz box rows')))).hp b' = st.hp b' from hH b' hbb] at hx
      refine (h.blk b' _ hx).mono e rfl (fun hl g' hg' => ?_)
      cases blk' with
      | dead v => exact hl.elim
      | mp v ks => exact hl.elim
      | row v T' sz' box' rows2 => exact hL b' _ _ _ _ _ g' hbb hx hg'
/-- A place takes a value. -/
theorem Rel.slot (h : Rel W0 O0 S0 S φ st a W) {d : Option Nat} {p : PV} {v : Value} (hd : ∀ t, d = some t → t < a.tmps.size ∧ S0.par t = none) (hv : d.isSome = true → RelV W S φ st.hp p v) : Rel W0 O0 S0 S φ (st.put d p []) (a.put d v) W :=
  h.put_plain (Keep.refl _ _) hd hv
theorem put_hps (st : St) (d : Option Nat) (p : PV) (ups : Ups) : st.put d p ups = (st.hps (updH st.hp ups)).put d p [] := rfl
end
end Go.Pi
