/- What the reading's values stand for in a world, and that it lasts. Own work of this session. -/
import Derived.Test.YtpjdoblfdeioaaaQcall
set_option linter.unusedVariables false
namespace Go.Pi
def maxI : Nat := 9223372036854775807

/-! Worlds that part in some blocks alone. -/
structure Keep (W W' : World) (M : Nat → Prop) : Prop where
  os : W'.os = W.os
  tape : W'.tape = W.tape
  output : W'.output = W.output
  size : W.heap.size ≤ W'.heap.size
  drawn : W.drawn ≤ W'.drawn
  block : ∀ k, k < W.heap.size → ¬ M k → W'.heap[k]? = W.heap[k]?
theorem Keep.refl (W : World) (M : Nat → Prop) : Keep W W M := ⟨rfl, rfl, rfl, Nat.le_refl _, Nat.le_refl _, fun _ _ _ => rfl⟩
theorem Keep.trans {A B C : World} {M N : Nat → Prop} (h : Keep A B M) (k : Keep B C N) (hN : ∀ j, N j → M j ∨ A.heap.size ≤ j) : Keep A C M :=
  ⟨k.os.trans h.os, k.tape.trans h.tape, k.output.trans h.output, Nat.le_trans h.size k.size, Nat.le_trans h.drawn k.drawn, fun j hj hm =>
    (k.block j (Nat.lt_of_lt_of_le hj h.size) (fun hn => (hN j hn).elim hm (fun hl => by omega))).trans (h.block j hj hm)⟩
theorem Keep.mono {A B : World} {M N : Nat → Prop} (h : Keep A B M) (hm : ∀ j, j < A.heap.size → M j → N j) : Keep A B N :=
  ⟨h.os, h.tape, h.output, h.size, h.drawn, fun j hj hn => h.block j hj fun x => hn (hm j hj x)⟩
theorem Keep.drew (W : World) (M : Nat → Prop) : Keep W W.drew M := ⟨rfl, rfl, rfl, Nat.le_refl _, Nat.le_succ _, fun _ _ _ => rfl⟩
theorem Keep.alloc (W : World) (o : Obj) (M : Nat → Prop) : Keep W (W.alloc o) M := ⟨rfl, rfl, rfl, by simp, Nat.le_refl _, fun k hk _ => by show (W.heap.push o)[k]? = _; rw [Array.getElem?_push, if_neg (by omega)]⟩

theorem add_add (a : Addr) (m n : Nat) : (a.add m).add n = a.add (m + n) := by
  unfold Addr.add
  by_cases hm : m = 0
  · subst hm; simp
  · by_cases hn : n = 0
    · subst hn; simp [hm]
    · have : ¬ (m + n = 0) := by omega
      simp [hm, hn, Nat.add_assoc]
theorem add_blk (a : Addr) (n : Nat) : (a.add n).block = a.block := by unfold Addr.add; split <;> rfl
theorem add_lit (g o n : Nat) : (⟨g, o, none⟩ : Addr).add n = ⟨g, o + n, none⟩ := by unfold Addr.add; split <;> simp_all

/-! What is only read. S false: what is never written again; S true: that, and what is lent. -/
inductive Sh (W : World) (S : Bool → Nat → Prop) : PV → Value → Prop
  | s {v : Value} : v.oneCell' = true → Sh W S (.s v) v
  | sl {ln : Bool} {rows : List (List PV)} {A : Option Addr} {c sz : Nat} (x : Nat → Nat → Value) :
      rows.length ≤ c → c ≤ maxI →
      (∀ r ∈ rows, r.length = sz) →
      (∀ r ∈ rows, ∀ p ∈ r, p.perm = true) →
      (rows ≠ [] → ∃ ad, A = some ad ∧ S ln ad.block ∧ ∀ i r j p, rows[i]? = some r → r[j]? = some p → W.cell? (ad.add (i * sz + j)) = some (x i j)) →
      (∀ i r j p, rows[i]? = some r → r[j]? = some p → Sh W S p (x i j)) →
      Sh W S (.sh ln rows) (.slice A rows.length c)
theorem Sh.one {W : World} {S : Bool → Nat → Prop} {p : PV} {v : Value} (h : Sh W S p v) : v.oneCell' = true := by
  cases h with
  | s h => exact h
  | sl => rfl
theorem Sh.mono {W W' : World} {S S' : Bool → Nat → Prop} (hS : ∀ ln k, S ln k → S' ln k) (hW : ∀ ln k, S ln k → W'.heap[k]? = W.heap[k]?) {p : PV} {v : Value} (h : Sh W S p v) : Sh W' S' p v := by
  induction h with
  | s h => exact .s h
  | sl x h1 h2 h3 h4 h5 h6 ih =>
    refine .sl x h1 h2 h3 h4 (fun hne => ?_) ih
    obtain ⟨ad, e, hs, hc⟩ := h5 hne
    refine ⟨ad, e, hS _ _ hs, fun i r j p hi hj => ?_⟩
    rw [World.cell?_of_block (w := W) (w' := W') (by rw [add_blk]; exact hW _ _ hs)]
    exact hc i r j p hi hj
theorem Sh.nil (W : World) (S : Bool → Nat → Prop) (ln : Bool) (A : Option Addr) (c : Nat) (hc : c ≤ maxI) : Sh W S (.sh ln []) (.slice A 0 c) :=
  .sl (sz := 0) (fun _ _ => .nilIface) (Nat.zero_le _) hc (fun _ h => by cases h) (fun _ h => by cases h) (fun h => absurd rfl h) (fun i r j p h => by simp at h)

/-! What is the call's own. -/
def Blk.sz : Blk → Nat
  | .row _ _ s _ _ => s
  | .dead _ => 0
  | .mp _ _ => 0
def Blk.live : Blk → Prop
  | .row _ _ _ _ _ => True
  | .dead _ => False
  | .mp _ _ => False
/-- A header into a block. -/
def Hdr (W : World) (φ : Nat → Option Nat) (b : Nat) (blk : Blk) (off len : Nat) (v : Value) : Prop :=
  match blk with
  | .dead _ => True
  | .mp _ _ => True
  | .row _ T sz box rows => match φ b with
    | none => rows = [] ∧ off = 0 ∧ len = 0 ∧ ∃ a, v = .slice a 0 0
    | some g => ∃ A cap cs, v = .slice A len cap ∧ (cap = 0 ∨ A = some ⟨g, off * sz, none⟩) ∧ off + len ≤ rows.length ∧ len ≤ cap ∧ rows.length ≤ off + cap ∧ cap ≤ maxI ∧ W.heap[g]? = some (.cells cs T (0, 0)) ∧ (off + cap) * sz = cs.size
def Adr (φ : Nat → Option Nat) (b : Nat) (blk : Blk) (i j : Nat) (v : Value) : Prop :=
  match blk with
  | .dead _ => True
  | .mp _ _ => ∃ g, φ b = some g ∧ v = .map (some g)
  | .row _ _ sz _ _ => ∃ g, φ b = some g ∧ v = .pointer (some ⟨g, i * sz + j, none⟩)
def SaR (W : World) (S : Bool → Nat → Prop) (ln : Bool) (cs : List PV) (v : Value) : Prop :=
  ∃ (ad : Addr) (x : Nat → Value), v = .pointer (some ad) ∧ (cs ≠ [] → S ln ad.block) ∧ ∀ j p, cs[j]? = some p → W.cell? (ad.add j) = some (x j) ∧ Sh W S p (x j)
def RelC (W : World) (S : Bool → Nat → Prop) (φ : Nat → Option Nat) (H : Heap) : PV → Value → Prop
  | .u, v => v.oneCell' = true
  | .s v', v => v' = v ∧ v.oneCell' = true
  | .z, v => ∃ a, v = .slice a 0 0
  | .sh ln rows, v => Sh W S (.sh ln rows) v
  | .sl b ver off len, v => (∃ A l c, v = .slice A l c) ∧ ∃ blk, H b = some blk ∧ ver ≤ blk.ver ∧ (ver = blk.ver → Hdr W φ b blk off len v)
  | .ad b ver i j, v => (∃ p, v = .pointer (some p)) ∧ ∃ blk, H b = some blk ∧ ver ≤ blk.ver ∧ (ver = blk.ver → Adr φ b blk i j v)
  | .mp b ver, v => (∃ g, v = .map (some g)) ∧ ∃ blk, H b = some blk ∧ ver ≤ blk.ver ∧ (ver = blk.ver → Adr φ b blk 0 0 v)
  | .sa ln cs, v => SaR W S ln cs v
  | .fn f [], v => v = .func (.func f) #[] #[]
  | _, _ => False
def RelCs (W : World) (S : Bool → Nat → Prop) (φ : Nat → Option Nat) (H : Heap) (ps : List PV) (xs : List Value) : Prop :=
  xs.length = ps.length ∧ ∀ (i : Nat) (p : PV) (x : Value), ps[i]? = some p → xs[i]? = some x → RelC W S φ H p x
def RelA (W : World) (S : Bool → Nat → Prop) (φ : Nat → Option Nat) (H : Heap) : PV → Value → Prop
  | .u, _ => True
  | .ag cs, v => ∃ xs : List Value, v = .agg xs.toArray ∧ RelCs W S φ H cs xs
  | .fn f cs, v => ∃ xs : List Value, v = .func (.func f) #[] xs.toArray ∧ RelCs W S φ H cs xs
  | p, v => RelC W S φ H p v
def RelV (W : World) (S : Bool → Nat → Prop) (φ : Nat → Option Nat) (H : Heap) : PV → Value → Prop
  | .tu ps, v => ∃ xs : List Value, v = .tuple xs.toArray ∧ xs.length = ps.length ∧ ∀ (i : Nat) (p : PV) (x : Value), ps[i]? = some p → xs[i]? = some x → RelA W S φ H p x
  | p, v => RelA W S φ H p v
def BlkR (W : World) (S : Bool → Nat → Prop) (φ : Nat → Option Nat) (H : Heap) (b : Nat) : Blk → Prop
  | .dead _ => True
  | .mp _ _ => True
  | .row _ T sz box rows => match φ b with
    | none => rows = [] ∧ box = false
    | some g => ∃ cs, W.heap[g]? = some (.cells cs T (0, 0)) ∧ (∀ r ∈ rows, r.length = sz) ∧ rows.length * sz ≤ cs.size ∧ (rows.length ≤ maxI ∧ (box = true → cs.size = rows.length * sz)) ∧
        ∀ i r j p, rows[i]? = some r → r[j]? = some p → ∃ x, cs[i * sz + j]? = some x ∧ (if box = true then RelC W S φ H p x else p.perm = true ∧ Sh W S p x)

/-! What lasts. -/
structure Ext (W : World) (S : Bool → Nat → Prop) (φ : Nat → Option Nat) (H : Heap) (W' : World) (S' : Bool → Nat → Prop) (φ' : Nat → Option Nat) (H' : Heap) : Prop where
  sS : ∀ ln k, S ln k → S' ln k
  sW : ∀ ln k, S ln k → W'.heap[k]? = W.heap[k]?
  hdr : ∀ b blk, H b = some blk → ∃ blk', H' b = some blk' ∧ blk.ver ≤ blk'.ver ∧ (blk.ver = blk'.ver → (∀ off len v, Hdr W φ b blk off len v → Hdr W' φ' b blk' off len v) ∧ (∀ i j v, Adr φ b blk i j v → Adr φ' b blk' i j v))
section
variable {W W' : World} {S S' : Bool → Nat → Prop} {φ φ' : Nat → Option Nat} {H H' : Heap}
theorem SaR.mono (e : Ext W S φ H W' S' φ' H') {ln : Bool} {cs : List PV} {v : Value} (h : SaR W S ln cs v) : SaR W' S' ln cs v := by
  obtain ⟨ad, x, hv, hs, hc⟩ := h
  refine ⟨ad, x, hv, fun hne => e.sS _ _ (hs hne), fun j p hj => ?_⟩
  obtain ⟨h1, h2⟩ := hc j p hj
  have hne : cs ≠ [] := by rintro rfl; simp at hj
  refine ⟨?_, h2.mono e.sS e.sW⟩
  rw [World.cell?_of_block (w := W) (w' := W') (by rw [add_blk]; exact e.sW _ _ (hs hne))]
  exact h1
theorem RelC.mono (e : Ext W S φ H W' S' φ' H') {p : PV} {v : Value} (h : RelC W S φ H p v) : RelC W' S' φ' H' p v := by
  cases p with
  | u => exact h
  | s v' => exact h
  | z => exact h
  | sh ln rows => exact Sh.mono e.sS e.sW h
  | sl b ver off len =>
    obtain ⟨hp, blk, h1, h2, h3⟩ := h
    obtain ⟨blk', g1, g2, g3⟩ := e.hdr b blk h1
    refine ⟨hp, blk', g1, Nat.le_trans h2 g2, fun he => ?_⟩
    have hb : blk.ver = blk'.ver := by omega
    exact (g3 hb).1 _ _ _ (h3 (by omega))
  | ad b ver i j =>
    obtain ⟨hp, blk, h1, h2, h3⟩ := h
    obtain ⟨blk', g1, g2, g3⟩ := e.hdr b blk h1
    refine ⟨hp, blk', g1, Nat.le_trans h2 g2, fun he => ?_⟩
    have hb : blk.ver = blk'.ver := by omega
    exact (g3 hb).2 _ _ _ (h3 (by omega))
  | mp b ver =>
    obtain ⟨hp, blk, h1, h2, h3⟩ := h
    obtain ⟨blk', g1, g2, g3⟩ := e.hdr b blk h1
    refine ⟨hp, blk', g1, Nat.le_trans h2 g2, fun he => ?_⟩
    have hb : blk.ver = blk'.ver := by omega
    exact (g3 hb).2 _ _ _ (h3 (by omega))
  | sa ln cs => exact SaR.mono e h
  | fn f caps => cases caps <;> exact h
  | ag cs => exact h.elim
  | tu cs => exact h.elim
  | ow T rows => exact h.elim
  | bx T cells => exact h.elim
theorem RelCs.mono (e : Ext W S φ H W' S' φ' H') {ps : List PV} {xs : List Value} (h : RelCs W S φ H ps xs) : RelCs W' S' φ' H' ps xs := ⟨h.1, fun i p x hp hx => (h.2 i p x hp hx).mono e⟩
theorem RelA.mono (e : Ext W S φ H W' S' φ' H') {p : PV} {v : Value} (h : RelA W S φ H p v) : RelA W' S' φ' H' p v := by
  cases p with
  | ag cs => obtain ⟨xs, h1, h2⟩ := h; exact ⟨xs, h1, h2.mono e⟩
  | fn f cs => obtain ⟨xs, h1, h2⟩ := h; exact ⟨xs, h1, h2.mono e⟩
  | u => trivial
  | s a => exact RelC.mono (p := (.s a)) e h
  | z => exact RelC.mono (p := .z) e h
  | sh a b => exact RelC.mono (p := (.sh a b)) e h
  | sl a b c d => exact RelC.mono (p := (.sl a b c d)) e h
  | ad a b c d => exact RelC.mono (p := (.ad a b c d)) e h
  | mp a b => exact RelC.mono (p := (.mp a b)) e h
  | sa a b => exact RelC.mono (p := (.sa a b)) e h
  | ow a b => exact h.elim
  | bx a b => exact h.elim
  | tu a => exact h.elim
theorem RelV.mono (e : Ext W S φ H W' S' φ' H') {p : PV} {v : Value} (h : RelV W S φ H p v) : RelV W' S' φ' H' p v := by
  cases p with
  | tu ps => obtain ⟨xs, h1, h2, h3⟩ := h; exact ⟨xs, h1, h2, fun i p x hp hx => (h3 i p x hp hx).mono e⟩
  | ag cs => exact RelA.mono (p := .ag cs) e h
  | fn f cs => exact RelA.mono (p := .fn f cs) e h
  | u => trivial
  | s a => exact RelC.mono (p := (.s a)) e h
  | z => exact RelC.mono (p := .z) e h
  | sh a b => exact RelC.mono (p := (.sh a b)) e h
  | sl a b c d => exact RelC.mono (p := (.sl a b c d)) e h
  | ad a b c d => exact RelC.mono (p := (.ad a b c d)) e h
  | mp a b => exact RelC.mono (p := (.mp a b)) e h
  | sa a b => exact RelC.mono (p := (.sa a b)) e h
  | ow a b => exact h.elim
  | bx a b => exact h.elim
theorem RelA_of_RelC {p : PV} {v : Value} (h : RelC W S φ H p v) : RelA W S φ H p v := by
  cases p with
  | ag cs => exact h.elim
  | fn f cs => cases cs with
    | nil => exact ⟨[], h, rfl, fun i p x hp => by simp at hp⟩
    | cons a l => exact h.elim
  | u => trivial
  | _ => exact h
theorem RelV_of_RelA {p : PV} {v : Value} (h : RelA W S φ H p v) : RelV W S φ H p v := by
  cases p with
  | tu ps => exact h.elim
  | _ => exact h
theorem RelV_of_RelC {p : PV} {v : Value} (h : RelC W S φ H p v) : RelV W S φ H p v := RelV_of_RelA (RelA_of_RelC h)
theorem RelC_of_Sh {p : PV} {v : Value} (hp : Sh W S p v) : RelC W S φ H p v := by
  cases hp with
  | s h => exact ⟨rfl, h⟩
  | sl x h1 h2 h3 h4 h5 h6 => exact .sl x h1 h2 h3 h4 h5 h6
/-- A block that nothing touches. -/
theorem BlkR.mono (e : Ext W S φ H W' S' φ' H') {b : Nat} {blk : Blk} (h : BlkR W S φ H b blk) (hφ : φ' b = φ b) (hW : blk.live → ∀ g, φ b = some g → W'.heap[g]? = W.heap[g]?) : BlkR W' S' φ' H' b blk := by
  cases blk with
  | dead v => trivial
  | mp v ks => trivial
  | row v T sz box rows =>
    simp only [BlkR, hφ] at h ⊢
    cases hg : φ b with
    | none => simpa only [hg] using h
    | some g =>
      simp only [hg] at h ⊢
      obtain ⟨cs, h1, h2, h3, h4, h5⟩ := h
      refine ⟨cs, (hW trivial g hg).trans h1, h2, h3, h4, fun i r j p hi hj => ?_⟩
      obtain ⟨x, hx, hr⟩ := h5 i r j p hi hj
      refine ⟨x, hx, ?_⟩
      split
      · rename_i hb; rw [if_pos hb] at hr; exact hr.mono e
      · rename_i hb; rw [if_neg hb] at hr; exact ⟨hr.1, hr.2.mono e.sS e.sW⟩
end

/-! A whole state. -/
/-- What was there at the start; the places that are never written. -/
structure Base where
  s : Bool → Nat → Prop
  par : Nat → Option Value
instance : CoeFun Base (fun _ => Bool → Nat → Prop) := ⟨Base.s⟩
/-- Sets in the world. -/
def SetR (es : Array MapEntry) (ks : List Int) : Prop := es.toList.map (fun e => (e.key, e.val)) = ks.map fun n => (Value.int .u64 n, Value.bool true)
def MpOk (W0 : World) (O0 : List Nat) (S : Bool → Nat → Prop) (φ : Nat → Option Nat) (H : Heap) (W : World) : Prop :=
  ∀ b v ks, H b = some (.mp v ks) → ∃ g es c, φ b = some g ∧ W.heap[g]? = some (.map es c) ∧ SetR es ks ∧ ¬ S true g ∧ (g ∈ O0 ∨ W0.heap.size ≤ g) ∧ ∀ b' v' ks', H b' = some (.mp v' ks') → φ b' = some g → b' = b
theorem MpOk.mono {W0 W W' : World} {O0 : List Nat} {S S' : Bool → Nat → Prop} {φ φ' : Nat → Option Nat} {H H' : Heap} (h : MpOk W0 O0 S φ H W) (hH : ∀ b v ks, H' b = some (.mp v ks) → (∃ v0, H b = some (.mp v0 ks)) ∧ φ' b = φ b)
    (hW : ∀ b v ks g, H b = some (.mp v ks) → φ b = some g → W'.heap[g]? = W.heap[g]?) (hS : ∀ b v ks g, H b = some (.mp v ks) → φ b = some g → ¬ S true g → ¬ S' true g) : MpOk W0 O0 S' φ' H' W' := by
  intro b v ks hb
  obtain ⟨⟨v0, h1⟩, h2⟩ := hH b v ks hb
  obtain ⟨g, es, c, k1, k2, k3, k4, k5, k6⟩ := h b v0 ks h1
  refine ⟨g, es, c, h2.trans k1, (hW b v0 ks g h1 k1).trans k2, k3, hS b v0 ks g h1 k1 k4, k5, fun b' v' ks' hb' hg' => ?_⟩
  obtain ⟨⟨v1, q1⟩, q2⟩ := hH b' v' ks' hb'
  exact k6 b' v1 ks' q1 (q2.symm.trans hg')
structure Rel (W0 : World) (O0 : List Nat) (S0 : Base) (S : Bool → Nat → Prop) (φ : Nat → Option Nat) (st : St) (a : Act) (W : World) : Prop where
  keep : Keep W0 W (fun k => k ∈ O0)
  own : ∀ b v T sz box rows g, st.hp b = some (.row v T sz box rows) → φ b = some g → ¬ S true g ∧ (g ∈ O0 ∨ W0.heap.size ≤ g)
  inj : ∀ b b' v v' T T' sz sz' box box' rows rows' g, st.hp b = some (.row v T sz box rows) → st.hp b' = some (.row v' T' sz' box' rows') → φ b = some g → φ b' = some g → b = b'
  blk : ∀ b blk, st.hp b = some blk → BlkR W S φ st.hp b blk
  mps : MpOk W0 O0 S φ st.hp W
  sl : ∀ t, RelV W S φ st.hp (st.sl t) (a.tmps.getD t undef)
  sle : ∀ k, S false k → S true k
  slt : ∀ k, S true k → k < W.heap.size
  s0 : ∀ ln k, S0 ln k → S ln k
  s1 : ∀ k, S true k → S0 true k ∨ S false k
  s2 : ∀ k, S false k → S0 false k ∨ k ∈ O0 ∨ W0.heap.size ≤ k
  dfr : a.defers = []
  par : ∀ i v, S0.par i = some v → a.tmps.getD i undef = v

section
variable {W0 W W' : World} {O0 : List Nat} {S0 : Base} {S S' : Bool → Nat → Prop} {φ φ' : Nat → Option Nat} {st : St} {a : Act}
theorem Rel.ev (h : Rel W0 O0 S0 S φ st a W) (x : Operand) : RelV W S φ st.hp (st.ev x) (a.eval x) := by
  cases x with
  | tmp t => exact h.sl t
  | const v =>
    cases v <;> first
      | exact ⟨rfl, rfl⟩
      | trivial
      | (rename_i A l c
         cases A with
         | none => cases l with
           | zero => cases c with
             | zero => exact ⟨none, rfl⟩
             | succ c => trivial
           | succ l => trivial
         | some A => trivial)
  | global g => trivial
  | func f => exact ⟨[], rfl, rfl, fun i p x hp => by simp at hp⟩
theorem Rel.sz (h : Rel W0 O0 S0 S φ st a W) {b v T sz : Nat} {box : Bool} {rows : List (List PV)} {g : Nat} (hb : st.hp b = some (.row v T sz box rows)) (hg : φ b = some g) : g < W.heap.size := by
  have := h.blk b _ hb
  simp only [BlkR, hg] at this
  obtain ⟨cs, h1, _⟩ := this
  exact (Array.getElem?_eq_some_iff.1 h1).1
theorem getD_put {a : Act} {d : Nat} {v : Value} (hd : d < a.tmps.size) (t : Nat) : (a.put (some d) v).tmps.getD t undef = if t = d then v else a.tmps.getD t undef := by
  simp only [Act.put, Array.getD_eq_getD_getElem?, Array.getElem?_setIfInBounds]
  by_cases h : d = t
  · subst h; simp [hd]
  · rw [if_neg (fun e : t = d => h e.symm), if_neg h]
theorem Rel.mz (h : Rel W0 O0 S0 S φ st a W) {b v : Nat} {ks : List Int} {g : Nat} (hb : st.hp b = some (.mp v ks)) (hg : φ b = some g) : g < W.heap.size := by
  obtain ⟨g', es, c, k1, k2, _⟩ := h.mps b v ks hb
  rw [hg] at k1
  cases k1
  exact (Array.getElem?_eq_some_iff.1 k2).1
/-- Only a place changes; the world may have drawn, or grown. -/
theorem Rel.put_plain (h : Rel W0 O0 S0 S φ st a W) (hk : Keep W W' (fun _ => False)) {d : Option Nat} {p : PV} {v : Value} (hd : ∀ t, d = some t → t < a.tmps.size ∧ S0.par t = none) (hv : d.isSome = true → RelV W' S φ st.hp p v) :
    Rel W0 O0 S0 S φ (st.put d p []) (a.put d v) W' := by
  have hW : ∀ k, k < W.heap.size → W'.heap[k]? = W.heap[k]? := fun k hk' => hk.block k hk' (fun x => x)
  have e : Ext W S φ st.hp W' S φ st.hp := by
    refine ⟨fun _ _ hs => hs, fun ln k hs => hW k (h.slt k (by cases ln; exact h.sle k hs; exact hs)), fun b blk hb => ⟨blk, hb, Nat.le_refl _, fun _ => ⟨fun off len v hh => ?_, fun i j v hh => hh⟩⟩⟩
    cases blk with
    | dead v => trivial
    | mp v ks => trivial
    | row ver T sz box rows =>
      simp only [Hdr] at hh ⊢
      cases hg : φ b with
      | none => simpa only [hg] using hh
      | some g =>
        simp only [hg] at hh ⊢
        obtain ⟨A, cap, cs, h1, h2, h3, h4, h5, h6, h7, h8⟩ := hh
        exact ⟨A, cap, cs, h1, h2, h3, h4, h5, h6, (hW g (h.sz hb hg)).trans h7, h8⟩
  have hsl : ∀ t, RelV W' S φ st.hp ((st.put d p []).sl t) ((a.put d v).tmps.getD t undef) := by
    intro t
    cases d with
    | none => exact (h.sl t).mono e
    | some d =>
      rw [getD_put (hd d rfl).1]
      simp only [St.put, upd]
      split
      · exact hv rfl
      · exact (h.sl t).mono e
  exact { keep := h.keep.trans hk (fun j hj => hj.elim), own := h.own, inj := h.inj,
          blk := fun b blk hb => (h.blk b blk hb).mono e rfl (fun hl g hg => by
            cases blk with
            | dead v => exact hl.elim
            | mp v ks => exact hl.elim
            | row ver T sz box rows => exact hW g (h.sz hb hg)),
          mps := h.mps.mono (fun b v ks hb => ⟨⟨v, hb⟩, rfl⟩) (fun b v ks g hb hg => hW g (h.mz hb hg)) (fun _ _ _ _ _ _ k => k),
          sl := hsl, sle := h.sle, slt := fun k hk' => Nat.lt_of_lt_of_le (h.slt k hk') hk.size, s0 := h.s0, s1 := h.s1, s2 := h.s2, dfr := by cases d <;> exact h.dfr, par := fun i w hi => by
            cases d with
            | none => exact h.par i w hi
            | some d =>
              rw [getD_put (hd d rfl).1, if_neg (fun e => by subst e; rw [(hd i rfl).2] at hi; cases hi)]
              exact h.par i w hi }
end
end Go.Pi
