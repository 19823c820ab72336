/- What an argument reads as, in the reading's values. Own work of this session. -/
import Derived.Test.YtpjdoblfdeioaaaQbody
import Derived.Test.YtpjdoblfdeioaaaRows
import Derived.DataReads
import GoSem.ClaimChange
set_option linter.unusedVariables false
set_option linter.unusedSimpArgs false
namespace Go.Pi
/-- All that is there is never written again. -/
def All (W : World) : Bool → Nat → Prop := fun _ k => k < W.heap.size
/-- Cells that read as told. -/
def RelS (W : World) (ps : List PV) (cs : List Value) : Prop := cs.length = ps.length ∧ ∀ (i : Nat) (p : PV) (v : Value), ps[i]? = some p → cs[i]? = some v → p.perm = true ∧ Sh W (All W) p v
theorem RelS.nil {W : World} : RelS W [] [] := ⟨rfl, fun i p v h => by simp at h⟩
theorem RelS.one {W : World} {p : PV} {v : Value} (hp : p.perm = true) (h : Sh W (All W) p v) : RelS W [p] [v] := ⟨rfl, fun i q w h1 h2 => by
  cases i with
  | zero => simp only [List.getElem?_cons_zero, Option.some.injEq] at h1 h2; subst h1; subst h2; exact ⟨hp, h⟩
  | succ i => simp at h1⟩
theorem RelS.append {W : World} {ps qs : List PV} {cs ds : List Value} (h : RelS W ps cs) (h' : RelS W qs ds) : RelS W (ps ++ qs) (cs ++ ds) := by
  refine ⟨by rw [List.length_append, List.length_append, h.1, h'.1], fun i p v h1 h2 => ?_⟩
  rw [List.getElem?_append] at h1 h2
  rw [h.1] at h2
  split at h1
  · rename_i hlt
    rw [if_pos hlt] at h2
    exact h.2 i p v h1 h2
  · rename_i hlt
    rw [if_neg hlt] at h2
    exact h'.2 _ p v h1 h2
open Go.Proofs.Ytpjdoblfdeioaaa
theorem bulk_part {H : Type} {d : DataW H} {l : List (DataW H)} (h : d ∈ l) : Rows.uptoBulk d ≤ Rows.uptoBulkAll l := by
  induction l with
  | nil => cases h
  | cons x r ih =>
    simp only [Rows.uptoBulkAll]
    cases List.mem_cons.1 h with
    | inl e => subst e; omega
    | inr e => have := ih e; omega
theorem bulk_one {H : Type} (d : DataW H) : 1 ≤ Rows.uptoBulk d := by
  cases d with
  | lit l => cases l <;> simp [Rows.uptoBulk]
  | nil => simp [Rows.uptoBulk]
  | ptr d => simp [Rows.uptoBulk]
  | slice elems spare => simp [Rows.uptoBulk]
  | agg parts => simp [Rows.uptoBulk]
  | iface t d => simp [Rows.uptoBulk]
  | map entries => simp [Rows.uptoBulk]
  | held h => simp [Rows.uptoBulk]
theorem bulk_len {H : Type} (l : List (DataW H)) : l.length ≤ Rows.uptoBulkAll l := by
  induction l with
  | nil => simp [Rows.uptoBulkAll]
  | cons x r ih => have := bulk_one x; simp only [Rows.uptoBulkAll, List.length_cons]; omega
theorem bulk_slice {H : Type} (elems spare : List (DataW H)) : Rows.uptoBulkAll elems ≤ Rows.uptoBulk (.slice elems spare) ∧ elems.length ≤ Rows.uptoBulk (.slice elems spare) := by
  have h1 := bulk_len elems
  simp only [Rows.uptoBulk]
  omega
theorem bulk_agg {H : Type} (l : List (DataW H)) : Rows.uptoBulkAll l ≤ Rows.uptoBulk (.agg l) := by
  simp only [Rows.uptoBulk]
  omega
theorem bulk_str {H : Type} (bytes : List UInt8) : Rows.uptoBulk (DataW.lit (H := H) (.string bytes)) = bytes.length + 1 := by
  simp [Rows.uptoBulk]
structure Kod (P : Program) (t : Nat) (α : Type) where
  row : α → List PV
  ok : Nat → α → Prop
  mono : ∀ (N M : Nat) (x : α), N ≤ M → ok N x → ok M x
  size : ∀ x, (row x).length = P.cellsOf t
  opn : ∀ {H : Type} (enc : TypeId × Value → H) (W : World) (base : Nat) (spare : Nat → Bool) (held : Bool) (fuel : Nat) (cs : List Value) (d : DataW H) (ps : List MemPlace), DataW.trod enc P W base spare held fuel t cs = some (d, ps) → ∃ x, ok (Rows.uptoBulk d) x ∧ RelS W (row x) cs
section
variable {P : Program}
theorem cellsOf_one {t : Nat} (h : (P.info? t).map (·.size) = some 1) : P.cellsOf t = 1 := by unfold Program.cellsOf; rw [h]; rfl
def Kod.int {t : Nat} (k : IntKind) (h : P.underlying t = some (.int k)) (hs : P.cellsOf t = 1) : Kod P t Int where
  row n := [.s (.int k n)]
  ok _ n := (Lit.int k n).wf = true
  mono := fun _ _ _ _ h => h
  size _ := hs.symm
  opn := by
    intro H enc W base spare held fuel cs d ps hd
    cases fuel with
    | zero => simp [DataW.trod] at hd
    | succ fuel =>
      simp only [DataW.trod, h] at hd
      split at hd <;> try (simp_all; done)
      rename_i k2 k' n h1
      cases h1
      split at hd
      · rename_i hc
        obtain ⟨rfl, hw⟩ := hc
        exact ⟨n, hw, RelS.one rfl (.s rfl)⟩
      · cases hd
def Kod.bool {t : Nat} (h : P.underlying t = some .bool) (hs : P.cellsOf t = 1) : Kod P t Bool where
  row b := [.s (.bool b)]
  ok _ _ := True
  mono := fun _ _ _ _ h => h
  size _ := hs.symm
  opn := by
    intro H enc W base spare held fuel cs d ps hd
    cases fuel with
    | zero => simp [DataW.trod] at hd
    | succ fuel =>
      simp only [DataW.trod, h] at hd
      split at hd <;> try (simp_all; done)
      rename_i b _
      exact ⟨b, trivial, RelS.one rfl (.s rfl)⟩
def Kod.str {t : Nat} (h : P.underlying t = some .string) (hs : P.cellsOf t = 1) : Kod P t ByteArray where
  row s := [.s (.string s)]
  ok N s := s.size ≤ maxI ∧ s.size ≤ N
  mono := fun _ _ _ hN h => ⟨h.1, Nat.le_trans h.2 hN⟩
  size _ := hs.symm
  opn := by
    intro H enc W base spare held fuel cs d ps hd
    cases fuel with
    | zero => simp [DataW.trod] at hd
    | succ fuel =>
      simp only [DataW.trod, h] at hd
      split at hd <;> try (simp_all; done)
      rename_i s _
      split at hd
      · rename_i hc
        simp only [Option.some.injEq, Prod.mk.injEq] at hd
        obtain ⟨rfl, _⟩ := hd
        exact ⟨s, ⟨hc, by rw [bulk_str]; simp⟩, RelS.one rfl (.s rfl)⟩
      · cases hd
/-- A list out of what holds at each place. -/
theorem list_of {α : Type} {R : Nat → α → Prop} : ∀ (n : Nat), (∀ i, i < n → ∃ x, R i x) → ∃ xs : List α, xs.length = n ∧ ∀ (i : Nat) (x : α), xs[i]? = some x → R i x
  | 0, _ => ⟨[], rfl, fun i x h => by simp at h⟩
  | n + 1, h => by
    obtain ⟨xs, h1, h2⟩ := list_of n (fun i hi => h i (by omega))
    obtain ⟨x, hx⟩ := h n (Nat.lt_succ_self n)
    refine ⟨xs ++ [x], by simp [h1], fun i y hy => ?_⟩
    rw [List.getElem?_append] at hy
    split at hy
    · exact h2 i y hy
    · rename_i hlt
      have hi : i = n := by
        have := (List.getElem?_eq_some_iff.1 hy).1
        simp at this
        omega
      subst hi
      rw [h1, Nat.sub_self] at hy
      simp only [List.getElem?_cons_zero, Option.some.injEq] at hy
      subst hy
      exact hx
theorem cellsOf_szOf (t : Nat) : P.cellsOf t = szOf P t := by
  unfold Program.cellsOf szOf
  cases P.info? t <;> rfl
def Kod.slice {t e : Nat} {α : Type} (c : Kod P e α) (h : P.underlying t = some (.slice e)) (hs : P.cellsOf t = 1) (he : 0 < P.cellsOf e) : Kod P t (List α) where
  row xs := [.sh false (xs.map c.row)]
  ok N xs := (∀ x ∈ xs, c.ok N x) ∧ xs.length ≤ maxI ∧ xs.length ≤ N
  mono := fun _ _ _ hN h => ⟨fun x hx => c.mono _ _ x hN (h.1 x hx), h.2.1, Nat.le_trans h.2.2 hN⟩
  size _ := hs.symm
  opn := by
    intro H enc W base spare held fuel cs d ps hd
    cases fuel with
    | zero => simp [DataW.trod] at hd
    | succ fuel =>
      simp only [DataW.trod, h] at hd
      split at hd <;> try (simp_all; done)
      · rename_i h1
        exact ⟨[], ⟨fun x hx => absurd hx (by simp), Nat.zero_le _, Nat.zero_le _⟩, RelS.one rfl (Sh.nil W (All W) false none 0 (Nat.zero_le _))⟩
      · rename_i e' ad len cap h1
        cases h1
        split at hd
        · rename_i hc
          obtain ⟨hb, hl, hm⟩ := hc
          cases hel : (List.range len).mapM (fun i => (W.cells? base (ad.add (i * P.cellsOf e)) (P.cellsOf e)).bind (DataW.trod enc P W base spare held fuel e)) with
          | none => rw [hel] at hd; simp at hd
          | some elems =>
            obtain ⟨rest, hd2⟩ : ∃ rest : List (DataW H × List MemPlace), d = .slice (elems.map (·.1)) (rest.map (·.1)) := by
              rw [hel] at hd
              simp only [Option.bind_some] at hd
              obtain ⟨rest, _, he⟩ := Option.map_eq_some_iff.1 hd
              exact ⟨rest, (Prod.mk.inj he).1.symm⟩
            subst hd2
            have hbulk := bulk_slice (elems.map (·.1)) (rest.map (·.1))
            have each : ∀ i, i < len → ∃ x : α, c.ok (Rows.uptoBulk (DataW.slice (elems.map (·.1)) (rest.map (·.1)))) x ∧ ∃ ds, W.cells? base (ad.add (i * P.cellsOf e)) (P.cellsOf e) = some ds ∧ RelS W (c.row x) ds := by
              intro i hi
              have hlen : i < elems.length := by rw [mapM_some_length hel]; simpa using hi
              have hg := mapM_some_get hel i i (by simp [hi])
              rw [List.getElem?_eq_getElem hlen] at hg
              cases hcs : W.cells? base (ad.add (i * P.cellsOf e)) (P.cellsOf e) with
              | none => rw [hcs] at hg; simp at hg
              | some ds =>
                rw [hcs] at hg
                simp only [Option.bind_some] at hg
                obtain ⟨x, hx, hr⟩ := c.opn enc W base spare held fuel ds _ _ hg
                refine ⟨x, c.mono _ _ x ?_ hx, ds, rfl, hr⟩
                exact Nat.le_trans (bulk_part (List.mem_map.2 ⟨elems[i], List.getElem_mem hlen, rfl⟩)) hbulk.1
            obtain ⟨xs, hxl, hxs⟩ := list_of len each
            refine ⟨xs, ⟨fun x hx => ?_, by rw [hxl]; exact Nat.le_trans hl hm, ?_⟩, RelS.one rfl ?_⟩
            · obtain ⟨i, hi⟩ := List.getElem?_of_mem hx
              exact (hxs i x hi).1
            · have h9 := mapM_some_length hel
              have h8 := hbulk.2
              rw [List.length_map] at h8
              rw [List.length_range] at h9
              rw [hxl]
              omega
            · have hcell : ∀ i x j p, xs[i]? = some x → (c.row x)[j]? = some p → ∃ v, W.cell? (ad.add (i * P.cellsOf e + j)) = some v ∧ p.perm = true ∧ Sh W (All W) p v := by
                intro i x j p hi hj
                obtain ⟨_, ds, hds, hr⟩ := hxs i x hi
                obtain ⟨_, k2, k3⟩ := World.cells?_some hds
                have hjl : j < P.cellsOf e := by rw [← c.size x]; exact (List.getElem?_eq_some_iff.1 hj).1
                have hjd : j < ds.length := by omega
                have hv := List.getElem?_eq_getElem hjd
                have := k3 j hjl
                rw [add_add, hv] at this
                exact ⟨_, this, hr.2 j p _ hj hv⟩
              have key := Sh.sl (W := W) (S := All W) (ln := false) (rows := xs.map c.row) (A := some ad) (c := cap) (sz := P.cellsOf e) (fun i j => (W.cell? (ad.add (i * P.cellsOf e + j))).getD undef) (by rw [List.length_map, hxl]; exact hl) hm
                (fun r hr => by obtain ⟨x, _, rfl⟩ := List.mem_map.1 hr; exact c.size x)
                (fun r hr p hp => by
                  obtain ⟨x, hx, rfl⟩ := List.mem_map.1 hr
                  obtain ⟨i, hi⟩ := List.getElem?_of_mem hx
                  obtain ⟨j, hj⟩ := List.getElem?_of_mem hp
                  obtain ⟨_, _, hp', _⟩ := hcell i x j p hi hj
                  exact hp')
                (fun hne => ⟨ad, rfl, by
                  have hx0 : xs ≠ [] := fun e => hne (by rw [e]; rfl)
                  have h0 : 0 < xs.length := List.length_pos_iff.2 hx0
                  have hi := List.getElem?_eq_getElem h0
                  have hsz : 0 < (c.row xs[0]).length := by rw [c.size]; exact he
                  obtain ⟨v, hv, _⟩ := hcell 0 xs[0] 0 _ hi (List.getElem?_eq_getElem hsz)
                  have := World.block_lt_of_cell? W _ hv
                  rw [add_blk] at this
                  exact this, fun i r j p hi hj => by
                  rw [List.getElem?_map] at hi
                  cases hx : xs[i]? with
                  | none => rw [hx] at hi; cases hi
                  | some x =>
                    rw [hx] at hi
                    simp only [Option.map_some, Option.some.injEq] at hi
                    subst hi
                    obtain ⟨v, hv, _⟩ := hcell i x j p hx hj
                    rw [hv]; rfl⟩)
                (fun i r j p hi hj => by
                  rw [List.getElem?_map] at hi
                  cases hx : xs[i]? with
                  | none => rw [hx] at hi; cases hi
                  | some x =>
                    rw [hx] at hi
                    simp only [Option.map_some, Option.some.injEq] at hi
                    subst hi
                    obtain ⟨v, hv, _, hsh⟩ := hcell i x j p hx hj
                    rw [hv]; exact hsh)
              rw [List.length_map, hxl] at key
              exact key
        · cases hd
/-- A struct's fields from one on: where the first begins. -/
structure Fod (P : Program) (off : Nat) (fs : List Field) (α : Type) where
  row : α → List PV
  ok : Nat → α → Prop
  mono : ∀ (N M : Nat) (x : α), N ≤ M → ok N x → ok M x
  len : Nat
  size : ∀ x, (row x).length = len
  opn : ∀ {H : Type} (enc : TypeId × Value → H) (W : World) (base : Nat) (spare : Nat → Bool) (held : Bool) (fuel : Nat) (cs : List Value) (xs : List (DataW H × List MemPlace)), cs.length = off + len →
    fs.mapM (fun f => DataW.trod enc P W base spare held fuel f.type ((cs.drop f.offset).take (P.cellsOf f.type))) = some xs → ∀ N, (∀ y ∈ xs, Rows.uptoBulk y.1 ≤ N) → ∃ x, ok N x ∧ RelS W (row x) (cs.drop off)
def Fod.nil {off : Nat} : Fod P off [] Unit where
  row _ := []
  ok _ _ := True
  mono := fun _ _ _ _ h => h
  len := 0
  size _ := rfl
  opn := by
    intro H enc W base spare held fuel cs xs hl h N _
    refine ⟨(), trivial, ?_⟩
    rw [List.drop_eq_nil_of_le (by omega)]
    exact RelS.nil
def Fod.cons {off : Nat} {f : Field} {fs : List Field} {α β : Type} (c : Kod P f.type α) (ho : f.offset = off) (r : Fod P (off + P.cellsOf f.type) fs β) : Fod P off (f :: fs) (α × β) where
  row x := c.row x.1 ++ r.row x.2
  ok N x := c.ok N x.1 ∧ r.ok N x.2
  mono := fun _ _ _ hN h => ⟨c.mono _ _ _ hN h.1, r.mono _ _ _ hN h.2⟩
  len := P.cellsOf f.type + r.len
  size x := by rw [List.length_append, c.size, r.size]
  opn := by
    intro H enc W base spare held fuel cs xs hl h N hN
    simp only [List.mapM_cons, Option.bind_eq_bind, Option.pure_def] at h
    cases h1 : DataW.trod enc P W base spare held fuel f.type ((cs.drop f.offset).take (P.cellsOf f.type)) with
    | none => simp [h1] at h
    | some y =>
      simp only [h1, Option.bind_some] at h
      cases h2 : fs.mapM (fun f => DataW.trod enc P W base spare held fuel f.type ((cs.drop f.offset).take (P.cellsOf f.type))) with
      | none => simp [h2] at h
      | some ys =>
        rw [h2] at h
        simp only [Option.bind_some, Option.some.injEq] at h
        subst h
        obtain ⟨x, hx, hr⟩ := c.opn enc W base spare held fuel _ _ _ h1
        obtain ⟨z, hz, hs⟩ := r.opn enc W base spare held fuel cs ys (by omega) h2 N (fun q hq => hN q (List.mem_cons_of_mem _ hq))
        refine ⟨(x, z), ⟨c.mono _ _ x (hN y List.mem_cons_self) hx, hz⟩, ?_⟩
        have e : cs.drop off = (cs.drop f.offset).take (P.cellsOf f.type) ++ cs.drop (off + P.cellsOf f.type) := by
          rw [ho, ← List.drop_drop, List.take_append_drop]
        rw [e]
        exact hr.append hs
def Kod.struct {t : Nat} {fs : Array Field} {α : Type} (r : Fod P 0 fs.toList α) (h : P.underlying t = some (.struct fs)) (hs : P.cellsOf t = r.len) : Kod P t α where
  row := r.row
  ok := r.ok
  mono := r.mono
  size x := by rw [r.size, hs]
  opn := by
    intro H enc W base spare held fuel cs d ps hd
    cases fuel with
    | zero => simp [DataW.trod] at hd
    | succ fuel =>
      simp only [DataW.trod, h] at hd
      split at hd
      · rename_i hl
        cases hm : fs.toList.mapM (fun f => DataW.trod enc P W base spare held fuel f.type ((cs.drop f.offset).take (P.cellsOf f.type))) with
        | none => rw [hm] at hd; simp at hd
        | some xs =>
          rw [hm] at hd
          simp only [Option.map_some, Option.some.injEq, Prod.mk.injEq] at hd
          obtain ⟨rfl, _⟩ := hd
          obtain ⟨x, hx, hr⟩ := r.opn enc W base spare held fuel cs xs (by omega) hm (Rows.uptoBulk (DataW.agg (xs.map (·.1)))) (fun y hy => Nat.le_trans (bulk_part (List.mem_map.2 ⟨y, hy, rfl⟩)) (bulk_agg _))
          exact ⟨x, hx, by simpa using hr⟩
      · cases hd
def Kod.arr {t e n : Nat} {α : Type} (c : Kod P e α) (h : P.underlying t = some (.array n e)) (hs : P.cellsOf t = n * P.cellsOf e) : Kod P t {l : List α // l.length = n} where
  row x := x.1.flatMap c.row
  ok N x := ∀ y ∈ x.1, c.ok N y
  mono := fun _ _ _ hN h y hy => c.mono _ _ y hN (h y hy)
  size x := by
    rw [hs]
    obtain ⟨l, hl⟩ := x
    simp only []
    have key : ∀ l : List α, (l.flatMap c.row).length = l.length * P.cellsOf e := by
      intro l
      induction l with
      | nil => simp
      | cons a l ih => rw [List.flatMap_cons, List.length_append, c.size, ih, List.length_cons, Nat.add_mul, Nat.one_mul, Nat.add_comm]
    rw [key, hl]
  opn := by
    intro H enc W base spare held fuel cs d ps hd
    cases fuel with
    | zero => simp [DataW.trod] at hd
    | succ fuel =>
      simp only [DataW.trod, h] at hd
      split at hd
      · rename_i hl
        cases hm : (List.range n).mapM (fun i => DataW.trod enc P W base spare held fuel e ((cs.drop (i * P.cellsOf e)).take (P.cellsOf e))) with
        | none => rw [hm] at hd; simp at hd
        | some elems =>
          rw [hm] at hd
          simp only [Option.map_some, Option.some.injEq, Prod.mk.injEq] at hd
          obtain ⟨rfl, _⟩ := hd
          have each : ∀ i, i < n → ∃ x : α, c.ok (Rows.uptoBulk (DataW.agg (elems.map (·.1)))) x ∧ RelS W (c.row x) ((cs.drop (i * P.cellsOf e)).take (P.cellsOf e)) := by
            intro i hi
            have hlen : i < elems.length := by rw [mapM_some_length hm]; simpa using hi
            have hg := mapM_some_get hm i i (by simp [hi])
            rw [List.getElem?_eq_getElem hlen] at hg
            obtain ⟨x, hx, hr⟩ := c.opn enc W base spare held fuel _ _ _ hg
            exact ⟨x, c.mono _ _ x (Nat.le_trans (bulk_part (List.mem_map.2 ⟨elems[i], List.getElem_mem hlen, rfl⟩)) (bulk_agg _)) hx, hr⟩
          obtain ⟨xs, hxl, hxs⟩ := list_of n each
          refine ⟨⟨xs, hxl⟩, fun y hy => ?_, ?_⟩
          · obtain ⟨i, hi⟩ := List.getElem?_of_mem hy
            exact (hxs i y hi).1
          · have key : ∀ m, m ≤ n → RelS W ((xs.take m).flatMap c.row) (cs.take (m * P.cellsOf e)) := by
              intro m
              induction m with
              | zero => intro _; simpa using RelS.nil
              | succ m ih =>
                intro hm'
                have hi := List.getElem?_eq_getElem (l := xs) (i := m) (by omega)
                have e1 : xs.take (m + 1) = xs.take m ++ [xs[m]] := by rw [List.take_add_one, hi]; rfl
                have e2 : cs.take ((m + 1) * P.cellsOf e) = cs.take (m * P.cellsOf e) ++ (cs.drop (m * P.cellsOf e)).take (P.cellsOf e) := by rw [Nat.add_mul, Nat.one_mul, List.take_add]
                rw [e1, e2, List.flatMap_append, List.flatMap_cons, List.flatMap_nil, List.append_nil]
                exact (ih (by omega)).append (hxs m _ hi).2
            have := key n (Nat.le_refl _)
            rw [List.take_of_length_le (by omega), ← hs, List.take_of_length_le (by omega)] at this
            exact this
      · cases hd
/-- The same, otherwise spelt. -/
def Kod.iso {t : Nat} {α β : Type} (c : Kod P t α) (to : α → β) (back : β → α) (h : ∀ x, back (to x) = x) : Kod P t β where
  row y := c.row (back y)
  ok N y := c.ok N (back y)
  mono := fun _ _ _ hN h => c.mono _ _ _ hN h
  size y := c.size (back y)
  opn := by
    intro H enc W base spare held fuel cs d ps hd
    obtain ⟨x, hx, hr⟩ := c.opn enc W base spare held fuel cs d ps hd
    exact ⟨to x, by rw [h]; exact hx, by rw [h]; exact hr⟩
end
end Go.Pi
