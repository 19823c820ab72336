/- What is handed over at a call. Own work of this session. -/
import Derived.Test.YtpjdoblfdeioaaaQops8
set_option linter.unusedVariables false
set_option linter.unusedSimpArgs false
namespace Go.Pi
def noφ : Nat → Option Nat := fun _ => none
/-- A cell at a call: the blocks that go with it. -/
inductive TrC (P : Program) (W : World) (S : Bool → Nat → Prop) : PV → Value → List Nat → Prop
  | pl {p : PV} {v : Value} : RelC W S noφ noH p v → TrC P W S p v []
  | nil {T : Nat} {A : Option Addr} {gs : List Nat} : TrC P W S (.ow T []) (.slice A 0 0) gs
  | own {T g cap : Nat} {rows : List (List PV)} {cs : Array Value} : W.heap[g]? = some (.cells cs T (0, 0)) → (∀ r ∈ rows, r.length = szOf P T) → rows.length ≤ cap → cap ≤ maxI → cap * szOf P T = cs.size →
      (∀ i r j p, rows[i]? = some r → r[j]? = some p → ∃ x, cs[i * szOf P T + j]? = some x ∧ p.perm = true ∧ Sh W S p x) → TrC P W S (.ow T rows) (.slice (some ⟨g, 0, none⟩) rows.length cap) [g]
inductive TrCs (P : Program) (W : World) (S : Bool → Nat → Prop) : List PV → List Value → List Nat → Prop
  | nil : TrCs P W S [] [] []
  | cons {p : PV} {v : Value} {ps : List PV} {vs : List Value} {g gs : List Nat} : TrC P W S p v g → TrCs P W S ps vs gs → TrCs P W S (p :: ps) (v :: vs) (g ++ gs)
inductive TrA (P : Program) (W : World) (S : Bool → Nat → Prop) : PV → Value → List Nat → Prop
  | cell {p : PV} {v : Value} {gs : List Nat} : TrC P W S p v gs → TrA P W S p v gs
  | ag {cs : List PV} {xs : List Value} {gs : List Nat} : TrCs P W S cs xs gs → TrA P W S (.ag cs) (.agg xs.toArray) gs
  | fn {f : Nat} {cs : List PV} {xs : List Value} : RelCs W S noφ noH cs xs → TrA P W S (.fn f cs) (.func (.func f) #[] xs.toArray) []
  | bx {T g : Nat} {cs : List PV} {vs : Array Value} {gs : List Nat} : W.heap[g]? = some (.cells vs T (0, 0)) → TrCs P W S cs vs.toList gs → TrA P W S (.bx T cs) (.pointer (some ⟨g, 0, none⟩)) (g :: gs)
inductive TrAs (P : Program) (W : World) (S : Bool → Nat → Prop) : List PV → List Value → List Nat → Prop
  | nil : TrAs P W S [] [] []
  | cons {p : PV} {v : Value} {ps : List PV} {vs : List Value} {g gs : List Nat} : TrA P W S p v g → TrAs P W S ps vs gs → TrAs P W S (p :: ps) (v :: vs) (g ++ gs)
section
variable {P : Program} {W0 W W' : World} {O0 : List Nat} {S0 : Base} {S S' Sc : Bool → Nat → Prop} {φ φ' : Nat → Option Nat} {st : St} {a : Act}
/-- What goes along. -/
def blocksOf (φ : Nat → Option Nat) (ups : Ups) : List Nat := (ups.map (·.1)).filterMap φ
theorem blocksOf_append (φ : Nat → Option Nat) (x y : Ups) : blocksOf φ (x ++ y) = blocksOf φ x ++ blocksOf φ y := by simp [blocksOf]
theorem blocksOf_cons (φ : Nat → Option Nat) (b : Nat) (blk : Blk) (y : Ups) {g : Nat} (h : φ b = some g) : blocksOf φ ((b, blk) :: y) = g :: blocksOf φ y := by simp [blocksOf, h]
/-- All that is written is a giving up of live blocks. -/
def Kills (H : Heap) (ups : Ups) : Prop := ∀ b blk, (b, blk) ∈ ups → ∃ v T sz box rows, H b = some (.row v T sz box rows) ∧ blk = .dead (v + 1)
theorem Kills.append {H : Heap} {x y : Ups} (h : Kills H x) (h' : Kills H y) : Kills H (x ++ y) := fun b blk hm => (List.mem_append.1 hm).elim (h b blk) (h' b blk)
theorem Kills.nil {H : Heap} : Kills H [] := fun b blk hm => by cases hm
theorem lendS_rel (hS : ∀ ln k, S ln k → Sc ln k) {p q : PV} {v : Value} {H : Heap} (h : (lendS p).val H = some q) (hv : RelC W S φ H p v) : Sh W Sc q v := by
  unfold lendS at h
  split at h <;> simp only [Rd.val, Option.some.injEq] at h <;> try subst h
  · obtain ⟨rfl, h2⟩ := hv; exact .s h2
  · exact Sh.mono hS (fun _ _ _ => rfl) hv
  · obtain ⟨A, rfl⟩ := hv; exact Sh.nil W Sc false A 0 (Nat.zero_le _)
  · cases h
theorem mapM_lendS (hS : ∀ ln k, S ln k → Sc ln k) {H : Heap} : ∀ {ps qs : List PV}, (Rd.mapM lendS ps).val H = some qs → qs.length = ps.length ∧ ∀ (k : Nat) (q : PV), qs[k]? = some q → ∃ p, ps[k]? = some p ∧ ∀ v, RelC W S φ H p v → Sh W Sc q v
  | [], qs, h => by
    simp only [Rd.mapM, Rd.val, Option.some.injEq] at h
    subst h
    exact ⟨rfl, fun k q hq => by simp at hq⟩
  | p :: ps, qs, h => by
    simp only [Rd.mapM, Rd.val_bind] at h
    cases h1 : (lendS p).val H with
    | none => simp [h1] at h
    | some q =>
      simp only [h1, Option.bind_some] at h
      cases h2 : (Rd.mapM lendS ps).val H with
      | none => simp [h2] at h
      | some r =>
        simp only [h2, Option.bind_some, Rd.val, Option.some.injEq] at h
        subst h
        obtain ⟨i1, i2⟩ := mapM_lendS hS h2
        refine ⟨by simp [i1], fun k q' hq => ?_⟩
        cases k with
        | zero =>
          simp only [List.getElem?_cons_zero, Option.some.injEq] at hq
          subst hq
          exact ⟨p, rfl, fun v hv => lendS_rel hS h1 hv⟩
        | succ k => exact i2 k q' hq
theorem lendC_rel (hR : Rel W0 O0 S0 S φ st a W) (hS : ∀ ln k, S ln k → Sc ln k) {p q : PV} {v : Value} (h : (lendC p).val st.hp = some q) (hv : RelC W S φ st.hp p v) (hk : ∀ b ∈ keyOf p, ∀ g, φ b = some g → Sc true g) : RelC W Sc noφ noH q v := by
  unfold lendC at h
  split at h
  · simp only [Rd.val, Option.some.injEq] at h; subst h; exact hv
  · simp only [Rd.val, Option.some.injEq] at h; subst h; exact Sh.mono hS (fun _ _ _ => rfl) hv
  · simp only [Rd.val, Option.some.injEq] at h; subst h; obtain ⟨A, rfl⟩ := hv; exact Sh.nil W Sc false A 0 (Nat.zero_le _)
  · simp only [Rd.val, Option.some.injEq] at h; subst h; exact hv
  · simp only [Rd.val, Option.some.injEq] at h; subst h
    obtain ⟨ad, x, h1, h2, h3⟩ := hv
    exact ⟨ad, x, h1, fun hne => hS _ _ (h2 hne), fun j p hj => ⟨(h3 j p hj).1, (h3 j p hj).2.mono hS (fun _ _ _ => rfl)⟩⟩
  · rename_i b ver off len
    obtain ⟨T, sz, box, rows, hb, hq⟩ := getRow_inv h
    clear h
    cases box with
    | true => simp [Rd.val] at hq
    | false =>
      simp only [Bool.false_eq_true, if_false, Rd.val, Option.some.injEq] at hq
      subst hq
      exact sh_of_block (hR.blk b _ hb) (sl_inv (S := S) hv hb) hS true (hk b (by simp [keyOf]))
  · simp [Rd.val] at h
theorem lendA_rel (hR : Rel W0 O0 S0 S φ st a W) (hS : ∀ ln k, S ln k → Sc ln k) {p q : PV} {v : Value} (h : (lendA p).val st.hp = some q) (hv : RelC W S φ st.hp p v) (hk : ∀ b ∈ keyOf p, ∀ g, φ b = some g → Sc true g) : RelC W Sc noφ noH q v := by
  unfold lendA at h
  split at h
  · rename_i b ver i j
    obtain ⟨T, sz, box, rows, hb, hq⟩ := getRow_inv h
    clear h
    split at hq
    · rename_i hbox
      subst hbox
      rw [Rd.val_bind] at hq
      cases hm : (Rd.mapM lendS ((rowAt rows i).drop j)).val st.hp with
      | none => simp [hm] at hq
      | some qs =>
        simp only [hm, Option.bind_some, Rd.val, Option.some.injEq] at hq
        subst hq
        obtain ⟨g, hg, hp⟩ := ad_inv (W := W) (S := S) hv hb
        obtain ⟨i1, i2⟩ := mapM_lendS (W := W) (φ := φ) hS hm
        by_cases hi : i < rows.length
        · obtain ⟨xs, e1, e2, e3⟩ := row_cells (H := st.hp) (hR.blk b _ hb) hg hi
          refine ⟨⟨g, i * sz + j, none⟩, fun k => xs.getD (j + k) undef, hp, fun _ => hk b (by simp [keyOf]) g hg, fun k q hq => ?_⟩
          obtain ⟨p, hp1, hp2⟩ := i2 k q hq
          rw [List.getElem?_drop] at hp1
          have hlt : j + k < xs.length := by rw [e1]; exact (List.getElem?_eq_some_iff.1 hp1).1
          have hx := List.getElem?_eq_getElem hlt
          have hgd : xs.getD (j + k) undef = xs[j + k] := by rw [List.getD_eq_getElem?_getD, hx]; rfl
          refine ⟨?_, ?_⟩
          · rw [add_lit, Nat.add_assoc]
            simp only [hgd]
            exact e2 _ _ hx
          · simp only [hgd]; exact hp2 _ (e3 _ _ _ hp1 hx).1
        · have hnil : rowAt rows i = [] := by simp [rowAt, List.getD_eq_getElem?_getD, List.getElem?_eq_none (by omega : rows.length ≤ i)]
          rw [hnil] at i1
          have hq0 : qs = [] := List.eq_nil_of_length_eq_zero (by simpa using i1)
          subst hq0
          exact ⟨_, fun _ => undef, hp, fun h => absurd rfl h, fun k q hq => by simp at hq⟩
    · simp [Rd.val] at hq
  · exact lendC_rel hR hS h hv hk
theorem mapM_rel {f : PV → Rd PV} {H : Heap} {R R' : PV → Value → Prop} {kk : PV → List Nat} {ok : Nat → Prop} (hf : ∀ p q v, (f p).val H = some q → R p v → (∀ b ∈ kk p, ok b) → R' q v) : ∀ {ps qs : List PV} {vs : List Value}, (Rd.mapM f ps).val H = some qs → vs.length = ps.length → (∀ (i : Nat) (p : PV) (x : Value), ps[i]? = some p → vs[i]? = some x → R p x) → (∀ p ∈ ps, ∀ b ∈ kk p, ok b) →
    vs.length = qs.length ∧ ∀ (i : Nat) (q : PV) (x : Value), qs[i]? = some q → vs[i]? = some x → R' q x
  | [], qs, vs, h, hl, hr, hk => by
    simp only [Rd.mapM, Rd.val, Option.some.injEq] at h
    subst h
    exact ⟨hl, fun i q x hq => by simp at hq⟩
  | p :: ps, qs, [], h, hl, hr, hk => by simp at hl
  | p :: ps, qs, v :: vs, h, hl, hr, hk => by
    simp only [Rd.mapM, Rd.val_bind] at h
    cases h1 : (f p).val H with
    | none => simp [h1] at h
    | some q =>
      simp only [h1, Option.bind_some] at h
      cases h2 : (Rd.mapM f ps).val H with
      | none => simp [h2] at h
      | some r =>
        simp only [h2, Option.bind_some, Rd.val, Option.some.injEq] at h
        subst h
        obtain ⟨i1, i2⟩ := mapM_rel hf h2 (by simpa using hl) (fun i p' x hp hx => hr (i + 1) p' x hp hx) (fun p' hp' => hk p' (List.mem_cons_of_mem _ hp'))
        refine ⟨by simp [i1], fun i q' x hq hx => ?_⟩
        cases i with
        | zero =>
          simp only [List.getElem?_cons_zero, Option.some.injEq] at hq hx
          subst hq; subst hx
          exact hf p q v h1 (hr 0 p v rfl rfl) (hk p List.mem_cons_self)
        | succ i => exact i2 i q' x hq hx
theorem trCs_plain {H : Heap} : ∀ {ps : List PV} {vs : List Value}, RelCs W S noφ noH ps vs → TrCs P W S ps vs []
  | [], [], _ => .nil
  | [], _ :: _, h => by have := h.1; simp at this
  | _ :: _, [], h => by have := h.1; simp at this
  | p :: ps, v :: vs, h => TrCs.cons (g := []) (gs := []) (.pl h.tail.1) (trCs_plain (H := H) h.tail.2)
/-- A value that is lent. -/
theorem lend_rel (hR : Rel W0 O0 S0 S φ st a W) (hS : ∀ ln k, S ln k → Sc ln k) {p q : PV} {v : Value} (h : (lend p).val st.hp = some q) (hv : RelV W S φ st.hp p v) (hk : ∀ b ∈ keysIn p, ∀ g, φ b = some g → Sc true g) : TrA P W Sc q v [] := by
  unfold lend at h
  split at h
  · rename_i cs
    rw [Rd.val_bind] at h
    cases hm : (Rd.mapM lendC cs).val st.hp with
    | none => simp [hm] at h
    | some qs =>
      simp only [hm, Option.bind_some, Rd.val, Option.some.injEq] at h
      subst h
      obtain ⟨xs, rfl, hx⟩ := hv
      have := mapM_rel (R := RelC W S φ st.hp) (R' := RelC W Sc noφ noH) (kk := keyOf) (ok := fun b => ∀ g, φ b = some g → Sc true g) (fun p q v h1 h2 h3 => lendC_rel hR hS h1 h2 h3) hm hx.1 hx.2 (fun p hp b hb => hk b (by simp only [keysIn, List.mem_flatMap]; exact ⟨p, hp, hb⟩))
      exact .ag (trCs_plain (H := noH) this)
  · rename_i f caps
    rw [Rd.val_bind] at h
    cases hm : (Rd.mapM lendA caps).val st.hp with
    | none => simp [hm] at h
    | some qs =>
      simp only [hm, Option.bind_some, Rd.val, Option.some.injEq] at h
      subst h
      obtain ⟨xs, rfl, hx⟩ := hv
      have := mapM_rel (R := RelC W S φ st.hp) (R' := RelC W Sc noφ noH) (kk := keyOf) (ok := fun b => ∀ g, φ b = some g → Sc true g) (fun p q v h1 h2 h3 => lendA_rel hR hS h1 h2 h3) hm hx.1 hx.2 (fun p hp b hb => hk b (by simp only [keysIn, List.mem_flatMap]; exact ⟨p, hp, hb⟩))
      exact .fn this
  · rename_i h1 h2
    have hvc : RelC W S φ st.hp p v := by
      cases p with
      | ag cs => exact absurd rfl (h1 cs)
      | fn f cs => exact absurd rfl (h2 f cs)
      | u => simp [lendA, lendC, Rd.val] at h
      | tu _ => simp [lendA, lendC, Rd.val] at h
      | ow _ _ => simp [lendA, lendC, Rd.val] at h
      | bx _ _ => simp [lendA, lendC, Rd.val] at h
      | _ => exact hv
    have hkk : keysIn p = keyOf p := by
      cases p with
      | ag cs => exact absurd rfl (h1 cs)
      | fn f cs => exact absurd rfl (h2 f cs)
      | _ => rfl
    rw [hkk] at hk
    exact .cell (.pl (lendA_rel hR hS h hvc hk))

/-! What is given. -/
theorem own_of_block {H : Heap} {b ver T len : Nat} {rows : List (List PV)} {v : Value} (hB : BlkR W S φ H b (.row ver T (szOf P T) false rows)) (hh : Hdr W φ b (.row ver T (szOf P T) false rows) 0 len v) (hS : ∀ ln k, S ln k → Sc ln k) (hl : len ≤ rows.length) {blk : Blk} :
    TrC P W Sc (.ow T (rows.take len)) v (blocksOf φ [(b, blk)]) := by
  simp only [Hdr] at hh
  simp only [BlkR] at hB
  cases hg : φ b with
  | none =>
    simp only [hg] at hh hB
    obtain ⟨rfl, _, rfl, A, rfl⟩ := hh
    exact .nil
  | some g =>
    simp only [hg] at hh hB
    obtain ⟨A, cap, cs, rfl, h2, h3, h4, h5, h6, h7, h8⟩ := hh
    obtain ⟨cs', g1, g2, g3, g4, g5⟩ := hB
    rw [h7] at g1
    cases g1
    have hbl : blocksOf φ [(b, blk)] = [g] := by simp [blocksOf, hg]
    have hlen : (rows.take len).length = len := by simp; omega
    rw [hbl]
    rcases h2 with h2 | h2
    · subst h2
      have hl0 : len = 0 := by omega
      subst hl0
      exact .nil
    · subst h2
      have := TrC.own (P := P) (W := W) (S := Sc) (T := T) (g := g) (cap := cap) (rows := rows.take len) (cs := cs) h7 (fun r hr => g2 r (List.mem_of_mem_take hr)) (by omega) h6 (by rw [← h8, Nat.zero_add]) (fun i r j p hi hj => by
        rw [List.getElem?_take] at hi
        split at hi
        · obtain ⟨x, hx, hp⟩ := g5 i r j p hi hj
          rw [if_neg (by simp)] at hp
          exact ⟨x, hx, hp.1, hp.2.mono hS (fun _ _ _ => rfl)⟩
        · cases hi)
      rw [hlen] at this
      simpa using this
theorem kills_one {H : Heap} {b v T sz : Nat} {box : Bool} {rows : List (List PV)} (hb : H b = some (.row v T sz box rows)) : Kills H [(b, .dead (v + 1))] := fun b' blk hm => by
  simp only [List.mem_singleton, Prod.mk.injEq] at hm
  obtain ⟨rfl, rfl⟩ := hm
  exact ⟨v, T, sz, box, rows, hb, rfl⟩
theorem giveC_rel (hR : Rel W0 O0 S0 S φ st a W) (hS : ∀ ln k, S ln k → Sc ln k) {T : Nat} {p q : PV} {ups : Ups} {v : Value} (h : (giveC P T p).val st.hp = some (q, ups)) (hv : RelV W S φ st.hp p v) : TrC P W Sc q v (blocksOf φ ups) ∧ Kills st.hp ups := by
  unfold giveC at h
  split at h
  · simp only [Rd.val, Option.some.injEq, Prod.mk.injEq] at h
    obtain ⟨rfl, rfl⟩ := h
    obtain ⟨A, rfl⟩ := hv
    exact ⟨.nil, Kills.nil⟩
  · rename_i b ver len
    obtain ⟨T', sz, box, rows, hb, hq⟩ := getRow_inv h
    clear h
    split at hq
    · rename_i hc
      obtain ⟨rfl, rfl, rfl, hl⟩ := hc
      simp only [Rd.val, Option.some.injEq, Prod.mk.injEq] at hq
      obtain ⟨rfl, rfl⟩ := hq
      exact ⟨own_of_block (hR.blk b _ hb) (sl_inv (S := S) hv hb) hS hl, kills_one hb⟩
    · simp [Rd.val] at hq
  · simp [Rd.val] at h
theorem giveCell_rel (hR : Rel W0 O0 S0 S φ st a W) (hS : ∀ ln k, S ln k → Sc ln k) {p q : PV} {ups : Ups} {v : Value} (h : (giveCell P p).val st.hp = some (q, ups)) (hv : RelC W S φ st.hp p v) : TrC P W Sc q v (blocksOf φ ups) ∧ Kills st.hp ups := by
  unfold giveCell at h
  split at h
  · simp only [Rd.val, Option.some.injEq, Prod.mk.injEq] at h
    obtain ⟨rfl, rfl⟩ := h
    exact ⟨.pl hv, Kills.nil⟩
  · simp only [Rd.val, Option.some.injEq, Prod.mk.injEq] at h
    obtain ⟨rfl, rfl⟩ := h
    exact ⟨.pl (Sh.mono hS (fun _ _ _ => rfl) hv), Kills.nil⟩
  · simp only [Rd.val, Option.some.injEq, Prod.mk.injEq] at h
    obtain ⟨rfl, rfl⟩ := h
    obtain ⟨A, rfl⟩ := hv
    exact ⟨.pl (Sh.nil W Sc false A 0 (Nat.zero_le _)), Kills.nil⟩
  · rename_i b ver len
    obtain ⟨T', sz, box, rows, hb, hq⟩ := getRow_inv h
    clear h
    split at hq
    · rename_i hc
      obtain ⟨rfl, rfl, hl⟩ := hc
      simp only [Rd.val, Option.some.injEq, Prod.mk.injEq] at hq
      obtain ⟨rfl, rfl⟩ := hq
      exact ⟨own_of_block (hR.blk b _ hb) (sl_inv (S := S) hv hb) hS hl, kills_one hb⟩
    · simp [Rd.val] at hq
  · simp [Rd.val] at h
theorem giveCells_rel (hR : Rel W0 O0 S0 S φ st a W) (hS : ∀ ln k, S ln k → Sc ln k) : ∀ {ps qs : List PV} {ups : Ups} {vs : List Value}, (giveCells P ps).val st.hp = some (qs, ups) → RelCs W S φ st.hp ps vs → TrCs P W Sc qs vs (blocksOf φ ups) ∧ Kills st.hp ups
  | [], qs, ups, [], h, hv => by
    simp only [giveCells, Rd.val, Option.some.injEq, Prod.mk.injEq] at h
    obtain ⟨rfl, rfl⟩ := h
    exact ⟨.nil, Kills.nil⟩
  | [], _, _, _ :: _, _, hv => by have := hv.1; simp at this
  | _ :: _, _, _, [], _, hv => by have := hv.1; simp at this
  | p :: ps, qs, ups, v :: vs, h, hv => by
    simp only [giveCells, Rd.val_bind] at h
    cases h1 : (giveCell P p).val st.hp with
    | none => simp [h1] at h
    | some x =>
      simp only [h1, Option.bind_some] at h
      cases h2 : (giveCells P ps).val st.hp with
      | none => simp [h2] at h
      | some y =>
        simp only [h2, Option.bind_some, Rd.val, Option.some.injEq, Prod.mk.injEq] at h
        obtain ⟨rfl, rfl⟩ := h
        obtain ⟨a1, a2⟩ := giveCell_rel hR hS h1 hv.tail.1
        obtain ⟨b1, b2⟩ := giveCells_rel hR hS h2 hv.tail.2
        rw [blocksOf_append]
        exact ⟨.cons a1 b1, a2.append b2⟩
/-- A variable, with what is in it. -/
theorem giveBox_rel (hR : Rel W0 O0 S0 S φ st a W) (hS : ∀ ln k, S ln k → Sc ln k) {b ver T sz : Nat} {cells qs : List PV} {ups : Ups} {v : Value} (hv : RelC W S φ st.hp (.ad b ver 0 0) v) (hb : st.hp b = some (.row ver T sz true [cells]))
    (h : (giveCells P cells).val st.hp = some (qs, ups)) : TrA P W Sc (.bx T qs) v (blocksOf φ ((b, .dead (ver + 1)) :: ups)) ∧ Kills st.hp ((b, .dead (ver + 1)) :: ups) := by
  obtain ⟨g, hg, hp⟩ := ad_inv (W := W) (S := S) hv hb
  have hB := hR.blk b _ hb
  simp only [BlkR, hg] at hB
  obtain ⟨cs, h1, h2, h3, h4, h5⟩ := hB
  have hl : cells.length = sz := h2 cells (by simp)
  have hsz : cs.size = cells.length := by rw [h4.2 trivial, hl]; simp
  have hcs : RelCs W S φ st.hp cells cs.toList := by
    refine ⟨by rw [Array.length_toList, hsz], fun i p x hp hx => ?_⟩
    obtain ⟨y, hy, hr⟩ := h5 0 cells i p rfl hp
    rw [if_pos trivial] at hr
    rw [Nat.zero_mul, Nat.zero_add, ← Array.getElem?_toList, hx] at hy
    cases hy
    exact hr
  obtain ⟨a1, a2⟩ := giveCells_rel hR hS h hcs
  rw [blocksOf_cons φ b _ ups hg, hp]
  simp only [Nat.zero_mul, Nat.zero_add]
  exact ⟨.bx h1 a1, fun b' blk hm => (List.mem_cons.1 hm).elim (fun e => by cases e; exact ⟨ver, T, sz, true, [cells], hb, rfl⟩) (a2 b' blk)⟩
theorem xfer_rel (hR : Rel W0 O0 S0 S φ st a W) (hS : ∀ ln k, S ln k → Sc ln k) {m t : Nat} {p q : PV} {ups : Ups} {v : Value} (h : (xfer P m t p).val st.hp = some (q, ups)) (hv : RelV W S φ st.hp p v) (hk : m = 0 → ∀ b ∈ keysIn p, ∀ g, φ b = some g → Sc true g) : TrA P W Sc q v (blocksOf φ ups) ∧ Kills st.hp ups := by
  unfold xfer at h
  split at h
  · rw [Rd.val_bind] at h
    cases h1 : (lend p).val st.hp with
    | none => simp [h1] at h
    | some q' =>
      simp only [h1, Option.bind_some, Rd.val, Option.some.injEq, Prod.mk.injEq] at h
      obtain ⟨rfl, rfl⟩ := h
      exact ⟨lend_rel hR hS h1 hv (hk rfl), Kills.nil⟩
  · split at h
    · rename_i T hT
      obtain ⟨a1, a2⟩ := giveC_rel hR hS h hv
      exact ⟨.cell a1, a2⟩
    · simp [Rd.val] at h
  · split at h
    · rename_i b ver
      obtain ⟨T, sz, box, rows, hb, hq⟩ := getRow_inv h
      clear h
      split at hq
      · rename_i cells
        rw [Rd.val_bind] at hq
        cases h1 : (giveCells P cells).val st.hp with
        | none => simp [h1] at hq
        | some x =>
          simp only [h1, Option.bind_some, Rd.val, Option.some.injEq, Prod.mk.injEq] at hq
          obtain ⟨rfl, rfl⟩ := hq
          exact giveBox_rel hR hS hv hb h1
      · simp [Rd.val] at hq
    · simp [Rd.val] at h
  · simp [Rd.val] at h
theorem xfers_rel (hR : Rel W0 O0 S0 S φ st a W) (hS : ∀ ln k, S ln k → Sc ln k) : ∀ {ms ts : List Nat} {ps qs : List PV} {ups : Ups} {vs : List Value}, (xfers P ms ts ps).val st.hp = some (qs, ups) → vs.length = ps.length → (∀ (i : Nat) (p : PV) (x : Value), ps[i]? = some p → vs[i]? = some x → RelV W S φ st.hp p x) →
    (∀ b ∈ lentKeys ms ps, ∀ g, φ b = some g → Sc true g) → TrAs P W Sc qs vs (blocksOf φ ups) ∧ Kills st.hp ups
  | [], [], [], qs, ups, vs, h, hl, hv, hk => by
    simp only [xfers, Rd.val, Option.some.injEq, Prod.mk.injEq] at h
    obtain ⟨rfl, rfl⟩ := h
    have : vs = [] := List.eq_nil_of_length_eq_zero hl
    subst this
    exact ⟨.nil, Kills.nil⟩
  | [], [], _ :: _, _, _, _, h, _, _, _ => by simp [xfers, Rd.val] at h
  | [], _ :: _, _, _, _, _, h, _, _, _ => by simp [xfers, Rd.val] at h
  | _ :: _, [], _, _, _, _, h, _, _, _ => by simp [xfers, Rd.val] at h
  | _ :: _, _ :: _, [], _, _, _, h, _, _, _ => by simp [xfers, Rd.val] at h
  | m :: ms, t :: ts, p :: ps, qs, ups, [], h, hl, hv, hk => by simp at hl
  | m :: ms, t :: ts, p :: ps, qs, ups, v :: vs, h, hl, hv, hk => by
    simp only [xfers, Rd.val_bind] at h
    cases h1 : (xfer P m t p).val st.hp with
    | none => simp [h1] at h
    | some x =>
      simp only [h1, Option.bind_some] at h
      cases h2 : (xfers P ms ts ps).val st.hp with
      | none => simp [h2] at h
      | some y =>
        simp only [h2, Option.bind_some, Rd.val, Option.some.injEq, Prod.mk.injEq] at h
        obtain ⟨rfl, rfl⟩ := h
        obtain ⟨a1, a2⟩ := xfer_rel hR hS h1 (hv 0 p v rfl rfl) (fun hm b hb => hk b (by subst hm; simp only [lentKeys, List.mem_append]; exact .inl hb))
        obtain ⟨b1, b2⟩ := xfers_rel hR hS h2 (by simpa using hl) (fun i p' x' hp hx => hv (i + 1) p' x' hp hx) (fun b hb => hk b (by
          cases m with
          | zero => simp only [lentKeys, List.mem_append]; exact .inr hb
          | succ m => simpa only [lentKeys] using hb))
        rw [blocksOf_append]
        exact ⟨.cons a1 b1, a2.append b2⟩
/-! It lasts. -/
theorem RelC_no {p : PV} {v : Value} (hS : ∀ ln k, S ln k → S' ln k) (hW : ∀ ln k, S ln k → W'.heap[k]? = W.heap[k]?) (h : RelC W S noφ noH p v) : RelC W' S' noφ noH p v :=
  RelC.mono (φ := noφ) (φ' := noφ) (H := noH) (H' := noH) ⟨hS, hW, fun b blk hb => by cases hb⟩ h
theorem RelC_of_no {H : Heap} {p : PV} {v : Value} (h : RelC W S noφ noH p v) : RelC W S φ H p v :=
  RelC.mono (φ := noφ) (φ' := φ) (H := noH) (H' := H) ⟨fun _ _ h => h, fun _ _ _ => rfl, fun b blk hb => by cases hb⟩ h
theorem TrC.mono {p : PV} {v : Value} {gs : List Nat} (h : TrC P W S p v gs) (hS : ∀ ln k, S ln k → S' ln k) (hW : ∀ ln k, S ln k → W'.heap[k]? = W.heap[k]?) (hg : ∀ g ∈ gs, W'.heap[g]? = W.heap[g]?) : TrC P W' S' p v gs := by
  cases h with
  | pl h => exact .pl (RelC_no hS hW h)
  | nil => exact .nil
  | own h1 h2 h3 h4 h5 h6 =>
    refine .own ((hg _ (by simp)).trans h1) h2 h3 h4 h5 (fun i r j p hi hj => ?_)
    obtain ⟨x, hx, hp, hs⟩ := h6 i r j p hi hj
    exact ⟨x, hx, hp, hs.mono hS hW⟩
theorem TrCs.mono {ps : List PV} {vs : List Value} {gs : List Nat} (h : TrCs P W S ps vs gs) (hS : ∀ ln k, S ln k → S' ln k) (hW : ∀ ln k, S ln k → W'.heap[k]? = W.heap[k]?) (hg : ∀ g ∈ gs, W'.heap[g]? = W.heap[g]?) : TrCs P W' S' ps vs gs := by
  induction h with
  | nil => exact .nil
  | cons h1 h2 ih => exact .cons (h1.mono hS hW fun g hm => hg g (List.mem_append_left _ hm)) (ih fun g hm => hg g (List.mem_append_right _ hm))
theorem TrA.mono {p : PV} {v : Value} {gs : List Nat} (h : TrA P W S p v gs) (hS : ∀ ln k, S ln k → S' ln k) (hW : ∀ ln k, S ln k → W'.heap[k]? = W.heap[k]?) (hg : ∀ g ∈ gs, W'.heap[g]? = W.heap[g]?) : TrA P W' S' p v gs := by
  cases h with
  | cell h => exact .cell (h.mono hS hW hg)
  | ag h => exact .ag (h.mono hS hW hg)
  | fn h => exact .fn ⟨h.1, fun i p x hp hx => RelC_no hS hW (h.2 i p x hp hx)⟩
  | bx h1 h2 => exact .bx ((hg _ List.mem_cons_self).trans h1) (h2.mono hS hW fun g hm => hg g (List.mem_cons_of_mem _ hm))
theorem TrAs.mono {ps : List PV} {vs : List Value} {gs : List Nat} (h : TrAs P W S ps vs gs) (hS : ∀ ln k, S ln k → S' ln k) (hW : ∀ ln k, S ln k → W'.heap[k]? = W.heap[k]?) (hg : ∀ g ∈ gs, W'.heap[g]? = W.heap[g]?) : TrAs P W' S' ps vs gs := by
  induction h with
  | nil => exact .nil
  | cons h1 h2 ih => exact .cons (h1.mono hS hW fun g hm => hg g (List.mem_append_left _ hm)) (ih fun g hm => hg g (List.mem_append_right _ hm))
theorem TrAs.length {ps : List PV} {vs : List Value} {gs : List Nat} (h : TrAs P W S ps vs gs) : vs.length = ps.length := by
  induction h with
  | nil => rfl
  | cons _ _ ih => simp [ih]
theorem TrCs.length {ps : List PV} {vs : List Value} {gs : List Nat} (h : TrCs P W S ps vs gs) : vs.length = ps.length := by
  induction h with
  | nil => rfl
  | cons _ _ ih => simp [ih]

/-! The blocks that go along are apart. -/
theorem blocksOf_mem {ups : Ups} {g : Nat} : g ∈ blocksOf φ ups ↔ ∃ b ∈ ups.map (·.1), φ b = some g := by simp [blocksOf, List.mem_filterMap]
theorem keysNodup_iff : ∀ {l : List Nat}, keysNodup l = true ↔ l.Nodup
  | [] => by simp [keysNodup]
  | k :: r => by
    simp only [keysNodup, Bool.and_eq_true, Bool.not_eq_true', List.contains_eq_mem, decide_eq_false_iff_not, List.nodup_cons, keysNodup_iff]
theorem disj_iff {a b : List Nat} : disj a b = true ↔ ∀ x ∈ a, x ∉ b := by
  simp [disj]
theorem blocksOf_nodup (hR : Rel W0 O0 S0 S φ st a W) : ∀ {ups : Ups}, Kills st.hp ups → (ups.map (·.1)).Nodup → (blocksOf φ ups).Nodup
  | [], _, _ => by simp [blocksOf]
  | (b, blk) :: r, hk, hn => by
    simp only [List.map_cons, List.nodup_cons] at hn
    have ih := blocksOf_nodup hR (ups := r) (fun b' blk' hm => hk b' blk' (List.mem_cons_of_mem _ hm)) hn.2
    obtain ⟨v, T, sz, box, rows, hb, _⟩ := hk b blk List.mem_cons_self
    cases hg : φ b with
    | none =>
      have : blocksOf φ ((b, blk) :: r) = blocksOf φ r := by simp [blocksOf, hg]
      rw [this]; exact ih
    | some g =>
      rw [blocksOf_cons φ b blk r hg]
      refine List.nodup_cons.2 ⟨fun hm => ?_, ih⟩
      obtain ⟨b', hb', hg'⟩ := blocksOf_mem.1 hm
      obtain ⟨x, hx, rfl⟩ := List.mem_map.1 hb'
      obtain ⟨v', T', sz', box', rows', hb2, _⟩ := hk x.1 x.2 (List.mem_cons_of_mem _ hx)
      have := hR.inj x.1 b _ _ _ _ _ _ _ _ _ _ g hb2 hb hg' hg
      rw [this] at hb'
      exact hn.1 hb'
end
end Go.Pi
