/- Each operation that writes nothing does what the reading says. Own work of this session. -/
import Derived.Test.YtpjdoblfdeioaaaQrel
import Derived.WalkLawsBesides
set_option linter.unusedVariables false
set_option linter.unusedSimpArgs false
namespace Go.Pi
section
variable {P : Program} {W0 W W' : World} {O0 : List Nat} {S0 : Base} {S S' : Bool → Nat → Prop} {φ φ' : Nat → Option Nat} {st : St} {a : Act} {o : Oper} {K : Act → World → Prop} {Q : Exit → Act → World → Prop} {p : PV} {x : Value}

def Goes (W0 : World) (O0 : List Nat) (S0 : Base) (N : Nat) (st : St) (K : Act → World → Prop) : Prop := ∀ S φ a W, Rel W0 O0 S0 S φ st a W → a.tmps.size = N → K a W
theorem put_size (a : Act) (d : Option Nat) (v : Value) : (a.put d v).tmps.size = a.tmps.size := by cases d <;> simp [Act.put]
theorem wp_value (h : (execOp a.eval o).run P W = .ok (.value x) W') (hK : K (a.put o.dst x) W') : o.wp P a W K Q := by
  unfold Oper.wp
  rw [h]
  exact hK
theorem wp_done (h : (execOp a.eval o).run P W = .ok .skip W') (hK : K (a.put o.dst undef) W') : o.wp P a W K Q := by
  unfold Oper.wp
  rw [h]
  exact hK
def Bd (S0 : Base) (a : Act) (o : Oper) : Prop := ∀ t, o.dst = some t → t < a.tmps.size ∧ S0.par t = none
theorem plain (hR : Rel W0 O0 S0 S φ st a W) (hd : Bd S0 a o) (h : (execOp a.eval o).run P W = .ok (.value x) W) (hv : RelV W S φ st.hp p x) (hK : Goes W0 O0 S0 a.tmps.size (st.put o.dst p []) K) : o.wp P a W K Q :=
  wp_value h (hK S φ _ _ (hR.put_plain (Keep.refl _ _) hd (fun _ => hv)) (put_size _ _ _))

theorem s_inv {v w : Value} (h : RelV W S φ st.hp (.s v) w) : w = v ∧ v.oneCell' = true := ⟨h.1.symm, h.1 ▸ h.2⟩
theorem bool_inv {b : Bool} {w : Value} (h : RelV W S φ st.hp (.s (.bool b)) w) : w = .bool b := (s_inv h).1
theorem int_inv {k : IntKind} {n : Int} {w : Value} (h : RelV W S φ st.hp (.s (.int k n)) w) : w = .int k n := (s_inv h).1
theorem str_inv {s : ByteArray} {w : Value} (h : RelV W S φ st.hp (.s (.string s)) w) : w = .string s := (s_inv h).1
theorem relV_int (k : IntKind) (n : Int) : RelV W S φ st.hp (.s (.int k n)) (.int k n) := ⟨rfl, rfl⟩
theorem relV_bool (b : Bool) : RelV W S φ st.hp (.s (.bool b)) (.bool b) := ⟨rfl, rfl⟩

theorem sound_move (hR : Rel W0 O0 S0 S φ st a W) (hd : Bd S0 a o) {y : Operand} (ho : o.op = .move y) (hK : Goes W0 O0 S0 a.tmps.size (st.put o.dst (st.ev y) []) K) : o.wp P a W K Q :=
  plain hR hd (x := a.eval y) (by simp [execOp, ho]) (hR.ev y) hK
theorem sound_assign (hR : Rel W0 O0 S0 S φ st a W) (hd : Bd S0 a o) {y : Operand} (ho : o.op = .assign y) (hK : Goes W0 O0 S0 a.tmps.size (st.put o.dst (st.ev y) []) K) : o.wp P a W K Q :=
  plain hR hd (x := a.eval y) (by simp [execOp, ho]) (hR.ev y) hK
theorem sound_pick (hR : Rel W0 O0 S0 S φ st a W) (hd : Bd S0 a o) {c y z : Operand} (ho : o.op = .pick c y z) {t : Bool} (hc : st.ev c = .s (.bool t)) (hK : Goes W0 O0 S0 a.tmps.size (st.put o.dst (if t then st.ev y else st.ev z) []) K) : o.wp P a W K Q := by
  have h1 := hR.ev c
  rw [hc] at h1
  have h2 := bool_inv h1
  refine plain hR hd (x := if t then a.eval y else a.eval z) (by simp [execOp, ho, h2, asBool]) ?_ hK
  cases t
  · exact hR.ev z
  · exact hR.ev y

/-! Addresses and loads. -/
theorem isAgg_run (t : Nat) (d : TypeDesc) (h : P.underlying t = some d) : (isAgg t).run P W = .ok (aggT P t) W := by
  unfold isAgg aggT
  simp only [Sem.run_bind, run_underlying h, Result.andThen_ok, h]
  cases d <;> rfl
theorem info_of (t : Nat) (n : Nat) (h : szOf P t = n) (hn : 0 < n) : ∃ i, P.info? t = some i ∧ i.size = n := by
  unfold szOf at h
  cases hi : P.info? t with
  | none => simp [hi] at h; omega
  | some i => exact ⟨i, rfl, by simpa [hi] using h⟩
theorem sizeOf_run {t : Nat} {i : TypeInfo} (h : P.info? t = some i) : (sizeOf t).run P W = .ok i.size W := by
  simp [sizeOf, typeInfo, h]
theorem und_of {t : Nat} {i : TypeInfo} (h : P.info? t = some i) (hu : (P.underlying t).isSome = true) : ∃ d, P.underlying t = some d := Option.isSome_iff_exists.1 hu

theorem loadVar_run {t : Nat} (hu : (P.underlying t).isSome = true) {ad : Addr} {xs : List Value} (hn : xs.length = szOf P t) (h0 : 0 < xs.length) (h : ∀ (j : Nat) v, xs[j]? = some v → W.cell? (ad.add j) = some v) (h1 : aggT P t = false → xs.length = 1) :
    (loadVar t ad).run P W = .ok (if aggT P t = true then .agg xs.toArray else xs.headD undef) W := by
  obtain ⟨i, hi, hs⟩ := info_of (P := P) t xs.length hn.symm h0
  obtain ⟨d, hd⟩ := Option.isSome_iff_exists.1 hu
  unfold loadVar
  simp only [Sem.run_bind, isAgg_run t d hd, Result.andThen_ok]
  cases hg : aggT P t with
  | true =>
    simp only [if_true, Sem.run_bind, sizeOf_run hi, Result.andThen_ok, hs]
    rw [run_loadCells_list W ad xs h]
    rfl
  | false =>
    simp only [Bool.false_eq_true, if_false]
    have hl := h1 hg
    obtain ⟨v, rfl⟩ : ∃ v, xs = [v] := List.length_eq_one_iff.1 hl
    have hc := h 0 v rfl
    have ha : ad.add 0 = ad := by simp [Addr.add]
    rw [ha] at hc
    simp only [run_load, hc]
    rfl

theorem okT_inv {t : Nat} (h : okT P t = true) : (P.underlying t).isSome = true ∧ 0 < szOf P t := by
  unfold okT at h
  simpa using h
theorem mapr_get (n : Nat) (f : Nat → Value) (k : Nat) (w : Value) : ((List.range n).map f)[k]? = some w ↔ k < n ∧ f k = w := by
  rw [List.getElem?_map]
  by_cases h : k < n
  · rw [List.getElem?_range h]; simp [h]
  · rw [List.getElem?_eq_none (by simpa using h)]; simp [h]
/-- The cells of one row of a block. -/
theorem row_cells {b v T sz : Nat} {box : Bool} {rows : List (List PV)} {g : Nat} {H : Heap} (hb : BlkR W S φ H b (.row v T sz box rows)) (hg : φ b = some g) {i : Nat} (hi : i < rows.length) :
    ∃ xs : List Value, xs.length = (rowAt rows i).length ∧ (∀ (k : Nat) (w : Value), xs[k]? = some w → W.cell? ⟨g, i * sz + k, none⟩ = some w) ∧
      ∀ (k : Nat) (p : PV) (w : Value), (rowAt rows i)[k]? = some p → xs[k]? = some w → RelC W S φ H p w ∧ (box = false → p.perm = true ∧ Sh W S p w) := by
  simp only [BlkR, hg] at hb
  obtain ⟨cs, h1, h2, h3, h4, h5⟩ := hb
  have hri : rows[i]? = some (rowAt rows i) := by simp [rowAt, List.getD_eq_getElem?_getD, List.getElem?_eq_getElem hi]
  refine ⟨(List.range (rowAt rows i).length).map fun k => cs.getD (i * sz + k) undef, by simp, ?_, ?_⟩
  · intro k w hk
    obtain ⟨hlt, rfl⟩ := (mapr_get _ _ _ _).1 hk
    obtain ⟨x, hx, _⟩ := h5 i _ k _ hri (List.getElem?_eq_getElem hlt)
    rw [cell_of_row W g _ cs T (0, 0) h1, hx, Array.getD_eq_getD_getElem?, hx]
    rfl
  · intro k p w hp hk
    obtain ⟨hlt, rfl⟩ := (mapr_get _ _ _ _).1 hk
    obtain ⟨x, hx, hr⟩ := h5 i _ k _ hri hp
    rw [Array.getD_eq_getD_getElem?, hx]
    simp only [Option.getD_some]
    cases box with
    | true => exact ⟨by simpa using hr, fun h => by cases h⟩
    | false =>
      rw [if_neg Bool.false_ne_true] at hr
      exact ⟨RelC_of_Sh hr.2, fun _ => hr⟩
theorem getRow_inv {α : Type} {b ver : Nat} {k : Nat → Nat → Bool → List (List PV) → Rd α} {H : Heap} {r : α} (h : (getRow b ver k).val H = some r) :
    ∃ T sz box rows, H b = some (.row ver T sz box rows) ∧ (k T sz box rows).val H = some r := by
  unfold getRow at h
  rw [Rd.val_get] at h
  cases hb : H b with
  | none => simp [hb, Rd.val] at h
  | some blk => cases blk with
    | dead v => simp [hb, Rd.val] at h
    | mp v ks => simp [hb, Rd.val] at h
    | row v T sz box rows =>
      simp only [hb] at h
      split at h
      · rename_i hv; subst hv; exact ⟨T, sz, box, rows, rfl, h⟩
      · simp [Rd.val] at h
theorem ad_inv {H : Heap} {b ver i j T sz : Nat} {box : Bool} {rows : List (List PV)} {w : Value} (h : RelC W S φ H (.ad b ver i j) w) (hb : H b = some (.row ver T sz box rows)) :
    ∃ g, φ b = some g ∧ w = .pointer (some ⟨g, i * sz + j, none⟩) := by
  obtain ⟨_, blk, h1, h2, h3⟩ := h
  rw [hb] at h1
  cases h1
  exact h3 rfl
theorem sl_inv {H : Heap} {b ver off len T sz : Nat} {box : Bool} {rows : List (List PV)} {w : Value} (h : RelC W S φ H (.sl b ver off len) w) (hb : H b = some (.row ver T sz box rows)) :
    Hdr W φ b (.row ver T sz box rows) off len w := by
  obtain ⟨_, blk, h1, h2, h3⟩ := h
  rw [hb] at h1
  cases h1
  exact h3 rfl
theorem mkVal_inv {t : Nat} {cs : List PV} {H : Heap} {v : PV} (h : (mkVal P t cs).val H = some v) : okT P t = true ∧ cs.length = szOf P t ∧ ((aggT P t = true ∧ v = .ag cs) ∨ (aggT P t = false ∧ cs = [v])) := by
  unfold mkVal at h
  split at h
  · rename_i hc
    refine ⟨hc.1, hc.2, ?_⟩
    split at h
    · rename_i hg; exact .inl ⟨hg, by simpa [Rd.val] using h.symm⟩
    · rename_i hg
      refine .inr ⟨by simpa using hg, ?_⟩
      split at h
      · rename_i c; simp [Rd.val] at h; rw [h]
      · simp [Rd.val] at h
  · simp [Rd.val] at h
/-- A load of cells that are told, at an address. -/
theorem load_cells (hR : Rel W0 O0 S0 S φ st a W) (hd : Bd S0 a o) {t : Nat} {y : Operand} (ho : o.op = .load t y) {ad : Addr} (hy : a.eval y = .pointer (some ad)) {cs : List PV} {xs : List Value} (hl : xs.length = cs.length)
    (hc : ∀ (k : Nat) (w : Value), xs[k]? = some w → W.cell? (ad.add k) = some w) (hr : ∀ (k : Nat) (p : PV) (w : Value), cs[k]? = some p → xs[k]? = some w → RelC W S φ st.hp p w) {v : PV} (hv : (mkVal P t cs).val st.hp = some v) (hK : Goes W0 O0 S0 a.tmps.size (st.put o.dst v []) K) : o.wp P a W K Q := by
  obtain ⟨h1, h2, h3⟩ := mkVal_inv hv
  obtain ⟨hu, h0⟩ := okT_inv h1
  have hrun := loadVar_run (P := P) (W := W) hu (ad := ad) (xs := xs) (by omega) (by omega) hc (fun hg => by
    rcases h3 with ⟨hg', _⟩ | ⟨_, rfl⟩
    · rw [hg] at hg'; cases hg'
    · simpa using hl)
  refine plain hR hd (x := if aggT P t = true then .agg xs.toArray else xs.headD undef) (p := v) ?_ ?_ hK
  · simp only [execOp, ho, Instr.loadAt, hy, Instr.sureAddr, Sem.run_bind, Sem.run_pure, Result.andThen_ok, hrun]
  · rcases h3 with ⟨hg, rfl⟩ | ⟨hg, rfl⟩
    · rw [if_pos hg]; exact ⟨xs, rfl, hl, hr⟩
    · rw [if_neg (by simp [hg])]
      obtain ⟨w, rfl⟩ : ∃ w, xs = [w] := List.length_eq_one_iff.1 (by simpa using hl)
      exact RelV_of_RelC (hr 0 v w rfl rfl)
theorem sound_load (hR : Rel W0 O0 S0 S φ st a W) (hd : Bd S0 a o) {t : Nat} {y : Operand} (ho : o.op = .load t y) {v : PV} (h : (loadEff P t (st.ev y)).val st.hp = some v) (hK : Goes W0 O0 S0 a.tmps.size (st.put o.dst v []) K) : o.wp P a W K Q := by
  have hy := hR.ev y
  unfold loadEff at h
  split at h
  · rename_i b ver i j hev
    rw [hev] at hy
    obtain ⟨T, sz, box, rows, hb, h⟩ := getRow_inv h
    obtain ⟨g, hg, hp⟩ := ad_inv (W := W) (S := S) hy hb
    split at h
    · rename_i hi
      obtain ⟨xs, e1, e2, e3⟩ := row_cells (hR.blk b _ hb) hg hi
      refine load_cells hR hd ho hp (xs := (xs.drop j).take (szOf P t)) (by simp [e1]) ?_ ?_ h hK
      · intro k w hk
        rw [List.getElem?_take] at hk
        split at hk
        · rw [List.getElem?_drop] at hk
          rw [add_lit, Nat.add_assoc]
          exact e2 _ _ hk
        · cases hk
      · intro k p w hp hk
        rw [List.getElem?_take] at hk hp
        split at hk
        · rename_i hlt
          rw [if_pos hlt] at hp
          rw [List.getElem?_drop] at hk hp
          exact (e3 _ _ _ hp hk).1
        · cases hk
    · simp [Rd.val] at h
  · rename_i ln cs hev
    rw [hev] at hy
    obtain ⟨ad, x, hp, hs, hc⟩ := hy
    refine load_cells hR hd ho hp (xs := (List.range (cs.take (szOf P t)).length).map x) (by simp) ?_ ?_ h hK
    · intro k w hk
      obtain ⟨hlt, rfl⟩ := (mapr_get _ _ _ _).1 hk
      have hlt2 : k < cs.length := by simp at hlt; omega
      exact (hc k _ (List.getElem?_eq_getElem hlt2)).1
    · intro k p w hp hk
      obtain ⟨hlt, rfl⟩ := (mapr_get _ _ _ _).1 hk
      rw [List.getElem?_take] at hp
      split at hp
      · exact RelC_of_Sh (hc k p hp).2
      · cases hp
  · simp [Rd.val] at h
theorem sound_nilCheck (hR : Rel W0 O0 S0 S φ st a W) (hd : Bd S0 a o) {y : Operand} (ho : o.op = .nilCheck y) {ad : Addr} (hp : a.eval y = .pointer (some ad)) (hK : Goes W0 O0 S0 a.tmps.size (st.put o.dst (st.ev y) []) K) : o.wp P a W K Q :=
  plain hR hd (x := a.eval y) (by simp [execOp, ho, hp]) (hR.ev y) hK
end
end Go.Pi
