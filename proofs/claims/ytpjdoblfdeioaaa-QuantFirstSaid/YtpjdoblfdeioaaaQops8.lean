/- Slice literals, clear, text of bytes. Own work of this session. -/
import Derived.Test.YtpjdoblfdeioaaaQops7
import Derived.Laws.BytesString
import Derived.Great.BuildSlice
set_option linter.unusedVariables false
set_option linter.unusedSimpArgs false
namespace Go.Pi
section
variable {P : Program} {W0 W W' : World} {O0 : List Nat} {S0 : Base} {S S' : Bool → Nat → Prop} {φ φ' : Nat → Option Nat} {st : St} {a : Act} {o : Oper} {K : Act → World → Prop} {Q : Exit → Act → World → Prop} {p : PV} {x : Value}
/-- Rows and the cells of an array. -/
def Rows (W : World) (S : Bool → Nat → Prop) (sz : Nat) (rows : List (List PV)) (cs : Array Value) : Prop :=
  (∀ r ∈ rows, r.length = sz) ∧ cs.size = rows.length * sz ∧ ∀ i r j p, rows[i]? = some r → r[j]? = some p → ∃ x, cs[i * sz + j]? = some x ∧ p.perm = true ∧ Sh W S p x
theorem rowsFill_sound (hR : Rel W0 O0 S0 S φ st a W) {sz : Nat} (hz : 0 < sz) : ∀ (l : List (Nat × Operand)) (rs : List (List PV)) (cs : Array Value) (S1 : Bool → Nat → Prop) (H1 : Heap), Rel W0 O0 S0 S1 φ (st.hps H1) a W → Ext W S φ st.hp W S1 φ H1 → Given S1 φ st.hp H1 →
    Rows W S1 sz rs cs → ∀ r, (rowsFill sz st.ev l rs).val st.hp = some r →
      ∃ S2 cs', Rel W0 O0 S0 S2 φ (st.hps (updH H1 r.2)) a W ∧ Ext W S φ st.hp W S2 φ (updH H1 r.2) ∧ Given S2 φ st.hp (updH H1 r.2) ∧ Instr.fill (fun i => some (i * sz, sz)) cs (l.map fun x => (x.1, a.eval x.2)) = some cs' ∧ Rows W S2 sz r.1 cs' ∧ r.1.length = rs.length
  | [], rs, cs, S1, H1, h1, e1, hG, hr, r, h => by
    simp only [rowsFill, Rd.val, Option.some.injEq] at h
    subst h
    exact ⟨S1, cs, h1, e1, hG, rfl, hr, rfl⟩
  | (i, y) :: l, rs, cs, S1, H1, h1, e1, hG, hr, r, h => by
    unfold rowsFill at h
    split at h
    · simp [Rd.val] at h
    · rename_i xs hxs
      split at h
      · rename_i hc
        obtain ⟨c1, c2⟩ := hc
        rw [Rd.val_bind] at h
        cases hn : (nrmCs xs).val st.hp with
        | none => simp [hn] at h
        | some w =>
          simp only [hn, Option.bind_some, Rd.val_bind] at h
          cases hl : (rowsFill sz st.ev l (rs.set i w.1)).val st.hp with
          | none => simp [hl] at h
          | some z =>
            simp only [hl, Option.bind_some, Rd.val, Option.some.injEq] at h
            subst h
            have hv := cellsOf_rel hxs (hR.ev y)
            obtain ⟨S2, g1, g2, g3, g4, g5, g6⟩ := nrmCs_sound hR xs (a.eval y).cells.toList S1 H1 h1 e1 hG hv w hn
            obtain ⟨q1, q2, q3⟩ := hr
            have hri : rs[i]? = some (rowAt rs i) := by simp [rowAt, List.getD_eq_getElem?_getD, List.getElem?_eq_getElem c2]
            have hrl := q1 _ (List.mem_of_getElem? hri)
            have hsp : splice (rowAt rs i) 0 w.1 = w.1 := by
              simp only [splice, List.take_zero, List.nil_append, Nat.zero_add]
              rw [List.drop_eq_nil_of_le (by omega), List.append_nil]
            have hl1 : (a.eval y).cells.toList.length = sz := by rw [hv.1]; exact c1
            obtain ⟨k1, k2⟩ := set_cells (R := fun p x => p.perm = true ∧ Sh W S2 p x) (i := i) (j := 0) (xs := w.1) (vs := (a.eval y).cells.toList) (cs := cs) (fun i r j p hi hj => by
              obtain ⟨x, hx, hp⟩ := q3 i r j p hi hj
              exact ⟨x, hx, hp.1, hp.2.mono g4 (fun _ _ _ => rfl)⟩) q1 c2 (by omega) (by rw [g5]; exact hv.1) g6 (by omega)
            rw [hsp] at k1 k2
            have hfit2 : i * sz + sz ≤ cs.size := by
              rw [q2, ← Nat.succ_mul]; exact Nat.mul_le_mul_right _ c2
            have hfold := toList_foldl_set (i * sz) (a.eval y).cells.toList cs (by omega)
            obtain ⟨S3, cs', p1, p2, p3, p4, p5, p6⟩ := rowsFill_sound hR hz l (rs.set i w.1) (((a.eval y).cells.toList.zipIdx).foldl (fun cs (x : Value × Nat) => cs.setIfInBounds (i * sz + x.2) x.1) cs) S2 (updH H1 w.2) g1 g2 g3
              ⟨k1, by rw [(Great.foldl_set (i * sz) _ 0 cs).1, q2]; simp, fun i' r j' p hi hj => by
                obtain ⟨x, hx, hp⟩ := k2 i' r j' p hi hj
                refine ⟨x, ?_, hp⟩
                rw [← Array.getElem?_toList, hfold]
                simpa using hx⟩ z hl
            refine ⟨S3, cs', by rw [updH_append]; exact p1, by rw [updH_append]; exact p2, by rw [updH_append]; exact p3, ?_, p5, by rw [p6]; simp⟩
            have hl2 : (a.eval y).cells.size = sz := hl1
            simp only [List.map_cons, Instr.fill]
            rw [if_neg (by simp; omega), ← p4]
            congr 1
            rw [← Array.foldl_toList, Array.toList_zipIdx]
      · simp [Rd.val] at h
theorem zeros_rows (hR : Rel W0 O0 S0 S φ st a W) {e : Nat} {z : List PV} (hz : zc P e = some z) (hs : z.length = szOf P e) (hp : 0 < szOf P e) {zz : List PV × Ups} (hn : (nrmCs z).val st.hp = some zz) (hu : zz.2.isEmpty = true) :
    ∃ (i : TypeInfo) (zv : Value), P.info? e = some i ∧ i.zero = some zv ∧ i.size = szOf P e ∧ zv.cells.size = szOf P e ∧ ∃ S2, Rel W0 O0 S0 S2 φ st a W ∧ Ext W S φ st.hp W S2 φ st.hp ∧ zz.1.length = szOf P e ∧
      ∀ (k : Nat) (p : PV), zz.1[k]? = some p → ∃ x, zv.cells[k]? = some x ∧ p.perm = true ∧ Sh W S2 p x := by
  obtain ⟨i, zv, hi, hzv, hrel⟩ := zc_inv hz
  have hr := hrel (W := W) (S := S) (φ := φ) (H := st.hp)
  obtain ⟨S2, g1, g2, g3, g4, g5, g6⟩ := nrmCs_sound hR z zv.cells.toList S st.hp hR Ext.refl (fun b => .inl rfl) hr zz hn
  have hu' : zz.2 = [] := by simpa using hu
  rw [hu'] at g1 g2
  refine ⟨i, zv, hi, hzv, by simp [szOf, hi], by rw [← hs, ← hr.1]; rfl, S2, g1, g2, by rw [g5, hs], fun k p hk => ?_⟩
  have hlt : k < zv.cells.toList.length := by rw [hr.1, ← g5]; exact (List.getElem?_eq_some_iff.1 hk).1
  have hx := List.getElem?_eq_getElem hlt
  refine ⟨_, ?_, g6 k p _ hk hx⟩
  rw [← Array.getElem?_toList]
  exact hx
theorem elT_zc {e : Nat} (h : elT P e = true) {z : List PV} (hz : zc P e = some z) : z.length = szOf P e := by
  unfold elT at h
  rw [hz] at h
  simp only [Bool.and_eq_true, beq_iff_eq] at h
  exact h.2
theorem zeroCells_get (zv : Array Value) (n k : Nat) : (Builtin.zeroCells zv n)[k]? = if k < n * zv.size then some (zv[k % zv.size]!) else none := by
  simp only [Builtin.zeroCells, Array.getElem?_map]
  by_cases h : k < n * zv.size
  · rw [if_pos h, Array.getElem?_range, if_pos h]; rfl
  · rw [if_neg h, Array.getElem?_range, if_neg h]; rfl
theorem rep_cells {sz n : Nat} {zs : List PV} {zv : Array Value} (hs : zv.size = sz) (hp : 0 < sz) (hl : zs.length = sz) (hz : ∀ (k : Nat) (p : PV), zs[k]? = some p → ∃ x, zv[k]? = some x ∧ p.perm = true ∧ Sh W S p x) :
    Rows W S sz (List.replicate n zs) (Builtin.zeroCells zv n) := by
  refine ⟨fun r hr => by rw [(List.mem_replicate.1 hr).2, hl], by rw [size_zeroCells, hs, List.length_replicate], fun i r j p hi hj => ?_⟩
  rw [List.getElem?_replicate] at hi
  split at hi
  · rename_i hin
    cases hi
    obtain ⟨x, hx, h2⟩ := hz j p hj
    have hj' : j < sz := by rw [← hl]; exact (List.getElem?_eq_some_iff.1 hj).1
    refine ⟨x, ?_, h2⟩
    have hlt : i * sz + j < n * sz := by
      have : i * sz + sz ≤ n * sz := by rw [← Nat.succ_mul]; exact Nat.mul_le_mul_right _ hin
      omega
    rw [zeroCells_get, hs, if_pos hlt, Nat.mul_comm, Nat.mul_add_mod, Nat.mod_eq_of_lt hj']
    rw [getElem!_def, hx]
  · cases hi
theorem buildSlice_run {t e len : Nat} {parts : Array (Nat × Value)} {i : TypeInfo} {zv : Value} {cells : Array Value} (ht : slT P t = some e) (hi : P.info? e = some i) (hz : i.zero = some zv) (hs : zv.cells.size = i.size) (hp : 0 < i.size) (hsm : len * i.size ≤ 16777216)
    (hf : Instr.fill (fun k => some (k * i.size, i.size)) (Builtin.zeroCells zv.cells len) parts.toList = some cells) :
    (Instr.buildSlice t len parts).run P W = .ok (.slice (some ⟨W.heap.size, 0, none⟩) len len) (W.alloc (.cells cells e)) := by
  have hsm' : ¬ 2 ^ 24 < len * i.size := by omega
  have hzc : Builtin.zeroCells zv.cells len = (Array.range (len * i.size)).map (zv.cells[· % zv.cells.size]!) := by rw [Builtin.zeroCells, hs]
  by_cases h0 : len * i.size = 0
  · have hl0 : len = 0 := by
      rcases Nat.mul_eq_zero.1 h0 with h | h
      · exact h
      · omega
    subst hl0
    have e1 : Builtin.zeroCells zv.cells 0 = #[] := by simp [Builtin.zeroCells]
    rw [e1] at hf
    have e2 : Array.map (fun _ : Nat => (default : Value)) (Array.range 0) = #[] := Array.eq_empty_of_size_eq_zero (by rw [Array.size_map, Array.size_range])
    simp [Instr.buildSlice, run_underlying (slT_inv ht), sizeOf, typeInfo, hi, newRow]
    rw [e2, hf]
    simp
  · rw [hzc] at hf
    exact run_buildSlice W t e len parts cells i zv (slT_inv ht) hi hz (by omega) h0 hf
theorem sound_buildSlice (hR : Rel W0 O0 S0 S φ st a W) (hd : Bd S0 a o) {t len e : Nat} {ps : Array (Nat × Operand)} (ho : o.op = .buildSlice t len ps) (ht : slT P t = some e) (he : elT P e = true) (hsm : len * szOf P e ≤ 16777216) {v : PV × Ups} (h : (newKey o.dst (bslK P st.ev len ps.toList e (zc P e))).val st.hp = some v)
    (hK : Goes W0 O0 S0 a.tmps.size (st.put o.dst v.1 v.2) K) : o.wp P a W K Q := by
  obtain ⟨d, hdst, hn, hq⟩ := newKey_inv h
  clear h
  obtain ⟨hpos, _⟩ := elT_inv he
  unfold bslK at hq
  split at hq
  · simp [Rd.val] at hq
  · rename_i z hz
    rw [Rd.val_bind] at hq
    cases hnz : (nrmCs z).val st.hp with
    | none => simp [hnz] at hq
    | some zz =>
      simp only [hnz, Option.bind_some] at hq
      split at hq
      · rename_i hu
        obtain ⟨i, zv, hi, hzv, his, hzs, S2, r0, e0, hl, hcell⟩ := zeros_rows hR hz (elT_zc he hz) hpos hnz hu
        rw [Rd.val_bind] at hq
        cases hf : (rowsFill (szOf P e) st.ev ps.toList (List.replicate len zz.1)).val st.hp with
        | none => simp [hf] at hq
        | some w =>
          simp only [hf, Option.bind_some, Rd.val, Option.some.injEq] at hq
          subst hq
          obtain ⟨S3, cs', r1, e1, hG, hfill, hrows, hlen⟩ := rowsFill_sound hR hpos ps.toList (List.replicate len zz.1) (Builtin.zeroCells zv.cells len) S2 st.hp r0 e0 (fun b => .inl rfl) (rep_cells hzs hpos hl hcell) w hf
          rw [List.length_replicate] at hlen
          have hrun := buildSlice_run (W := W) (parts := ps.map fun (i, x) => (i, a.eval x)) ht hi hzv (by rw [hzs, his]) (by omega) (by rw [his]; exact hsm) (cells := cs') (by rw [Array.toList_map, his]; exact hfill)
          have hnd : (updH st.hp w.2) d = none := by
            rcases hG d with h | ⟨v, T, sz, rows, h, _⟩
            · rw [h, hn]
            · rw [hn] at h; cases h
          have hmax : len ≤ maxI := by
            have : len ≤ len * szOf P e := Nat.le_mul_of_pos_right _ hpos
            simp only [maxI]
            omega
          have hnew : (W.alloc (.cells cs' e)).heap[W.heap.size]? = some (.cells cs' e (0, 0)) := heap_alloc_new W _
          obtain ⟨r2, e2⟩ := r1.new (d := d) (ver := 0) (T := e) (sz := szOf P e) (box := false) (rows := w.1) (fun blk hb => by
            have : (updH st.hp w.2) d = some blk := hb
            rw [hnd] at this; cases this) (Keep.alloc W _ _) hnew hrows.1 (by rw [hrows.2.1]; exact Nat.le_refl _) ⟨by rw [hlen]; exact hmax, fun hbx => by cases hbx⟩ (fun i r j p hi hj => by
            obtain ⟨x, hx, hp⟩ := hrows.2.2 i r j p hi hj
            exact ⟨x, hx, by rw [if_neg (by simp)]; exact hp⟩)
          refine done_value (p := .sl d 0 0 len) (ups := w.2 ++ [(d, .row 0 e (szOf P e) false w.1)]) hd (φ' := upd φ d (some W.heap.size)) (S' := S3) (W' := W.alloc (.cells cs' e)) (by rw [updH_append]; exact r2) (x := .slice (some ⟨W.heap.size, 0, none⟩) len len) (by simp only [execOp, ho, Sem.run_bind, hrun, Result.andThen_ok, Sem.run_pure]) ?_ hK
          refine ⟨⟨_, _, _, rfl⟩, .row 0 e (szOf P e) false w.1, by rw [updH_append]; simp [updH, upd], Nat.le_refl _, fun _ => ?_⟩
          exact hdr_new (by simp [upd]) hnew (by rw [hlen]; exact Nat.le_refl _) (by rw [hlen]; exact Nat.le_refl _) hmax (by rw [hrows.2.1, hlen])
      · simp [Rd.val] at hq
theorem rows_of_flat {sz : Nat} {ys : List (List PV)} {cs : Array Value} (h : Rows W S sz ys cs) : Flat W S sz ys cs.toList :=
  ⟨by rw [Array.length_toList]; exact h.2.1, h.1, fun i r j p hi hj => by
    obtain ⟨x, hx, hp⟩ := h.2.2 i r j p hi hj
    exact ⟨x, by rw [Array.getElem?_toList]; exact hx, hp⟩⟩
theorem clear_run {t e ty : Nat} (ht : slT P t = some e) {i : TypeInfo} {zv : Value} (hi : P.info? e = some i) (hz : i.zero = some zv) {g off len cap T : Nat} {cs : Array Value} (hg : W.heap[g]? = some (.cells cs T (0, 0))) (hlen : 0 < len) (hfit : off + len * zv.cells.size ≤ cs.size) (h1 : ∀ x ∈ (Builtin.zeroCells zv.cells len).toList, x.oneCell' = true) :
    (Builtin.clear_ #[t] ty #[.slice (some ⟨g, off, none⟩) len cap]).run P W = .ok (.tuple #[]) (W.setRow g (cs.toList.take off ++ (Builtin.zeroCells zv.cells len).toList ++ cs.toList.drop (off + (Builtin.zeroCells zv.cells len).toList.length)).toArray) := by
  have hst := run_storeCells_at P g off T (Builtin.zeroCells zv.cells len).toList 0 cs W hg (by rw [Array.length_toList, size_zeroCells]; omega) h1
  simp only [Nat.add_zero] at hst
  obtain ⟨m, rfl⟩ : ∃ m, len = m + 1 := ⟨len - 1, by omega⟩
  simp [Builtin.clear_, run_underlying (slT_inv ht), zeroValue, typeInfo, hi, hz, hst]
theorem clear_none_run {t e ty : Nat} (ht : slT P t = some e) (A : Option Addr) (cap : Nat) : (Builtin.clear_ #[t] ty #[.slice A 0 cap]).run P W = .ok (.tuple #[]) W := by
  cases A <;> simp [Builtin.clear_, run_underlying (slT_inv ht)]
theorem sound_clear (hR : Rel W0 O0 S0 S φ st a W) (hd : Bd S0 a o) {c : Call} (ho : o.op = .call c) (hb : c.callee = .builtin .clear) {t e b ver off len : Nat} (ht : c.argTypes.toList = [t]) (hp : c.args.toList.map st.ev = [.sl b ver off len]) (hte : slT P t = some e) (he : elT P e = true)
    {v : PV × Ups} (h : (getRow b ver (clearRow P e b ver off len (zc P e))).val st.hp = some v) (hK : Goes W0 O0 S0 a.tmps.size (st.put o.dst v.1 v.2) K) : o.wp P a W K Q := by
  obtain ⟨y, hy, hpe⟩ := one_arg hp
  have h1 := hR.ev y
  rw [hpe] at h1
  have hrun := run_builtin (P := P) (W := W) (a := a) ho hb
  rw [arr_of ht, hy] at hrun
  simp only [builtin, List.map_toArray, List.map_cons, List.map_nil] at hrun
  obtain ⟨hpos, _⟩ := elT_inv he
  obtain ⟨T, sz, box, rows, hbk, hq⟩ := getRow_inv h
  clear h
  unfold clearRow at hq
  split at hq
  · simp [Rd.val] at hq
  · rename_i z hz
    split at hq
    · rename_i hc
      obtain ⟨rfl, rfl, rfl, hle⟩ := hc
      rw [Rd.val_bind] at hq
      cases hnz : (nrmCs z).val st.hp with
      | none => simp [hnz] at hq
      | some zz =>
        simp only [hnz, Option.bind_some] at hq
        split at hq
        · rename_i hu
          simp only [Rd.val, Option.some.injEq] at hq
          subst hq
          obtain ⟨i, zv, hi, hzv, his, hzs, S2, r0, e0, hl, hcell⟩ := zeros_rows hR hz (elT_zc he hz) hpos hnz hu
          have hrep := rep_cells (n := len) hzs hpos hl hcell
          have hh := sl_inv (S := S) h1 hbk
          have hB := r0.blk b _ hbk
          by_cases hl0 : len = 0
          · subst hl0
            have : ∃ A cap, a.eval y = .slice A 0 cap := by
              simp only [Hdr] at hh
              cases hg : φ b with
              | none => simp only [hg] at hh; obtain ⟨_, _, _, A, hv⟩ := hh; exact ⟨A, 0, hv⟩
              | some g => simp only [hg] at hh; obtain ⟨A, cap, cs, hv, _⟩ := hh; exact ⟨A, cap, hv⟩
            obtain ⟨A, cap, hv⟩ := this
            rw [hv] at hrun
            refine keep_nothing (p := .tu []) (x := .tuple #[]) (ups := [(b, .row ver e (szOf P e) false (rows.take off ++ List.replicate 0 zz.1 ++ rows.drop (off + 0)))]) hR hd ?_ (by rw [hrun]; simp only [Sem.run_bind, clear_none_run hte, Result.andThen_ok, Sem.run_pure]) ⟨[], rfl, rfl, fun i p x hp => by simp at hp⟩ hK
            simp only [updH, List.replicate_zero, Nat.add_zero, List.append_nil, List.take_append_drop]
            exact upd_self hbk
          · simp only [Hdr] at hh
            simp only [BlkR] at hB
            cases hg : φ b with
            | none => simp only [hg] at hh; obtain ⟨_, _, h, _⟩ := hh; exact absurd h hl0
            | some g =>
              simp only [hg] at hh hB
              obtain ⟨A, cap, cs, hv, h2, h3, h4, h5, h6, h7, h8⟩ := hh
              obtain ⟨cs', g1, g2, g3, g4, g5⟩ := hB
              rw [h7] at g1
              cases g1
              have hA : A = some ⟨g, off * szOf P e, none⟩ := by
                rcases h2 with h2 | h2
                · omega
                · exact h2
              subst hA
              have hfl := rows_of_flat hrep
              have hfit : off * szOf P e + (Builtin.zeroCells zv.cells len).toList.length ≤ cs.size := by
                rw [hfl.size, List.length_replicate, ← Nat.add_mul]
                exact Nat.le_trans (Nat.mul_le_mul_right _ hle) g3
              have hcr := clear_run (W := W) (ty := o.type) hte hi hzv h7 (by omega : 0 < len) (off := off * szOf P e) (cap := cap) (by rw [Array.length_toList, size_zeroCells] at hfit; exact hfit) (flat_one hfl)
              rw [hv] at hrun
              have hcsz : (cs.toList.take (off * szOf P e) ++ (Builtin.zeroCells zv.cells len).toList ++ cs.toList.drop (off * szOf P e + (Builtin.zeroCells zv.cells len).toList.length)).toArray.size = cs.size := by
                rw [List.size_toArray, List.length_append, List.length_append, List.length_take, List.length_drop, Array.length_toList]; omega
              have hlen' : (rows.take off ++ List.replicate len zz.1 ++ rows.drop (off + len)).length = rows.length := by simp; omega
              obtain ⟨r1, e1⟩ := r0.write (rows' := rows.take off ++ List.replicate len zz.1 ++ rows.drop (off + len)) hbk hg h7 (keep_setRow W g _) (setRow_heap W g cs _ e (0, 0) h7) hcsz hlen'
                (fun r hr => by
                  rcases List.mem_append.1 hr with h | h
                  · rcases List.mem_append.1 h with h | h
                    · exact g2 r (List.mem_of_mem_take h)
                    · exact hfl.row r h
                  · exact g2 r (List.mem_of_mem_drop h))
                (fun i r j p hi hj => by
                  obtain ⟨x, hx, hp⟩ := put_cells (len := off) (fun i r j p hi hj => by
                    obtain ⟨x, hx, hp⟩ := g5 i r j p hi hj
                    rw [if_neg (by simp)] at hp
                    exact ⟨x, hx, hp⟩) g2 hfl (by omega) hfit i r j p (by rw [List.length_replicate]; exact hi) hj
                  exact ⟨x, hx, by rw [if_neg (by simp)]; exact hp⟩)
              exact done_value (p := .tu []) (x := .tuple #[]) (ups := [(b, .row ver e (szOf P e) false (rows.take off ++ List.replicate len zz.1 ++ rows.drop (off + len)))]) hd r1 (by rw [hrun]; simp only [Sem.run_bind, hcr, Result.andThen_ok, Sem.run_pure]) ⟨[], rfl, rfl, fun i p x hp => by simp at hp⟩ hK
        · simp [Rd.val] at hq
    · simp [Rd.val] at hq

/-! The text of some bytes. -/
theorem bytesOf_inv : ∀ (rows : List (List PV)) (l : List UInt8), (rows.mapM byte1) = some l → ∃ ns : List Int, rows = ns.map (fun n => [PV.s (.int .u8 n)]) ∧ l = ns.map fun n => UInt8.ofNat n.toNat
  | [], l, h => by
    simp at h
    subst h
    exact ⟨[], rfl, rfl⟩
  | r :: rows, l, h => by
    simp only [List.mapM_cons, Option.bind_eq_bind, Option.pure_def] at h
    cases hb : byte1 r with
    | none => simp [hb] at h
    | some c =>
      simp only [hb, Option.bind_some] at h
      cases hr : (rows.mapM byte1) with
      | none => simp [hr] at h
      | some q =>
        simp only [hr, Option.bind_some, Option.some.injEq] at h
        subst h
        obtain ⟨ns, h1, h2⟩ := bytesOf_inv rows q hr
        unfold byte1 at hb
        split at hb
        · rename_i n
          cases hb
          exact ⟨n :: ns, by rw [h1]; rfl, by rw [h2]; rfl⟩
        · cases hb
theorem pushes : ∀ (ns : List Int) (b : ByteArray), ns.foldl (fun r n => r.push (UInt8.ofNat n.toNat)) b = ⟨b.data ++ (ns.map fun n => UInt8.ofNat n.toNat).toArray⟩
  | [], b => by simp
  | n :: ns, b => by
    rw [List.foldl_cons, pushes ns]
    congr 1
    apply Array.ext'
    simp [ByteArray.push]
theorem flat_bytes {ns : List Int} {news : List Value} (h : Flat W S 1 (ns.map fun n => [PV.s (.int .u8 n)]) news) : news = ns.map (Value.int .u8) := by
  apply List.ext_getElem?
  intro i
  rw [List.getElem?_map]
  have hs := h.size
  rw [List.length_map, Nat.mul_one] at hs
  cases hn : ns[i]? with
  | none =>
    rw [List.getElem?_eq_none_iff] at hn
    rw [List.getElem?_eq_none (by omega)]
    rfl
  | some n =>
    obtain ⟨x, hx, _, hsx⟩ := h.cell i [PV.s (.int .u8 n)] 0 (.s (.int .u8 n)) (by rw [List.getElem?_map, hn]; rfl) rfl
    rw [Nat.mul_one, Nat.add_zero] at hx
    cases hsx
    rw [hx]
    rfl
theorem read_slice {p : PV} {v : Value} {ys : List (List PV)} {H : Heap} (hv : RelV W S φ H p v) (h : (readRows p).val H = some ys) : ∃ A l c, v = .slice A l c := by
  unfold readRows at h
  split at h
  · obtain ⟨A, c, e, _⟩ := sh_inv hv; exact ⟨A, _, c, e⟩
  · obtain ⟨A, e⟩ := hv; exact ⟨A, 0, 0, e⟩
  · exact hv.1
  · simp [Rd.val] at h
theorem sound_convert_bytes (hR : Rel W0 O0 S0 S φ st a W) (hd : Bd S0 a o) {src dst e : Nat} {y : Operand} (ho : o.op = .convert src dst y) {rows : List (List PV)} {s : ByteArray} (hs : slT P src = some e) (hi : inT P e = some .u8) (h1 : szOf P e = 1) (ht : stT P dst = true) (hr : (readRows (st.ev y)).val st.hp = some rows) (hb : bytesOf rows = some s)
    (hK : Goes W0 O0 S0 a.tmps.size (st.put o.dst (.s (.string s)) []) K) : o.wp P a W K Q := by
  unfold bytesOf at hb
  cases hm : (rows.mapM byte1) with
  | none => rw [hm] at hb; cases hb
  | some l =>
    rw [hm] at hb
    cases hb
    obtain ⟨ns, hns, hl⟩ := bytesOf_inv rows l hm
    subst hns
    obtain ⟨news, hf, hx⟩ := read_src hR hs (hR.ev y) hr (fun r hr => by obtain ⟨n, _, rfl⟩ := List.mem_map.1 hr; rw [h1]; rfl) (by rw [h1]; exact Nat.one_pos)
    rw [h1] at hf
    have hnews := flat_bytes hf
    subst hnews
    refine plain hR hd (x := .string ⟨l.toArray⟩) (p := .s (.string ⟨l.toArray⟩)) ?_ ⟨rfl, rfl⟩ hK
    have hc := hx.cells W rfl
    have hlen := hx.len W
    rw [h1] at hc
    rw [List.length_map] at hc hlen
    obtain ⟨A, n, c, hv⟩ := read_slice (hR.ev y) hr
    have key : (Conv.bytesToString (a.eval y)).run P W = .ok (.string ⟨l.toArray⟩) W := by
        rw [hv] at hc hlen ⊢
        simp only [Builtin.lenOf, Sem.run_pure, Result.ok.injEq, and_true] at hlen
        subst hlen
        cases A with
        | none =>
          simp only [Builtin.firstCells, Sem.run_pure, Result.ok.injEq, and_true] at hc
          have : ns = [] := by
            have := congrArg Array.size hc
            simpa using this.symm
          subst this
          subst hl
          rfl
        | some ad =>
          simp only [Builtin.firstCells, Nat.mul_one] at hc
          rw [run_bytesToString W ad _ c ns hc, pushes, hl]
          congr 3
          apply Array.ext'
          simp
    have : (convert src dst (a.eval y)).run P W = (Conv.bytesToString (a.eval y)).run P W := by
      rw [hv]
      simp only [convert, Sem.run_bind, run_underlying (slT_inv hs), run_underlying (stT_inv ht), run_underlying (inT_inv hi), Result.andThen_ok]
    simp only [execOp, ho, Sem.run_bind, this, key, Result.andThen_ok, Sem.run_pure]
end
end Go.Pi
