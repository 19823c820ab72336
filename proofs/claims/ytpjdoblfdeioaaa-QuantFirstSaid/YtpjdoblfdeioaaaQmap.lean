/- Sets of numbers that a call makes. Own work. -/
import Derived.Test.YtpjdoblfdeioaaaQops8
import Derived.MapKept
import Derived.MapFrom
set_option linter.unusedVariables false
set_option linter.unusedSimpArgs false
namespace Go.Pi
section
variable {P : Program} {W0 W W' : World} {O0 : List Nat} {S0 : Base} {S S' : Bool → Nat → Prop} {φ φ' : Nat → Option Nat} {st : St} {a : Act} {o : Oper} {K : Act → World → Prop} {Q : Exit → Act → World → Prop}
theorem mpT_inv {t : Nat} (h : mpT P t = true) : ∃ k e i, P.underlying t = some (.map k e) ∧ P.underlying k = some (.int .u64) ∧ P.info? e = some i ∧ i.zero = some (.bool false) := by
  unfold mpT at h
  split at h
  · rename_i k e ht
    split at h
    · rename_i hk he
      cases hi : P.info? e with
      | none => simp [hi] at he
      | some i => exact ⟨k, e, i, ht, hk, hi, by simpa [hi] using he⟩
    · cases h
  · cases h
theorem SetR.keys {es : Array MapEntry} {ks : List Int} (h : SetR es ks) : ∀ x ∈ es.toList, MapKept.IsKey (.int .u64) x.key := by
  intro x hx
  have : (x.key, x.val) ∈ es.toList.map (fun e => (e.key, e.val)) := List.mem_map_of_mem (f := fun e : MapEntry => (e.key, e.val)) hx
  rw [h] at this
  obtain ⟨n, _, hn⟩ := List.mem_map.1 this
  rw [← (Prod.mk.inj hn).1]
  rfl
theorem SetR.not {es : Array MapEntry} {ks : List Int} (h : SetR es ks) {n : Int} (hn : ∀ x ∈ es.toList, x.key ≠ .int .u64 n) : ks.contains n = false := by
  cases hc : ks.contains n with
  | false => rfl
  | true =>
    have hm : n ∈ ks := by simpa using hc
    have : (Value.int .u64 n, Value.bool true) ∈ ks.map fun n => (Value.int .u64 n, Value.bool true) := List.mem_map_of_mem (f := fun n => (Value.int .u64 n, Value.bool true)) hm
    rw [← h] at this
    obtain ⟨x, hx, he⟩ := List.mem_map.1 this
    exact absurd (Prod.mk.inj he).1 (hn x hx)
theorem SetR.is {es : Array MapEntry} {ks : List Int} (h : SetR es ks) {n : Int} {j : Nat} {e : MapEntry} (hj : es.toList[j]? = some e) (he : e.key = .int .u64 n) : ks.contains n = true ∧ e.val = .bool true := by
  have : (e.key, e.val) ∈ es.toList.map (fun e => (e.key, e.val)) := List.mem_map_of_mem (f := fun e : MapEntry => (e.key, e.val)) (List.mem_of_getElem? hj)
  rw [h] at this
  obtain ⟨m, hm, hq⟩ := List.mem_map.1 this
  obtain ⟨q1, q2⟩ := Prod.mk.inj hq
  rw [he] at q1
  cases q1
  exact ⟨by simpa using hm, q2.symm⟩
theorem getMap_inv {α : Type} {b ver : Nat} {k : List Int → Rd α} {H : Heap} {r : α} (h : (getMap b ver k).val H = some r) : ∃ ks, H b = some (.mp ver ks) ∧ (k ks).val H = some r := by
  unfold getMap at h
  rw [Rd.val_get] at h
  cases hb : H b with
  | none => simp [hb, Rd.val] at h
  | some blk => cases blk with
    | dead v => simp [hb, Rd.val] at h
    | row v T sz box rows => simp [hb, Rd.val] at h
    | mp v ks =>
      simp only [hb] at h
      split at h
      · rename_i hv; subst hv; exact ⟨ks, rfl, h⟩
      · simp [Rd.val] at h
/-- A set takes a number, or is written in its place. -/
theorem Rel.setMp (h : Rel W0 O0 S0 S φ st a W) {b ver : Nat} {ks : List Int} {g : Nat} (hb : st.hp b = none ∨ (φ b = some g ∧ ∃ ks0, st.hp b = some (.mp ver ks0)))
    (hk : Keep W W' (fun k => k = g)) (hg : ¬ S true g ∧ (g ∈ O0 ∨ W0.heap.size ≤ g)) (hr : ∀ b' v T sz box rows, st.hp b' = some (.row v T sz box rows) → φ b' ≠ some g) (hm : ∀ b' v ks, b' ≠ b → st.hp b' = some (.mp v ks) → φ b' ≠ some g)
    {es : Array MapEntry} {c : Nat} (hes : W'.heap[g]? = some (.map es c)) (hR : SetR es ks) :
    Rel W0 O0 S0 S (upd φ b (some g)) (st.hps (upd st.hp b (some (.mp ver ks)))) a W' := by
  have hφ : ∀ b', b' ≠ b → upd φ b (some g) b' = φ b' := fun b' hb => by simp [upd, hb]
  have hH : ∀ b', b' ≠ b → (upd st.hp b (some (.mp ver ks))) b' = st.hp b' := fun b' hb => by simp [upd, hb]
  have hS : ∀ ln k, S ln k → W'.heap[k]? = W.heap[k]? := fun ln k hs => hk.block k (h.slt k (by cases ln; exact h.sle k hs; exact hs)) (fun e => hg.1 (by subst e; cases ln; exact h.sle _ hs; exact hs))
  have hL : ∀ b' v' T' sz' box' rows2 g', st.hp b' = some (.row v' T' sz' box' rows2) → φ b' = some g' → W'.heap[g']? = W.heap[g']? := fun b' v' T' sz' box' rows2 g' hx hg' =>
    hk.block g' (h.sz hx hg') (fun e => hr b' _ _ _ _ _ hx (e ▸ hg'))
  have e : Ext W S φ st.hp W' S (upd φ b (some g)) (upd st.hp b (some (.mp ver ks))) := by
    refine ⟨fun _ _ hs => hs, hS, fun b' blk' hb' => ?_⟩
    by_cases hbb : b' = b
    · subst hbb
      rcases hb with hb | ⟨h1, ks0, hb⟩
      · rw [hb] at hb'; cases hb'
      · rw [hb] at hb'; cases hb'
        exact ⟨.mp ver ks, by simp [upd], Nat.le_refl _, fun _ => ⟨fun _ _ _ _ => trivial, fun i j v hh => by simp only [Adr, h1] at hh ⊢; simpa [upd] using hh⟩⟩
    · refine ⟨blk', by rw [hH b' hbb, hb'], Nat.le_refl _, fun _ => ⟨fun off len v hh => ?_, fun i j v hh => ?_⟩⟩
      · cases blk' with
        | dead v => trivial
        | mp v ks => trivial
        | row v2 T2 sz2 box2 rows2 =>
          simp only [Hdr, hφ b' hbb] at hh ⊢
          cases hg2 : φ b' with
          | none => simpa only [hg2] using hh
          | some g' =>
            simp only [hg2] at hh ⊢
            obtain ⟨A, cap, cs0, h1, h2, h3, h4, h5, h6, h7, h8⟩ := hh
            exact ⟨A, cap, cs0, h1, h2, h3, h4, h5, h6, (hL b' _ _ _ _ _ g' hb' hg2).trans h7, h8⟩
      · cases blk' with
        | dead v => trivial
        | mp v ks => simp only [Adr, hφ b' hbb] at hh ⊢; exact hh
        | row v2 T2 sz2 box2 rows2 => simp only [Adr, hφ b' hbb] at hh ⊢; exact hh
  have hrow : ∀ b' v T sz box rows, (upd st.hp b (some (.mp ver ks))) b' = some (.row v T sz box rows) → b' ≠ b ∧ st.hp b' = some (.row v T sz box rows) := by
    intro b' v T sz box rows hx
    by_cases hbb : b' = b
    · subst hbb; simp [upd] at hx
    · rw [hH b' hbb] at hx; exact ⟨hbb, hx⟩
  refine { keep := h.keep.trans hk (fun j hj => hj ▸ hg.2), own := fun b' v T sz box rows k hx hk' => ?_, inj := fun b1 b2 v v' T1 T2 sz1 sz2 bx1 bx2 r1 r2 k h1 h2 e1 e2 => ?_, blk := fun b' blk' hx => ?_, mps := ?_, sl := fun t => (h.sl t).mono e, sle := h.sle, slt := fun k hk' => Nat.lt_of_lt_of_le (h.slt k hk') hk.size, s0 := h.s0, s1 := h.s1, s2 := h.s2, dfr := h.dfr, par := h.par }
  · obtain ⟨q1, q2⟩ := hrow _ _ _ _ _ _ hx
    rw [hφ b' q1] at hk'
    exact h.own b' _ _ _ _ _ k q2 hk'
  · obtain ⟨q1, q2⟩ := hrow _ _ _ _ _ _ h1
    obtain ⟨q3, q4⟩ := hrow _ _ _ _ _ _ h2
    rw [hφ _ q1] at e1
    rw [hφ _ q3] at e2
    exact h.inj b1 b2 _ _ _ _ _ _ _ _ _ _ k q2 q4 e1 e2
  · by_cases hbb : b' = b
    · subst hbb
      have : blk' = .mp ver ks := by simpa [upd] using hx.symm
      subst this
      trivial
    · rw [show (st.hps (upd st.hp b (some (.mp ver ks)))).hp b' = st.hp b' from hH b' hbb] at hx
      refine (h.blk b' _ hx).mono e (hφ b' hbb) (fun hl g' hg' => ?_)
      cases blk' with
      | dead v => exact hl.elim
      | mp v ks => exact hl.elim
      | row v T' sz' box' rows2 => exact hL b' _ _ _ _ _ g' hx hg'
  · intro b' v' ks' hx
    by_cases hbb : b' = b
    · subst hbb
      have : v' = ver ∧ ks' = ks := by simp [upd] at hx; exact ⟨hx.1.symm, hx.2.symm⟩
      obtain ⟨rfl, rfl⟩ := this
      refine ⟨g, es, c, by simp [upd], hes, hR, hg.1, hg.2, fun b2 v2 ks2 h2 hg2 => ?_⟩
      by_cases hb2 : b2 = b'
      · exact hb2
      · rw [hφ b2 hb2] at hg2
        rw [show (st.hps (upd st.hp b' (some (.mp v' ks')))).hp b2 = st.hp b2 from hH b2 hb2] at h2
        exact absurd hg2 (hm b2 _ _ hb2 h2)
    · rw [show (st.hps (upd st.hp b (some (.mp ver ks)))).hp b' = st.hp b' from hH b' hbb] at hx
      obtain ⟨g', es', c', k1, k2, k3, k4, k5, k6⟩ := h.mps b' v' ks' hx
      have hne : g' ≠ g := fun q => hm b' _ _ hbb hx (q ▸ k1)
      refine ⟨g', es', c', by rw [hφ b' hbb]; exact k1, (hk.block g' (h.mz hx k1) hne).trans k2, k3, k4, k5, fun b2 v2 ks2 h2 hg2 => ?_⟩
      by_cases hb2 : b2 = b
      · subst hb2
        simp only [upd, if_true, Option.some.injEq] at hg2
        exact absurd hg2.symm hne
      · rw [hφ b2 hb2] at hg2
        rw [show (st.hps (upd st.hp b (some (.mp ver ks)))).hp b2 = st.hp b2 from hH b2 hb2] at h2
        exact k6 b2 _ _ h2 hg2
theorem keep_map (W : World) (g : Nat) (o : Obj) : Keep W { W with heap := W.heap.setIfInBounds g o } (fun k => k = g) :=
  ⟨rfl, rfl, rfl, by simp, Nat.le_refl _, fun k hk hne => by rw [Array.getElem?_setIfInBounds, if_neg (fun e : g = k => hne e.symm)]⟩
theorem sound_makeMap (hR : Rel W0 O0 S0 S φ st a W) (hd : Bd S0 a o) {t : Nat} (ho : o.op = .makeMap t none) (hm : mpT P t = true) {v : PV × Ups} (h : (newKey o.dst fun d => Rd.pure (PV.mp d 0, [(d, Blk.mp 0 [])])).val st.hp = some v)
    (hK : Goes W0 O0 S0 a.tmps.size (st.put o.dst v.1 v.2) K) : o.wp P a W K Q := by
  obtain ⟨d, hdst, hn, hq⟩ := newKey_inv h
  simp only [Rd.val, Option.some.injEq] at hq
  subst hq
  have hnew : (W.alloc (.map #[] 0)).heap[W.heap.size]? = some (.map #[] 0) := heap_alloc_new W _
  have r1 := hR.setMp (b := d) (ver := 0) (ks := []) (g := W.heap.size) (.inl hn) (W' := W.alloc (.map #[] 0)) ((Keep.alloc W _ _)) ⟨fun hs => absurd (hR.slt _ hs) (Nat.lt_irrefl _), .inr hR.keep.size⟩
    (fun b' v T sz box rows hb hg => absurd (hR.sz hb hg) (Nat.lt_irrefl _)) (fun b' v ks _ hb hg => absurd (hR.mz hb hg) (Nat.lt_irrefl _)) hnew (c := 0) rfl
  refine done_value (p := .mp d 0) (ups := [(d, .mp 0 [])]) hd r1 (x := .map (some W.heap.size)) ?_ ?_ hK
  · simp only [execOp, ho, Instr.makeMap, Option.map_none, Sem.run_bind, Result.andThen_ok, Sem.run_pure, run_newObj_alloc]
  · exact ⟨⟨_, rfl⟩, .mp 0 [], by simp [updH, upd], Nat.le_refl _, fun _ => ⟨W.heap.size, by simp [upd], rfl⟩⟩
theorem mp_inv {H : Heap} {b ver : Nat} {ks : List Int} {w : Value} (h : RelC W S φ H (.mp b ver) w) (hb : H b = some (.mp ver ks)) : ∃ g, φ b = some g ∧ w = .map (some g) := by
  obtain ⟨_, blk, h1, h2, h3⟩ := h
  rw [hb] at h1
  cases h1
  exact h3 rfl
theorem zeroBool_run {e : Nat} {i : TypeInfo} (hi : P.info? e = some i) (hz : i.zero = some (.bool false)) : (zeroValue e).run P W = .ok (.bool false) W := by
  simp only [zeroValue, typeInfo, hi, hz, Sem.run_bind, run_program, Result.andThen_ok, Sem.run_pure]
theorem sound_lookup (hR : Rel W0 O0 S0 S φ st a W) (hd : Bd S0 a o) {t : Nat} {x k : Operand} (ho : o.op = .lookup t x k false) (hm : mpT P t = true) {b ver : Nat} {n : Int} (e1 : st.ev x = .mp b ver) (e2 : st.ev k = .s (.int .u64 n)) {v : PV × Ups}
    (h : (getMap b ver fun ks => Rd.pure (PV.s (.bool (ks.contains n)), ([] : Ups))).val st.hp = some v) (hK : Goes W0 O0 S0 a.tmps.size (st.put o.dst v.1 v.2) K) : o.wp P a W K Q := by
  obtain ⟨ks, hb, hq⟩ := getMap_inv h
  simp only [Rd.val, Option.some.injEq] at hq
  subst hq
  have hx := hR.ev x
  rw [e1] at hx
  have hk := hR.ev k
  rw [e2] at hk
  have hkv := int_inv hk
  obtain ⟨g, hg, hxv⟩ := mp_inv (W := W) (S := S) hx hb
  obtain ⟨g', es, c, k1, k2, k3, k4, k5, k6⟩ := hR.mps b ver ks hb
  rw [hg] at k1
  cases k1
  obtain ⟨kt, et, i, u1, u2, u3, u4⟩ := mpT_inv hm
  refine plain hR hd (x := .bool (ks.contains n)) (p := .s (.bool (ks.contains n))) ?_ ⟨rfl, rfl⟩ hK
  rcases MapKept.findNow_spec (d := .int .u64) (k := .int .u64 n) rfl es.toList 0 k3.keys with ⟨f1, f2⟩ | ⟨j, e, f1, f2, f3⟩
  · simp only [execOp, ho, hxv, hkv, Instr.lookup, Sem.run_bind, Result.andThen_ok, run_underlying u1, MapKept.run_getObj_map k2, Sem.run_pure, MapKept.run_checkKey u2 (show MapKept.IsKey (.int .u64) (.int .u64 n) from rfl), MapKept.run_findKey u2 f1, zeroBool_run u3 u4, k3.not f2]
    rfl
  · obtain ⟨q1, q2⟩ := k3.is f2 f3
    simp only [execOp, ho, hxv, hkv, Instr.lookup, Sem.run_bind, Result.andThen_ok, run_underlying u1, MapKept.run_getObj_map k2, Sem.run_pure, MapKept.run_checkKey u2 (show MapKept.IsKey (.int .u64) (.int .u64 n) from rfl), MapKept.run_findKey u2 f1, q1, q2]
    rfl
theorem sound_mapUpdate (hR : Rel W0 O0 S0 S φ st a W) (hd : Bd S0 a o) {t : Nat} {x k y : Operand} (ho : o.op = .mapUpdate t x k y) (hm : mpT P t = true) {b ver : Nat} {n : Int} (e1 : st.ev x = .mp b ver) (e2 : st.ev k = .s (.int .u64 n)) (e3 : st.ev y = .s (.bool true)) {v : PV × Ups}
    (h : (getMap b ver fun ks => Rd.pure (PV.u, [(b, Blk.mp ver (if ks.contains n = true then ks else ks ++ [n]))])).val st.hp = some v) (hK : Goes W0 O0 S0 a.tmps.size (st.put o.dst v.1 v.2) K) : o.wp P a W K Q := by
  obtain ⟨ks, hb, hq⟩ := getMap_inv h
  simp only [Rd.val, Option.some.injEq] at hq
  subst hq
  have hx := hR.ev x
  rw [e1] at hx
  have hk := hR.ev k
  rw [e2] at hk
  have hkv := int_inv hk
  have hy := hR.ev y
  rw [e3] at hy
  have hyv := bool_inv hy
  obtain ⟨g, hg, hxv⟩ := mp_inv (W := W) (S := S) hx hb
  obtain ⟨g', es, c, k1, k2, k3, k4, k5, k6⟩ := hR.mps b ver ks hb
  rw [hg] at k1
  cases k1
  have hlt : g < W.heap.size := hR.mz hb hg
  have hφ : upd φ b (some g) = φ := by
    funext k'
    unfold upd
    split
    · rename_i hk'; rw [hk', hg]
    · rfl
  obtain ⟨kt, et, i, u1, u2, u3, u4⟩ := mpT_inv hm
  have key : ∀ (es' : Array MapEntry) (c' : Nat) (ks' : List Int), SetR es' ks' → Rel W0 O0 S0 S φ (st.hps (updH st.hp [(b, .mp ver ks')])) a { W with heap := W.heap.setIfInBounds g (.map es' c') } := by
    intro es' c' ks' hs
    have := hR.setMp (b := b) (ver := ver) (ks := ks') (g := g) (.inr ⟨hg, ks, hb⟩) (keep_map W g (.map es' c')) ⟨k4, k5⟩ (fun b' v T sz box rows h1 h2 => hR.rowmp h1 h2 hb hg) (fun b' v ks2 hne h1 h2 => hne (k6 b' v ks2 h1 h2))
      (es := es') (c := c') (by simp [Array.getElem?_setIfInBounds, hlt]) hs
    rw [hφ] at this
    exact this
  rcases MapKept.findNow_spec (d := .int .u64) (k := .int .u64 n) rfl es.toList 0 k3.keys with ⟨f1, f2⟩ | ⟨j, e, f1, f2, f3⟩
  · rw [k3.not f2, if_neg Bool.false_ne_true] at hK
    refine done_skip hd (key (es.push { key := .int .u64 n, val := .bool true, born := c }) (c + 1) (ks ++ [n]) ?_) ?_ hK
    · unfold SetR at k3 ⊢
      simp [k3]
    · simp only [execOp, ho, hxv, hkv, hyv, Instr.mapUpdate, Sem.run_bind, Result.andThen_ok, run_underlying u1, MapKept.run_getObj_map k2, Sem.run_pure, MapKept.run_checkKey u2 (show MapKept.IsKey (.int .u64) (.int .u64 n) from rfl), MapKept.run_findKey u2 f1, MapKept.run_setObj_map _ k2]
  · obtain ⟨q1, q2⟩ := k3.is f2 f3
    rw [if_pos q1] at hK
    have hj : es[j]? = some e := by simpa using f2
    refine done_skip hd (key (es.modify j fun e => { e with key := .int .u64 n, val := .bool true }) c ks ?_) ?_ hK
    · unfold SetR at k3 ⊢
      rw [← k3, Array.toList_modify]
      apply List.ext_getElem?
      intro m
      simp only [List.getElem?_map, List.getElem?_modify]
      by_cases hmj : j = m
      · subst hmj
        simp [f2, f3, q2]
      · simp [hmj]
    · simp only [execOp, ho, hxv, hkv, hyv, Instr.mapUpdate, Sem.run_bind, Result.andThen_ok, run_underlying u1, MapKept.run_getObj_map k2, Sem.run_pure, MapKept.run_checkKey u2 (show MapKept.IsKey (.int .u64) (.int .u64 n) from rfl), MapKept.run_findKey u2 f1, MapKept.run_setObj_map _ k2, Nat.zero_add, hj, Option.map_some, Option.getD_some, f3, MapKept.run_keyThatStays (show MapKept.IsKey (.int .u64) (.int .u64 n) from rfl)]
end
end Go.Pi
