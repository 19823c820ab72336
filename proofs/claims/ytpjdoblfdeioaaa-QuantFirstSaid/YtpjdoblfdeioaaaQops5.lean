/- Operations that write. Own work of this session. -/
import Derived.Test.YtpjdoblfdeioaaaQstep
set_option linter.unusedVariables false
set_option linter.unusedSimpArgs false
namespace Go.Pi
section
variable {P : Program} {W0 W W' : World} {O0 : List Nat} {S0 : Base} {S S' : Bool → Nat → Prop} {φ φ' : Nat → Option Nat} {st : St} {a : Act} {o : Oper} {K : Act → World → Prop} {Q : Exit → Act → World → Prop} {p : PV} {x : Value}
theorem newKey_inv {α : Type} {d : Option Nat} {k : Nat → Rd α} {H : Heap} {r : α} (h : (newKey d k).val H = some r) : ∃ e, d = some e ∧ H e = none ∧ (k e).val H = some r := by
  unfold newKey at h
  cases d with
  | none => simp [Rd.val] at h
  | some e =>
    simp only [Rd.val_get] at h
    cases hb : H e with
    | none => simp only [hb] at h; exact ⟨e, rfl, hb, h⟩
    | some blk => simp [hb, Rd.val] at h
/-- A block that is new in the world gets a number (or a number's new place). -/
theorem Rel.new (h : Rel W0 O0 S0 S φ st a W) {d ver T sz : Nat} {box : Bool} {rows : List (List PV)} (hv : ∀ blk, st.hp d = some blk → blk.ver < ver) {W1 : World} (hk : Keep W W1 (fun _ => False)) {cs : Array Value} (hc : W1.heap[W.heap.size]? = some (.cells cs T (0, 0)))
    (h1 : ∀ r ∈ rows, r.length = sz) (h2 : rows.length * sz ≤ cs.size) (h3 : rows.length ≤ maxI ∧ (box = true → cs.size = rows.length * sz))
    (h4 : ∀ i r j p, rows[i]? = some r → r[j]? = some p → ∃ x, cs[i * sz + j]? = some x ∧ (if box = true then RelC W S φ st.hp p x else p.perm = true ∧ Sh W S p x)) :
    Rel W0 O0 S0 S (upd φ d (some W.heap.size)) (st.hps (upd st.hp d (some (.row ver T sz box rows)))) a W1 ∧ Ext W S φ st.hp W1 S (upd φ d (some W.heap.size)) (upd st.hp d (some (.row ver T sz box rows))) := by
  obtain ⟨r1, e1⟩ := h.world hk (fun k hk => hk.elim)
  obtain ⟨r2, e2⟩ := r1.place (b := d) (ver := ver) (T := T) (sz := sz) (box := box) (rows := rows) (g := some W.heap.size) hv (fun k hk => by
    cases hk
    exact ⟨fun hs => absurd (h.slt _ hs) (Nat.lt_irrefl _), .inr h.keep.size, fun b' v T' sz' box' rows' _ hb' hφ => absurd (h.sz hb' hφ) (Nat.lt_irrefl _)⟩)
    ⟨cs, hc, h1, h2, h3, fun i r j p hi hj => by
      obtain ⟨x, hx, hr⟩ := h4 i r j p hi hj
      refine ⟨x, hx, ?_⟩
      split
      · rename_i hb; rw [if_pos hb] at hr; exact hr.mono e1
      · rename_i hb; rw [if_neg hb] at hr; exact ⟨hr.1, hr.2.mono e1.sS e1.sW⟩⟩
  exact ⟨r2, e1.trans e2⟩
theorem put_put (st : St) (d : Option Nat) (p : PV) (H : Heap) : (st.hps H).put d p [] = { sl := match d with | some t => upd st.sl t p | none => st.sl, hp := H } := rfl
theorem done_value {ups : Ups} (hd : Bd S0 a o) (r1 : Rel W0 O0 S0 S' φ' (st.hps (updH st.hp ups)) a W') (hrun : (execOp a.eval o).run P W = .ok (.value x) W') (hv : RelV W' S' φ' (updH st.hp ups) p x) (hK : Goes W0 O0 S0 a.tmps.size (st.put o.dst p ups) K) : o.wp P a W K Q :=
  wp_value hrun (hK S' φ' _ _ (by rw [put_hps]; exact r1.slot hd (fun _ => hv)) (put_size _ _ _))
theorem done_skip {ups : Ups} (hd : Bd S0 a o) (r1 : Rel W0 O0 S0 S' φ' (st.hps (updH st.hp ups)) a W') (hrun : (execOp a.eval o).run P W = .ok .skip W') (hK : Goes W0 O0 S0 a.tmps.size (st.put o.dst .u ups) K) : o.wp P a W K Q :=
  wp_done hrun (hK S' φ' _ _ (by rw [put_hps]; exact r1.slot hd (fun _ => trivial)) (put_size _ _ _))
/-- A new variable. -/
theorem sound_newVar (hR : Rel W0 O0 S0 S φ st a W) (hd : Bd S0 a o) {d T : Nat} (hdst : o.dst = some d) (hn : st.hp d = none) {cs : List PV} {v : Value} (hr : RelCs W S φ st.hp cs v.cells.toList)
    (hrun : (execOp a.eval o).run P W = .ok (.value (.pointer (some ⟨W.heap.size, 0, none⟩))) (W.alloc (.cells v.cells T)))
    (hK : Goes W0 O0 S0 a.tmps.size (st.put o.dst (.ad d 0 0 0) [(d, .row 0 T cs.length true [cs])]) K) : o.wp P a W K Q := by
  obtain ⟨r1, e1⟩ := hR.new (d := d) (ver := 0) (T := T) (sz := cs.length) (box := true) (rows := [cs]) (fun blk hb => by rw [hn] at hb; cases hb) (W1 := W.alloc (.cells v.cells T)) (Keep.alloc _ _ _) (cs := v.cells) (heap_alloc_new W _)
    (fun r hr => by simp at hr; subst hr; rfl) (by have := hr.1; simp at this ⊢; omega) ⟨by simp [maxI], fun _ => by have := hr.1; simp at this ⊢; omega⟩ (fun i r j p hi hj => by
      cases i with
      | zero =>
        simp only [List.getElem?_cons_zero, Option.some.injEq] at hi
        subst hi
        have hlt : j < v.cells.toList.length := by rw [hr.1]; exact (List.getElem?_eq_some_iff.1 hj).1
        have hx := List.getElem?_eq_getElem hlt
        refine ⟨_, by rw [Nat.zero_mul, Nat.zero_add, ← Array.getElem?_toList]; exact hx, ?_⟩
        rw [if_pos rfl]
        exact hr.2 j p _ hj hx
      | succ i => simp at hi)
  refine done_value (p := .ad d 0 0 0) (ups := [(d, .row 0 T cs.length true [cs])]) hd r1 hrun ?_ hK
  refine ⟨⟨_, rfl⟩, .row 0 T cs.length true [cs], by simp [updH, upd], Nat.le_refl _, fun _ => ⟨W.heap.size, by simp [upd], by simp⟩⟩
theorem updH_off (H : Heap) (k : Nat) : ∀ (ups : Ups), k ∉ ups.map (·.1) → updH H ups k = H k
  | [], _ => rfl
  | (j, b) :: r, h => by
    simp only [List.map_cons, List.mem_cons, not_or] at h
    show updH (upd H j (some b)) r k = H k
    rw [updH_off _ k r h.2, upd, if_neg h.1]
theorem sound_newVar2 {H1 : Heap} {φ1 : Nat → Option Nat} (hR : Rel W0 O0 S0 S φ1 (st.hps H1) a W) (hd : Bd S0 a o) {d T : Nat} (hdst : o.dst = some d) (hn : H1 d = none) {ups0 : Ups} (hH : H1 = updH st.hp ups0) {cs : List PV} {v : Value} (hr : RelCs W S φ1 H1 cs v.cells.toList) {n : Nat} (hn2 : n = cs.length)
    (hrun : (execOp a.eval o).run P W = .ok (.value (.pointer (some ⟨W.heap.size, 0, none⟩))) (W.alloc (.cells v.cells T)))
    (hK : Goes W0 O0 S0 a.tmps.size (st.put o.dst (.ad d 0 0 0) (ups0 ++ [(d, .row 0 T n true [cs])])) K) : o.wp P a W K Q := by
  subst hn2
  obtain ⟨r1, e1⟩ := hR.new (d := d) (ver := 0) (T := T) (sz := cs.length) (box := true) (rows := [cs]) (fun blk hb => by rw [show (st.hps H1).hp d = H1 d from rfl, hn] at hb; cases hb) (W1 := W.alloc (.cells v.cells T)) (Keep.alloc _ _ _) (cs := v.cells) (heap_alloc_new W _)
    (fun r hr => by simp at hr; subst hr; rfl) (by have := hr.1; simp at this ⊢; omega) ⟨by simp [maxI], fun _ => by have := hr.1; simp at this ⊢; omega⟩ (fun i r j p hi hj => by
      cases i with
      | zero =>
        simp only [List.getElem?_cons_zero, Option.some.injEq] at hi
        subst hi
        have hlt : j < v.cells.toList.length := by rw [hr.1]; exact (List.getElem?_eq_some_iff.1 hj).1
        have hx := List.getElem?_eq_getElem hlt
        refine ⟨_, by rw [Nat.zero_mul, Nat.zero_add, ← Array.getElem?_toList]; exact hx, ?_⟩
        rw [if_pos rfl]
        exact hr.2 j p _ hj hx
      | succ i => simp at hi)
  have hU : updH st.hp (ups0 ++ [(d, .row 0 T cs.length true [cs])]) = upd H1 d (some (.row 0 T cs.length true [cs])) := by
    have app : ∀ (x y : Ups) (H : Heap), updH H (x ++ y) = updH (updH H x) y := by
      intro x
      induction x with
      | nil => intro y H; rfl
      | cons z x ih => intro y H; exact ih y _
    rw [app, ← hH]; rfl
  refine done_value (p := .ad d 0 0 0) (ups := ups0 ++ [(d, .row 0 T cs.length true [cs])]) hd (by rw [hU]; exact r1) hrun ?_ hK
  rw [hU]
  refine ⟨⟨_, rfl⟩, .row 0 T cs.length true [cs], by simp [upd], Nat.le_refl _, fun _ => ⟨W.heap.size, by simp [upd], by simp⟩⟩
theorem freeKs_inv {α : Type} {H : Heap} : ∀ {ks : List Nat} {x : Rd α} {r : α}, (freeKs ks x).val H = some r → (∀ k ∈ ks, H k = none) ∧ x.val H = some r
  | [], x, r, h => ⟨fun k hk => (by cases hk), h⟩
  | k :: ks, x, r, h => by
    simp only [freeKs, Rd.val_get] at h
    cases hk : H k with
    | none =>
      simp only [hk] at h
      obtain ⟨h1, h2⟩ := freeKs_inv h
      exact ⟨fun k' hk' => (List.mem_cons.1 hk').elim (fun e => e ▸ hk) (h1 k'), h2⟩
    | some b => simp [hk, Rd.val] at h
theorem promC_keys {d : Nat} : ∀ {j : Nat} {es : List (Option Nat)} {cs : List PV}, ∀ k ∈ (promC P d j es cs).2.map (·.1), ∃ i, j ≤ i ∧ k = nk d i := by
  intro j es cs
  fun_induction promC P d j es cs with
  | case1 j e es cs ih =>
    intro k hk
    simp only [List.map_cons, List.mem_cons] at hk
    rcases hk with rfl | hk
    · exact ⟨j, Nat.le_refl _, rfl⟩
    · obtain ⟨i, h1, h2⟩ := ih k hk
      exact ⟨i, by omega, h2⟩
  | case2 j e es c cs h ih =>
    intro k hk
    obtain ⟨i, h1, h2⟩ := ih k hk
    exact ⟨i, by omega, h2⟩
  | case3 j es cs => intro k hk; simp at hk
theorem promC_rel {d : Nat} : ∀ {j : Nat} {es : List (Option Nat)} {cs : List PV} {φ : Nat → Option Nat} {H : Heap} {vs : List Value}, Rel W0 O0 S0 S φ (st.hps H) a W → RelCs W S φ H cs vs → (∀ k ∈ (promC P d j es cs).2.map (·.1), H k = none) →
    ∃ φ', Rel W0 O0 S0 S φ' (st.hps (updH H (promC P d j es cs).2)) a W ∧ RelCs W S φ' (updH H (promC P d j es cs).2) (promC P d j es cs).1 vs ∧ Ext W S φ H W S φ' (updH H (promC P d j es cs).2) := by
  intro j es cs
  fun_induction promC P d j es cs with
  | case1 j e es cs ih =>
    intro φ H vs hR hv hf
    cases vs with
    | nil => have := hv.1; simp at this
    | cons v vs =>
      have hk : H (nk d j) = none := hf _ (by simp)
      obtain ⟨r1, e1⟩ := hR.place (b := nk d j) (ver := 0) (T := e) (sz := szOf P e) (box := false) (rows := []) (g := none) (fun blk hb => by rw [show (st.hps H).hp (nk d j) = H (nk d j) from rfl, hk] at hb; cases hb) (fun k hk => by cases hk) ⟨rfl, rfl⟩
      obtain ⟨φ', r2, c2, e2⟩ := ih r1 (hv.tail.2.mono e1) (fun k hk' => by
        obtain ⟨i, hi, rfl⟩ := promC_keys k hk'
        show upd H (nk d j) _ (nk d i) = none
        rw [upd, if_neg (by unfold nk; omega)]
        exact hf _ (by simp only [List.map_cons, List.mem_cons]; exact .inr hk'))
      refine ⟨φ', r2, RelCs.cons (RelC.mono e2 ?_) c2, e1.trans e2⟩
      obtain ⟨A, hA⟩ := hv.tail.1
      exact ⟨⟨A, 0, 0, hA⟩, .row 0 e (szOf P e) false [], by simp [upd], Nat.le_refl _, fun _ => by simp only [Hdr, upd, if_true]; exact ⟨trivial, trivial, trivial, A, hA⟩⟩
  | case2 j e es c cs h ih =>
    intro φ H vs hR hv hf
    cases vs with
    | nil => have := hv.1; simp at this
    | cons v vs =>
      obtain ⟨φ', r2, c2, e2⟩ := ih hR hv.tail.2 hf
      exact ⟨φ', r2, RelCs.cons (RelC.mono e2 hv.tail.1) c2, e2⟩
  | case3 j es cs =>
    intro φ H vs hR hv hf
    exact ⟨φ, hR, hv, Ext.refl⟩
theorem sound_alloc {es : List (Option Nat)} (hR : Rel W0 O0 S0 S φ st a W) (hd : Bd S0 a o) {T : Nat} (ho : o.op = .alloc T) {v : PV × Ups} (h : (newKey o.dst fun d => match zc P T with | some cs => freeKs ((promC P d 0 es cs).2.map (·.1)) (Rd.pure (PV.ad d 0 0 0, (promC P d 0 es cs).2 ++ [(d, Blk.row 0 T cs.length true [(promC P d 0 es cs).1])])) | none => .fail).val st.hp = some v)
    (hK : Goes W0 O0 S0 a.tmps.size (st.put o.dst v.1 v.2) K) : o.wp P a W K Q := by
  obtain ⟨d, hdst, hn, hq⟩ := newKey_inv h
  clear h
  cases hz : zc P T with
  | none => simp [hz, Rd.val] at hq
  | some cs =>
    simp only [hz] at hq
    obtain ⟨hfree, hq⟩ := freeKs_inv hq
    simp only [Rd.val, Option.some.injEq] at hq
    subst hq
    obtain ⟨i, zv, hi, hzv, hrel⟩ := zc_inv hz
    have hrel2 : RelCs W S φ st.hp cs zv.cells.toList := hrel
    have hlen := hrel2.1
    obtain ⟨φ1, r1, c1, e1⟩ := promC_rel (st := st) (H := st.hp) (j := 0) hR hrel hfree
    refine sound_newVar2 r1 hd hdst (H1 := updH st.hp (promC P d 0 es cs).2) (show updH st.hp (promC P d 0 es cs).2 d = none from by
      rw [updH_off st.hp d _ (fun hm => by obtain ⟨i, _, hi⟩ := promC_keys d hm; unfold nk at hi; omega)]; exact hn) rfl (v := zv) c1 (hlen.symm.trans c1.1) ?_ hK
    simp only [execOp, ho, Instr.alloc, zeroValue, typeInfo, hi, hzv, Sem.run_bind, run_program, Result.andThen_ok, Sem.run_pure, newVar, newRow, run_newObj_alloc]
theorem sound_box {es : List (Option Nat)} (hR : Rel W0 O0 S0 S φ st a W) (hd : Bd S0 a o) {T : Nat} {y : Operand} (ho : o.op = .box T y) {v : PV × Ups} (h : (newKey o.dst fun d => match cellsOf (st.ev y) with | some cs => freeKs ((promC P d 0 es cs).2.map (·.1)) (Rd.pure (PV.ad d 0 0 0, (promC P d 0 es cs).2 ++ [(d, Blk.row 0 T cs.length true [(promC P d 0 es cs).1])])) | none => .fail).val st.hp = some v)
    (hK : Goes W0 O0 S0 a.tmps.size (st.put o.dst v.1 v.2) K) : o.wp P a W K Q := by
  obtain ⟨d, hdst, hn, hq⟩ := newKey_inv h
  clear h
  cases hz : cellsOf (st.ev y) with
  | none => simp [hz, Rd.val] at hq
  | some cs =>
    simp only [hz] at hq
    obtain ⟨hfree, hq⟩ := freeKs_inv hq
    simp only [Rd.val, Option.some.injEq] at hq
    subst hq
    have hrel2 : RelCs W S φ st.hp cs (a.eval y).cells.toList := cellsOf_rel hz (hR.ev y)
    have hlen := hrel2.1
    obtain ⟨φ1, r1, c1, e1⟩ := promC_rel (st := st) (H := st.hp) (j := 0) hR hrel2 hfree
    refine sound_newVar2 r1 hd hdst (H1 := updH st.hp (promC P d 0 es cs).2) (show updH st.hp (promC P d 0 es cs).2 d = none from by
      rw [updH_off st.hp d _ (fun hm => by obtain ⟨i, _, hi⟩ := promC_keys d hm; unfold nk at hi; omega)]; exact hn) rfl (v := a.eval y) c1 (hlen.symm.trans c1.1) ?_ hK
    simp only [execOp, ho, Instr.box, Sem.run_bind, Result.andThen_ok, Sem.run_pure, newVar, newRow, run_newObj_alloc]

/-! What a block holds, read from then on. -/
theorem win_get {α : Type} (rows : List α) (off len i : Nat) : ((rows.drop off).take len)[i]? = if i < len then rows[off + i]? else none := by
  rw [List.getElem?_take, List.getElem?_drop]
theorem sh_of_block {H : Heap} {b ver T sz off len : Nat} {rows : List (List PV)} {v : Value} (hB : BlkR W S φ H b (.row ver T sz false rows)) (hh : Hdr W φ b (.row ver T sz false rows) off len v) (hS : ∀ ln k, S ln k → S' ln k) (ln : Bool) (hg : ∀ g, φ b = some g → S' ln g) :
    Sh W S' (.sh ln ((rows.drop off).take len)) v := by
  simp only [Hdr] at hh
  simp only [BlkR] at hB
  cases hφ : φ b with
  | none =>
    simp only [hφ] at hh hB
    obtain ⟨rfl, rfl, rfl, A, rfl⟩ := hh
    exact Sh.nil W S' ln A 0 (Nat.zero_le _)
  | some g =>
    simp only [hφ] at hh hB
    obtain ⟨A, cap, cs, rfl, h2, h3, h4, h5, h6, h7, h8⟩ := hh
    obtain ⟨cs', g1, g2, g3, g4, g5⟩ := hB
    rw [h7] at g1
    cases g1
    have hlen : ((rows.drop off).take len).length = len := by simp; omega
    have key := Sh.sl (W := W) (S := S') (ln := ln) (rows := (rows.drop off).take len) (A := A) (c := cap) (sz := sz) (fun i j => cs.getD ((off + i) * sz + j) undef) (by omega) h6
      (fun r hr => g2 r (List.mem_of_mem_drop (List.mem_of_mem_take hr))) (fun r hr p hp => ?_) (fun hne => ?_) (fun i r j p hi hj => ?_)
    · rw [hlen] at key; exact key
    · obtain ⟨i, hi⟩ := List.getElem?_of_mem (List.mem_of_mem_drop (List.mem_of_mem_take hr))
      obtain ⟨j, hj⟩ := List.getElem?_of_mem hp
      obtain ⟨x, _, hx⟩ := g5 i r j p hi hj
      rw [if_neg (by simp)] at hx
      exact hx.1
    · have hpos : 0 < ((rows.drop off).take len).length := List.length_pos_iff.2 hne
      rw [hlen] at hpos
      have hA : A = some ⟨g, off * sz, none⟩ := by
        rcases h2 with h2 | h2
        · omega
        · exact h2
      refine ⟨_, hA, hg g hφ, fun i r j p hi hj => ?_⟩
      rw [win_get] at hi
      split at hi
      · obtain ⟨x, hx, _⟩ := g5 _ r j p hi hj
        rw [add_lit, cell_of_row W g _ cs T (0, 0) h7, ← Nat.add_assoc, ← Nat.add_mul, hx, Array.getD_eq_getD_getElem?, hx]
        rfl
      · cases hi
    · rw [win_get] at hi
      split at hi
      · obtain ⟨x, hx, hr⟩ := g5 _ r j p hi hj
        rw [if_neg (by simp)] at hr
        rw [Array.getD_eq_getD_getElem?, hx]
        exact hr.2.mono hS (fun _ _ _ => rfl)
      · cases hi
/-- How far giving up has come. -/
def Given (S1 : Bool → Nat → Prop) (φ : Nat → Option Nat) (H H1 : Heap) : Prop :=
  ∀ b, H1 b = H b ∨ ∃ v T sz rows, H b = some (.row v T sz false rows) ∧ H1 b = some (.dead (v + 1)) ∧ ∀ g, φ b = some g → S1 false g
theorem live_given {S1 : Bool → Nat → Prop} {H H1 : Heap} (hG : Given S1 φ H H1) {b v T sz : Nat} {box : Bool} {rows : List (List PV)} (h : H1 b = some (.row v T sz box rows)) : H b = some (.row v T sz box rows) := by
  rcases hG b with e | ⟨_, _, _, _, _, e, _⟩
  · rw [← e]; exact h
  · rw [h] at e; cases e
theorem upd_self {H : Heap} {b : Nat} {x : Option Blk} (h : H b = x) : upd H b x = H := by
  funext k
  unfold upd
  split
  · rename_i hk; rw [hk, h]
  · rfl
/-- One block more is given up: it is only read from then on. -/
theorem give_up (hR : Rel W0 O0 S0 S φ st a W) {S1 : Bool → Nat → Prop} {H1 : Heap} (h1 : Rel W0 O0 S0 S1 φ (st.hps H1) a W) (e1 : Ext W S φ st.hp W S1 φ H1) (hG : Given S1 φ st.hp H1) {b v T sz : Nat} {rows : List (List PV)} (hb : st.hp b = some (.row v T sz false rows)) :
    ∃ S2, Rel W0 O0 S0 S2 φ (st.hps (upd H1 b (some (.dead (v + 1))))) a W ∧ Ext W S φ st.hp W S2 φ (upd H1 b (some (.dead (v + 1)))) ∧ Given S2 φ st.hp (upd H1 b (some (.dead (v + 1)))) ∧ (∀ ln k, S1 ln k → S2 ln k) ∧ ∀ g, φ b = some g → S2 false g := by
  rcases hG b with e | ⟨v', T', sz', rows', hb', e, hg⟩
  · have hb1 : H1 b = some (.row v T sz false rows) := by rw [e, hb]
    obtain ⟨r1, f1⟩ := h1.kill (b := b) (n := v + 1) (blk := .row v T sz false rows) hb1 (Nat.le_succ v)
    have hgo : ∀ g, φ b = some g → ¬ S1 true g ∧ (g ∈ O0 ∨ W0.heap.size ≤ g) ∧ g < W.heap.size := fun g hg => ⟨(h1.own b _ _ _ _ _ g hb1 hg).1, (h1.own b _ _ _ _ _ g hb1 hg).2, h1.sz hb1 hg⟩
    have hdead : ∀ g, φ b = some g → ¬ Live φ (upd H1 b (some (.dead (v + 1)))) g := by
      intro g hg hl
      rcases hl with ⟨b', v', T', sz', box', rows', hb', hg'⟩ | ⟨b', v', ks, hb', hg'⟩
      · by_cases hbb : b' = b
        · subst hbb; simp [upd] at hb'
        · simp only [upd, if_neg hbb] at hb'
          exact hbb (h1.inj b' b _ _ _ _ _ _ _ _ _ _ g hb' hb1 hg' hg)
      · exact h1.rowmp hb1 hg (upd_mp hb' (fun _ _ h => by cases h)).2 hg'
    obtain ⟨r2, f2⟩ := r1.grow (S' := fun ln k => S1 ln k ∨ φ b = some k) (fun _ _ h => .inl h) (fun k hk hn => by
        rcases hk with hk | hk
        · exact absurd hk hn
        · exact ⟨(hgo k hk).2.2, hdead k hk, .inr hk⟩)
      (fun k hk => hk.elim (fun h => .inl (h1.sle k h)) (fun h => .inr h)) (fun k hk => hk.elim (fun h => .inl h) (fun h => .inr (hgo k h).2.1))
    refine ⟨_, r2, e1.trans (f1.trans f2), fun b' => ?_, fun _ _ h => .inl h, fun g hg => .inr hg⟩
    by_cases hbb : b' = b
    · subst hbb
      exact .inr ⟨v, T, sz, rows, hb, by simp [upd], fun g hg => .inr hg⟩
    · simp only [upd, if_neg hbb]
      rcases hG b' with e' | ⟨v', T', sz', rows', q1, q2, q3⟩
      · exact .inl e'
      · exact .inr ⟨v', T', sz', rows', q1, q2, fun g hg => .inl (q3 g hg)⟩
  · rw [hb] at hb'
    cases hb'
    have hu : upd H1 b (some (.dead (v + 1))) = H1 := upd_self e
    rw [hu]
    exact ⟨S1, h1, e1, hG, fun _ _ h => h, hg⟩
theorem updH_append (H : Heap) : ∀ (x y : Ups), updH H (x ++ y) = updH (updH H x) y
  | [], y => rfl
  | (k, b) :: x, y => updH_append (upd H k (some b)) x y
theorem nrmCs_sound (hR : Rel W0 O0 S0 S φ st a W) : ∀ (ps : List PV) (xs : List Value) (S1 : Bool → Nat → Prop) (H1 : Heap), Rel W0 O0 S0 S1 φ (st.hps H1) a W → Ext W S φ st.hp W S1 φ H1 → Given S1 φ st.hp H1 →
    RelCs W S φ st.hp ps xs → ∀ r, (nrmCs ps).val st.hp = some r →
      ∃ S2, Rel W0 O0 S0 S2 φ (st.hps (updH H1 r.2)) a W ∧ Ext W S φ st.hp W S2 φ (updH H1 r.2) ∧ Given S2 φ st.hp (updH H1 r.2) ∧ (∀ ln k, S1 ln k → S2 ln k) ∧ r.1.length = ps.length ∧ ∀ (i : Nat) (q : PV) (x : Value), r.1[i]? = some q → xs[i]? = some x → q.perm = true ∧ Sh W S2 q x
  | [], xs, S1, H1, h1, e1, hG, hr, r, h => by
    simp only [nrmCs, Rd.val, Option.some.injEq] at h
    subst h
    exact ⟨S1, h1, e1, hG, fun _ _ h => h, rfl, fun i q x hq => by simp at hq⟩
  | p :: ps, [], S1, H1, h1, e1, hG, hr, r, h => by have := hr.1; simp at this
  | p :: ps, x :: xs, S1, H1, h1, e1, hG, hr, r, h => by
    simp only [nrmCs, Rd.val_bind] at h
    cases hp : (nrmC p).val st.hp with
    | none => simp [hp] at h
    | some y =>
      simp only [hp, Option.bind_some] at h
      cases hps : (nrmCs ps).val st.hp with
      | none => simp [hps] at h
      | some z =>
        simp only [hps, Option.bind_some, Rd.val, Option.some.injEq] at h
        subst h
        have hx := hr.tail.1
        have head : ∃ S2, Rel W0 O0 S0 S2 φ (st.hps (updH H1 y.2)) a W ∧ Ext W S φ st.hp W S2 φ (updH H1 y.2) ∧ Given S2 φ st.hp (updH H1 y.2) ∧ (∀ ln k, S1 ln k → S2 ln k) ∧ y.1.perm = true ∧ Sh W S2 y.1 x := by
          unfold nrmC at hp
          split at hp
          · rename_i v
            simp only [Rd.val, Option.some.injEq] at hp
            subst hp
            obtain ⟨rfl, h2⟩ := hx
            exact ⟨S1, h1, e1, hG, fun _ _ h => h, rfl, .s h2⟩
          · rename_i rows
            simp only [Rd.val, Option.some.injEq] at hp
            subst hp
            exact ⟨S1, h1, e1, hG, fun _ _ h => h, rfl, Sh.mono e1.sS (fun _ _ _ => rfl) hx⟩
          · simp only [Rd.val, Option.some.injEq] at hp
            subst hp
            obtain ⟨A, rfl⟩ := hx
            exact ⟨S1, h1, e1, hG, fun _ _ h => h, rfl, Sh.nil W S1 false A 0 (Nat.zero_le _)⟩
          · rename_i b ver off len
            obtain ⟨T, sz, box, rows, hb, hq⟩ := getRow_inv hp
            clear hp
            cases box with
            | true => simp [Rd.val] at hq
            | false =>
              simp only [Bool.false_eq_true, if_false, Rd.val, Option.some.injEq] at hq
              subst hq
              obtain ⟨S2, g1, g2, g3, g4, g5⟩ := give_up hR h1 e1 hG hb
              exact ⟨S2, g1, g2, g3, g4, rfl, sh_of_block (hR.blk b _ hb) (sl_inv (S := S) hx hb) (fun ln k hs => g4 _ _ (e1.sS _ _ hs)) false g5⟩
          · simp [Rd.val] at hp
        obtain ⟨S2, g1, g2, g3, g4, g5, g6⟩ := head
        obtain ⟨S3, k1, k2, k3, k4, k5, k6⟩ := nrmCs_sound hR ps xs S2 (updH H1 y.2) g1 g2 g3 hr.tail.2 z hps
        refine ⟨S3, by rw [updH_append]; exact k1, by rw [updH_append]; exact k2, by rw [updH_append]; exact k3, fun _ _ h => k4 _ _ (g4 _ _ h), by simp [k5], fun i q v hq hv => ?_⟩
        cases i with
        | zero =>
          simp only [List.getElem?_cons_zero, Option.some.injEq] at hq hv
          subst hq; subst hv
          exact ⟨g5, g6.mono k4 (fun _ _ _ => rfl)⟩
        | succ i => exact k6 i q v hq hv

/-! Append. -/
theorem elT_inv {e : Nat} (h : elT P e = true) : 0 < szOf P e ∧ ∃ i z, P.info? e = some i ∧ i.zero = some z ∧ z.cells.size = szOf P e ∧ i.size = szOf P e ∧ i.bytes = byOf P e := by
  unfold elT szOk at h
  simp only [Bool.and_eq_true, decide_eq_true_eq] at h
  obtain ⟨⟨h1, h2⟩, h3⟩ := h
  refine ⟨h2, ?_⟩
  cases hz : zc P e with
  | none => simp [hz] at h3
  | some zs =>
    simp only [hz, beq_iff_eq] at h3
    obtain ⟨i, zv, hi, hzv, hrel⟩ := zc_inv hz
    have hl := (hrel (W := default) (S := fun _ _ => True) (φ := fun _ => none) (H := fun _ => none)).1
    exact ⟨i, zv, hi, hzv, by rw [← h3, ← hl]; rfl, by simp [szOf, hi], by simp [byOf, hi]⟩
/-- What an append takes its elements from. -/
structure Src (P : Program) (W : World) (e u : Nat) (x : Value) (n : Nat) (news : List Value) : Prop where
  und : ∃ d, P.underlying u = some d ∧ ∀ k, d ≠ .int k
  len : ∀ W1, (Builtin.lenOf x).run P W1 = .ok n W1
  cells : ∀ W1, W1.heap = W.heap → (Builtin.firstCells (szOf P e) n x).run P W1 = .ok news.toArray W1
  size : news.length = n * szOf P e
theorem zeros_run {u : Nat} (h : ∃ d, P.underlying u = some d ∧ ∀ k, d ≠ .int k) (W1 : World) : (do pure ((← underlying u) matches .int _) : Sem Bool).run P W1 = .ok false W1 := by
  obtain ⟨d, h1, h2⟩ := h
  simp only [Sem.run_bind, run_underlying h1, Result.andThen_ok]
  cases d <;> first | rfl | exact absurd rfl (h2 _)
theorem append_grow_run {t u ty e : Nat} (ht : slT P t = some e) (he : elT P e = true) {x : Value} {n : Nat} {news olds : List Value} (hx : Src P W e u x n news) {A : Option Addr} {sLen sCap : Nat}
    (ho : ∀ W1, W1.heap = W.heap → (Builtin.firstCells (szOf P e) sLen (.slice A sLen sCap)).run P W1 = .ok olds.toArray W1) (hg : sCap < sLen + n) (h63 : sLen + n ≤ 9223372036854775807) (hby : (sLen + n) * byOf P e ≤ lim) :
    ∃ z : Array Value, z.size = szOf P e ∧ (Builtin.append_ #[t, u] ty #[.slice A sLen sCap, x]).run P W =
      .ok (.slice (some ⟨W.heap.size, 0, none⟩) (sLen + n) (grownCap W (sLen + n) sCap e)) (W.drew.alloc (.cells (olds.toArray ++ news.toArray ++ Builtin.zeroCells z (grownCap W (sLen + n) sCap e - (sLen + n))) e)) := by
  obtain ⟨hpos, i, z, hi, hz, hzs, hs, hb⟩ := elT_inv he
  refine ⟨z.cells, hzs, ?_⟩
  have hfit := growslice_fits hg (bytes := i.bytes) (by rw [hb]; exact hby)
  have hn : ¬ (sLen + n ≤ sCap) := by omega
  have h63' : ¬ (9223372036854775807 < ((sLen : Int) + (n : Int))) := by omega
  have h48' : ¬ (281474976710656 < Builtin.nextslicecap (sLen + n) sCap * i.bytes) := by omega
  have hc1 := hx.cells W.drew rfl
  have hc2 := ho W.drew rfl
  rw [← hs] at hc1 hc2
  have hl := hx.len W
  obtain ⟨d, h1, h2⟩ := hx.und
  have hzero : (match d with | .int _ => true | _ => false) = false := by cases d <;> first | rfl | exact absurd rfl (h2 _)
  simp [Builtin.append_, run_underlying (slT_inv ht), run_underlying h1, sizeOf, typeInfo, zeroValue, hi, hz, hl, hn, h63', h48', Question.forced, hc1, hc2, newRow, grownCap, hzero]
  congr 2
  apply Array.ext'
  simp [List.append_assoc]
theorem append_room_run {t u ty e : Nat} (ht : slT P t = some e) (he : elT P e = true) {x : Value} {n : Nat} {news : List Value} (hx : Src P W e u x n news) {g off sLen sCap : Nat} {cur : Array Value} (hg : W.heap[g]? = some (.cells cur e (0, 0)))
    (h1c : ∀ v ∈ news, v.oneCell' = true) (hroom : sLen + n ≤ sCap) (hfit : off + sLen * szOf P e + news.length ≤ cur.size) :
    (Builtin.append_ #[t, u] ty #[.slice (some ⟨g, off, none⟩) sLen sCap, x]).run P W =
      .ok (.slice (some ⟨g, off, none⟩) (sLen + n) sCap) (W.setRow g (cur.toList.take (off + sLen * szOf P e) ++ news ++ cur.toList.drop (off + sLen * szOf P e + news.length)).toArray) := by
  obtain ⟨hpos, i, z, hi, hz, hzs, hs, hb⟩ := elT_inv he
  have hc1 := hx.cells W rfl
  rw [← hs] at hc1 hfit ⊢
  have hl := hx.len W
  obtain ⟨d, h1, h2⟩ := hx.und
  have hzero : (match d with | .int _ => true | _ => false) = false := by cases d <;> first | rfl | exact absurd rfl (h2 _)
  have hst := run_storeCells_at P g (off + sLen * i.size) e news 0 cur W hg (by simpa using hfit) h1c
  simp only [Nat.add_zero] at hst
  simp [Builtin.append_, run_underlying (slT_inv ht), run_underlying h1, sizeOf, typeInfo, hi, hl, hroom, hc1, add_lit, hst, hzero]
theorem append_none_run {t u ty e : Nat} (ht : slT P t = some e) (he : elT P e = true) {x : Value} (hx : Src P W e u x 0 []) {A : Option Addr} {sLen sCap : Nat} (hroom : sLen ≤ sCap) :
    (Builtin.append_ #[t, u] ty #[.slice A sLen sCap, x]).run P W = .ok (.slice A sLen sCap) W := by
  obtain ⟨hpos, i, z, hi, hz, hzs, hs, hb⟩ := elT_inv he
  have hc1 := hx.cells W rfl
  rw [← hs] at hc1
  have hl := hx.len W
  obtain ⟨d, h1, h2⟩ := hx.und
  have hzero : (match d with | .int _ => true | _ => false) = false := by cases d <;> first | rfl | exact absurd rfl (h2 _)
  cases A <;> simp [Builtin.append_, run_underlying (slT_inv ht), run_underlying h1, sizeOf, typeInfo, hi, hl, hroom, hc1, hzero, storeCells]
/-- The cells of rows, one after another. -/
structure Flat (W : World) (S : Bool → Nat → Prop) (sz : Nat) (ys : List (List PV)) (news : List Value) : Prop where
  size : news.length = ys.length * sz
  row : ∀ r ∈ ys, r.length = sz
  cell : ∀ i r j p, ys[i]? = some r → r[j]? = some p → ∃ x, news[i * sz + j]? = some x ∧ p.perm = true ∧ Sh W S p x
theorem flat_one {sz : Nat} {ys : List (List PV)} {news : List Value} (h : Flat W S sz ys news) : ∀ v ∈ news, v.oneCell' = true := by
  intro v hv
  obtain ⟨k, hk, rfl⟩ := List.getElem_of_mem hv
  have hsz : 0 < sz := by
    rcases Nat.eq_zero_or_pos sz with e | e
    · have := h.size; rw [e, Nat.mul_zero] at this; omega
    · exact e
  have hlt : k / sz < ys.length := by rw [Nat.div_lt_iff_lt_mul hsz, ← h.size]; exact hk
  have hr := List.getElem?_eq_getElem hlt
  have hm : k % sz < ys[k / sz].length := by rw [h.row _ (List.getElem_mem hlt)]; exact Nat.mod_lt _ hsz
  obtain ⟨x, hx, _, hs⟩ := h.cell _ _ _ _ hr (List.getElem?_eq_getElem hm)
  rw [Nat.mul_comm, Nat.div_add_mod, List.getElem?_eq_getElem hk] at hx
  cases hx
  exact hs.one
theorem flat_of {sz : Nat} {ys : List (List PV)} (hr : ∀ r ∈ ys, r.length = sz) (x : Nat → Nat → Value) (hx : ∀ i r j p, ys[i]? = some r → r[j]? = some p → p.perm = true ∧ Sh W S p (x i j)) :
    Flat W S sz ys ((List.range (ys.length * sz)).map fun k => x (k / sz) (k % sz)) := by
  refine ⟨by simp, hr, fun i r j p hi hj => ?_⟩
  have hj' : j < sz := by rw [← hr r (List.mem_of_getElem? hi)]; exact (List.getElem?_eq_some_iff.1 hj).1
  have hi' : i < ys.length := (List.getElem?_eq_some_iff.1 hi).1
  have hsz : 0 < sz := by omega
  refine ⟨x i j, ?_, hx i r j p hi hj⟩
  rw [mapr_get]
  refine ⟨?_, ?_⟩
  · have : i * sz + sz ≤ ys.length * sz := by rw [← Nat.succ_mul]; exact Nat.mul_le_mul_right _ hi'
    omega
  · have e1 : (i * sz + j) / sz = i := by rw [Nat.mul_comm, Nat.mul_add_div hsz, Nat.div_eq_of_lt hj', Nat.add_zero]
    have e2 : (i * sz + j) % sz = j := by rw [Nat.mul_comm, Nat.mul_add_mod, Nat.mod_eq_of_lt hj']
    rw [e1, e2]
/-- Rows that are read, from a slice. -/
theorem sh_src {e t : Nat} {ln : Bool} {ys : List (List PV)} {v : Value} (ht : slT P t = some e) (h : Sh W S (.sh ln ys) v) (hr : ∀ r ∈ ys, r.length = szOf P e) (hp : 0 < szOf P e) :
    ∃ news, Flat W S (szOf P e) ys news ∧ Src P W e t v ys.length news := by
  cases h with
  | sl x c1 c2 c3 c4 c5 c6 =>
    rename_i A c sz
    refine ⟨_, flat_of hr x (fun i r j p hi hj => ⟨c4 r (List.mem_of_getElem? hi) p (List.mem_of_getElem? hj), c6 i r j p hi hj⟩), ⟨_, slT_inv ht, fun k hk => by cases hk⟩, fun W1 => rfl, fun W1 hW => ?_, by simp⟩
    by_cases hne : ys = []
    · subst hne
      cases A with
      | none => simp [Builtin.firstCells]
      | some ad => 
        have := run_loadCells_list (P := P) W1 ad [] (fun j v hj => by simp at hj)
        simpa [Builtin.firstCells] using this
    · obtain ⟨ad, rfl, hs, hc⟩ := c5 hne
      refine run_firstCells_some (P := P) W1 (szOf P e) ys.length ad _ _ _ (by simp) (fun j v hj => ?_)
      obtain ⟨hlt, rfl⟩ := (mapr_get _ _ _ _).1 hj
      have hi : j / szOf P e < ys.length := by rw [Nat.div_lt_iff_lt_mul hp]; exact hlt
      have hri := List.getElem?_eq_getElem hi
      have hm : j % szOf P e < ys[j / szOf P e].length := by rw [hr _ (List.getElem_mem hi)]; exact Nat.mod_lt _ hp
      have hsz : sz = szOf P e := (c3 _ (List.getElem_mem hi)).symm.trans (hr _ (List.getElem_mem hi))
      subst hsz
      have := hc _ _ _ _ hri (List.getElem?_eq_getElem hm)
      rw [Nat.mul_comm, Nat.div_add_mod] at this
      rw [World.cell?_of_block (w := W) (w' := W1) (by rw [hW])]
      exact this
theorem firstCells_zero (A : Option Addr) (l c size : Nat) (W1 : World) : (Builtin.firstCells size 0 (.slice A l c)).run P W1 = .ok #[] W1 := by
  cases A with
  | none => simp [Builtin.firstCells]
  | some ad =>
    have := run_loadCells_list (P := P) W1 ad [] (fun j v hj => by simp at hj)
    simpa [Builtin.firstCells] using this
/-- The first cells of a slice that reads a block. -/
theorem blk_first {H : Heap} {b ver T sz off len : Nat} {rows : List (List PV)} {v : Value} (hB : BlkR W S φ H b (.row ver T sz false rows)) (hh : Hdr W φ b (.row ver T sz false rows) off len v) {n : Nat} (hr : ∀ r ∈ ((rows.drop off).take len), r.length = n) (hn : 0 < n) :
    ∃ A cap news, v = .slice A len cap ∧ ((rows.drop off).take len).length = len ∧ Flat W S n ((rows.drop off).take len) news ∧ ∀ W1, W1.heap = W.heap → (Builtin.firstCells n len (.slice A len cap)).run P W1 = .ok news.toArray W1 := by
  simp only [Hdr] at hh
  simp only [BlkR] at hB
  cases hφ : φ b with
  | none =>
    simp only [hφ] at hh hB
    obtain ⟨rfl, rfl, rfl, A, rfl⟩ := hh
    exact ⟨A, 0, [], rfl, by simp, ⟨by simp, by simp, fun i r j p hi => by simp at hi⟩, fun W1 _ => firstCells_zero A 0 0 n W1⟩
  | some g =>
    simp only [hφ] at hh hB
    obtain ⟨A, cap, cs, rfl, h2, h3, h4, h5, h6, h7, h8⟩ := hh
    obtain ⟨cs', g1, g2, g3, g4, g5⟩ := hB
    rw [h7] at g1
    cases g1
    have hlen : ((rows.drop off).take len).length = len := by simp; omega
    by_cases hl0 : len = 0
    · subst hl0
      have hnil : ((rows.drop off).take 0) = [] := by simp
      rw [hnil]
      exact ⟨A, cap, [], rfl, rfl, ⟨by simp, by simp, fun i r j p hi => by simp at hi⟩, fun W1 _ => firstCells_zero A 0 cap n W1⟩
    · have hA : A = some ⟨g, off * sz, none⟩ := by
        rcases h2 with h2 | h2
        · omega
        · exact h2
      subst hA
      have get : ∀ i, i < len → ((rows.drop off).take len)[i]? = rows[off + i]? := fun i hi => by rw [win_get, if_pos hi]
      have hsz : sz = n := by
        have h0 : 0 < len := by omega
        have hi : off + 0 < rows.length := by omega
        have e1 := get 0 h0
        rw [List.getElem?_eq_getElem hi] at e1
        exact (g2 _ (List.getElem_mem hi)).symm.trans (hr _ (List.mem_of_getElem? e1))
      subst hsz
      refine ⟨_, cap, _, rfl, hlen, flat_of hr (fun i j => cs.getD ((off + i) * sz + j) undef) (fun i r j p hi hj => ?_), fun W1 hW => ?_⟩
      · rw [win_get] at hi
        split at hi
        · obtain ⟨x, hx, hp⟩ := g5 _ r j p hi hj
          rw [if_neg (by simp)] at hp
          rw [Array.getD_eq_getD_getElem?, hx]
          exact hp
        · cases hi
      · rw [hlen]
        refine run_firstCells_some (P := P) W1 sz len _ _ _ _ (by simp) (fun j v hj => ?_)
        obtain ⟨hlt, rfl⟩ := (mapr_get _ _ _ _).1 hj
        have hi : j / sz < len := by rw [Nat.div_lt_iff_lt_mul hn]; exact hlt
        have hi2 : off + j / sz < rows.length := by omega
        have hri := List.getElem?_eq_getElem hi2
        have hm : j % sz < rows[off + j / sz].length := by rw [g2 _ (List.getElem_mem hi2)]; exact Nat.mod_lt _ hn
        obtain ⟨x, hx, _⟩ := g5 _ _ _ _ hri (List.getElem?_eq_getElem hm)
        have e : off * sz + j = (off + j / sz) * sz + j % sz := by
          rw [Nat.add_mul, Nat.add_assoc, Nat.mul_comm (j / sz) sz, Nat.div_add_mod]
        rw [add_lit, cell_of_row W1 g _ cs T (0, 0) (by rw [hW]; exact h7), e, hx, Array.getD_eq_getD_getElem?, hx]
        rfl
theorem read_src (hR : Rel W0 O0 S0 S φ st a W) {e t : Nat} (ht : slT P t = some e) {p : PV} {v : Value} (hv : RelV W S φ st.hp p v) {ys : List (List PV)} (h : (readRows p).val st.hp = some ys) (hr : ∀ r ∈ ys, r.length = szOf P e) (hp : 0 < szOf P e) :
    ∃ news, Flat W S (szOf P e) ys news ∧ Src P W e t v ys.length news := by
  unfold readRows at h
  split at h
  · rename_i ln r
    simp only [Rd.val, Option.some.injEq] at h
    subst h
    exact sh_src ht hv hr hp
  · simp only [Rd.val, Option.some.injEq] at h
    subst h
    obtain ⟨A, rfl⟩ := hv
    exact sh_src ht (Sh.nil W S false A 0 (Nat.zero_le _)) hr hp
  · rename_i b ver off len
    obtain ⟨T, sz, box, rows, hb, hq⟩ := getRow_inv h
    clear h
    cases box with
    | true => simp [Rd.val] at hq
    | false =>
      simp only [Bool.false_eq_true, if_false, Rd.val, Option.some.injEq] at hq
      subst hq
      obtain ⟨A, cap, news, rfl, h1, h2, h3⟩ := blk_first (P := P) (hR.blk b _ hb) (sl_inv (S := S) hv hb) hr hp
      refine ⟨news, h2, ⟨_, slT_inv ht, fun k hk => by cases hk⟩, fun W1 => by rw [h1]; rfl, fun W1 hW => by rw [h1]; exact h3 W1 hW, h2.size⟩
  · simp [Rd.val] at h
theorem str_src {e u : Nat} (hu : stT P u = true) (he : szOf P e = 1) (s : ByteArray) :
    ∃ news, Flat W S (szOf P e) (s.data.toList.map fun c => [PV.s (.int .u8 c.toNat)]) news ∧ Src P W e u (.string s) s.size news := by
  refine ⟨s.data.toList.map fun c => .int .u8 c.toNat, ⟨by simp [he], fun r hr => ?_, fun i r j p hi hj => ?_⟩, ⟨_, stT_inv hu, fun k hk => by cases hk⟩, fun W1 => rfl, fun W1 hW => ?_, by simp [he]⟩
  · obtain ⟨c, _, rfl⟩ := List.mem_map.1 hr
    exact he.symm
  · rw [List.getElem?_map] at hi
    cases hc : s.data.toList[i]? with
    | none => simp [hc] at hi
    | some c =>
      simp only [hc, Option.map_some, Option.some.injEq] at hi
      subst hi
      cases j with
      | zero =>
        simp only [List.getElem?_cons_zero, Option.some.injEq] at hj
        subst hj
        exact ⟨.int .u8 c.toNat, by rw [he, Nat.mul_one, Nat.add_zero, List.getElem?_map, hc]; rfl, rfl, .s rfl⟩
      | succ j => simp at hj
  · have hx : (Array.map (fun b : UInt8 => Value.int IntKind.u8 (b.toNat : Int)) s.data).extract 0 s.size = Array.map (fun b : UInt8 => Value.int IntKind.u8 (b.toNat : Int)) s.data := by
      have hs : s.size = (Array.map (fun b : UInt8 => Value.int IntKind.u8 (b.toNat : Int)) s.data).size := by rw [Array.size_map]; rfl
      rw [hs, Array.extract_size]
    simp [Builtin.firstCells, hx]
    apply Array.ext'
    simp
end
end Go.Pi
