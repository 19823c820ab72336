/- Lengths, aggregates. Own work of this session. -/
import Derived.Test.YtpjdoblfdeioaaaQops3
import Derived.Great.FillDense
set_option linter.unusedVariables false
set_option linter.unusedSimpArgs false
namespace Go.Pi
section
variable {P : Program} {W0 W W' : World} {O0 : List Nat} {S0 : Base} {S S' : Bool → Nat → Prop} {φ φ' : Nat → Option Nat} {st : St} {a : Act} {o : Oper} {K : Act → World → Prop} {Q : Exit → Act → World → Prop} {p : PV} {x : Value}
/-- A builtin that is called. -/
theorem run_builtin {c : Call} (ho : o.op = .call c) {b : Builtin} (hb : c.callee = .builtin b) :
    (execOp a.eval o).run P W = (builtin b c.argTypes o.type (c.args.map fun | .const _ => true | _ => false) (c.args.map a.eval)).run P W := by
  unfold execOp
  rw [ho]
  simp only [resolve, hb, Sem.run_bind, Sem.run_pure, Result.andThen_ok, invoke]
  rfl
theorem one_arg {f : Operand → PV} {c : Array Operand} {p : PV} (h : c.toList.map f = [p]) : ∃ y, c = #[y] ∧ f y = p := by
  cases c with
  | mk l =>
    match l, h with
    | [y], h => exact ⟨y, rfl, by simpa using h⟩
theorem two_args {f : Operand → PV} {c : Array Operand} {p q : PV} (h : c.toList.map f = [p, q]) : ∃ y z, c = #[y, z] ∧ f y = p ∧ f z = q := by
  cases c with
  | mk l =>
    match l, h with
    | [y, z], h => exact ⟨y, z, rfl, by simp at h; exact h.1, by simp at h; exact h.2⟩
theorem arr_of {c : Array Nat} {l : List Nat} (h : c.toList = l) : c = l.toArray := by rw [← h]
theorem len_run_slice {t e ty : Nat} (ht : slT P t = some e) (A : Option Addr) (n cap : Nat) : (Builtin.len_ #[t] ty #[.slice A n cap]).run P W = .ok (.int .i64 n) W := by
  simp [Builtin.len_, run_underlying (slT_inv ht)]; rfl
theorem len_run_string {t ty : Nat} (ht : stT P t = true) (s : ByteArray) : (Builtin.len_ #[t] ty #[.string s]).run P W = .ok (.int .i64 s.size) W := by
  simp [Builtin.len_, run_underlying (stT_inv ht)]; rfl
theorem isSome_ex {α : Type} {x : Option α} (h : x.isSome = true) : ∃ y, x = some y := Option.isSome_iff_exists.1 h
theorem sound_len (hR : Rel W0 O0 S0 S φ st a W) (hd : Bd S0 a o) {c : Call} (ho : o.op = .call c) (hb : c.callee = .builtin .len) {t : Nat} {p : PV} (ht : c.argTypes.toList = [t]) (hp : c.args.toList.map st.ev = [p]) {v : PV} (h : (lenP P t p).val st.hp = some v)
    (hK : Goes W0 O0 S0 a.tmps.size (st.put o.dst v []) K) : o.wp P a W K Q := by
  obtain ⟨y, hy, rfl⟩ := one_arg hp
  have h1 := hR.ev y
  have hrun := run_builtin (P := P) (W := W) (a := a) ho hb
  rw [arr_of ht, hy] at hrun
  simp only [builtin, List.map_toArray, List.map_cons, List.map_nil] at hrun
  unfold lenP at h
  split at h
  · rename_i s e1
    rw [e1] at h1
    split at h
    · rename_i hs
      simp only [Rd.val, Option.some.injEq] at h
      subst h
      refine plain hR hd (x := .int .i64 s.size) (p := .s (.int .i64 s.size)) ?_ ⟨rfl, rfl⟩ hK
      rw [hrun, str_inv h1]
      simp only [Sem.run_bind, len_run_string hs, Result.andThen_ok, Sem.run_pure]
    · simp [Rd.val] at h
  · rename_i ln rows e1
    rw [e1] at h1
    split at h
    · rename_i hs
      obtain ⟨e, hs⟩ := isSome_ex hs
      simp only [Rd.val, Option.some.injEq] at h
      subst h
      obtain ⟨A, cap, hv, _⟩ := sh_inv h1
      refine plain hR hd (x := .int .i64 rows.length) (p := .s (.int .i64 rows.length)) ?_ ⟨rfl, rfl⟩ hK
      rw [hrun, hv]
      simp only [Sem.run_bind, len_run_slice hs, Result.andThen_ok, Sem.run_pure]
    · simp [Rd.val] at h
  · rename_i b ver off len e1
    rw [e1] at h1
    obtain ⟨T, sz, box, rows, hb', hq⟩ := getRow_inv h
    clear h
    have hh := sl_inv (S := S) h1 hb'
    split at hq
    · rename_i hs
      obtain ⟨e, hs⟩ := isSome_ex hs
      simp only [Rd.val, Option.some.injEq] at hq
      subst hq
      refine plain hR hd (x := .int .i64 len) (p := .s (.int .i64 len)) ?_ ⟨rfl, rfl⟩ hK
      rw [hrun]
      have : ∃ A cap, a.eval y = .slice A len cap := by
        simp only [Hdr] at hh
        cases hg : φ b with
        | none => simp only [hg] at hh; obtain ⟨_, _, rfl, A, hv⟩ := hh; exact ⟨A, 0, hv⟩
        | some g => simp only [hg] at hh; obtain ⟨A, cap, cs, hv, _⟩ := hh; exact ⟨A, cap, hv⟩
      obtain ⟨A, cap, hv⟩ := this
      rw [hv]
      simp only [Sem.run_bind, len_run_slice hs, Result.andThen_ok, Sem.run_pure]
    · simp [Rd.val] at hq
  · rename_i e1
    rw [e1] at h1
    obtain ⟨A, hv⟩ := h1
    split at h
    · rename_i hs
      obtain ⟨e, hs⟩ := isSome_ex hs
      simp only [Rd.val, Option.some.injEq] at h
      subst h
      refine plain hR hd (x := .int .i64 0) (p := .s (.int .i64 0)) ?_ ⟨rfl, rfl⟩ hK
      rw [hrun, hv]
      simp only [Sem.run_bind, len_run_slice hs, Result.andThen_ok, Sem.run_pure]
      rfl
    · simp [Rd.val] at h
  · simp [Rd.val] at h

/-! The least, the greatest. -/
theorem bestK_inv {mx : Bool} {k : IntKind} : ∀ {ps : List PV} {x : Int} {v : PV}, bestK mx k x ps = some v → ∀ {vs : List Value}, RelCs W S φ st.hp ps vs →
    (vs.foldlM (if mx then Builtin.max2 else Builtin.min2) (.int k x)).run P W = .ok (match v with | .s r => r | _ => .nilIface) W ∧ ∃ r, v = .s r ∧ r.oneCell' = true
  | [], x, v, h, [], _ => by
    simp only [bestK, Option.some.injEq] at h
    subst h
    exact ⟨rfl, _, rfl, rfl⟩
  | [], x, v, h, _ :: _, hr => by have := hr.1; simp at this
  | _ :: _, x, v, h, [], hr => by have := hr.1; simp at this
  | p :: ps, x, v, h, w :: vs, hr => by
    unfold bestK at h
    split at h
    · rename_i heq; cases heq
    · rename_i k' y r heq
      cases heq
      split at h
      · rename_i hk
        subst hk
        have h1 : w = .int k y := hr.tail.1.1.symm
        subst h1
        have ih := bestK_inv h hr.tail.2
        refine ⟨?_, ih.2⟩
        rw [← ih.1]
        simp only [List.foldlM_cons, Sem.run_bind]
        cases mx
        · simp only [Bool.false_eq_true, if_false, Builtin.min2, Sem.run_pure, Result.andThen_ok]
        · simp only [if_true, Builtin.max2, Sem.run_pure, Result.andThen_ok, gt_iff_lt]
      · cases h
    · cases h
theorem evals (hR : Rel W0 O0 S0 S φ st a W) : ∀ {l : List Operand} {ps : List PV}, l.map st.ev = ps → ∀ (i : Nat) (p : PV) (x : Value), ps[i]? = some p → (l.map a.eval)[i]? = some x → RelV W S φ st.hp p x := by
  intro l ps h i p x hp hx
  subst h
  rw [List.getElem?_map] at hp hx
  cases hl : l[i]? with
  | none => simp [hl] at hp
  | some y =>
    simp only [hl, Option.map_some, Option.some.injEq] at hp hx
    subst hp; subst hx
    exact hR.ev y
theorem bestK_s {mx : Bool} {k : IntKind} : ∀ {ps : List PV} {x : Int} {v : PV}, bestK mx k x ps = some v → ∀ p ∈ ps, ∃ n, p = .s (.int k n)
  | [], _, _, _ => fun p hp => by cases hp
  | p :: ps, x, v, h => by
    unfold bestK at h
    split at h
    · rename_i heq; cases heq
    · rename_i k' y r heq
      cases heq
      split at h
      · rename_i hk
        subst hk
        intro q hq
        rcases List.mem_cons.1 hq with rfl | hq
        · exact ⟨y, rfl⟩
        · exact bestK_s h q hq
      · cases h
    · cases h
theorem sound_best (mx : Bool) (hR : Rel W0 O0 S0 S φ st a W) (hd : Bd S0 a o) {c : Call} (ho : o.op = .call c) (hb : c.callee = .builtin (if mx then .max else .min)) {v : PV} (h : best mx (c.args.toList.map st.ev) = some v)
    (hK : Goes W0 O0 S0 a.tmps.size (st.put o.dst v []) K) : o.wp P a W K Q := by
  have hrun := run_builtin (P := P) (W := W) (a := a) ho hb
  have hev := evals hR (l := c.args.toList) rfl
  generalize hps : c.args.toList.map st.ev = ps at h hev
  unfold best at h
  split at h
  · rename_i k x r
    have hl : ∃ y ys, c.args.toList = y :: ys := by
      cases hc : c.args.toList with
      | nil => rw [hc] at hps; cases hps
      | cons y ys => exact ⟨y, ys, rfl⟩
    obtain ⟨y, ys, hl⟩ := hl
    rw [hl] at hev hps
    have e0 : a.eval y = .int k x := int_inv (hev 0 _ (a.eval y) rfl rfl)
    have hrs : RelCs W S φ st.hp r (ys.map a.eval) := by
      have hlen : ys.length = r.length := by
        have := congrArg List.length hps
        simpa using this
      refine ⟨by simpa using hlen, fun i p x' hp hx => ?_⟩
      have := hev (i + 1) p x' hp hx
      obtain ⟨n, rfl⟩ := bestK_s h p (List.mem_of_getElem? hp)
      exact this
    obtain ⟨g1, r', rfl, g2⟩ := bestK_inv (P := P) h hrs
    have hargs : (c.args.map a.eval).toList = .int k x :: ys.map a.eval := by rw [Array.toList_map, hl, List.map_cons, e0]
    refine plain hR hd (x := r') (p := .s r') ?_ ⟨rfl, g2⟩ hK
    rw [hrun]
    cases mx
    · simp only [Bool.false_eq_true, if_false, builtin, Builtin.min_, hargs, Sem.run_bind]
      simp only [Bool.false_eq_true, if_false] at g1
      rw [g1]
      rfl
    · simp only [if_true, builtin, Builtin.max_, hargs, Sem.run_bind]
      simp only [if_true] at g1
      rw [g1]
      rfl
  · cases h

/-! Aggregates. -/
theorem cells_agg (xs : Array Value) : (Value.agg xs).cells = xs := rfl
theorem cells_one {v : Value} (h : v.oneCell' = true) : v.cells = #[v] := by
  cases v <;> first | rfl | (simp [Value.oneCell'] at h)
theorem RelC.one {H : Heap} {p : PV} {v : Value} (h : RelC W S φ H p v) : v.oneCell' = true := by
  cases p with
  | u => exact h
  | s v' => exact h.2
  | z => obtain ⟨A, rfl⟩ := h; rfl
  | sh ln rows => exact Sh.one h
  | sl b ver off len => obtain ⟨⟨A, l, c, rfl⟩, _⟩ := h; rfl
  | ad b ver i j => obtain ⟨⟨ad, rfl⟩, _⟩ := h; rfl
  | mp b ver => obtain ⟨⟨g, rfl⟩, _⟩ := h; rfl
  | sa ln cs => obtain ⟨ad, x, rfl, _⟩ := h; rfl
  | fn f caps => cases caps with
    | nil => have : v = .func (.func f) #[] #[] := h; subst this; rfl
    | cons _ _ => exact h.elim
  | _ => exact h.elim
theorem RelCs.ones {H : Heap} {ps : List PV} {xs : List Value} (h : RelCs W S φ H ps xs) : ∀ v ∈ xs, v.oneCell' = true := by
  intro v hv
  obtain ⟨i, hi, rfl⟩ := List.getElem_of_mem hv
  have hi' : i < ps.length := by rw [← h.1]; exact hi
  exact (h.2 i _ _ (List.getElem?_eq_getElem hi') (List.getElem?_eq_getElem hi)).one
/-- The cells that a value fills. -/
theorem cellsOf_rel {H : Heap} {p : PV} {v : Value} {xs : List PV} (h : cellsOf p = some xs) (hv : RelV W S φ H p v) : RelCs W S φ H xs v.cells.toList := by
  have one : ∀ {p : PV}, RelC W S φ H p v → RelCs W S φ H [p] v.cells.toList := fun {p} hp => by
    rw [cells_one hp.one]
    exact RelCs.cons hp RelCs.nil
  cases p with
  | ag cs => cases h; obtain ⟨ys, rfl, hy⟩ := hv; exact hy
  | tu _ => cases h
  | ow _ _ => cases h
  | bx _ _ => cases h
  | mp _ _ => cases h
  | u => cases h
  | fn f caps => cases caps with
    | nil =>
      cases h
      obtain ⟨ys, rfl, hy⟩ := hv
      have hn : ys = [] := List.eq_nil_of_length_eq_zero hy.1
      subst hn
      exact one (p := .fn f []) rfl
    | cons _ _ => cases h
  | s a => cases h; exact one (p := .s a) hv
  | z => cases h; exact one (p := .z) hv
  | sh a b => cases h; exact one (p := .sh a b) hv
  | sl a b c d => cases h; exact one (p := .sl a b c d) hv
  | ad a b c d => cases h; exact one (p := .ad a b c d) hv
  | sa a b => cases h; exact one (p := .sa a b) hv
theorem ofV_rel {H : Heap} {v : Value} (h : v.oneCell' = true) : RelC W S φ H (ofV v) v := by
  unfold ofV
  split
  · exact ⟨none, rfl⟩
  · exact ⟨rfl, h⟩
theorem zc_inv {t : Nat} {z : List PV} (h : zc P t = some z) : ∃ i zv, P.info? t = some i ∧ i.zero = some zv ∧ ∀ {W S φ H}, RelCs W S φ H z zv.cells.toList := by
  unfold zc zeroV at h
  cases hi : P.info? t with
  | none => simp [hi] at h
  | some i =>
    cases hz : i.zero with
    | none => simp [hi, hz] at h
    | some zv =>
      simp only [hi, hz, Option.map_some, Option.bind_some] at h
      split at h
      · rename_i hall
        simp only [Option.some.injEq] at h
        subst h
        refine ⟨i, zv, rfl, hz, fun {W S φ H} => ⟨by simp, fun k p x hp hx => ?_⟩⟩
        rw [List.getElem?_map, hx] at hp
        cases hp
        exact ofV_rel (List.all_eq_true.1 hall x (List.mem_of_getElem? hx))
      · cases h
theorem toList_foldl_set (off : Nat) (l : List Value) (cs : Array Value) (h : off + l.length ≤ cs.size) : ((l.zipIdx).foldl (fun cs (x : Value × Nat) => cs.setIfInBounds (off + x.2) x.1) cs).toList = cs.toList.take off ++ l ++ cs.toList.drop (off + l.length) := by
  obtain ⟨h1, h2⟩ := Great.foldl_set off l 0 cs
  apply List.ext_getElem?
  intro k
  rw [Array.getElem?_toList, h2 k]
  simp only [Nat.add_zero, List.getElem?_append, List.length_append, List.length_take, Array.length_toList, List.getElem?_take, List.getElem?_drop, Array.getElem?_toList]
  by_cases c1 : k < off
  · rw [if_neg (by omega), if_pos (by omega), if_pos (by omega), if_pos c1]
  · by_cases c2 : k < off + l.length
    · rw [if_pos (by omega), if_pos (by omega), if_neg (by omega)]
      congr 1
      omega
    · rw [if_neg (by omega), if_neg (by omega)]
      congr 1
      omega
theorem splice_rel {H : Heap} {z : List PV} {zs : List Value} {xs : List PV} {ys : List Value} (h : RelCs W S φ H z zs) (h' : RelCs W S φ H xs ys) (off : Nat) (hle : off + xs.length ≤ z.length) :
    RelCs W S φ H (splice z off xs) (zs.take off ++ ys ++ zs.drop (off + ys.length)) := by
  have e1 := h.1
  have e2 := h'.1
  refine ⟨by simp [splice]; omega, fun i p x hp hx => ?_⟩
  simp only [splice, List.getElem?_append, List.length_append, List.length_take, List.getElem?_take, List.getElem?_drop] at hp hx
  rw [e1, e2] at hx
  by_cases c1 : i < off
  · rw [if_pos (by omega), if_pos (by omega), if_pos c1] at hp hx
    exact h.2 i p x hp hx
  · by_cases c2 : i < off + xs.length
    · rw [if_pos (by omega), if_neg (by omega)] at hp hx
      exact h'.2 _ p x hp hx
    · rw [if_neg (by omega)] at hp hx
      exact h.2 _ p x hp hx
theorem fill_rel (hR : Rel W0 O0 S0 S φ st a W) {t : Nat} {place : Nat → Option (Nat × Nat)} (hpl : ∀ i off e, (match arT P t with | some (_, e) => some (i * szOf P e, e) | none => fieldT P t i) = some (off, e) → place i = some (off, szOf P e)) :
    ∀ (l : List (Nat × Operand)) (cs cs' : List PV) (vs : Array Value), RelCs W S φ st.hp cs vs.toList → buildFill P t st.ev l cs = some cs' →
      ∃ r, Instr.fill place vs (l.map fun x => (x.1, a.eval x.2)) = some r ∧ RelCs W S φ st.hp cs' r.toList
  | [], cs, cs', vs, hr, h => by
    simp only [buildFill, Option.some.injEq] at h
    subst h
    exact ⟨vs, rfl, hr⟩
  | (i, y) :: l, cs, cs', vs, hr, h => by
    unfold buildFill at h
    split at h
    · rename_i off e xs e1 e2
      split at h
      · rename_i hc
        obtain ⟨c1, c2⟩ := hc
        have hv := cellsOf_rel e2 (hR.ev y)
        have hl : (a.eval y).cells.size = szOf P e := by rw [← c1, ← hv.1]; rfl
        have hsz : vs.size = cs.length := hr.1
        have hxl : (a.eval y).cells.size = xs.length := hv.1
        have step := splice_rel hr hv off (by omega)
        obtain ⟨r, g1, g2⟩ := fill_rel hR hpl l _ cs' ((((a.eval y).cells.toList).zipIdx).foldl (fun cs (x : Value × Nat) => cs.setIfInBounds (off + x.2) x.1) vs)
          (by rw [toList_foldl_set off _ vs (by rw [Array.length_toList]; omega)]; exact step) h
        refine ⟨r, ?_, g2⟩
        rw [← g1]
        simp only [List.map_cons, Instr.fill, hpl i off e e1]
        rw [if_neg (by simp; omega)]
        congr 1
        rw [← Array.foldl_toList, Array.toList_zipIdx]
      · cases h
    · cases h
theorem sound_build (hR : Rel W0 O0 S0 S φ st a W) (hd : Bd S0 a o) {t : Nat} {ps : Array (Nat × Operand)} (ho : o.op = .build t ps) (hbl : blT P t = true) {z cs : List PV} (hz : zc P t = some z) (h : buildFill P t st.ev ps.toList z = some cs)
    (hK : Goes W0 O0 S0 a.tmps.size (st.put o.dst (.ag cs) []) K) : o.wp P a W K Q := by
  obtain ⟨i, zv, hi, hzv, hrel⟩ := zc_inv hz
  have hb : ∃ r, P.built t (ps.toList.map fun x => (x.1, a.eval x.2)) = some r ∧ RelCs W S φ st.hp cs r.toList := by
    unfold Program.built
    unfold blT at hbl
    split at hbl
    · rename_i fs hu
      have hall := List.all_eq_true.1 hbl
      have hm : ∀ (l : List Field), (∀ f ∈ l, (P.info? f.type).isSome = true) → l.mapM (fun f => (P.info? f.type).map fun i => (f.offset, i.size)) = some (l.map fun f => (f.offset, szOf P f.type)) := by
        intro l
        induction l with
        | nil => intro _; rfl
        | cons f l ih =>
          intro hl
          obtain ⟨j, hj⟩ := isSome_ex (hl f List.mem_cons_self)
          simp only [List.mapM_cons, hj, Option.map_some, ih (fun g hg => hl g (List.mem_cons_of_mem _ hg)), Option.bind_eq_bind, Option.bind_some, Option.pure_def, List.map_cons, szOf]
      simp only [hi, hu, hzv, hm _ hall]
      refine fill_rel hR (t := t) ?_ ps.toList z cs zv.cells hrel h
      intro k off e he
      have hna : arT P t = none := by unfold arT; rw [hu]
      rw [hna] at he
      obtain ⟨fs', fd, h1, h2, h3, h4⟩ := fieldT_inv he
      rw [hu] at h1
      cases h1
      simp only [List.getElem?_toArray, List.getElem?_map, Array.getElem?_toList, h2, Option.map_some, h3, h4]
    · rename_i n e hu
      obtain ⟨ie, hie⟩ := isSome_ex hbl
      simp only [hi, hu, hzv, hie]
      refine fill_rel hR (t := t) ?_ ps.toList z cs zv.cells hrel h
      intro k off e' he
      have hna : arT P t = some (n, e) := by unfold arT; rw [hu]
      rw [hna] at he
      simp only [Option.some.injEq, Prod.mk.injEq] at he
      obtain ⟨rfl, rfl⟩ := he
      simp only [szOf, hie]
    · cases hbl
  obtain ⟨r, h1, h2⟩ := hb
  refine plain hR hd (x := .agg r) (p := .ag cs) ?_ ⟨r.toList, rfl, h2⟩ hK
  have h1' : P.built t (ps.map fun (i, x) => (i, a.eval x)).toList = some r := by rw [Array.toList_map]; exact h1
  simp only [execOp, ho, Sem.run_bind, run_build W t _ r h1', Result.andThen_ok, Sem.run_pure]
theorem capOk_rel {H : Heap} {q : PV} {v : Value} (h : capOk q = true) (hv : RelV W S φ H q v) : RelC W S φ H q v := by
  cases q with
  | fn f caps => cases caps with
    | nil =>
      obtain ⟨ys, rfl, hy⟩ := hv
      have hn : ys = [] := List.eq_nil_of_length_eq_zero hy.1
      subst hn
      rfl
    | cons _ _ => cases h
  | u => cases h
  | ag _ => cases h
  | tu _ => cases h
  | ow _ _ => cases h
  | bx _ _ => cases h
  | mp _ _ => cases h
  | s a => exact hv
  | z => exact hv
  | sh a b => exact hv
  | sl a b c d => exact hv
  | ad a b c d => exact hv
  | sa a b => exact hv
theorem sound_makeFunc (hR : Rel W0 O0 S0 S φ st a W) (hd : Bd S0 a o) {f : Nat} {first caps : Array Operand} (ho : o.op = .makeFunc (.func f) first caps) (hf : first.isEmpty = true) (hc : (caps.toList.map st.ev).all capOk = true) (hK : Goes W0 O0 S0 a.tmps.size (st.put o.dst (.fn f (caps.toList.map st.ev)) []) K) : o.wp P a W K Q := by
  have hfe : first = #[] := by simpa using hf
  subst hfe
  refine plain hR hd (x := .func (.func f) #[] (caps.map a.eval)) (p := .fn f (caps.toList.map st.ev)) (by simp only [execOp, ho, Instr.makeFunc, Sem.run_bind, Sem.run_pure, Result.andThen_ok, Array.map_empty]) ⟨caps.toList.map a.eval, ?_, ?_⟩ hK
  · rw [← Array.toList_map]
  · refine ⟨by simp, fun i p x hp hx => ?_⟩
    exact capOk_rel (List.all_eq_true.1 hc p (List.mem_of_getElem? hp)) (evals hR rfl i p x hp hx)
theorem sound_ptr (hR : Rel W0 O0 S0 S φ st a W) (hd : Bd S0 a o) {y : Operand} (ho : o.op = .nilCheck y) {v : PV} (h : (match st.ev y with | .ad b v i j => some (.ad b v i j) | .sa ln cs => some (.sa ln cs) | _ => none) = some v) (hK : Goes W0 O0 S0 a.tmps.size (st.put o.dst v []) K) : o.wp P a W K Q := by
  have hy := hR.ev y
  split at h
  · rename_i b ver i j e1
    cases h
    rw [e1] at hy
    obtain ⟨⟨ad, hp⟩, _⟩ := hy
    exact sound_nilCheck hR hd ho hp (by rw [e1]; exact hK)
  · rename_i ln cs e1
    cases h
    rw [e1] at hy
    obtain ⟨ad, x, hp, _⟩ := hy
    exact sound_nilCheck hR hd ho hp (by rw [e1]; exact hK)
  · cases h
end
end Go.Pi
