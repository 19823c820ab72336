/- Regions: in the text's order, and in any order. Own work of this session. -/
import Derived.Test.YtpjdoblfdeioaaaQrun
set_option linter.unusedVariables false
set_option linter.unusedSimpArgs false
namespace Go.Pi
section
variable {cx : Cx} {C : CallF} {W0 W W' : World} {O0 O : List Nat} {S0 : Base} {S S' : Bool → Nat → Prop} {φ φ' : Nat → Option Nat} {st st1 st2 : St} {a : Act} {K : Act → World → Prop} {Q : Exit → Act → World → Prop}
abbrev Fp := List Nat × List Nat
/-- One operation, or its being passed over; what was read and written. -/
def stepO (cx : Cx) (C : CallF) (o : COp) (st : St) : Option (St × Fp) :=
  match (eff cx C st.ev o.d o.op).val st.hp with
  | some x => some (st.put o.d x.1 x.2, ((eff cx C st.ev o.d o.op).log st.hp, x.2.map (·.1)))
  | none => none
def stepG (cx : Cx) (C : CallF) (o : COp) (st : St) : Option (St × Fp) :=
  match o.g with
  | none => stepO cx C o st
  | some (t, w) => match st.sl t with
    | .s (.bool b) => if b = w then stepO cx C o st else some (st.put o.d (.tu []) [], ([], []))
    | .tu [] => some (st.put o.d (.tu []) [], ([], []))
    | _ => none
theorem setB_self {t : Nat} {b : Bool} (h : st.sl t = .s (.bool b)) : setB st t b = st := by
  unfold setB
  cases st with
  | mk sl hp =>
    simp only at h
    congr 1
    funext k
    unfold upd
    split
    · rename_i hk; rw [hk, h]
    · rfl
inductive RunT (cx : Cx) (C : CallF) : List (Nat × COp × Fp) → St → St → Prop
  | nil {st : St} : RunT cx C [] st st
  | cons {i : Nat} {o : COp} {fp : Fp} {r : List (Nat × COp × Fp)} {st st1 st2 : St} : stepG cx C o st = some (st1, fp) → RunT cx C r st1 st2 → RunT cx C ((i, o, fp) :: r) st st2
def idxs : List COp → Nat → List (Nat × COp)
  | [], _ => []
  | o :: r, i => (i, o) :: idxs r (i + 1)
theorem idxs_get : ∀ (l : List COp) (i k : Nat), (idxs l i)[k]? = (l[k]?).map fun o => (i + k, o)
  | [], i, k => by simp [idxs]
  | o :: r, i, 0 => by simp [idxs]
  | o :: r, i, k + 1 => by simp only [idxs, List.getElem?_cons_succ, idxs_get r (i + 1) k]; congr 1; funext o; congr 1; omega
/-! In the text's order. -/
theorem run1_step {o : COp} (h : run1 cx C o st = some st1) : ∃ fp, stepO cx C o st = some (st1, fp) := by
  unfold run1 at h
  unfold stepO
  cases he : (eff cx C st.ev o.d o.op).val st.hp with
  | none => simp [he] at h
  | some x =>
    simp only [he, Option.map_some, Option.some.injEq] at h
    subst h
    exact ⟨_, rfl⟩
theorem runOps_run : ∀ {l : List COp} {i : Nat} {st : St}, runOps cx C l st = some st2 → ∃ T, RunT cx C T st st2 ∧ T.map (fun x => (x.1, x.2.1)) = idxs l i
  | [], i, st, h => by
    simp only [runOps, Option.some.injEq] at h
    subst h
    exact ⟨[], .nil, rfl⟩
  | o :: r, i, st, h => by
    have fin : ∀ {st1 : St} {fp : Fp}, stepG cx C o st = some (st1, fp) → runOps cx C r st1 = some st2 → ∃ T, RunT cx C T st st2 ∧ T.map (fun x => (x.1, x.2.1)) = idxs (o :: r) i := by
      intro st1 fp h1 h2
      obtain ⟨T, t1, t2⟩ := runOps_run (i := i + 1) h2
      exact ⟨(i, o, fp) :: T, .cons h1 t1, by simp [t2, idxs]⟩
    have one : ∀ st', (run1 cx C o st').bind (runOps cx C r) = some st2 → ∃ st1 fp, stepO cx C o st' = some (st1, fp) ∧ runOps cx C r st1 = some st2 := by
      intro st' hh
      cases he : run1 cx C o st' with
      | none => simp [he] at hh
      | some s =>
        obtain ⟨fp, hf⟩ := run1_step he
        exact ⟨s, fp, hf, by simpa [he] using hh⟩
    simp only [runOps] at h
    split at h
    · rename_i hg
      obtain ⟨s, fp, h1, h2⟩ := one _ h
      exact fin (by simp only [stepG, hg]; exact h1) h2
    · rename_i t w hg
      split at h
      · rename_i b hb
        cases b <;> cases w <;> simp only [Bool.false_eq_true, if_true, if_false] at h <;> rw [setB_self hb] at h
        · obtain ⟨s, fp, h1, h2⟩ := one _ h
          exact fin (by simp only [stepG, hg, hb]; exact h1) h2
        · exact fin (fp := ([], [])) (by simp only [stepG, hg, hb]; simp) h
        · exact fin (fp := ([], [])) (by simp only [stepG, hg, hb]; simp) h
        · obtain ⟨s, fp, h1, h2⟩ := one _ h
          exact fin (by simp only [stepG, hg, hb]; exact h1) h2
      · rename_i hb
        exact fin (fp := ([], [])) (by simp only [stepG, hg, hb]) h
      · cases h
/-! The loaded operations. -/
structure Comp (ops : Array Oper) (i : Nat) (c : COp) : Prop where
  ex : ∃ o, ops[i]? = some o ∧ c.op = o.op ∧ c.d = o.dst ∧ ((o.guard = none ∧ c.g = none) ∨ ∃ j w t, o.guard = some (j, w) ∧ (ops[j]?).bind (·.dst) = some t ∧ c.g = some (t, w))
def DstOk (S0 : Base) (n : Nat) (ops : Array Oper) : Prop := ∀ (i : Nat) (o : Oper) (t : Nat), ops[i]? = some o → o.dst = some t → t < n ∧ S0.par t = none
theorem yielded_slot (hR : Rel W0 O0 S0 S φ st a W) {ops : Array Oper} {j t : Nat} {b : Bool} (hj : (ops[j]?).bind (·.dst) = some t) (hb : st.sl t = .s (.bool b)) : yielded ops a.tmps j = some b := by
  have h := hR.sl t
  rw [hb] at h
  have h2 := bool_inv h
  unfold yielded
  rw [hj]
  simp only [Option.bind_some]
  rw [Array.getD_eq_getD_getElem?] at h2
  cases hx : a.tmps[t]? with
  | none => rw [hx] at h2; cases h2
  | some v => rw [hx] at h2; simp only [Option.getD_some] at h2; rw [h2]
theorem sound_step (hC : CallOk cx C) (hE : Facts cx) (hR : Rel W0 O0 S0 S φ st a W) {ops : Array Oper} (hD : DstOk S0 a.tmps.size ops) {i : Nat} {c : COp} (hc : Comp ops i c) {fp : Fp} (h : stepG cx C c st = some (st1, fp)) (hK : Goes W0 O0 S0 a.tmps.size st1 K) : wpOp cx.P ops Q i K a W := by
  obtain ⟨o, ho, h1, h2, hg⟩ := hc.ex
  have hd : Bd S0 a o := fun t ht => hD i o t ho ht
  have runs : stepO cx C c st = some (st1, fp) → o.wp cx.P a W K Q := by
    intro hs
    unfold stepO at hs
    cases he : (eff cx C st.ev c.d c.op).val st.hp with
    | none => simp [he] at hs
    | some x =>
      simp only [he, Option.some.injEq, Prod.mk.injEq] at hs
      obtain ⟨rfl, _⟩ := hs
      rw [h1, h2] at he
      rw [h2] at hK
      exact sound_eff hC hE hR hd he hK
  unfold wpOp
  simp only [ho]
  unfold stepG at h
  rcases hg with ⟨g1, g2⟩ | ⟨j, w, t, g1, g2, g3⟩
  · rw [g2] at h
    have : Region.wanted o (yielded ops a.tmps) = true := by simp [Region.wanted, g1]
    rw [if_pos this]
    exact .inl (runs h)
  · rw [g3] at h
    simp only at h
    split at h
    · rename_i b hb
      have hy := yielded_slot hR g2 hb
      have hw : Region.wanted o (yielded ops a.tmps) = decide (b = w) := by
        simp only [Region.wanted, g1, hy]
        cases b <;> cases w <;> rfl
      split at h
      · rename_i hbw
        rw [hw, if_pos (by simp [hbw])]
        exact .inl (runs h)
      · rename_i hbw
        rw [hw, if_neg (by simp [hbw])]
        simp only [Option.some.injEq, Prod.mk.injEq] at h
        obtain ⟨rfl, _⟩ := h
        refine hK S φ _ _ ?_ (put_size _ _ _)
        rw [h2]
        exact hR.slot hd (fun _ => ⟨[], rfl, rfl, fun i p x hp => by simp at hp⟩)
    · rename_i hb
      have hy : yielded ops a.tmps j = none := by
        have hs := hR.sl t
        rw [hb] at hs
        obtain ⟨xs, e1, e2, _⟩ := hs
        have hx : xs = [] := List.eq_nil_of_length_eq_zero e2
        subst hx
        unfold yielded
        rw [g2]
        simp only [Option.bind_some]
        rw [Array.getD_eq_getD_getElem?] at e1
        cases hx : a.tmps[t]? with
        | none => rfl
        | some v => rw [hx] at e1; simp only [Option.getD_some] at e1; rw [e1]
      have hw : Region.wanted o (yielded ops a.tmps) = false := by
        simp only [Region.wanted, g1, hy]
        cases w <;> rfl
      rw [hw, if_neg (by simp)]
      simp only [Option.some.injEq, Prod.mk.injEq] at h
      obtain ⟨rfl, _⟩ := h
      refine hK S φ _ _ ?_ (put_size _ _ _)
      rw [h2]
      exact hR.slot hd (fun _ => ⟨[], rfl, rfl, fun i p x hp => by simp at hp⟩)
    · cases h
theorem sound_list (hC : CallOk cx C) (hE : Facts cx) {ops : Array Oper} : ∀ {T : List (Nat × COp × Fp)} {S : Bool → Nat → Prop} {φ : Nat → Option Nat} {st : St} {a : Act} {W : World}, RunT cx C T st st2 → (∀ x ∈ T, Comp ops x.1 x.2.1) → Rel W0 O0 S0 S φ st a W → DstOk S0 a.tmps.size ops → Goes W0 O0 S0 a.tmps.size st2 (Q .normal) →
    wpOps cx.P ops Q (T.map (·.1)) a W
  | [], S, φ, st, a, W, h, hc, hR, hD, hK => by
    cases h
    exact hK S φ a W hR rfl
  | (i, o, fp) :: r, S, φ, st, a, W, h, hc, hR, hD, hK => by
    cases h with
    | cons h1 h2 =>
      simp only [List.map_cons]
      rw [wpOps_cons]
      refine sound_step hC hE hR hD (hc _ List.mem_cons_self) h1 (fun S' φ' a' W' hR' hs => ?_)
      exact sound_list hC hE h2 (fun x hx => hc x (List.mem_cons_of_mem _ hx)) hR' (by rw [hs]; exact hD) (by rw [hs]; exact hK)
theorem compOp_inv {all : List Oper} {o : Oper} {c : COp} (h : compOp all o = some c) : c.op = o.op ∧ c.d = o.dst ∧ ((o.guard = none ∧ c.g = none) ∨ ∃ j w t, o.guard = some (j, w) ∧ (all[j]?).bind (·.dst) = some t ∧ c.g = some (t, w)) := by
  unfold compOp at h
  split at h
  · rename_i hg
    cases h
    exact ⟨rfl, rfl, .inl ⟨hg, rfl⟩⟩
  · rename_i j w hg
    split at h
    · rename_i t ht
      cases h
      exact ⟨rfl, rfl, .inr ⟨j, w, t, hg, ht, rfl⟩⟩
    · cases h
theorem compOps_get {all : List Oper} : ∀ {l : List Oper} {cs : List COp}, compOps all l = some cs → cs.length = l.length ∧ ∀ (k : Nat) (c : COp), cs[k]? = some c → ∃ o, l[k]? = some o ∧ compOp all o = some c
  | [], cs, h => by
    simp only [compOps, Option.some.injEq] at h
    subst h
    exact ⟨rfl, fun k c hk => by simp at hk⟩
  | o :: r, cs, h => by
    simp only [compOps] at h
    split at h
    · rename_i x y h1 h2
      cases h
      obtain ⟨i1, i2⟩ := compOps_get h2
      refine ⟨by simp [i1], fun k c hk => ?_⟩
      cases k with
      | zero =>
        simp only [List.getElem?_cons_zero, Option.some.injEq] at hk
        subst hk
        exact ⟨o, rfl, h1⟩
      | succ k => exact i2 k c hk
    · cases h
theorem comp_idxs {ops : Array Oper} {cs : List COp} (h : compOps ops.toList ops.toList = some cs) : ∀ x ∈ idxs cs 0, Comp ops x.1 x.2 := by
  intro x hx
  obtain ⟨k, hk⟩ := List.getElem?_of_mem hx
  rw [idxs_get] at hk
  cases hc : cs[k]? with
  | none => simp [hc] at hk
  | some c =>
    simp only [hc, Option.map_some, Option.some.injEq, Nat.zero_add] at hk
    subst hk
    obtain ⟨o, h1, h2⟩ := (compOps_get h).2 k c hc
    obtain ⟨g1, g2, g3⟩ := compOp_inv h2
    refine ⟨o, by rw [← Array.getElem?_toList]; exact h1, g1, g2, ?_⟩
    rcases g3 with g3 | ⟨j, w, t, g3, g4, g5⟩
    · exact .inl g3
    · exact .inr ⟨j, w, t, g3, by rw [← Array.getElem?_toList]; exact g4, g5⟩
theorem idxs_fst : ∀ (l : List COp) (i : Nat), (idxs l i).map (·.1) = (List.range l.length).map (i + ·)
  | [], i => rfl
  | o :: r, i => by
    simp only [idxs, List.map_cons, idxs_fst r (i + 1), List.length_cons, List.range_succ_eq_map, List.map_map, Nat.add_zero]
    congr 1
    apply List.map_congr_left
    intro k _
    simp only [Function.comp_apply]
    omega
theorem sound_run (hC : CallOk cx C) (hE : Facts cx) {id : Nat} {ops : Array Oper} {cs : List COp} (hcs : compOps ops.toList ops.toList = some cs) (h : runOps cx C cs st = some st2) (hR : Rel W0 O0 S0 S φ st a W) (hD : DstOk S0 a.tmps.size ops) (hK : Goes W0 O0 S0 a.tmps.size st2 (Q .normal)) : (Code.region id ops false).wp cx.P Q a W := by
  refine wp_region ?_
  obtain ⟨T, t1, t2⟩ := runOps_run (i := 0) h
  have hfst : T.map (·.1) = List.range ops.size := by
    have : T.map (·.1) = (T.map (fun x => (x.1, x.2.1))).map (·.1) := by rw [List.map_map]; rfl
    rw [this, t2, idxs_fst]
    have hl : cs.length = ops.size := by rw [(compOps_get hcs).1, Array.length_toList]
    rw [hl]
    simp
  rw [← hfst]
  refine sound_list hC hE t1 (fun x hx => ?_) hR hD hK
  have hm : (x.1, x.2.1) ∈ idxs cs 0 := by rw [← t2]; exact List.mem_map.2 ⟨x, hx, rfl⟩
  exact comp_idxs hcs _ hm
/-! In any order. -/
theorem eff_congr {ρ ρ' : Operand → PV} (d : Option Nat) (op : Op) (h : ∀ x ∈ op.operands, ρ x = ρ' x) : eff cx C ρ d op = eff cx C ρ' d op := by
  have lmap : ∀ (l : List Operand), (∀ x ∈ l, ρ x = ρ' x) → l.map ρ = l.map ρ' := fun l hl => List.map_congr_left hl
  have fillc : ∀ (t : Nat) (l : List (Nat × Operand)) (cs : List PV), (∀ x ∈ l, ρ x.2 = ρ' x.2) → buildFill cx.P t ρ l cs = buildFill cx.P t ρ' l cs := by
    intro t l
    induction l with
    | nil => intro cs _; rfl
    | cons x l ih =>
      intro cs hl
      obtain ⟨i, y⟩ := x
      have h1 : ρ y = ρ' y := hl (i, y) List.mem_cons_self
      simp only [buildFill, h1]
      split
      · split
        · exact ih _ (fun z hz => hl z (List.mem_cons_of_mem _ hz))
        · rfl
      · rfl
  have rowsc : ∀ (sz : Nat) (l : List (Nat × Operand)) (rs : List (List PV)), (∀ x ∈ l, ρ x.2 = ρ' x.2) → rowsFill sz ρ l rs = rowsFill sz ρ' l rs := by
    intro sz l
    induction l with
    | nil => intro rs _; rfl
    | cons x l ih =>
      intro rs hl
      obtain ⟨i, y⟩ := x
      have h1 : ρ y = ρ' y := hl (i, y) List.mem_cons_self
      have ih' : ∀ rs, rowsFill sz ρ l rs = rowsFill sz ρ' l rs := fun rs => ih rs (fun z hz => hl z (List.mem_cons_of_mem _ hz))
      simp only [rowsFill, h1, ih']
  cases op <;> simp only [Op.operands] at h <;> simp only [eff]
  case build t ps =>
    have hp : ∀ x ∈ ps.toList, ρ x.2 = ρ' x.2 := fun x hx => h x.2 (by simp only [List.mem_toArray, List.mem_map, Array.mem_map]; exact ⟨x, by simpa using hx, rfl⟩)
    simp only [fillc t ps.toList _ hp]
  case buildSlice t n ps =>
    have hp : ∀ x ∈ ps.toList, ρ x.2 = ρ' x.2 := fun x hx => h x.2 (by simp only [List.mem_toArray, List.mem_map, Array.mem_map]; exact ⟨x, by simpa using hx, rfl⟩)
    have : bslK cx.P ρ n ps.toList = bslK cx.P ρ' n ps.toList := by
      funext e z d
      unfold bslK
      simp only [rowsc _ ps.toList _ hp]
    rw [this]
  case makeFunc fn first captured =>
    cases fn <;> simp only [eff]
    rw [lmap captured.toList fun x hx => h x (by simp at hx ⊢; exact .inr hx)]
  case call c =>
    have ha : c.args.toList.map ρ = c.args.toList.map ρ' := lmap _ fun x hx => h x (by simp [Call.operands]; exact .inr (by simpa using hx))
    cases hc : c.callee with
    | builtin b => simp only [ha]
    | value f =>
      have hf : ρ f = ρ' f := h f (by simp [Call.operands, hc])
      simp only [ha, hf]
    | invoke r m => rfl
  case slice t x lo hi mx => cases lo <;> cases hi <;> cases mx <;> simp_all
  all_goals (first | rfl | (simp_all; done))
theorem looks_ev {o : COp} {d : Option Nat} {v : PV} {ups : Ups} (h : ∀ t, d = some t → t ∉ o.looks) : (∀ x ∈ o.op.operands, (st.put d v ups).ev x = st.ev x) ∧ (∀ t w, o.g = some (t, w) → (st.put d v ups).sl t = st.sl t) := by
  refine ⟨fun x hx => ?_, fun t w hg => ?_⟩
  · cases x with
    | tmp t =>
      simp only [St.ev, St.put]
      cases d with
      | none => rfl
      | some t' =>
        have hne : t ≠ t' := fun e => h t' rfl (by
          subst e
          exact List.mem_append_left _ (List.mem_filterMap.2 ⟨.tmp t, by simpa using hx, rfl⟩))
        simp [upd, hne]
    | _ => rfl
  · cases d with
    | none => rfl
    | some t' =>
      have hne : t ≠ t' := fun e => h t' rfl (by
        subst e
        exact List.mem_append_right _ (by simp [hg]))
      simp [St.put, upd, hne]
theorem apart_inv {x y : COp} (h : x.apart y = true) : (∀ t, x.d = some t → t ∉ y.looks) ∧ (∀ t, x.d = some t → y.d ≠ some t) ∧ (∀ t, y.d = some t → t ∉ x.looks) := by
  refine ⟨fun d hd => ?_, fun d hd => ?_, fun d hd => ?_⟩ <;> simp [COp.apart, hd] at h
  · exact h.1.1
  · exact h.1.2
  · exact h.2
theorem updH_get_not {H : Heap} {ups : Ups} {k : Nat} (h : k ∉ ups.map (·.1)) : updH H ups k = H k := updH_not H k ups h
theorem updH_comm : ∀ {x y : Ups} {H : Heap}, (∀ k ∈ x.map (·.1), k ∉ y.map (·.1)) → updH (updH H x) y = updH (updH H y) x
  | [], y, H, _ => rfl
  | (k, b) :: x, y, H, h => by
    have hk : k ∉ y.map (·.1) := h k (by simp)
    simp only [updH]
    rw [updH_comm (fun k' hk' => h k' (by simp only [List.map_cons, List.mem_cons]; exact .inr hk'))]
    congr 1
    funext k'
    by_cases he : k' = k
    · subst he
      rw [updH_get_not hk]
      simp [upd]
    · have gen : ∀ (y : Ups) (H1 H2 : Heap), H1 k' = H2 k' → updH H1 y k' = updH H2 y k' := by
        intro y
        induction y with
        | nil => intro H1 H2 h; exact h
        | cons z y ih =>
          intro H1 H2 h
          obtain ⟨kz, bz⟩ := z
          simp only [updH]
          refine ih _ _ ?_
          simp only [upd]
          split
          · rfl
          · exact h
      have h1 := gen y (upd H k (some b)) H (by simp [upd, he])
      rw [h1]
      simp [upd, he]
theorem disjT_inv {x y : Fp} (h : disjT x y = true) : (∀ k ∈ x.2, k ∉ y.1 ∧ k ∉ y.2) ∧ (∀ k ∈ y.2, k ∉ x.1) := by
  unfold disjT at h
  simp only [Bool.and_eq_true, disj_iff, List.mem_append, not_or] at h
  exact h
/-- What an operation does, told apart from where. -/
theorem stepG_cases {o : COp} {fp : Fp} (h : stepG cx C o st = some (st1, fp)) : (∃ v ups, st1 = st.put o.d v ups ∧ fp.2 = ups.map (·.1) ∧ ∀ st', (∀ x ∈ o.op.operands, st'.ev x = st.ev x) → (∀ t w, o.g = some (t, w) → st'.sl t = st.sl t) → (∀ k ∈ fp.1, st'.hp k = st.hp k) → stepG cx C o st' = some (st'.put o.d v ups, fp)) := by
  have one : stepO cx C o st = some (st1, fp) → ∃ v ups, st1 = st.put o.d v ups ∧ fp.2 = ups.map (·.1) ∧ ∀ st', (∀ x ∈ o.op.operands, st'.ev x = st.ev x) → (∀ k ∈ fp.1, st'.hp k = st.hp k) → stepO cx C o st' = some (st'.put o.d v ups, fp) := by
    intro hs
    unfold stepO at hs
    cases he : (eff cx C st.ev o.d o.op).val st.hp with
    | none => simp [he] at hs
    | some x =>
      simp only [he, Option.some.injEq, Prod.mk.injEq] at hs
      obtain ⟨rfl, rfl⟩ := hs
      refine ⟨x.1, x.2, rfl, rfl, fun st' h1 h2 => ?_⟩
      have hc : eff cx C st'.ev o.d o.op = eff cx C st.ev o.d o.op := eff_congr _ _ h1
      obtain ⟨l1, l2⟩ := Rd.local_ (eff cx C st.ev o.d o.op) st.hp st'.hp h2
      unfold stepO
      rw [hc, l1, l2, he]
  unfold stepG at h
  split at h
  · rename_i hg
    obtain ⟨v, ups, e1, e2, e3⟩ := one h
    exact ⟨v, ups, e1, e2, fun st' h1 _ h3 => by simp only [stepG, hg]; exact e3 st' h1 h3⟩
  · rename_i t w hg
    split at h
    · rename_i b hb
      split at h
      · rename_i hbw
        obtain ⟨v, ups, e1, e2, e3⟩ := one h
        exact ⟨v, ups, e1, e2, fun st' h1 h2 h3 => by simp only [stepG, hg, h2 t w hg, hb, if_pos hbw]; exact e3 st' h1 h3⟩
      · rename_i hbw
        simp only [Option.some.injEq, Prod.mk.injEq] at h
        obtain ⟨rfl, rfl⟩ := h
        exact ⟨.tu [], [], rfl, rfl, fun st' h1 h2 h3 => by simp only [stepG, hg, h2 t w hg, hb, if_neg hbw]⟩
    · rename_i hb
      simp only [Option.some.injEq, Prod.mk.injEq] at h
      obtain ⟨rfl, rfl⟩ := h
      exact ⟨.tu [], [], rfl, rfl, fun st' h1 h2 h3 => by simp only [stepG, hg, h2 t w hg, hb]⟩
    · cases h
theorem swap {x y : COp} {fx fy : Fp} (hx : stepG cx C x st = some (st1, fx)) (hy : stepG cx C y st1 = some (st2, fy)) (ha : x.apart y = true) (hf : disjT fy fx = true) :
    ∃ st', stepG cx C y st = some (st', fy) ∧ stepG cx C x st' = some (st2, fx) := by
  obtain ⟨a1, a2, a3⟩ := apart_inv ha
  obtain ⟨f1, f2⟩ := disjT_inv hf
  obtain ⟨vx, ux, rfl, kx, sx⟩ := stepG_cases hx
  obtain ⟨vy, uy, rfl, ky, sy⟩ := stepG_cases hy
  have e1 := sy st (fun z hz => ((looks_ev (st := st) (d := x.d) (v := vx) (ups := ux) a1).1 z hz).symm) (fun t w hg => ((looks_ev (st := st) (d := x.d) (v := vx) (ups := ux) a1).2 t w hg).symm)
    (fun k hk => (updH_get_not (fun hm => f2 k (by rw [kx]; exact hm) hk)).symm)
  have e2 := sx (st.put y.d vy uy) (fun z hz => (looks_ev (st := st) (d := y.d) (v := vy) (ups := uy) a3).1 z hz) (fun t w hg => (looks_ev (st := st) (d := y.d) (v := vy) (ups := uy) a3).2 t w hg)
    (fun k hk => updH_get_not (fun hm => (f1 k (by rw [ky]; exact hm)).1 hk))
  refine ⟨_, e1, ?_⟩
  rw [e2]
  congr 2
  simp only [St.put]
  congr 1
  · cases hxd : x.d with
    | none => cases y.d <;> rfl
    | some dx =>
      cases hyd : y.d with
      | none => rfl
      | some dy =>
        have hne : dx ≠ dy := fun e => a2 dx hxd (by rw [hyd, e])
        funext k
        by_cases c1 : k = dx <;> by_cases c2 : k = dy <;> simp_all [upd]
  · exact updH_comm (fun k hk hm => (f1 k (by rw [ky]; exact hk)).2 (by rw [kx]; exact hm))
theorem bubble : ∀ {pre : List (Nat × COp × Fp)} {x : Nat × COp × Fp} {post : List (Nat × COp × Fp)} {st : St}, RunT cx C (pre ++ x :: post) st st2 → (∀ p ∈ pre, p.2.1.apart x.2.1 = true ∧ disjT x.2.2 p.2.2 = true) → RunT cx C (x :: (pre ++ post)) st st2
  | [], x, post, st, h, _ => h
  | p :: pre, x, post, st, h, hp => by
    obtain ⟨i, o, fp⟩ := p
    obtain ⟨j, q, fq⟩ := x
    cases h with
    | cons h1 h2 =>
      have ih := bubble h2 (fun p hp' => hp p (List.mem_cons_of_mem _ hp'))
      cases ih with
      | cons k1 k2 =>
        obtain ⟨ha, hd⟩ := hp (i, o, fp) List.mem_cons_self
        obtain ⟨st', e1, e2⟩ := swap h1 k1 ha hd
        exact .cons e1 (.cons e2 k2)
theorem disjT_l (y : Fp) : disjT ([], []) y = true := by
  unfold disjT
  rw [Bool.and_eq_true, disj_iff, disj_iff]
  exact ⟨fun x hx => by simp at hx, fun x _ hx => by simp at hx⟩
theorem disjT_r (x : Fp) : disjT x ([], []) = true := by
  unfold disjT
  rw [Bool.and_eq_true, disj_iff, disj_iff]
  exact ⟨fun k _ hk => by simp at hk, fun k hk => by simp at hk⟩
theorem runD_run {an : List Nat} : ∀ {l : List COp} {i : Nat} {tr : Tr} {st : St}, runD cx C an l i tr st = some st2 → ∃ T, RunT cx C T st st2 ∧ T.map (fun x => (x.1, x.2.1)) = idxs l i ∧ (∀ x ∈ T, ∀ y ∈ tr, (an.getD x.1 0).testBit y.1 = true ∨ disjT x.2.2 y.2 = true) ∧ T.Pairwise (fun x y => (an.getD y.1 0).testBit x.1 = true ∨ disjT y.2.2 x.2.2 = true)
  | [], i, tr, st, h => by
    simp only [runD, Option.some.injEq] at h
    subst h
    exact ⟨[], .nil, rfl, fun x hx => (by cases hx), List.Pairwise.nil⟩
  | o :: r, i, tr, st, h => by
    have skip : ∀ {st1 : St}, stepG cx C o st = some (st1, ([], [])) → runD cx C an r (i + 1) tr st1 = some st2 → ∃ T, RunT cx C T st st2 ∧ T.map (fun x => (x.1, x.2.1)) = idxs (o :: r) i ∧ (∀ x ∈ T, ∀ y ∈ tr, (an.getD x.1 0).testBit y.1 = true ∨ disjT x.2.2 y.2 = true) ∧ T.Pairwise (fun x y => (an.getD y.1 0).testBit x.1 = true ∨ disjT y.2.2 x.2.2 = true) := by
      intro st1 h1 h2
      obtain ⟨T, t1, t2, t3, t4⟩ := runD_run (i := i + 1) h2
      refine ⟨(i, o, ([], [])) :: T, .cons h1 t1, by simp [t2, idxs], fun x hx y hy => ?_, List.pairwise_cons.2 ⟨fun y hy => .inr (disjT_r _), t4⟩⟩
      rcases List.mem_cons.1 hx with rfl | hx
      · exact .inr (disjT_l _)
      · exact t3 x hx y hy
    have one : ∀ {st' : St}, (∀ {st1 : St} {fp : Fp}, stepO cx C o st' = some (st1, fp) → stepG cx C o st = some (st1, fp)) → (run1D cx C an i tr o st').bind (unc (runD cx C an r (i + 1))) = some st2 → ∃ T, RunT cx C T st st2 ∧ T.map (fun x => (x.1, x.2.1)) = idxs (o :: r) i ∧ (∀ x ∈ T, ∀ y ∈ tr, (an.getD x.1 0).testBit y.1 = true ∨ disjT x.2.2 y.2 = true) ∧ T.Pairwise (fun x y => (an.getD y.1 0).testBit x.1 = true ∨ disjT y.2.2 x.2.2 = true) := by
      intro st' hst h
      unfold run1D at h
      cases he : (eff cx C st'.ev o.d o.op).val st'.hp with
      | none => simp [he] at h
      | some x =>
        simp only [he] at h
        split at h
        · rename_i hok
          simp only [Option.bind_some, unc] at h
          have hG := hst (st1 := st'.put o.d x.1 x.2) (fp := ((eff cx C st'.ev o.d o.op).log st'.hp, x.2.map (·.1))) (by unfold stepO; rw [he])
          obtain ⟨T, t1, t2, t3, t4⟩ := runD_run (i := i + 1) h
          simp only [okTr, List.all_eq_true, Bool.or_eq_true] at hok
          refine ⟨(i, o, _) :: T, .cons hG t1, by simp [t2, idxs], fun x hx y hy => ?_, List.pairwise_cons.2 ⟨fun y hy => t3 y hy _ List.mem_cons_self, t4⟩⟩
          rcases List.mem_cons.1 hx with rfl | hx
          · exact hok y hy
          · exact t3 x hx y (List.mem_cons_of_mem _ hy)
        · simp at h
    simp only [runD] at h
    split at h
    · rename_i hg
      exact one (fun hs => by simp only [stepG, hg]; exact hs) h
    · rename_i t w hg
      split at h
      · rename_i b hb
        cases b <;> cases w <;> simp only [Bool.false_eq_true, if_true, if_false] at h <;> rw [setB_self hb] at h
        · exact one (fun hs => by simp only [stepG, hg, hb]; exact hs) h
        · exact skip (by simp only [stepG, hg, hb]; simp) h
        · exact skip (by simp only [stepG, hg, hb]; simp) h
        · exact one (fun hs => by simp only [stepG, hg, hb]; exact hs) h
      · rename_i hb
        exact skip (by simp only [stepG, hg, hb]) h
      · cases h
theorem okAfter_get {an : List Nat} {o : COp} {i : Nat} : ∀ {l : List COp} {j : Nat}, okAfter an o i l j = true → ∀ y ∈ idxs l j, (an.getD y.1 0).testBit i = true ∨ o.apart y.2 = true
  | [], j, _, y, hy => by cases hy
  | p :: r, j, h, y, hy => by
    simp only [okAfter, Bool.and_eq_true, Bool.or_eq_true] at h
    simp only [idxs, List.mem_cons] at hy
    rcases hy with rfl | hy
    · exact h.1
    · exact okAfter_get h.2 y hy
theorem okDraw_pairs {an : List Nat} : ∀ {l : List COp} {i : Nat}, okDraw an l i = true → (idxs l i).Pairwise fun x y => (an.getD y.1 0).testBit x.1 = true ∨ x.2.apart y.2 = true
  | [], i, _ => .nil
  | o :: r, i, h => by
    simp only [okDraw, Bool.and_eq_true] at h
    exact List.pairwise_cons.2 ⟨fun y hy => okAfter_get h.1 y hy, okDraw_pairs h.2⟩
theorem idxs_lt : ∀ {l : List COp} {i : Nat}, (∀ x ∈ idxs l i, i ≤ x.1) ∧ (idxs l i).Pairwise fun x y => x.1 < y.1
  | [], i => ⟨fun x hx => (by cases hx), List.Pairwise.nil⟩
  | o :: r, i => by
    obtain ⟨h1, h2⟩ := idxs_lt (l := r) (i := i + 1)
    refine ⟨fun x hx => ?_, List.pairwise_cons.2 ⟨fun y hy => Nat.lt_of_succ_le (h1 y hy), h2⟩⟩
    rcases List.mem_cons.1 hx with rfl | hx
    · exact Nat.le_refl _
    · exact Nat.le_of_succ_le (h1 x hx)
theorem edgesOk_get : ∀ {l : List Oper} {i : Nat}, edgesOk l i = true → ∀ (k : Nat) (o : Oper), l[k]? = some o → ∀ e ∈ o.after, Region.binds .any e = true → e.on < i + k
  | [], i, _, k, o, h, _, _, _ => by simp at h
  | o :: r, i, h, 0, q, hk, e, he, hb => by
    simp only [List.getElem?_cons_zero, Option.some.injEq] at hk
    subst hk
    simp only [edgesOk, Bool.and_eq_true, List.all_eq_true, Bool.or_eq_true, Bool.not_eq_true', decide_eq_true_eq] at h
    rcases h.1 e (by simpa using he) with q | q
    · rw [hb] at q; cases q
    · exact q
  | o :: r, i, h, k + 1, q, hk, e, he, hb => by
    simp only [edgesOk, Bool.and_eq_true] at h
    have := edgesOk_get h.2 k q hk e he hb
    omega
end
end Go.Pi
