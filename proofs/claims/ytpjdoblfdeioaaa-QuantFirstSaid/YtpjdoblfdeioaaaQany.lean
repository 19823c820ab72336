/- A region in any order. Own work of this session. -/
import Derived.Test.YtpjdoblfdeioaaaQdraw
set_option linter.unusedVariables false
set_option linter.unusedSimpArgs false
namespace Go.Pi
section
variable {cx : Cx} {C : CallF} {W0 W W' : World} {O0 O : List Nat} {S0 : Base} {S S' : Bool → Nat → Prop} {φ φ' : Nat → Option Nat} {st st1 st2 : St} {a : Act} {K : Act → World → Prop} {Q : Exit → Act → World → Prop}
def bits (val : Nat → Nat) (s : Nat) (e : Edge) : Nat := if Region.binds .any e then s ||| 2 ^ e.on ||| val e.on else s
def oneB (val : Nat → Nat) (o : Oper) : Nat := o.after.foldl (bits val) 0
theorem bits_fold (val : Nat → Nat) (k : Nat) : ∀ (l : List Edge) (s : Nat), (l.foldl (bits val) s).testBit k = true → s.testBit k = true ∨ ∃ e ∈ l, Region.binds .any e = true ∧ (e.on = k ∨ (val e.on).testBit k = true)
  | [], s, h => .inl h
  | e :: l, s, h => by
    simp only [List.foldl_cons] at h
    rcases bits_fold val k l _ h with q | ⟨e', he', q⟩
    · unfold bits at q
      split at q
      · rename_i hb
        simp only [Nat.testBit_or, Bool.or_eq_true, Nat.testBit_two_pow, decide_eq_true_eq] at q
        rcases q with (q | q) | q
        · exact .inl q
        · exact .inr ⟨e, List.mem_cons_self, hb, .inl q⟩
        · exact .inr ⟨e, List.mem_cons_self, hb, .inr q⟩
      · exact .inl q
    · exact .inr ⟨e', List.mem_cons_of_mem _ he', q⟩
def accB (A : Array Nat) (o : Oper) : Array Nat := A.push (oneB (fun j => A.getD j 0) o)
theorem accB_fold : ∀ (l : List Oper) (A : Array Nat), (∀ j, j < A.size → (l.foldl accB A).getD j 0 = A.getD j 0) ∧ (l.foldl accB A).size = A.size + l.length ∧ ∀ (k : Nat) (o : Oper), l[k]? = some o → (∀ e ∈ o.after, Region.binds .any e = true → e.on < A.size + k) → ∀ b, ((l.foldl accB A).getD (A.size + k) 0).testBit b = true → ∃ e ∈ o.after, Region.binds .any e = true ∧ (e.on = b ∨ ((l.foldl accB A).getD e.on 0).testBit b = true)
  | [], A => ⟨fun _ _ => rfl, by simp, fun k o h => by simp at h⟩
  | o :: l, A => by
    obtain ⟨i1, i2, i3⟩ := accB_fold l (accB A o)
    have hs : (accB A o).size = A.size + 1 := by simp [accB]
    have hget : ∀ j, j < A.size → (accB A o).getD j 0 = A.getD j 0 := fun j hj => by
      simp only [accB, Array.getD_eq_getD_getElem?, Array.getElem?_push, if_neg (Nat.ne_of_lt hj)]
    simp only [List.foldl_cons]
    refine ⟨fun j hj => by rw [i1 j (by omega), hget j hj], by rw [i2, hs]; simp only [List.length_cons]; omega, fun k q hk hedge b hb => ?_⟩
    cases k with
    | zero =>
      simp only [List.getElem?_cons_zero, Option.some.injEq] at hk
      subst hk
      rw [Nat.add_zero, i1 A.size (by omega)] at hb
      have : (accB A o).getD A.size 0 = oneB (fun j => A.getD j 0) o := by simp [accB, Array.getD_eq_getD_getElem?]
      rw [this] at hb
      unfold oneB at hb
      rw [← Array.foldl_toList] at hb
      rcases bits_fold _ b _ _ hb with q | ⟨e, he, h1, h2⟩
      · simp at q
      · have he' : e ∈ o.after := by simpa using he
        refine ⟨e, he', h1, h2.imp id (fun h2 => ?_)⟩
        have hlt := hedge e he' h1
        rw [i1 e.on (by omega), hget e.on (by omega)]
        exact h2
    | succ k =>
      simp only [List.getElem?_cons_succ] at hk
      have e1 : A.size + (k + 1) = (accB A o).size + k := by omega
      rw [e1] at hb
      exact i3 k q hk (fun e he hb => by have := hedge e he hb; omega) b hb
theorem before_eq (ops : Array Oper) : Region.before ops = ops.toList.foldl accB #[] := by
  unfold Region.before
  rw [← Array.foldl_toList]
  rfl
theorem before_spec {ops : Array Oper} (hE : edgesOk ops.toList 0 = true) {i : Nat} {o : Oper} (ho : ops[i]? = some o) {b : Nat} (hb : ((Region.before ops).toList.getD i 0).testBit b = true) : ∃ e ∈ o.after, Region.binds .any e = true ∧ (e.on = b ∨ ((Region.before ops).toList.getD e.on 0).testBit b = true) := by
  have ho' : ops.toList[i]? = some o := by rw [Array.getElem?_toList]; exact ho
  obtain ⟨_, _, h3⟩ := accB_fold ops.toList #[]
  have conv : ∀ j, (Region.before ops).toList.getD j 0 = (ops.toList.foldl accB #[]).getD j 0 := fun j => by
    rw [before_eq, List.getD_eq_getElem?_getD, Array.getElem?_toList, Array.getD_eq_getD_getElem?]
  rw [conv] at hb
  obtain ⟨e, he, h1, h2⟩ := h3 i o ho' (fun e he h => by
    have := edgesOk_get hE i o ho' e he h
    simpa using this) b (by simpa using hb)
  exact ⟨e, he, h1, h2.imp id (fun h => by rw [conv]; exact h)⟩
/-- What is left to do, and what is listed. -/
structure Left (ops : Array Oper) (T : List (Nat × COp × Fp)) (listed : Array Bool) : Prop where
  size : listed.size = ops.size
  left : ∀ i, i < ops.size → (listed.getD i true = false ↔ ∃ x ∈ T, x.1 = i)
  lt : ∀ x ∈ T, x.1 < ops.size
  down : ∀ i b, listed.getD i false = true → ((Region.before ops).toList.getD i 0).testBit b = true → listed.getD b false = true
theorem getD_lt {l : Array Bool} {i : Nat} (h : i < l.size) (d d' : Bool) : l.getD i d = l.getD i d' := by simp [Array.getD, h]
theorem getD_ge {l : Array Bool} {i : Nat} (h : ¬ i < l.size) (d : Bool) : l.getD i d = d := by simp [Array.getD, h]
abbrev PairR (an : List Nat) (x y : Nat × COp × Fp) : Prop := x.1 < y.1 ∧ ((an.getD y.1 0).testBit x.1 = true ∨ (x.2.1.apart y.2.1 = true ∧ disjT y.2.2 x.2.2 = true))
theorem ready_before {ops : Array Oper} (hE : edgesOk ops.toList 0 = true) {T : List (Nat × COp × Fp)} {listed : Array Bool} (hL : Left ops T listed) {i : Nat} (hi : i ∈ Region.ready .any ops listed) {b : Nat} (hb : ((Region.before ops).toList.getD i 0).testBit b = true) : listed.getD b false = true := by
  obtain ⟨h1, o, ho, h2⟩ := mem_ready.1 hi
  obtain ⟨e, he, hbe, h3⟩ := before_spec hE ho hb
  have := h2 e he hbe
  rcases h3 with rfl | h3
  · exact this
  · exact hL.down _ _ this h3
theorem any_sound (hC : CallOk cx C) (hEq : Facts cx) {ops : Array Oper} (hE : edgesOk ops.toList 0 = true) : ∀ (fuel : Nat) {T : List (Nat × COp × Fp)} {listed : Array Bool} {S : Bool → Nat → Prop} {φ : Nat → Option Nat} {st : St} {a : Act} {W : World}, T.length = fuel → RunT cx C T st st2 → T.Pairwise (PairR (Region.before ops).toList) → (∀ x ∈ T, Comp ops x.1 x.2.1) → Left ops T listed → Rel W0 O0 S0 S φ st a W → DstOk S0 a.tmps.size ops → Goes W0 O0 S0 a.tmps.size st2 (Q .normal) →
    wpAny cx.P .any ops Q fuel listed a W
  | 0, T, listed, S, φ, st, a, W, hl, h, hp, hc, hL, hR, hD, hK => by
    have hT : T = [] := List.eq_nil_of_length_eq_zero hl
    subst hT
    cases h
    refine ⟨?_, hK S φ a W hR rfl⟩
    refine List.eq_nil_iff_forall_not_mem.2 (fun i hi => ?_)
    obtain ⟨h1, o, ho, _⟩ := mem_ready.1 hi
    obtain ⟨x, hx, _⟩ := (hL.left i (Array.getElem?_eq_some_iff.1 ho).1).1 h1
    cases hx
  | fuel + 1, T, listed, S, φ, st, a, W, hl, h, hp, hc, hL, hR, hD, hK => by
    refine ⟨fun hnil => ?_, fun i hi => ?_⟩
    · -- the first that is left is ready
      exfalso
      cases T with
      | nil => simp at hl
      | cons x T =>
        obtain ⟨o, ho, _⟩ := (hc x List.mem_cons_self).ex
        have hlt : x.1 < ops.size := (Array.getElem?_eq_some_iff.1 ho).1
        have hx : x.1 ∈ Region.ready .any ops listed := by
          refine mem_ready.2 ⟨(hL.left _ hlt).2 ⟨x, List.mem_cons_self, rfl⟩, o, ho, fun e he hb => ?_⟩
          have hon := edgesOk_get hE x.1 o (by rw [Array.getElem?_toList]; exact ho) e he hb
          have hon' : e.on < ops.size := by omega
          cases hv : listed.getD e.on true with
          | true => rw [getD_lt (by rw [hL.size]; exact hon') false true]; exact hv
          | false =>
            obtain ⟨y, hy, hye⟩ := (hL.left _ hon').1 hv
            rcases List.mem_cons.1 hy with rfl | hy
            · omega
            · have := ((List.pairwise_cons.1 hp).1 y hy).1
              omega
        rw [hnil] at hx
        cases hx
    · obtain ⟨h1, o, ho, h2⟩ := mem_ready.1 hi
      have hlt : i < ops.size := (Array.getElem?_eq_some_iff.1 ho).1
      obtain ⟨x, hx, rfl⟩ := (hL.left i hlt).1 h1
      obtain ⟨pre, post, rfl⟩ := List.append_of_mem hx
      have hpw := List.pairwise_append.1 hp
      obtain ⟨p1, p2, p3⟩ := hpw
      have hb := bubble h (fun p hp' => by
        have hR := p3 p hp' x List.mem_cons_self
        rcases hR.2 with q | q
        · have hli := ready_before hE hL hi q
          have hpl := hL.lt p (List.mem_append_left _ hp')
          have := (hL.left p.1 hpl).2 ⟨p, List.mem_append_left _ hp', rfl⟩
          rw [getD_lt (by rw [hL.size]; exact hpl) true false, hli] at this
          cases this
        · exact q)
      obtain ⟨i, c, fp⟩ := x
      cases hb with
      | cons k1 k2 =>
        refine sound_step hC hEq hR hD (hc _ (by simp)) k1 (fun S' φ' a' W' hR' hs => ?_)
        refine any_sound hC hEq hE fuel (T := pre ++ post) (by simp at hl ⊢; omega) k2 (List.pairwise_append.2 ⟨p1, (List.pairwise_cons.1 p2).2, fun p hp' q hq => p3 p hp' q (List.mem_cons_of_mem _ hq)⟩) (fun y hy => hc y (by
            rcases List.mem_append.1 hy with q | q
            · exact List.mem_append_left _ q
            · exact List.mem_append_right _ (List.mem_cons_of_mem _ q))) ?_ hR' (by rw [hs]; exact hD) (by rw [hs]; exact hK)
        have hne : ∀ y ∈ pre ++ post, y.1 ≠ i := fun y hy => by
          rcases List.mem_append.1 hy with q | q
          · exact Nat.ne_of_lt (p3 y q _ List.mem_cons_self).1
          · exact Nat.ne_of_gt ((List.pairwise_cons.1 p2).1 y q).1
        have hset : ∀ j d, j ≠ i → (listed.setIfInBounds i true).getD j d = listed.getD j d := fun j d hj => getD_set_ne d (fun e => hj e.symm)
        have hseti : ∀ d, (listed.setIfInBounds i true).getD i d = true := fun d => by
          have : i < listed.size := by rw [hL.size]; exact hlt
          simp [Array.getD, this]
        refine ⟨by simp [hL.size], fun j hj => ?_, fun y hy => hL.lt y (by
            rcases List.mem_append.1 hy with q | q
            · exact List.mem_append_left _ q
            · exact List.mem_append_right _ (List.mem_cons_of_mem _ q)), fun j b hj hb => ?_⟩
        · by_cases hji : j = i
          · subst hji
            rw [hseti]
            refine ⟨fun h => absurd h (by simp), fun ⟨y, hy, hyj⟩ => absurd hyj (hne y hy)⟩
          · rw [hset j true hji, hL.left j hj]
            refine ⟨fun ⟨y, hy, hyj⟩ => ⟨y, ?_, hyj⟩, fun ⟨y, hy, hyj⟩ => ⟨y, ?_, hyj⟩⟩
            · rcases List.mem_append.1 hy with q | q
              · exact List.mem_append_left _ q
              · rcases List.mem_cons.1 q with q | q
                · subst q; exact absurd hyj (fun e => hji e.symm)
                · exact List.mem_append_right _ q
            · rcases List.mem_append.1 hy with q | q
              · exact List.mem_append_left _ q
              · exact List.mem_append_right _ (List.mem_cons_of_mem _ q)
        · by_cases hbi : b = i
          · subst hbi; exact hseti false
          · rw [hset b false hbi]
            by_cases hji : j = i
            · subst hji
              exact ready_before hE hL hi hb
            · rw [hset j false hji] at hj
              exact hL.down j b hj hb
theorem sound_draw (hC : CallOk cx C) (hEq : Facts cx) (hm : cx.P.follows .mixedOrders = true) {id : Nat} {ops : Array Oper} {cs : List COp} (hcs : compOps ops.toList ops.toList = some cs) (hok : okDraw (Region.before ops).toList cs 0 = true) (hE : edgesOk ops.toList 0 = true) (h : runD cx C (Region.before ops).toList cs 0 [] st = some st2) (hR : Rel W0 O0 S0 S φ st a W) (hD : DstOk S0 a.tmps.size ops) (hK : Goes W0 O0 S0 a.tmps.size st2 (Q .normal)) : (Code.region id ops true).wp cx.P Q a W := by
  refine wp_region_any hm ?_
  obtain ⟨T, t1, t2, _, t4⟩ := runD_run h
  have hlen : cs.length = ops.size := by rw [(compOps_get hcs).1, Array.length_toList]
  have hTl : T.length = ops.size := by
    have := congrArg List.length t2
    rw [List.length_map] at this
    rw [this, ← hlen]
    have gen : ∀ (l : List COp) (i : Nat), (idxs l i).length = l.length := by
      intro l
      induction l with
      | nil => intro i; rfl
      | cons o l ih => intro i; simp [idxs, ih]
    exact gen cs 0
  have hmem : ∀ x ∈ T, (x.1, x.2.1) ∈ idxs cs 0 := fun x hx => by rw [← t2]; exact List.mem_map.2 ⟨x, hx, rfl⟩
  have hr : Rel W0 O0 S0 S φ st a { W with drawn := W.drawn + 1 } := (hR.world (M := fun _ => False) (Keep.drew W _) (fun k hk => hk.elim)).1
  have hp1 : T.Pairwise (fun x y => x.1 < y.1 ∧ (((Region.before ops).toList.getD y.1 0).testBit x.1 = true ∨ x.2.1.apart y.2.1 = true)) := by
    have := (idxs_lt (l := cs) (i := 0)).2.and (okDraw_pairs hok)
    rw [← t2, List.pairwise_map] at this
    exact this
  rw [← hTl]
  refine any_sound hC hEq hE T.length rfl t1 ((hp1.and t4).imp (fun {x y} hxy => ?_)) (fun x hx => comp_idxs hcs _ (hmem x hx)) ?_ hr hD hK
  · obtain ⟨⟨h1, h2⟩, h3⟩ := hxy
    refine ⟨h1, ?_⟩
    rcases h2 with q | q
    · exact .inl q
    · rcases h3 with q' | q'
      · exact .inl q'
      · exact .inr ⟨q, q'⟩
  · have hix : ∀ i, i < ops.size → ∃ x ∈ T, x.1 = i := by
      intro i hi
      have hc : cs[i]? = some cs[i] := List.getElem?_eq_getElem (by omega)
      have : (idxs cs 0)[i]? = some (i, cs[i]) := by rw [idxs_get, hc]; simp
      rw [← t2, List.getElem?_map] at this
      cases hx : T[i]? with
      | none => simp [hx] at this
      | some x =>
        simp only [hx, Option.map_some, Option.some.injEq, Prod.mk.injEq] at this
        exact ⟨x, List.mem_of_getElem? hx, this.1⟩
    rw [hTl]
    refine ⟨by simp, fun i hi => ?_, fun x hx => ?_, fun i b hi _ => ?_⟩
    · refine ⟨fun _ => hix i hi, fun _ => ?_⟩
      simp [Array.getD, hi]
    · obtain ⟨o, ho, _⟩ := (comp_idxs hcs _ (hmem x hx)).ex
      exact (Array.getElem?_eq_some_iff.1 ho).1
    · by_cases hlt : i < ops.size
      · simp [Array.getD, hlt] at hi
      · simp [Array.getD, hlt] at hi
end
end Go.Pi
