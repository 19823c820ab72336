/- A call, from its own side. Own work of this session. -/
import Derived.Test.YtpjdoblfdeioaaaQcode0
set_option linter.unusedVariables false
set_option linter.unusedSimpArgs false
namespace Go.Pi
section
variable {cx : Cx} {C : CallF} {P : Program} {W0 W W' : World} {O0 O : List Nat} {S0 : Base} {S S' : Bool → Nat → Prop} {φ φ' : Nat → Option Nat} {st st1 st2 : St} {a : Act}
/-- The parameters that are had back. -/
def twos : Nat → List Nat → List Nat
  | _, [] => []
  | i, m :: ms => if m = 2 then i :: twos (i + 1) ms else twos (i + 1) ms
/-! What a call hands back. -/
theorem outC_rel (hR : Rel W0 O0 S0 S φ st a W) {p q : PV} {ups : Ups} {v : Value} (h : (outC p).val st.hp = some (q, ups)) (hv : RelC W S φ st.hp p v) : Kills st.hp ups ∧ ∀ S' : Bool → Nat → Prop, (∀ ln k, S ln k → S' ln k) → (∀ b ∈ ups.map (·.1), ∀ g, φ b = some g → S' false g) → RelC W S' noφ noH q v := by
  unfold outC at h
  split at h
  · simp only [Rd.val, Option.some.injEq, Prod.mk.injEq] at h
    obtain ⟨rfl, rfl⟩ := h
    exact ⟨Kills.nil, fun S' hS _ => Sh.mono hS (fun _ _ _ => rfl) hv⟩
  · unfold nrmC at h
    split at h
    · simp only [Rd.val, Option.some.injEq, Prod.mk.injEq] at h
      obtain ⟨rfl, rfl⟩ := h
      exact ⟨Kills.nil, fun S' hS _ => hv⟩
    · simp only [Rd.val, Option.some.injEq, Prod.mk.injEq] at h
      obtain ⟨rfl, rfl⟩ := h
      exact ⟨Kills.nil, fun S' hS _ => Sh.mono hS (fun _ _ _ => rfl) hv⟩
    · simp only [Rd.val, Option.some.injEq, Prod.mk.injEq] at h
      obtain ⟨rfl, rfl⟩ := h
      obtain ⟨A, rfl⟩ := hv
      exact ⟨Kills.nil, fun S' hS _ => Sh.nil W S' false A 0 (Nat.zero_le _)⟩
    · rename_i b ver off len _
      obtain ⟨T, sz, box, rows, hb, hq⟩ := getRow_inv h
      clear h
      cases box with
      | true => simp [Rd.val] at hq
      | false =>
        simp only [Bool.false_eq_true, if_false, Rd.val, Option.some.injEq, Prod.mk.injEq] at hq
        obtain ⟨rfl, rfl⟩ := hq
        exact ⟨kills_one hb, fun S' hS hN => sh_of_block (hR.blk b _ hb) (sl_inv (S := S) hv hb) hS false (hN b (by simp))⟩
    · simp [Rd.val] at h
theorem outCs_rel (hR : Rel W0 O0 S0 S φ st a W) : ∀ {ps qs : List PV} {ups : Ups} {vs : List Value}, (outCs ps).val st.hp = some (qs, ups) → RelCs W S φ st.hp ps vs → Kills st.hp ups ∧ ∀ S' : Bool → Nat → Prop, (∀ ln k, S ln k → S' ln k) → (∀ b ∈ ups.map (·.1), ∀ g, φ b = some g → S' false g) → RelCs W S' noφ noH qs vs
  | [], qs, ups, [], h, hv => by
    simp only [outCs, Rd.val, Option.some.injEq, Prod.mk.injEq] at h
    obtain ⟨rfl, rfl⟩ := h
    exact ⟨Kills.nil, fun _ _ _ => RelCs.nil⟩
  | [], _, _, _ :: _, _, hv => by have := hv.1; simp at this
  | _ :: _, _, _, [], _, hv => by have := hv.1; simp at this
  | p :: ps, qs, ups, v :: vs, h, hv => by
    simp only [outCs, Rd.val_bind] at h
    cases h1 : (outC p).val st.hp with
    | none => simp [h1] at h
    | some x =>
      simp only [h1, Option.bind_some] at h
      cases h2 : (outCs ps).val st.hp with
      | none => simp [h2] at h
      | some y =>
        simp only [h2, Option.bind_some, Rd.val, Option.some.injEq, Prod.mk.injEq] at h
        obtain ⟨rfl, rfl⟩ := h
        obtain ⟨a1, a2⟩ := outC_rel hR h1 hv.tail.1
        obtain ⟨b1, b2⟩ := outCs_rel hR h2 hv.tail.2
        refine ⟨a1.append b1, fun S' hS hN => RelCs.cons (a2 S' hS fun b hb => hN b ?_) (b2 S' hS fun b hb => hN b ?_)⟩
        · rw [List.map_append]; exact List.mem_append_left _ hb
        · rw [List.map_append]; exact List.mem_append_right _ hb
/-- One result: what is given up, what is given away. -/
def OutOk (P : Program) (W : World) (S : Bool → Nat → Prop) (φ : Nat → Option Nat) (H : Heap) (qs : List PV) (vs : List Value) (ups : Ups) : Prop :=
  ∃ un ug : Ups, (ups.map (·.1)).Perm ((un ++ ug).map (·.1)) ∧ Kills H un ∧ Kills H ug ∧ ∀ S' : Bool → Nat → Prop, (∀ ln k, S ln k → S' ln k) → (∀ b ∈ un.map (·.1), ∀ g, φ b = some g → S' false g) → TrAs P W S' qs vs (blocksOf φ ug)
theorem trAs_one {p : PV} {v : Value} {gs : List Nat} (h : TrA P W S p v gs) : TrAs P W S [p] [v] gs := by
  have := TrAs.cons (gs := []) h .nil
  rwa [List.append_nil] at this
theorem trAs_append {ps qs : List PV} {vs ws : List Value} {g1 g2 : List Nat} (h : TrAs P W S ps vs g1) (h' : TrAs P W S qs ws g2) : TrAs P W S (ps ++ qs) (vs ++ ws) (g1 ++ g2) := by
  induction h with
  | nil => exact h'
  | cons t1 t2 ih => rw [List.append_assoc]; exact .cons t1 ih
theorem outR_rel (hR : Rel W0 O0 S0 S φ st a W) {m t : Nat} {p q : PV} {ups : Ups} {v : Value} (h : (outR P m t p).val st.hp = some (q, ups)) (hv : RelV W S φ st.hp p v) : OutOk P W S φ st.hp [q] [v] ups := by
  unfold outR at h
  split at h
  · split at h
    · rename_i cs
      rw [Rd.val_bind] at h
      cases h1 : (outCs cs).val st.hp with
      | none => simp [h1] at h
      | some x =>
        simp only [h1, Option.bind_some, Rd.val, Option.some.injEq, Prod.mk.injEq] at h
        obtain ⟨rfl, rfl⟩ := h
        obtain ⟨xs, rfl, hx⟩ := hv
        obtain ⟨a1, a2⟩ := outCs_rel hR h1 hx
        exact ⟨x.2, [], by simp, a1, Kills.nil, fun S' hS hN => trAs_one (gs := []) (.ag (trCs_plain (H := noH) (a2 S' hS hN)))⟩
    · rename_i f
      simp only [Rd.val, Option.some.injEq, Prod.mk.injEq] at h
      obtain ⟨rfl, rfl⟩ := h
      obtain ⟨xs, rfl, hx⟩ := hv
      have : xs = [] := List.eq_nil_of_length_eq_zero hx.1
      subst this
      exact ⟨[], [], by simp, Kills.nil, Kills.nil, fun S' hS hN => trAs_one (gs := []) (.fn RelCs.nil)⟩
    · rename_i h1 h2
      have hvc : RelC W S φ st.hp p v := by
        cases p with
        | ag cs => exact absurd rfl (h1 cs)
        | fn f cs => cases cs with
          | nil => exact absurd rfl (h2 f)
          | cons _ _ => simp [outC, nrmC, Rd.val] at h
        | u => simp [outC, nrmC, Rd.val] at h
        | tu _ => simp [outC, nrmC, Rd.val] at h
        | ow _ _ => simp [outC, nrmC, Rd.val] at h
        | bx _ _ => simp [outC, nrmC, Rd.val] at h
        | _ => exact hv
      obtain ⟨a1, a2⟩ := outC_rel hR h hvc
      exact ⟨ups, [], by simp, a1, Kills.nil, fun S' hS hN => trAs_one (gs := []) (.cell (.pl (a2 S' hS hN)))⟩
  · split at h
    · rename_i cs
      rw [Rd.val_bind] at h
      cases h1 : (giveCells P cs).val st.hp with
      | none => simp [h1] at h
      | some x =>
        simp only [h1, Option.bind_some, Rd.val, Option.some.injEq, Prod.mk.injEq] at h
        obtain ⟨rfl, rfl⟩ := h
        obtain ⟨xs, rfl, hx⟩ := hv
        refine ⟨[], x.2, by simp, Kills.nil, (giveCells_rel (Sc := S) hR (fun _ _ h => h) h1 hx).2, fun S' hS hN => trAs_one (.ag (giveCells_rel hR hS h1 hx).1)⟩
    · rename_i b ver
      obtain ⟨T, sz, box, rows, hb, hq⟩ := getRow_inv h
      clear h
      split at hq
      · rename_i cells
        rw [Rd.val_bind] at hq
        cases h1 : (giveCells P cells).val st.hp with
        | none => simp [h1] at hq
        | some x =>
          simp only [h1, Option.bind_some, Rd.val, Option.some.injEq, Prod.mk.injEq] at hq
          obtain ⟨rfl, rfl⟩ := hq
          exact ⟨[], _, by simp, Kills.nil, (giveBox_rel (Sc := S) hR (fun _ _ h => h) hv hb h1).2, fun S' hS hN => trAs_one (giveBox_rel hR hS hv hb h1).1⟩
      · simp [Rd.val] at hq
    · split at h
      · rename_i T hT
        exact ⟨[], ups, by simp, Kills.nil, (giveC_rel (Sc := S) hR (fun _ _ h => h) h hv).2, fun S' hS hN => trAs_one (.cell (giveC_rel hR hS h hv).1)⟩
      · simp [Rd.val] at h
  · simp [Rd.val] at h
theorem outRs_rel (hR : Rel W0 O0 S0 S φ st a W) : ∀ {ms ts : List Nat} {ps qs : List PV} {ups : Ups} {vs : List Value}, (outRs P ms ts ps).val st.hp = some (qs, ups) → vs.length = ps.length → (∀ (i : Nat) (p : PV) (x : Value), ps[i]? = some p → vs[i]? = some x → RelV W S φ st.hp p x) → OutOk P W S φ st.hp qs vs ups
  | [], [], [], qs, ups, vs, h, hl, hv => by
    simp only [outRs, Rd.val, Option.some.injEq, Prod.mk.injEq] at h
    obtain ⟨rfl, rfl⟩ := h
    have : vs = [] := List.eq_nil_of_length_eq_zero hl
    subst this
    exact ⟨[], [], by simp, Kills.nil, Kills.nil, fun _ _ _ => .nil⟩
  | [], [], _ :: _, _, _, _, h, _, _ => by simp [outRs, Rd.val] at h
  | [], _ :: _, _, _, _, _, h, _, _ => by simp [outRs, Rd.val] at h
  | _ :: _, [], _, _, _, _, h, _, _ => by simp [outRs, Rd.val] at h
  | _ :: _, _ :: _, [], _, _, _, h, _, _ => by simp [outRs, Rd.val] at h
  | m :: ms, t :: ts, p :: ps, qs, ups, [], h, hl, hv => by simp at hl
  | m :: ms, t :: ts, p :: ps, qs, ups, v :: vs, h, hl, hv => by
    simp only [outRs, Rd.val_bind] at h
    cases h1 : (outR P m t p).val st.hp with
    | none => simp [h1] at h
    | some x =>
      simp only [h1, Option.bind_some] at h
      cases h2 : (outRs P ms ts ps).val st.hp with
      | none => simp [h2] at h
      | some y =>
        simp only [h2, Option.bind_some, Rd.val, Option.some.injEq, Prod.mk.injEq] at h
        obtain ⟨rfl, rfl⟩ := h
        obtain ⟨un1, ug1, p1, k1, l1, t1⟩ := outR_rel hR h1 (hv 0 p v rfl rfl)
        obtain ⟨un2, ug2, p2, k2, l2, t2⟩ := outRs_rel hR h2 (by simpa using hl) (fun i p' x' hp hx => hv (i + 1) p' x' hp hx)
        refine ⟨un1 ++ un2, ug1 ++ ug2, ?_, k1.append k2, l1.append l2, fun S' hS hN => ?_⟩
        · simp only [List.map_append] at p1 p2 ⊢
          refine (p1.append p2).trans ?_
          rw [List.append_assoc, List.append_assoc]
          refine List.Perm.append_left _ ?_
          rw [← List.append_assoc, ← List.append_assoc]
          exact List.Perm.append_right _ List.perm_append_comm
        · rw [blocksOf_append]
          simp only [List.map_append, List.mem_append] at hN
          exact trAs_append (t1 S' hS fun b hb => hN b (.inl hb)) (t2 S' hS fun b hb => hN b (.inr hb))
theorem outMs_rel (hR : Rel W0 O0 S0 S φ st a W) : ∀ {ms : List Nat} {i : Nat} {os : List PV} {ups : Ups} {vs : List Value}, (outMs P st.sl i ms).val st.hp = some (os, ups) → vs.length = ms.length → (∀ (k : Nat) (v : Value), ms[k]? = some 2 → vs[k]? = some v → a.tmps.getD (i + k) undef = v) →
    Kills st.hp ups ∧ ∀ S' : Bool → Nat → Prop, (∀ ln k, S ln k → S' ln k) → ∃ hs gs, TrOuts P W S' ms vs os hs gs ∧ (gs ++ hs).Perm (blocksOf φ ups)
  | [], i, os, ups, vs, h, hl, hp => by
    simp only [outMs, Rd.val, Option.some.injEq, Prod.mk.injEq] at h
    obtain ⟨rfl, rfl⟩ := h
    have : vs = [] := List.eq_nil_of_length_eq_zero hl
    subst this
    exact ⟨Kills.nil, fun S' hS => ⟨[], [], .nil, by simp [blocksOf]⟩⟩
  | m :: ms, i, os, ups, [], h, hl, hp => by simp at hl
  | m :: ms, i, os, ups, v :: vs, h, hl, hp => by
    have hrest : ∀ (k : Nat) (w : Value), ms[k]? = some 2 → vs[k]? = some w → a.tmps.getD (i + 1 + k) undef = w := fun k w h1 h2 => by
      have := hp (k + 1) w h1 h2
      rwa [show i + (k + 1) = i + 1 + k by omega] at this
    simp only [outMs] at h
    split at h
    · rename_i hm
      subst hm
      rw [Rd.val_bind] at h
      cases h1 : (xfer P 2 0 (st.sl i)).val st.hp with
      | none => simp [h1] at h
      | some x =>
        simp only [h1, Option.bind_some, Rd.val_bind] at h
        cases h2 : (outMs P st.sl (i + 1) ms).val st.hp with
        | none => simp [h2] at h
        | some y =>
          simp only [h2, Option.bind_some, Rd.val, Option.some.injEq, Prod.mk.injEq] at h
          obtain ⟨rfl, rfl⟩ := h
          have hv : a.tmps.getD i undef = v := hp 0 v rfl rfl
          have hrel := hR.sl i
          rw [hv] at hrel
          obtain ⟨k1, k2⟩ := outMs_rel hR h2 (by simpa using hl) hrest
          have hx : ∀ S' : Bool → Nat → Prop, (∀ ln k, S ln k → S' ln k) → TrA P W S' x.1 v (blocksOf φ x.2) ∧ Kills st.hp x.2 := fun S' hS => xfer_rel hR hS h1 hrel (fun h => by cases h)
          obtain ⟨b, ver, T, sz, cells, hsl, hb, r, hr⟩ := xfer_box h1
          have hq : ∃ T qs, x.1 = .bx T qs := by
            simp only [xfer, hsl] at h1
            obtain ⟨T', sz', box', rows', hb', hq⟩ := getRow_inv h1
            split at hq
            · rename_i cells'
              rw [Rd.val_bind] at hq
              cases h3 : (giveCells P cells').val st.hp with
              | none => simp [h3] at hq
              | some z =>
                simp only [h3, Option.bind_some, Rd.val, Option.some.injEq] at hq
                subst hq
                exact ⟨_, _, rfl⟩
            · simp [Rd.val] at hq
          obtain ⟨T1, qs, hxq⟩ := hq
          refine ⟨(hx S (fun _ _ h => h)).2.append k1, fun S' hS => ?_⟩
          obtain ⟨hs, gs, t1, t2⟩ := k2 S' hS
          have t0 := (hx S' hS).1
          rw [hxq] at t0 ⊢
          generalize hbl : blocksOf φ x.2 = bl at t0
          cases t0 with
          | cell h => cases h with | pl h => exact h.elim
          | bx e1 e2 =>
            rename_i g xs g1
            refine ⟨g :: hs, g1 ++ gs, .two e1 e2 t1, ?_⟩
            rw [blocksOf_append, hbl]
            have p1 : (g1 ++ gs ++ g :: hs).Perm (g :: (g1 ++ gs ++ hs)) := List.perm_middle
            refine p1.trans ?_
            rw [List.cons_append, List.append_assoc]
            exact (t2.append_left g1).cons g
    · rename_i hm
      obtain ⟨k1, k2⟩ := outMs_rel hR h (by simpa using hl) hrest
      refine ⟨k1, fun S' hS => ?_⟩
      obtain ⟨hs, gs, t1, t2⟩ := k2 S' hS
      exact ⟨hs, gs, .skip hm t1, t2⟩
/-! At the start. -/
theorem slots_get : ∀ {qs : List PV} {i t : Nat}, sF (slots i qs) t = if i ≤ t then (match qs[t - i]? with | some q => q | none => .u) else .u
  | [], i, t => by simp [slots, sF]
  | q :: qs, i, t => by
    simp only [slots, sF]
    by_cases h : t = i
    · subst h; simp
    · rw [if_neg h, slots_get (qs := qs)]
      by_cases h2 : i ≤ t
      · have e : t - i = (t - (i + 1)) + 1 := by omega
        rw [if_pos (by omega), if_pos h2, e, List.getElem?_cons_succ]
      · rw [if_neg (by omega), if_neg h2]
theorem start_rel {tvs : List PV} {vs : List Value} {par : Nat → Option Value} (hP : Pre P W S O tvs vs) (hs : startSt P tvs = some st) (hd : a.defers = []) (hp : ∀ i v, par i = some v → a.tmps.getD i undef = v) (ha : ∀ (i : Nat) (v : Value), vs[i]? = some v → a.tmps.getD i undef = v) : ∃ φ, Rel W O ⟨S, par⟩ S φ st a W := by
  unfold startSt at hs
  cases hr : (recvL P (pkeys 0 tvs) tvs).val noH with
  | none => simp [hr] at hs
  | some x =>
    simp only [hr] at hs
    split at hs
    · rename_i hk
      rw [keysNodup_iff] at hk
      simp only [Option.some.injEq] at hs
      subst hs
      have base : Rel W O ⟨S, par⟩ S noφ ⟨fun _ => .u, noH⟩ a W :=
        { keep := Keep.refl W _, own := fun b v T sz box rows g hb => (by cases hb), inj := fun b b' v v' T T' sz sz' bx bx' r r' g hb => (by cases hb), blk := fun b blk hb => (by cases hb), mps := fun b v ks hb => (by cases hb), sl := fun t => trivial, sle := hP.sle, slt := hP.slt, s0 := fun ln k h => h, s1 := fun k h => .inl h, s2 := fun k h => .inl h, dfr := hd, par := hp }
      obtain ⟨φ, r1, e1, c1, c2⟩ := recvL_rel (H0 := noH) (D := []) base hP.tr hP.nodup (fun g hg => ⟨fun hl => (by rcases hl with ⟨b, _, _, _, _, _, hb, _⟩ | ⟨b, _, _, hb, _⟩ <;> cases hb), hP.apart g hg, .inl hg⟩) (fun k _ blk hb => by cases hb) hr hk (fun k _ hm => by cases hm)
      refine ⟨φ, { keep := r1.keep, own := r1.own, inj := r1.inj, blk := r1.blk, mps := r1.mps, sl := fun t => ?_, sle := r1.sle, slt := r1.slt, s0 := r1.s0, s1 := r1.s1, s2 := r1.s2, dfr := r1.dfr, par := r1.par }⟩
      show RelV W S φ (updH noH x.2) (sF (slots 0 x.1) t) _
      rw [slots_get, if_pos (Nat.zero_le _), Nat.sub_zero]
      cases hq : x.1[t]? with
      | none => trivial
      | some q =>
        have hlt : t < vs.length := by rw [c1]; exact (List.getElem?_eq_some_iff.1 hq).1
        have hx := List.getElem?_eq_getElem hlt
        rw [ha t _ hx]
        exact RelV_of_RelA (c2 t q _ hq hx)
    · cases hs
/-! At the end. -/
theorem load_cells_run {t : Nat} {ad : Addr} {cs : List PV} {xs : List Value} (hl : xs.length = cs.length)
    (hc : ∀ (k : Nat) (w : Value), xs[k]? = some w → W.cell? (ad.add k) = some w) (hr : ∀ (k : Nat) (p : PV) (w : Value), cs[k]? = some p → xs[k]? = some w → RelC W S φ st.hp p w) {v : PV} (hv : (mkVal P t cs).val st.hp = some v) : ∃ y, (loadVar t ad).run P W = .ok y W ∧ RelV W S φ st.hp v y := by
  obtain ⟨h1, h2, h3⟩ := mkVal_inv hv
  obtain ⟨hu, h0⟩ := okT_inv h1
  have hrun := loadVar_run (P := P) (W := W) hu (ad := ad) (xs := xs) (by omega) (by omega) hc (fun hg => by
    rcases h3 with ⟨hg', _⟩ | ⟨_, rfl⟩
    · rw [hg] at hg'; cases hg'
    · simpa using hl)
  refine ⟨_, hrun, ?_⟩
  rcases h3 with ⟨hg, rfl⟩ | ⟨hg, rfl⟩
  · rw [if_pos hg]; exact ⟨xs, rfl, hl, hr⟩
  · rw [if_neg (by simp [hg])]
    obtain ⟨w, rfl⟩ : ∃ w, xs = [w] := List.length_eq_one_iff.1 (by simpa using hl)
    exact RelV_of_RelC (hr 0 v w rfl rfl)
theorem load_run (hR : Rel W0 O0 S0 S φ st a W) {t : Nat} {p v : PV} {x : Value} (hy : RelV W S φ st.hp p x) (h : (loadEff P t p).val st.hp = some v) : ∃ ad y, x = .pointer (some ad) ∧ (loadVar t ad).run P W = .ok y W ∧ RelV W S φ st.hp v y := by
  unfold loadEff at h
  split at h
  · rename_i b ver i j
    obtain ⟨T, sz, box, rows, hb, h⟩ := getRow_inv h
    obtain ⟨g, hg, hp⟩ := ad_inv (W := W) (S := S) hy hb
    split at h
    · rename_i hi
      obtain ⟨xs, e1, e2, e3⟩ := row_cells (H := st.hp) (hR.blk b _ hb) hg hi
      obtain ⟨y, k1, k2⟩ := load_cells_run (W := W) (ad := ⟨g, i * sz + j, none⟩) (S := S) (φ := φ) (xs := (xs.drop j).take (szOf P t)) (by simp [e1]) (fun k w hk => by
        rw [List.getElem?_take] at hk
        split at hk
        · rw [List.getElem?_drop] at hk
          rw [add_lit, Nat.add_assoc]
          exact e2 _ _ hk
        · cases hk) (fun k p w hp hk => by
        rw [List.getElem?_take] at hk hp
        split at hk
        · rename_i hlt
          rw [if_pos hlt] at hp
          rw [List.getElem?_drop] at hk hp
          exact (e3 _ _ _ hp hk).1
        · cases hk) h
      exact ⟨_, y, hp, k1, k2⟩
    · simp [Rd.val] at h
  · rename_i ln cs
    obtain ⟨ad, z, hp, hs, hc⟩ := hy
    obtain ⟨y, k1, k2⟩ := load_cells_run (W := W) (ad := ad) (S := S) (φ := φ) (xs := (List.range (cs.take (szOf P t)).length).map z) (by simp) (fun k w hk => by
      obtain ⟨hlt, rfl⟩ := (mapr_get _ _ _ _).1 hk
      have hlt2 : k < cs.length := by simp at hlt; omega
      exact (hc k _ (List.getElem?_eq_getElem hlt2)).1) (fun k p w hp hk => by
      obtain ⟨hlt, rfl⟩ := (mapr_get _ _ _ _).1 hk
      rw [List.getElem?_take] at hp
      split at hp
      · exact RelC_of_Sh (hc k p hp).2
      · cases hp) h
    exact ⟨_, y, hp, k1, k2⟩
  · simp [Rd.val] at h
theorem resPV_rel (hR : Rel W0 O0 S0 S φ st a W) : ∀ {l : List ResultVar} {ps : List PV}, (resPV P st l).val st.hp = some ps → ∃ vs : List Value, vs.length = ps.length ∧ (l.mapM (m := Sem) fun | .tmp t => pure (a.tmps.getD t undef) | .cell b t => do loadVar t (← asAddr (a.tmps.getD b undef))).run P W = .ok vs W ∧
    ∀ (i : Nat) (p : PV) (x : Value), ps[i]? = some p → vs[i]? = some x → RelV W S φ st.hp p x
  | [], ps, h => by
    simp only [resPV, Rd.val, Option.some.injEq] at h
    subst h
    exact ⟨[], rfl, by simp, fun i p x hp => by simp at hp⟩
  | .tmp t :: l, ps, h => by
    simp only [resPV, Rd.val_bind] at h
    cases h1 : (resPV P st l).val st.hp with
    | none => simp [h1] at h
    | some qs =>
      simp only [h1, Option.bind_some, Rd.val, Option.some.injEq] at h
      subst h
      obtain ⟨vs, k1, k2, k3⟩ := resPV_rel hR h1
      refine ⟨a.tmps.getD t undef :: vs, by simp [k1], by simp only [List.mapM_cons, Sem.run_bind, Sem.run_pure, k2, Result.andThen_ok], fun i p x hp hx => ?_⟩
      cases i with
      | zero =>
        simp only [List.getElem?_cons_zero, Option.some.injEq] at hp hx
        subst hp; subst hx
        exact hR.sl t
      | succ i => exact k3 i p x hp hx
  | .cell b t :: l, ps, h => by
    simp only [resPV, Rd.val_bind] at h
    cases h0 : (loadEff P t (st.sl b)).val st.hp with
    | none => simp [h0] at h
    | some q =>
      simp only [h0, Option.bind_some] at h
      cases h1 : (resPV P st l).val st.hp with
      | none => simp [h1] at h
      | some qs =>
        simp only [h1, Option.bind_some, Rd.val, Option.some.injEq] at h
        subst h
        obtain ⟨vs, k1, k2, k3⟩ := resPV_rel hR h1
        obtain ⟨ad, y, e1, e2, e3⟩ := load_run hR (hR.sl b) h0
        have hA : asAddr (a.tmps.getD b undef) = pure ad := by rw [e1]; rfl
        refine ⟨y :: vs, by simp [k1], by simp only [List.mapM_cons, Sem.run_bind, Sem.run_pure, k2, hA, e2, Result.andThen_ok], fun i p x hp hx => ?_⟩
        cases i with
        | zero =>
          simp only [List.getElem?_cons_zero, Option.some.injEq] at hp hx
          subst hp; subst hx
          exact e3
        | succ i => exact k3 i p x hp hx
theorem results_run {fn : Func} {vs : List Value} (h : (fn.results.toList.mapM (m := Sem) fun | .tmp t => pure (a.tmps.getD t undef) | .cell b t => do loadVar t (← asAddr (a.tmps.getD b undef))).run P W = .ok vs W) : (results fn a.tmps).run P W = .ok (packV vs) W := by
  unfold results
  rw [Array.mapM_eq_mapM_toList]
  simp only [Sem.run_bind, Sem.run_map]
  refine (congrArg (fun r : Result (List Value) => (r.andThen fun (a : List Value) w' => Result.ok a.toArray w').andThen fun (a : Array Value) w' => Sem.run P (pure (if h : a.size = 1 then a[0] else Value.tuple a)) w') h).trans ?_
  simp only [Result.andThen_ok, Sem.run_pure]
  congr 1
  match vs with
  | [] => rfl
  | [v] => rfl
  | _ :: _ :: _ => simp [packV]
theorem finish_rel (hR : Rel W0 O S0 S φ st a W) {f : Nat} {res : List ResultVar} {rts : List Nat} {vs : List Value} (hl : vs.length = (cx.md f).length) (hpar : ∀ (k : Nat) (v : Value), (cx.md f)[k]? = some 2 → vs[k]? = some v → a.tmps.getD k undef = v) {ro os : List PV} (h : finish cx f res rts st = some (ro, os)) :
    ∃ rs : List Value, (res.mapM (m := Sem) fun | .tmp t => pure (a.tmps.getD t undef) | .cell b t => do loadVar t (← asAddr (a.tmps.getD b undef))).run cx.P W = .ok rs W ∧ ∃ S' O1 O2 hs, PostR cx.P W0 S0.s O (cx.md f) vs ro os rs W S' O1 O2 hs := by
  unfold finish at h
  rw [Rd.val_bind] at h
  cases h0 : (resPV cx.P st res).val st.hp with
  | none => simp [h0] at h
  | some ps =>
    simp only [h0, Option.bind_some, Rd.val_bind] at h
    cases h1 : (outRs cx.P (cx.rm f) rts ps).val st.hp with
    | none => simp [h1] at h
    | some x =>
      simp only [h1, Option.bind_some] at h
      cases h2 : (outMs cx.P st.sl 0 (cx.md f)).val st.hp with
      | none => simp [h2] at h
      | some y =>
        simp only [h2, Option.bind_some] at h
        split at h
        · rename_i hk
          rw [keysNodup_iff] at hk
          simp only [Rd.val, Option.some.injEq, Prod.mk.injEq] at h
          obtain ⟨rfl, rfl⟩ := h
          obtain ⟨rs, r1, r2, r3⟩ := resPV_rel hR h0
          refine ⟨rs, r2, ?_⟩
          obtain ⟨un, ug, p1, k1, k2, t1⟩ := outRs_rel hR h1 r1 r3
          obtain ⟨k3, t2⟩ := outMs_rel hR h2 hl (fun k v a1 a2 => by rw [Nat.zero_add]; exact hpar k v a1 a2)
          let S' : Bool → Nat → Prop := fun ln k => S ln k ∨ ∃ b ∈ un.map (·.1), φ b = some k
          obtain ⟨hs, gs, t3, p2⟩ := t2 S' (fun _ _ h => .inl h)
          have hnd : ((un ++ (ug ++ y.2)).map (·.1)).Nodup := by
            have : ((x.2 ++ y.2).map (·.1)).Perm ((un ++ (ug ++ y.2)).map (·.1)) := by
              rw [← List.append_assoc, List.map_append, List.map_append]
              exact p1.append_right _
            exact this.nodup_iff.1 hk
          rw [List.map_append, List.nodup_append] at hnd
          obtain ⟨n1, n2, n3⟩ := hnd
          have hkg := k2.append k3
          have hper : (blocksOf φ ug ++ (gs ++ hs)).Perm (blocksOf φ (ug ++ y.2)) := by rw [blocksOf_append]; exact p2.append_left _
          have hlive : ∀ ups : Ups, Kills st.hp ups → ∀ b ∈ ups.map (·.1), ∃ v T sz box rows, st.hp b = some (.row v T sz box rows) := fun ups hku b hb => by
            obtain ⟨z, hz, rfl⟩ := List.mem_map.1 hb
            obtain ⟨v, T, sz, box, rows, hr, _⟩ := hku z.1 z.2 hz
            exact ⟨v, T, sz, box, rows, hr⟩
          have hun : ∀ k, (∃ b ∈ un.map (·.1), φ b = some k) → ¬ S true k ∧ (k ∈ O ∨ W0.heap.size ≤ k) ∧ k < W.heap.size := fun k ⟨b, hb, hg⟩ => by
            obtain ⟨_, _, _, _, _, hr⟩ := hlive un k1 b hb
            exact ⟨(hR.own b _ _ _ _ _ k hr hg).1, (hR.own b _ _ _ _ _ k hr hg).2, hR.sz hr hg⟩
          refine ⟨S', blocksOf φ ug, gs, hs, { keep := hR.keep, sS := fun ln k h => .inl (hR.s0 ln k h), res := t1 S' (fun _ _ h => .inl h) (fun b hb g hg => .inr ⟨b, hb, hg⟩), outs := t3, nodup := hper.nodup_iff.2 (blocksOf_nodup hR hkg n2), own := fun g hg => ?_, sle := fun k hk => hk.imp (hR.sle k) id, slt := fun k hk => ?_, s1 := fun k hk => ?_, s2 := fun k hk => ?_ }⟩
          · obtain ⟨b, hb, hφ⟩ := blocksOf_mem.1 (hper.mem_iff.1 hg)
            obtain ⟨_, _, _, _, _, hr⟩ := hlive _ hkg b hb
            refine ⟨fun hs' => ?_, (hR.own b _ _ _ _ _ g hr hφ).2⟩
            rcases hs' with q | ⟨b', hb', hg'⟩
            · exact (hR.own b _ _ _ _ _ g hr hφ).1 q
            · obtain ⟨_, _, _, _, _, hr'⟩ := hlive un k1 b' hb'
              have := hR.inj b' b _ _ _ _ _ _ _ _ _ _ g hr' hr hg' hφ
              exact n3 b' hb' b hb this
          · rcases hk with q | q
            · exact hR.slt k q
            · exact (hun k q).2.2
          · rcases hk with q | q
            · rcases hR.s1 k q with q | q
              · exact .inl q
              · exact .inr (.inl q)
            · exact .inr (.inr q)
          · rcases hk with q | q
            · exact hR.s2 k q
            · exact .inr (hun k q).2.1
        · simp [Rd.val] at h
/-! The loaded functions are those that the reading takes. -/
structure FnOk (cx : Cx) (f : Nat) (cf : CFn) : Prop where
  ex : ∃ fn c kp, cx.P.funcs[f]? = some fn ∧ (fn.name == "runtime.NumGoroutine") = false ∧ fn.body = some c ∧ comp kp 0 c = some cf.body ∧ fn.results.toList = cf.res ∧ (cx.md f).length ≤ fn.ntmps ∧ dstC fn.ntmps (twos 0 (cx.md f)) c = true
theorem twos_mem : ∀ {ms : List Nat} {i t : Nat}, ms[t]? = some 2 → i + t ∈ twos i ms
  | [], i, t, h => by simp at h
  | m :: ms, i, 0, h => by
    simp only [List.getElem?_cons_zero, Option.some.injEq] at h
    subst h
    simp [twos]
  | m :: ms, i, t + 1, h => by
    have := twos_mem (ms := ms) (i := i + 1) (t := t) h
    have e : i + (t + 1) = i + 1 + t := by omega
    rw [e]
    simp only [twos]
    split
    · exact List.mem_cons_of_mem _ this
    · exact this
theorem TrAs.len {tvs : List PV} {vs : List Value} (hP : Pre P W S O tvs vs) : vs.length = tvs.length := hP.tr.length
theorem callOk_body (hC : CallOk cx C) (hEq : Facts cx) (hm : cx.P.follows .mixedOrders = true) (hF : ∀ f cf, cx.fns f = some cf → FnOk cx f cf) : CallOk cx (body cx C) := by
  intro g tvs res outs h
  unfold body at h
  cases hf : cx.fns g with
  | none => simp [hf] at h
  | some cf =>
    simp only [hf] at h
    obtain ⟨fn, c, kp, f1, f2, f3, f4, f5, f6, f7⟩ := (hF g cf hf).ex
    refine ⟨⟨fn, f1, f2, by rw [f3]; rfl⟩, fun W S O vs hP => ?_⟩
    split at h
    · rename_i hlen
      cases hs : startSt cx.P tvs with
      | none => simp [hs] at h
      | some s0 =>
        simp only [hs] at h
        have hvl : vs.length = (cx.md g).length := by rw [hP.tr.length, hlen]
        refine calls_of_wp f1 f3 ?_
        let par : Nat → Option Value := fun i => if (cx.md g)[i]? = some 2 then vs[i]? else none
        generalize ha0 : ({ tmps := vs.toArray ++ Array.replicate (fn.ntmps - vs.toArray.size) undef, defers := [] } : Act) = a0
        have hget : ∀ (i : Nat) (v : Value), vs[i]? = some v → a0.tmps.getD i undef = v := by
          intro i v hv
          have hlt : i < vs.length := (List.getElem?_eq_some_iff.1 hv).1
          rw [← ha0, Array.getD_eq_getD_getElem?]
          simp only
          rw [Array.getElem?_append_left (by simpa using hlt), List.getElem?_toArray, hv]
          rfl
        have hsize : a0.tmps.size = fn.ntmps := by
          rw [← ha0]
          simp
          omega
        obtain ⟨φ, hR⟩ := start_rel (a := a0) (par := par) hP hs (by rw [← ha0]) (fun i v hi => by
          simp only [par] at hi
          split at hi
          · exact hget i v hi
          · cases hi) hget
        cases hx : exec cx C cf.body s0 with
        | none => rw [hx] at h; simp [endK] at h
        | some r =>
          obtain ⟨e, st2⟩ := r
          rw [hx] at h
          refine sound_code hC hEq hm kp (no := twos 0 (cx.md g)) (fun t v ht => by
            simp only [par] at ht
            split at ht
            · rename_i h2
              have := twos_mem (i := 0) h2
              rwa [Nat.zero_add] at this
            · cases ht) c 0 cf.body f4 (by rw [hsize]; exact f7) hx hR ?_
          have fin : finish cx g cf.res cf.rts st2 = some (res, outs) → ∀ S' φ' a' W', Rel W O ⟨S, par⟩ S' φ' st2 a' W' → a'.tmps.size = a0.tmps.size → a'.defers = [] ∧ ∃ v, (results fn a'.tmps).run cx.P W' = .ok v W' ∧ ∃ rs S' O1 O2 hs, Ending.returned v = .returned (packV rs) ∧ PostR cx.P W S O (cx.md g) vs res outs rs W' S' O1 O2 hs := by
            intro hfin S' φ' a' W' hR' hsz
            obtain ⟨rs, k1, S1, O1, O2, hs1, k2⟩ := finish_rel hR' hvl (fun k v h1 h2 => hR'.par k v (by show (if (cx.md g)[k]? = some 2 then vs[k]? else none) = some v; rw [if_pos h1]; exact h2)) hfin
            rw [← f5] at k1
            exact ⟨hR'.dfr, _, results_run k1, rs, S1, O1, O2, hs1, rfl, k2⟩
          cases e with
          | nrm => exact fun S' φ' a' W' hR' hsz => fin h S' φ' a' W' hR' hsz
          | ret => exact fun S' φ' a' W' hR' hsz => fin h S' φ' a' W' hR' hsz
          | ex i => simp [endK] at h
    · cases h
theorem callOk_none : CallOk cx (fun _ _ => none) := fun g tvs res outs h => by cases h
theorem callOk_N (hEq : Facts cx) (hG : CallOk cx cx.giv) (hm : cx.P.follows .mixedOrders = true) (hF : ∀ f cf, cx.fns f = some cf → FnOk cx f cf) : ∀ n, CallOk cx (callN cx n)
  | 0 => callOk_none
  | n + 1 => fun g tvs res outs h => by
    simp only [callN] at h
    cases hg : cx.giv g tvs with
    | some x => rw [hg] at h; exact hG g tvs res outs (by rw [hg]; exact h)
    | none => rw [hg] at h; exact callOk_body (callOk_N hEq hG hm hF n) hEq hm hF g tvs res outs h
/-- THE READING IS SOUND. -/
theorem callOk (hEq : Facts cx) (hG : CallOk cx cx.giv) (hm : cx.P.follows .mixedOrders = true) (hF : ∀ f cf, cx.fns f = some cf → FnOk cx f cf) : CallOk cx (Cal cx) := by
  intro g tvs res outs h
  obtain ⟨n, hn⟩ := of_Cal h
  exact callOk_N hEq hG hm hF n g tvs res outs hn
end
end Go.Pi
