/- A call is sound, from the caller's side. Own work of this session. -/
import Derived.Test.YtpjdoblfdeioaaaQcaller
set_option linter.unusedVariables false
set_option linter.unusedSimpArgs false
namespace Go.Pi
section
variable {P : Program} {W0 W W' : World} {O0 O : List Nat} {S0 : Base} {S S' S2 Sc : Bool → Nat → Prop} {φ φ' : Nat → Option Nat} {st : St} {a : Act} {o : Oper} {K : Act → World → Prop} {Q : Exit → Act → World → Prop}
theorem TrC.one {p : PV} {v : Value} {gs : List Nat} (h : TrC P W S p v gs) : v.oneCell' = true := by
  cases h with
  | pl h => exact h.one
  | nil => rfl
  | own => rfl
theorem TrCs.ones {ps : List PV} {vs : List Value} {gs : List Nat} (h : TrCs P W S ps vs gs) : ∀ x ∈ vs, x.oneCell' = true := by
  induction h with
  | nil => exact fun x hx => by cases hx
  | cons h1 h2 ih => exact fun x hx => (List.mem_cons.1 hx).elim (fun e => e ▸ h1.one) (ih x)
theorem xfer_box {t : Nat} {p q : PV} {ups : Ups} {H : Heap} (h : (xfer P 2 t p).val H = some (q, ups)) : ∃ b ver T sz cells, p = .ad b ver 0 0 ∧ H b = some (.row ver T sz true [cells]) ∧ ∃ r, ups.map (·.1) = b :: r := by
  simp only [xfer] at h
  split at h
  · rename_i b ver
    obtain ⟨T, sz, box, rows, hb, hq⟩ := getRow_inv h
    clear h
    split at hq
    · rename_i cells
      rw [Rd.val_bind] at hq
      cases h1 : (giveCells P cells).val H with
      | none => simp [h1] at hq
      | some x =>
        simp only [h1, Option.bind_some, Rd.val, Option.some.injEq, Prod.mk.injEq] at hq
        obtain ⟨rfl, rfl⟩ := hq
        exact ⟨b, ver, T, sz, cells, rfl, hb, x.2.map (·.1), rfl⟩
    · simp [Rd.val] at hq
  · simp [Rd.val] at h
theorem mapM_lendC_live {H : Heap} {f : PV → Rd PV} (hf : ∀ p q, (f p).val H = some q → ∀ b ∈ keyOf p, ∃ v T sz box rows, H b = some (.row v T sz box rows)) : ∀ {ps qs : List PV}, (Rd.mapM f ps).val H = some qs → ∀ b ∈ ps.flatMap keyOf, ∃ v T sz box rows, H b = some (.row v T sz box rows)
  | [], _, _, b, hb => by simp at hb
  | p :: ps, qs, h, b, hb => by
    simp only [Rd.mapM, Rd.val_bind] at h
    cases h1 : (f p).val H with
    | none => simp [h1] at h
    | some q =>
      simp only [h1, Option.bind_some] at h
      cases h2 : (Rd.mapM f ps).val H with
      | none => simp [h2] at h
      | some r =>
        simp only [List.flatMap_cons, List.mem_append] at hb
        rcases hb with hb | hb
        · exact hf p q h1 b hb
        · exact mapM_lendC_live hf h2 b hb
theorem lendC_live {H : Heap} (p q : PV) (h : (lendC p).val H = some q) : ∀ b ∈ keyOf p, ∃ v T sz box rows, H b = some (.row v T sz box rows) := by
  intro b hb
  cases p <;> simp only [keyOf, List.mem_singleton, List.not_mem_nil] at hb
  · subst hb
    simp only [lendC] at h
    obtain ⟨T, sz, box, rows, hr, _⟩ := getRow_inv h
    exact ⟨_, T, sz, box, rows, hr⟩
  · simp [lendC, Rd.val] at h
  · simp [lendC, Rd.val] at h
theorem lendA_live {H : Heap} (p q : PV) (h : (lendA p).val H = some q) : ∀ b ∈ keyOf p, ∃ v T sz box rows, H b = some (.row v T sz box rows) := by
  intro b hb
  unfold lendA at h
  split at h
  · rename_i b' ver i j
    simp only [keyOf, List.mem_singleton] at hb
    subst hb
    obtain ⟨T, sz, box, rows, hr, _⟩ := getRow_inv h
    exact ⟨_, T, sz, box, rows, hr⟩
  · exact lendC_live p q h b hb
theorem lend_live {H : Heap} (p q : PV) (h : (lend p).val H = some q) : ∀ b ∈ keysIn p, ∃ v T sz box rows, H b = some (.row v T sz box rows) := by
  intro b hb
  unfold lend at h
  split at h
  · rename_i cs
    rw [Rd.val_bind] at h
    cases h1 : (Rd.mapM lendC cs).val H with
    | none => simp [h1] at h
    | some x => exact mapM_lendC_live lendC_live h1 b hb
  · rename_i f cs
    rw [Rd.val_bind] at h
    cases h1 : (Rd.mapM lendA cs).val H with
    | none => simp [h1] at h
    | some x => exact mapM_lendC_live lendA_live h1 b hb
  · rename_i h1 h2
    have hkk : keysIn p = keyOf p := by
      cases p with
      | ag cs => exact absurd rfl (h1 cs)
      | fn f cs => exact absurd rfl (h2 f cs)
      | _ => rfl
    rw [hkk] at hb
    exact lendA_live p q h b hb
theorem xfers_facts {H : Heap} : ∀ {ms ts : List Nat} {ps qs : List PV} {ups : Ups}, (xfers P ms ts ps).val H = some (qs, ups) → (boxKeys ms ps).Sublist (ups.map (·.1)) ∧ (∀ b ∈ boxKeys ms ps, ∃ v T sz cells, H b = some (.row v T sz true [cells])) ∧ (∀ b ∈ lentKeys ms ps, ∃ v T sz box rows, H b = some (.row v T sz box rows)) ∧
    ∀ (i : Nat) (p : PV), ms[i]? = some 2 → ps[i]? = some p → ∃ b ver T sz cells, p = .ad b ver 0 0 ∧ H b = some (.row ver T sz true [cells])
  | [], [], [], qs, ups, h => ⟨by simp [boxKeys], fun b hb => by simp [boxKeys] at hb, fun b hb => by simp [lentKeys] at hb, fun i p h => by simp at h⟩
  | [], [], _ :: _, _, _, h => by simp [xfers, Rd.val] at h
  | [], _ :: _, _, _, _, h => by simp [xfers, Rd.val] at h
  | _ :: _, [], _, _, _, h => by simp [xfers, Rd.val] at h
  | _ :: _, _ :: _, [], _, _, h => by simp [xfers, Rd.val] at h
  | m :: ms, t :: ts, p :: ps, qs, ups, h => by
    simp only [xfers, Rd.val_bind] at h
    cases h1 : (xfer P m t p).val H with
    | none => simp [h1] at h
    | some x =>
      simp only [h1, Option.bind_some] at h
      cases h2 : (xfers P ms ts ps).val H with
      | none => simp [h2] at h
      | some y =>
        simp only [h2, Option.bind_some, Rd.val, Option.some.injEq, Prod.mk.injEq] at h
        obtain ⟨rfl, rfl⟩ := h
        obtain ⟨i1, i2, i3, i4⟩ := xfers_facts h2
        refine ⟨?_, fun b hb => ?_, fun b hb => ?_, fun i q hm hq => ?_⟩
        · simp only [boxKeys]
          split
          · rename_i hm
            subst hm
            obtain ⟨b, ver, T, sz, cells, rfl, hb, r, hr⟩ := xfer_box h1
            rw [List.map_append, hr]
            simp only [keyOf, List.cons_append, List.nil_append]
            exact (i1.trans (List.sublist_append_right _ _)).cons_cons b
          · rw [List.map_append]
            exact i1.trans (List.sublist_append_right _ _)
        · simp only [boxKeys] at hb
          split at hb
          · rename_i hm
            subst hm
            obtain ⟨b', ver, T, sz, cells, rfl, hb', _⟩ := xfer_box h1
            simp only [keyOf, List.cons_append, List.nil_append, List.mem_cons] at hb
            rcases hb with rfl | hb
            · exact ⟨ver, T, sz, cells, hb'⟩
            · exact i2 b hb
          · exact i2 b hb
        · cases m with
          | zero =>
            simp only [lentKeys, List.mem_append] at hb
            rcases hb with hb | hb
            · simp only [xfer, Rd.val_bind] at h1
              cases h3 : (lend p).val H with
              | none => simp [h3] at h1
              | some q => exact lend_live p q h3 b hb
            · exact i3 b hb
          | succ m => exact i3 b (by simpa only [lentKeys] using hb)
        · cases i with
          | zero =>
            simp only [List.getElem?_cons_zero, Option.some.injEq] at hm hq
            subst hm; subst hq
            obtain ⟨b', ver, T, sz, cells, rfl, hb', _⟩ := xfer_box h1
            exact ⟨b', ver, T, sz, cells, rfl, hb'⟩
          | succ i => exact i4 i q hm hq
theorem outs_boxes {H0 : Heap} : ∀ {ms : List Nat} {ps os : List PV} {ups : Ups} {vs : List Value} {hs gs : List Nat}, TrOuts P W S ms vs os hs gs → (backs P ms ps os).val H0 = some ups →
    (∀ (i : Nat) (b ver : Nat) (v : Value), ms[i]? = some 2 → ps[i]? = some (.ad b ver 0 0) → vs[i]? = some v → ∃ g, φ b = some g ∧ v = .pointer (some ⟨g, 0, none⟩)) →
    ∀ b ∈ boxKeys ms ps, ∃ ver T sz olds g xs, H0 b = some (.row ver T sz true [olds]) ∧ φ b = some g ∧ g ∈ hs ∧ W.heap[g]? = some (.cells xs T (0, 0)) ∧ xs.size = olds.length ∧ ∀ x ∈ xs.toList, x.oneCell' = true
  | [], _, _, _, _, _, _, _, _, _, b, hb => by cases hb
  | _ :: _, [], _, _, _, _, _, _, _, _, b, hb => by cases hb
  | m :: ms, p :: ps, os, ups, vs, hs, gs, ht, h, hp, b', hb' => by
    unfold backs at h
    split at h
    · rename_i hm
      subst hm
      split at h
      · rename_i o os
        rw [Rd.val_bind] at h
        cases h1 : (backBox P p o).val H0 with
        | none => simp [h1] at h
        | some x =>
          simp only [h1, Option.bind_some, Rd.val_bind] at h
          cases h2 : (backs P ms ps os).val H0 with
          | none => simp [h2] at h
          | some y =>
            obtain ⟨b, ver, T, sz, olds, cells, z, rfl, rfl, hH0, hlen, hin, rfl⟩ := backBox_inv h1
            cases ht with
            | skip hne _ => exact absurd rfl hne
            | two t0 t1 t2 =>
              simp only [boxKeys, if_true, keyOf, List.cons_append, List.nil_append, List.mem_cons] at hb'
              rcases hb' with rfl | hb'
              · obtain ⟨g', hg', hv⟩ := hp 0 b' ver _ rfl rfl rfl
                simp only [Value.pointer.injEq, Option.some.injEq, Addr.mk.injEq, and_true] at hv
                subst hv
                exact ⟨ver, T, sz, olds, _, _, hH0, hg', List.mem_cons_self, t0, by rw [← hlen, ← t1.length]; rfl, t1.ones⟩
              · obtain ⟨ver', T', sz', olds', g', xs', k1, k2, k3, k4⟩ := outs_boxes t2 h2 (fun i b'' ver'' v'' h1' h2' h3' => hp (i + 1) b'' ver'' v'' h1' h2' h3') b' hb'
                exact ⟨ver', T', sz', olds', g', xs', k1, k2, List.mem_cons_of_mem _ k3, k4⟩
      · simp [Rd.val] at h
    · rename_i hm
      cases ht with
      | two _ _ _ => exact absurd rfl hm
      | skip hne t =>
        simp only [boxKeys, if_neg hm] at hb'
        exact outs_boxes t h (fun i b'' ver'' v'' h1' h2' h3' => hp (i + 1) b'' ver'' v'' h1' h2' h3') b' hb'
theorem updH_kills {H : Heap} : ∀ {ups : Ups}, Kills H ups → (ups.map (·.1)).Nodup → ∀ b ∈ ups.map (·.1), ∀ blk, H b = some blk → updH H ups b = some (.dead (blk.ver + 1)) := by
  intro ups hk hn b hb blk hbl
  have gen : ∀ (l : Ups) (H1 : Heap), (l.map (·.1)).Nodup → b ∈ l.map (·.1) → (∀ x ∈ l, x.1 = b → x.2 = .dead (blk.ver + 1)) → updH H1 l b = some (.dead (blk.ver + 1)) := by
    intro l
    induction l with
    | nil => intro H1 _ hm; simp at hm
    | cons x l ih =>
      intro H1 hn hm hx
      obtain ⟨k, bb⟩ := x
      simp only [List.map_cons, List.nodup_cons] at hn
      simp only [updH]
      by_cases hkb : k = b
      · subst hkb
        rw [updH_not _ _ _ hn.1]
        have := hx (k, bb) List.mem_cons_self rfl
        simp only at this
        simp [upd, this]
      · refine ih _ hn.2 ?_ (fun y hy => hx y (List.mem_cons_of_mem _ hy))
        simp only [List.map_cons, List.mem_cons] at hm
        exact hm.resolve_left (fun e => hkb e.symm)
  refine gen ups H hn hb (fun x hx e => ?_)
  obtain ⟨v, T, sz, box, rows, hr, he⟩ := hk x.1 x.2 hx
  rw [e, hbl] at hr
  cases hr
  exact he
theorem call_run {cx : Cx} {c : Call} (ho : o.op = .call c) {y : Operand} (hcal : c.callee = .value y) {g : Nat} {xs : List Value} (hy : a.eval y = .func (.func g) #[] xs.toArray) (hE : Enters cx.P g) :
    (execOp a.eval o).run cx.P W = .ok (.enter g (c.args.toList.map a.eval ++ xs).toArray) W := by
  obtain ⟨fn, h1, h2, h3⟩ := hE
  have e : (#[] ++ c.args.map a.eval) ++ xs.toArray = (c.args.toList.map a.eval ++ xs).toArray := by
    apply Array.ext'
    simp
  simp only [execOp, ho, resolve, hcal, hy, Deferred.ofValue, Sem.run_bind, Sem.run_pure, Result.andThen_ok, invoke, callFunc, run_program, h1, h2, h3, Bool.false_eq_true, if_false, e]
theorem mid_cur {H : Heap} {K B : List Nat} : Cur H (mid H K B) [] := by
  intro k _ blk hb
  unfold mid at hb
  split at hb
  · cases hk : H k with
    | none => rw [hk] at hb; cases hb
    | some x =>
      rw [hk] at hb
      cases x with
      | row v T sz box rows => cases hb; exact ⟨_, rfl, Nat.le_succ _⟩
      | dead v => cases hb; exact ⟨_, rfl, Nat.le_succ _⟩
      | mp v ks => cases hb; exact ⟨_, rfl, Nat.le_succ _⟩
  · split at hb
    · cases hk : H k with
      | none => rw [hk] at hb; cases hb
      | some x => rw [hk] at hb; cases hb; exact ⟨_, rfl, Nat.le_refl _⟩
    · exact ⟨_, hb, Nat.le_succ _⟩
theorem mid_congr {H : Heap} {ups : Ups} {B : List Nat} (hk : Kills H ups) (hn : (ups.map (·.1)).Nodup) : ∀ k, k ∉ B → mid H (ups.map (·.1)) B k = updH H ups k := by
  intro k hkB
  unfold mid
  rw [if_neg hkB]
  split
  · rename_i hm
    obtain ⟨x, hx, rfl⟩ := List.mem_map.1 hm
    obtain ⟨v, T, sz, box, rows, hr, _⟩ := hk x.1 x.2 hx
    rw [hr]
    exact (updH_kills hk hn x.1 hm _ hr).symm
  · rename_i hm
    exact (updH_not H k ups hm).symm
theorem sound_call {cx : Cx} {C : CallF} (hC : CallOk cx C) (hR : Rel W0 O0 S0 S φ st a W) (hd : Bd S0 a o) {c : Call} (ho : o.op = .call c) {y : Operand} (hcal : c.callee = .value y) {g : Nat} {caps : List PV} (ey : st.ev y = .fn g caps) {ts : List Nat} {v : PV × Ups}
    (h : (callEff cx.P cx.md C o.dst g ts (c.args.toList.map st.ev ++ caps)).val st.hp = some v) (hK : Goes W0 O0 S0 a.tmps.size (st.put o.dst v.1 v.2) K) : o.wp cx.P a W K Q := by
  have hy := hR.ev y
  rw [ey] at hy
  obtain ⟨xs, hyv, hxs⟩ := hy
  generalize hps : c.args.toList.map st.ev ++ caps = ps at h
  generalize hvs : c.args.toList.map a.eval ++ xs = vs
  have hlen : vs.length = ps.length := by rw [← hps, ← hvs, List.length_append, List.length_append, hxs.1, List.length_map, List.length_map]
  have hrel : ∀ (i : Nat) (p : PV) (x : Value), ps[i]? = some p → vs[i]? = some x → RelV W S φ st.hp p x := by
    intro i p x hp hx
    rw [← hps, List.getElem?_append, List.length_map] at hp
    rw [← hvs, List.getElem?_append, List.length_map] at hx
    split at hp
    · rename_i hlt
      rw [if_pos hlt] at hx
      exact evals hR rfl i p x hp hx
    · rename_i hlt
      rw [if_neg hlt] at hx
      exact RelV_of_RelC (hxs.2 _ p x hp hx)
  unfold callEff at h
  rw [Rd.val_bind] at h
  cases hx : (xfers cx.P (cx.md g) ts ps).val st.hp with
  | none => simp [hx] at h
  | some x =>
    simp only [hx, Option.bind_some] at h
    split at h
    · rename_i hcond
      obtain ⟨hnd, hdj⟩ := hcond
      rw [keysNodup_iff] at hnd
      rw [disj_iff] at hdj
      cases hres : C g x.1 with
      | none => rw [hres] at h; simp [callK, Rd.val] at h
      | some ro =>
        obtain ⟨res, outs⟩ := ro
        rw [hres] at h
        simp only [callK] at h
        split at h
        · rename_i hlent
          rw [Rd.val_bind] at h
          cases hbk : (backs cx.P (cx.md g) ps outs).val st.hp with
          | none => simp [hbk] at h
          | some ub =>
            simp only [hbk, Option.bind_some] at h
            split at h
            · rename_i hubn
              rw [keysNodup_iff] at hubn
              obtain ⟨f1, f2, f3, f4⟩ := xfers_facts hx
              let Sc : Bool → Nat → Prop := fun ln k => S ln k ∨ (ln = true ∧ ∃ b ∈ lentKeys (cx.md g) ps, φ b = some k)
              obtain ⟨tr, hkills⟩ := xfers_rel (Sc := Sc) hR (fun _ _ h => .inl h) hx hlen hrel (fun b hb g hg => .inr ⟨rfl, b, hb, hg⟩)
              have hKrow : ∀ b ∈ x.2.map (·.1), ∃ v T sz box rows, st.hp b = some (.row v T sz box rows) := fun b hb => by
                obtain ⟨z, hz, rfl⟩ := List.mem_map.1 hb
                obtain ⟨v, T, sz, box, rows, hr, _⟩ := hkills z.1 z.2 hz
                exact ⟨v, T, sz, box, rows, hr⟩
              have hO : ∀ k ∈ blocksOf φ x.2, ∃ b ∈ x.2.map (·.1), φ b = some k := fun k hk => blocksOf_mem.1 hk
              have hOown : ∀ k ∈ blocksOf φ x.2, ¬ S true k ∧ (k ∈ O0 ∨ W0.heap.size ≤ k) ∧ k < W.heap.size := fun k hk => by
                obtain ⟨b, hb, hg⟩ := hO k hk
                obtain ⟨v, T, sz, box, rows, hr⟩ := hKrow b hb
                exact ⟨(hR.own b _ _ _ _ _ k hr hg).1, (hR.own b _ _ _ _ _ k hr hg).2, hR.sz hr hg⟩
              have pre : Pre cx.P W Sc (blocksOf φ x.2) x.1 vs := by
                refine ⟨tr, blocksOf_nodup hR hkills hnd, fun k hk hs => ?_, fun k hs => ?_, fun k hs => ?_, fun k hk => (hOown k hk).2.2⟩
                · rcases hs with hs | ⟨_, b', hb', hg'⟩
                  · exact (hOown k hk).1 hs
                  · obtain ⟨b, hb, hg⟩ := hO k hk
                    obtain ⟨_, _, _, _, _, hr⟩ := hKrow b hb
                    obtain ⟨_, _, _, _, _, hr'⟩ := f3 b' hb'
                    have := hR.inj b' b _ _ _ _ _ _ _ _ _ _ k hr' hr hg' hg
                    subst this
                    exact hdj b' hb' hb
                · rcases hs with hs | ⟨hf, _⟩
                  · exact .inl (hR.sle k hs)
                  · cases hf
                · rcases hs with hs | ⟨_, b', hb', hg'⟩
                  · exact hR.slt k hs
                  · obtain ⟨_, _, _, _, _, hr'⟩ := f3 b' hb'
                    exact hR.sz hr' hg'
              obtain ⟨hE, hcalls⟩ := hC g x.1 res outs hres
              have hrun := call_run (W := W) (a := a) (o := o) (cx := cx) ho hcal hyv hE
              rw [hvs] at hrun
              unfold Oper.wp
              rw [hrun, Oper.upon_enter]
              refine Calls.mono (hcalls W Sc (blocksOf φ x.2) vs pre) (fun e W' hpost => ?_)
              obtain ⟨rs, S1, O1, O2, hs, rfl, post⟩ := hpost
              show K (a.put o.dst (packV rs)) W'
              let S2 : Bool → Nat → Prop := fun ln k => if ln = true then S true k ∨ S1 false k else S1 false k
              have hS12 : ∀ k, S1 false k → S2 false k := fun k hk => by simpa [S2] using hk
              have hempty : (lentKeys (cx.md g) ps).isEmpty = true → ∀ ln k, S1 ln k → S2 ln k := by
                intro hem ln k hk
                cases ln with
                | false => exact hS12 k hk
                | true =>
                  have hnil : lentKeys (cx.md g) ps = [] := by simpa using hem
                  rcases post.s1 k hk with hq | hq
                  · rcases hq with hq | ⟨_, b, hb, _⟩
                    · simp only [S2, if_true]; exact .inl hq
                    · rw [hnil] at hb; cases hb
                  · simp only [S2, if_true]; exact .inr hq
              have hresT : TrAs cx.P W' S2 res rs O1 := by
                rcases hlent with hem | ⟨hl1, _⟩
                · exact post.res.mono (hempty hem) (fun _ _ _ => rfl) (fun _ _ => rfl)
                · exact post.res.unlend hS12 hl1
              have houtT : TrOuts cx.P W' S2 (cx.md g) vs outs hs O2 := by
                rcases hlent with hem | ⟨_, hl2⟩
                · exact post.outs.mono (hempty hem)
                · exact post.outs.unlend hS12 hl2
              have hptr : ∀ (i : Nat) (b ver : Nat) (v : Value), (cx.md g)[i]? = some 2 → ps[i]? = some (.ad b ver 0 0) → vs[i]? = some v → ∃ g, φ b = some g ∧ v = .pointer (some ⟨g, 0, none⟩) := by
                intro i b ver v hm hp hv
                obtain ⟨b', ver', T, sz, cells, e, hb⟩ := f4 i _ hm hp
                cases e
                obtain ⟨g', hg', hv'⟩ := ad_inv (W := W) (S := S) (hrel i _ v hp hv) hb
                exact ⟨g', hg', by simpa using hv'⟩
              have hboxes := outs_boxes houtT hbk hptr
              have hS2own : ∀ k ∈ O1 ++ (O2 ++ hs), ¬ S2 true k := by
                intro k hk hs2
                have := (post.own k hk).1
                simp only [S2, if_true] at hs2
                rcases hs2 with q | q
                · exact this (post.sS true k (.inl q))
                · exact this (post.sle k q)
              have hBsize : ∀ b v T sz cells, st.hp b = some (.row v T sz true [cells]) → cells.length = sz := by
                intro b v T sz cells hb
                have hB := hR.blk b _ hb
                simp only [BlkR] at hB
                cases hg : φ b with
                | none => simp only [hg] at hB; exact absurd hB.2 (by simp)
                | some g' => simp only [hg] at hB; obtain ⟨cs, _, q, _⟩ := hB; exact q cells (by simp)
              obtain ⟨r1, e1⟩ := hR.mid (W' := W') (O := blocksOf φ x.2) (S2 := S2) (K := x.2.map (·.1)) (B := boxKeys (cx.md g) ps) (fun b hb => ⟨f1.subset hb, f2 b hb⟩) hKrow post.keep hO
                (fun b hb k v T sz cells hr hg => by
                  obtain ⟨ver', T', sz', olds, g', xs', k1, k2, k3, k4, k5, k6⟩ := hboxes b hb
                  rw [hr] at k1
                  cases k1
                  rw [hg] at k2
                  cases k2
                  exact ⟨hS2own _ (List.mem_append_right _ (List.mem_append_right _ k3)), xs', k4, by rw [k5]; exact hBsize b _ _ _ _ hr, k6⟩)
                (fun ln k hs => by
                  cases ln with
                  | false => exact hS12 k (post.sS false k (.inl hs))
                  | true => simp only [S2, if_true]; exact .inl hs)
                (fun k hs => by
                  simp only [S2, if_true] at hs
                  rcases hs with q | q
                  · exact .inl q
                  · exact .inr (hS12 k q))
                (fun k hs => by
                  have hs' : S1 false k := by simpa [S2] using hs
                  rcases post.s2 k hs' with q | q
                  · rcases q with q | ⟨hf, _⟩
                    · exact .inl q
                    · cases hf
                  · exact .inr q)
                (fun k hs => by
                  have hs' : S1 false k := by simpa [S2] using hs
                  simp only [S2, if_true]; exact .inr hs')
                (fun k hs => by
                  simp only [S2, if_true] at hs
                  rcases hs with q | q
                  · exact Nat.lt_of_lt_of_le (hR.slt k q) post.keep.size
                  · exact post.slt k (post.sle k q))
              have hndO := post.nodup
              rw [List.nodup_append] at hndO
              obtain ⟨n1, n2, n3⟩ := hndO
              rw [List.nodup_append] at n2
              have hfree0 : ∀ k ∈ O1 ++ O2, ¬ Live φ (mid st.hp (x.2.map (·.1)) (boxKeys (cx.md g) ps)) k ∧ ¬ S2 true k ∧ (k ∈ O0 ∨ W0.heap.size ≤ k) := by
                intro k hk
                have hkh : k ∉ hs := fun hm => by
                  rcases List.mem_append.1 hk with q | q
                  · exact n3 k q k (List.mem_append_right _ hm) rfl
                  · exact n2.2.2 k q k hm rfl
                have hk' : k ∈ O1 ++ (O2 ++ hs) := by
                  rcases List.mem_append.1 hk with q | q
                  · exact List.mem_append_left _ q
                  · exact List.mem_append_right _ (List.mem_append_left _ q)
                have hwhere := (post.own k hk').2
                refine ⟨fun hl => ?_, hS2own k hk', ?_⟩
                · rcases hl with ⟨b, v', T', sz', box', rows', hb, hg⟩ | ⟨b, v', ks, hb, hg⟩
                  rotate_left
                  · unfold mid at hb
                    split at hb
                    · rename_i hbB
                      obtain ⟨_, _, _, _, hr'⟩ := f2 b hbB
                      rw [hr'] at hb; cases hb
                    · split at hb
                      · split at hb <;> cases hb
                      · rcases hwhere with q | q
                        · obtain ⟨b', hb', hg'⟩ := hO k q
                          obtain ⟨_, _, _, _, _, hr'⟩ := hKrow b' hb'
                          exact hR.rowmp hr' hg' hb hg
                        · exact absurd (hR.mz hb hg) (Nat.not_lt_of_le q)
                  unfold mid at hb
                  split at hb
                  · rename_i hbB
                    obtain ⟨_, _, _, _, g', _, _, k2, k3, _⟩ := hboxes b hbB
                    rw [hg] at k2
                    cases k2
                    exact hkh k3
                  · split at hb
                    · split at hb <;> cases hb
                    · rename_i hbK
                      rcases hwhere with q | q
                      · obtain ⟨b', hb', hg'⟩ := hO k q
                        obtain ⟨_, _, _, _, _, hr'⟩ := hKrow b' hb'
                        have := hR.inj b' b _ _ _ _ _ _ _ _ _ _ k hr' hb hg' hg
                        exact hbK (this ▸ hb')
                      · exact absurd (hR.sz hb hg) (Nat.not_lt_of_le q)
                · rcases hwhere with q | q
                  · exact (hOown k q).2.1
                  · exact .inr (Nat.le_trans hR.keep.size q)
              obtain ⟨φ2, r2, e2, u2, l2, m2⟩ := backs_rel (H0 := st.hp) (D := []) r1 houtT n2.1 (fun k hk => hfree0 k (List.mem_append_right _ hk))
                (fun b ver T sz olds hb hr => ⟨hBsize b _ _ _ _ hr, List.replicate sz .u, by simp [mid, hb, hr]⟩) (f1.nodup hnd) hptr mid_cur hbk hubn (fun k _ hm => by cases hm)
              have hfree1 : Free φ2 (updH (mid st.hp (x.2.map (·.1)) (boxKeys (cx.md g) ps)) ub) S2 W0 O0 O1 := fun k hk => ⟨fun hl => by
                  rcases l2 k hl with q | q
                  · exact (hfree0 k (List.mem_append_left _ hk)).1 q
                  · exact n3 k hk k (List.mem_append_left _ q) rfl, (hfree0 k (List.mem_append_left _ hk)).2⟩
              have hHeap : ∀ y : Ups, updH st.hp (x.2 ++ ub ++ y) = updH (updH (mid st.hp (x.2.map (·.1)) (boxKeys (cx.md g) ps)) ub) y := by
                intro y
                rw [updH_append, updH_append]
                congr 1
                exact (updH_congr (B := boxKeys (cx.md g) ps) (mid_congr hkills hnd) (backs_keys hbk)).symm
              unfold recvK at h
              split at h
              · rename_i d r hdst
                rw [Rd.val_bind] at h
                cases hrv : (recv cx.P d r).val st.hp with
                | none => simp [hrv] at h
                | some z =>
                  simp only [hrv, Option.bind_some] at h
                  split at h
                  · rename_i hcz
                    simp only [Rd.val, Option.some.injEq] at h
                    subst h
                    rw [keysNodup_iff, disj_iff] at hcz
                    cases hresT with
                    | cons t1 t2 =>
                      cases t2
                      rename_i rv g1
                      rw [List.append_nil] at hfree1 n1
                      obtain ⟨φ3, r3, e3, c3, _⟩ := recv_rel (H0 := st.hp) (D := ub.map (·.1)) r2 t1 n1 hfree1 (by simpa using u2) hrv hcz.2 (fun k hk hm => hcz.1 k hk (by rw [List.map_append]; exact List.mem_append_right _ hm))
                      refine hK S2 φ3 _ _ ?_ (put_size _ _ _)
                      rw [put_hps, hHeap]
                      exact r3.slot hd (fun _ => RelV_of_RelA c3)
                  · simp [Rd.val] at h
              · rename_i res _ _ d hdst hne
                rw [Rd.val_bind] at h
                cases hrv : (recvL cx.P (rkeys d 0 res) res).val st.hp with
                | none => simp [hrv] at h
                | some z =>
                  simp only [hrv, Option.bind_some] at h
                  split at h
                  · rename_i hcz
                    simp only [Rd.val, Option.some.injEq] at h
                    subst h
                    rw [keysNodup_iff, disj_iff] at hcz
                    obtain ⟨φ3, r3, e3, c3, c4⟩ := recvL_rel (H0 := st.hp) (D := ub.map (·.1)) r2 hresT n1 hfree1 (by simpa using u2) hrv hcz.2 (fun k hk hm => hcz.1 k hk (by rw [List.map_append]; exact List.mem_append_right _ hm))
                    have hpk : packV rs = .tuple rs.toArray := by
                      have hl := hresT.length
                      match rs, hl with
                      | [], _ => rfl
                      | [w], hl =>
                        match res, hl, hne with
                        | [r], _, hne => exact absurd rfl (hne r)
                      | _ :: _ :: _, _ => rfl
                    rw [hpk]
                    refine hK S2 φ3 _ _ ?_ (put_size _ _ _)
                    rw [put_hps, hHeap]
                    exact r3.slot hd (fun _ => ⟨rs, rfl, c3, c4⟩)
                  · simp [Rd.val] at h
              · simp [Rd.val] at h
            · simp [Rd.val] at h
        · simp [Rd.val] at h
    · simp [Rd.val] at h
end
end Go.Pi
