/- A sort: one effect. Own work of this session. -/
import Derived.Test.YtpjdoblfdeioaaaQcaller2
set_option linter.unusedVariables false
set_option linter.unusedSimpArgs false
namespace Go.Pi
/-- What a sorting function of the library does to the rows. -/
structure SortOk (P : Program) (sf : Nat) (F : SortF) : Prop where
  enters : Enters P sf
  empty : ∀ (f : Nat) (W : World) (vs : List Value) (A : Option Addr) (cap : Nat), Calls P sf #[.slice A 0 cap, .func (.func f) #[] vs.toArray] W fun e W' => e = .returned (.tuple #[]) ∧ Keep W W' (fun _ => False)
  perm : ∀ f ps T rows rows', F f ps T rows = some rows' → rows'.Perm rows
  calls : ∀ f ps T rows rows', F f ps T rows = some rows' → rows ≠ [] → ∀ (W : World) (S : Bool → Nat → Prop) (vs : List Value) (g cap : Nat) (cs : Array Value), RelCs W S noφ noH ps vs → (∀ k, S false k → S true k) → (∀ k, S true k → k < W.heap.size) →
    ¬ S true g → W.heap[g]? = some (.cells cs T (0, 0)) → (∀ r ∈ rows, r.length = szOf P T) → rows.length ≤ cap → cap ≤ maxI → cap * szOf P T = cs.size → (∀ i r j x, rows[i]? = some r → r[j]? = some (.s x) → cs[i * szOf P T + j]? = some x ∧ x.oneCell' = true) → (∀ r ∈ rows, ∀ p ∈ r, p.plain = true) →
    Calls P sf #[.slice (some ⟨g, 0, none⟩) rows.length cap, .func (.func f) #[] vs.toArray] W fun e W' => e = .returned (.tuple #[]) ∧ Keep W W' (fun k => k = g) ∧ ∃ cs', W'.heap[g]? = some (.cells cs' T (0, 0)) ∧ cs'.size = cs.size ∧ (∀ i, rows.length * szOf P T ≤ i → cs'[i]? = cs[i]?) ∧ ∀ i r j x, rows'[i]? = some r → r[j]? = some (.s x) → cs'[i * szOf P T + j]? = some x
structure Facts (cx : Cx) : Prop where
  eq : EqFact cx.P cx.eqT
  srt : ∀ g F, cx.srt g = some F → SortOk cx.P g F
section
variable {P : Program} {W0 W W' : World} {O0 O : List Nat} {S0 : Base} {S S' S2 Sc : Bool → Nat → Prop} {φ φ' : Nat → Option Nat} {st : St} {a : Act} {o : Oper} {K : Act → World → Prop} {Q : Exit → Act → World → Prop}
theorem sound_indexA (hR : Rel W0 O0 S0 S φ st a W) (hd : Bd S0 a o) {t : Nat} {y z : Operand} (ho : o.op = .index t y z) {cs : List PV} {i : Int} (e1 : st.ev y = .ag cs) (e2 : idxV (st.ev z) = some i) {v : PV} (h : ixA P t cs i = some v)
    (hK : Goes W0 O0 S0 a.tmps.size (st.put o.dst v []) K) : o.wp P a W K Q := by
  have hy := hR.ev y
  rw [e1] at hy
  obtain ⟨xs, hyv, hl, hx⟩ := hy
  have hz := hR.ev z
  obtain ⟨k, e0⟩ := idxV_inv e2
  rw [e0] at hz
  unfold ixA at h
  split at h
  · rename_i n e ha
    split at h
    · rename_i hc
      obtain ⟨c1, c2, c3, c4⟩ := hc
      obtain ⟨hu, h0⟩ := okT_inv c1
      obtain ⟨td, htd⟩ := Option.isSome_iff_exists.1 hu
      have hsz := szOf_run (P := P) (W := W) (t := e) rfl h0
      have hag := isAgg_run (P := P) (W := W) e td htd
      generalize hoff : i.toNat * szOf P e = off at h c4
      have hx' : ∀ (j : Nat) (p : PV) (w : Value), ((cs.drop off).take (szOf P e))[j]? = some p → ((xs.drop off).take (szOf P e))[j]? = some w → RelC W S φ st.hp p w := by
        intro j p w hp hw
        rw [List.getElem?_take] at hp hw
        split at hp
        · rename_i hj
          rw [if_pos hj] at hw
          rw [List.getElem?_drop] at hp hw
          exact hx _ p w hp hw
        · cases hp
      have hlen : ((xs.drop off).take (szOf P e)).length = szOf P e := by
        have c5 := c4
        rw [List.length_take, List.length_drop] at c5 ⊢
        rw [hl]
        exact c5
      have hrun : ∀ (r : Value), (part e xs.toArray off).run P W = .ok r W → (execOp a.eval o).run P W = .ok (.value r) W := by
        intro r hr
        simp only [execOp, ho, hyv, int_inv hz, Instr.index, asIntOf, Sem.run_bind, Sem.run_pure, run_underlying (arT_inv ha), Result.andThen_ok, if_pos (And.intro c2 c3), hsz, hoff, hr]
      cases hg : aggT P e with
      | true =>
        rw [if_pos hg] at h
        cases h
        refine plain hR hd (x := .agg ((xs.drop off).take (szOf P e)).toArray) (p := .ag ((cs.drop off).take (szOf P e))) (hrun _ ?_) ⟨_, rfl, by rw [hlen, c4], hx'⟩ hK
        rw [hg] at hag
        simp only [part, Sem.run_bind, hag, Result.andThen_ok, if_true, hsz, Sem.run_pure]
        congr 2
        apply Array.ext'
        simp [List.take_drop, Nat.add_comm]
      | false =>
        rw [if_neg (by simp [hg])] at h
        split at h
        · rename_i c hcc
          cases h
          have h1 : szOf P e = 1 := by rw [← c4, hcc]; rfl
          obtain ⟨w, hw⟩ : ∃ w, (xs.drop off).take (szOf P e) = [w] := List.length_eq_one_iff.1 (by rw [hlen, h1])
          have hr := hx' 0 v w (by rw [hcc]; rfl) (by rw [hw]; rfl)
          have hget : xs[off]? = some w := by
            have := congrArg (fun l => l[0]?) hw
            simp only [List.getElem?_take, List.getElem?_drop, h1, Nat.zero_lt_one, if_true, Nat.add_zero, List.getElem?_cons_zero] at this
            exact this
          refine plain hR hd (x := w) (p := v) (hrun _ ?_) (RelV_of_RelC hr) hK
          rw [hg] at hag
          simp only [part, Sem.run_bind, hag, Result.andThen_ok, Bool.false_eq_true, if_false, List.getElem?_toArray, hget, Sem.run_pure]
        · cases h
    · cases h
  · cases h
theorem plain_inv {p : PV} (h : p.plain = true) : ∃ v, p = .s v := by
  cases p with
  | s v => exact ⟨v, rfl⟩
  | _ => cases h
theorem sound_sort {cx : Cx} {F : SortF} {g : Nat} (hF : SortOk cx.P g F) (hR : Rel W0 O0 S0 S φ st a W) (hd : Bd S0 a o) {c : Call} (ho : o.op = .call c) {y : Operand} (hcal : c.callee = .value y) {caps : List PV} (ey : st.ev y = .fn g caps) {v : PV × Ups}
    (h : (sortEff cx.P F (c.args.toList.map st.ev ++ caps)).val st.hp = some v) (hK : Goes W0 O0 S0 a.tmps.size (st.put o.dst v.1 v.2) K) : o.wp cx.P a W K Q := by
  have hy := hR.ev y
  rw [ey] at hy
  obtain ⟨xs, hyv, hxs⟩ := hy
  have hrun := call_run (W := W) (a := a) (o := o) (cx := cx) ho hcal hyv hF.enters
  have hrel : ∀ (i : Nat) (p : PV) (x : Value), (c.args.toList.map st.ev ++ caps)[i]? = some p → (c.args.toList.map a.eval ++ xs)[i]? = some x → RelV W S φ st.hp p x := by
    intro i p x hp hx
    rw [List.getElem?_append, List.length_map] at hp
    rw [List.getElem?_append, List.length_map] at hx
    split at hp
    · rename_i hlt
      rw [if_pos hlt] at hx
      exact evals hR rfl i p x hp hx
    · rename_i hlt
      rw [if_neg hlt] at hx
      exact RelV_of_RelC (hxs.2 _ p x hp hx)
  have hlen : (c.args.toList.map a.eval ++ xs).length = (c.args.toList.map st.ev ++ caps).length := by rw [List.length_append, List.length_append, hxs.1, List.length_map, List.length_map]
  generalize c.args.toList.map st.ev ++ caps = ps at h hrel hlen
  generalize c.args.toList.map a.eval ++ xs = vs at hrun hrel hlen
  unfold sortEff at h
  split at h
  · rename_i b ver len f cs
    obtain ⟨v0, v1, rfl⟩ : ∃ v0 v1, vs = [v0, v1] := by
      match vs, hlen with
      | [v0, v1], _ => exact ⟨v0, v1, rfl⟩
    have r0 := hrel 0 _ v0 rfl rfl
    obtain ⟨ys, hv1, hys⟩ : RelA W S φ st.hp (.fn f cs) v1 := hrel 1 _ v1 rfl rfl
    subst hv1
    rw [Rd.val_bind] at h
    cases hm : (Rd.mapM lendA cs).val st.hp with
    | none => simp [hm] at h
    | some qs =>
      simp only [hm, Option.bind_some] at h
      split at h
      · simp [Rd.val] at h
      · rename_i hb0
        obtain ⟨T, sz, box, rows, hb, hq⟩ := getRow_inv h
        clear h
        unfold sortRow at hq
        split at hq
        · rename_i hc
          obtain ⟨rfl, hle, rfl, hpl⟩ := hc
          cases hF' : F f qs T (rows.take len) with
          | none => simp [hF', Rd.val] at hq
          | some r =>
            simp only [hF', Rd.val, Option.some.injEq] at hq
            subst hq
            have hperm := hF.perm _ _ _ _ _ hF'
            have hh := sl_inv (S := S) r0 hb
            have hB := hR.blk b _ hb
            have hrl : r.length = len := by rw [hperm.length_eq]; simp; omega
            have hplain : ∀ q ∈ rows.take len, ∀ p ∈ q, p.plain = true := by
              rw [List.all_eq_true] at hpl
              intro q hq p hp
              have := hpl q hq
              rw [List.all_eq_true] at this
              exact this p hp
            have htu : ∀ {W2 : World} {φ2 : Nat → Option Nat} {H2 : Heap} {S3 : Bool → Nat → Prop}, RelV W2 S3 φ2 H2 (.tu []) (.tuple #[]) := ⟨[], rfl, rfl, fun i p x hp => by simp at hp⟩
            by_cases hl0 : len = 0
            · subst hl0
              have hr0 : r = [] := List.eq_nil_of_length_eq_zero hrl
              subst hr0
              have : ∃ A cap, v0 = .slice A 0 cap := by
                simp only [Hdr] at hh
                cases hg : φ b with
                | none => simp only [hg] at hh; obtain ⟨_, _, _, A, hv⟩ := hh; exact ⟨A, 0, hv⟩
                | some g => simp only [hg] at hh; obtain ⟨A, cap, cs, hv, _⟩ := hh; exact ⟨A, cap, hv⟩
              obtain ⟨A, cap, rfl⟩ := this
              unfold Oper.wp
              rw [hrun, Oper.upon_enter]
              refine Calls.mono (hF.empty f W ys A cap) (fun e W' hpost => ?_)
              obtain ⟨rfl, hk⟩ := hpost
              show K (a.put o.dst (.tuple #[])) W'
              obtain ⟨r1, e1⟩ := hR.world hk (fun k hk => hk.elim)
              have e : st.put o.dst (.tu []) [(b, Blk.row ver T (szOf cx.P T) false ([] ++ rows.drop 0))] = st.put o.dst (.tu []) [] := by
                simp only [List.nil_append, List.drop_zero, St.put, updH]
                congr 1
                exact upd_self hb
              simp only [e] at hK
              exact hK S φ _ _ (r1.slot hd (fun _ => htu)) (put_size _ _ _)
            · simp only [Hdr] at hh
              simp only [BlkR] at hB
              cases hg : φ b with
              | none => simp only [hg] at hh; obtain ⟨_, _, h, _⟩ := hh; exact absurd h hl0
              | some k =>
                simp only [hg] at hh hB
                obtain ⟨A, cap, cs0, rfl, h2, h3, h4, h5, h6, h7, h8⟩ := hh
                obtain ⟨cs', g1, g2, g3, g4, g5⟩ := hB
                rw [h7] at g1
                cases g1
                have hA : A = some ⟨k, 0, none⟩ := by
                  rcases h2 with h2 | h2
                  · omega
                  · simpa using h2
                subst hA
                let Sc : Bool → Nat → Prop := fun ln j => S ln j ∨ (ln = true ∧ ∃ b' ∈ cs.flatMap keyOf, φ b' = some j)
                have hlive := mapM_lendC_live (H := st.hp) lendA_live hm
                have hkS : ¬ S true k := (hR.own b _ _ _ _ _ k hb hg).1
                have hkSc : ¬ Sc true k := by
                  rintro (hs | ⟨_, b', hb', hg'⟩)
                  · exact hkS hs
                  · obtain ⟨_, _, _, _, _, hr'⟩ := hlive b' hb'
                    have := hR.inj b' b _ _ _ _ _ _ _ _ _ _ k hr' hb hg' hg
                    subst this
                    exact hb0 (by rw [List.contains_eq_mem]; exact decide_eq_true hb')
                have hcaps : RelCs W Sc noφ noH qs ys := mapM_rel (R := RelC W S φ st.hp) (R' := RelC W Sc noφ noH) (kk := keyOf) (ok := fun b => ∀ g, φ b = some g → Sc true g) (fun p q v h1 h2 h3 => lendA_rel hR (fun _ _ h => .inl h) h1 h2 h3) hm hys.1 hys.2 (fun p hp b' hb' g hg => .inr ⟨rfl, b', List.mem_flatMap.2 ⟨p, hp, hb'⟩, hg⟩)
                have hlenR : (rows.take len).length = len := by simp; omega
                have hcell : ∀ i q j x, (rows.take len)[i]? = some q → q[j]? = some (.s x) → cs0[i * szOf cx.P T + j]? = some x ∧ x.oneCell' = true := by
                  intro i q j x hi hj
                  rw [List.getElem?_take] at hi
                  split at hi
                  · obtain ⟨x', hx', hp'⟩ := g5 i q j _ hi hj
                    rw [if_neg (by simp)] at hp'
                    cases hp'.2 with
                    | s h => exact ⟨hx', h⟩
                  · cases hi
                have hcall := hF.calls f qs T (rows.take len) r hF' (by intro e; rw [e] at hlenR; exact hl0 hlenR.symm) W Sc ys k cap cs0 hcaps
                  (fun j hj => by
                    rcases hj with hs | ⟨hf, _⟩
                    · exact .inl (hR.sle j hs)
                    · cases hf)
                  (fun j hj => by
                    rcases hj with hs | ⟨_, b', hb', hg'⟩
                    · exact hR.slt j hs
                    · obtain ⟨_, _, _, _, _, hr'⟩ := hlive b' hb'
                      exact hR.sz hr' hg')
                  hkSc h7 (fun q hq => g2 q (List.mem_of_mem_take hq)) (by rw [hlenR]; exact h4) h6 (by rw [← h8, Nat.zero_add]) hcell hplain
                rw [hlenR] at hcall
                unfold Oper.wp
                rw [hrun, Oper.upon_enter]
                refine Calls.mono hcall (fun e W' hpost => ?_)
                obtain ⟨rfl, hk, cs', q1, q2, q3, q4⟩ := hpost
                show K (a.put o.dst (.tuple #[])) W'
                have hlen' : (r ++ rows.drop len).length = rows.length := by simp; omega
                have hmem : ∀ q ∈ r, q ∈ rows.take len := fun q hq => hperm.subset hq
                obtain ⟨r1, e1⟩ := hR.write (rows' := r ++ rows.drop len) hb hg h7 hk q1 q2 hlen'
                  (fun q hq => by
                    rcases List.mem_append.1 hq with h | h
                    · exact g2 q (List.mem_of_mem_take (hmem q h))
                    · exact g2 q (List.mem_of_mem_drop h))
                  (fun i q j p hi hj => by
                    rw [List.getElem?_append] at hi
                    split at hi
                    · rename_i hlt
                      have hq := hmem q (List.mem_of_getElem? hi)
                      obtain ⟨x, rfl⟩ := plain_inv (hplain q hq p (List.mem_of_getElem? hj))
                      refine ⟨x, q4 i q j x hi hj, ?_⟩
                      rw [if_neg (by simp)]
                      refine ⟨rfl, .s ?_⟩
                      obtain ⟨i', hi'⟩ := List.getElem?_of_mem hq
                      exact (hcell i' q j x hi' hj).2
                    · rename_i hlt
                      rw [List.getElem?_drop] at hi
                      obtain ⟨x, hx, hp⟩ := g5 _ q j p hi hj
                      rw [if_neg (by simp)] at hp
                      refine ⟨x, ?_, by rw [if_neg (by simp)]; exact hp⟩
                      have e3 : len + (i - r.length) = i := by omega
                      rw [e3] at hx
                      rw [q3 _ (by
                        have : len * szOf cx.P T ≤ i * szOf cx.P T := Nat.mul_le_mul_right _ (by omega)
                        omega)]
                      exact hx)
                exact hK S φ _ _ (r1.slot hd (fun _ => htu)) (put_size _ _ _)
        · simp [Rd.val] at hq
  · simp [Rd.val] at h
end
end Go.Pi
