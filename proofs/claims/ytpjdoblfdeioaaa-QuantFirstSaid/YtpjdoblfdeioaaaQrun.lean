/- Each operation is sound; regions. Own work of this session. -/
import Derived.Test.YtpjdoblfdeioaaaQcaller2
import Derived.Test.YtpjdoblfdeioaaaQmap
import Derived.Test.YtpjdoblfdeioaaaQsort
set_option linter.unusedVariables false
set_option linter.unusedSimpArgs false
namespace Go.Pi
section
variable {P : Program} {W0 W W' : World} {O0 O : List Nat} {S0 : Base} {S S' S2 Sc : Bool → Nat → Prop} {φ φ' : Nat → Option Nat} {st : St} {a : Act} {o : Oper} {K : Act → World → Prop} {Q : Exit → Act → World → Prop}
theorem bind_pure_inv {α β : Type} {x : Rd α} {f : α → β} {H : Heap} {r : β} (h : (x.bind fun v => .pure (f v)).val H = some r) : ∃ v, x.val H = some v ∧ r = f v := by
  rw [Rd.val_bind] at h
  cases hx : x.val H with
  | none => simp [hx] at h
  | some v => simp only [hx, Option.bind_some, Rd.val, Option.some.injEq] at h; exact ⟨v, rfl, h.symm⟩
theorem append_prep {c : Call} (ho : o.op = .call c) (hb : c.callee = .builtin .append) {t u : Nat} {y z : Operand} (ht : c.argTypes.toList = [t, u]) (hy : c.args = #[y, z]) :
    (execOp a.eval o).run P W = (Sem.run P (do pure (.value (← Builtin.append_ #[t, u] o.type #[a.eval y, a.eval z])) : Sem Next) W) := by
  rw [run_builtin ho hb, arr_of ht, hy]
  simp only [builtin, List.map_toArray, List.map_cons, List.map_nil]
theorem sound_builtin (hR : Rel W0 O0 S0 S φ st a W) (hd : Bd S0 a o) {c : Call} (ho : o.op = .call c) {b : Builtin} (hb : c.callee = .builtin b) {v : PV × Ups} (h : (builtinEff P o.dst b c.argTypes.toList (c.args.toList.map st.ev)).val st.hp = some v)
    (hK : Goes W0 O0 S0 a.tmps.size (st.put o.dst v.1 v.2) K) : o.wp P a W K Q := by
  unfold builtinEff at h
  split at h
  · rename_i t p ht hp
    obtain ⟨w, hw, rfl⟩ := bind_pure_inv h
    exact sound_len hR hd ho hb ht hp hw hK
  · rename_i t u p x ht hp
    obtain ⟨y, z, hyz, rfl, rfl⟩ := two_args hp
    have hrun := append_prep (P := P) (W := W) (a := a) ho hb ht hyz
    split at h
    · simp [Rd.val] at h
    · rename_i e he
      split at h
      · rename_i hu
        subst hu
        rw [Rd.val_bind] at h
        cases hr : (readRows (st.ev z)).val st.hp with
        | none => simp [hr] at h
        | some ys =>
          simp only [hr, Option.bind_some] at h
          have h0 := h
          unfold appEff at h0
          split at h0
          · rename_i hc
            obtain ⟨news, hf, hx⟩ := read_src hR he (hR.ev z) hr hc.2 (elT_inv hc.1).1
            exact sound_append hR hd he (hR.ev y) hf hx hrun h hK
          · simp [Rd.val] at h0
      · split at h
        · rename_i s es
          split at h
          · rename_i hc
            have hz := hR.ev z
            rw [es] at hz
            obtain ⟨news, hf, hx⟩ := str_src (W := W) (S := S) hc.1 hc.2 s
            rw [str_inv hz] at hrun
            refine sound_append hR hd he (hR.ev y) hf ?_ hrun h hK
            rw [List.length_map]
            exact hx
          · simp [Rd.val] at h
        · simp [Rd.val] at h
  · split at h
    · rename_i w hw
      simp only [Rd.val, Option.some.injEq] at h
      subst h
      exact sound_best false hR hd ho hb hw hK
    · simp [Rd.val] at h
  · split at h
    · rename_i w hw
      simp only [Rd.val, Option.some.injEq] at h
      subst h
      exact sound_best true hR hd ho hb hw hK
    · simp [Rd.val] at h
  · rename_i t b ver off len ht hp
    split at h
    · rename_i e he
      split at h
      · rename_i hel
        exact sound_clear hR hd ho hb ht hp he hel h hK
      · simp [Rd.val] at h
    · simp [Rd.val] at h
  · simp [Rd.val] at h
theorem sound_eff {cx : Cx} {C : CallF} (hC : CallOk cx C) (hE : Facts cx) (hR : Rel W0 O0 S0 S φ st a W) (hd : Bd S0 a o) {v : PV × Ups} (h : (eff cx C st.ev o.dst o.op).val st.hp = some v) (hK : Goes W0 O0 S0 a.tmps.size (st.put o.dst v.1 v.2) K) : o.wp cx.P a W K Q := by
  unfold eff at h
  split at h
  · rename_i t r ho
    split at h
    · split at h
      · rename_i hm
        exact sound_makeMap hR hd ho hm h hK
      · simp [Rd.val] at h
    · simp [Rd.val] at h
  · rename_i t x k ok ho
    split at h
    · rename_i b ver n e1 e2
      split at h
      · rename_i hm
        obtain ⟨hm, rfl⟩ := hm
        exact sound_lookup hR hd ho hm e1 e2 h hK
      · simp [Rd.val] at h
    · simp [Rd.val] at h
  · rename_i t x k y ho
    split at h
    · rename_i b ver n e1 e2 e3
      split at h
      · rename_i hm
        exact sound_mapUpdate hR hd ho hm e1 e2 e3 h hK
      · simp [Rd.val] at h
    · simp [Rd.val] at h
  · rename_i x ho
    simp only [Rd.val, Option.some.injEq] at h
    subst h
    exact sound_move hR hd ho hK
  · rename_i x ho
    simp only [Rd.val, Option.some.injEq] at h
    subst h
    exact sound_assign hR hd ho hK
  · rename_i c x y ho
    split at h
    · rename_i t ht
      simp only [Rd.val, Option.some.injEq] at h
      subst h
      exact sound_pick hR hd ho ht hK
    · simp [Rd.val] at h
  · rename_i T ho
    exact sound_alloc (es := cx.pr T) hR hd ho h hK
  · rename_i T x ho
    exact sound_box (es := cx.pr T) hR hd ho h hK
  · rename_i t ps ho
    split at h
    · rename_i hbl
      split at h
      · rename_i z hz
        split at h
        · rename_i cs hcs
          simp only [Rd.val, Option.some.injEq] at h
          subst h
          exact sound_build hR hd ho hbl hz hcs hK
        · simp [Rd.val] at h
      · simp [Rd.val] at h
    · simp [Rd.val] at h
  · rename_i t len ps ho
    split at h
    · simp [Rd.val] at h
    · rename_i e he
      split at h
      · rename_i hc
        exact sound_buildSlice hR hd ho he hc.1 hc.2 h hK
      · simp [Rd.val] at h
  · rename_i t x ho
    obtain ⟨w, hw, rfl⟩ := bind_pure_inv h
    exact sound_load hR hd ho hw hK
  · rename_i t x y ho
    exact sound_store hR hd ho h hK
  · rename_i x ho
    split at h
    · rename_i b ver i j e
      simp only [Rd.val, Option.some.injEq] at h
      subst h
      exact sound_ptr hR hd ho (by rw [e]) hK
    · rename_i ln cs e
      simp only [Rd.val, Option.some.injEq] at h
      subst h
      exact sound_ptr hR hd ho (by rw [e]) hK
    · simp [Rd.val] at h
  · rename_i op t x y u ho
    split at h
    · rename_i w hw
      simp only [Rd.val, Option.some.injEq] at h
      subst h
      exact sound_binOp hE.eq hR hd ho hw hK
    · simp [Rd.val] at h
  · rename_i op t x ho
    split at h
    · rename_i w hw
      split at h
      · rename_i r hr
        simp only [Rd.val, Option.some.injEq] at h
        subst h
        exact sound_unOp hR hd ho hw hr hK
      · simp [Rd.val] at h
    · simp [Rd.val] at h
  · rename_i src dst x ho
    split at h
    · rename_i k n e
      split at h
      · rename_i k0 k' h1 h2
        simp only [Rd.val, Option.some.injEq] at h
        subst h
        exact sound_convert_int hR hd ho e h1 h2 hK
      · simp [Rd.val] at h
    · rename_i s e
      split at h
      · rename_i hc
        simp only [Bool.and_eq_true] at hc
        simp only [Rd.val, Option.some.injEq] at h
        subst h
        exact sound_convert_str hR hd ho e hc.1 hc.2 hK
      · simp [Rd.val] at h
    · split at h
      · rename_i e he
        split at h
        · rename_i hc
          rw [Rd.val_bind] at h
          cases hr : (readRows (st.ev x)).val st.hp with
          | none => simp [hr] at h
          | some rows =>
            simp only [hr, Option.bind_some] at h
            split at h
            · rename_i s hs
              simp only [Rd.val, Option.some.injEq] at h
              subst h
              exact sound_convert_bytes hR hd ho he hc.1 hc.2.1 hc.2.2 hr hs hK
            · simp [Rd.val] at h
        · simp [Rd.val] at h
      · simp [Rd.val] at h
  · rename_i f first caps ho
    split at h
    · rename_i hc
      simp only [Rd.val, Option.some.injEq] at h
      subst h
      exact sound_makeFunc hR hd ho hc.1 hc.2 hK
    · simp [Rd.val] at h
  · rename_i t x lo hi mx ho
    exact sound_slice hR hd ho h hK
  · rename_i t x f ho
    split at h
    · simp [Rd.val] at h
    · rename_i off e hf
      split at h
      · simp [Rd.val] at h
      · rename_i hz
        split at h
        · rename_i b ver i j e1
          simp only [Rd.val, Option.some.injEq] at h
          subst h
          exact sound_fieldAddr hR hd ho hf hz (by rw [e1]) hK
        · rename_i ln cs e1
          simp only [Rd.val, Option.some.injEq] at h
          subst h
          exact sound_fieldAddr hR hd ho hf hz (by rw [e1]) hK
        · simp [Rd.val] at h
  · rename_i t x ix ho
    obtain ⟨w, hw, rfl⟩ := bind_pure_inv h
    exact sound_indexAddr hR hd ho hw hK
  · rename_i t x ix ho
    split at h
    · rename_i s i e1 e2
      split at h
      · rename_i hc
        simp only [Bool.and_eq_true, decide_eq_true_eq] at hc
        simp only [Rd.val, Option.some.injEq] at h
        subst h
        exact sound_index hR hd ho e1 e2 hc.1 hc.2 hK
      · simp [Rd.val] at h
    · rename_i cs i e1 e2
      split at h
      · rename_i w hw
        simp only [Rd.val, Option.some.injEq] at h
        subst h
        exact sound_indexA hR hd ho e1 e2 hw hK
      · simp [Rd.val] at h
    · simp [Rd.val] at h
  · rename_i x i ho
    split at h
    · rename_i vs e1
      split at h
      · rename_i w hw
        simp only [Rd.val, Option.some.injEq] at h
        subst h
        exact sound_extract hR hd ho e1 hw hK
      · simp [Rd.val] at h
    · simp [Rd.val] at h
  · rename_i c ho
    split at h
    · rename_i b hb
      exact sound_builtin hR hd ho hb h hK
    · rename_i f hf
      split at h
      · rename_i g caps e
        split at h
        · rename_i F hF
          exact sound_sort (hE.srt g F hF) hR hd ho hf e h hK
        · exact sound_call hC hR hd ho hf e h hK
      · simp [Rd.val] at h
    · simp [Rd.val] at h
  · simp [Rd.val] at h
end
end Go.Pi
