/- Slices, lengths, aggregates. Own work of this session. -/
import Derived.Test.YtpjdoblfdeioaaaQops2
set_option linter.unusedVariables false
set_option linter.unusedSimpArgs false
namespace Go.Pi
section
variable {P : Program} {W0 W W' : World} {O0 : List Nat} {S0 : Base} {S S' : Bool → Nat → Prop} {φ φ' : Nat → Option Nat} {st : St} {a : Act} {o : Oper} {K : Act → World → Prop} {Q : Exit → Act → World → Prop} {p : PV} {x : Value}
def BV (x : Option Value) (d i : Int) : Prop := (x = none ∧ i = d) ∨ ∃ k, x = some (.int k i)
theorem bnd_inv (hR : Rel W0 O0 S0 S φ st a W) {lo : Option Operand} {d i : Int} (h : bnd (lo.map st.ev) d = some i) : BV (lo.map a.eval) d i := by
  cases lo with
  | none => simp only [bnd, Option.map_none, Option.some.injEq] at h; exact .inl ⟨rfl, h.symm⟩
  | some y =>
    simp only [bnd, Option.map_some] at h
    obtain ⟨k, e⟩ := idxV_inv h
    have hy := hR.ev y
    rw [e] at hy
    exact .inr ⟨k, by rw [Option.map_some, int_inv hy]⟩
theorem bounds_run (b : Bool) {len cap : Nat} {lo hi : Option Value} {l h : Int} (hl : BV lo 0 l) (hh : BV hi len h) (h0 : 0 ≤ l) (h1 : l ≤ h) (h2 : h ≤ (cap : Int)) :
    (Instr.sliceBounds b len cap lo hi none).run P W = .ok (l.toNat, h.toNat, cap) W := by
  have eh : (h.toNat : Int) = h := Int.toNat_of_nonneg (by omega)
  rcases hl with ⟨rfl, rfl⟩ | ⟨k, rfl⟩ <;> rcases hh with ⟨rfl, rfl⟩ | ⟨k', rfl⟩
  · simp [Instr.sliceBounds]
  · simp [Instr.sliceBounds, run_sliceBound W k' h cap _ (by omega) h2]
  · simp [Instr.sliceBounds, run_sliceBound W k l len _ h0 h1]
  · have := run_sliceBound (P := P) W k l h.toNat .sliceB h0 (by omega)
    simp [Instr.sliceBounds, run_sliceBound W k' h cap _ (by omega) h2, this]
theorem bounds3_run (b : Bool) {len cap : Nat} {lo : Option Value} {l h m : Int} {k k' : IntKind} (hl : BV lo 0 l) (h0 : 0 ≤ l) (h1 : l ≤ h) (h2 : h ≤ m) (h3 : m ≤ (cap : Int)) :
    (Instr.sliceBounds b len cap lo (some (.int k h)) (some (.int k' m))).run P W = .ok (l.toNat, h.toNat, m.toNat) W := by
  have em : (m.toNat : Int) = m := Int.toNat_of_nonneg (by omega)
  have eh : (h.toNat : Int) = h := Int.toNat_of_nonneg (by omega)
  have g1 := run_sliceBound (P := P) W k h m.toNat .slice3B (by omega) (by omega)
  rcases hl with ⟨rfl, rfl⟩ | ⟨k2, rfl⟩
  · simp [Instr.sliceBounds, run_sliceBound W k' m cap _ (by omega) h3, g1]
  · have g2 := run_sliceBound (P := P) W k2 l h.toNat .slice3C h0 (by omega)
    simp [Instr.sliceBounds, run_sliceBound W k' m cap _ (by omega) h3, g1, g2]
theorem slice_run {t e l h m : Nat} {A : Option Addr} {len cap : Nat} {lo hi mx : Option Value} (ht : slT P t = some e) (he : okT P e = true) (hb : (Instr.sliceBounds true len cap lo hi mx).run P W = .ok (l, h, m) W) :
    (Instr.sliceAt t (.slice A len cap) lo hi mx).run P W = .ok (sliced A l h m (szOf P e)) W := by
  have hs := szOf_run (P := P) (W := W) (t := e) rfl (okT_inv he).2
  simp only [Instr.sliceAt, Instr.slice, Sem.run_bind, run_underlying (slT_inv ht), Result.andThen_ok, hb, hs, sliced, Sem.run_pure]
/-- A full slice expression: no room, or nothing is known. -/
theorem sound_sliceMax (hR : Rel W0 O0 S0 S φ st a W) (hd : Bd S0 a o) {t e : Nat} {y : Operand} {lo hi : Option Operand} {mo : Operand} (ho : o.op = .slice t y lo hi (some mo)) (ht : slT P t = some e) (he : okT P e = true) {A : Option Addr} {len cap : Nat} (hv : a.eval y = .slice A len cap) {l h n : Int}
    (hl : bnd (lo.map st.ev) 0 = some l) (hh : bnd (hi.map st.ev) len = some h) (hn : n ≤ cap) {v : PV × Ups} (h' : (sliceMax (hi.map st.ev) l h n (idxV (st.ev mo))).val st.hp = some v) (hK : Goes W0 O0 S0 a.tmps.size (st.put o.dst v.1 v.2) K) : o.wp P a W K Q := by
  unfold sliceMax at h'
  split at h'
  · rename_i m hm
    split at h'
    · rename_i hc
      obtain ⟨c0, c1, c2, c3, c4⟩ := hc
      obtain ⟨k', e'⟩ := idxV_inv hm
      have hmo := hR.ev mo
      rw [e'] at hmo
      have hhi : ∃ k, hi.map a.eval = some (.int k h) := by
        rcases bnd_inv hR hh with ⟨g, _⟩ | g
        · cases hi with
          | none => cases c0
          | some z => cases g
        · exact g
      obtain ⟨k, hhi⟩ := hhi
      have hrun := slice_run (P := P) (W := W) (A := A) (len := len) (cap := cap) (lo := lo.map a.eval) (hi := hi.map a.eval) (mx := some (a.eval mo)) ht he (by rw [hhi, int_inv hmo]; exact bounds3_run true (bnd_inv hR hl) c1 c2 c3 (by omega))
      split at h'
      · rename_i hlm
        simp only [Rd.val, Option.some.injEq] at h'
        subst h'
        refine plain hR hd (p := .z) (by simp only [execOp, ho, hv, Option.map_some, hrun, Sem.run_bind, Result.andThen_ok, Sem.run_pure]; rfl) ?_ hK
        refine ⟨A, ?_⟩
        subst hlm
        have : l = h := by omega
        subst this
        simp [sliced]
      · simp only [Rd.val, Option.some.injEq] at h'
        subst h'
        refine plain hR hd (p := .u) (by simp only [execOp, ho, hv, Option.map_some, hrun, Sem.run_bind, Result.andThen_ok, Sem.run_pure]; rfl) trivial hK
    · simp [Rd.val] at h'
  · simp [Rd.val] at h'
theorem sh_inv {ln : Bool} {rows : List (List PV)} {v : Value} (h : Sh W S (.sh ln rows) v) : ∃ A cap, v = .slice A rows.length cap ∧ rows.length ≤ cap ∧ cap ≤ maxI := by
  cases h with
  | sl x h1 h2 h3 h4 h5 h6 => exact ⟨_, _, rfl, h1, h2⟩
theorem getElem?_win {α : Type} (rows : List α) (h l i : Nat) : ((rows.take h).drop l)[i]? = if l + i < h then rows[l + i]? else none := by
  rw [List.getElem?_drop, List.getElem?_take]
theorem sh_win {ln : Bool} {rows : List (List PV)} {A : Option Addr} {len cap : Nat} (h : Sh W S (.sh ln rows) (.slice A len cap)) {n : Nat} (hn : ∀ r ∈ rows, r.length = n) {l k : Nat} (h1 : l ≤ k) (h2 : k ≤ rows.length) :
    Sh W S (.sh ln ((rows.take k).drop l)) (sliced A l k cap n) := by
  generalize hv : Value.slice A len cap = v at h
  cases h with
  | sl x c1 c2 c3 c4 c5 c6 =>
    rename_i A' c sz
    cases hv
    have hlen : ((rows.take k).drop l).length = k - l := by simp; omega
    have key := Sh.sl (W := W) (S := S) (ln := ln) (rows := (rows.take k).drop l) (A := if cap = l then A else A.map (·.add (l * n))) (c := cap - l) (sz := n) (fun i j => x (l + i) j) (by omega) (by omega)
      (fun r hr => hn r (List.mem_of_mem_take (List.mem_of_mem_drop hr))) (fun r hr => c4 r (List.mem_of_mem_take (List.mem_of_mem_drop hr))) ?_ ?_
    · rw [hlen] at key; exact key
    · intro hne
      have hpos : 0 < ((rows.take k).drop l).length := List.length_pos_iff.2 hne
      rw [hlen] at hpos
      have hrne : rows ≠ [] := by rintro rfl; simp at h2; omega
      obtain ⟨ad, rfl, hs, hc⟩ := c5 hrne
      refine ⟨ad.add (l * n), by rw [if_neg (by omega)]; rfl, by rw [add_blk]; exact hs, fun i r j p hi hj => ?_⟩
      rw [getElem?_win] at hi
      split at hi
      · have hsz : sz = n := (c3 _ (List.mem_of_getElem? hi)).symm.trans (hn _ (List.mem_of_getElem? hi))
        subst hsz
        have := hc _ r j p hi hj
        rw [add_add, ← this]
        congr 2
        rw [Nat.add_mul, Nat.add_assoc]
      · cases hi
    · intro i r j p hi hj
      rw [getElem?_win] at hi
      split at hi
      · exact c6 _ r j p hi hj
      · cases hi
theorem sound_slice (hR : Rel W0 O0 S0 S φ st a W) (hd : Bd S0 a o) {t : Nat} {y : Operand} {lo hi mx : Option Operand} (ho : o.op = .slice t y lo hi mx) {v : PV × Ups} (h : (sliceEff P t (st.ev y) (lo.map st.ev) (hi.map st.ev) (mx.map st.ev)).val st.hp = some v) (hK : Goes W0 O0 S0 a.tmps.size (st.put o.dst v.1 v.2) K) : o.wp P a W K Q := by
  have hy := hR.ev y
  unfold sliceEff at h
  split at h
  · rename_i s e1
    rw [e1] at hy
    unfold sliceStr at h
    split at h
    · rename_i l hh hl' hh'
      split at h
      · rename_i hc
        obtain ⟨c0, c1, c2, c3, c4⟩ := hc
        simp only [Rd.val, Option.some.injEq] at h
        subst h
        have hmx : mx = none := by cases mx with
          | none => rfl
          | some z => simp at c0
        subst hmx
        refine plain hR hd (x := .string (s.extract l.toNat hh.toNat)) (p := .s (.string (s.extract l.toNat hh.toNat))) ?_ ⟨rfl, rfl⟩ hK
        have hb := bounds_run (P := P) (W := W) false (bnd_inv hR hl') (bnd_inv hR hh') c2 c3 c4
        simp [execOp, ho, str_inv hy, Instr.sliceAt, Instr.slice, run_underlying (stT_inv c1), hb]
      · simp [Rd.val] at h
    · simp [Rd.val] at h
  · rename_i ln rows e1
    rw [e1] at hy
    obtain ⟨A, cap, hv, hc1, hc2⟩ := sh_inv hy
    split at h
    · rename_i e ht
      split at h
      · rename_i he
        unfold sliceSh at h
        split at h
        · rename_i l hh hl' hh'
          cases mx with
          | none =>
            simp only [Option.map_none] at h
            split at h
            · rename_i hc
              obtain ⟨c1, c2, c3, c4⟩ := hc
              simp only [Rd.val, Option.some.injEq] at h
              subst h
              have hrun := slice_run (P := P) (W := W) (A := A) ht he (bounds_run true (bnd_inv hR hl') (bnd_inv hR hh') c1 c2 (by omega : hh ≤ (cap : Int)))
              refine plain hR hd (p := .sh ln ((rows.take hh.toNat).drop l.toNat)) (by simp only [execOp, ho, hv, Option.map_none, hrun, Sem.run_bind, Result.andThen_ok, Sem.run_pure]; rfl) ?_ hK
              have hy2 : Sh W S (.sh ln rows) (a.eval y) := hy
              rw [hv] at hy2
              exact sh_win hy2 c4 (by omega) (by omega)
            · simp [Rd.val] at h
          | some mo =>
            simp only [Option.map_some] at h
            exact sound_sliceMax hR hd ho ht he hv hl' hh' (by omega) h hK
        · simp [Rd.val] at h
      · simp [Rd.val] at h
    · simp [Rd.val] at h
  · rename_i b ver off len e1
    rw [e1] at hy
    split at h
    · rename_i e ht
      split at h
      · rename_i he
        obtain ⟨T, sz, box, rows, hb, hq⟩ := getRow_inv h
        clear h
        have h := hq
        clear hq
        have hh := sl_inv (S := S) hy hb
        unfold sliceSl at h
        split at h
        · rename_i l h2 hl' hh'
          split at h
          · rename_i hc
            obtain ⟨rfl, rfl⟩ := hc
            cases hg : φ b with
            | none =>
              simp only [Hdr, hg] at hh
              obtain ⟨rfl, rfl, rfl, A, hv⟩ := hh
              cases mx with
              | none =>
                simp only [Option.map_none] at h
                split at h
                · rename_i hc
                  obtain ⟨c1, c2, c3⟩ := hc
                  simp only [Rd.val, Option.some.injEq] at h
                  subst h
                  have e0 : l = 0 := by simp at c3; omega
                  have e2 : h2 = 0 := by simp at c3; omega
                  subst e0; subst e2
                  have hrun := slice_run (P := P) (W := W) (A := A) ht he (bounds_run true (cap := 0) (bnd_inv hR hl') (bnd_inv hR hh') c1 c2 (by omega))
                  refine plain hR hd (p := .sl b ver 0 0) (by simp only [execOp, ho, hv, Option.map_none, hrun, Sem.run_bind, Result.andThen_ok, Sem.run_pure]; rfl) ⟨⟨_, _, _, rfl⟩, _, hb, Nat.le_refl _, fun _ => ?_⟩ hK
                  simp only [Hdr, hg]
                  exact ⟨trivial, trivial, trivial, A, by simp [sliced]⟩
                · simp [Rd.val] at h
              | some mo =>
                simp only [Option.map_some] at h
                exact sound_sliceMax hR hd ho ht he hv hl' hh' (by simp) h hK
            | some g =>
              simp only [Hdr, hg] at hh
              obtain ⟨A, cap, cs, g1, g2, g3, g4, g5, g6, g7, g8⟩ := hh
              cases mx with
              | none =>
                simp only [Option.map_none] at h
                split at h
                · rename_i hc
                  obtain ⟨c1, c2, c3⟩ := hc
                  simp only [Rd.val, Option.some.injEq] at h
                  subst h
                  have hrun := slice_run (P := P) (W := W) (A := A) ht he (bounds_run true (bnd_inv hR hl') (bnd_inv hR hh') c1 c2 (by omega : h2 ≤ (cap : Int)))
                  refine plain hR hd (p := .sl b ver (off + l.toNat) (h2.toNat - l.toNat)) (by simp only [execOp, ho, g1, Option.map_none, hrun, Sem.run_bind, Result.andThen_ok, Sem.run_pure]; rfl) ⟨⟨_, _, _, rfl⟩, _, hb, Nat.le_refl _, fun _ => ?_⟩ hK
                  simp only [Hdr, hg]
                  refine ⟨_, cap - l.toNat, cs, rfl, ?_, by omega, by omega, by omega, by omega, g7, ?_⟩
                  · by_cases hc0 : cap - l.toNat = 0
                    · exact .inl hc0
                    · refine .inr ?_
                      rw [if_neg (by omega)]
                      rcases g2 with g2 | g2
                      · omega
                      · subst g2
                        simp only [Option.map_some, add_lit, Nat.add_mul]
                  · have : off + l.toNat + (cap - l.toNat) = off + cap := by omega
                    rw [this]; exact g8
                · simp [Rd.val] at h
              | some mo =>
                simp only [Option.map_some] at h
                exact sound_sliceMax hR hd ho ht he g1 hl' hh' (by omega) h hK
          · simp [Rd.val] at h
        · simp [Rd.val] at h
      · simp [Rd.val] at h
    · simp [Rd.val] at h
  · rename_i e1
    rw [e1] at hy
    obtain ⟨A, hv⟩ := hy
    split at h
    · rename_i e ht
      split at h
      · rename_i he
        unfold sliceZ at h
        split at h
        · rename_i l h2 hl' hh'
          cases mx with
          | none =>
            simp only [Option.map_none] at h
            split at h
            · rename_i hc
              obtain ⟨rfl, rfl⟩ := hc
              simp only [Rd.val, Option.some.injEq] at h
              subst h
              have hrun := slice_run (P := P) (W := W) (A := A) ht he (bounds_run true (cap := 0) (bnd_inv hR hl') (bnd_inv hR (d := ((0 : Nat) : Int)) hh') (by omega) (by omega) (by omega))
              refine plain hR hd (p := .z) (by simp only [execOp, ho, hv, Option.map_none, hrun, Sem.run_bind, Result.andThen_ok, Sem.run_pure]; rfl) ⟨A, by simp [sliced]⟩ hK
            · simp [Rd.val] at h
          | some mo =>
            simp only [Option.map_some] at h
            exact sound_sliceMax hR hd ho ht he hv hl' hh' (by simp) h hK
        · simp [Rd.val] at h
      · simp [Rd.val] at h
    · simp [Rd.val] at h
  · simp [Rd.val] at h
end
end Go.Pi
