/- Store, clear, slice literals, text of bytes. Own work of this session. -/
import Derived.Test.YtpjdoblfdeioaaaQops6
set_option linter.unusedVariables false
set_option linter.unusedSimpArgs false
namespace Go.Pi
section
variable {P : Program} {W0 W W' : World} {O0 : List Nat} {S0 : Base} {S S' : Bool → Nat → Prop} {φ φ' : Nat → Option Nat} {st : St} {a : Act} {o : Oper} {K : Act → World → Prop} {Q : Exit → Act → World → Prop} {p : PV} {x : Value}
theorem updH_not (H : Heap) (b : Nat) : ∀ (ups : Ups), b ∉ ups.map (·.1) → updH H ups b = H b
  | [], _ => rfl
  | (k, blk) :: r, h => by
    simp only [List.map_cons, List.mem_cons, not_or] at h
    rw [updH, updH_not _ b r h.2]
    simp [upd, h.1]
theorem splice_length (z : List PV) (off : Nat) (cs : List PV) (h : off + cs.length ≤ z.length) : (splice z off cs).length = z.length := by
  simp [splice]; omega
theorem splice_get (z : List PV) (off : Nat) (cs : List PV) (h : off + cs.length ≤ z.length) (k : Nat) : (splice z off cs)[k]? = if k < off then z[k]? else if k < off + cs.length then cs[k - off]? else z[k]? := by
  have e : (z.take off).length = off := by simp; omega
  simp only [splice, List.getElem?_append, List.length_append, e, List.getElem?_take, List.getElem?_drop]
  by_cases c1 : k < off
  · rw [if_pos (by omega), if_pos c1, if_pos c1, if_pos c1]
  · by_cases c2 : k < off + cs.length
    · rw [if_pos c2, if_neg c1, if_neg c1, if_pos c2]
    · rw [if_neg c2, if_neg c1, if_neg c2]
      congr 1
      omega
theorem set_cells {R : PV → Value → Prop} {sz i j : Nat} {rows : List (List PV)} {cs : Array Value} {xs : List PV} {vs : List Value} (hold : ∀ i r j p, rows[i]? = some r → r[j]? = some p → ∃ x, cs[i * sz + j]? = some x ∧ R p x) (hr : ∀ r ∈ rows, r.length = sz) (hi : i < rows.length) (hj : j + xs.length ≤ sz) (hl : vs.length = xs.length)
    (hx : ∀ (k : Nat) (p : PV) (x : Value), xs[k]? = some p → vs[k]? = some x → R p x) (hfit : rows.length * sz ≤ cs.size) :
    (∀ r ∈ rows.set i (splice (rowAt rows i) j xs), r.length = sz) ∧
    ∀ i' r j' p, (rows.set i (splice (rowAt rows i) j xs))[i']? = some r → r[j']? = some p → ∃ x, (cs.toList.take (i * sz + j) ++ vs ++ cs.toList.drop (i * sz + j + vs.length)).toArray[i' * sz + j']? = some x ∧ R p x := by
  have hri : rows[i]? = some (rowAt rows i) := by simp [rowAt, List.getD_eq_getElem?_getD, List.getElem?_eq_getElem hi]
  have hrl := hr _ (List.mem_of_getElem? hri)
  have hfit2 : i * sz + sz ≤ cs.size := by
    have : i * sz + sz ≤ rows.length * sz := by rw [← Nat.succ_mul]; exact Nat.mul_le_mul_right _ hi
    omega
  have hsp := splice_length (rowAt rows i) j xs (by omega)
  refine ⟨fun r h => ?_, fun i' r j' p h1 h2 => ?_⟩
  · rcases List.mem_or_eq_of_mem_set h with h | h
    · exact hr r h
    · rw [h, hsp, hrl]
  · have hcl : (cs.toList.take (i * sz + j)).length = i * sz + j := by simp; omega
    rw [List.getElem?_toArray, List.append_assoc, List.getElem?_append, hcl]
    rw [List.getElem?_set] at h1
    by_cases c : i = i'
    · subst c
      rw [if_pos rfl, if_pos hi] at h1
      cases h1
      rw [splice_get _ _ _ (by omega)] at h2
      by_cases c1 : j' < j
      · rw [if_pos c1] at h2
        obtain ⟨x, hx, hp⟩ := hold i _ j' p hri h2
        refine ⟨x, ?_, hp⟩
        rw [if_pos (by omega), List.getElem?_take, if_pos (by omega), Array.getElem?_toList]
        exact hx
      · rw [if_neg c1] at h2
        by_cases c2 : j' < j + xs.length
        · rw [if_pos c2] at h2
          have hlt : j' - j < vs.length := by omega
          refine ⟨vs[j' - j], ?_, hx _ p _ h2 (List.getElem?_eq_getElem hlt)⟩
          have e : i * sz + j' - (i * sz + j) = j' - j := by omega
          rw [if_neg (by omega), e, List.getElem?_append_left hlt, List.getElem?_eq_getElem hlt]
        · rw [if_neg c2] at h2
          obtain ⟨x, hx, hp⟩ := hold i _ j' p hri h2
          refine ⟨x, ?_, hp⟩
          rw [if_neg (by omega), List.getElem?_append_right (by omega), List.getElem?_drop, Array.getElem?_toList]
          have e : i * sz + j + vs.length + (i * sz + j' - (i * sz + j) - vs.length) = i * sz + j' := by omega
          rw [e]
          exact hx
    · rw [if_neg c] at h1
      obtain ⟨x, hx, hp⟩ := hold i' r j' p h1 h2
      have hj' : j' < sz := by rw [← hr r (List.mem_of_getElem? h1)]; exact (List.getElem?_eq_some_iff.1 h2).1
      refine ⟨x, ?_, hp⟩
      rcases Nat.lt_or_gt_of_ne c with h | h
      · have : i * sz + sz ≤ i' * sz := by rw [← Nat.succ_mul]; exact Nat.mul_le_mul_right _ h
        rw [if_neg (by omega), List.getElem?_append_right (by omega), List.getElem?_drop, Array.getElem?_toList]
        have e : i * sz + j + vs.length + (i' * sz + j' - (i * sz + j) - vs.length) = i' * sz + j' := by omega
        rw [e]
        exact hx
      · have : i' * sz + sz ≤ i * sz := by rw [← Nat.succ_mul]; exact Nat.mul_le_mul_right _ h
        rw [if_pos (by omega), List.getElem?_take, if_pos (by omega), Array.getElem?_toList]
        exact hx
theorem store_run {t g off : Nat} {v : Value} (ho : o.op = .store t (.const .nilIface) (.const .nilIface) ∨ True) (hs : v.cells.size = szOf P t) (h0 : 0 < szOf P t) {cs : Array Value} {T : Nat} (hg : W.heap[g]? = some (.cells cs T (0, 0))) (hfit : off + v.cells.size ≤ cs.size) (h1 : ∀ x ∈ v.cells.toList, x.oneCell' = true) :
    (Instr.storeAt t (.pointer (some ⟨g, off, none⟩)) v).run P W = .ok () (W.setRow g (cs.toList.take off ++ v.cells.toList ++ cs.toList.drop (off + v.cells.toList.length)).toArray) := by
  have hst := run_storeCells_at P g off T v.cells.toList 0 cs W hg (by rw [Array.length_toList]; omega) h1
  simp only [Nat.add_zero] at hst
  simp only [Instr.storeAt, Instr.sureAddr, Sem.run_bind, Sem.run_pure, Result.andThen_ok, storeVar, szOf_run (P := P) (W := W) (t := t) rfl h0, hs, ne_eq, not_true_eq_false, if_false]
  exact hst
theorem sound_store (hR : Rel W0 O0 S0 S φ st a W) (hd : Bd S0 a o) {t : Nat} {y z : Operand} (ho : o.op = .store t y z) {v : PV × Ups} (h : (storeEff P t (st.ev y) (st.ev z)).val st.hp = some v) (hK : Goes W0 O0 S0 a.tmps.size (st.put o.dst v.1 v.2) K) : o.wp P a W K Q := by
  have hy := hR.ev y
  have hz := hR.ev z
  unfold storeEff at h
  split at h
  · rename_i b ver i j xs e1 e2
    rw [e1] at hy
    split at h
    · rename_i hc
      obtain ⟨c1, c2⟩ := hc
      obtain ⟨T, sz, box, rows, hb, hq⟩ := getRow_inv h
      clear h
      have hv := cellsOf_rel e2 hz
      have hsz : (a.eval z).cells.size = szOf P t := by rw [← c2, ← hv.1]; rfl
      obtain ⟨g, hg, hp⟩ := ad_inv (W := W) (S := S) hy hb
      have hB := hR.blk b _ hb
      simp only [BlkR, hg] at hB
      obtain ⟨cs, h1, h2, h3, h4, h5⟩ := hB
      unfold storeRow at hq
      split at hq
      · rename_i hc
        obtain ⟨c3, c4⟩ := hc
        have hri : rows[i]? = some (rowAt rows i) := by simp [rowAt, List.getD_eq_getElem?_getD, List.getElem?_eq_getElem c3]
        have hrl := h2 _ (List.mem_of_getElem? hri)
        have hfit2 : i * sz + sz ≤ cs.size := by
          have : i * sz + sz ≤ rows.length * sz := by rw [← Nat.succ_mul]; exact Nat.mul_le_mul_right _ c3
          omega
        have hrun0 := store_run (P := P) (o := o) (W := W) (t := t) (g := g) (off := i * sz + j) (v := a.eval z) (.inr trivial) hsz (okT_inv c1).2 h1 (by omega) hv.ones
        have hrun : (execOp a.eval o).run P W = .ok .skip (W.setRow g (cs.toList.take (i * sz + j) ++ (a.eval z).cells.toList ++ cs.toList.drop (i * sz + j + (a.eval z).cells.toList.length)).toArray) := by
          simp only [execOp, ho, hp, Sem.run_bind, hrun0, Result.andThen_ok, Sem.run_pure]
        have hcsz : (cs.toList.take (i * sz + j) ++ (a.eval z).cells.toList ++ cs.toList.drop (i * sz + j + (a.eval z).cells.toList.length)).toArray.size = cs.size := by
          simp; omega
        split at hq
        · rename_i hbox
          subst hbox
          simp only [Rd.val, Option.some.injEq] at hq
          subst hq
          obtain ⟨k1, k2⟩ := set_cells (R := fun p x => RelC W S φ st.hp p x) (i := i) (j := j) (xs := xs) (vs := (a.eval z).cells.toList) (fun i r j p hi hj => by
            obtain ⟨x, hx, hp⟩ := h5 i r j p hi hj
            rw [if_pos rfl] at hp
            exact ⟨x, hx, hp⟩) h2 c3 (by omega) hv.1 hv.2 h3
          obtain ⟨r1, e1⟩ := hR.write (rows' := rows.set i (splice (rowAt rows i) j xs)) hb hg h1 (keep_setRow W g _) (setRow_heap W g cs _ T (0, 0) h1) hcsz (by simp) k1
            (fun i r j p hi hj => by
              obtain ⟨x, hx, hp⟩ := k2 i r j p hi hj
              exact ⟨x, hx, by rw [if_pos rfl]; exact hp⟩)
          exact done_skip (ups := [(b, .row ver T sz true (rows.set i (splice (rowAt rows i) j xs)))]) hd r1 hrun hK
        · rename_i hbox
          have hbf : box = false := by cases box <;> simp_all
          subst hbf
          rw [Rd.val_bind] at hq
          cases hn : (nrmCs xs).val st.hp with
          | none => simp [hn] at hq
          | some w =>
            simp only [hn, Option.bind_some] at hq
            split at hq
            · simp [Rd.val] at hq
            · rename_i hnb
              simp only [Rd.val, Option.some.injEq] at hq
              subst hq
              obtain ⟨S2, g1, g2, g3, g4, g5, g6⟩ := nrmCs_sound hR xs (a.eval z).cells.toList S st.hp hR Ext.refl (fun b => .inl rfl) hv w hn
              have hb2 : updH st.hp w.2 b = some (.row ver T sz false rows) := by
                rw [updH_not st.hp b w.2 (by simpa using hnb)]
                exact hb
              obtain ⟨k1, k2⟩ := set_cells (R := fun p x => p.perm = true ∧ Sh W S2 p x) (i := i) (j := j) (xs := w.1) (vs := (a.eval z).cells.toList) (fun i r j p hi hj => by
                obtain ⟨x, hx, hp⟩ := h5 i r j p hi hj
                rw [if_neg (by simp)] at hp
                exact ⟨x, hx, hp.1, hp.2.mono g4 (fun _ _ _ => rfl)⟩) h2 c3 (by omega) (by rw [g5]; exact hv.1) g6 h3
              obtain ⟨r1, e1⟩ := g1.write (rows' := rows.set i (splice (rowAt rows i) j w.1)) hb2 hg h1 (keep_setRow W g _) (setRow_heap W g cs _ T (0, 0) h1) hcsz (by simp) k1
                (fun i r j p hi hj => by
                  obtain ⟨x, hx, hp⟩ := k2 i r j p hi hj
                  exact ⟨x, hx, by rw [if_neg (by simp)]; exact hp⟩)
              refine done_skip (ups := w.2 ++ [(b, .row ver T sz false (rows.set i (splice (rowAt rows i) j w.1)))]) hd (φ' := φ) (S' := S2) ?_ hrun hK
              rw [updH_append]
              exact r1
      · simp [Rd.val] at hq
    · simp [Rd.val] at h
  · simp [Rd.val] at h
end
end Go.Pi
