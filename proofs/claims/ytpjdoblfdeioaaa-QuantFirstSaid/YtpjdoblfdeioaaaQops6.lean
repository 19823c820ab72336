/- Append, store, clear. Own work of this session. -/
import Derived.Test.YtpjdoblfdeioaaaQops5
set_option linter.unusedVariables false
set_option linter.unusedSimpArgs false
namespace Go.Pi
section
variable {P : Program} {W0 W W' : World} {O0 : List Nat} {S0 : Base} {S S' : Bool → Nat → Prop} {φ φ' : Nat → Option Nat} {st : St} {a : Act} {o : Oper} {K : Act → World → Prop} {Q : Exit → Act → World → Prop} {p : PV} {x : Value}
theorem flat_append {sz : Nat} {ys zs : List (List PV)} {ns ms : List Value} (h : Flat W S sz ys ns) (h' : Flat W S sz zs ms) : Flat W S sz (ys ++ zs) (ns ++ ms) := by
  refine ⟨by rw [List.length_append, List.length_append, h.size, h'.size, Nat.add_mul], fun r hr => (List.mem_append.1 hr).elim (h.row r) (h'.row r), fun i r j p hi hj => ?_⟩
  rw [List.getElem?_append] at hi
  split at hi
  · rename_i hlt
    obtain ⟨x, hx, hp⟩ := h.cell i r j p hi hj
    exact ⟨x, by rw [List.getElem?_append_left (List.getElem?_eq_some_iff.1 hx).1]; exact hx, hp⟩
  · rename_i hlt
    obtain ⟨x, hx, hp⟩ := h'.cell _ r j p hi hj
    refine ⟨x, ?_, hp⟩
    have e : i * sz + j = ns.length + ((i - ys.length) * sz + j) := by
      rw [h.size, ← Nat.add_assoc, ← Nat.add_mul]
      congr 2
      omega
    rw [e, List.getElem?_append_right (Nat.le_add_right _ _), Nat.add_sub_cancel_left]
    exact hx
theorem flat_nil {sz : Nat} : Flat W S sz [] [] := ⟨by simp, by simp, fun i r j p hi => by simp at hi⟩
/-- The cells of a block in which some rows are written anew. -/
theorem put_cells {sz len : Nat} {rows ys : List (List PV)} {cs : Array Value} {news : List Value} (hold : ∀ i r j p, rows[i]? = some r → r[j]? = some p → ∃ x, cs[i * sz + j]? = some x ∧ p.perm = true ∧ Sh W S p x) (hr : ∀ r ∈ rows, r.length = sz) (hf : Flat W S sz ys news) (hl : len ≤ rows.length) (hfit : len * sz + news.length ≤ cs.size) :
    ∀ i r j p, (rows.take len ++ ys ++ rows.drop (len + ys.length))[i]? = some r → r[j]? = some p → ∃ x, (cs.toList.take (len * sz) ++ news ++ cs.toList.drop (len * sz + news.length)).toArray[i * sz + j]? = some x ∧ p.perm = true ∧ Sh W S p x := by
  intro i r j p hi hj
  have hn := hf.size
  have htl : (rows.take len).length = len := by simp; omega
  have hcl : (cs.toList.take (len * sz)).length = len * sz := by simp; omega
  have hr' : r.length = sz := by
    have := List.mem_of_getElem? hi
    rcases List.mem_append.1 this with h | h
    · rcases List.mem_append.1 h with h | h
      · exact hr r (List.mem_of_mem_take h)
      · exact hf.row r h
    · exact hr r (List.mem_of_mem_drop h)
  have hjs : j < sz := by rw [← hr']; exact (List.getElem?_eq_some_iff.1 hj).1
  rw [List.getElem?_toArray, List.append_assoc, List.getElem?_append, hcl]
  rw [List.append_assoc, List.getElem?_append, htl] at hi
  by_cases c1 : i < len
  · have c1' : i * sz + j < len * sz := by
      have : i * sz + sz ≤ len * sz := by rw [← Nat.succ_mul]; exact Nat.mul_le_mul_right _ c1
      omega
    rw [if_pos c1, List.getElem?_take, if_pos c1] at hi
    obtain ⟨x, hx, hp⟩ := hold i r j p hi hj
    refine ⟨x, ?_, hp⟩
    rw [if_pos c1', List.getElem?_take, if_pos c1', Array.getElem?_toList]
    exact hx
  · have c1' : ¬ i * sz + j < len * sz := by
      have : len * sz ≤ i * sz := Nat.mul_le_mul_right _ (by omega)
      omega
    rw [if_neg c1, List.getElem?_append] at hi
    rw [if_neg c1', List.getElem?_append, hn]
    have e : i * sz + j - len * sz = (i - len) * sz + j := by
      rw [Nat.sub_mul]
      have : len * sz ≤ i * sz := Nat.mul_le_mul_right _ (by omega)
      omega
    rw [e]
    by_cases c2 : i - len < ys.length
    · have c2' : (i - len) * sz + j < ys.length * sz := by
        have : (i - len) * sz + sz ≤ ys.length * sz := by rw [← Nat.succ_mul]; exact Nat.mul_le_mul_right _ c2
        omega
      rw [if_pos c2] at hi
      rw [if_pos c2']
      exact hf.cell _ r j p hi hj
    · have c2' : ¬ (i - len) * sz + j < ys.length * sz := by
        have : ys.length * sz ≤ (i - len) * sz := Nat.mul_le_mul_right _ (by omega)
        omega
      rw [if_neg c2, List.getElem?_drop] at hi
      obtain ⟨x, hx, hp⟩ := hold _ r j p hi hj
      refine ⟨x, ?_, hp⟩
      rw [if_neg c2', List.getElem?_drop, Array.getElem?_toList]
      have e2 : len * sz + ys.length * sz + ((i - len) * sz + j - ys.length * sz) = (len + ys.length + (i - len - ys.length)) * sz + j := by
        have h1 : ys.length * sz ≤ (i - len) * sz := Nat.mul_le_mul_right _ (by omega)
        have h2 : (len + ys.length + (i - len - ys.length)) = i := by omega
        have h3 : (i - len) * sz = i * sz - len * sz := Nat.sub_mul _ _ _
        have h4 : len * sz ≤ i * sz := Nat.mul_le_mul_right _ (by omega)
        rw [h2]
        omega
      rw [e2]
      exact hx
theorem keep_setRow (W : World) (g : Nat) (cs : Array Value) : Keep W (W.setRow g cs) (fun k => k = g) := ⟨rfl, rfl, rfl, by simp, Nat.le_refl _, fun k _ hk => setRow_other W g k cs hk⟩
theorem keep_drawAlloc (W : World) (o : Obj) : Keep W (W.drew.alloc o) (fun _ => False) := Keep.trans (N := fun _ => False) (Keep.drew W _) (Keep.alloc W.drew o _) (fun _ h => h.elim)
theorem hdr_new {W1 : World} {g cap b ver T sz : Nat} {rows : List (List PV)} {cs : Array Value} (hg : φ b = some g) (hc : W1.heap[g]? = some (.cells cs T (0, 0))) {len : Nat} (h1 : len ≤ rows.length) (h2 : rows.length ≤ cap) (h3 : cap ≤ maxI) (h4 : cap * sz = cs.size) :
    Hdr W1 φ b (.row ver T sz false rows) 0 len (.slice (some ⟨g, 0, none⟩) len cap) := by
  simp only [Hdr, hg]
  exact ⟨_, cap, cs, rfl, .inr (by simp), by omega, by omega, by omega, h3, hc, by rw [Nat.zero_add]; exact h4⟩
/-- The slice that an append made anew. -/
theorem sound_grown (hR : Rel W0 O0 S0 S φ st a W) (hd : Bd S0 a o) {t u e ty b ver : Nat} (ht : slT P t = some e) (he : elT P e = true) {x : Value} {A : Option Addr} {sLen sCap : Nat} {olds news : List Value} {os ys : List (List PV)} (hv : ∀ blk, st.hp b = some blk → blk.ver < ver)
    (hx : Src P W e u x ys.length news) (hfo : Flat W S (szOf P e) os olds) (hfn : Flat W S (szOf P e) ys news) (hos : os.length = sLen) (ho : ∀ W1, W1.heap = W.heap → (Builtin.firstCells (szOf P e) sLen (.slice A sLen sCap)).run P W1 = .ok olds.toArray W1)
    (hg : sCap < sLen + ys.length) (h63 : sLen + ys.length ≤ 9223372036854775807) (hby : (sLen + ys.length) * byOf P e ≤ lim)
    (hrun : (execOp a.eval o).run P W = (Sem.run P (do pure (.value (← Builtin.append_ #[t, u] ty #[.slice A sLen sCap, x])) : Sem Next) W))
    (hK : Goes W0 O0 S0 a.tmps.size (st.put o.dst (.sl b ver 0 (sLen + ys.length)) [(b, .row ver e (szOf P e) false (os ++ ys))]) K) : o.wp P a W K Q := by
  obtain ⟨z, hz, hr⟩ := append_grow_run (ty := ty) ht he hx ho hg h63 hby
  have hcap := grownCap_ge W (sLen + ys.length) sCap e
  have hmax : grownCap W (sLen + ys.length) sCap e ≤ maxI := by
    have := grownCap_le_maxLen W (sLen + ys.length) sCap e (by simp only [maxLen]; omega)
    simp only [maxLen, maxI] at this ⊢
    omega
  generalize grownCap W (sLen + ys.length) sCap e = cap at hr hcap hmax
  have hfl := flat_append hfo hfn
  have hsz : (olds.toArray ++ news.toArray ++ Builtin.zeroCells z (cap - (sLen + ys.length))).size = cap * szOf P e := by
    simp only [Array.size_append, List.size_toArray, size_zeroCells, hz, hfo.size, hfn.size, hos, ← Nat.add_mul]
    congr 1
    omega
  have hcells : (olds.toArray ++ news.toArray ++ Builtin.zeroCells z (cap - (sLen + ys.length))).toList = (olds ++ news) ++ (Builtin.zeroCells z (cap - (sLen + ys.length))).toList := by simp
  generalize hcs : olds.toArray ++ news.toArray ++ Builtin.zeroCells z (cap - (sLen + ys.length)) = cs at hr hsz hcells
  have hrl : (os ++ ys).length = sLen + ys.length := by rw [List.length_append, hos]
  have hnew : (W.drew.alloc (.cells cs e)).heap[W.heap.size]? = some (.cells cs e (0, 0)) := heap_alloc_new W.drew _
  obtain ⟨r1, e1⟩ := hR.new (d := b) (ver := ver) (T := e) (sz := szOf P e) (box := false) (rows := os ++ ys) hv (keep_drawAlloc W _) hnew hfl.row (by rw [hsz, hrl]; exact Nat.mul_le_mul_right _ hcap) ⟨by rw [hrl]; exact Nat.le_trans hcap hmax, fun hbx => by cases hbx⟩ (fun i r j p hi hj => by
    obtain ⟨x, hx, hp⟩ := hfl.cell i r j p hi hj
    refine ⟨x, ?_, by rw [if_neg (by simp)]; exact hp⟩
    rw [← Array.getElem?_toList, hcells, List.getElem?_append_left (List.getElem?_eq_some_iff.1 hx).1]
    exact hx)
  refine done_value (p := .sl b ver 0 (sLen + ys.length)) (ups := [(b, .row ver e (szOf P e) false (os ++ ys))]) hd r1 (x := .slice (some ⟨W.heap.size, 0, none⟩) (sLen + ys.length) cap) (by rw [hrun]; simp only [Sem.run_bind, hr, Result.andThen_ok, Sem.run_pure]) ?_ hK
  refine ⟨⟨_, _, _, rfl⟩, .row ver e (szOf P e) false (os ++ ys), by simp [updH, upd], Nat.le_refl _, fun _ => ?_⟩
  exact hdr_new (by simp [upd]) hnew (by rw [hrl]; exact Nat.le_refl _) (by rw [hrl]; exact hcap) hmax hsz.symm
theorem keep_nothing (hR : Rel W0 O0 S0 S φ st a W) (hd : Bd S0 a o) {x : Value} {p : PV} {ups : Ups} (hu : updH st.hp ups = st.hp) (hrun : (execOp a.eval o).run P W = .ok (.value x) W) (hv : RelV W S φ st.hp p x) (hK : Goes W0 O0 S0 a.tmps.size (st.put o.dst p ups) K) : o.wp P a W K Q :=
  done_value (p := p) (ups := ups) hd (φ' := φ) (S' := S) (by rw [hu]; exact hR) hrun (by rw [hu]; exact hv) hK
theorem sound_append (hR : Rel W0 O0 S0 S φ st a W) (hd : Bd S0 a o) {t u e ty : Nat} (ht : slT P t = some e) {x b0 : Value} {p : PV} (hp : RelV W S φ st.hp p b0) {ys : List (List PV)} {news : List Value} (hf : Flat W S (szOf P e) ys news) (hx : Src P W e u x ys.length news)
    (hrun : (execOp a.eval o).run P W = (Sem.run P (do pure (.value (← Builtin.append_ #[t, u] ty #[b0, x])) : Sem Next) W)) {v : PV × Ups} (h : (appEff P e o.dst p ys).val st.hp = some v)
    (hK : Goes W0 O0 S0 a.tmps.size (st.put o.dst v.1 v.2) K) : o.wp P a W K Q := by
  unfold appEff at h
  split at h
  · rename_i hc
    obtain ⟨he, hys⟩ := hc
    obtain ⟨hpos, _⟩ := elT_inv he
    split at h
    · obtain ⟨A, rfl⟩ := hp
      obtain ⟨d, hdst, hn, hq⟩ := newKey_inv h
      clear h
      unfold appZ at hq
      split at hq
      · rename_i hc
        simp only [Rd.val, Option.some.injEq] at hq
        subst hq
        by_cases hy : ys = []
        · subst hy
          have hnews : news = [] := by have := hf.size; simpa using this
          subst hnews
          have hr := append_none_run (ty := ty) ht he hx (A := A) (sLen := 0) (sCap := 0) (Nat.le_refl _)
          obtain ⟨r1, e1⟩ := hR.place (b := d) (ver := 0) (T := e) (sz := szOf P e) (box := false) (rows := []) (g := none) (fun blk hb => by rw [hn] at hb; cases hb) (fun k hk => by cases hk) ⟨rfl, rfl⟩
          refine done_value (p := .sl d 0 0 0) (ups := [(d, .row 0 e (szOf P e) false [])]) hd r1 (x := .slice A 0 0) (by rw [hrun]; simp only [Sem.run_bind, hr, Result.andThen_ok, Sem.run_pure]) ?_ hK
          refine ⟨⟨_, _, _, rfl⟩, .row 0 e (szOf P e) false [], by simp [updH, upd], Nat.le_refl _, fun _ => ?_⟩
          simp [Hdr, upd]
        · have h0 : 0 < ys.length := List.length_pos_iff.2 hy
          have := sound_grown (K := K) (Q := Q) hR hd (b := d) (ver := 0) ht he (x := x) (A := A) (sLen := 0) (sCap := 0) (olds := []) (os := []) (fun blk hb => by rw [hn] at hb; cases hb) hx flat_nil hf rfl (fun W1 _ => firstCells_zero A 0 0 _ W1) (by omega) (by rw [Nat.zero_add]; exact hc.2) (by rw [Nat.zero_add]; exact hc.1) hrun
          simp only [Nat.zero_add, List.nil_append] at this
          exact this hK
      · simp [Rd.val] at hq
    · rename_i b ver len
      obtain ⟨T, sz, box, rows, hb, hq⟩ := getRow_inv h
      clear h
      unfold appSl at hq
      split at hq
      · rename_i hc
        obtain ⟨rfl, rfl, rfl, hle⟩ := hc
        have hh := sl_inv (S := S) hp hb
        have hB := hR.blk b _ hb
        have hold : ∃ olds A cap, b0 = .slice A len cap ∧ Flat W S (szOf P T) (rows.take len) olds ∧ (rows.take len).length = len ∧ ∀ W1, W1.heap = W.heap → (Builtin.firstCells (szOf P T) len (.slice A len cap)).run P W1 = .ok olds.toArray W1 := by
          have hrl : ∀ r ∈ ((rows.drop 0).take len), r.length = szOf P T := by
            intro r hr
            simp only [List.drop_zero] at hr
            simp only [BlkR] at hB
            cases hg : φ b with
            | none => simp only [hg] at hB; obtain ⟨rfl, _⟩ := hB; simp at hr
            | some g => simp only [hg] at hB; obtain ⟨cs, _, g2, _⟩ := hB; exact g2 r (List.mem_of_mem_take hr)
          obtain ⟨A, cap, olds, h1, h2, h3, h4⟩ := blk_first (P := P) hB hh hrl hpos
          simp only [List.drop_zero] at h2 h3
          exact ⟨olds, A, cap, h1, h3, h2, h4⟩
        obtain ⟨olds, A, cap, hb0, hfo, hol, hfc⟩ := hold
        subst hb0
        split at hq
        · rename_i hfits
          simp only [Rd.val, Option.some.injEq] at hq
          subst hq
          by_cases hy : ys = []
          · subst hy
            have hnews : news = [] := by have := hf.size; simpa using this
            subst hnews
            have hcap : len ≤ cap := by
              simp only [Hdr] at hh
              cases hg : φ b with
              | none => simp only [hg] at hh; obtain ⟨_, _, rfl, _⟩ := hh; exact Nat.zero_le _
              | some g => simp only [hg] at hh; obtain ⟨A', cap', cs, hv, _, _, h4, _⟩ := hh; cases hv; exact h4
            have hr := append_none_run (ty := ty) ht he hx (A := A) (sLen := len) (sCap := cap) hcap
            refine keep_nothing hR hd (x := .slice A len cap) (p := .sl b ver 0 (len + [].length)) (ups := [(b, .row ver T (szOf P T) false (rows.take len ++ [] ++ rows.drop (len + [].length)))]) ?_ (by rw [hrun]; simp only [Sem.run_bind, hr, Result.andThen_ok, Sem.run_pure]) hp hK
            simp only [updH, List.length_nil, Nat.add_zero, List.append_nil, List.take_append_drop]
            exact upd_self hb
          · have h0 : 0 < ys.length := List.length_pos_iff.2 hy
            simp only [Hdr] at hh
            simp only [BlkR] at hB
            cases hg : φ b with
            | none => simp only [hg] at hh; obtain ⟨rfl, _, rfl, _⟩ := hh; exact absurd (by simpa using hfits) hy
            | some g =>
              simp only [hg] at hh hB
              obtain ⟨A', cap', cs, hv, h2, h3, h4, h5, h6, h7, h8⟩ := hh
              cases hv
              obtain ⟨cs', g1, g2, g3, g4, g5⟩ := hB
              rw [h7] at g1
              cases g1
              have hA : A = some ⟨g, 0, none⟩ := by
                rcases h2 with h2 | h2
                · omega
                · simpa using h2
              subst hA
              have hfit : len * szOf P T + news.length ≤ cs.size := by
                rw [hf.size, ← Nat.add_mul]
                exact Nat.le_trans (Nat.mul_le_mul_right _ hfits) g3
              have hr := append_room_run (ty := ty) ht he hx (g := g) (off := 0) (sLen := len) (sCap := cap) h7 (flat_one hf) (by omega) (by rw [Nat.zero_add]; exact hfit)
              simp only [Nat.zero_add] at hr
              have hcsz : (cs.toList.take (len * szOf P T) ++ news ++ cs.toList.drop (len * szOf P T + news.length)).toArray.size = cs.size := by
                simp; omega
              have hlen' : (rows.take len ++ ys ++ rows.drop (len + ys.length)).length = rows.length := by simp; omega
              obtain ⟨r1, e1⟩ := hR.write (rows' := rows.take len ++ ys ++ rows.drop (len + ys.length)) hb hg h7 (keep_setRow W g _) (setRow_heap W g cs _ T (0, 0) h7) hcsz hlen'
                (fun r hr => by
                  rcases List.mem_append.1 hr with h | h
                  · rcases List.mem_append.1 h with h | h
                    · exact g2 r (List.mem_of_mem_take h)
                    · exact hf.row r h
                  · exact g2 r (List.mem_of_mem_drop h))
                (fun i r j p hi hj => by
                  obtain ⟨x, hx, hp⟩ := put_cells (fun i r j p hi hj => by
                    obtain ⟨x, hx, hp⟩ := g5 i r j p hi hj
                    rw [if_neg (by simp)] at hp
                    exact ⟨x, hx, hp⟩) g2 hf hle hfit i r j p hi hj
                  exact ⟨x, hx, by rw [if_neg (by simp)]; exact hp⟩)
              refine done_value (p := .sl b ver 0 (len + ys.length)) (ups := [(b, .row ver T (szOf P T) false (rows.take len ++ ys ++ rows.drop (len + ys.length)))]) hd r1 (x := .slice (some ⟨g, 0, none⟩) (len + ys.length) cap) (by rw [hrun]; simp only [Sem.run_bind, hr, Result.andThen_ok, Sem.run_pure]) ?_ hK
              refine ⟨⟨_, _, _, rfl⟩, .row ver T (szOf P T) false (rows.take len ++ ys ++ rows.drop (len + ys.length)), by simp [updH, upd], Nat.le_refl _, fun _ => ?_⟩
              exact hdr_new hg (setRow_heap W g cs _ T (0, 0) h7) (by rw [hlen']; exact hfits) (by rw [hlen']; omega) h6 (by rw [hcsz, ← h8, Nat.zero_add])
        · rename_i hfits
          split at hq
          · rename_i hc2
            simp only [Rd.val, Option.some.injEq] at hq
            subst hq
            by_cases hroom : len + ys.length ≤ cap
            · simp only [Hdr] at hh
              simp only [BlkR] at hB
              cases hg : φ b with
              | none => simp only [hg] at hh; obtain ⟨rfl, _, rfl, A', hv⟩ := hh; cases hv; simp at hfits hroom; exact absurd hroom hfits
              | some g =>
                simp only [hg] at hh hB
                obtain ⟨A', cap', cs, hv, h2, h3, h4, h5, h6, h7, h8⟩ := hh
                cases hv
                obtain ⟨cs', g1, g2, g3, g4, g5⟩ := hB
                rw [h7] at g1
                cases g1
                have hA : A = some ⟨g, 0, none⟩ := by
                  rcases h2 with h2 | h2
                  · omega
                  · simpa using h2
                subst hA
                have hfit : len * szOf P T + news.length ≤ cs.size := by
                  rw [hf.size, ← Nat.add_mul, ← h8]
                  exact Nat.mul_le_mul_right _ (by omega)
                have hr := append_room_run (ty := ty) ht he hx (g := g) (off := 0) (sLen := len) (sCap := cap) h7 (flat_one hf) hroom (by rw [Nat.zero_add]; exact hfit)
                simp only [Nat.zero_add] at hr
                have hcsz : (cs.toList.take (len * szOf P T) ++ news ++ cs.toList.drop (len * szOf P T + news.length)).toArray.size = cs.size := by
                  simp; omega
                have hlen' : (rows.take len ++ ys).length = len + ys.length := by rw [List.length_append, hol]
                have hown := hR.own b _ _ _ _ _ g hb hg
                obtain ⟨r0, e0⟩ := hR.kill (n := ver) hb (Nat.le_refl _)
                have hdead : ¬ Live φ (upd st.hp b (some (.dead ver))) g := by
                  intro hl
                  rcases hl with ⟨b', v', T', sz', box', rows', hb', hg'⟩ | ⟨b', v', ks, hb', hg'⟩
                  · by_cases hbb : b' = b
                    · subst hbb; simp [upd] at hb'
                    · simp only [upd, if_neg hbb] at hb'
                      exact hbb (hR.inj b' b _ _ _ _ _ _ _ _ _ _ g hb' hb hg' hg)
                  · exact hR.rowmp hb hg (upd_mp hb' (fun _ _ h => by cases h)).2 hg'
                obtain ⟨r1, e1⟩ := r0.world (keep_setRow W g (cs.toList.take (len * szOf P T) ++ news ++ cs.toList.drop (len * szOf P T + news.length)).toArray) (fun k hk => by subst hk; exact ⟨hown.1, hdead, hown.2⟩)
                have hdrop : rows.drop (len + ys.length) = [] := by simp; omega
                obtain ⟨r2, e2⟩ := r1.place (b := b) (ver := ver + 1) (T := T) (sz := szOf P T) (box := false) (rows := rows.take len ++ ys) (g := some g) (fun blk hb' => by simp [upd] at hb'; subst hb'; exact Nat.lt_succ_self _)
                  (fun k hk => by
                    cases hk
                    exact ⟨hown.1, hown.2, fun b' v' T' sz' box' rows' hne hb' hg' => hdead (.inl ⟨b', v', T', sz', box', rows', hb', hg'⟩)⟩)
                  ⟨_, setRow_heap W g cs _ T (0, 0) h7, fun r hr => by
                    rcases List.mem_append.1 hr with h | h
                    · exact g2 r (List.mem_of_mem_take h)
                    · exact hf.row r h, by rw [hlen', hcsz, ← h8]; exact Nat.mul_le_mul_right _ (by omega), ⟨by rw [hlen']; exact Nat.le_trans hroom h6, fun hbx => by cases hbx⟩, fun i r j p hi hj => by
                    obtain ⟨x, hx, hp⟩ := put_cells (fun i r j p hi hj => by
                      obtain ⟨x, hx, hp⟩ := g5 i r j p hi hj
                      rw [if_neg (by simp)] at hp
                      exact ⟨x, hx, hp⟩) g2 hf hle hfit i r j p (by rw [hdrop, List.append_nil]; exact hi) hj
                    refine ⟨x, hx, ?_⟩
                    rw [if_neg (by simp)]
                    exact ⟨hp.1, hp.2.mono e1.sS e1.sW⟩⟩
                have hφ : upd φ b (some g) = φ := by
                  funext k
                  unfold upd
                  split
                  · rename_i hk; rw [hk, hg]
                  · rfl
                have hH : upd (upd st.hp b (some (.dead ver))) b (some (.row (ver + 1) T (szOf P T) false (rows.take len ++ ys))) = upd st.hp b (some (.row (ver + 1) T (szOf P T) false (rows.take len ++ ys))) := by
                  funext k
                  unfold upd
                  split <;> simp_all
                rw [hφ] at r2
                simp only [St.hps] at r2
                rw [hH] at r2
                refine done_value (p := .sl b (ver + 1) 0 (len + ys.length)) (ups := [(b, .row (ver + 1) T (szOf P T) false (rows.take len ++ ys))]) hd r2 (x := .slice (some ⟨g, 0, none⟩) (len + ys.length) cap) (by rw [hrun]; simp only [Sem.run_bind, hr, Result.andThen_ok, Sem.run_pure]) ?_ hK
                refine ⟨⟨_, _, _, rfl⟩, .row (ver + 1) T (szOf P T) false (rows.take len ++ ys), by simp [updH, upd], Nat.le_refl _, fun _ => ?_⟩
                exact hdr_new hg (setRow_heap W g cs _ T (0, 0) h7) (by rw [hlen']; exact Nat.le_refl _) (by rw [hlen']; exact hroom) h6 (by rw [hcsz, ← h8, Nat.zero_add])
            · exact sound_grown hR hd (b := b) (ver := ver + 1) ht he (x := x) (A := A) (sLen := len) (sCap := cap) (olds := olds) (os := rows.take len) (fun blk hb' => by rw [hb] at hb'; cases hb'; exact Nat.lt_succ_self _) hx hfo hf hol hfc (by omega) hc2.2 hc2.1 hrun hK
          · simp [Rd.val] at hq
      · simp [Rd.val] at hq
    · simp [Rd.val] at h
  · simp [Rd.val] at h
end
end Go.Pi
