/- A sort of structs: the library's contract gives 'SortOk'. Own work of this session. -/
import Derived.Test.YtpjdoblfdeioaaaQbody
import Derived.Shelf.SlSortCmp.NoneTotal
set_option linter.unusedVariables false
set_option linter.unusedSimpArgs false
namespace Go.Pi
open Go.Proofs Go.Shelf Go.RowKit Go.Sort
section
variable {P : Program} {ρ : Ren} {α : Type} [Inhabited α]
def rowS (enc : α → List Value) (x : α) : List PV := (enc x).map PV.s
open Classical in
noncomputable def sortBy (fn T : Nat) (enc : α → List Value) (srt : List α → List α) : SortF := fun f ps T' rows =>
  if h : (f = fn ∧ ps = [] ∧ T' = T ∧ rows.length < 4611686018427387904) ∧ ∃ l : List α, l.map (rowS enc) = rows then some ((srt h.2.choose).map (rowS enc)) else none
omit [Inhabited α] in
theorem rowS_inj {enc : α → List Value} (hi : ∀ x y, enc x = enc y → x = y) {x y : α} (h : rowS enc x = rowS enc y) : x = y := by
  apply hi
  unfold rowS at h
  have gen : ∀ l r : List Value, l.map PV.s = r.map PV.s → l = r := by
    intro l
    induction l with
    | nil => intro r h; cases r with
      | nil => rfl
      | cons _ _ => cases h
    | cons a l ih => intro r h; cases r with
      | nil => cases h
      | cons b r => simp only [List.map_cons, List.cons.injEq, PV.s.injEq] at h; rw [h.1, ih r h.2]
  exact gen _ _ h
omit [Inhabited α] in
theorem map_inj {β : Type} {f : α → β} (hf : ∀ x y, f x = f y → x = y) : ∀ {l r : List α}, l.map f = r.map f → l = r
  | [], [], _ => rfl
  | [], _ :: _, h => by cases h
  | _ :: _, [], h => by cases h
  | a :: l, b :: r, h => by simp only [List.map_cons, List.cons.injEq] at h; rw [hf _ _ h.1, map_inj hf h.2]
omit [Inhabited α] in
theorem sortBy_eq {fn T : Nat} {enc : α → List Value} {srt : List α → List α} (hi : ∀ x y, enc x = enc y → x = y) (l : List α) (hl : l.length < 4611686018427387904) : sortBy fn T enc srt fn [] T (l.map (rowS enc)) = some ((srt l).map (rowS enc)) := by
  have h : (fn = fn ∧ ([] : List PV) = [] ∧ T = T ∧ (l.map (rowS enc)).length < 4611686018427387904) ∧ ∃ l' : List α, l'.map (rowS enc) = l.map (rowS enc) := ⟨⟨rfl, rfl, rfl, by rw [List.length_map]; exact hl⟩, l, rfl⟩
  unfold sortBy
  rw [dif_pos h]
  have e : h.2.choose = l := map_inj (fun _ _ => rowS_inj hi) h.2.choose_spec
  rw [e]
omit [Inhabited α] in
theorem grown_of_keep {W W' : World} (h : Keep W W' (fun _ => False)) : ∃ q os', W' = grow (W.drewN q) os' := by
  refine ⟨W'.drawn - W.drawn, W'.heap.extract W.heap.size W'.heap.size, ?_⟩
  have hh : W'.heap = W.heap ++ W'.heap.extract W.heap.size W'.heap.size := by
    apply Array.ext_getElem?
    intro i
    rw [Array.getElem?_append]
    split
    · rename_i hi
      exact h.block i hi (fun h => h)
    · rename_i hi
      rw [Array.getElem?_extract]
      by_cases h2 : i < W'.heap.size
      · rw [if_pos (by omega)]
        congr 1
        omega
      · rw [if_neg (by omega), Array.getElem?_eq_none (by omega)]
  have hd := h.drawn
  cases W with
  | mk a b c d e =>
    cases W' with
    | mk a' b' c' d' e' =>
      have h1 := h.os; have h2 := h.tape; have h3 := h.output
      simp only at h1 h2 h3 hd hh
      subst h1; subst h2; subst h3
      simp only [grow, World.drewN]
      congr 1
      omega
omit [Inhabited α] in
theorem trCs_plain' {W : World} {S : Bool → Nat → Prop} : ∀ {vs : List Value}, (∀ v ∈ vs, v.oneCell' = true) → TrCs P W S (vs.map PV.s) vs []
  | [], _ => .nil
  | v :: vs, h => by
    have c : RelC W S noφ noH (.s v) v := ⟨rfl, h v List.mem_cons_self⟩
    exact TrCs.cons (gs := []) (.pl c) (trCs_plain' fun w hw => h w (List.mem_cons_of_mem _ hw))
omit [Inhabited α] in
/-- What the reading says of a comparison, of the model. -/
theorem cmp_calls {cx : Cx} {C : CallF} (hC : CallOk cx C) {fn : Nat} {enc : α → List Value} {x y : α} {n : Int} (h1 : ∀ x, ∀ v ∈ enc x, v.oneCell' = true) (h : C fn [.ag (rowS enc x), .ag (rowS enc y)] = some ([.s (.int .i64 n)], [])) (W : World) :
    Calls cx.P fn #[.agg (enc x).toArray, .agg (enc y).toArray] W fun e W' => e = .returned (.int .i64 n) ∧ Keep W W' (fun _ => False) := by
  obtain ⟨hE, hc⟩ := hC _ _ _ _ h
  have tr : ∀ x, TrA cx.P W (fun _ _ => False) (.ag (rowS enc x)) (.agg (enc x).toArray) [] := fun x => .ag (trCs_plain' (h1 x))
  have h := hc W (fun _ _ => False) [] [.agg (enc x).toArray, .agg (enc y).toArray] { tr := TrAs.cons (gs := []) (tr x) (TrAs.cons (gs := []) (tr y) .nil), nodup := List.nodup_nil, apart := fun g hg => (by cases hg), sle := fun k h => h, slt := fun k h => h.elim, olt := fun g hg => (by cases hg) }
  refine Calls.mono h fun e W' hp => ?_
  obtain ⟨rs, S', O1, O2, hs, rfl, post⟩ := hp
  have hr : rs = [.int .i64 n] := by
    have := post.res
    cases this with
    | cons h1 h2 =>
      cases h2
      cases h1 with
      | cell h => cases h with
        | pl h => obtain ⟨rfl, _⟩ := h; rfl
  subst hr
  exact ⟨rfl, post.keep.mono (fun j _ hj => by cases hj)⟩
theorem sortOk_gen (L : SlLaysF0.n6 P ρ) (k : Nat) (enc : α → List Value) (hk : ∀ x, (enc x).length = k) (cf : α → α → Int) (srt : List α → List α) (hsp : ∀ l, (srt l).Perm l) (fn : Nat) (T : Nat) (hz : szOf P T = k)
    (hcmp : ∀ W x y, Calls P fn #[.agg (enc x).toArray, .agg (enc y).toArray] W fun e W' => e = .returned (.int .i64 (cf x y)) ∧ Keep W W' (fun _ => False)) (hE : Enters P (ρ.f 6))
    (hs : ∀ (g cap : Nat) (d : Array α) (W : World), CmpLays P fn #[] enc k cf g 0 d.size W → HoldsK enc k W g 0 d → g < W.heap.size → d.size < 4611686018427387904 → Calls P (ρ.f 6) #[.slice (some ⟨g, 0, none⟩) d.size cap, .func (.func fn) #[] #[]] W fun e w' => e = .returned (.tuple #[]) ∧ ∃ n os, w' = sortWorldK enc k W g 0 n (srt d.toList).toArray os) :
    SortOk P (ρ.f 6) (sortBy fn T enc srt) where
  enters := hE
  empty f W vs A cap := (AnyF.slices_SortFunc_none L A cap (.func (.func f) #[] vs.toArray) W).mono fun e W' ⟨he, hw⟩ => ⟨he, hw ▸ Keep.refl _ _⟩
  perm f ps T' rows rows' h := by
    unfold sortBy at h
    split at h
    · rename_i hc
      cases h
      have := (hsp hc.2.choose).map (rowS enc)
      rw [hc.2.choose_spec] at this
      exact this
    · cases h
  calls f ps T' rows rows' h hne W S vs g cap cs hps hle hlt hg hb hlen hcap hmax hsz hcell hpl := by
    unfold sortBy at h
    split at h
    · rename_i hc
      obtain ⟨⟨rfl, rfl, rfl, hl62⟩, hl⟩ := hc
      cases h
      generalize hd : hl.choose = d
      have hds : d.map (rowS enc) = rows := by rw [← hd]; exact hl.choose_spec
      have hvs : vs = [] := List.eq_nil_of_length_eq_zero hps.1
      subst hvs
      rw [hz] at hsz hcell hlen ⊢
      have hdl : rows.length = d.length := by rw [← hds, List.length_map]
      have hpos : 0 < d.length := by
        rw [← hdl]
        exact Nat.pos_of_ne_zero fun e => hne (List.eq_nil_of_length_eq_zero e)
      have hfit : d.toArray.size * k ≤ cs.size := by
        rw [← hsz, List.size_toArray]
        exact Nat.mul_le_mul_right _ (by omega)
      have get : ∀ t, t < d.toArray.size * k → cs[t]? = some (flatK enc k d.toArray)[t]! := by
        intro t ht
        have hk0 : 0 < k := by
          rcases Nat.eq_zero_or_pos k with e | e
          · subst e; simp at ht
          · exact e
        rw [get_flatK _ _ _ _ ht]
        have hi : t / k < d.length := by
          rw [List.size_toArray] at ht
          exact Nat.div_lt_of_lt_mul (by rw [Nat.mul_comm]; exact ht)
        have e1 : (d.toArray)[t / k]! = d[t / k] := by simp [hi]
        rw [e1]
        have hj : t % k < (enc d[t / k]).length := by rw [hk]; exact Nat.mod_lt _ hk0
        have h2 := (hcell (t / k) (rowS enc d[t / k]) (t % k) (enc d[t / k])[t % k] (by rw [← hds, List.getElem?_map, List.getElem?_eq_getElem hi]; rfl) (by rw [rowS, List.getElem?_map, List.getElem?_eq_getElem hj]; rfl)).1
        rw [show t / k * k + t % k = t by rw [Nat.mul_comm]; exact Nat.div_add_mod t k] at h2
        rw [h2, getElem!_pos (enc d[t / k]) (t % k) hj]
      have hH : HoldsK enc k W g 0 d.toArray := by
        intro j hj
        rw [size_flatK] at hj
        refine ⟨?_, ?_⟩
        · simp only [World.cell?, hb, Nat.zero_add, id]
          exact get j hj
        · simp [World.frozen?, hb]
      have hW : g < W.heap.size := (Array.getElem?_eq_some_iff.1 hb).1
      have hcl : CmpLays P f #[] enc k cf g 0 d.toArray.size W := fun m os dk _ x y => by
        exact Calls.mono (hcmp _ x y) fun e W' hh => ⟨hh.1, grown_of_keep hh.2⟩
      have hcon := hs g cap d.toArray W hcl hH hW (by rw [List.size_toArray, ← hdl]; exact hl62)
      rw [hdl]
      rw [List.size_toArray] at hcon
      refine Calls.mono hcon fun e W' ⟨he, n, os, hw⟩ => ⟨he, ?_⟩
      have hD : srt d.toArray.toList = srt d := by simp
      rw [hD] at hw
      have hDl : (srt d).length = d.length := (hsp d).length_eq
      generalize srt d = D at hw hDl ⊢
      have hheap : W'.heap = W.heap.modify g (onCells (putCells id 0 (flatK enc k D.toArray))) ++ os := by rw [hw]; rfl
      have hsF : (flatK enc k D.toArray).size = d.length * k := by rw [size_flatK, List.size_toArray, hDl]
      have hget : ∀ i, (putCells id 0 (flatK enc k D.toArray) cs)[i]? = cs[i]?.map fun x => if i < d.length * k then (flatK enc k D.toArray)[i]! else x := by
        intro i
        unfold putCells
        rw [Array.getElem?_mapIdx]
        simp only [Nat.zero_le, true_and, Nat.zero_add, hsF, Nat.sub_zero, id]
      refine ⟨⟨by rw [hw]; rfl, by rw [hw]; rfl, by rw [hw]; rfl, by rw [hheap]; simp, by rw [hw]; exact Nat.le_add_right _ _, fun j hj hne => ?_⟩, putCells id 0 (flatK enc k D.toArray) cs, ?_, by simp [putCells], fun i hi => ?_, fun i r j x hi hj => ?_⟩
      · rw [hheap, Array.getElem?_append, if_pos (by simpa using hj), Array.getElem?_modify, if_neg (fun e => hne e.symm)]
      · rw [hheap, Array.getElem?_append, if_pos (by simpa using hW), Array.getElem?_modify, if_pos rfl, hb]
        rfl
      · rw [hget]
        cases cs[i]? with
        | none => rfl
        | some x => rw [Option.map_some, if_neg (by omega)]
      · rw [List.getElem?_map] at hi
        cases hx : D[i]? with
        | none => simp [hx] at hi
        | some y =>
          simp only [hx, Option.map_some, Option.some.injEq] at hi
          subst hi
          rw [rowS, List.getElem?_map] at hj
          cases hv : (enc y)[j]? with
          | none => simp [hv] at hj
          | some v =>
            simp only [hv, Option.map_some, Option.some.injEq, PV.s.injEq] at hj
            subst hj
            obtain ⟨hi', _⟩ := List.getElem?_eq_some_iff.1 hx
            obtain ⟨hj', hjv⟩ := List.getElem?_eq_some_iff.1 hv
            rw [hk] at hj'
            have hlt : i * k + j < d.length * k := by
              have := Nat.mul_le_mul_right k (show i + 1 ≤ d.length by omega)
              rw [Nat.add_mul, Nat.one_mul] at this
              omega
            have hcs : i * k + j < cs.size := Nat.lt_of_lt_of_le hlt (by rw [List.size_toArray] at hfit; exact hfit)
            have e1 : (i * k + j) / k = i := (blk_iff k i _ (by omega)).1 ⟨by omega, by omega⟩
            have e2 : (i * k + j) % k = j := by rw [Nat.mod_eq_sub_div_mul, e1]; omega
            rw [hget, Array.getElem?_eq_getElem hcs, Option.map_some, if_pos hlt, get_flatK _ _ _ _ (by rw [List.size_toArray, hDl]; exact hlt), e1, e2]
            have e3 : (D.toArray)[i]! = y := by
              rw [getElem!_pos D.toArray i (by simpa using hi')]
              obtain ⟨_, h⟩ := List.getElem?_eq_some_iff.1 hx
              simpa using h
            rw [e3, getElem!_pos (enc y) j (by rw [hk]; omega), hjv]
    · cases h
theorem sortOk_agg (L : SlLaysF0.n6 P ρ) (k : Nat) (aE : ∀ w, (isAgg (ρ.t 24)).run P w = .ok true w) (zE : ∀ w, (Go.sizeOf (ρ.t 24)).run P w = .ok k w) (enc : α → List Value) (hk : ∀ x, (enc x).length = k) (h1 : ∀ x, ∀ v ∈ enc x, v.oneCell' = true) (cf : α → α → Int) (hO : SWO (ltOf cf))
    (hT : ∀ x y, (ltOf cf) x y = false → (ltOf cf) y x = false → x = y) (fn : Nat) (eg : ∀ args w, (callFunc fn args).run P w = .ok (.enter fn args) w) (T : Nat) (hz : szOf P T = k)
    (hcmp : ∀ W x y, Calls P fn #[.agg (enc x).toArray, .agg (enc y).toArray] W fun e W' => e = .returned (.int .i64 (cf x y)) ∧ Keep W W' (fun _ => False)) (hE : Enters P (ρ.f 6)) :
    SortOk P (ρ.f 6) (sortBy fn T enc fun l => l.mergeSort fun x y => !(ltOf cf) y x) :=
  sortOk_gen L k enc hk cf _ (fun l => List.mergeSort_perm l _) fn T hz hcmp hE fun g cap d W hcl hH hW hsz => AnyQ.slices_SortFunc_total L k aE zE enc hk h1 cf hO fn #[] g 0 cap d W eg hcl hH hW hsz hT
/-- As Go's own sort leaves it. -/
def pdqL (lt : α → α → Bool) (l : List α) : List α := (pdq lt l.toArray 0 l.length (Lib.bitLen l.length) true true).toList
theorem pdqL_perm {lt : α → α → Bool} (hO : SWO lt) (l : List α) : (pdqL lt l).Perm l := by
  have h := (pdq_sorts lt hO l.toArray 0 l.length (Lib.bitLen l.length) true true (Nat.zero_le _) (by simp) (Or.inl rfl)).1
  obtain ⟨h1, _, h2⟩ := h
  simp only [List.size_toArray] at h1
  unfold pdqL
  generalize pdq lt l.toArray 0 l.length (Lib.bitLen l.length) true true = d at h1 h2
  have e1 : d.extract 0 l.length = d := by rw [← h1]; simp
  have e2 : (l.toArray.extract 0 l.length) = l.toArray := by simp
  rw [e1, e2] at h2
  simpa using h2
theorem pdqL_sorted {lt : α → α → Bool} (hO : SWO lt) (l : List α) : (pdqL lt l).Pairwise fun a b => lt b a = false := by
  have h := pdq_sorts lt hO l.toArray 0 l.length (Lib.bitLen l.length) true true (Nat.zero_le _) (by simp) (Or.inl rfl)
  obtain ⟨⟨h1, _, _⟩, h2⟩ := h
  simp only [List.size_toArray] at h1
  unfold pdqL
  generalize pdq lt l.toArray 0 l.length (Lib.bitLen l.length) true true = d at h1 h2
  rw [List.pairwise_iff_getElem]
  intro i j hi hj hij
  have hi' : i < d.size := by simpa using hi
  have hj' : j < d.size := by simpa using hj
  have := h2 i j (Nat.zero_le _) hij (by omega)
  rw [getElem!_pos d i hi', getElem!_pos d j hj'] at this
  simpa using this
theorem sortOk_pdq (L : SlLaysF0.n6 P ρ) (k : Nat) (aE : ∀ w, (isAgg (ρ.t 24)).run P w = .ok true w) (zE : ∀ w, (Go.sizeOf (ρ.t 24)).run P w = .ok k w) (enc : α → List Value) (hk : ∀ x, (enc x).length = k) (h1 : ∀ x, ∀ v ∈ enc x, v.oneCell' = true) (cf : α → α → Int) (hO : SWO (ltOf cf))
    (fn : Nat) (eg : ∀ args w, (callFunc fn args).run P w = .ok (.enter fn args) w) (T : Nat) (hz : szOf P T = k)
    (hcmp : ∀ W x y, Calls P fn #[.agg (enc x).toArray, .agg (enc y).toArray] W fun e W' => e = .returned (.int .i64 (cf x y)) ∧ Keep W W' (fun _ => False)) (hE : Enters P (ρ.f 6)) :
    SortOk P (ρ.f 6) (sortBy fn T enc (pdqL (ltOf cf))) :=
  sortOk_gen L k enc hk cf _ (pdqL_perm hO) fn T hz hcmp hE fun g cap d W hcl hH hW hsz => (AnyQ.slices_SortFunc_eq L k aE zE enc hk h1 cf hO fn #[] g 0 cap d W eg hcl hH hW hsz).mono fun e w' ⟨he, n, os, hw⟩ => ⟨he, n, os, by rw [hw]; unfold pdqL; simp⟩
end
end Go.Pi
