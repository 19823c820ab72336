/- A call, from the caller's side. Own work of this session. -/
import Derived.Test.YtpjdoblfdeioaaaQtr
set_option linter.unusedVariables false
set_option linter.unusedSimpArgs false
namespace Go.Pi
def packV : List Value → Value
  | [v] => v
  | vs => .tuple vs.toArray
inductive TrOuts (P : Program) (W : World) (S : Bool → Nat → Prop) : List Nat → List Value → List PV → List Nat → List Nat → Prop
  | nil : TrOuts P W S [] [] [] [] []
  | two {T g : Nat} {cells : List PV} {xs : Array Value} {ms : List Nat} {vs : List Value} {os : List PV} {hs g1 gs : List Nat} : W.heap[g]? = some (.cells xs T (0, 0)) → TrCs P W S cells xs.toList g1 → TrOuts P W S ms vs os hs gs → TrOuts P W S (2 :: ms) (.pointer (some ⟨g, 0, none⟩) :: vs) (.bx T cells :: os) (g :: hs) (g1 ++ gs)
  | skip {m : Nat} {v : Value} {ms : List Nat} {vs : List Value} {os : List PV} {hs gs : List Nat} : m ≠ 2 → TrOuts P W S ms vs os hs gs → TrOuts P W S (m :: ms) (v :: vs) os hs gs
structure Pre (P : Program) (W : World) (S : Bool → Nat → Prop) (O : List Nat) (tvs : List PV) (vs : List Value) : Prop where
  tr : TrAs P W S tvs vs O
  nodup : O.Nodup
  apart : ∀ g ∈ O, ¬ S true g
  sle : ∀ k, S false k → S true k
  slt : ∀ k, S true k → k < W.heap.size
  olt : ∀ g ∈ O, g < W.heap.size
structure PostR (P : Program) (W : World) (S : Bool → Nat → Prop) (O : List Nat) (md : List Nat) (vs : List Value) (res outs : List PV) (rs : List Value) (W' : World) (S' : Bool → Nat → Prop) (O1 O2 hs : List Nat) : Prop where
  keep : Keep W W' (fun k => k ∈ O)
  sS : ∀ ln k, S ln k → S' ln k
  res : TrAs P W' S' res rs O1
  outs : TrOuts P W' S' md vs outs hs O2
  nodup : (O1 ++ (O2 ++ hs)).Nodup
  own : ∀ g ∈ O1 ++ (O2 ++ hs), ¬ S' true g ∧ (g ∈ O ∨ W.heap.size ≤ g)
  sle : ∀ k, S' false k → S' true k
  slt : ∀ k, S' true k → k < W'.heap.size
  s1 : ∀ k, S' true k → S true k ∨ S' false k
  s2 : ∀ k, S' false k → S false k ∨ k ∈ O ∨ W.heap.size ≤ k
def Enters (P : Program) (g : Nat) : Prop := ∃ fn, P.funcs[g]? = some fn ∧ (fn.name == "runtime.NumGoroutine") = false ∧ fn.body.isNone = false
def CallOk (cx : Cx) (C : CallF) : Prop := ∀ g tvs res outs, C g tvs = some (res, outs) → Enters cx.P g ∧ ∀ W S O vs, Pre cx.P W S O tvs vs →
  Calls cx.P g vs.toArray W fun e W' => ∃ rs S' O1 O2 hs, e = .returned (packV rs) ∧ PostR cx.P W S O (cx.md g) vs res outs rs W' S' O1 O2 hs
section
variable {P : Program} {W0 W W' : World} {O0 O : List Nat} {S0 : Base} {S S' S2 Sc : Bool → Nat → Prop} {φ φ' : Nat → Option Nat} {st : St} {a : Act}
/-! What is not lent asks for less. -/
theorem Sh.unlend {p : PV} {v : Value} (h : Sh W S p v) (hS : ∀ k, S false k → S' false k) : p.perm = true → Sh W S' p v := by
  induction h with
  | s h => exact fun _ => .s h
  | sl x h1 h2 h3 h4 h5 h6 ih =>
    intro hp
    rename_i ln rows A c sz
    have hln : ln = false := by cases ln <;> simp_all [PV.perm]
    subst hln
    refine .sl x h1 h2 h3 h4 (fun hne => ?_) (fun i r j p hi hj => ih i r j p hi hj (h4 r (List.mem_of_getElem? hi) p (List.mem_of_getElem? hj)))
    obtain ⟨ad, e, hs, hc⟩ := h5 hne
    exact ⟨ad, e, hS _ hs, hc⟩
theorem RelC.unlend {p : PV} {v : Value} (h : RelC W S noφ noH p v) (hS : ∀ k, S false k → S' false k) (hp : lentC p = false) : RelC W S' noφ noH p v := by
  cases p with
  | u => exact h
  | s a => exact h
  | z => exact h
  | sh ln rows =>
    have : ln = false := hp
    subst this
    exact Sh.unlend h hS rfl
  | sl b ver off len => obtain ⟨_, blk, hb, _⟩ := h; cases hb
  | ad b ver i j => obtain ⟨_, blk, hb, _⟩ := h; cases hb
  | mp b ver => obtain ⟨_, blk, hb, _⟩ := h; cases hb
  | sa ln cs => cases hp
  | fn f caps => cases caps with
    | nil => exact h
    | cons _ _ => cases hp
  | _ => exact h.elim
theorem TrC.unlend {p : PV} {v : Value} {gs : List Nat} (h : TrC P W S p v gs) (hS : ∀ k, S false k → S' false k) (hp : lentC p = false) : TrC P W S' p v gs := by
  cases h with
  | pl h => exact .pl (h.unlend hS hp)
  | nil => exact .nil
  | own h1 h2 h3 h4 h5 h6 =>
    refine .own h1 h2 h3 h4 h5 (fun i r j p hi hj => ?_)
    obtain ⟨x, hx, hp, hs⟩ := h6 i r j p hi hj
    exact ⟨x, hx, hp, hs.unlend hS hp⟩
theorem TrCs.unlend {ps : List PV} {vs : List Value} {gs : List Nat} (h : TrCs P W S ps vs gs) (hS : ∀ k, S false k → S' false k) : ps.any lentC = false → TrCs P W S' ps vs gs := by
  induction h with
  | nil => exact fun _ => .nil
  | cons h1 h2 ih =>
    intro hp
    simp only [List.any_cons, Bool.or_eq_false_iff] at hp
    exact .cons (h1.unlend hS hp.1) (ih hp.2)
theorem TrA.unlend {p : PV} {v : Value} {gs : List Nat} (h : TrA P W S p v gs) (hS : ∀ k, S false k → S' false k) (hp : lentV p = false) : TrA P W S' p v gs := by
  cases h with
  | cell h =>
    refine .cell (h.unlend hS ?_)
    cases p with
    | ag cs => cases h with | pl h => exact h.elim
    | bx T cs => cases h with | pl h => exact h.elim
    | _ => exact hp
  | ag h => exact .ag (h.unlend hS hp)
  | fn h =>
    rename_i f cs xs
    cases cs with
    | nil => exact .fn ⟨h.1, fun i p x hp => by simp at hp⟩
    | cons _ _ => cases hp
  | bx h1 h2 => exact .bx h1 (h2.unlend hS hp)
theorem TrAs.unlend {ps : List PV} {vs : List Value} {gs : List Nat} (h : TrAs P W S ps vs gs) (hS : ∀ k, S false k → S' false k) : ps.any lentV = false → TrAs P W S' ps vs gs := by
  induction h with
  | nil => exact fun _ => .nil
  | cons h1 h2 ih =>
    intro hp
    simp only [List.any_cons, Bool.or_eq_false_iff] at hp
    exact .cons (h1.unlend hS hp.1) (ih hp.2)
theorem TrOuts.unlend {ms : List Nat} {vs : List Value} {ps : List PV} {hs gs : List Nat} (h : TrOuts P W S ms vs ps hs gs) (hS : ∀ k, S false k → S' false k) : ps.any lentV = false → TrOuts P W S' ms vs ps hs gs := by
  induction h with
  | nil => exact fun _ => .nil
  | two h0 h1 h2 ih =>
    intro hp
    simp only [List.any_cons, Bool.or_eq_false_iff] at hp
    exact .two h0 (h1.unlend hS hp.1) (ih hp.2)
  | skip hm h ih => exact fun hp => .skip hm (ih hp)
theorem TrOuts.mono {ms : List Nat} {vs : List Value} {ps : List PV} {hs gs : List Nat} (h : TrOuts P W S ms vs ps hs gs) (hS : ∀ ln k, S ln k → S' ln k) : TrOuts P W S' ms vs ps hs gs := by
  induction h with
  | nil => exact .nil
  | two h0 h1 h2 ih => exact .two h0 (h1.mono hS (fun _ _ _ => rfl) (fun _ _ => rfl)) ih
  | skip hm h ih => exact .skip hm ih
/-! While the call runs. -/
def mid (H : Heap) (K B : List Nat) : Heap := fun b =>
  if b ∈ B then (match H b with | some (.row v T sz _ _) => some (.row v T sz true [List.replicate sz .u]) | x => x)
  else if b ∈ K then (match H b with | some blk => some (.dead (blk.ver + 1)) | none => none) else H b
theorem Rel.mid (h : Rel W0 O0 S0 S φ st a W) {K B : List Nat} (hB : ∀ b ∈ B, b ∈ K ∧ ∃ v T sz cells, st.hp b = some (.row v T sz true [cells])) (hK : ∀ b ∈ K, ∃ v T sz box rows, st.hp b = some (.row v T sz box rows)) (hk : Keep W W' (fun k => k ∈ O)) (hO : ∀ g ∈ O, ∃ b ∈ K, φ b = some g)
    (hbox : ∀ b ∈ B, ∀ g v T sz cells, st.hp b = some (.row v T sz true [cells]) → φ b = some g → ¬ S2 true g ∧ ∃ cs', W'.heap[g]? = some (.cells cs' T (0, 0)) ∧ cs'.size = sz ∧ ∀ x ∈ cs'.toList, x.oneCell' = true)
    (hS : ∀ ln k, S ln k → S2 ln k) (h1 : ∀ k, S2 true k → S true k ∨ S2 false k) (h2 : ∀ k, S2 false k → S false k ∨ k ∈ O ∨ W.heap.size ≤ k) (hle : ∀ k, S2 false k → S2 true k) (hlt : ∀ k, S2 true k → k < W'.heap.size) :
    Rel W0 O0 S0 S2 φ (st.hps (mid st.hp K B)) a W' ∧ Ext W S φ st.hp W' S2 φ (Pi.mid st.hp K B) := by
  have hOown : ∀ g ∈ O, ¬ S true g ∧ (g ∈ O0 ∨ W0.heap.size ≤ g) ∧ g < W.heap.size := by
    intro g hg
    obtain ⟨b, hb, hφ⟩ := hO g hg
    obtain ⟨v, T, sz, box, rows, hr⟩ := hK b hb
    exact ⟨(h.own b _ _ _ _ _ g hr hφ).1, (h.own b _ _ _ _ _ g hr hφ).2, h.sz hr hφ⟩
  have hSW : ∀ ln k, S ln k → W'.heap[k]? = W.heap[k]? := fun ln k hs => by
    have hs' : S true k := by cases ln; exact h.sle k hs; exact hs
    exact hk.block k (h.slt k hs') (fun hm => (hOown k hm).1 hs')
  have hoff : ∀ b v T sz box rows g, b ∉ K → st.hp b = some (.row v T sz box rows) → φ b = some g → g ∉ O := by
    intro b v T sz box rows g hb hr hφ hm
    obtain ⟨b', hb', hφ'⟩ := hO g hm
    obtain ⟨v', T', sz', box', rows', hr'⟩ := hK b' hb'
    have := h.inj b' b _ _ _ _ _ _ _ _ _ _ g hr' hr hφ' hφ
    subst this
    exact hb hb'
  have hoffW : ∀ b v T sz box rows g, b ∉ K → st.hp b = some (.row v T sz box rows) → φ b = some g → W'.heap[g]? = W.heap[g]? := fun b v T sz box rows g hb hr hφ => hk.block g (h.sz hr hφ) (hoff b v T sz box rows g hb hr hφ)
  have hrow : ∀ b v T sz box rows, (Pi.mid st.hp K B) b = some (.row v T sz box rows) → (b ∈ B ∧ box = true ∧ rows = [List.replicate sz .u] ∧ ∃ cells, st.hp b = some (.row v T sz true [cells])) ∨ (b ∉ B ∧ b ∉ K ∧ st.hp b = some (.row v T sz box rows)) := by
    intro b v T sz box rows hx
    unfold Pi.mid at hx
    split at hx
    · rename_i hb
      obtain ⟨_, v', T', sz', cells, hr⟩ := hB b hb
      rw [hr] at hx
      simp only [Option.some.injEq, Blk.row.injEq] at hx
      obtain ⟨rfl, rfl, rfl, rfl, rfl⟩ := hx
      exact .inl ⟨hb, rfl, rfl, cells, hr⟩
    · rename_i hb
      split at hx
      · split at hx
        · cases hx
        · cases hx
      · rename_i hb2
        exact .inr ⟨hb, hb2, hx⟩
  have hrow0 : ∀ b v T sz box rows, (Pi.mid st.hp K B) b = some (.row v T sz box rows) → ∃ box rows, st.hp b = some (.row v T sz box rows) := by
    intro b v T sz box rows hx
    rcases hrow b v T sz box rows hx with ⟨_, _, _, cells, hr⟩ | ⟨_, _, hr⟩
    · exact ⟨_, _, hr⟩
    · exact ⟨_, _, hr⟩
  have e : Ext W S φ st.hp W' S2 φ (Pi.mid st.hp K B) := by
    refine ⟨hS, hSW, fun b blk hb => ?_⟩
    by_cases c1 : b ∈ B
    · obtain ⟨_, v, T, sz, cells, hr⟩ := hB b c1
      rw [hr] at hb
      cases hb
      refine ⟨.row v T sz true [List.replicate sz .u], by simp [Pi.mid, c1, hr], Nat.le_refl _, fun _ => ⟨fun off len x hh => ?_, fun i j x hh => hh⟩⟩
      simp only [Hdr] at hh ⊢
      cases hg : φ b with
      | none => simp only [hg] at hh; obtain ⟨h0, _⟩ := hh; cases h0
      | some g =>
        simp only [hg] at hh ⊢
        obtain ⟨A, cap, cs, g1, g2, g3, g4, g5, g6, g7, g8⟩ := hh
        obtain ⟨_, cs', k1, k2, _⟩ := hbox b c1 g v T sz cells hr hg
        have hB0 := h.blk b _ hr
        simp only [BlkR, hg] at hB0
        obtain ⟨cs0, q1, _, _, q4, _⟩ := hB0
        rw [g7] at q1
        cases q1
        have hq := q4.2 trivial
        simp only [List.length_cons, List.length_nil, Nat.zero_add, Nat.one_mul] at hq
        exact ⟨A, cap, cs', g1, g2, g3, g4, g5, g6, k1, g8.trans (hq.trans k2.symm)⟩
    · by_cases c2 : b ∈ K
      · exact ⟨.dead (blk.ver + 1), by simp [Pi.mid, c1, c2, hb], Nat.le_succ _, fun he => by simp [Blk.ver] at he⟩
      · refine ⟨blk, by simp [Pi.mid, c1, c2, hb], Nat.le_refl _, fun _ => ⟨fun off len x hh => ?_, fun i j x hh => hh⟩⟩
        cases blk with
        | dead v => trivial
        | mp v ks => trivial
        | row v T sz box rows =>
          simp only [Hdr] at hh ⊢
          cases hg : φ b with
          | none => simpa only [hg] using hh
          | some g =>
            simp only [hg] at hh ⊢
            obtain ⟨A, cap, cs, g1, g2, g3, g4, g5, g6, g7, g8⟩ := hh
            exact ⟨A, cap, cs, g1, g2, g3, g4, g5, g6, (hoffW b _ _ _ _ _ g c2 hb hg).trans g7, g8⟩
  have hmp : ∀ b v ks, (Pi.mid st.hp K B) b = some (.mp v ks) → st.hp b = some (.mp v ks) := by
    intro b v ks hx
    unfold Pi.mid at hx
    split at hx
    · rename_i hb
      obtain ⟨_, v', T', sz', cells, hr⟩ := hB b hb
      rw [hr] at hx
      cases hx
    · split at hx
      · split at hx
        · cases hx
        · cases hx
      · exact hx
  have hmO : ∀ b v ks g, st.hp b = some (.mp v ks) → φ b = some g → g ∉ O := by
    intro b v ks g hb hg hm
    obtain ⟨b', hb', hφ'⟩ := hO g hm
    obtain ⟨v', T', sz', box', rows', hr'⟩ := hK b' hb'
    exact h.rowmp hr' hφ' hb hg
  have hmps : MpOk W0 O0 S2 φ (st.hps (Pi.mid st.hp K B)).hp W' := h.mps.mono (fun b v ks hx => ⟨⟨v, hmp b v ks hx⟩, rfl⟩) (fun b v ks g hb hg => hk.block g (h.mz hb hg) (hmO b v ks g hb hg))
    (fun b v ks g hb hg hns hs => by
      rcases h1 g hs with q | q
      · exact hns q
      · rcases h2 g q with q | q | q
        · exact hns (h.sle _ q)
        · exact hmO b v ks g hb hg q
        · exact absurd (h.mz hb hg) (Nat.not_lt_of_le q))
  refine ⟨{ keep := h.keep.trans hk (fun j hj => (hOown j hj).2.1), own := fun b v T sz box rows g hx hg => ?_, inj := fun b1 b2 v v' T1 T2 sz1 sz2 bx1 bx2 r1 r2 k x1 x2 e1 e2 => ?_, blk := fun b blk hx => ?_, mps := hmps, sl := fun t => (h.sl t).mono e, sle := hle, slt := hlt, s0 := fun ln k hs => hS _ _ (h.s0 _ _ hs), s1 := fun k hs => ?_, s2 := fun k hs => ?_, dfr := h.dfr, par := h.par }, e⟩
  · rcases hrow b v T sz box rows hx with ⟨c1, _, _, cells, hr⟩ | ⟨_, c2, hr⟩
    · exact ⟨(hbox b c1 g v T sz cells hr hg).1, (h.own b _ _ _ _ _ g hr hg).2⟩
    · refine ⟨fun hs => ?_, (h.own b _ _ _ _ _ g hr hg).2⟩
      rcases h1 g hs with q | q
      · exact (h.own b _ _ _ _ _ g hr hg).1 q
      · rcases h2 g q with q | q | q
        · exact (h.own b _ _ _ _ _ g hr hg).1 (h.sle _ q)
        · exact hoff b _ _ _ _ _ g c2 hr hg q
        · exact absurd (h.sz hr hg) (Nat.not_lt_of_le q)
  · obtain ⟨_, _, y1⟩ := hrow0 _ _ _ _ _ _ x1
    obtain ⟨_, _, y2⟩ := hrow0 _ _ _ _ _ _ x2
    exact h.inj b1 b2 _ _ _ _ _ _ _ _ _ _ k y1 y2 e1 e2
  · cases blk with
    | dead v => trivial
    | mp v ks => trivial
    | row v T sz box rows =>
      rcases hrow b v T sz box rows hx with ⟨c1, rfl, rfl, cells, hr⟩ | ⟨_, c2, hr⟩
      · have hB0 := h.blk b _ hr
        simp only [BlkR] at hB0 ⊢
        cases hg : φ b with
        | none => simp only [hg] at hB0; exact absurd hB0.2 (by simp)
        | some g =>
          simp only [hg]
          obtain ⟨_, cs', k1, k2, k3⟩ := hbox b c1 g v T sz cells hr hg
          refine ⟨cs', k1, fun r hr => by simp at hr; subst hr; simp, by simp [k2], ⟨by simp [maxI], fun _ => by simp [k2]⟩, fun i r j p hi hj => ?_⟩
          cases i with
          | zero =>
            simp only [List.getElem?_cons_zero, Option.some.injEq] at hi
            subst hi
            rw [List.getElem?_replicate] at hj
            split at hj
            · rename_i hlt
              cases hj
              have hlt' : j < cs'.toList.length := by rw [Array.length_toList, k2]; exact hlt
              have hx := List.getElem?_eq_getElem hlt'
              refine ⟨_, by rw [Nat.zero_mul, Nat.zero_add, ← Array.getElem?_toList]; exact hx, ?_⟩
              rw [if_pos trivial]
              exact k3 _ (List.mem_of_getElem? hx)
            · cases hj
          | succ i => simp at hi
      · exact (h.blk b _ hr).mono e rfl (fun _ g hg => hoffW b _ _ _ _ _ g c2 hr hg)
  · rcases h1 k hs with q | q
    · rcases h.s1 k q with q | q
      · exact .inl q
      · exact .inr (hS _ _ q)
    · exact .inr q
  · rcases h2 k hs with q | q | q
    · exact h.s2 k q
    · exact .inr (hOown k q).2.1
    · exact .inr (.inr (Nat.le_trans h.keep.size q))
/-! What came is taken in. -/
def Free (φ : Nat → Option Nat) (H : Heap) (S : Bool → Nat → Prop) (W0 : World) (O0 gs : List Nat) : Prop := ∀ g ∈ gs, ¬ Live φ H g ∧ ¬ S true g ∧ (g ∈ O0 ∨ W0.heap.size ≤ g)
def Cur (H0 H1 : Heap) (D : List Nat) : Prop := ∀ k, k ∉ D → ∀ blk, H1 k = some blk → ∃ blk0, H0 k = some blk0 ∧ blk.ver ≤ blk0.ver + 1
theorem live_upd {φ' : Nat → Option Nat} {H : Heap} {k g : Nat} {b : Blk} (hφ : ∀ b', b' ≠ k → φ' b' = φ b') (h : Live φ' (upd H k (some b)) g) : Live φ H g ∨ φ' k = some g := by
  rcases h with ⟨b', v, T, sz, box, rows, hb, hg⟩ | ⟨b', v, ks, hb, hg⟩
  · by_cases hbb : b' = k
    · subst hbb; exact .inr hg
    · simp only [upd, if_neg hbb] at hb
      exact .inl (.inl ⟨b', v, T, sz, box, rows, hb, by rw [← hφ b' hbb]; exact hg⟩)
  · by_cases hbb : b' = k
    · subst hbb; exact .inr hg
    · simp only [upd, if_neg hbb] at hb
      exact .inl (.inr ⟨b', v, ks, hb, by rw [← hφ b' hbb]; exact hg⟩)
theorem place_own (h : Rel W0 O0 S0 S φ st a W) {k ver T : Nat} {rows : List (List PV)} {v : Value} {gs : List Nat} (ht : TrC P W S (.ow T rows) v gs) (hv : ∀ blk, st.hp k = some blk → blk.ver < ver) (hf : Free φ st.hp S W0 O0 gs) :
    ∃ φ', Rel W0 O0 S0 S φ' (st.hps (upd st.hp k (some (.row ver T (szOf P T) false rows)))) a W ∧ Ext W S φ st.hp W S φ' (upd st.hp k (some (.row ver T (szOf P T) false rows))) ∧ RelC W S φ' (upd st.hp k (some (.row ver T (szOf P T) false rows))) (.sl k ver 0 rows.length) v ∧ (∀ g, Live φ' (upd st.hp k (some (.row ver T (szOf P T) false rows))) g → Live φ st.hp g ∨ g ∈ gs) ∧ ∀ b', b' ≠ k → φ' b' = φ b' := by
  cases ht with
  | pl h => exact h.elim
  | nil =>
    obtain ⟨r1, e1⟩ := h.place (b := k) (ver := ver) (T := T) (sz := szOf P T) (box := false) (rows := []) (g := none) hv (fun k hk => by cases hk) ⟨rfl, rfl⟩
    refine ⟨_, r1, e1, ⟨⟨_, _, _, rfl⟩, .row ver T (szOf P T) false [], by simp [upd], Nat.le_refl _, fun _ => ?_⟩, fun g hg => ?_, fun b' hb => by simp [upd, hb]⟩
    · simp [Hdr, upd]
    · rcases live_upd (φ := φ) (fun b' hb => by simp [upd, hb]) hg with h | h
      · exact .inl h
      · simp [upd] at h
  | own h1 h2 h3 h4 h5 h6 =>
    rename_i g cap cs
    obtain ⟨f1, f2, f3⟩ := hf g (by simp)
    obtain ⟨r1, e1⟩ := h.place (b := k) (ver := ver) (T := T) (sz := szOf P T) (box := false) (rows := rows) (g := some g) hv (fun k' hk => by
        cases hk
        exact ⟨f2, f3, fun b' v' T' sz' box' rows' _ hb' hg' => f1 (.inl ⟨b', v', T', sz', box', rows', hb', hg'⟩)⟩)
      ⟨cs, h1, h2, by rw [← h5]; exact Nat.mul_le_mul_right _ h3, ⟨Nat.le_trans h3 h4, fun hb => by cases hb⟩, fun i r j p hi hj => by
        obtain ⟨x, hx, hp⟩ := h6 i r j p hi hj
        exact ⟨x, hx, by rw [if_neg (by simp)]; exact hp⟩⟩
    refine ⟨_, r1, e1, ⟨⟨_, _, _, rfl⟩, .row ver T (szOf P T) false rows, by simp [upd], Nat.le_refl _, fun _ => ?_⟩, fun g' hg => ?_, fun b' hb => by simp [upd, hb]⟩
    · exact hdr_new (by simp [upd]) h1 (Nat.le_refl _) h3 h4 h5
    · rcases live_upd (φ := φ) (fun b' hb => by simp [upd, hb]) hg with h | h
      · exact .inl h
      · simp only [upd, if_true, Option.some.injEq] at h
        exact .inr (by simp [h])
theorem TrC.plain {p : PV} {v : Value} {gs : List Nat} (h : TrC P W S p v gs) (hp : ∀ T rows, p ≠ .ow T rows) : RelC W S noφ noH p v := by
  cases h with
  | pl h => exact h
  | nil => exact absurd rfl (hp _ _)
  | own => exact absurd rfl (hp _ _)
theorem Cur.step {H0 H1 : Heap} {D : List Nat} (h : Cur H0 H1 D) (k : Nat) (x : Option Blk) : Cur H0 (upd H1 k x) (D ++ [k]) := by
  intro k' hk' blk hb
  simp only [List.mem_append, List.mem_singleton, not_or] at hk'
  simp only [upd, if_neg hk'.2] at hb
  exact h k' hk'.1 blk hb
theorem Cur.mono {H0 H1 : Heap} {D D' : List Nat} (h : Cur H0 H1 D) (hd : ∀ k ∈ D, k ∈ D') : Cur H0 H1 D' := fun k hk => h k (fun hm => hk (hd k hm))
theorem backCell_rel {H0 : Heap} {D : List Nat} (h : Rel W0 O0 S0 S φ st a W) {k : Nat} {p q : PV} {ups : Ups} {v : Value} {gs : List Nat} (ht : TrC P W S p v gs) (hf : Free φ st.hp S W0 O0 gs) (hc : Cur H0 st.hp D) (hb : (backCell P k p).val H0 = some (q, ups)) (hd : ∀ k ∈ ups.map (·.1), k ∉ D) :
    ∃ φ', Rel W0 O0 S0 S φ' (st.hps (updH st.hp ups)) a W ∧ Ext W S φ st.hp W S φ' (updH st.hp ups) ∧ RelC W S φ' (updH st.hp ups) q v ∧ Cur H0 (updH st.hp ups) (D ++ ups.map (·.1)) ∧ (∀ g, Live φ' (updH st.hp ups) g → Live φ st.hp g ∨ g ∈ gs) ∧ ∀ b', b' ∉ ups.map (·.1) → φ' b' = φ b' := by
  unfold backCell at hb
  split at hb
  · rename_i T rows
    rw [Rd.val_get] at hb
    cases hk : H0 k with
    | none =>
      simp only [hk, Rd.val, Option.some.injEq, Prod.mk.injEq] at hb
      obtain ⟨rfl, rfl⟩ := hb
      obtain ⟨φ', r1, e1, c1, l1, m1⟩ := place_own (k := k) (ver := 0) h ht (fun blk hblk => by
        obtain ⟨blk0, h0, _⟩ := hc k (hd k (by simp)) blk hblk
        rw [hk] at h0; cases h0) hf
      exact ⟨φ', r1, e1, c1, hc.step k _, l1, fun b' hb => m1 b' (by simpa using hb)⟩
    | some blk0 =>
      simp only [hk, Rd.val, Option.some.injEq, Prod.mk.injEq] at hb
      obtain ⟨rfl, rfl⟩ := hb
      obtain ⟨φ', r1, e1, c1, l1, m1⟩ := place_own (k := k) (ver := blk0.ver + 2) h ht (fun blk hblk => by
        obtain ⟨blk1, h0, hle⟩ := hc k (hd k (by simp)) blk hblk
        rw [hk] at h0; cases h0; omega) hf
      exact ⟨φ', r1, e1, c1, hc.step k _, l1, fun b' hb => m1 b' (by simpa using hb)⟩
  · simp [Rd.val] at hb
  · simp [Rd.val] at hb
  · simp [Rd.val] at hb
  · rename_i h1 h2 h3 h4
    simp only [Rd.val, Option.some.injEq, Prod.mk.injEq] at hb
    obtain ⟨rfl, rfl⟩ := hb
    exact ⟨φ, h, Ext.refl, RelC_of_no (ht.plain h1), hc.mono (fun k hk => List.mem_append_left _ hk), fun g hg => .inl hg, fun _ _ => rfl⟩
theorem inCells_rel {H0 : Heap} : ∀ {ks : List Nat} {ps qs : List PV} {ups : Ups} {vs : List Value} {gs : List Nat} {D : List Nat} {φ : Nat → Option Nat} {st : St}, Rel W0 O0 S0 S φ st a W → TrCs P W S ps vs gs → gs.Nodup → Free φ st.hp S W0 O0 gs → Cur H0 st.hp D → (inCells P ks ps).val H0 = some (qs, ups) → (ups.map (·.1)).Nodup → (∀ k ∈ ups.map (·.1), k ∉ D) →
    ∃ φ', Rel W0 O0 S0 S φ' (st.hps (updH st.hp ups)) a W ∧ Ext W S φ st.hp W S φ' (updH st.hp ups) ∧ RelCs W S φ' (updH st.hp ups) qs vs ∧ Cur H0 (updH st.hp ups) (D ++ ups.map (·.1)) ∧ (∀ g, Live φ' (updH st.hp ups) g → Live φ st.hp g ∨ g ∈ gs) ∧ ∀ b', b' ∉ ups.map (·.1) → φ' b' = φ b'
  | [], [], qs, ups, vs, gs, D, φ, st, h, ht, hn, hf, hc, hi, hnd, hd => by
    simp only [inCells, Rd.val, Option.some.injEq, Prod.mk.injEq] at hi
    obtain ⟨rfl, rfl⟩ := hi
    cases ht
    exact ⟨φ, h, Ext.refl, RelCs.nil, hc.mono (fun k hk => List.mem_append_left _ hk), fun g hg => .inl hg, fun _ _ => rfl⟩
  | [], _ :: _, _, _, _, _, _, _, _, _, _, _, _, _, hi, _, _ => by simp [inCells, Rd.val] at hi
  | _ :: _, [], _, _, _, _, _, _, _, _, _, _, _, _, hi, _, _ => by simp [inCells, Rd.val] at hi
  | k :: ks, p :: ps, qs, ups, vs, gs, D, φ, st, h, ht, hn, hf, hc, hi, hnd, hd => by
    simp only [inCells, Rd.val_bind] at hi
    cases h1 : (backCell P k p).val H0 with
    | none => simp [h1] at hi
    | some x =>
      simp only [h1, Option.bind_some] at hi
      cases h2 : (inCells P ks ps).val H0 with
      | none => simp [h2] at hi
      | some y =>
        simp only [h2, Option.bind_some, Rd.val, Option.some.injEq, Prod.mk.injEq] at hi
        obtain ⟨rfl, rfl⟩ := hi
        cases ht with
        | cons t1 t2 =>
          rename_i v vs g1 g2
          rw [List.map_append, List.nodup_append] at hnd
          rw [List.nodup_append] at hn
          obtain ⟨φ1, r1, e1, c1, u1, l1, m1⟩ := backCell_rel h t1 (fun g hg => hf g (List.mem_append_left _ hg)) hc h1 (fun k hk => hd k (by rw [List.map_append]; exact List.mem_append_left _ hk))
          obtain ⟨φ2, r2, e2, c2, u2, l2, m2⟩ := inCells_rel r1 t2 hn.2.1 (fun g hg => ⟨fun hl => by
              rcases l1 g hl with q | q
              · exact (hf g (List.mem_append_right _ hg)).1 q
              · exact hn.2.2 g q g hg rfl, (hf g (List.mem_append_right _ hg)).2⟩) u1 h2 hnd.2.1 (fun k hk hm => by
              rcases List.mem_append.1 hm with q | q
              · exact hd k (by rw [List.map_append]; exact List.mem_append_right _ hk) q
              · exact hnd.2.2 k q k hk rfl)
          refine ⟨φ2, by rw [updH_append]; exact r2, by rw [updH_append]; exact e1.trans e2, by rw [updH_append]; exact RelCs.cons (c1.mono e2) c2, ?_, fun g hg => ?_, fun b' hb => by
            rw [List.map_append, List.mem_append, not_or] at hb
            rw [m2 b' hb.2, m1 b' hb.1]⟩
          · rw [updH_append, List.map_append, ← List.append_assoc]; exact u2
          · rw [updH_append] at hg
            rcases l2 g hg with q | q
            · rcases l1 g q with q | q
              · exact .inl q
              · exact .inr (List.mem_append_left _ q)
            · exact .inr (List.mem_append_right _ q)
/-- The variables that are given and had back. -/
def boxKeys : List Nat → List PV → List Nat
  | m :: ms, p :: ps => if m = 2 then keyOf p ++ boxKeys ms ps else boxKeys ms ps
  | _, _ => []
theorem updH_congr : ∀ {l : Ups} {H1 H2 : Heap} {B : List Nat}, (∀ k, k ∉ B → H1 k = H2 k) → (∀ k ∈ B, k ∈ l.map (·.1)) → updH H1 l = updH H2 l
  | [], H1, H2, B, h, hb => by
    funext k
    exact h k (fun hk => by have := hb k hk; simp at this)
  | (k, b) :: l, H1, H2, B, h, hb => by
    simp only [updH]
    refine updH_congr (B := B.filter (· ≠ k)) (fun k' hk' => ?_) (fun k' hk' => ?_)
    · unfold upd
      split
      · rfl
      · rename_i hne
        exact h k' (fun hm => hk' (by simp [hm, hne]))
    · simp only [List.mem_filter, decide_eq_true_eq] at hk'
      have := hb k' hk'.1
      simp only [List.map_cons, List.mem_cons] at this
      exact this.resolve_left hk'.2
/-- A variable's cells are written anew, from what is there. -/
theorem refill (h : Rel W0 O0 S0 S φ st a W) {b ver T sz g : Nat} {old cells : List PV} {vs : Array Value} (hb : st.hp b = some (.row ver T sz true [old])) (hg : φ b = some g) (hw : W.heap[g]? = some (.cells vs T (0, 0))) (hl : cells.length = sz) (hc : RelCs W S φ st.hp cells vs.toList) :
    Rel W0 O0 S0 S φ (st.hps (upd st.hp b (some (.row ver T sz true [cells])))) a W ∧ Ext W S φ st.hp W S φ (upd st.hp b (some (.row ver T sz true [cells]))) :=
  h.write (rows' := [cells]) hb hg hw (Keep.refl _ _) hw rfl rfl (fun r hr => by simp at hr; subst hr; exact hl) (fun i r j p hi hj => by
    cases i with
    | zero =>
      simp only [List.getElem?_cons_zero, Option.some.injEq] at hi
      subst hi
      have hlt : j < vs.toList.length := by rw [hc.1]; exact (List.getElem?_eq_some_iff.1 hj).1
      have hx := List.getElem?_eq_getElem hlt
      refine ⟨_, by rw [Nat.zero_mul, Nat.zero_add, ← Array.getElem?_toList]; exact hx, ?_⟩
      rw [if_pos rfl]
      exact hc.2 j p _ hj hx
    | succ i => simp at hi)
theorem backBox_inv {p o : PV} {ups : Ups} {H0 : Heap} (h : (backBox P p o).val H0 = some ups) : ∃ b ver T sz olds cells x, p = .ad b ver 0 0 ∧ o = .bx T cells ∧ H0 b = some (.row ver T sz true [olds]) ∧ cells.length = olds.length ∧ (inCells P (cellKeys b 0 olds) cells).val H0 = some x ∧ ups = x.2 ++ [(b, .row ver T sz true [x.1])] := by
  unfold backBox at h
  split at h
  · rename_i b ver T cells
    obtain ⟨T', sz, box, rows, hr, hq⟩ := getRow_inv h
    clear h
    unfold backRow at hq
    split at hq
    · rename_i olds
      split at hq
      · rename_i hc
        obtain ⟨rfl, rfl, hl⟩ := hc
        rw [Rd.val_bind] at hq
        cases h1 : (inCells P (cellKeys b 0 olds) cells).val H0 with
        | none => simp [h1] at hq
        | some x =>
          simp only [h1, Option.bind_some, Rd.val, Option.some.injEq] at hq
          exact ⟨b, ver, _, sz, olds, cells, x, rfl, rfl, hr, hl, h1, hq.symm⟩
      · simp [Rd.val] at hq
    · simp [Rd.val] at hq
  · simp [Rd.val] at h
theorem boxKeys_mem : ∀ {ms : List Nat} {ps : List PV} {i : Nat} {p : PV} {b : Nat}, ms[i]? = some 2 → ps[i]? = some p → b ∈ keyOf p → b ∈ boxKeys ms ps
  | [], _, i, _, _, h, _, _ => by simp at h
  | _ :: _, [], i, _, _, _, h, _ => by simp at h
  | m :: ms, p :: ps, 0, q, b, h, hp, hb => by
    simp only [List.getElem?_cons_zero, Option.some.injEq] at h hp
    subst h; subst hp
    simp only [boxKeys, if_true, List.mem_append]
    exact .inl hb
  | m :: ms, p :: ps, i + 1, q, b, h, hp, hb => by
    have := boxKeys_mem (ms := ms) (ps := ps) (i := i) h hp hb
    simp only [boxKeys]
    split
    · exact List.mem_append_right _ this
    · exact this
theorem backs_keys {H0 : Heap} : ∀ {ms : List Nat} {ps os : List PV} {ups : Ups}, (backs P ms ps os).val H0 = some ups → ∀ b ∈ boxKeys ms ps, b ∈ ups.map (·.1)
  | [], [], _, _, _, b, hb => by cases hb
  | [], _ :: _, _, _, h, _, _ => by simp [backs, Rd.val] at h
  | _ :: _, [], _, _, h, _, _ => by simp [backs, Rd.val] at h
  | m :: ms, p :: ps, os, ups, h, b', hb' => by
    unfold backs at h
    split at h
    · rename_i hm
      subst hm
      split at h
      · rename_i o os
        rw [Rd.val_bind] at h
        cases h1 : (backBox P p o).val H0 with
        | none => simp [h1] at h
        | some x =>
          simp only [h1, Option.bind_some, Rd.val_bind] at h
          cases h2 : (backs P ms ps os).val H0 with
          | none => simp [h2] at h
          | some y =>
            simp only [h2, Option.bind_some, Rd.val, Option.some.injEq] at h
            subst h
            obtain ⟨b, ver, T, sz, olds, cells, z, rfl, rfl, _, _, _, rfl⟩ := backBox_inv h1
            simp only [boxKeys, if_true, keyOf, List.cons_append, List.nil_append, List.mem_cons] at hb'
            simp only [List.map_append, List.mem_append, List.map_cons, List.map_nil, List.mem_singleton]
            rcases hb' with rfl | hb'
            · exact .inl (.inr rfl)
            · exact .inr (backs_keys h2 b' hb')
      · simp [Rd.val] at h
    · rename_i hm
      simp only [boxKeys, if_neg hm] at hb'
      exact backs_keys h b' hb'
theorem backs_rel {H0 : Heap} : ∀ {ms : List Nat} {ps : List PV} {os : List PV} {ups : Ups} {vs : List Value} {hs gs : List Nat} {D : List Nat} {φ : Nat → Option Nat} {st : St}, Rel W0 O0 S0 S φ st a W → TrOuts P W S ms vs os hs gs → gs.Nodup → Free φ st.hp S W0 O0 gs →
    (∀ b ver T sz olds, b ∈ boxKeys ms ps → H0 b = some (.row ver T sz true [olds]) → olds.length = sz ∧ ∃ old', st.hp b = some (.row ver T sz true [old'])) → (boxKeys ms ps).Nodup →
    (∀ (i : Nat) (b ver : Nat) (v : Value), ms[i]? = some 2 → ps[i]? = some (.ad b ver 0 0) → vs[i]? = some v → ∃ g, φ b = some g ∧ v = .pointer (some ⟨g, 0, none⟩)) →
    Cur H0 st.hp D → (backs P ms ps os).val H0 = some ups → (ups.map (·.1)).Nodup → (∀ k ∈ ups.map (·.1), k ∉ D) →
    ∃ φ', Rel W0 O0 S0 S φ' (st.hps (updH st.hp ups)) a W ∧ Ext W S φ st.hp W S φ' (updH st.hp ups) ∧ Cur H0 (updH st.hp ups) (D ++ ups.map (·.1)) ∧ (∀ g, Live φ' (updH st.hp ups) g → Live φ st.hp g ∨ g ∈ gs) ∧ ∀ b', b' ∉ ups.map (·.1) → φ' b' = φ b'
  | [], [], os, ups, vs, hs, gs, D, φ, st, h, ht, hn, hf, hb, hbn, hp, hc, hi, hnd, hd => by
    cases os with
    | cons _ _ => simp [backs, Rd.val] at hi
    | nil =>
      simp only [backs, Rd.val, Option.some.injEq] at hi
      subst hi
      exact ⟨φ, h, Ext.refl, hc.mono (fun k hk => List.mem_append_left _ hk), fun g hg => .inl hg, fun _ _ => rfl⟩
  | [], _ :: _, _, _, _, _, _, _, _, _, _, _, _, _, _, _, _, _, hi, _, _ => by simp [backs, Rd.val] at hi
  | _ :: _, [], _, _, _, _, _, _, _, _, _, _, _, _, _, _, _, _, hi, _, _ => by simp [backs, Rd.val] at hi
  | m :: ms, p :: ps, os, ups, vs, hs, gs, D, φ, st, h, ht, hn, hf, hb, hbn, hp, hc, hi, hnd, hd => by
    unfold backs at hi
    split at hi
    · rename_i hm
      subst hm
      split at hi
      · rename_i o os
        rw [Rd.val_bind] at hi
        cases h1 : (backBox P p o).val H0 with
        | none => simp [h1] at hi
        | some x =>
          simp only [h1, Option.bind_some, Rd.val_bind] at hi
          cases h2 : (backs P ms ps os).val H0 with
          | none => simp [h2] at hi
          | some y =>
            simp only [h2, Option.bind_some, Rd.val, Option.some.injEq] at hi
            subst hi
            obtain ⟨b, ver, T, sz, olds, cells, z, rfl, rfl, hH0, hlen, hin, rfl⟩ := backBox_inv h1
            simp only [boxKeys, if_true, keyOf, List.cons_append, List.nil_append] at hb hbn
            have hmem : b ∈ b :: boxKeys ms ps := List.mem_cons_self
            cases ht with
            | skip hne _ => exact absurd rfl hne
            | two t0 t1 t2 =>
              rename_i g xs vs hs g1 gs
              obtain ⟨g', hg', hv⟩ := hp 0 b ver _ rfl rfl rfl
              simp only [Value.pointer.injEq, Option.some.injEq, Addr.mk.injEq, and_true] at hv
              subst hv
              obtain ⟨hol, old', hst⟩ := hb b ver T sz olds hmem hH0
              simp only [List.map_append, List.map_cons, List.map_nil, List.append_assoc, List.singleton_append] at hnd hd ⊢
              rw [List.nodup_append] at hnd hn
              obtain ⟨nd1, nd2, nd3⟩ := hnd
              rw [List.nodup_cons] at nd2
              have hbx : b ∉ z.2.map (·.1) := fun hm => nd3 b hm b List.mem_cons_self rfl
              obtain ⟨φ1, r1, e1, c1, u1, l1, m1⟩ := inCells_rel h t1 hn.1 (fun g hg => hf g (List.mem_append_left _ hg)) hc hin nd1 (fun k hk => hd k (List.mem_append_left _ hk))
              have hst1 : updH st.hp z.2 b = some (.row ver T sz true [old']) := by rw [updH_not st.hp b z.2 hbx]; exact hst
              have hzl : z.1.length = sz := by
                rw [← c1.1, t1.length, hlen, hol]
              obtain ⟨r2, e2⟩ := refill r1 hst1 (by rw [m1 b hbx]; exact hg') t0 hzl c1
              have hlive2 : ∀ g, Live φ1 (upd (updH st.hp z.2) b (some (.row ver T sz true [z.1]))) g → Live φ1 (updH st.hp z.2) g := fun g hl => by
                rcases live_upd (φ := φ1) (fun _ _ => rfl) hl with q | q
                · exact q
                · exact .inl ⟨b, _, _, _, _, _, hst1, q⟩
              have hrest : ∀ b' ∈ boxKeys ms ps, b' ≠ b ∧ b' ∉ z.2.map (·.1) := fun b' hb' => by
                rw [List.nodup_cons] at hbn
                refine ⟨fun e => hbn.1 (e ▸ hb'), fun hm => ?_⟩
                exact nd3 b' hm b' (List.mem_cons_of_mem _ (backs_keys h2 b' hb')) rfl
              obtain ⟨φ3, r3, e3, u3, l3, m3⟩ := backs_rel (D := D ++ (z.2.map (·.1) ++ [b])) r2 t2 hn.2.1 (fun g hg => ⟨fun hl => by
                  rcases l1 g (hlive2 g hl) with q | q
                  · exact (hf g (List.mem_append_right _ hg)).1 q
                  · exact hn.2.2 g q g hg rfl, (hf g (List.mem_append_right _ hg)).2⟩)
                (fun b' ver' T' sz' olds' hb' hr' => by
                  obtain ⟨k1, k2, k3⟩ := hb b' ver' T' sz' olds' (List.mem_cons_of_mem _ hb') hr'
                  refine ⟨k1, k2, ?_⟩
                  simp only [upd, if_neg (hrest b' hb').1]
                  rw [updH_not st.hp b' z.2 (hrest b' hb').2]
                  exact k3) (List.nodup_cons.1 hbn).2
                (fun i b' ver' v' h1' h2' h3' => by
                  obtain ⟨g2, k1, k2⟩ := hp (i + 1) b' ver' v' h1' h2' h3'
                  refine ⟨g2, ?_, k2⟩
                  have hb' : b' ∈ boxKeys ms ps := boxKeys_mem (i := i) h1' h2' (by simp [keyOf])
                  rw [m1 b' (hrest b' hb').2]
                  exact k1)
                (by rw [← List.append_assoc]; exact u1.step b _) h2 nd2.2 (fun k hk hm => by
                  simp only [List.mem_append, List.mem_singleton] at hm
                  rcases hm with q | q | q
                  · exact hd k (List.mem_append_right _ (List.mem_cons_of_mem _ hk)) q
                  · exact nd3 k q k (List.mem_cons_of_mem _ hk) rfl
                  · exact nd2.1 (q ▸ hk))
              have hH : updH st.hp (z.2 ++ [(b, Blk.row ver T sz true [z.1])] ++ y) = updH (upd (updH st.hp z.2) b (some (.row ver T sz true [z.1]))) y := by
                rw [updH_append, updH_append]; rfl
              rw [List.append_assoc] at hH
              simp only [List.singleton_append] at hH
              rw [hH]
              refine ⟨φ3, r3, (e1.trans e2).trans e3, ?_, fun g hg => ?_, fun b' hb' => ?_⟩
              · refine u3.mono (fun k hk => ?_)
                simp only [List.mem_append, List.mem_cons, List.not_mem_nil, or_false] at hk ⊢
                rcases hk with (q | q | q) | q
                · exact .inl q
                · exact .inr (.inl q)
                · exact .inr (.inr (.inl q))
                · exact .inr (.inr (.inr q))
              · rcases l3 g hg with q | q
                · rcases l1 g (hlive2 g q) with q | q
                  · exact .inl q
                  · exact .inr (List.mem_append_left _ q)
                · exact .inr (List.mem_append_right _ q)
              · simp only [List.mem_append, List.mem_cons, not_or] at hb'
                rw [m3 b' hb'.2.2, m1 b' hb'.1]
      · simp [Rd.val] at hi
    · rename_i hm
      cases ht with
      | two _ _ _ => exact absurd rfl hm
      | skip hne t =>
        simp only [boxKeys, if_neg hm] at hb hbn
        exact backs_rel h t hn hf hb hbn (fun i b' ver' v' h1' h2' h3' => hp (i + 1) b' ver' v' h1' h2' h3') hc hi hnd hd
theorem RelCs_of_no {H : Heap} {ps : List PV} {vs : List Value} (h : RelCs W S noφ noH ps vs) : RelCs W S φ H ps vs := ⟨h.1, fun i p x hp hx => RelC_of_no (h.2 i p x hp hx)⟩
theorem recv_rel {H0 : Heap} {D : List Nat} (h : Rel W0 O0 S0 S φ st a W) {k : Nat} {p q : PV} {ups : Ups} {v : Value} {gs : List Nat} (ht : TrA P W S p v gs) (hn : gs.Nodup) (hf : Free φ st.hp S W0 O0 gs) (hc : Cur H0 st.hp D) (hb : (recv P k p).val H0 = some (q, ups)) (hnd : (ups.map (·.1)).Nodup) (hd : ∀ k ∈ ups.map (·.1), k ∉ D) :
    ∃ φ', Rel W0 O0 S0 S φ' (st.hps (updH st.hp ups)) a W ∧ Ext W S φ st.hp W S φ' (updH st.hp ups) ∧ RelA W S φ' (updH st.hp ups) q v ∧ Cur H0 (updH st.hp ups) (D ++ ups.map (·.1)) ∧ (∀ g, Live φ' (updH st.hp ups) g → Live φ st.hp g ∨ g ∈ gs) := by
  unfold recv at hb
  split at hb
  · rename_i T rows
    have hcell : TrC P W S (.ow T rows) v gs := by cases ht with | cell h => exact h
    rw [Rd.val_get] at hb
    cases hk : H0 k with
    | some blk0 => simp [hk, Rd.val] at hb
    | none =>
      simp only [hk, Rd.val, Option.some.injEq, Prod.mk.injEq] at hb
      obtain ⟨rfl, rfl⟩ := hb
      obtain ⟨φ', r1, e1, c1, l1, m1⟩ := place_own (k := k) (ver := 0) h hcell (fun blk hblk => by
        obtain ⟨blk0, h0, _⟩ := hc k (hd k (by simp)) blk hblk
        rw [hk] at h0; cases h0) hf
      exact ⟨φ', r1, e1, c1, hc.step k _, l1⟩
  · rename_i cs
    rw [Rd.val_bind] at hb
    cases h1 : (inCells P (nkeys k 0 cs) cs).val H0 with
    | none => simp [h1] at hb
    | some x =>
      simp only [h1, Option.bind_some, Rd.val, Option.some.injEq, Prod.mk.injEq] at hb
      obtain ⟨rfl, rfl⟩ := hb
      cases ht with
      | cell h => cases h with | pl h => exact h.elim
      | ag t =>
        obtain ⟨φ', r1, e1, c1, u1, l1, m1⟩ := inCells_rel h t hn hf hc h1 hnd hd
        exact ⟨φ', r1, e1, ⟨_, rfl, c1⟩, u1, l1⟩
  · rename_i T cs
    rw [Rd.val_get] at hb
    cases hk : H0 k with
    | some blk0 => simp [hk, Rd.val] at hb
    | none =>
      simp only [hk, Rd.val_bind] at hb
      cases h1 : (inCells P (nkeys k 0 cs) cs).val H0 with
      | none => simp [h1] at hb
      | some x =>
        simp only [h1, Option.bind_some, Rd.val, Option.some.injEq, Prod.mk.injEq] at hb
        obtain ⟨rfl, rfl⟩ := hb
        cases ht with
        | cell h => cases h with | pl h => exact h.elim
        | bx t0 t1 =>
          rename_i g xs gs
          simp only [List.map_append, List.map_cons, List.map_nil] at hnd hd ⊢
          rw [List.nodup_append] at hnd
          obtain ⟨nd1, nd2, nd3⟩ := hnd
          rw [List.nodup_cons] at hn
          obtain ⟨φ1, r1, e1, c1, u1, l1, m1⟩ := inCells_rel h t1 hn.2 (fun g hg => hf g (List.mem_cons_of_mem _ hg)) hc h1 nd1 (fun k hk => hd k (List.mem_append_left _ hk))
          have hkx : k ∉ x.2.map (·.1) := fun hm => nd3 k hm k (by simp) rfl
          have hstk : st.hp k = none := by
            cases hs : st.hp k with
            | none => rfl
            | some blk =>
              obtain ⟨blk0, h0, _⟩ := hc k (hd k (by simp)) blk hs
              rw [hk] at h0; cases h0
          have hk1 : updH st.hp x.2 k = none := by rw [updH_not st.hp k x.2 hkx]; exact hstk
          obtain ⟨f1, f2, f3⟩ := hf g List.mem_cons_self
          obtain ⟨r2, e2⟩ := r1.place (b := k) (ver := 0) (T := T) (sz := x.1.length) (box := true) (rows := [x.1]) (g := some g) (fun blk hb => by
              have : updH st.hp x.2 k = some blk := hb
              rw [hk1] at this; cases this) (fun k' hk' => by
              cases hk'
              refine ⟨f2, f3, fun b' v' T' sz' box' rows' _ hb' hg' => ?_⟩
              rcases l1 g (.inl ⟨b', v', T', sz', box', rows', hb', hg'⟩) with q | q
              · exact f1 q
              · exact hn.1 q)
            ⟨xs, t0, fun r hr => by simp at hr; subst hr; rfl, by rw [← c1.1]; simp, ⟨by simp [maxI], fun _ => by rw [← c1.1]; simp⟩, fun i r j p hi hj => by
              cases i with
              | zero =>
                simp only [List.getElem?_cons_zero, Option.some.injEq] at hi
                subst hi
                have hlt : j < xs.toList.length := by rw [c1.1]; exact (List.getElem?_eq_some_iff.1 hj).1
                have hx := List.getElem?_eq_getElem hlt
                refine ⟨_, by rw [Nat.zero_mul, Nat.zero_add, ← Array.getElem?_toList]; exact hx, ?_⟩
                rw [if_pos rfl]
                exact c1.2 j p _ hj hx
              | succ i => simp at hi⟩
          have hH : updH st.hp (x.2 ++ [(k, Blk.row 0 T x.1.length true [x.1])]) = upd (updH st.hp x.2) k (some (.row 0 T x.1.length true [x.1])) := by rw [updH_append]; rfl
          rw [hH]
          refine ⟨_, r2, e1.trans e2, ⟨⟨_, rfl⟩, .row 0 T x.1.length true [x.1], by simp [upd], Nat.le_refl _, fun _ => ⟨g, by simp [upd], by simp⟩⟩, ?_, fun g' hg => ?_⟩
          · rw [← List.append_assoc]; exact u1.step k _
          · rcases live_upd (φ := φ1) (fun b' hb => by simp [upd, hb]) hg with q | q
            · rcases l1 g' q with q | q
              · exact .inl q
              · exact .inr (List.mem_cons_of_mem _ q)
            · simp only [upd, if_true, Option.some.injEq] at q
              exact .inr (by simp [q])
  · simp [Rd.val] at hb
  · rename_i h1 h2 h3 h4
    simp only [Rd.val, Option.some.injEq, Prod.mk.injEq] at hb
    obtain ⟨rfl, rfl⟩ := hb
    refine ⟨φ, h, Ext.refl, ?_, hc.mono (fun k hk => List.mem_append_left _ hk), fun g hg => .inl hg⟩
    cases ht with
    | cell t => exact RelA_of_RelC (RelC_of_no (t.plain h1))
    | ag t => exact absurd rfl (h2 _)
    | fn t => exact ⟨_, rfl, RelCs_of_no t⟩
    | bx _ _ => exact absurd rfl (h3 _ _)
theorem recvL_rel {H0 : Heap} : ∀ {ks : List Nat} {ps qs : List PV} {ups : Ups} {vs : List Value} {gs : List Nat} {D : List Nat} {φ : Nat → Option Nat} {st : St}, Rel W0 O0 S0 S φ st a W → TrAs P W S ps vs gs → gs.Nodup → Free φ st.hp S W0 O0 gs → Cur H0 st.hp D → (recvL P ks ps).val H0 = some (qs, ups) → (ups.map (·.1)).Nodup → (∀ k ∈ ups.map (·.1), k ∉ D) →
    ∃ φ', Rel W0 O0 S0 S φ' (st.hps (updH st.hp ups)) a W ∧ Ext W S φ st.hp W S φ' (updH st.hp ups) ∧ vs.length = qs.length ∧ ∀ (i : Nat) (q : PV) (x : Value), qs[i]? = some q → vs[i]? = some x → RelA W S φ' (updH st.hp ups) q x
  | [], _ :: _, _, _, _, _, _, _, _, _, _, _, _, _, hi, _, _ => by simp [recvL, Rd.val] at hi
  | _ :: _, [], _, _, _, _, _, _, _, _, _, _, _, _, hi, _, _ => by simp [recvL, Rd.val] at hi
  | [], [], qs, ups, vs, gs, D, φ, st, h, ht, hn, hf, hc, hi, hnd, hd => by
    simp only [recvL, Rd.val, Option.some.injEq, Prod.mk.injEq] at hi
    obtain ⟨rfl, rfl⟩ := hi
    cases ht
    exact ⟨φ, h, Ext.refl, rfl, fun i q x hq => by simp at hq⟩
  | k :: ks, p :: ps, qs, ups, vs, gs, D, φ, st, h, ht, hn, hf, hc, hi, hnd, hd => by
    simp only [recvL, Rd.val_bind] at hi
    cases h1 : (recv P k p).val H0 with
    | none => simp [h1] at hi
    | some x =>
      simp only [h1, Option.bind_some] at hi
      cases h2 : (recvL P ks ps).val H0 with
      | none => simp [h2] at hi
      | some y =>
        simp only [h2, Option.bind_some, Rd.val, Option.some.injEq, Prod.mk.injEq] at hi
        obtain ⟨rfl, rfl⟩ := hi
        cases ht with
        | cons t1 t2 =>
          rename_i v vs g1 g2
          rw [List.map_append, List.nodup_append] at hnd
          rw [List.nodup_append] at hn
          obtain ⟨φ1, r1, e1, c1, u1, l1⟩ := recv_rel h t1 hn.1 (fun g hg => hf g (List.mem_append_left _ hg)) hc h1 hnd.1 (fun k hk => hd k (by rw [List.map_append]; exact List.mem_append_left _ hk))
          obtain ⟨φ2, r2, e2, c2, c3⟩ := recvL_rel r1 t2 hn.2.1 (fun g hg => ⟨fun hl => by
              rcases l1 g hl with q | q
              · exact (hf g (List.mem_append_right _ hg)).1 q
              · exact hn.2.2 g q g hg rfl, (hf g (List.mem_append_right _ hg)).2⟩) u1 h2 hnd.2.1 (fun k hk hm => by
              rcases List.mem_append.1 hm with q | q
              · exact hd k (by rw [List.map_append]; exact List.mem_append_right _ hk) q
              · exact hnd.2.2 k q k hk rfl)
          refine ⟨φ2, by rw [updH_append]; exact r2, by rw [updH_append]; exact e1.trans e2, by simp [c2], fun i q x' hq hx => ?_⟩
          rw [updH_append]
          cases i with
          | zero =>
            simp only [List.getElem?_cons_zero, Option.some.injEq] at hq hx
            subst hq; subst hx
            exact c1.mono e2
          | succ i => exact c3 i q x' hq hx
end
end Go.Pi
