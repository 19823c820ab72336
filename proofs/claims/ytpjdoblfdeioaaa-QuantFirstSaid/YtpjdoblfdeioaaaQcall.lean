/- The reading's calls without a number of rounds: 'Cal_eq'. Own work of this session. -/
import Derived.Test.YtpjdoblfdeioaaaQdefs
set_option linter.unusedVariables false
namespace Go.Pi

def Le (C C' : CallF) : Prop := ∀ f tvs x, C f tvs = some x → C' f tvs = some x
theorem Le.refl (C : CallF) : Le C C := fun _ _ _ h => h
theorem Le.trans {A B C : CallF} (h : Le A B) (k : Le B C) : Le A C := fun f t x e => k f t x (h f t x e)

section
variable {C C' : CallF}
theorem callEff_mono (P : Program) (md : Nat → List Nat) (hC : Le C C') (d : Option Nat) (g : Nat) (ts : List Nat) (args : List PV) (H : Heap) {r : PV × Ups}
    (h : (callEff P md C d g ts args).val H = some r) : (callEff P md C' d g ts args).val H = some r ∧ (callEff P md C' d g ts args).log H = (callEff P md C d g ts args).log H := by
  unfold callEff at h ⊢
  simp only [Rd.val_bind, Rd.log_bind] at h ⊢
  cases hx : (xfers P (md g) ts args).val H with
  | none => simp [hx] at h
  | some x =>
    simp only [hx, Option.bind_some] at h ⊢
    split at h
    · rename_i hc
      simp only [if_pos hc]
      cases hg : C g x.1 with
      | none => rw [hg] at h; simp [callK, Rd.val] at h
      | some y =>
        have hg' := hC _ _ _ hg
        simp only [hg, hg'] at h ⊢
        exact ⟨h, trivial⟩
    · simp [Rd.val] at h
theorem eff_mono (cx : Cx) (hC : Le C C') (ρ : Operand → PV) (d : Option Nat) (o : Op) (H : Heap) {r : PV × Ups}
    (h : (eff cx C ρ d o).val H = some r) : (eff cx C' ρ d o).val H = some r ∧ (eff cx C' ρ d o).log H = (eff cx C ρ d o).log H := by
  unfold eff at h ⊢
  split at h <;> try exact ⟨h, rfl⟩
  split at h
  · exact ⟨h, rfl⟩
  · split at h
    · split at h
      · exact ⟨h, rfl⟩
      · exact callEff_mono _ _ hC _ _ _ _ _ h
    · exact ⟨h, rfl⟩
  · exact ⟨h, rfl⟩
theorem run1_mono (cx : Cx) (hC : Le C C') (o : COp) (st : St) {r : St} (h : run1 cx C o st = some r) : run1 cx C' o st = some r := by
  unfold run1 at h ⊢
  cases he : (eff cx C st.ev o.d o.op).val st.hp with
  | none => simp [he] at h
  | some x => rw [(eff_mono cx hC _ _ _ _ he).1]; rw [he] at h; exact h
theorem runOps_mono (cx : Cx) (hC : Le C C') : ∀ (l : List COp) (st : St) {r : St}, runOps cx C l st = some r → runOps cx C' l st = some r
  | [], st, r, h => h
  | o :: l, st, r, h => by
    have one : ∀ st', (run1 cx C o st').bind (runOps cx C l) = some r → (run1 cx C' o st').bind (runOps cx C' l) = some r := by
      intro st' hh
      cases he : run1 cx C o st' with
      | none => simp [he] at hh
      | some s => rw [run1_mono cx hC o st' he]; rw [he] at hh; exact runOps_mono cx hC l s hh
    simp only [runOps] at h ⊢
    split at h
    · exact one _ h
    · rename_i t w _
      split at h
      · rename_i b hb
        try simp only [hb] at h ⊢
        cases b <;> cases w
        · simp only [Bool.false_eq_true, if_false] at h ⊢; exact one _ h
        · simp only [Bool.false_eq_true, if_false, if_true] at h ⊢; exact runOps_mono cx hC l _ h
        · simp only [Bool.false_eq_true, if_false, if_true] at h ⊢; exact runOps_mono cx hC l _ h
        · simp only [if_true] at h ⊢; exact one _ h
      · rename_i hb
        try simp only [hb] at h ⊢
        exact runOps_mono cx hC l _ h
      · cases h
theorem run1D_mono (cx : Cx) (hC : Le C C') (an : List Nat) (i : Nat) (tr : Tr) (o : COp) (st : St) {r : Tr × St} (h : run1D cx C an i tr o st = some r) : run1D cx C' an i tr o st = some r := by
  unfold run1D at h ⊢
  cases he : (eff cx C st.ev o.d o.op).val st.hp with
  | none => simp [he] at h
  | some x =>
    obtain ⟨h1, h2⟩ := eff_mono cx hC _ _ _ _ he
    rw [h1]
    simp only [he] at h
    simp only [h2]
    exact h
theorem runD_mono (cx : Cx) (hC : Le C C') (an : List Nat) : ∀ (l : List COp) (i : Nat) (tr : Tr) (st : St) {r : St}, runD cx C an l i tr st = some r → runD cx C' an l i tr st = some r
  | [], _, _, st, r, h => h
  | o :: l, i, tr, st, r, h => by
    have one : ∀ st', (run1D cx C an i tr o st').bind (unc (runD cx C an l (i + 1))) = some r → (run1D cx C' an i tr o st').bind (unc (runD cx C' an l (i + 1))) = some r := by
      intro st' hh
      cases he : run1D cx C an i tr o st' with
      | none => simp [he] at hh
      | some s => rw [run1D_mono cx hC an i tr o st' he]; rw [he] at hh; exact runD_mono cx hC an l _ _ _ hh
    simp only [runD] at h ⊢
    split at h
    · exact one _ h
    · rename_i t w _
      split at h
      · rename_i b hb
        try simp only [hb] at h ⊢
        cases b <;> cases w
        · simp only [Bool.false_eq_true, if_false] at h ⊢; exact one _ h
        · simp only [Bool.false_eq_true, if_false, if_true] at h ⊢; exact runD_mono cx hC an l _ _ _ h
        · simp only [Bool.false_eq_true, if_false, if_true] at h ⊢; exact runD_mono cx hC an l _ _ _ h
        · simp only [if_true] at h ⊢; exact one _ h
      · rename_i hb
        try simp only [hb] at h ⊢
        exact runD_mono cx hC an l _ _ _ h
      · cases h
theorem toOut_some' {r : Option St} {x : Ex × St} (h : toOut r = some x) : ∃ st, r = some st ∧ x = (.nrm, st) := by
  cases r with
  | none => cases h
  | some st => exact ⟨st, rfl, by injection h with h; exact h.symm⟩
theorem seqK_some {r : Out} {k : St → Out} {x : Ex × St} (h : seqK r k = some x) : (∃ st, r = some (.nrm, st) ∧ k st = some x) ∨ (r = some x ∧ ∀ st, x ≠ (.nrm, st)) := by
  unfold seqK at h
  split at h
  · exact .inl ⟨_, rfl, h⟩
  · rename_i hn; exact .inr ⟨h, fun st e => hn st (by rw [h, e])⟩
theorem loopN_mono2 {B B' : St → Out} {R : St → St} (hB : ∀ st x, B st = some x → B' st = some x) : ∀ (n : Nat) (st : St) (x : Ex × St), loopN B R n st = some x → loopN B' R n st = some x
  | 0, _, _, h => by simp [loopN] at h
  | n + 1, st, x, h => by
    simp only [loopN] at h ⊢
    cases hb : B st with
    | none => simp [hb] at h
    | some y =>
      rw [hB _ _ hb]
      obtain ⟨e, s⟩ := y
      cases e <;> simp only [hb] at h ⊢
      · exact loopN_mono2 hB n _ _ h
      · exact h
      · exact h
theorem exec_mono (cx : Cx) (hC : Le C C') : ∀ (c : CC) (st : St) {x : Ex × St}, exec cx C c st = some x → exec cx C' c st = some x := by
  intro c
  induction c with
  | run ops =>
    intro st x h
    simp only [exec] at h ⊢
    obtain ⟨s, hs, rfl⟩ := toOut_some' h
    rw [runOps_mono cx hC _ _ hs]; rfl
  | draw ops an =>
    intro st x h
    simp only [exec] at h ⊢
    obtain ⟨s, hs, rfl⟩ := toOut_some' h
    rw [runD_mono cx hC _ _ _ _ _ hs]; rfl
  | seq a b iha ihb =>
    intro st x h
    simp only [exec] at h ⊢
    rcases seqK_some h with ⟨s, h1, h2⟩ | ⟨h1, h2⟩
    · rw [iha _ h1, seqK_nrm]; exact ihb _ h2
    · rw [iha _ h1]
      obtain ⟨e, s⟩ := x
      cases e with
      | nrm => exact absurd rfl (h2 s)
      | ex i => rfl
      | ret => rfl
  | cond c a b iha ihb =>
    intro st x h
    simp only [exec] at h ⊢
    split at h
    · split at h
      · rename_i ht; simp only [ht, if_true]; exact iha _ h
      · rename_i ht; simp only [ht]; exact ihb _ h
    · cases h
  | block id c ih =>
    intro st x h
    simp only [exec] at h ⊢
    cases hr : exec cx C c st with
    | none => simp [hr, blkK] at h
    | some y => rw [ih _ hr]; rw [hr] at h; exact h
  | loop ks c ih =>
    intro st x h
    simp only [exec] at h ⊢
    obtain ⟨n, hn⟩ := of_Loop h
    exact Loop_of (loopN_mono2 (fun st x => ih st) n _ _ hn)
  | _ => intro st x h; simpa only [exec] using h
theorem body_mono (cx : Cx) (hC : Le C C') (f : Nat) (tvs : List PV) {x : List PV × List PV} (h : body cx C f tvs = some x) : body cx C' f tvs = some x := by
  unfold body at h ⊢
  cases hf : cx.fns f with
  | none => simp [hf] at h
  | some fn =>
    simp only [hf] at h ⊢
    split at h
    · rename_i hl
      simp only [hl, if_true]
      cases hs : startSt cx.P tvs with
      | none => simp [hs] at h
      | some s0 =>
        simp only [hs] at h ⊢
        cases hr : exec cx C fn.body s0 with
        | none => simp [hr, endK] at h
        | some y => rw [exec_mono cx hC fn.body _ hr]; rw [hr] at h; exact h
    · cases h
end

theorem callN_succ (cx : Cx) : ∀ n, Le (callN cx n) (callN cx (n + 1))
  | 0 => fun f t x h => by simp [callN] at h
  | n + 1 => fun f t x h => by
    simp only [callN] at h ⊢
    cases hg : cx.giv f t with
    | some y => rw [hg] at h; exact h
    | none => rw [hg] at h; exact body_mono cx (callN_succ cx n) f t h
theorem callN_le (cx : Cx) {n m : Nat} (h : n ≤ m) : Le (callN cx n) (callN cx m) := by
  induction h with
  | refl => exact Le.refl _
  | step _ ih => exact ih.trans (callN_succ cx _)
open Classical in
noncomputable def Cal (cx : Cx) : CallF := fun f tvs => if h : ∃ n, (callN cx n f tvs).isSome = true then callN cx h.choose f tvs else none
theorem Cal_of {cx : Cx} {n f : Nat} {tvs : List PV} {x : List PV × List PV} (h : callN cx n f tvs = some x) : Cal cx f tvs = some x := by
  have he : ∃ n, (callN cx n f tvs).isSome = true := ⟨n, by simp [h]⟩
  unfold Cal
  rw [dif_pos he]
  obtain ⟨y, hy⟩ := Option.isSome_iff_exists.1 he.choose_spec
  rw [hy]
  rcases Nat.le_total n he.choose with hl | hl
  · rw [callN_le cx hl _ _ _ h] at hy; exact hy.symm
  · rw [callN_le cx hl _ _ _ hy] at h; exact h
theorem of_Cal {cx : Cx} {f : Nat} {tvs : List PV} {x : List PV × List PV} (h : Cal cx f tvs = some x) : ∃ n, callN cx n f tvs = some x := by
  unfold Cal at h
  split at h
  · exact ⟨_, h⟩
  · cases h
theorem callN_Cal (cx : Cx) (n : Nat) : Le (callN cx n) (Cal cx) := fun _ _ _ h => Cal_of h

/-! What is reached with the limit is reached at some number. -/
section
variable (cx : Cx)
theorem eff_lim (ρ : Operand → PV) (d : Option Nat) (o : Op) (H : Heap) {r : PV × Ups} (h : (eff cx (Cal cx) ρ d o).val H = some r) :
    ∃ n, (eff cx (callN cx n) ρ d o).val H = some r := by
  by_cases hc : ∃ c : Go.Call, o = .call c ∧ ∃ f, c.callee = .value f
  · obtain ⟨c, rfl, f, hf⟩ := hc
    unfold eff at h
    simp only [hf] at h
    split at h
    · rename_i g caps hg
      cases hs : cx.srt g with
      | some F =>
        refine ⟨0, ?_⟩
        unfold eff
        simp only [hf, hg, hs] at h ⊢
        exact h
      | none =>
      simp only [hs] at h
      have h0 := h
      unfold callEff at h
      simp only [Rd.val_bind] at h
      cases hx : (xfers cx.P (cx.md g) (c.argTypes.toList ++ caps.map fun _ => 0) (c.args.toList.map ρ ++ caps)).val H with
      | none => simp [hx] at h
      | some x =>
        simp only [hx, Option.bind_some] at h
        split at h
        · cases hC : Cal cx g x.1 with
          | none => rw [hC] at h; simp [callK, Rd.val] at h
          | some y =>
            obtain ⟨n, hn⟩ := of_Cal hC
            refine ⟨n, ?_⟩
            unfold eff
            simp only [hf, hg, hs]
            unfold callEff
            simp only [Rd.val_bind, hx, Option.bind_some]
            rename_i hk
            simp only [hk, if_true, hn]
            simp only [hC] at h
            exact h
        · simp [Rd.val] at h
    · cases h
  · refine ⟨0, ?_⟩
    unfold eff at h ⊢
    split at h <;> try exact h
    rename_i c
    split at h
    · exact h
    · rename_i f hf; exact absurd ⟨c, rfl, f, hf⟩ hc
    · exact h
theorem run1_lim (o : COp) (st : St) {r : St} (h : run1 cx (Cal cx) o st = some r) : ∃ n, run1 cx (callN cx n) o st = some r := by
  unfold run1 at h
  cases he : (eff cx (Cal cx) st.ev o.d o.op).val st.hp with
  | none => simp [he] at h
  | some x =>
    obtain ⟨n, hn⟩ := eff_lim cx _ _ _ _ he
    exact ⟨n, by unfold run1; rw [hn]; rw [he] at h; exact h⟩
theorem runOps_lim : ∀ (l : List COp) (st : St) {r : St}, runOps cx (Cal cx) l st = some r → ∃ n, runOps cx (callN cx n) l st = some r
  | [], st, r, h => ⟨0, h⟩
  | o :: l, st, r, h => by
    have one : ∀ st' : St, (run1 cx (Cal cx) o st').bind (runOps cx (Cal cx) l) = some r → ∃ n, (run1 cx (callN cx n) o st').bind (runOps cx (callN cx n) l) = some r := by
      intro st' hh
      cases he : run1 cx (Cal cx) o st' with
      | none => simp [he] at hh
      | some s =>
        obtain ⟨n, hn⟩ := run1_lim cx o st' he
        rw [he] at hh
        obtain ⟨m, hm⟩ := runOps_lim l s hh
        refine ⟨max n m, ?_⟩
        rw [run1_mono cx (callN_le cx (Nat.le_max_left n m)) o st' hn]
        exact runOps_mono cx (callN_le cx (Nat.le_max_right n m)) l s hm
    simp only [runOps] at h ⊢
    split at h
    · exact one _ h
    · rename_i t w hg
      split at h
      · rename_i b hb
        try simp only [hb] at h ⊢
        cases b <;> cases w
        · simp only [Bool.false_eq_true, if_false] at h ⊢; exact one _ h
        · simp only [Bool.false_eq_true, if_false, if_true] at h ⊢; exact runOps_lim l _ h
        · simp only [Bool.false_eq_true, if_false, if_true] at h ⊢; exact runOps_lim l _ h
        · simp only [if_true] at h ⊢; exact one _ h
      · rename_i hb
        try simp only [hb] at h ⊢
        exact runOps_lim l _ h
      · cases h
theorem run1D_lim (an : List Nat) (i : Nat) (tr : Tr) (o : COp) (st : St) {r : Tr × St} (h : run1D cx (Cal cx) an i tr o st = some r) : ∃ n, run1D cx (callN cx n) an i tr o st = some r := by
  unfold run1D at h
  cases he : (eff cx (Cal cx) st.ev o.d o.op).val st.hp with
  | none => simp [he] at h
  | some x =>
    obtain ⟨n, hn⟩ := eff_lim cx _ _ _ _ he
    have h2 := (eff_mono cx (callN_Cal cx n) _ _ _ _ hn).2
    refine ⟨n, ?_⟩
    unfold run1D
    simp only [he] at h
    simp only [hn, ← h2]
    exact h
theorem runD_lim (an : List Nat) : ∀ (l : List COp) (i : Nat) (tr : Tr) (st : St) {r : St}, runD cx (Cal cx) an l i tr st = some r → ∃ n, runD cx (callN cx n) an l i tr st = some r
  | [], _, _, st, r, h => ⟨0, h⟩
  | o :: l, i, tr, st, r, h => by
    have one : ∀ st' : St, (run1D cx (Cal cx) an i tr o st').bind (unc (runD cx (Cal cx) an l (i + 1))) = some r → ∃ n, (run1D cx (callN cx n) an i tr o st').bind (unc (runD cx (callN cx n) an l (i + 1))) = some r := by
      intro st' hh
      cases he : run1D cx (Cal cx) an i tr o st' with
      | none => simp [he] at hh
      | some s =>
        obtain ⟨n, hn⟩ := run1D_lim cx an i tr o st' he
        rw [he] at hh
        obtain ⟨m, hm⟩ := runD_lim an l _ _ _ hh
        refine ⟨max n m, ?_⟩
        rw [run1D_mono cx (callN_le cx (Nat.le_max_left n m)) an i tr o st' hn]
        exact runD_mono cx (callN_le cx (Nat.le_max_right n m)) an l _ _ _ hm
    simp only [runD] at h ⊢
    split at h
    · exact one _ h
    · rename_i t w hg
      split at h
      · rename_i b hb
        try simp only [hb] at h ⊢
        cases b <;> cases w
        · simp only [Bool.false_eq_true, if_false] at h ⊢; exact one _ h
        · simp only [Bool.false_eq_true, if_false, if_true] at h ⊢; exact runD_lim an l _ _ _ h
        · simp only [Bool.false_eq_true, if_false, if_true] at h ⊢; exact runD_lim an l _ _ _ h
        · simp only [if_true] at h ⊢; exact one _ h
      · rename_i hb
        try simp only [hb] at h ⊢
        exact runD_lim an l _ _ _ h
      · cases h
theorem exec_lim : ∀ (c : CC) (st : St) {x : Ex × St}, exec cx (Cal cx) c st = some x → ∃ n, exec cx (callN cx n) c st = some x := by
  intro c
  induction c with
  | run ops =>
    intro st x h
    simp only [exec] at h ⊢
    obtain ⟨s, hs, rfl⟩ := toOut_some' h
    obtain ⟨n, hn⟩ := runOps_lim cx _ _ hs
    exact ⟨n, by rw [hn]; rfl⟩
  | draw ops an =>
    intro st x h
    simp only [exec] at h ⊢
    obtain ⟨s, hs, rfl⟩ := toOut_some' h
    obtain ⟨n, hn⟩ := runD_lim cx _ _ _ _ _ hs
    exact ⟨n, by rw [hn]; rfl⟩
  | seq a b iha ihb =>
    intro st x h
    simp only [exec] at h ⊢
    rcases seqK_some h with ⟨s, h1, h2⟩ | ⟨h1, h2⟩
    · obtain ⟨n, hn⟩ := iha _ h1
      obtain ⟨m, hm⟩ := ihb _ h2
      refine ⟨max n m, ?_⟩
      rw [exec_mono cx (callN_le cx (Nat.le_max_left n m)) a _ hn, seqK_nrm]
      exact exec_mono cx (callN_le cx (Nat.le_max_right n m)) b _ hm
    · obtain ⟨n, hn⟩ := iha _ h1
      refine ⟨n, ?_⟩
      rw [hn]
      obtain ⟨e, s⟩ := x
      cases e with
      | nrm => exact absurd rfl (h2 s)
      | ex i => rfl
      | ret => rfl
  | cond c a b iha ihb =>
    intro st x h
    simp only [exec] at h ⊢
    split at h
    · rename_i t ht
      split at h
      · rename_i htt; simp only [htt, if_true]; exact iha _ h
      · rename_i htt; simp only [htt]; exact ihb _ h
    · cases h
  | block id c ih =>
    intro st x h
    simp only [exec] at h ⊢
    cases hr : exec cx (Cal cx) c st with
    | none => simp [hr, blkK] at h
    | some y => obtain ⟨n, hn⟩ := ih _ hr; exact ⟨n, by rw [hn]; rw [hr] at h; exact h⟩
  | loop ks c ih =>
    intro st x h
    simp only [exec] at h ⊢
    obtain ⟨r, hr⟩ := of_Loop h
    have key : ∀ (r : Nat) (st : St), loopN (exec cx (Cal cx) c) (Rst cx.P ks) r st = some x → ∃ n, loopN (exec cx (callN cx n) c) (Rst cx.P ks) r st = some x := by
      intro r
      induction r with
      | zero => intro st h; simp [loopN] at h
      | succ r ihr =>
        intro st h
        simp only [loopN] at h ⊢
        cases hb : exec cx (Cal cx) c st with
        | none => simp [hb] at h
        | some y =>
          obtain ⟨n, hn⟩ := ih _ hb
          obtain ⟨e, s⟩ := y
          cases e with
          | nrm =>
            simp only [hb] at h
            obtain ⟨m, hm⟩ := ihr _ h
            refine ⟨max n m, ?_⟩
            rw [exec_mono cx (callN_le cx (Nat.le_max_left n m)) c _ hn]
            exact loopN_mono2 (fun st x => exec_mono cx (callN_le cx (Nat.le_max_right n m)) c st) r _ _ hm
          | ex i => simp only [hb] at h; exact ⟨n, by rw [hn]; exact h⟩
          | ret => simp only [hb] at h; exact ⟨n, by rw [hn]; exact h⟩
    obtain ⟨n, hn⟩ := key r _ hr
    exact ⟨n, Loop_of hn⟩
  | _ => intro st x h; exact ⟨0, by simpa only [exec] using h⟩
/-- A call is its body's. -/
theorem Cal_body (f : Nat) (tvs : List PV) (hgv : cx.giv f tvs = none) : Cal cx f tvs = body cx (Cal cx) f tvs := by
  cases h : body cx (Cal cx) f tvs with
  | none =>
    cases hc : Cal cx f tvs with
    | none => rfl
    | some x =>
      obtain ⟨n, hn⟩ := of_Cal hc
      cases n with
      | zero => simp [callN] at hn
      | succ n =>
        have hn : body cx (callN cx n) f tvs = some x := by simp only [callN, hgv] at hn; exact hn
        have := body_mono cx (callN_Cal cx n) f tvs hn
        rw [h] at this
        cases this
  | some x =>
    have : ∃ n, body cx (callN cx n) f tvs = some x := by
      unfold body at h ⊢
      cases hf : cx.fns f with
      | none => simp [hf] at h
      | some fn =>
        simp only [hf] at h ⊢
        split at h
        · rename_i hl
          simp only [hl, if_true]
          cases hs : startSt cx.P tvs with
          | none => simp [hs] at h
          | some s0 =>
            simp only [hs] at h ⊢
            cases hr : exec cx (Cal cx) fn.body s0 with
            | none => simp [hr, endK] at h
            | some y => obtain ⟨n, hn⟩ := exec_lim cx fn.body _ hr; exact ⟨n, by rw [hn]; rw [hr] at h; exact h⟩
        · cases h
    obtain ⟨n, hn⟩ := this
    exact Cal_of (n := n + 1) (by simp only [callN, hgv]; exact hn)
theorem Cal_eq (f : Nat) (tvs : List PV) : Cal cx f tvs = orK (cx.giv f tvs) (body cx (Cal cx) f tvs) := by
  cases h : cx.giv f tvs with
  | none => exact Cal_body cx f tvs h
  | some x => exact Cal_of (n := 1) (by simp only [callN, h]; rfl)
end
end Go.Pi
