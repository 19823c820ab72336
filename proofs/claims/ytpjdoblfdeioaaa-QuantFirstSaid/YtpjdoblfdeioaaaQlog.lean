/- Rules for what an operation has read (its footprint). Own work. -/
import Derived.Test.YtpjdoblfdeioaaaQeval
set_option linter.unusedVariables false
set_option linter.unusedSimpArgs false
namespace Go.Pi
section
variable {α β : Type} {cx : Cx} {C : CallF} {f : Nat → PV} {H : Heap} {d : Option Nat}
@[go_sem] theorem Rd.log_pure (a : α) : (Rd.pure a).log H = [] := rfl
@[go_sem] theorem Rd.log_fail : (Rd.fail : Rd α).log H = [] := rfl
def lgK (x : Option α) (g : α → Rd β) (H : Heap) : List Nat := match x with | some a => (g a).log H | none => []
@[go_sem] theorem lgK_some (a : α) (g : α → Rd β) : lgK (some a) g H = (g a).log H := rfl
@[go_sem] theorem lgK_none (g : α → Rd β) : lgK none g H = [] := rfl
@[go_sem] theorem Rd.log_bindK (x : Rd α) (g : α → Rd β) : (x.bind g).log H = x.log H ++ lgK (x.val H) g H := by rw [Rd.log_bind]; rfl
@[go_sem] theorem Rd.log_ite (c : Prop) [Decidable c] (x y : Rd α) : (if c then x else y).log H = if c then x.log H else y.log H := by split <;> rfl
def grL (x : Option Blk) (ver : Nat) (k : Nat → Nat → Bool → List (List PV) → Rd α) (H : Heap) : List Nat := match x with | some (.row v T sz box rows) => if v = ver then (k T sz box rows).log H else [] | _ => []
@[go_sem] theorem grL_row (v T sz : Nat) (box : Bool) (rows : List (List PV)) (ver : Nat) (k : Nat → Nat → Bool → List (List PV) → Rd α) : grL (some (.row v T sz box rows)) ver k H = if v = ver then (k T sz box rows).log H else [] := rfl
@[go_sem] theorem getRow_logK (b ver : Nat) (k : Nat → Nat → Bool → List (List PV) → Rd α) : (getRow b ver k).log H = b :: grL (H b) ver k H := by
  unfold getRow grL
  simp only [Rd.log]
  congr 1
  cases H b with
  | none => rfl
  | some x => cases x with
    | row v T sz box rows =>
      simp only []
      by_cases h : v = ver
      · rw [if_pos h, if_pos h]
      · rw [if_neg h, if_neg h]; rfl
    | dead v => rfl
    | mp v ks => rfl
def nkL (x : Option Blk) (l : List Nat) : List Nat := match x with | none => l | some _ => []
@[go_sem] theorem nkL_none (l : List Nat) : nkL none l = l := rfl
@[go_sem] theorem nkL_some (b : Blk) (l : List Nat) : nkL (some b) l = [] := rfl
@[go_sem] theorem newKey_logK (k : Nat) (K : Nat → Rd α) : (newKey (some k) K).log H = k :: nkL (H k) ((K k).log H) := by
  unfold newKey nkL
  simp only [Rd.log]
  cases H k <;> rfl
@[go_sem] theorem Lg_append (as : Array Operand) (ts : Array Nat) : Lg cx C f H d (.call { callee := .builtin .append, args := as, argTypes := ts }) = (builtinEff cx.P d .append ts.toList (as.toList.map (St.mk f H).ev)).log H := rfl
@[go_sem] theorem appSl_log (P : Program) (e b ver len : Nat) (ys : List (List PV)) (T sz : Nat) (box : Bool) (rows : List (List PV)) : (appSl P e b ver len ys T sz box rows).log H = [] := by
  unfold appSl
  split
  · split
    · rfl
    · split <;> rfl
  · rfl
@[go_sem] theorem appZ_log (P : Program) (e k : Nat) (ys : List (List PV)) : (appZ P e ys k).log H = [] := by
  unfold appZ
  split <;> rfl
def bsE (P : Program) (ρ : Operand → PV) (d : Option Nat) (t len : Nat) (ps : List (Nat × Operand)) : Rd (PV × Ups) :=
  match slT P t with
  | none => .fail
  | some e => if elT P e = true ∧ len * szOf P e ≤ 16777216 then newKey d (bslK P ρ len ps e (zc P e)) else .fail
@[go_sem] theorem Lg_buildSlice (t len : Nat) (ps : Array (Nat × Operand)) : Lg cx C f H d (.buildSlice t len ps) = (bsE cx.P (St.mk f H).ev d t len ps.toList).log H := rfl
attribute [go_sem] bsE
@[go_sem] theorem Lg_store (t : Nat) (a x : Operand) : Lg cx C f H d (.store t a x) = (storeEff cx.P t ((St.mk f H).ev a) ((St.mk f H).ev x)).log H := rfl
end
end Go.Pi
