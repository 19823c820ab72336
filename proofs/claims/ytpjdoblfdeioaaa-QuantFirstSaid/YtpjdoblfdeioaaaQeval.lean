/- The reading's equations, in the forms in which they are used as rules. Own work of this session. -/
import Derived.Test.YtpjdoblfdeioaaaQcall
set_option linter.unusedVariables false
namespace Go.Pi
section
variable (cx : Cx) (C : CallF) (f : Nat → PV) (H : Heap) (d : Option Nat) (t : Nat) (r : List COp) (op : Op)
@[go_sem] theorem ev_tmp : (St.mk f H).ev (.tmp t) = f t := rfl
@[go_sem] theorem ev_func (g : Nat) : (St.mk f H).ev (.func g) = .fn g [] := rfl
@[go_sem] theorem ev_int (k : IntKind) (n : Int) : (St.mk f H).ev (.const (.int k n)) = .s (.int k n) := rfl
@[go_sem] theorem ev_bool (b : Bool) : (St.mk f H).ev (.const (.bool b)) = .s (.bool b) := rfl
@[go_sem] theorem ev_string (s : ByteArray) : (St.mk f H).ev (.const (.string s)) = .s (.string s) := rfl
@[go_sem] theorem ev_nil : (St.mk f H).ev (.const (.slice none 0 0)) = .z := rfl
@[go_sem] theorem ev_ptr : (St.mk f H).ev (.const (.pointer none)) = .s (.pointer none) := rfl
@[go_sem] theorem sF_nil : sF [] t = .u := rfl
@[go_sem] theorem sF_cons (k : Nat) (v : PV) (l : List (Nat × PV)) : sF ((k, v) :: l) t = if t = k then v else sF l t := rfl
@[go_sem] theorem hF_nil : hF [] t = none := rfl
@[go_sem] theorem hF_cons (k : Nat) (v : Option Blk) (l : List (Nat × Option Blk)) : hF ((k, v) :: l) t = if t = k then v else hF l t := rfl
@[go_sem] theorem updH_nil : updH H [] = H := rfl
@[go_sem] theorem updH_cons (k : Nat) (b : Blk) (l : Ups) : updH H ((k, b) :: l) = updH (upd H k (some b)) l := rfl
attribute [go_sem] upd_apply

def putK (d : Option Nat) (f : Nat → PV) (H : Heap) : Option (PV × Ups) → Option St
  | some x => some (St.mk (match d with | some t => upd f t x.1 | none => f) (updH H x.2))
  | none => none
@[go_sem] theorem putK_some (v : PV) (u : Ups) : putK (some t) f H (some (v, u)) = some (St.mk (upd f t v) (updH H u)) := rfl
@[go_sem] theorem putK_no (v : PV) (u : Ups) : putK none f H (some (v, u)) = some (St.mk f (updH H u)) := rfl
@[go_sem] theorem putK_none : putK d f H none = none := rfl
@[go_sem] theorem putK_ite (c : Prop) [Decidable c] (x y : Option (PV × Ups)) : putK d f H (if c then x else y) = if c then putK d f H x else putK d f H y := by split <;> rfl
@[go_sem] theorem bind_ite {α β : Type} (c : Prop) [Decidable c] (x y : Option α) (k : α → Option β) : (if c then x else y).bind k = if c then x.bind k else y.bind k := by split <;> rfl
@[go_sem] theorem val_ite {α : Type} (c : Prop) [Decidable c] (x y : Rd α) (H : Heap) : (if c then x else y).val H = if c then x.val H else y.val H := by split <;> rfl
@[go_sem] theorem run1_eq (g : Option (Nat × Bool)) : run1 cx C ⟨d, g, op⟩ (St.mk f H) = putK d f H ((eff cx C (St.mk f H).ev d op).val H) := by
  unfold run1 putK
  cases (eff cx C (St.mk f H).ev d op).val H <;> rfl
@[go_sem] theorem runOps_nil (st : St) : runOps cx C [] st = some st := rfl
@[go_sem] theorem runOps_cons : runOps cx C (⟨d, none, op⟩ :: r) (St.mk f H) = (run1 cx C ⟨d, none, op⟩ (St.mk f H)).bind (runOps cx C r) := rfl
def gT (cx : Cx) (C : CallF) (d : Option Nat) (t : Nat) (w : Bool) (op : Op) (r : List COp) (f : Nat → PV) (H : Heap) : Option St :=
  if w = true then (run1 cx C ⟨d, none, op⟩ (St.mk (upd f t (.s (.bool true))) H)).bind (runOps cx C r) else runOps cx C r (St.mk (match d with | some d => upd (upd f t (.s (.bool true))) d (.tu []) | none => upd f t (.s (.bool true))) H)
def gF (cx : Cx) (C : CallF) (d : Option Nat) (t : Nat) (w : Bool) (op : Op) (r : List COp) (f : Nat → PV) (H : Heap) : Option St :=
  if w = true then runOps cx C r (St.mk (match d with | some d => upd (upd f t (.s (.bool false))) d (.tu []) | none => upd f t (.s (.bool false))) H) else (run1 cx C ⟨d, none, op⟩ (St.mk (upd f t (.s (.bool false))) H)).bind (runOps cx C r)
def gK (cx : Cx) (C : CallF) (d : Option Nat) (t : Nat) (w : Bool) (op : Op) (r : List COp) (f : Nat → PV) (H : Heap) : PV → Option St
  | .s (.bool b) => if b = true then gT cx C d t w op r f H else gF cx C d t w op r f H
  | .tu [] => runOps cx C r (St.mk (match d with | some d => upd f d (.tu []) | none => f) H)
  | _ => none
@[go_sem] theorem gK_bool (w b : Bool) : gK cx C d t w op r f H (.s (.bool b)) = if b = true then gT cx C d t w op r f H else gF cx C d t w op r f H := rfl
@[go_sem] theorem gK_tu (w : Bool) (e : Nat) : gK cx C (some e) t w op r f H (.tu []) = runOps cx C r (St.mk (upd f e (.tu [])) H) := rfl
@[go_sem] theorem gK_tu_no (w : Bool) : gK cx C none t w op r f H (.tu []) = runOps cx C r (St.mk f H) := rfl
@[go_sem] theorem gT_true : gT cx C d t true op r f H = (run1 cx C ⟨d, none, op⟩ (St.mk (upd f t (.s (.bool true))) H)).bind (runOps cx C r) := rfl
@[go_sem] theorem gT_false (e : Nat) : gT cx C (some e) t false op r f H = runOps cx C r (St.mk (upd (upd f t (.s (.bool true))) e (.tu [])) H) := rfl
@[go_sem] theorem gT_false_no : gT cx C none t false op r f H = runOps cx C r (St.mk (upd f t (.s (.bool true))) H) := rfl
@[go_sem] theorem gF_true (e : Nat) : gF cx C (some e) t true op r f H = runOps cx C r (St.mk (upd (upd f t (.s (.bool false))) e (.tu [])) H) := rfl
@[go_sem] theorem gF_true_no : gF cx C none t true op r f H = runOps cx C r (St.mk (upd f t (.s (.bool false))) H) := rfl
@[go_sem] theorem gF_false : gF cx C d t false op r f H = (run1 cx C ⟨d, none, op⟩ (St.mk (upd f t (.s (.bool false))) H)).bind (runOps cx C r) := rfl
@[go_sem] theorem runOps_g (w : Bool) : runOps cx C (⟨d, some (t, w), op⟩ :: r) (St.mk f H) = gK cx C d t w op r f H (f t) := by
  simp only [runOps]
  cases f t with
  | tu l => cases l <;> rfl
  | _ => rfl
theorem upd_self_val {v : PV} (h : f t = v) : upd f t v = f := by
  funext x; unfold upd; split
  · rename_i e; rw [e, h]
  · rfl
@[go_sem high] theorem runOps_gtt (h : f t = .s (.bool true)) : runOps cx C (⟨d, some (t, true), op⟩ :: r) (St.mk f H) = (run1 cx C ⟨d, none, op⟩ (St.mk f H)).bind (runOps cx C r) := by
  rw [runOps_g, h, gK_bool, if_pos rfl, gT_true, upd_self_val f t h]
@[go_sem high] theorem runOps_gff (h : f t = .s (.bool false)) : runOps cx C (⟨d, some (t, false), op⟩ :: r) (St.mk f H) = (run1 cx C ⟨d, none, op⟩ (St.mk f H)).bind (runOps cx C r) := by
  rw [runOps_g, h, gK_bool, if_neg Bool.false_ne_true, gF_false, upd_self_val f t h]
@[go_sem high] theorem runOps_gtf (e : Nat) (h : f t = .s (.bool false)) : runOps cx C (⟨some e, some (t, true), op⟩ :: r) (St.mk f H) = runOps cx C r (St.mk (upd f e (.tu [])) H) := by
  rw [runOps_g, h, gK_bool, if_neg Bool.false_ne_true, gF_true, upd_self_val f t h]
@[go_sem high] theorem runOps_gft (e : Nat) (h : f t = .s (.bool true)) : runOps cx C (⟨some e, some (t, false), op⟩ :: r) (St.mk f H) = runOps cx C r (St.mk (upd f e (.tu [])) H) := by
  rw [runOps_g, h, gK_bool, if_pos rfl, gT_false, upd_self_val f t h]
/-! A region that draws: its footprints stay as they are wherever they need not be known. -/
def Lg (cx : Cx) (C : CallF) (f : Nat → PV) (H : Heap) (d : Option Nat) (op : Op) : List Nat := (eff cx C (St.mk f H).ev d op).log H
def dK (cx : Cx) (C : CallF) (an : List Nat) (r : List COp) (i : Nat) (tr : Tr) (d : Option Nat) (f : Nat → PV) (H : Heap) (L : List Nat) : Option (PV × Ups) → Option St
  | none => none
  | some (v, u) => if okTr (an.getD i 0) tr (L, u.map (·.1)) = true then runD cx C an r (i + 1) ((i, L, u.map (·.1)) :: tr) (St.mk (match d with | some t => upd f t v | none => f) (updH H u)) else none
@[go_sem] theorem dK_some (an : List Nat) (i : Nat) (tr : Tr) (L : List Nat) (v : PV) (u : Ups) : dK cx C an r i tr (some t) f H L (some (v, u)) = if okTr (an.getD i 0) tr (L, u.map (·.1)) = true then runD cx C an r (i + 1) ((i, L, u.map (·.1)) :: tr) (St.mk (upd f t v) (updH H u)) else none := rfl
@[go_sem] theorem dK_no (an : List Nat) (i : Nat) (tr : Tr) (L : List Nat) (v : PV) (u : Ups) : dK cx C an r i tr none f H L (some (v, u)) = if okTr (an.getD i 0) tr (L, u.map (·.1)) = true then runD cx C an r (i + 1) ((i, L, u.map (·.1)) :: tr) (St.mk f (updH H u)) else none := rfl
@[go_sem] theorem dK_none (an : List Nat) (i : Nat) (tr : Tr) (L : List Nat) : dK cx C an r i tr d f H L none = none := rfl
@[go_sem] theorem dK_ite (an : List Nat) (i : Nat) (tr : Tr) (L : List Nat) (c : Prop) [Decidable c] (x y : Option (PV × Ups)) : dK cx C an r i tr d f H L (if c then x else y) = if c then dK cx C an r i tr d f H L x else dK cx C an r i tr d f H L y := by split <;> rfl
theorem run1D_dK (an : List Nat) (i : Nat) (tr : Tr) : (run1D cx C an i tr ⟨d, none, op⟩ (St.mk f H)).bind (unc (runD cx C an r (i + 1))) = dK cx C an r i tr d f H (Lg cx C f H d op) ((eff cx C (St.mk f H).ev d op).val H) := by
  unfold run1D Lg
  simp only []
  cases (eff cx C (St.mk f H).ev d op).val H with
  | none => rfl
  | some x =>
    obtain ⟨v, u⟩ := x
    simp only [dK]
    split <;> rfl
@[go_sem] theorem runD_nil (an : List Nat) (i : Nat) (tr : Tr) (st : St) : runD cx C an [] i tr st = some st := rfl
@[go_sem] theorem runD_cons (an : List Nat) (i : Nat) (tr : Tr) : runD cx C an (⟨d, none, op⟩ :: r) i tr (St.mk f H) = dK cx C an r i tr d f H (Lg cx C f H d op) ((eff cx C (St.mk f H).ev d op).val H) := run1D_dK ..
def gTD (cx : Cx) (C : CallF) (an : List Nat) (i : Nat) (tr : Tr) (d : Option Nat) (t : Nat) (w : Bool) (op : Op) (r : List COp) (f : Nat → PV) (H : Heap) : Option St :=
  if w = true then runD cx C an (⟨d, none, op⟩ :: r) i tr (St.mk (upd f t (.s (.bool true))) H) else runD cx C an r (i + 1) tr (St.mk (match d with | some d => upd (upd f t (.s (.bool true))) d (.tu []) | none => upd f t (.s (.bool true))) H)
def gFD (cx : Cx) (C : CallF) (an : List Nat) (i : Nat) (tr : Tr) (d : Option Nat) (t : Nat) (w : Bool) (op : Op) (r : List COp) (f : Nat → PV) (H : Heap) : Option St :=
  if w = true then runD cx C an r (i + 1) tr (St.mk (match d with | some d => upd (upd f t (.s (.bool false))) d (.tu []) | none => upd f t (.s (.bool false))) H) else runD cx C an (⟨d, none, op⟩ :: r) i tr (St.mk (upd f t (.s (.bool false))) H)
def gKD (cx : Cx) (C : CallF) (an : List Nat) (i : Nat) (tr : Tr) (d : Option Nat) (t : Nat) (w : Bool) (op : Op) (r : List COp) (f : Nat → PV) (H : Heap) : PV → Option St
  | .s (.bool b) => if b = true then gTD cx C an i tr d t w op r f H else gFD cx C an i tr d t w op r f H
  | .tu [] => runD cx C an r (i + 1) tr (St.mk (match d with | some d => upd f d (.tu []) | none => f) H)
  | _ => none
@[go_sem] theorem gKD_bool (an : List Nat) (i : Nat) (tr : Tr) (w b : Bool) : gKD cx C an i tr d t w op r f H (.s (.bool b)) = if b = true then gTD cx C an i tr d t w op r f H else gFD cx C an i tr d t w op r f H := rfl
@[go_sem] theorem gKD_tu (an : List Nat) (i : Nat) (tr : Tr) (w : Bool) (e : Nat) : gKD cx C an i tr (some e) t w op r f H (.tu []) = runD cx C an r (i + 1) tr (St.mk (upd f e (.tu [])) H) := rfl
@[go_sem] theorem gKD_tu_no (an : List Nat) (i : Nat) (tr : Tr) (w : Bool) : gKD cx C an i tr none t w op r f H (.tu []) = runD cx C an r (i + 1) tr (St.mk f H) := rfl
@[go_sem] theorem gTD_true (an : List Nat) (i : Nat) (tr : Tr) : gTD cx C an i tr d t true op r f H = runD cx C an (⟨d, none, op⟩ :: r) i tr (St.mk (upd f t (.s (.bool true))) H) := rfl
@[go_sem] theorem gTD_false (an : List Nat) (i : Nat) (tr : Tr) (e : Nat) : gTD cx C an i tr (some e) t false op r f H = runD cx C an r (i + 1) tr (St.mk (upd (upd f t (.s (.bool true))) e (.tu [])) H) := rfl
@[go_sem] theorem gTD_false_no (an : List Nat) (i : Nat) (tr : Tr) : gTD cx C an i tr none t false op r f H = runD cx C an r (i + 1) tr (St.mk (upd f t (.s (.bool true))) H) := rfl
@[go_sem] theorem gFD_true (an : List Nat) (i : Nat) (tr : Tr) (e : Nat) : gFD cx C an i tr (some e) t true op r f H = runD cx C an r (i + 1) tr (St.mk (upd (upd f t (.s (.bool false))) e (.tu [])) H) := rfl
@[go_sem] theorem gFD_true_no (an : List Nat) (i : Nat) (tr : Tr) : gFD cx C an i tr none t true op r f H = runD cx C an r (i + 1) tr (St.mk (upd f t (.s (.bool false))) H) := rfl
@[go_sem] theorem gFD_false (an : List Nat) (i : Nat) (tr : Tr) : gFD cx C an i tr d t false op r f H = runD cx C an (⟨d, none, op⟩ :: r) i tr (St.mk (upd f t (.s (.bool false))) H) := rfl
@[go_sem] theorem runD_g (an : List Nat) (i : Nat) (tr : Tr) (w : Bool) : runD cx C an (⟨d, some (t, w), op⟩ :: r) i tr (St.mk f H) = gKD cx C an i tr d t w op r f H (f t) := by
  simp only [runD]
  cases f t with
  | s v => cases v <;> rfl
  | tu l => cases l <;> rfl
  | _ => rfl
@[go_sem] theorem exec_draw (l : List COp) (an : List Nat) : exec cx C (.draw l an) (St.mk f H) = toOut (runD cx C an l 0 [] (St.mk f H)) := rfl
@[go_sem] theorem okTr_nil (m : Nat) (x : List Nat × List Nat) : okTr m [] x = true := rfl
@[go_sem] theorem okTr_cons (m j : Nat) (y x : List Nat × List Nat) (tr : Tr) : okTr m ((j, y) :: tr) x = ((1 &&& (m >>> j) != 0 || disjT x y) && okTr m tr x) := rfl
@[go_sem] theorem disjT_nil (a b : List Nat) : disjT (a, []) (b, []) = true := rfl
@[go_sem] theorem disjT_left (a b : List Nat) (k : Nat) (ks : List Nat) : disjT (a, []) (b, k :: ks) = disj (k :: ks) a := by simp [disjT, disj]
@[go_sem] theorem disjT_both (a b : List Nat) (k : Nat) (ks us : List Nat) : disjT (a, k :: ks) (b, us) = (disj (k :: ks) (b ++ us) && disj us a) := rfl
@[go_sem] theorem Lg_move (x : Operand) : Lg cx C f H d (.move x) = [] := rfl
@[go_sem] theorem Lg_assign (x : Operand) : Lg cx C f H d (.assign x) = [] := rfl
@[go_sem] theorem Lg_pick (x a b : Operand) : Lg cx C f H d (.pick x a b) = [] := by unfold Lg eff; simp only []; split <;> rfl
@[go_sem] theorem Lg_nilCheck (x : Operand) : Lg cx C f H d (.nilCheck x) = [] := by unfold Lg eff; simp only []; split <;> rfl
@[go_sem] theorem Lg_binOp (o : BinOp) (x y : Operand) (u : Nat) : Lg cx C f H d (.binOp o t x y u) = [] := by unfold Lg eff; simp only []; split <;> rfl
@[go_sem] theorem Lg_unOp (o : UnOp) (x : Operand) : Lg cx C f H d (.unOp o t x) = [] := by unfold Lg eff; simp only []; split <;> (try rfl); split <;> rfl
@[go_sem] theorem Lg_extract (x : Operand) (i : Nat) : Lg cx C f H d (.extract x i) = [] := by unfold Lg eff; simp only []; split <;> (try rfl); split <;> rfl
@[go_sem] theorem Lg_fieldAddr (x : Operand) (i : Nat) : Lg cx C f H d (.fieldAddr t x i) = [] := by
  unfold Lg eff; simp only []; split <;> (try rfl); split <;> (try rfl); split <;> rfl
@[go_sem] theorem Lg_index (x y : Operand) : Lg cx C f H d (.index t x y) = [] := by unfold Lg eff; simp only []; split <;> (try rfl) <;> split <;> rfl
def keyL : PV → List Nat
  | .ad b _ _ _ => [b]
  | .sl b _ _ _ => [b]
  | _ => []
@[go_sem] theorem getRow_log {α : Type} (b ver : Nat) (k : Nat → Nat → Bool → List (List PV) → Rd α) (hk : ∀ T sz box rows, (k T sz box rows).log H = []) : (getRow b ver k).log H = [b] := by
  unfold getRow
  simp only [Rd.log]
  split
  · split
    · rw [hk]
    · rfl
  · rfl
theorem mkVal_log (P : Program) (cs : List PV) : (mkVal P t cs).log H = [] := by
  unfold mkVal; split
  · split
    · rfl
    · split <;> rfl
  · rfl
theorem bind_pure_log {α β : Type} (x : Rd α) (g : α → β) : (x.bind fun v => Rd.pure (g v)).log H = x.log H := by
  rw [Rd.log_bind]; cases x.val H <;> simp [Rd.log]
def loadL : PV → List Nat
  | .ad b _ _ _ => [b]
  | _ => []
@[go_sem] theorem loadL_ad (b v i j : Nat) : loadL (.ad b v i j) = [b] := rfl
@[go_sem] theorem loadL_sa (ln : Bool) (cs : List PV) : loadL (.sa ln cs) = [] := rfl
@[go_sem] theorem Lg_load (a : Operand) : Lg cx C f H d (.load t a) = loadL ((St.mk f H).ev a) := by
  unfold Lg
  show ((loadEff cx.P t ((St.mk f H).ev a)).bind fun v => Rd.pure (v, ([] : Ups))).log H = _
  rw [bind_pure_log]
  unfold loadEff
  split
  · rw [getRow_log H]
    · rename_i h; rw [h]; rfl
    · intro T sz box rows; split
      · exact mkVal_log H t _ _
      · rfl
  · rename_i h; rw [h]; exact mkVal_log H t _ _
  · rename_i h1 h2
    unfold loadL
    split
    · rename_i h; exact absurd h (h1 _ _ _ _)
    · rfl
def idxL : PV → List Nat
  | .sl b _ _ _ => [b]
  | _ => []
@[go_sem] theorem idxL_sl (b v o n : Nat) : idxL (.sl b v o n) = [b] := rfl
@[go_sem] theorem idxL_sh (ln : Bool) (r : List (List PV)) : idxL (.sh ln r) = [] := rfl
@[go_sem] theorem idxL_ad (b v i j : Nat) : idxL (.ad b v i j) = [] := rfl
@[go_sem] theorem idxL_sa (ln : Bool) (cs : List PV) : idxL (.sa ln cs) = [] := rfl
@[go_sem] theorem idxL_z : idxL .z = [] := rfl
@[go_sem] theorem idxL_s (v : Value) : idxL (.s v) = [] := rfl
@[go_sem] theorem Lg_indexAddr (a x : Operand) : Lg cx C f H d (.indexAddr t a x) = if (idxV ((St.mk f H).ev x)).isSome = true ∧ (slT cx.P t).isSome = true then idxL ((St.mk f H).ev a) else [] := by
  unfold Lg
  show ((idxEff cx.P t ((St.mk f H).ev a) ((St.mk f H).ev x)).bind fun v => Rd.pure (v, ([] : Ups))).log H = _
  rw [bind_pure_log]
  unfold idxEff
  generalize (St.mk f H).ev a = p
  cases idxV ((St.mk f H).ev x) with
  | none => simp [Rd.log]
  | some i =>
    cases hs : slT cx.P t with
    | none =>
      simp
      split <;> first | rfl | (split <;> rfl) | (rename_i hq; cases hq)
    | some e =>
      simp only [Option.isSome_some, and_self, if_true]
      cases p with
      | sl b v o n => simp only [idxL]; exact getRow_log H b v _ (fun T sz box rows => by split <;> rfl)
      | sh ln r => simp only [idxL]; split <;> rfl
      | _ => simp only [idxL]; rfl
def slcE (b : Nat) (P : Program) : Option Nat → List Nat
  | some e => if okT P e = true then [b] else []
  | none => []
@[go_sem] theorem slcE_some (b : Nat) (P : Program) (e : Nat) : slcE b P (some e) = if okT P e = true then [b] else [] := rfl
def slcL (P : Program) (t : Nat) : PV → List Nat
  | .sl b _ _ _ => slcE b P (slT P t)
  | _ => []
@[go_sem] theorem slcL_sl (P : Program) (b v o n : Nat) : slcL P t (.sl b v o n) = slcE b P (slT P t) := rfl
@[go_sem] theorem slcL_sh (P : Program) (ln : Bool) (r : List (List PV)) : slcL P t (.sh ln r) = [] := rfl
@[go_sem] theorem slcL_s (P : Program) (v : Value) : slcL P t (.s v) = [] := rfl
@[go_sem] theorem slcL_z (P : Program) : slcL P t .z = [] := rfl
theorem sliceMax_log (hi : Option PV) (l h n : Int) (m : Option Int) : (sliceMax hi l h n m).log H = [] := by
  unfold sliceMax; split
  · split
    · split <;> rfl
    · rfl
  · rfl
@[go_sem] theorem Lg_slice (x : Operand) (lo hi mx : Option Operand) : Lg cx C f H d (.slice t x lo hi mx) = slcL cx.P t ((St.mk f H).ev x) := by
  unfold Lg
  show (sliceEff cx.P t ((St.mk f H).ev x) _ _ _).log H = _
  generalize (St.mk f H).ev x = p
  unfold sliceEff
  split
  · simp only [slcL]; unfold sliceStr; split
    · split <;> rfl
    · rfl
  · simp only [slcL]
    split
    · split
      · unfold sliceSh; split
        · split
          · split <;> rfl
          · exact sliceMax_log H _ _ _ _ _
        · rfl
      · rfl
    · rfl
  · simp only [slcL]
    split
    · rename_i e he
      rw [he]
      simp only [slcE]
      split
      · refine getRow_log H _ _ _ (fun T sz box rows => ?_)
        unfold sliceSl; split
        · split
          · split
            · split <;> rfl
            · exact sliceMax_log H _ _ _ _ _
          · rfl
        · rfl
      · rfl
    · rename_i he; rw [he]; rfl
  · simp only [slcL]
    split
    · split
      · unfold sliceZ; split
        · split
          · split <;> rfl
          · exact sliceMax_log H _ _ _ _ _
        · rfl
      · rfl
    · rfl
  · rename_i h1 h2 h3 h4
    unfold slcL
    split
    · exact absurd rfl (h3 _ _ _ _)
    · rfl
def Lg2 (cx : Cx) (C : CallF) (f : Nat → PV) (H : Heap) (d : Option Nat) (op : Op) : List Nat := (eff cx C (St.mk f H).ev d op).log H
def cvL (L : List Nat) : PV → List Nat
  | .s _ => []
  | _ => L
@[go_sem] theorem cvL_s (L : List Nat) (v : Value) : cvL L (.s v) = [] := rfl
@[go_sem] theorem Lg_convert (src dst : Nat) (x : Operand) : Lg cx C f H d (.convert src dst x) = cvL (Lg2 cx C f H d (.convert src dst x)) ((St.mk f H).ev x) := by
  unfold cvL
  split
  · rename_i v h
    unfold Lg eff
    simp only [h]
    cases v with
    | int k n => simp only []; split <;> rfl
    | string s => simp only []; split <;> rfl
    | _ =>
      simp only []
      split
      · split
        · rw [Rd.log_bind]; rfl
        · rfl
      · rfl
  · rfl
@[go_sem] theorem Lg_len (a : Operand) (u : Nat) : Lg cx C f H d (.call { callee := .builtin .len, args := #[a], argTypes := #[u] }) = idxL ((St.mk f H).ev a) := by
  unfold Lg
  show ((lenP cx.P u ((St.mk f H).ev a)).bind fun v => Rd.pure (v, ([] : Ups))).log H = _
  rw [bind_pure_log]
  generalize (St.mk f H).ev a = p
  unfold lenP
  split
  · simp only [idxL]; split <;> rfl
  · simp only [idxL]; split <;> rfl
  · simp only [idxL]; exact getRow_log H _ _ _ (fun T sz box rows => by split <;> rfl)
  · simp only [idxL]; split <;> rfl
  · rename_i h1 h2 h3 h4
    unfold idxL
    split
    · exact absurd rfl (h3 _ _ _ _)
    · rfl
@[go_sem] theorem exec_skip (st : St) : exec cx C .skip st = some (.nrm, st) := rfl
@[go_sem] theorem exec_run (l : List COp) : exec cx C (.run l) (St.mk f H) = toOut (runOps cx C l (St.mk f H)) := rfl
@[go_sem] theorem exec_seq (a b : CC) : exec cx C (.seq a b) (St.mk f H) = seqK (exec cx C a (St.mk f H)) (exec cx C b) := rfl
noncomputable def cK (cx : Cx) (C : CallF) (a b : CC) (st : St) : PV → Out
  | .s (.bool t) => if t = true then exec cx C a st else exec cx C b st
  | _ => none
@[go_sem] theorem cK_bool (a b : CC) (st : St) (t : Bool) : cK cx C a b st (.s (.bool t)) = if t = true then exec cx C a st else exec cx C b st := rfl
@[go_sem] theorem exec_cond (x : Operand) (a b : CC) : exec cx C (.cond x a b) (St.mk f H) = cK cx C a b (St.mk f H) ((St.mk f H).ev x) := rfl
@[go_sem] theorem exec_block (id : Nat) (c : CC) : exec cx C (.block id c) (St.mk f H) = blkK id (exec cx C c (St.mk f H)) := rfl
theorem exec_loop (ks : List (Nat × Option Nat) × List Nat) (c : CC) : exec cx C (.loop ks c) (St.mk f H) = Loop (exec cx C c) (Rst cx.P ks) (Rst cx.P ks (St.mk f H)) := rfl
@[go_sem] theorem exec_exit (id : Nat) (st : St) : exec cx C (.exit id) st = some (.ex id, st) := rfl
@[go_sem] theorem exec_ret (st : St) : exec cx C .ret st = some (.ret, st) := rfl
@[go_sem] theorem endK_ret (k : St → Option (List PV × List PV)) (st : St) : endK k (some (.ret, st)) = k st := rfl
@[go_sem] theorem endK_nrm (k : St → Option (List PV × List PV)) (st : St) : endK k (some (.nrm, st)) = k st := rfl
@[go_sem] theorem endK_ite (k : St → Option (List PV × List PV)) (c : Prop) [Decidable c] (x y : Out) : endK k (if c then x else y) = if c then endK k x else endK k y := by split <;> rfl
attribute [go_sem] seqK_nrm seqK_ret seqK_ex seqK_none seqK_ite blkK_nrm blkK_ret blkK_ex blkK_none blkK_ite toOut_some toOut_none toOut_ite Rd.val_pure Rd.val_fail Rd.val_get Rd.val_bind

@[go_sem high] theorem runD_gtt (an : List Nat) (i : Nat) (tr : Tr) (h : f t = .s (.bool true)) : runD cx C an (⟨d, some (t, true), op⟩ :: r) i tr (St.mk f H) = runD cx C an (⟨d, none, op⟩ :: r) i tr (St.mk f H) := by
  rw [runD_g, h, gKD_bool, if_pos rfl, gTD_true, upd_self_val f t h]
@[go_sem high] theorem runD_gff (an : List Nat) (i : Nat) (tr : Tr) (h : f t = .s (.bool false)) : runD cx C an (⟨d, some (t, false), op⟩ :: r) i tr (St.mk f H) = runD cx C an (⟨d, none, op⟩ :: r) i tr (St.mk f H) := by
  rw [runD_g, h, gKD_bool, if_neg Bool.false_ne_true, gFD_false, upd_self_val f t h]
@[go_sem high] theorem runD_gtf (an : List Nat) (i : Nat) (tr : Tr) (e : Nat) (h : f t = .s (.bool false)) : runD cx C an (⟨some e, some (t, true), op⟩ :: r) i tr (St.mk f H) = runD cx C an r (i + 1) tr (St.mk (upd f e (.tu [])) H) := by
  rw [runD_g, h, gKD_bool, if_neg Bool.false_ne_true, gFD_true, upd_self_val f t h]
@[go_sem high] theorem runD_gft (an : List Nat) (i : Nat) (tr : Tr) (e : Nat) (h : f t = .s (.bool true)) : runD cx C an (⟨some e, some (t, false), op⟩ :: r) i tr (St.mk f H) = runD cx C an r (i + 1) tr (St.mk (upd f e (.tu [])) H) := by
  rw [runD_g, h, gKD_bool, if_pos rfl, gTD_false, upd_self_val f t h]
/-! A block that is read. -/
def rowK {α : Type} (ver : Nat) (k : Nat → Nat → Bool → List (List PV) → Rd α) (H : Heap) : Option Blk → Option α
  | some (.row v T sz box rows) => if v = ver then (k T sz box rows).val H else none
  | _ => none
@[go_sem] theorem rowK_row {α : Type} (v ver T sz : Nat) (box : Bool) (rows : List (List PV)) (k : Nat → Nat → Bool → List (List PV) → Rd α) : rowK ver k H (some (.row v T sz box rows)) = if v = ver then (k T sz box rows).val H else none := rfl
@[go_sem] theorem getRow_val {α : Type} (b ver : Nat) (k : Nat → Nat → Bool → List (List PV) → Rd α) : (getRow b ver k).val H = rowK ver k H (H b) := by
  unfold getRow rowK
  rw [Rd.val_get]
  cases H b with
  | none => rfl
  | some x => cases x with
    | row v T sz box rows => simp only []; split <;> rfl
    | dead v => rfl
    | mp v ks => rfl
def keyK {α : Type} (k : Rd α) (H : Heap) : Option Blk → Option α
  | none => k.val H
  | some _ => none
@[go_sem] theorem keyK_none {α : Type} (k : Rd α) : keyK k H none = k.val H := rfl
@[go_sem] theorem newKey_val {α : Type} (k : Nat → Rd α) : (newKey (some t) k).val H = keyK (k t) H (H t) := by
  unfold newKey keyK
  simp only [Rd.val_get]
  cases H t <;> rfl

/-! One operation. -/
def fin : Option PV → Option (PV × Ups)
  | some v => some (v, [])
  | none => none
@[go_sem] theorem fin_some (v : PV) : fin (some v) = some (v, []) := rfl
@[go_sem] theorem fin_none : fin none = none := rfl
@[go_sem] theorem fin_ite (c : Prop) [Decidable c] (x y : Option PV) : fin (if c then x else y) = if c then fin x else fin y := by split <;> rfl
theorem bind_fin (x : Option PV) : (x.bind fun v => some (v, ([] : Ups))) = fin x := by cases x <;> rfl
section
variable (ρ : Operand → PV)
@[go_sem] theorem eff_move (x : Operand) : (eff cx C ρ d (.move x)).val H = some (ρ x, []) := rfl
@[go_sem] theorem eff_assign (x : Operand) : (eff cx C ρ d (.assign x)).val H = some (ρ x, []) := rfl
def pickK (a b : PV) : PV → Option (PV × Ups)
  | .s (.bool t) => some (if t = true then a else b, [])
  | _ => none
@[go_sem] theorem pickK_bool (a b : PV) (t : Bool) : pickK a b (.s (.bool t)) = some (if t = true then a else b, []) := rfl
@[go_sem] theorem eff_pick (c a b : Operand) : (eff cx C ρ d (.pick c a b)).val H = pickK (ρ a) (ρ b) (ρ c) := by
  simp only [eff, pickK]
  cases ρ c <;> try rfl
  rename_i v
  cases v <;> rfl
@[go_sem] theorem eff_load (a : Operand) : (eff cx C ρ d (.load t a)).val H = fin ((loadEff cx.P t (ρ a)).val H) := by
  rw [← bind_fin]; exact Rd.val_bind _ _ _
@[go_sem] theorem eff_store (a x : Operand) : (eff cx C ρ d (.store t a x)).val H = (storeEff cx.P t (ρ a) (ρ x)).val H := rfl
@[go_sem] theorem eff_indexAddr (a x : Operand) : (eff cx C ρ d (.indexAddr t a x)).val H = fin ((idxEff cx.P t (ρ a) (ρ x)).val H) := by
  rw [← bind_fin]; exact Rd.val_bind _ _ _
@[go_sem] theorem eff_binOp (op : BinOp) (x y : Operand) (u : Nat) : (eff cx C ρ d (.binOp op t x y u)).val H = fin (binP cx.P cx.eqT op t (ρ x) (ρ y)) := by
  simp only [eff]
  cases binP cx.P cx.eqT op t (ρ x) (ρ y) <;> rfl
def unP (op : UnOp) : PV → Option PV
  | .s a => (unS op a).map .s
  | _ => none
@[go_sem] theorem unP_s (op : UnOp) (a : Value) : unP op (.s a) = (unS op a).map .s := rfl
@[go_sem] theorem eff_unOp (op : UnOp) (x : Operand) : (eff cx C ρ d (.unOp op t x)).val H = fin (unP op (ρ x)) := by
  simp only [eff]
  cases ρ x <;> try rfl
  rename_i v
  simp only [unP]
  cases unS op v <;> rfl
@[go_sem] theorem eff_slice (x : Operand) (lo hi mx : Option Operand) : (eff cx C ρ d (.slice t x lo hi mx)).val H = (sliceEff cx.P t (ρ x) (lo.map ρ) (hi.map ρ) (mx.map ρ)).val H := rfl
@[go_sem] theorem eff_builtin (b : Builtin) (as : Array Operand) (ts : Array Nat) : (eff cx C ρ d (.call { callee := .builtin b, args := as, argTypes := ts })).val H = (builtinEff cx.P d b ts.toList (as.toList.map ρ)).val H := rfl
def srtK (cx : Cx) (C : CallF) (d : Option Nat) (ts : List Nat) (as : List PV) (H : Heap) (g : Nat) : Option SortF → Option (PV × Ups)
  | some F => (sortEff cx.P F as).val H
  | none => (callEff cx.P cx.md C d g ts as).val H
@[go_sem] theorem srtK_none (g : Nat) (ts : List Nat) (as : List PV) : srtK cx C d ts as H g none = (callEff cx.P cx.md C d g ts as).val H := rfl
@[go_sem] theorem srtK_some (g : Nat) (ts : List Nat) (as : List PV) (F : SortF) : srtK cx C d ts as H g (some F) = (sortEff cx.P F as).val H := rfl
def fnK (cx : Cx) (C : CallF) (d : Option Nat) (ts : List Nat) (as : List PV) (H : Heap) : PV → Option (PV × Ups)
  | .fn g caps => srtK cx C d (ts ++ caps.map fun _ => 0) (as ++ caps) H g (cx.srt g)
  | _ => none
@[go_sem] theorem fnK_fn (g : Nat) (caps : List PV) (ts : List Nat) (as : List PV) : fnK cx C d ts as H (.fn g caps) = srtK cx C d (ts ++ caps.map fun _ => 0) (as ++ caps) H g (cx.srt g) := rfl
/-! A sort. -/
def sK2 (b ver T sz len : Nat) (rows : List (List PV)) : Option (List (List PV)) → Option (PV × Ups)
  | some r => some (.tu [], [(b, .row ver T sz false (r ++ rows.drop len))])
  | none => none
@[go_sem] theorem sK2_some (b ver T sz len : Nat) (rows r : List (List PV)) : sK2 b ver T sz len rows (some r) = some (.tu [], [(b, .row ver T sz false (r ++ rows.drop len))]) := rfl
@[go_sem] theorem sortRow_val (P : Program) (F : SortF) (f : Nat) (ps : List PV) (b ver len T sz : Nat) (rows : List (List PV)) :
    (sortRow P F f ps b ver len T sz false rows).val H = if len ≤ rows.length ∧ sz = szOf P T ∧ ((rows.take len).all fun r => r.all PV.plain) = true then sK2 b ver T sz len rows (F f ps T (rows.take len)) else none := by
  unfold sortRow
  simp only [true_and]
  split
  · cases F f ps T (rows.take len) <;> rfl
  · rfl
@[go_sem] theorem sortEff_nil (P : Program) (F : SortF) (f b ver len : Nat) : (sortEff P F [.sl b ver 0 len, .fn f []]).val H = (getRow b ver (sortRow P F f [] b ver len)).val H := by
  simp [sortEff, Rd.mapM, Rd.bind]
@[go_sem] theorem plain_s (v : Value) : (PV.s v).plain = true := rfl
@[go_sem] theorem eff_value (x : Operand) (as : Array Operand) (ts : Array Nat) : (eff cx C ρ d (.call { callee := .value x, args := as, argTypes := ts })).val H = fnK cx C d ts.toList (as.toList.map ρ) H (ρ x) := by
  simp only [eff]
  cases ρ x <;> try rfl
  rename_i g caps
  simp only [fnK]
  cases cx.srt g <;> rfl
@[go_sem] theorem eff_extract (x : Operand) (i : Nat) : (eff cx C ρ d (.extract x i)).val H = fin (match ρ x with | .tu vs => vs[i]? | _ => none) := by
  simp only [eff]
  cases ρ x <;> try rfl
  simp only []
  rename_i vs
  cases vs[i]? <;> rfl
/-! A call, stage by stage. -/
def cK4 (ups : Ups) : Option (PV × Ups) → Option (PV × Ups)
  | none => none
  | some y => if disj (y.2.map (·.1)) (ups.map (·.1)) = true ∧ keysNodup (y.2.map (·.1)) = true then some (y.1, ups ++ y.2) else none
@[go_sem] theorem cK4_some (ups : Ups) (p : PV) (u : Ups) : cK4 ups (some (p, u)) = if disj (u.map (·.1)) (ups.map (·.1)) = true ∧ keysNodup (u.map (·.1)) = true then some (p, ups ++ u) else none := rfl
@[go_sem] theorem cK4_none (ups : Ups) : cK4 ups none = none := rfl
def cK5 (ups : Ups) : Option (List PV × Ups) → Option (PV × Ups)
  | none => none
  | some y => if disj (y.2.map (·.1)) (ups.map (·.1)) = true ∧ keysNodup (y.2.map (·.1)) = true then some (.tu y.1, ups ++ y.2) else none
@[go_sem] theorem cK5_some (ups : Ups) (p : List PV) (u : Ups) : cK5 ups (some (p, u)) = if disj (u.map (·.1)) (ups.map (·.1)) = true ∧ keysNodup (u.map (·.1)) = true then some (.tu p, ups ++ u) else none := rfl
@[go_sem] theorem cK5_none (ups : Ups) : cK5 ups none = none := rfl
@[go_sem] theorem recvK_one (P : Program) (e : Nat) (ups : Ups) (r : PV) : (recvK P (some e) ups [r]).val H = cK4 ups ((recv P e r).val H) := by
  unfold recvK
  rw [Rd.val_bind]
  cases (recv P e r).val H with
  | none => rfl
  | some y => simp only [Option.bind_some, cK4]; split <;> rfl
@[go_sem] theorem recvK_nil (P : Program) (e : Nat) (ups : Ups) : (recvK P (some e) ups []).val H = cK5 ups ((recvL P (rkeys e 0 []) []).val H) := by
  unfold recvK
  rw [Rd.val_bind]
  cases (recvL P (rkeys e 0 []) []).val H with
  | none => rfl
  | some y => simp only [Option.bind_some, cK5]; split <;> rfl
@[go_sem] theorem recvK_two (P : Program) (e : Nat) (ups : Ups) (a b : PV) (rs : List PV) : (recvK P (some e) ups (a :: b :: rs)).val H = cK5 ups ((recvL P (rkeys e 0 (a :: b :: rs)) (a :: b :: rs)).val H) := by
  unfold recvK
  simp only []
  rw [Rd.val_bind]
  cases (recvL P (rkeys e 0 (a :: b :: rs)) (a :: b :: rs)).val H with
  | none => rfl
  | some y => simp only [Option.bind_some, cK5]; split <;> rfl
def cK3 (P : Program) (d : Option Nat) (ups : Ups) (res : List PV) (H : Heap) : Option Ups → Option (PV × Ups)
  | none => none
  | some ub => if keysNodup (ub.map (·.1)) = true then (recvK P d (ups ++ ub) res).val H else none
@[go_sem] theorem cK3_some (P : Program) (d : Option Nat) (ups ub : Ups) (res : List PV) : cK3 P d ups res H (some ub) = if keysNodup (ub.map (·.1)) = true then (recvK P d (ups ++ ub) res).val H else none := rfl
@[go_sem] theorem cK3_none (P : Program) (d : Option Nat) (ups : Ups) (res : List PV) : cK3 P d ups res H none = none := rfl
def cK2 (P : Program) (ms : List Nat) (d : Option Nat) (args : List PV) (ups : Ups) (H : Heap) : Option (List PV × List PV) → Option (PV × Ups)
  | none => none
  | some (res, outs) => if (lentKeys ms args).isEmpty = true ∨ (res.any lentV = false ∧ outs.any lentV = false) then cK3 P d ups res H ((backs P ms args outs).val H) else none
@[go_sem] theorem cK2_some (P : Program) (ms : List Nat) (d : Option Nat) (args : List PV) (ups : Ups) (res outs : List PV) : cK2 P ms d args ups H (some (res, outs)) = if (lentKeys ms args).isEmpty = true ∨ (res.any lentV = false ∧ outs.any lentV = false) then cK3 P d ups res H ((backs P ms args outs).val H) else none := rfl
@[go_sem] theorem cK2_none (P : Program) (ms : List Nat) (d : Option Nat) (args : List PV) (ups : Ups) : cK2 P ms d args ups H none = none := rfl
def cK1 (P : Program) (ms : List Nat) (C : CallF) (d : Option Nat) (g : Nat) (args : List PV) (H : Heap) : Option (List PV × Ups) → Option (PV × Ups)
  | none => none
  | some (qs, ups) => if keysNodup (ups.map (·.1)) = true ∧ disj (lentKeys ms args) (ups.map (·.1)) = true then cK2 P ms d args ups H (C g qs) else none
@[go_sem] theorem cK1_some (P : Program) (ms : List Nat) (g : Nat) (args qs : List PV) (ups : Ups) : cK1 P ms C d g args H (some (qs, ups)) = if keysNodup (ups.map (·.1)) = true ∧ disj (lentKeys ms args) (ups.map (·.1)) = true then cK2 P ms d args ups H (C g qs) else none := rfl
@[go_sem] theorem cK1_none (P : Program) (ms : List Nat) (g : Nat) (args : List PV) : cK1 P ms C d g args H none = none := rfl
@[go_sem] theorem callEff_val (P : Program) (md : Nat → List Nat) (g : Nat) (ts : List Nat) (args : List PV) : (callEff P md C d g ts args).val H = cK1 P (md g) C d g args H ((xfers P (md g) ts args).val H) := by
  unfold callEff
  rw [Rd.val_bind]
  cases (xfers P (md g) ts args).val H with
  | none => rfl
  | some x =>
    obtain ⟨qs, ups⟩ := x
    simp only [Option.bind_some, cK1]
    split
    · cases C g qs with
      | none => rfl
      | some y =>
        obtain ⟨res, outs⟩ := y
        simp only [callK, cK2]
        split
        · rw [Rd.val_bind]
          cases (backs P (md g) args outs).val H with
          | none => rfl
          | some ub => simp only [Option.bind_some, cK3]; split <;> rfl
        · rfl
    · rfl
@[go_sem] theorem xfers_nil (P : Program) : (xfers P [] [] []).val H = some ([], []) := rfl
def xK2 (x : PV × Ups) : Option (List PV × Ups) → Option (List PV × Ups)
  | none => none
  | some y => some (x.1 :: y.1, x.2 ++ y.2)
@[go_sem] theorem xK2_some (x : PV × Ups) (qs : List PV) (u : Ups) : xK2 x (some (qs, u)) = some (x.1 :: qs, x.2 ++ u) := rfl
@[go_sem] theorem xK2_none (x : PV × Ups) : xK2 x none = none := rfl
def xK1 (y : Option (List PV × Ups)) : Option (PV × Ups) → Option (List PV × Ups)
  | none => none
  | some x => xK2 x y
@[go_sem] theorem xK1_some (y : Option (List PV × Ups)) (x : PV × Ups) : xK1 y (some x) = xK2 x y := rfl
@[go_sem] theorem xK1_none (y : Option (List PV × Ups)) : xK1 y none = none := rfl
@[go_sem] theorem xfers_cons (P : Program) (m t : Nat) (ms ts : List Nat) (p : PV) (ps : List PV) : (xfers P (m :: ms) (t :: ts) (p :: ps)).val H = xK1 ((xfers P ms ts ps).val H) ((xfer P m t p).val H) := by
  simp only [xfers, Rd.val_bind]
  cases (xfer P m t p).val H with
  | none => rfl
  | some x =>
    simp only [Option.bind_some, xK1]
    cases (xfers P ms ts ps).val H <;> rfl
def ptrK : PV → Option (PV × Ups)
  | .ad b v i j => some (.ad b v i j, [])
  | .sa ln cs => some (.sa ln cs, [])
  | _ => none
@[go_sem] theorem ptrK_ad (b v i j : Nat) : ptrK (.ad b v i j) = some (.ad b v i j, []) := rfl
@[go_sem] theorem ptrK_sa (ln : Bool) (cs : List PV) : ptrK (.sa ln cs) = some (.sa ln cs, []) := rfl
@[go_sem] theorem eff_nilCheck (x : Operand) : (eff cx C ρ d (.nilCheck x)).val H = ptrK (ρ x) := by
  simp only [eff]
  cases ρ x <;> rfl
def fieldK (sz off : Nat) : PV → Option (PV × Ups)
  | .ad b v i j => if sz = 0 then none else some (.ad b v i (j + off), [])
  | .sa ln cs => if sz = 0 then none else some (.sa ln (cs.drop off), [])
  | _ => none
@[go_sem] theorem fieldK_ad (sz off b v i j : Nat) : fieldK sz off (.ad b v i j) = if sz = 0 then none else some (.ad b v i (j + off), []) := rfl
@[go_sem] theorem fieldK_sa (sz off : Nat) (ln : Bool) (cs : List PV) : fieldK sz off (.sa ln cs) = if sz = 0 then none else some (.sa ln (cs.drop off), []) := rfl
def fieldP (P : Program) (p : PV) : Option (Nat × Nat) → Option (PV × Ups)
  | some (off, e) => fieldK (szOf P e) off p
  | none => none
@[go_sem] theorem fieldP_some (P : Program) (p : PV) (off e : Nat) : fieldP P p (some (off, e)) = fieldK (szOf P e) off p := rfl
@[go_sem] theorem eff_fieldAddr (x : Operand) (i : Nat) : (eff cx C ρ d (.fieldAddr t x i)).val H = fieldP cx.P (ρ x) (fieldT cx.P t i) := by
  simp only [eff, fieldP]
  cases fieldT cx.P t i with
  | none => rfl
  | some y =>
    obtain ⟨off, e⟩ := y
    simp only [fieldK]
    by_cases h : szOf cx.P e = 0
    · simp only [h, if_true]; cases ρ x <;> rfl
    · simp only [h, if_false]; cases ρ x <;> rfl
@[go_sem] theorem eff_makeFunc (g : Nat) (caps : Array Operand) : (eff cx C ρ d (.makeFunc (.func g) #[] caps)).val H = if (caps.toList.map ρ).all capOk = true then some (.fn g (caps.toList.map ρ), []) else none := by
  simp only [eff]
  by_cases h : (caps.toList.map ρ).all capOk = true
  · rw [if_pos ⟨rfl, h⟩, if_pos h]; rfl
  · rw [if_neg (fun x => h x.2), if_neg h]; rfl
def allocK (d T : Nat) : Option (List PV) → Option (PV × Ups)
  | some cs => some (.ad d 0 0 0, [(d, .row 0 T cs.length true [cs])])
  | none => none
@[go_sem] theorem allocK_some (d T : Nat) (cs : List PV) : allocK d T (some cs) = some (.ad d 0 0 0, [(d, .row 0 T cs.length true [cs])]) := rfl
@[go_sem] theorem orK_none {α : Type} (b : Option α) : orK none b = b := rfl
@[go_sem] theorem orK_some {α : Type} (a : α) (b : Option α) : orK (some a) b = some a := rfl
def freeK (x : Option (PV × Ups)) : Option Blk → Option (PV × Ups)
  | none => x
  | some _ => none
@[go_sem] theorem freeK_none (x : Option (PV × Ups)) : freeK x none = x := rfl
def allocP (P : Program) (d T : Nat) (es : List (Option Nat)) (H : Heap) : Option (List PV) → Option (PV × Ups)
  | some cs => (freeKs ((promC P d 0 es cs).2.map (·.1)) (Rd.pure (PV.ad d 0 0 0, (promC P d 0 es cs).2 ++ [(d, Blk.row 0 T cs.length true [(promC P d 0 es cs).1])]))).val H
  | none => none
@[go_sem] theorem allocP_nil (P : Program) (d T : Nat) (cs : List PV) : allocP P d T [] H (some cs) = some (.ad d 0 0 0, [(d, .row 0 T cs.length true [cs])]) := by
  simp only [allocP, promC, List.map_nil, freeKs, Rd.val, List.nil_append]
@[go_sem] theorem allocP_cons (P : Program) (d T : Nat) (es : List (Option Nat)) (e : Option Nat) (cs : List PV) : allocP P d T (e :: es) H (some cs) = (freeKs ((promC P d 0 (e :: es) cs).2.map (·.1)) (Rd.pure (PV.ad d 0 0 0, (promC P d 0 (e :: es) cs).2 ++ [(d, Blk.row 0 T cs.length true [(promC P d 0 (e :: es) cs).1])]))).val H := rfl
@[go_sem] theorem freeKs_nil {α : Type} (x : Rd α) : freeKs [] x = x := rfl
@[go_sem] theorem freeKs_cons {α : Type} (k : Nat) (ks : List Nat) (x : Rd α) : (freeKs (k :: ks) x).val H = keyK (freeKs ks x) H (H k) := by
  simp only [freeKs, Rd.val_get, keyK]
  cases H k <;> rfl
@[go_sem] theorem eff_alloc (e T : Nat) : (eff cx C ρ (some e) (.alloc T)).val H = freeK (allocP cx.P e T (cx.pr T) H (zc cx.P T)) (H e) := by
  simp only [eff, newKey_val]
  cases H e <;> try rfl
  simp only [keyK, freeK]
  cases zc cx.P T with
  | none => rfl
  | some cs => rfl
@[go_sem] theorem eff_box (e T : Nat) (x : Operand) : (eff cx C ρ (some e) (.box T x)).val H = freeK (allocP cx.P e T (cx.pr T) H (cellsOf (ρ x))) (H e) := by
  simp only [eff, newKey_val]
  cases H e <;> try rfl
  simp only [keyK, freeK]
  cases cellsOf (ρ x) <;> rfl
def agF : Option (List PV) → Option (PV × Ups)
  | some cs => some (.ag cs, [])
  | none => none
@[go_sem] theorem agF_some (cs : List PV) : agF (some cs) = some (.ag cs, []) := rfl
def buildP (P : Program) (ρ : Operand → PV) (t : Nat) (ps : List (Nat × Operand)) : Option (List PV) → Option (PV × Ups)
  | some z => agF (buildFill P t ρ ps z)
  | none => none
@[go_sem] theorem buildP_some (P : Program) (ps : List (Nat × Operand)) (z : List PV) : buildP P ρ t ps (some z) = agF (buildFill P t ρ ps z) := rfl
@[go_sem] theorem eff_build (ps : Array (Nat × Operand)) : (eff cx C ρ d (.build t ps)).val H = if blT cx.P t = true then buildP cx.P ρ t ps.toList (zc cx.P t) else none := by
  simp only [eff]
  split
  · cases zc cx.P t with
    | none => rfl
    | some z =>
      simp only [buildP]
      cases buildFill cx.P t ρ ps.toList z <;> rfl
  · rfl
def bslP (P : Program) (ρ : Operand → PV) (d len : Nat) (ps : List (Nat × Operand)) (H : Heap) : Option Nat → Option (PV × Ups)
  | some e => if elT P e = true ∧ len * szOf P e ≤ 16777216 then keyK (bslK P ρ len ps e (zc P e) d) H (H d) else none
  | none => none
@[go_sem] theorem bslP_some (P : Program) (dd len e : Nat) (ps : List (Nat × Operand)) : bslP P ρ dd len ps H (some e) = if elT P e = true ∧ len * szOf P e ≤ 16777216 then keyK (bslK P ρ len ps e (zc P e) dd) H (H dd) else none := rfl
@[go_sem] theorem eff_buildSlice (dd len : Nat) (ps : Array (Nat × Operand)) : (eff cx C ρ (some dd) (.buildSlice t len ps)).val H = bslP cx.P ρ dd len ps.toList H (slT cx.P t) := by
  simp only [eff]
  cases slT cx.P t with
  | none => rfl
  | some e =>
    simp only [bslP]
    split
    · rw [newKey_val]
    · rfl
def bstK : Option ByteArray → Option (PV × Ups)
  | some s => some (.s (.string s), [])
  | none => none
@[go_sem] theorem bstK_some (s : ByteArray) : bstK (some s) = some (.s (.string s), []) := rfl
def bytK : Option (List (List PV)) → Option (PV × Ups)
  | some rows => bstK (bytesOf rows)
  | none => none
@[go_sem] theorem bytK_some (rows : List (List PV)) : bytK (some rows) = bstK (bytesOf rows) := rfl
def cvB (P : Program) (dst : Nat) (x : Option (List (List PV))) : Option Nat → Option (PV × Ups)
  | some e => if inT P e = some .u8 ∧ szOf P e = 1 ∧ stT P dst = true then bytK x else none
  | none => none
@[go_sem] theorem cvB_some (P : Program) (dst e : Nat) (x : Option (List (List PV))) : cvB P dst x (some e) = if inT P e = some .u8 ∧ szOf P e = 1 ∧ stT P dst = true then bytK x else none := rfl
def cvI (n : Int) : Option IntKind → Option IntKind → Option (PV × Ups)
  | some _, some k => some (.s (.int k (k.wrap n)), [])
  | _, _ => none
@[go_sem] theorem cvI_some (n : Int) (j k : IntKind) : cvI n (some j) (some k) = some (.s (.int k (k.wrap n)), []) := rfl
def cvK (P : Program) (src dst : Nat) (H : Heap) : PV → Option (PV × Ups)
  | .s (.int k n) => cvI n (inT P src) (inT P dst)
  | .s (.string s) => if (stT P src && stT P dst) = true then some (.s (.string s), []) else none
  | p => cvB P dst ((readRows p).val H) (slT P src)
@[go_sem] theorem cvK_int (P : Program) (src dst : Nat) (k : IntKind) (n : Int) : cvK P src dst H (.s (.int k n)) = cvI n (inT P src) (inT P dst) := rfl
@[go_sem] theorem cvK_str (P : Program) (src dst : Nat) (s : ByteArray) : cvK P src dst H (.s (.string s)) = if (stT P src && stT P dst) = true then some (.s (.string s), []) else none := rfl
@[go_sem] theorem cvK_sh (P : Program) (src dst : Nat) (ln : Bool) (r : List (List PV)) : cvK P src dst H (.sh ln r) = cvB P dst ((readRows (.sh ln r)).val H) (slT P src) := rfl
@[go_sem] theorem cvK_sl (P : Program) (src dst b v o n : Nat) : cvK P src dst H (.sl b v o n) = cvB P dst ((readRows (.sl b v o n)).val H) (slT P src) := rfl
@[go_sem] theorem cvK_z (P : Program) (src dst : Nat) : cvK P src dst H .z = cvB P dst ((readRows .z).val H) (slT P src) := rfl
@[go_sem] theorem eff_convert (src dst : Nat) (x : Operand) : (eff cx C ρ d (.convert src dst x)).val H = cvK cx.P src dst H (ρ x) := by
  simp only [eff]
  generalize ρ x = p
  have hB : ∀ p : PV, ((match slT cx.P src with
      | some e => if inT cx.P e = some IntKind.u8 ∧ szOf cx.P e = 1 ∧ stT cx.P dst = true then (readRows p).bind fun rows => (match bytesOf rows with | some s => Rd.pure (PV.s (.string s), ([] : Ups)) | none => .fail) else .fail
      | none => .fail).val H) = cvB cx.P dst ((readRows p).val H) (slT cx.P src) := by
    intro p
    cases slT cx.P src with
    | none => rfl
    | some e =>
      simp only [cvB]
      split
      · rw [Rd.val_bind]
        cases (readRows p).val H with
        | none => rfl
        | some rows =>
          simp only [Option.bind_some, bytK]
          cases bytesOf rows <;> rfl
      · rfl
  cases p with
  | s v =>
    cases v with
    | int k n =>
      simp only [cvK]
      cases inT cx.P src with
      | none => rfl
      | some a => cases inT cx.P dst <;> rfl
    | string s =>
      simp only [cvK]
      split <;> rfl
    | _ => exact hB _
  | _ => exact hB _
def ixK (P : Program) (t : Nat) : PV → Option Int → Option (PV × Ups)
  | .s (.string s), some i => if (stT P t && decide (0 ≤ i ∧ i < (s.size : Int))) = true then some (.s (.int .u8 ((s.data.getD i.toNat 0).toNat : Int)), []) else none
  | .ag cs, some i => fin (ixA P t cs i)
  | _, _ => none
@[go_sem] theorem ixK_ag (P : Program) (cs : List PV) (i : Int) : ixK P t (.ag cs) (some i) = fin (ixA P t cs i) := rfl
@[go_sem] theorem ixK_str (P : Program) (s : ByteArray) (i : Int) : ixK P t (.s (.string s)) (some i) = if (stT P t && decide (0 ≤ i ∧ i < (s.size : Int))) = true then some (.s (.int .u8 ((s.data.getD i.toNat 0).toNat : Int)), []) else none := rfl
@[go_sem] theorem eff_index (x y : Operand) : (eff cx C ρ d (.index t x y)).val H = ixK cx.P t (ρ x) (idxV (ρ y)) := by
  simp only [eff]
  generalize ρ x = p
  generalize idxV (ρ y) = q
  unfold ixK
  split
  · simp only []
    split <;> rfl
  · simp only []
    rename_i cs i
    cases ixA cx.P t cs i <;> rfl
  · rename_i hn hn2
    split
    · exact absurd rfl (hn _ _ rfl)
    · exact absurd rfl (hn2 _ _ rfl)
    · rfl
def setK (ver : Nat) (k : List Int → Option (PV × Ups)) : Option Blk → Option (PV × Ups)
  | some (.mp v ks) => if v = ver then k ks else none
  | _ => none
@[go_sem] theorem setK_mp (v ver : Nat) (ks : List Int) (k : List Int → Option (PV × Ups)) : setK ver k (some (.mp v ks)) = if v = ver then k ks else none := rfl
theorem getMap_val (b ver : Nat) (k : List Int → Rd (PV × Ups)) : (getMap b ver k).val H = setK ver (fun ks => (k ks).val H) (H b) := by
  unfold getMap setK
  rw [Rd.val_get]
  cases H b with
  | none => rfl
  | some x => cases x with
    | row v T sz box rows => rfl
    | dead v => rfl
    | mp v ks => simp only []; split <;> rfl
@[go_sem] theorem eff_makeMap (e t : Nat) : (eff cx C ρ (some e) (.makeMap t none)).val H = if mpT cx.P t = true then freeK (some (.mp e 0, [(e, .mp 0 [])])) (H e) else none := by
  simp only [eff]
  split
  · rw [newKey_val]; cases H e <;> rfl
  · rfl
def lookK (H : Heap) (c : Prop) [Decidable c] : PV → PV → Option (PV × Ups)
  | .mp b ver, .s (.int .u64 n) => if c then setK ver (fun ks => some (.s (.bool (ks.contains n)), [])) (H b) else none
  | _, _ => none
@[go_sem] theorem lookK_mp (c : Prop) [Decidable c] (b ver : Nat) (n : Int) : lookK H c (.mp b ver) (.s (.int .u64 n)) = if c then setK ver (fun ks => some (.s (.bool (ks.contains n)), [])) (H b) else none := rfl
@[go_sem] theorem eff_lookup (x k : Operand) (ok : Bool) : (eff cx C ρ d (.lookup t x k ok)).val H = lookK H (mpT cx.P t = true ∧ ok = false) (ρ x) (ρ k) := by
  simp only [eff]
  generalize ρ x = p
  generalize ρ k = q
  unfold lookK
  split
  · simp only []
    split
    · rw [getMap_val]; rfl
    · rfl
  · rename_i hn
    split
    · exact absurd rfl (hn _ _ _ rfl)
    · rfl
def takeK (H : Heap) (c : Prop) [Decidable c] : PV → PV → PV → Option (PV × Ups)
  | .mp b ver, .s (.int .u64 n), .s (.bool true) => if c then setK ver (fun ks => some (.u, [(b, .mp ver (if ks.contains n = true then ks else ks ++ [n]))])) (H b) else none
  | _, _, _ => none
@[go_sem] theorem takeK_mp (c : Prop) [Decidable c] (b ver : Nat) (n : Int) : takeK H c (.mp b ver) (.s (.int .u64 n)) (.s (.bool true)) = if c then setK ver (fun ks => some (.u, [(b, .mp ver (if ks.contains n = true then ks else ks ++ [n]))])) (H b) else none := rfl
@[go_sem] theorem eff_mapUpdate (x k y : Operand) : (eff cx C ρ d (.mapUpdate t x k y)).val H = takeK H (mpT cx.P t = true) (ρ x) (ρ k) (ρ y) := by
  simp only [eff]
  generalize ρ x = p
  generalize ρ k = q
  generalize ρ y = r
  unfold takeK
  split
  · simp only []
    split
    · rw [getMap_val]; rfl
    · rfl
  · rename_i hn
    split
    · exact absurd rfl (hn _ _ _ rfl rfl)
    · rfl
end
@[go_sem] theorem binP_s (P : Program) (eqT : Nat → Bool) (op : BinOp) (a b : Value) : binP P eqT op t (.s a) (.s b) = if tyOk P t a = true then (binS op a b).map .s else none := rfl
/-! Bits, by name. -/
def andI (k : IntKind) (a b : Int) : Int := k.wrap (BitVec.ofInt k.bits a &&& BitVec.ofInt k.bits b).toNat
def orI (k : IntKind) (a b : Int) : Int := k.wrap (BitVec.ofInt k.bits a ||| BitVec.ofInt k.bits b).toNat
def xorI (k : IntKind) (a b : Int) : Int := k.wrap (BitVec.ofInt k.bits a ^^^ BitVec.ofInt k.bits b).toNat
def anotI (k : IntKind) (a b : Int) : Int := k.wrap (BitVec.ofInt k.bits a &&& ~~~ (BitVec.ofInt k.bits b)).toNat
def shlI (k : IntKind) (a b : Int) : Int := k.wrap (a * 2 ^ (min b.toNat k.bits))
def shrI (k : IntKind) (a b : Int) : Int := a.fdiv (2 ^ (min b.toNat k.bits))
def notI (k : IntKind) (n : Int) : Int := k.wrap (BitVec.ofInt k.bits (if k.signed then -1 else k.max) ^^^ BitVec.ofInt k.bits n).toNat
@[go_sem high] theorem arV_and (k : IntKind) (a b : Int) : arV .and k a b = some (andI k a b) := rfl
@[go_sem high] theorem arV_or (k : IntKind) (a b : Int) : arV .or k a b = some (orI k a b) := rfl
@[go_sem high] theorem arV_xor (k : IntKind) (a b : Int) : arV .xor k a b = some (xorI k a b) := rfl
@[go_sem high] theorem arV_anot (k : IntKind) (a b : Int) : arV .andNot k a b = some (anotI k a b) := rfl
@[go_sem high] theorem shV_shl (k : IntKind) (a b : Int) : shV .shl k a b = if b < 0 then none else some (shlI k a b) := rfl
@[go_sem high] theorem shV_shr (k : IntKind) (a b : Int) : shV .shr k a b = if b < 0 then none else some (shrI k a b) := rfl
@[go_sem] theorem arV_add (k : IntKind) (a b : Int) : arV .add k a b = some (k.wrap (a + b)) := rfl
@[go_sem] theorem arV_sub (k : IntKind) (a b : Int) : arV .sub k a b = some (k.wrap (a - b)) := rfl
@[go_sem] theorem arV_mul (k : IntKind) (a b : Int) : arV .mul k a b = some (k.wrap (a * b)) := rfl
@[go_sem] theorem arV_quo (k : IntKind) (a b : Int) : arV .quo k a b = if b = 0 then none else some (k.wrap (a.tdiv b)) := rfl
@[go_sem] theorem arV_rem (k : IntKind) (a b : Int) : arV .rem k a b = if b = 0 then none else some (a.tmod b) := rfl
@[go_sem] theorem unS_not (b : Bool) : unS .not (.bool b) = some (.bool (!b)) := rfl
@[go_sem] theorem unS_neg (k : IntKind) (n : Int) : unS .neg (.int k n) = some (.int k (k.wrap (0 - n))) := rfl
@[go_sem high] theorem unS_xor (k : IntKind) (n : Int) : unS .xor (.int k n) = some (.int k (notI k n)) := rfl
attribute [go_sem] promC lendS capOk tyOk nilCmp lenP loadEff storeRow storeEff idxEff idxV mkVal binP binS cmpV strV best bestK bnd sliceStr sliceMax sliceSh sliceSl sliceZ sliceEff appZ appEff nrmC nrmCs readRows splice cellsOf buildFill rowsFill bslK clearRow builtinEff xfer lend lendA lendC giveC giveCell giveCells backCell backRow backBox backs inCells cellKeys nkeys cellKey recv recvL rkeys pkeys slots lentC lentV lentKeys keysIn keyOf disj keysNodup nk Rd.mapM eqCs eqS alike alikeL alikeS rowAt
attribute [go_sem] Option.bind_some Option.bind_none Option.map_some Option.map_none if_true if_false List.length_cons List.length_nil List.map_cons List.map_nil List.nil_append List.cons_append List.append_nil List.flatMap_cons List.flatMap_nil List.all_cons List.all_nil List.any_cons List.any_nil List.contains_cons List.contains_nil Bool.and_true Bool.true_and Bool.and_false Bool.false_and Bool.or_false Bool.false_or Bool.or_true Bool.true_or Bool.not_true Bool.not_false List.isEmpty_cons List.isEmpty_nil and_true true_and and_self and_false false_and not_true_eq_false not_false_eq_true List.take_succ_cons List.take_zero List.drop_succ_cons List.drop_zero List.take_nil List.drop_nil List.getD_cons_zero List.getD_cons_succ List.getElem?_cons_zero List.getElem?_cons_succ Option.isSome_some Option.isSome_none decide_true decide_false decide_eq_true_eq Bool.false_eq_true ite_self beq_self_eq_true Nat.le_refl
end
end Go.Pi
