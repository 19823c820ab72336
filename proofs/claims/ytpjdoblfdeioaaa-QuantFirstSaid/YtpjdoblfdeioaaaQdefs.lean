/- A value-level reading of the loaded code ('Pi'): definitions alone. Own work of this session. -/
import Derived.Orders
import Derived.Laws.AppendOwn
import Derived.Laws.Entries
import Derived.Laws.StructEq
import Derived.Laws.Tables
import Derived.Laws.Pointers
import Derived.Laws.Slices
import Derived.WalkKit
set_option linter.unusedVariables false
namespace Go.Pi

/-- Values: 's' a machine value of one cell as it is; 'z' an empty slice without room; 'sh' a slice that is only read (ln: lent by a caller), row by row; 'sl' a header into a block of the call's own; 'ad' an address in such a block; 'sa' an address of cells that are only read; 'ow', 'bx' (at calls alone) a slice, a variable handed over with what is in it. -/
inductive PV where
  | u
  | s (v : Value)
  | z
  | sh (ln : Bool) (rows : List (List PV))
  | sl (b ver off len : Nat)
  | ad (b ver i j : Nat)
  | mp (b ver : Nat)
  | sa (ln : Bool) (cells : List PV)
  | ag (cells : List PV)
  | tu (vs : List PV)
  | fn (f : Nat) (caps : List PV)
  | ow (T : Nat) (rows : List (List PV))
  | bx (T : Nat) (cells : List PV)
  deriving Inhabited

inductive Blk where
  | row (ver T sz : Nat) (box : Bool) (rows : List (List PV))
  | dead (ver : Nat)
  | mp (ver : Nat) (ks : List Int)
  deriving Inhabited

def Blk.ver : Blk → Nat
  | .row v _ _ _ _ => v
  | .dead v => v
  | .mp v _ => v

abbrev Heap := Nat → Option Blk
abbrev Ups := List (Nat × Blk)

structure St where
  sl : Nat → PV
  hp : Heap

def upd {α : Type} (f : Nat → α) (k : Nat) (v : α) : Nat → α := fun x => if x = k then v else f x
theorem upd_apply {α : Type} (f : Nat → α) (k : Nat) (v : α) (x : Nat) : upd f k v x = if x = k then v else f x := rfl
def updH (H : Heap) : Ups → Heap
  | [] => H
  | (k, b) :: r => updH (upd H k (some b)) r
def St.put (st : St) (d : Option Nat) (v : PV) (ups : Ups) : St :=
  { sl := match d with | some t => upd st.sl t v | none => st.sl, hp := updH st.hp ups }

/-- A reader of blocks, by number. -/
inductive Rd (α : Type) where
  | pure (a : α)
  | fail
  | get (k : Nat) (f : Option Blk → Rd α)

namespace Rd
def bind {α β : Type} : Rd α → (α → Rd β) → Rd β
  | .pure a, g => g a
  | .fail, _ => .fail
  | .get k f, g => .get k fun x => (f x).bind g
def val {α : Type} : Rd α → Heap → Option α
  | .pure a, _ => some a
  | .fail, _ => none
  | .get k f, H => (f (H k)).val H
def log {α : Type} : Rd α → Heap → List Nat
  | .pure _, _ => []
  | .fail, _ => []
  | .get k f, H => k :: (f (H k)).log H
def mapM {α β : Type} (g : α → Rd β) : List α → Rd (List β)
  | [] => .pure []
  | a :: l => (g a).bind fun b => (mapM g l).bind fun bs => .pure (b :: bs)
theorem val_pure {α : Type} (a : α) (H : Heap) : (Rd.pure a).val H = some a := rfl
theorem val_fail {α : Type} (H : Heap) : (Rd.fail : Rd α).val H = none := rfl
theorem val_get {α : Type} (k : Nat) (f : Option Blk → Rd α) (H : Heap) : (Rd.get k f).val H = (f (H k)).val H := rfl
theorem val_bind {α β : Type} (x : Rd α) (g : α → Rd β) (H : Heap) : (x.bind g).val H = (x.val H).bind fun a => (g a).val H := by
  induction x with
  | pure a => rfl
  | fail => rfl
  | get k f ih => exact ih _
theorem log_bind {α β : Type} (x : Rd α) (g : α → Rd β) (H : Heap) : (x.bind g).log H = x.log H ++ (match x.val H with | some a => (g a).log H | none => []) := by
  induction x with
  | pure a => rfl
  | fail => rfl
  | get k f ih => simp only [bind, log, val]; rw [ih]; rfl
theorem local_ {α : Type} (x : Rd α) (H H' : Heap) (h : ∀ k ∈ x.log H, H' k = H k) : x.val H' = x.val H ∧ x.log H' = x.log H := by
  induction x with
  | pure a => exact ⟨rfl, rfl⟩
  | fail => exact ⟨rfl, rfl⟩
  | get k f ih =>
    have hk : H' k = H k := h k (by simp [log])
    have := ih (H k) (fun j hj => h j (by simp [log, hj]))
    exact ⟨by simp only [val, hk, this.1], by simp only [log, hk, this.2]⟩
end Rd

section
variable (P : Program)
/-! What is known of types. -/
def szOf (t : Nat) : Nat := match P.info? t with | some i => i.size | none => 0
def byOf (t : Nat) : Nat := match P.info? t with | some i => i.bytes | none => 0
def aggT (t : Nat) : Bool := match P.underlying t with | some (.struct _) | some (.array _ _) => true | _ => false
def ofV : Value → PV
  | .slice none 0 0 => .z
  | v => .s v
def zeroV (t : Nat) : Option (List Value) := match P.info? t with | some i => i.zero.map (·.cells.toList) | none => none
def zc (t : Nat) : Option (List PV) := (zeroV P t).bind fun vs => if vs.all (·.oneCell') then some (vs.map ofV) else none
def szOk (t : Nat) : Bool := (P.underlying t).isSome && decide (0 < szOf P t)
/-- A type of elements. -/
def elT (t : Nat) : Bool := szOk P t && (match zc P t with | some z => z.length == szOf P t | none => false)
/-- A type that can be built part by part. -/
def blT (t : Nat) : Bool := match P.underlying t with | some (.struct fs) => fs.toList.all fun f => (P.info? f.type).isSome | some (.array _ e) => (P.info? e).isSome | _ => false
def slT (t : Nat) : Option Nat := match P.underlying t with | some (.slice e) => some e | _ => none
def arT (t : Nat) : Option (Nat × Nat) := match P.underlying t with | some (.array n e) => some (n, e) | _ => none
def stT (t : Nat) : Bool := match P.underlying t with | some .string => true | _ => false
def boT (t : Nat) : Bool := match P.underlying t with | some .bool => true | _ => false
def ptT (t : Nat) : Bool := match P.underlying t with | some (.pointer _) => true | _ => false
/-- A map that is a set of numbers. -/
def mpT (t : Nat) : Bool := match P.underlying t with | some (.map k e) => (match P.underlying k, (P.info? e).bind (·.zero) with | some (.int .u64), some (.bool false) => true | _, _ => false) | _ => false
def inT (t : Nat) : Option IntKind := match P.underlying t with | some (.int k) => some k | _ => none
def fieldT (t f : Nat) : Option (Nat × Nat) := match P.underlying t with | some (.struct fs) => (fs[f]?).map fun x => (x.offset, x.type) | _ => none

/-! Cells. -/
def PV.perm : PV → Bool
  | .s _ => true
  | .sh ln _ => !ln
  | _ => false
def cellsOf : PV → Option (List PV)
  | .ag cs => some cs
  | .tu _ => none
  | .ow _ _ => none
  | .bx _ _ => none
  | .u => none
  | .fn _ (_ :: _) => none
  | .mp _ _ => none
  | p => some [p]
def capOk : PV → Bool
  | .s _ => true
  | .z => true
  | .sh _ _ => true
  | .sl _ _ _ _ => true
  | .ad _ _ _ _ => true
  | .sa _ _ => true
  | .fn _ [] => true
  | _ => false
def okT (t : Nat) : Bool := (P.underlying t).isSome && decide (0 < szOf P t)
def mkVal (t : Nat) (cs : List PV) : Rd PV :=
  if okT P t = true ∧ cs.length = szOf P t then (if aggT P t then .pure (.ag cs) else match cs with | [c] => .pure c | _ => .fail) else .fail
/-- A row block that is read by a header. -/
def getRow {α : Type} (b ver : Nat) (k : Nat → Nat → Bool → List (List PV) → Rd α) : Rd α :=
  .get b fun | some (.row v T sz box rows) => if v = ver then k T sz box rows else .fail | _ => .fail
/-- A set that is read by its name. -/
def getMap {α : Type} (b ver : Nat) (k : List Int → Rd α) : Rd α :=
  .get b fun | some (.mp v ks) => if v = ver then k ks else .fail | _ => .fail
/-- A new block's number is free. -/
def newKey {α : Type} (d : Option Nat) (k : Nat → Rd α) : Rd α :=
  match d with | some d => .get d (fun | none => k d | some _ => .fail) | none => .fail
def nk (d j : Nat) : Nat := 1000 + 64 * d + j
/-- In a new variable, the slices that are to be the call's own get blocks at once. -/
def promC (d : Nat) : Nat → List (Option Nat) → List PV → List PV × Ups
  | j, some e :: es, .z :: cs => (.sl (nk d j) 0 0 0 :: (promC d (j + 1) es cs).1, (nk d j, .row 0 e (szOf P e) false []) :: (promC d (j + 1) es cs).2)
  | j, _ :: es, c :: cs => (c :: (promC d (j + 1) es cs).1, (promC d (j + 1) es cs).2)
  | _, _, cs => (cs, [])
def freeKs {α : Type} : List Nat → Rd α → Rd α
  | [], x => x
  | k :: ks, x => .get k fun | none => freeKs ks x | some _ => .fail
/-- A cell of a slice's row: nothing in it is the call's own any more. -/
def nrmC (p : PV) : Rd (PV × Ups) :=
  match p with
  | .s v => .pure (.s v, [])
  | .sh false r => .pure (.sh false r, [])
  | .z => .pure (.sh false [], [])
  | .sl b ver off len => getRow b ver fun T sz box rows => if box then .fail else .pure (.sh false ((rows.drop off).take len), [(b, .dead (ver + 1))])
  | _ => .fail
def nrmCs : List PV → Rd (List PV × Ups)
  | [] => .pure ([], [])
  | p :: r => (nrmC p).bind fun x => (nrmCs r).bind fun y => .pure (x.1 :: y.1, x.2 ++ y.2)
def rowAt (rows : List (List PV)) (i : Nat) : List PV := rows.getD i []
/-- The rows that a slice reads. -/
def readRows (p : PV) : Rd (List (List PV)) :=
  match p with
  | .sh _ r => .pure r
  | .z => .pure []
  | .sl b ver off len => getRow b ver fun T sz box rows => if box then .fail else .pure ((rows.drop off).take len)
  | _ => .fail
def splice (zero : List PV) (off : Nat) (cs : List PV) : List PV := zero.take off ++ cs ++ zero.drop (off + cs.length)

/-! Calls: what is handed over. -/
def lendC (p : PV) : Rd PV :=
  match p with
  | .s v => .pure (.s v)
  | .sh ln r => .pure (.sh ln r)
  | .z => .pure (.sh false [])
  | .fn f [] => .pure (.fn f [])
  | .sa ln cs => .pure (.sa ln cs)
  | .sl b ver off len => getRow b ver fun T sz box rows => if box then .fail else .pure (.sh true ((rows.drop off).take len))
  | _ => .fail
def lendS (p : PV) : Rd PV :=
  match p with
  | .s v => .pure (.s v)
  | .sh ln r => .pure (.sh ln r)
  | .z => .pure (.sh false [])
  | _ => .fail
def lendA (p : PV) : Rd PV :=
  match p with
  | .ad b ver i j => getRow b ver fun T sz box rows => if box then (Rd.mapM lendS ((rowAt rows i).drop j)).bind fun cs => .pure (.sa true cs) else .fail
  | p => lendC p
def lend (p : PV) : Rd PV :=
  match p with
  | .ag cs => (Rd.mapM lendC cs).bind fun cs => .pure (.ag cs)
  | .fn f caps => (Rd.mapM lendA caps).bind fun cs => .pure (.fn f cs)
  | p => lendA p
def keyOf : PV → List Nat
  | .sl b _ _ _ => [b]
  | .ad b _ _ _ => [b]
  | .mp b _ => [b]
  | _ => []
def keysIn : PV → List Nat
  | .ag cs => cs.flatMap keyOf
  | .fn _ cs => cs.flatMap keyOf
  | p => keyOf p
/-- A slice's row handed over whole. T: the elements' type. -/
def giveC (T : Nat) (p : PV) : Rd (PV × Ups) :=
  match p with
  | .z => .pure (.ow T [], [])
  | .sl b ver 0 len => getRow b ver fun T' sz box rows => if box = false ∧ T' = T ∧ sz = szOf P T ∧ len ≤ rows.length then .pure (.ow T (rows.take len), [(b, .dead (ver + 1))]) else .fail
  | _ => .fail
/-- A cell of a variable that is handed over. -/
def giveCell (p : PV) : Rd (PV × Ups) :=
  match p with
  | .s v => .pure (.s v, [])
  | .sh ln r => .pure (.sh ln r, [])
  | .z => .pure (.sh false [], [])
  | .sl b ver 0 len => getRow b ver fun T sz box rows => if box = false ∧ sz = szOf P T ∧ len ≤ rows.length then .pure (.ow T (rows.take len), [(b, .dead (ver + 1))]) else .fail
  | _ => .fail
def giveCells : List PV → Rd (List PV × Ups)
  | [] => .pure ([], [])
  | p :: r => (giveCell P p).bind fun x => (giveCells r).bind fun y => .pure (x.1 :: y.1, x.2 ++ y.2)
/-- Modes: 0 lent, 1 given, 2 given and had back. -/
def xfer (m t : Nat) (p : PV) : Rd (PV × Ups) :=
  match m with
  | 0 => (lend p).bind fun q => .pure (q, [])
  | 1 => match slT P t with | some T => giveC P T p | none => .fail
  | 2 => match p with
    | .ad b ver 0 0 => getRow b ver fun T sz box rows => match box, rows with | true, [cells] => (giveCells P cells).bind fun x => .pure (.bx T x.1, (b, .dead (ver + 1)) :: x.2) | _, _ => .fail
    | _ => .fail
  | _ => .fail
def xfers : List Nat → List Nat → List PV → Rd (List PV × Ups)
  | m :: ms, t :: ts, p :: ps => (xfer P m t p).bind fun x => (xfers ms ts ps).bind fun y => .pure (x.1 :: y.1, x.2 ++ y.2)
  | [], [], [] => .pure ([], [])
  | _, _, _ => .fail
/-- A cell of a variable that came back, or came in: a slice of the call's own gets a number. 'old': what stood there. -/
def backCell (k : Nat) (p : PV) : Rd (PV × Ups) :=
  match p with
  | .ow T rows => .get k fun
                              | none => .pure (.sl k 0 0 rows.length, [(k, .row 0 T (szOf P T) false rows)])
                              | some blk => .pure (.sl k (blk.ver + 2) 0 rows.length, [(k, .row (blk.ver + 2) T (szOf P T) false rows)])
  | .bx _ _ => .fail
  | .ag _ => .fail
  | .tu _ => .fail
  | p => .pure (p, [])
def cellKey (k j : Nat) : PV → Nat
  | .sl b _ _ _ => b
  | _ => nk k j
def cellKeys (k : Nat) : Nat → List PV → List Nat
  | _, [] => []
  | j, p :: ps => cellKey k j p :: cellKeys k (j + 1) ps
def nkeys (k : Nat) : Nat → List PV → List Nat
  | _, [] => []
  | j, _ :: ps => nk k j :: nkeys k (j + 1) ps
def inCells : List Nat → List PV → Rd (List PV × Ups)
  | k :: ks, p :: ps => (backCell P k p).bind fun x => (inCells ks ps).bind fun y => .pure (x.1 :: y.1, x.2 ++ y.2)
  | [], [] => .pure ([], [])
  | _, _ => .fail
/-- What comes back of those that were given and had back. -/
def backRow (b ver T : Nat) (cells : List PV) (T' sz : Nat) (box : Bool) (rows : List (List PV)) : Rd Ups :=
  match rows with
  | [olds] => if box = true ∧ T' = T ∧ cells.length = olds.length then (inCells P (cellKeys b 0 olds) cells).bind fun x => .pure (x.2 ++ [(b, .row ver T sz true [x.1])]) else .fail
  | _ => .fail
def backBox (p o : PV) : Rd Ups :=
  match p, o with
  | .ad b ver 0 0, .bx T cells => getRow b ver (backRow P b ver T cells)
  | _, _ => .fail
def backs : List Nat → List PV → List PV → Rd Ups
  | m :: ms, p :: ps, os => if m = 2 then (match os with | o :: os => (backBox P p o).bind fun x => (backs ms ps os).bind fun y => .pure (x ++ y) | [] => .fail) else backs ms ps os
  | [], [], [] => .pure []
  | _, _, _ => .fail
/-- A result that came: at number k. -/
def recv (k : Nat) (p : PV) : Rd (PV × Ups) :=
  match p with
  | .ow T rows => .get k fun
                              | none => .pure (.sl k 0 0 rows.length, [(k, .row 0 T (szOf P T) false rows)]) | some _ => .fail
  | .ag cs => (inCells P (nkeys k 0 cs) cs).bind fun x => .pure (.ag x.1, x.2)
  | .bx T cs => .get k fun
                              | none => (inCells P (nkeys k 0 cs) cs).bind fun x => .pure (.ad k 0 0 0, x.2 ++ [(k, .row 0 T x.1.length true [x.1])]) | some _ => .fail
  | .tu _ => .fail
  | p => .pure (p, [])
def recvL : List Nat → List PV → Rd (List PV × Ups)
  | k :: ks, p :: ps => (recv P k p).bind fun x => (recvL ks ps).bind fun y => .pure (x.1 :: y.1, x.2 ++ y.2)
  | [], [] => .pure ([], [])
  | _, _ => .fail
def rkeys (k : Nat) : Nat → List PV → List Nat
  | _, [] => []
  | i, _ :: r => nk k (32 + i) :: rkeys k (i + 1) r
def lentC : PV → Bool
  | .sh ln _ => ln
  | .sa _ _ => true
  | .fn _ (_ :: _) => true
  | _ => false
def lentV : PV → Bool
  | .ag cs => cs.any lentC
  | .bx _ cs => cs.any lentC
  | p => lentC p
abbrev CallF := Nat → List PV → Option (List PV × List PV)
/-- The numbers of blocks of the call's own that are lent. -/
def lentKeys : List Nat → List PV → List Nat
  | 0 :: ms, p :: ps => keysIn p ++ lentKeys ms ps
  | _ :: ms, _ :: ps => lentKeys ms ps
  | _, _ => []
def disj (a b : List Nat) : Bool := a.all fun x => !b.contains x
def keysNodup : List Nat → Bool
  | [] => true
  | k :: r => !r.contains k && keysNodup r
def recvK (d : Option Nat) (ups : Ups) (res : List PV) : Rd (PV × Ups) :=
  match d, res with
  | some d, [r] => (recv P d r).bind fun y => if disj (y.2.map (·.1)) (ups.map (·.1)) = true ∧ keysNodup (y.2.map (·.1)) = true then .pure (y.1, ups ++ y.2) else .fail
  | some d, rs => (recvL P (rkeys d 0 rs) rs).bind fun y => if disj (y.2.map (·.1)) (ups.map (·.1)) = true ∧ keysNodup (y.2.map (·.1)) = true then .pure (.tu y.1, ups ++ y.2) else .fail
  | none, _ => .fail
def callK (md : List Nat) (d : Option Nat) (args : List PV) (ups : Ups) : Option (List PV × List PV) → Rd (PV × Ups)
  | none => .fail
  | some (res, outs) => if (lentKeys md args).isEmpty = true ∨ (res.any lentV = false ∧ outs.any lentV = false) then
      (backs P md args outs).bind fun ub => if keysNodup (ub.map (·.1)) = true then recvK P d (ups ++ ub) res else .fail
    else .fail
def callEff (md : Nat → List Nat) (C : CallF) (d : Option Nat) (g : Nat) (ts : List Nat) (args : List PV) : Rd (PV × Ups) :=
  (xfers P (md g) ts args).bind fun x =>
    if keysNodup (x.2.map (·.1)) = true ∧ disj (lentKeys (md g) args) (x.2.map (·.1)) = true then callK P (md g) d args x.2 (C g x.1) else .fail

/-! Operators on single values. -/
def cmpV (op : BinOp) (a b : Int) : Option Bool :=
  match op with
  | .eql => some (decide (a = b))
  | .neq => some (!decide (a = b))
  | .lss => some (decide (a < b))
  | .leq => some (decide (a ≤ b))
  | .gtr => some (decide (b < a))
  | .geq => some (decide (b ≤ a))
  | _ => none
def arV (op : BinOp) (k : IntKind) (a b : Int) : Option Int :=
  match op with
  | .add => some (k.wrap (a + b))
  | .sub => some (k.wrap (a - b))
  | .mul => some (k.wrap (a * b))
  | .quo => if b = 0 then none else some (k.wrap (a.tdiv b))
  | .rem => if b = 0 then none else some (a.tmod b)
  | .and => some (k.wrap (BitVec.ofInt k.bits a &&& BitVec.ofInt k.bits b).toNat)
  | .or => some (k.wrap (BitVec.ofInt k.bits a ||| BitVec.ofInt k.bits b).toNat)
  | .xor => some (k.wrap (BitVec.ofInt k.bits a ^^^ BitVec.ofInt k.bits b).toNat)
  | .andNot => some (k.wrap (BitVec.ofInt k.bits a &&& ~~~ (BitVec.ofInt k.bits b)).toNat)
  | _ => none
def shV (op : BinOp) (k : IntKind) (a b : Int) : Option Int :=
  if b < 0 then none else
  match op with
  | .shl => some (k.wrap (a * 2 ^ (min b.toNat k.bits)))
  | .shr => some (a.fdiv (2 ^ (min b.toNat k.bits)))
  | _ => none
def strV (op : BinOp) (a b : ByteArray) : Option Value :=
  match op with
  | .eql => some (.bool (decide (a = b)))
  | .neq => some (.bool (!decide (a = b)))
  | .lss => some (.bool (Op.bytesLess a.toList b.toList))
  | .gtr => some (.bool (!(Op.bytesLess a.toList b.toList || decide (a = b))))
  | .leq => some (.bool (Op.bytesLess a.toList b.toList || decide (a = b)))
  | .geq => some (.bool (!Op.bytesLess a.toList b.toList))
  | .add => if a.size + b.size ≤ 9223372036854775807 then some (.string (a ++ b)) else none
  | _ => none
def eqS : Value → Value → Option Bool
  | .int k a, .int k' b => if k = k' then some (decide (a = b)) else none
  | .string a, .string b => some (decide (a = b))
  | .bool a, .bool b => some (decide (a = b))
  | _, _ => none
def alikeS : PV → PV → Bool
  | .s (.int k _), .s (.int k' _) => if k = k' then true else false
  | .s (.string _), .s (.string _) => true
  | .s (.bool _), .s (.bool _) => true
  | _, _ => false
def alikeL : List PV → List PV → Bool
  | [], [] => true
  | a :: r, b :: q => if alikeS a b = true then alikeL r q else false
  | _, _ => false
def alike : Option (List PV) → List PV → Bool
  | some z, x => alikeL z x
  | none, _ => false
def eqCs : List PV → List PV → Option Bool
  | [], [] => some true
  | .s a :: r, .s b :: q => match eqS a b, eqCs r q with | some x, some y => some (x && y) | _, _ => none
  | _, _ => none
def binS (op : BinOp) (a b : Value) : Option Value :=
  match a, b with
  | .int k x, .int k' y =>
    match op with
    | .shl | .shr => (shV op k x y).map (.int k)
    | _ => if k = k' then (match cmpV op x y with | some c => some (.bool c) | none => (arV op k x y).map (.int k)) else none
  | .string x, .string y => strV op x y
  | .bool x, .bool y => match op with | .eql => some (.bool (x == y)) | .neq => some (.bool (!(x == y))) | _ => none
  | .pointer none, .pointer none => match op with | .eql => some (.bool true) | .neq => some (.bool false) | _ => none
  | _, _ => none
/-- The struct types whose values are held against each other cell by cell. -/
def tyOk (P : Program) (t : Nat) : Value → Bool
  | .bool _ => boT P t
  | .pointer _ => ptT P t
  | _ => true
def nilCmp : BinOp → Option PV
  | .eql => some (.s (.bool false))
  | .neq => some (.s (.bool true))
  | _ => none
def binP (P : Program) (eqT : Nat → Bool) (op : BinOp) (t : Nat) (p q : PV) : Option PV :=
  match p, q with
  | .s a, .s b => if tyOk P t a = true then (binS op a b).map .s else none
  | .ag x, .ag y => if eqT t = true ∧ alike (zc P t) x = true then match op, eqCs x y with | .eql, some c => some (.s (.bool c)) | .neq, some c => some (.s (.bool (!c))) | _, _ => none else none
  | .ad _ _ _ _, .s (.pointer none) => if ptT P t = true then nilCmp op else none
  | .sa _ _, .s (.pointer none) => if ptT P t = true then nilCmp op else none
  | _, _ => none
def unS (op : UnOp) (a : Value) : Option Value :=
  match op, a with
  | .not, .bool b => some (.bool (!b))
  | .neg, .int k n => some (.int k (k.wrap (0 - n)))
  | .xor, .int k n => some (.int k (k.wrap (BitVec.ofInt k.bits (if k.signed then -1 else k.max) ^^^ BitVec.ofInt k.bits n).toNat))
  | _, _ => none
def byte1 : List PV → Option UInt8
  | [.s (.int .u8 n)] => some (UInt8.ofNat n.toNat)
  | _ => none
def bytesOf (rows : List (List PV)) : Option ByteArray := (rows.mapM byte1).map fun (l : List UInt8) => ⟨l.toArray⟩
def idxV : PV → Option Int
  | .s (.int _ i) => some i
  | _ => none

/-! One operation. -/
def lim : Nat := 140737488355328
def appZ (e : Nat) (ys : List (List PV)) (d : Nat) : Rd (PV × Ups) :=
  if ys.length * byOf P e ≤ lim ∧ ys.length ≤ 9223372036854775807 then .pure (.sl d 0 0 ys.length, [(d, .row 0 e (szOf P e) false ys)]) else .fail
def appSl (e b ver len : Nat) (ys : List (List PV)) (T sz : Nat) (box : Bool) (rows : List (List PV)) : Rd (PV × Ups) :=
  if box = false ∧ T = e ∧ sz = szOf P e ∧ len ≤ rows.length then
    if len + ys.length ≤ rows.length then .pure (.sl b ver 0 (len + ys.length), [(b, .row ver T sz false (rows.take len ++ ys ++ rows.drop (len + ys.length)))])
    else if (len + ys.length) * byOf P e ≤ lim ∧ len + ys.length ≤ 9223372036854775807 then .pure (.sl b (ver + 1) 0 (len + ys.length), [(b, .row (ver + 1) T sz false (rows.take len ++ ys))]) else .fail
  else .fail
def appEff (e : Nat) (d : Option Nat) (p : PV) (ys : List (List PV)) : Rd (PV × Ups) :=
  if elT P e = true ∧ (∀ r ∈ ys, r.length = szOf P e) then
    match p with
    | .z => newKey d (appZ P e ys)
    | .sl b ver 0 len => getRow b ver (appSl P e b ver len ys)
    | _ => .fail
  else .fail
def bnd (x : Option PV) (dflt : Int) : Option Int := match x with | none => some dflt | some q => idxV q
def sliceStr (t : Nat) (s : ByteArray) (mx : Option PV) : Option Int → Option Int → Rd (PV × Ups)
  | some l, some h => if mx.isSome = false ∧ stT P t = true ∧ 0 ≤ l ∧ l ≤ h ∧ h ≤ (s.size : Int) then .pure (.s (.string (s.extract l.toNat h.toNat)), []) else .fail
  | _, _ => .fail
def sliceMax (hi : Option PV) (l h n : Int) : Option Int → Rd (PV × Ups)
  | some m => if hi.isSome = true ∧ 0 ≤ l ∧ l ≤ h ∧ h ≤ m ∧ m ≤ n then (if l = m then .pure (.z, []) else .pure (.u, [])) else .fail
  | none => .fail
def sliceSh (e : Nat) (ln : Bool) (rows : List (List PV)) (hi mx : Option PV) : Option Int → Option Int → Rd (PV × Ups)
  | some l, some h => match mx with
    | none => if 0 ≤ l ∧ l ≤ h ∧ h ≤ (rows.length : Int) ∧ (∀ r ∈ rows, r.length = szOf P e) then .pure (.sh ln ((rows.take h.toNat).drop l.toNat), []) else .fail
    | some m => sliceMax hi l h rows.length (idxV m)
  | _, _ => .fail
def sliceSl (e b ver off T sz : Nat) (rows : List (List PV)) (hi mx : Option PV) : Option Int → Option Int → Rd (PV × Ups)
  | some l, some h => if e = T ∧ szOf P e = sz then match mx with
      | none => if 0 ≤ l ∧ l ≤ h ∧ (off : Int) + h ≤ (rows.length : Int) then .pure (.sl b ver (off + l.toNat) (h.toNat - l.toNat), []) else .fail
      | some m => sliceMax hi l h ((rows.length : Int) - (off : Int)) (idxV m)
    else .fail
  | _, _ => .fail
def sliceZ (hi mx : Option PV) : Option Int → Option Int → Rd (PV × Ups)
  | some l, some h => match mx with
    | none => if l = 0 ∧ h = 0 then .pure (.z, []) else .fail
    | some m => sliceMax hi l h 0 (idxV m)
  | _, _ => .fail
def sliceEff (t : Nat) (p : PV) (lo hi mx : Option PV) : Rd (PV × Ups) :=
  match p with
  | .s (.string s) => sliceStr P t s mx (bnd lo 0) (bnd hi s.size)
  | .sh ln rows => match slT P t with
    | some e => if okT P e = true then sliceSh P e ln rows hi mx (bnd lo 0) (bnd hi rows.length) else .fail
    | none => .fail
  | .sl b ver off len => match slT P t with
    | some e => if okT P e = true then getRow b ver fun T sz box rows => sliceSl P e b ver off T sz rows hi mx (bnd lo 0) (bnd hi len) else .fail
    | none => .fail
  | .z => match slT P t with
    | some e => if okT P e = true then sliceZ hi mx (bnd lo 0) (bnd hi 0) else .fail
    | none => .fail
  | _ => .fail
def lenP (t : Nat) (p : PV) : Rd PV :=
  match p with
  | .s (.string s) => if stT P t then .pure (.s (.int .i64 s.size)) else .fail
  | .sh _ rows => if (slT P t).isSome then .pure (.s (.int .i64 rows.length)) else .fail
  | .sl b ver _ len => getRow b ver fun _ _ _ _ => if (slT P t).isSome then .pure (.s (.int .i64 len)) else .fail
  | .z => if (slT P t).isSome then .pure (.s (.int .i64 0)) else .fail
  | _ => .fail
def bestK (mx : Bool) (k : IntKind) : Int → List PV → Option PV
  | x, [] => some (.s (.int k x))
  | x, .s (.int k' y) :: r => if k = k' then bestK mx k (if mx then (if x < y then y else x) else (if y < x then y else x)) r else none
  | _, _ => none
def best (mx : Bool) : List PV → Option PV
  | .s (.int k x) :: r => bestK mx k x r
  | _ => none
def clearRow (e b ver off len : Nat) (z : Option (List PV)) (T sz : Nat) (box : Bool) (rows : List (List PV)) : Rd (PV × Ups) :=
  match z with
  | none => .fail
  | some z => if box = false ∧ e = T ∧ szOf P e = sz ∧ off + len ≤ rows.length then
      (nrmCs z).bind fun zz => if zz.2.isEmpty = true then .pure (.tu [], [(b, .row ver T sz false (rows.take off ++ List.replicate len zz.1 ++ rows.drop (off + len)))]) else .fail
    else .fail
def builtinEff (d : Option Nat) (b : Builtin) (ts : List Nat) (args : List PV) : Rd (PV × Ups) :=
  match b, ts, args with
  | .len, [t], [p] => (lenP P t p).bind fun v => .pure (v, [])
  | .append, [t, u], [p, x] => match slT P t with
    | none => .fail
    | some e => if u = t then (readRows x).bind fun ys => appEff P e d p ys
      else match x with
        | .s (.string s) => if stT P u = true ∧ szOf P e = 1 then appEff P e d p (s.data.toList.map fun c => [.s (.int .u8 c.toNat)]) else .fail
        | _ => .fail
  | .min, _, _ => match best false args with | some v => .pure (v, []) | none => .fail
  | .max, _, _ => match best true args with | some v => .pure (v, []) | none => .fail
  | .clear, [t], [.sl b ver off len] => (match slT P t with
    | some e => if elT P e = true then getRow b ver (clearRow P e b ver off len (zc P e)) else .fail
    | none => .fail)
  | _, _, _ => .fail
def buildFill (t : Nat) (ρ : Operand → PV) : List (Nat × Operand) → List PV → Option (List PV)
  | [], cs => some cs
  | (i, x) :: r, cs => match (match arT P t with | some (_, e) => some (i * szOf P e, e) | none => fieldT P t i), cellsOf (ρ x) with
    | some (off, e), some xs => if xs.length = szOf P e ∧ off + xs.length ≤ cs.length then buildFill t ρ r (splice cs off xs) else none
    | _, _ => none
def rowsFill (sz : Nat) (ρ : Operand → PV) : List (Nat × Operand) → List (List PV) → Rd (List (List PV) × Ups)
  | [], rs => .pure (rs, [])
  | (i, x) :: r, rs => match cellsOf (ρ x) with
    | none => .fail
    | some xs => if xs.length = sz ∧ i < rs.length then (nrmCs xs).bind fun y => (rowsFill sz ρ r (rs.set i y.1)).bind fun z => .pure (z.1, y.2 ++ z.2) else .fail
def bslK (ρ : Operand → PV) (len : Nat) (ps : List (Nat × Operand)) (e : Nat) (z : Option (List PV)) (d : Nat) : Rd (PV × Ups) :=
  match z with
  | none => .fail
  | some z => (nrmCs z).bind fun zz => if zz.2.isEmpty = true then (rowsFill (szOf P e) ρ ps (List.replicate len zz.1)).bind fun y => .pure (.sl d 0 0 len, y.2 ++ [(d, .row 0 e (szOf P e) false y.1)]) else .fail
def storeRow (b ver i j : Nat) (xs : List PV) (T sz : Nat) (box : Bool) (rows : List (List PV)) : Rd (PV × Ups) :=
  if i < rows.length ∧ j + xs.length ≤ (rowAt rows i).length then
    if box = true then .pure (.u, [(b, .row ver T sz box (rows.set i (splice (rowAt rows i) j xs)))])
    else (nrmCs xs).bind fun y => if (y.2.map (·.1)).contains b = true then .fail else .pure (.u, y.2 ++ [(b, .row ver T sz box (rows.set i (splice (rowAt rows i) j y.1)))])
  else .fail
def storeEff (t : Nat) (a v : PV) : Rd (PV × Ups) :=
  match a, cellsOf v with
  | .ad b ver i j, some xs => if okT P t = true ∧ xs.length = szOf P t then getRow b ver (storeRow b ver i j xs) else .fail
  | _, _ => .fail
def loadEff (t : Nat) (a : PV) : Rd PV :=
  match a with
  | .ad b ver i j => getRow b ver fun T sz box rows => if i < rows.length then mkVal P t (((rowAt rows i).drop j).take (szOf P t)) else .fail
  | .sa _ cs => mkVal P t (cs.take (szOf P t))
  | _ => .fail
def idxEff (t : Nat) (a ix : PV) : Rd PV :=
  match idxV ix with
  | none => .fail
  | some i => match a, slT P t, arT P t with
    | .sl b ver off len, some e, _ => getRow b ver fun T sz box rows => if okT P e = true ∧ e = T ∧ szOf P e = sz ∧ 0 ≤ i ∧ i < (len : Int) ∧ off + len ≤ rows.length then .pure (.ad b ver (off + i.toNat) 0) else .fail
    | .sh ln rows, some e, _ => if okT P e = true ∧ 0 ≤ i ∧ i < (rows.length : Int) ∧ (∀ r ∈ rows, r.length = szOf P e) then .pure (.sa ln (rowAt rows i.toNat)) else .fail
    | .ad b ver r j, none, some (n, e) => if okT P e = true ∧ 0 ≤ i ∧ i < (n : Int) then .pure (.ad b ver r (j + i.toNat * szOf P e)) else .fail
    | .sa ln cs, none, some (n, e) => if okT P e = true ∧ 0 ≤ i ∧ i < (n : Int) then .pure (.sa ln (cs.drop (i.toNat * szOf P e))) else .fail
    | _, _, _ => .fail
end
/-- A part of an array's value. -/
def ixA (P : Program) (t : Nat) (cs : List PV) (i : Int) : Option PV :=
  match arT P t with
  | some (n, e) => if okT P e = true ∧ 0 ≤ i ∧ i < (n : Int) ∧ ((cs.drop (i.toNat * szOf P e)).take (szOf P e)).length = szOf P e then
      (if aggT P e = true then some (.ag ((cs.drop (i.toNat * szOf P e)).take (szOf P e))) else match (cs.drop (i.toNat * szOf P e)).take (szOf P e) with | [c] => some c | _ => none) else none
  | none => none
/-! Compiled code: what the reading needs of the loaded code. -/
structure COp where
  d : Option Nat
  g : Option (Nat × Bool)
  op : Op
inductive CC where
  | skip
  | run (ops : List COp)
  | draw (ops : List COp) (an : List Nat)
  | seq (a b : CC)
  | cond (c : Operand) (a b : CC)
  | block (id : Nat) (c : CC)
  | loop (ks : List (Nat × Option Nat) × List Nat) (c : CC)
  | exit (id : Nat)
  | ret
def compOp (ops : List Oper) (o : Oper) : Option COp :=
  match o.guard with
  | none => some { d := o.dst, g := none, op := o.op }
  | some (j, w) => match (ops[j]?).bind (·.dst) with
    | some t => some { d := o.dst, g := some (t, w), op := o.op }
    | none => none
def compOps (all : List Oper) : List Oper → Option (List COp)
  | [] => some []
  | o :: r => match compOp all o, compOps all r with | some x, some y => some (x :: y) | _, _ => none
/-- What an operation looks at. -/
def COp.looks (o : COp) : List Nat := (o.op.operands.toList.filterMap fun | .tmp t => some t | _ => none) ++ (match o.g with | some (t, _) => [t] | none => [])
def COp.apart (x y : COp) : Bool :=
  (match x.d with | some d => !(y.looks.contains d) && y.d != some d | none => true) && (match y.d with | some d => !(x.looks.contains d) | none => true)
def okAfter (an : List Nat) (o : COp) (i : Nat) : List COp → Nat → Bool
  | [], _ => true
  | p :: r, j => ((an.getD j 0).testBit i || o.apart p) && okAfter an o i r (j + 1)
def okDraw (an : List Nat) : List COp → Nat → Bool
  | [], _ => true
  | o :: r, i => okAfter an o i r (i + 1) && okDraw an r (i + 1)
def edgesOk : List Oper → Nat → Bool
  | [], _ => true
  | o :: r, i => o.after.toList.all (fun e => !Region.binds .any e || decide (e.on < i)) && edgesOk r (i + 1)
def comp (kp : Nat → List (Nat × Option Nat) × List Nat) : Nat → Code → Option CC
  | _, .skip => some .skip
  | _, .label _ => some .skip
  | _, .region _ ops draw => match compOps ops.toList ops.toList with
    | some l => if draw then (if okDraw (Region.before ops).toList l 0 = true ∧ edgesOk ops.toList 0 = true then some (.draw l (Region.before ops).toList) else none) else some (.run l)
    | none => none
  | k, .seq a b => match comp kp k a, comp kp k b with | some x, some y => some (.seq x y) | _, _ => none
  | k, .cond c a b => match comp kp k a, comp kp k b with | some x, some y => some (.cond c x y) | _, _ => none
  | _, .block id c => (comp kp id c).map (.block id)
  | k, .loop c => (comp kp k c).map (.loop (kp k))
  | _, .exit id => some (.exit id)
  | _, .ret => some .ret
  | k, .scope c => comp kp k c
  | _, _ => none
/-- A sorting function of the library: by a function of the program's (its number, what it holds), the rows (their type). -/
abbrev SortF := Nat → List PV → Nat → List (List PV) → Option (List (List PV))
def PV.plain : PV → Bool
  | .s _ => true
  | _ => false
def sortRow (P : Program) (F : SortF) (f : Nat) (ps : List PV) (b ver len T sz : Nat) (box : Bool) (rows : List (List PV)) : Rd (PV × Ups) :=
  if box = false ∧ len ≤ rows.length ∧ sz = szOf P T ∧ ((rows.take len).all fun r => r.all PV.plain) = true then
    match F f ps T (rows.take len) with
    | some r => .pure (.tu [], [(b, .row ver T sz false (r ++ rows.drop len))])
    | none => .fail
  else .fail
def sortEff (P : Program) (F : SortF) (args : List PV) : Rd (PV × Ups) :=
  match args with
  | [.sl b ver 0 len, .fn f cs] => (Rd.mapM lendA cs).bind fun ps => if (cs.flatMap keyOf).contains b = true then .fail else getRow b ver (sortRow P F f ps b ver len)
  | _ => .fail
structure CFn where
  res : List ResultVar
  rts : List Nat
  body : CC
structure Cx where
  P : Program
  md : Nat → List Nat
  rm : Nat → List Nat
  eqT : Nat → Bool
  pr : Nat → List (Option Nat)
  giv : CallF
  fns : Nat → Option CFn
  srt : Nat → Option SortF
def eff (cx : Cx) (C : CallF) (ρ : Operand → PV) (dst : Option Nat) (op : Op) : Rd (PV × Ups) :=
  match op with
  | .makeMap t r => match r with
    | none => if mpT cx.P t = true then newKey dst fun d => .pure (.mp d 0, [(d, .mp 0 [])]) else .fail
    | some _ => .fail
  | .lookup t x k ok => match ρ x, ρ k with
    | .mp b ver, .s (.int .u64 n) => if mpT cx.P t = true ∧ ok = false then getMap b ver fun ks => .pure (.s (.bool (ks.contains n)), []) else .fail
    | _, _ => .fail
  | .mapUpdate t x k y => match ρ x, ρ k, ρ y with
    | .mp b ver, .s (.int .u64 n), .s (.bool true) => if mpT cx.P t = true then getMap b ver fun ks => .pure (.u, [(b, .mp ver (if ks.contains n = true then ks else ks ++ [n]))]) else .fail
    | _, _, _ => .fail
  | .move x => .pure (ρ x, [])
  | .assign x => .pure (ρ x, [])
  | .pick c a b => match ρ c with | .s (.bool t) => .pure (if t then ρ a else ρ b, []) | _ => .fail
  | .alloc T => newKey dst fun d => match zc cx.P T with | some cs => freeKs ((promC cx.P d 0 (cx.pr T) cs).2.map (·.1)) (.pure (.ad d 0 0 0, (promC cx.P d 0 (cx.pr T) cs).2 ++ [(d, .row 0 T cs.length true [(promC cx.P d 0 (cx.pr T) cs).1])])) | none => .fail
  | .box T x => newKey dst fun d => match cellsOf (ρ x) with | some cs => freeKs ((promC cx.P d 0 (cx.pr T) cs).2.map (·.1)) (.pure (.ad d 0 0 0, (promC cx.P d 0 (cx.pr T) cs).2 ++ [(d, .row 0 T cs.length true [(promC cx.P d 0 (cx.pr T) cs).1])])) | none => .fail
  | .build t ps => if blT cx.P t = true then match zc cx.P t with | some z => (match buildFill cx.P t ρ ps.toList z with | some cs => .pure (.ag cs, []) | none => .fail) | none => .fail else .fail
  | .buildSlice t len ps => match slT cx.P t with
    | none => .fail
    | some e => if elT cx.P e = true ∧ len * szOf cx.P e ≤ 16777216 then newKey dst (bslK cx.P ρ len ps.toList e (zc cx.P e)) else .fail
  | .load t a => (loadEff cx.P t (ρ a)).bind fun v => .pure (v, [])
  | .store t a x => storeEff cx.P t (ρ a) (ρ x)
  | .nilCheck x => match ρ x with | .ad b v i j => .pure (.ad b v i j, []) | .sa ln cs => .pure (.sa ln cs, []) | _ => .fail
  | .binOp op t x y _ => match binP cx.P cx.eqT op t (ρ x) (ρ y) with | some v => .pure (v, []) | none => .fail
  | .unOp op _ x => match ρ x with | .s a => (match unS op a with | some v => .pure (.s v, []) | none => .fail) | _ => .fail
  | .convert src dst x => match ρ x with
    | .s (.int k n) => (match inT cx.P src, inT cx.P dst with | some _, some k' => .pure (.s (.int k' (k'.wrap n)), []) | _, _ => .fail)
    | .s (.string s) => if stT cx.P src && stT cx.P dst then .pure (.s (.string s), []) else .fail
    | p => match slT cx.P src with
      | some e => if inT cx.P e = some .u8 ∧ szOf cx.P e = 1 ∧ stT cx.P dst = true then (readRows p).bind fun rows => (match bytesOf rows with | some s => .pure (.s (.string s), []) | none => .fail) else .fail
      | none => .fail
  | .makeFunc (.func f) first caps => if first.isEmpty = true ∧ (caps.toList.map ρ).all capOk = true then .pure (.fn f (caps.toList.map ρ), []) else .fail
  | .slice t x lo hi mx => sliceEff cx.P t (ρ x) (lo.map ρ) (hi.map ρ) (mx.map ρ)
  | .fieldAddr t x f => match fieldT cx.P t f with
    | none => .fail
    | some (off, e) => if szOf cx.P e = 0 then .fail else match ρ x with
      | .ad b v i j => .pure (.ad b v i (j + off), [])
      | .sa ln cs => .pure (.sa ln (cs.drop off), [])
      | _ => .fail
  | .indexAddr t x ix => (idxEff cx.P t (ρ x) (ρ ix)).bind fun v => .pure (v, [])
  | .index t x ix => match ρ x, idxV (ρ ix) with
    | .s (.string s), some i => if stT cx.P t && decide (0 ≤ i ∧ i < (s.size : Int)) then .pure (.s (.int .u8 ((s.data.getD i.toNat 0).toNat : Int)), []) else .fail
    | .ag cs, some i => (match ixA cx.P t cs i with | some v => .pure (v, []) | none => .fail)
    | _, _ => .fail
  | .extract x i => match ρ x with | .tu vs => (match vs[i]? with | some v => .pure (v, []) | none => .fail) | _ => .fail
  | .call c => match c.callee with
    | .builtin b => builtinEff cx.P dst b c.argTypes.toList (c.args.toList.map ρ)
    | .value f => (match ρ f with
      | .fn g caps => (match cx.srt g with
        | some F => sortEff cx.P F (c.args.toList.map ρ ++ caps)
        | none => callEff cx.P cx.md C dst g (c.argTypes.toList ++ caps.map fun _ => 0) (c.args.toList.map ρ ++ caps))
      | _ => .fail)
    | _ => .fail
  | _ => .fail

/-! A region, a piece of code. -/
def cv : Value → PV
  | .slice none 0 0 => .z
  | .slice _ _ _ => .u
  | .agg _ => .u
  | .tuple _ => .u
  | v => .s v
def St.ev (st : St) : Operand → PV
  | .tmp t => st.sl t
  | .const v => cv v
  | .func f => .fn f []
  | .global _ => .u
def setB (st : St) (t : Nat) (b : Bool) : St := { st with sl := upd st.sl t (.s (.bool b)) }
def run1 (cx : Cx) (C : CallF) (o : COp) (st : St) : Option St := ((eff cx C st.ev o.d o.op).val st.hp).map fun x => st.put o.d x.1 x.2
/-- The operations in the text's order. -/
def runOps (cx : Cx) (C : CallF) : List COp → St → Option St
  | [], st => some st
  | o :: r, st => match o.g with
    | none => (run1 cx C o st).bind (runOps cx C r)
    | some (t, w) => match st.sl t with
        | .s (.bool b) => if b = true
          then (if w = true then (run1 cx C o (setB st t true)).bind (runOps cx C r) else runOps cx C r ((setB st t true).put o.d (.tu []) []))
          else (if w = true then runOps cx C r ((setB st t false).put o.d (.tu []) []) else (run1 cx C o (setB st t false)).bind (runOps cx C r))
        | .tu [] => runOps cx C r (st.put o.d (.tu []) [])
        | _ => none

/-! A region that draws: what each operation read and wrote is held against all that could come in another order. -/
abbrev Tr := List (Nat × List Nat × List Nat)
def disjT (a b : List Nat × List Nat) : Bool := disj a.2 (b.1 ++ b.2) && disj b.2 a.1
def okTr (m : Nat) (tr : Tr) (x : List Nat × List Nat) : Bool := tr.all fun y => m.testBit y.1 || disjT x y.2
def run1D (cx : Cx) (C : CallF) (an : List Nat) (i : Nat) (tr : Tr) (o : COp) (st : St) : Option (Tr × St) :=
  match (eff cx C st.ev o.d o.op).val st.hp with
  | none => none
  | some x => if okTr (an.getD i 0) tr ((eff cx C st.ev o.d o.op).log st.hp, x.2.map (·.1)) = true then some ((i, (eff cx C st.ev o.d o.op).log st.hp, x.2.map (·.1)) :: tr, st.put o.d x.1 x.2) else none
def unc {α β γ : Type} (f : α → β → γ) (x : α × β) : γ := f x.1 x.2
def runD (cx : Cx) (C : CallF) (an : List Nat) : List COp → Nat → Tr → St → Option St
  | [], _, _, st => some st
  | o :: r, i, tr, st => match o.g with
    | none => (run1D cx C an i tr o st).bind (unc (runD cx C an r (i + 1)))
    | some (t, w) => match st.sl t with
        | .s (.bool b) => if b = true
          then (if w = true then (run1D cx C an i tr o (setB st t true)).bind (unc (runD cx C an r (i + 1))) else runD cx C an r (i + 1) tr ((setB st t true).put o.d (.tu []) []))
          else (if w = true then runD cx C an r (i + 1) tr ((setB st t false).put o.d (.tu []) []) else (run1D cx C an i tr o (setB st t false)).bind (unc (runD cx C an r (i + 1))))
        | .tu [] => runD cx C an r (i + 1) tr (st.put o.d (.tu []) [])
        | _ => none

inductive Ex where
  | nrm
  | ex (id : Nat)
  | ret
abbrev Out := Option (Ex × St)
def seqK (r : Out) (k : St → Out) : Out := match r with | some (.nrm, st) => k st | r => r
def blkK (id : Nat) (r : Out) : Out := match r with | some (.ex i, st) => if i = id then some (.nrm, st) else some (.ex i, st) | r => r
theorem seqK_nrm (st : St) (k : St → Out) : seqK (some (.nrm, st)) k = k st := rfl
theorem seqK_ret (st : St) (k : St → Out) : seqK (some (.ret, st)) k = some (.ret, st) := rfl
theorem seqK_ex (i : Nat) (st : St) (k : St → Out) : seqK (some (.ex i, st)) k = some (.ex i, st) := rfl
theorem seqK_none (k : St → Out) : seqK none k = none := rfl
theorem seqK_ite (c : Prop) [Decidable c] (x y : Out) (k : St → Out) : seqK (if c then x else y) k = if c then seqK x k else seqK y k := by split <;> rfl
theorem blkK_nrm (id : Nat) (st : St) : blkK id (some (.nrm, st)) = some (.nrm, st) := rfl
theorem blkK_ret (id : Nat) (st : St) : blkK id (some (.ret, st)) = some (.ret, st) := rfl
theorem blkK_ex (id i : Nat) (st : St) : blkK id (some (.ex i, st)) = if i = id then some (.nrm, st) else some (.ex i, st) := rfl
theorem blkK_none (id : Nat) : blkK id none = none := rfl
theorem blkK_ite (id : Nat) (c : Prop) [Decidable c] (x y : Out) : blkK id (if c then x else y) = if c then blkK id x else blkK id y := by split <;> rfl

/-! Loops, without a number of rounds. -/
def loopN (B : St → Out) (R : St → St) : Nat → St → Out
  | 0, _ => none
  | n + 1, st => match B st with | some (.nrm, st') => loopN B R n (R st') | r => r
theorem loopN_mono (B : St → Out) (R : St → St) : ∀ (n m : Nat) (st : St) (x : Ex × St), n ≤ m → loopN B R n st = some x → loopN B R m st = some x
  | 0, _, _, _, _, h => by simp [loopN] at h
  | n + 1, 0, _, _, hm, _ => by omega
  | n + 1, m + 1, st, x, hm, h => by
    simp only [loopN] at h ⊢
    split at h
    · exact loopN_mono B R n m _ x (by omega) h
    · exact h
open Classical in
noncomputable def Loop (B : St → Out) (R : St → St) (st : St) : Out := if h : ∃ n, (loopN B R n st).isSome = true then loopN B R h.choose st else none
theorem Loop_of {B : St → Out} {R : St → St} {n : Nat} {st : St} {x : Ex × St} (h : loopN B R n st = some x) : Loop B R st = some x := by
  have he : ∃ n, (loopN B R n st).isSome = true := ⟨n, by simp [h]⟩
  unfold Loop
  rw [dif_pos he]
  have hc := he.choose_spec
  obtain ⟨y, hy⟩ := Option.isSome_iff_exists.1 hc
  rw [hy]
  rcases Nat.le_total n he.choose with hl | hl
  · rw [loopN_mono B R _ _ st x hl h] at hy; exact hy.symm
  · rw [loopN_mono B R _ _ st y hl hy] at h; exact h
theorem of_Loop {B : St → Out} {R : St → St} {st : St} {x : Ex × St} (h : Loop B R st = some x) : ∃ n, loopN B R n st = some x := by
  unfold Loop at h
  split at h
  · exact ⟨_, h⟩
  · cases h
/-- One round. -/
theorem Loop_eq (B : St → Out) (R : St → St) (st : St) : Loop B R st = match B st with | some (.nrm, st') => Loop B R (R st') | r => r := by
  cases hB : B st with
  | none =>
    cases hL : Loop B R st with
    | none => rfl
    | some x =>
      obtain ⟨n, hn⟩ := of_Loop hL
      cases n with
      | zero => simp [loopN] at hn
      | succ n => simp [loopN, hB] at hn
  | some y =>
    obtain ⟨e, st'⟩ := y
    cases e with
    | nrm =>
      simp only []
      cases hL : Loop B R (R st') with
      | none =>
        cases hL2 : Loop B R st with
        | none => rfl
        | some x =>
          obtain ⟨n, hn⟩ := of_Loop hL2
          cases n with
          | zero => simp [loopN] at hn
          | succ n =>
            simp only [loopN, hB] at hn
            rw [Loop_of hn] at hL
            cases hL
      | some x =>
        obtain ⟨n, hn⟩ := of_Loop hL
        exact Loop_of (n := n + 1) (by simp only [loopN, hB]; exact hn)
    | ex i => exact Loop_of (n := 1) (by simp [loopN, hB])
    | ret => exact Loop_of (n := 1) (by simp [loopN, hB])

/-! What is carried round a loop: some places, some blocks; a place whose slice is still empty gets a block. -/
def pk (t : Nat) : Nat := 500000 + t
def liveVer : Option Blk → Option Nat
  | some (.row v _ _ _ _) => some v
  | _ => none
def mpVer : Option Blk → Option Nat
  | some (.mp v _) => some v
  | _ => none
/-- New names: a block that a place of a slice holds is named by the place. -/
def ded : List Nat → List Nat
  | [] => []
  | k :: r => if r.contains k = true then ded r else k :: ded r
def rnP (H : Heap) (sl : Nat → PV) : List (Nat × Option Nat) → List (Nat × Nat)
  | [] => []
  | (t, some _) :: r => match sl t with
    | .sl b ver _ _ => if liveVer (H b) = some ver then (b, pk t) :: rnP H sl r else rnP H sl r
    | _ => rnP H sl r
  | (_, none) :: r => rnP H sl r
/-- A block that a cell of a variable holds is named by the variable and the cell. -/
def rnC (H : Heap) (b : Nat) : Nat → List PV → List (Nat × Nat)
  | _, [] => []
  | j, .sl b' ver _ _ :: r => if liveVer (H b') = some ver then (b', nk b j) :: rnC H b (j + 1) r else rnC H b (j + 1) r
  | j, _ :: r => rnC H b (j + 1) r
def rnB (H : Heap) (b : Nat) : Option Blk → List (Nat × Nat)
  | some (.row _ _ _ true [cells]) => rnC H b 0 cells
  | _ => []
def rnQ (H : Heap) : List Nat → List (Nat × Nat)
  | [] => []
  | b :: ks => rnB H b (H b) ++ rnQ H ks
def rnA : List (Nat × Nat) → Nat → Nat
  | [], b => b
  | (x, y) :: r, b => if b = x then y else rnA r b
def rnM (kk : List Nat) (l : List (Nat × Nat)) : List (Nat × Nat) := if keysNodup (kk.map (rnA l)) = true then l else []
def freshC (H : Heap) (ks : List Nat) (m : List (Nat × Nat)) : PV → PV
  | .sl b ver off len => if ks.contains b = true ∧ liveVer (H b) = some ver then .sl (rnA m b) 0 off len else .u
  | .ad b ver i j => if ks.contains b = true ∧ liveVer (H b) = some ver then .ad (rnA m b) 0 i j else .u
  | .mp b ver => if ks.contains b = true ∧ mpVer (H b) = some ver then .mp (rnA m b) 0 else .u
  | .s v => .s v
  | .z => .z
  | .sh ln r => .sh ln r
  | .sa ln c => .sa ln c
  | .fn f [] => .fn f []
  | _ => .u
def freshV (H : Heap) (ks : List Nat) (m : List (Nat × Nat)) : PV → PV
  | .ag cs => .ag (cs.map (freshC H ks m))
  | .fn f cs => .fn f (cs.map (freshC H ks m))
  | p => freshC H ks m p
def freshB (H : Heap) (ks : List Nat) (m : List (Nat × Nat)) : Option Blk → Option Blk
  | some (.row _ T sz true rows) => some (.row 0 T sz true (rows.map (·.map (freshC H ks m))))
  | some (.row _ T sz false rows) => some (.row 0 T sz false rows)
  | some (.mp _ ks) => some (.mp 0 ks)
  | _ => none
def sF : List (Nat × PV) → Nat → PV
  | [], _ => .u
  | (k, v) :: r, t => if t = k then v else sF r t
def hF : List (Nat × Option Blk) → Nat → Option Blk
  | [], _ => none
  | (k, v) :: r, t => if t = k then v else hF r t
def St.of (sl : List (Nat × PV)) (hp : List (Nat × Option Blk)) : St := ⟨sF sl, hF hp⟩
/-- The blocks that the kept places lead to, those of the parameters that are had back, and those that the variables among them hold. -/
def keys1 (st : St) (ks : List (Nat × Option Nat)) (mk : List Nat) : List Nat := (ks.flatMap fun x => keysIn (st.sl x.1)) ++ mk
def keysB : Option Blk → List Nat
  | some (.row _ _ _ true rows) => rows.flatMap fun r => r.flatMap keyOf
  | _ => []
def keys2 (st : St) (l : List Nat) : List Nat := l ++ l.flatMap fun b => keysB (st.hp b)
/-- A place whose slice is still empty gets a block. -/
def prom (kk : List Nat) (t : Nat) : Option Nat → PV → Option Nat
  | some T, .z => if kk.contains (pk t) = true then none else some T
  | _, _ => none
def keepV (H : Heap) (kk : List Nat) (m : List (Nat × Nat)) (t : Nat) (o : Option Nat) (p : PV) : PV := match prom (kk.map (rnA m)) t o p with | some _ => .sl (pk t) 0 0 0 | none => freshV H kk m p
def proms (P : Program) (sl : Nat → PV) (kk : List Nat) : List (Nat × Option Nat) → List (Nat × Option Blk)
  | [] => []
  | (t, o) :: r => (match prom kk t o (sl t) with | some T => [(pk t, some (.row 0 T (szOf P T) false []))] | none => []) ++ proms P sl kk r
def insH (x : Nat × Option Blk) : List (Nat × Option Blk) → List (Nat × Option Blk)
  | [] => [x]
  | y :: r => if y.1 < x.1 then y :: insH x r else x :: y :: r
def sortH : List (Nat × Option Blk) → List (Nat × Option Blk)
  | [] => []
  | x :: r => insH x (sortH r)
theorem hF_insH (x : Nat × Option Blk) : ∀ (l : List (Nat × Option Blk)), hF (insH x l) = hF (x :: l)
  | [] => rfl
  | y :: r => by
    unfold insH
    split
    · rename_i h
      funext k
      obtain ⟨a, b⟩ := x
      obtain ⟨c, d⟩ := y
      have ih := congrFun (hF_insH (a, b) r) k
      simp only [hF] at ih ⊢
      by_cases h1 : k = c
      · have : ¬ k = a := by simp only at h; omega
        rw [if_pos h1, if_neg this, if_pos h1]
      · rw [if_neg h1, ih, if_neg h1]
    · rfl
theorem hF_sortH : ∀ (l : List (Nat × Option Blk)), hF (sortH l) = hF l
  | [] => rfl
  | (a, b) :: r => by
    rw [sortH, hF_insH]
    funext k
    simp only [hF, hF_sortH r]
def Rst (P : Program) (ks : List (Nat × Option Nat) × List Nat) (st : St) : St :=
  let kk := ded (keys2 st (keys1 st ks.1 ks.2))
  let m := rnM kk (rnP st.hp st.sl ks.1 ++ rnQ st.hp kk)
  St.of (ks.1.map fun x => (x.1, keepV st.hp kk m x.1 x.2 (st.sl x.1)))
    (sortH (proms P st.sl (kk.map (rnA m)) ks.1 ++ kk.map fun b => (rnA m b, freshB st.hp kk m (st.hp b))))

def toOut (r : Option St) : Out := match r with | some st => some (.nrm, st) | none => none
theorem toOut_some (st : St) : toOut (some st) = some (.nrm, st) := rfl
theorem toOut_none : toOut none = none := rfl
theorem toOut_ite (c : Prop) [Decidable c] (x y : Option St) : toOut (if c then x else y) = if c then toOut x else toOut y := by split <;> rfl
noncomputable def exec (cx : Cx) (C : CallF) : CC → St → Out
  | .skip, st => some (.nrm, st)
  | .run ops, st => toOut (runOps cx C ops st)
  | .draw ops an, st => toOut (runD cx C an ops 0 [] st)
  | .seq a b, st => seqK (exec cx C a st) (exec cx C b)
  | .cond c a b, st => match st.ev c with | .s (.bool t) => if t = true then exec cx C a st else exec cx C b st | _ => none
  | .block id c, st => blkK id (exec cx C c st)
  | .loop ks c, st => Loop (exec cx C c) (Rst cx.P ks) (Rst cx.P ks st)
  | .exit id, st => some (.ex id, st)
  | .ret, st => some (.ret, st)

/-! A call. -/
def pkeys : Nat → List PV → List Nat
  | _, [] => []
  | i, _ :: r => i :: pkeys (i + 1) r
def slots : Nat → List PV → List (Nat × PV)
  | _, [] => []
  | i, p :: r => (i, p) :: slots (i + 1) r
def noH : Heap := fun _ => none
/-- The state at a call's start. -/
def startSt (P : Program) (tvs : List PV) : Option St :=
  match (recvL P (pkeys 0 tvs) tvs).val noH with
  | some x => if keysNodup (x.2.map (·.1)) = true then some (St.mk (sF (slots 0 x.1)) (updH noH x.2)) else none
  | none => none
def outC (p : PV) : Rd (PV × Ups) := match p with | .sh true r => .pure (.sh true r, []) | p => nrmC p
def outCs : List PV → Rd (List PV × Ups)
  | [] => .pure ([], [])
  | p :: r => (outC p).bind fun x => (outCs r).bind fun y => .pure (x.1 :: y.1, x.2 ++ y.2)
/-- Result modes: 0 what is handed back is only read from then on; 1 it is the caller's own. -/
def outR (P : Program) (m t : Nat) (p : PV) : Rd (PV × Ups) :=
  match m with
  | 0 => match p with
    | .ag cs => (outCs cs).bind fun x => .pure (.ag x.1, x.2)
    | .fn f [] => .pure (.fn f [], [])
    | p => outC p
  | 1 => match p with
    | .ag cs => (giveCells P cs).bind fun x => .pure (.ag x.1, x.2)
    | .ad b ver 0 0 => getRow b ver fun T sz box rows => match box, rows with | true, [cells] => (giveCells P cells).bind fun x => .pure (.bx T x.1, (b, .dead (ver + 1)) :: x.2) | _, _ => .fail
    | p => match slT P t with | some T => giveC P T p | none => .fail
  | _ => .fail
def outRs (P : Program) : List Nat → List Nat → List PV → Rd (List PV × Ups)
  | m :: ms, t :: ts, p :: ps => (outR P m t p).bind fun x => (outRs P ms ts ps).bind fun y => .pure (x.1 :: y.1, x.2 ++ y.2)
  | [], [], [] => .pure ([], [])
  | _, _, _ => .fail
/-- What is had back of the parameters. -/
def outMs (P : Program) (sl : Nat → PV) : Nat → List Nat → Rd (List PV × Ups)
  | _, [] => .pure ([], [])
  | i, m :: ms => if m = 2 then (xfer P 2 0 (sl i)).bind fun x => (outMs P sl (i + 1) ms).bind fun y => .pure (x.1 :: y.1, x.2 ++ y.2) else outMs P sl (i + 1) ms
def resPV (P : Program) (st : St) : List ResultVar → Rd (List PV)
  | [] => .pure []
  | .tmp t :: r => (resPV P st r).bind fun y => .pure (st.sl t :: y)
  | .cell a t :: r => (loadEff P t (st.sl a)).bind fun x => (resPV P st r).bind fun y => .pure (x :: y)
def finish (cx : Cx) (f : Nat) (res : List ResultVar) (rts : List Nat) (st : St) : Option (List PV × List PV) :=
  (((resPV cx.P st res).bind fun ps => (outRs cx.P (cx.rm f) rts ps).bind fun x => (outMs cx.P st.sl 0 (cx.md f)).bind fun y =>
    if keysNodup ((x.2 ++ y.2).map (·.1)) = true then Rd.pure (x.1, y.1) else .fail).val st.hp)
def endK (k : St → Option (List PV × List PV)) : Out → Option (List PV × List PV)
  | some (.nrm, st) => k st
  | some (.ret, st) => k st
  | _ => none
noncomputable def body (cx : Cx) (C : CallF) (f : Nat) (tvs : List PV) : Option (List PV × List PV) :=
  match cx.fns f with
  | none => none
  | some fn => if tvs.length = (cx.md f).length then
        (match startSt cx.P tvs with
        | some st => endK (finish cx f fn.res fn.rts) (exec cx C fn.body st)
        | none => none)
      else none
def orK {α : Type} (a b : Option α) : Option α := match a with | some x => some x | none => b
noncomputable def callN (cx : Cx) : Nat → CallF
  | 0 => fun _ _ => none
  | n + 1 => fun f t => orK (cx.giv f t) (body cx (callN cx n) f t)
end Go.Pi
