/- The plain data of the program's types, as cells. Own work. -/
import Derived.Test.YtpjdoblfdeioaaaQlaw
import Derived.Test.YtpjdoblfdeioaaaQeval
import Derived.Test.YtpjdoblfdeioaaaQlog
set_option linter.unusedVariables false
set_option linter.unusedSimpArgs false
namespace Go.Pi
structure Trc where
  hi : Nat
  lo : Nat
  deriving DecidableEq
structure Atr where
  key : ByteArray
  val : ByteArray
  deriving DecidableEq
structure Spn where
  tr : Trc
  id : Nat
  parent : Nat
  svc : ByteArray
  op : ByteArray
  start : Int
  dur : Int
  err : Bool
  attrs : List Atr
structure Epi where
  tr : Trc
  first : Int
  last : Int
  sure : Bool
  spans : List Spn
structure Blo where
  number : Int
  born : Int
  tier : Int
  eps : List Epi
def iC (n : Int) : List PV := [.s (.int .i64 n)]
def bC (n : Int) : List PV := [.s (.int .u8 n)]
def uC (n : Int) : List PV := [.s (.int .u64 n)]
def sC (s : ByteArray) : List PV := [.s (.string s)]
def trC (t : Trc) : List PV := [.s (.int .u64 t.hi), .s (.int .u64 t.lo)]
def atC (a : Atr) : List PV := [.s (.string a.key), .s (.string a.val)]
def spC (s : Spn) : List PV := [.s (.int .u64 s.tr.hi), .s (.int .u64 s.tr.lo), .s (.int .u64 s.id), .s (.int .u64 s.parent), .s (.string s.svc), .s (.string s.op), .s (.int .i64 s.start), .s (.int .i64 s.dur), .s (.bool s.err), .sh false (s.attrs.map atC)]
def epC (e : Epi) : List PV := [.s (.int .u64 e.tr.hi), .s (.int .u64 e.tr.lo), .s (.int .i64 e.first), .s (.int .i64 e.last), .s (.bool e.sure), .sh false (e.spans.map spC)]
def bkC (b : Blo) : List PV := [.s (.int .i64 b.number), .s (.int .i64 b.born), .s (.int .i64 b.tier), .sh false (b.eps.map epC)]
def trEq (a b : Trc) : Bool := decide ((a.hi : Int) = b.hi) && decide ((a.lo : Int) = b.lo)
theorem trEq_iff {a b : Trc} : trEq a b = true ↔ a = b := by
  cases a; cases b; simp [trEq]; omega
def big : Int := 9223372036854775807
/-! Lists by places. -/
section
variable {α : Type} {l : List α} {x : α} {i : Nat}
theorem get_of_lt (h : i < l.length) : ∃ x, l[i]? = some x := ⟨l[i], List.getElem?_eq_getElem h⟩
theorem drop_get (h : l[i]? = some x) : l.drop i = x :: l.drop (i + 1) := by
  obtain ⟨hlt, rfl⟩ := List.getElem?_eq_some_iff.1 h
  exact List.drop_eq_getElem_cons hlt
theorem getD_map (f : α → List PV) (h : l[i]? = some x) : (l.map f).getD i [] = f x := by
  simp [List.getD, h]
theorem take_get (h : l[i]? = some x) : l.take (i + 1) = l.take i ++ [x] := by
  obtain ⟨hlt, rfl⟩ := List.getElem?_eq_some_iff.1 h
  rw [List.take_add_one, h]; rfl
theorem mem_get (h : l[i]? = some x) : x ∈ l := List.mem_of_getElem? h
theorem drop_end (h : l.length ≤ i) : l.drop i = [] := List.drop_of_length_le h
end
@[go_sem] theorem rows_len {α : Type} (f : α → List PV) (l : List α) (n : Nat) : (∀ r ∈ l.map f, r.length = n) ↔ ∀ x ∈ l, (f x).length = n := by simp
@[go_sem] theorem len_iC (n : Int) : (iC n).length = 1 := rfl
@[go_sem] theorem len_bC (n : Int) : (bC n).length = 1 := rfl
@[go_sem] theorem len_uC (n : Int) : (uC n).length = 1 := rfl
@[go_sem] theorem len_sC (n : ByteArray) : (sC n).length = 1 := rfl
@[go_sem] theorem len_trC (t : Trc) : (trC t).length = 2 := rfl
@[go_sem] theorem len_atC (t : Atr) : (atC t).length = 2 := rfl
@[go_sem] theorem len_spC (t : Spn) : (spC t).length = 10 := rfl
@[go_sem] theorem len_epC (t : Epi) : (epC t).length = 6 := rfl
@[go_sem] theorem len_bkC (t : Blo) : (bkC t).length = 4 := rfl
theorem wrap64_id {n : Int} (h0 : -9223372036854775808 ≤ n) (h1 : n ≤ 9223372036854775807) : IntKind.i64.wrap n = n := by
  unfold IntKind.wrap
  simp [IntKind.bits, IntKind.signed]
  omega
/-! Rows that grow. -/
theorem take_all {α : Type} (f : α → List PV) (l : List α) (n : Nat) (h : l.length ≤ n) : (l.map f).take n = l.map f := by rw [List.take_of_length_le (by simpa using h)]
theorem snoc_b (l : List Int) (x : Int) : l.map bC ++ [[.s (.int .u8 x)]] = (l ++ [x]).map bC := by simp [bC]
theorem snoc_i (l : List Int) (x : Int) : l.map iC ++ [[.s (.int .i64 x)]] = (l ++ [x]).map iC := by simp [iC]
attribute [go_sem] take_all snoc_b snoc_i
@[go_sem] theorem app_b (l r : List Int) : l.map bC ++ r.map bC = (l ++ r).map bC := by simp
theorem lim_eq : lim = 140737488355328 := rfl
attribute [go_sem] lim_eq
/-- An append of something, to a slice of the call's own that is full. -/
@[go_sem high] theorem appSl_full {P : Program} {α : Type} (f : α → List PV) (l : List α) (y : List PV) (ys : List (List PV)) (e b ver n sz : Nat) (H : Heap) (hn : n = l.length) (hs : sz = szOf P e) (h0 : 0 < byOf P e) (h1 : (l.map f ++ (y :: ys)).length * byOf P e ≤ lim) :
    (appSl P e b ver n (y :: ys) e sz false (l.map f)).val H = some (.sl b (ver + 1) 0 (l.map f ++ (y :: ys)).length, [(b, .row (ver + 1) e sz false (l.map f ++ (y :: ys)))]) := by
  subst hn hs
  have hlen : (l.map f ++ (y :: ys)).length = l.length + (y :: ys).length := by simp
  rw [hlen] at h1 ⊢
  have h2 : l.length + (y :: ys).length ≤ 9223372036854775807 := by
    have : (l.length + (y :: ys).length) * 1 ≤ (l.length + (y :: ys).length) * byOf P e := Nat.mul_le_mul_left _ h0
    rw [lim_eq] at h1
    omega
  unfold appSl
  rw [if_pos ⟨rfl, rfl, rfl, by simp⟩, if_neg (by simp), if_pos ⟨h1, h2⟩, List.take_of_length_le (by simp)]
  rfl
theorem appSl_map {P : Program} {α β : Type} (f : α → List PV) (g : β → List PV) (l : List α) (r : List β) (hr : r ≠ []) (e b ver n sz : Nat) (H : Heap) (hn : n = l.length) (hs : sz = szOf P e) (h0 : 0 < byOf P e) (h1 : (l.map f ++ r.map g).length * byOf P e ≤ lim) :
    (appSl P e b ver n (r.map g) e sz false (l.map f)).val H = some (.sl b (ver + 1) 0 (l.map f ++ r.map g).length, [(b, .row (ver + 1) e sz false (l.map f ++ r.map g))]) := by
  cases r with
  | nil => exact absurd rfl hr
  | cons x r => exact appSl_full f l (g x) (r.map g) e b ver n sz H hn hs h0 h1
theorem appSl_nil {P : Program} {α : Type} (f : α → List PV) (l : List α) (e b ver n sz : Nat) (H : Heap) (hn : n = l.length) (hs : sz = szOf P e) :
    (appSl P e b ver n [] e sz false (l.map f)).val H = some (.sl b ver 0 l.length, [(b, .row ver e sz false (l.map f))]) := by
  subst hn hs
  unfold appSl
  rw [if_pos ⟨rfl, rfl, rfl, by simp⟩, if_pos (by simp)]
  simp only [Rd.val, List.length_nil, Nat.add_zero, List.append_nil]
  rw [List.take_of_length_le (by simp), List.drop_of_length_le (by simp), List.append_nil]
attribute [go_sem high] appSl_nil
@[go_sem] theorem appSl_none {P : Program} (y : List PV) (ys : List (List PV)) (e b ver sz : Nat) (H : Heap) (hs : sz = szOf P e) (h0 : 0 < byOf P e) (h1 : (y :: ys).length * byOf P e ≤ lim) :
    (appSl P e b ver 0 (y :: ys) e sz false []).val H = some (.sl b (ver + 1) 0 (y :: ys).length, [(b, .row (ver + 1) e sz false (y :: ys))]) := by
  exact appSl_full (fun x : List PV => x) [] y ys e b ver 0 sz H rfl hs h0 (by simpa using h1)
@[go_sem] theorem appSl_none0 {P : Program} (e b ver sz : Nat) (H : Heap) (hs : sz = szOf P e) :
    (appSl P e b ver 0 [] e sz false []).val H = some (.sl b ver 0 0, [(b, .row ver e sz false [])]) := appSl_nil (fun x : List PV => x) [] e b ver 0 sz H rfl hs
/-! Bytes of a number. -/
def vput (n : Nat) : List Int := if n < 128 then [(n : Int)] else ((n % 128 + 128 : Nat) : Int) :: vput (n / 128)
theorem vput_lt {n : Nat} (h : n < 128) : vput n = [(n : Int)] := by rw [vput, if_pos h]
theorem vput_ge {n : Nat} (h : ¬ n < 128) : vput n = ((n % 128 + 128 : Nat) : Int) :: vput (n / 128) := by rw [vput, if_neg h]
def vinit (n : Nat) : List Int := if n < 128 then [] else ((n % 128 + 128 : Nat) : Int) :: vinit (n / 128)
def vlast (n : Nat) : Nat := if n < 128 then n else vlast (n / 128)
theorem vput_eq (n : Nat) : vput n = vinit n ++ [(vlast n : Int)] := by
  induction n using Nat.strongRecOn with
  | _ n ih =>
    rw [vput, vinit, vlast]
    split
    · rfl
    · rw [ih (n / 128) (by omega)]; rfl
theorem vlast_lt (n : Nat) : vlast n < 128 := by
  induction n using Nat.strongRecOn with
  | _ n ih =>
    rw [vlast]
    split
    · assumption
    · exact ih (n / 128) (by omega)
theorem u8_wrap (n : Nat) : IntKind.u8.wrap (n : Int) = ((n % 256 : Nat) : Int) := by
  simp [IntKind.wrap, IntKind.bits, IntKind.signed]
theorem u8_small {n : Nat} (h : n < 256) : IntKind.u8.wrap (n : Int) = (n : Int) := by rw [u8_wrap, Nat.mod_eq_of_lt h]
theorem or_key (m : Nat) (h : m < 256) : orI .u8 (m : Int) 128 = ((m % 128 + 128 : Nat) : Int) := by
  have key : ∀ m : Nat, m < 256 → orI .u8 (m : Int) 128 = ((m % 128 + 128 : Nat) : Int) := by decide +kernel
  exact key m h
theorem or128 (n : Nat) : orI .u8 (IntKind.u8.wrap (n : Int)) 128 = ((n % 128 + 128 : Nat) : Int) := by
  rw [u8_wrap n, or_key (n % 256) (Nat.mod_lt _ (by decide)), Nat.mod_mod_of_dvd _ (by decide)]
theorem u64_wrap (n : Nat) : IntKind.u64.wrap (n : Int) = ((n % 18446744073709551616 : Nat) : Int) := by
  simp [IntKind.wrap, IntKind.bits, IntKind.signed]
theorem u64_small {n : Nat} (h : n < 18446744073709551616) : IntKind.u64.wrap (n : Int) = (n : Int) := by rw [u64_wrap, Nat.mod_eq_of_lt h]
theorem and127 (n : Nat) : andI .u64 (n : Int) 127 = ((n % 128 : Nat) : Int) := by
  have h1 : (BitVec.ofInt 64 (n : Int) &&& BitVec.ofInt 64 127).toNat = n % 128 := by
    rw [BitVec.toNat_and]
    have h2 : (BitVec.ofInt 64 (n : Int)).toNat = n % 18446744073709551616 := by simp
    have h3 : (BitVec.ofInt 64 127).toNat = 2 ^ 7 - 1 := by decide
    rw [h2, h3, Nat.and_two_pow_sub_one_eq_mod]
    omega
  show IntKind.u64.wrap ((BitVec.ofInt 64 (n : Int) &&& BitVec.ofInt 64 127).toNat : Int) = _
  rw [h1, u64_small (by omega)]
theorem shr7 (n : Nat) : shrI .u64 (n : Int) 7 = ((n / 128 : Nat) : Int) := by
  show (n : Int).fdiv (2 ^ (min 7 64)) = _
  rw [show min 7 64 = 7 from rfl, Int.fdiv_eq_ediv_of_nonneg _ (by decide)]
  simp
theorem u64_int {n : Int} (h0 : 0 ≤ n) (h1 : n < 18446744073709551616) : IntKind.u64.wrap n = (n.toNat : Int) := by
  obtain ⟨m, rfl⟩ := Int.eq_ofNat_of_zero_le h0
  rw [u64_small (by omega)]; rfl
def strI (s : ByteArray) : List Int := s.data.toList.map fun c => (c.toNat : Int)
@[go_sem] theorem strI_len (s : ByteArray) : (strI s).length = s.size := by simp [strI]
@[go_sem] theorem strI_rows (s : ByteArray) : (s.data.toList.map fun c => [PV.s (.int .u8 (c.toNat : Int))]) = (strI s).map bC := by simp [strI, bC]
def tput (s : ByteArray) : List Int := vput s.size ++ strI s
def bitN (b : Bool) : Nat := if b = true then 1 else 0
def atB (a : Atr) : List Int := tput a.key ++ tput a.val
def atsB (l : List Atr) : List Int := l.flatMap atB
def spB (s : Spn) : List Int := vput s.tr.hi ++ (vput s.tr.lo ++ (vput s.id ++ (vput s.parent ++ (tput s.svc ++ (tput s.op ++ (vput s.start.toNat ++ (vput s.dur.toNat ++ (vput (bitN s.err) ++ (vput s.attrs.length ++ atsB s.attrs)))))))))
def spsB (l : List Spn) : List Int := l.flatMap spB
def nums (l : List Int) : List Int := l.flatMap fun n => vput n.toNat
def trB (t : Trc) : List Int := vput t.hi ++ vput t.lo
/-- Of an episode: all but its trace. -/
def epB (e : Epi) : List Int := vput e.first.toNat ++ (vput e.last.toNat ++ (vput (bitN e.sure) ++ (vput e.spans.length ++ spsB e.spans)))
def idxB (e : Epi) : List Int := trB e.tr ++ vput (epB e).length
def idxsB (l : List Epi) : List Int := l.flatMap idxB
def epsB (l : List Epi) : List Int := l.flatMap epB
theorem vput_ne (n : Nat) : vput n ≠ [] := by rw [vput_eq]; simp
theorem epB_ne (e : Epi) : epB e ≠ [] := by unfold epB; simp [vput_ne]
theorem appSl_in {P : Program} (rows ys : List (List PV)) (e b ver n sz : Nat) (H : Heap) (hs : sz = szOf P e) (h : n + ys.length ≤ rows.length) :
    (appSl P e b ver n ys e sz false rows).val H = some (.sl b ver 0 (n + ys.length), [(b, .row ver e sz false (rows.take n ++ ys ++ rows.drop (n + ys.length)))]) := by
  subst hs
  unfold appSl
  rw [if_pos ⟨rfl, rfl, rfl, by omega⟩, if_pos h]
  rfl
@[go_sem] theorem snoc_bk (l : List Blo) (b : Blo) : l.map bkC ++ [[.s (.int .i64 b.number), .s (.int .i64 b.born), .s (.int .i64 b.tier), .sh false (b.eps.map epC)]] = (l ++ [b]).map bkC := by simp [bkC]
@[go_sem] theorem app_ep (l r : List Epi) : l.map epC ++ r.map epC = (l ++ r).map epC := by simp
attribute [go_sem] or_self true_or or_true false_or or_false Int.natCast_nonneg Int.toNat_natCast List.length_map implies_true Int.cast_ofNat_Int List.mem_cons List.not_mem_nil forall_eq_or_imp forall_eq false_implies List.replicate_succ List.replicate_zero List.set_cons_zero List.set_cons_succ List.length_set Nat.zero_add Nat.not_succ_le_self Nat.mul_one exec_loop Rst keys1 keys2 keysB proms prom keepV freshV freshC freshB liveVer mpVer pk ded insH sortH rnP rnC rnB rnQ rnA rnM List.map_nil St.of List.map_cons body startSt pkeys slots recvL recv noH finish resPV outRs outR outC outCs outMs
end Go.Pi
