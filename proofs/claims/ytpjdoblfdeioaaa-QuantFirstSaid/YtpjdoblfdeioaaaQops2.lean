/- Operators, addresses, parts. Own work of this session. -/
import Derived.Test.YtpjdoblfdeioaaaQops1
set_option linter.unusedVariables false
set_option linter.unusedSimpArgs false
namespace Go.Pi
theorem beq_bytes (a b : ByteArray) : (a.toList == b.toList) = decide (a = b) := by
  rw [ByteArray.toList_eq, ByteArray.toList_eq]
  by_cases h : a = b
  · subst h; simp
  · have h2 : a.data.toList ≠ b.data.toList := fun e => h (by
      cases a; cases b; congr 1; exact Array.toList_inj.1 e)
    have h3 : ¬ a.data = b.data := fun e => h2 (by rw [e])
    simp [h, h3]
theorem beq_int (x y : Int) : (x == y) = decide (x = y) := rfl
section
variable {P : Program} {W0 W W' : World} {O0 : List Nat} {S0 : Base} {S S' : Bool → Nat → Prop} {φ φ' : Nat → Option Nat} {st : St} {a : Act} {o : Oper} {K : Act → World → Prop} {Q : Exit → Act → World → Prop} {p : PV} {x : Value}
theorem und_some {t : Nat} {d : TypeDesc} (h : P.underlying t = some d) : (P.underlying t).isSome = true := by rw [h]; rfl
theorem stT_inv {t : Nat} (h : stT P t = true) : P.underlying t = some .string := by
  unfold stT at h; split at h
  · assumption
  · cases h
theorem boT_inv {t : Nat} (h : boT P t = true) : P.underlying t = some .bool := by
  unfold boT at h; split at h
  · assumption
  · cases h
theorem ptT_inv {t : Nat} (h : ptT P t = true) : ∃ e, P.underlying t = some (.pointer e) := by
  unfold ptT at h; split at h
  · exact ⟨_, by assumption⟩
  · cases h
theorem slT_inv {t e : Nat} (h : slT P t = some e) : P.underlying t = some (.slice e) := by
  unfold slT at h; split at h
  · cases h; assumption
  · cases h
theorem arT_inv {t n e : Nat} (h : arT P t = some (n, e)) : P.underlying t = some (.array n e) := by
  unfold arT at h; split at h
  · cases h; assumption
  · cases h
theorem inT_inv {t : Nat} {k : IntKind} (h : inT P t = some k) : P.underlying t = some (.int k) := by
  unfold inT at h; split at h
  · cases h; assumption
  · cases h
theorem fieldT_inv {t f off e : Nat} (h : fieldT P t f = some (off, e)) : ∃ fs fd, P.underlying t = some (.struct fs) ∧ fs[f]? = some fd ∧ fd.offset = off ∧ fd.type = e := by
  unfold fieldT at h; split at h
  · rename_i fs hu
    cases hf : fs[f]? with
    | none => simp [hf] at h
    | some fd => simp only [hf, Option.map_some, Option.some.injEq, Prod.mk.injEq] at h; exact ⟨fs, fd, hu, hf, h.1, h.2⟩
  · cases h

/-! Operators. -/
theorem run_equalIn_nilptr (d : Nat) (t : TypeId) (p : Option Addr) {e : TypeId} (h : P.underlying t = some (.pointer e)) : (Op.equalIn (d + 1) t (.pointer p) (.pointer none)).run P W = .ok p.isNone W := by
  cases p <;> simp [Op.equalIn, run_underlying h]
theorem binS_run {op : BinOp} {t : Nat} {v w r : Value} (ht : tyOk P t v = true) (h : binS op v w = some r) : (binOp op t v w).run P W = .ok r W ∧ r.oneCell' = true := by
  unfold binS at h
  split at h
  · rename_i k x k' y
    split at h
    · unfold shV at h
      split at h
      · cases h
      · rename_i hb
        cases h
        refine ⟨?_, rfl⟩
        simp [binOp, Op.shift, hb]
    · unfold shV at h
      split at h
      · cases h
      · rename_i hb
        cases h
        refine ⟨?_, rfl⟩
        simp [binOp, Op.shift, hb]
    · rename_i hop1 hop2
      split at h
      · rename_i hk; subst hk
        cases op <;> simp only [cmpV, arV] at h <;> first
          | (exact absurd rfl hop1)
          | (exact absurd rfl hop2)
          | (cases h; refine ⟨?_, rfl⟩; simp [binOp, Op.intArith, Op.intBits, Op.intCmp]; done)
          | (cases h; refine ⟨?_, rfl⟩; simp only [binOp, Op.intCmp, ne_eq, not_true_eq_false, if_false, beq_int, bne]; rfl)
          | (split at h
             · cases h
             · rename_i hz; cases h; refine ⟨?_, rfl⟩; simp [binOp, Op.intDiv, hz])
      · cases h
  · rename_i s s'
    cases op <;> simp only [strV] at h <;> first
      | (split at h
         · rename_i hs
           cases h
           refine ⟨?_, rfl⟩
           have : ¬ ((s.size + s'.size : Nat) : Int) > IntKind.i64.max := by
             have e : IntKind.i64.max = 9223372036854775807 := by decide
             rw [e]
             omega
           simp only [binOp, Op.stringOp, if_neg this]
           rfl
         · cases h)
      | (cases h; refine ⟨?_, rfl⟩; simp [binOp, Op.stringOp, beq_bytes]; done)
      | (cases h)
  · rename_i x y
    have hb := boT_inv ht
    split at h
    · cases h; refine ⟨?_, rfl⟩
      simp only [binOp, Op.equal, Sem.run_bind, show Op.maxDepth = 9999 + 1 from rfl, run_equalIn_bool W _ t x y hb, Result.andThen_ok, Sem.run_pure]
    · cases h; refine ⟨?_, rfl⟩
      simp only [binOp, Op.equal, Sem.run_bind, show Op.maxDepth = 9999 + 1 from rfl, run_equalIn_bool W _ t x y hb, Result.andThen_ok, Sem.run_pure]
    · cases h
  · obtain ⟨e, he⟩ := ptT_inv ht
    split at h
    · cases h; refine ⟨?_, rfl⟩
      simp only [binOp, Op.equal, Sem.run_bind, show Op.maxDepth = 9999 + 1 from rfl, run_equalIn_nilptr _ t none he, Result.andThen_ok, Sem.run_pure]
      rfl
    · cases h; refine ⟨?_, rfl⟩
      simp only [binOp, Op.equal, Sem.run_bind, show Op.maxDepth = 9999 + 1 from rfl, run_equalIn_nilptr _ t none he, Result.andThen_ok, Sem.run_pure]
      rfl
    · cases h
  · cases h

def EqFact (P : Program) (eqT : Nat → Bool) : Prop := ∀ t, eqT t = true → P.eqGuardType P.depth t = false ∧ ∀ (vs ws : List Value) (c : Bool) (W : World), alike (zc P t) (vs.map .s) = true → eqCs (vs.map .s) (ws.map .s) = some c → (Op.equalIn 10000 t (.agg vs.toArray) (.agg ws.toArray)).run P W = .ok c W
theorem RelCs.tail {H : Heap} {p : PV} {ps : List PV} {x : Value} {xs : List Value} (h : RelCs W S φ H (p :: ps) (x :: xs)) : RelC W S φ H p x ∧ RelCs W S φ H ps xs :=
  ⟨h.2 0 p x rfl rfl, by simpa using h.1, fun i p' x' hp hx => h.2 (i + 1) p' x' hp hx⟩
theorem RelCs.cons {H : Heap} {p : PV} {ps : List PV} {x : Value} {xs : List Value} (h : RelC W S φ H p x) (h' : RelCs W S φ H ps xs) : RelCs W S φ H (p :: ps) (x :: xs) :=
  ⟨by simpa using h'.1, fun i p' x' hp hx => by
    cases i with
    | zero => simp only [List.getElem?_cons_zero, Option.some.injEq] at hp hx; subst hp; subst hx; exact h
    | succ i => exact h'.2 i p' x' hp hx⟩
theorem RelCs.nil {H : Heap} : RelCs W S φ H [] [] := ⟨rfl, fun i p x hp => by simp at hp⟩
theorem eqCs_vals {H : Heap} : ∀ {xs ys : List PV} {c : Bool} {vs ws : List Value}, eqCs xs ys = some c → RelCs W S φ H xs vs → RelCs W S φ H ys ws → xs = vs.map .s ∧ ys = ws.map .s
  | [], [], c, [], [], _, _, _ => ⟨rfl, rfl⟩
  | [], [], c, v :: vs, _, _, h, _ => by have := h.1; simp at this
  | [], [], c, [], w :: ws, _, _, h => by have := h.1; simp at this
  | p :: r, [], c, _, _, h, _, _ => by cases p <;> simp [eqCs] at h
  | [], q :: r, c, _, _, h, _, _ => by simp [eqCs] at h
  | p :: r, q :: r', c, [], _, _, h, _ => by have := h.1; simp at this
  | p :: r, q :: r', c, v :: vs, [], _, _, h => by have := h.1; simp at this
  | p :: r, q :: r', c, v :: vs, w :: ws, h, h1, h2 => by
    cases p with
    | s a => cases q with
      | s b =>
        simp only [eqCs] at h
        split at h
        · rename_i x y e1 e2
          have i1 := h1.tail
          have i2 := h2.tail
          obtain ⟨g1, g2⟩ := eqCs_vals e2 i1.2 i2.2
          have j1 : a = v := i1.1.1
          have j2 : b = w := i2.1.1
          subst j1; subst j2
          exact ⟨by rw [g1]; rfl, by rw [g2]; rfl⟩
        · cases h
      | _ => simp [eqCs] at h
    | _ => simp [eqCs] at h
theorem eqGuard_one (op : BinOp) (t : TypeId) (x y : Operand) (v w : Value) (h : ∀ a b, ¬ (v = .nilIface ∧ w = .nilIface) ∧ ¬ (v = .agg a ∧ w = .agg b)) : (eqGuard op t x y v w).run P W = .ok () W := by
  unfold eqGuard
  cases op <;> first
    | rfl
    | (simp only [Bool.not_true, Bool.false_eq_true, if_false]
       split
       · exact absurd ⟨rfl, rfl⟩ (h #[] #[]).1
       · rename_i a b; exact absurd ⟨rfl, rfl⟩ (h a b).2
       · rfl)
theorem binS_not {op : BinOp} {v w r : Value} (h : binS op v w = some r) : ∀ a b, ¬ (v = .nilIface ∧ w = .nilIface) ∧ ¬ (v = .agg a ∧ w = .agg b) := by
  intro a b
  refine ⟨fun e => ?_, fun e => ?_⟩ <;> (rw [e.1, e.2] at h; simp [binS] at h)
theorem ptr_not (ad : Addr) : ∀ b c, ¬ (Value.pointer (some ad) = .nilIface ∧ Value.pointer none = .nilIface) ∧ ¬ (Value.pointer (some ad) = .agg b ∧ Value.pointer none = .agg c) := fun b c => ⟨fun e => by simp at e, fun e => by simp at e⟩
theorem sound_ptr_nil (hR : Rel W0 O0 S0 S φ st a W) (hd : Bd S0 a o) {op : BinOp} {t u : Nat} {y z : Operand} (ho : o.op = .binOp op t y z u) {ad : Addr} (g1 : a.eval y = .pointer (some ad)) (g2 : a.eval z = .pointer none) (ht : ptT P t = true) {v : PV}
    (h : nilCmp op = some v) (hK : Goes W0 O0 S0 a.tmps.size (st.put o.dst v []) K) : o.wp P a W K Q := by
  obtain ⟨e, he⟩ := ptT_inv ht
  unfold nilCmp at h
  split at h
  · cases h
    refine plain hR hd (x := .bool false) (p := .s (.bool false)) ?_ ⟨rfl, rfl⟩ hK
    simp only [execOp, ho, g1, g2, Sem.run_bind, eqGuard_one .eql t y z _ _ (ptr_not ad), binOp, Op.equal, show Op.maxDepth = 9999 + 1 from rfl, run_equalIn_nilptr _ t _ he, Result.andThen_ok, Sem.run_pure]
    rfl
  · cases h
    refine plain hR hd (x := .bool true) (p := .s (.bool true)) ?_ ⟨rfl, rfl⟩ hK
    simp only [execOp, ho, g1, g2, Sem.run_bind, eqGuard_one .neq t y z _ _ (ptr_not ad), binOp, Op.equal, show Op.maxDepth = 9999 + 1 from rfl, run_equalIn_nilptr _ t _ he, Result.andThen_ok, Sem.run_pure]
    rfl
  · cases h
theorem sound_binOp {eqT : Nat → Bool} (hE : EqFact P eqT) (hR : Rel W0 O0 S0 S φ st a W) (hd : Bd S0 a o) {op : BinOp} {t u : Nat} {y z : Operand} (ho : o.op = .binOp op t y z u) {v : PV} (h : binP P eqT op t (st.ev y) (st.ev z) = some v) (hK : Goes W0 O0 S0 a.tmps.size (st.put o.dst v []) K) : o.wp P a W K Q := by
  have hy := hR.ev y
  have hz := hR.ev z
  unfold binP at h
  split at h
  · rename_i v1 v2 e1 e2
    rw [e1] at hy
    rw [e2] at hz
    split at h
    · rename_i ht
      cases hb : binS op v1 v2 with
      | none => simp [hb] at h
      | some r =>
        simp only [hb, Option.map_some, Option.some.injEq] at h
        subst h
        have g1 := (s_inv hy).1
        have g2 := (s_inv hz).1
        have g3 := binS_run (P := P) (W := W) ht hb
        refine plain hR hd (x := r) (p := .s r) ?_ ⟨rfl, g3.2⟩ hK
        simp only [execOp, ho, g1, g2, Sem.run_bind, eqGuard_one op t y z v1 v2 (binS_not hb), Result.andThen_ok, g3.1, Sem.run_pure]
    · cases h
  · rename_i xs ys e1 e2
    rw [e1] at hy
    rw [e2] at hz
    split at h
    · rename_i ht3
      obtain ⟨ht, l1⟩ := ht3
      obtain ⟨hg, hq⟩ := hE t ht
      obtain ⟨vs, g1, r1⟩ := hy
      obtain ⟨ws, g2, r2⟩ := hz
      split at h
      · rename_i c hc
        cases h
        obtain ⟨rfl, rfl⟩ := eqCs_vals hc r1 r2
        refine plain hR hd (x := .bool c) (p := .s (.bool c)) ?_ ⟨rfl, rfl⟩ hK
        simp only [execOp, ho, g1, g2, Sem.run_bind, run_eqGuard_agg W .eql t y z _ _ hg, Result.andThen_ok, run_eql_struct, hq _ _ _ W l1 hc, Sem.run_pure]
      · rename_i c hc
        cases h
        obtain ⟨rfl, rfl⟩ := eqCs_vals hc r1 r2
        refine plain hR hd (x := .bool (!c)) (p := .s (.bool (!c))) ?_ ⟨rfl, rfl⟩ hK
        simp only [execOp, ho, g1, g2, Sem.run_bind, run_eqGuard_agg W .neq t y z _ _ hg, Result.andThen_ok, run_neq_struct, hq _ _ _ W l1 hc, Sem.run_pure]
      · cases h
    · cases h
  · rename_i b ver i j e1 e2
    rw [e1] at hy
    rw [e2] at hz
    have g2 := (s_inv hz).1
    split at h
    · rename_i ht
      obtain ⟨⟨ad, g1⟩, _⟩ := hy
      exact sound_ptr_nil hR hd ho g1 g2 ht h hK
    · cases h
  · rename_i ln cs e1 e2
    rw [e1] at hy
    rw [e2] at hz
    have g2 := (s_inv hz).1
    split at h
    · rename_i ht
      obtain ⟨ad, x, g1, _⟩ := hy
      exact sound_ptr_nil hR hd ho g1 g2 ht h hK
    · cases h
  · cases h
theorem unS_run {op : UnOp} {v r : Value} (h : unS op v = some r) : (Op.unary op v).run P W = .ok r W ∧ r.oneCell' = true := by
  unfold unS at h
  split at h <;> first
    | (cases h; refine ⟨?_, rfl⟩; simp [Op.unary, Op.intArith, Op.intBits]; done)
    | (cases h)
theorem sound_unOp (hR : Rel W0 O0 S0 S φ st a W) (hd : Bd S0 a o) {op : UnOp} {t : Nat} {y : Operand} (ho : o.op = .unOp op t y) {v1 r : Value} (e1 : st.ev y = .s v1) (h : unS op v1 = some r) (hK : Goes W0 O0 S0 a.tmps.size (st.put o.dst (.s r) []) K) : o.wp P a W K Q := by
  have hy := hR.ev y
  rw [e1] at hy
  have g3 := unS_run (P := P) (W := W) h
  refine plain hR hd (x := r) (p := .s r) ?_ ⟨rfl, g3.2⟩ hK
  simp only [execOp, ho, (s_inv hy).1, Sem.run_bind, g3.1, Result.andThen_ok, Sem.run_pure]
theorem sound_convert_int (hR : Rel W0 O0 S0 S φ st a W) (hd : Bd S0 a o) {src dst : Nat} {y : Operand} (ho : o.op = .convert src dst y) {k k' : IntKind} {n : Int} (e1 : st.ev y = .s (.int k n)) {k0 : IntKind} (hs : inT P src = some k0) (ht : inT P dst = some k') (hK : Goes W0 O0 S0 a.tmps.size (st.put o.dst (.s (.int k' (k'.wrap n))) []) K) : o.wp P a W K Q := by
  have hy := hR.ev y
  rw [e1] at hy
  refine plain hR hd (x := .int k' (k'.wrap n)) (p := .s (.int k' (k'.wrap n))) ?_ ⟨rfl, rfl⟩ hK
  simp only [execOp, ho, int_inv hy, convert, Sem.run_bind, run_underlying (inT_inv hs), run_underlying (inT_inv ht), Conv.intToInt, Result.andThen_ok, Sem.run_pure]
theorem sound_convert_str (hR : Rel W0 O0 S0 S φ st a W) (hd : Bd S0 a o) {src dst : Nat} {y : Operand} (ho : o.op = .convert src dst y) {s : ByteArray} (e1 : st.ev y = .s (.string s)) (hs : stT P src = true) (ht : stT P dst = true) (hK : Goes W0 O0 S0 a.tmps.size (st.put o.dst (.s (.string s)) []) K) : o.wp P a W K Q := by
  have hy := hR.ev y
  rw [e1] at hy
  refine plain hR hd (x := .string s) (p := .s (.string s)) ?_ ⟨rfl, rfl⟩ hK
  simp only [execOp, ho, str_inv hy, convert, Sem.run_bind, run_underlying (stT_inv hs), run_underlying (stT_inv ht), Result.andThen_ok, Sem.run_pure]

/-! Addresses. -/
theorem szOf_run {t n : Nat} (h : szOf P t = n) (hn : 0 < n) : (sizeOf t).run P W = .ok n W := by
  obtain ⟨i, hi, hs⟩ := info_of (P := P) t n h hn
  rw [sizeOf_run hi, hs]
theorem fieldAddr_run {t f off e : Nat} (h : fieldT P t f = some (off, e)) (he : ¬ szOf P e = 0) (ad : Addr) : (Instr.fieldAt t (.pointer (some ad)) f).run P W = .ok (.pointer (some (ad.add off))) W := by
  obtain ⟨fs, fd, h1, h2, h3, h4⟩ := fieldT_inv h
  subst h4
  have := szOf_run (P := P) (W := W) (t := fd.type) rfl (Nat.pos_of_ne_zero he)
  simp only [Instr.fieldAt, Sem.run_bind, run_underlying h1, h2, Result.andThen_ok, Instr.sureAddr, Sem.run_pure, fieldPlace, this, if_neg he, h3]
theorem sa_drop {ln : Bool} {cs : List PV} {v : Value} {H : Heap} (h : SaR W S ln cs v) (n : Nat) : ∃ ad, v = .pointer (some ad) ∧ SaR W S ln (cs.drop n) (.pointer (some (ad.add n))) := by
  obtain ⟨ad, x, hv, hs, hc⟩ := h
  refine ⟨ad, hv, ad.add n, fun j => x (n + j), rfl, fun hne => by rw [add_blk]; exact hs (fun e => hne (by simp [e])), fun j p hj => ?_⟩
  rw [List.getElem?_drop] at hj
  rw [add_add]
  exact hc _ _ hj
theorem sound_fieldAddr (hR : Rel W0 O0 S0 S φ st a W) (hd : Bd S0 a o) {t f : Nat} {y : Operand} (ho : o.op = .fieldAddr t y f) {off e : Nat} (h : fieldT P t f = some (off, e)) (he : ¬ szOf P e = 0) {v : PV}
    (hv : (match st.ev y with | .ad b ver i j => some (.ad b ver i (j + off)) | .sa ln cs => some (.sa ln (cs.drop off)) | _ => none) = some v) (hK : Goes W0 O0 S0 a.tmps.size (st.put o.dst v []) K) : o.wp P a W K Q := by
  have hy := hR.ev y
  split at hv
  · rename_i b ver i j e1
    rw [e1] at hy
    cases hv
    obtain ⟨⟨ad, hp⟩, blk, g1, g2, g3⟩ := hy
    refine plain hR hd (x := .pointer (some (ad.add off))) (p := .ad b ver i (j + off)) ?_ ⟨⟨_, rfl⟩, blk, g1, g2, fun e => ?_⟩ hK
    · simp only [execOp, ho, hp, Sem.run_bind, fieldAddr_run h he, Result.andThen_ok, Sem.run_pure]
    · have := g3 e
      cases blk with
      | dead v => trivial
      | mp v ks => obtain ⟨g, _, hq⟩ := this; rw [hp] at hq; cases hq
      | row v T sz box rows =>
        obtain ⟨g, hg, hq⟩ := this
        refine ⟨g, hg, ?_⟩
        rw [hp] at hq
        cases hq
        rw [add_lit, Nat.add_assoc]
  · rename_i ln cs e1
    rw [e1] at hy
    cases hv
    obtain ⟨ad, hp, hs⟩ := sa_drop (H := st.hp) hy off
    refine plain hR hd (x := .pointer (some (ad.add off))) (p := .sa ln (cs.drop off)) ?_ hs hK
    simp only [execOp, ho, hp, Sem.run_bind, fieldAddr_run h he, Result.andThen_ok, Sem.run_pure]
  · cases hv
theorem idxV_inv {p : PV} {i : Int} (h : idxV p = some i) : ∃ k, p = .s (.int k i) := by
  unfold idxV at h
  split at h
  · cases h; exact ⟨_, rfl⟩
  · cases h
theorem indexAt_slice_run {t e n : Nat} {k : IntKind} {i : Int} {ad : Addr} {len cap : Nat} (ht : slT P t = some e) (hn : szOf P e = n) (h0 : 0 < n) (h1 : 0 ≤ i) (h2 : i < (len : Int)) :
    (Instr.indexAt t (.slice (some ad) len cap) (.int k i)).run P W = .ok (.pointer (some (ad.add (i.toNat * n)))) W := by
  simp only [Instr.indexAt, asIntOf, Sem.run_bind, Sem.run_pure, run_underlying (slT_inv ht), Result.andThen_ok, if_pos (And.intro h1 h2), szOf_run hn h0]
theorem indexAt_array_run {t e n l : Nat} {k : IntKind} {i : Int} {ad : Addr} (ht : arT P t = some (l, e)) (hn : szOf P e = n) (h0 : 0 < n) (h1 : 0 ≤ i) (h2 : i < (l : Int)) :
    (Instr.indexAt t (.pointer (some ad)) (.int k i)).run P W = .ok (.pointer (some (ad.add (i.toNat * n)))) W := by
  simp only [Instr.indexAt, asIntOf, Sem.run_bind, Sem.run_pure, run_underlying (arT_inv ht), Result.andThen_ok, if_pos (And.intro h1 h2), szOf_run hn h0, Instr.sureAddr]
theorem ad_add {H : Heap} {b ver i j : Nat} {v : Value} (h : RelC W S φ H (.ad b ver i j) v) (n : Nat) : ∃ ad, v = .pointer (some ad) ∧ RelC W S φ H (.ad b ver i (j + n)) (.pointer (some (ad.add n))) := by
  obtain ⟨⟨ad, hp⟩, blk, g1, g2, g3⟩ := h
  refine ⟨ad, hp, ⟨_, rfl⟩, blk, g1, g2, fun e => ?_⟩
  have := g3 e
  cases blk with
  | dead v => trivial
  | mp v ks => obtain ⟨g, _, hq⟩ := this; rw [hp] at hq; cases hq
  | row v T sz box rows =>
    obtain ⟨g, hg, hq⟩ := this
    refine ⟨g, hg, ?_⟩
    rw [hp] at hq
    cases hq
    rw [add_lit, Nat.add_assoc]
/-- The cells of a row that is read. -/
theorem sh_row {ln : Bool} {rows : List (List PV)} {v : Value} (h : Sh W S (.sh ln rows) v) {n : Nat} (hn : ∀ r ∈ rows, r.length = n) {i : Nat} (hi : i < rows.length) :
    ∃ ad len cap, v = .slice (some ad) len cap ∧ len = rows.length ∧ S ln ad.block ∧ SaR W S ln (rowAt rows i) (.pointer (some (ad.add (i * n)))) := by
  cases h with
  | sl x h1 h2 h3 h4 h5 h6 =>
    rename_i A c sz
    have hne : rows ≠ [] := by rintro rfl; simp at hi
    obtain ⟨ad, rfl, hs, hc⟩ := h5 hne
    have hri : rows[i]? = some (rowAt rows i) := by simp [rowAt, List.getD_eq_getElem?_getD, List.getElem?_eq_getElem hi]
    have hmem : rowAt rows i ∈ rows := List.mem_of_getElem? hri
    have hsz : sz = n := (h3 _ hmem).symm.trans (hn _ hmem)
    subst hsz
    exact ⟨ad, _, c, rfl, rfl, hs, ad.add (i * sz), x i, rfl, fun _ => by rw [add_blk]; exact hs, fun j p hj => ⟨by rw [add_add]; exact hc i _ j p hri hj, h6 i _ j p hri hj⟩⟩
theorem sound_indexAddr (hR : Rel W0 O0 S0 S φ st a W) (hd : Bd S0 a o) {t : Nat} {y z : Operand} (ho : o.op = .indexAddr t y z) {v : PV} (h : (idxEff P t (st.ev y) (st.ev z)).val st.hp = some v) (hK : Goes W0 O0 S0 a.tmps.size (st.put o.dst v []) K) : o.wp P a W K Q := by
  have hy := hR.ev y
  have hz := hR.ev z
  unfold idxEff at h
  split at h
  · simp [Rd.val] at h
  · rename_i i hi
    obtain ⟨k, e0⟩ := idxV_inv hi
    rw [e0] at hz
    have hz' := int_inv hz
    split at h
    · rename_i _ b ver off len e e1 ht
      rw [e1] at hy
      obtain ⟨T, sz, box, rows, hb, h⟩ := getRow_inv h
      split at h
      · rename_i hc
        obtain ⟨c0, rfl, rfl, c1, c2, c3⟩ := hc
        simp only [Rd.val, Option.some.injEq] at h
        subst h
        have hh := sl_inv (S := S) hy hb
        simp only [Hdr] at hh
        cases hg : φ b with
        | none =>
          simp only [hg] at hh
          omega
        | some g =>
          simp only [hg] at hh
          obtain ⟨A, cap, cs, g1, g2, g3, g4, g5, g6, g7, g8⟩ := hh
          have hcap : A = some ⟨g, off * szOf P e, none⟩ := by
            rcases g2 with g2 | g2
            · omega
            · exact g2
          subst hcap
          refine plain hR hd (x := .pointer (some (Addr.add ⟨g, off * szOf P e, none⟩ (i.toNat * szOf P e)))) (p := .ad b ver (off + i.toNat) 0) ?_ ⟨⟨_, rfl⟩, _, hb, Nat.le_refl _, fun _ => ⟨g, hg, ?_⟩⟩ hK
          · simp only [execOp, ho, g1, hz', Sem.run_bind, indexAt_slice_run ht rfl (okT_inv c0).2 c1 c2, Result.andThen_ok, Sem.run_pure]
          · rw [add_lit, Nat.add_mul, Nat.add_zero]
      · simp [Rd.val] at h
    · rename_i _ ln rows e e1 ht
      rw [e1] at hy
      split at h
      · rename_i hc
        obtain ⟨c0, c1, c2, c3⟩ := hc
        simp only [Rd.val, Option.some.injEq] at h
        subst h
        obtain ⟨ad, len, cap, g1, g2, _, g3⟩ := sh_row hy c3 (i := i.toNat) (by omega)
        refine plain hR hd (x := .pointer (some (ad.add (i.toNat * szOf P e)))) (p := .sa ln (rowAt rows i.toNat)) ?_ g3 hK
        subst g2
        simp only [execOp, ho, g1, hz', Sem.run_bind, indexAt_slice_run ht rfl (okT_inv c0).2 c1 c2, Result.andThen_ok, Sem.run_pure]
      · simp [Rd.val] at h
    · rename_i b ver r j n e e1 _ ht
      rw [e1] at hy
      split at h
      · rename_i hc
        obtain ⟨c0, c1, c2⟩ := hc
        simp only [Rd.val, Option.some.injEq] at h
        subst h
        obtain ⟨ad, g1, g3⟩ := ad_add (W := W) (S := S) hy (i.toNat * szOf P e)
        refine plain hR hd (x := .pointer (some (ad.add (i.toNat * szOf P e)))) (p := .ad b ver r (j + i.toNat * szOf P e)) ?_ g3 hK
        simp only [execOp, ho, g1, hz', Sem.run_bind, indexAt_array_run ht rfl (okT_inv c0).2 c1 c2, Result.andThen_ok, Sem.run_pure]
      · simp [Rd.val] at h
    · rename_i ln cs n e e1 _ ht
      rw [e1] at hy
      split at h
      · rename_i hc
        obtain ⟨c0, c1, c2⟩ := hc
        simp only [Rd.val, Option.some.injEq] at h
        subst h
        obtain ⟨ad, g1, g3⟩ := sa_drop (H := st.hp) hy (i.toNat * szOf P e)
        refine plain hR hd (x := .pointer (some (ad.add (i.toNat * szOf P e)))) (p := .sa ln (cs.drop (i.toNat * szOf P e))) ?_ g3 hK
        simp only [execOp, ho, g1, hz', Sem.run_bind, indexAt_array_run ht rfl (okT_inv c0).2 c1 c2, Result.andThen_ok, Sem.run_pure]
      · simp [Rd.val] at h
    · simp [Rd.val] at h
theorem sound_index (hR : Rel W0 O0 S0 S φ st a W) (hd : Bd S0 a o) {t : Nat} {y z : Operand} (ho : o.op = .index t y z) {s : ByteArray} {i : Int} (e1 : st.ev y = .s (.string s)) (e2 : idxV (st.ev z) = some i) (ht : stT P t = true) (h1 : 0 ≤ i ∧ i < (s.size : Int))
    (hK : Goes W0 O0 S0 a.tmps.size (st.put o.dst (.s (.int .u8 ((s.data.getD i.toNat 0).toNat : Int))) []) K) : o.wp P a W K Q := by
  have hy := hR.ev y
  rw [e1] at hy
  have hz := hR.ev z
  obtain ⟨k, e0⟩ := idxV_inv e2
  rw [e0] at hz
  have hlt : i.toNat < s.size := by omega
  refine plain hR hd (x := .int .u8 ((s.data.getD i.toNat 0).toNat : Int)) (p := .s (.int .u8 ((s.data.getD i.toNat 0).toNat : Int))) ?_ ⟨rfl, rfl⟩ hK
  have hg : s[i.toNat]? = some (s.data.getD i.toNat 0) := by
    rw [getElem?_pos s i.toNat hlt]
    have hlt' : i.toNat < s.data.size := hlt
    rw [Array.getD_eq_getD_getElem?, Array.getElem?_eq_getElem hlt']
    rfl
  simp only [execOp, ho, str_inv hy, int_inv hz, Instr.index, asIntOf, Sem.run_bind, Sem.run_pure, run_underlying (stT_inv ht), Result.andThen_ok, if_pos h1.1, hg]
theorem sound_extract (hR : Rel W0 O0 S0 S φ st a W) (hd : Bd S0 a o) {y : Operand} {i : Nat} (ho : o.op = .extract y i) {vs : List PV} {v : PV} (e1 : st.ev y = .tu vs) (h : vs[i]? = some v) (hK : Goes W0 O0 S0 a.tmps.size (st.put o.dst v []) K) : o.wp P a W K Q := by
  have hy := hR.ev y
  rw [e1] at hy
  obtain ⟨xs, g1, g2, g3⟩ := hy
  have hlt : i < xs.length := by rw [g2]; exact (List.getElem?_eq_some_iff.1 h).1
  have hx : xs[i]? = some xs[i] := List.getElem?_eq_getElem hlt
  refine plain hR hd (x := xs[i]) (p := v) ?_ (RelV_of_RelA (g3 i v _ h hx)) hK
  simp only [execOp, ho, g1, Instr.extract, List.getElem?_toArray, hx, Sem.run_bind, Sem.run_pure, Result.andThen_ok]
end
end Go.Pi
