/- Equality of flat structs of any number of fields. Own work. -/
import Derived.Test.YtpjdoblfdeioaaaQcode
import Derived.Test.YtpjdoblfdeioaaaRdata
import Derived.ChangeKeysEq
set_option linter.unusedVariables false
set_option linter.unusedSimpArgs false
namespace Go.Pi
open Go
theorem beq_tl (a b : ByteArray) : (a.toList == b.toList) = decide (a = b) := by
  by_cases h : a = b
  · subst h; simp
  · have h2 : a.toList ≠ b.toList := by
      rw [ByteArray.toList_eq, ByteArray.toList_eq]
      obtain ⟨⟨x⟩⟩ := a
      obtain ⟨⟨y⟩⟩ := b
      intro e
      exact h (by simpa using e)
    simp [h, h2]
structure Fq (P : Program) (d : Nat) (f : Field) (zv : PV) (j : Nat) : Prop where
  nm : f.name ≠ "_"
  off : f.offset = j
  pk : P.plainKey f.type = true
  eq : ∀ a b c W, alikeS zv (.s a) = true → eqS a b = some c → (Op.equalIn d f.type a b).run P W = .ok c W
theorem Fq.int {P : Program} {d : Nat} {f : Field} {k : IntKind} {n : Int} {j : Nat} (h1 : f.name ≠ "_") (h2 : f.offset = j) (h3 : P.plainKey f.type = true) (hk : P.underlying f.type = some (.int k)) : Fq P (d + 1) f (.s (.int k n)) j :=
  ⟨h1, h2, h3, fun a b c W l e => by
    cases a <;> simp only [alikeS] at l <;> try cases l
    cases b <;> simp only [eqS] at e <;> try cases e
    split at e <;> cases e
    rename_i e2
    subst e2
    rw [run_equalIn_int W d _ _ _ _ _ hk]
    congr 1⟩
theorem Fq.str {P : Program} {d : Nat} {f : Field} {s : ByteArray} {j : Nat} (h1 : f.name ≠ "_") (h2 : f.offset = j) (h3 : P.plainKey f.type = true) (hk : P.underlying f.type = some .string) : Fq P (d + 1) f (.s (.string s)) j :=
  ⟨h1, h2, h3, fun a b c W l e => by
    cases a <;> simp only [alikeS] at l <;> try cases l
    cases b <;> simp only [eqS] at e <;> try cases e
    rw [run_equalIn_string W d _ _ _ hk, beq_tl]⟩
theorem eqFields_flat {P : Program} (d : Nat) (xs ys : Array Value) (W : World) : ∀ (fs : List Field) (zs : List PV) (k : Nat) (vs ws : List Value) (c : Bool),
    (∀ i f zv, fs[i]? = some f → zs[i]? = some zv → Fq P d f zv (k + i)) → (∀ i v, vs[i]? = some v → xs[k + i]? = some v) → (∀ i v, ws[i]? = some v → ys[k + i]? = some v) →
    fs.length = zs.length → alikeL zs (vs.map .s) = true → eqCs (vs.map .s) (ws.map .s) = some c → (Op.eqFields d xs ys fs).run P W = .ok c W
  | [], [], k, vs, ws, c, _, _, _, _, hl, he => by
    cases vs with
    | cons v vs => simp [alikeL] at hl
    | nil =>
      cases ws with
      | cons v vs => simp [eqCs] at he
      | nil =>
        simp only [List.map_nil, eqCs, Option.some.injEq] at he
        subst he
        simp [Op.eqFields]
  | [], _ :: _, _, _, _, _, _, _, _, h, _, _ => by simp at h
  | _ :: _, [], _, _, _, _, _, _, _, h, _, _ => by simp at h
  | f :: fs, zv :: zs, k, vs, ws, c, hF, hx, hy, hlen, hl, he => by
    cases vs with
    | nil => simp [alikeL] at hl
    | cons v vs =>
    cases ws with
    | nil => simp [eqCs] at he
    | cons u us =>
    simp only [List.map_cons, alikeL] at hl
    split at hl
    · rename_i hz
      simp only [List.map_cons, eqCs] at he
      cases h1 : eqS v u with
      | none => simp [h1] at he
      | some a =>
        cases h2 : eqCs (vs.map .s) (us.map .s) with
        | none => simp [h1, h2] at he
        | some b =>
          simp only [h1, h2, Option.some.injEq] at he
          subst he
          have F := hF 0 f zv rfl rfl
          have h3 := F.eq v u a W hz h1
          have o := F.off
          have px : (part f.type xs f.offset).run P W = .ok v W := by rw [o]; exact run_part_plain W F.pk (hx 0 v rfl)
          have py : (part f.type ys f.offset).run P W = .ok u W := by rw [o]; exact run_part_plain W F.pk (hy 0 u rfl)
          have rec_ := eqFields_flat d xs ys W fs zs (k + 1) vs us b (fun i f' z' hf' hz' => by
              have := hF (i + 1) f' z' (by simpa using hf') (by simpa using hz')
              rwa [show k + (i + 1) = k + 1 + i by omega] at this)
            (fun i v' hv' => by have := hx (i + 1) v' (by simpa using hv'); rwa [show k + (i + 1) = k + 1 + i by omega] at this)
            (fun i v' hv' => by have := hy (i + 1) v' (by simpa using hv'); rwa [show k + (i + 1) = k + 1 + i by omega] at this)
            (by simpa using hlen) hl h2
          simp only [Op.eqFields, ne_eq, F.nm, not_false_eq_true, if_true, Sem.run_bind, px, py, h3, Result.andThen_ok]
          cases a
          · simp
          · simpa using rec_
    · cases hl
theorem eqT_flat {P : Program} {t : Nat} {fs : List Field} {zs : List PV} (hf : (P.fieldsOf t).toList = fs) (ht : P.underlying t = some (.struct (P.fieldsOf t))) (hp : P.stoodInHeld t = false) (hz : zc P t = some zs) (hlen : fs.length = zs.length)
    (hF : ∀ i f zv, fs[i]? = some f → zs[i]? = some zv → Fq P 9999 f zv i) (vs ws : List Value) (c : Bool) (W : World) (l : alike (zc P t) (vs.map .s) = true) (h : eqCs (vs.map .s) (ws.map .s) = some c) :
    (Op.equalIn 10000 t (.agg vs.toArray) (.agg ws.toArray)).run P W = .ok c W := by
  rw [hz] at l
  rw [show (10000 : Nat) = 9999 + 1 from rfl, run_equalIn_agg W 9999 t _ _ ht hp, hf]
  exact eqFields_flat 9999 _ _ W fs zs 0 vs ws c (fun i f zv h1 h2 => by rw [Nat.zero_add]; exact hF i f zv h1 h2) (fun i v hv => by rw [Nat.zero_add]; simpa using hv) (fun i v hv => by rw [Nat.zero_add]; simpa using hv) hlen l h
end Go.Pi
namespace Go.Proofs.Ytpjdoblfdeioaaa
open Go Go.Pi
theorem eqFact : EqFact cx.P cx.eqT := by
  intro t h
  have h2 : t = 34 := by
    simp only [cxeq, eqT] at h
    split at h
    · rfl
    · cases h
  subst h2
  refine ⟨by kernel_rfl, eqT_flat (P := Try.prog) (zs := [.s (.string ⟨#[]⟩), .s (.string ⟨#[]⟩), .s (.int .i64 0), .s (.int .i64 0)]) rfl (by kernel_rfl) (by kernel_rfl) (by kernel_rfl) (by kernel_rfl) ?_⟩
  have e : (Try.prog.fieldsOf 34).toList.length = 4 := by kernel_rfl
  intro i f zv hf hz
  have hi : i < 4 := by
    obtain ⟨h, _⟩ := List.getElem?_eq_some_iff.1 hf
    omega
  have hg : f = ((Try.prog.fieldsOf 34).toList[i]?).get! := by rw [hf]; rfl
  subst hg
  match i, hi with
  | 0, _ => cases hz; exact Fq.str (by decide +kernel) (by kernel_rfl) (by kernel_rfl) (by kernel_rfl)
  | 1, _ => cases hz; exact Fq.str (by decide +kernel) (by kernel_rfl) (by kernel_rfl) (by kernel_rfl)
  | 2, _ => cases hz; exact Fq.int (by decide +kernel) (by kernel_rfl) (by kernel_rfl) (by kernel_rfl)
  | 3, _ => cases hz; exact Fq.int (by decide +kernel) (by kernel_rfl) (by kernel_rfl) (by kernel_rfl)
  | n + 4, h => exact absurd h (by omega)
end Go.Proofs.Ytpjdoblfdeioaaa
