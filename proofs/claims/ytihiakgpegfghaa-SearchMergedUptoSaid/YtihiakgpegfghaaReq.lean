import Derived.Test.YtihiakgpegfghaaQcode
import Derived.Test.YtihiakgpegfghaaRdata
import Derived.ChangeKeysEq
set_option linter.unusedVariables false
set_option linter.unusedSimpArgs false
namespace Go.Pi
open Go
theorem beq_tl (a b : ByteArray) : (a.toList == b.toList) = decide (a = b) := by
  by_cases h : a = b
  · subst h; simp
  · have h2 : a.toList ≠ b.toList := by
      rw [ByteArray.toList_eq, ByteArray.toList_eq]
      obtain ⟨⟨x⟩⟩ := a
      obtain ⟨⟨y⟩⟩ := b
      intro e
      exact h (by simpa using e)
    simp [h, h2]
theorem eqS_int {P : Program} {e : Nat} {k0 k k' : IntKind} {n m : Int} {c : Bool} (W : World) (d : Nat) (hk : P.underlying e = some (.int k0)) (h : eqS (.int k n) (.int k' m) = some c) : (Op.equalIn (d + 1) e (.int k n) (.int k' m)).run P W = .ok c W := by
  simp only [eqS] at h
  split at h <;> cases h
  rename_i e
  subst e
  rw [run_equalIn_int W d e _ _ _ _ hk]
  congr 1
theorem eqS_str {P : Program} {e : Nat} {s r : ByteArray} {c : Bool} (W : World) (d : Nat) (hk : P.underlying e = some .string) (h : eqS (.string s) (.string r) = some c) : (Op.equalIn (d + 1) e (.string s) (.string r)).run P W = .ok c W := by
  simp only [eqS] at h
  cases h
  rw [run_equalIn_string W d e _ _ hk, beq_tl]
theorem eqT_two {P : Program} {t : Nat} {f g : Field} (hf : P.fieldsOf t = #[f, g]) (ht : P.underlying t = some (.struct (P.fieldsOf t))) (hp : P.stoodInHeld t = false) (hn : f.name ≠ "_" ∧ g.name ≠ "_")
    (ho : f.offset = 0 ∧ g.offset = 1) (hk : P.plainKey f.type = true ∧ P.plainKey g.type = true) {q1 q2 : PV} (hz : zc P t = some [q1, q2])
    (hc : ∀ a b c W, alikeS q1 (.s a) = true → eqS a b = some c → (Op.equalIn 9999 f.type a b).run P W = .ok c W) (hc' : ∀ a b c W, alikeS q2 (.s a) = true → eqS a b = some c → (Op.equalIn 9999 g.type a b).run P W = .ok c W)
    (vs ws : List Value) (c : Bool) (W : World) (l : alike (zc P t) (vs.map .s) = true) (h : eqCs (vs.map .s) (ws.map .s) = some c) :
    (Op.equalIn 10000 t (.agg vs.toArray) (.agg ws.toArray)).run P W = .ok c W := by
  rw [hz] at l
  rcases vs with _ | ⟨a, _ | ⟨a', _ | ⟨a3, vs⟩⟩⟩
  · simp [alike, alikeL] at l
  · simp only [List.map, alike, alikeL] at l; split at l <;> cases l
  rotate_left
  · simp only [List.map, alike, alikeL] at l; split at l <;> try cases l
    split at l <;> cases l
  simp only [List.map, alike, alikeL, Bool.if_true_left] at l
  have l1 : alikeS q1 (.s a) = true := by by_cases q : alikeS q1 (.s a) = true; exact q; simp [q] at l
  have l2 : alikeS q2 (.s a') = true := by by_cases q : alikeS q2 (.s a') = true; exact q; simp [q, l1] at l
  rcases ws with _ | ⟨b, _ | ⟨b', _ | ⟨b3, ws⟩⟩⟩
  · simp [eqCs] at h
  · simp only [List.map, eqCs] at h; split at h <;> simp_all
  rotate_left
  · simp only [List.map, eqCs] at h; split at h <;> simp_all
  simp only [List.map, eqCs] at h
  cases h1 : eqS a b with
  | none => simp [h1] at h
  | some x =>
    cases h2 : eqS a' b' with
    | none => simp [h1, h2] at h
    | some y =>
      simp only [h1, h2, Bool.and_true, Option.some.injEq] at h
      subst h
      rw [show (10000 : Nat) = 9999 + 1 from rfl, run_equalIn_agg W 9999 t _ _ ht hp, hf]
      simp only [Op.eqFields, ne_eq, hn.1, hn.2, not_false_eq_true, if_true, Sem.run_bind, ho.1, ho.2, run_part_plain W hk.1 (show #[a, a'][0]? = some a from rfl), run_part_plain W hk.1 (show #[b, b'][0]? = some b from rfl), run_part_plain W hk.2 (show #[a, a'][1]? = some a' from rfl), run_part_plain W hk.2 (show #[b, b'][1]? = some b' from rfl), Result.andThen_ok, hc a b x W l1 h1, hc' a' b' y W l2 h2, Sem.run_pure]
      cases x
      · simp
      · simp only [Bool.not_true, Bool.false_eq_true, if_false, Sem.run_bind, Sem.run_ite, run_part_plain W hk.2 (show #[a, a'][1]? = some a' from rfl), run_part_plain W hk.2 (show #[b, b'][1]? = some b' from rfl), Result.andThen_ok, hc' a' b' y W l2 h2, Sem.run_pure]
        cases y <;> simp
end Go.Pi
namespace Go.Proofs.Ytihiakgpegfghaa
open Go Go.Pi
theorem eqFact : EqFact cx.P cx.eqT := by
  intro t h
  have h2 : t = 27 ∨ t = 54 := by
    simp only [cxeq, eqT] at h
    split at h
    · exact .inl rfl
    · exact .inr rfl
    · cases h
  rcases h2 with rfl | rfl
  · refine ⟨by kernel_rfl, eqT_two (P := Try.prog) (f := ((Try.prog.fieldsOf 27)[0]?).get!) (g := ((Try.prog.fieldsOf 27)[1]?).get!) (by kernel_rfl) (by kernel_rfl) (by kernel_rfl) (by decide +kernel) ⟨by kernel_rfl, by kernel_rfl⟩ ⟨by kernel_rfl, by kernel_rfl⟩ (q1 := .s (.int .u64 0)) (q2 := .s (.int .u64 0)) (by kernel_rfl) ?_ ?_⟩
    · intro a b c W l e
      cases a <;> simp only [alikeS] at l <;> try cases l
      cases b <;> simp only [eqS] at e <;> try cases e
      exact eqS_int W 9998 (k0 := .u64) (by kernel_rfl) (by simpa only [eqS] using e)
    · intro a b c W l e
      cases a <;> simp only [alikeS] at l <;> try cases l
      cases b <;> simp only [eqS] at e <;> try cases e
      exact eqS_int W 9998 (k0 := .u64) (by kernel_rfl) (by simpa only [eqS] using e)
  · refine ⟨by kernel_rfl, eqT_two (P := Try.prog) (f := ((Try.prog.fieldsOf 54)[0]?).get!) (g := ((Try.prog.fieldsOf 54)[1]?).get!) (by kernel_rfl) (by kernel_rfl) (by kernel_rfl) (by decide +kernel) ⟨by kernel_rfl, by kernel_rfl⟩ ⟨by kernel_rfl, by kernel_rfl⟩ (q1 := .s (.string ⟨#[]⟩)) (q2 := .s (.string ⟨#[]⟩)) (by kernel_rfl) ?_ ?_⟩
    · intro a b c W l e
      cases a <;> simp only [alikeS] at l <;> try cases l
      cases b <;> simp only [eqS] at e <;> try cases e
      exact eqS_str W 9998 (by kernel_rfl) rfl
    · intro a b c W l e
      cases a <;> simp only [alikeS] at l <;> try cases l
      cases b <;> simp only [eqS] at e <;> try cases e
      exact eqS_str W 9998 (by kernel_rfl) rfl
end Go.Proofs.Ytihiakgpegfghaa
