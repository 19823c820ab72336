/- RetireBounds: the plain law. Own work. -/
import Derived.Test.YtpfjchnpkolmkaaRmore
set_option linter.unusedVariables false
set_option linter.unusedSimpArgs false
namespace Go.Proofs.Ytpfjchnpkolmkaa
open Go Go.Pi
def gone (n : Int) (l : List Blo) : List Blo := l.filter fun b => !decide (b.number = n)
/-- Where the number stands (the last such place). -/
def lastAt (n : Int) : List Blo → Nat → Int → Int
  | [], _, a => a
  | b :: r, k, a => lastAt n r (k + 1) (if b.number = n then (k : Int) else a)
def atB (l : List Blo) (a : Int) : Int := bornAt l a.toNat
def roundBad (now keep budget : Int) (left : List Blo) (n : Int) : Bool :=
  let a := lastAt n left 0 (-1)
  decide (a < 0) || (!decide (keep < now - atB left a) && (!(left.all fun b => decide (atB left a ≤ b.born)) || decide (total left ≤ budget) || decide ((left.length : Int) < 2)))
def rounds (now keep budget : Int) : List Int → List Blo → Option (List Blo)
  | [], left => some left
  | n :: r, left => if roundBad now keep budget left n = true then none else rounds now keep budget r (gone n left)
def Dist (l : List Blo) : Prop := l.Pairwise fun a b => a.number ≠ b.number
theorem gone_none {n : Int} {l : List Blo} (h : ∀ b ∈ l, b.number ≠ n) : gone n l = l := by
  unfold gone
  rw [List.filter_eq_self]
  intro b hb
  simp [h b hb]
theorem lastAt_none {n : Int} : ∀ (l : List Blo) (k : Nat) (a : Int), (∀ b ∈ l, b.number ≠ n) → lastAt n l k a = a
  | [], _, _, _ => rfl
  | b :: r, k, a, h => by
    rw [lastAt, if_neg (h b List.mem_cons_self)]
    exact lastAt_none r (k + 1) a (fun c hc => h c (List.mem_cons_of_mem _ hc))
theorem lastAt_get {l : List Blo} (hD : Dist l) : ∀ (i : Nat) (x : Blo) (k : Nat) (a : Int), l[i]? = some x → lastAt x.number l k a = ((k + i : Nat) : Int) := by
  induction l with
  | nil => intro i x k a h; simp at h
  | cons b r ih =>
    intro i x k a h
    have hp := List.pairwise_cons.1 hD
    cases i with
    | zero =>
      simp at h
      subst h
      rw [lastAt, if_pos rfl, lastAt_none r _ _ (fun c hc => (hp.1 c hc).symm)]
      rfl
    | succ i =>
      have hm : x ∈ r := mem_get (by simpa using h)
      rw [lastAt, if_neg (hp.1 x hm), ih hp.2 i x (k + 1) a (by simpa using h)]
      omega
theorem gone_erase {l : List Blo} (hD : Dist l) : ∀ (i : Nat) (x : Blo), l[i]? = some x → gone x.number l = l.eraseIdx i := by
  induction l with
  | nil => intro i x h; simp at h
  | cons b r ih =>
    intro i x h
    have hp := List.pairwise_cons.1 hD
    cases i with
    | zero =>
      simp at h
      subst h
      have := gone_none (n := b.number) (l := r) (fun c hc => (hp.1 c hc).symm)
      unfold gone at this ⊢
      rw [List.filter_cons_of_neg (by simp), this]
      rfl
    | succ i =>
      have hm : x ∈ r := mem_get (by simpa using h)
      have := ih hp.2 i x (by simpa using h)
      unfold gone at this ⊢
      rw [List.filter_cons_of_pos (by simp [hp.1 x hm]), this]
      rfl
theorem aminF_le (l : List Blo) : ∀ (n i a : Nat), bornAt l (aminF l n i a) ≤ bornAt l a ∧ ∀ j, i ≤ j → j < i + n → bornAt l (aminF l n i a) ≤ bornAt l j
  | 0, i, a => ⟨Int.le_refl _, fun j h1 h2 => by omega⟩
  | n + 1, i, a => by
    unfold aminF
    obtain ⟨h1, h2⟩ := aminF_le l n (i + 1) (if bornAt l i < bornAt l a then i else a)
    have h3 : bornAt l (aminF l n (i + 1) (if bornAt l i < bornAt l a then i else a)) ≤ bornAt l a ∧ bornAt l (aminF l n (i + 1) (if bornAt l i < bornAt l a then i else a)) ≤ bornAt l i := by
      split at h1 <;> rename_i hc
      · rw [if_pos hc]; omega
      · rw [if_neg hc]; omega
    refine ⟨h3.1, fun j j1 j2 => ?_⟩
    by_cases e : j = i
    · subst e; exact h3.2
    · exact h2 j (by omega) (by omega)
theorem oldest_least {l : List Blo} {b : Blo} (hb : b ∈ l) : bornAt l (oldest l) ≤ b.born := by
  obtain ⟨j, hj⟩ := List.getElem?_of_mem hb
  obtain ⟨hl, _⟩ := List.getElem?_eq_some_iff.1 hj
  have := (aminF_le l l.length 0 0).2 j (by omega) (by omega)
  rw [bornAt_get hj] at this
  exact this
end Go.Proofs.Ytpfjchnpkolmkaa
