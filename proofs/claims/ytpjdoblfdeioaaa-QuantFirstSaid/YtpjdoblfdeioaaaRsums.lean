/- QuantFirst: the plain laws. Own work. -/
import Derived.Test.YtpjdoblfdeioaaaRins
set_option linter.unusedVariables false
set_option linter.unusedSimpArgs false
namespace Go.Pi
def sumC : List Bz → Int
  | [] => 0
  | b :: l => b.count + sumC l
def sumR (lv : Int) : List Rw → Int
  | [] => 0
  | r :: l => (if r.level = lv then r.count else 0) + sumR lv l
theorem sumC_append (l r : List Bz) : sumC (l ++ r) = sumC l + sumC r := by
  induction l with
  | nil => simp [sumC]
  | cons a l ih => simp only [List.cons_append, sumC, ih]; omega
theorem sumC_perm {l r : List Bz} (h : l.Perm r) : sumC l = sumC r := by
  induction h with
  | nil => rfl
  | cons a _ ih => simp only [sumC, ih]
  | swap a b l => simp only [sumC]; omega
  | trans _ _ i j => rw [i, j]
theorem sumC_set {l : List Bz} {i : Nat} {b c : Bz} (h : l[i]? = some b) : sumC (l.set i c) = sumC l - b.count + c.count := by
  induction l generalizing i with
  | nil => simp at h
  | cons a l ih =>
    cases i with
    | zero =>
      simp only [List.getElem?_cons_zero, Option.some.injEq] at h
      subst h
      simp only [List.set_cons_zero, sumC]; omega
    | succ i =>
      simp only [List.getElem?_cons_succ] at h
      simp only [List.set_cons_succ, sumC, ih h]; omega
def NonC (l : List Bz) : Prop := ∀ b ∈ l, 0 ≤ b.count
theorem sumC_nonneg {l : List Bz} (h : NonC l) : 0 ≤ sumC l := by
  induction l with
  | nil => exact Int.le_refl _
  | cons a l ih =>
    have h1 := h a List.mem_cons_self
    have h2 := ih fun b hb => h b (List.mem_cons_of_mem _ hb)
    simp only [sumC]; omega
theorem sumC_ge {l : List Bz} (h : NonC l) {b : Bz} (hb : b ∈ l) : b.count ≤ sumC l := by
  induction l with
  | nil => cases hb
  | cons a l ih =>
    have h1 := h a List.mem_cons_self
    have h3 : NonC l := fun b hb => h b (List.mem_cons_of_mem _ hb)
    have h2 := sumC_nonneg h3
    simp only [sumC]
    rcases List.mem_cons.1 hb with e | hb1
    · rw [e]; omega
    · have := ih h3 hb1; omega
theorem addBz_sum {r : Rw} {l : List Bz} (hn : NonC l) (h0 : 0 ≤ r.count) (h1 : sumC l + r.count ≤ 9223372036854775807) : sumC (addBz r l) = sumC l + r.count ∧ NonC (addBz r l) := by
  unfold addBz
  split
  · unfold addAt
    rename_i i hi
    obtain ⟨b, -, hb, -⟩ := seekK_some hi
    rw [Nat.sub_zero] at hb
    have hm := List.mem_of_getElem? hb
    have h2 := hn b hm
    have h3 := sumC_ge hn hm
    have h4 : pl b.count r.count = b.count + r.count := pl_add h2 h0 (by omega)
    rw [hb]
    simp only []
    refine ⟨?_, ?_⟩
    · rw [sumC_set hb]; simp only [h4]; omega
    · intro c hc
      rcases List.mem_or_eq_of_mem_set hc with h | h
      · exact hn c h
      · rw [h]; simp only [h4]; omega
  · have h2 := sumC_nonneg hn
    have h4 : pl 0 r.count = r.count := by rw [pl_add (Int.le_refl _) h0 (by omega)]; omega
    refine ⟨?_, ?_⟩
    · rw [sumC_append]; simp only [sumC, h4]; omega
    · intro c hc
      rcases List.mem_append.1 hc with h | h
      · exact hn c h
      · rw [List.mem_singleton] at h; rw [h]; simp only [h4]; exact h0
theorem foldLv_sum (lv : Int) : ∀ (l : List Rw) (out : List Bz), (∀ r ∈ l, 0 ≤ r.count ∧ r.count ≤ 1099511627776) → NonC out → sumC out + (l.length : Int) * 1099511627776 ≤ 9223372036854775807 →
    sumC (l.foldl (addLv lv) out) = sumC out + sumR lv l ∧ NonC (l.foldl (addLv lv) out)
  | [], out, _, hn, _ => ⟨by simp [sumR], hn⟩
  | r :: l, out, hr, hn, hb => by
    have h1 := hr r List.mem_cons_self
    have hs := sumC_nonneg hn
    simp only [List.length_cons] at hb
    have hb' : sumC out + ((l.length : Int) + 1) * 1099511627776 ≤ 9223372036854775807 := by simpa using hb
    have hl : (0 : Int) ≤ (l.length : Int) := by omega
    simp only [List.foldl_cons]
    by_cases hv : r.level = lv
    · have e : addLv lv out r = addBz r out := by unfold addLv; rw [if_pos hv]
      obtain ⟨a1, a2⟩ := addBz_sum hn h1.1 (by omega)
      rw [e]
      obtain ⟨b1, b2⟩ := foldLv_sum lv l (addBz r out) (fun x hx => hr x (List.mem_cons_of_mem _ hx)) a2 (by rw [a1]; omega)
      refine ⟨?_, b2⟩
      rw [b1, a1]
      simp only [sumR, if_pos hv]; omega
    · have e : addLv lv out r = out := by unfold addLv; rw [if_neg hv]
      rw [e]
      obtain ⟨b1, b2⟩ := foldLv_sum lv l out (fun x hx => hr x (List.mem_cons_of_mem _ hx)) hn (by omega)
      refine ⟨?_, b2⟩
      rw [b1]
      simp only [sumR, if_neg hv]; omega
theorem sumR_rg (lv : Int) : ∀ (l : List Rw), (∀ r ∈ l, 0 ≤ r.count ∧ r.count ≤ 1099511627776) → 0 ≤ sumR lv l ∧ sumR lv l ≤ (l.length : Int) * 1099511627776
  | [], _ => by simp [sumR]
  | r :: l, h => by
    have h1 := h r List.mem_cons_self
    have h2 := sumR_rg lv l fun x hx => h x (List.mem_cons_of_mem _ hx)
    simp only [sumR, List.length_cons]
    have e : ((l.length + 1 : Nat) : Int) * 1099511627776 = (l.length : Int) * 1099511627776 + 1099511627776 := by omega
    rw [e]
    split <;> omega
/-- What the busiest of a list are: each key once, none less busy ahead of a busier one. -/
def allB (lv : Int) (l : List Rw) : List Bz := pdqL ltBz (l.foldl (addLv lv) [])
theorem allB_len (lv : Int) (l : List Rw) : (allB lv l).length = (l.foldl (addLv lv) []).length := (pdqL_perm swoBz _).length_eq
theorem allB_sum (lv : Int) (l : List Rw) (hl : (l.length : Int) ≤ 80) (h : ∀ r ∈ l, 0 ≤ r.count ∧ r.count ≤ 1099511627776) : sumC (allB lv l) = sumR lv l ∧ NonC (allB lv l) := by
  obtain ⟨h1, h2⟩ := foldLv_sum lv l [] h (fun b hb => by cases hb) (by simp only [sumC]; omega)
  have p := pdqL_perm swoBz (l.foldl (addLv lv) [])
  refine ⟨?_, fun b hb => h2 b (p.mem_iff.1 hb)⟩
  have := sumC_perm p
  unfold allB
  rw [show pdqL ltBz = pdqL (Go.Proofs.ltOf cmpBz) from rfl, this, h1]
  simp [sumC]
theorem allB_next {lv : Int} {l : List Rw} {i : Nat} {x y : Bz} (hy : (allB lv l)[i]? = some y) (hx : (allB lv l)[i + 1]? = some x) : ¬ y.count < x.count ∧ ¬ (x.svc = y.svc ∧ x.op = y.op) := by
  have ho : OrdB (allB lv l) := pdqL_sorted swoBz _
  have hd : Dist (allB lv l) := by
    have := foldLv_dist lv l [] List.Pairwise.nil
    rw [dist_keys] at this ⊢
    exact ((pdqL_perm swoBz (l.foldl (addLv lv) [])).map _).nodup_iff.2 this
  obtain ⟨i1, e1⟩ := List.getElem?_eq_some_iff.1 hy
  obtain ⟨i2, e2⟩ := List.getElem?_eq_some_iff.1 hx
  have o := List.pairwise_iff_getElem.1 ho i (i + 1) i1 i2 (by omega)
  have d := List.pairwise_iff_getElem.1 hd i (i + 1) i1 i2 (by omega)
  rw [e1, e2] at o d
  refine ⟨fun h => ?_, fun h => d ⟨h.1.symm, h.2.symm⟩⟩
  have : ltBz x y = true := (ltBz_iff x y).2 (.inl h)
  rw [this] at o
  cases o
theorem take_take_cap {α : Type} (P : List α) {a b : Nat} (h : a ≤ b) : (P.take b).take a = P.take a := by rw [List.take_take, Nat.min_eq_left h]
end Go.Pi
