/- The reference's sort of the busiest: what it comes to. Own work. -/
import Derived.Test.YtpjdoblfdeioaaaRrefb
set_option linter.unusedVariables false
set_option linter.unusedSimpArgs false
namespace Go.Pi
/-- One moved down to its place. -/
def swapD : Nat → List Bz → List Bz
  | 0, l => l
  | k + 1, l => match l[k + 1]?, l[k]? with
    | some a, some b => if ltBz a b then swapD k ((l.set (k + 1) b).set k a) else l
    | _, _ => l
def sortN : Nat → Nat → List Bz → List Bz
  | 0, _, l => l
  | n + 1, i, l => sortN n (i + 1) (swapD i l)
theorem swapD_len : ∀ (k : Nat) (l : List Bz), (swapD k l).length = l.length
  | 0, _ => rfl
  | k + 1, l => by
    unfold swapD
    split
    · split
      · rw [swapD_len]; simp
      · rfl
    · rfl
/-- In order: none is ahead of one before it. -/
def OrdB (l : List Bz) : Prop := l.Pairwise fun a b => ltBz b a = false
theorem swapD_ins (x : Bz) : ∀ (n : Nat) (p s : List Bz), p.length = n → ∃ q, swapD p.length (p ++ x :: s) = q ++ s ∧ q.Perm (p ++ [x]) ∧ (OrdB p → OrdB q) := by
  intro n
  induction n with
  | zero =>
    intro p s h
    have : p = [] := List.length_eq_zero_iff.1 h
    subst this
    exact ⟨[x], rfl, List.Perm.refl _, fun _ => List.pairwise_singleton _ _⟩
  | succ n ih =>
    intro p s h
    rcases List.eq_nil_or_concat p with rfl | ⟨p', b, rfl⟩
    · simp at h
    simp only [List.concat_eq_append] at *
    have hp : p'.length = n := by simpa using h
    have e0 : (p' ++ [b]).length = p'.length + 1 := by simp
    have e1 : ((p' ++ [b]) ++ x :: s)[p'.length + 1]? = some x := by simp
    have e2 : ((p' ++ [b]) ++ x :: s)[p'.length]? = some b := by simp
    have e3 : ((((p' ++ [b]) ++ x :: s).set (p'.length + 1) b).set p'.length x) = p' ++ x :: b :: s := by
      simp [List.set_append]
    rw [e0]
    unfold swapD
    rw [e1, e2]
    simp only
    cases hl : ltBz x b
    · refine ⟨p' ++ [b] ++ [x], by simp, List.Perm.refl _, fun ho => ?_⟩
      have ho' := List.pairwise_append.1 ho
      refine List.pairwise_append.2 ⟨ho, List.pairwise_singleton _ _, ?_⟩
      intro y hy z hz
      simp only [List.mem_singleton] at hz
      subst hz
      rw [List.mem_append, List.mem_singleton] at hy
      rcases hy with hy | rfl
      · exact swoBz.ntrans z b y hl (ho'.2.2 y hy b (by simp))
      · exact hl
    · simp only [if_true]
      rw [e3]
      obtain ⟨q, q1, q2, q3⟩ := ih p' (b :: s) hp
      refine ⟨q ++ [b], by rw [q1]; simp, ?_, fun ho => ?_⟩
      · refine (q2.append_right [b]).trans ?_
        simp only [List.append_assoc]
        exact List.Perm.append_left _ List.perm_append_comm
      · have ho' := List.pairwise_append.1 ho
        refine List.pairwise_append.2 ⟨q3 ho'.1, List.pairwise_singleton _ _, ?_⟩
        intro y hy z hz
        simp only [List.mem_singleton] at hz
        subst hz
        have := q2.mem_iff.1 hy
        rw [List.mem_append, List.mem_singleton] at this
        rcases this with h1 | rfl
        · exact ho'.2.2 y h1 z (by simp)
        · cases h2 : ltBz z y
          · rfl
          · have := ltBz_trans hl h2
            rw [ltBz_irr] at this
            cases this
theorem sortN_ok : ∀ (n i : Nat) (p s : List Bz), p.length = i → s.length = n → OrdB p → (sortN n i (p ++ s)).Perm (p ++ s) ∧ OrdB (sortN n i (p ++ s))
  | 0, i, p, s, hp, hs, ho => by
    have : s = [] := List.length_eq_zero_iff.1 hs
    subst this
    simp only [sortN, List.append_nil]
    exact ⟨List.Perm.refl _, ho⟩
  | n + 1, i, p, [], hp, hs, ho => by simp at hs
  | n + 1, i, p, x :: s, hp, hs, ho => by
    obtain ⟨q, q1, q2, q3⟩ := swapD_ins x p.length p s rfl
    subst hp
    simp only [sortN]
    rw [q1]
    have hq : q.length = p.length + 1 := by rw [q2.length_eq]; simp
    obtain ⟨r1, r2⟩ := sortN_ok n (p.length + 1) q s hq (by simpa using hs) (q3 ho)
    refine ⟨r1.trans ?_, r2⟩
    have := q2.append_right s
    simpa using this
def srtR (l : List Bz) : List Bz := sortN l.length 0 l
theorem srtR_perm (l : List Bz) : (srtR l).Perm l := (sortN_ok l.length 0 [] l rfl rfl List.Pairwise.nil).1
theorem srtR_ord (l : List Bz) : OrdB (srtR l) := (sortN_ok l.length 0 [] l rfl rfl List.Pairwise.nil).2
/-! Each key once. -/
def Dist (l : List Bz) : Prop := l.Pairwise fun a b => ¬ (a.svc = b.svc ∧ a.op = b.op)
theorem Dist.mem : ∀ {l : List Bz}, Dist l → ∀ {a b : Bz}, a ∈ l → b ∈ l → a.svc = b.svc → a.op = b.op → a = b
  | [], _, _, _, ha, _, _, _ => by cases ha
  | c :: l, h, a, b, ha, hb, hs, ho => by
    have h' := List.pairwise_cons.1 h
    rcases List.mem_cons.1 ha with ea | ha1
    · rcases List.mem_cons.1 hb with eb | hb1
      · rw [ea, eb]
      · exact absurd ⟨by rw [← ea]; exact hs, by rw [← ea]; exact ho⟩ (h'.1 b hb1)
    · rcases List.mem_cons.1 hb with eb | hb1
      · exact absurd ⟨by rw [← eb]; exact hs.symm, by rw [← eb]; exact ho.symm⟩ (h'.1 a ha1)
      · exact Dist.mem h'.2 ha1 hb1 hs ho
theorem ord_eq {l r : List Bz} (hd : Dist l) (hp : r.Perm l) (h1 : OrdB l) (h2 : OrdB r) : r = l := by
  refine List.Perm.eq_of_pairwise (le := fun a b => ltBz b a = false) ?_ h2 h1 hp
  intro a b ha hb h3 h4
  obtain ⟨-, e1, e2⟩ := ltBz_tri h4 h3
  exact hd.mem (hp.mem_iff.1 ha) hb e1 e2
theorem seekK_none {r : Rw} : ∀ {l : List Bz} {i : Nat}, seekK r l i = none → ∀ b ∈ l, sameK b r = false
  | [], _, _, b, hb => by cases hb
  | c :: l, i, h, b, hb => by
    simp only [seekK] at h
    split at h
    · cases h
    · rcases List.mem_cons.1 hb with rfl | hb
      · simpa using ‹¬ sameK b r = true›
      · exact seekK_none h b hb
/-- The keys of a list. -/
def keys (l : List Bz) : List (ByteArray × ByteArray) := l.map fun b => (b.svc, b.op)
theorem dist_keys {l : List Bz} : Dist l ↔ (keys l).Nodup := by
  unfold Dist keys List.Nodup
  rw [List.pairwise_map]
  simp only [ne_eq, Prod.mk.injEq]
theorem addBz_dist {r : Rw} {l : List Bz} (h : Dist l) : Dist (addBz r l) := by
  unfold addBz
  split
  · unfold addAt
    split
    · rename_i i hi o b hb
      rw [dist_keys] at h ⊢
      have e : keys (l.set i ⟨b.svc, b.op, pl b.count r.count, pl b.errs r.errs⟩) = keys l := by
        unfold keys
        rw [List.map_set]
        refine List.ext_getElem? fun k => ?_
        rw [List.getElem?_set]
        split
        · rename_i hk
          subst hk
          simp [hb]
          obtain ⟨h, _⟩ := List.getElem?_eq_some_iff.1 hb
          exact h
        · rfl
      rw [e]
      exact h
    · exact h
  · rename_i hs
    refine List.pairwise_append.2 ⟨h, List.pairwise_singleton _ _, ?_⟩
    intro a ha b hb
    simp only [List.mem_singleton] at hb
    subst hb
    have := seekK_none hs a ha
    simpa [sameK] using this
theorem foldLv_dist (lv : Int) : ∀ (l : List Rw) (out : List Bz), Dist out → Dist (l.foldl (addLv lv) out)
  | [], _, h => h
  | r :: l, out, h => by
    simp only [List.foldl_cons]
    refine foldLv_dist lv l _ ?_
    unfold addLv
    split
    · exact addBz_dist h
    · exact h
/-- Both sorts come to one. -/
theorem sorts_eq (lv : Int) (l : List Rw) : pdqL ltBz (l.foldl (addLv lv) []) = srtR (l.foldl (addLv lv) []) := by
  have hd := foldLv_dist lv l [] List.Pairwise.nil
  generalize l.foldl (addLv lv) [] = r at hd
  have p1 := pdqL_perm swoBz r
  have o1 := pdqL_sorted swoBz r
  have hd2 : Dist (srtR r) := by
    rw [dist_keys] at hd ⊢
    exact ((srtR_perm r).map _).nodup_iff.2 hd
  exact ord_eq hd2 (p1.trans (srtR_perm r).symm) (srtR_ord r) o1
end Go.Pi
