/- Searching: Find, Count in the program. Own work. -/
import Derived.Test.YtihiakgpegfghaaRcompact
set_option linter.unusedVariables false
set_option linter.unusedSimpArgs false
namespace Go.Pi
def allT (q : Qry) (l : List Blo) : List Trc := dd ((raw q l).mergeSort leTr)
def capI (n a b : Int) : Int := if n < a then a else if b < n then b else n
def findT (q : Qry) (l : List Blo) (n : Int) : List Trc := (allT q l).take (capI n 0 (allT q l).length).toNat
@[go_sem] theorem plain_tr (l : List Trc) : ((l.map trC).all fun r => r.all PV.plain) = true := by
  rw [List.all_eq_true]
  intro r hr
  obtain ⟨t, _, rfl⟩ := List.mem_map.1 hr
  rfl
theorem raw_len (q : Qry) : ∀ (l : List Blo), (∀ b ∈ l, b.eps.length ≤ 2000) → (raw q l).length ≤ l.length * 2000
  | [], _ => by simp [raw]
  | b :: l, h => by
    have h1 := h b List.mem_cons_self
    have h2 := raw_len q l (fun x hx => h x (List.mem_cons_of_mem _ hx))
    have h3 : (hits q b.eps).length ≤ 2000 := by unfold hits; rw [List.length_map]; exact Nat.le_trans (List.length_filter_le _ _) h1
    unfold raw at h2 ⊢
    simp only [List.flatMap_cons, List.length_append, List.length_cons, Nat.add_mul, Nat.one_mul]
    omega
theorem allT_len (q : Qry) (l : List Blo) (h : ∀ b ∈ l, b.eps.length ≤ 2000) : (allT q l).length ≤ l.length * 2000 := by
  have h1 := dd_len ((raw q l).mergeSort leTr)
  rw [List.length_mergeSort] at h1
  have h2 := raw_len q l h
  unfold allT
  omega
end Go.Pi
namespace Go.Proofs.Ytihiakgpegfghaa
open Go Go.Pi
set_option maxHeartbeats 2000000
set_option maxRecDepth 10000
theorem AllP (ln : Bool) (l : List Blo) (q : Qry) (hM : (l.length : Int) ≤ 1000) (hB : ∀ b ∈ l, b.eps.length ≤ 2000) (hE : ∀ b ∈ l, Eps b.eps) : Cal cx 24 [.sh ln (l.map bkC), .ag (qC q)] = some ([.ow 27 ((allT q l).map trC)], []) := by
  obtain ⟨f, H, g1, g2, g3, g4⟩ := AllOut ln l q hM hB hE l.length 0 [] (by omega) (by simp; omega)
  have hl := raw_len q l hB
  have hs := srtTr_eq (raw q l) (by omega)
  have hc := Compact ((raw q l).mergeSort leTr) (by rw [List.length_mergeSort]; omega)
  simp only [Int.cast_ofNat_Int, List.drop_zero, List.map_nil, List.length_nil, List.nil_append, qRow, qC, tRow] at g1 g2 g3
  rw [Cal_eq]
  unfold allT
  generalize raw q l = r at g2 g3 hs hc
  have hml : (r.mergeSort leTr).length = r.length := List.length_mergeSort r
  have hd : (r.map trC).drop r.length = [] := List.drop_of_length_le (by simp)
  simp -implicitDefEqProofs only [fns_24, c24, go_sem, Nat.reduceShiftRight, Nat.reduceAnd, reduceIte, reduceCtorEq, Nat.reduceEqDiff, Nat.reduceAdd, Nat.reduceMul, Nat.reduceSub, Nat.reduceLT, Nat.reduceLeDiff, Nat.reduceBEq, Nat.reduceBNe, Int.reduceToNat, Int.reduceLT, Int.reduceLE, Int.reduceEq, Int.reduceNe, Int.reduceMul, Int.reduceAdd, Int.reduceSub, Int.reduceNeg, qC, g1, g2, g3, g4, hs, hc, hml, hd, List.append_nil, Nat.le_refl]
theorem FindP (ln : Bool) (l : List Blo) (q : Qry) (n : Int) (hM : (l.length : Int) ≤ 1000) (hB : ∀ b ∈ l, b.eps.length ≤ 2000) (hE : ∀ b ∈ l, Eps b.eps) : Cal cx 14 [.sh ln (l.map bkC), .ag (qC q), .s (.int .i64 n)] = some ([.ow 27 ((findT q l n).map trC)], []) := by
  have h1 := AllP ln l q hM hB hE
  have h2 := allT_len q l hB
  unfold findT
  generalize allT q l = r at h1 h2
  simp only [qC] at h1
  rw [Cal_eq]
  have hmx : ∀ k : Nat, (if (0 : Int) < (k : Int) then (k : Int) else 0) = (k : Int) := fun k => by split <;> omega
  by_cases c1 : n < 0
  · have e : capI n 0 r.length = 0 := by unfold capI; rw [if_pos c1]
    have c2 : ¬ (r.length : Int) < n := by omega
    have c3 : ¬ (0 : Int) < n := by omega
    have c4 : 0 ≤ r.length := Nat.zero_le _
    rw [e]
    simp -implicitDefEqProofs only [fns_14, c14, go_sem, Nat.reduceShiftRight, Nat.reduceAnd, reduceIte, reduceCtorEq, Nat.reduceEqDiff, Nat.reduceAdd, Nat.reduceMul, Nat.reduceSub, Nat.reduceLT, Nat.reduceLeDiff, Nat.reduceBEq, Nat.reduceBNe, Int.reduceToNat, Int.reduceLT, Int.reduceLE, Int.reduceEq, Int.reduceNe, Int.reduceMul, Int.reduceAdd, Int.reduceSub, Int.reduceNeg, qC, h1, c1, c2, c3, c4, List.take_zero, List.map_nil]
  · by_cases c2 : (r.length : Int) < n
    · have e : capI n 0 r.length = r.length := by unfold capI; rw [if_neg c1, if_pos c2]
      have c4 : (0 : Int) + (r.length : Int) ≤ (r.length : Int) := by omega
      rw [e]
      simp -implicitDefEqProofs only [fns_14, c14, go_sem, Nat.reduceShiftRight, Nat.reduceAnd, reduceIte, reduceCtorEq, Nat.reduceEqDiff, Nat.reduceAdd, Nat.reduceMul, Nat.reduceSub, Nat.reduceLT, Nat.reduceLeDiff, Nat.reduceBEq, Nat.reduceBNe, Int.reduceToNat, Int.reduceLT, Int.reduceLE, Int.reduceEq, Int.reduceNe, Int.reduceMul, Int.reduceAdd, Int.reduceSub, Int.reduceNeg, qC, h1, c1, c2, hmx, c4, Nat.sub_zero, Nat.le_refl, List.take_length]
    · obtain ⟨k, rfl⟩ : ∃ k : Nat, n = (k : Int) := ⟨n.toNat, by omega⟩
      have e : capI (k : Int) 0 r.length = k := by unfold capI; rw [if_neg c1, if_neg c2]
      have c4 : (0 : Int) + (k : Int) ≤ (r.length : Int) := by omega
      have c5 : k ≤ r.length := by omega
      rw [e]
      simp -implicitDefEqProofs only [fns_14, c14, go_sem, Nat.reduceShiftRight, Nat.reduceAnd, reduceIte, reduceCtorEq, Nat.reduceEqDiff, Nat.reduceAdd, Nat.reduceMul, Nat.reduceSub, Nat.reduceLT, Nat.reduceLeDiff, Nat.reduceBEq, Nat.reduceBNe, Int.reduceToNat, Int.reduceLT, Int.reduceLE, Int.reduceEq, Int.reduceNe, Int.reduceMul, Int.reduceAdd, Int.reduceSub, Int.reduceNeg, qC, h1, c1, c2, hmx, c4, c5, Nat.sub_zero, ← List.map_take]
theorem CountP (ln : Bool) (l : List Blo) (q : Qry) (hM : (l.length : Int) ≤ 1000) (hB : ∀ b ∈ l, b.eps.length ≤ 2000) (hE : ∀ b ∈ l, Eps b.eps) : Cal cx 16 [.sh ln (l.map bkC), .ag (qC q)] = some ([.s (.int .i64 (allT q l).length)], []) := by
  have h1 := AllP ln l q hM hB hE
  simp only [qC] at h1
  rw [Cal_eq]
  simp -implicitDefEqProofs only [fns_16, c16, go_sem, Nat.reduceShiftRight, Nat.reduceAnd, reduceIte, reduceCtorEq, Nat.reduceEqDiff, Nat.reduceAdd, Nat.reduceMul, Nat.reduceSub, Nat.reduceLT, Nat.reduceLeDiff, Nat.reduceBEq, Nat.reduceBNe, Int.reduceToNat, Int.reduceLT, Int.reduceLE, Int.reduceEq, Int.reduceNe, Int.reduceMul, Int.reduceAdd, Int.reduceSub, Int.reduceNeg, qC, h1]
end Go.Proofs.Ytihiakgpegfghaa
