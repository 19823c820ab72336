/- Searching: the reference's list. Own work. -/
import Derived.Test.YtihiakgpegfghaaRfindr
set_option linter.unusedVariables false
set_option linter.unusedSimpArgs false
namespace Go.Proofs.Ytihiakgpegfghaa
open Go Go.Pi
set_option maxHeartbeats 4000000
set_option maxRecDepth 10000
theorem RefIn (ln : Bool) (l : List Blo) (q : Qry) (i : Nat) (b : Blo) (hb : l[i]? = some b) (hM : (b.eps.length : Int) ≤ 1048576) (hE : Eps b.eps) (hL : (l.length : Int) ≤ 1048576) : ∀ (n k : Nat) (out : List Trc), k + n = b.eps.length → out.length + n ≤ 100000000 →
   ∃ f H, Pi.Loop (exec cx (Cal cx) c25_2) (Rst Try.prog ([(0, none), (3, none), (5, some 27), (6, none), (7, none)], [])) (St.mk (sF [(0, .sh ln (l.map bkC)), (3, .ad 3 0 0 0), (5, .sl 500005 0 0 out.length), (6, .s (.int .i64 i)), (7, .s (.int .i64 k))]) (hF [(3, qRow q), (500005, tRow out)])) = some (.ex 2, St.mk f H) ∧
     f 0 = .sh ln (l.map bkC) ∧ f 3 = .ad 3 0 0 0 ∧ f 5 = .sl 500005 0 0 ((b.eps.drop k).foldl (addE q) out).length ∧ f 6 = .s (.int .i64 i) ∧ H 3 = qRow q ∧ H 500005 = tRow ((b.eps.drop k).foldl (addE q) out) := by
  have hi : (i : Int) < (l.length : Int) := by
    obtain ⟨h, _⟩ := List.getElem?_eq_some_iff.1 hb
    omega
  intro n
  induction n with
  | zero =>
    intro k out h _
    have h0 : ¬ (k : Int) < (b.eps.length : Int) := by omega
    rw [Loop_eq, drop_end (by omega)]
    simp -implicitDefEqProofs only [fns_25, c25, go_sem, Nat.reduceShiftRight, Nat.reduceAnd, reduceIte, reduceCtorEq, Nat.reduceEqDiff, Nat.reduceAdd, Nat.reduceMul, Nat.reduceSub, Nat.reduceLT, Nat.reduceLeDiff, Nat.reduceBEq, Nat.reduceBNe, Int.reduceToNat, Int.reduceLT, Int.reduceLE, Int.reduceEq, Int.reduceNe, Int.reduceMul, Int.reduceAdd, Int.reduceSub, Int.reduceNeg, c25_2, h0, hi, getD_map bkC hb, bkC, List.foldl_nil]
    exact ⟨_, _, rfl, rfl, rfl, rfl, rfl, rfl, rfl⟩
  | succ n ih =>
    intro k out h ho
    have h0 : (k : Int) < (b.eps.length : Int) := by omega
    obtain ⟨x, hx⟩ := get_of_lt (l := b.eps) (i := k) (by omega)
    have h8 : IntKind.i64.wrap ((k : Int) + 1) = ((k + 1 : Nat) : Int) := by rw [wrap64_id] <;> omega
    have hx2 := hE x (mem_get hx)
    obtain ⟨f1, H1, g1, g2, g3, g4, g5, g6, g7, g8, g9, g10, g11⟩ := RefOk ln l q out i k x hx2.1 hx2.2 x.spans.length 0 false (by omega)
    obtain ⟨f2, H2, m1, m2, m3, m4, m5, m6, m7, m8, m9, m10, m11, m12, m13, m14⟩ := RefAt ln l q out i k x (hitE q x) (by omega) out.length 0 (by omega)
    have hb1 := addE_len q out x
    have h7 := ih (k + 1) (addE q out x) (by omega) (by omega)
    have hhit : x.spans.any (matchQ q) = hitE q x := rfl
    have hle := leadT_le x.tr out
    simp only [Int.cast_ofNat_Int, List.drop_zero, Bool.false_or, hhit, qRow, qC, tRow, eRow1, epC] at g1 g8 g9 g10 g11
    simp only [Int.cast_ofNat_Int, List.drop_zero, Nat.zero_add, qRow, qC, tRow, eRow1, epC] at m1 m9 m10 m11 m12
    rw [Loop_eq, drop_get hx, List.foldl_cons]
    unfold addE insT at h7 ⊢
    generalize leadT x.tr out = A at m9 h7 hle ⊢
    cases hk : hitE q x
    · rw [hk] at g8 m1 m8 h7
      simp only [Bool.false_eq_true, if_false, qRow, qC] at h7 ⊢
      simp -implicitDefEqProofs only [fns_25, c25, go_sem, Nat.reduceShiftRight, Nat.reduceAnd, reduceIte, reduceCtorEq, Nat.reduceEqDiff, Nat.reduceAdd, Nat.reduceMul, Nat.reduceSub, Nat.reduceLT, Nat.reduceLeDiff, Nat.reduceBEq, Nat.reduceBNe, Int.reduceToNat, Int.reduceLT, Int.reduceLE, Int.reduceEq, Int.reduceNe, Int.reduceMul, Int.reduceAdd, Int.reduceSub, Int.reduceNeg, c25_2, h0, hi, getD_map bkC hb, bkC, getD_map epC hx, epC, g1, g2, g3, g4, g5, g6, g7, g8, g9, g10, g11, m1, m2, m3, m4, m5, m6, m7, m8, m9, m10, m11, m12, m13, m14, h8]
      exact h7
    · rw [hk] at g8 m1 m8 h7
      by_cases hc : A = out.length ∨ out[A]? ≠ some x.tr
      · have c1 : ¬ (A : Int) < 0 := by omega
        have c2 : (0 : Int) + (A : Int) ≤ (out.length : Int) := by omega
        have c3 : (A : Int) ≤ (out.length : Int) := by omega
        have c4 : (0 : Int) + (out.length : Int) ≤ (out.length : Int) := by omega
        have e1 : (out.map trC).take A = (out.take A).map trC := by rw [List.map_take]
        have e2 : ((out.map trC).drop A).take (out.length - A) = (out.drop A).map trC := by rw [← List.map_drop, List.take_of_length_le (by simp)]
        have e3 : (out.take A).length = A := by simp; omega
        have b1 : (out.take A).length * 16 ≤ 140737488355328 := by omega
        have b2 : (out.take A ++ [x.tr]).length * 16 ≤ 140737488355328 := by simp; omega
        have b3 : (out.take A ++ [x.tr] ++ out.drop A).length * 16 ≤ 140737488355328 := by simp; omega
        have b4 : A * 16 ≤ 140737488355328 := by omega
        have b5 : A ≤ 9223372036854775807 := by omega
        simp only [if_true, if_pos hc, qRow, qC] at h7 ⊢
        rw [show out.take A ++ x.tr :: out.drop A = out.take A ++ [x.tr] ++ out.drop A by simp] at h7 ⊢
        by_cases hA : (A : Int) = (out.length : Int)
        · have hA2 : A = out.length := by omega
          subst hA2
          have hz : out.drop out.length = [] := drop_end (by omega)
          have hz2 : out.take out.length = out := List.take_length
          have d1 : (out.length : Int) < (out.length : Int) ↔ False := by simp
          rw [hz, hz2] at b3 h7
          rw [hz2] at b2
          simp only [hz, hz2, List.append_nil] at h7 b3 ⊢
          simp -implicitDefEqProofs only [fns_25, c25, go_sem, Nat.reduceShiftRight, Nat.reduceAnd, reduceIte, reduceCtorEq, Nat.reduceEqDiff, Nat.reduceAdd, Nat.reduceMul, Nat.reduceSub, Nat.reduceLT, Nat.reduceLeDiff, Nat.reduceBEq, Nat.reduceBNe, Int.reduceToNat, Int.reduceLT, Int.reduceLE, Int.reduceEq, Int.reduceNe, Int.reduceMul, Int.reduceAdd, Int.reduceSub, Int.reduceNeg, c25_2, h0, hi, getD_map bkC hb, bkC, getD_map epC hx, epC, g1, g2, g3, g4, g5, g6, g7, g8, g9, g10, g11, m1, m2, m3, m4, m5, m6, m7, m8, m9, m10, m11, m12, m13, m14, h8, c1, c2, c3, c4, b2, b3, b4, b5, Nat.sub_zero, Nat.sub_self, List.take_zero, List.append_nil]
          exact h7
        · have hA2 : A < out.length := by omega
          have hA3 : (A : Int) < (out.length : Int) := by omega
          obtain ⟨y, hy⟩ := get_of_lt (l := out) (i := A) hA2
          have hne : (decide ((y.hi : Int) = x.tr.hi) && decide ((y.lo : Int) = x.tr.lo)) = false := by
            rw [trNe]
            rcases hc with hc | hc
            · omega
            · rw [hy] at hc
              simpa using hc
          have hd : out.drop A ≠ [] := by rw [drop_get hy]; simp
          have c6 : ¬ A + 1 + (out.drop A).length ≤ (out.take A ++ [x.tr]).length := by rw [drop_get hy]; simp; omega
          simp -implicitDefEqProofs only [fns_25, c25, go_sem, Nat.reduceShiftRight, Nat.reduceAnd, reduceIte, reduceCtorEq, Nat.reduceEqDiff, Nat.reduceAdd, Nat.reduceMul, Nat.reduceSub, Nat.reduceLT, Nat.reduceLeDiff, Nat.reduceBEq, Nat.reduceBNe, Int.reduceToNat, Int.reduceLT, Int.reduceLE, Int.reduceEq, Int.reduceNe, Int.reduceMul, Int.reduceAdd, Int.reduceSub, Int.reduceNeg, c25_2, h0, hi, getD_map bkC hb, bkC, getD_map epC hx, epC, g1, g2, g3, g4, g5, g6, g7, g8, g9, g10, g11, m1, m2, m3, m4, m5, m6, m7, m8, m9, m10, m11, m12, m13, m14, h8, hA, hA2, hA3, getD_map trC hy, trC, hne, c1, c2, c3, c4, e1, e2, e3, b1, b2, b3, b4, b5, Nat.sub_zero, appSl_map trC trC (out.take A ++ [x.tr]) (out.drop A) hd]
          exact h7
      · have hA2 : A < out.length := by omega
        have hA3 : (A : Int) < (out.length : Int) := by omega
        have hA : ¬ (A : Int) = (out.length : Int) := by omega
        have hy : out[A]? = some x.tr := by
          cases e : decide (out[A]? = some x.tr)
          · exact absurd (Or.inr (by simpa using e)) hc
          · simpa using e
        simp only [if_true, if_neg hc, qRow, qC] at h7 ⊢
        simp -implicitDefEqProofs only [fns_25, c25, go_sem, Nat.reduceShiftRight, Nat.reduceAnd, reduceIte, reduceCtorEq, Nat.reduceEqDiff, Nat.reduceAdd, Nat.reduceMul, Nat.reduceSub, Nat.reduceLT, Nat.reduceLeDiff, Nat.reduceBEq, Nat.reduceBNe, Int.reduceToNat, Int.reduceLT, Int.reduceLE, Int.reduceEq, Int.reduceNe, Int.reduceMul, Int.reduceAdd, Int.reduceSub, Int.reduceNeg, c25_2, h0, hi, getD_map bkC hb, bkC, getD_map epC hx, epC, g1, g2, g3, g4, g5, g6, g7, g8, g9, g10, g11, m1, m2, m3, m4, m5, m6, m7, m8, m9, m10, m11, m12, m13, m14, h8, hA, hA2, hA3, getD_map trC hy, trC]
        exact h7
theorem foldE_len (q : Qry) : ∀ (l : List Epi) (out : List Trc), (l.foldl (addE q) out).length ≤ out.length + l.length
  | [], out => by simp
  | e :: l, out => by
    have h1 := foldE_len q l (addE q out e)
    have h2 := addE_len q out e
    simp only [List.foldl_cons, List.length_cons]
    omega
def addB (q : Qry) (out : List Trc) (b : Blo) : List Trc := b.eps.foldl (addE q) out
def allR (q : Qry) (l : List Blo) : List Trc := l.foldl (addB q) []
theorem RefOut (ln : Bool) (l : List Blo) (q : Qry) (hM : (l.length : Int) ≤ 1000) (hB : ∀ b ∈ l, b.eps.length ≤ 2000) (hE : ∀ b ∈ l, Eps b.eps) : ∀ (n i : Nat) (out : List Trc), i + n = l.length → out.length + n * 2000 ≤ 10000000 →
   ∃ f H, Pi.Loop (exec cx (Cal cx) c25_0) (Rst Try.prog ([(0, none), (3, none), (5, some 27), (6, none)], [])) (St.mk (sF [(0, .sh ln (l.map bkC)), (3, .ad 3 0 0 0), (5, .sl 500005 0 0 out.length), (6, .s (.int .i64 i))]) (hF [(3, qRow q), (500005, tRow out)])) = some (.ex 0, St.mk f H) ∧
     f 5 = .sl 500005 0 0 ((l.drop i).foldl (addB q) out).length ∧ H 500005 = tRow ((l.drop i).foldl (addB q) out) := by
  intro n
  induction n with
  | zero =>
    intro i out h _
    have h0 : ¬ (i : Int) < (l.length : Int) := by omega
    rw [Loop_eq, drop_end (by omega)]
    simp -implicitDefEqProofs only [fns_25, c25, go_sem, Nat.reduceShiftRight, Nat.reduceAnd, reduceIte, reduceCtorEq, Nat.reduceEqDiff, Nat.reduceAdd, Nat.reduceMul, Nat.reduceSub, Nat.reduceLT, Nat.reduceLeDiff, Nat.reduceBEq, Nat.reduceBNe, Int.reduceToNat, Int.reduceLT, Int.reduceLE, Int.reduceEq, Int.reduceNe, Int.reduceMul, Int.reduceAdd, Int.reduceSub, Int.reduceNeg, c25_0, h0, List.foldl_nil]
    exact ⟨_, _, rfl, rfl, rfl⟩
  | succ n ih =>
    intro i out h ho
    have h0 : (i : Int) < (l.length : Int) := by omega
    obtain ⟨x, hx⟩ := get_of_lt (l := l) (i := i) (by omega)
    have h8 : IntKind.i64.wrap ((i : Int) + 1) = ((i + 1 : Nat) : Int) := by rw [wrap64_id] <;> omega
    have hb := hB x (mem_get hx)
    obtain ⟨f, H, g1, g2, g3, g4, g5, g6, g7⟩ := RefIn ln l q i x hx (by omega) (hE x (mem_get hx)) (by omega) x.eps.length 0 out (by omega) (by omega)
    have hl := foldE_len q x.eps out
    have h7 := ih (i + 1) (addB q out x) (by omega) (by unfold addB; omega)
    rw [Loop_eq, drop_get hx, List.foldl_cons]
    simp only [Int.cast_ofNat_Int, List.drop_zero, qRow, qC, tRow] at g1 g4 g6 g7
    simp only [qRow, qC] at h7 ⊢
    unfold addB at h7 ⊢
    simp -implicitDefEqProofs only [fns_25, c25, go_sem, Nat.reduceShiftRight, Nat.reduceAnd, reduceIte, reduceCtorEq, Nat.reduceEqDiff, Nat.reduceAdd, Nat.reduceMul, Nat.reduceSub, Nat.reduceLT, Nat.reduceLeDiff, Nat.reduceBEq, Nat.reduceBNe, Int.reduceToNat, Int.reduceLT, Int.reduceLE, Int.reduceEq, Int.reduceNe, Int.reduceMul, Int.reduceAdd, Int.reduceSub, Int.reduceNeg, c25_0, h0, g1, g2, g3, g4, g5, g6, g7, h8]
    exact h7
theorem allR_len (q : Qry) : ∀ (l : List Blo) (out : List Trc), (∀ b ∈ l, b.eps.length ≤ 2000) → (l.foldl (addB q) out).length ≤ out.length + l.length * 2000
  | [], out, _ => by simp
  | b :: l, out, h => by
    have h1 := allR_len q l (addB q out b) (fun x hx => h x (List.mem_cons_of_mem _ hx))
    have h2 := foldE_len q b.eps out
    have h3 := h b List.mem_cons_self
    unfold addB at h1 ⊢
    simp only [List.foldl_cons, List.length_cons, Nat.add_mul, Nat.one_mul]
    omega
theorem AllRf (ln : Bool) (l : List Blo) (q : Qry) (hM : (l.length : Int) ≤ 1000) (hB : ∀ b ∈ l, b.eps.length ≤ 2000) (hE : ∀ b ∈ l, Eps b.eps) : Cal cx 25 [.sh ln (l.map bkC), .ag (qC q)] = some ([.ow 27 ((allR q l).map trC)], []) := by
  obtain ⟨f, H, g1, g2, g3⟩ := RefOut ln l q hM hB hE l.length 0 [] (by omega) (by simp; omega)
  simp only [Int.cast_ofNat_Int, List.drop_zero, List.map_nil, List.length_nil, qRow, qC, tRow] at g1 g2 g3
  rw [Cal_eq]
  unfold allR
  simp -implicitDefEqProofs only [fns_25, c25, go_sem, Nat.reduceShiftRight, Nat.reduceAnd, reduceIte, reduceCtorEq, Nat.reduceEqDiff, Nat.reduceAdd, Nat.reduceMul, Nat.reduceSub, Nat.reduceLT, Nat.reduceLeDiff, Nat.reduceBEq, Nat.reduceBNe, Int.reduceToNat, Int.reduceLT, Int.reduceLE, Int.reduceEq, Int.reduceNe, Int.reduceMul, Int.reduceAdd, Int.reduceSub, Int.reduceNeg, qC, g1, g2, g3]
theorem Cap (n a b : Int) : Cal cx 26 [.s (.int .i64 n), .s (.int .i64 a), .s (.int .i64 b)] = some ([.s (.int .i64 (capI n a b))], []) := by
  rw [Cal_eq]
  unfold capI
  by_cases h1 : n < a
  · simp -implicitDefEqProofs only [fns_26, c26, go_sem, Nat.reduceShiftRight, Nat.reduceAnd, reduceIte, reduceCtorEq, Nat.reduceEqDiff, Nat.reduceAdd, Nat.reduceMul, Nat.reduceSub, Nat.reduceLT, Nat.reduceLeDiff, Nat.reduceBEq, Nat.reduceBNe, Int.reduceToNat, Int.reduceLT, Int.reduceLE, Int.reduceEq, Int.reduceNe, Int.reduceMul, Int.reduceAdd, Int.reduceSub, Int.reduceNeg, h1]
  · by_cases h2 : b < n
    · simp -implicitDefEqProofs only [fns_26, c26, go_sem, Nat.reduceShiftRight, Nat.reduceAnd, reduceIte, reduceCtorEq, Nat.reduceEqDiff, Nat.reduceAdd, Nat.reduceMul, Nat.reduceSub, Nat.reduceLT, Nat.reduceLeDiff, Nat.reduceBEq, Nat.reduceBNe, Int.reduceToNat, Int.reduceLT, Int.reduceLE, Int.reduceEq, Int.reduceNe, Int.reduceMul, Int.reduceAdd, Int.reduceSub, Int.reduceNeg, h1, h2]
    · simp -implicitDefEqProofs only [fns_26, c26, go_sem, Nat.reduceShiftRight, Nat.reduceAnd, reduceIte, reduceCtorEq, Nat.reduceEqDiff, Nat.reduceAdd, Nat.reduceMul, Nat.reduceSub, Nat.reduceLT, Nat.reduceLeDiff, Nat.reduceBEq, Nat.reduceBNe, Int.reduceToNat, Int.reduceLT, Int.reduceLE, Int.reduceEq, Int.reduceNe, Int.reduceMul, Int.reduceAdd, Int.reduceSub, Int.reduceNeg, h1, h2]
theorem FindRf (ln : Bool) (l : List Blo) (q : Qry) (n : Int) (hM : (l.length : Int) ≤ 1000) (hB : ∀ b ∈ l, b.eps.length ≤ 2000) (hE : ∀ b ∈ l, Eps b.eps) : Cal cx 15 [.sh ln (l.map bkC), .ag (qC q), .s (.int .i64 n)] = some ([.ow 27 (((allR q l).take (capI n 0 (allR q l).length).toNat).map trC)], []) := by
  have h1 := AllRf ln l q hM hB hE
  have hc := Cap
  generalize allR q l = r at h1
  obtain ⟨k, hk, hkl⟩ : ∃ k : Nat, capI n 0 r.length = (k : Int) ∧ k ≤ r.length := by
    unfold capI
    split
    · exact ⟨0, rfl, Nat.zero_le _⟩
    · split
      · exact ⟨r.length, rfl, Nat.le_refl _⟩
      · exact ⟨n.toNat, by omega, by omega⟩
  have c4 : (0 : Int) + (k : Int) ≤ (r.length : Int) := by omega
  simp only [qC] at h1
  rw [Cal_eq, hk]
  simp -implicitDefEqProofs only [fns_15, c15, go_sem, Nat.reduceShiftRight, Nat.reduceAnd, reduceIte, reduceCtorEq, Nat.reduceEqDiff, Nat.reduceAdd, Nat.reduceMul, Nat.reduceSub, Nat.reduceLT, Nat.reduceLeDiff, Nat.reduceBEq, Nat.reduceBNe, Int.reduceToNat, Int.reduceLT, Int.reduceLE, Int.reduceEq, Int.reduceNe, Int.reduceMul, Int.reduceAdd, Int.reduceSub, Int.reduceNeg, qC, h1, hc, hk, c4, hkl, Nat.sub_zero, ← List.map_take]
theorem CountRf (ln : Bool) (l : List Blo) (q : Qry) (hM : (l.length : Int) ≤ 1000) (hB : ∀ b ∈ l, b.eps.length ≤ 2000) (hE : ∀ b ∈ l, Eps b.eps) : Cal cx 17 [.sh ln (l.map bkC), .ag (qC q)] = some ([.s (.int .i64 (allR q l).length)], []) := by
  have h1 := AllRf ln l q hM hB hE
  simp only [qC] at h1
  rw [Cal_eq]
  simp -implicitDefEqProofs only [fns_17, c17, go_sem, Nat.reduceShiftRight, Nat.reduceAnd, reduceIte, reduceCtorEq, Nat.reduceEqDiff, Nat.reduceAdd, Nat.reduceMul, Nat.reduceSub, Nat.reduceLT, Nat.reduceLeDiff, Nat.reduceBEq, Nat.reduceBNe, Int.reduceToNat, Int.reduceLT, Int.reduceLE, Int.reduceEq, Int.reduceNe, Int.reduceMul, Int.reduceAdd, Int.reduceSub, Int.reduceNeg, qC, h1]
end Go.Proofs.Ytihiakgpegfghaa
