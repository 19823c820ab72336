/- The laws' measure of blocks. Own work. -/
import Derived.Test.YtihiakgpegfghaaRfew
set_option linter.unusedVariables false
set_option linter.unusedSimpArgs false
namespace Go.Proofs.Ytihiakgpegfghaa
open Go Go.Pi
set_option maxHeartbeats 2000000
set_option maxRecDepth 10000
def allE (l : List Blo) : List Epi := l.flatMap Blo.eps
def fewB (l : List Blo) : Bool := decide ((l.length : Int) ≤ 12) && fewE (allE (l.take 20)) 0
abbrev eRow (l : List Epi) : Option Blk := some (.row 0 51 6 false (l.map epC))
theorem FewBLoop (ln : Bool) (l : List Blo) (hM : (l.length : Int) ≤ 1048576) (hB : ∀ b ∈ l, b.eps.length ≤ 1048576) : ∀ (n i : Nat) (all : List Epi), i + n = 20 → all.length ≤ i * 1048576 →
   ∃ f H, Pi.Loop (exec cx (Cal cx) c8_0) (Rst Try.prog ([(0, none), (3, some 51), (4, none)], [])) (St.mk (sF [(0, .sh ln (l.map bkC)), (3, .sl 500003 0 0 all.length), (4, .s (.int .i64 i))]) (hF [(500003, eRow all)])) = some (.ex 0, St.mk f H) ∧ f 0 = .sh ln (l.map bkC) ∧ f 3 = .sl 500003 0 0 (all ++ allE ((l.drop i).take n)).length ∧ H 500003 = eRow (all ++ allE ((l.drop i).take n)) := by
  intro n
  induction n with
  | zero =>
    intro i all h _
    have h0 : ¬ (i : Int) < 20 := by omega
    rw [Loop_eq]
    by_cases h1 : (i : Int) < (l.length : Int)
    · simp -implicitDefEqProofs only [fns_8, c8, go_sem, Nat.reduceShiftRight, Nat.reduceAnd, reduceIte, reduceCtorEq, Nat.reduceEqDiff, Nat.reduceAdd, Nat.reduceMul, Nat.reduceSub, Nat.reduceLT, Nat.reduceLeDiff, Nat.reduceBEq, Nat.reduceBNe, Int.reduceToNat, Int.reduceLT, Int.reduceLE, Int.reduceEq, Int.reduceNe, Int.reduceMul, Int.reduceAdd, Int.reduceSub, Int.reduceNeg, c8_0, h0, h1, allE, List.take_zero, List.flatMap_nil, List.append_nil]
      (first | exact ⟨_, _, rfl⟩ | (refine ⟨_, _, rfl, ?_⟩; first | exact (fun _ => rfl) | exact (fun h => by cases h) | rfl | exact ⟨rfl, rfl⟩ | exact ⟨fun _ => rfl, fun _ => rfl⟩ | exact ⟨rfl, rfl, rfl⟩ | exact ⟨fun _ => rfl, rfl, rfl, rfl⟩ | exact ⟨rfl, rfl, rfl, rfl⟩))
    · simp -implicitDefEqProofs only [fns_8, c8, go_sem, Nat.reduceShiftRight, Nat.reduceAnd, reduceIte, reduceCtorEq, Nat.reduceEqDiff, Nat.reduceAdd, Nat.reduceMul, Nat.reduceSub, Nat.reduceLT, Nat.reduceLeDiff, Nat.reduceBEq, Nat.reduceBNe, Int.reduceToNat, Int.reduceLT, Int.reduceLE, Int.reduceEq, Int.reduceNe, Int.reduceMul, Int.reduceAdd, Int.reduceSub, Int.reduceNeg, c8_0, h0, h1, allE, List.take_zero, List.flatMap_nil, List.append_nil]
      (first | exact ⟨_, _, rfl⟩ | (refine ⟨_, _, rfl, ?_⟩; first | exact (fun _ => rfl) | exact (fun h => by cases h) | rfl | exact ⟨rfl, rfl⟩ | exact ⟨fun _ => rfl, fun _ => rfl⟩ | exact ⟨rfl, rfl, rfl⟩ | exact ⟨fun _ => rfl, rfl, rfl, rfl⟩ | exact ⟨rfl, rfl, rfl, rfl⟩))
  | succ n ih =>
    intro i all h ha
    have h0 : (i : Int) < 20 := by omega
    rw [Loop_eq]
    by_cases h1 : (i : Int) < (l.length : Int)
    · obtain ⟨x, hx⟩ := get_of_lt (l := l) (i := i) (by omega)
      have h8 : IntKind.i64.wrap ((i : Int) + 1) = ((i + 1 : Nat) : Int) := by rw [wrap64_id] <;> omega
      have hb := hB x (mem_get hx)
      have h7 := ih (i + 1) (all ++ x.eps) (by omega) (by simp; omega)
      have hL : (all ++ x.eps).length * 64 ≤ 140737488355328 := by simp; omega
      have e : allE ((l.drop i).take (n + 1)) = x.eps ++ allE ((l.drop (i + 1)).take n) := by rw [drop_get hx]; simp [allE]
      rw [e, ← List.append_assoc]
      by_cases hz : x.eps = []
      · rw [hz, List.append_nil] at h7 ⊢
        simp -implicitDefEqProofs only [fns_8, c8, go_sem, Nat.reduceShiftRight, Nat.reduceAnd, reduceIte, reduceCtorEq, Nat.reduceEqDiff, Nat.reduceAdd, Nat.reduceMul, Nat.reduceSub, Nat.reduceLT, Nat.reduceLeDiff, Nat.reduceBEq, Nat.reduceBNe, Int.reduceToNat, Int.reduceLT, Int.reduceLE, Int.reduceEq, Int.reduceNe, Int.reduceMul, Int.reduceAdd, Int.reduceSub, Int.reduceNeg, c8_0, h0, h1, getD_map bkC hx, bkC, h8, hz, List.map_nil]
        exact h7
      · simp -implicitDefEqProofs only [fns_8, c8, go_sem, Nat.reduceShiftRight, Nat.reduceAnd, reduceIte, reduceCtorEq, Nat.reduceEqDiff, Nat.reduceAdd, Nat.reduceMul, Nat.reduceSub, Nat.reduceLT, Nat.reduceLeDiff, Nat.reduceBEq, Nat.reduceBNe, Int.reduceToNat, Int.reduceLT, Int.reduceLE, Int.reduceEq, Int.reduceNe, Int.reduceMul, Int.reduceAdd, Int.reduceSub, Int.reduceNeg, c8_0, h0, h1, getD_map bkC hx, bkC, h8, hL, appSl_map _ _ _ _ hz]
        exact h7
    · have e : l.drop i = [] := drop_end (by omega)
      rw [e]
      simp -implicitDefEqProofs only [fns_8, c8, go_sem, Nat.reduceShiftRight, Nat.reduceAnd, reduceIte, reduceCtorEq, Nat.reduceEqDiff, Nat.reduceAdd, Nat.reduceMul, Nat.reduceSub, Nat.reduceLT, Nat.reduceLeDiff, Nat.reduceBEq, Nat.reduceBNe, Int.reduceToNat, Int.reduceLT, Int.reduceLE, Int.reduceEq, Int.reduceNe, Int.reduceMul, Int.reduceAdd, Int.reduceSub, Int.reduceNeg, c8_0, h0, h1, allE, List.take_nil, List.flatMap_nil, List.append_nil]
      (first | exact ⟨_, _, rfl⟩ | (refine ⟨_, _, rfl, ?_⟩; first | exact (fun _ => rfl) | exact (fun h => by cases h) | rfl | exact ⟨rfl, rfl⟩ | exact ⟨fun _ => rfl, fun _ => rfl⟩ | exact ⟨rfl, rfl, rfl⟩ | exact ⟨fun _ => rfl, rfl, rfl, rfl⟩ | exact ⟨rfl, rfl, rfl, rfl⟩))
theorem allE_len : ∀ (r : List Blo) (K : Nat), (∀ b ∈ r, b.eps.length ≤ K) → (allE r).length ≤ r.length * K
  | [], K, _ => by simp [allE]
  | b :: r, K, h => by
    have h1 := h b List.mem_cons_self
    have h2 := allE_len r K (fun x hx => h x (List.mem_cons_of_mem _ hx))
    simp only [allE, List.flatMap_cons, List.length_append, List.length_cons, Nat.add_mul, Nat.one_mul] at h2 ⊢
    omega
theorem FewB (ln : Bool) (l : List Blo) (hM : (l.length : Int) ≤ 1048576) (hB : ∀ b ∈ l, b.eps.length ≤ 1048576) (hE : ∀ b ∈ l, Eps b.eps) : Cal cx 8 [.sh ln (l.map bkC)] = some ([.s (.bool (fewB l))], []) := by
  obtain ⟨f, H, g1, g2, g3, g4⟩ := FewBLoop ln l hM hB 20 0 [] rfl (by simp)
  have hl := allE_len (l.take 20) 1048576 (fun b hb => hB b (List.mem_of_mem_take hb))
  have hl2 : (l.take 20).length ≤ 20 := by simp; omega
  have hl3 := Nat.mul_le_mul_right 1048576 hl2
  have h1 := FewE true (allE (l.take 20)) (by omega) (fun e he => by
    obtain ⟨b, hb, he2⟩ := List.mem_flatMap.1 he
    exact hE b (List.mem_of_mem_take hb) e he2)
  simp only [eRow, Int.cast_ofNat_Int, List.drop_zero, List.map_nil, List.length_nil, List.nil_append] at g1 g3 g4
  rw [Cal_eq]
  unfold fewB
  by_cases hc : (l.length : Int) ≤ 12
  · simp -implicitDefEqProofs only [fns_8, c8, go_sem, Nat.reduceShiftRight, Nat.reduceAnd, reduceIte, reduceCtorEq, Nat.reduceEqDiff, Nat.reduceAdd, Nat.reduceMul, Nat.reduceSub, Nat.reduceLT, Nat.reduceLeDiff, Nat.reduceBEq, Nat.reduceBNe, Int.reduceToNat, Int.reduceLT, Int.reduceLE, Int.reduceEq, Int.reduceNe, Int.reduceMul, Int.reduceAdd, Int.reduceSub, Int.reduceNeg, g1, g2, g3, g4, h1, hc]
  · simp -implicitDefEqProofs only [fns_8, c8, go_sem, Nat.reduceShiftRight, Nat.reduceAnd, reduceIte, reduceCtorEq, Nat.reduceEqDiff, Nat.reduceAdd, Nat.reduceMul, Nat.reduceSub, Nat.reduceLT, Nat.reduceLeDiff, Nat.reduceBEq, Nat.reduceBNe, Int.reduceToNat, Int.reduceLT, Int.reduceLE, Int.reduceEq, Int.reduceNe, Int.reduceMul, Int.reduceAdd, Int.reduceSub, Int.reduceNeg, g1, g2, g3, g4, h1, hc]
end Go.Proofs.Ytihiakgpegfghaa
