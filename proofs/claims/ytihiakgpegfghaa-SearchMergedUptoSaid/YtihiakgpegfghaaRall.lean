/- Searching: the program's traces. Own work. -/
import Derived.Test.YtihiakgpegfghaaRmatch2
import Derived.Test.YtihiakgpegfghaaRcmp0
set_option linter.unusedVariables false
set_option linter.unusedSimpArgs false
namespace Go.Pi
def hitE (q : Qry) (e : Epi) : Bool := e.spans.any (matchQ q)
def hits (q : Qry) (l : List Epi) : List Trc := (l.filter (hitE q)).map Epi.tr
def raw (q : Qry) (l : List Blo) : List Trc := l.flatMap fun b => hits q b.eps
@[go_sem] theorem snoc_tr (l : List Trc) (t : Trc) : l.map trC ++ [[.s (.int .u64 t.hi), .s (.int .u64 t.lo)]] = (l ++ [t]).map trC := by simp [trC]
@[go_sem] theorem app_tr (l r : List Trc) : l.map trC ++ r.map trC = (l ++ r).map trC := by simp
end Go.Pi
namespace Go.Proofs.Ytihiakgpegfghaa
open Go Go.Pi
set_option maxHeartbeats 2000000
set_option maxRecDepth 10000
abbrev tRow (l : List Trc) : Option Blk := some (.row 0 27 2 false (l.map trC))
theorem all1 (q : Qry) (s : Spn) (ln : Bool) (hM : (s.attrs.length : Int) ≤ 9223372036854775807) : Cal cx 31 [.ag (spC s), .sa ln (qC q)] = some ([.s (.bool (matchQ q s))], []) := by
  have h1 := Match q s hM
  simp only [qC, spC] at h1
  rw [Cal_eq]
  simp -implicitDefEqProofs only [fns_31, c31, go_sem, Nat.reduceShiftRight, Nat.reduceAnd, reduceIte, reduceCtorEq, Nat.reduceEqDiff, Nat.reduceAdd, Nat.reduceMul, Nat.reduceSub, Nat.reduceLT, Nat.reduceLeDiff, Nat.reduceBEq, Nat.reduceBNe, Int.reduceToNat, Int.reduceLT, Int.reduceLE, Int.reduceEq, Int.reduceNe, Int.reduceMul, Int.reduceAdd, Int.reduceSub, Int.reduceNeg, qC, spC, h1]
theorem AllIn (ln : Bool) (l : List Blo) (q : Qry) (i : Nat) (es : List Epi) (hM : (es.length : Int) ≤ 1048576) (hE : Eps es) : ∀ (n k : Nat) (out : List Trc), k + n = es.length → out.length + n ≤ 1000000000 →
   ∃ f H, Pi.Loop (exec cx (Cal cx) c24_2) (Rst Try.prog ([(3, none), (5, some 27), (10, none), (11, none), (12, none), (17, none), (18, none), (19, none)], [])) (St.mk (sF [(3, .ad 3 0 0 0), (5, .sl 500005 0 0 out.length), (10, .sh ln (l.map bkC)), (11, .s (.int .i64 l.length)), (12, .s (.int .i64 i)), (17, .sh false (es.map epC)), (18, .s (.int .i64 es.length)), (19, .s (.int .i64 k))]) (hF [(3, qRow q), (500005, tRow out)])) = some (.ex 2, St.mk f H) ∧
     f 3 = .ad 3 0 0 0 ∧ f 5 = .sl 500005 0 0 (out ++ hits q (es.drop k)).length ∧ f 10 = .sh ln (l.map bkC) ∧ f 11 = .s (.int .i64 l.length) ∧ f 12 = .s (.int .i64 i) ∧ H 3 = qRow q ∧ H 500005 = tRow (out ++ hits q (es.drop k)) := by
  intro n
  induction n with
  | zero =>
    intro k out h _
    have h0 : ¬ (k : Int) < (es.length : Int) := by omega
    rw [Loop_eq, drop_end (by omega)]
    simp -implicitDefEqProofs only [fns_24, c24, go_sem, Nat.reduceShiftRight, Nat.reduceAnd, reduceIte, reduceCtorEq, Nat.reduceEqDiff, Nat.reduceAdd, Nat.reduceMul, Nat.reduceSub, Nat.reduceLT, Nat.reduceLeDiff, Nat.reduceBEq, Nat.reduceBNe, Int.reduceToNat, Int.reduceLT, Int.reduceLE, Int.reduceEq, Int.reduceNe, Int.reduceMul, Int.reduceAdd, Int.reduceSub, Int.reduceNeg, c24_2, h0, hits, List.filter_nil, List.append_nil]
    exact ⟨_, _, rfl, rfl, rfl, rfl, rfl, rfl, rfl, rfl⟩
  | succ n ih =>
    intro k out h ho
    have h0 : (k : Int) < (es.length : Int) := by omega
    obtain ⟨x, hx⟩ := get_of_lt (l := es) (i := k) (by omega)
    have h8 : IntKind.i64.wrap ((k : Int) + 1) = ((k + 1 : Nat) : Int) := by rw [wrap64_id] <;> omega
    have hx2 := hE x (mem_get hx)
    have h1 := any_SpnC false x.spans 31 true (qC q) (matchQ q) rfl rfl hx2.1 (fun s hs => all1 q s true (hx2.2 s hs))
    have b1 : (out ++ [x.tr]).length * 16 ≤ 140737488355328 := by simp; omega
    simp only [qC] at h1
    rw [Loop_eq, drop_get hx]
    cases hk : hitE q x
    · have h7 := ih (k + 1) out (by omega) (by omega)
      have e : hits q (x :: es.drop (k + 1)) = hits q (es.drop (k + 1)) := by unfold hits; rw [List.filter_cons_of_neg (by simp [hk])]
      have hk' : (x.spans.any (matchQ q)) = false := hk
      rw [hk'] at h1
      rw [e]
      simp only [qRow, qC] at h7 ⊢
      simp -implicitDefEqProofs only [fns_24, c24, go_sem, Nat.reduceShiftRight, Nat.reduceAnd, reduceIte, reduceCtorEq, Nat.reduceEqDiff, Nat.reduceAdd, Nat.reduceMul, Nat.reduceSub, Nat.reduceLT, Nat.reduceLeDiff, Nat.reduceBEq, Nat.reduceBNe, Int.reduceToNat, Int.reduceLT, Int.reduceLE, Int.reduceEq, Int.reduceNe, Int.reduceMul, Int.reduceAdd, Int.reduceSub, Int.reduceNeg, c24_2, h0, getD_map epC hx, epC, h1, h8]
      exact h7
    · have h7 := ih (k + 1) (out ++ [x.tr]) (by omega) (by simp; omega)
      have e : hits q (x :: es.drop (k + 1)) = x.tr :: hits q (es.drop (k + 1)) := by unfold hits; rw [List.filter_cons_of_pos hk]; rfl
      have hk' : (x.spans.any (matchQ q)) = true := hk
      rw [hk'] at h1
      rw [e]
      simp only [List.append_assoc, List.singleton_append, qRow, qC] at h7 ⊢
      simp -implicitDefEqProofs only [fns_24, c24, go_sem, Nat.reduceShiftRight, Nat.reduceAnd, reduceIte, reduceCtorEq, Nat.reduceEqDiff, Nat.reduceAdd, Nat.reduceMul, Nat.reduceSub, Nat.reduceLT, Nat.reduceLeDiff, Nat.reduceBEq, Nat.reduceBNe, Int.reduceToNat, Int.reduceLT, Int.reduceLE, Int.reduceEq, Int.reduceNe, Int.reduceMul, Int.reduceAdd, Int.reduceSub, Int.reduceNeg, c24_2, h0, getD_map epC hx, epC, h1, b1, h8]
      exact h7
theorem AllOut (ln : Bool) (l : List Blo) (q : Qry) (hM : (l.length : Int) ≤ 1000) (hB : ∀ b ∈ l, b.eps.length ≤ 2000) (hE : ∀ b ∈ l, Eps b.eps) : ∀ (n i : Nat) (out : List Trc), i + n = l.length → out.length + n * 2000 ≤ 100000000 →
   ∃ f H, Pi.Loop (exec cx (Cal cx) c24_0) (Rst Try.prog ([(3, none), (5, some 27), (10, none), (11, none), (12, none)], [])) (St.mk (sF [(3, .ad 3 0 0 0), (5, .sl 500005 0 0 out.length), (10, .sh ln (l.map bkC)), (11, .s (.int .i64 l.length)), (12, .s (.int .i64 i))]) (hF [(3, qRow q), (500005, tRow out)])) = some (.ex 0, St.mk f H) ∧
     f 5 = .sl 500005 0 0 (out ++ raw q (l.drop i)).length ∧ H 500005 = tRow (out ++ raw q (l.drop i)) ∧ H 37 = none := by
  intro n
  induction n with
  | zero =>
    intro i out h _
    have h0 : ¬ (i : Int) < (l.length : Int) := by omega
    rw [Loop_eq, drop_end (by omega)]
    simp -implicitDefEqProofs only [fns_24, c24, go_sem, Nat.reduceShiftRight, Nat.reduceAnd, reduceIte, reduceCtorEq, Nat.reduceEqDiff, Nat.reduceAdd, Nat.reduceMul, Nat.reduceSub, Nat.reduceLT, Nat.reduceLeDiff, Nat.reduceBEq, Nat.reduceBNe, Int.reduceToNat, Int.reduceLT, Int.reduceLE, Int.reduceEq, Int.reduceNe, Int.reduceMul, Int.reduceAdd, Int.reduceSub, Int.reduceNeg, c24_0, h0, raw, List.flatMap_nil, List.append_nil]
    exact ⟨_, _, rfl, rfl, rfl, rfl⟩
  | succ n ih =>
    intro i out h ho
    have h0 : (i : Int) < (l.length : Int) := by omega
    obtain ⟨x, hx⟩ := get_of_lt (l := l) (i := i) (by omega)
    have h8 : IntKind.i64.wrap ((i : Int) + 1) = ((i + 1 : Nat) : Int) := by rw [wrap64_id] <;> omega
    have hb := hB x (mem_get hx)
    have hl : (hits q x.eps).length ≤ 2000 := by unfold hits; rw [List.length_map]; exact Nat.le_trans (List.length_filter_le _ _) hb
    obtain ⟨f, H, g1, g2, g3, g4, g5, g6, g7, g8⟩ := AllIn ln l q i x.eps (by omega) (hE x (mem_get hx)) x.eps.length 0 out (by omega) (by omega)
    have h7 := ih (i + 1) (out ++ hits q x.eps) (by omega) (by rw [List.length_append]; omega)
    have e : raw q (x :: l.drop (i + 1)) = hits q x.eps ++ raw q (l.drop (i + 1)) := rfl
    simp only [Int.cast_ofNat_Int, List.drop_zero, qRow, qC, tRow] at g1 g3 g7 g8
    rw [Loop_eq, drop_get hx, e]
    simp only [List.append_assoc, qRow, qC] at h7 ⊢
    simp -implicitDefEqProofs only [fns_24, c24, go_sem, Nat.reduceShiftRight, Nat.reduceAnd, reduceIte, reduceCtorEq, Nat.reduceEqDiff, Nat.reduceAdd, Nat.reduceMul, Nat.reduceSub, Nat.reduceLT, Nat.reduceLeDiff, Nat.reduceBEq, Nat.reduceBNe, Int.reduceToNat, Int.reduceLT, Int.reduceLE, Int.reduceEq, Int.reduceNe, Int.reduceMul, Int.reduceAdd, Int.reduceSub, Int.reduceNeg, c24_0, h0, getD_map bkC hx, bkC, g1, g2, g3, g4, g5, g6, g7, g8, h8]
    exact h7
end Go.Proofs.Ytihiakgpegfghaa
