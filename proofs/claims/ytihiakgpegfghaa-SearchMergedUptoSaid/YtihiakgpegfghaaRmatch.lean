/- Searching: which spans a query asks for. Own work. -/
import Derived.Test.YtihiakgpegfghaaRseek
import Derived.Test.YtihiakgpegfghaaRfewb
set_option linter.unusedVariables false
set_option linter.unusedSimpArgs false
namespace Go.Pi
structure Qry where
  svc : ByteArray
  op : ByteArray
  key : ByteArray
  val : ByteArray
  dur : Int
  err : Bool
def qC (q : Qry) : List PV := [.s (.string q.svc), .s (.string q.op), .s (.string q.key), .s (.string q.val), .s (.int .i64 q.dur), .s (.bool q.err)]
@[go_sem] theorem len_qC (q : Qry) : (qC q).length = 6 := rfl
abbrev emp : ByteArray := ⟨#[]⟩
def eqAt (a b : Atr) : Bool := decide (a.key = b.key) && decide (a.val = b.val)
def offS (q : Qry) (s : Spn) : Bool := (!decide (q.svc = emp) && !decide (q.svc = s.svc)) || (!decide (q.op = emp) && !decide (q.op = s.op))
def offD (q : Qry) (s : Spn) : Bool := (!decide (q.dur = 0) && decide (s.dur < q.dur)) || (q.err && !s.err)
def hasA (q : Qry) (l : List Atr) : Bool := (decide (q.key = emp) && decide (q.val = emp)) || l.any (eqAt ⟨q.key, q.val⟩)
def matchQ (q : Qry) (s : Spn) : Bool := !offS q s && !offD q s && hasA q s.attrs
abbrev noQ : Qry := ⟨emp, emp, emp, emp, 0, false⟩
end Go.Pi
namespace Go.Proofs.Ytihiakgpegfghaa
open Go Go.Pi
set_option maxHeartbeats 2000000
set_option maxRecDepth 10000
theorem resB {a b : Bool} (h : a = b) : some ([PV.s (.bool a)], ([] : List PV)) = some ([PV.s (.bool b)], []) := by rw [h]
theorem IdxAtL (ln : Bool) (l : List Atr) (a : Atr) (hM : (l.length : Int) ≤ 9223372036854775807) : ∀ (n i : Nat), i + n = l.length →
   ∃ f H, Pi.Loop (exec cx (Cal cx) c29_0) (Rst Try.prog ([(0, none), (3, none), (7, none), (8, none)], [])) (St.mk (sF [(0, .sh ln (l.map atC)), (3, .ad 3 0 0 0), (7, .s (.int .i64 l.length)), (8, .s (.int .i64 i))]) (hF [(3, some (.row 0 54 2 true [atC a]))])) = some ((match fi (eqAt a) (l.drop i) i with | none => .ex 0 | some _ => .ret), St.mk f H) ∧ ∀ j, fi (eqAt a) (l.drop i) i = some j → f 4 = .s (.int .i64 j) := by
  intro n
  induction n with
  | zero =>
    intro i h
    have h0 : ¬ (i : Int) < (l.length : Int) := by omega
    rw [Loop_eq, drop_end (by omega)]
    simp -implicitDefEqProofs only [fns_29, c29, go_sem, Nat.reduceShiftRight, Nat.reduceAnd, reduceIte, reduceCtorEq, Nat.reduceEqDiff, Nat.reduceAdd, Nat.reduceMul, Nat.reduceSub, Nat.reduceLT, Nat.reduceLeDiff, Nat.reduceBEq, Nat.reduceBNe, Int.reduceToNat, Int.reduceLT, Int.reduceLE, Int.reduceEq, Int.reduceNe, Int.reduceMul, Int.reduceAdd, Int.reduceSub, Int.reduceNeg, c29_0, h0, fi]
    first | exact ⟨_, _, rfl, fun j hj => by cases hj⟩ | exact ⟨_, _, rfl⟩
  | succ n ih =>
    intro i h
    have h0 : (i : Int) < (l.length : Int) := by omega
    obtain ⟨x, hx⟩ := get_of_lt (l := l) (i := i) (by omega)
    have h7 := ih (i + 1) (by omega)
    have h8 : IntKind.i64.wrap ((i : Int) + 1) = ((i + 1 : Nat) : Int) := by rw [wrap64_id] <;> omega
    rw [Loop_eq, drop_get hx]
    by_cases hp : a.key = x.key
    · by_cases hq : a.val = x.val
      · have e : eqAt a x = true := by simp [eqAt, hp, hq]
        simp -implicitDefEqProofs only [fns_29, c29, go_sem, Nat.reduceShiftRight, Nat.reduceAnd, reduceIte, reduceCtorEq, Nat.reduceEqDiff, Nat.reduceAdd, Nat.reduceMul, Nat.reduceSub, Nat.reduceLT, Nat.reduceLeDiff, Nat.reduceBEq, Nat.reduceBNe, Int.reduceToNat, Int.reduceLT, Int.reduceLE, Int.reduceEq, Int.reduceNe, Int.reduceMul, Int.reduceAdd, Int.reduceSub, Int.reduceNeg, c29_0, h0, getD_map atC hx, atC, hp, hq, fi, e]
        first | exact ⟨_, _, rfl, fun j hj => by cases hj; rfl⟩ | exact ⟨_, _, rfl, rfl⟩
      · have e : eqAt a x = false := by simp [eqAt, hp, hq]
        simp only [atC] at h7
        simp -implicitDefEqProofs only [fns_29, c29, go_sem, Nat.reduceShiftRight, Nat.reduceAnd, reduceIte, reduceCtorEq, Nat.reduceEqDiff, Nat.reduceAdd, Nat.reduceMul, Nat.reduceSub, Nat.reduceLT, Nat.reduceLeDiff, Nat.reduceBEq, Nat.reduceBNe, Int.reduceToNat, Int.reduceLT, Int.reduceLE, Int.reduceEq, Int.reduceNe, Int.reduceMul, Int.reduceAdd, Int.reduceSub, Int.reduceNeg, c29_0, h0, getD_map atC hx, atC, hp, hq, fi, e, h8]
        rw [← hp]
        exact h7
    · have e : eqAt a x = false := by simp [eqAt, hp]
      simp only [atC] at h7
      simp -implicitDefEqProofs only [fns_29, c29, go_sem, Nat.reduceShiftRight, Nat.reduceAnd, reduceIte, reduceCtorEq, Nat.reduceEqDiff, Nat.reduceAdd, Nat.reduceMul, Nat.reduceSub, Nat.reduceLT, Nat.reduceLeDiff, Nat.reduceBEq, Nat.reduceBNe, Int.reduceToNat, Int.reduceLT, Int.reduceLE, Int.reduceEq, Int.reduceNe, Int.reduceMul, Int.reduceAdd, Int.reduceSub, Int.reduceNeg, c29_0, h0, getD_map atC hx, atC, hp, fi, e, h8]
      exact h7
theorem IdxAt (ln : Bool) (l : List Atr) (a : Atr) (hM : (l.length : Int) ≤ 9223372036854775807) : Cal cx 29 [.sh ln (l.map atC), .ag (atC a)] = some ([.s (.int .i64 (fiV (fi (eqAt a) l 0)))], []) := by
  obtain ⟨f, H, h1, h2⟩ := IdxAtL ln l a hM l.length 0 (by omega)
  simp only [Int.ofNat_zero, List.drop_zero, atC] at h1 h2
  rw [Cal_eq]
  simp -implicitDefEqProofs only [fns_29, c29, go_sem, Nat.reduceShiftRight, Nat.reduceAnd, reduceIte, reduceCtorEq, Nat.reduceEqDiff, Nat.reduceAdd, Nat.reduceMul, Nat.reduceSub, Nat.reduceLT, Nat.reduceLeDiff, Nat.reduceBEq, Nat.reduceBNe, Int.reduceToNat, Int.reduceLT, Int.reduceLE, Int.reduceEq, Int.reduceNe, Int.reduceMul, Int.reduceAdd, Int.reduceSub, Int.reduceNeg, atC]
  rw [h1]
  cases hf : fi (eqAt a) l 0 with
  | none => simp -implicitDefEqProofs only [fns_29, c29, go_sem, Nat.reduceShiftRight, Nat.reduceAnd, reduceIte, reduceCtorEq, Nat.reduceEqDiff, Nat.reduceAdd, Nat.reduceMul, Nat.reduceSub, Nat.reduceLT, Nat.reduceLeDiff, Nat.reduceBEq, Nat.reduceBNe, Int.reduceToNat, Int.reduceLT, Int.reduceLE, Int.reduceEq, Int.reduceNe, Int.reduceMul, Int.reduceAdd, Int.reduceSub, Int.reduceNeg, fiV]
  | some j =>
    have h3 := h2 j hf
    simp -implicitDefEqProofs only [fns_29, c29, go_sem, Nat.reduceShiftRight, Nat.reduceAnd, reduceIte, reduceCtorEq, Nat.reduceEqDiff, Nat.reduceAdd, Nat.reduceMul, Nat.reduceSub, Nat.reduceLT, Nat.reduceLeDiff, Nat.reduceBEq, Nat.reduceBNe, Int.reduceToNat, Int.reduceLT, Int.reduceLE, Int.reduceEq, Int.reduceNe, Int.reduceMul, Int.reduceAdd, Int.reduceSub, Int.reduceNeg, fiV, h3]
theorem ContAt (ln : Bool) (l : List Atr) (a : Atr) (hM : (l.length : Int) ≤ 9223372036854775807) : Cal cx 23 [.sh ln (l.map atC), .ag (atC a)] = some ([.s (.bool (l.any (eqAt a)))], []) := by
  have h1 := IdxAt ln l a hM
  simp only [atC] at h1
  rw [Cal_eq]
  simp -implicitDefEqProofs only [fns_23, c23, go_sem, Nat.reduceShiftRight, Nat.reduceAnd, reduceIte, reduceCtorEq, Nat.reduceEqDiff, Nat.reduceAdd, Nat.reduceMul, Nat.reduceSub, Nat.reduceLT, Nat.reduceLeDiff, Nat.reduceBEq, Nat.reduceBNe, Int.reduceToNat, Int.reduceLT, Int.reduceLE, Int.reduceEq, Int.reduceNe, Int.reduceMul, Int.reduceAdd, Int.reduceSub, Int.reduceNeg, atC, h1, fi_any]
theorem tri (p r : Prop) : p ∨ (¬p ∧ r) ∨ (¬p ∧ ¬ r) := by
  by_cases h : p
  · exact .inl h
  · by_cases h2 : r
    · exact .inr (.inl ⟨h, h2⟩)
    · exact .inr (.inr ⟨h, h2⟩)
theorem triB (p r : Bool) : p = false ∨ (p = true ∧ r = true) ∨ (p = true ∧ r = false) := by cases p <;> cases r <;> simp
theorem MatchA (q : Qry) (s : Spn) (f : Nat → PV) (H : Heap) (h2 : f 2 = .ad 2 0 0 0) (h3 : f 3 = .ad 3 0 0 0) (k2 : H 2 = some (.row 0 24 6 true [qC q])) (k3 : H 3 = some (.row 0 30 10 true [spC s])) :
    ∃ f', runOps cx (Cal cx) c11_g1 ⟨f, H⟩ = some ⟨f', H⟩ ∧ f' 2 = .ad 2 0 0 0 ∧ f' 3 = .ad 3 0 0 0 ∧ f' 4 = f 4 ∧ f' 5 = .s (.bool (offS q s)) := by
  rcases tri (q.svc = emp) (q.svc = s.svc) with a | ⟨a, a'⟩ | ⟨a, a'⟩
  · rcases tri (q.op = emp) (q.op = s.op) with b | ⟨b, b'⟩ | ⟨b, b'⟩
    · · have e : (offS q s) = false := by simp [offS, offD, a, b]
        rw [e]
        simp -implicitDefEqProofs only [c11_g1, go_sem, Nat.reduceShiftRight, Nat.reduceAnd, reduceIte, reduceCtorEq, Nat.reduceEqDiff, Nat.reduceAdd, Nat.reduceMul, Nat.reduceSub, Nat.reduceLT, Nat.reduceLeDiff, Nat.reduceBEq, Nat.reduceBNe, Int.reduceToNat, Int.reduceLT, Int.reduceLE, Int.reduceEq, Int.reduceNe, Int.reduceMul, Int.reduceAdd, Int.reduceSub, Int.reduceNeg, h2, h3, k2, k3, qC, spC, a, b]
        exact ⟨_, rfl, h2, h3, rfl, rfl⟩
    · have b2 : ¬ s.op = emp := by rw [← b']; exact b
      have e : (offS q s) = false := by simp [offS, offD, a, b, b', b2]
      rw [e]
      simp -implicitDefEqProofs only [c11_g1, go_sem, Nat.reduceShiftRight, Nat.reduceAnd, reduceIte, reduceCtorEq, Nat.reduceEqDiff, Nat.reduceAdd, Nat.reduceMul, Nat.reduceSub, Nat.reduceLT, Nat.reduceLeDiff, Nat.reduceBEq, Nat.reduceBNe, Int.reduceToNat, Int.reduceLT, Int.reduceLE, Int.reduceEq, Int.reduceNe, Int.reduceMul, Int.reduceAdd, Int.reduceSub, Int.reduceNeg, h2, h3, k2, k3, qC, spC, a, b, b', b2]
      exact ⟨_, rfl, h2, h3, rfl, rfl⟩
    · have e : (offS q s) = true := by simp [offS, offD, a, b, b']
      rw [e]
      simp -implicitDefEqProofs only [c11_g1, go_sem, Nat.reduceShiftRight, Nat.reduceAnd, reduceIte, reduceCtorEq, Nat.reduceEqDiff, Nat.reduceAdd, Nat.reduceMul, Nat.reduceSub, Nat.reduceLT, Nat.reduceLeDiff, Nat.reduceBEq, Nat.reduceBNe, Int.reduceToNat, Int.reduceLT, Int.reduceLE, Int.reduceEq, Int.reduceNe, Int.reduceMul, Int.reduceAdd, Int.reduceSub, Int.reduceNeg, h2, h3, k2, k3, qC, spC, a, b, b']
      exact ⟨_, rfl, h2, h3, rfl, rfl⟩
  · have a2 : ¬ s.svc = emp := by rw [← a']; exact a
    rcases tri (q.op = emp) (q.op = s.op) with b | ⟨b, b'⟩ | ⟨b, b'⟩
    · · have e : (offS q s) = false := by simp [offS, offD, a, a', a2, b]
        rw [e]
        simp -implicitDefEqProofs only [c11_g1, go_sem, Nat.reduceShiftRight, Nat.reduceAnd, reduceIte, reduceCtorEq, Nat.reduceEqDiff, Nat.reduceAdd, Nat.reduceMul, Nat.reduceSub, Nat.reduceLT, Nat.reduceLeDiff, Nat.reduceBEq, Nat.reduceBNe, Int.reduceToNat, Int.reduceLT, Int.reduceLE, Int.reduceEq, Int.reduceNe, Int.reduceMul, Int.reduceAdd, Int.reduceSub, Int.reduceNeg, h2, h3, k2, k3, qC, spC, a, a', a2, b]
        exact ⟨_, rfl, h2, h3, rfl, rfl⟩
    · have b2 : ¬ s.op = emp := by rw [← b']; exact b
      have e : (offS q s) = false := by simp [offS, offD, a, a', a2, b, b', b2]
      rw [e]
      simp -implicitDefEqProofs only [c11_g1, go_sem, Nat.reduceShiftRight, Nat.reduceAnd, reduceIte, reduceCtorEq, Nat.reduceEqDiff, Nat.reduceAdd, Nat.reduceMul, Nat.reduceSub, Nat.reduceLT, Nat.reduceLeDiff, Nat.reduceBEq, Nat.reduceBNe, Int.reduceToNat, Int.reduceLT, Int.reduceLE, Int.reduceEq, Int.reduceNe, Int.reduceMul, Int.reduceAdd, Int.reduceSub, Int.reduceNeg, h2, h3, k2, k3, qC, spC, a, a', a2, b, b', b2]
      exact ⟨_, rfl, h2, h3, rfl, rfl⟩
    · have e : (offS q s) = true := by simp [offS, offD, a, a', a2, b, b']
      rw [e]
      simp -implicitDefEqProofs only [c11_g1, go_sem, Nat.reduceShiftRight, Nat.reduceAnd, reduceIte, reduceCtorEq, Nat.reduceEqDiff, Nat.reduceAdd, Nat.reduceMul, Nat.reduceSub, Nat.reduceLT, Nat.reduceLeDiff, Nat.reduceBEq, Nat.reduceBNe, Int.reduceToNat, Int.reduceLT, Int.reduceLE, Int.reduceEq, Int.reduceNe, Int.reduceMul, Int.reduceAdd, Int.reduceSub, Int.reduceNeg, h2, h3, k2, k3, qC, spC, a, a', a2, b, b']
      exact ⟨_, rfl, h2, h3, rfl, rfl⟩
  · have e : (offS q s) = true := by simp [offS, offD, a, a']
    rw [e]
    simp -implicitDefEqProofs only [c11_g1, go_sem, Nat.reduceShiftRight, Nat.reduceAnd, reduceIte, reduceCtorEq, Nat.reduceEqDiff, Nat.reduceAdd, Nat.reduceMul, Nat.reduceSub, Nat.reduceLT, Nat.reduceLeDiff, Nat.reduceBEq, Nat.reduceBNe, Int.reduceToNat, Int.reduceLT, Int.reduceLE, Int.reduceEq, Int.reduceNe, Int.reduceMul, Int.reduceAdd, Int.reduceSub, Int.reduceNeg, h2, h3, k2, k3, qC, spC, a, a']
    exact ⟨_, rfl, h2, h3, rfl, rfl⟩
theorem MatchB (q : Qry) (s : Spn) (f : Nat → PV) (H : Heap) (h2 : f 2 = .ad 2 0 0 0) (h3 : f 3 = .ad 3 0 0 0) (k2 : H 2 = some (.row 0 24 6 true [qC q])) (k3 : H 3 = some (.row 0 30 10 true [spC s])) :
    ∃ f', runOps cx (Cal cx) c11_g3 ⟨f, H⟩ = some ⟨f', H⟩ ∧ f' 2 = .ad 2 0 0 0 ∧ f' 3 = .ad 3 0 0 0 ∧ f' 4 = f 4 ∧ f' 28 = .s (.bool (offD q s)) := by
  rcases tri (q.dur = 0) (¬ s.dur < q.dur) with c | ⟨c, c'⟩ | ⟨c, c'⟩
  · rcases triB q.err s.err with d | ⟨d, d'⟩ | ⟨d, d'⟩
    · · have e : (offD q s) = false := by simp [offS, offD, c, d]
        rw [e]
        simp -implicitDefEqProofs only [c11_g3, go_sem, Nat.reduceShiftRight, Nat.reduceAnd, reduceIte, reduceCtorEq, Nat.reduceEqDiff, Nat.reduceAdd, Nat.reduceMul, Nat.reduceSub, Nat.reduceLT, Nat.reduceLeDiff, Nat.reduceBEq, Nat.reduceBNe, Int.reduceToNat, Int.reduceLT, Int.reduceLE, Int.reduceEq, Int.reduceNe, Int.reduceMul, Int.reduceAdd, Int.reduceSub, Int.reduceNeg, h2, h3, k2, k3, qC, spC, c, d]
        exact ⟨_, rfl, h2, h3, rfl, rfl⟩
    · · have e : (offD q s) = false := by simp [offS, offD, c, d, d']
        rw [e]
        simp -implicitDefEqProofs only [c11_g3, go_sem, Nat.reduceShiftRight, Nat.reduceAnd, reduceIte, reduceCtorEq, Nat.reduceEqDiff, Nat.reduceAdd, Nat.reduceMul, Nat.reduceSub, Nat.reduceLT, Nat.reduceLeDiff, Nat.reduceBEq, Nat.reduceBNe, Int.reduceToNat, Int.reduceLT, Int.reduceLE, Int.reduceEq, Int.reduceNe, Int.reduceMul, Int.reduceAdd, Int.reduceSub, Int.reduceNeg, h2, h3, k2, k3, qC, spC, c, d, d']
        exact ⟨_, rfl, h2, h3, rfl, rfl⟩
    · have e : (offD q s) = true := by simp [offS, offD, c, d, d']
      rw [e]
      simp -implicitDefEqProofs only [c11_g3, go_sem, Nat.reduceShiftRight, Nat.reduceAnd, reduceIte, reduceCtorEq, Nat.reduceEqDiff, Nat.reduceAdd, Nat.reduceMul, Nat.reduceSub, Nat.reduceLT, Nat.reduceLeDiff, Nat.reduceBEq, Nat.reduceBNe, Int.reduceToNat, Int.reduceLT, Int.reduceLE, Int.reduceEq, Int.reduceNe, Int.reduceMul, Int.reduceAdd, Int.reduceSub, Int.reduceNeg, h2, h3, k2, k3, qC, spC, c, d, d']
      exact ⟨_, rfl, h2, h3, rfl, rfl⟩
  · rcases triB q.err s.err with d | ⟨d, d'⟩ | ⟨d, d'⟩
    · · have e : (offD q s) = false := by simp [offS, offD, c, c', d]
        rw [e]
        simp -implicitDefEqProofs only [c11_g3, go_sem, Nat.reduceShiftRight, Nat.reduceAnd, reduceIte, reduceCtorEq, Nat.reduceEqDiff, Nat.reduceAdd, Nat.reduceMul, Nat.reduceSub, Nat.reduceLT, Nat.reduceLeDiff, Nat.reduceBEq, Nat.reduceBNe, Int.reduceToNat, Int.reduceLT, Int.reduceLE, Int.reduceEq, Int.reduceNe, Int.reduceMul, Int.reduceAdd, Int.reduceSub, Int.reduceNeg, h2, h3, k2, k3, qC, spC, c, c', d]
        exact ⟨_, rfl, h2, h3, rfl, rfl⟩
    · · have e : (offD q s) = false := by simp [offS, offD, c, c', d, d']
        rw [e]
        simp -implicitDefEqProofs only [c11_g3, go_sem, Nat.reduceShiftRight, Nat.reduceAnd, reduceIte, reduceCtorEq, Nat.reduceEqDiff, Nat.reduceAdd, Nat.reduceMul, Nat.reduceSub, Nat.reduceLT, Nat.reduceLeDiff, Nat.reduceBEq, Nat.reduceBNe, Int.reduceToNat, Int.reduceLT, Int.reduceLE, Int.reduceEq, Int.reduceNe, Int.reduceMul, Int.reduceAdd, Int.reduceSub, Int.reduceNeg, h2, h3, k2, k3, qC, spC, c, c', d, d']
        exact ⟨_, rfl, h2, h3, rfl, rfl⟩
    · have e : (offD q s) = true := by simp [offS, offD, c, c', d, d']
      rw [e]
      simp -implicitDefEqProofs only [c11_g3, go_sem, Nat.reduceShiftRight, Nat.reduceAnd, reduceIte, reduceCtorEq, Nat.reduceEqDiff, Nat.reduceAdd, Nat.reduceMul, Nat.reduceSub, Nat.reduceLT, Nat.reduceLeDiff, Nat.reduceBEq, Nat.reduceBNe, Int.reduceToNat, Int.reduceLT, Int.reduceLE, Int.reduceEq, Int.reduceNe, Int.reduceMul, Int.reduceAdd, Int.reduceSub, Int.reduceNeg, h2, h3, k2, k3, qC, spC, c, c', d, d']
      exact ⟨_, rfl, h2, h3, rfl, rfl⟩
  · have c'' : s.dur < q.dur := Classical.not_not.1 c'
    have e : (offD q s) = true := by simp [offS, offD, c, c'']
    rw [e]
    simp -implicitDefEqProofs only [c11_g3, go_sem, Nat.reduceShiftRight, Nat.reduceAnd, reduceIte, reduceCtorEq, Nat.reduceEqDiff, Nat.reduceAdd, Nat.reduceMul, Nat.reduceSub, Nat.reduceLT, Nat.reduceLeDiff, Nat.reduceBEq, Nat.reduceBNe, Int.reduceToNat, Int.reduceLT, Int.reduceLE, Int.reduceEq, Int.reduceNe, Int.reduceMul, Int.reduceAdd, Int.reduceSub, Int.reduceNeg, h2, h3, k2, k3, qC, spC, c, c'']
    exact ⟨_, rfl, h2, h3, rfl, rfl⟩
theorem MatchR (q : Qry) (s : Spn) (f : Nat → PV) (H : Heap) (h2 : f 2 = .ad 2 0 0 0) (h3 : f 3 = .ad 3 0 0 0) (k2 : H 2 = some (.row 0 24 6 true [qC q])) (k3 : H 3 = some (.row 0 30 10 true [spC s])) :
    ∃ f', runOps cx (Cal cx) c12_g1 ⟨f, H⟩ = some ⟨f', H⟩ ∧ f' 2 = .ad 2 0 0 0 ∧ f' 3 = .ad 3 0 0 0 ∧ f' 4 = f 4 ∧ f' 49 = .s (.bool (offS q s || offD q s)) := by
  rcases tri (q.svc = emp) (q.svc = s.svc) with a | ⟨a, a'⟩ | ⟨a, a'⟩
  · rcases tri (q.op = emp) (q.op = s.op) with b | ⟨b, b'⟩ | ⟨b, b'⟩
    · rcases tri (q.dur = 0) (¬ s.dur < q.dur) with c | ⟨c, c'⟩ | ⟨c, c'⟩
      · rcases triB q.err s.err with d | ⟨d, d'⟩ | ⟨d, d'⟩
        · · have e : (offS q s || offD q s) = false := by simp [offS, offD, a, b, c, d]
            rw [e]
            simp -implicitDefEqProofs only [c12_g1, go_sem, Nat.reduceShiftRight, Nat.reduceAnd, reduceIte, reduceCtorEq, Nat.reduceEqDiff, Nat.reduceAdd, Nat.reduceMul, Nat.reduceSub, Nat.reduceLT, Nat.reduceLeDiff, Nat.reduceBEq, Nat.reduceBNe, Int.reduceToNat, Int.reduceLT, Int.reduceLE, Int.reduceEq, Int.reduceNe, Int.reduceMul, Int.reduceAdd, Int.reduceSub, Int.reduceNeg, h2, h3, k2, k3, qC, spC, a, b, c, d]
            exact ⟨_, rfl, h2, h3, rfl, rfl⟩
        · · have e : (offS q s || offD q s) = false := by simp [offS, offD, a, b, c, d, d']
            rw [e]
            simp -implicitDefEqProofs only [c12_g1, go_sem, Nat.reduceShiftRight, Nat.reduceAnd, reduceIte, reduceCtorEq, Nat.reduceEqDiff, Nat.reduceAdd, Nat.reduceMul, Nat.reduceSub, Nat.reduceLT, Nat.reduceLeDiff, Nat.reduceBEq, Nat.reduceBNe, Int.reduceToNat, Int.reduceLT, Int.reduceLE, Int.reduceEq, Int.reduceNe, Int.reduceMul, Int.reduceAdd, Int.reduceSub, Int.reduceNeg, h2, h3, k2, k3, qC, spC, a, b, c, d, d']
            exact ⟨_, rfl, h2, h3, rfl, rfl⟩
        · have e : (offS q s || offD q s) = true := by simp [offS, offD, a, b, c, d, d']
          rw [e]
          simp -implicitDefEqProofs only [c12_g1, go_sem, Nat.reduceShiftRight, Nat.reduceAnd, reduceIte, reduceCtorEq, Nat.reduceEqDiff, Nat.reduceAdd, Nat.reduceMul, Nat.reduceSub, Nat.reduceLT, Nat.reduceLeDiff, Nat.reduceBEq, Nat.reduceBNe, Int.reduceToNat, Int.reduceLT, Int.reduceLE, Int.reduceEq, Int.reduceNe, Int.reduceMul, Int.reduceAdd, Int.reduceSub, Int.reduceNeg, h2, h3, k2, k3, qC, spC, a, b, c, d, d']
          exact ⟨_, rfl, h2, h3, rfl, rfl⟩
      · rcases triB q.err s.err with d | ⟨d, d'⟩ | ⟨d, d'⟩
        · · have e : (offS q s || offD q s) = false := by simp [offS, offD, a, b, c, c', d]
            rw [e]
            simp -implicitDefEqProofs only [c12_g1, go_sem, Nat.reduceShiftRight, Nat.reduceAnd, reduceIte, reduceCtorEq, Nat.reduceEqDiff, Nat.reduceAdd, Nat.reduceMul, Nat.reduceSub, Nat.reduceLT, Nat.reduceLeDiff, Nat.reduceBEq, Nat.reduceBNe, Int.reduceToNat, Int.reduceLT, Int.reduceLE, Int.reduceEq, Int.reduceNe, Int.reduceMul, Int.reduceAdd, Int.reduceSub, Int.reduceNeg, h2, h3, k2, k3, qC, spC, a, b, c, c', d]
            exact ⟨_, rfl, h2, h3, rfl, rfl⟩
        · · have e : (offS q s || offD q s) = false := by simp [offS, offD, a, b, c, c', d, d']
            rw [e]
            simp -implicitDefEqProofs only [c12_g1, go_sem, Nat.reduceShiftRight, Nat.reduceAnd, reduceIte, reduceCtorEq, Nat.reduceEqDiff, Nat.reduceAdd, Nat.reduceMul, Nat.reduceSub, Nat.reduceLT, Nat.reduceLeDiff, Nat.reduceBEq, Nat.reduceBNe, Int.reduceToNat, Int.reduceLT, Int.reduceLE, Int.reduceEq, Int.reduceNe, Int.reduceMul, Int.reduceAdd, Int.reduceSub, Int.reduceNeg, h2, h3, k2, k3, qC, spC, a, b, c, c', d, d']
            exact ⟨_, rfl, h2, h3, rfl, rfl⟩
        · have e : (offS q s || offD q s) = true := by simp [offS, offD, a, b, c, c', d, d']
          rw [e]
          simp -implicitDefEqProofs only [c12_g1, go_sem, Nat.reduceShiftRight, Nat.reduceAnd, reduceIte, reduceCtorEq, Nat.reduceEqDiff, Nat.reduceAdd, Nat.reduceMul, Nat.reduceSub, Nat.reduceLT, Nat.reduceLeDiff, Nat.reduceBEq, Nat.reduceBNe, Int.reduceToNat, Int.reduceLT, Int.reduceLE, Int.reduceEq, Int.reduceNe, Int.reduceMul, Int.reduceAdd, Int.reduceSub, Int.reduceNeg, h2, h3, k2, k3, qC, spC, a, b, c, c', d, d']
          exact ⟨_, rfl, h2, h3, rfl, rfl⟩
      · have c'' : s.dur < q.dur := Classical.not_not.1 c'
        have e : (offS q s || offD q s) = true := by simp [offS, offD, a, b, c, c'']
        rw [e]
        simp -implicitDefEqProofs only [c12_g1, go_sem, Nat.reduceShiftRight, Nat.reduceAnd, reduceIte, reduceCtorEq, Nat.reduceEqDiff, Nat.reduceAdd, Nat.reduceMul, Nat.reduceSub, Nat.reduceLT, Nat.reduceLeDiff, Nat.reduceBEq, Nat.reduceBNe, Int.reduceToNat, Int.reduceLT, Int.reduceLE, Int.reduceEq, Int.reduceNe, Int.reduceMul, Int.reduceAdd, Int.reduceSub, Int.reduceNeg, h2, h3, k2, k3, qC, spC, a, b, c, c'']
        exact ⟨_, rfl, h2, h3, rfl, rfl⟩
    · have b2 : ¬ s.op = emp := by rw [← b']; exact b
      rcases tri (q.dur = 0) (¬ s.dur < q.dur) with c | ⟨c, c'⟩ | ⟨c, c'⟩
      · rcases triB q.err s.err with d | ⟨d, d'⟩ | ⟨d, d'⟩
        · · have e : (offS q s || offD q s) = false := by simp [offS, offD, a, b, b', b2, c, d]
            rw [e]
            simp -implicitDefEqProofs only [c12_g1, go_sem, Nat.reduceShiftRight, Nat.reduceAnd, reduceIte, reduceCtorEq, Nat.reduceEqDiff, Nat.reduceAdd, Nat.reduceMul, Nat.reduceSub, Nat.reduceLT, Nat.reduceLeDiff, Nat.reduceBEq, Nat.reduceBNe, Int.reduceToNat, Int.reduceLT, Int.reduceLE, Int.reduceEq, Int.reduceNe, Int.reduceMul, Int.reduceAdd, Int.reduceSub, Int.reduceNeg, h2, h3, k2, k3, qC, spC, a, b, b', b2, c, d]
            exact ⟨_, rfl, h2, h3, rfl, rfl⟩
        · · have e : (offS q s || offD q s) = false := by simp [offS, offD, a, b, b', b2, c, d, d']
            rw [e]
            simp -implicitDefEqProofs only [c12_g1, go_sem, Nat.reduceShiftRight, Nat.reduceAnd, reduceIte, reduceCtorEq, Nat.reduceEqDiff, Nat.reduceAdd, Nat.reduceMul, Nat.reduceSub, Nat.reduceLT, Nat.reduceLeDiff, Nat.reduceBEq, Nat.reduceBNe, Int.reduceToNat, Int.reduceLT, Int.reduceLE, Int.reduceEq, Int.reduceNe, Int.reduceMul, Int.reduceAdd, Int.reduceSub, Int.reduceNeg, h2, h3, k2, k3, qC, spC, a, b, b', b2, c, d, d']
            exact ⟨_, rfl, h2, h3, rfl, rfl⟩
        · have e : (offS q s || offD q s) = true := by simp [offS, offD, a, b, b', b2, c, d, d']
          rw [e]
          simp -implicitDefEqProofs only [c12_g1, go_sem, Nat.reduceShiftRight, Nat.reduceAnd, reduceIte, reduceCtorEq, Nat.reduceEqDiff, Nat.reduceAdd, Nat.reduceMul, Nat.reduceSub, Nat.reduceLT, Nat.reduceLeDiff, Nat.reduceBEq, Nat.reduceBNe, Int.reduceToNat, Int.reduceLT, Int.reduceLE, Int.reduceEq, Int.reduceNe, Int.reduceMul, Int.reduceAdd, Int.reduceSub, Int.reduceNeg, h2, h3, k2, k3, qC, spC, a, b, b', b2, c, d, d']
          exact ⟨_, rfl, h2, h3, rfl, rfl⟩
      · rcases triB q.err s.err with d | ⟨d, d'⟩ | ⟨d, d'⟩
        · · have e : (offS q s || offD q s) = false := by simp [offS, offD, a, b, b', b2, c, c', d]
            rw [e]
            simp -implicitDefEqProofs only [c12_g1, go_sem, Nat.reduceShiftRight, Nat.reduceAnd, reduceIte, reduceCtorEq, Nat.reduceEqDiff, Nat.reduceAdd, Nat.reduceMul, Nat.reduceSub, Nat.reduceLT, Nat.reduceLeDiff, Nat.reduceBEq, Nat.reduceBNe, Int.reduceToNat, Int.reduceLT, Int.reduceLE, Int.reduceEq, Int.reduceNe, Int.reduceMul, Int.reduceAdd, Int.reduceSub, Int.reduceNeg, h2, h3, k2, k3, qC, spC, a, b, b', b2, c, c', d]
            exact ⟨_, rfl, h2, h3, rfl, rfl⟩
        · · have e : (offS q s || offD q s) = false := by simp [offS, offD, a, b, b', b2, c, c', d, d']
            rw [e]
            simp -implicitDefEqProofs only [c12_g1, go_sem, Nat.reduceShiftRight, Nat.reduceAnd, reduceIte, reduceCtorEq, Nat.reduceEqDiff, Nat.reduceAdd, Nat.reduceMul, Nat.reduceSub, Nat.reduceLT, Nat.reduceLeDiff, Nat.reduceBEq, Nat.reduceBNe, Int.reduceToNat, Int.reduceLT, Int.reduceLE, Int.reduceEq, Int.reduceNe, Int.reduceMul, Int.reduceAdd, Int.reduceSub, Int.reduceNeg, h2, h3, k2, k3, qC, spC, a, b, b', b2, c, c', d, d']
            exact ⟨_, rfl, h2, h3, rfl, rfl⟩
        · have e : (offS q s || offD q s) = true := by simp [offS, offD, a, b, b', b2, c, c', d, d']
          rw [e]
          simp -implicitDefEqProofs only [c12_g1, go_sem, Nat.reduceShiftRight, Nat.reduceAnd, reduceIte, reduceCtorEq, Nat.reduceEqDiff, Nat.reduceAdd, Nat.reduceMul, Nat.reduceSub, Nat.reduceLT, Nat.reduceLeDiff, Nat.reduceBEq, Nat.reduceBNe, Int.reduceToNat, Int.reduceLT, Int.reduceLE, Int.reduceEq, Int.reduceNe, Int.reduceMul, Int.reduceAdd, Int.reduceSub, Int.reduceNeg, h2, h3, k2, k3, qC, spC, a, b, b', b2, c, c', d, d']
          exact ⟨_, rfl, h2, h3, rfl, rfl⟩
      · have c'' : s.dur < q.dur := Classical.not_not.1 c'
        have e : (offS q s || offD q s) = true := by simp [offS, offD, a, b, b', b2, c, c'']
        rw [e]
        simp -implicitDefEqProofs only [c12_g1, go_sem, Nat.reduceShiftRight, Nat.reduceAnd, reduceIte, reduceCtorEq, Nat.reduceEqDiff, Nat.reduceAdd, Nat.reduceMul, Nat.reduceSub, Nat.reduceLT, Nat.reduceLeDiff, Nat.reduceBEq, Nat.reduceBNe, Int.reduceToNat, Int.reduceLT, Int.reduceLE, Int.reduceEq, Int.reduceNe, Int.reduceMul, Int.reduceAdd, Int.reduceSub, Int.reduceNeg, h2, h3, k2, k3, qC, spC, a, b, b', b2, c, c'']
        exact ⟨_, rfl, h2, h3, rfl, rfl⟩
    · have e : (offS q s || offD q s) = true := by simp [offS, offD, a, b, b']
      rw [e]
      simp -implicitDefEqProofs only [c12_g1, go_sem, Nat.reduceShiftRight, Nat.reduceAnd, reduceIte, reduceCtorEq, Nat.reduceEqDiff, Nat.reduceAdd, Nat.reduceMul, Nat.reduceSub, Nat.reduceLT, Nat.reduceLeDiff, Nat.reduceBEq, Nat.reduceBNe, Int.reduceToNat, Int.reduceLT, Int.reduceLE, Int.reduceEq, Int.reduceNe, Int.reduceMul, Int.reduceAdd, Int.reduceSub, Int.reduceNeg, h2, h3, k2, k3, qC, spC, a, b, b']
      exact ⟨_, rfl, h2, h3, rfl, rfl⟩
  · have a2 : ¬ s.svc = emp := by rw [← a']; exact a
    rcases tri (q.op = emp) (q.op = s.op) with b | ⟨b, b'⟩ | ⟨b, b'⟩
    · rcases tri (q.dur = 0) (¬ s.dur < q.dur) with c | ⟨c, c'⟩ | ⟨c, c'⟩
      · rcases triB q.err s.err with d | ⟨d, d'⟩ | ⟨d, d'⟩
        · · have e : (offS q s || offD q s) = false := by simp [offS, offD, a, a', a2, b, c, d]
            rw [e]
            simp -implicitDefEqProofs only [c12_g1, go_sem, Nat.reduceShiftRight, Nat.reduceAnd, reduceIte, reduceCtorEq, Nat.reduceEqDiff, Nat.reduceAdd, Nat.reduceMul, Nat.reduceSub, Nat.reduceLT, Nat.reduceLeDiff, Nat.reduceBEq, Nat.reduceBNe, Int.reduceToNat, Int.reduceLT, Int.reduceLE, Int.reduceEq, Int.reduceNe, Int.reduceMul, Int.reduceAdd, Int.reduceSub, Int.reduceNeg, h2, h3, k2, k3, qC, spC, a, a', a2, b, c, d]
            exact ⟨_, rfl, h2, h3, rfl, rfl⟩
        · · have e : (offS q s || offD q s) = false := by simp [offS, offD, a, a', a2, b, c, d, d']
            rw [e]
            simp -implicitDefEqProofs only [c12_g1, go_sem, Nat.reduceShiftRight, Nat.reduceAnd, reduceIte, reduceCtorEq, Nat.reduceEqDiff, Nat.reduceAdd, Nat.reduceMul, Nat.reduceSub, Nat.reduceLT, Nat.reduceLeDiff, Nat.reduceBEq, Nat.reduceBNe, Int.reduceToNat, Int.reduceLT, Int.reduceLE, Int.reduceEq, Int.reduceNe, Int.reduceMul, Int.reduceAdd, Int.reduceSub, Int.reduceNeg, h2, h3, k2, k3, qC, spC, a, a', a2, b, c, d, d']
            exact ⟨_, rfl, h2, h3, rfl, rfl⟩
        · have e : (offS q s || offD q s) = true := by simp [offS, offD, a, a', a2, b, c, d, d']
          rw [e]
          simp -implicitDefEqProofs only [c12_g1, go_sem, Nat.reduceShiftRight, Nat.reduceAnd, reduceIte, reduceCtorEq, Nat.reduceEqDiff, Nat.reduceAdd, Nat.reduceMul, Nat.reduceSub, Nat.reduceLT, Nat.reduceLeDiff, Nat.reduceBEq, Nat.reduceBNe, Int.reduceToNat, Int.reduceLT, Int.reduceLE, Int.reduceEq, Int.reduceNe, Int.reduceMul, Int.reduceAdd, Int.reduceSub, Int.reduceNeg, h2, h3, k2, k3, qC, spC, a, a', a2, b, c, d, d']
          exact ⟨_, rfl, h2, h3, rfl, rfl⟩
      · rcases triB q.err s.err with d | ⟨d, d'⟩ | ⟨d, d'⟩
        · · have e : (offS q s || offD q s) = false := by simp [offS, offD, a, a', a2, b, c, c', d]
            rw [e]
            simp -implicitDefEqProofs only [c12_g1, go_sem, Nat.reduceShiftRight, Nat.reduceAnd, reduceIte, reduceCtorEq, Nat.reduceEqDiff, Nat.reduceAdd, Nat.reduceMul, Nat.reduceSub, Nat.reduceLT, Nat.reduceLeDiff, Nat.reduceBEq, Nat.reduceBNe, Int.reduceToNat, Int.reduceLT, Int.reduceLE, Int.reduceEq, Int.reduceNe, Int.reduceMul, Int.reduceAdd, Int.reduceSub, Int.reduceNeg, h2, h3, k2, k3, qC, spC, a, a', a2, b, c, c', d]
            exact ⟨_, rfl, h2, h3, rfl, rfl⟩
        · · have e : (offS q s || offD q s) = false := by simp [offS, offD, a, a', a2, b, c, c', d, d']
            rw [e]
            simp -implicitDefEqProofs only [c12_g1, go_sem, Nat.reduceShiftRight, Nat.reduceAnd, reduceIte, reduceCtorEq, Nat.reduceEqDiff, Nat.reduceAdd, Nat.reduceMul, Nat.reduceSub, Nat.reduceLT, Nat.reduceLeDiff, Nat.reduceBEq, Nat.reduceBNe, Int.reduceToNat, Int.reduceLT, Int.reduceLE, Int.reduceEq, Int.reduceNe, Int.reduceMul, Int.reduceAdd, Int.reduceSub, Int.reduceNeg, h2, h3, k2, k3, qC, spC, a, a', a2, b, c, c', d, d']
            exact ⟨_, rfl, h2, h3, rfl, rfl⟩
        · have e : (offS q s || offD q s) = true := by simp [offS, offD, a, a', a2, b, c, c', d, d']
          rw [e]
          simp -implicitDefEqProofs only [c12_g1, go_sem, Nat.reduceShiftRight, Nat.reduceAnd, reduceIte, reduceCtorEq, Nat.reduceEqDiff, Nat.reduceAdd, Nat.reduceMul, Nat.reduceSub, Nat.reduceLT, Nat.reduceLeDiff, Nat.reduceBEq, Nat.reduceBNe, Int.reduceToNat, Int.reduceLT, Int.reduceLE, Int.reduceEq, Int.reduceNe, Int.reduceMul, Int.reduceAdd, Int.reduceSub, Int.reduceNeg, h2, h3, k2, k3, qC, spC, a, a', a2, b, c, c', d, d']
          exact ⟨_, rfl, h2, h3, rfl, rfl⟩
      · have c'' : s.dur < q.dur := Classical.not_not.1 c'
        have e : (offS q s || offD q s) = true := by simp [offS, offD, a, a', a2, b, c, c'']
        rw [e]
        simp -implicitDefEqProofs only [c12_g1, go_sem, Nat.reduceShiftRight, Nat.reduceAnd, reduceIte, reduceCtorEq, Nat.reduceEqDiff, Nat.reduceAdd, Nat.reduceMul, Nat.reduceSub, Nat.reduceLT, Nat.reduceLeDiff, Nat.reduceBEq, Nat.reduceBNe, Int.reduceToNat, Int.reduceLT, Int.reduceLE, Int.reduceEq, Int.reduceNe, Int.reduceMul, Int.reduceAdd, Int.reduceSub, Int.reduceNeg, h2, h3, k2, k3, qC, spC, a, a', a2, b, c, c'']
        exact ⟨_, rfl, h2, h3, rfl, rfl⟩
    · have b2 : ¬ s.op = emp := by rw [← b']; exact b
      rcases tri (q.dur = 0) (¬ s.dur < q.dur) with c | ⟨c, c'⟩ | ⟨c, c'⟩
      · rcases triB q.err s.err with d | ⟨d, d'⟩ | ⟨d, d'⟩
        · · have e : (offS q s || offD q s) = false := by simp [offS, offD, a, a', a2, b, b', b2, c, d]
            rw [e]
            simp -implicitDefEqProofs only [c12_g1, go_sem, Nat.reduceShiftRight, Nat.reduceAnd, reduceIte, reduceCtorEq, Nat.reduceEqDiff, Nat.reduceAdd, Nat.reduceMul, Nat.reduceSub, Nat.reduceLT, Nat.reduceLeDiff, Nat.reduceBEq, Nat.reduceBNe, Int.reduceToNat, Int.reduceLT, Int.reduceLE, Int.reduceEq, Int.reduceNe, Int.reduceMul, Int.reduceAdd, Int.reduceSub, Int.reduceNeg, h2, h3, k2, k3, qC, spC, a, a', a2, b, b', b2, c, d]
            exact ⟨_, rfl, h2, h3, rfl, rfl⟩
        · · have e : (offS q s || offD q s) = false := by simp [offS, offD, a, a', a2, b, b', b2, c, d, d']
            rw [e]
            simp -implicitDefEqProofs only [c12_g1, go_sem, Nat.reduceShiftRight, Nat.reduceAnd, reduceIte, reduceCtorEq, Nat.reduceEqDiff, Nat.reduceAdd, Nat.reduceMul, Nat.reduceSub, Nat.reduceLT, Nat.reduceLeDiff, Nat.reduceBEq, Nat.reduceBNe, Int.reduceToNat, Int.reduceLT, Int.reduceLE, Int.reduceEq, Int.reduceNe, Int.reduceMul, Int.reduceAdd, Int.reduceSub, Int.reduceNeg, h2, h3, k2, k3, qC, spC, a, a', a2, b, b', b2, c, d, d']
            exact ⟨_, rfl, h2, h3, rfl, rfl⟩
        · have e : (offS q s || offD q s) = true := by simp [offS, offD, a, a', a2, b, b', b2, c, d, d']
          rw [e]
          simp -implicitDefEqProofs only [c12_g1, go_sem, Nat.reduceShiftRight, Nat.reduceAnd, reduceIte, reduceCtorEq, Nat.reduceEqDiff, Nat.reduceAdd, Nat.reduceMul, Nat.reduceSub, Nat.reduceLT, Nat.reduceLeDiff, Nat.reduceBEq, Nat.reduceBNe, Int.reduceToNat, Int.reduceLT, Int.reduceLE, Int.reduceEq, Int.reduceNe, Int.reduceMul, Int.reduceAdd, Int.reduceSub, Int.reduceNeg, h2, h3, k2, k3, qC, spC, a, a', a2, b, b', b2, c, d, d']
          exact ⟨_, rfl, h2, h3, rfl, rfl⟩
      · rcases triB q.err s.err with d | ⟨d, d'⟩ | ⟨d, d'⟩
        · · have e : (offS q s || offD q s) = false := by simp [offS, offD, a, a', a2, b, b', b2, c, c', d]
            rw [e]
            simp -implicitDefEqProofs only [c12_g1, go_sem, Nat.reduceShiftRight, Nat.reduceAnd, reduceIte, reduceCtorEq, Nat.reduceEqDiff, Nat.reduceAdd, Nat.reduceMul, Nat.reduceSub, Nat.reduceLT, Nat.reduceLeDiff, Nat.reduceBEq, Nat.reduceBNe, Int.reduceToNat, Int.reduceLT, Int.reduceLE, Int.reduceEq, Int.reduceNe, Int.reduceMul, Int.reduceAdd, Int.reduceSub, Int.reduceNeg, h2, h3, k2, k3, qC, spC, a, a', a2, b, b', b2, c, c', d]
            exact ⟨_, rfl, h2, h3, rfl, rfl⟩
        · · have e : (offS q s || offD q s) = false := by simp [offS, offD, a, a', a2, b, b', b2, c, c', d, d']
            rw [e]
            simp -implicitDefEqProofs only [c12_g1, go_sem, Nat.reduceShiftRight, Nat.reduceAnd, reduceIte, reduceCtorEq, Nat.reduceEqDiff, Nat.reduceAdd, Nat.reduceMul, Nat.reduceSub, Nat.reduceLT, Nat.reduceLeDiff, Nat.reduceBEq, Nat.reduceBNe, Int.reduceToNat, Int.reduceLT, Int.reduceLE, Int.reduceEq, Int.reduceNe, Int.reduceMul, Int.reduceAdd, Int.reduceSub, Int.reduceNeg, h2, h3, k2, k3, qC, spC, a, a', a2, b, b', b2, c, c', d, d']
            exact ⟨_, rfl, h2, h3, rfl, rfl⟩
        · have e : (offS q s || offD q s) = true := by simp [offS, offD, a, a', a2, b, b', b2, c, c', d, d']
          rw [e]
          simp -implicitDefEqProofs only [c12_g1, go_sem, Nat.reduceShiftRight, Nat.reduceAnd, reduceIte, reduceCtorEq, Nat.reduceEqDiff, Nat.reduceAdd, Nat.reduceMul, Nat.reduceSub, Nat.reduceLT, Nat.reduceLeDiff, Nat.reduceBEq, Nat.reduceBNe, Int.reduceToNat, Int.reduceLT, Int.reduceLE, Int.reduceEq, Int.reduceNe, Int.reduceMul, Int.reduceAdd, Int.reduceSub, Int.reduceNeg, h2, h3, k2, k3, qC, spC, a, a', a2, b, b', b2, c, c', d, d']
          exact ⟨_, rfl, h2, h3, rfl, rfl⟩
      · have c'' : s.dur < q.dur := Classical.not_not.1 c'
        have e : (offS q s || offD q s) = true := by simp [offS, offD, a, a', a2, b, b', b2, c, c'']
        rw [e]
        simp -implicitDefEqProofs only [c12_g1, go_sem, Nat.reduceShiftRight, Nat.reduceAnd, reduceIte, reduceCtorEq, Nat.reduceEqDiff, Nat.reduceAdd, Nat.reduceMul, Nat.reduceSub, Nat.reduceLT, Nat.reduceLeDiff, Nat.reduceBEq, Nat.reduceBNe, Int.reduceToNat, Int.reduceLT, Int.reduceLE, Int.reduceEq, Int.reduceNe, Int.reduceMul, Int.reduceAdd, Int.reduceSub, Int.reduceNeg, h2, h3, k2, k3, qC, spC, a, a', a2, b, b', b2, c, c'']
        exact ⟨_, rfl, h2, h3, rfl, rfl⟩
    · have e : (offS q s || offD q s) = true := by simp [offS, offD, a, a', a2, b, b']
      rw [e]
      simp -implicitDefEqProofs only [c12_g1, go_sem, Nat.reduceShiftRight, Nat.reduceAnd, reduceIte, reduceCtorEq, Nat.reduceEqDiff, Nat.reduceAdd, Nat.reduceMul, Nat.reduceSub, Nat.reduceLT, Nat.reduceLeDiff, Nat.reduceBEq, Nat.reduceBNe, Int.reduceToNat, Int.reduceLT, Int.reduceLE, Int.reduceEq, Int.reduceNe, Int.reduceMul, Int.reduceAdd, Int.reduceSub, Int.reduceNeg, h2, h3, k2, k3, qC, spC, a, a', a2, b, b']
      exact ⟨_, rfl, h2, h3, rfl, rfl⟩
  · have e : (offS q s || offD q s) = true := by simp [offS, offD, a, a']
    rw [e]
    simp -implicitDefEqProofs only [c12_g1, go_sem, Nat.reduceShiftRight, Nat.reduceAnd, reduceIte, reduceCtorEq, Nat.reduceEqDiff, Nat.reduceAdd, Nat.reduceMul, Nat.reduceSub, Nat.reduceLT, Nat.reduceLeDiff, Nat.reduceBEq, Nat.reduceBNe, Int.reduceToNat, Int.reduceLT, Int.reduceLE, Int.reduceEq, Int.reduceNe, Int.reduceMul, Int.reduceAdd, Int.reduceSub, Int.reduceNeg, h2, h3, k2, k3, qC, spC, a, a']
    exact ⟨_, rfl, h2, h3, rfl, rfl⟩
end Go.Proofs.Ytihiakgpegfghaa
