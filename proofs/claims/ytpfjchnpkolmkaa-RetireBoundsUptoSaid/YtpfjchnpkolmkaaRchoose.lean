/- Who goes: the program's choice. Own work. -/
import Derived.Test.YtpfjchnpkolmkaaRretire
set_option linter.unusedVariables false
set_option linter.unusedSimpArgs false
namespace Go.Proofs.Ytpfjchnpkolmkaa
open Go Go.Pi
set_option maxHeartbeats 2000000
set_option maxRecDepth 10000
def old (now keep : Int) (b : Blo) : Bool := decide (keep < lessI now b.born)
abbrev oRow (l : List Int) : Option Blk := some (.row 0 3 1 false (l.map iC))
abbrev lRow (l : List Blo) : Option Blk := some (.row 0 27 4 false (l.map bkC))
theorem ChooseLoop (ln : Bool) (l : List Blo) (now keep budget : Int) (hM : (l.length : Int) ≤ 1000000) : ∀ (n i : Nat) (out : List Int) (left : List Blo), i + n = l.length → out.length ≤ i → left.length ≤ i →
   ∃ f H, Pi.Loop (exec cx (Cal cx) c8_0) (Rst Try.prog ([(1, none), (2, none), (3, none), (9, some 3), (10, some 27), (17, none), (18, none), (19, none)], [])) (St.mk (sF [(1, .s (.int .i64 now)), (2, .s (.int .i64 keep)), (3, .s (.int .i64 budget)), (9, .sl 500009 0 0 out.length), (10, .sl 500010 0 0 left.length), (17, .sh ln (l.map bkC)), (18, .s (.int .i64 l.length)), (19, .s (.int .i64 i))]) (hF [(500009, oRow out), (500010, lRow left)])) = some (.ex 0, St.mk f H) ∧ f 3 = .s (.int .i64 budget) ∧
     f 9 = .sl 500009 0 0 (out ++ ((l.drop i).filter (old now keep)).map Blo.number).length ∧ H 500009 = oRow (out ++ ((l.drop i).filter (old now keep)).map Blo.number) ∧
     f 10 = .sl 500010 0 0 (left ++ (l.drop i).filter (fun b => !old now keep b)).length ∧ H 500010 = lRow (left ++ (l.drop i).filter (fun b => !old now keep b)) := by
  intro n
  induction n with
  | zero =>
    intro i out left h _ _
    have h0 : ¬ (i : Int) < (l.length : Int) := by omega
    rw [Loop_eq, drop_end (by omega)]
    simp -implicitDefEqProofs only [fns_8, c8, body, startSt, pkeys, slots, recvL, recv, noH, finish, resPV, outRs, outR, outC, outCs, outMs, go_sem, Nat.reduceShiftRight, Nat.reduceAnd, reduceIte, reduceCtorEq, Nat.reduceEqDiff, Nat.reduceAdd, Nat.reduceMul, Nat.reduceSub, Nat.reduceLT, Nat.reduceLeDiff, Nat.reduceBEq, Nat.reduceBNe, Int.reduceToNat, Int.reduceLT, Int.reduceLE, Int.reduceEq, Int.reduceNe, Int.reduceMul, Int.reduceAdd, Int.reduceSub, Int.reduceNeg, or_self, true_or, or_true, false_or, or_false, Int.natCast_nonneg, Int.toNat_natCast, List.length_map, implies_true, Int.cast_ofNat_Int, List.mem_cons, List.not_mem_nil, forall_eq_or_imp, forall_eq, false_implies, List.replicate_succ, List.replicate_zero, List.set_cons_zero, List.set_cons_succ, List.length_set, Nat.zero_add, Nat.not_succ_le_self, Nat.mul_one, exec_loop, Rst, keys1, keys2, keysB, proms, prom, keepV, freshV, freshC, freshB, liveVer, mpVer, pk, ded, insH, sortH, rnP, rnA, rnM, List.map_nil, St.of, List.map_cons, c8_0, h0, List.filter_nil, List.append_nil]
    exact ⟨_, _, rfl, rfl, rfl, rfl, rfl, rfl⟩
  | succ n ih =>
    intro i out left h ho hl
    have h0 : (i : Int) < (l.length : Int) := by omega
    obtain ⟨x, hx⟩ := get_of_lt (l := l) (i := i) (by omega)
    have h8 : IntKind.i64.wrap ((i : Int) + 1) = ((i + 1 : Nat) : Int) := by rw [wrap64_id] <;> omega
    have h1 := Less now x.born
    have b1 : (out ++ [x.number]).length * 8 ≤ 140737488355328 := by simp; omega
    have b2 : (left ++ [x]).length * 48 ≤ 140737488355328 := by simp; omega
    rw [Loop_eq, drop_get hx]
    by_cases hk : keep < lessI now x.born
    · have hold : old now keep x = true := by simp [old, hk]
      have h7 := ih (i + 1) (out ++ [x.number]) left (by omega) (by simp; omega) (by omega)
      rw [List.filter_cons_of_pos hold, List.filter_cons_of_neg (by simp [hold]), List.map_cons]
      simp only [List.append_assoc, List.singleton_append] at h7
      simp -implicitDefEqProofs only [fns_8, c8, body, startSt, pkeys, slots, recvL, recv, noH, finish, resPV, outRs, outR, outC, outCs, outMs, go_sem, Nat.reduceShiftRight, Nat.reduceAnd, reduceIte, reduceCtorEq, Nat.reduceEqDiff, Nat.reduceAdd, Nat.reduceMul, Nat.reduceSub, Nat.reduceLT, Nat.reduceLeDiff, Nat.reduceBEq, Nat.reduceBNe, Int.reduceToNat, Int.reduceLT, Int.reduceLE, Int.reduceEq, Int.reduceNe, Int.reduceMul, Int.reduceAdd, Int.reduceSub, Int.reduceNeg, or_self, true_or, or_true, false_or, or_false, Int.natCast_nonneg, Int.toNat_natCast, List.length_map, implies_true, Int.cast_ofNat_Int, List.mem_cons, List.not_mem_nil, forall_eq_or_imp, forall_eq, false_implies, List.replicate_succ, List.replicate_zero, List.set_cons_zero, List.set_cons_succ, List.length_set, Nat.zero_add, Nat.not_succ_le_self, Nat.mul_one, exec_loop, Rst, keys1, keys2, keysB, proms, prom, keepV, freshV, freshC, freshB, liveVer, mpVer, pk, ded, insH, sortH, rnP, rnA, rnM, List.map_nil, St.of, List.map_cons, c8_0, h0, getD_map bkC hx, bkC, h1, hk, b1, b2, h8]
      exact h7
    · have hold : old now keep x = false := by simp [old, hk]
      have h7 := ih (i + 1) out (left ++ [x]) (by omega) (by omega) (by simp; omega)
      rw [List.filter_cons_of_neg (by simp [hold]), List.filter_cons_of_pos (by simp [hold])]
      simp only [List.append_assoc, List.singleton_append] at h7
      simp -implicitDefEqProofs only [fns_8, c8, body, startSt, pkeys, slots, recvL, recv, noH, finish, resPV, outRs, outR, outC, outCs, outMs, go_sem, Nat.reduceShiftRight, Nat.reduceAnd, reduceIte, reduceCtorEq, Nat.reduceEqDiff, Nat.reduceAdd, Nat.reduceMul, Nat.reduceSub, Nat.reduceLT, Nat.reduceLeDiff, Nat.reduceBEq, Nat.reduceBNe, Int.reduceToNat, Int.reduceLT, Int.reduceLE, Int.reduceEq, Int.reduceNe, Int.reduceMul, Int.reduceAdd, Int.reduceSub, Int.reduceNeg, or_self, true_or, or_true, false_or, or_false, Int.natCast_nonneg, Int.toNat_natCast, List.length_map, implies_true, Int.cast_ofNat_Int, List.mem_cons, List.not_mem_nil, forall_eq_or_imp, forall_eq, false_implies, List.replicate_succ, List.replicate_zero, List.set_cons_zero, List.set_cons_succ, List.length_set, Nat.zero_add, Nat.not_succ_le_self, Nat.mul_one, exec_loop, Rst, keys1, keys2, keysB, proms, prom, keepV, freshV, freshC, freshB, liveVer, mpVer, pk, ded, insH, sortH, rnP, rnA, rnM, List.map_nil, St.of, List.map_cons, c8_0, h0, getD_map bkC hx, bkC, h1, hk, b1, b2, h8]
      exact h7
def bornAt (l : List Blo) (i : Nat) : Int := match l[i]? with | some b => b.born | none => 0
def aminF (l : List Blo) : Nat → Nat → Nat → Nat
  | 0, _, at_ => at_
  | n + 1, i, at_ => aminF l n (i + 1) (if bornAt l i < bornAt l at_ then i else at_)
theorem aminF_lt (l : List Blo) : ∀ (n i at_ : Nat), i + n ≤ l.length → at_ < l.length → aminF l n i at_ < l.length
  | 0, i, at_, _, h => h
  | n + 1, i, at_, h, h2 => by
    unfold aminF
    refine aminF_lt l n (i + 1) _ (by omega) ?_
    split <;> omega
theorem MinLoop (left : List Blo) (budget : Int) (out : List Int) (tot : Int) (hM : (left.length : Int) ≤ 1000000) : ∀ (n i at_ : Nat), i + n = left.length → at_ < left.length →
   ∃ f H, Pi.Loop (exec cx (Cal cx) c8_4) (Rst Try.prog ([(3, none), (9, some 3), (10, some 27), (13, none), (14, none), (49, none), (50, none), (51, none)], [])) (St.mk (sF [(3, .s (.int .i64 budget)), (9, .sl 500009 0 0 out.length), (10, .sl 500010 0 0 left.length), (13, .s (.int .i64 tot)), (14, .s (.int .i64 at_)), (49, .sl 500010 0 0 left.length), (50, .s (.int .i64 left.length)), (51, .s (.int .i64 i))]) (hF [(500009, oRow out), (500010, lRow left)])) = some (.ex 4, St.mk f H) ∧ f 3 = .s (.int .i64 budget) ∧
     f 9 = .sl 500009 0 0 out.length ∧ H 500009 = oRow out ∧ f 10 = .sl 500010 0 0 left.length ∧ H 500010 = lRow left ∧ f 13 = .s (.int .i64 tot) ∧ f 14 = .s (.int .i64 (aminF left n i at_ : Nat)) ∧ H 79 = none ∧ H 85 = none := by
  intro n
  induction n with
  | zero =>
    intro i at_ h _
    have h0 : ¬ (i : Int) < (left.length : Int) := by omega
    rw [Loop_eq]
    simp -implicitDefEqProofs only [fns_8, c8, body, startSt, pkeys, slots, recvL, recv, noH, finish, resPV, outRs, outR, outC, outCs, outMs, go_sem, Nat.reduceShiftRight, Nat.reduceAnd, reduceIte, reduceCtorEq, Nat.reduceEqDiff, Nat.reduceAdd, Nat.reduceMul, Nat.reduceSub, Nat.reduceLT, Nat.reduceLeDiff, Nat.reduceBEq, Nat.reduceBNe, Int.reduceToNat, Int.reduceLT, Int.reduceLE, Int.reduceEq, Int.reduceNe, Int.reduceMul, Int.reduceAdd, Int.reduceSub, Int.reduceNeg, or_self, true_or, or_true, false_or, or_false, Int.natCast_nonneg, Int.toNat_natCast, List.length_map, implies_true, Int.cast_ofNat_Int, List.mem_cons, List.not_mem_nil, forall_eq_or_imp, forall_eq, false_implies, List.replicate_succ, List.replicate_zero, List.set_cons_zero, List.set_cons_succ, List.length_set, Nat.zero_add, Nat.not_succ_le_self, Nat.mul_one, exec_loop, Rst, keys1, keys2, keysB, proms, prom, keepV, freshV, freshC, freshB, liveVer, mpVer, pk, ded, insH, sortH, rnP, rnA, rnM, List.map_nil, St.of, List.map_cons, c8_4, h0, aminF]
    exact ⟨_, _, rfl, rfl, rfl, rfl, rfl, rfl, rfl, rfl, rfl, rfl⟩
  | succ n ih =>
    intro i at_ h ha
    have h0 : (i : Int) < (left.length : Int) := by omega
    have h1 : (at_ : Int) < (left.length : Int) := by omega
    obtain ⟨x, hx⟩ := get_of_lt (l := left) (i := i) (by omega)
    obtain ⟨y, hy⟩ := get_of_lt (l := left) (i := at_) (by omega)
    have h8 : IntKind.i64.wrap ((i : Int) + 1) = ((i + 1 : Nat) : Int) := by rw [wrap64_id] <;> omega
    have e1 : bornAt left i = x.born := by simp [bornAt, hx]
    have e2 : bornAt left at_ = y.born := by simp [bornAt, hy]
    have hi2 : i < left.length := by omega
    rw [Loop_eq]
    by_cases hb : x.born < y.born
    · have h7 := ih (i + 1) i (by omega) (by omega)
      simp -implicitDefEqProofs only [fns_8, c8, body, startSt, pkeys, slots, recvL, recv, noH, finish, resPV, outRs, outR, outC, outCs, outMs, go_sem, Nat.reduceShiftRight, Nat.reduceAnd, reduceIte, reduceCtorEq, Nat.reduceEqDiff, Nat.reduceAdd, Nat.reduceMul, Nat.reduceSub, Nat.reduceLT, Nat.reduceLeDiff, Nat.reduceBEq, Nat.reduceBNe, Int.reduceToNat, Int.reduceLT, Int.reduceLE, Int.reduceEq, Int.reduceNe, Int.reduceMul, Int.reduceAdd, Int.reduceSub, Int.reduceNeg, or_self, true_or, or_true, false_or, or_false, Int.natCast_nonneg, Int.toNat_natCast, List.length_map, implies_true, Int.cast_ofNat_Int, List.mem_cons, List.not_mem_nil, forall_eq_or_imp, forall_eq, false_implies, List.replicate_succ, List.replicate_zero, List.set_cons_zero, List.set_cons_succ, List.length_set, Nat.zero_add, Nat.not_succ_le_self, Nat.mul_one, exec_loop, Rst, keys1, keys2, keysB, proms, prom, keepV, freshV, freshC, freshB, liveVer, mpVer, pk, ded, insH, sortH, rnP, rnA, rnM, List.map_nil, St.of, List.map_cons, c8_4, h0, h1, ha, hi2, getD_map bkC hx, getD_map bkC hy, bkC, hb, h8, aminF, e1, e2]
      exact h7
    · have h7 := ih (i + 1) at_ (by omega) (by omega)
      simp -implicitDefEqProofs only [fns_8, c8, body, startSt, pkeys, slots, recvL, recv, noH, finish, resPV, outRs, outR, outC, outCs, outMs, go_sem, Nat.reduceShiftRight, Nat.reduceAnd, reduceIte, reduceCtorEq, Nat.reduceEqDiff, Nat.reduceAdd, Nat.reduceMul, Nat.reduceSub, Nat.reduceLT, Nat.reduceLeDiff, Nat.reduceBEq, Nat.reduceBNe, Int.reduceToNat, Int.reduceLT, Int.reduceLE, Int.reduceEq, Int.reduceNe, Int.reduceMul, Int.reduceAdd, Int.reduceSub, Int.reduceNeg, or_self, true_or, or_true, false_or, or_false, Int.natCast_nonneg, Int.toNat_natCast, List.length_map, implies_true, Int.cast_ofNat_Int, List.mem_cons, List.not_mem_nil, forall_eq_or_imp, forall_eq, false_implies, List.replicate_succ, List.replicate_zero, List.set_cons_zero, List.set_cons_succ, List.length_set, Nat.zero_add, Nat.not_succ_le_self, Nat.mul_one, exec_loop, Rst, keys1, keys2, keysB, proms, prom, keepV, freshV, freshC, freshB, liveVer, mpVer, pk, ded, insH, sortH, rnP, rnA, rnM, List.map_nil, St.of, List.map_cons, c8_4, h0, h1, ha, hi2, getD_map bkC hx, getD_map bkC hy, bkC, hb, h8, aminF, e1, e2]
      exact h7
def oldest (l : List Blo) : Nat := aminF l l.length 0 0
def numAt (l : List Blo) (i : Nat) : Int := match l[i]? with | some b => b.number | none => 0
def evict (budget : Int) : Nat → List Blo → List Int
  | 0, _ => []
  | n + 1, left => if budget < total left ∧ 1 < left.length then numAt left (oldest left) :: evict budget n (left.eraseIdx (oldest left)) else []
theorem total_erase : ∀ (l : List Blo) (i : Nat) (x : Blo), l[i]? = some x → total (l.eraseIdx i) = total l - sz x
  | b :: l, 0, x, h => by simp at h; subst h; simp [total]; omega
  | b :: l, i + 1, x, h => by
    have := total_erase l i x (by simpa using h)
    simp only [List.eraseIdx_cons_succ, total, this]
    omega
theorem EvictLoop (budget : Int) : ∀ (n : Nat) (out : List Int) (left : List Blo), left.length = n → (∀ b ∈ left, Fit b) → out.length + left.length ≤ 1000000 →
   ∃ f H, Pi.Loop (exec cx (Cal cx) c8_2) (Rst Try.prog ([(3, none), (9, some 3), (10, some 27), (13, none)], [])) (St.mk (sF [(3, .s (.int .i64 budget)), (9, .sl 500009 0 0 out.length), (10, .sl 500010 0 0 left.length), (13, .s (.int .i64 (total left)))]) (hF [(500009, oRow out), (500010, lRow left)])) = some (.ex 2, St.mk f H) ∧
     f 9 = .sl 500009 0 0 (out ++ evict budget n left).length ∧ H 500009 = oRow (out ++ evict budget n left) := by
  intro n
  induction n with
  | zero =>
    intro out left hn hFt hl
    have e : left = [] := List.eq_nil_of_length_eq_zero hn
    subst e
    rw [Loop_eq]
    by_cases hb : budget < 0
    · simp -implicitDefEqProofs only [fns_8, c8, body, startSt, pkeys, slots, recvL, recv, noH, finish, resPV, outRs, outR, outC, outCs, outMs, go_sem, Nat.reduceShiftRight, Nat.reduceAnd, reduceIte, reduceCtorEq, Nat.reduceEqDiff, Nat.reduceAdd, Nat.reduceMul, Nat.reduceSub, Nat.reduceLT, Nat.reduceLeDiff, Nat.reduceBEq, Nat.reduceBNe, Int.reduceToNat, Int.reduceLT, Int.reduceLE, Int.reduceEq, Int.reduceNe, Int.reduceMul, Int.reduceAdd, Int.reduceSub, Int.reduceNeg, or_self, true_or, or_true, false_or, or_false, Int.natCast_nonneg, Int.toNat_natCast, List.length_map, implies_true, Int.cast_ofNat_Int, List.mem_cons, List.not_mem_nil, forall_eq_or_imp, forall_eq, false_implies, List.replicate_succ, List.replicate_zero, List.set_cons_zero, List.set_cons_succ, List.length_set, Nat.zero_add, Nat.not_succ_le_self, Nat.mul_one, exec_loop, Rst, keys1, keys2, keysB, proms, prom, keepV, freshV, freshC, freshB, liveVer, mpVer, pk, ded, insH, sortH, rnP, rnA, rnM, List.map_nil, St.of, List.map_cons, c8_2, evict, List.append_nil, List.length_nil, total, hb]
      exact ⟨_, _, rfl, rfl, rfl⟩
    · simp -implicitDefEqProofs only [fns_8, c8, body, startSt, pkeys, slots, recvL, recv, noH, finish, resPV, outRs, outR, outC, outCs, outMs, go_sem, Nat.reduceShiftRight, Nat.reduceAnd, reduceIte, reduceCtorEq, Nat.reduceEqDiff, Nat.reduceAdd, Nat.reduceMul, Nat.reduceSub, Nat.reduceLT, Nat.reduceLeDiff, Nat.reduceBEq, Nat.reduceBNe, Int.reduceToNat, Int.reduceLT, Int.reduceLE, Int.reduceEq, Int.reduceNe, Int.reduceMul, Int.reduceAdd, Int.reduceSub, Int.reduceNeg, or_self, true_or, or_true, false_or, or_false, Int.natCast_nonneg, Int.toNat_natCast, List.length_map, implies_true, Int.cast_ofNat_Int, List.mem_cons, List.not_mem_nil, forall_eq_or_imp, forall_eq, false_implies, List.replicate_succ, List.replicate_zero, List.set_cons_zero, List.set_cons_succ, List.length_set, Nat.zero_add, Nat.not_succ_le_self, Nat.mul_one, exec_loop, Rst, keys1, keys2, keysB, proms, prom, keepV, freshV, freshC, freshB, liveVer, mpVer, pk, ded, insH, sortH, rnP, rnA, rnM, List.map_nil, St.of, List.map_cons, c8_2, evict, List.append_nil, List.length_nil, total, hb]
      exact ⟨_, _, rfl, rfl, rfl⟩
  | succ n ih =>
    intro out left hn hFt hl
    rw [Loop_eq]
    by_cases hb : budget < total left
    · by_cases hc : 1 < left.length
      · have hc' : (1 : Int) < (left.length : Int) := by omega
        obtain ⟨f, H, g1, g2, g3, g4, g5, g6, g7, g8, g9, g10⟩ := MinLoop left budget out (total left) (by omega) left.length 0 0 (by omega) (by omega)
        have ha := aminF_lt left left.length 0 0 (by omega) (by omega)
        obtain ⟨x, hx⟩ := get_of_lt (l := left) (i := oldest left) ha
        have ha' : ((oldest left : Nat) : Int) < (left.length : Int) := by unfold oldest; omega
        have hat : aminF left left.length 0 0 = oldest left := rfl
        rw [hat] at g8 ha
        have hf := hFt x (mem_get hx)
        have h1 := Size x hf.len hf.eps (by have := hf.size; omega)
        have h2 := Delete left (oldest left) ha (by omega)
        have b1 := total_nonneg (left.eraseIdx (oldest left))
        have b2 := total_le left hFt
        have e1 := total_erase left (oldest left) x hx
        have b3 := sz_nonneg x
        have h3 : IntKind.i64.wrap (total left - ((bkB x).length : Int)) = total (left.eraseIdx (oldest left)) := by
          rw [e1]
          show IntKind.i64.wrap (total left - sz x) = _
          rw [wrap64_id] <;> omega
        have h4 : IntKind.i64.wrap ((oldest left : Int) + 1) = ((oldest left + 1 : Nat) : Int) := by rw [wrap64_id] <;> omega
        have h5 : (out ++ [x.number]).length * 8 ≤ 140737488355328 := by simp; omega
        have e2 : numAt left (oldest left) = x.number := by simp [numAt, hx]
        have h7 := ih (out ++ [x.number]) (left.eraseIdx (oldest left)) (by rw [List.length_eraseIdx_of_lt ha]; omega) (fun b hb => hFt b (List.mem_of_mem_eraseIdx hb)) (by rw [List.length_eraseIdx_of_lt ha]; simp; omega)
        rw [evict, if_pos ⟨hb, hc⟩, e2]
        simp only [List.append_assoc, List.singleton_append] at h7
        simp only [Int.cast_ofNat_Int] at g1
        simp only [bkC] at h1
        simp -implicitDefEqProofs only [fns_8, c8, body, startSt, pkeys, slots, recvL, recv, noH, finish, resPV, outRs, outR, outC, outCs, outMs, go_sem, Nat.reduceShiftRight, Nat.reduceAnd, reduceIte, reduceCtorEq, Nat.reduceEqDiff, Nat.reduceAdd, Nat.reduceMul, Nat.reduceSub, Nat.reduceLT, Nat.reduceLeDiff, Nat.reduceBEq, Nat.reduceBNe, Int.reduceToNat, Int.reduceLT, Int.reduceLE, Int.reduceEq, Int.reduceNe, Int.reduceMul, Int.reduceAdd, Int.reduceSub, Int.reduceNeg, or_self, true_or, or_true, false_or, or_false, Int.natCast_nonneg, Int.toNat_natCast, List.length_map, implies_true, Int.cast_ofNat_Int, List.mem_cons, List.not_mem_nil, forall_eq_or_imp, forall_eq, false_implies, List.replicate_succ, List.replicate_zero, List.set_cons_zero, List.set_cons_succ, List.length_set, Nat.zero_add, Nat.not_succ_le_self, Nat.mul_one, exec_loop, Rst, keys1, keys2, keysB, proms, prom, keepV, freshV, freshC, freshB, liveVer, mpVer, pk, ded, insH, sortH, rnP, rnA, rnM, List.map_nil, St.of, List.map_cons, c8_2, hb, hc, hc', g1, g2, g3, g4, g5, g6, g7, g8, g9, g10, ha, ha', getD_map bkC hx, bkC, h1, h2, h3, h4, h5]
        exact h7
      · have hc' : ¬ (1 : Int) < (left.length : Int) := by omega
        have e : evict budget (n + 1) left = [] := by rw [evict, if_neg (fun h => hc h.2)]
        rw [e]
        simp -implicitDefEqProofs only [fns_8, c8, body, startSt, pkeys, slots, recvL, recv, noH, finish, resPV, outRs, outR, outC, outCs, outMs, go_sem, Nat.reduceShiftRight, Nat.reduceAnd, reduceIte, reduceCtorEq, Nat.reduceEqDiff, Nat.reduceAdd, Nat.reduceMul, Nat.reduceSub, Nat.reduceLT, Nat.reduceLeDiff, Nat.reduceBEq, Nat.reduceBNe, Int.reduceToNat, Int.reduceLT, Int.reduceLE, Int.reduceEq, Int.reduceNe, Int.reduceMul, Int.reduceAdd, Int.reduceSub, Int.reduceNeg, or_self, true_or, or_true, false_or, or_false, Int.natCast_nonneg, Int.toNat_natCast, List.length_map, implies_true, Int.cast_ofNat_Int, List.mem_cons, List.not_mem_nil, forall_eq_or_imp, forall_eq, false_implies, List.replicate_succ, List.replicate_zero, List.set_cons_zero, List.set_cons_succ, List.length_set, Nat.zero_add, Nat.not_succ_le_self, Nat.mul_one, exec_loop, Rst, keys1, keys2, keysB, proms, prom, keepV, freshV, freshC, freshB, liveVer, mpVer, pk, ded, insH, sortH, rnP, rnA, rnM, List.map_nil, St.of, List.map_cons, c8_2, hb, hc, hc', List.append_nil]
        exact ⟨_, _, rfl, rfl, rfl⟩
    · have e : evict budget (n + 1) left = [] := by rw [evict, if_neg (fun h => hb h.1)]
      rw [e]
      simp -implicitDefEqProofs only [fns_8, c8, body, startSt, pkeys, slots, recvL, recv, noH, finish, resPV, outRs, outR, outC, outCs, outMs, go_sem, Nat.reduceShiftRight, Nat.reduceAnd, reduceIte, reduceCtorEq, Nat.reduceEqDiff, Nat.reduceAdd, Nat.reduceMul, Nat.reduceSub, Nat.reduceLT, Nat.reduceLeDiff, Nat.reduceBEq, Nat.reduceBNe, Int.reduceToNat, Int.reduceLT, Int.reduceLE, Int.reduceEq, Int.reduceNe, Int.reduceMul, Int.reduceAdd, Int.reduceSub, Int.reduceNeg, or_self, true_or, or_true, false_or, or_false, Int.natCast_nonneg, Int.toNat_natCast, List.length_map, implies_true, Int.cast_ofNat_Int, List.mem_cons, List.not_mem_nil, forall_eq_or_imp, forall_eq, false_implies, List.replicate_succ, List.replicate_zero, List.set_cons_zero, List.set_cons_succ, List.length_set, Nat.zero_add, Nat.not_succ_le_self, Nat.mul_one, exec_loop, Rst, keys1, keys2, keysB, proms, prom, keepV, freshV, freshC, freshB, liveVer, mpVer, pk, ded, insH, sortH, rnP, rnA, rnM, List.map_nil, St.of, List.map_cons, c8_2, hb, List.append_nil]
      exact ⟨_, _, rfl, rfl, rfl⟩
def young (now keep : Int) (l : List Blo) : List Blo := l.filter fun b => !old now keep b
def choose (l : List Blo) (now keep budget : Int) : List Int := (l.filter (old now keep)).map Blo.number ++ evict budget (young now keep l).length (young now keep l)
theorem Choose (ln : Bool) (l : List Blo) (now keep budget : Int) (hFt : ∀ b ∈ l, Fit b) (hM : l.length ≤ 100000) : Cal cx 8 [.sh ln (l.map bkC), .s (.int .i64 now), .s (.int .i64 keep), .s (.int .i64 budget)] = some ([.ow 3 ((choose l now keep budget).map iC)], []) := by
  obtain ⟨f, H, g1, g2, g3, g4, g5, g6⟩ := ChooseLoop ln l now keep budget (by omega) l.length 0 [] [] (by omega) (by simp) (by simp)
  have c1 : ((l.filter (old now keep)).map Blo.number).length ≤ l.length := by simp; exact List.length_filter_le _ _
  have c2 : (young now keep l).length ≤ l.length := List.length_filter_le _ _
  have hY : ∀ b ∈ young now keep l, Fit b := fun b hb => hFt b (List.mem_filter.1 hb).1
  obtain ⟨f2, H2, k1, k2, k3⟩ := EvictLoop budget (young now keep l).length ((l.filter (old now keep)).map Blo.number) (young now keep l) rfl hY (by omega)
  have t1 := Total true (young now keep l) hY (by omega)
  simp only [oRow, lRow, Int.cast_ofNat_Int, List.drop_zero, List.map_nil, List.length_nil, List.nil_append] at g1 g3 g4 g5 g6
  have hy : (l.filter fun b => !old now keep b) = young now keep l := rfl
  rw [hy] at g5 g6
  unfold choose
  generalize (l.filter (old now keep)).map Blo.number = G at g3 g4 c1 k1 k2 k3 ⊢
  rw [Cal_eq]
  simp -implicitDefEqProofs only [fns_8, c8, body, startSt, pkeys, slots, recvL, recv, noH, finish, resPV, outRs, outR, outC, outCs, outMs, go_sem, Nat.reduceShiftRight, Nat.reduceAnd, reduceIte, reduceCtorEq, Nat.reduceEqDiff, Nat.reduceAdd, Nat.reduceMul, Nat.reduceSub, Nat.reduceLT, Nat.reduceLeDiff, Nat.reduceBEq, Nat.reduceBNe, Int.reduceToNat, Int.reduceLT, Int.reduceLE, Int.reduceEq, Int.reduceNe, Int.reduceMul, Int.reduceAdd, Int.reduceSub, Int.reduceNeg, or_self, true_or, or_true, false_or, or_false, Int.natCast_nonneg, Int.toNat_natCast, List.length_map, implies_true, Int.cast_ofNat_Int, List.mem_cons, List.not_mem_nil, forall_eq_or_imp, forall_eq, false_implies, List.replicate_succ, List.replicate_zero, List.set_cons_zero, List.set_cons_succ, List.length_set, Nat.zero_add, Nat.not_succ_le_self, Nat.mul_one, exec_loop, Rst, keys1, keys2, keysB, proms, prom, keepV, freshV, freshC, freshB, liveVer, mpVer, pk, ded, insH, sortH, rnP, rnA, rnM, List.map_nil, St.of, List.map_cons, g1, g2, g3, g4, g5, g6, t1, k1, k2, k3]
end Go.Proofs.Ytpfjchnpkolmkaa
