/- The busiest, as the program finds them: sorted, so many. Own work. -/
import Derived.Test.YtpjdoblfdeioaaaRbusy
set_option linter.unusedVariables false
set_option linter.unusedSimpArgs false
namespace Go.Pi
@[go_sem] theorem plain_bz (l : List Bz) : ((l.map bzC).all fun r => r.all PV.plain) = true := by
  rw [List.all_eq_true]
  intro r hr
  obtain ⟨t, _, rfl⟩ := List.mem_map.1 hr
  rfl
/-- How many of a list are asked for. -/
def capN (n : Int) (k : Nat) : Nat := if n < 0 then 0 else if (k : Int) < n then k else n.toNat
theorem addLv_len (lv : Int) (r : Rw) (l : List Bz) : (addLv lv l r).length ≤ l.length + 1 := by
  have := addBz_len r l
  unfold addLv; split <;> omega
theorem foldLv_len (lv : Int) : ∀ (l : List Rw) (out : List Bz), (l.foldl (addLv lv) out).length ≤ out.length + l.length
  | [], out => by simp
  | r :: l, out => by
    have h1 := foldLv_len lv l (addLv lv out r)
    have h2 := addLv_len lv r out
    simp only [List.foldl_cons, List.length_cons]
    omega
end Go.Pi
namespace Go.Proofs.Ytpjdoblfdeioaaa
open Go Go.Pi
set_option maxHeartbeats 2000000
set_option maxRecDepth 10000
/-- What the program's list of rows comes to. -/
theorem Busy (ln : Bool) (l : List Rw) (lv nn : Int) (hM : (l.length : Int) ≤ 10000) : Cal cx 7 [.sh ln (l.map rwC), .s (.int .i64 lv), .s (.int .i64 nn)] = some ([.ow 34 (((pdqL ltBz (l.foldl (addLv lv) [])).take (capN nn (l.foldl (addLv lv) []).length)).map bzC)], []) := by
  obtain ⟨f, H, g1, g2, g3, g4⟩ := BusyL ln l lv nn (by omega) l.length 0 [] (by omega) (by simp; omega)
  have hl := foldLv_len lv l []
  simp only [Int.cast_ofNat_Int, List.drop_zero, List.map_nil, List.length_nil, bzR] at g1 g2 g3 g4 hl
  generalize hr : l.foldl (addLv lv) [] = r at g3 g4 hl
  have hs := srtBz_eq r (by omega)
  have hlen := (pdqL_perm swoBz r).length_eq
  have hd : (r.map bzC).drop r.length = [] := List.drop_of_length_le (by simp)
  have hlen : (pdqL ltBz r).length = r.length := hlen
  have e : (if 0 < if (r.length : Int) < nn then (r.length : Int) else nn then if (r.length : Int) < nn then (r.length : Int) else nn else 0) = (capN nn r.length : Int) := by unfold capN; (repeat' split) <;> omega
  have c : capN nn r.length ≤ r.length := by unfold capN; (repeat' split) <;> omega
  have c2 : (0 : Int) + (capN nn r.length : Int) ≤ (r.length : Int) := by omega
  rw [Cal_eq]
  simp -implicitDefEqProofs only [fns_7, c7, go_sem, Nat.reduceShiftRight, Nat.reduceAnd, reduceIte, reduceCtorEq, Nat.reduceEqDiff, Nat.reduceAdd, Nat.reduceMul, Nat.reduceSub, Nat.reduceLT, Nat.reduceLeDiff, Nat.reduceBEq, Nat.reduceBNe, Int.reduceToNat, Int.reduceLT, Int.reduceLE, Int.reduceEq, Int.reduceNe, Int.reduceMul, Int.reduceAdd, Int.reduceSub, Int.reduceNeg, g1, g2, g3, g4, hs, e, hd, List.append_nil, List.length_map, hlen, c, c2, Nat.sub_zero, Int.toNat_natCast, List.map_take]
end Go.Proofs.Ytpjdoblfdeioaaa
