/- How traces are sorted: the comparison, the sort as one effect. Own work. -/
import Derived.Test.YtihiakgpegfghaaRdata
import Derived.Test.YtihiakgpegfghaaQsortk
set_option linter.unusedVariables false
set_option linter.unusedSimpArgs false
namespace Go.Pi
instance : Inhabited Trc := ⟨⟨0, 0⟩⟩
def cmpI (a b : Int) : Int := if a < b then -1 else if b < a then 1 else 0
def or2 (a b : Int) : Int := if a = 0 then b else a
def cmpTr (a b : Trc) : Int := or2 (cmpI a.hi b.hi) (cmpI a.lo b.lo)
def ltTr (a b : Trc) : Bool := decide (cmpTr a b < 0)
def leTr (a b : Trc) : Bool := !ltTr b a
def trV (t : Trc) : List Value := [.int .u64 t.hi, .int .u64 t.lo]
theorem trV_inj (x y : Trc) (h : trV x = trV y) : x = y := by
  cases x; cases y
  simp [trV] at h
  simp; omega
theorem trC_rowS : trC = rowS trV := rfl
theorem ltTr_iff (a b : Trc) : ltTr a b = true ↔ a.hi < b.hi ∨ (a.hi = b.hi ∧ a.lo < b.lo) := by
  unfold ltTr cmpTr or2 cmpI
  simp only [decide_eq_true_eq]
  (repeat' split) <;> omega
noncomputable def srtTr : SortF := sortBy 33 27 trV fun l => l.mergeSort leTr
theorem srtTr_eq (l : List Trc) (hl : l.length < 4611686018427387904) : srtTr 33 [] 27 (l.map trC) = some ((l.mergeSort leTr).map trC) := sortBy_eq trV_inj l hl
theorem swoTr : Go.Sort.SWO (Go.Proofs.ltOf cmpTr) where
  irrefl x := by
    show ltTr x x = false
    rw [Bool.eq_false_iff]
    intro h
    rw [ltTr_iff] at h
    omega
  trans x y z h1 h2 := by
    have h1 : ltTr x y = true := h1
    have h2 : ltTr y z = true := h2
    show ltTr x z = true
    rw [ltTr_iff] at *
    omega
  ntrans x y z h1 h2 := by
    have h1 : ltTr x y = false := h1
    have h2 : ltTr y z = false := h2
    show ltTr x z = false
    rw [Bool.eq_false_iff] at *
    intro h
    rw [ne_eq, ltTr_iff] at h1 h2
    rw [ltTr_iff] at h
    omega
theorem totTr (x y : Trc) (h1 : Go.Proofs.ltOf cmpTr x y = false) (h2 : Go.Proofs.ltOf cmpTr y x = false) : x = y := by
  have h1 : ltTr x y = false := h1
  have h2 : ltTr y x = false := h2
  rw [Bool.eq_false_iff, ne_eq, ltTr_iff] at h1 h2
  cases x; cases y
  simp only [Trc.mk.injEq] at *
  omega
end Go.Pi
