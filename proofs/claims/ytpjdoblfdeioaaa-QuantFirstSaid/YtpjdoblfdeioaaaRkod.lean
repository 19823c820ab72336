/- How rows read. Own work. -/
import Derived.Test.YtpjdoblfdeioaaaRsort
import Derived.Test.YtpjdoblfdeioaaaRows
import Derived.KernelRfl
set_option linter.unusedVariables false
set_option linter.unusedSimpArgs false
namespace Go.Pi
structure By8 where
  b0 : Int
  b1 : Int
  b2 : Int
  b3 : Int
  b4 : Int
  b5 : Int
  b6 : Int
  b7 : Int
def to8 (l : List Int) : By8 := ⟨l.getD 0 0, l.getD 1 0, l.getD 2 0, l.getD 3 0, l.getD 4 0, l.getD 5 0, l.getD 6 0, l.getD 7 0⟩
def of8 (y : By8) : {l : List Int // l.length = 8} := ⟨[y.b0, y.b1, y.b2, y.b3, y.b4, y.b5, y.b6, y.b7], rfl⟩
theorem of_to8 (x : {l : List Int // l.length = 8}) : of8 (to8 x.1) = x := by
  obtain ⟨l, h⟩ := x
  match l, h with
  | [a, b, c, d, e, f, g, i], _ => rfl
end Go.Pi
namespace Go.Proofs.Ytpjdoblfdeioaaa
open Go Go.Pi
noncomputable def kInt : Kod Try.prog 3 Int := Kod.int .i64 Try.underlying3 (by kernel_rfl)
noncomputable def kStr : Kod Try.prog 9 ByteArray := Kod.str Try.underlying9 (by kernel_rfl)
noncomputable def kBy : Kod Try.prog 24 By8 := (Kod.arr kInt Try.underlying24 (by kernel_rfl)).iso (fun x => to8 x.1) of8 of_to8
noncomputable def kCn : Kod Try.prog 26 (Int × Int × By8 × Unit) := Kod.struct (Fod.cons kInt rfl (Fod.cons kInt (by kernel_rfl) (Fod.cons kBy (by kernel_rfl) Fod.nil))) Try.underlying26 (by kernel_rfl)
noncomputable def kRw : Kod Try.prog 28 Rw := (Kod.struct (Fod.cons kInt rfl (Fod.cons kInt (by kernel_rfl) (Fod.cons kStr (by kernel_rfl) (Fod.cons kStr (by kernel_rfl) (Fod.cons kCn (by kernel_rfl) Fod.nil))))) Try.underlying28 (by kernel_rfl)).iso
  (fun x => ⟨x.1, x.2.1, x.2.2.1, x.2.2.2.1, x.2.2.2.2.1.1, x.2.2.2.2.1.2.1, x.2.2.2.2.1.2.2.1.b0, x.2.2.2.2.1.2.2.1.b1, x.2.2.2.2.1.2.2.1.b2, x.2.2.2.2.1.2.2.1.b3, x.2.2.2.2.1.2.2.1.b4, x.2.2.2.2.1.2.2.1.b5, x.2.2.2.2.1.2.2.1.b6, x.2.2.2.2.1.2.2.1.b7⟩)
  (fun y => (y.level, y.window, y.svc, y.op, (y.count, y.errs, ⟨y.b0, y.b1, y.b2, y.b3, y.b4, y.b5, y.b6, y.b7⟩, ()), ())) (fun x => rfl)
noncomputable def kRws : Kod Try.prog 22 (List Rw) := Kod.slice kRw Try.underlying22 (by kernel_rfl) (Nat.lt_of_succ_le (Nat.le_of_ble_eq_true (by kernel_rfl)))
theorem kRw_row : kRw.row = rwC := rfl
theorem kRws_row (l : List Rw) : kRws.row l = [.sh false (l.map rwC)] := rfl
end Go.Proofs.Ytpjdoblfdeioaaa
