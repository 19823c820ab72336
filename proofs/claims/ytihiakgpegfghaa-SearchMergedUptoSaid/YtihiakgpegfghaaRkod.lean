/- How the arguments read. Own work. -/
import Derived.Test.YtihiakgpegfghaaRdata
import Derived.Test.YtihiakgpegfghaaRows
import Derived.KernelRfl
set_option linter.unusedVariables false
set_option linter.unusedSimpArgs false
namespace Go.Proofs.Ytihiakgpegfghaa
open Go Go.Pi
section
variable {P : Program}
/-- The same, otherwise spelt, for what is read. -/
noncomputable def _root_.Go.Pi.Kod.isoc {t : Nat} {α β : Type} (c : Kod P t α) (to : α → β) (back : β → α) (h : ∀ N x, c.ok N x → back (to x) = x) : Kod P t β where
  row y := c.row (back y)
  ok N y := c.ok N (back y)
  mono := fun N M y hN h => c.mono N M (back y) hN h
  size y := c.size (back y)
  opn := by
    intro H enc W base spare held fuel cs d ps hd
    obtain ⟨x, hx, hr⟩ := c.opn enc W base spare held fuel cs d ps hd
    exact ⟨to x, by rw [h _ x hx]; exact hx, by rw [h _ x hx]; exact hr⟩
end
theorem wf_u64 {n : Int} (h : (Lit.int .u64 n).wf = true) : 0 ≤ n ∧ n < 18446744073709551616 := by
  simp [Lit.wf, IntKind.min, IntKind.max, IntKind.signed, IntKind.bits] at h
  omega
theorem wf_i64 {n : Int} (h : (Lit.int .i64 n).wf = true) : -9223372036854775808 ≤ n ∧ n ≤ 9223372036854775807 := by
  simp [Lit.wf, IntKind.min, IntKind.max, IntKind.signed, IntKind.bits] at h
  omega
noncomputable def kInt : Kod Try.prog 3 Int := Kod.int .i64 Try.underlying3 (by kernel_rfl)
noncomputable def kU64 : Kod Try.prog 25 Int := Kod.int .u64 Try.underlying25 (by kernel_rfl)
noncomputable def kNat : Kod Try.prog 25 Nat := kU64.isoc Int.toNat (fun n => (n : Int)) (fun N x h => Int.toNat_of_nonneg (wf_u64 h).1)
noncomputable def kBool : Kod Try.prog 4 Bool := Kod.bool Try.underlying4 (by kernel_rfl)
noncomputable def kStr : Kod Try.prog 9 ByteArray := Kod.str Try.underlying9 (by kernel_rfl)
noncomputable def kTr : Kod Try.prog 27 Trc := (Kod.struct (Fod.cons kNat rfl (Fod.cons kNat (by kernel_rfl) Fod.nil)) Try.underlying27 (by kernel_rfl)).iso (fun x => ⟨x.1, x.2.1⟩) (fun y => (y.hi, y.lo, ())) (fun x => rfl)
noncomputable def kAt : Kod Try.prog 54 Atr := (Kod.struct (Fod.cons kStr rfl (Fod.cons kStr (by kernel_rfl) Fod.nil)) Try.underlying54 (by kernel_rfl)).iso (fun x => ⟨x.1, x.2.1⟩) (fun y => (y.key, y.val, ())) (fun x => rfl)
noncomputable def kAts : Kod Try.prog 28 (List Atr) := Kod.slice kAt Try.underlying28 (by kernel_rfl) (Nat.lt_of_succ_le (Nat.le_of_ble_eq_true (by kernel_rfl)))
noncomputable def kSp : Kod Try.prog 30 Spn := (Kod.struct (Fod.cons kTr rfl (Fod.cons kNat (by kernel_rfl) (Fod.cons kNat (by kernel_rfl) (Fod.cons kStr (by kernel_rfl) (Fod.cons kStr (by kernel_rfl) (Fod.cons kInt (by kernel_rfl) (Fod.cons kInt (by kernel_rfl) (Fod.cons kBool (by kernel_rfl) (Fod.cons kAts (by kernel_rfl) Fod.nil))))))))) Try.underlying30 (by kernel_rfl)).iso
  (fun x => ⟨x.1, x.2.1, x.2.2.1, x.2.2.2.1, x.2.2.2.2.1, x.2.2.2.2.2.1, x.2.2.2.2.2.2.1, x.2.2.2.2.2.2.2.1, x.2.2.2.2.2.2.2.2.1⟩) (fun y => (y.tr, y.id, y.parent, y.svc, y.op, y.start, y.dur, y.err, y.attrs, ())) (fun x => rfl)
noncomputable def kSps : Kod Try.prog 49 (List Spn) := Kod.slice kSp Try.underlying49 (by kernel_rfl) (Nat.lt_of_succ_le (Nat.le_of_ble_eq_true (by kernel_rfl)))
noncomputable def kEp : Kod Try.prog 51 Epi := (Kod.struct (Fod.cons kTr rfl (Fod.cons kInt (by kernel_rfl) (Fod.cons kInt (by kernel_rfl) (Fod.cons kBool (by kernel_rfl) (Fod.cons kSps (by kernel_rfl) Fod.nil))))) Try.underlying51 (by kernel_rfl)).iso
  (fun x => ⟨x.1, x.2.1, x.2.2.1, x.2.2.2.1, x.2.2.2.2.1⟩) (fun y => (y.tr, y.first, y.last, y.sure, y.spans, ())) (fun x => rfl)
noncomputable def kEps : Kod Try.prog 43 (List Epi) := Kod.slice kEp Try.underlying43 (by kernel_rfl) (Nat.lt_of_succ_le (Nat.le_of_ble_eq_true (by kernel_rfl)))
noncomputable def kBk : Kod Try.prog 45 Blo := (Kod.struct (Fod.cons kInt rfl (Fod.cons kInt (by kernel_rfl) (Fod.cons kInt (by kernel_rfl) (Fod.cons kEps (by kernel_rfl) Fod.nil)))) Try.underlying45 (by kernel_rfl)).iso
  (fun x => ⟨x.1, x.2.1, x.2.2.1, x.2.2.2.1⟩) (fun y => (y.number, y.born, y.tier, y.eps, ())) (fun x => rfl)
noncomputable def kBks : Kod Try.prog 22 (List Blo) := Kod.slice kBk Try.underlying22 (by kernel_rfl) (Nat.lt_of_succ_le (Nat.le_of_ble_eq_true (by kernel_rfl)))
theorem kBk_row : kBk.row = bkC := rfl
theorem kBks_row (l : List Blo) : kBks.row l = [.sh false (l.map bkC)] := rfl
end Go.Proofs.Ytihiakgpegfghaa
