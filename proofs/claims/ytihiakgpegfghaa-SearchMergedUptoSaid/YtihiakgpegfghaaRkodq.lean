/- How a query reads. Own work. -/
import Derived.Test.YtihiakgpegfghaaRkod
import Derived.Test.YtihiakgpegfghaaRmatch
set_option linter.unusedVariables false
set_option linter.unusedSimpArgs false
namespace Go.Proofs.Ytihiakgpegfghaa
open Go Go.Pi
noncomputable def kQ : Kod Try.prog 24 Qry := (Kod.struct (Fod.cons kStr rfl (Fod.cons kStr (by kernel_rfl) (Fod.cons kStr (by kernel_rfl) (Fod.cons kStr (by kernel_rfl) (Fod.cons kInt (by kernel_rfl) (Fod.cons kBool (by kernel_rfl) Fod.nil)))))) Try.underlying24 (by kernel_rfl)).iso
  (fun x => ⟨x.1, x.2.1, x.2.2.1, x.2.2.2.1, x.2.2.2.2.1, x.2.2.2.2.2.1⟩) (fun y => (y.svc, y.op, y.key, y.val, y.dur, y.err, ())) (fun x => rfl)
theorem kQ_row (q : Qry) : kQ.row q = qC q := rfl
theorem kSp_row (s : Spn) : kSp.row s = spC s := rfl
end Go.Proofs.Ytihiakgpegfghaa
