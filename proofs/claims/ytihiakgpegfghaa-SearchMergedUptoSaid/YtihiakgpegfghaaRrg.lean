/- Bounds of what is read. Own work. -/
import Derived.Test.YtihiakgpegfghaaRdata
set_option linter.unusedVariables false
set_option linter.unusedSimpArgs false
namespace Go.Proofs.Ytihiakgpegfghaa
open Go Go.Pi
def Att (l : List Spn) : Prop := ∀ s ∈ l, (s.attrs.length : Int) ≤ 9223372036854775807
def Eps (l : List Epi) : Prop := ∀ e ∈ l, (e.spans.length : Int) ≤ 9223372036854775807 ∧ Att e.spans
def I64 (n : Int) : Prop := -9223372036854775808 ≤ n ∧ n ≤ 9223372036854775807
def RgT (t : Trc) : Prop := t.hi < 18446744073709551616 ∧ t.lo < 18446744073709551616
structure RgS (s : Spn) : Prop where
  tr : RgT s.tr
  id : s.id < 18446744073709551616
  parent : s.parent < 18446744073709551616
  start : I64 s.start
  dur : I64 s.dur
structure RgE (e : Epi) : Prop where
  tr : RgT e.tr
  first : I64 e.first
  last : I64 e.last
  spans : ∀ s ∈ e.spans, RgS s
structure RgB (b : Blo) : Prop where
  number : I64 b.number
  born : I64 b.born
  tier : I64 b.tier
  eps : ∀ e ∈ b.eps, RgE e
end Go.Proofs.Ytihiakgpegfghaa
