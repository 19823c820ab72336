/- What is read is within bounds. Own work. -/
import Derived.Test.YtihiakgpegfghaaRrg
import Derived.Test.YtihiakgpegfghaaRkod
set_option linter.unusedVariables false
set_option linter.unusedSimpArgs false
namespace Go.Proofs.Ytihiakgpegfghaa
open Go Go.Pi
theorem ok_tr {N : Nat} {t : Trc} (h : kTr.ok N t) : RgT t := by
  have h : (Lit.int .u64 (t.hi : Int)).wf = true ∧ (Lit.int .u64 (t.lo : Int)).wf = true ∧ True := h
  have h1 := wf_u64 h.1
  have h2 := wf_u64 h.2.1
  exact ⟨by omega, by omega⟩
theorem ok_sp {N : Nat} {s : Spn} (h : kSp.ok N s) : RgS s ∧ s.attrs.length ≤ N := by
  have h : kTr.ok N s.tr ∧ (Lit.int .u64 (s.id : Int)).wf = true ∧ (Lit.int .u64 (s.parent : Int)).wf = true ∧ kStr.ok N s.svc ∧ kStr.ok N s.op ∧ (Lit.int .i64 s.start).wf = true ∧ (Lit.int .i64 s.dur).wf = true ∧ True ∧ kAts.ok N s.attrs ∧ True := h
  obtain ⟨h1, h2, h3, h4, h5, h6, h7, _, h8, _⟩ := h
  have e2 := wf_u64 h2
  have e3 := wf_u64 h3
  have h8 : (∀ x ∈ s.attrs, kAt.ok N x) ∧ s.attrs.length ≤ maxI ∧ s.attrs.length ≤ N := h8
  exact ⟨⟨ok_tr h1, by omega, by omega, wf_i64 h6, wf_i64 h7⟩, h8.2.2⟩
theorem ok_ep {N : Nat} {e : Epi} (h : kEp.ok N e) : RgE e ∧ e.spans.length ≤ N ∧ ∀ s ∈ e.spans, s.attrs.length ≤ N := by
  have h : kTr.ok N e.tr ∧ (Lit.int .i64 e.first).wf = true ∧ (Lit.int .i64 e.last).wf = true ∧ True ∧ kSps.ok N e.spans ∧ True := h
  obtain ⟨h1, h2, h3, _, h4, _⟩ := h
  have h4 : (∀ x ∈ e.spans, kSp.ok N x) ∧ e.spans.length ≤ maxI ∧ e.spans.length ≤ N := h4
  exact ⟨⟨ok_tr h1, wf_i64 h2, wf_i64 h3, fun s hs => (ok_sp (h4.1 s hs)).1⟩, h4.2.2, fun s hs => (ok_sp (h4.1 s hs)).2⟩
theorem ok_bk {N : Nat} (hN : N ≤ 1048576) {b : Blo} (h : kBk.ok N b) : RgB b ∧ b.eps.length ≤ 1048576 ∧ Eps b.eps := by
  have h : (Lit.int .i64 b.number).wf = true ∧ (Lit.int .i64 b.born).wf = true ∧ (Lit.int .i64 b.tier).wf = true ∧ kEps.ok N b.eps ∧ True := h
  obtain ⟨h1, h2, h3, h4, _⟩ := h
  have h4 : (∀ x ∈ b.eps, kEp.ok N x) ∧ b.eps.length ≤ maxI ∧ b.eps.length ≤ N := h4
  refine ⟨⟨wf_i64 h1, wf_i64 h2, wf_i64 h3, fun e he => (ok_ep (h4.1 e he)).1⟩, by omega, fun e he => ?_⟩
  obtain ⟨_, k1, k2⟩ := ok_ep (h4.1 e he)
  exact ⟨by omega, fun s hs => by have := k2 s hs; omega⟩
/-- A list of blocks as it is read, where all is of small bulk. -/
theorem ok_bks {N : Nat} (hN : N ≤ 1048576) {l : List Blo} (h : kBks.ok N l) : (∀ b ∈ l, RgB b) ∧ (l.length : Int) ≤ 1048576 ∧ (∀ b ∈ l, b.eps.length ≤ 1048576) ∧ ∀ b ∈ l, Eps b.eps := by
  have h : (∀ x ∈ l, kBk.ok N x) ∧ l.length ≤ maxI ∧ l.length ≤ N := h
  exact ⟨fun b hb => (ok_bk hN (h.1 b hb)).1, by omega, fun b hb => (ok_bk hN (h.1 b hb)).2.1, fun b hb => (ok_bk hN (h.1 b hb)).2.2⟩
end Go.Proofs.Ytihiakgpegfghaa
