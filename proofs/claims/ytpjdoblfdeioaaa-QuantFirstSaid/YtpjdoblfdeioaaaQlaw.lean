/- A law's call, from its arguments' readings. Own work of this session. -/
import Derived.Test.YtpjdoblfdeioaaaQrow
import Derived.Below
import Derived.WideShapes
set_option linter.unusedVariables false
set_option linter.unusedSimpArgs false
namespace Go.Pi
open Go.WideShapes Go.RowKit Go.Proofs.Ytpjdoblfdeioaaa
section
variable {cx : Cx} {P : Program} {W : World} {H : Type} {enc : TypeId × Value → H}
theorem arg_one {t : Nat} {α : Type} (c : Kod P t α) (pv : α → PV) (hrow : ∀ x, c.row x = [pv x]) {v : Value} (hv : v.cells = #[v]) {base : Nat} {spare : Nat → Bool} {held : Bool} {d : DataW H} {p : List MemPlace} (h : DataW.Trod enc P W base spare held t v d p) :
    ∃ x, c.ok (Rows.uptoBulk d) x ∧ TrA P W (All W) (pv x) v [] := by
  obtain ⟨fuel, hf⟩ := h
  rw [hv] at hf
  obtain ⟨x, hx, hr⟩ := c.opn enc W base spare held fuel _ _ _ hf
  rw [hrow] at hr
  exact ⟨x, hx, .cell (.pl (RelC_of_Sh (hr.2 0 (pv x) v rfl rfl).2))⟩
theorem arg_agg {t : Nat} {α : Type} (c : Kod P t α) {v : Value} {cs : Array Value} (hv : v = .agg cs) {base : Nat} {spare : Nat → Bool} {held : Bool} {d : DataW H} {p : List MemPlace} (h : DataW.Trod enc P W base spare held t v d p) :
    ∃ x, c.ok (Rows.uptoBulk d) x ∧ TrA P W (All W) (.ag (c.row x)) v [] := by
  obtain ⟨fuel, hf⟩ := h
  subst hv
  obtain ⟨x, hx, hr⟩ := c.opn enc W base spare held fuel _ _ _ hf
  have : TrCs P W (All W) (c.row x) cs.toList [] := trCs_plain (H := noH) ⟨hr.1, fun i p y hp hy => RelC_of_Sh (hr.2 i p y hp hy).2⟩
  have := TrA.ag (P := P) (W := W) (S := All W) this
  rw [Array.toArray_toList] at this
  exact ⟨x, hx, this⟩
theorem cells_slice (A : Option Addr) (l c : Nat) : (Value.slice A l c).cells = #[.slice A l c] := rfl
theorem trAs_cons {p : PV} {v : Value} {ps : List PV} {vs : List Value} (h : TrA P W (All W) p v []) (h' : TrAs P W (All W) ps vs []) : TrAs P W (All W) (p :: ps) (v :: vs) [] := TrAs.cons (g := []) (gs := []) h h'
/-- A law that the reading answers with true. -/
theorem law_calls (hC : CallOk cx (Cal cx)) {g : Nat} {tvs : List PV} {vs : List Value} (hcal : Cal cx g tvs = some ([.s (.bool true)], [])) (htr : TrAs cx.P W (All W) tvs vs []) :
    Calls cx.P g vs.toArray W fun e W' => e = .returned (.bool true) ∧ Below W.heap.size W W' := by
  obtain ⟨_, h⟩ := hC g tvs _ _ hcal
  refine (h W (All W) [] vs ⟨htr, List.nodup_nil, fun g hg => (by cases hg), fun k h => h, fun k h => h, fun g hg => (by cases hg)⟩).mono fun e W' hpost => ?_
  obtain ⟨rs, S', O1, O2, hs, rfl, post⟩ := hpost
  have hres := post.res
  have hrs : rs = [.bool true] := by
    cases hres with
    | cons t1 t2 =>
      cases t2
      cases t1 with
      | cell t => cases t with
        | pl t => rw [← t.1]
  subst hrs
  exact ⟨rfl, ⟨post.keep.os, post.keep.tape, post.keep.output, post.keep.size, fun k hk => post.keep.block k hk (fun hm => by cases hm)⟩⟩
end
end Go.Pi
