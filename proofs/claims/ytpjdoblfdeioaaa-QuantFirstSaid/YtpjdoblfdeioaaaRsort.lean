/- Rows and the busiest services: the data, how they are sorted. Own work. -/
import Derived.Test.YtpjdoblfdeioaaaRdata
import Derived.Test.YtpjdoblfdeioaaaQsortk
set_option linter.unusedVariables false
set_option linter.unusedSimpArgs false
namespace Go.Pi
/-! Strings in order. -/
def ltL (a b : List UInt8) : Bool := Op.bytesLess a b
theorem ltL_irr : ∀ a, ltL a a = false
  | [] => rfl
  | a :: x => by
    have h := ltL_irr x
    unfold ltL at *
    simp [Op.bytesLess, h]
theorem ltL_trans : ∀ a b c, ltL a b = true → ltL b c = true → ltL a c = true
  | [], [], _, h, _ => by simp [ltL, Op.bytesLess] at h
  | _ :: _, [], _, h, _ => by simp [ltL, Op.bytesLess] at h
  | _, _ :: _, [], _, h => by simp [ltL, Op.bytesLess] at h
  | [], _ :: _, _ :: _, _, _ => by simp [ltL, Op.bytesLess]
  | a :: x, b :: y, c :: z, h1, h2 => by
    have h := ltL_trans x y z
    unfold ltL at *
    simp only [Op.bytesLess, Bool.or_eq_true, decide_eq_true_eq, Bool.and_eq_true, beq_iff_eq] at *
    rcases h1 with h1 | ⟨h1, h3⟩
    · rcases h2 with h2 | ⟨h2, h4⟩
      · exact .inl (UInt8.lt_trans h1 h2)
      · subst h2; exact .inl h1
    · subst h1
      rcases h2 with h2 | ⟨h2, h4⟩
      · exact .inl h2
      · exact .inr ⟨h2, h h3 h4⟩
theorem ltL_tri : ∀ a b, ltL a b = false → ltL b a = false → a = b
  | [], [], _, _ => rfl
  | _ :: _, [], _, h => by simp [ltL, Op.bytesLess] at h
  | [], _ :: _, h, _ => by simp [ltL, Op.bytesLess] at h
  | a :: x, b :: y, h1, h2 => by
    have h := ltL_tri x y
    unfold ltL at *
    simp only [Op.bytesLess, Bool.or_eq_false_iff, decide_eq_false_iff_not, Bool.and_eq_false_iff, beq_eq_false_iff_ne] at *
    obtain ⟨h1, h3⟩ := h1
    obtain ⟨h2, h4⟩ := h2
    have e : a = b := UInt8.le_antisymm (UInt8.not_lt.1 h2) (UInt8.not_lt.1 h1)
    subst e
    simp at h3 h4
    rw [h h3 h4]
def ltB (a b : ByteArray) : Bool := Op.bytesLess a.toList b.toList
theorem toList_inj {a b : ByteArray} (h : a.toList = b.toList) : a = b := by
  rw [Lib.toList_data, Lib.toList_data] at h
  cases a; cases b
  simp only [ByteArray.mk.injEq]
  exact Array.ext' h
theorem ltB_irr (a : ByteArray) : ltB a a = false := ltL_irr _
theorem ltB_trans {a b c : ByteArray} (h1 : ltB a b = true) (h2 : ltB b c = true) : ltB a c = true := ltL_trans _ _ _ h1 h2
theorem ltB_tri {a b : ByteArray} (h1 : ltB a b = false) (h2 : ltB b a = false) : a = b := toList_inj (ltL_tri _ _ h1 h2)
/-! The data. -/
structure Rw where
  level : Int
  window : Int
  svc : ByteArray
  op : ByteArray
  count : Int
  errs : Int
  b0 : Int
  b1 : Int
  b2 : Int
  b3 : Int
  b4 : Int
  b5 : Int
  b6 : Int
  b7 : Int
structure Bz where
  svc : ByteArray
  op : ByteArray
  count : Int
  errs : Int
instance : Inhabited Bz := ⟨⟨.empty, .empty, 0, 0⟩⟩
def rwC (r : Rw) : List PV := [.s (.int .i64 r.level), .s (.int .i64 r.window), .s (.string r.svc), .s (.string r.op), .s (.int .i64 r.count), .s (.int .i64 r.errs), .s (.int .i64 r.b0), .s (.int .i64 r.b1), .s (.int .i64 r.b2), .s (.int .i64 r.b3), .s (.int .i64 r.b4), .s (.int .i64 r.b5), .s (.int .i64 r.b6), .s (.int .i64 r.b7)]
def bzV (b : Bz) : List Value := [.string b.svc, .string b.op, .int .i64 b.count, .int .i64 b.errs]
def bzC (b : Bz) : List PV := [.s (.string b.svc), .s (.string b.op), .s (.int .i64 b.count), .s (.int .i64 b.errs)]
@[go_sem] theorem len_rwC (r : Rw) : (rwC r).length = 14 := rfl
@[go_sem] theorem len_bzC (r : Bz) : (bzC r).length = 4 := rfl
theorem bzC_rowS : bzC = rowS bzV := rfl
theorem bzV_inj (x y : Bz) (h : bzV x = bzV y) : x = y := by
  cases x; cases y
  simp [bzV] at h
  simp [h]
/-! The order. -/
def cmpI (a b : Int) : Int := if a < b then -1 else if b < a then 1 else 0
def cmpS (a b : ByteArray) : Int := if ltB a b then -1 else if a = b then 0 else 1
def or3 (a b c : Int) : Int := if a = 0 then (if b = 0 then c else b) else a
def cmpBz (a b : Bz) : Int := or3 (cmpI b.count a.count) (cmpS a.svc b.svc) (cmpS a.op b.op)
def ltBz (a b : Bz) : Bool := decide (cmpBz a b < 0)
theorem cmpI_lt {a b : Int} : cmpI a b < 0 ↔ a < b := by unfold cmpI; (repeat' split) <;> omega
theorem cmpI_0 {a b : Int} : cmpI a b = 0 ↔ a = b := by unfold cmpI; (repeat' split) <;> omega
theorem cmpS_lt {a b : ByteArray} : cmpS a b < 0 ↔ ltB a b = true := by unfold cmpS; (repeat' split) <;> simp_all
theorem cmpS_0 {a b : ByteArray} : cmpS a b = 0 ↔ a = b := by
  unfold cmpS
  constructor
  · intro h
    split at h
    · omega
    · split at h
      · rename_i h2; exact h2
      · omega
  · rintro rfl
    rw [ltB_irr]; simp
theorem or3_lt {a b c : Int} : or3 a b c < 0 ↔ a < 0 ∨ (a = 0 ∧ (b < 0 ∨ (b = 0 ∧ c < 0))) := by unfold or3; (repeat' split) <;> omega
theorem ltBz_iff (a b : Bz) : ltBz a b = true ↔ b.count < a.count ∨ (a.count = b.count ∧ (ltB a.svc b.svc = true ∨ (a.svc = b.svc ∧ ltB a.op b.op = true))) := by
  unfold ltBz cmpBz
  rw [decide_eq_true_eq, or3_lt, cmpI_lt, cmpI_0, cmpS_lt, cmpS_0, cmpS_lt]
  constructor
  · rintro (h | ⟨h, h2⟩)
    · exact .inl h
    · exact .inr ⟨h.symm, h2⟩
  · rintro (h | ⟨h, h2⟩)
    · exact .inl h
    · exact .inr ⟨h.symm, h2⟩
theorem ltBz_irr (a : Bz) : ltBz a a = false := by
  rw [Bool.eq_false_iff, ne_eq, ltBz_iff, ltB_irr, ltB_irr]
  simp
theorem ltBz_trans {a b c : Bz} (h1 : ltBz a b = true) (h2 : ltBz b c = true) : ltBz a c = true := by
  rw [ltBz_iff] at *
  rcases h1 with h1 | ⟨h1, h3⟩
  · rcases h2 with h2 | ⟨h2, h4⟩ <;> exact .inl (by omega)
  · rcases h2 with h2 | ⟨h2, h4⟩
    · exact .inl (by omega)
    · refine .inr ⟨by omega, ?_⟩
      rcases h3 with h3 | ⟨h3, h5⟩
      · rcases h4 with h4 | ⟨h4, h6⟩
        · exact .inl (ltB_trans h3 h4)
        · rw [← h4]; exact .inl h3
      · rcases h4 with h4 | ⟨h4, h6⟩
        · rw [h3]; exact .inl h4
        · exact .inr ⟨h3.trans h4, ltB_trans h5 h6⟩
theorem ltBz_tri {a b : Bz} (h1 : ltBz a b = false) (h2 : ltBz b a = false) : a.count = b.count ∧ a.svc = b.svc ∧ a.op = b.op := by
  rw [Bool.eq_false_iff, ne_eq, ltBz_iff] at h1 h2
  have e1 : a.count = b.count := by omega
  have e2 : a.svc = b.svc := by
    apply ltB_tri
    · rw [Bool.eq_false_iff]; exact fun h => h1 (.inr ⟨e1, .inl h⟩)
    · rw [Bool.eq_false_iff]; exact fun h => h2 (.inr ⟨e1.symm, .inl h⟩)
  refine ⟨e1, e2, ?_⟩
  apply ltB_tri
  · rw [Bool.eq_false_iff]; exact fun h => h1 (.inr ⟨e1, .inr ⟨e2, h⟩⟩)
  · rw [Bool.eq_false_iff]; exact fun h => h2 (.inr ⟨e1.symm, .inr ⟨e2.symm, h⟩⟩)
theorem swoBz : Go.Sort.SWO (Go.Proofs.ltOf cmpBz) where
  irrefl x := ltBz_irr x
  trans x y z h1 h2 := ltBz_trans h1 h2
  ntrans x y z h1 h2 := by
    have h1 : ltBz x y = false := h1
    have h2 : ltBz y z = false := h2
    show ltBz x z = false
    rw [Bool.eq_false_iff]
    intro h
    cases h3 : ltBz y x
    · obtain ⟨e1, e2, e3⟩ := ltBz_tri h1 h3
      rw [ltBz_iff, e1, e2, e3, ← ltBz_iff, h2] at h
      cases h
    · rw [ltBz_trans h3 h] at h2
      cases h2
noncomputable def srtBz : SortF := sortBy 16 34 bzV fun l => pdqL ltBz l
theorem srtBz_eq (l : List Bz) (hl : l.length < 4611686018427387904) : srtBz 16 [] 34 (l.map bzC) = some ((pdqL ltBz l).map bzC) := sortBy_eq bzV_inj l hl
end Go.Pi
