/- The small readers of the diff laws: keys, rising lists, equal lists. No condition but what each reads. -/
import Derived.Test.YtdkailccfcijiaaDoorBase
namespace Go.Proofs.YtdkailccfcijiaaDoor
open Go.RowKit
set_option linter.unusedVariables false
set_option linter.unusedSimpArgs false
set_option maxRecDepth 100000

structure P where
  k : ByteArray
  v : ByteArray
structure C where
  k : ByteArray
  had : Bool
  has : Bool
  old : ByteArray
  new : ByteArray
def P.enc (p : P) : List Value := [.string p.k, .string p.v]
def C.enc (c : C) : List Value := [.string c.k, .bool c.had, .bool c.has, .string c.old, .string c.new]
def PT : Ty P := ⟨28, 2, P.enc, fun _ => rfl, fun _ u h => by simp [P.enc] at h; rcases h with rfl | rfl <;> rfl, by decide⟩
def CT : Ty C := ⟨32, 5, C.enc, fun _ => rfl, fun _ u h => by simp [C.enc] at h; rcases h with rfl | rfl | rfl | rfl | rfl <;> rfl, by decide⟩

/-- The cells of an element that is read. -/
theorem rdP {w : World} {a : Option Addr} {n : Nat} {l : List P} (h : Rd PT w a n l) {i : Nat} (hi : i < n) : ∃ b o x, a = some ⟨b, o, none⟩ ∧ l[i]? = some x ∧
    w.cell? ⟨b, o + i * 2, none⟩ = some (.string x.k) ∧ w.cell? ⟨b, o + i * 2 + 1, none⟩ = some (.string x.v) := by
  obtain ⟨b, o, x, e, hx, hc⟩ := h.get i hi
  exact ⟨b, o, x, e, hx, hc 0 _ rfl, hc 1 _ rfl⟩
theorem rdC {w : World} {a : Option Addr} {n : Nat} {l : List C} (h : Rd CT w a n l) {i : Nat} (hi : i < n) : ∃ b o x, a = some ⟨b, o, none⟩ ∧ l[i]? = some x ∧
    w.cell? ⟨b, o + i * 5, none⟩ = some (.string x.k) ∧ w.cell? ⟨b, o + i * 5 + 1, none⟩ = some (.bool x.had) ∧ w.cell? ⟨b, o + i * 5 + 2, none⟩ = some (.bool x.has) ∧
    w.cell? ⟨b, o + i * 5 + 3, none⟩ = some (.string x.old) ∧ w.cell? ⟨b, o + i * 5 + 4, none⟩ = some (.string x.new) := by
  obtain ⟨b, o, x, e, hx, hc⟩ := h.get i hi
  exact ⟨b, o, x, e, hx, hc 0 _ rfl, hc 1 _ rfl, hc 2 _ rfl, hc 3 _ rfl, hc 4 _ rfl⟩

/-! ### keys -/
theorem zero28 (w : World) : (zeroValue 28).run Tryd.prog w = .ok (.agg #[.string ⟨#[]⟩, .string ⟨#[]⟩]) w := by kernel_rfl
theorem zero32 (w : World) : (zeroValue 32).run Tryd.prog w = .ok (.agg #[.string ⟨#[]⟩, .bool false, .bool false, .string ⟨#[]⟩, .string ⟨#[]⟩]) w := by kernel_rfl
theorem ta28_28 (v : Value) (w : World) : (Instr.typeAssert (.iface 28 v) 20 28 true).run Tryd.prog w = .ok (.tuple #[v, .bool true]) w := by
  simp [Instr.typeAssert, go_sem]
theorem ta32_28 (v : Value) (w : World) : (Instr.typeAssert (.iface 32 v) 20 28 true).run Tryd.prog w = .ok (.tuple #[.agg #[.string ⟨#[]⟩, .string ⟨#[]⟩], .bool false]) w := by
  simp [Instr.typeAssert, go_sem]
theorem ta32_32 (v : Value) (w : World) : (Instr.typeAssert (.iface 32 v) 20 32 true).run Tryd.prog w = .ok (.tuple #[v, .bool true]) w := by
  simp [Instr.typeAssert, go_sem]

theorem keyOfPair (k v : ByteArray) (w : World) :
    Calls Tryd.prog 114 #[.agg #[.string k, .string v]] w fun e w' => e = .returned (.string k) ∧ Below w.heap.size w w' := by
  have h1 := ta28_28
  have h2 := zero28
  go_enter Tryd.func114, Tryd.ntmps114
  go_wp2
  go_ret
  exact ⟨rfl, qalloc (qalloc (qrefl _) _) _⟩
theorem keyOfChange (k : ByteArray) (had has : Bool) (o n : ByteArray) (w : World) :
    Calls Tryd.prog 115 #[.agg #[.string k, .bool had, .bool has, .string o, .string n]] w fun e w' => e = .returned (.string k) ∧ Below w.heap.size w w' := by
  have h1 := ta32_28
  have h2 := ta32_32
  have h3 := zero32
  go_enter Tryd.func115, Tryd.ntmps115
  go_wp2
  go_ret
  exact ⟨rfl, qalloc (qalloc (qrefl _) _) _⟩

/-! ### the order of the bytes -/
theorem bl_eq : ∀ (x y : List UInt8), Op.bytesLess x y = decide (x < y)
  | [], [] => by simp [Op.bytesLess]
  | [], _ :: _ => by simp [Op.bytesLess]
  | _ :: _, [] => by simp [Op.bytesLess]
  | a :: x, b :: y => by
    rw [Op.bytesLess, bl_eq x y]
    simp only [List.cons_lt_cons_iff]
    by_cases h1 : a < b <;> by_cases h2 : a = b <;> by_cases h3 : x < y <;> simp [h1, h2, h3]
theorem bl_irr (x : List UInt8) : Op.bytesLess x x = false := by simp [bl_eq]
theorem bl_trans {x y z : List UInt8} (h : Op.bytesLess x y = true) (k : Op.bytesLess y z = true) : Op.bytesLess x z = true := by
  simp only [bl_eq, decide_eq_true_eq] at *; exact List.lt_trans h k
theorem bl_asymm {x y : List UInt8} (h : Op.bytesLess x y = true) : Op.bytesLess y x = false := by
  simp only [bl_eq, decide_eq_true_eq, decide_eq_false_iff_not] at *; exact List.lt_asymm h
theorem bl_tri {x y : List UInt8} (h : Op.bytesLess x y = false) (k : Op.bytesLess y x = false) : x = y := by
  simp only [bl_eq, decide_eq_false_iff_not] at *
  exact List.le_antisymm (List.not_lt.1 k) (List.not_lt.1 h)
theorem bl_ne {x y : List UInt8} (h : Op.bytesLess x y = true) : x ≠ y := by rintro rfl; rw [bl_irr] at h; cases h
/-- 'y <= x', where x is below y, and where it is not. -/
theorem not_le_of {x y : List UInt8} (h : Op.bytesLess x y = true) : (Op.bytesLess y x || y == x) = false := by
  rw [bl_asymm h, Bool.false_or]
  simpa using (bl_ne h).symm
theorem le_of_not {x y : List UInt8} (h : Op.bytesLess x y = false) : (Op.bytesLess y x || y == x) = true := by
  cases k : Op.bytesLess y x with
  | true => rfl
  | false => rw [bl_tri h k]; simp
theorem str_ext {x y : ByteArray} (h : x.toList = y.toList) : x = y := by
  have h2 : x.data.toList = y.data.toList := by rw [← ByteArray.toList_eq, ← ByteArray.toList_eq]; exact h
  exact ByteArray.ext (Array.toList_inj.1 h2)

/-! ### rising lists -/
/-- Each key is below the next one. -/
def Rises (ks : List ByteArray) : Prop := ∀ i x y, ks[i]? = some x → ks[i + 1]? = some y → Op.bytesLess x.toList y.toList = true
theorem rises_step {α : Type} {l : List α} {f : α → ByteArray} {k : Nat} (h : ∀ i x y, i + 1 < k → l[i]? = some x → l[i + 1]? = some y → Op.bytesLess (f x).toList (f y).toList = true) (hk : 1 ≤ k) {x y : α}
    (hx : l[k - 1]? = some x) (hy : l[k]? = some y) (hxy : Op.bytesLess (f x).toList (f y).toList = true) : ∀ i x y, i + 1 < k + 1 → l[i]? = some x → l[i + 1]? = some y → Op.bytesLess (f x).toList (f y).toList = true := by
  intro i u v hi hu hv
  rcases Nat.lt_or_ge (i + 1) k with h1 | h1
  · exact h i u v h1 hu hv
  · obtain rfl : i + 1 = k := by omega
    rw [Nat.add_sub_cancel] at hx
    rw [hx] at hu
    rw [hy] at hv
    cases hu
    cases hv
    exact hxy
theorem rises_all {α : Type} {l : List α} {f : α → ByteArray} {k : Nat} (h : ∀ i x y, i + 1 < k → l[i]? = some x → l[i + 1]? = some y → Op.bytesLess (f x).toList (f y).toList = true) (hk : l.length ≤ k) : Rises (l.map f) := by
  intro i x y hx hy
  rw [List.getElem?_map, Option.map_eq_some_iff] at hx hy
  obtain ⟨u, hu, rfl⟩ := hx
  obtain ⟨v, hv, rfl⟩ := hy
  exact h i u v (by have := (List.getElem?_eq_some_iff.1 hv).1; omega) hu hv
theorem rises_at {α : Type} {l : List α} {f : α → ByteArray} (h : Rises (l.map f)) {k : Nat} (hk : 1 ≤ k) {x y : α} (hx : l[k - 1]? = some x) (hy : l[k]? = some y) : Op.bytesLess (f x).toList (f y).toList = true := by
  refine h (k - 1) _ _ (by rw [List.getElem?_map, hx]; rfl) ?_
  rw [Nat.sub_add_cancel hk, List.getElem?_map, hy]
  rfl
end Go.Proofs.YtdkailccfcijiaaDoor
