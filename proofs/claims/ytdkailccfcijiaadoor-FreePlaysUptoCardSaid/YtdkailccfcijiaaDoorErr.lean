/- The errors: each of package api's variables holds a pointer of its own; copsekit.Num tells which. Condition: the variables that are named hold pointers that differ. -/
import Derived.Test.YtdkailccfcijiaaDoorBase
import Derived.LaidEql
import Derived.LaidEqlPtr
namespace Go.Proofs.YtdkailccfcijiaaDoor
open Go.RowKit
set_option linter.unusedVariables false
set_option linter.unusedSimpArgs false
set_option maxRecDepth 100000

/-- An error: none, or what the variable of that number holds. -/
def errV (E : Nat → Addr) : Option Nat → Value
  | none => .nilIface
  | some g => .iface 232 (.pointer (some (E g)))
/-- The variables of the list S hold pointers, no two of them one. -/
structure Errs (S : List Nat) (E : Nat → Addr) (w : World) : Prop where
  cell : ∀ g, g ∈ S → w.cell? ⟨g, 0, none⟩ = some (.iface 232 (.pointer (some (E g))))
  blk : ∀ g, g ∈ S → ∃ c t, w.heap[(E g).block]? = some (.cells c t (0, 0))
  inj : ∀ g h, g ∈ S → h ∈ S → E g = E h → g = h
theorem Errs.below {S : List Nat} {E : Nat → Addr} {w w' : World} (h : Errs S E w) (k : Below w.heap.size w w') : Errs S E w' :=
  ⟨fun g hg => qcell (h.cell g hg) k, fun g hg => let ⟨c, t, hb⟩ := h.blk g hg; ⟨c, t, (k.block _ (Array.getElem?_eq_some_iff.1 hb).1).trans hb⟩, h.inj⟩
theorem Errs.sub {S T : List Nat} {E : Nat → Addr} {w : World} (h : Errs S E w) (hs : ∀ g, g ∈ T → g ∈ S) : Errs T E w :=
  ⟨fun g hg => h.cell g (hs g hg), fun g hg => h.blk g (hs g hg), fun g k hg hk => h.inj g k (hs g hg) (hs k hk)⟩
theorem comp232 : (Tryd.prog.info? 232).map (·.comparable) = some true := by kernel_rfl
theorem size_errs : ∃ te j, Tryd.prog.underlying 232 = some (.pointer te) ∧ Tryd.prog.info? te = some j ∧ j.size ≠ 0 := by
  obtain ⟨j, hj, hs⟩ := Option.map_eq_some_iff.1 (show (Tryd.prog.info? 249).map (·.size) = some 1 by kernel_rfl)
  exact ⟨249, j, Tryd.underlying232, hj, by rw [hs]; decide⟩
theorem err_eq {S : List Nat} {E : Nat → Addr} {w : World} (h : Errs S E w) (g k : Nat) (hg : g ∈ S) (hk : k ∈ S) :
    (binOp .eql 35 (.iface 232 (.pointer (some (E g)))) (.iface 232 (.pointer (some (E k))))).run Tryd.prog w = .ok (.bool (g == k)) w := by
  obtain ⟨i, hi, hc⟩ := Option.map_eq_some_iff.1 comp232
  obtain ⟨te, j, hp, hj, hs⟩ := size_errs
  by_cases hgk : g = k
  · subst hgk
    rw [run_eql_iface_ptr_same w (E g) Tryd.underlying35 hp hi hc hj, beq_self_eq_true]
  · obtain ⟨ca, ta, ha⟩ := h.blk g hg
    obtain ⟨cb, tb, hb⟩ := h.blk k hk
    rw [run_eql_iface_ptr_other w Tryd.underlying35 hp hi hc hj hs (fun e => hgk (h.inj g k hg hk e)) ha hb, beq_false_of_ne hgk]
theorem err_ne_nil (a : Addr) (w : World) : (binOp .eql 35 (.iface 232 (.pointer (some a))) .nilIface).run Tryd.prog w = .ok (.bool false) w := by
  simp [go_sem]
def all13 : List Nat := [0, 1, 2, 3, 4, 5, 6, 7, 8, 9, 10, 11, 12]

theorem num_nil (w : World) : Calls Tryd.prog 23 #[.nilIface] w fun e w' => e = .returned (.int .i64 0) ∧ Below w.heap.size w w' := by
  go_enter Tryd.func23, Tryd.ntmps23
  go_wp2
  go_ret
  exact ⟨rfl, qrefl _⟩

theorem more_9 (E : Nat → Addr) (w : World) (h : Errs all13 E w) : Calls Tryd.prog 86 #[.iface 232 (.pointer (some (E 9)))] w fun e w' => e = .returned (.int .i64 8) ∧ Below w.heap.size w w' := by
  have c9 := h.cell 9 (by decide)
  have e9 := err_eq h 9 9 (by decide) (by decide)
  simp only [Nat.reduceBEq, beq_self_eq_true] at e9
  have en := err_ne_nil
  have H := Lib.hid h
  clear h
  go_enter Tryd.func86, Tryd.ntmps86
  go_wp2
  go_ret
  exact ⟨rfl, qrefl _⟩

theorem more_10 (E : Nat → Addr) (w : World) (h : Errs all13 E w) : Calls Tryd.prog 86 #[.iface 232 (.pointer (some (E 10)))] w fun e w' => e = .returned (.int .i64 9) ∧ Below w.heap.size w w' := by
  have c9 := h.cell 9 (by decide)
  have e9 := err_eq h 10 9 (by decide) (by decide)
  have c10 := h.cell 10 (by decide)
  have e10 := err_eq h 10 10 (by decide) (by decide)
  simp only [Nat.reduceBEq, beq_self_eq_true] at e9 e10
  have en := err_ne_nil
  have H := Lib.hid h
  clear h
  go_enter Tryd.func86, Tryd.ntmps86
  go_wp2
  go_ret
  exact ⟨rfl, qrefl _⟩

theorem more_11 (E : Nat → Addr) (w : World) (h : Errs all13 E w) : Calls Tryd.prog 86 #[.iface 232 (.pointer (some (E 11)))] w fun e w' => e = .returned (.int .i64 10) ∧ Below w.heap.size w w' := by
  have c9 := h.cell 9 (by decide)
  have e9 := err_eq h 11 9 (by decide) (by decide)
  have c10 := h.cell 10 (by decide)
  have e10 := err_eq h 11 10 (by decide) (by decide)
  have c11 := h.cell 11 (by decide)
  have e11 := err_eq h 11 11 (by decide) (by decide)
  simp only [Nat.reduceBEq, beq_self_eq_true] at e9 e10 e11
  have en := err_ne_nil
  have H := Lib.hid h
  clear h
  go_enter Tryd.func86, Tryd.ntmps86
  go_wp2
  go_ret
  exact ⟨rfl, qrefl _⟩

theorem more_12 (E : Nat → Addr) (w : World) (h : Errs all13 E w) : Calls Tryd.prog 86 #[.iface 232 (.pointer (some (E 12)))] w fun e w' => e = .returned (.int .i64 11) ∧ Below w.heap.size w w' := by
  have c9 := h.cell 9 (by decide)
  have e9 := err_eq h 12 9 (by decide) (by decide)
  have c10 := h.cell 10 (by decide)
  have e10 := err_eq h 12 10 (by decide) (by decide)
  have c11 := h.cell 11 (by decide)
  have e11 := err_eq h 12 11 (by decide) (by decide)
  have c12 := h.cell 12 (by decide)
  have e12 := err_eq h 12 12 (by decide) (by decide)
  simp only [Nat.reduceBEq, beq_self_eq_true] at e9 e10 e11 e12
  have en := err_ne_nil
  have H := Lib.hid h
  clear h
  go_enter Tryd.func86, Tryd.ntmps86
  go_wp2
  go_ret
  exact ⟨rfl, qrefl _⟩

theorem more_0 (E : Nat → Addr) (w : World) (h : Errs all13 E w) : Calls Tryd.prog 86 #[.iface 232 (.pointer (some (E 0)))] w fun e w' => e = .returned (.int .i64 12) ∧ Below w.heap.size w w' := by
  have c9 := h.cell 9 (by decide)
  have e9 := err_eq h 0 9 (by decide) (by decide)
  have c10 := h.cell 10 (by decide)
  have e10 := err_eq h 0 10 (by decide) (by decide)
  have c11 := h.cell 11 (by decide)
  have e11 := err_eq h 0 11 (by decide) (by decide)
  have c12 := h.cell 12 (by decide)
  have e12 := err_eq h 0 12 (by decide) (by decide)
  have c0 := h.cell 0 (by decide)
  have e0 := err_eq h 0 0 (by decide) (by decide)
  simp only [Nat.reduceBEq, beq_self_eq_true] at e9 e10 e11 e12 e0
  have en := err_ne_nil
  have H := Lib.hid h
  clear h
  go_enter Tryd.func86, Tryd.ntmps86
  go_wp2
  go_ret
  exact ⟨rfl, qrefl _⟩

theorem more_8 (E : Nat → Addr) (w : World) (h : Errs all13 E w) : Calls Tryd.prog 86 #[.iface 232 (.pointer (some (E 8)))] w fun e w' => e = .returned (.int .i64 13) ∧ Below w.heap.size w w' := by
  have c9 := h.cell 9 (by decide)
  have e9 := err_eq h 8 9 (by decide) (by decide)
  have c10 := h.cell 10 (by decide)
  have e10 := err_eq h 8 10 (by decide) (by decide)
  have c11 := h.cell 11 (by decide)
  have e11 := err_eq h 8 11 (by decide) (by decide)
  have c12 := h.cell 12 (by decide)
  have e12 := err_eq h 8 12 (by decide) (by decide)
  have c0 := h.cell 0 (by decide)
  have e0 := err_eq h 8 0 (by decide) (by decide)
  have c8 := h.cell 8 (by decide)
  have e8 := err_eq h 8 8 (by decide) (by decide)
  simp only [Nat.reduceBEq, beq_self_eq_true] at e9 e10 e11 e12 e0 e8
  have en := err_ne_nil
  have H := Lib.hid h
  clear h
  go_enter Tryd.func86, Tryd.ntmps86
  go_wp2
  go_ret
  exact ⟨rfl, qrefl _⟩

theorem num_2 (E : Nat → Addr) (w : World) (h : Errs all13 E w) : Calls Tryd.prog 23 #[.iface 232 (.pointer (some (E 2)))] w fun e w' => e = .returned (.int .i64 1) ∧ Below w.heap.size w w' := by
  have c2 := h.cell 2 (by decide)
  have e2 := err_eq h 2 2 (by decide) (by decide)
  simp only [Nat.reduceBEq, beq_self_eq_true] at e2
  have en := err_ne_nil
  have H := Lib.hid h
  clear h
  go_enter Tryd.func23, Tryd.ntmps23
  go_wp2
  go_ret
  exact ⟨rfl, qrefl _⟩

theorem num_3 (E : Nat → Addr) (w : World) (h : Errs all13 E w) : Calls Tryd.prog 23 #[.iface 232 (.pointer (some (E 3)))] w fun e w' => e = .returned (.int .i64 2) ∧ Below w.heap.size w w' := by
  have c2 := h.cell 2 (by decide)
  have e2 := err_eq h 3 2 (by decide) (by decide)
  have c3 := h.cell 3 (by decide)
  have e3 := err_eq h 3 3 (by decide) (by decide)
  simp only [Nat.reduceBEq, beq_self_eq_true] at e2 e3
  have en := err_ne_nil
  have H := Lib.hid h
  clear h
  go_enter Tryd.func23, Tryd.ntmps23
  go_wp2
  go_ret
  exact ⟨rfl, qrefl _⟩

theorem num_4 (E : Nat → Addr) (w : World) (h : Errs all13 E w) : Calls Tryd.prog 23 #[.iface 232 (.pointer (some (E 4)))] w fun e w' => e = .returned (.int .i64 3) ∧ Below w.heap.size w w' := by
  have c2 := h.cell 2 (by decide)
  have e2 := err_eq h 4 2 (by decide) (by decide)
  have c3 := h.cell 3 (by decide)
  have e3 := err_eq h 4 3 (by decide) (by decide)
  have c4 := h.cell 4 (by decide)
  have e4 := err_eq h 4 4 (by decide) (by decide)
  simp only [Nat.reduceBEq, beq_self_eq_true] at e2 e3 e4
  have en := err_ne_nil
  have H := Lib.hid h
  clear h
  go_enter Tryd.func23, Tryd.ntmps23
  go_wp2
  go_ret
  exact ⟨rfl, qrefl _⟩

theorem num_5 (E : Nat → Addr) (w : World) (h : Errs all13 E w) : Calls Tryd.prog 23 #[.iface 232 (.pointer (some (E 5)))] w fun e w' => e = .returned (.int .i64 4) ∧ Below w.heap.size w w' := by
  have c2 := h.cell 2 (by decide)
  have e2 := err_eq h 5 2 (by decide) (by decide)
  have c3 := h.cell 3 (by decide)
  have e3 := err_eq h 5 3 (by decide) (by decide)
  have c4 := h.cell 4 (by decide)
  have e4 := err_eq h 5 4 (by decide) (by decide)
  have c5 := h.cell 5 (by decide)
  have e5 := err_eq h 5 5 (by decide) (by decide)
  simp only [Nat.reduceBEq, beq_self_eq_true] at e2 e3 e4 e5
  have en := err_ne_nil
  have H := Lib.hid h
  clear h
  go_enter Tryd.func23, Tryd.ntmps23
  go_wp2
  go_ret
  exact ⟨rfl, qrefl _⟩

theorem num_6 (E : Nat → Addr) (w : World) (h : Errs all13 E w) : Calls Tryd.prog 23 #[.iface 232 (.pointer (some (E 6)))] w fun e w' => e = .returned (.int .i64 5) ∧ Below w.heap.size w w' := by
  have c2 := h.cell 2 (by decide)
  have e2 := err_eq h 6 2 (by decide) (by decide)
  have c3 := h.cell 3 (by decide)
  have e3 := err_eq h 6 3 (by decide) (by decide)
  have c4 := h.cell 4 (by decide)
  have e4 := err_eq h 6 4 (by decide) (by decide)
  have c5 := h.cell 5 (by decide)
  have e5 := err_eq h 6 5 (by decide) (by decide)
  have c6 := h.cell 6 (by decide)
  have e6 := err_eq h 6 6 (by decide) (by decide)
  simp only [Nat.reduceBEq, beq_self_eq_true] at e2 e3 e4 e5 e6
  have en := err_ne_nil
  have H := Lib.hid h
  clear h
  go_enter Tryd.func23, Tryd.ntmps23
  go_wp2
  go_ret
  exact ⟨rfl, qrefl _⟩

theorem num_1 (E : Nat → Addr) (w : World) (h : Errs all13 E w) : Calls Tryd.prog 23 #[.iface 232 (.pointer (some (E 1)))] w fun e w' => e = .returned (.int .i64 6) ∧ Below w.heap.size w w' := by
  have c2 := h.cell 2 (by decide)
  have e2 := err_eq h 1 2 (by decide) (by decide)
  have c3 := h.cell 3 (by decide)
  have e3 := err_eq h 1 3 (by decide) (by decide)
  have c4 := h.cell 4 (by decide)
  have e4 := err_eq h 1 4 (by decide) (by decide)
  have c5 := h.cell 5 (by decide)
  have e5 := err_eq h 1 5 (by decide) (by decide)
  have c6 := h.cell 6 (by decide)
  have e6 := err_eq h 1 6 (by decide) (by decide)
  have c1 := h.cell 1 (by decide)
  have e1 := err_eq h 1 1 (by decide) (by decide)
  simp only [Nat.reduceBEq, beq_self_eq_true] at e2 e3 e4 e5 e6 e1
  have en := err_ne_nil
  have H := Lib.hid h
  clear h
  go_enter Tryd.func23, Tryd.ntmps23
  go_wp2
  go_ret
  exact ⟨rfl, qrefl _⟩

theorem num_7 (E : Nat → Addr) (w : World) (h : Errs all13 E w) : Calls Tryd.prog 23 #[.iface 232 (.pointer (some (E 7)))] w fun e w' => e = .returned (.int .i64 7) ∧ Below w.heap.size w w' := by
  have c2 := h.cell 2 (by decide)
  have e2 := err_eq h 7 2 (by decide) (by decide)
  have c3 := h.cell 3 (by decide)
  have e3 := err_eq h 7 3 (by decide) (by decide)
  have c4 := h.cell 4 (by decide)
  have e4 := err_eq h 7 4 (by decide) (by decide)
  have c5 := h.cell 5 (by decide)
  have e5 := err_eq h 7 5 (by decide) (by decide)
  have c6 := h.cell 6 (by decide)
  have e6 := err_eq h 7 6 (by decide) (by decide)
  have c1 := h.cell 1 (by decide)
  have e1 := err_eq h 7 1 (by decide) (by decide)
  have c7 := h.cell 7 (by decide)
  have e7 := err_eq h 7 7 (by decide) (by decide)
  simp only [Nat.reduceBEq, beq_self_eq_true] at e2 e3 e4 e5 e6 e1 e7
  have en := err_ne_nil
  have H := Lib.hid h
  clear h
  go_enter Tryd.func23, Tryd.ntmps23
  go_wp2
  go_ret
  exact ⟨rfl, qrefl _⟩

theorem num_9 (E : Nat → Addr) (w : World) (h : Errs all13 E w) : Calls Tryd.prog 23 #[.iface 232 (.pointer (some (E 9)))] w fun e w' => e = .returned (.int .i64 8) ∧ Below w.heap.size w w' := by
  have c2 := h.cell 2 (by decide)
  have e2 := err_eq h 9 2 (by decide) (by decide)
  have c3 := h.cell 3 (by decide)
  have e3 := err_eq h 9 3 (by decide) (by decide)
  have c4 := h.cell 4 (by decide)
  have e4 := err_eq h 9 4 (by decide) (by decide)
  have c5 := h.cell 5 (by decide)
  have e5 := err_eq h 9 5 (by decide) (by decide)
  have c6 := h.cell 6 (by decide)
  have e6 := err_eq h 9 6 (by decide) (by decide)
  have c1 := h.cell 1 (by decide)
  have e1 := err_eq h 9 1 (by decide) (by decide)
  have c7 := h.cell 7 (by decide)
  have e7 := err_eq h 9 7 (by decide) (by decide)
  simp only [Nat.reduceBEq, beq_self_eq_true] at e2 e3 e4 e5 e6 e1 e7
  have en := err_ne_nil
  have H := Lib.hid h
  clear h
  go_enter Tryd.func23, Tryd.ntmps23
  go_wp2_with (go_at_call 86; refine (more_9 E w H.out).mono ?_; rintro e w1 ⟨rfl, hb⟩)
  go_ret
  exact ⟨rfl, hb⟩

theorem num_10 (E : Nat → Addr) (w : World) (h : Errs all13 E w) : Calls Tryd.prog 23 #[.iface 232 (.pointer (some (E 10)))] w fun e w' => e = .returned (.int .i64 9) ∧ Below w.heap.size w w' := by
  have c2 := h.cell 2 (by decide)
  have e2 := err_eq h 10 2 (by decide) (by decide)
  have c3 := h.cell 3 (by decide)
  have e3 := err_eq h 10 3 (by decide) (by decide)
  have c4 := h.cell 4 (by decide)
  have e4 := err_eq h 10 4 (by decide) (by decide)
  have c5 := h.cell 5 (by decide)
  have e5 := err_eq h 10 5 (by decide) (by decide)
  have c6 := h.cell 6 (by decide)
  have e6 := err_eq h 10 6 (by decide) (by decide)
  have c1 := h.cell 1 (by decide)
  have e1 := err_eq h 10 1 (by decide) (by decide)
  have c7 := h.cell 7 (by decide)
  have e7 := err_eq h 10 7 (by decide) (by decide)
  simp only [Nat.reduceBEq, beq_self_eq_true] at e2 e3 e4 e5 e6 e1 e7
  have en := err_ne_nil
  have H := Lib.hid h
  clear h
  go_enter Tryd.func23, Tryd.ntmps23
  go_wp2_with (go_at_call 86; refine (more_10 E w H.out).mono ?_; rintro e w1 ⟨rfl, hb⟩)
  go_ret
  exact ⟨rfl, hb⟩

theorem num_11 (E : Nat → Addr) (w : World) (h : Errs all13 E w) : Calls Tryd.prog 23 #[.iface 232 (.pointer (some (E 11)))] w fun e w' => e = .returned (.int .i64 10) ∧ Below w.heap.size w w' := by
  have c2 := h.cell 2 (by decide)
  have e2 := err_eq h 11 2 (by decide) (by decide)
  have c3 := h.cell 3 (by decide)
  have e3 := err_eq h 11 3 (by decide) (by decide)
  have c4 := h.cell 4 (by decide)
  have e4 := err_eq h 11 4 (by decide) (by decide)
  have c5 := h.cell 5 (by decide)
  have e5 := err_eq h 11 5 (by decide) (by decide)
  have c6 := h.cell 6 (by decide)
  have e6 := err_eq h 11 6 (by decide) (by decide)
  have c1 := h.cell 1 (by decide)
  have e1 := err_eq h 11 1 (by decide) (by decide)
  have c7 := h.cell 7 (by decide)
  have e7 := err_eq h 11 7 (by decide) (by decide)
  simp only [Nat.reduceBEq, beq_self_eq_true] at e2 e3 e4 e5 e6 e1 e7
  have en := err_ne_nil
  have H := Lib.hid h
  clear h
  go_enter Tryd.func23, Tryd.ntmps23
  go_wp2_with (go_at_call 86; refine (more_11 E w H.out).mono ?_; rintro e w1 ⟨rfl, hb⟩)
  go_ret
  exact ⟨rfl, hb⟩

theorem num_12 (E : Nat → Addr) (w : World) (h : Errs all13 E w) : Calls Tryd.prog 23 #[.iface 232 (.pointer (some (E 12)))] w fun e w' => e = .returned (.int .i64 11) ∧ Below w.heap.size w w' := by
  have c2 := h.cell 2 (by decide)
  have e2 := err_eq h 12 2 (by decide) (by decide)
  have c3 := h.cell 3 (by decide)
  have e3 := err_eq h 12 3 (by decide) (by decide)
  have c4 := h.cell 4 (by decide)
  have e4 := err_eq h 12 4 (by decide) (by decide)
  have c5 := h.cell 5 (by decide)
  have e5 := err_eq h 12 5 (by decide) (by decide)
  have c6 := h.cell 6 (by decide)
  have e6 := err_eq h 12 6 (by decide) (by decide)
  have c1 := h.cell 1 (by decide)
  have e1 := err_eq h 12 1 (by decide) (by decide)
  have c7 := h.cell 7 (by decide)
  have e7 := err_eq h 12 7 (by decide) (by decide)
  simp only [Nat.reduceBEq, beq_self_eq_true] at e2 e3 e4 e5 e6 e1 e7
  have en := err_ne_nil
  have H := Lib.hid h
  clear h
  go_enter Tryd.func23, Tryd.ntmps23
  go_wp2_with (go_at_call 86; refine (more_12 E w H.out).mono ?_; rintro e w1 ⟨rfl, hb⟩)
  go_ret
  exact ⟨rfl, hb⟩

theorem num_0 (E : Nat → Addr) (w : World) (h : Errs all13 E w) : Calls Tryd.prog 23 #[.iface 232 (.pointer (some (E 0)))] w fun e w' => e = .returned (.int .i64 12) ∧ Below w.heap.size w w' := by
  have c2 := h.cell 2 (by decide)
  have e2 := err_eq h 0 2 (by decide) (by decide)
  have c3 := h.cell 3 (by decide)
  have e3 := err_eq h 0 3 (by decide) (by decide)
  have c4 := h.cell 4 (by decide)
  have e4 := err_eq h 0 4 (by decide) (by decide)
  have c5 := h.cell 5 (by decide)
  have e5 := err_eq h 0 5 (by decide) (by decide)
  have c6 := h.cell 6 (by decide)
  have e6 := err_eq h 0 6 (by decide) (by decide)
  have c1 := h.cell 1 (by decide)
  have e1 := err_eq h 0 1 (by decide) (by decide)
  have c7 := h.cell 7 (by decide)
  have e7 := err_eq h 0 7 (by decide) (by decide)
  simp only [Nat.reduceBEq, beq_self_eq_true] at e2 e3 e4 e5 e6 e1 e7
  have en := err_ne_nil
  have H := Lib.hid h
  clear h
  go_enter Tryd.func23, Tryd.ntmps23
  go_wp2_with (go_at_call 86; refine (more_0 E w H.out).mono ?_; rintro e w1 ⟨rfl, hb⟩)
  go_ret
  exact ⟨rfl, hb⟩

theorem num_8 (E : Nat → Addr) (w : World) (h : Errs all13 E w) : Calls Tryd.prog 23 #[.iface 232 (.pointer (some (E 8)))] w fun e w' => e = .returned (.int .i64 13) ∧ Below w.heap.size w w' := by
  have c2 := h.cell 2 (by decide)
  have e2 := err_eq h 8 2 (by decide) (by decide)
  have c3 := h.cell 3 (by decide)
  have e3 := err_eq h 8 3 (by decide) (by decide)
  have c4 := h.cell 4 (by decide)
  have e4 := err_eq h 8 4 (by decide) (by decide)
  have c5 := h.cell 5 (by decide)
  have e5 := err_eq h 8 5 (by decide) (by decide)
  have c6 := h.cell 6 (by decide)
  have e6 := err_eq h 8 6 (by decide) (by decide)
  have c1 := h.cell 1 (by decide)
  have e1 := err_eq h 8 1 (by decide) (by decide)
  have c7 := h.cell 7 (by decide)
  have e7 := err_eq h 8 7 (by decide) (by decide)
  simp only [Nat.reduceBEq, beq_self_eq_true] at e2 e3 e4 e5 e6 e1 e7
  have en := err_ne_nil
  have H := Lib.hid h
  clear h
  go_enter Tryd.func23, Tryd.ntmps23
  go_wp2_with (go_at_call 86; refine (more_8 E w H.out).mono ?_; rintro e w1 ⟨rfl, hb⟩)
  go_ret
  exact ⟨rfl, hb⟩

/-- The number of an error. -/
def numOf : Option Nat → Int
  | none => 0
  | some 0 => 12
  | some 1 => 6
  | some 2 => 1
  | some 3 => 2
  | some 4 => 3
  | some 5 => 4
  | some 6 => 5
  | some 7 => 7
  | some 8 => 13
  | some 9 => 8
  | some 10 => 9
  | some 11 => 10
  | some 12 => 11
  | some _ => -1
theorem num_any (E : Nat → Addr) (w : World) (h : Errs all13 E w) (o : Option Nat) (ho : ∀ g, o = some g → g < 13) :
    Calls Tryd.prog 23 #[errV E o] w fun e w' => e = .returned (.int .i64 (numOf o)) ∧ Below w.heap.size w w' := by
  match o, ho with
  | none, _ => exact num_nil w
  | some 0, _ => exact num_0 E w h
  | some 1, _ => exact num_1 E w h
  | some 2, _ => exact num_2 E w h
  | some 3, _ => exact num_3 E w h
  | some 4, _ => exact num_4 E w h
  | some 5, _ => exact num_5 E w h
  | some 6, _ => exact num_6 E w h
  | some 7, _ => exact num_7 E w h
  | some 8, _ => exact num_8 E w h
  | some 9, _ => exact num_9 E w h
  | some 10, _ => exact num_10 E w h
  | some 11, _ => exact num_11 E w h
  | some 12, _ => exact num_12 E w h
  | some (n + 13), ho => exact absurd (ho _ rfl) (by omega)
end Go.Proofs.YtdkailccfcijiaaDoor
