/- What a map's words say of the pages: plain laws of numbers. -/
import Derived.Test.YtdkailccfcijiaaDoorFd
namespace Go.Proofs.YtdkailccfcijiaaDoor
set_option linter.unusedVariables false
set_option linter.unusedSimpArgs false

theorem getD_set_same {ws : List Nat} {i x : Nat} (h : i < ws.length) : (ws.set i x).getD i 0 = x := by
  rw [List.getD_eq_getElem?_getD, List.getElem?_set_self h]
  rfl
theorem getD_set_other {ws : List Nat} {i j x : Nat} (h : i ≠ j) : (ws.set i x).getD j 0 = ws.getD j 0 := by
  rw [List.getD_eq_getElem?_getD, List.getElem?_set_ne h, List.getD_eq_getElem?_getD]
theorem split64 (i j : Nat) : i = j ↔ i / 64 = j / 64 ∧ i % 64 = j % 64 := by omega
theorem tk_set {ws : List Nat} {i : Nat} (h : i / 64 < ws.length) (j : Nat) : tk (setW ws i) j = (tk ws j || decide (i = j)) := by
  unfold tk setW
  by_cases hw : i / 64 = j / 64
  · rw [← hw, getD_set_same h, Nat.testBit_or, Nat.testBit_two_pow]
    congr 1
    rw [decide_eq_decide, split64]
    omega
  · rw [getD_set_other hw, show decide (i = j) = false by simp; omega, Bool.or_false]
theorem testBit_compl (k b : Nat) (hk : k < 64) (hb : b < 64) : (18446744073709551615 - 2 ^ b).testBit k = !decide (b = k) := by
  have h : (18446744073709551615 : Nat) - 2 ^ b = 2 ^ 64 - (2 ^ b + 1) := by
    have : (2 : Nat) ^ 64 = 18446744073709551616 := by decide
    omega
  have hlt : (2 : Nat) ^ b < 2 ^ 64 := Nat.pow_lt_pow_right (by decide) hb
  rw [h, Nat.testBit_two_pow_sub_succ hlt, Nat.testBit_two_pow]
  simp [hk]
theorem tk_clr {ws : List Nat} {i : Nat} (h : i / 64 < ws.length) (hw : ∀ x ∈ ws, x < 18446744073709551616) (j : Nat) : tk (clrW ws i) j = (tk ws j && !decide (i = j)) := by
  unfold tk clrW
  by_cases he : i / 64 = j / 64
  · rw [← he, getD_set_same h, Nat.testBit_and, testBit_compl _ _ (Nat.mod_lt _ (by decide)) (Nat.mod_lt _ (by decide))]
    congr 2
    rw [decide_eq_decide, split64]
    omega
  · rw [getD_set_other he, show decide (i = j) = false by simp; omega]
    simp
theorem ok_set {pages : Nat} {ws : List Nat} (h : FmOk pages ws) (i : Nat) : FmOk pages (setW ws i) := by
  refine ⟨h.lo, h.hi, by unfold setW; rw [List.length_set]; exact h.len, fun x hx => ?_⟩
  rcases List.mem_or_eq_of_mem_set hx with hx | rfl
  · exact h.word x hx
  · have h1 : ws.getD (i / 64) 0 < 2 ^ 64 := by
      rw [List.getD_eq_getElem?_getD]
      cases hq : ws[i / 64]? with
      | none => simp
      | some y => exact h.word y (List.mem_of_getElem? hq)
    have h2 : (2 : Nat) ^ (i % 64) < 2 ^ 64 := Nat.pow_lt_pow_right (by decide) (Nat.mod_lt _ (by decide))
    exact Nat.or_lt_two_pow h1 h2
theorem ok_clr {pages : Nat} {ws : List Nat} (h : FmOk pages ws) (i : Nat) : FmOk pages (clrW ws i) := by
  refine ⟨h.lo, h.hi, by unfold clrW; rw [List.length_set]; exact h.len, fun x hx => ?_⟩
  rcases List.mem_or_eq_of_mem_set hx with hx | rfl
  · exact h.word x hx
  · exact Nat.lt_of_le_of_lt Nat.and_le_right (Nat.lt_of_le_of_lt (Nat.sub_le _ _) (by decide))
theorem testBit_over (b m : Nat) (hb : b < 64) (hm : m < 64) : (18446744073709551616 - 2 ^ b).testBit m = decide (b ≤ m) := by
  have hp : 0 < (2 : Nat) ^ b := Nat.pow_pos (by decide)
  have hlt : (2 : Nat) ^ b < 2 ^ 64 := Nat.pow_lt_pow_right (by decide) hb
  have h : (18446744073709551616 : Nat) - 2 ^ b = 2 ^ 64 - ((2 ^ b - 1) + 1) := by
    have : (2 : Nat) ^ 64 = 18446744073709551616 := by decide
    omega
  rw [h, Nat.testBit_two_pow_sub_succ (by omega), Nat.testBit_two_pow_sub_one]
  simp only [hm, decide_true, Bool.true_and]
  rw [← decide_not, decide_eq_decide]
  omega
theorem tk_first {k j : Nat} (hk : 1 ≤ k) : tk ((List.replicate k 0).set 0 3) j = decide (j < 2) := by
  unfold tk
  by_cases h : j / 64 = 0
  · rw [h, getD_set_same (by simp; omega)]
    have hj : j % 64 = j := by omega
    rw [hj]
    have : j < 64 := by omega
    have e : (3 : Nat) = 2 ^ 2 - 1 := by decide
    rw [e, Nat.testBit_two_pow_sub_one]
  · rw [getD_set_other (by omega)]
    have : (List.replicate k 0).getD (j / 64) 0 = 0 := by
      rw [List.getD_eq_getElem?_getD, List.getElem?_replicate]
      split <;> rfl
    rw [this, Nat.zero_testBit]
    symm
    rw [decide_eq_false_iff_not]
    omega
/-- Of a new map the two first pages are taken, and what lies behind the last one. -/
theorem tk_new {n j : Nat} (hn : 4 ≤ n) (hj : j < 64 * ((n + 63) / 64)) : tk (newW n) j = (decide (j < 2) || decide (n ≤ j)) := by
  by_cases h : n % 64 = 0
  · rw [newW_zero h, tk_first (by omega), show decide (n ≤ j) = false by simp; omega, Bool.or_false]
  · obtain ⟨x, hx, _⟩ := new_last ((n + 63) / 64) (by omega)
    have hf := tk_first (k := (n + 63) / 64) (j := j) (by omega)
    rw [newW_over h hx]
    unfold tk at hf ⊢
    by_cases hw : (n + 63) / 64 - 1 = j / 64
    · rw [← hw] at hf
      rw [List.getD_eq_getElem?_getD, hx] at hf
      rw [← hw, getD_set_same (by simp; omega), Nat.testBit_or, testBit_over _ _ (Nat.mod_lt _ (by decide)) (Nat.mod_lt _ (by decide))]
      simp only [Option.getD_some] at hf
      rw [hf]
      congr 1
      rw [decide_eq_decide]
      omega
    · rw [getD_set_other hw, hf, show decide (n ≤ j) = false by simp; omega, Bool.or_false]
theorem ok_new {n : Nat} (h1 : 4 ≤ n) (h2 : n ≤ 1048576) : FmOk n (newW n) := by
  have hw3 : ∀ x ∈ (List.replicate ((n + 63) / 64) 0).set 0 3, x < 18446744073709551616 := by
    intro x hx
    rcases List.mem_or_eq_of_mem_set hx with hx | rfl
    · rw [List.eq_of_mem_replicate hx]; decide
    · decide
  by_cases h : n % 64 = 0
  · rw [newW_zero h]
    exact ⟨h1, h2, by simp, hw3⟩
  · obtain ⟨x, hx, hxl⟩ := new_last ((n + 63) / 64) (by omega)
    rw [newW_over h hx]
    refine ⟨h1, h2, by simp, fun y hy => ?_⟩
    rcases List.mem_or_eq_of_mem_set hy with hy | rfl
    · exact hw3 y hy
    · have hp : 0 < (2 : Nat) ^ (n % 64) := Nat.pow_pos (by decide)
      exact Nat.or_lt_two_pow (n := 64) hxl (by have : (2 : Nat) ^ 64 = 18446744073709551616 := by decide
                                                omega)
/-- How many pages, of those that the words tell of, are free. -/
theorem freeN_count (ws : List Nat) (hw : ∀ x ∈ ws, x < 18446744073709551616) : freeN ws = ((List.range (64 * ws.length)).filter fun j => !tk ws j).length := by
  induction ws with
  | nil => rfl
  | cons x ws ih =>
    have hx := hw x List.mem_cons_self
    have ih := ih fun y hy => hw y (List.mem_cons_of_mem _ hy)
    have e1 : freeN (x :: ws) = popc 64 (18446744073709551615 - x) + freeN ws := by unfold freeN; rw [List.map_cons, List.sum_cons]
    rw [e1, ih, popc_count]
    have e2 : List.range (64 * (x :: ws).length) = List.range 64 ++ (List.range (64 * ws.length)).map (64 + ·) := by
      rw [List.length_cons, show 64 * (ws.length + 1) = 64 + 64 * ws.length by omega, List.range_add]
    rw [e2, List.filter_append, List.length_append]
    congr 1
    · congr 1
      apply List.filter_congr
      intro j hj
      have hj : j < 64 := List.mem_range.1 hj
      have hxe : (18446744073709551615 : Nat) - x = 2 ^ 64 - (x + 1) := by
        have : (2 : Nat) ^ 64 = 18446744073709551616 := by decide
        omega
      have hxl : x < 2 ^ 64 := hx
      rw [hxe, Nat.testBit_two_pow_sub_succ hxl]
      unfold tk
      rw [show j / 64 = 0 by omega, show j % 64 = j by omega]
      simp [hj]
    · rw [List.filter_map, List.length_map]
      congr 1
      apply List.filter_congr
      intro j hj
      unfold tk
      simp only [Function.comp]
      rw [show (64 + j) / 64 = j / 64 + 1 by omega, show (64 + j) % 64 = j % 64 by omega]
      simp
end Go.Proofs.YtdkailccfcijiaaDoor
