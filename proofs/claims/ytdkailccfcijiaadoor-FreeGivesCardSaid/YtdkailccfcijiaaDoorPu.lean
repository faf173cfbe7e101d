/- The lowest free pages: plain laws of numbers. -/
import Derived.Test.YtdkailccfcijiaaDoorPt
namespace Go.Proofs.YtdkailccfcijiaaDoor
set_option linter.unusedVariables false
set_option linter.unusedSimpArgs false

theorem filter_minus (p : Nat → Bool) (i : Nat) (hp : p i = true) : ∀ (l : List Nat), l.Nodup → i ∈ l → (l.filter fun j => p j && !decide (i = j)).length + 1 = (l.filter p).length
  | [], _, h => by cases h
  | x :: l, hn, h => by
    obtain ⟨h1, h2⟩ := List.nodup_cons.1 hn
    by_cases hx : i = x
    · subst hx
      have e : (l.filter fun j => p j && !decide (i = j)) = l.filter p := by
        apply List.filter_congr
        intro j hj
        have : i ≠ j := fun e => h1 (e ▸ hj)
        simp [this]
      rw [List.filter_cons, List.filter_cons, e]
      simp [hp]
    · have hm : i ∈ l := by
        rcases List.mem_cons.1 h with rfl | h
        · exact absurd rfl hx
        · exact h
      have ih := filter_minus p i hp l h2 hm
      rw [List.filter_cons, List.filter_cons]
      cases hq : p x
      · simp [hx]; exact ih
      · simp [hx]; omega
theorem freeN_set {pages : Nat} {ws : List Nat} (h : FmOk pages ws) {i : Nat} (hi : i < 64 * ws.length) (ht : tk ws i = false) : freeN (setW ws i) + 1 = freeN ws := by
  have h2 := ok_set h i
  have hlen : (setW ws i).length = ws.length := by unfold setW; simp
  rw [freeN_count _ h2.word, freeN_count _ h.word, hlen]
  have := filter_minus (fun j => !tk ws j) i (by simp [ht]) (List.range (64 * ws.length)) List.nodup_range (List.mem_range.2 hi)
  rw [← this]
  congr 2
  apply List.filter_congr
  intro j _
  rw [tk_set (by omega)]
  simp [Bool.not_or]
/-- The lowest free page. -/
def IsNext (ws : List Nat) (j : Nat) : Prop := tk ws j = false ∧ ∀ i, i < j → tk ws i = true
theorem next_uniq {ws : List Nat} {i j : Nat} (h : IsNext ws i) (k : IsNext ws j) : i = j := by
  rcases Nat.lt_trichotomy i j with h1 | h1 | h1
  · have := k.2 i h1; rw [h.1] at this; cases this
  · exact h1
  · have := h.2 j h1; rw [k.1] at this; cases this
theorem next_exists {pages : Nat} {ws : List Nat} (h : FmOk pages ws) (hf : 0 < freeN ws) : ∃ j, j < 64 * ws.length ∧ IsNext ws j := by
  rw [freeN_count _ h.word] at hf
  have hne : ((List.range (64 * ws.length)).filter fun j => !tk ws j) ≠ [] := List.length_pos_iff.1 hf
  obtain ⟨j0, hj0⟩ := List.exists_mem_of_ne_nil _ hne
  rw [List.mem_filter, List.mem_range] at hj0
  have : ∀ n, n < 64 * ws.length → tk ws n = false → ∃ j, j < 64 * ws.length ∧ IsNext ws j := by
    intro n
    induction n using Nat.strongRecOn with
    | ind n ih =>
      intro hn ht
      by_cases hall : ∀ i, i < n → tk ws i = true
      · exact ⟨n, hn, ht, hall⟩
      · obtain ⟨i, hi⟩ := Classical.not_forall.1 hall
        obtain ⟨hi1, hi2⟩ := Classical.not_imp.1 hi
        exact ih i hi1 (by omega) (by simpa using hi2)
  exact this j0 hj0.1 (by simpa using hj0.2)
open Classical in
noncomputable def nextF (ws : List Nat) : Nat := if h : ∃ j, IsNext ws j then Classical.choose h else 0
theorem nextF_is {ws : List Nat} {j : Nat} (h : IsNext ws j) : nextF ws = j := by
  have hex : ∃ j, IsNext ws j := ⟨j, h⟩
  unfold nextF
  rw [dif_pos hex]
  exact next_uniq (Classical.choose_spec hex) h
/-- The n lowest free pages, and the words behind that. -/
noncomputable def takeR : Nat → List Nat → List Nat × List Nat
  | 0, ws => ([], ws)
  | n + 1, ws => (nextF ws :: (takeR n (setW ws (nextF ws))).1, (takeR n (setW ws (nextF ws))).2)
theorem takeR_len : ∀ (n : Nat) (ws : List Nat), (takeR n ws).1.length = n
  | 0, _ => rfl
  | n + 1, ws => by rw [takeR, List.length_cons, takeR_len n]
theorem full_word {x b : Nat} (h : x = 18446744073709551615) (hb : b < 64) : x.testBit b = true := by
  subst h
  have e : (18446744073709551615 : Nat) = 2 ^ 64 - 1 := by decide
  rw [e, Nat.testBit_two_pow_sub_one]
  simpa using hb
/-- The lowest bit that is not set. -/
theorem low_bit {x : Nat} (hx : x < 18446744073709551616) (hne : x ≠ 18446744073709551615) : Lib.ctz 64 (18446744073709551615 - x) < 64 ∧ x.testBit (Lib.ctz 64 (18446744073709551615 - x)) = false ∧ ∀ b, b < Lib.ctz 64 (18446744073709551615 - x) → x.testBit b = true := by
  have h0 : 18446744073709551615 - x ≠ 0 := by omega
  have hlt : 18446744073709551615 - x < 2 ^ 64 := by
    have : (2 : Nat) ^ 64 = 18446744073709551616 := by decide
    omega
  obtain ⟨_, hk⟩ := Lib.lowest_bit 64 _ h0 hlt
  obtain ⟨m, hm, _⟩ := Lib.ctzFrom_spec 64 _ (by omega) hlt
  have hc : Lib.ctz 64 (18446744073709551615 - x) = Lib.ctzFrom 64 (18446744073709551615 - x) := by unfold Lib.ctz; rw [if_neg h0]
  rw [hc] at hk ⊢
  generalize hq : Lib.ctzFrom 64 (18446744073709551615 - x) = q at hm hk
  have hbit : ∀ b, b < 64 → x.testBit b = !(18446744073709551615 - x).testBit b := by
    intro b hb
    have hxe : (18446744073709551615 : Nat) - x = 2 ^ 64 - (x + 1) := by
      have : (2 : Nat) ^ 64 = 18446744073709551616 := by decide
      omega
    have hxl : x < 2 ^ 64 := hx
    rw [hxe, Nat.testBit_two_pow_sub_succ hxl]
    simp [hb]
  refine ⟨hk, ?_, fun b hb => ?_⟩
  · rw [hbit q hk, hm, Nat.testBit_two_pow_mul]
    simp
  · rw [hbit b (by omega), hm, Nat.testBit_two_pow_mul]
    simp; omega
end Go.Proofs.YtdkailccfcijiaaDoor
