/- The lowest free pages: plain laws of numbers. A map's words and the book of its pages: plain laws of numbers. -/
import Derived.Test.YtdkailccfcijiaaDoorPt
namespace Go.Proofs.YtdkailccfcijiaaDoor
set_option linter.unusedVariables false
set_option linter.unusedSimpArgs false

theorem filter_minus (p : Nat → Bool) (i : Nat) (hp : p i = true) : ∀ (l : List Nat), l.Nodup → i ∈ l → (l.filter fun j => p j && !decide (i = j)).length + 1 = (l.filter p).length
  | [], _, h => by cases h
  | x :: l, hn, h => by
    obtain ⟨h1, h2⟩ := List.nodup_cons.1 hn
    by_cases hx : i = x
    · subst hx
      have e : (l.filter fun j => p j && !decide (i = j)) = l.filter p := by
        apply List.filter_congr
        intro j hj
        have : i ≠ j := fun e => h1 (e ▸ hj)
        simp [this]
      rw [List.filter_cons, List.filter_cons, e]
      simp [hp]
    · have hm : i ∈ l := by
        rcases List.mem_cons.1 h with rfl | h
        · exact absurd rfl hx
        · exact h
      have ih := filter_minus p i hp l h2 hm
      rw [List.filter_cons, List.filter_cons]
      cases hq : p x
      · simp [hx]; exact ih
      · simp [hx]; omega
theorem freeN_set {pages : Nat} {ws : List Nat} (h : FmOk pages ws) {i : Nat} (hi : i < 64 * ws.length) (ht : tk ws i = false) : freeN (setW ws i) + 1 = freeN ws := by
  have h2 := ok_set h i
  have hlen : (setW ws i).length = ws.length := by unfold setW; simp
  rw [freeN_count _ h2.word, freeN_count _ h.word, hlen]
  have := filter_minus (fun j => !tk ws j) i (by simp [ht]) (List.range (64 * ws.length)) List.nodup_range (List.mem_range.2 hi)
  rw [← this]
  congr 2
  apply List.filter_congr
  intro j _
  rw [tk_set (by omega)]
  simp [Bool.not_or]
/-- The lowest free page. -/
def IsNext (ws : List Nat) (j : Nat) : Prop := tk ws j = false ∧ ∀ i, i < j → tk ws i = true
theorem next_uniq {ws : List Nat} {i j : Nat} (h : IsNext ws i) (k : IsNext ws j) : i = j := by
  rcases Nat.lt_trichotomy i j with h1 | h1 | h1
  · have := k.2 i h1; rw [h.1] at this; cases this
  · exact h1
  · have := h.2 j h1; rw [k.1] at this; cases this
theorem next_exists {pages : Nat} {ws : List Nat} (h : FmOk pages ws) (hf : 0 < freeN ws) : ∃ j, j < 64 * ws.length ∧ IsNext ws j := by
  rw [freeN_count _ h.word] at hf
  have hne : ((List.range (64 * ws.length)).filter fun j => !tk ws j) ≠ [] := List.length_pos_iff.1 hf
  obtain ⟨j0, hj0⟩ := List.exists_mem_of_ne_nil _ hne
  rw [List.mem_filter, List.mem_range] at hj0
  have : ∀ n, n < 64 * ws.length → tk ws n = false → ∃ j, j < 64 * ws.length ∧ IsNext ws j := by
    intro n
    induction n using Nat.strongRecOn with
    | ind n ih =>
      intro hn ht
      by_cases hall : ∀ i, i < n → tk ws i = true
      · exact ⟨n, hn, ht, hall⟩
      · obtain ⟨i, hi⟩ := Classical.not_forall.1 hall
        obtain ⟨hi1, hi2⟩ := Classical.not_imp.1 hi
        exact ih i hi1 (by omega) (by simpa using hi2)
  exact this j0 hj0.1 (by simpa using hj0.2)
open Classical in
noncomputable def nextF (ws : List Nat) : Nat := if h : ∃ j, IsNext ws j then Classical.choose h else 0
theorem nextF_is {ws : List Nat} {j : Nat} (h : IsNext ws j) : nextF ws = j := by
  have hex : ∃ j, IsNext ws j := ⟨j, h⟩
  unfold nextF
  rw [dif_pos hex]
  exact next_uniq (Classical.choose_spec hex) h
/-- The n lowest free pages, and the words behind that. -/
noncomputable def takeR : Nat → List Nat → List Nat × List Nat
  | 0, ws => ([], ws)
  | n + 1, ws => (nextF ws :: (takeR n (setW ws (nextF ws))).1, (takeR n (setW ws (nextF ws))).2)
theorem takeR_len : ∀ (n : Nat) (ws : List Nat), (takeR n ws).1.length = n
  | 0, _ => rfl
  | n + 1, ws => by rw [takeR, List.length_cons, takeR_len n]
theorem full_word {x b : Nat} (h : x = 18446744073709551615) (hb : b < 64) : x.testBit b = true := by
  subst h
  have e : (18446744073709551615 : Nat) = 2 ^ 64 - 1 := by decide
  rw [e, Nat.testBit_two_pow_sub_one]
  simpa using hb
/-- The lowest bit that is not set. -/
theorem low_bit {x : Nat} (hx : x < 18446744073709551616) (hne : x ≠ 18446744073709551615) : Lib.ctz 64 (18446744073709551615 - x) < 64 ∧ x.testBit (Lib.ctz 64 (18446744073709551615 - x)) = false ∧ ∀ b, b < Lib.ctz 64 (18446744073709551615 - x) → x.testBit b = true := by
  have h0 : 18446744073709551615 - x ≠ 0 := by omega
  have hlt : 18446744073709551615 - x < 2 ^ 64 := by
    have : (2 : Nat) ^ 64 = 18446744073709551616 := by decide
    omega
  obtain ⟨_, hk⟩ := Lib.lowest_bit 64 _ h0 hlt
  obtain ⟨m, hm, _⟩ := Lib.ctzFrom_spec 64 _ (by omega) hlt
  have hc : Lib.ctz 64 (18446744073709551615 - x) = Lib.ctzFrom 64 (18446744073709551615 - x) := by unfold Lib.ctz; rw [if_neg h0]
  rw [hc] at hk ⊢
  generalize hq : Lib.ctzFrom 64 (18446744073709551615 - x) = q at hm hk
  have hbit : ∀ b, b < 64 → x.testBit b = !(18446744073709551615 - x).testBit b := by
    intro b hb
    have hxe : (18446744073709551615 : Nat) - x = 2 ^ 64 - (x + 1) := by
      have : (2 : Nat) ^ 64 = 18446744073709551616 := by decide
      omega
    have hxl : x < 2 ^ 64 := hx
    rw [hxe, Nat.testBit_two_pow_sub_succ hxl]
    simp [hb]
  refine ⟨hk, ?_, fun b hb => ?_⟩
  · rw [hbit q hk, hm, Nat.testBit_two_pow_mul]
    simp
  · rw [hbit b (by omega), hm, Nat.testBit_two_pow_mul]
    simp; omega

/-- What holds of every map: the metas' pages are taken, and what lies behind the last page. -/
structure FmInv (pages : Nat) (ws : List Nat) : Prop where
  ok : FmOk pages ws
  low : ∀ j, j < 2 → tk ws j = true
  over : ∀ j, pages ≤ j → j < 64 * ws.length → tk ws j = true
section
variable {pages : Nat} {ws : List Nat}
theorem setW_len (ws : List Nat) (i : Nat) : (setW ws i).length = ws.length := by unfold setW; simp
theorem clrW_len (ws : List Nat) (i : Nat) : (clrW ws i).length = ws.length := by unfold clrW; simp
theorem inv_new {n : Nat} (h1 : 4 ≤ n) (h2 : n ≤ 1048576) : FmInv n (newW n) := by
  have hok := ok_new h1 h2
  have hlen := hok.len
  refine ⟨hok, fun j hj => ?_, fun j h3 h4 => ?_⟩
  · rw [tk_new h1 (by omega)]; simp; omega
  · rw [hlen] at h4
    rw [tk_new h1 h4]; simp; omega
theorem inv_set (h : FmInv pages ws) {i : Nat} (hi : i / 64 < ws.length) : FmInv pages (setW ws i) := by
  refine ⟨ok_set h.ok i, fun j hj => ?_, fun j h3 h4 => ?_⟩
  · rw [tk_set hi, h.low j hj]; rfl
  · rw [setW_len] at h4
    rw [tk_set hi, h.over j h3 h4]; rfl
theorem inv_clr (h : FmInv pages ws) {i : Nat} (h2 : 2 ≤ i) (hi : i < pages) : FmInv pages (clrW ws i) := by
  have hlt : i / 64 < ws.length := by rw [h.ok.len]; omega
  refine ⟨ok_clr h.ok i, fun j hj => ?_, fun j h3 h4 => ?_⟩
  · rw [tk_clr hlt h.ok.word, h.low j hj]; simp; omega
  · rw [clrW_len] at h4
    rw [tk_clr hlt h.ok.word, h.over j h3 h4]; simp; omega
theorem next_tree (h : FmInv pages ws) {j : Nat} (hn : IsNext ws j) (hj : j < 64 * ws.length) : 2 ≤ j ∧ j < pages := by
  constructor
  · rcases Nat.lt_or_ge j 2 with h1 | h1
    · have := h.low j h1; rw [hn.1] at this; cases this
    · exact h1
  · rcases Nat.lt_or_ge j pages with h1 | h1
    · exact h1
    · have := h.over j h1 hj; rw [hn.1] at this; cases this
/-- Where a page is free, the lowest one. -/
theorem next_at (h : FmInv pages ws) (hf : 0 < freeN ws) : IsNext ws (nextF ws) ∧ 2 ≤ nextF ws ∧ nextF ws < pages ∧ nextF ws / 64 < ws.length := by
  obtain ⟨j, hj, hn⟩ := next_exists h.ok hf
  obtain ⟨h2, h3⟩ := next_tree h hn hj
  rw [nextF_is hn]
  exact ⟨hn, h2, h3, by omega⟩
theorem free_next (h : FmInv pages ws) (hf : 0 < freeN ws) : freeN (setW ws (nextF ws)) + 1 = freeN ws := by
  obtain ⟨hn, h2, h3, h4⟩ := next_at h hf
  exact freeN_set h.ok (by omega) hn.1
theorem inv_take : ∀ (n : Nat) {ws : List Nat}, FmInv pages ws → n ≤ freeN ws → FmInv pages (takeR n ws).2
  | 0, ws, h, _ => h
  | n + 1, ws, h, hn => by
    obtain ⟨_, _, _, h4⟩ := next_at h (by omega)
    have := free_next h (by omega)
    exact inv_take n (inv_set h h4) (by omega)
theorem free_take : ∀ (n : Nat) {ws : List Nat}, FmInv pages ws → n ≤ freeN ws → freeN (takeR n ws).2 + n = freeN ws
  | 0, ws, h, _ => rfl
  | n + 1, ws, h, hn => by
    obtain ⟨_, _, _, h4⟩ := next_at h (by omega)
    have h5 := free_next h (by omega)
    have := free_take n (inv_set h h4) (by omega)
    show freeN (takeR n (setW ws (nextF ws))).2 + (n + 1) = _
    omega
theorem tree_nat {i : Int} (h : treeB pages i = true) : 2 ≤ i.toNat ∧ i.toNat < pages ∧ i = (i.toNat : Int) := by
  unfold treeB at h
  rw [decide_eq_true_eq] at h
  omega
theorem inv_mark (h : FmInv pages ws) (i : Int) : FmInv pages (markR pages ws i).2 := by
  unfold markR
  split
  · rename_i ht
    obtain ⟨h1, h2, _⟩ := tree_nat ht
    split
    · exact h
    · exact inv_set h (by rw [h.ok.len]; omega)
  · exact h
theorem inv_clear (h : FmInv pages ws) (i : Int) : FmInv pages (clearR pages ws i).2 := by
  unfold clearR
  split
  · rename_i ht
    obtain ⟨h1, h2, _⟩ := tree_nat ht
    split
    · exact inv_clr h h1 h2
    · exact h
  · exact h

/-! ### the book -/
def bk (pages : Nat) (ws : List Nat) : List Bool := (List.range pages).map (tk ws)
theorem bk_len (pages : Nat) (ws : List Nat) : (bk pages ws).length = pages := by simp [bk]
theorem bk_at {i : Nat} (h : i < pages) : (bk pages ws)[i]? = some (tk ws i) := by simp [bk, h]
theorem bk_set (h : FmOk pages ws) {i : Nat} (hi : i < pages) : bk pages (setW ws i) = (bk pages ws).set i true := by
  have hlt : i / 64 < ws.length := by rw [h.len]; omega
  apply List.ext_getElem?
  intro j
  rcases Nat.lt_or_ge j pages with hj | hj
  · rw [bk_at hj, List.getElem?_set, tk_set hlt, bk_at hj]
    by_cases he : i = j
    · subst he; simp [bk_len, hi]
    · simp [he]
  · rw [List.getElem?_eq_none (by rw [bk_len]; exact hj), List.getElem?_eq_none (by rw [List.length_set, bk_len]; exact hj)]
theorem bk_clr (h : FmOk pages ws) {i : Nat} (hi : i < pages) : bk pages (clrW ws i) = (bk pages ws).set i false := by
  have hlt : i / 64 < ws.length := by rw [h.len]; omega
  apply List.ext_getElem?
  intro j
  rcases Nat.lt_or_ge j pages with hj | hj
  · rw [bk_at hj, List.getElem?_set, tk_clr hlt h.word, bk_at hj]
    by_cases he : i = j
    · subst he; simp [bk_len, hi]
    · simp [he]
  · rw [List.getElem?_eq_none (by rw [bk_len]; exact hj), List.getElem?_eq_none (by rw [List.length_set, bk_len]; exact hj)]
def cntF (l : List Bool) : Nat := (l.filter fun b => !b).length
theorem cntF_take {l : List Bool} {k : Nat} {b : Bool} (h : l[k]? = some b) : cntF (l.take (k + 1)) = cntF (l.take k) + if b then 0 else 1 := by
  unfold cntF
  rw [List.take_add_one, h, List.filter_append, List.length_append]
  cases b <;> simp
theorem cntF_le (l : List Bool) : cntF l ≤ l.length := List.length_filter_le _ _
/-- The book counts what the map counts. -/
theorem bk_count (h : FmInv pages ws) : cntF (bk pages ws) = freeN ws := by
  have hl : pages ≤ 64 * ws.length := by rw [h.ok.len]; omega
  rw [freeN_count _ h.ok.word]
  unfold cntF bk
  rw [List.filter_map, List.length_map]
  obtain ⟨d, hd⟩ := Nat.exists_eq_add_of_le hl
  have hover := h.over
  rw [hd] at hover ⊢
  rw [List.range_add, List.filter_append, List.length_append]
  have : (((List.range d).map (pages + ·)).filter fun j => !tk ws j) = [] := by
    rw [List.filter_eq_nil_iff]
    intro x hx
    obtain ⟨y, hy, rfl⟩ := List.mem_map.1 hx
    have := List.mem_range.1 hy
    rw [hover _ (by omega) (by omega)]
    simp
  rw [this]
  simp only [List.length_nil, Nat.add_zero]
  rfl
/-- A new book. -/
theorem bk_new {n : Nat} (h1 : 4 ≤ n) : bk n (newW n) = (List.range n).map fun i => decide (i < 2) := by
  unfold bk
  apply List.map_congr_left
  intro i hi
  have := List.mem_range.1 hi
  rw [tk_new h1 (by omega)]
  simp
  omega
/-- The first i pages that Take gives, and the words then. -/
theorem takeR_at : ∀ (n i : Nat) (ws : List Nat), i < n → (takeR n ws).1[i]? = some (nextF (takeR i ws).2) ∧ (takeR (i + 1) ws).2 = setW (takeR i ws).2 (nextF (takeR i ws).2)
  | 0, _, _, h => by omega
  | n + 1, 0, ws, _ => ⟨rfl, rfl⟩
  | n + 1, i + 1, ws, h => by
    obtain ⟨h1, h2⟩ := takeR_at n i (setW ws (nextF ws)) (by omega)
    exact ⟨h1, h2⟩
theorem takeR_append : ∀ (n k : Nat) (ws : List Nat), takeR (n + k) ws = ((takeR n ws).1 ++ (takeR k (takeR n ws).2).1, (takeR k (takeR n ws).2).2)
  | 0, k, ws => by simp [takeR]
  | n + 1, k, ws => by
    rw [show n + 1 + k = (n + k) + 1 by omega, takeR, takeR_append n k]
    rfl
end
end Go.Proofs.YtdkailccfcijiaaDoor
