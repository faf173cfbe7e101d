/- A map's words and the book of its pages: plain laws of numbers. -/
import Derived.Test.YtdkailccfcijiaaDoorPu
namespace Go.Proofs.YtdkailccfcijiaaDoor
set_option linter.unusedVariables false
set_option linter.unusedSimpArgs false

/-- What holds of every map: the metas' pages are taken, and what lies behind the last page. -/
structure FmInv (pages : Nat) (ws : List Nat) : Prop where
  ok : FmOk pages ws
  low : ∀ j, j < 2 → tk ws j = true
  over : ∀ j, pages ≤ j → j < 64 * ws.length → tk ws j = true
section
variable {pages : Nat} {ws : List Nat}
theorem setW_len (ws : List Nat) (i : Nat) : (setW ws i).length = ws.length := by unfold setW; simp
theorem clrW_len (ws : List Nat) (i : Nat) : (clrW ws i).length = ws.length := by unfold clrW; simp
theorem inv_new {n : Nat} (h1 : 4 ≤ n) (h2 : n ≤ 1048576) : FmInv n (newW n) := by
  have hok := ok_new h1 h2
  have hlen := hok.len
  refine ⟨hok, fun j hj => ?_, fun j h3 h4 => ?_⟩
  · rw [tk_new h1 (by omega)]; simp; omega
  · rw [hlen] at h4
    rw [tk_new h1 h4]; simp; omega
theorem inv_set (h : FmInv pages ws) {i : Nat} (hi : i / 64 < ws.length) : FmInv pages (setW ws i) := by
  refine ⟨ok_set h.ok i, fun j hj => ?_, fun j h3 h4 => ?_⟩
  · rw [tk_set hi, h.low j hj]; rfl
  · rw [setW_len] at h4
    rw [tk_set hi, h.over j h3 h4]; rfl
theorem inv_clr (h : FmInv pages ws) {i : Nat} (h2 : 2 ≤ i) (hi : i < pages) : FmInv pages (clrW ws i) := by
  have hlt : i / 64 < ws.length := by rw [h.ok.len]; omega
  refine ⟨ok_clr h.ok i, fun j hj => ?_, fun j h3 h4 => ?_⟩
  · rw [tk_clr hlt h.ok.word, h.low j hj]; simp; omega
  · rw [clrW_len] at h4
    rw [tk_clr hlt h.ok.word, h.over j h3 h4]; simp; omega
theorem next_tree (h : FmInv pages ws) {j : Nat} (hn : IsNext ws j) (hj : j < 64 * ws.length) : 2 ≤ j ∧ j < pages := by
  constructor
  · rcases Nat.lt_or_ge j 2 with h1 | h1
    · have := h.low j h1; rw [hn.1] at this; cases this
    · exact h1
  · rcases Nat.lt_or_ge j pages with h1 | h1
    · exact h1
    · have := h.over j h1 hj; rw [hn.1] at this; cases this
/-- Where a page is free, the lowest one. -/
theorem next_at (h : FmInv pages ws) (hf : 0 < freeN ws) : IsNext ws (nextF ws) ∧ 2 ≤ nextF ws ∧ nextF ws < pages ∧ nextF ws / 64 < ws.length := by
  obtain ⟨j, hj, hn⟩ := next_exists h.ok hf
  obtain ⟨h2, h3⟩ := next_tree h hn hj
  rw [nextF_is hn]
  exact ⟨hn, h2, h3, by omega⟩
theorem free_next (h : FmInv pages ws) (hf : 0 < freeN ws) : freeN (setW ws (nextF ws)) + 1 = freeN ws := by
  obtain ⟨hn, h2, h3, h4⟩ := next_at h hf
  exact freeN_set h.ok (by omega) hn.1
theorem inv_take : ∀ (n : Nat) {ws : List Nat}, FmInv pages ws → n ≤ freeN ws → FmInv pages (takeR n ws).2
  | 0, ws, h, _ => h
  | n + 1, ws, h, hn => by
    obtain ⟨_, _, _, h4⟩ := next_at h (by omega)
    have := free_next h (by omega)
    exact inv_take n (inv_set h h4) (by omega)
theorem free_take : ∀ (n : Nat) {ws : List Nat}, FmInv pages ws → n ≤ freeN ws → freeN (takeR n ws).2 + n = freeN ws
  | 0, ws, h, _ => rfl
  | n + 1, ws, h, hn => by
    obtain ⟨_, _, _, h4⟩ := next_at h (by omega)
    have h5 := free_next h (by omega)
    have := free_take n (inv_set h h4) (by omega)
    show freeN (takeR n (setW ws (nextF ws))).2 + (n + 1) = _
    omega
theorem tree_nat {i : Int} (h : treeB pages i = true) : 2 ≤ i.toNat ∧ i.toNat < pages ∧ i = (i.toNat : Int) := by
  unfold treeB at h
  rw [decide_eq_true_eq] at h
  omega
theorem inv_mark (h : FmInv pages ws) (i : Int) : FmInv pages (markR pages ws i).2 := by
  unfold markR
  split
  · rename_i ht
    obtain ⟨h1, h2, _⟩ := tree_nat ht
    split
    · exact h
    · exact inv_set h (by rw [h.ok.len]; omega)
  · exact h
theorem inv_clear (h : FmInv pages ws) (i : Int) : FmInv pages (clearR pages ws i).2 := by
  unfold clearR
  split
  · rename_i ht
    obtain ⟨h1, h2, _⟩ := tree_nat ht
    split
    · exact inv_clr h h1 h2
    · exact h
  · exact h

/-! ### the book -/
def bk (pages : Nat) (ws : List Nat) : List Bool := (List.range pages).map (tk ws)
theorem bk_len (pages : Nat) (ws : List Nat) : (bk pages ws).length = pages := by simp [bk]
theorem bk_at {i : Nat} (h : i < pages) : (bk pages ws)[i]? = some (tk ws i) := by simp [bk, h]
theorem bk_set (h : FmOk pages ws) {i : Nat} (hi : i < pages) : bk pages (setW ws i) = (bk pages ws).set i true := by
  have hlt : i / 64 < ws.length := by rw [h.len]; omega
  apply List.ext_getElem?
  intro j
  rcases Nat.lt_or_ge j pages with hj | hj
  · rw [bk_at hj, List.getElem?_set, tk_set hlt, bk_at hj]
    by_cases he : i = j
    · subst he; simp [bk_len, hi]
    · simp [he]
  · rw [List.getElem?_eq_none (by rw [bk_len]; exact hj), List.getElem?_eq_none (by rw [List.length_set, bk_len]; exact hj)]
theorem bk_clr (h : FmOk pages ws) {i : Nat} (hi : i < pages) : bk pages (clrW ws i) = (bk pages ws).set i false := by
  have hlt : i / 64 < ws.length := by rw [h.len]; omega
  apply List.ext_getElem?
  intro j
  rcases Nat.lt_or_ge j pages with hj | hj
  · rw [bk_at hj, List.getElem?_set, tk_clr hlt h.word, bk_at hj]
    by_cases he : i = j
    · subst he; simp [bk_len, hi]
    · simp [he]
  · rw [List.getElem?_eq_none (by rw [bk_len]; exact hj), List.getElem?_eq_none (by rw [List.length_set, bk_len]; exact hj)]
def cntF (l : List Bool) : Nat := (l.filter fun b => !b).length
theorem cntF_take {l : List Bool} {k : Nat} {b : Bool} (h : l[k]? = some b) : cntF (l.take (k + 1)) = cntF (l.take k) + if b then 0 else 1 := by
  unfold cntF
  rw [List.take_add_one, h, List.filter_append, List.length_append]
  cases b <;> simp
theorem cntF_le (l : List Bool) : cntF l ≤ l.length := List.length_filter_le _ _
/-- The book counts what the map counts. -/
theorem bk_count (h : FmInv pages ws) : cntF (bk pages ws) = freeN ws := by
  have hl : pages ≤ 64 * ws.length := by rw [h.ok.len]; omega
  rw [freeN_count _ h.ok.word]
  unfold cntF bk
  rw [List.filter_map, List.length_map]
  obtain ⟨d, hd⟩ := Nat.exists_eq_add_of_le hl
  have hover := h.over
  rw [hd] at hover ⊢
  rw [List.range_add, List.filter_append, List.length_append]
  have : (((List.range d).map (pages + ·)).filter fun j => !tk ws j) = [] := by
    rw [List.filter_eq_nil_iff]
    intro x hx
    obtain ⟨y, hy, rfl⟩ := List.mem_map.1 hx
    have := List.mem_range.1 hy
    rw [hover _ (by omega) (by omega)]
    simp
  rw [this]
  simp only [List.length_nil, Nat.add_zero]
  rfl
/-- A new book. -/
theorem bk_new {n : Nat} (h1 : 4 ≤ n) : bk n (newW n) = (List.range n).map fun i => decide (i < 2) := by
  unfold bk
  apply List.map_congr_left
  intro i hi
  have := List.mem_range.1 hi
  rw [tk_new h1 (by omega)]
  simp
  omega
/-- The first i pages that Take gives, and the words then. -/
theorem takeR_at : ∀ (n i : Nat) (ws : List Nat), i < n → (takeR n ws).1[i]? = some (nextF (takeR i ws).2) ∧ (takeR (i + 1) ws).2 = setW (takeR i ws).2 (nextF (takeR i ws).2)
  | 0, _, _, h => by omega
  | n + 1, 0, ws, _ => ⟨rfl, rfl⟩
  | n + 1, i + 1, ws, h => by
    obtain ⟨h1, h2⟩ := takeR_at n i (setW ws (nextF ws)) (by omega)
    exact ⟨h1, h2⟩
theorem takeR_append : ∀ (n k : Nat) (ws : List Nat), takeR (n + k) ws = ((takeR n ws).1 ++ (takeR k (takeR n ws).2).1, (takeR k (takeR n ws).2).2)
  | 0, k, ws => by simp [takeR]
  | n + 1, k, ws => by
    rw [show n + 1 + k = (n + k) + 1 by omega, takeR, takeR_append n k]
    rfl
end
end Go.Proofs.YtdkailccfcijiaaDoor
