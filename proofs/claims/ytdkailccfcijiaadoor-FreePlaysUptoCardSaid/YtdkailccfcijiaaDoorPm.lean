/- Rising lists as maps from keys: what stands under a key of two lists that are gone through side by side. Plain laws; no condition but that lists rise. -/
import Derived.Test.YtdkailccfcijiaaDoorDp
namespace Go.Proofs.YtdkailccfcijiaaDoor
open Go.RowKit Go.Shelf
set_option linter.unusedVariables false
set_option linter.unusedSimpArgs false

def eqK (x y : ByteArray) : Bool := x.toList == y.toList
theorem eqK_iff {x y : ByteArray} : eqK x y = true ↔ x = y := by
  unfold eqK
  rw [beq_iff_eq]
  exact ⟨str_ext, fun h => by rw [h]⟩
theorem eqK_refl (x : ByteArray) : eqK x x = true := eqK_iff.2 rfl
theorem eqK_no {x y : ByteArray} (h : lessK x y = true) : eqK x y = false := lessK_ne h
theorem eqK_no' {x y : ByteArray} (h : lessK x y = true) : eqK y x = false := lessK_ne' h
def findK {α : Type} (ka : α → ByteArray) (l : List α) (k : ByteArray) : Option α := l.find? fun x => eqK (ka x) k
section
variable {α β γ : Type} {ka : α → ByteArray} {kb : β → ByteArray} {kc : γ → ByteArray}
theorem findK_nil (k : ByteArray) : findK ka [] k = none := rfl
theorem findK_cons (x : α) (l : List α) (k : ByteArray) : findK ka (x :: l) k = if eqK (ka x) k then some x else findK ka l k := by
  unfold findK
  rw [List.find?_cons]
  split <;> simp_all
theorem findK_key {l : List α} {k : ByteArray} {x : α} (h : findK ka l k = some x) : ka x = k := eqK_iff.1 (by simpa using List.find?_some h)
theorem findK_mem {l : List α} {k : ByteArray} {x : α} (h : findK ka l k = some x) : x ∈ l := List.mem_of_find?_eq_some h
/-- No key of the list is as low as this one. -/
theorem findK_low {l : List α} {k : ByteArray} (h : ∀ x ∈ l, lessK k (ka x) = true) : findK ka l k = none := by
  unfold findK
  rw [List.find?_eq_none]
  intro x hx
  rw [eqK_no' (h x hx)]
  decide
theorem findK_at {l : List α} (h : Up ka l) {x : α} (hx : x ∈ l) : findK ka l (ka x) = some x := by
  induction l with
  | nil => cases hx
  | cons y l ih =>
    obtain ⟨h1, h2⟩ := List.pairwise_cons.1 h
    rw [findK_cons]
    rcases List.mem_cons.1 hx with rfl | hx
    · rw [eqK_refl]; rfl
    · rw [eqK_no (h1 x hx)]
      exact ih h2 hx
/-- Two rising lists that have the same under each key are the same. -/
theorem up_ext : ∀ {l m : List α}, Up ka l → Up ka m → (∀ k, findK ka l k = findK ka m k) → l = m
  | [], [], _, _, _ => rfl
  | [], y :: m, _, _, h => by
    have := h (ka y)
    rw [findK_nil, findK_cons, eqK_refl] at this
    cases this
  | x :: l, [], _, _, h => by
    have := h (ka x)
    rw [findK_nil, findK_cons, eqK_refl] at this
    cases this
  | x :: l, y :: m, h1, h2, h => by
    obtain ⟨a1, a2⟩ := List.pairwise_cons.1 h1
    obtain ⟨b1, b2⟩ := List.pairwise_cons.1 h2
    have hx : x = y := by
      cases hxy : lessK (ka x) (ka y) with
      | true =>
        have e := h (ka x)
        have hlow : findK ka (y :: m) (ka x) = none := findK_low fun z hz => by
          rcases List.mem_cons.1 hz with rfl | hz
          · exact hxy
          · exact lessK_trans hxy (b1 z hz)
        rw [hlow, findK_cons, eqK_refl] at e
        cases e
      | false =>
        cases hyx : lessK (ka y) (ka x) with
        | true =>
          have e := h (ka y)
          have hlow : findK ka (x :: l) (ka y) = none := findK_low fun z hz => by
            rcases List.mem_cons.1 hz with rfl | hz
            · exact hyx
            · exact lessK_trans hyx (a1 z hz)
          rw [hlow, findK_cons, eqK_refl] at e
          cases e
        | false =>
          have e := h (ka x)
          have hk := lessK_eq hxy hyx
          rw [findK_cons, findK_cons, eqK_refl, ← hk, eqK_refl] at e
          exact Option.some.inj e
    subst hx
    refine congrArg _ (up_ext a2 b2 fun k => ?_)
    by_cases hk : eqK (ka x) k = true
    · have := eqK_iff.1 hk
      subst this
      rw [findK_low (fun z hz => a1 z hz), findK_low (fun z hz => b1 z hz)]
    · have := h k
      rw [findK_cons, findK_cons, if_neg hk, if_neg hk] at this
      exact this

/-! ### side by side -/
def keyS (ka : α → ByteArray) (kb : β → ByteArray) : Option α × Option β → ByteArray
  | (some x, _) => ka x
  | (none, some y) => kb y
  | (none, none) => ⟨#[]⟩
theorem sides_from {l1 : List α} {l2 : List β} : ∀ p ∈ sidesL ka kb l1 l2, (∃ x ∈ l1, keyS ka kb p = ka x) ∨ (∃ y ∈ l2, keyS ka kb p = kb y) := by
  fun_induction sidesL ka kb l1 l2 with
  | case1 => intro p hp; cases hp
  | case2 x a ih =>
    intro p hp
    rcases List.mem_cons.1 hp with rfl | hp
    · exact .inl ⟨x, List.mem_cons_self, rfl⟩
    · exact (ih p hp).imp (fun ⟨z, hz, e⟩ => ⟨z, List.mem_cons_of_mem _ hz, e⟩) id
  | case3 y b ih =>
    intro p hp
    rcases List.mem_cons.1 hp with rfl | hp
    · exact .inr ⟨y, List.mem_cons_self, rfl⟩
    · exact (ih p hp).imp id (fun ⟨z, hz, e⟩ => ⟨z, List.mem_cons_of_mem _ hz, e⟩)
  | case4 x a y b h ih =>
    intro p hp
    rcases List.mem_cons.1 hp with rfl | hp
    · exact .inl ⟨x, List.mem_cons_self, rfl⟩
    · exact (ih p hp).imp (fun ⟨z, hz, e⟩ => ⟨z, List.mem_cons_of_mem _ hz, e⟩) id
  | case5 x a y b h1 h2 ih =>
    intro p hp
    rcases List.mem_cons.1 hp with rfl | hp
    · exact .inr ⟨y, List.mem_cons_self, rfl⟩
    · exact (ih p hp).imp id (fun ⟨z, hz, e⟩ => ⟨z, List.mem_cons_of_mem _ hz, e⟩)
  | case6 x a y b h1 h2 ih =>
    intro p hp
    rcases List.mem_cons.1 hp with rfl | hp
    · exact .inl ⟨x, List.mem_cons_self, rfl⟩
    · exact (ih p hp).imp (fun ⟨z, hz, e⟩ => ⟨z, List.mem_cons_of_mem _ hz, e⟩) (fun ⟨z, hz, e⟩ => ⟨z, List.mem_cons_of_mem _ hz, e⟩)
theorem sides_above {l1 : List α} {l2 : List β} {k : ByteArray} (h1 : ∀ x ∈ l1, lessK k (ka x) = true) (h2 : ∀ y ∈ l2, lessK k (kb y) = true) : ∀ p ∈ sidesL ka kb l1 l2, lessK k (keyS ka kb p) = true := by
  intro p hp
  rcases sides_from p hp with ⟨x, hx, e⟩ | ⟨y, hy, e⟩
  · rw [e]; exact h1 x hx
  · rw [e]; exact h2 y hy
theorem up_above {l : List α} {x : α} {k : ByteArray} (h : Up ka (x :: l)) (hk : lessK k (ka x) = true) : ∀ z ∈ x :: l, lessK k (ka z) = true := by
  intro z hz
  rcases List.mem_cons.1 hz with rfl | hz
  · exact hk
  · exact lessK_trans hk ((List.pairwise_cons.1 h).1 z hz)
theorem sides_up {l1 : List α} {l2 : List β} (h1 : Up ka l1) (h2 : Up kb l2) : (sidesL ka kb l1 l2).Pairwise fun p q => lessK (keyS ka kb p) (keyS ka kb q) = true := by
  fun_induction sidesL ka kb l1 l2 with
  | case1 => exact List.Pairwise.nil
  | case2 x a ih =>
    exact List.pairwise_cons.2 ⟨fun p hp => sides_above (List.pairwise_cons.1 h1).1 (fun y hy => by cases hy) p hp, ih (List.pairwise_cons.1 h1).2 h2⟩
  | case3 y b ih =>
    exact List.pairwise_cons.2 ⟨fun p hp => sides_above (fun x hx => by cases hx) (List.pairwise_cons.1 h2).1 p hp, ih h1 (List.pairwise_cons.1 h2).2⟩
  | case4 x a y b h ih =>
    exact List.pairwise_cons.2 ⟨fun p hp => sides_above (List.pairwise_cons.1 h1).1 (up_above h2 h) p hp, ih (List.pairwise_cons.1 h1).2 h2⟩
  | case5 x a y b hn h ih =>
    exact List.pairwise_cons.2 ⟨fun p hp => sides_above (up_above h1 h) (List.pairwise_cons.1 h2).1 p hp, ih h1 (List.pairwise_cons.1 h2).2⟩
  | case6 x a y b hn h ih =>
    have he := lessK_eq (by simpa using hn) (by simpa using h)
    exact List.pairwise_cons.2 ⟨fun p hp => sides_above (List.pairwise_cons.1 h1).1 (fun z hz => by show lessK (ka x) _ = true; rw [he]; exact (List.pairwise_cons.1 h2).1 z hz) p hp, ih (List.pairwise_cons.1 h1).2 (List.pairwise_cons.1 h2).2⟩
/-- What stands under a key in the two lists. -/
def atS (ka : α → ByteArray) (kb : β → ByteArray) (l1 : List α) (l2 : List β) (k : ByteArray) : Option (Option α × Option β) :=
  match findK ka l1 k, findK kb l2 k with
  | none, none => none
  | x, y => some (x, y)
theorem find_sides {l1 : List α} {l2 : List β} (h1 : Up ka l1) (h2 : Up kb l2) (k : ByteArray) : findK (keyS ka kb) (sidesL ka kb l1 l2) k = atS ka kb l1 l2 k := by
  fun_induction sidesL ka kb l1 l2 with
  | case1 => rfl
  | case2 x a ih =>
    rw [findK_cons, ih (List.pairwise_cons.1 h1).2 h2]
    show (if eqK (ka x) k = true then _ else _) = _
    unfold atS
    rw [findK_cons]
    split <;> simp [findK_nil]
  | case3 y b ih =>
    rw [findK_cons, ih h1 (List.pairwise_cons.1 h2).2]
    show (if eqK (kb y) k = true then _ else _) = _
    unfold atS
    rw [findK_cons]
    split <;> simp [findK_nil]
  | case4 x a y b h ih =>
    rw [findK_cons, ih (List.pairwise_cons.1 h1).2 h2]
    show (if eqK (ka x) k = true then _ else _) = _
    unfold atS
    rw [findK_cons (l := a)]
    split
    · rename_i hk
      have := eqK_iff.1 hk
      subst this
      rw [findK_low (up_above h2 h)]
    · rfl
  | case5 x a y b hn h ih =>
    rw [findK_cons, ih h1 (List.pairwise_cons.1 h2).2]
    show (if eqK (kb y) k = true then _ else _) = _
    unfold atS
    rw [findK_cons (l := b)]
    split
    · rename_i hk
      have := eqK_iff.1 hk
      subst this
      rw [findK_low (up_above h1 h)]
    · rfl
  | case6 x a y b hn h ih =>
    have he := lessK_eq (by simpa using hn) (by simpa using h)
    rw [findK_cons, ih (List.pairwise_cons.1 h1).2 (List.pairwise_cons.1 h2).2]
    show (if eqK (ka x) k = true then _ else _) = _
    unfold atS
    rw [findK_cons (l := a), findK_cons (l := b), ← he]
    split <;> rfl

/-! ### what is made of it, step by step -/
def mergeL (ka : α → ByteArray) (kb : β → ByteArray) (f : Option α → Option β → Option γ) (l1 : List α) (l2 : List β) : List γ := (sidesL ka kb l1 l2).filterMap fun p => f p.1 p.2
/-- What is made bears the key that it was made from. -/
def Keeps (ka : α → ByteArray) (kb : β → ByteArray) (kc : γ → ByteArray) (f : Option α → Option β → Option γ) : Prop :=
  (∀ x z, f (some x) none = some z → kc z = ka x) ∧ (∀ y z, f none (some y) = some z → kc z = kb y) ∧ (∀ x y z, ka x = kb y → f (some x) (some y) = some z → kc z = ka x)
theorem sides_keys {l1 : List α} {l2 : List β} (h1 : Up ka l1) (h2 : Up kb l2) : ∀ p ∈ sidesL ka kb l1 l2, p.1 = findK ka l1 (keyS ka kb p) ∧ p.2 = findK kb l2 (keyS ka kb p) ∧ p ≠ (none, none) := by
  intro p hp
  have := findK_at (ka := keyS ka kb) (sides_up h1 h2) hp
  rw [find_sides h1 h2] at this
  unfold atS at this
  split at this
  · cases this
  · rename_i x y hne
    have e := Option.some.inj this
    exact ⟨(congrArg Prod.fst e).symm, (congrArg Prod.snd e).symm, fun h => hne (congrArg Prod.fst (e.trans h)) (congrArg Prod.snd (e.trans h))⟩
theorem keeps_at {f : Option α → Option β → Option γ} (hf : Keeps ka kb kc f) {l1 : List α} {l2 : List β} (h1 : Up ka l1) (h2 : Up kb l2) {p : Option α × Option β} (hp : p ∈ sidesL ka kb l1 l2) {z : γ} (hz : f p.1 p.2 = some z) : kc z = keyS ka kb p := by
  obtain ⟨e1, e2, hne⟩ := sides_keys h1 h2 p hp
  obtain ⟨x, y⟩ := p
  cases x with
  | none =>
    cases y with
    | none => exact absurd rfl hne
    | some y => exact hf.2.1 y z hz
  | some x =>
    cases y with
    | none => exact hf.1 x z hz
    | some y => exact hf.2.2 x y z (findK_key e2.symm).symm hz
theorem merge_up {f : Option α → Option β → Option γ} (hf : Keeps ka kb kc f) {l1 : List α} {l2 : List β} (h1 : Up ka l1) (h2 : Up kb l2) : Up kc (mergeL ka kb f l1 l2) := by
  have hk := fun p hp z hz => keeps_at hf h1 h2 (p := p) hp (z := z) hz
  have hu := sides_up h1 h2
  unfold mergeL
  revert hk hu
  generalize sidesL ka kb l1 l2 = l
  intro hk hu
  refine List.pairwise_filterMap.2 ?_
  refine List.Pairwise.imp_of_mem ?_ hu
  intro p q hp hq hpq z hz u hu
  rw [hk p hp z hz, hk q hq u hu]
  exact hpq
theorem merge_find {f : Option α → Option β → Option γ} (hf : Keeps ka kb kc f) {l1 : List α} {l2 : List β} (h1 : Up ka l1) (h2 : Up kb l2) (k : ByteArray) : findK kc (mergeL ka kb f l1 l2) k = (atS ka kb l1 l2 k).bind fun p => f p.1 p.2 := by
  have hk := fun p hp z hz => keeps_at hf h1 h2 (p := p) hp (z := z) hz
  have hu := sides_up h1 h2
  rw [← find_sides h1 h2]
  unfold mergeL
  revert hk hu
  generalize sidesL ka kb l1 l2 = l
  intro hk hu
  induction l with
  | nil => rfl
  | cons p l ih =>
    obtain ⟨u1, u2⟩ := List.pairwise_cons.1 hu
    have ih := ih (fun q hq => hk q (List.mem_cons_of_mem _ hq)) u2
    have hz := hk p List.mem_cons_self
    rw [findK_cons, List.filterMap_cons]
    by_cases he : eqK (keyS ka kb p) k = true
    · rw [if_pos he]
      have := eqK_iff.1 he
      cases hfp : f p.1 p.2 with
      | some z =>
        simp only [Option.bind_some, hfp]
        rw [findK_cons, hz z hfp, if_pos he]
      | none =>
        simp only [Option.bind_some, hfp]
        rw [ih, ← this, findK_low u1]
        rfl
    · rw [if_neg he, ← ih]
      cases hfp : f p.1 p.2 with
      | some z =>
        simp only [hfp]
        rw [findK_cons, hz z hfp, if_neg he]
      | none => simp only [hfp]
end
end Go.Proofs.YtdkailccfcijiaaDoor
