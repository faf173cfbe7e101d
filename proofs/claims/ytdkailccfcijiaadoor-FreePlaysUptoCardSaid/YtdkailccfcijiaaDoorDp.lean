/- What the document's own Patch answers: the plain law: over rising lists it is what Patch answers. No condition but that. -/
import Derived.Test.YtdkailccfcijiaaDoorDl
namespace Go.Proofs.YtdkailccfcijiaaDoor
open Go.RowKit Go.Shelf
set_option linter.unusedVariables false
set_option linter.unusedSimpArgs false

/-! ### rising lists -/
def Up {α : Type} (k : α → ByteArray) (l : List α) : Prop := l.Pairwise fun x y => lessK (k x) (k y) = true
theorem up_of_rises {α : Type} {k : α → ByteArray} : ∀ {l : List α}, Rises (l.map k) → Up k l
  | [], _ => List.Pairwise.nil
  | x :: l, h => by
    have ht : Rises (l.map k) := fun i a b ha hb => h (i + 1) a b (by simpa using ha) (by simpa using hb)
    have hu := up_of_rises ht
    refine List.pairwise_cons.2 ⟨fun y hy => ?_, hu⟩
    cases l with
    | nil => cases hy
    | cons z l =>
      have hxz : lessK (k x) (k z) = true := h 0 (k x) (k z) (by simp) (by simp)
      rcases List.mem_cons.1 hy with rfl | hy
      · exact hxz
      · exact bl_trans hxz ((List.pairwise_cons.1 hu).1 y hy)
theorem rises_of_up {α : Type} {k : α → ByteArray} {l : List α} (h : Up k l) : Rises (l.map k) := by
  intro i x y hx hy
  rw [List.getElem?_map, Option.map_eq_some_iff] at hx hy
  obtain ⟨u, hu, rfl⟩ := hx
  obtain ⟨v, hv, rfl⟩ := hy
  obtain ⟨h1, rfl⟩ := List.getElem?_eq_some_iff.1 hu
  obtain ⟨h2, rfl⟩ := List.getElem?_eq_some_iff.1 hv
  exact List.pairwise_iff_getElem.1 h i (i + 1) h1 h2 (by omega)
theorem lessK_irr (x : ByteArray) : lessK x x = false := bl_irr _
theorem lessK_trans {x y z : ByteArray} (h : lessK x y = true) (k : lessK y z = true) : lessK x z = true := bl_trans h k
theorem lessK_ne {x y : ByteArray} (h : lessK x y = true) : (x.toList == y.toList) = false := by simpa using bl_ne h
theorem lessK_ne' {x y : ByteArray} (h : lessK x y = true) : (y.toList == x.toList) = false := by simpa using (bl_ne h).symm
theorem lessK_eq {x y : ByteArray} (h : lessK x y = false) (k : lessK y x = false) : x = y := str_ext (bl_tri h k)

section
variable {α β : Type} {ka : α → ByteArray} {kb : β → ByteArray}
theorem sides_snd_mem {l1 : List α} {l2 : List β} : ∀ p ∈ sidesL ka kb l1 l2, ∀ c, p.2 = some c → c ∈ l2 := by
  fun_induction sidesL ka kb l1 l2 with
  | case1 => intro p hp; cases hp
  | case2 x a ih =>
    intro p hp c hc
    rcases List.mem_cons.1 hp with rfl | hp
    · cases hc
    · exact ih p hp c hc
  | case3 y b ih =>
    intro p hp c hc
    rcases List.mem_cons.1 hp with rfl | hp
    · cases hc; exact List.mem_cons_self
    · exact List.mem_cons_of_mem _ (ih p hp c hc)
  | case4 x a y b h ih =>
    intro p hp c hc
    rcases List.mem_cons.1 hp with rfl | hp
    · cases hc
    · exact ih p hp c hc
  | case5 x a y b h1 h2 ih =>
    intro p hp c hc
    rcases List.mem_cons.1 hp with rfl | hp
    · cases hc; exact List.mem_cons_self
    · exact List.mem_cons_of_mem _ (ih p hp c hc)
  | case6 x a y b h1 h2 ih =>
    intro p hp c hc
    rcases List.mem_cons.1 hp with rfl | hp
    · cases hc; exact List.mem_cons_self
    · exact List.mem_cons_of_mem _ (ih p hp c hc)
theorem sides_snd {l1 : List α} {l2 : List β} : ∀ c ∈ l2, ∃ p ∈ sidesL ka kb l1 l2, p.2 = some c := by
  fun_induction sidesL ka kb l1 l2 with
  | case1 => intro c hc; cases hc
  | case2 x a ih => intro c hc; cases hc
  | case3 y b ih =>
    intro c hc
    rcases List.mem_cons.1 hc with rfl | hc
    · exact ⟨_, List.mem_cons_self, rfl⟩
    · obtain ⟨p, hp, he⟩ := ih c hc; exact ⟨p, List.mem_cons_of_mem _ hp, he⟩
  | case4 x a y b h ih => intro c hc; obtain ⟨p, hp, he⟩ := ih c hc; exact ⟨p, List.mem_cons_of_mem _ hp, he⟩
  | case5 x a y b h1 h2 ih =>
    intro c hc
    rcases List.mem_cons.1 hc with rfl | hc
    · exact ⟨_, List.mem_cons_self, rfl⟩
    · obtain ⟨p, hp, he⟩ := ih c hc; exact ⟨p, List.mem_cons_of_mem _ hp, he⟩
  | case6 x a y b h1 h2 ih =>
    intro c hc
    rcases List.mem_cons.1 hc with rfl | hc
    · exact ⟨_, List.mem_cons_self, rfl⟩
    · obtain ⟨p, hp, he⟩ := ih c hc; exact ⟨p, List.mem_cons_of_mem _ hp, he⟩
/-- Beside a key of the second list stands what the first one has under it. -/
theorem sides_find {l1 : List α} {l2 : List β} (h1 : Up ka l1) (h2 : Up kb l2) : ∀ p ∈ sidesL ka kb l1 l2, ∀ c, p.2 = some c → p.1 = l1.find? fun x => (ka x).toList == (kb c).toList := by
  fun_induction sidesL ka kb l1 l2 with
  | case1 => intro p hp; cases hp
  | case2 x a ih =>
    intro p hp c hc
    rcases List.mem_cons.1 hp with rfl | hp
    · cases hc
    · exact absurd (sides_snd_mem p hp c hc) (by simp)
  | case3 y b ih =>
    intro p hp c hc
    rcases List.mem_cons.1 hp with rfl | hp
    · rfl
    · exact ih h1 (List.pairwise_cons.1 h2).2 p hp c hc
  | case4 x a y b h ih =>
    intro p hp c hc
    rcases List.mem_cons.1 hp with rfl | hp
    · cases hc
    · have hm := sides_snd_mem p hp c hc
      have hlt : lessK (ka x) (kb c) = true := by
        rcases List.mem_cons.1 hm with rfl | hm
        · exact h
        · exact lessK_trans h ((List.pairwise_cons.1 h2).1 c hm)
      rw [ih (List.pairwise_cons.1 h1).2 h2 p hp c hc, List.find?_cons_of_neg (by rw [lessK_ne hlt]; decide)]
  | case5 x a y b hn h ih =>
    intro p hp c hc
    rcases List.mem_cons.1 hp with rfl | hp
    · have e : y = c := by simpa using hc
      subst e
      symm
      show List.find? _ _ = none
      rw [List.find?_eq_none]
      intro z hz
      have hlt : lessK (kb y) (ka z) = true := by
        rcases List.mem_cons.1 hz with rfl | hz
        · exact h
        · exact lessK_trans h ((List.pairwise_cons.1 h1).1 z hz)
      rw [lessK_ne' hlt]; decide
    · exact ih h1 (List.pairwise_cons.1 h2).2 p hp c hc
  | case6 x a y b hn h ih =>
    have he := lessK_eq (by simpa using hn) (by simpa using h)
    intro p hp c hc
    rcases List.mem_cons.1 hp with rfl | hp
    · cases hc
      rw [List.find?_cons_of_pos (by rw [he]; simp)]
    · have hm := sides_snd_mem p hp c hc
      have hlt : lessK (ka x) (kb c) = true := by rw [he]; exact (List.pairwise_cons.1 h2).1 c hm
      rw [ih (List.pairwise_cons.1 h1).2 (List.pairwise_cons.1 h2).2 p hp c hc, List.find?_cons_of_neg (by rw [lessK_ne hlt]; decide)]
end

/-! ### all steps at once -/
section
variable {α β γ : Type} {f : Option α → Option β → Option (List γ)} {g : Option α × Option β → List γ}
theorem runAll_all {l : List (Option α × Option β)} (h : ∀ p ∈ l, f p.1 p.2 = some (g p)) : runAll f l = some (l.flatMap g) := by
  induction l with
  | nil => rfl
  | cons p l ih =>
    rw [runAll, h p List.mem_cons_self]
    simp only [ih fun q hq => h q (List.mem_cons_of_mem _ hq)]
    rfl
theorem runAll_one {l : List (Option α × Option β)} {p : Option α × Option β} (hp : p ∈ l) (h : f p.1 p.2 = none) : runAll f l = none := by
  obtain ⟨s, t, rfl⟩ := List.append_of_mem hp
  rw [runAll_append]
  cases runAll f s with
  | none => rfl
  | some r => simp [runAll, h]
end

/-! ### Patch -/
def putC (c : C) : List P := if c.has then [⟨c.k, c.new⟩] else []
def stepR : Option P × Option C → List P
  | (_, some c) => putC c
  | (some x, none) => [x]
  | (none, none) => []
def refPatchL (la : List P) (lc : List C) : List P := (sidesL P.k C.k la lc).flatMap stepR
theorem patchOne_fits (x : Option P) (c : C) : patchOne x (some c) = if c.fits (fv x) x.isSome then some (putC c) else none := by
  obtain ⟨k, had, has, old, new⟩ := c
  cases x with
  | none =>
    cases had
    · show (if (old.toList == []) = true then _ else _) = if (true && old.toList == (⟨#[]⟩ : ByteArray).toList) = true then _ else _
      rw [Bool.true_and, show (⟨#[]⟩ : ByteArray).toList = [] by simp [ByteArray.toList_eq]]
      rfl
    · rfl
  | some x =>
    cases had
    · rfl
    · show (if (x.v.toList == old.toList) = true then _ else _) = if (true && old.toList == x.v.toList) = true then _ else _
      rw [Bool.true_and, show (x.v.toList == old.toList) = (old.toList == x.v.toList) from Bool.beq_comm]
      rfl
theorem patch_ok {la : List P} {lc : List C} (h1 : Rises (la.map P.k)) (h2 : Rises (lc.map C.k)) (hf : ∀ c ∈ lc, c.fits (fv (findP la c.k)) (findP la c.k).isSome = true) : patchL la lc = (refPatchL la lc, none) := by
  refine answer_ok ⟨h1, h2⟩ (runAll_all fun p hp => ?_)
  obtain ⟨x, y⟩ := p
  cases y with
  | none => cases x <;> rfl
  | some c =>
    have hfd := sides_find (up_of_rises h1) (up_of_rises h2) _ hp c rfl
    have hfd2 : x = findP la c.k := hfd
    show patchOne x (some c) = _
    rw [patchOne_fits, hfd2, if_pos (hf c (sides_snd_mem _ hp c rfl))]
    rfl
theorem patch_no {la : List P} {lc : List C} (h1 : Rises (la.map P.k)) (h2 : Rises (lc.map C.k)) {c : C} (hc : c ∈ lc) (hf : c.fits (fv (findP la c.k)) (findP la c.k).isSome = false) : patchL la lc = ([], some 1) := by
  obtain ⟨p, hp, he⟩ := sides_snd (ka := P.k) (kb := C.k) (l1 := la) c hc
  refine answer_lost ⟨h1, h2⟩ (runAll_one hp ?_)
  have hfd := sides_find (up_of_rises h1) (up_of_rises h2) _ hp c he
  rw [he, patchOne_fits, hfd]
  rw [if_neg (by rw [show (List.find? (fun x => x.k.toList == c.k.toList) la) = findP la c.k from rfl, hf]; decide)]
end Go.Proofs.YtdkailccfcijiaaDoor
