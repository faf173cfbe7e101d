/- Lists, Patch, Invert, Compose over states: what leads where. Plain laws; no condition but that lists rise. -/
import Derived.Test.YtdkailccfcijiaaDoorPm
import Derived.Test.YtdkailccfcijiaaDoorDu
namespace Go.Proofs.YtdkailccfcijiaaDoor
open Go.RowKit Go.Shelf
set_option linter.unusedVariables false
set_option linter.unusedSimpArgs false

theorem flatMap_toList {α β : Type} (l : List α) (f : α → Option β) : (l.flatMap fun x => (f x).toList) = l.filterMap f := by
  induction l with
  | nil => rfl
  | cons x l ih =>
    rw [List.flatMap_cons, List.filterMap_cons, ih]
    cases f x <;> rfl
theorem findP_eq (l : List P) (k : ByteArray) : findP l k = findK P.k l k := rfl
def listsF (x y : Option P) : Option C := if (listsOne x y).idle then none else some (listsOne x y)
theorem refLists_merge (a b : List P) : refListsL a b = mergeL P.k P.k listsF a b := by
  unfold refListsL mergeL
  rw [← flatMap_toList]
  congr 1
  funext p
  unfold listsF keepC
  split <;> rfl
theorem keeps_lists : Keeps P.k P.k C.k listsF := by
  refine ⟨fun x z h => ?_, fun y z h => ?_, fun x y z hk h => ?_⟩
  · unfold listsF at h
    split at h
    · cases h
    · cases h; rfl
  · unfold listsF at h
    split at h
    · cases h
    · cases h; rfl
  · unfold listsF at h
    split at h
    · cases h
    · cases h; exact hk.symm
section
variable {a b c : List P}
theorem lists_up (ha : Up P.k a) (hb : Up P.k b) : Up C.k (refListsL a b) := by rw [refLists_merge]; exact merge_up keeps_lists ha hb
theorem lists_find (ha : Up P.k a) (hb : Up P.k b) (k : ByteArray) : findK C.k (refListsL a b) k = (atS P.k P.k a b k).bind fun p => listsF p.1 p.2 := by rw [refLists_merge]; exact merge_find keeps_lists ha hb k
def emptyB : ByteArray := ⟨#[]⟩
/-- What a change of the way from a to b says. -/
def Tells (a b : List P) (c : C) : Prop := c.had = (findP a c.k).isSome ∧ c.has = (findP b c.k).isSome ∧ c.old = fv (findP a c.k) ∧ c.new = fv (findP b c.k) ∧ c.idle = false
theorem listsF_tells {x y : Option P} {c : C} (h : listsF x y = some c) : c.had = x.isSome ∧ c.has = y.isSome ∧ c.old = fv x ∧ c.new = fv y ∧ c.idle = false := by
  unfold listsF at h
  split at h
  · cases h
  · rename_i hi
    cases h
    refine ⟨rfl, rfl, ?_, ?_, by simpa using hi⟩
    · cases x <;> rfl
    · cases y <;> rfl
theorem lists_tells (ha : Up P.k a) (hb : Up P.k b) : ∀ c ∈ refListsL a b, Tells a b c := by
  intro c hc
  have h := findK_at (lists_up ha hb) hc
  rw [lists_find ha hb] at h
  unfold atS at h
  unfold Tells
  rw [findP_eq, findP_eq]
  split at h
  · cases h
  · exact listsF_tells h
theorem idle_same {k : ByteArray} {x y : P} (hx : x.k = k) (hy : y.k = k) (h : (listsOne (some x) (some y)).idle = true) : x = y := by
  have hv : (x.v.toList == y.v.toList) = true := by
    have h2 : (true == true && x.v.toList == y.v.toList) = true := h
    simpa using h2
  obtain ⟨xk, xv⟩ := x
  obtain ⟨yk, yv⟩ := y
  have := str_ext (by simpa using hv : xv.toList = yv.toList)
  simp only at hx hy
  subst hx this
  rw [hy]
theorem lists_self (ha : Up P.k a) : refListsL a a = [] := by
  refine up_ext (lists_up ha ha) List.Pairwise.nil fun k => ?_
  rw [lists_find ha ha, findK_nil]
  unfold atS
  cases h : findK P.k a k with
  | none => rfl
  | some x =>
    show listsF (some x) (some x) = none
    unfold listsF
    rw [if_pos]
    show (true == true && x.v.toList == x.v.toList) = true
    simp

/-! ### Patch -/
def patchF : Option P → Option C → Option P
  | _, some c => if c.has then some ⟨c.k, c.new⟩ else none
  | x, none => x
theorem refPatch_merge (a : List P) (l : List C) : refPatchL a l = mergeL P.k C.k patchF a l := by
  unfold refPatchL mergeL
  rw [← flatMap_toList]
  congr 1
  funext p
  obtain ⟨x, y⟩ := p
  cases y with
  | none => cases x <;> rfl
  | some c =>
    show putC c = _
    unfold putC
    simp only [patchF]
    split <;> rfl
theorem keeps_patch : Keeps P.k C.k P.k patchF := by
  refine ⟨fun x z h => by cases h; rfl, fun y z h => ?_, fun x y z hk h => ?_⟩
  · simp only [patchF] at h
    split at h
    · cases h; rfl
    · cases h
  · simp only [patchF] at h
    split at h
    · cases h; exact hk.symm
    · cases h
theorem patch_up {l : List C} (ha : Up P.k a) (hl : Up C.k l) : Up P.k (refPatchL a l) := by rw [refPatch_merge]; exact merge_up keeps_patch ha hl
theorem patch_find {l : List C} (ha : Up P.k a) (hl : Up C.k l) (k : ByteArray) : findK P.k (refPatchL a l) k = patchF (findK P.k a k) (findK C.k l k) := by
  rw [refPatch_merge, merge_find keeps_patch ha hl]
  unfold atS
  cases h1 : findK P.k a k with
  | none => cases h2 : findK C.k l k <;> rfl
  | some x => cases h2 : findK C.k l k <;> rfl
theorem fits_of_tells {l : C} (h : Tells a b l) : l.fits (fv (findP a l.k)) (findP a l.k).isSome = true := by
  obtain ⟨h1, _, h3, _⟩ := h
  unfold C.fits
  rw [← h1, ← h3]
  simp
/-- The changes from a to b lead from a to b. -/
theorem patch_lists (ha : Up P.k a) (hb : Up P.k b) : patchL a (refListsL a b) = (b, none) := by
  have hR := lists_up ha hb
  rw [patch_ok (rises_of_up ha) (rises_of_up hR) (fun c hc => fits_of_tells (lists_tells ha hb c hc))]
  refine congrArg (·, none) (up_ext (patch_up ha hR) hb fun k => ?_)
  rw [patch_find ha hR, lists_find ha hb]
  unfold atS
  cases h1 : findK P.k a k with
  | none =>
    cases h2 : findK P.k b k with
    | none => rfl
    | some y => rfl
  | some x =>
    cases h2 : findK P.k b k with
    | none => rfl
    | some y =>
      show patchF (some x) (listsF (some x) (some y)) = some y
      unfold listsF
      split
      · rename_i hi
        exact congrArg some (idle_same (findK_key h1) (findK_key h2) hi)
      · rfl

/-! ### Invert -/
theorem back_back (c : C) : c.back.back = c := rfl
theorem findC_map (l : List C) (k : ByteArray) : findK C.k (l.map C.back) k = (findK C.k l k).map C.back := by
  induction l with
  | nil => rfl
  | cons c l ih =>
    rw [List.map_cons, findK_cons, findK_cons, ih]
    show (if eqK c.k k = true then _ else _) = _
    split <;> rfl
theorem up_back {l : List C} (h : Up C.k l) : Up C.k (l.map C.back) := by
  unfold Up at h ⊢
  rw [List.pairwise_map]
  exact h
theorem idle_back (c : C) : c.back.idle = c.idle := by
  unfold C.idle C.back
  rw [Bool.beq_comm, show (c.new.toList == c.old.toList) = (c.old.toList == c.new.toList) from Bool.beq_comm]
theorem listsF_back {k : ByteArray} {x y : Option P} (hx : ∀ p, x = some p → p.k = k) (hy : ∀ p, y = some p → p.k = k) : (listsF x y).map C.back = listsF y x := by
  have h : (listsOne x y).back = listsOne y x := by
    cases x with
    | none => cases y <;> rfl
    | some x =>
      cases y with
      | none => rfl
      | some y =>
        show (⟨y.k, true, true, y.v, x.v⟩ : C) = ⟨x.k, true, true, y.v, x.v⟩
        rw [hx x rfl, hy y rfl]
  unfold listsF
  rw [← h, idle_back]
  split <;> rfl
/-- Turned round they are the changes from b to a. -/
theorem back_lists (ha : Up P.k a) (hb : Up P.k b) : (refListsL a b).map C.back = refListsL b a := by
  refine up_ext (up_back (lists_up ha hb)) (lists_up hb ha) fun k => ?_
  rw [findC_map, lists_find ha hb, lists_find hb ha]
  unfold atS
  cases h1 : findK P.k a k with
  | none =>
    cases h2 : findK P.k b k with
    | none => rfl
    | some y => exact listsF_back (k := k) (fun p h => by cases h) (fun p h => by cases h; exact findK_key h2)
  | some x =>
    cases h2 : findK P.k b k with
    | none => exact listsF_back (k := k) (fun p h => by cases h; exact findK_key h1) (fun p h => by cases h)
    | some y => exact listsF_back (k := k) (fun p h => by cases h; exact findK_key h1) (fun p h => by cases h; exact findK_key h2)
theorem patch_back (ha : Up P.k a) (hb : Up P.k b) : patchL b ((refListsL a b).map C.back) = (a, none) := by
  rw [back_lists ha hb]
  exact patch_lists hb ha
theorem listsL_up (ha : Up P.k a) (hb : Up P.k b) : listsL a b = (refListsL a b, none) := lists_ok (rises_of_up ha) (rises_of_up hb)
end
end Go.Proofs.YtdkailccfcijiaaDoor
