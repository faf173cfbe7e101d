/- Changes put together; changes to what a patch has made. Plain laws; no condition but that lists rise. -/
import Derived.Test.YtdkailccfcijiaaDoorPn
namespace Go.Proofs.YtdkailccfcijiaaDoor
open Go.RowKit Go.Shelf
set_option linter.unusedVariables false
set_option linter.unusedSimpArgs false

theorem beqK (x y : ByteArray) : (x.toList == y.toList) = decide (x = y) := by
  by_cases h : x = y
  · subst h; simp
  · simp only [h, decide_false, beq_eq_false_iff_ne, ne_eq]
    exact fun e => h (str_ext e)
theorem idle_eq (c : C) : c.idle = (c.had == c.has && decide (c.old = c.new)) := by
  unfold C.idle
  rw [beqK]
theorem listsF_none : listsF none none = none := by
  unfold listsF
  have : (listsOne none none).idle = true := by simp [listsOne, idle_eq]
  rw [if_pos this]
section
variable {a b c : List P}
theorem lists_at (ha : Up P.k a) (hb : Up P.k b) (k : ByteArray) : findK C.k (refListsL a b) k = listsF (findK P.k a k) (findK P.k b k) := by
  rw [lists_find ha hb]
  unfold atS
  cases h1 : findK P.k a k with
  | none =>
    cases h2 : findK P.k b k with
    | none => exact listsF_none.symm
    | some y => rfl
  | some x => cases h2 : findK P.k b k <;> rfl
def keepF (c : C) : Option C := if c.idle then none else some c
def composeF : Option C → Option C → Option C
  | some x, none => keepF x
  | none, some y => keepF y
  | none, none => none
  | some x, some y => keepF ⟨x.k, x.had, y.has, x.old, y.new⟩
theorem keepF_list (c : C) : keepC c = (keepF c).toList := by
  unfold keepC keepF
  split <;> rfl
theorem keepF_key {c z : C} (h : keepF c = some z) : z = c := by
  unfold keepF at h
  split at h
  · cases h
  · cases h; rfl
theorem keeps_compose : Keeps C.k C.k C.k composeF :=
  ⟨fun x z h => by rw [keepF_key h], fun y z h => by rw [keepF_key h], fun x y z hk h => by rw [keepF_key h]⟩
/-- Where the one leads the other begins. -/
def Joins (x y : Option C) : Prop := ∀ u v, x = some u → y = some v → u.has = v.had ∧ u.new = v.old
theorem composeOne_joins {x y : Option C} (h : Joins x y) : composeOne x y = some (composeF x y).toList := by
  cases x with
  | none => cases y <;> simp [composeOne, composeF, keepF_list]
  | some u =>
    cases y with
    | none => simp [composeOne, composeF, keepF_list]
    | some v =>
      obtain ⟨h1, h2⟩ := h u v rfl rfl
      simp [composeOne, composeF, keepF_list, h1, h2]
theorem listsF_comp {k : ByteArray} {x y z : Option P} (hx : ∀ p, x = some p → p.k = k) (hy : ∀ p, y = some p → p.k = k) (hz : ∀ p, z = some p → p.k = k) : composeF (listsF x y) (listsF y z) = listsF x z := by
  have key : ∀ (o : Option P), (∀ p, o = some p → p.k = k) → o = none ∨ ∃ v, o = some ⟨k, v⟩ := by
    intro o ho
    cases o with
    | none => exact .inl rfl
    | some p => exact .inr ⟨p.v, by have := ho p rfl; obtain ⟨pk, pv⟩ := p; simp only at this; rw [this]⟩
  rcases key x hx with rfl | ⟨xv, rfl⟩ <;> rcases key y hy with rfl | ⟨yv, rfl⟩ <;> rcases key z hz with rfl | ⟨zv, rfl⟩
  · simp [listsF, listsOne, idle_eq, composeF, keepF]
  · simp [listsF, listsOne, idle_eq, composeF, keepF]
  · simp [listsF, listsOne, idle_eq, composeF, keepF]
  · by_cases h : yv = zv
    · subst h; simp [listsF, listsOne, idle_eq, composeF, keepF]
    · simp [listsF, listsOne, idle_eq, composeF, keepF, h]
  · simp [listsF, listsOne, idle_eq, composeF, keepF]
  · by_cases h : xv = zv
    · subst h; simp [listsF, listsOne, idle_eq, composeF, keepF]
    · simp [listsF, listsOne, idle_eq, composeF, keepF, h]
  · by_cases h : xv = yv
    · subst h; simp [listsF, listsOne, idle_eq, composeF, keepF]
    · simp [listsF, listsOne, idle_eq, composeF, keepF, h]
  · by_cases h1 : xv = yv
    · subst h1
      by_cases h2 : xv = zv
      · subst h2; simp [listsF, listsOne, idle_eq, composeF, keepF]
      · simp [listsF, listsOne, idle_eq, composeF, keepF, h2]
    · by_cases h2 : yv = zv
      · subst h2; simp [listsF, listsOne, idle_eq, composeF, keepF, h1]
      · by_cases h3 : xv = zv
        · subst h3; simp [listsF, listsOne, idle_eq, composeF, keepF, h1, h2]
        · simp [listsF, listsOne, idle_eq, composeF, keepF, h1, h2, h3]
/-- The way from a to b and the way from b to c, put together, are the way from a to c. -/
theorem compose_lists (ha : Up P.k a) (hb : Up P.k b) (hc : Up P.k c) : composeL (refListsL a b) (refListsL b c) = (refListsL a c, none) := by
  have hX := lists_up ha hb
  have hY := lists_up hb hc
  have hr : runAll composeOne (sidesL C.k C.k (refListsL a b) (refListsL b c)) = some (mergeL C.k C.k composeF (refListsL a b) (refListsL b c)) := by
    rw [runAll_all (g := fun p => (composeF p.1 p.2).toList)]
    · unfold mergeL
      rw [flatMap_toList]
    · intro p hp
      obtain ⟨e1, e2, _⟩ := sides_keys hX hY p hp
      refine composeOne_joins fun u v hu hv => ?_
      rw [hu] at e1
      rw [hv] at e2
      have t1 := lists_tells ha hb u (findK_mem e1.symm)
      have t2 := lists_tells hb hc v (findK_mem e2.symm)
      have hk : u.k = v.k := (findK_key e1.symm).trans (findK_key e2.symm).symm
      rw [t1.2.1, t2.1, t1.2.2.2.1, t2.2.2.1, hk]
      exact ⟨rfl, rfl⟩
  unfold composeL
  rw [answer_ok ⟨rises_of_up hX, rises_of_up hY⟩ hr]
  refine congrArg (·, none) (up_ext (merge_up keeps_compose hX hY) (lists_up ha hc) fun k => ?_)
  rw [merge_find keeps_compose hX hY, lists_at ha hc]
  have h2 : ((atS C.k C.k (refListsL a b) (refListsL b c) k).bind fun p => composeF p.1 p.2) = composeF (findK C.k (refListsL a b) k) (findK C.k (refListsL b c) k) := by
    unfold atS
    cases findK C.k (refListsL a b) k <;> cases findK C.k (refListsL b c) k <;> rfl
  rw [h2, lists_at ha hb, lists_at hb hc]
  exact listsF_comp (k := k) (fun p h => findK_key h) (fun p h => findK_key h) (fun p h => findK_key h)
theorem answer_len' (x y : List P) : (listsL x y).1.length ≤ x.length + y.length := by
  unfold listsL answer
  split
  · split
    · rename_i l hl
      exact Nat.le_trans (runAll_length (fun x y r h => by cases h; exact keepC_len _) hl) (sidesL_length _ _ x y)
    · simp
  · simp
theorem chain_facts (ha : Up P.k a) (hb : Up P.k b) (hc : Up P.k c) : ∃ X Y Z Q, listsL a b = (X, none) ∧ listsL b c = (Y, none) ∧ listsL a c = (Z, none) ∧ composeL X Y = (Z, none) ∧ composeL X (X.map C.back) = ([], none) ∧ composeL Z (Z.map C.back) = ([], none) ∧
    composeL Y (Z.map C.back) = (Q, none) ∧ composeL X Q = ([], none) ∧ X.length ≤ a.length + b.length ∧ Y.length ≤ b.length + c.length ∧ Z.length ≤ a.length + c.length ∧ Q.length ≤ b.length + a.length := by
  have len : ∀ (x y : List P), Up P.k x → Up P.k y → (refListsL x y).length ≤ x.length + y.length := by
    intro x y hx hy
    have : (listsL x y).1.length ≤ x.length + y.length := answer_len' x y
    rwa [listsL_up hx hy] at this
  refine ⟨_, _, _, refListsL b a, listsL_up ha hb, listsL_up hb hc, listsL_up ha hc, compose_lists ha hb hc, ?_, ?_, ?_, ?_, len a b ha hb, len b c hb hc, len a c ha hc, len b a hb ha⟩
  · rw [back_lists ha hb, compose_lists ha hb ha, lists_self ha]
  · rw [back_lists ha hc, compose_lists ha hc ha, lists_self ha]
  · rw [back_lists ha hc, compose_lists hb hc ha]
  · rw [compose_lists ha hb ha, lists_self ha]
end
end Go.Proofs.YtdkailccfcijiaaDoor
