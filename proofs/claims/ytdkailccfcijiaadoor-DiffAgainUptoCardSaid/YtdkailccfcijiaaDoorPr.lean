/- The changes from a state to what a patch has made of it are the patch without its idle changes. Plain laws; no condition but that lists rise. -/
import Derived.Test.YtdkailccfcijiaaDoorPq
namespace Go.Proofs.YtdkailccfcijiaaDoor
open Go.RowKit Go.Shelf
set_option linter.unusedVariables false
set_option linter.unusedSimpArgs false

/-- A change with nothing where nothing was or is. -/
def normC (c : C) : C := ⟨c.k, c.had, c.has, if c.had then c.old else ⟨#[]⟩, if c.has then c.new else ⟨#[]⟩⟩
def wantL (l : List C) : List C := l.flatMap fun c => keepC (normC c)
theorem wantL_nil : wantL [] = [] := rfl
theorem wantL_take {l : List C} {k : Nat} {c : C} (h : l[k]? = some c) : wantL (l.take (k + 1)) = wantL (l.take k) ++ keepC (normC c) := by
  unfold wantL
  rw [List.take_add_one, h, List.flatMap_append]
  simp
theorem wantL_len (l : List C) : (wantL l).length ≤ l.length := by
  unfold wantL
  induction l with
  | nil => simp
  | cons c l ih =>
    rw [List.flatMap_cons, List.length_append, List.length_cons]
    have := keepC_len (normC c)
    omega
section
variable {a r : List P} {l : List C}
theorem patch_err {g : Nat} (h : patchL a l = (r, some g)) : r = [] ∧ (g = 0 ∨ g = 1) := by
  unfold patchL answer at h
  split at h
  · split at h
    · cases h
    · cases h; exact ⟨rfl, .inr rfl⟩
  · cases h; exact ⟨rfl, .inl rfl⟩
theorem patch_inv (ha : Up P.k a) (h : patchL a l = (r, none)) : Up C.k l ∧ (∀ c ∈ l, c.fits (fv (findP a c.k)) (findP a c.k).isSome = true) ∧ r = refPatchL a l := by
  by_cases hl : Rises (l.map C.k)
  · by_cases hf : ∀ c ∈ l, c.fits (fv (findP a c.k)) (findP a c.k).isSome = true
    · rw [patch_ok (rises_of_up ha) hl hf] at h
      cases h
      exact ⟨up_of_rises hl, hf, rfl⟩
    · obtain ⟨c, hc⟩ := Classical.not_forall.1 hf
      obtain ⟨hm, hn⟩ := Classical.not_imp.1 hc
      rw [patch_no (rises_of_up ha) hl hm (by simpa using hn)] at h
      cases h
  · have : patchL a l = ([], some 0) := answer_order (fun e => hl e.2)
    rw [this] at h
    cases h
theorem fits_eq (c : C) (v : ByteArray) (b : Bool) (h : c.fits v b = true) : c.had = b ∧ c.old = v := by
  unfold C.fits at h
  rw [beqK, Bool.and_eq_true] at h
  exact ⟨by simpa using h.1, by simpa using h.2⟩
theorem again_tells (ha : Up P.k a) (hl : Up C.k l) (hf : ∀ c ∈ l, c.fits (fv (findP a c.k)) (findP a c.k).isSome = true) : ∀ c ∈ l, c.had = (findP a c.k).isSome ∧ c.old = fv (findP a c.k) ∧ c.has = (findP (refPatchL a l) c.k).isSome ∧ (c.has = true → c.new = fv (findP (refPatchL a l) c.k)) := by
  intro c hc
  obtain ⟨h1, h2⟩ := fits_eq _ _ _ (hf c hc)
  have h3 := patch_find ha hl c.k
  rw [findK_at hl hc] at h3
  refine ⟨h1, h2, ?_, fun hh => ?_⟩
  · rw [findP_eq, h3]
    simp only [patchF]
    cases c.has <;> rfl
  · rw [findP_eq, h3]
    simp only [patchF, hh, if_true, fv]
theorem norm_key (c : C) : (normC c).k = c.k := rfl
theorem want_merge : wantL l = l.filterMap fun c => keepF (normC c) := by
  unfold wantL
  rw [← flatMap_toList]
  congr 1
  funext c
  exact keepF_list _
theorem want_up (hl : Up C.k l) : Up C.k (wantL l) := by
  rw [want_merge]
  refine List.pairwise_filterMap.2 (hl.imp ?_)
  intro c d h z hz u hu
  rw [keepF_key hz, keepF_key hu]
  exact h
theorem want_find (hl : Up C.k l) (k : ByteArray) : findK C.k (wantL l) k = (findK C.k l k).bind fun c => keepF (normC c) := by
  rw [want_merge]
  induction l with
  | nil => rfl
  | cons c l ih =>
    obtain ⟨u1, u2⟩ := List.pairwise_cons.1 hl
    rw [findK_cons, List.filterMap_cons]
    by_cases he : eqK c.k k = true
    · rw [if_pos he]
      have hk := eqK_iff.1 he
      cases hz : keepF (normC c) with
      | some z =>
        simp only [Option.bind_some, hz]
        rw [findK_cons, show C.k z = c.k by rw [keepF_key hz]; rfl, if_pos he]
      | none =>
        simp only [Option.bind_some, hz]
        rw [ih u2, ← hk, findK_low u1]
        rfl
    · rw [if_neg he, ← ih u2]
      cases hz : keepF (normC c) with
      | some z =>
        simp only []
        rw [findK_cons, show C.k z = c.k by rw [keepF_key hz]; rfl, if_neg he]
      | none => rfl
/-- Lists(a, Patch(a, l)) is l without its idle changes. -/
theorem again_lists (ha : Up P.k a) (hl : Up C.k l) (hf : ∀ c ∈ l, c.fits (fv (findP a c.k)) (findP a c.k).isSome = true) : listsL a (refPatchL a l) = (wantL l, none) := by
  have hr := patch_up ha hl
  rw [listsL_up ha hr]
  refine congrArg (·, none) (up_ext (lists_up ha hr) (want_up hl) fun k => ?_)
  rw [lists_at ha hr, patch_find ha hl, want_find hl]
  cases hc : findK C.k l k with
  | none =>
    show listsF (findK P.k a k) (findK P.k a k) = none
    cases hx : findK P.k a k with
    | none => exact listsF_none
    | some x => simp [listsF, listsOne, idle_eq]
  | some c =>
    obtain ⟨h1, h2⟩ := fits_eq _ _ _ (hf c (findK_mem hc))
    have hk : c.k = k := findK_key hc
    rw [hk, findP_eq] at h1 h2
    show listsF (findK P.k a k) (patchF (findK P.k a k) (some c)) = keepF (normC c)
    obtain ⟨ck, had, has, old, new⟩ := c
    simp only at h1 h2 hk
    subst hk
    cases hx : findK P.k a ck with
    | none =>
      rw [hx] at h1 h2
      subst h1 h2
      cases has
      · simp [patchF, listsF, listsOne, idle_eq, keepF, normC, fv]
      · simp [patchF, listsF, listsOne, idle_eq, keepF, normC, fv]
    | some x =>
      have hxk := findK_key hx
      rw [hx] at h1 h2
      subst h1 h2
      obtain ⟨xk, xv⟩ := x
      simp only at hxk
      subst hxk
      cases has
      · simp [patchF, listsF, listsOne, idle_eq, keepF, normC, fv]
      · simp [patchF, listsF, listsOne, idle_eq, keepF, normC, fv]
theorem again_facts (ha : Up P.k a) (l : List C) : ∃ r o, patchL a l = (r, o) ∧ r.length ≤ a.length + l.length ∧ ((∃ g, o = some g ∧ r = [] ∧ (g = 0 ∨ g = 1)) ∨ (o = none ∧ listsL a r = (wantL l, none) ∧
    ∀ c ∈ l, c.had = (findP a c.k).isSome ∧ c.old = fv (findP a c.k) ∧ c.has = (findP r c.k).isSome ∧ (c.has = true → c.new = fv (findP r c.k)))) := by
  obtain ⟨r, o, h1⟩ : ∃ r o, patchL a l = (r, o) := ⟨_, _, rfl⟩
  have hlen : (patchL a l).1.length ≤ a.length + l.length := by
    unfold patchL answer
    split
    · split
      · rename_i l' hl'
        exact Nat.le_trans (runAll_length patchOne_len hl') (sidesL_length _ _ a l)
      · simp
    · simp
  rw [h1] at hlen
  refine ⟨r, o, h1, hlen, ?_⟩
  cases o with
  | some g => obtain ⟨e, hg⟩ := patch_err h1; exact .inl ⟨g, rfl, e, hg⟩
  | none =>
    obtain ⟨hl, hf, rfl⟩ := patch_inv ha h1
    exact .inr ⟨rfl, again_lists ha hl hf, again_tells ha hl hf⟩
end
end Go.Proofs.YtdkailccfcijiaaDoor
