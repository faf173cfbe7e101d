/- The contracts told over values: a slice that reads as a list. No condition but what each says. -/
import Derived.Test.YtdkailccfcijiaaDoorDm
import Derived.Test.YtdkailccfcijiaaDoorDq
namespace Go.Proofs.YtdkailccfcijiaaDoor
open Go.RowKit Go.Shelf
set_option linter.unusedVariables false
set_option linter.unusedSimpArgs false

/-- The value reads as the list. -/
def RdV {α : Type} (T : Ty α) (w : World) (v : Value) (l : List α) : Prop := ∃ a c, v = .slice a l.length c ∧ l.length ≤ c ∧ c ≤ 9223372036854775807 ∧ Rd T w a l.length l
section
variable {α : Type} {T : Ty α} {w w' w0 : World} {v : Value} {l : List α} {L : List Chunk}
theorem RdV.below (h : RdV T w v l) (k : Below w.heap.size w w') : RdV T w' v l := by
  obtain ⟨a, c, e, h1, h2, h3⟩ := h
  exact ⟨a, c, e, h1, h2, h3.below k⟩
theorem RdV.nil (T : Ty α) (w : World) : RdV T w (.slice none 0 0) ([] : List α) := ⟨none, 0, rfl, Nat.le_refl _, by decide, Rd.nil T w none⟩
theorem Row.rdv (h : Row T w v l) : RdV T w v l := by
  rcases Row.form h with ⟨rfl, rfl⟩ | ⟨g, c, rfl, h1, h2, _⟩
  · exact RdV.nil T w
  · obtain ⟨a', c', e, h3, h4⟩ := Row.rd h
    cases e
    exact ⟨_, c, rfl, h1, by simp only [maxLen] at h2; exact h2, h4⟩
theorem Sep.rdv (S : Sep w0 w L) (hm : row T v l ∈ L) : RdV T w v l := Row.rdv (S.is _ hm)
/-- One more behind the list: the head of the row. -/
theorem row_front {x : α} (S : Sep w0 w (row T v (l ++ [x]) :: L)) : ∃ g c, v = .slice (some ⟨g, 0, none⟩) (l.length + 1) c ∧ l.length + 1 ≤ c ∧ c ≤ 9223372036854775807 := by
  rcases Row.form S.hd with ⟨rfl, h⟩ | ⟨g, c, rfl, h1, h2, _⟩
  · simp at h
  · simp only [List.length_append, List.length_cons, List.length_nil, Nat.zero_add] at h1 ⊢
    exact ⟨g, c, rfl, h1, by simp only [maxLen] at h2; exact h2⟩
theorem row_cut {x : α} {g c : Nat} (h : Row T w (.slice (some ⟨g, 0, none⟩) (l.length + 1) c) (l ++ [x])) : Row T w (.slice (some ⟨g, 0, none⟩) l.length c) l := by
  have := Row.take h l.length (by omega)
  rwa [List.take_left' rfl] at this
theorem Sep.cut {x : α} {g c : Nat} (S : Sep w0 w (row T (.slice (some ⟨g, 0, none⟩) (l.length + 1) c) (l ++ [x]) :: L)) : Sep w0 w (row T (.slice (some ⟨g, 0, none⟩) l.length c) l :: L) :=
  S.turn (d := row T (.slice (some ⟨g, 0, none⟩) l.length c) l) (Kp.refl _ _) (row_cut S.hd) (fun i hi => .inl hi)
end

theorem pairsV {v : Value} {l : List P} {w : World} (h : RdV PT w v l) (hl : l.length ≤ 4194304) : Calls Tryd.prog 17 #[v] w fun e w' => ∃ v', e = .returned v' ∧ Sep w w' [row PT v' l] := by
  obtain ⟨a, c, rfl, _, _, h⟩ := h
  exact pairs a c l w h hl
theorem changesV {v : Value} {l : List C} {w : World} (h : RdV CT w v l) (hl : l.length ≤ 4194304) : Calls Tryd.prog 19 #[v] w fun e w' => ∃ v', e = .returned v' ∧ Sep w w' [row CT v' l] := by
  obtain ⟨a, c, rfl, _, _, h⟩ := h
  exact changes a c l w h hl
theorem sameV {v1 v2 : Value} {l : List P} {w : World} (h1 : RdV PT w v1 l) (h2 : RdV PT w v2 l) : Calls Tryd.prog 24 #[v1, v2] w fun e w' => e = .returned (.bool true) ∧ Below w.heap.size w w' := by
  obtain ⟨a, c, rfl, _, _, h1⟩ := h1
  obtain ⟨a', c', rfl, _, _, h2⟩ := h2
  exact samePairs a a' c c' _ l w h1 h2
theorem sameCV {v1 v2 : Value} {l : List C} {w : World} (h1 : RdV CT w v1 l) (h2 : RdV CT w v2 l) : Calls Tryd.prog 32 #[v1, v2] w fun e w' => e = .returned (.bool true) ∧ Below w.heap.size w w' := by
  obtain ⟨a, c, rfl, _, _, h1⟩ := h1
  obtain ⟨a', c', rfl, _, _, h2⟩ := h2
  exact sameChanges a a' c c' _ l w h1 h2
theorem sub01 {E : Nat → Addr} {w : World} (h : Errs all13 E w) : Errs [0, 1] E w := h.sub (fun g hg => by simp at hg; rcases hg with rfl | rfl <;> decide)
theorem patchV2 {E : Nat → Addr} {v1 v2 : Value} {la : List P} {lc : List C} {r : List P} {o : Option Nat} {w : World} (hp : patchL la lc = (r, o)) (hE : Errs [0, 1] E w) (h1 : RdV PT w v1 la) (h2 : RdV CT w v2 lc) (hlen : la.length + lc.length ≤ 4194304) :
    Calls Tryd.prog 21 #[v1, v2] w fun e w' => ∃ v, e = .returned (.tuple #[v, errV E o]) ∧ Sep w w' [row PT v r] := by
  obtain ⟨a, c, rfl, hl1, hc1, h1⟩ := h1
  obtain ⟨a', c', rfl, hl2, hc2, h2⟩ := h2
  have := patch E a a' c c' la lc w hE h1 h2 hc1 hc2 hl1 hl2 hlen
  rwa [hp] at this
theorem patchV {E : Nat → Addr} {v1 v2 : Value} {la : List P} {lc : List C} {r : List P} {o : Option Nat} {w : World} (hp : patchL la lc = (r, o)) (hE : Errs all13 E w) (h1 : RdV PT w v1 la) (h2 : RdV CT w v2 lc) (hlen : la.length + lc.length ≤ 4194304) :
    Calls Tryd.prog 21 #[v1, v2] w fun e w' => ∃ v, e = .returned (.tuple #[v, errV E o]) ∧ Sep w w' [row PT v r] := patchV2 hp (sub01 hE) h1 h2 hlen
theorem refPatchV {v1 v2 : Value} {la : List P} {lc : List C} {r : List P} {o : Option Nat} {w : World} (hp : patchL la lc = (r, o)) (h1 : RdV PT w v1 la) (h2 : RdV CT w v2 lc) (hlen : la.length + lc.length ≤ 4194304) :
    Calls Tryd.prog 22 #[v1, v2] w fun e w' => ∃ v, e = .returned (.tuple #[v, .int .i64 (numOf o)]) ∧ Sep w w' [row PT v r] := by
  obtain ⟨a, c, rfl, hl1, hc1, h1⟩ := h1
  obtain ⟨a', c', rfl, hl2, hc2, h2⟩ := h2
  have := refPatch a a' c c' la lc w h1 h2 hlen
  rwa [hp] at this
theorem keptV {v1 v2 : Value} {l : List P} {w : World} (h1 : RdV PT w v1 (l ++ [lastP])) (h2 : RdV PT w v2 l) : Calls Tryd.prog 25 #[v1, v2] w fun e w' => e = .returned (.bool true) ∧ Below w.heap.size w w' := by
  obtain ⟨a, c, rfl, hl1, hc1, h1⟩ := h1
  obtain ⟨a', c', rfl, _, _, h2⟩ := h2
  simp only [List.length_append, List.length_cons, List.length_nil, Nat.zero_add] at hl1 h1 ⊢
  exact pairsKept a a' c c' l.length l w h1 hl1 hc1 h2
theorem keptCV {v1 v2 : Value} {l : List C} {w : World} (h1 : RdV CT w v1 (l ++ [lastC])) (h2 : RdV CT w v2 l) : Calls Tryd.prog 26 #[v1, v2] w fun e w' => e = .returned (.bool true) ∧ Below w.heap.size w w' := by
  obtain ⟨a, c, rfl, hl1, hc1, h1⟩ := h1
  obtain ⟨a', c', rfl, _, _, h2⟩ := h2
  simp only [List.length_append, List.length_cons, List.length_nil, Nat.zero_add] at hl1 h1 ⊢
  exact changesKept a a' c c' l.length l w h1 hl1 hc1 h2

/-! ### how long an answer is; which errors -/
section
variable {α β γ : Type} {ka : α → ByteArray} {kb : β → ByteArray} {f : Option α → Option β → Option (List γ)} {a : List α} {b : List β}
theorem answer_len (hf : ∀ x y r, f x y = some r → r.length ≤ 1) : (answer ka kb f a b).1.length ≤ a.length + b.length := by
  unfold answer
  split
  · split
    · rename_i l hl
      exact Nat.le_trans (runAll_length hf hl) (sidesL_length ka kb a b)
    · simp
  · simp
theorem answer_err : ∀ g, (answer ka kb f a b).2 = some g → g < 13 := by
  intro g
  unfold answer
  split
  · split
    · simp
    · simp; omega
  · simp; omega
end
theorem patchL_at (la : List P) (lc : List C) : ∃ r o, patchL la lc = (r, o) ∧ r.length ≤ la.length + lc.length ∧ ∀ g, o = some g → g < 13 :=
  ⟨_, _, rfl, answer_len patchOne_len, answer_err⟩
end Go.Proofs.YtdkailccfcijiaaDoor
