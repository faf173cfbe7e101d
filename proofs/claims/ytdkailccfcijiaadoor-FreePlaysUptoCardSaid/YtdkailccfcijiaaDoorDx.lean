/- More contracts told over values: Lists, Compose, Invert, of the program and of the document. No condition but what each says. -/
import Derived.Test.YtdkailccfcijiaaDoorDr
import Derived.Test.YtdkailccfcijiaaDoorDu
import Derived.Test.YtdkailccfcijiaaDoorDv
import Derived.Test.YtdkailccfcijiaaDoorDw
namespace Go.Proofs.YtdkailccfcijiaaDoor
open Go.RowKit Go.Shelf
set_option linter.unusedVariables false
set_option linter.unusedSimpArgs false

theorem listsV2 {E : Nat → Addr} {v1 v2 : Value} {la lb : List P} {r : List C} {o : Option Nat} {w : World} (hp : listsL la lb = (r, o)) (hE : Errs [0, 1] E w) (h1 : RdV PT w v1 la) (h2 : RdV PT w v2 lb) (hlen : la.length + lb.length ≤ 4194304) :
    Calls Tryd.prog 30 #[v1, v2] w fun e w' => ∃ v, e = .returned (.tuple #[v, errV E o]) ∧ Sep w w' [row CT v r] := by
  obtain ⟨a, c, rfl, hl1, hc1, h1⟩ := h1
  obtain ⟨a', c', rfl, hl2, hc2, h2⟩ := h2
  have := lists E a a' c c' la lb w hE h1 h2 hc1 hc2 hl1 hl2 hlen
  rwa [hp] at this
theorem listsV {E : Nat → Addr} {v1 v2 : Value} {la lb : List P} {r : List C} {o : Option Nat} {w : World} (hp : listsL la lb = (r, o)) (hE : Errs all13 E w) (h1 : RdV PT w v1 la) (h2 : RdV PT w v2 lb) (hlen : la.length + lb.length ≤ 4194304) :
    Calls Tryd.prog 30 #[v1, v2] w fun e w' => ∃ v, e = .returned (.tuple #[v, errV E o]) ∧ Sep w w' [row CT v r] := listsV2 hp (sub01 hE) h1 h2 hlen
theorem refListsV {v1 v2 : Value} {la lb : List P} {r : List C} {o : Option Nat} {w : World} (hp : listsL la lb = (r, o)) (h1 : RdV PT w v1 la) (h2 : RdV PT w v2 lb) (hlen : la.length + lb.length ≤ 4194304) :
    Calls Tryd.prog 31 #[v1, v2] w fun e w' => ∃ v, e = .returned (.tuple #[v, .int .i64 (numOf o)]) ∧ Sep w w' [row CT v r] := by
  obtain ⟨a, c, rfl, hl1, hc1, h1⟩ := h1
  obtain ⟨a', c', rfl, hl2, hc2, h2⟩ := h2
  have := refLists a a' c c' la lb w h1 h2 hlen
  rwa [hp] at this
theorem composeV2 {E : Nat → Addr} {v1 v2 : Value} {la lb : List C} {r : List C} {o : Option Nat} {w : World} (hp : composeL la lb = (r, o)) (hE : Errs [0, 1] E w) (h1 : RdV CT w v1 la) (h2 : RdV CT w v2 lb) (hlen : la.length + lb.length ≤ 4194304) :
    Calls Tryd.prog 34 #[v1, v2] w fun e w' => ∃ v, e = .returned (.tuple #[v, errV E o]) ∧ Sep w w' [row CT v r] := by
  obtain ⟨a, c, rfl, hl1, hc1, h1⟩ := h1
  obtain ⟨a', c', rfl, hl2, hc2, h2⟩ := h2
  have := compose E a a' c c' la lb w hE h1 h2 hc1 hc2 hl1 hl2 hlen
  rwa [hp] at this
theorem composeV {E : Nat → Addr} {v1 v2 : Value} {la lb : List C} {r : List C} {o : Option Nat} {w : World} (hp : composeL la lb = (r, o)) (hE : Errs all13 E w) (h1 : RdV CT w v1 la) (h2 : RdV CT w v2 lb) (hlen : la.length + lb.length ≤ 4194304) :
    Calls Tryd.prog 34 #[v1, v2] w fun e w' => ∃ v, e = .returned (.tuple #[v, errV E o]) ∧ Sep w w' [row CT v r] := composeV2 hp (sub01 hE) h1 h2 hlen
theorem refComposeV {v1 v2 : Value} {la lb : List C} {r : List C} {o : Option Nat} {w : World} (hp : composeL la lb = (r, o)) (h1 : RdV CT w v1 la) (h2 : RdV CT w v2 lb) (hlen : la.length + lb.length ≤ 4194304) :
    Calls Tryd.prog 36 #[v1, v2] w fun e w' => ∃ v, e = .returned (.tuple #[v, .int .i64 (numOf o)]) ∧ Sep w w' [row CT v r] := by
  obtain ⟨a, c, rfl, hl1, hc1, h1⟩ := h1
  obtain ⟨a', c', rfl, hl2, hc2, h2⟩ := h2
  have := refCompose a a' c c' la lb w h1 h2 hlen
  rwa [hp] at this
theorem listsL_at (la lb : List P) : ∃ r o, listsL la lb = (r, o) ∧ r.length ≤ la.length + lb.length ∧ ∀ g, o = some g → g < 13 :=
  ⟨_, _, rfl, answer_len (fun x y r h => by cases h; exact keepC_len _), answer_err⟩
theorem composeL_at (la lb : List C) : ∃ r o, composeL la lb = (r, o) ∧ r.length ≤ la.length + lb.length ∧ ∀ g, o = some g → g < 13 :=
  ⟨_, _, rfl, answer_len composeOne_len, answer_err⟩
theorem invertV {v : Value} {l : List C} {w : World} (h : RdV CT w v l) (hl : l.length ≤ 8388608) : Calls Tryd.prog 35 #[v] w fun e w' => ∃ v', e = .returned v' ∧ Sep w w' [row CT v' (l.map C.back)] := by
  obtain ⟨a, c, rfl, _, _, h⟩ := h
  exact invert a c _ l w h hl
theorem refInvertV {v : Value} {l : List C} {w : World} (h : RdV CT w v l) (hl : l.length ≤ 8388608) : Calls Tryd.prog 37 #[v] w fun e w' => ∃ v', e = .returned v' ∧ Sep w w' [row CT v' (l.map C.back)] := by
  obtain ⟨a, c, rfl, _, _, h⟩ := h
  exact refInvert a c _ l w h hl
end Go.Proofs.YtdkailccfcijiaaDoor
