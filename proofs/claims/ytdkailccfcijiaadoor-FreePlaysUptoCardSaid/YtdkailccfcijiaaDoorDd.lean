/- Small functions on changes: idle, fits, find; what is kept behind a list; every second element turned. No condition but what is read. -/
import Derived.Test.YtdkailccfcijiaaDoorDc
namespace Go.Proofs.YtdkailccfcijiaaDoor
open Go.RowKit
set_option linter.unusedVariables false
set_option linter.unusedSimpArgs false
set_option maxRecDepth 100000

def C.idle (c : C) : Bool := c.had == c.has && c.old.toList == c.new.toList
theorem idle1 (c : C) (w : World) : Calls Tryd.prog 88 #[.agg #[.string c.k, .bool c.had, .bool c.has, .string c.old, .string c.new]] w fun e w' => e = .returned (.bool c.idle) ∧ Below w.heap.size w w' := by
  obtain ⟨k, had, has, old, new⟩ := c
  unfold C.idle
  dsimp only
  cases h1 : (had == has)
  · go_enter Tryd.func88, Tryd.ntmps88
    go_wp2
    go_ret
    exact ⟨rfl, qalloc (qrefl _) _⟩
  · cases h2 : (old.toList == new.toList)
    · go_enter Tryd.func88, Tryd.ntmps88
      go_wp2
      go_ret
      exact ⟨rfl, qalloc (qrefl _) _⟩
    · go_enter Tryd.func88, Tryd.ntmps88
      go_wp2
      go_ret
      exact ⟨rfl, qalloc (qrefl _) _⟩
theorem idle2 (c : C) (w : World) : Calls Tryd.prog 90 #[.agg #[.string c.k, .bool c.had, .bool c.has, .string c.old, .string c.new]] w fun e w' => e = .returned (.bool c.idle) ∧ Below w.heap.size w w' := by
  obtain ⟨k, had, has, old, new⟩ := c
  unfold C.idle
  dsimp only
  cases h1 : (had == has)
  · go_enter Tryd.func90, Tryd.ntmps90
    go_wp2
    go_ret
    exact ⟨rfl, qalloc (qrefl _) _⟩
  · cases h2 : (old.toList == new.toList)
    · go_enter Tryd.func90, Tryd.ntmps90
      go_wp2
      go_ret
      exact ⟨rfl, qalloc (qrefl _) _⟩
    · go_enter Tryd.func90, Tryd.ntmps90
      go_wp2
      go_ret
      exact ⟨rfl, qalloc (qrefl _) _⟩
def C.fits (c : C) (v : ByteArray) (there : Bool) : Bool := c.had == there && c.old.toList == v.toList
theorem fits (c : C) (v : ByteArray) (there : Bool) (w : World) : Calls Tryd.prog 85 #[.agg #[.string c.k, .bool c.had, .bool c.has, .string c.old, .string c.new], .string v, .bool there] w fun e w' => e = .returned (.bool (c.fits v there)) ∧ Below w.heap.size w w' := by
  obtain ⟨k, had, has, old, new⟩ := c
  unfold C.fits
  dsimp only
  cases h1 : (had == there)
  · go_enter Tryd.func85, Tryd.ntmps85
    go_wp2
    go_ret
    exact ⟨rfl, qalloc (qrefl _) _⟩
  · cases h2 : (old.toList == v.toList)
    · go_enter Tryd.func85, Tryd.ntmps85
      go_wp2
      go_ret
      exact ⟨rfl, qalloc (qrefl _) _⟩
    · go_enter Tryd.func85, Tryd.ntmps85
      go_wp2
      go_ret
      exact ⟨rfl, qalloc (qrefl _) _⟩

/-- The value of a key in a list; the empty one where it is not there. -/
def findP (l : List P) (key : ByteArray) : Option P := l.find? fun p => p.k.toList == key.toList
theorem find_step {l : List P} {key : ByteArray} {k : Nat} {x : P} (h : ∀ j y, j < k → l[j]? = some y → (y.k.toList == key.toList) = false) (hx : l[k]? = some x) (hxk : (x.k.toList == key.toList) = false) :
    ∀ j y, j < k + 1 → l[j]? = some y → (y.k.toList == key.toList) = false := by
  intro j y hj hy
  rcases Nat.lt_or_ge j k with h1 | h1
  · exact h j y h1 hy
  · obtain rfl : j = k := by omega
    rw [hx] at hy
    cases hy
    exact hxk
theorem find_at {l : List P} {key : ByteArray} {k : Nat} {x : P} (h : ∀ j y, j < k → l[j]? = some y → (y.k.toList == key.toList) = false) (hx : l[k]? = some x) (hxk : (x.k.toList == key.toList) = true) : findP l key = some x := by
  unfold findP
  rw [List.find?_eq_some_iff_getElem]
  obtain ⟨hk, e⟩ := List.getElem?_eq_some_iff.1 hx
  refine ⟨hxk, k, hk, e, fun j hj => ?_⟩
  have := h j l[j] hj (List.getElem?_eq_getElem _)
  simp [this]
theorem find_none {l : List P} {key : ByteArray} {k : Nat} (h : ∀ j y, j < k → l[j]? = some y → (y.k.toList == key.toList) = false) (hk : l.length ≤ k) : findP l key = none := by
  unfold findP
  rw [List.find?_eq_none]
  intro x hx
  obtain ⟨j, hj, e⟩ := List.getElem_of_mem hx
  have := h j x (by omega) (by rw [List.getElem?_eq_getElem hj, e])
  simp [this]
def fv (o : Option P) : ByteArray := match o with | some p => p.v | none => ⟨#[]⟩
theorem find84 (a : Option Addr) (c n : Nat) (l : List P) (key : ByteArray) (w : World) (h : Rd PT w a n l) :
    Calls Tryd.prog 84 #[.slice a n c, .string key] w fun e w' => e = .returned (.tuple #[.string (fv (findP l key)), .bool (findP l key).isSome]) ∧ Below w.heap.size w w' := by
  have H := Lib.hid h
  have hl := h.2.1
  have hn := Lib.hid h.1
  clear h
  go_enter Tryd.func84, Tryd.ntmps84
  go_wp2
  go_loopw [6] (fun i wr => ∃ k : Nat, i = .int .i64 k ∧ Below w.heap.size w wr ∧ Hid (∀ j y, j < k → l[j]? = some y → (y.k.toList == key.toList) = false)) (fun i _ => n - (intOf i).toNat)
  case atStart => exact ⟨0, rfl, qrefl _, fun j y hj => by omega⟩
  case round =>
    obtain ⟨k, rfl, hb, hp⟩ := hrel
    by_cases hlt : k < n
    · obtain ⟨b, o, y, rfl, hy, c0, c1⟩ := rdP H.out hlt
      have x0 := qcell c0 hb
      have x1 := qcell c1 hb
      have HY := Lib.hid hy
      clear c0 c1 hy
      cases ht : (y.k.toList == key.toList)
      · go_wp2
        go_roundw
        case rel => exact ⟨k + 1, by go_num, hb, find_step hp.out HY.out ht⟩
        case measure => simp [intOf]; omega
      · have hf := Lib.hid (find_at hp.out HY.out ht)
        go_wp2
        go_ret2
        rw [hf.out]
        exact ⟨rfl, hb⟩
    · have hf := Lib.hid (find_none hp.out (by rw [hn.out]; omega))
      go_wp2
      go_ret2
      rw [hf.out]
      exact ⟨rfl, hb⟩
end Go.Proofs.YtdkailccfcijiaaDoor
