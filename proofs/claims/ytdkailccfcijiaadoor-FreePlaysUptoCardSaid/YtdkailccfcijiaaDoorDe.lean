/- What is kept behind a list; every second element turned. No condition but what is read. -/
import Derived.Test.YtdkailccfcijiaaDoorDd
namespace Go.Proofs.YtdkailccfcijiaaDoor
open Go.RowKit
set_option linter.unusedVariables false
set_option linter.unusedSimpArgs false
set_option maxRecDepth 100000

def lastP : P := ⟨⟨#[98, 101, 104, 105, 110, 100]⟩, ⟨#[98, 101, 104, 105, 110, 100]⟩⟩
def lastC : C := ⟨⟨#[98, 101, 104, 105, 110, 100]⟩, false, true, ⟨#[]⟩, ⟨#[98, 101, 104, 105, 110, 100]⟩⟩
theorem pairsKept (a1 a2 : Option Addr) (c1 c2 n : Nat) (l : List P) (w : World) (h1 : Rd PT w a1 (n + 1) (l ++ [lastP])) (hc : n + 1 ≤ c1) (hc1 : c1 ≤ 9223372036854775807) (h2 : Rd PT w a2 n l) :
    Calls Tryd.prog 25 #[.slice a1 (n + 1) c1, .slice a2 n c2] w fun e w' => e = .returned (.bool true) ∧ Below w.heap.size w w' := by
  have hl := h1.2.1
  have ht := h1.take n (by omega)
  rw [List.take_left' h2.1] at ht
  obtain ⟨b, o, x, rfl, hx, d0, d1⟩ := rdP h1 (i := n) (by omega)
  rw [List.getElem?_append_right (by rw [h2.1]; exact Nat.le_refl _), h2.1, Nat.sub_self] at hx
  obtain rfl : lastP = x := by simpa using hx
  have x0 := xt_cell d0
  have x1 := xt_cell d1
  have H1 := Lib.hid ht
  have H2 := Lib.hid h2
  clear h1 h2 ht hx d0 d1
  unfold lastP at x0 x1
  dsimp only at x0 x1
  go_enter Tryd.func25, Tryd.ntmps25
  go_wp2
  refine xt_region (by kernel_rfl) (by kernel_rfl) ?_
  repeat (go_big_quiet_step (first | (go_at_call 24; exact xt_call (samePairs _ _ _ _ _ l _ (H1.out.below (xt_below _ _)) (H2.out.below (xt_below _ _)))) | (go_at_call 18; exact xt_call (lastPair _))))
  refine wpQuiet_nil ?_
  intro _ hw'
  obtain ⟨m, rfl⟩ := hw'
  go_wp2
  go_ret
  exact ⟨rfl, xt_below _ _⟩
theorem changesKept (a1 a2 : Option Addr) (c1 c2 n : Nat) (l : List C) (w : World) (h1 : Rd CT w a1 (n + 1) (l ++ [lastC])) (hc : n + 1 ≤ c1) (hc1 : c1 ≤ 9223372036854775807) (h2 : Rd CT w a2 n l) :
    Calls Tryd.prog 26 #[.slice a1 (n + 1) c1, .slice a2 n c2] w fun e w' => e = .returned (.bool true) ∧ Below w.heap.size w w' := by
  have hl := h1.2.1
  have ht := h1.take n (by omega)
  rw [List.take_left' h2.1] at ht
  obtain ⟨b, o, x, rfl, hx, d0, d1, d2, d3, d4⟩ := rdC h1 (i := n) (by omega)
  rw [List.getElem?_append_right (by rw [h2.1]; exact Nat.le_refl _), h2.1, Nat.sub_self] at hx
  obtain rfl : lastC = x := by simpa using hx
  have x0 := xt_cell d0
  have x1 := xt_cell d1
  have x2 := xt_cell d2
  have x3 := xt_cell d3
  have x4 := xt_cell d4
  have H1 := Lib.hid ht
  have H2 := Lib.hid h2
  clear h1 h2 ht hx d0 d1 d2 d3 d4
  unfold lastC at x0 x1 x2 x3 x4
  dsimp only at x0 x1 x2 x3 x4
  go_enter Tryd.func26, Tryd.ntmps26
  go_wp2
  refine xt_region (by kernel_rfl) (by kernel_rfl) ?_
  repeat (go_big_quiet_step (first | (go_at_call 32; exact xt_call (sameChanges _ _ _ _ _ l _ (H1.out.below (xt_below _ _)) (H2.out.below (xt_below _ _)))) | (go_at_call 20; exact xt_call (lastChange _))))
  refine wpQuiet_nil ?_
  intro _ hw'
  obtain ⟨m, rfl⟩ := hw'
  go_wp2
  go_ret
  exact ⟨rfl, xt_below _ _⟩

/-! ### every second element turned, in place -/
def zz : ByteArray := ⟨#[122]⟩
def P.turn (p : P) : P := ⟨p.k, p.v ++ zz⟩
def C.turn (c : C) : C := if c.has then ⟨c.k, c.had, c.has, c.old, c.new ++ zz⟩ else c
def secondTo {α : Type} (f : α → α) (m : Nat) (l : List α) : List α := l.mapIdx fun i x => if i < m ∧ i % 2 = 0 then f x else x
def second {α : Type} (f : α → α) (l : List α) : List α := l.mapIdx fun i x => if i % 2 = 0 then f x else x
theorem secondTo_zero {α : Type} (f : α → α) (l : List α) : secondTo f 0 l = l := by
  apply List.ext_getElem?
  intro i
  simp [secondTo, List.getElem?_mapIdx]
theorem secondTo_all {α : Type} (f : α → α) (l : List α) (m : Nat) (h : l.length ≤ m) : secondTo f m l = second f l := by
  apply List.ext_getElem?
  intro i
  simp only [secondTo, second, List.getElem?_mapIdx]
  rcases Nat.lt_or_ge i l.length with h1 | h1
  · simp [List.getElem?_eq_getElem h1, show i < m by omega]
  · simp [List.getElem?_eq_none h1]
theorem secondTo_length {α : Type} (f : α → α) (l : List α) (m : Nat) : (secondTo f m l).length = l.length := by simp [secondTo]
theorem second_length {α : Type} (f : α → α) (l : List α) : (second f l).length = l.length := by simp [second]
theorem secondTo_at {α : Type} (f : α → α) {l : List α} {m : Nat} {x : α} (hx : l[m]? = some x) : (secondTo f m l)[m]? = some x := by
  simp [secondTo, List.getElem?_mapIdx, hx]
theorem secondTo_step {α : Type} (f : α → α) {l : List α} {m : Nat} {x : α} (hm : m % 2 = 0) (hx : l[m]? = some x) : (secondTo f m l).set m (f x) = secondTo f (m + 2) l := by
  apply List.ext_getElem?
  intro i
  rw [List.getElem?_set]
  obtain ⟨hlt, rfl⟩ := List.getElem?_eq_some_iff.1 hx
  by_cases h : m = i
  · subst h
    simp [secondTo, hlt, List.getElem?_mapIdx, hm]
  · rw [if_neg h]
    simp only [secondTo, List.getElem?_mapIdx]
    congr 1
    funext y
    by_cases h2 : i % 2 = 0
    · by_cases h3 : i < m
      · simp [h2, h3, show i < m + 2 by omega]
      · simp [h2, h3, show ¬ i < m + 2 by omega]
    · simp [h2]

theorem other (w0 w : World) (L : List Chunk) (v : Value) (l : List P) (S : Sep w0 w (row PT v l :: L)) (hs : ∀ p ∈ l, p.v.size ≤ 4194304) (hn : l.length ≤ 9223372036854775000) :
    Calls Tryd.prog 29 #[v] w fun e w' => e = .returned v ∧ Sep w0 w' (row PT v (second P.turn l) :: L) := by
  rcases Row.form S.hd with ⟨rfl, rfl⟩ | ⟨g, c, rfl, hc, _, _⟩
  · have HS := Lib.hid S
    clear S hs
    go_enter Tryd.func29, Tryd.ntmps29
    go_wp2
    go_loop [3] (fun i => i = .int .i64 0) (fun _ => 0)
    case atStart => rfl
    case round =>
      subst hrel
      go_wp2
      go_ret
      exact ⟨rfl, HS.out⟩
  · have hs0 := Lib.hid (show Sep w0 w (row PT (.slice (some ⟨g, 0, none⟩) l.length c) (secondTo P.turn 0 l) :: L) by rw [secondTo_zero]; exact S)
    have HZ := Lib.hid hs
    clear S hs
    go_enter Tryd.func29, Tryd.ntmps29
    go_wp2
    go_loopw [3] (fun i wr => ∃ m : Nat, m % 2 = 0 ∧ m ≤ l.length + 1 ∧ i = .int .i64 m ∧ Hid (Sep w0 wr (row PT (.slice (some ⟨g, 0, none⟩) l.length c) (secondTo P.turn m l) :: L))) (fun i _ => l.length + 1 - (intOf i).toNat)
    case atStart => exact ⟨0, rfl, by omega, rfl, hs0.out⟩
    case round =>
      obtain ⟨m, hm, hle, rfl, hS⟩ := hrel
      by_cases hlt : m < l.length
      · obtain ⟨x, hx⟩ : ∃ x, l[m]? = some x := ⟨_, List.getElem?_eq_getElem hlt⟩
        have x1 := row_cell hS.out (j := 1) (secondTo_at P.turn hx) (u := .string x.v) rfl
        have f1 := row_free hS.out (m * 2 + 1)
        have hz := HZ.out x (List.mem_of_getElem? hx)
        have hz2 : x.v.size + 1 ≤ 9223372036854775807 := by omega
        have hm2 := Lib.hid hm
        have hx2 := Lib.hid hx
        simp only [show PT.sz = 2 from rfl] at x1
        clear hm hx
        go_wp2
        have h2 := row_set hS.out (j := 1) (x' := P.turn x) (u := .string (x.v ++ zz)) (secondTo_at P.turn hx2.out) (by decide) rfl
        rw [secondTo_step P.turn hm2.out hx2.out] at h2
        go_roundw
        case rel => exact ⟨m + 2, by have := hm2.out; omega, by omega, by go_num, h2⟩
        case measure => simp [intOf]; omega
      · have h2 := hS.out
        rw [secondTo_all _ _ _ (by omega)] at h2
        have h3 := Lib.hid h2
        have hm2 := Lib.hid hm
        clear h2 hm
        go_wp2
        go_ret
        exact ⟨rfl, h3.out⟩
end Go.Proofs.YtdkailccfcijiaaDoor
