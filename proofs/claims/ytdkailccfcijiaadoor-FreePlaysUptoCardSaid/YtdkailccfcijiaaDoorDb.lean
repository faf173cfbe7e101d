/- 'Does the list rise?', of both kinds, the program's and the document's. No condition but what is read. -/
import Derived.Test.YtdkailccfcijiaaDoorDa
namespace Go.Proofs.YtdkailccfcijiaaDoor
open Go.RowKit
set_option linter.unusedVariables false
set_option linter.unusedSimpArgs false
set_option maxRecDepth 100000

theorem risesP_yes (a : Option Addr) (c : Nat) (l : List P) (w : World) (h : Rd PT w a l.length l) (hr :  Rises (l.map P.k)) :
    Calls Tryd.prog 79 #[.slice a l.length c] w fun e w' => e = .returned (.bool true) ∧ Below w.heap.size w w' := by
  have H := Lib.hid h
  have R := Lib.hid hr
  have hl := h.2.1
  clear h hr
  go_enter Tryd.func79, Tryd.ntmps79
  go_wp2
  go_loopw [3] (fun i wr => ∃ k : Nat, 1 ≤ k ∧ i = .int .i64 k ∧ Below w.heap.size w wr ∧ Hid (∀ i x y, i + 1 < k → l[i]? = some x → l[i + 1]? = some y → Op.bytesLess (P.k x).toList (P.k y).toList = true)) (fun i _ => l.length - (intOf i).toNat)
  case atStart => exact ⟨1, Nat.le_refl _, rfl, qrefl _, fun i _ _ hi => by omega⟩
  case round =>
    obtain ⟨k, hk, rfl, hb, hp⟩ := hrel
    by_cases hlt : k < l.length
    · obtain ⟨b, o, y, rfl, hy, c0, c1⟩ := rdP H.out hlt
      obtain ⟨b2, o2, x, e2, hx, d0, d1⟩ := rdP H.out (i := k - 1) (by omega)
      cases e2
      have x0 := xt_cell (qcell c0 hb)
      have y0 := xt_cell (qcell d0 hb)
      have x1 := xt_cell (qcell c1 hb)
      have y1 := xt_cell (qcell d1 hb)
      have HX := Lib.hid hx
      have HY := Lib.hid hy
      clear c0 d0 c1 d1 hx hy
      cases ht : Op.bytesLess (P.k x).toList (P.k y).toList
      · exact absurd (rises_at R.out hk HX.out HY.out) (by rw [ht]; exact Bool.false_ne_true)
      · go_wp2
        refine xt_region (by kernel_rfl) (by kernel_rfl) ?_
        repeat (go_big_quiet_step ((go_at_call 114; exact xt_call (keyOfPair _ _ _))))
        refine wpQuiet_nil ?_
        intro _ hw'
        obtain ⟨m, rfl⟩ := hw'
        have hm := qbelow hb (xt_below wr m)
        clear x0 y0 x1 y1
        go_wp2
        go_roundw
        case rel => exact ⟨k + 1, by omega, by go_num, hm, rises_step hp.out hk HX.out HY.out ht⟩
        case measure => simp [intOf]; omega
    · go_wp2
      go_ret
      exact ⟨rfl, hb⟩

theorem risesP_no (a : Option Addr) (c : Nat) (l : List P) (w : World) (h : Rd PT w a l.length l) (hr : ¬  Rises (l.map P.k)) :
    Calls Tryd.prog 79 #[.slice a l.length c] w fun e w' => e = .returned (.bool false) ∧ Below w.heap.size w w' := by
  have H := Lib.hid h
  have R := Lib.hid hr
  have hl := h.2.1
  clear h hr
  go_enter Tryd.func79, Tryd.ntmps79
  go_wp2
  go_loopw [3] (fun i wr => ∃ k : Nat, 1 ≤ k ∧ i = .int .i64 k ∧ Below w.heap.size w wr ∧ Hid (∀ i x y, i + 1 < k → l[i]? = some x → l[i + 1]? = some y → Op.bytesLess (P.k x).toList (P.k y).toList = true)) (fun i _ => l.length - (intOf i).toNat)
  case atStart => exact ⟨1, Nat.le_refl _, rfl, qrefl _, fun i _ _ hi => by omega⟩
  case round =>
    obtain ⟨k, hk, rfl, hb, hp⟩ := hrel
    by_cases hlt : k < l.length
    · obtain ⟨b, o, y, rfl, hy, c0, c1⟩ := rdP H.out hlt
      obtain ⟨b2, o2, x, e2, hx, d0, d1⟩ := rdP H.out (i := k - 1) (by omega)
      cases e2
      have x0 := xt_cell (qcell c0 hb)
      have y0 := xt_cell (qcell d0 hb)
      have x1 := xt_cell (qcell c1 hb)
      have y1 := xt_cell (qcell d1 hb)
      have HX := Lib.hid hx
      have HY := Lib.hid hy
      clear c0 d0 c1 d1 hx hy
      cases ht : Op.bytesLess (P.k x).toList (P.k y).toList
      · go_wp2
        refine xt_region (by kernel_rfl) (by kernel_rfl) ?_
        repeat (go_big_quiet_step ((go_at_call 114; exact xt_call (keyOfPair _ _ _))))
        refine wpQuiet_nil ?_
        intro _ hw'
        obtain ⟨m, rfl⟩ := hw'
        have hm := qbelow hb (xt_below wr m)
        clear x0 y0 x1 y1
        go_wp2
        go_ret
        exact ⟨rfl, hm⟩
      · go_wp2
        refine xt_region (by kernel_rfl) (by kernel_rfl) ?_
        repeat (go_big_quiet_step ((go_at_call 114; exact xt_call (keyOfPair _ _ _))))
        refine wpQuiet_nil ?_
        intro _ hw'
        obtain ⟨m, rfl⟩ := hw'
        have hm := qbelow hb (xt_below wr m)
        clear x0 y0 x1 y1
        go_wp2
        go_roundw
        case rel => exact ⟨k + 1, by omega, by go_num, hm, rises_step hp.out hk HX.out HY.out ht⟩
        case measure => simp [intOf]; omega
    · go_wp2
      go_ret
      exact absurd (rises_all hp.out (by omega)) R.out

theorem risesC_yes (a : Option Addr) (c : Nat) (l : List C) (w : World) (h : Rd CT w a l.length l) (hr :  Rises (l.map C.k)) :
    Calls Tryd.prog 80 #[.slice a l.length c] w fun e w' => e = .returned (.bool true) ∧ Below w.heap.size w w' := by
  have H := Lib.hid h
  have R := Lib.hid hr
  have hl := h.2.1
  clear h hr
  go_enter Tryd.func80, Tryd.ntmps80
  go_wp2
  go_loopw [3] (fun i wr => ∃ k : Nat, 1 ≤ k ∧ i = .int .i64 k ∧ Below w.heap.size w wr ∧ Hid (∀ i x y, i + 1 < k → l[i]? = some x → l[i + 1]? = some y → Op.bytesLess (C.k x).toList (C.k y).toList = true)) (fun i _ => l.length - (intOf i).toNat)
  case atStart => exact ⟨1, Nat.le_refl _, rfl, qrefl _, fun i _ _ hi => by omega⟩
  case round =>
    obtain ⟨k, hk, rfl, hb, hp⟩ := hrel
    by_cases hlt : k < l.length
    · obtain ⟨b, o, y, rfl, hy, c0, c1, c2, c3, c4⟩ := rdC H.out hlt
      obtain ⟨b2, o2, x, e2, hx, d0, d1, d2, d3, d4⟩ := rdC H.out (i := k - 1) (by omega)
      cases e2
      have x0 := xt_cell (qcell c0 hb)
      have y0 := xt_cell (qcell d0 hb)
      have x1 := xt_cell (qcell c1 hb)
      have y1 := xt_cell (qcell d1 hb)
      have x2 := xt_cell (qcell c2 hb)
      have y2 := xt_cell (qcell d2 hb)
      have x3 := xt_cell (qcell c3 hb)
      have y3 := xt_cell (qcell d3 hb)
      have x4 := xt_cell (qcell c4 hb)
      have y4 := xt_cell (qcell d4 hb)
      have HX := Lib.hid hx
      have HY := Lib.hid hy
      clear c0 d0 c1 d1 c2 d2 c3 d3 c4 d4 hx hy
      cases ht : Op.bytesLess (C.k x).toList (C.k y).toList
      · exact absurd (rises_at R.out hk HX.out HY.out) (by rw [ht]; exact Bool.false_ne_true)
      · go_wp2
        refine xt_region (by kernel_rfl) (by kernel_rfl) ?_
        repeat (go_big_quiet_step ((go_at_call 115; exact xt_call (keyOfChange _ _ _ _ _ _))))
        refine wpQuiet_nil ?_
        intro _ hw'
        obtain ⟨m, rfl⟩ := hw'
        have hm := qbelow hb (xt_below wr m)
        clear x0 y0 x1 y1 x2 y2 x3 y3 x4 y4
        go_wp2
        go_roundw
        case rel => exact ⟨k + 1, by omega, by go_num, hm, rises_step hp.out hk HX.out HY.out ht⟩
        case measure => simp [intOf]; omega
    · go_wp2
      go_ret
      exact ⟨rfl, hb⟩

theorem risesC_no (a : Option Addr) (c : Nat) (l : List C) (w : World) (h : Rd CT w a l.length l) (hr : ¬  Rises (l.map C.k)) :
    Calls Tryd.prog 80 #[.slice a l.length c] w fun e w' => e = .returned (.bool false) ∧ Below w.heap.size w w' := by
  have H := Lib.hid h
  have R := Lib.hid hr
  have hl := h.2.1
  clear h hr
  go_enter Tryd.func80, Tryd.ntmps80
  go_wp2
  go_loopw [3] (fun i wr => ∃ k : Nat, 1 ≤ k ∧ i = .int .i64 k ∧ Below w.heap.size w wr ∧ Hid (∀ i x y, i + 1 < k → l[i]? = some x → l[i + 1]? = some y → Op.bytesLess (C.k x).toList (C.k y).toList = true)) (fun i _ => l.length - (intOf i).toNat)
  case atStart => exact ⟨1, Nat.le_refl _, rfl, qrefl _, fun i _ _ hi => by omega⟩
  case round =>
    obtain ⟨k, hk, rfl, hb, hp⟩ := hrel
    by_cases hlt : k < l.length
    · obtain ⟨b, o, y, rfl, hy, c0, c1, c2, c3, c4⟩ := rdC H.out hlt
      obtain ⟨b2, o2, x, e2, hx, d0, d1, d2, d3, d4⟩ := rdC H.out (i := k - 1) (by omega)
      cases e2
      have x0 := xt_cell (qcell c0 hb)
      have y0 := xt_cell (qcell d0 hb)
      have x1 := xt_cell (qcell c1 hb)
      have y1 := xt_cell (qcell d1 hb)
      have x2 := xt_cell (qcell c2 hb)
      have y2 := xt_cell (qcell d2 hb)
      have x3 := xt_cell (qcell c3 hb)
      have y3 := xt_cell (qcell d3 hb)
      have x4 := xt_cell (qcell c4 hb)
      have y4 := xt_cell (qcell d4 hb)
      have HX := Lib.hid hx
      have HY := Lib.hid hy
      clear c0 d0 c1 d1 c2 d2 c3 d3 c4 d4 hx hy
      cases ht : Op.bytesLess (C.k x).toList (C.k y).toList
      · go_wp2
        refine xt_region (by kernel_rfl) (by kernel_rfl) ?_
        repeat (go_big_quiet_step ((go_at_call 115; exact xt_call (keyOfChange _ _ _ _ _ _))))
        refine wpQuiet_nil ?_
        intro _ hw'
        obtain ⟨m, rfl⟩ := hw'
        have hm := qbelow hb (xt_below wr m)
        clear x0 y0 x1 y1 x2 y2 x3 y3 x4 y4
        go_wp2
        go_ret
        exact ⟨rfl, hm⟩
      · go_wp2
        refine xt_region (by kernel_rfl) (by kernel_rfl) ?_
        repeat (go_big_quiet_step ((go_at_call 115; exact xt_call (keyOfChange _ _ _ _ _ _))))
        refine wpQuiet_nil ?_
        intro _ hw'
        obtain ⟨m, rfl⟩ := hw'
        have hm := qbelow hb (xt_below wr m)
        clear x0 y0 x1 y1 x2 y2 x3 y3 x4 y4
        go_wp2
        go_roundw
        case rel => exact ⟨k + 1, by omega, by go_num, hm, rises_step hp.out hk HX.out HY.out ht⟩
        case measure => simp [intOf]; omega
    · go_wp2
      go_ret
      exact absurd (rises_all hp.out (by omega)) R.out

theorem refRisesP_yes (a : Option Addr) (c : Nat) (l : List P) (w : World) (h : Rd PT w a l.length l) (hr :  Rises (l.map P.k)) :
    Calls Tryd.prog 82 #[.slice a l.length c] w fun e w' => e = .returned (.bool true) ∧ Below w.heap.size w w' := by
  have H := Lib.hid h
  have R := Lib.hid hr
  have hl := h.2.1
  clear h hr
  go_enter Tryd.func82, Tryd.ntmps82
  go_wp2
  go_loopw [3] (fun i wr => ∃ k : Nat, 1 ≤ k ∧ i = .int .i64 k ∧ Below w.heap.size w wr ∧ Hid (∀ i x y, i + 1 < k → l[i]? = some x → l[i + 1]? = some y → Op.bytesLess (P.k x).toList (P.k y).toList = true)) (fun i _ => l.length - (intOf i).toNat)
  case atStart => exact ⟨1, Nat.le_refl _, rfl, qrefl _, fun i _ _ hi => by omega⟩
  case round =>
    obtain ⟨k, hk, rfl, hb, hp⟩ := hrel
    by_cases hlt : k < l.length
    · obtain ⟨b, o, y, rfl, hy, c0, c1⟩ := rdP H.out hlt
      obtain ⟨b2, o2, x, e2, hx, d0, d1⟩ := rdP H.out (i := k - 1) (by omega)
      cases e2
      have x0 := xt_cell (qcell c0 hb)
      have y0 := xt_cell (qcell d0 hb)
      have x1 := xt_cell (qcell c1 hb)
      have y1 := xt_cell (qcell d1 hb)
      have HX := Lib.hid hx
      have HY := Lib.hid hy
      clear c0 d0 c1 d1 hx hy
      cases ht : Op.bytesLess (P.k x).toList (P.k y).toList
      · exact absurd (rises_at R.out hk HX.out HY.out) (by rw [ht]; exact Bool.false_ne_true)
      · have hle := not_le_of ht
        go_wp2
        refine xt_region (by kernel_rfl) (by kernel_rfl) ?_
        repeat (go_big_quiet_step (fail))
        refine wpQuiet_nil ?_
        intro _ hw'
        obtain ⟨m, rfl⟩ := hw'
        have hm := qbelow hb (xt_below wr m)
        clear x0 y0 x1 y1
        go_wp2
        go_roundw
        case rel => exact ⟨k + 1, by omega, by go_num, hm, rises_step hp.out hk HX.out HY.out ht⟩
        case measure => simp [intOf]; omega
    · go_wp2
      go_ret
      exact ⟨rfl, hb⟩

theorem refRisesP_no (a : Option Addr) (c : Nat) (l : List P) (w : World) (h : Rd PT w a l.length l) (hr : ¬  Rises (l.map P.k)) :
    Calls Tryd.prog 82 #[.slice a l.length c] w fun e w' => e = .returned (.bool false) ∧ Below w.heap.size w w' := by
  have H := Lib.hid h
  have R := Lib.hid hr
  have hl := h.2.1
  clear h hr
  go_enter Tryd.func82, Tryd.ntmps82
  go_wp2
  go_loopw [3] (fun i wr => ∃ k : Nat, 1 ≤ k ∧ i = .int .i64 k ∧ Below w.heap.size w wr ∧ Hid (∀ i x y, i + 1 < k → l[i]? = some x → l[i + 1]? = some y → Op.bytesLess (P.k x).toList (P.k y).toList = true)) (fun i _ => l.length - (intOf i).toNat)
  case atStart => exact ⟨1, Nat.le_refl _, rfl, qrefl _, fun i _ _ hi => by omega⟩
  case round =>
    obtain ⟨k, hk, rfl, hb, hp⟩ := hrel
    by_cases hlt : k < l.length
    · obtain ⟨b, o, y, rfl, hy, c0, c1⟩ := rdP H.out hlt
      obtain ⟨b2, o2, x, e2, hx, d0, d1⟩ := rdP H.out (i := k - 1) (by omega)
      cases e2
      have x0 := xt_cell (qcell c0 hb)
      have y0 := xt_cell (qcell d0 hb)
      have x1 := xt_cell (qcell c1 hb)
      have y1 := xt_cell (qcell d1 hb)
      have HX := Lib.hid hx
      have HY := Lib.hid hy
      clear c0 d0 c1 d1 hx hy
      cases ht : Op.bytesLess (P.k x).toList (P.k y).toList
      · have hle := le_of_not ht
        go_wp2
        refine xt_region (by kernel_rfl) (by kernel_rfl) ?_
        repeat (go_big_quiet_step (fail))
        refine wpQuiet_nil ?_
        intro _ hw'
        obtain ⟨m, rfl⟩ := hw'
        have hm := qbelow hb (xt_below wr m)
        clear x0 y0 x1 y1
        go_wp2
        go_ret
        exact ⟨rfl, hm⟩
      · have hle := not_le_of ht
        go_wp2
        refine xt_region (by kernel_rfl) (by kernel_rfl) ?_
        repeat (go_big_quiet_step (fail))
        refine wpQuiet_nil ?_
        intro _ hw'
        obtain ⟨m, rfl⟩ := hw'
        have hm := qbelow hb (xt_below wr m)
        clear x0 y0 x1 y1
        go_wp2
        go_roundw
        case rel => exact ⟨k + 1, by omega, by go_num, hm, rises_step hp.out hk HX.out HY.out ht⟩
        case measure => simp [intOf]; omega
    · go_wp2
      go_ret
      exact absurd (rises_all hp.out (by omega)) R.out

theorem refRisesC_yes (a : Option Addr) (c : Nat) (l : List C) (w : World) (h : Rd CT w a l.length l) (hr :  Rises (l.map C.k)) :
    Calls Tryd.prog 83 #[.slice a l.length c] w fun e w' => e = .returned (.bool true) ∧ Below w.heap.size w w' := by
  have H := Lib.hid h
  have R := Lib.hid hr
  have hl := h.2.1
  clear h hr
  go_enter Tryd.func83, Tryd.ntmps83
  go_wp2
  go_loopw [3] (fun i wr => ∃ k : Nat, 1 ≤ k ∧ i = .int .i64 k ∧ Below w.heap.size w wr ∧ Hid (∀ i x y, i + 1 < k → l[i]? = some x → l[i + 1]? = some y → Op.bytesLess (C.k x).toList (C.k y).toList = true)) (fun i _ => l.length - (intOf i).toNat)
  case atStart => exact ⟨1, Nat.le_refl _, rfl, qrefl _, fun i _ _ hi => by omega⟩
  case round =>
    obtain ⟨k, hk, rfl, hb, hp⟩ := hrel
    by_cases hlt : k < l.length
    · obtain ⟨b, o, y, rfl, hy, c0, c1, c2, c3, c4⟩ := rdC H.out hlt
      obtain ⟨b2, o2, x, e2, hx, d0, d1, d2, d3, d4⟩ := rdC H.out (i := k - 1) (by omega)
      cases e2
      have x0 := xt_cell (qcell c0 hb)
      have y0 := xt_cell (qcell d0 hb)
      have x1 := xt_cell (qcell c1 hb)
      have y1 := xt_cell (qcell d1 hb)
      have x2 := xt_cell (qcell c2 hb)
      have y2 := xt_cell (qcell d2 hb)
      have x3 := xt_cell (qcell c3 hb)
      have y3 := xt_cell (qcell d3 hb)
      have x4 := xt_cell (qcell c4 hb)
      have y4 := xt_cell (qcell d4 hb)
      have HX := Lib.hid hx
      have HY := Lib.hid hy
      clear c0 d0 c1 d1 c2 d2 c3 d3 c4 d4 hx hy
      cases ht : Op.bytesLess (C.k x).toList (C.k y).toList
      · exact absurd (rises_at R.out hk HX.out HY.out) (by rw [ht]; exact Bool.false_ne_true)
      · have hle := not_le_of ht
        go_wp2
        refine xt_region (by kernel_rfl) (by kernel_rfl) ?_
        repeat (go_big_quiet_step (fail))
        refine wpQuiet_nil ?_
        intro _ hw'
        obtain ⟨m, rfl⟩ := hw'
        have hm := qbelow hb (xt_below wr m)
        clear x0 y0 x1 y1 x2 y2 x3 y3 x4 y4
        go_wp2
        go_roundw
        case rel => exact ⟨k + 1, by omega, by go_num, hm, rises_step hp.out hk HX.out HY.out ht⟩
        case measure => simp [intOf]; omega
    · go_wp2
      go_ret
      exact ⟨rfl, hb⟩

theorem refRisesC_no (a : Option Addr) (c : Nat) (l : List C) (w : World) (h : Rd CT w a l.length l) (hr : ¬  Rises (l.map C.k)) :
    Calls Tryd.prog 83 #[.slice a l.length c] w fun e w' => e = .returned (.bool false) ∧ Below w.heap.size w w' := by
  have H := Lib.hid h
  have R := Lib.hid hr
  have hl := h.2.1
  clear h hr
  go_enter Tryd.func83, Tryd.ntmps83
  go_wp2
  go_loopw [3] (fun i wr => ∃ k : Nat, 1 ≤ k ∧ i = .int .i64 k ∧ Below w.heap.size w wr ∧ Hid (∀ i x y, i + 1 < k → l[i]? = some x → l[i + 1]? = some y → Op.bytesLess (C.k x).toList (C.k y).toList = true)) (fun i _ => l.length - (intOf i).toNat)
  case atStart => exact ⟨1, Nat.le_refl _, rfl, qrefl _, fun i _ _ hi => by omega⟩
  case round =>
    obtain ⟨k, hk, rfl, hb, hp⟩ := hrel
    by_cases hlt : k < l.length
    · obtain ⟨b, o, y, rfl, hy, c0, c1, c2, c3, c4⟩ := rdC H.out hlt
      obtain ⟨b2, o2, x, e2, hx, d0, d1, d2, d3, d4⟩ := rdC H.out (i := k - 1) (by omega)
      cases e2
      have x0 := xt_cell (qcell c0 hb)
      have y0 := xt_cell (qcell d0 hb)
      have x1 := xt_cell (qcell c1 hb)
      have y1 := xt_cell (qcell d1 hb)
      have x2 := xt_cell (qcell c2 hb)
      have y2 := xt_cell (qcell d2 hb)
      have x3 := xt_cell (qcell c3 hb)
      have y3 := xt_cell (qcell d3 hb)
      have x4 := xt_cell (qcell c4 hb)
      have y4 := xt_cell (qcell d4 hb)
      have HX := Lib.hid hx
      have HY := Lib.hid hy
      clear c0 d0 c1 d1 c2 d2 c3 d3 c4 d4 hx hy
      cases ht : Op.bytesLess (C.k x).toList (C.k y).toList
      · have hle := le_of_not ht
        go_wp2
        refine xt_region (by kernel_rfl) (by kernel_rfl) ?_
        repeat (go_big_quiet_step (fail))
        refine wpQuiet_nil ?_
        intro _ hw'
        obtain ⟨m, rfl⟩ := hw'
        have hm := qbelow hb (xt_below wr m)
        clear x0 y0 x1 y1 x2 y2 x3 y3 x4 y4
        go_wp2
        go_ret
        exact ⟨rfl, hm⟩
      · have hle := not_le_of ht
        go_wp2
        refine xt_region (by kernel_rfl) (by kernel_rfl) ?_
        repeat (go_big_quiet_step (fail))
        refine wpQuiet_nil ?_
        intro _ hw'
        obtain ⟨m, rfl⟩ := hw'
        have hm := qbelow hb (xt_below wr m)
        clear x0 y0 x1 y1 x2 y2 x3 y3 x4 y4
        go_wp2
        go_roundw
        case rel => exact ⟨k + 1, by omega, by go_num, hm, rises_step hp.out hk HX.out HY.out ht⟩
        case measure => simp [intOf]; omega
    · go_wp2
      go_ret
      exact absurd (rises_all hp.out (by omega)) R.out

end Go.Proofs.YtdkailccfcijiaaDoor
