/- Readers and makers of lists of pairs and changes. No condition but what is read. -/
import Derived.Test.YtdkailccfcijiaaDoorDb
namespace Go.Proofs.YtdkailccfcijiaaDoor
open Go.RowKit
set_option linter.unusedVariables false
set_option linter.unusedSimpArgs false
set_option maxRecDepth 100000

theorem samePairs (a1 a2 : Option Addr) (c1 c2 n : Nat) (l : List P) (w : World) (h1 : Rd PT w a1 n l) (h2 : Rd PT w a2 n l) :
    Calls Tryd.prog 24 #[.slice a1 n c1, .slice a2 n c2] w fun e w' => e = .returned (.bool true) ∧ Below w.heap.size w w' := by
  have H := Lib.hid h1
  have H2 := Lib.hid h2
  have hl := h1.2.1
  clear h1 h2
  go_enter Tryd.func24, Tryd.ntmps24
  go_wp2
  go_loopw [5] (fun i wr => ∃ k : Nat, i = .int .i64 k ∧ Below w.heap.size w wr) (fun i _ => n - (intOf i).toNat)
  case atStart => exact ⟨0, rfl, qrefl _⟩
  case round =>
    obtain ⟨k, rfl, hb⟩ := hrel
    by_cases hlt : k < n
    · obtain ⟨b, o, y, rfl, hy, c0, c1⟩ := rdP H.out hlt
      obtain ⟨b2, o2, x, rfl, hx, d0, d1⟩ := rdP H2.out hlt
      rw [hy] at hx
      cases hx
      have x0 := xt_cell (qcell c0 hb)
      have y0 := xt_cell (qcell d0 hb)
      have x1 := xt_cell (qcell c1 hb)
      have y1 := xt_cell (qcell d1 hb)
      clear c0 c1 d0 d1 hy
      go_wp2
      refine xt_region (by kernel_rfl) (by kernel_rfl) ?_
      repeat (go_big_quiet_step (fail))
      refine wpQuiet_nil ?_
      intro _ hw'
      obtain ⟨m, rfl⟩ := hw'
      have hm := qbelow hb (xt_below wr m)
      clear x0 y0 x1 y1
      go_wp2
      go_roundw
      case rel => exact ⟨k + 1, by go_num, hm⟩
      case measure => simp [intOf]; omega
    · go_wp2
      go_ret
      exact ⟨rfl, hb⟩
theorem sameChanges (a1 a2 : Option Addr) (c1 c2 n : Nat) (l : List C) (w : World) (h1 : Rd CT w a1 n l) (h2 : Rd CT w a2 n l) :
    Calls Tryd.prog 32 #[.slice a1 n c1, .slice a2 n c2] w fun e w' => e = .returned (.bool true) ∧ Below w.heap.size w w' := by
  have H := Lib.hid h1
  have H2 := Lib.hid h2
  have hl := h1.2.1
  clear h1 h2
  go_enter Tryd.func32, Tryd.ntmps32
  go_wp2
  go_loopw [5] (fun i wr => ∃ k : Nat, i = .int .i64 k ∧ Below w.heap.size w wr) (fun i _ => n - (intOf i).toNat)
  case atStart => exact ⟨0, rfl, qrefl _⟩
  case round =>
    obtain ⟨k, rfl, hb⟩ := hrel
    by_cases hlt : k < n
    · obtain ⟨b, o, y, rfl, hy, c0, c1, c2, c3, c4⟩ := rdC H.out hlt
      obtain ⟨b2, o2, x, rfl, hx, d0, d1, d2, d3, d4⟩ := rdC H2.out hlt
      rw [hy] at hx
      cases hx
      have x0 := xt_cell (qcell c0 hb)
      have y0 := xt_cell (qcell d0 hb)
      have x1 := xt_cell (qcell c1 hb)
      have y1 := xt_cell (qcell d1 hb)
      have x2 := xt_cell (qcell c2 hb)
      have y2 := xt_cell (qcell d2 hb)
      have x3 := xt_cell (qcell c3 hb)
      have y3 := xt_cell (qcell d3 hb)
      have x4 := xt_cell (qcell c4 hb)
      have y4 := xt_cell (qcell d4 hb)
      clear c0 c1 c2 c3 c4 d0 d1 d2 d3 d4 hy
      go_wp2
      refine xt_region (by kernel_rfl) (by kernel_rfl) ?_
      repeat (go_big_quiet_step (fail))
      refine wpQuiet_nil ?_
      intro _ hw'
      obtain ⟨m, rfl⟩ := hw'
      have hm := qbelow hb (xt_below wr m)
      clear x0 y0 x1 y1 x2 y2 x3 y3 x4 y4
      go_wp2
      go_roundw
      case rel => exact ⟨k + 1, by go_num, hm⟩
      case measure => simp [intOf]; omega
    · go_wp2
      go_ret
      exact ⟨rfl, hb⟩

/-! ### what stands behind -/
def behind : ByteArray := ⟨#[98, 101, 104, 105, 110, 100]⟩
theorem lastPair (w : World) : Calls Tryd.prog 18 #[] w fun e w' => e = .returned (.agg #[.string ⟨#[98, 101, 104, 105, 110, 100]⟩, .string ⟨#[98, 101, 104, 105, 110, 100]⟩]) ∧ Below w.heap.size w w' := by
  go_enter Tryd.func18, Tryd.ntmps18
  go_wp2
  refine bodyPost_ret (v := .agg #[.string ⟨#[98, 101, 104, 105, 110, 100]⟩, .string ⟨#[98, 101, 104, 105, 110, 100]⟩]) (by simp [results, Tryd.results18, go_sem]) rfl ⟨rfl, qalloc (qrefl w) _⟩
theorem lastChange (w : World) : Calls Tryd.prog 20 #[] w fun e w' => e = .returned (.agg #[.string ⟨#[98, 101, 104, 105, 110, 100]⟩, .bool false, .bool true, .string ⟨#[]⟩, .string ⟨#[98, 101, 104, 105, 110, 100]⟩]) ∧ Below w.heap.size w w' := by
  go_enter Tryd.func20, Tryd.ntmps20
  go_wp2
  refine bodyPost_ret (v := .agg #[.string ⟨#[98, 101, 104, 105, 110, 100]⟩, .bool false, .bool true, .string ⟨#[]⟩, .string ⟨#[98, 101, 104, 105, 110, 100]⟩]) (by simp [results, Tryd.results20, go_sem]) rfl ⟨rfl, qalloc (qrefl w) _⟩

/-! ### copies -/
theorem elemP : Elem Tryd.prog PT 22 32 := ⟨Tryd.underlying22, ⟨.agg #[.string ⟨#[]⟩, .string ⟨#[]⟩], rfl, by kernel_rfl⟩, by decide⟩
theorem elemC : Elem Tryd.prog CT 23 56 := ⟨Tryd.underlying23, ⟨.agg #[.string ⟨#[]⟩, .bool false, .bool false, .string ⟨#[]⟩, .string ⟨#[]⟩], rfl, by kernel_rfl⟩, by decide⟩
theorem pairs (a : Option Addr) (c : Nat) (l : List P) (w : World) (h : Rd PT w a l.length l) (hl : l.length ≤ 4194304) :
    Calls Tryd.prog 17 #[.slice a l.length c] w fun e w' => ∃ v, e = .returned v ∧ Sep w w' [row PT v l] := by
  have H := Lib.hid h
  clear h
  have hb : (([] : List P).length + l.length) * 32 ≤ 140737488355328 := by simp; omega
  go_enter Tryd.func17, Tryd.ntmps17
  go_wp2_with (at_builtin; go_loud (refine app_sep elemP rfl (.tmp 4) (.tmp 5) rfl (.slice none 0 0) [] rfl ((Sep.nil w).none_ PT) a l.length c l rfl H.out hb ?_); intro v w1 S _)
  go_ret
  exact ⟨_, rfl, S⟩
theorem changes (a : Option Addr) (c : Nat) (l : List C) (w : World) (h : Rd CT w a l.length l) (hl : l.length ≤ 4194304) :
    Calls Tryd.prog 19 #[.slice a l.length c] w fun e w' => ∃ v, e = .returned v ∧ Sep w w' [row CT v l] := by
  have H := Lib.hid h
  clear h
  have hb : (([] : List C).length + l.length) * 56 ≤ 140737488355328 := by simp; omega
  go_enter Tryd.func19, Tryd.ntmps19
  go_wp2_with (at_builtin; refine app_sep elemC rfl (.tmp 4) (.tmp 5) rfl (.slice none 0 0) [] rfl ((Sep.nil w).none_ CT) a l.length c l rfl H.out hb ?_; intro v w1 S _)
  go_ret
  exact ⟨_, rfl, S⟩
end Go.Proofs.YtdkailccfcijiaaDoor
