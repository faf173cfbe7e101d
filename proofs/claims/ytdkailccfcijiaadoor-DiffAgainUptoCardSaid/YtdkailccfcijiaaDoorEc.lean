/- 'clean', walked, where the list is clean. Conditions: that. -/
import Derived.Test.YtdkailccfcijiaaDoorEb
namespace Go.Proofs.YtdkailccfcijiaaDoor
open Go.RowKit Go.Shelf
set_option linter.unusedVariables false
set_option linter.unusedSimpArgs false
set_option maxRecDepth 100000

/-- A change that is no idle one, and bears nothing where nothing was or is. -/
def CleanF (had has : Bool) (old new : ByteArray) : Prop :=
  (∃ xold xnew, (xold.toList == xnew.toList) = false ∧ had = true ∧ has = true ∧ old = xold ∧ new = xnew) ∨ (∃ xold, had = true ∧ has = false ∧ old = xold ∧ new = ⟨#[]⟩) ∨ (∃ xnew, had = false ∧ has = true ∧ old = ⟨#[]⟩ ∧ new = xnew)
theorem clean_of_tells {a b : List P} {c : C} (h : Tells a b c) : CleanF c.had c.has c.old c.new := by
  obtain ⟨h1, h2, h3, h4, h5⟩ := h
  rw [h1, h2, h3, h4]
  unfold C.idle at h5
  rw [h1, h2, h3, h4] at h5
  cases ha : findP a c.k with
  | none =>
    cases hb : findP b c.k with
    | none => rw [ha, hb] at h5; simp [fv] at h5
    | some y => exact .inr (.inr ⟨_, rfl, rfl, rfl, rfl⟩)
  | some x =>
    cases hb : findP b c.k with
    | none => exact .inr (.inl ⟨_, rfl, rfl, rfl, rfl⟩)
    | some y =>
      refine .inl ⟨_, _, ?_, rfl, rfl, rfl, rfl⟩
      rw [ha, hb] at h5
      simpa using h5
set_option maxHeartbeats 8000000 in
theorem clean45 (a : Option Addr) (c : Nat) (l : List C) (w : World) (h : Rd CT w a l.length l) (hu : Up C.k l) (hc : ∀ x ∈ l, CleanF x.had x.has x.old x.new) :
    Calls Tryd.prog 45 #[.slice a l.length c] w fun e w' => e = .returned (.bool true) ∧ Below w.heap.size w w' := by
  have H := Lib.hid h
  have hl := h.2.1
  have HU := Lib.hid (rises_of_up hu)
  have HC := Lib.hid hc
  clear h hu hc
  go_enter Tryd.func45, Tryd.ntmps45
  go_wp2
  go_loopw [3] (fun i wr => ∃ k : Nat, k ≤ l.length ∧ i = .int .i64 k ∧ Hid (Below w.heap.size w wr)) (fun i _ => l.length - (intOf i).toNat)
  case atStart => exact ⟨0, Nat.zero_le _, rfl, qrefl _⟩
  case round =>
    obtain ⟨k, hk, rfl, hb⟩ := hrel
    by_cases hlt : k < l.length
    · obtain ⟨b, o, x, rfl, hx, c0, c1, c2, c3, c4⟩ := rdC (H.out.below hb.out) hlt
      have hf := HC.out x (List.mem_of_getElem? hx)
      have HX := Lib.hid hx
      clear hx
      rcases (Nat.lt_or_ge 0 k).symm with hk0 | hk1
      · obtain ⟨xk, had, has, old, new⟩ := x
        dsimp only at c0 c1 c2 c3 c4 hf
        unfold CleanF at hf
        clear HX
        rcases hf with ⟨xold, xnew, hne, rfl, rfl, rfl, rfl⟩ | ⟨xold, rfl, rfl, rfl, rfl⟩ | ⟨xnew, rfl, rfl, rfl, rfl⟩
        · have T0 := Lib.hid ((Sep.nil wr).boxAt 32 [.string xk, .bool true, .bool true, .string old, .string new] wr.heap.size rfl)
          have z0 := blk_cell T0.out 0 rfl
          have xz0 := xt_cell z0
          have z1 := blk_cell T0.out 1 rfl
          have xz1 := xt_cell z1
          have z2 := blk_cell T0.out 2 rfl
          have xz2 := xt_cell z2
          have z3 := blk_cell T0.out 3 rfl
          have xz3 := xt_cell z3
          have z4 := blk_cell T0.out 4 rfl
          have xz4 := xt_cell z4
          have g1 : decide (0 < k) = false := by simp; omega
          have g2 : decide ((0 : Int) < (k : Int)) = false := by simp; omega
          have hbT := Lib.hid T0.out.below
          clear T0
          go_wp2
          refine xt_region (by kernel_rfl) (by kernel_rfl) ?_
          repeat (go_big_quiet_step (fail))
          refine wpQuiet_nil ?_
          intro _ hw'
          obtain ⟨m, rfl⟩ := hw'
          have hm := qbelow (qbelow hb.out hbT.out) (xt_below _ m)
          clear z0 xz0 z1 xz1 z2 xz2 z3 xz3 z4 xz4
          go_wp2
          go_roundw
          case rel => exact ⟨k + 1, by omega, by go_num, hm⟩
          case measure => simp [intOf]; omega
        · have T0 := Lib.hid ((Sep.nil wr).boxAt 32 [.string xk, .bool true, .bool false, .string old, .string ⟨#[]⟩] wr.heap.size rfl)
          have z0 := blk_cell T0.out 0 rfl
          have xz0 := xt_cell z0
          have z1 := blk_cell T0.out 1 rfl
          have xz1 := xt_cell z1
          have z2 := blk_cell T0.out 2 rfl
          have xz2 := xt_cell z2
          have z3 := blk_cell T0.out 3 rfl
          have xz3 := xt_cell z3
          have z4 := blk_cell T0.out 4 rfl
          have xz4 := xt_cell z4
          have g1 : decide (0 < k) = false := by simp; omega
          have g2 : decide ((0 : Int) < (k : Int)) = false := by simp; omega
          have hbT := Lib.hid T0.out.below
          clear T0
          go_wp2
          refine xt_region (by kernel_rfl) (by kernel_rfl) ?_
          repeat (go_big_quiet_step (fail))
          refine wpQuiet_nil ?_
          intro _ hw'
          obtain ⟨m, rfl⟩ := hw'
          have hm := qbelow (qbelow hb.out hbT.out) (xt_below _ m)
          clear z0 xz0 z1 xz1 z2 xz2 z3 xz3 z4 xz4
          go_wp2
          go_roundw
          case rel => exact ⟨k + 1, by omega, by go_num, hm⟩
          case measure => simp [intOf]; omega
        · have T0 := Lib.hid ((Sep.nil wr).boxAt 32 [.string xk, .bool false, .bool true, .string ⟨#[]⟩, .string new] wr.heap.size rfl)
          have z0 := blk_cell T0.out 0 rfl
          have xz0 := xt_cell z0
          have z1 := blk_cell T0.out 1 rfl
          have xz1 := xt_cell z1
          have z2 := blk_cell T0.out 2 rfl
          have xz2 := xt_cell z2
          have z3 := blk_cell T0.out 3 rfl
          have xz3 := xt_cell z3
          have z4 := blk_cell T0.out 4 rfl
          have xz4 := xt_cell z4
          have g1 : decide (0 < k) = false := by simp; omega
          have g2 : decide ((0 : Int) < (k : Int)) = false := by simp; omega
          have hbT := Lib.hid T0.out.below
          clear T0
          go_wp2
          refine xt_region (by kernel_rfl) (by kernel_rfl) ?_
          repeat (go_big_quiet_step (fail))
          refine wpQuiet_nil ?_
          intro _ hw'
          obtain ⟨m, rfl⟩ := hw'
          have hm := qbelow (qbelow hb.out hbT.out) (xt_below _ m)
          clear z0 xz0 z1 xz1 z2 xz2 z3 xz3 z4 xz4
          go_wp2
          go_roundw
          case rel => exact ⟨k + 1, by omega, by go_num, hm⟩
          case measure => simp [intOf]; omega
      · obtain ⟨b2, o2, y, e2, hy, d0, d1, d2, d3, d4⟩ := rdC (H.out.below hb.out) (i := k - 1) (by omega)
        cases e2
        have ht : Op.bytesLess y.k.toList x.k.toList = true := rises_at HU.out hk1 hy HX.out
        have u1 : Op.bytesLess x.k.toList y.k.toList = false := bl_asymm ht
        have u2 : (x.k.toList == y.k.toList) = false := lessK_ne' ht
        clear HX hy d1 d2 d3 d4
        obtain ⟨xk, had, has, old, new⟩ := x
        obtain ⟨yk, yhad, yhas, yold, ynew⟩ := y
        dsimp only at c0 c1 c2 c3 c4 hf d0 u1 u2 ht
        unfold CleanF at hf
        clear ht
        rcases hf with ⟨xold, xnew, hne, rfl, rfl, rfl, rfl⟩ | ⟨xold, rfl, rfl, rfl, rfl⟩ | ⟨xnew, rfl, rfl, rfl, rfl⟩
        · have T0 := Lib.hid ((Sep.nil wr).boxAt 32 [.string xk, .bool true, .bool true, .string old, .string new] wr.heap.size rfl)
          have z0 := blk_cell T0.out 0 rfl
          have xz0 := xt_cell z0
          have z1 := blk_cell T0.out 1 rfl
          have xz1 := xt_cell z1
          have z2 := blk_cell T0.out 2 rfl
          have xz2 := xt_cell z2
          have z3 := blk_cell T0.out 3 rfl
          have xz3 := xt_cell z3
          have z4 := blk_cell T0.out 4 rfl
          have xz4 := xt_cell z4
          have g1 : decide (0 < k) = true := by simp; omega
          have g2 : decide ((0 : Int) < (k : Int)) = true := by simp; omega
          have y0 := xt_cell (qcell d0 T0.out.below)
          have hbT := Lib.hid T0.out.below
          clear T0
          go_wp2
          refine xt_region (by kernel_rfl) (by kernel_rfl) ?_
          repeat (go_big_quiet_step (fail))
          refine wpQuiet_nil ?_
          intro _ hw'
          obtain ⟨m, rfl⟩ := hw'
          have hm := qbelow (qbelow hb.out hbT.out) (xt_below _ m)
          clear z0 xz0 z1 xz1 z2 xz2 z3 xz3 z4 xz4 y0
          go_wp2
          go_roundw
          case rel => exact ⟨k + 1, by omega, by go_num, hm⟩
          case measure => simp [intOf]; omega
        · have T0 := Lib.hid ((Sep.nil wr).boxAt 32 [.string xk, .bool true, .bool false, .string old, .string ⟨#[]⟩] wr.heap.size rfl)
          have z0 := blk_cell T0.out 0 rfl
          have xz0 := xt_cell z0
          have z1 := blk_cell T0.out 1 rfl
          have xz1 := xt_cell z1
          have z2 := blk_cell T0.out 2 rfl
          have xz2 := xt_cell z2
          have z3 := blk_cell T0.out 3 rfl
          have xz3 := xt_cell z3
          have z4 := blk_cell T0.out 4 rfl
          have xz4 := xt_cell z4
          have g1 : decide (0 < k) = true := by simp; omega
          have g2 : decide ((0 : Int) < (k : Int)) = true := by simp; omega
          have y0 := xt_cell (qcell d0 T0.out.below)
          have hbT := Lib.hid T0.out.below
          clear T0
          go_wp2
          refine xt_region (by kernel_rfl) (by kernel_rfl) ?_
          repeat (go_big_quiet_step (fail))
          refine wpQuiet_nil ?_
          intro _ hw'
          obtain ⟨m, rfl⟩ := hw'
          have hm := qbelow (qbelow hb.out hbT.out) (xt_below _ m)
          clear z0 xz0 z1 xz1 z2 xz2 z3 xz3 z4 xz4 y0
          go_wp2
          go_roundw
          case rel => exact ⟨k + 1, by omega, by go_num, hm⟩
          case measure => simp [intOf]; omega
        · have T0 := Lib.hid ((Sep.nil wr).boxAt 32 [.string xk, .bool false, .bool true, .string ⟨#[]⟩, .string new] wr.heap.size rfl)
          have z0 := blk_cell T0.out 0 rfl
          have xz0 := xt_cell z0
          have z1 := blk_cell T0.out 1 rfl
          have xz1 := xt_cell z1
          have z2 := blk_cell T0.out 2 rfl
          have xz2 := xt_cell z2
          have z3 := blk_cell T0.out 3 rfl
          have xz3 := xt_cell z3
          have z4 := blk_cell T0.out 4 rfl
          have xz4 := xt_cell z4
          have g1 : decide (0 < k) = true := by simp; omega
          have g2 : decide ((0 : Int) < (k : Int)) = true := by simp; omega
          have y0 := xt_cell (qcell d0 T0.out.below)
          have hbT := Lib.hid T0.out.below
          clear T0
          go_wp2
          refine xt_region (by kernel_rfl) (by kernel_rfl) ?_
          repeat (go_big_quiet_step (fail))
          refine wpQuiet_nil ?_
          intro _ hw'
          obtain ⟨m, rfl⟩ := hw'
          have hm := qbelow (qbelow hb.out hbT.out) (xt_below _ m)
          clear z0 xz0 z1 xz1 z2 xz2 z3 xz3 z4 xz4 y0
          go_wp2
          go_roundw
          case rel => exact ⟨k + 1, by omega, by go_num, hm⟩
          case measure => simp [intOf]; omega
    · go_wp2
      go_ret
      exact ⟨rfl, hb.out⟩
theorem cleanV {v : Value} {l : List C} {w : World} (h : RdV CT w v l) (hu : Up C.k l) (hc : ∀ x ∈ l, CleanF x.had x.has x.old x.new) : Calls Tryd.prog 45 #[v] w fun e w' => e = .returned (.bool true) ∧ Below w.heap.size w w' := by
  obtain ⟨a, c, rfl, _, _, h⟩ := h
  exact clean45 a c l w h hu hc
end Go.Proofs.YtdkailccfcijiaaDoor
