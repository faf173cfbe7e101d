/- The iterator of two lists side by side (C, C). Conditions: where the lists lie. -/
import Derived.Test.YtdkailccfcijiaaDoorDh
namespace Go.Proofs.YtdkailccfcijiaaDoor
open Go.RowKit Go.Shelf
set_option linter.unusedVariables false
set_option linter.unusedSimpArgs false
set_option maxRecDepth 100000
attribute [local simp] wide_fn wide_fn_round
attribute [local go_sem] wide_fn wide_fn_round

set_option maxHeartbeats 8000000 in
theorem sidesCC1 (bA bB : Nat) (a1 a2 : Option Addr) (c1 c2 n1 n2 : Nat) (l1 : List C) (l2 : List C) (K : Nat → Prop) (hKA : K bA) (hKB : K bB) (hK1 : ∀ b o, a1 = some ⟨b, o, none⟩ → n1 = 0 ∨ K b) (hK2 : ∀ b o, a2 = some ⟨b, o, none⟩ → n2 = 0 ∨ K b)
    (l : Nat) (J Jx : List (Side l1 l2) → World → Prop) (W : World) (hKl : ∀ k, K k → k < W.heap.size) (hb1 : c1 ≤ 9223372036854775807) (hb2 : c2 ≤ 9223372036854775807) (hn1 : n1 ≤ c1) (hn2 : n2 ≤ c2)
    (hA : W.cell? ⟨bA, 0, none⟩ = some (.slice a1 n1 c1)) (hB : W.cell? ⟨bB, 0, none⟩ = some (.slice a2 n2 c2)) (h1 : Rd CT W a1 n1 l1) (h2 : Rd CT W a2 n2 l2)
    (hJ : ∀ pre A B, J pre A → A.grownBy B none → J pre B)
    (hY : ∀ pre x W1, J pre W1 → pre.length < n1 + n2 → YieldAt Fence.wide 3 Tryd.prog l (Side.encs 5 5 a1 a2 x) W1 fun e W' =>
      (e = .returned (.bool true) ∧ J (pre ++ [x]) W' ∧ Kq K W1 W') ∨ (e = .returned (.bool false) ∧ Jx (pre ++ [x]) W')) (h0 : J [] W) :
    CallsIn Fence.wide 4 Tryd.prog 118 #[.func (.yield l) #[] #[], .pointer (some ⟨bA, 0, none⟩), .pointer (some ⟨bB, 0, none⟩)] W fun e W' => (∃ v, e = .returned v) ∧
      ((∃ xs : List (Side l1 l2), xs.map Side.val = sidesL C.k C.k l1 l2 ∧ J xs W') ∨ (∃ pre : List (Side l1 l2), pre.map Side.val <+: sidesL C.k C.k l1 l2 ∧ Jx pre W')) := by
  have H1 := Lib.hid h1
  have H2 := Lib.hid h2
  have HJ := Lib.hid hJ
  have HY := Lib.hid hY
  have HK := Lib.hid (And.intro (And.intro hKA hKB) (And.intro (And.intro hK1 hK2) hKl))
  have HA := Lib.hid hA
  have HB := Lib.hid hB
  have H0 := Lib.hid h0
  have hl1 : Hid (l1.length = n1) := Lib.hid h1.1
  have hl2 : Hid (l2.length = n2) := Lib.hid h2.1
  have hm1 := h1.2.1
  have hm2 := h2.2.1
  clear h1 h2 hJ hY hA hB h0 hKA hKB hK1 hK2 hKl
  refine callsIn_of_wp Tryd.func118 rfl trivial ?_ rfl
  simp only [Tryd.ntmps118, List.size_toArray, List.length_cons, List.length_nil, Nat.reduceAdd, Nat.reduceSub, Array.replicate_succ, Array.replicate_zero, List.push_toArray, List.append_toArray, List.nil_append, List.cons_append]
  gi_wp2
  gi_loopw [4, 5] (fun t4 t5 wr => ∃ i k : Nat, i ≤ n1 ∧ k ≤ n2 ∧ t4 = .int .i64 i ∧ t5 = .int .i64 k ∧ ∃ pre : List (Side l1 l2), pre.length ≤ i + k ∧ Hid (J pre wr) ∧ Hid (Kq K W wr) ∧
      Hid (pre.map Side.val ++ sidesL C.k C.k (l1.drop i) (l2.drop k) = sidesL C.k C.k l1 l2)) (fun t4 t5 _ => n1 + n2 - (intOf t4).toNat - (intOf t5).toNat)
  case atStart => exact ⟨0, 0, Nat.zero_le _, Nat.zero_le _, rfl, rfl, [], Nat.le_refl _, H0.out, fun _ _ => rfl, rfl⟩
  case round =>
    obtain ⟨i, k, hi, hk, rfl, rfl, pre, hpre, hJp, hKp, hS⟩ := hrel
    have hcA := hKp.out.cell (p := ⟨bA, 0, none⟩) HK.out.1.1 HA.out
    have hcB := hKp.out.cell (p := ⟨bB, 0, none⟩) HK.out.1.2 HB.out
    by_cases hiN : i < n1
    · obtain ⟨b, o, x, hae, hx, d0, d1, d2, d3, d4⟩ := rdC (H1.out.kept hKp.out HK.out.2.1.1) hiN
      subst hae
      by_cases hkN : k < n2
      · obtain ⟨b2, o2, y, hae2, hy, e0, e1, e2, e3, e4⟩ := rdC (H2.out.kept hKp.out HK.out.2.1.2) hkN
        subst hae2
        have hkn : ((k : Int) == (n2 : Int)) = false := by simp; omega
        have hin : ((i : Int) == (n1 : Int)) = false := by simp; omega
        rcases hlt : Op.bytesLess x.k.toList y.k.toList with _ | _
        · rcases hgt : Op.bytesLess y.k.toList x.k.toList with _ | _
          · have hqq := bl_tri hlt hgt
            have hq1 : (x.k.toList == y.k.toList) = true := by simpa using hqq
            have hq2 : (y.k.toList == x.k.toList) = true := by simpa using hqq.symm
            have hqq2 := Lib.hid hqq
            clear hqq
            have xA := xt_cell hcA
            have xB := xt_cell hcB
            have xd0 := xt_cell d0
            have xd1 := xt_cell d1
            have xd2 := xt_cell d2
            have xd3 := xt_cell d3
            have xd4 := xt_cell d4
            have xe0 := xt_cell e0
            have xe1 := xt_cell e1
            have xe2 := xt_cell e2
            have xe3 := xt_cell e3
            have xe4 := xt_cell e4
            have hx2 := Lib.hid hx
            clear hx
            have hy2 := Lib.hid hy
            clear hy
            gi_wp2
            refine xtIn_region rfl (by kernel_rfl) (by kernel_rfl) ?_
            repeat (gi_big_quiet_step (((gi_at_call 115; exact xtIn_call (F := Fence.wide) (keyOfChange _ _ _ _ _ _)))))
            refine wpQuietIn_nil ?_
            intro _ hw'
            obtain ⟨m, rfl⟩ := hw'
            have hbm := xt_below wr m
            generalize wx wr m = w1 at hbm ⊢
            clear xA xB xd0 xd1 xd2 xd3 xd4 xe0 xe1 xe2 xe3 xe4
            replace hcA := qcell hcA hbm
            replace hcB := qcell hcB hbm
            replace d0 := qcell d0 hbm
            replace d1 := qcell d1 hbm
            replace d2 := qcell d2 hbm
            replace d3 := qcell d3 hbm
            replace d4 := qcell d4 hbm
            replace e0 := qcell e0 hbm
            replace e1 := qcell e1 hbm
            replace e2 := qcell e2 hbm
            replace e3 := qcell e3 hbm
            replace e4 := qcell e4 hbm
            have xA := xt_cell hcA
            have xB := xt_cell hcB
            have xd0 := xt_cell d0
            have xd1 := xt_cell d1
            have xd2 := xt_cell d2
            have xd3 := xt_cell d3
            have xd4 := xt_cell d4
            have xe0 := xt_cell e0
            have xe1 := xt_cell e1
            have xe2 := xt_cell e2
            have xe3 := xt_cell e3
            have xe4 := xt_cell e4
            gi_wp2
            refine xtIn_region rfl (by kernel_rfl) (by kernel_rfl) ?_
            repeat (gi_big_quiet_step (((gi_at_call 115; exact xtIn_call (F := Fence.wide) (keyOfChange _ _ _ _ _ _)))))
            refine wpQuietIn_nil ?_
            intro _ hw'
            obtain ⟨m, rfl⟩ := hw'
            have hbn := qbelow hbm (xt_below w1 m)
            replace hcA := qcell hcA (xt_below w1 m)
            replace hcB := qcell hcB (xt_below w1 m)
            generalize wx w1 m = w2 at hbn hcA hcB ⊢
            clear xA xB xd0 xd1 xd2 xd3 xd4 xe0 xe1 xe2 xe3 xe4
            clear d0 d1 d2 d3 d4 e0 e1 e2 e3 e4
            have hJ2 := HJ.out pre wr w2 hJp.out (grown_of_below hbn)
            have hK2 := Lib.hid (hKp.out.trans (Kq.of_below hbn (fun k hk => hKp.out.lt HK.out.2.2 hk)))
            obtain ⟨s, hs⟩ : ∃ s : Side l1 l2, s = Side.both i k (by rw [hl1.out]; exact hiN) (by rw [hl2.out]; exact hkN) := ⟨_, rfl⟩
            have hv : Side.val s = (some x, some y) := by subst hs; simp [Side.val, Side.left, Side.right, Side.both, hx2.out, hy2.out]
            have hst := Lib.hid (side_step hS.out s hv (sides_eq hx2.out hy2.out hlt hgt))
            obtain ⟨fn, tmps, assign, body, hya, hR⟩ := HY.out pre s w2 hJ2 (by omega)
            rw [hs] at hya
            simp only [Side.encs, Side.left, Side.right, Side.both, ptr, Option.map] at hya
            clear hJ2 hbn hbm hv hs
            gi_wp2
            refine hR.mono ?_
            rintro e W3 (⟨rfl, hJ3, hk3⟩ | ⟨rfl, hJx3⟩)
            · have hJ4 := Lib.hid hJ3
              have hK4 := Lib.hid (hK2.out.trans hk3)
              clear hJ3 hk3 hR hya
              gi_wp2
              go_roundw
              case rel => exact ⟨i + 1, k + 1, by omega, by omega, by go_num, by go_num, pre ++ [s], by simp; omega, hJ4.out, hK4.out, hst.out.1⟩
              case measure => simp [intOf]; omega
            · have hJ4 := Lib.hid hJx3
              clear hJx3 hR hya
              gi_wp2
              refine bodyPost_ret (results_none rfl _ _ _) rfl ?_
              exact ⟨⟨_, rfl⟩, .inr ⟨pre ++ [s], hst.out.2, hJ4.out⟩⟩
          · have hq1 : (x.k.toList == y.k.toList) = false := by simpa using (bl_ne hgt).symm
            have hq2 : (y.k.toList == x.k.toList) = false := by simpa using (bl_ne hgt)
            have xA := xt_cell hcA
            have xB := xt_cell hcB
            have xd0 := xt_cell d0
            have xd1 := xt_cell d1
            have xd2 := xt_cell d2
            have xd3 := xt_cell d3
            have xd4 := xt_cell d4
            have xe0 := xt_cell e0
            have xe1 := xt_cell e1
            have xe2 := xt_cell e2
            have xe3 := xt_cell e3
            have xe4 := xt_cell e4
            have hx2 := Lib.hid hx
            clear hx
            have hy2 := Lib.hid hy
            clear hy
            gi_wp2
            refine xtIn_region rfl (by kernel_rfl) (by kernel_rfl) ?_
            repeat (gi_big_quiet_step (((gi_at_call 115; exact xtIn_call (F := Fence.wide) (keyOfChange _ _ _ _ _ _)))))
            refine wpQuietIn_nil ?_
            intro _ hw'
            obtain ⟨m, rfl⟩ := hw'
            have hbm := xt_below wr m
            generalize wx wr m = w1 at hbm ⊢
            clear xA xB xd0 xd1 xd2 xd3 xd4 xe0 xe1 xe2 xe3 xe4
            replace hcA := qcell hcA hbm
            replace hcB := qcell hcB hbm
            replace d0 := qcell d0 hbm
            replace d1 := qcell d1 hbm
            replace d2 := qcell d2 hbm
            replace d3 := qcell d3 hbm
            replace d4 := qcell d4 hbm
            replace e0 := qcell e0 hbm
            replace e1 := qcell e1 hbm
            replace e2 := qcell e2 hbm
            replace e3 := qcell e3 hbm
            replace e4 := qcell e4 hbm
            have xA := xt_cell hcA
            have xB := xt_cell hcB
            have xd0 := xt_cell d0
            have xd1 := xt_cell d1
            have xd2 := xt_cell d2
            have xd3 := xt_cell d3
            have xd4 := xt_cell d4
            have xe0 := xt_cell e0
            have xe1 := xt_cell e1
            have xe2 := xt_cell e2
            have xe3 := xt_cell e3
            have xe4 := xt_cell e4
            gi_wp2
            refine xtIn_region rfl (by kernel_rfl) (by kernel_rfl) ?_
            repeat (gi_big_quiet_step (((gi_at_call 115; exact xtIn_call (F := Fence.wide) (keyOfChange _ _ _ _ _ _)))))
            refine wpQuietIn_nil ?_
            intro _ hw'
            obtain ⟨m, rfl⟩ := hw'
            have hbn := qbelow hbm (xt_below w1 m)
            replace hcA := qcell hcA (xt_below w1 m)
            replace hcB := qcell hcB (xt_below w1 m)
            generalize wx w1 m = w2 at hbn hcA hcB ⊢
            clear xA xB xd0 xd1 xd2 xd3 xd4 xe0 xe1 xe2 xe3 xe4
            clear d0 d1 d2 d3 d4 e0 e1 e2 e3 e4
            have hJ2 := HJ.out pre wr w2 hJp.out (grown_of_below hbn)
            have hK2 := Lib.hid (hKp.out.trans (Kq.of_below hbn (fun k hk => hKp.out.lt HK.out.2.2 hk)))
            obtain ⟨s, hs⟩ : ∃ s : Side l1 l2, s = Side.right k (by rw [hl2.out]; exact hkN) := ⟨_, rfl⟩
            have hv : Side.val s = (none, some y) := by subst hs; simp [Side.val, Side.left, Side.right, Side.both, hx2.out, hy2.out]
            have hst := Lib.hid (side_step hS.out s hv (sides_gt hx2.out hy2.out hgt))
            obtain ⟨fn, tmps, assign, body, hya, hR⟩ := HY.out pre s w2 hJ2 (by omega)
            rw [hs] at hya
            simp only [Side.encs, Side.left, Side.right, Side.both, ptr, Option.map] at hya
            clear hJ2 hbn hbm hv hs
            gi_wp2
            refine hR.mono ?_
            rintro e W3 (⟨rfl, hJ3, hk3⟩ | ⟨rfl, hJx3⟩)
            · have hJ4 := Lib.hid hJ3
              have hK4 := Lib.hid (hK2.out.trans hk3)
              clear hJ3 hk3 hR hya
              gi_wp2
              go_roundw
              case rel => exact ⟨i, k + 1, by omega, by omega, rfl, by go_num, pre ++ [s], by simp; omega, hJ4.out, hK4.out, hst.out.1⟩
              case measure => simp [intOf]; omega
            · have hJ4 := Lib.hid hJx3
              clear hJx3 hR hya
              gi_wp2
              refine bodyPost_ret (results_none rfl _ _ _) rfl ?_
              exact ⟨⟨_, rfl⟩, .inr ⟨pre ++ [s], hst.out.2, hJ4.out⟩⟩
        · have hgt := bl_asymm hlt
          have hq1 : (x.k.toList == y.k.toList) = false := by simpa using (bl_ne hlt)
          have hq2 : (y.k.toList == x.k.toList) = false := by simpa using (bl_ne hlt).symm
          have xA := xt_cell hcA
          have xB := xt_cell hcB
          have xd0 := xt_cell d0
          have xd1 := xt_cell d1
          have xd2 := xt_cell d2
          have xd3 := xt_cell d3
          have xd4 := xt_cell d4
          have xe0 := xt_cell e0
          have xe1 := xt_cell e1
          have xe2 := xt_cell e2
          have xe3 := xt_cell e3
          have xe4 := xt_cell e4
          have hx2 := Lib.hid hx
          clear hx
          have hy2 := Lib.hid hy
          clear hy
          gi_wp2
          refine xtIn_region rfl (by kernel_rfl) (by kernel_rfl) ?_
          repeat (gi_big_quiet_step (((gi_at_call 115; exact xtIn_call (F := Fence.wide) (keyOfChange _ _ _ _ _ _)))))
          refine wpQuietIn_nil ?_
          intro _ hw'
          obtain ⟨m, rfl⟩ := hw'
          have hbm := xt_below wr m
          generalize wx wr m = w1 at hbm ⊢
          clear xA xB xd0 xd1 xd2 xd3 xd4 xe0 xe1 xe2 xe3 xe4
          replace hcA := qcell hcA hbm
          replace hcB := qcell hcB hbm
          replace d0 := qcell d0 hbm
          replace d1 := qcell d1 hbm
          replace d2 := qcell d2 hbm
          replace d3 := qcell d3 hbm
          replace d4 := qcell d4 hbm
          replace e0 := qcell e0 hbm
          replace e1 := qcell e1 hbm
          replace e2 := qcell e2 hbm
          replace e3 := qcell e3 hbm
          replace e4 := qcell e4 hbm
          have xA := xt_cell hcA
          have xB := xt_cell hcB
          have xd0 := xt_cell d0
          have xd1 := xt_cell d1
          have xd2 := xt_cell d2
          have xd3 := xt_cell d3
          have xd4 := xt_cell d4
          have xe0 := xt_cell e0
          have xe1 := xt_cell e1
          have xe2 := xt_cell e2
          have xe3 := xt_cell e3
          have xe4 := xt_cell e4
          gi_wp2
          refine xtIn_region rfl (by kernel_rfl) (by kernel_rfl) ?_
          repeat (gi_big_quiet_step (((gi_at_call 115; exact xtIn_call (F := Fence.wide) (keyOfChange _ _ _ _ _ _)))))
          refine wpQuietIn_nil ?_
          intro _ hw'
          obtain ⟨m, rfl⟩ := hw'
          have hbn := qbelow hbm (xt_below w1 m)
          replace hcA := qcell hcA (xt_below w1 m)
          replace hcB := qcell hcB (xt_below w1 m)
          generalize wx w1 m = w2 at hbn hcA hcB ⊢
          clear xA xB xd0 xd1 xd2 xd3 xd4 xe0 xe1 xe2 xe3 xe4
          clear d0 d1 d2 d3 d4 e0 e1 e2 e3 e4
          have hJ2 := HJ.out pre wr w2 hJp.out (grown_of_below hbn)
          have hK2 := Lib.hid (hKp.out.trans (Kq.of_below hbn (fun k hk => hKp.out.lt HK.out.2.2 hk)))
          obtain ⟨s, hs⟩ : ∃ s : Side l1 l2, s = Side.left i (by rw [hl1.out]; exact hiN) := ⟨_, rfl⟩
          have hv : Side.val s = (some x, none) := by subst hs; simp [Side.val, Side.left, Side.right, Side.both, hx2.out, hy2.out]
          have hst := Lib.hid (side_step hS.out s hv (sides_lt hx2.out hy2.out hlt))
          obtain ⟨fn, tmps, assign, body, hya, hR⟩ := HY.out pre s w2 hJ2 (by omega)
          rw [hs] at hya
          simp only [Side.encs, Side.left, Side.right, Side.both, ptr, Option.map] at hya
          clear hJ2 hbn hbm hv hs
          gi_wp2
          refine hR.mono ?_
          rintro e W3 (⟨rfl, hJ3, hk3⟩ | ⟨rfl, hJx3⟩)
          · have hJ4 := Lib.hid hJ3
            have hK4 := Lib.hid (hK2.out.trans hk3)
            clear hJ3 hk3 hR hya
            gi_wp2
            go_roundw
            case rel => exact ⟨i + 1, k, by omega, by omega, by go_num, rfl, pre ++ [s], by simp; omega, hJ4.out, hK4.out, hst.out.1⟩
            case measure => simp [intOf]; omega
          · have hJ4 := Lib.hid hJx3
            clear hJx3 hR hya
            gi_wp2
            refine bodyPost_ret (results_none rfl _ _ _) rfl ?_
            exact ⟨⟨_, rfl⟩, .inr ⟨pre ++ [s], hst.out.2, hJ4.out⟩⟩
      · obtain rfl : k = n2 := by omega
        have xA := xt_cell hcA
        have xB := xt_cell hcB
        have hx2 := Lib.hid hx
        clear hx
        gi_wp2
        refine xtIn_region rfl (by kernel_rfl) (by kernel_rfl) ?_
        repeat (gi_big_quiet_step (fail))
        refine wpQuietIn_nil ?_
        intro _ hw'
        obtain ⟨m, rfl⟩ := hw'
        have hbm := xt_below wr m
        generalize wx wr m = w1 at hbm ⊢
        clear xA xB 
        replace hcA := qcell hcA hbm
        replace hcB := qcell hcB hbm
        have xA := xt_cell hcA
        have xB := xt_cell hcB
        gi_wp2
        refine xtIn_region rfl (by kernel_rfl) (by kernel_rfl) ?_
        repeat (gi_big_quiet_step (fail))
        refine wpQuietIn_nil ?_
        intro _ hw'
        obtain ⟨m, rfl⟩ := hw'
        have hbn := qbelow hbm (xt_below w1 m)
        replace hcA := qcell hcA (xt_below w1 m)
        replace hcB := qcell hcB (xt_below w1 m)
        generalize wx w1 m = w2 at hbn hcA hcB ⊢
        clear xA xB 
        have hJ2 := HJ.out pre wr w2 hJp.out (grown_of_below hbn)
        have hK2 := Lib.hid (hKp.out.trans (Kq.of_below hbn (fun k hk => hKp.out.lt HK.out.2.2 hk)))
        obtain ⟨s, hs⟩ : ∃ s : Side l1 l2, s = Side.left i (by rw [hl1.out]; exact hiN) := ⟨_, rfl⟩
        have hv : Side.val s = (some x, none) := by subst hs; simp [Side.val, Side.left, Side.right, Side.both, hx2.out]
        have hst := Lib.hid (side_step hS.out s hv (sides_left (ka := C.k) (kb := C.k) hx2.out (k := k) (by rw [hl2.out]; omega)))
        obtain ⟨fn, tmps, assign, body, hya, hR⟩ := HY.out pre s w2 hJ2 (by omega)
        rw [hs] at hya
        simp only [Side.encs, Side.left, Side.right, Side.both, ptr, Option.map] at hya
        clear hJ2 hbn hbm hv hs
        gi_wp2
        refine hR.mono ?_
        rintro e W3 (⟨rfl, hJ3, hk3⟩ | ⟨rfl, hJx3⟩)
        · have hJ4 := Lib.hid hJ3
          have hK4 := Lib.hid (hK2.out.trans hk3)
          clear hJ3 hk3 hR hya
          gi_wp2
          go_roundw
          case rel => exact ⟨i + 1, k, by omega, by omega, by go_num, rfl, pre ++ [s], by simp; omega, hJ4.out, hK4.out, hst.out.1⟩
          case measure => simp [intOf]; omega
        · have hJ4 := Lib.hid hJx3
          clear hJx3 hR hya
          gi_wp2
          refine bodyPost_ret (results_none rfl _ _ _) rfl ?_
          exact ⟨⟨_, rfl⟩, .inr ⟨pre ++ [s], hst.out.2, hJ4.out⟩⟩
    · obtain rfl : i = n1 := by omega
      by_cases hkN : k < n2
      · obtain ⟨b2, o2, y, hae2, hy, e0, e1, e2, e3, e4⟩ := rdC (H2.out.kept hKp.out HK.out.2.1.2) hkN
        subst hae2
        have xA := xt_cell hcA
        have xB := xt_cell hcB
        have hy2 := Lib.hid hy
        clear hy
        gi_wp2
        refine xtIn_region rfl (by kernel_rfl) (by kernel_rfl) ?_
        repeat (gi_big_quiet_step (fail))
        refine wpQuietIn_nil ?_
        intro _ hw'
        obtain ⟨m, rfl⟩ := hw'
        have hbm := xt_below wr m
        generalize wx wr m = w1 at hbm ⊢
        clear xA xB 
        replace hcA := qcell hcA hbm
        replace hcB := qcell hcB hbm
        have xA := xt_cell hcA
        have xB := xt_cell hcB
        gi_wp2
        refine xtIn_region rfl (by kernel_rfl) (by kernel_rfl) ?_
        repeat (gi_big_quiet_step (fail))
        refine wpQuietIn_nil ?_
        intro _ hw'
        obtain ⟨m, rfl⟩ := hw'
        have hbn := qbelow hbm (xt_below w1 m)
        replace hcA := qcell hcA (xt_below w1 m)
        replace hcB := qcell hcB (xt_below w1 m)
        generalize wx w1 m = w2 at hbn hcA hcB ⊢
        clear xA xB 
        have hJ2 := HJ.out pre wr w2 hJp.out (grown_of_below hbn)
        have hK2 := Lib.hid (hKp.out.trans (Kq.of_below hbn (fun k hk => hKp.out.lt HK.out.2.2 hk)))
        obtain ⟨s, hs⟩ : ∃ s : Side l1 l2, s = Side.right k (by rw [hl2.out]; exact hkN) := ⟨_, rfl⟩
        have hv : Side.val s = (none, some y) := by subst hs; simp [Side.val, Side.left, Side.right, Side.both, hy2.out]
        have hst := Lib.hid (side_step hS.out s hv (sides_right (ka := C.k) (kb := C.k) (i := i) (by rw [hl1.out]; omega) hy2.out))
        obtain ⟨fn, tmps, assign, body, hya, hR⟩ := HY.out pre s w2 hJ2 (by omega)
        rw [hs] at hya
        simp only [Side.encs, Side.left, Side.right, Side.both, ptr, Option.map] at hya
        clear hJ2 hbn hbm hv hs
        gi_wp2
        refine hR.mono ?_
        rintro e W3 (⟨rfl, hJ3, hk3⟩ | ⟨rfl, hJx3⟩)
        · have hJ4 := Lib.hid hJ3
          have hK4 := Lib.hid (hK2.out.trans hk3)
          clear hJ3 hk3 hR hya
          gi_wp2
          go_roundw
          case rel => exact ⟨i, k + 1, by omega, by omega, rfl, by go_num, pre ++ [s], by simp; omega, hJ4.out, hK4.out, hst.out.1⟩
          case measure => simp [intOf]; omega
        · have hJ4 := Lib.hid hJx3
          clear hJx3 hR hya
          gi_wp2
          refine bodyPost_ret (results_none rfl _ _ _) rfl ?_
          exact ⟨⟨_, rfl⟩, .inr ⟨pre ++ [s], hst.out.2, hJ4.out⟩⟩
      · have hp := hS.out
        rw [sides_end (by rw [hl1.out]; omega) (by rw [hl2.out]; omega), List.append_nil] at hp
        have hp2 := Lib.hid hp
        clear hp
        gi_wp2
        go_end0
        exact ⟨⟨_, rfl⟩, .inl ⟨pre, hp2.out, hJp.out⟩⟩

/-- The maker: the two lists are boxed; the function value holds the boxes. -/
theorem sidesCC0 (a1 a2 : Option Addr) (n1 n2 c1 c2 : Nat) (w : World) :
    Calls Tryd.prog 89 #[.slice a1 n1 c1, .slice a2 n2 c2] w fun e w' => e = .returned (.func (.func 118) #[] #[.pointer (some ⟨w.heap.size, 0, none⟩), .pointer (some ⟨w.heap.size + 1, 0, none⟩)]) ∧ w' = (w.alloc (.cells #[.slice a1 n1 c1] 23)).alloc (.cells #[.slice a2 n2 c2] 23) := by
  go_enter Tryd.func89, Tryd.ntmps89
  go_wp2
  go_ret
  exact ⟨rfl, rfl⟩
end Go.Proofs.YtdkailccfcijiaaDoor
