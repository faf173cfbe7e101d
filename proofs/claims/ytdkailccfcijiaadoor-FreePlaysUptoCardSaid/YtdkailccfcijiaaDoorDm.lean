/- Patch, walked: what it answers, over lists of fewer than 4194304 elements in all. -/
import Derived.Test.YtdkailccfcijiaaDoorDl
namespace Go.Proofs.YtdkailccfcijiaaDoor
open Go.RowKit Go.Shelf
set_option linter.unusedVariables false
set_option linter.unusedSimpArgs false
set_option maxRecDepth 100000
attribute [local simp] wide_fn wide_fn_round
attribute [local go_sem] wide_fn wide_fn_round
attribute [local go_sem] Oper.semAt_some

set_option maxHeartbeats 4000000 in
theorem patch (E : Nat → Addr) (a1 a2 : Option Addr) (c1 c2 : Nat) (la : List P) (lc : List C) (w : World) (hE : Errs [0, 1] E w) (h1 : Rd PT w a1 la.length la) (h2 : Rd CT w a2 lc.length lc)
    (hb1 : c1 ≤ 9223372036854775807) (hb2 : c2 ≤ 9223372036854775807) (hn1 : la.length ≤ c1) (hn2 : lc.length ≤ c2) (hlen : la.length + lc.length ≤ 4194304) :
    Calls Tryd.prog 21 #[.slice a1 la.length c1, .slice a2 lc.length c2] w fun e w' => ∃ v, e = .returned (.tuple #[v, errV E (patchL la lc).2]) ∧ Sep w w' [row PT v (patchL la lc).1] := by
  refine (callsIn_wide (n := 5)).1 ?_
  have HE := Lib.hid hE
  have H1 := Lib.hid h1
  have H2 := Lib.hid h2
  clear h1 h2 hE
  refine callsIn_of_wp_marks Tryd.func21 rfl trivial ?_ rfl
  simp only [Tryd.ntmps21, List.size_toArray, List.length_cons, List.length_nil, Nat.reduceAdd, Nat.reduceSub, Array.replicate_succ, Array.replicate_zero, List.push_toArray, List.append_toArray, List.nil_append, List.cons_append]
  have S0 := Lib.hid (((Sep.nil w).box 22 [.slice none 0 0]).box 35 [.nilIface])
  by_cases hR1 : Rises (la.map P.k)
  · by_cases hR2 : Rises (lc.map C.k)
    · gi_wp2_with (first | (gi_at_call 79; refine ((callsIn_wide.2 (risesP_yes a1 c1 la _ (H1.out.below S0.out.below) hR1))).mono ?_; rintro e w1 ⟨rfl, hw1⟩) | (gi_at_call 80; refine ((callsIn_wide.2 (risesC_yes a2 c2 lc _ ((H2.out.below S0.out.below).below hw1) hR2))).mono ?_; rintro e w2 ⟨rfl, hw2⟩) | (gi_at_call 81; refine (callsIn_wide.2 (sidesPC0 _ _ _ _ _ _ _)).mono ?_; rintro e w3 ⟨rfl, rfl⟩))
      have S1 := Lib.hid (((((S0.out.step hw1).step hw2).boxAt 22 [.slice none 0 0] _ rfl).boxAt 22 [.slice a1 la.length c1] (w2.heap.size + 1) (by simp)).boxAt 23 [.slice a2 lc.length c2] (w2.heap.size + 1 + 1) (by simp))
      have hsz : w.heap.size ≤ w2.heap.size := Nat.le_trans (S0.out.below.size) (Nat.le_trans hw1.size hw2.size)
      simp only [World.size_alloc] at S1
      generalize hg : w2.heap.size = g at S1 hsz ⊢
      have hW0 : ∃ W0, W0 = (((w2.alloc (Obj.cells #[Value.slice none 0 0] 22)).alloc (Obj.cells #[Value.slice a1 la.length c1] 22)).alloc (Obj.cells #[Value.slice a2 lc.length c2] 23)) := ⟨_, rfl⟩
      obtain ⟨W0, hW0⟩ := hW0
      rw [← hW0]
      have hsz0 : w.heap.size ≤ W0.heap.size := by rw [hW0]; simp; omega
      have S2 : Hid (Sep w W0 _) := Lib.hid (by rw [hW0]; exact S1.out)
      clear S1 S0 hw1 hw2 hW0
      refine wpIn_rangeFunc_ownG (α := Side la lc) rfl (by decide) (gf := 116) (lb := #[.pointer (some ⟨g + 1, 0, none⟩), .pointer (some ⟨g + 1 + 1, 0, none⟩)]) rfl trivial (enters_of Tryd.func116 (by kernel_rfl) rfl)
        (encs := Side.encs 2 5 a1 a2) (Kp := Kq (Kab w (g + 1) (g + 1 + 1))) (S := fun xs => xs.map Side.val = sidesL P.k C.k la lc) (Sp := fun pre => pre.map Side.val <+: sidesL P.k C.k la lc) (N := la.length + lc.length) (w0 := W0)
        ?seq Kq.trans ?kb (qrefl _) (fun _ => rfl)
        (fun pre W => ∃ v out, runAll patchOne (pre.map Side.val) = some out ∧ Sep w W [row PT v out, blk (g + 1 + 1) 23 [.slice a2 lc.length c2], blk (g + 1) 22 [.slice a1 la.length c1], blk g 22 [v], blk (w.heap.size + 1) 35 [.nilIface], blk w.heap.size 22 [.slice none 0 0]])
        (fun c pre W => c = .ret ∧ runAll patchOne (pre.map Side.val) = none ∧ Sep w W [blk (w.heap.size + 1) 35 [errV E (some 1)], blk w.heap.size 22 [.slice none 0 0]])
        ?hI ?hIx ?h0 (fun x => { tmps := #[.slice a1 la.length c1, .slice a2 lc.length c2, undef, undef, .pointer (some ⟨w.heap.size, 0, none⟩), .pointer (some ⟨w.heap.size + 1, 0, none⟩), .pointer (some ⟨g, 0, none⟩), ptr 2 a1 x.1.1, ptr 5 a2 x.1.2, .slice a1 la.length c1, .bool true, .bool false, .bool false, .slice a2 lc.length c2, .bool true, .bool false, .bool false, undef, .slice a1 la.length c1, .slice a2 lc.length c2, .func (.func 116) #[] #[.pointer (some ⟨g + 1, 0, none⟩), .pointer (some ⟨g + 1 + 1, 0, none⟩)], ptr 2 a1 x.1.1, ptr 5 a2 x.1.2, undef, undef, undef, undef, undef, undef, undef, undef, undef, undef, undef, undef, undef, undef, undef, undef, undef, undef, undef, undef, undef, undef, undef, undef, undef, undef, undef, undef, undef, undef, undef, undef, undef, undef, undef, undef, undef, undef, undef, undef, undef, undef, undef, undef, undef, undef, undef, undef, undef, undef, undef, undef, undef, undef, undef, undef, undef, undef, undef], defers := [] }) ?assign ?body ?done ?stop
      case seq =>
        intro l J Jx W hW hJ hJx hY h0
        exact sidesPC1 (g + 1) (g + 1 + 1) a1 a2 c1 c2 _ _ la lc (Kab w (g + 1) (g + 1 + 1)) (.inr (.inl rfl)) (.inr (.inr rfl)) (fun b o e => (H1.out.lt b o e).imp id .inl) (fun b o e => (H2.out.lt b o e).imp id .inl) l J Jx W
          (kab_lt (S2.out.step hW) (.tail _ (.head _)) (.head _)) hb1 hb2 hn1 hn2 (blk_mem (S2.out.step hW) (.tail _ (.head _)) 0 rfl) (blk_mem (S2.out.step hW) (.head _) 0 rfl) (H1.out.below (S2.out.step hW).below) (H2.out.below (S2.out.step hW).below)
          (fun pre A B h hg => hJ pre A B none h hg (fun r e => by cases e)) hY h0
      case kb => exact fun W l o o' hl _ _ _ => kq_put S2.out (.tail _ (.head _)) (.head _) l o' hl
      case hI =>
        rintro s A B r ⟨v, out, hr, S⟩ hg hrow
        exact ⟨v, out, hr, S.record (by intro c hc; simp at hc; rcases hc with rfl | rfl | rfl | rfl | rfl | rfl <;> first | exact row_cells _ _ _ | exact blk_cells _ _ _) hg (fun k e => ⟨by have := (hrow k e).1; omega, (hrow k e).2⟩)⟩
      case hIx =>
        rintro c s A B r ⟨hc, hr, S⟩ hg hrow
        exact ⟨hc, hr, S.record (by intro c hc; simp at hc; rcases hc with rfl | rfl <;> exact blk_cells _ _ _) hg (fun k e => ⟨by have := (hrow k e).1; omega, (hrow k e).2⟩)⟩
      case h0 => exact ⟨_, [], rfl, S2.out.none_ PT⟩
      case assign =>
        intro l x W K hK
        simp only [Side.encs]
        gi_wp2
        exact hK
      case body =>
        rintro l pre x W ⟨v, out, hr, S⟩ hN
        have hol : out.length ≤ 4194304 := by
          have := runAll_length patchOne_len hr
          simp at this
          omega
        have hb1' : (out.length + 1) * 32 ≤ 140737488355328 := by omega
        have hm : Tryd.prog.follows .mixedOrders = true := by kernel_rfl
        have hcg := blk_mem S (g := g) (t := 22) (cs := [v]) (.tail _ (.tail _ (.tail _ (.head _)))) 0 rfl
        have hfg := blk_free (Sep.up3 S) 0
        rcases x.ways with ⟨i, y, hy, hx1, hv⟩ | ⟨k, z, hz, hx1, hv⟩ | ⟨i, k, y, z, hy, hz, hx1, hv⟩
        · obtain ⟨b, o, y', hae, hy', d0, d1⟩ := rdP (H1.out.below S.below) (i := i) (List.getElem?_eq_some_iff.1 hy).1
          rw [hy] at hy'
          cases hy'
          subst hae
          simp only [hx1, ptr, Option.map]
          have hx2 := Lib.hid (And.intro hx1 hv)
          have hr2 := Lib.hid hr
          have S4 := Lib.hid S
          have x0 := xt_cell d0
          have x1 := xt_cell d1
          have xg := xt_cell hcg
          clear hr S hy
          gi_wp2
          refine made_slice 4 hm (by kernel_rfl) (by kernel_rfl) ?_
          simp only [List.take_succ_cons, List.take_zero, List.drop_succ_cons, List.drop_zero]
          repeat (gi_big_quiet_step (fail))
          refine wpQuietIn_nil ?_
          refine ⟨_, _, _, _, _, rfl, rfl, rfl, bsP _ _ _, qalloc (qrefl _) _, ?_⟩
          simp only [Act.put, List.setIfInBounds_toArray, List.set_cons_succ, List.set_cons_zero]
          gi_wp2_with (gi_at_builtin; refine appIn_sep elemP rfl (.tmp 25) (.tmp 29) rfl v out rfl (S4.out.drew.alloc _) _ 1 1 [y] rfl (rd_new PT W.drew y _ rfl 28) hb1' ?_; intro v2 W2 S5 hk5; obtain ⟨g', n', c', rfl⟩ := row_succ S5; have hf2 := blk_free (Sep.up3 S5) 0; have hc2 := blk_mem S5 (g := g) (t := 22) (cs := [v]) (.tail _ (.tail _ (.tail _ (.head _)))) 0 rfl)
          exact round_put (x := x) W0.heap.size S4.out (qalloc (qdrew (qrefl W)) _) hk5 S5 hr2.out (show patchOne x.val.1 x.val.2 = some [y] by rw [hx2.out.2]; rfl)
        · obtain ⟨b2, o2, z', hae, hz', e0, e1, e2, e3, e4⟩ := rdC (H2.out.below S.below) (i := k) (List.getElem?_eq_some_iff.1 hz).1
          rw [hz] at hz'
          cases hz'
          subst hae
          simp only [hx1, ptr, Option.map]
          obtain ⟨zk, had, has, old, new⟩ := z
          dsimp only at e0 e1 e2 e3 e4
          have x1 := xt_cell e1
          have x3 := xt_cell e3
          have hlt1 := World.block_lt_of_cell? w (a := ⟨1, 0, none⟩) (HE.out.cell 1 (by decide))
          cases had with
          | true =>
            have S4 := Lib.hid S
            have hr2 := Lib.hid hr
            have hv2 := Lib.hid hv
            clear hr S hv hx1 hz
            gi_wp2
            refine xtR_region hm (by kernel_rfl) (by kernel_rfl) ?_
            repeat (gi_big_quiet_step (fail))
            refine wpQuietIn_nil ?_
            intro _ hw'
            obtain ⟨m, rfl⟩ := hw'
            have hbm := xt_below W m
            generalize wx W m = W9 at hbm ⊢
            clear x1 x3

            have hE9 := ((HE.out.below S4.out.below).below hbm).cell 1 (by decide)
            have S9 := (S4.out.step hbm).tl.tl.tl.tl
            have f4 := blk_free (Sep.up1 S9) 0
            have f5 := blk_free S9 0
            have k4 := blk_cell (Sep.up1 S9) 0 (u := .slice none 0 0) rfl
            have k5 := blk_cell S9 0 (u := .nilIface) rfl
            have q1 : ∀ u, (W9.setCell ⟨w.heap.size, 0, none⟩ u).cell? ⟨1, 0, none⟩ = some (.iface 232 (.pointer (some (E 1)))) := fun u => (World.cell?_setCell_far _ _ _ _ (by simp; omega)).trans hE9
            clear S9
            gi_wp2
            gi_region_elder_o
            all_goals gi_wp2
            all_goals
              have fin := lost_put (x := x) W0.heap.size S4.out hbm (.slice none 0 0) (errV E (some 1)) hr2.out (by rw [hv2.out]; rfl)
              first | exact ⟨fin.1.1, rfl, fin.1.2⟩ | exact ⟨fin.2.1, rfl, fin.2.2⟩
          | false =>
            cases hold : (old.toList == [])
            · have hol2 := Lib.hid hold
              have S4 := Lib.hid S
              have hr2 := Lib.hid hr
              have hv2 := Lib.hid hv
              clear hr S hv hx1 hz
              gi_wp2
              refine xtR_region hm (by kernel_rfl) (by kernel_rfl) ?_
              repeat (gi_big_quiet_step (fail))
              refine wpQuietIn_nil ?_
              intro _ hw'
              obtain ⟨m, rfl⟩ := hw'
              have hbm := xt_below W m
              generalize wx W m = W9 at hbm ⊢
              clear x1 x3

              have hE9 := ((HE.out.below S4.out.below).below hbm).cell 1 (by decide)
              have S9 := (S4.out.step hbm).tl.tl.tl.tl
              have f4 := blk_free (Sep.up1 S9) 0
              have f5 := blk_free S9 0
              have k4 := blk_cell (Sep.up1 S9) 0 (u := .slice none 0 0) rfl
              have k5 := blk_cell S9 0 (u := .nilIface) rfl
              have q1 : ∀ u, (W9.setCell ⟨w.heap.size, 0, none⟩ u).cell? ⟨1, 0, none⟩ = some (.iface 232 (.pointer (some (E 1)))) := fun u => (World.cell?_setCell_far _ _ _ _ (by simp; omega)).trans hE9
              clear S9
              gi_wp2
              gi_region_elder_o
              all_goals gi_wp2
              all_goals
                have fin := lost_put (x := x) W0.heap.size S4.out hbm (.slice none 0 0) (errV E (some 1)) hr2.out (by rw [hv2.out]; simp only [patchOne, hol2.out]; rfl)
                first | exact ⟨fin.1.1, rfl, fin.1.2⟩ | exact ⟨fin.2.1, rfl, fin.2.2⟩
            · have hol2 := Lib.hid hold
              cases has with
              | true =>
                have S4 := Lib.hid S
                have hr2 := Lib.hid hr
                have hv2 := Lib.hid hv
                clear hr S hv hx1 hz
                gi_wp2
                refine xtR_region hm (by kernel_rfl) (by kernel_rfl) ?_
                repeat (gi_big_quiet_step (fail))
                refine wpQuietIn_nil ?_
                intro _ hw'
                obtain ⟨m, rfl⟩ := hw'
                have hbm := xt_below W m
                generalize wx W m = W9 at hbm ⊢
                clear x1 x3

                have e0 := qcell e0 hbm
                have e2 := qcell e2 hbm
                have e4 := qcell e4 hbm
                have hcg := qcell hcg hbm
                have xe0 := xt_cell e0
                have xe4 := xt_cell e4
                have xg := xt_cell hcg
                have S9 := Lib.hid (S4.out.step hbm)
                gi_wp2
                refine made_slice 10 hm (by kernel_rfl) (by kernel_rfl) ?_
                simp only [List.take_succ_cons, List.take_zero, List.drop_succ_cons, List.drop_zero]
                repeat (gi_big_quiet_step (fail))
                refine wpQuietIn_nil ?_
                refine ⟨_, _, _, _, _, rfl, rfl, rfl, bsP _ _ _, qalloc (qrefl _) _, ?_⟩
                simp only [Act.put, List.setIfInBounds_toArray, List.set_cons_succ, List.set_cons_zero]
                gi_wp2_with (gi_at_builtin; refine appIn_sep elemP rfl (.tmp 69) (.tmp 79) rfl v out rfl (S9.out.drew.alloc _) _ 1 1 [⟨zk, new⟩] rfl (rd_new PT W9.drew ⟨zk, new⟩ _ rfl 28) hb1' ?_; intro v2 W2 S5 hk5; obtain ⟨g', n', c', rfl⟩ := row_succ S5; have hf2 := blk_free (Sep.up3 S5) 0; have hc2 := blk_mem S5 (g := g) (t := 22) (cs := [v]) (.tail _ (.tail _ (.tail _ (.head _)))) 0 rfl)
                exact round_put (x := x) W0.heap.size S4.out (qbelow hbm (qalloc (qdrew (qrefl W9)) _)) hk5 S5 hr2.out (by rw [hv2.out]; simp only [patchOne, hol2.out]; rfl)
              | false =>
                have S4 := Lib.hid S
                have hr2 := Lib.hid hr
                have hv2 := Lib.hid hv
                clear hr S hv hx1 hz
                gi_wp2
                refine xtR_region hm (by kernel_rfl) (by kernel_rfl) ?_
                repeat (gi_big_quiet_step (fail))
                refine wpQuietIn_nil ?_
                intro _ hw'
                obtain ⟨m, rfl⟩ := hw'
                have hbm := xt_below W m
                generalize wx W m = W9 at hbm ⊢
                clear x1 x3

                have e2 := qcell e2 hbm
                gi_wp2
                exact round_skip (x := x) W0.heap.size S4.out hbm hr2.out (by rw [hv2.out]; simp only [patchOne, hol2.out]; rfl)
        · obtain ⟨b, o, y', hae, hy', d0, d1⟩ := rdP (H1.out.below S.below) (i := i) (List.getElem?_eq_some_iff.1 hy).1
          rw [hy] at hy'
          cases hy'
          subst hae
          obtain ⟨b2, o2, z', hae, hz', e0, e1, e2, e3, e4⟩ := rdC (H2.out.below S.below) (i := k) (List.getElem?_eq_some_iff.1 hz).1
          rw [hz] at hz'
          cases hz'
          subst hae
          simp only [hx1, ptr, Option.map]
          obtain ⟨zk, had, has, old, new⟩ := z
          obtain ⟨yk, yv⟩ := y
          dsimp only at e0 e1 e2 e3 e4 d0 d1
          have x1 := xt_cell e1
          have x3 := xt_cell e3
          have y1 := xt_cell d1
          have hlt1 := World.block_lt_of_cell? w (a := ⟨1, 0, none⟩) (HE.out.cell 1 (by decide))
          cases had with
          | false =>
            have S4 := Lib.hid S
            have hr2 := Lib.hid hr
            have hv2 := Lib.hid hv
            clear hr S hv hx1 hz hy
            gi_wp2
            refine xtR_region hm (by kernel_rfl) (by kernel_rfl) ?_
            repeat (gi_big_quiet_step (fail))
            refine wpQuietIn_nil ?_
            intro _ hw'
            obtain ⟨m, rfl⟩ := hw'
            have hbm := xt_below W m
            generalize wx W m = W9 at hbm ⊢
            clear x1 x3 y1

            have hE9 := ((HE.out.below S4.out.below).below hbm).cell 1 (by decide)
            have S9 := (S4.out.step hbm).tl.tl.tl.tl
            have f4 := blk_free (Sep.up1 S9) 0
            have f5 := blk_free S9 0
            have k4 := blk_cell (Sep.up1 S9) 0 (u := .slice none 0 0) rfl
            have k5 := blk_cell S9 0 (u := .nilIface) rfl
            have q1 : ∀ u, (W9.setCell ⟨w.heap.size, 0, none⟩ u).cell? ⟨1, 0, none⟩ = some (.iface 232 (.pointer (some (E 1)))) := fun u => (World.cell?_setCell_far _ _ _ _ (by simp; omega)).trans hE9
            clear S9
            gi_wp2
            gi_region_elder_o
            all_goals gi_wp2
            all_goals
              have fin := lost_put (x := x) W0.heap.size S4.out hbm (.slice none 0 0) (errV E (some 1)) hr2.out (by rw [hv2.out]; rfl)
              first | exact ⟨fin.1.1, rfl, fin.1.2⟩ | exact ⟨fin.2.1, rfl, fin.2.2⟩
          | true =>
            cases hold : (yv.toList == old.toList)
            · have hol2 := Lib.hid hold
              have S4 := Lib.hid S
              have hr2 := Lib.hid hr
              have hv2 := Lib.hid hv
              clear hr S hv hx1 hz hy
              gi_wp2
              refine xtR_region hm (by kernel_rfl) (by kernel_rfl) ?_
              repeat (gi_big_quiet_step (fail))
              refine wpQuietIn_nil ?_
              intro _ hw'
              obtain ⟨m, rfl⟩ := hw'
              have hbm := xt_below W m
              generalize wx W m = W9 at hbm ⊢
              clear x1 x3 y1

              have hE9 := ((HE.out.below S4.out.below).below hbm).cell 1 (by decide)
              have S9 := (S4.out.step hbm).tl.tl.tl.tl
              have f4 := blk_free (Sep.up1 S9) 0
              have f5 := blk_free S9 0
              have k4 := blk_cell (Sep.up1 S9) 0 (u := .slice none 0 0) rfl
              have k5 := blk_cell S9 0 (u := .nilIface) rfl
              have q1 : ∀ u, (W9.setCell ⟨w.heap.size, 0, none⟩ u).cell? ⟨1, 0, none⟩ = some (.iface 232 (.pointer (some (E 1)))) := fun u => (World.cell?_setCell_far _ _ _ _ (by simp; omega)).trans hE9
              clear S9
              gi_wp2
              gi_region_elder_o
              all_goals gi_wp2
              all_goals
                have fin := lost_put (x := x) W0.heap.size S4.out hbm (.slice none 0 0) (errV E (some 1)) hr2.out (by rw [hv2.out]; simp only [patchOne, hol2.out]; rfl)
                first | exact ⟨fin.1.1, rfl, fin.1.2⟩ | exact ⟨fin.2.1, rfl, fin.2.2⟩
            · have hol2 := Lib.hid hold
              cases has with
              | true =>
                have S4 := Lib.hid S
                have hr2 := Lib.hid hr
                have hv2 := Lib.hid hv
                clear hr S hv hx1 hz hy
                gi_wp2
                refine xtR_region hm (by kernel_rfl) (by kernel_rfl) ?_
                repeat (gi_big_quiet_step (fail))
                refine wpQuietIn_nil ?_
                intro _ hw'
                obtain ⟨m, rfl⟩ := hw'
                have hbm := xt_below W m
                generalize wx W m = W9 at hbm ⊢
                clear x1 x3 y1

                have e0 := qcell e0 hbm
                have e2 := qcell e2 hbm
                have e4 := qcell e4 hbm
                have hcg := qcell hcg hbm
                have xe0 := xt_cell e0
                have xe4 := xt_cell e4
                have xg := xt_cell hcg
                have S9 := Lib.hid (S4.out.step hbm)
                gi_wp2
                refine made_slice 10 hm (by kernel_rfl) (by kernel_rfl) ?_
                simp only [List.take_succ_cons, List.take_zero, List.drop_succ_cons, List.drop_zero]
                repeat (gi_big_quiet_step (fail))
                refine wpQuietIn_nil ?_
                refine ⟨_, _, _, _, _, rfl, rfl, rfl, bsP _ _ _, qalloc (qrefl _) _, ?_⟩
                simp only [Act.put, List.setIfInBounds_toArray, List.set_cons_succ, List.set_cons_zero]
                gi_wp2_with (gi_at_builtin; refine appIn_sep elemP rfl (.tmp 69) (.tmp 79) rfl v out rfl (S9.out.drew.alloc _) _ 1 1 [⟨zk, new⟩] rfl (rd_new PT W9.drew ⟨zk, new⟩ _ rfl 28) hb1' ?_; intro v2 W2 S5 hk5; obtain ⟨g', n', c', rfl⟩ := row_succ S5; have hf2 := blk_free (Sep.up3 S5) 0; have hc2 := blk_mem S5 (g := g) (t := 22) (cs := [v]) (.tail _ (.tail _ (.tail _ (.head _)))) 0 rfl)
                exact round_put (x := x) W0.heap.size S4.out (qbelow hbm (qalloc (qdrew (qrefl W9)) _)) hk5 S5 hr2.out (by rw [hv2.out]; simp only [patchOne, hol2.out]; rfl)
              | false =>
                have S4 := Lib.hid S
                have hr2 := Lib.hid hr
                have hv2 := Lib.hid hv
                clear hr S hv hx1 hz hy
                gi_wp2
                refine xtR_region hm (by kernel_rfl) (by kernel_rfl) ?_
                repeat (gi_big_quiet_step (fail))
                refine wpQuietIn_nil ?_
                intro _ hw'
                obtain ⟨m, rfl⟩ := hw'
                have hbm := xt_below W m
                generalize wx W m = W9 at hbm ⊢
                clear x1 x3 y1

                have e2 := qcell e2 hbm
                gi_wp2
                exact round_skip (x := x) W0.heap.size S4.out hbm hr2.out (by rw [hv2.out]; simp only [patchOne, hol2.out]; rfl)
      case done =>
        rintro D ys W hD hys ⟨v, out, hr, S⟩ hK
        have hcg := blk_mem S (g := g) (t := 22) (cs := [v]) (.tail _ (.tail _ (.tail _ (.head _)))) 0 rfl
        have f4 := blk_free (Sep.up5 S) 0
        have f5 := blk_free (Sep.up4 S) 0
        have k4 := blk_cell (Sep.up5 S) 0 (u := .slice none 0 0) rfl
        have k5 := blk_cell (Sep.up4 S) 0 (u := .nilIface) rfl
        have hans := Lib.hid (answer_ok ⟨hR1, hR2⟩ (hys ▸ hr))
        have S4 := Lib.hid S
        obtain ⟨va, vn, vc, rfl⟩ : ∃ a n c, v = .slice a n c := by
          rcases Row.form S.hd with ⟨rfl, _⟩ | ⟨_, c, rfl, _⟩
          · exact ⟨_, _, _, rfl⟩
          · exact ⟨_, _, _, rfl⟩
        clear S hr hys
        gi_wp2
        have hKf := (KeepsOthers.setCell (W.setCell ⟨w.heap.size, 0, none⟩ (.slice va vn vc)) ⟨w.heap.size + 1, 0, none⟩ .nilIface).same D _ ((KeepsOthers.setCell W ⟨w.heap.size, 0, none⟩ (.slice va vn vc)).same D _ hK rfl) rfl
        have SF := (blk_set (Sep.up5 (blk_set (Sep.up5 S4.out) 0 (.slice va vn vc))) 0 .nilIface).record (by intro c hc; simp at hc; rcases hc with rfl | rfl | rfl | rfl | rfl | rfl <;> first | exact row_cells _ _ _ | exact blk_cells _ _ _) (grownBy_putObj' _ D (.deferred none)) (fun k e => by cases e; exact ⟨by omega, _, hKf, rfl⟩)
        have r4 := blk_cell (Sep.up1 SF) 0 (u := .slice va vn vc) rfl
        have r5 := blk_cell SF 0 (u := .nilIface) rfl
        refine ⟨by simp, .inl ⟨_, _, rfl, run_takeDeferred hKf, .tuple #[.slice va vn vc, .nilIface], by simp [results, Tryd.results21, go_sem, r4, r5], .slice va vn vc, ?_, ?_⟩⟩
        · show _ = Ending.returned (.tuple #[_, errV E (answer P.k C.k patchOne la lc).2])
          rw [hans.out]
          rfl
        · show Sep w _ [row PT _ (answer P.k C.k patchOne la lc).1]
          rw [hans.out]
          exact SF.tl.tl.first
      case stop =>
        rintro D c pre W hD hpre ⟨rfl, hr, S⟩ hK
        have hans := Lib.hid (answer_lost ⟨hR1, hR2⟩ (runAll_prefix hr hpre))
        have SF := S.record (by intro c hc; simp at hc; rcases hc with rfl | rfl <;> exact blk_cells _ _ _) (grownBy_putObj' _ D (.deferred none)) (fun k e => by cases e; exact ⟨by omega, _, hK, rfl⟩)
        have r4 := blk_cell (Sep.up1 SF) 0 (u := .slice none 0 0) rfl
        have r5 := blk_cell SF 0 (u := errV E (some 1)) rfl
        gi_wp2
        refine ⟨by simp, .inl ⟨_, _, rfl, run_takeDeferred hK, .tuple #[.slice none 0 0, errV E (some 1)], by simp [results, Tryd.results21, go_sem, r4, r5], .slice none 0 0, ?_, ?_⟩⟩
        · show _ = Ending.returned (.tuple #[_, errV E (answer P.k C.k patchOne la lc).2])
          rw [hans.out]
        · show Sep w _ [row PT _ (answer P.k C.k patchOne la lc).1]
          rw [hans.out]
          exact SF.tl.tl.none_ PT
    · gi_wp2_with (first | (gi_at_call 79; refine ((callsIn_wide.2 (risesP_yes a1 c1 la _ (H1.out.below S0.out.below) hR1))).mono ?_; rintro e w1 ⟨rfl, hw1⟩) | (gi_at_call 80; refine ((callsIn_wide.2 (risesC_no a2 c2 lc _ ((H2.out.below S0.out.below).below hw1) hR2))).mono ?_; rintro e w2 ⟨rfl, hw2⟩))
      have hans := Lib.hid (answer_order (f := patchOne) (ka := P.k) (kb := C.k) (a := la) (b := lc) (fun h => hR2 h.2))
      have S9 := (S0.out.step hw1).step hw2
      simp only [World.size_alloc] at S9
      have hE9 := (HE.out.below S9.below).cell 0 (by decide)
      have hlt1 : 0 < w.heap.size := World.block_lt_of_cell? w (a := ⟨0, 0, none⟩) (HE.out.cell 0 (by decide))
      generalize w2 = W9 at S9 hE9 ⊢
      have f4 := blk_free (Sep.up1 S9) 0
      have f5 := blk_free S9 0
      have k4 := blk_cell (Sep.up1 S9) 0 (u := .slice none 0 0) rfl
      have k5 := blk_cell S9 0 (u := .nilIface) rfl
      have q1 : ∀ u, (W9.setCell ⟨w.heap.size, 0, none⟩ u).cell? ⟨0, 0, none⟩ = some (.iface 232 (.pointer (some (E 0)))) := fun u => (World.cell?_setCell_far _ _ _ _ (by show w.heap.size ≠ 0; omega)).trans hE9
      have S8 := Lib.hid S9
      clear S9
      gi_region
      all_goals gi_wp2
      all_goals
        first
          | (have SF := (two_put S8.out (.slice none 0 0) (errV E (some 0))).1
             have r4 := blk_cell (Sep.up1 SF) 0 (u := .slice none 0 0) rfl
             have r5 := blk_cell SF 0 (u := errV E (some 0)) rfl
             have r6 := blk_cell (blk_set (Sep.up1 S8.out) 0 (.slice none 0 0)) 0 (u := .slice none 0 0) rfl
             have r7 := blk_cell (blk_set S8.out 0 (errV E (some 0))) 0 (u := errV E (some 0)) rfl
             exact ⟨.tuple #[.slice none 0 0, errV E (some 0)], by simp only [errV] at r5 r7 ⊢; simp [results, Tryd.results21, go_sem, r4, r5, r6, r7], .slice none 0 0, (by show _ = Ending.returned (.tuple #[_, errV E (answer P.k C.k patchOne la lc).2]); rw [hans.out]), (by show Sep w _ [row PT _ (answer P.k C.k patchOne la lc).1]; rw [hans.out]; exact SF.drew.tl.tl.none_ PT)⟩)
          | (have SF := (two_put S8.out (.slice none 0 0) (errV E (some 0))).2
             have r4 := blk_cell (Sep.up1 SF) 0 (u := .slice none 0 0) rfl
             have r5 := blk_cell SF 0 (u := errV E (some 0)) rfl
             have r6 := blk_cell (blk_set (Sep.up1 S8.out) 0 (.slice none 0 0)) 0 (u := .slice none 0 0) rfl
             have r7 := blk_cell (blk_set S8.out 0 (errV E (some 0))) 0 (u := errV E (some 0)) rfl
             exact ⟨.tuple #[.slice none 0 0, errV E (some 0)], by simp only [errV] at r5 r7 ⊢; simp [results, Tryd.results21, go_sem, r4, r5, r6, r7], .slice none 0 0, (by show _ = Ending.returned (.tuple #[_, errV E (answer P.k C.k patchOne la lc).2]); rw [hans.out]), (by show Sep w _ [row PT _ (answer P.k C.k patchOne la lc).1]; rw [hans.out]; exact SF.drew.tl.tl.none_ PT)⟩)
  · gi_wp2_with (first | (gi_at_call 79; refine ((callsIn_wide.2 (risesP_no a1 c1 la _ (H1.out.below S0.out.below) hR1))).mono ?_; rintro e w1 ⟨rfl, hw1⟩))
    have hans := Lib.hid (answer_order (f := patchOne) (ka := P.k) (kb := C.k) (a := la) (b := lc) (fun h => hR1 h.1))
    have S9 := S0.out.step hw1
    simp only [World.size_alloc] at S9
    have hE9 := (HE.out.below S9.below).cell 0 (by decide)
    have hlt1 : 0 < w.heap.size := World.block_lt_of_cell? w (a := ⟨0, 0, none⟩) (HE.out.cell 0 (by decide))
    generalize w1 = W9 at S9 hE9 ⊢
    have f4 := blk_free (Sep.up1 S9) 0
    have f5 := blk_free S9 0
    have k4 := blk_cell (Sep.up1 S9) 0 (u := .slice none 0 0) rfl
    have k5 := blk_cell S9 0 (u := .nilIface) rfl
    have q1 : ∀ u, (W9.setCell ⟨w.heap.size, 0, none⟩ u).cell? ⟨0, 0, none⟩ = some (.iface 232 (.pointer (some (E 0)))) := fun u => (World.cell?_setCell_far _ _ _ _ (by show w.heap.size ≠ 0; omega)).trans hE9
    have S8 := Lib.hid S9
    clear S9
    gi_region
    all_goals gi_wp2
    all_goals
      first
        | (have SF := (two_put S8.out (.slice none 0 0) (errV E (some 0))).1
           have r4 := blk_cell (Sep.up1 SF) 0 (u := .slice none 0 0) rfl
           have r5 := blk_cell SF 0 (u := errV E (some 0)) rfl
           have r6 := blk_cell (blk_set (Sep.up1 S8.out) 0 (.slice none 0 0)) 0 (u := .slice none 0 0) rfl
           have r7 := blk_cell (blk_set S8.out 0 (errV E (some 0))) 0 (u := errV E (some 0)) rfl
           exact ⟨.tuple #[.slice none 0 0, errV E (some 0)], by simp only [errV] at r5 r7 ⊢; simp [results, Tryd.results21, go_sem, r4, r5, r6, r7], .slice none 0 0, (by show _ = Ending.returned (.tuple #[_, errV E (answer P.k C.k patchOne la lc).2]); rw [hans.out]), (by show Sep w _ [row PT _ (answer P.k C.k patchOne la lc).1]; rw [hans.out]; exact SF.drew.tl.tl.none_ PT)⟩)
        | (have SF := (two_put S8.out (.slice none 0 0) (errV E (some 0))).2
           have r4 := blk_cell (Sep.up1 SF) 0 (u := .slice none 0 0) rfl
           have r5 := blk_cell SF 0 (u := errV E (some 0)) rfl
           have r6 := blk_cell (blk_set (Sep.up1 S8.out) 0 (.slice none 0 0)) 0 (u := .slice none 0 0) rfl
           have r7 := blk_cell (blk_set S8.out 0 (errV E (some 0))) 0 (u := errV E (some 0)) rfl
           exact ⟨.tuple #[.slice none 0 0, errV E (some 0)], by simp only [errV] at r5 r7 ⊢; simp [results, Tryd.results21, go_sem, r4, r5, r6, r7], .slice none 0 0, (by show _ = Ending.returned (.tuple #[_, errV E (answer P.k C.k patchOne la lc).2]); rw [hans.out]), (by show Sep w _ [row PT _ (answer P.k C.k patchOne la lc).1]; rw [hans.out]; exact SF.drew.tl.tl.none_ PT)⟩)
end Go.Proofs.YtdkailccfcijiaaDoor
