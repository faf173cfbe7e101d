/- The book of a map's pages: step. No condition but the sizes, the laid errors and the library's table. -/
import Derived.Test.YtdkailccfcijiaaDoorFq
import Derived.Test.YtdkailccfcijiaaDoorFo
namespace Go.Proofs.YtdkailccfcijiaaDoor
open Go.RowKit Go.Shelf
set_option linter.unusedVariables false
set_option linter.unusedSimpArgs false
set_option maxRecDepth 100000

section
variable {E : Nat → Addr} {w0 w : World} {L : List Chunk} {q p g N : Nat} {v : Value} {ws ws' : List Nat}
theorem act_other {k n : Int} (h1 : k ≠ 1) (h2 : k ≠ 2) (h5 : k ≠ 5) : (actA N ws k n).2 = ws := by
  unfold actA
  rw [if_neg h1, if_neg h2]
  split
  · rfl
  · split
    · rfl
    · first | rfl | rw [if_neg h5]
set_option maxHeartbeats 4000000 in
theorem step52_other (hE : Errs all13 E w0) (hT : TabAt13 w0) (S : Sep w0 w (row BT v (bk N ws) :: blk q 150 [v] :: fm p g N ws :: L)) (hI : FmInv N ws) (k on n : Int) (h1 : k ≠ 1) (h2 : k ≠ 2) (h5 : k ≠ 5) :
    Calls Tryd.prog 52 #[.pointer (some ⟨q, 0, none⟩), .pointer (some ⟨p, 0, none⟩), .agg #[.int .i64 k, .int .i64 on, .int .i64 n]] w fun e w' => e = .returned (.bool true) ∧ Sep w0 w' (row BT v (bk N ws) :: blk q 150 [v] :: fm p g N ws :: L) := by
  obtain ⟨er, a3, b3, ok3, l3, ws3, hA⟩ : ∃ er a b ok l ws', actA N ws k n = (⟨er, a, b, ok, l⟩, ws') := ⟨_, _, _, _, _, _, rfl⟩
  have he : ws = ws3 := by
    have := act_other (N := N) (ws := ws) (n := n) h1 h2 h5
    rw [hA] at this
    exact this.symm
  subst he
  have HE := Lib.hid hE
  have HT := Lib.hid hT
  have HI := Lib.hid hI
  have HA := Lib.hid hA
  have TQ := Lib.hid (Sep.up3 (S.box 84 [.int .i64 k, .int .i64 on, .int .i64 n]))
  have g1 : (k == 1) = false := by simpa using h1
  have g2 : (k == 2) = false := by simpa using h2
  have g5 : (k == 5) = false := by simpa using h5
  clear hE hT hI hA S
  go_enter Tryd.func52, Tryd.ntmps52
  go_wp2_with (go_at_call 53; refine (act53_at HE.out HT.out TQ.out HI.out.ok HA.out _).mono ?_; rintro e wq ⟨vl, rfl, Sq⟩; obtain ⟨a9, k9, c9, rfl, _, hk9⟩ := rdv_form (T := IT) (Sep.rdv Sq (.head _)); clear hk9; replace TQ := Lib.hid Sq; clear Sq; have d0 := blk_mem TQ.out (g := w.heap.size) (t := 84) (cs := [.int .i64 k, .int .i64 on, .int .i64 n]) (by simp) 0 rfl; have hz := (TQ.out.lie (blk w.heap.size 84 [.int .i64 k, .int .i64 on, .int .i64 n]) (by simp) w.heap.size rfl).2)
  go_ret
  exact ⟨rfl, Sep.up2 (Sep.up2 ((TQ.out.alloc _).tl.keepS (.cons_cons _ (.cons _ (.refl _)))))⟩
/-- Mark. -/
theorem act_mark {n : Int} {er : Option Nat} (h : markR N ws n = (er, ws')) : actA N ws 1 n = (⟨er, 0, 0, false, []⟩, ws') := by
  unfold actA
  rw [if_pos rfl, h]
theorem act_clear {n : Int} {er : Option Nat} (h : clearR N ws n = (er, ws')) : actA N ws 2 n = (⟨er, 0, 0, false, []⟩, ws') := by
  unfold actA
  rw [if_neg (by decide), if_pos rfl, h]
theorem act_take {n : Int} {er : Option Nat} {l : List Nat} (h : takeA ws n = (er, l, ws')) : actA N ws 5 n = (⟨er, 0, 0, false, l⟩, ws') := by
  unfold actA
  rw [if_neg (by decide), if_neg (by decide), if_neg (by decide), if_neg (by decide), if_pos rfl, h]
set_option maxHeartbeats 4000000 in
theorem step52_mark_out (hE : Errs all13 E w0) (hT : TabAt13 w0) (S : Sep w0 w (row BT v (bk N ws) :: blk q 150 [v] :: fm p g N ws :: L)) (hI : FmInv N ws) (on n : Int) (ht : treeB N n = false) :
    Calls Tryd.prog 52 #[.pointer (some ⟨q, 0, none⟩), .pointer (some ⟨p, 0, none⟩), .agg #[.int .i64 1, .int .i64 on, .int .i64 n]] w fun e w' => e = .returned (.bool true) ∧ Sep w0 w' (row BT v (bk N ws) :: blk q 150 [v] :: fm p g N ws :: L) := by
  have hA := act_mark (N := N) (ws := ws) (n := n) (er := some 2) (ws' := ws) (by unfold markR; rw [if_neg (by rw [ht]; decide)])
  have HR := Lib.hid ht
  obtain ⟨h, cc, rfl⟩ := bk_form S hI.ok.lo
  have hN1 := hI.ok.lo
  have hN2 := hI.ok.hi
  have HE := Lib.hid hE
  have HT := Lib.hid hT
  have HI := Lib.hid hI
  have HA := Lib.hid hA
  have TQ := Lib.hid (Sep.up3 (S.box 84 [.int .i64 1, .int .i64 on, .int .i64 n]))
  have hnum : numOf (some 2) = 1 := rfl
  clear hE hT hI S hA
  go_enter Tryd.func52, Tryd.ntmps52
  go_wp2_with (go_at_call 53; refine (act53_at HE.out HT.out TQ.out HI.out.ok HA.out _).mono ?_; rintro e wq ⟨vl, rfl, Sq⟩; obtain ⟨a9, k9, c9, rfl, _, hk9⟩ := rdv_form (T := IT) (Sep.rdv Sq (.head _)); clear hk9; replace TQ := Lib.hid Sq; clear Sq; have d0 := blk_mem TQ.out (g := w.heap.size) (t := 84) (cs := [.int .i64 1, .int .i64 on, .int .i64 n]) (by simp) 0 rfl; have d2 := blk_mem TQ.out (g := w.heap.size) (t := 84) (cs := [.int .i64 1, .int .i64 on, .int .i64 n]) (by simp) 2 rfl; have hz := (TQ.out.lie (blk w.heap.size 84 [.int .i64 1, .int .i64 on, .int .i64 n]) (by simp) w.heap.size rfl).2)
  go_wp2_with (go_at_call 96; refine (tree96 (bk_at' ((TQ.out.box 88 [.int .i64 1, .int .i64 0, .int .i64 0, .bool false, .slice a9 k9 c9]).keepS (.cons _ (.cons _ (.cons _ (.cons _ (.refl _))))))) _).mono ?_; rintro e w4 ⟨rfl, hw4⟩; rw [bk_len, HR.out]; replace TQ := Lib.hid ((TQ.out.box 88 [.int .i64 1, .int .i64 0, .int .i64 0, .bool false, .slice a9 k9 c9]).step hw4); clear d0 d2 hz hw4; generalize wq.heap.size = x at TQ ⊢; have r0 := blk_mem TQ.out (g := x) (t := 88) (cs := [.int .i64 1, .int .i64 0, .int .i64 0, .bool false, .slice a9 k9 c9]) (by simp) 0 rfl)
  go_ret
  exact ⟨rfl, Sep.up2 (Sep.up2 (TQ.out.keepS (.cons _ (.cons _ (.cons_cons _ (.cons _ (.refl _)))))))⟩
set_option maxHeartbeats 4000000 in
theorem step52_clear_out (hE : Errs all13 E w0) (hT : TabAt13 w0) (S : Sep w0 w (row BT v (bk N ws) :: blk q 150 [v] :: fm p g N ws :: L)) (hI : FmInv N ws) (on n : Int) (ht : treeB N n = false) :
    Calls Tryd.prog 52 #[.pointer (some ⟨q, 0, none⟩), .pointer (some ⟨p, 0, none⟩), .agg #[.int .i64 2, .int .i64 on, .int .i64 n]] w fun e w' => e = .returned (.bool true) ∧ Sep w0 w' (row BT v (bk N ws) :: blk q 150 [v] :: fm p g N ws :: L) := by
  have hA := act_clear (N := N) (ws := ws) (n := n) (er := some 2) (ws' := ws) (by unfold clearR; rw [if_neg (by rw [ht]; decide)])
  have HR := Lib.hid ht
  obtain ⟨h, cc, rfl⟩ := bk_form S hI.ok.lo
  have hN1 := hI.ok.lo
  have hN2 := hI.ok.hi
  have HE := Lib.hid hE
  have HT := Lib.hid hT
  have HI := Lib.hid hI
  have HA := Lib.hid hA
  have TQ := Lib.hid (Sep.up3 (S.box 84 [.int .i64 2, .int .i64 on, .int .i64 n]))
  have hnum : numOf (some 2) = 1 := rfl
  clear hE hT hI S hA
  go_enter Tryd.func52, Tryd.ntmps52
  go_wp2_with (go_at_call 53; refine (act53_at HE.out HT.out TQ.out HI.out.ok HA.out _).mono ?_; rintro e wq ⟨vl, rfl, Sq⟩; obtain ⟨a9, k9, c9, rfl, _, hk9⟩ := rdv_form (T := IT) (Sep.rdv Sq (.head _)); clear hk9; replace TQ := Lib.hid Sq; clear Sq; have d0 := blk_mem TQ.out (g := w.heap.size) (t := 84) (cs := [.int .i64 2, .int .i64 on, .int .i64 n]) (by simp) 0 rfl; have d2 := blk_mem TQ.out (g := w.heap.size) (t := 84) (cs := [.int .i64 2, .int .i64 on, .int .i64 n]) (by simp) 2 rfl; have hz := (TQ.out.lie (blk w.heap.size 84 [.int .i64 2, .int .i64 on, .int .i64 n]) (by simp) w.heap.size rfl).2)
  go_wp2_with (go_at_call 96; refine (tree96 (bk_at' ((TQ.out.box 88 [.int .i64 1, .int .i64 0, .int .i64 0, .bool false, .slice a9 k9 c9]).keepS (.cons _ (.cons _ (.cons _ (.cons _ (.refl _))))))) _).mono ?_; rintro e w4 ⟨rfl, hw4⟩; rw [bk_len, HR.out]; replace TQ := Lib.hid ((TQ.out.box 88 [.int .i64 1, .int .i64 0, .int .i64 0, .bool false, .slice a9 k9 c9]).step hw4); clear d0 d2 hz hw4; generalize wq.heap.size = x at TQ ⊢; have r0 := blk_mem TQ.out (g := x) (t := 88) (cs := [.int .i64 1, .int .i64 0, .int .i64 0, .bool false, .slice a9 k9 c9]) (by simp) 0 rfl)
  go_ret
  exact ⟨rfl, Sep.up2 (Sep.up2 (TQ.out.keepS (.cons _ (.cons _ (.cons_cons _ (.cons _ (.refl _)))))))⟩
set_option maxHeartbeats 4000000 in
theorem step52_mark_twice (hE : Errs all13 E w0) (hT : TabAt13 w0) (S : Sep w0 w (row BT v (bk N ws) :: blk q 150 [v] :: fm p g N ws :: L)) (hI : FmInv N ws) (on n : Int) (ht : treeB N n = true) (hk : tk ws n.toNat = true) :
    Calls Tryd.prog 52 #[.pointer (some ⟨q, 0, none⟩), .pointer (some ⟨p, 0, none⟩), .agg #[.int .i64 1, .int .i64 on, .int .i64 n]] w fun e w' => e = .returned (.bool true) ∧ Sep w0 w' (row BT v (bk N ws) :: blk q 150 [v] :: fm p g N ws :: L) := by
  have hA := act_mark (N := N) (ws := ws) (n := n) (er := (some 6)) (ws' := ws) (by unfold markR; rw [if_pos (by rw [ht]), hk]; rfl)
  have HR := Lib.hid ht
  obtain ⟨ht1, ht2, ht3⟩ := tree_nat ht
  have hz1 : 0 ≤ n := by omega
  have hz2 : n < (N : Int) := by omega
  clear ht1 ht3
  have HK := Lib.hid hk
  clear ht hk
  obtain ⟨h, cc, rfl⟩ := bk_form S hI.ok.lo
  have hN1 := hI.ok.lo
  have hN2 := hI.ok.hi
  have HE := Lib.hid hE
  have HT := Lib.hid hT
  have HI := Lib.hid hI
  have HA := Lib.hid hA
  have TQ := Lib.hid (Sep.up3 (S.box 84 [.int .i64 1, .int .i64 on, .int .i64 n]))
  have hnum : numOf (some 6) = 5 := rfl
  clear hE hT hI S hA
  go_enter Tryd.func52, Tryd.ntmps52
  go_wp2_with (go_at_call 53; refine (act53_at HE.out HT.out TQ.out HI.out.ok HA.out _).mono ?_; rintro e wq ⟨vl, rfl, Sq⟩; obtain ⟨a9, k9, c9, rfl, _, hk9⟩ := rdv_form (T := IT) (Sep.rdv Sq (.head _)); clear hk9; replace TQ := Lib.hid Sq; clear Sq; have d0 := blk_mem TQ.out (g := w.heap.size) (t := 84) (cs := [.int .i64 1, .int .i64 on, .int .i64 n]) (by simp) 0 rfl; have d2 := blk_mem TQ.out (g := w.heap.size) (t := 84) (cs := [.int .i64 1, .int .i64 on, .int .i64 n]) (by simp) 2 rfl; have hz := (TQ.out.lie (blk w.heap.size 84 [.int .i64 1, .int .i64 on, .int .i64 n]) (by simp) w.heap.size rfl).2)
  go_wp2_with (go_at_call 96; refine (tree96 (bk_at' ((TQ.out.box 88 [.int .i64 5, .int .i64 0, .int .i64 0, .bool false, .slice a9 k9 c9]).keepS (.cons _ (.cons _ (.cons _ (.cons _ (.refl _))))))) _).mono ?_; rintro e w4 ⟨rfl, hw4⟩; rw [bk_len, HR.out]; replace TQ := Lib.hid ((TQ.out.box 88 [.int .i64 5, .int .i64 0, .int .i64 0, .bool false, .slice a9 k9 c9]).step hw4); clear d0 d2 hz hw4; generalize wq.heap.size = x at TQ ⊢; )
  have B := bk_at' (TQ.out.keepS (.cons _ (.cons _ (.cons _ (.cons _ (.refl _))))))
  obtain ⟨c1, c0⟩ := B.head
  rw [bk_len] at c0
  have ca := B.at_ n.toNat _ (bk_at ht2)
  rw [HK.out] at ca
  have d2 := blk_mem TQ.out (g := w.heap.size) (t := 84) (cs := [.int .i64 1, .int .i64 on, .int .i64 n]) (by simp) 2 rfl
  have y0 := xt_cell c0
  have y1 := xt_cell ca
  have y2 := xt_cell d2
  clear B c0 ca d2
  refine xt_region (by kernel_rfl) (by kernel_rfl) ?_
  repeat (go_big_quiet_step (fail))
  refine wpQuiet_nil ?_
  intro _ hw'
  obtain ⟨m, rfl⟩ := hw'
  replace TQ := Lib.hid (TQ.out.step (xt_below _ m))
  clear y0 y1 y2
  generalize wx _ m = w5 at TQ ⊢
  have r0 := blk_mem TQ.out (g := x) (t := 88) (cs := [.int .i64 5, .int .i64 0, .int .i64 0, .bool false, .slice a9 k9 c9]) (by simp) 0 rfl
  go_wp2
  go_ret
  exact ⟨rfl, Sep.up2 (Sep.up2 (TQ.out.keepS (.cons _ (.cons _ (.cons_cons _ (.cons _ (.refl _)))))))⟩
set_option maxHeartbeats 4000000 in
theorem step52_mark_ok (hE : Errs all13 E w0) (hT : TabAt13 w0) (S : Sep w0 w (row BT v (bk N ws) :: blk q 150 [v] :: fm p g N ws :: L)) (hI : FmInv N ws) (on n : Int) (ht : treeB N n = true) (hk : tk ws n.toNat = false) :
    Calls Tryd.prog 52 #[.pointer (some ⟨q, 0, none⟩), .pointer (some ⟨p, 0, none⟩), .agg #[.int .i64 1, .int .i64 on, .int .i64 n]] w fun e w' => e = .returned (.bool true) ∧ Sep w0 w' (row BT v (bk N (setW ws n.toNat)) :: blk q 150 [v] :: fm p g N (setW ws n.toNat) :: L) := by
  have hA := act_mark (N := N) (ws := ws) (n := n) (er := none) (ws' := setW ws n.toNat) (by unfold markR; rw [if_pos (by rw [ht]), hk]; rfl)
  have HR := Lib.hid ht
  obtain ⟨ht1, ht2, ht3⟩ := tree_nat ht
  have hz1 : 0 ≤ n := by omega
  have hz2 : n < (N : Int) := by omega
  clear ht1 ht3
  have HK := Lib.hid hk
  clear ht hk
  obtain ⟨h, cc, rfl⟩ := bk_form S hI.ok.lo
  have hN1 := hI.ok.lo
  have hN2 := hI.ok.hi
  have HE := Lib.hid hE
  have HT := Lib.hid hT
  have HI := Lib.hid hI
  have HA := Lib.hid hA
  have TQ := Lib.hid (Sep.up3 (S.box 84 [.int .i64 1, .int .i64 on, .int .i64 n]))
  have hnum : numOf none = 0 := rfl
  clear hE hT hI S hA
  go_enter Tryd.func52, Tryd.ntmps52
  go_wp2_with (go_at_call 53; refine (act53_at HE.out HT.out TQ.out HI.out.ok HA.out _).mono ?_; rintro e wq ⟨vl, rfl, Sq⟩; obtain ⟨a9, k9, c9, rfl, _, hk9⟩ := rdv_form (T := IT) (Sep.rdv Sq (.head _)); clear hk9; replace TQ := Lib.hid Sq; clear Sq; have d0 := blk_mem TQ.out (g := w.heap.size) (t := 84) (cs := [.int .i64 1, .int .i64 on, .int .i64 n]) (by simp) 0 rfl; have d2 := blk_mem TQ.out (g := w.heap.size) (t := 84) (cs := [.int .i64 1, .int .i64 on, .int .i64 n]) (by simp) 2 rfl; have hz := (TQ.out.lie (blk w.heap.size 84 [.int .i64 1, .int .i64 on, .int .i64 n]) (by simp) w.heap.size rfl).2)
  go_wp2_with (go_at_call 96; refine (tree96 (bk_at' ((TQ.out.box 88 [.int .i64 0, .int .i64 0, .int .i64 0, .bool false, .slice a9 k9 c9]).keepS (.cons _ (.cons _ (.cons _ (.cons _ (.refl _))))))) _).mono ?_; rintro e w4 ⟨rfl, hw4⟩; rw [bk_len, HR.out]; replace TQ := Lib.hid ((TQ.out.box 88 [.int .i64 0, .int .i64 0, .int .i64 0, .bool false, .slice a9 k9 c9]).step hw4); clear d0 d2 hz hw4; generalize wq.heap.size = x at TQ ⊢; )
  have B := bk_at' (TQ.out.keepS (.cons _ (.cons _ (.cons _ (.cons _ (.refl _))))))
  obtain ⟨c1, c0⟩ := B.head
  rw [bk_len] at c0
  have ca := B.at_ n.toNat _ (bk_at ht2)
  rw [HK.out] at ca
  have d2 := blk_mem TQ.out (g := w.heap.size) (t := 84) (cs := [.int .i64 1, .int .i64 on, .int .i64 n]) (by simp) 2 rfl
  have y0 := xt_cell c0
  have y1 := xt_cell ca
  have y2 := xt_cell d2
  clear B c0 ca d2
  refine xt_region (by kernel_rfl) (by kernel_rfl) ?_
  repeat (go_big_quiet_step (fail))
  refine wpQuiet_nil ?_
  intro _ hw'
  obtain ⟨m, rfl⟩ := hw'
  replace TQ := Lib.hid (TQ.out.step (xt_below _ m))
  clear y0 y1 y2
  generalize wx _ m = w5 at TQ ⊢
  have r0 := blk_mem TQ.out (g := x) (t := 88) (cs := [.int .i64 0, .int .i64 0, .int .i64 0, .bool false, .slice a9 k9 c9]) (by simp) 0 rfl
  go_wp2
  have B := bk_at' (TQ.out.keepS (.cons _ (.cons _ (.cons _ (.cons _ (.refl _))))))
  obtain ⟨c1, c0⟩ := B.head
  rw [bk_len] at c0
  have ca := B.at_ n.toNat _ (bk_at ht2)
  have d2 := blk_mem TQ.out (g := w.heap.size) (t := 84) (cs := [.int .i64 1, .int .i64 on, .int .i64 n]) (by simp) 2 rfl
  have TR := Lib.hid (Sep.up4 TQ.out)
  have fa := row_free TR.out n.toNat
  clear B r0
  go_region
  all_goals
    have TZ := Lib.hid ((bk_mark TR.out HI.out.ok ht2).drew)
    generalize (World.drew (World.setCell w5 ⟨h, n.toNat, none⟩ (.bool true))) = w6 at TZ ⊢
    have r0 := blk_mem TZ.out (g := x) (t := 88) (cs := [.int .i64 0, .int .i64 0, .int .i64 0, .bool false, .slice a9 k9 c9]) (by simp) 0 rfl
    go_wp2
    go_ret
    exact ⟨rfl, Sep.up1 (Sep.up2 (TZ.out.keepS (.cons_cons _ (.cons _ (.cons _ (.cons_cons _ (.cons _ (.refl _))))))))⟩

set_option maxHeartbeats 4000000 in
theorem step52_clear_lost (hE : Errs all13 E w0) (hT : TabAt13 w0) (S : Sep w0 w (row BT v (bk N ws) :: blk q 150 [v] :: fm p g N ws :: L)) (hI : FmInv N ws) (on n : Int) (ht : treeB N n = true) (hk : tk ws n.toNat = false) :
    Calls Tryd.prog 52 #[.pointer (some ⟨q, 0, none⟩), .pointer (some ⟨p, 0, none⟩), .agg #[.int .i64 2, .int .i64 on, .int .i64 n]] w fun e w' => e = .returned (.bool true) ∧ Sep w0 w' (row BT v (bk N ws) :: blk q 150 [v] :: fm p g N ws :: L) := by
  have hA := act_clear (N := N) (ws := ws) (n := n) (er := (some 1)) (ws' := ws) (by unfold clearR; rw [if_pos (by rw [ht]), hk]; rfl)
  have HR := Lib.hid ht
  obtain ⟨ht1, ht2, ht3⟩ := tree_nat ht
  have hz1 : 0 ≤ n := by omega
  have hz2 : n < (N : Int) := by omega
  clear ht1 ht3
  have HK := Lib.hid hk
  clear ht hk
  obtain ⟨h, cc, rfl⟩ := bk_form S hI.ok.lo
  have hN1 := hI.ok.lo
  have hN2 := hI.ok.hi
  have HE := Lib.hid hE
  have HT := Lib.hid hT
  have HI := Lib.hid hI
  have HA := Lib.hid hA
  have TQ := Lib.hid (Sep.up3 (S.box 84 [.int .i64 2, .int .i64 on, .int .i64 n]))
  have hnum : numOf (some 1) = 6 := rfl
  clear hE hT hI S hA
  go_enter Tryd.func52, Tryd.ntmps52
  go_wp2_with (go_at_call 53; refine (act53_at HE.out HT.out TQ.out HI.out.ok HA.out _).mono ?_; rintro e wq ⟨vl, rfl, Sq⟩; obtain ⟨a9, k9, c9, rfl, _, hk9⟩ := rdv_form (T := IT) (Sep.rdv Sq (.head _)); clear hk9; replace TQ := Lib.hid Sq; clear Sq; have d0 := blk_mem TQ.out (g := w.heap.size) (t := 84) (cs := [.int .i64 2, .int .i64 on, .int .i64 n]) (by simp) 0 rfl; have d2 := blk_mem TQ.out (g := w.heap.size) (t := 84) (cs := [.int .i64 2, .int .i64 on, .int .i64 n]) (by simp) 2 rfl; have hz := (TQ.out.lie (blk w.heap.size 84 [.int .i64 2, .int .i64 on, .int .i64 n]) (by simp) w.heap.size rfl).2)
  go_wp2_with (go_at_call 96; refine (tree96 (bk_at' ((TQ.out.box 88 [.int .i64 6, .int .i64 0, .int .i64 0, .bool false, .slice a9 k9 c9]).keepS (.cons _ (.cons _ (.cons _ (.cons _ (.refl _))))))) _).mono ?_; rintro e w4 ⟨rfl, hw4⟩; rw [bk_len, HR.out]; replace TQ := Lib.hid ((TQ.out.box 88 [.int .i64 6, .int .i64 0, .int .i64 0, .bool false, .slice a9 k9 c9]).step hw4); clear d0 d2 hz hw4; generalize wq.heap.size = x at TQ ⊢; )
  have B := bk_at' (TQ.out.keepS (.cons _ (.cons _ (.cons _ (.cons _ (.refl _))))))
  obtain ⟨c1, c0⟩ := B.head
  rw [bk_len] at c0
  have ca := B.at_ n.toNat _ (bk_at ht2)
  rw [HK.out] at ca
  have d2 := blk_mem TQ.out (g := w.heap.size) (t := 84) (cs := [.int .i64 2, .int .i64 on, .int .i64 n]) (by simp) 2 rfl
  have y0 := xt_cell c0
  have y1 := xt_cell ca
  have y2 := xt_cell d2
  clear B c0 ca d2
  refine xt_region (by kernel_rfl) (by kernel_rfl) ?_
  repeat (go_big_quiet_step (fail))
  refine wpQuiet_nil ?_
  intro _ hw'
  obtain ⟨m, rfl⟩ := hw'
  replace TQ := Lib.hid (TQ.out.step (xt_below _ m))
  clear y0 y1 y2
  generalize wx _ m = w5 at TQ ⊢
  have r0 := blk_mem TQ.out (g := x) (t := 88) (cs := [.int .i64 6, .int .i64 0, .int .i64 0, .bool false, .slice a9 k9 c9]) (by simp) 0 rfl
  go_wp2
  go_ret
  exact ⟨rfl, Sep.up2 (Sep.up2 (TQ.out.keepS (.cons _ (.cons _ (.cons_cons _ (.cons _ (.refl _)))))))⟩
set_option maxHeartbeats 4000000 in
theorem step52_clear_ok (hE : Errs all13 E w0) (hT : TabAt13 w0) (S : Sep w0 w (row BT v (bk N ws) :: blk q 150 [v] :: fm p g N ws :: L)) (hI : FmInv N ws) (on n : Int) (ht : treeB N n = true) (hk : tk ws n.toNat = true) :
    Calls Tryd.prog 52 #[.pointer (some ⟨q, 0, none⟩), .pointer (some ⟨p, 0, none⟩), .agg #[.int .i64 2, .int .i64 on, .int .i64 n]] w fun e w' => e = .returned (.bool true) ∧ Sep w0 w' (row BT v (bk N (clrW ws n.toNat)) :: blk q 150 [v] :: fm p g N (clrW ws n.toNat) :: L) := by
  have hA := act_clear (N := N) (ws := ws) (n := n) (er := none) (ws' := clrW ws n.toNat) (by unfold clearR; rw [if_pos (by rw [ht]), hk]; rfl)
  have HR := Lib.hid ht
  obtain ⟨ht1, ht2, ht3⟩ := tree_nat ht
  have hz1 : 0 ≤ n := by omega
  have hz2 : n < (N : Int) := by omega
  clear ht1 ht3
  have HK := Lib.hid hk
  clear ht hk
  obtain ⟨h, cc, rfl⟩ := bk_form S hI.ok.lo
  have hN1 := hI.ok.lo
  have hN2 := hI.ok.hi
  have HE := Lib.hid hE
  have HT := Lib.hid hT
  have HI := Lib.hid hI
  have HA := Lib.hid hA
  have TQ := Lib.hid (Sep.up3 (S.box 84 [.int .i64 2, .int .i64 on, .int .i64 n]))
  have hnum : numOf none = 0 := rfl
  clear hE hT hI S hA
  go_enter Tryd.func52, Tryd.ntmps52
  go_wp2_with (go_at_call 53; refine (act53_at HE.out HT.out TQ.out HI.out.ok HA.out _).mono ?_; rintro e wq ⟨vl, rfl, Sq⟩; obtain ⟨a9, k9, c9, rfl, _, hk9⟩ := rdv_form (T := IT) (Sep.rdv Sq (.head _)); clear hk9; replace TQ := Lib.hid Sq; clear Sq; have d0 := blk_mem TQ.out (g := w.heap.size) (t := 84) (cs := [.int .i64 2, .int .i64 on, .int .i64 n]) (by simp) 0 rfl; have d2 := blk_mem TQ.out (g := w.heap.size) (t := 84) (cs := [.int .i64 2, .int .i64 on, .int .i64 n]) (by simp) 2 rfl; have hz := (TQ.out.lie (blk w.heap.size 84 [.int .i64 2, .int .i64 on, .int .i64 n]) (by simp) w.heap.size rfl).2)
  go_wp2_with (go_at_call 96; refine (tree96 (bk_at' ((TQ.out.box 88 [.int .i64 0, .int .i64 0, .int .i64 0, .bool false, .slice a9 k9 c9]).keepS (.cons _ (.cons _ (.cons _ (.cons _ (.refl _))))))) _).mono ?_; rintro e w4 ⟨rfl, hw4⟩; rw [bk_len, HR.out]; replace TQ := Lib.hid ((TQ.out.box 88 [.int .i64 0, .int .i64 0, .int .i64 0, .bool false, .slice a9 k9 c9]).step hw4); clear d0 d2 hz hw4; generalize wq.heap.size = x at TQ ⊢; )
  have B := bk_at' (TQ.out.keepS (.cons _ (.cons _ (.cons _ (.cons _ (.refl _))))))
  obtain ⟨c1, c0⟩ := B.head
  rw [bk_len] at c0
  have ca := B.at_ n.toNat _ (bk_at ht2)
  rw [HK.out] at ca
  have d2 := blk_mem TQ.out (g := w.heap.size) (t := 84) (cs := [.int .i64 2, .int .i64 on, .int .i64 n]) (by simp) 2 rfl
  have y0 := xt_cell c0
  have y1 := xt_cell ca
  have y2 := xt_cell d2
  clear B c0 ca d2
  refine xt_region (by kernel_rfl) (by kernel_rfl) ?_
  repeat (go_big_quiet_step (fail))
  refine wpQuiet_nil ?_
  intro _ hw'
  obtain ⟨m, rfl⟩ := hw'
  replace TQ := Lib.hid (TQ.out.step (xt_below _ m))
  clear y0 y1 y2
  generalize wx _ m = w5 at TQ ⊢
  have r0 := blk_mem TQ.out (g := x) (t := 88) (cs := [.int .i64 0, .int .i64 0, .int .i64 0, .bool false, .slice a9 k9 c9]) (by simp) 0 rfl
  go_wp2
  have B := bk_at' (TQ.out.keepS (.cons _ (.cons _ (.cons _ (.cons _ (.refl _))))))
  obtain ⟨c1, c0⟩ := B.head
  rw [bk_len] at c0
  have ca := B.at_ n.toNat _ (bk_at ht2)
  have d2 := blk_mem TQ.out (g := w.heap.size) (t := 84) (cs := [.int .i64 2, .int .i64 on, .int .i64 n]) (by simp) 2 rfl
  have TR := Lib.hid (Sep.up4 TQ.out)
  have fa := row_free TR.out n.toNat
  clear B r0
  go_region
  all_goals
    have TZ := Lib.hid ((bk_unmark TR.out HI.out.ok ht2).drew)
    generalize (World.drew (World.setCell w5 ⟨h, n.toNat, none⟩ (.bool false))) = w6 at TZ ⊢
    have r0 := blk_mem TZ.out (g := x) (t := 88) (cs := [.int .i64 0, .int .i64 0, .int .i64 0, .bool false, .slice a9 k9 c9]) (by simp) 0 rfl
    go_wp2
    go_ret
    exact ⟨rfl, Sep.up1 (Sep.up2 (TZ.out.keepS (.cons_cons _ (.cons _ (.cons _ (.cons_cons _ (.cons _ (.refl _))))))))⟩

set_option maxHeartbeats 4000000 in
theorem step52_take_neg (hE : Errs all13 E w0) (hT : TabAt13 w0) (S : Sep w0 w (row BT v (bk N ws) :: blk q 150 [v] :: fm p g N ws :: L)) (hI : FmInv N ws) (on n : Int) (hn : n < 0) :
    Calls Tryd.prog 52 #[.pointer (some ⟨q, 0, none⟩), .pointer (some ⟨p, 0, none⟩), .agg #[.int .i64 5, .int .i64 on, .int .i64 n]] w fun e w' => e = .returned (.bool true) ∧ Sep w0 w' (row BT v (bk N ws) :: blk q 150 [v] :: fm p g N ws :: L) := by
  have hA := act_take (N := N) (ws := ws) (n := n) (er := some 2) (l := []) (ws' := ws) (by unfold takeA; rw [if_pos hn])
  obtain ⟨h, cc, rfl⟩ := bk_form S hI.ok.lo
  have hN1 := hI.ok.lo
  have hN2 := hI.ok.hi
  have HE := Lib.hid hE
  have HT := Lib.hid hT
  have HI := Lib.hid hI
  have HA := Lib.hid hA
  have TQ := Lib.hid (Sep.up3 (S.box 84 [.int .i64 5, .int .i64 on, .int .i64 n]))
  have hnum : numOf (some 2) = 1 := rfl
  clear hE hT hI S hA
  go_enter Tryd.func52, Tryd.ntmps52
  go_wp2_with (go_at_call 53; refine (act53_at HE.out HT.out TQ.out HI.out.ok HA.out _).mono ?_; rintro e wq ⟨vl, rfl, Sq⟩; obtain ⟨a9, k9, c9, rfl, _, hk9⟩ := rdv_form (T := IT) (Sep.rdv Sq (.head _)); obtain rfl : 0 = k9 := (by simpa [ints] using hk9.symm); clear hk9; replace TQ := Lib.hid Sq; clear Sq; have d0 := blk_mem TQ.out (g := w.heap.size) (t := 84) (cs := [.int .i64 5, .int .i64 on, .int .i64 n]) (by simp) 0 rfl; have d2 := blk_mem TQ.out (g := w.heap.size) (t := 84) (cs := [.int .i64 5, .int .i64 on, .int .i64 n]) (by simp) 2 rfl; have hz := (TQ.out.lie (blk w.heap.size 84 [.int .i64 5, .int .i64 on, .int .i64 n]) (by simp) w.heap.size rfl).2)

  go_ret
  exact ⟨rfl, Sep.up2 (Sep.up2 ((TQ.out.alloc _).keepS (.cons _ (.cons_cons _ (.cons _ (.refl _))))))⟩
set_option maxHeartbeats 4000000 in
theorem step52_take_full (hE : Errs all13 E w0) (hT : TabAt13 w0) (S : Sep w0 w (row BT v (bk N ws) :: blk q 150 [v] :: fm p g N ws :: L)) (hI : FmInv N ws) (on n : Int) (h0 : 0 ≤ n) (hn : (freeN ws : Int) < n) :
    Calls Tryd.prog 52 #[.pointer (some ⟨q, 0, none⟩), .pointer (some ⟨p, 0, none⟩), .agg #[.int .i64 5, .int .i64 on, .int .i64 n]] w fun e w' => e = .returned (.bool true) ∧ Sep w0 w' (row BT v (bk N ws) :: blk q 150 [v] :: fm p g N ws :: L) := by
  have hA := act_take (N := N) (ws := ws) (n := n) (er := some 7) (l := []) (ws' := ws) (by unfold takeA; rw [if_neg (by omega), if_pos hn])
  have CNT := Lib.hid (bk_count hI)
  generalize freeN ws = fr at CNT hn
  obtain ⟨h, cc, rfl⟩ := bk_form S hI.ok.lo
  have hN1 := hI.ok.lo
  have hN2 := hI.ok.hi
  have HE := Lib.hid hE
  have HT := Lib.hid hT
  have HI := Lib.hid hI
  have HA := Lib.hid hA
  have TQ := Lib.hid (Sep.up3 (S.box 84 [.int .i64 5, .int .i64 on, .int .i64 n]))
  have hnum : numOf (some 7) = 7 := rfl
  clear hE hT hI S hA
  go_enter Tryd.func52, Tryd.ntmps52
  go_wp2_with (go_at_call 53; refine (act53_at HE.out HT.out TQ.out HI.out.ok HA.out _).mono ?_; rintro e wq ⟨vl, rfl, Sq⟩; obtain ⟨a9, k9, c9, rfl, _, hk9⟩ := rdv_form (T := IT) (Sep.rdv Sq (.head _)); obtain rfl : 0 = k9 := (by simpa [ints] using hk9.symm); clear hk9; replace TQ := Lib.hid Sq; clear Sq; have d0 := blk_mem TQ.out (g := w.heap.size) (t := 84) (cs := [.int .i64 5, .int .i64 on, .int .i64 n]) (by simp) 0 rfl; have d2 := blk_mem TQ.out (g := w.heap.size) (t := 84) (cs := [.int .i64 5, .int .i64 on, .int .i64 n]) (by simp) 2 rfl; have hz := (TQ.out.lie (blk w.heap.size 84 [.int .i64 5, .int .i64 on, .int .i64 n]) (by simp) w.heap.size rfl).2)
  replace TQ := Lib.hid (TQ.out.box 88 [.int .i64 7, .int .i64 0, .int .i64 0, .bool false, .slice a9 0 c9])
  generalize wq.heap.size = x at TQ ⊢
  clear d0 d2 hz
  have d2 := blk_mem TQ.out (g := w.heap.size) (t := 84) (cs := [.int .i64 5, .int .i64 on, .int .i64 n]) (by simp) 2 rfl
  have y2 := xt_cell d2
  have hB := bk_at' (TQ.out.keepS (.cons _ (.cons _ (.cons _ (.cons _ (.refl _))))))
  have A95 := Lib.hid fun W (hb : Below _ _ W) => count95 (hB.below hb) (by rw [bk_len]; exact hN2)
  rw [CNT.out] at A95
  clear hB d2
  refine xt_region (by kernel_rfl) (by kernel_rfl) ?_
  repeat (go_big_quiet_step ((go_at_call 95; exact xt_call (A95.out _ (xt_below _ _)))))
  refine wpQuiet_nil ?_
  intro _ hw'
  obtain ⟨m9, rfl⟩ := hw'
  replace TQ := Lib.hid (TQ.out.step (xt_below _ m9))
  clear y2 A95
  generalize wx _ m9 = w5 at TQ ⊢
  have r0 := blk_mem TQ.out (g := x) (t := 88) (cs := [.int .i64 7, .int .i64 0, .int .i64 0, .bool false, .slice a9 0 c9]) (by simp) 0 rfl
  have r4 := blk_mem TQ.out (g := x) (t := 88) (cs := [.int .i64 7, .int .i64 0, .int .i64 0, .bool false, .slice a9 0 c9]) (by simp) 4 rfl
  go_wp2
  go_ret
  exact ⟨rfl, Sep.up2 (Sep.up2 (TQ.out.keepS (.cons _ (.cons _ (.cons_cons _ (.cons _ (.refl _)))))))⟩
set_option maxHeartbeats 4000000 in
theorem step52_take_ok (hE : Errs all13 E w0) (hT : TabAt13 w0) (S : Sep w0 w (row BT v (bk N ws) :: blk q 150 [v] :: fm p g N ws :: L)) (hI : FmInv N ws) (on n : Int) (m : Nat) (hnm : n = (m : Int)) (hm : m ≤ freeN ws) :
    Calls Tryd.prog 52 #[.pointer (some ⟨q, 0, none⟩), .pointer (some ⟨p, 0, none⟩), .agg #[.int .i64 5, .int .i64 on, .int .i64 n]] w fun e w' => e = .returned (.bool true) ∧ Sep w0 w' (row BT v (bk N (takeR m ws).2) :: blk q 150 [v] :: fm p g N (takeR m ws).2 :: L) := by
  have hA := act_take (N := N) (ws := ws) (n := n) (er := none) (l := (takeR m ws).1) (ws' := (takeR m ws).2) (by unfold takeA; rw [if_neg (by omega), if_neg (by omega), hnm, Int.toNat_natCast])
  have CNT := Lib.hid (bk_count hI)
  have HK := Lib.hid hm
  have HNM := Lib.hid hnm
  have hn0 : 0 ≤ n := by omega
  have hn1 : n ≤ (freeN ws : Int) := by omega
  clear hnm hm
  generalize hfr : freeN ws = fr at CNT hn1
  clear hfr
  obtain ⟨h, cc, rfl⟩ := bk_form S hI.ok.lo
  have hN1 := hI.ok.lo
  have hN2 := hI.ok.hi
  have HE := Lib.hid hE
  have HT := Lib.hid hT
  have HI := Lib.hid hI
  have HA := Lib.hid hA
  have TQ := Lib.hid (Sep.up3 (S.box 84 [.int .i64 5, .int .i64 on, .int .i64 n]))
  have hnum : numOf none = 0 := rfl
  clear hE hT hI S hA
  go_enter Tryd.func52, Tryd.ntmps52
  go_wp2_with (go_at_call 53; refine (act53_at HE.out HT.out TQ.out HI.out.ok HA.out _).mono ?_; rintro e wq ⟨vl, rfl, Sq⟩; obtain ⟨a9, k9, c9, rfl, _, hk9⟩ := rdv_form (T := IT) (Sep.rdv Sq (.head _)); obtain rfl : m = k9 := (by rw [hk9, ints_len, takeR_len]); clear hk9; replace TQ := Lib.hid Sq; clear Sq; have d0 := blk_mem TQ.out (g := w.heap.size) (t := 84) (cs := [.int .i64 5, .int .i64 on, .int .i64 n]) (by simp) 0 rfl; have d2 := blk_mem TQ.out (g := w.heap.size) (t := 84) (cs := [.int .i64 5, .int .i64 on, .int .i64 n]) (by simp) 2 rfl; have hz := (TQ.out.lie (blk w.heap.size 84 [.int .i64 5, .int .i64 on, .int .i64 n]) (by simp) w.heap.size rfl).2)
  replace TQ := Lib.hid (TQ.out.box 88 [.int .i64 0, .int .i64 0, .int .i64 0, .bool false, .slice a9 m c9])
  generalize wq.heap.size = x at TQ ⊢
  clear d0 d2 hz
  have d2 := blk_mem TQ.out (g := w.heap.size) (t := 84) (cs := [.int .i64 5, .int .i64 on, .int .i64 n]) (by simp) 2 rfl
  have y2 := xt_cell d2
  have hB := bk_at' (TQ.out.keepS (.cons _ (.cons _ (.cons _ (.cons _ (.refl _))))))
  have A95 := Lib.hid fun W (hb : Below _ _ W) => count95 (hB.below hb) (by rw [bk_len]; exact hN2)
  rw [CNT.out] at A95
  clear hB d2
  refine xt_region (by kernel_rfl) (by kernel_rfl) ?_
  repeat (go_big_quiet_step ((go_at_call 95; exact xt_call (A95.out _ (xt_below _ _)))))
  refine wpQuiet_nil ?_
  intro _ hw'
  obtain ⟨m9, rfl⟩ := hw'
  replace TQ := Lib.hid (TQ.out.step (xt_below _ m9))
  clear y2 A95
  generalize wx _ m9 = w5 at TQ ⊢
  have r0 := blk_mem TQ.out (g := x) (t := 88) (cs := [.int .i64 0, .int .i64 0, .int .i64 0, .bool false, .slice a9 m c9]) (by simp) 0 rfl
  have r4 := blk_mem TQ.out (g := x) (t := 88) (cs := [.int .i64 0, .int .i64 0, .int .i64 0, .bool false, .slice a9 m c9]) (by simp) 4 rfl
  have d2 := blk_mem TQ.out (g := w.heap.size) (t := 84) (cs := [.int .i64 5, .int .i64 on, .int .i64 n]) (by simp) 2 rfl
  go_wp2_with (go_at_call 97; refine (took97i (Sep.up3 (Sep.up3 (TQ.out.keepS (.cons _ (.cons_cons _ (.cons_cons _ (.cons _ (.refl _)))))))) HI.out (.head _) HK.out HNM.out).mono ?_; rintro e w6 ⟨rfl, Sq⟩; replace TQ := Lib.hid Sq; clear Sq)
  go_ret
  exact ⟨rfl, TQ.out.keepS (.cons_cons _ (.cons_cons _ (.cons _ (.refl _))))⟩
/-- One step, held against the book. -/
theorem step52 (hE : Errs all13 E w0) (hT : TabAt13 w0) (S : Sep w0 w (row BT v (bk N ws) :: blk q 150 [v] :: fm p g N ws :: L)) (hI : FmInv N ws) (k on n : Int) :
    Calls Tryd.prog 52 #[.pointer (some ⟨q, 0, none⟩), .pointer (some ⟨p, 0, none⟩), .agg #[.int .i64 k, .int .i64 on, .int .i64 n]] w fun e w' => e = .returned (.bool true) ∧ Sep w0 w' (row BT v (bk N (actA N ws k n).2) :: blk q 150 [v] :: fm p g N (actA N ws k n).2 :: L) := by
  by_cases h1 : k = 1
  · subst h1
    cases ht : treeB N n
    · rw [act_mark (er := some 2) (ws' := ws) (by unfold markR; rw [if_neg (by rw [ht]; decide)])]
      exact step52_mark_out hE hT S hI on n ht
    · cases hk : tk ws n.toNat
      · rw [act_mark (er := none) (ws' := setW ws n.toNat) (by unfold markR; rw [if_pos (by rw [ht]), hk]; rfl)]
        exact step52_mark_ok hE hT S hI on n ht hk
      · rw [act_mark (er := some 6) (ws' := ws) (by unfold markR; rw [if_pos (by rw [ht]), hk]; rfl)]
        exact step52_mark_twice hE hT S hI on n ht hk
  · by_cases h2 : k = 2
    · subst h2
      cases ht : treeB N n
      · rw [act_clear (er := some 2) (ws' := ws) (by unfold clearR; rw [if_neg (by rw [ht]; decide)])]
        exact step52_clear_out hE hT S hI on n ht
      · cases hk : tk ws n.toNat
        · rw [act_clear (er := some 1) (ws' := ws) (by unfold clearR; rw [if_pos (by rw [ht]), hk]; rfl)]
          exact step52_clear_lost hE hT S hI on n ht hk
        · rw [act_clear (er := none) (ws' := clrW ws n.toNat) (by unfold clearR; rw [if_pos (by rw [ht]), hk]; rfl)]
          exact step52_clear_ok hE hT S hI on n ht hk
    · by_cases h5 : k = 5
      · subst h5
        by_cases hn : n < 0
        · rw [act_take (er := some 2) (l := []) (ws' := ws) (by unfold takeA; rw [if_pos hn])]
          exact step52_take_neg hE hT S hI on n hn
        · by_cases hf : (freeN ws : Int) < n
          · rw [act_take (er := some 7) (l := []) (ws' := ws) (by unfold takeA; rw [if_neg hn, if_pos hf])]
            exact step52_take_full hE hT S hI on n (by omega) hf
          · obtain ⟨m, hm⟩ := Int.eq_ofNat_of_zero_le (show 0 ≤ n by omega)
            rw [act_take (er := none) (l := (takeR m ws).1) (ws' := (takeR m ws).2) (by unfold takeA; rw [if_neg hn, if_neg hf, hm, Int.toNat_natCast])]
            exact step52_take_ok hE hT S hI on n m hm (by omega)
      · rw [act_other h1 h2 h5]
        exact step52_other hE hT S hI k on n h1 h2 h5
end
end Go.Proofs.YtdkailccfcijiaaDoor
