/- The law DiffComposes, walked. Conditions: the lengths and sizes. -/
import Derived.Test.YtdkailccfcijiaaDoorDx
import Derived.Deep.RegionWith
import Derived.Deep.RegionHeld3
import Derived.Deep.DeepCutAuto
namespace Go.Proofs.YtdkailccfcijiaaDoor
open Go.RowKit
set_option linter.unusedVariables false
set_option linter.unusedSimpArgs false
set_option maxRecDepth 100000

theorem Sep.sub {w0 w : World} {L1 L2 : List Chunk} (h : Sep w0 w L2) (hs : L1.Sublist L2) : Sep w0 w L1 :=
  ⟨h.below, fun c hc => h.is c (hs.subset hc), fun c hc => h.lie c (hs.subset hc), h.apart.sublist hs⟩
theorem Sep.rev5 {w0 w : World} {a b c d e : Chunk} {L : List Chunk} (h : Sep w0 w (a :: b :: c :: d :: e :: L)) : Sep w0 w (e :: d :: c :: b :: a :: L) :=
  h.perm (by simpa using ((List.reverse_perm [a, b, c, d, e]).symm.append_right L))

set_option maxHeartbeats 60000000 in
theorem diffComposes (E : Nat → Addr) (w : World) (aA aB aL aM : Option Addr) (nA nB cA cB cL cM : Nat) (X Y : List C) (hE : Errs all13 E w)
    (hX : RdV CT w (.slice aL X.length cL) X) (hY : RdV CT w (.slice aM Y.length cM) Y) (hnX : X.length ≤ 1048576) (hnY : Y.length ≤ 1048576) (hsX : ∀ p ∈ X, p.new.size ≤ 4194304) :
    Calls Tryd.prog 5 #[.agg #[.slice aA nA cA, .slice aB nB cB, .slice aL X.length cL, .slice aM Y.length cM]] w fun e w' => e = .returned (.bool true) ∧ Below w.heap.size w w' := by
  have HE := Lib.hid hE
  have HX := Lib.hid hX
  have HY := Lib.hid hY
  have HS := Lib.hid hsX
  have hbX : (X.length + 1) * 56 ≤ 140737488355328 := by omega
  have hbY : (Y.length + 1) * 56 ≤ 140737488355328 := by omega
  clear hE hX hY hsX
  obtain ⟨xs, hxs⟩ : ∃ xs : List Value, xs = [.slice aA nA cA, .slice aB nB cB, .slice aL X.length cL, .slice aM Y.length cM] := ⟨_, rfl⟩
  have k2 : xs[2]? = some (.slice aL X.length cL) := by rw [hxs]; rfl
  have k3 : xs[3]? = some (.slice aM Y.length cM) := by rw [hxs]; rfl
  have S0 : Hid (Sep w (w.alloc (.cells #[.slice aA nA cA, .slice aB nB cB, .slice aL X.length cL, .slice aM Y.length cM] 25)) [blk w.heap.size 25 xs]) := Lib.hid (by rw [hxs]; exact (Sep.nil w).box 25 [.slice aA nA cA, .slice aB nB cB, .slice aL X.length cL, .slice aM Y.length cM])
  clear hxs
  have hBx : 0 + w.heap.size = w.heap.size := by omega
  obtain ⟨r1, o1, hp1, hl1, he1⟩ := composeL_at X Y
  obtain ⟨r3, o3, hp3, hl3, he3⟩ := composeL_at (second C.turn X) Y
  have HP1 := Lib.hid hp1
  have HP3 := Lib.hid hp3
  have HE1 := Lib.hid he1
  have HE3 := Lib.hid he3
  have hsN : (second C.turn X).length = X.length := second_length _ _
  clear hp1 hp3 he1 he3
  go_enter Tryd.func5, Tryd.ntmps5
  go_upto_region 2 with (first
    | (go_at_call 19; refine (changesV (HX.out.below S0.out.below) (by omega)).mono ?_; rintro e w1 ⟨v1, rfl, S1⟩)
    | (go_at_call 20; refine (lastChange _).mono ?_; rintro e w2 ⟨rfl, hw2⟩)
    | (at_builtin; refine app_sep elemC rfl (.tmp 20) (.tmp 22) rfl v1 X rfl (((S0.out.call S1).step hw2).alloc _) _ 1 1 [lastC] rfl (rd_new CT w2 lastC _ rfl 32) hbX ?_; intro v2 w3 S2 hkp))
  obtain ⟨ga, ca, rfl, hca1, hca2⟩ := row_front S2
  have T1 : Hid (Sep w w3 [row CT (.slice (some ⟨ga, 0, none⟩) (X.length + 1) ca) (X ++ [lastC]), blk w.heap.size 25 xs]) := Lib.hid S2
  have c3 := blk_mem T1.out (.tail _ (.head _)) 3 k3
  clear S1 S2 hw2 hkp
  go_upto_region 3 with (first
    | (go_at_call 19; refine (changesV (HY.out.below T1.out.below) (by omega)).mono ?_; rintro e w4 ⟨v4, rfl, S4⟩)
    | (go_at_call 20; refine (lastChange _).mono ?_; rintro e w5 ⟨rfl, hw5⟩)
    | (at_builtin; refine app_sep elemC rfl (.tmp 26) (.tmp 28) rfl v4 Y rfl (((T1.out.call S4).step hw5).alloc _) _ 1 1 [lastC] rfl (rd_new CT w5 lastC _ rfl 32) hbY ?_; intro v6 w6 S6 hkp))
  obtain ⟨gb, cb, rfl, hcb1, hcb2⟩ := row_front S6
  have T2 : Hid (Sep w w6 [row CT (.slice (some ⟨gb, 0, none⟩) (Y.length + 1) cb) (Y ++ [lastC]), row CT (.slice (some ⟨ga, 0, none⟩) (X.length + 1) ca) (X ++ [lastC]), blk w.heap.size 25 xs]) := Lib.hid S6
  clear S4 S6 hw5 hkp c3
  have c2 := blk_mem T2.out (.tail _ (.tail _ (.head _))) 2 k2
  have c3 := blk_mem T2.out (.tail _ (.tail _ (.head _))) 3 k3
  have x2 := xt_cell c2
  have x3 := xt_cell c3
  go_wp2
  refine xt_region (by kernel_rfl) (by kernel_rfl) ?_
  repeat (go_big_quiet_step (fail))
  refine wpQuiet_nil ?_
  intro _ hw'
  obtain ⟨m, rfl⟩ := hw'
  have T3 := Lib.hid (T2.out.step (xt_below w6 m))
  generalize wx w6 m = w7 at T3 ⊢
  clear x2 x3 c2 c3 T2
  go_upto_region 4 with fail
  have TQ : Hid (Sep w w7.drew [row CT (.slice (some ⟨gb, 0, none⟩) (Y.length + 1) cb) (Y ++ [lastC]), row CT (.slice (some ⟨ga, 0, none⟩) (X.length + 1) ca) (X ++ [lastC]), blk w.heap.size 25 xs]) := Lib.hid T3.out.drew
  go_cut [7, 8] (fun s7 s8 wx => s8 = errV E o1 ∧ Hid (Sep w wx [row CT s7 r1, row CT (.slice (some ⟨gb, 0, none⟩) (Y.length + 1) cb) (Y ++ [lastC]), row CT (.slice (some ⟨ga, 0, none⟩) (X.length + 1) ca) (X ++ [lastC]), blk w.heap.size 25 xs]))
  case first => as_aux_lemma =>
    have q1 : (0 : Int) ≤ (X.length : Int) := by omega
    have q2 : (X.length : Int) ≤ (ca : Int) := by omega
    have q3 : (0 : Int) ≤ (Y.length : Int) := by omega
    have q4 : (Y.length : Int) ≤ (cb : Int) := by omega
    go_region_held3 (fun _ => True) (trivial) (first
      | (go_at_call 34; refine (composeV HP1.out (HE.out.below TQ.out.below) (Row.rdv (row_cut (TQ.out.is (row CT (.slice (some ⟨ga, 0, none⟩) (X.length + 1) ca) (X ++ [lastC])) (by simp)))) (Row.rdv (row_cut (TQ.out.is (row CT (.slice (some ⟨gb, 0, none⟩) (Y.length + 1) cb) (Y ++ [lastC])) (by simp)))) (by omega)).mono ?_; rintro e w8 ⟨v8, rfl, S8⟩))
    all_goals (go_wp2_with fail; go_meet; exact ⟨rfl, TQ.out.call S8⟩)
  case rest =>
  obtain ⟨rfl, T4⟩ := hcut
  obtain ⟨a7, n7, c7_, e7⟩ : ∃ a n c, u7 = Value.slice a n c := by
    obtain ⟨a, c, e, _⟩ := Sep.rdv (T := CT) (v := u7) (l := r1) T4.out (by simp)
    exact ⟨_, _, _, e⟩
  subst e7
  clear T3 TQ
  generalize wc = w9 at T4 ⊢
  have TQ := Lib.hid T4.out
  have t1 : True := trivial
  have t2 : True := trivial
  go_upto_region 7 with (first
    | (go_at_call 35; clear t1; refine (invertV (Row.rdv (row_cut (TQ.out.is (row CT (.slice (some ⟨ga, 0, none⟩) (X.length + 1) ca) (X ++ [lastC])) (by simp)))) (by first | omega | (simp; omega))).mono ?_; rintro e wq ⟨v9, rfl, Sq⟩; replace TQ := Lib.hid (TQ.out.call Sq); clear Sq)
    | (go_at_call 35; clear t2; refine (invertV (Row.rdv (row_cut (TQ.out.is (row CT (.slice (some ⟨gb, 0, none⟩) (Y.length + 1) cb) (Y ++ [lastC])) (by simp)))) (by first | omega | (simp; omega))).mono ?_; rintro e wq ⟨v10, rfl, Sq⟩; replace TQ := Lib.hid (TQ.out.call Sq); clear Sq))
  have T5 : Hid (Sep w wq [row CT v10 (Y.map C.back), row CT v9 (X.map C.back), row CT (.slice a7 n7 c7_) r1, row CT (.slice (some ⟨gb, 0, none⟩) (Y.length + 1) cb) (Y ++ [lastC]), row CT (.slice (some ⟨ga, 0, none⟩) (X.length + 1) ca) (X ++ [lastC]), blk w.heap.size 25 xs]) := Lib.hid TQ.out
  obtain ⟨a10, n10, c10_, e10⟩ : ∃ a n c, v10 = Value.slice a n c := by
    obtain ⟨a, c, e, _⟩ := Sep.rdv (T := CT) (v := v10) (l := Y.map C.back) T5.out (by simp)
    exact ⟨_, _, _, e⟩
  subst e10
  obtain ⟨a9, n9, c9_, e9⟩ : ∃ a n c, v9 = Value.slice a n c := by
    obtain ⟨a, c, e, _⟩ := Sep.rdv (T := CT) (v := v9) (l := X.map C.back) T5.out (by simp)
    exact ⟨_, _, _, e⟩
  subst e9
  clear T4 TQ
  have TQ := Lib.hid T5.out.drew
  go_cut [11, 12] (fun s11 s12 wx => s12 = errV E o1 ∧ Hid (Sep w wx [row CT s11 r1, row CT (.slice a10 n10 c10_) (Y.map C.back), row CT (.slice a9 n9 c9_) (X.map C.back), row CT (.slice a7 n7 c7_) r1, row CT (.slice (some ⟨gb, 0, none⟩) (Y.length + 1) cb) (Y ++ [lastC]), row CT (.slice (some ⟨ga, 0, none⟩) (X.length + 1) ca) (X ++ [lastC]), blk w.heap.size 25 xs]))
  case first => as_aux_lemma =>
    have q1 : (0 : Int) ≤ (X.length : Int) := by omega
    have q2 : (X.length : Int) ≤ (ca : Int) := by omega
    have q3 : (0 : Int) ≤ (Y.length : Int) := by omega
    have q4 : (Y.length : Int) ≤ (cb : Int) := by omega
    go_region_held3 (fun _ => True) (trivial) (first
      | (go_at_call 34; refine (composeV HP1.out (HE.out.below TQ.out.below) (Row.rdv (row_cut (TQ.out.is (row CT (.slice (some ⟨ga, 0, none⟩) (X.length + 1) ca) (X ++ [lastC])) (by simp)))) (Row.rdv (row_cut (TQ.out.is (row CT (.slice (some ⟨gb, 0, none⟩) (Y.length + 1) cb) (Y ++ [lastC])) (by simp)))) (by omega)).mono ?_; rintro e w8 ⟨v8, rfl, S8⟩))
    all_goals (go_wp2_with fail; go_meet; exact ⟨rfl, TQ.out.call S8⟩)
  case rest =>
  obtain ⟨rfl, T6⟩ := hcut
  obtain ⟨a11, n11, c11_, e11⟩ : ∃ a n c, u11 = Value.slice a n c := by
    obtain ⟨a, c, e, _⟩ := Sep.rdv (T := CT) (v := u11) (l := r1) T6.out (by simp)
    exact ⟨_, _, _, e⟩
  subst e11
  clear T5 TQ
  generalize wc = w11 at T6 ⊢
  have TQ := Lib.hid T6.out
  have t1 : True := trivial
  go_upto_region 9 with (first
    | (go_at_call 35; clear t1; refine (invertV (Row.rdv (row_cut (TQ.out.is (row CT (.slice (some ⟨ga, 0, none⟩) (X.length + 1) ca) (X ++ [lastC])) (by simp)))) (by first | omega | (simp; omega))).mono ?_; rintro e wq ⟨v13, rfl, Sq⟩; replace TQ := Lib.hid (TQ.out.call Sq); clear Sq))
  have T7 : Hid (Sep w wq [row CT v13 (X.map C.back), row CT (.slice a11 n11 c11_) r1, row CT (.slice a10 n10 c10_) (Y.map C.back), row CT (.slice a9 n9 c9_) (X.map C.back), row CT (.slice a7 n7 c7_) r1, row CT (.slice (some ⟨gb, 0, none⟩) (Y.length + 1) cb) (Y ++ [lastC]), row CT (.slice (some ⟨ga, 0, none⟩) (X.length + 1) ca) (X ++ [lastC]), blk w.heap.size 25 xs]) := Lib.hid TQ.out
  obtain ⟨a13, n13, c13_, e13⟩ : ∃ a n c, v13 = Value.slice a n c := by
    obtain ⟨a, c, e, _⟩ := Sep.rdv (T := CT) (v := v13) (l := X.map C.back) T7.out (by simp)
    exact ⟨_, _, _, e⟩
  subst e13
  clear T6 TQ
  have TQ := Lib.hid T7.out.drew
  have t1 : True := trivial
  have t2 : True := trivial
  go_cut [14, 15] (fun s14 s15 wx => s15 = .int .i64 (numOf o1) ∧ Hid (Sep w wx [row CT s14 r1, row CT (.slice a13 n13 c13_) (X.map C.back), row CT (.slice a11 n11 c11_) r1, row CT (.slice a10 n10 c10_) (Y.map C.back), row CT (.slice a9 n9 c9_) (X.map C.back), row CT (.slice a7 n7 c7_) r1, row CT (.slice (some ⟨gb, 0, none⟩) (Y.length + 1) cb) (Y ++ [lastC]), row CT (.slice (some ⟨ga, 0, none⟩) (X.length + 1) ca) (X ++ [lastC]), blk w.heap.size 25 xs]))
  case first => as_aux_lemma =>
    have c2 := blk_mem TQ.out (g := w.heap.size) (t := 25) (cs := xs) (by simp) 2 k2; have c3 := blk_mem TQ.out (g := w.heap.size) (t := 25) (cs := xs) (by simp) 3 k3
    go_region_held3 (fun w' => w'.cell? ⟨w.heap.size, 2, none⟩ = some (.slice aL X.length cL) ∧ w'.cell? ⟨w.heap.size, 3, none⟩ = some (.slice aM Y.length cM)) (first | exact ⟨blk_mem TQ.out (g := w.heap.size) (t := 25) (cs := xs) (by simp) 2 k2, blk_mem TQ.out (g := w.heap.size) (t := 25) (cs := xs) (by simp) 3 k3⟩ | go_keep) (first
      | (go_at_call 19; clear t1; refine (changesV (HX.out.below TQ.out.below) (by omega)).mono ?_; rintro e wq ⟨vp, rfl, Sq⟩; replace TQ := Lib.hid (TQ.out.call Sq); clear Sq; have c2 := blk_mem TQ.out (g := w.heap.size) (t := 25) (cs := xs) (by simp) 2 k2; have c3 := blk_mem TQ.out (g := w.heap.size) (t := 25) (cs := xs) (by simp) 3 k3)
      | (go_at_call 19; clear t2; refine (changesV (HY.out.below TQ.out.below) (by omega)).mono ?_; rintro e wq ⟨vq, rfl, Sq⟩; replace TQ := Lib.hid (TQ.out.call Sq); clear Sq; have c2 := blk_mem TQ.out (g := w.heap.size) (t := 25) (cs := xs) (by simp) 2 k2; have c3 := blk_mem TQ.out (g := w.heap.size) (t := 25) (cs := xs) (by simp) 3 k3)
      | (go_at_call 36; refine (refComposeV HP1.out (TQ.out.rdv (v := vp) (l := X) (by simp)) (TQ.out.rdv (v := vq) (l := Y) (by simp)) (by omega)).mono ?_; rintro e wq ⟨vm, rfl, Sm⟩; replace TQ := Lib.hid (TQ.out.call Sm); clear Sm))
    all_goals (go_wp2_with fail; go_meet; exact ⟨rfl, TQ.out.drop1.drop1⟩)
  case rest =>
  obtain ⟨rfl, T8⟩ := hcut
  clear T7 TQ t1 t2
  generalize wc = w13 at T8 ⊢
  have TQ := Lib.hid T8.out
  have c2 := blk_mem TQ.out (g := w.heap.size) (t := 25) (cs := xs) (by simp) 2 k2; have c3 := blk_mem TQ.out (g := w.heap.size) (t := 25) (cs := xs) (by simp) 3 k3
  have t1 : True := trivial
  have t2 : True := trivial
  have t3 : True := trivial
  have t4 : True := trivial
  go_upto_region 12 with (first
    | (go_at_call 19; clear t1; refine (changesV (HX.out.below TQ.out.below) (by omega)).mono ?_; rintro e wq ⟨vp, rfl, Sq⟩; replace TQ := Lib.hid (TQ.out.call Sq); clear Sq; have c2 := blk_mem TQ.out (g := w.heap.size) (t := 25) (cs := xs) (by simp) 2 k2; have c3 := blk_mem TQ.out (g := w.heap.size) (t := 25) (cs := xs) (by simp) 3 k3)
    | (go_at_call 37; clear t2; refine (refInvertV (TQ.out.rdv (v := vp) (l := X) (by simp)) (by first | omega | (simp; omega))).mono ?_; rintro e wq ⟨v16, rfl, Sq⟩; replace TQ := Lib.hid (TQ.out.call Sq); clear Sq; have c2 := blk_mem TQ.out (g := w.heap.size) (t := 25) (cs := xs) (by simp) 2 k2; have c3 := blk_mem TQ.out (g := w.heap.size) (t := 25) (cs := xs) (by simp) 3 k3)
    | (go_at_call 19; clear t3; refine (changesV (HY.out.below TQ.out.below) (by omega)).mono ?_; rintro e wq ⟨vq, rfl, Sq⟩; replace TQ := Lib.hid (TQ.out.call Sq); clear Sq; have c2 := blk_mem TQ.out (g := w.heap.size) (t := 25) (cs := xs) (by simp) 2 k2; have c3 := blk_mem TQ.out (g := w.heap.size) (t := 25) (cs := xs) (by simp) 3 k3)
    | (go_at_call 37; clear t4; refine (refInvertV (TQ.out.rdv (v := vq) (l := Y) (by simp)) (by first | omega | (simp; omega))).mono ?_; rintro e wq ⟨v17, rfl, Sq⟩; replace TQ := Lib.hid (TQ.out.call Sq); clear Sq; have c2 := blk_mem TQ.out (g := w.heap.size) (t := 25) (cs := xs) (by simp) 2 k2; have c3 := blk_mem TQ.out (g := w.heap.size) (t := 25) (cs := xs) (by simp) 3 k3))
  clear c2 c3 T8
  have t1 : True := trivial
  have t2 : True := trivial
  have t3 : True := trivial
  have t4 : True := trivial
  have t5 : True := trivial
  have t6 : True := trivial
  have t7 : True := trivial
  go_upto_region 16 with (first
    | (go_at_call 23; clear t1; refine (num_any E _ (HE.out.below TQ.out.below) o1 HE1.out).mono ?_; rintro e wq ⟨rfl, hq⟩; replace TQ := Lib.hid (TQ.out.step hq); clear hq)
    | (go_at_call 23; clear t2; refine (num_any E _ (HE.out.below TQ.out.below) o1 HE1.out).mono ?_; rintro e wq ⟨rfl, hq⟩; replace TQ := Lib.hid (TQ.out.step hq); clear hq)
    | (go_at_call 32; clear t3; refine (sameCV (TQ.out.rdv (v := (.slice a7 n7 c7_)) (l := r1) (by simp)) (TQ.out.rdv (v := u14) (l := r1) (by simp))).mono ?_; rintro e wq ⟨rfl, hq⟩; replace TQ := Lib.hid (TQ.out.step hq); clear hq)
    | (go_at_call 32; clear t4; refine (sameCV (TQ.out.rdv (v := (.slice a11 n11 c11_)) (l := r1) (by simp)) (TQ.out.rdv (v := u14) (l := r1) (by simp))).mono ?_; rintro e wq ⟨rfl, hq⟩; replace TQ := Lib.hid (TQ.out.step hq); clear hq)
    | (go_at_call 32; clear t5; refine (sameCV (TQ.out.rdv (v := (.slice a9 n9 c9_)) (l := X.map C.back) (by simp)) (TQ.out.rdv (v := v16) (l := X.map C.back) (by simp))).mono ?_; rintro e wq ⟨rfl, hq⟩; replace TQ := Lib.hid (TQ.out.step hq); clear hq)
    | (go_at_call 32; clear t6; refine (sameCV (TQ.out.rdv (v := (.slice a13 n13 c13_)) (l := X.map C.back) (by simp)) (TQ.out.rdv (v := v16) (l := X.map C.back) (by simp))).mono ?_; rintro e wq ⟨rfl, hq⟩; replace TQ := Lib.hid (TQ.out.step hq); clear hq)
    | (go_at_call 32; clear t7; refine (sameCV (TQ.out.rdv (v := (.slice a10 n10 c10_)) (l := Y.map C.back) (by simp)) (TQ.out.rdv (v := v17) (l := Y.map C.back) (by simp))).mono ?_; rintro e wq ⟨rfl, hq⟩; replace TQ := Lib.hid (TQ.out.step hq); clear hq))
  have T9 : Hid (Sep w wq [row CT (.slice a13 n13 c13_) (X.map C.back), row CT (.slice a11 n11 c11_) r1, row CT (.slice a10 n10 c10_) (Y.map C.back), row CT (.slice a9 n9 c9_) (X.map C.back), row CT (.slice a7 n7 c7_) r1, row CT (.slice (some ⟨gb, 0, none⟩) (Y.length + 1) cb) (Y ++ [lastC]), row CT (.slice (some ⟨ga, 0, none⟩) (X.length + 1) ca) (X ++ [lastC]), blk w.heap.size 25 xs]) := Lib.hid (TQ.out.sub (by repeat' (first | exact List.Sublist.refl _ | apply List.Sublist.cons_cons | apply List.Sublist.cons)))
  clear TQ
  have TQ := Lib.hid T9.out
  clear T9
  have c2 := blk_mem TQ.out (g := w.heap.size) (t := 25) (cs := xs) (by simp) 2 k2; have c3 := blk_mem TQ.out (g := w.heap.size) (t := 25) (cs := xs) (by simp) 3 k3
  have hlen5 : ∀ l ∈ [r1, X.map C.back, Y.map C.back, r1, X.map C.back], l.length ≤ 8388608 := by intro l hl; simp at hl; rcases hl with rfl | rfl | rfl | rfl | rfl <;> first | omega | (simp; omega)
  have t1 : True := trivial
  have t2 : True := trivial
  go_upto_region 18 with (first
    | (go_at_call 26; clear t1; refine (keptCV (TQ.out.rdv (v := (.slice (some ⟨ga, 0, none⟩) (X.length + 1) ca)) (l := X ++ [lastC]) (by simp)) (HX.out.below TQ.out.below)).mono ?_; rintro e wq ⟨rfl, hq⟩; replace TQ := Lib.hid (TQ.out.step hq); clear hq; have c2 := blk_mem TQ.out (g := w.heap.size) (t := 25) (cs := xs) (by simp) 2 k2; have c3 := blk_mem TQ.out (g := w.heap.size) (t := 25) (cs := xs) (by simp) 3 k3)
    | (go_at_call 26; clear t2; refine (keptCV (TQ.out.rdv (v := (.slice (some ⟨gb, 0, none⟩) (Y.length + 1) cb)) (l := Y ++ [lastC]) (by simp)) (HY.out.below TQ.out.below)).mono ?_; rintro e wq ⟨rfl, hq⟩; replace TQ := Lib.hid (TQ.out.step hq); clear hq; have c2 := blk_mem TQ.out (g := w.heap.size) (t := 25) (cs := xs) (by simp) 2 k2; have c3 := blk_mem TQ.out (g := w.heap.size) (t := 25) (cs := xs) (by simp) 3 k3)
    | (go_at_call 33; refine (apart w _ _ wq.heap.size 5 [.slice a7 n7 c7_, .slice a9 n9 c9_, .slice a10 n10 c10_, .slice a11 n11 c11_, .slice a13 n13 c13_] [r1, X.map C.back, Y.map C.back, r1, X.map C.back] rfl rfl (by decide) hlen5 (Sep.down [row CT (.slice a7 n7 c7_) r1, row CT (.slice a9 n9 c9_) (X.map C.back), row CT (.slice a10 n10 c10_) (Y.map C.back), row CT (.slice a11 n11 c11_) r1, row CT (.slice a13 n13 c13_) (X.map C.back)] ((TQ.out.rev5).boxAt 23 [.slice a7 n7 c7_, .slice a9 n9 c9_, .slice a10 n10 c10_, .slice a11 n11 c11_, .slice a13 n13 c13_] wq.heap.size rfl))).mono ?_; rintro e w14 ⟨rfl, T13⟩))
  have T14 : Hid (Sep w w14 [row CT (.slice (some ⟨gb, 0, none⟩) (Y.length + 1) cb) (Y ++ [lastC]), row CT (.slice (some ⟨ga, 0, none⟩) (X.length + 1) ca) (X ++ [lastC]), blk w.heap.size 25 xs]) := Lib.hid T13
  clear T13 TQ c2 c3
  have TQ := Lib.hid (Sep.up1 T14.out)
  have c2 := blk_mem TQ.out (g := w.heap.size) (t := 25) (cs := xs) (by simp) 2 k2; have c3 := blk_mem TQ.out (g := w.heap.size) (t := 25) (cs := xs) (by simp) 3 k3
  have t1 : True := trivial
  have t2 : True := trivial
  go_upto_region 19 with (first
    | (go_at_call 28; clear t1; refine (otherwise w _ _ _ X TQ.out.cut HS.out (by omega)).mono ?_; rintro e wq ⟨rfl, Sq⟩; replace TQ := Lib.hid Sq; clear Sq; have c2 := blk_mem TQ.out (g := w.heap.size) (t := 25) (cs := xs) (by simp) 2 k2; have c3 := blk_mem TQ.out (g := w.heap.size) (t := 25) (cs := xs) (by simp) 3 k3)
    | (go_at_call 35; clear t2; refine (invertV (TQ.out.rdv (.head _)) (by first | omega | (simp; omega))).mono ?_; rintro e wq ⟨v9, rfl, Sq⟩; replace TQ := Lib.hid (TQ.out.call Sq); clear Sq; have c2 := blk_mem TQ.out (g := w.heap.size) (t := 25) (cs := xs) (by simp) 2 k2; have c3 := blk_mem TQ.out (g := w.heap.size) (t := 25) (cs := xs) (by simp) 3 k3))
  have T15 : Hid (Sep w wq [row CT v9 ((second C.turn X).map C.back), row CT (.slice (some ⟨ga, 0, none⟩) X.length ca) (second C.turn X), row CT (.slice (some ⟨gb, 0, none⟩) (Y.length + 1) cb) (Y ++ [lastC]), blk w.heap.size 25 xs]) := Lib.hid TQ.out
  clear T14 TQ c2 c3
  have TQ := Lib.hid T15.out.drew
  go_cut [7, 8] (fun s7 s8 wx => s8 = errV E o3 ∧ Hid (Sep w wx [row CT s7 r3, row CT v9 ((second C.turn X).map C.back), row CT (.slice (some ⟨ga, 0, none⟩) X.length ca) (second C.turn X), row CT (.slice (some ⟨gb, 0, none⟩) (Y.length + 1) cb) (Y ++ [lastC]), blk w.heap.size 25 xs]))
  case first => as_aux_lemma =>
    have q1 : (0 : Int) ≤ (X.length : Int) := by omega
    have q2 : (X.length : Int) ≤ (ca : Int) := by omega
    have q3 : (0 : Int) ≤ (Y.length : Int) := by omega
    have q4 : (Y.length : Int) ≤ (cb : Int) := by omega
    go_region_held3 (fun _ => True) (trivial) (first
      | (go_at_call 34; refine (composeV HP3.out (HE.out.below TQ.out.below) (TQ.out.rdv (v := .slice (some ⟨ga, 0, none⟩) X.length ca) (l := (second C.turn X)) (by simp)) (Row.rdv (row_cut (TQ.out.is (row CT (.slice (some ⟨gb, 0, none⟩) (Y.length + 1) cb) (Y ++ [lastC])) (by simp)))) (by omega)).mono ?_; rintro e w8 ⟨v8, rfl, S8⟩))
    all_goals (go_wp2_with fail; go_meet; exact ⟨rfl, TQ.out.call S8⟩)
  case rest =>
  obtain ⟨rfl, T16⟩ := hcut
  clear TQ T15
  generalize wc = w16 at T16 ⊢
  go_upto_region 20 with fail
  have TQ := Lib.hid T16.out.drew
  have t1 : True := trivial
  have t2 : True := trivial
  have t3 : True := trivial
  go_cut [14, 15] (fun s14 s15 wx => s15 = .int .i64 (numOf o3) ∧ Hid (Sep w wx [row CT s14 r3, row CT u7 r3, row CT v9 ((second C.turn X).map C.back), row CT (.slice (some ⟨ga, 0, none⟩) X.length ca) (second C.turn X), row CT (.slice (some ⟨gb, 0, none⟩) (Y.length + 1) cb) (Y ++ [lastC]), blk w.heap.size 25 xs]))
  case first => as_aux_lemma =>
    have c2 := blk_mem TQ.out (g := w.heap.size) (t := 25) (cs := xs) (by simp) 2 k2; have c3 := blk_mem TQ.out (g := w.heap.size) (t := 25) (cs := xs) (by simp) 3 k3
    go_region_held3 (fun w' => w'.cell? ⟨w.heap.size, 2, none⟩ = some (.slice aL X.length cL) ∧ w'.cell? ⟨w.heap.size, 3, none⟩ = some (.slice aM Y.length cM)) (first | exact ⟨blk_mem TQ.out (g := w.heap.size) (t := 25) (cs := xs) (by simp) 2 k2, blk_mem TQ.out (g := w.heap.size) (t := 25) (cs := xs) (by simp) 3 k3⟩ | go_keep) (first
      | (go_at_call 19; clear t1; refine (changesV (HX.out.below TQ.out.below) (by omega)).mono ?_; rintro e wq ⟨vp, rfl, Sq⟩; replace TQ := Lib.hid (TQ.out.call Sq); clear Sq; have c2 := blk_mem TQ.out (g := w.heap.size) (t := 25) (cs := xs) (by simp) 2 k2; have c3 := blk_mem TQ.out (g := w.heap.size) (t := 25) (cs := xs) (by simp) 3 k3)
      | (go_at_call 28; clear t2; refine (otherwise w _ _ vp X TQ.out HS.out (by omega)).mono ?_; rintro e wq ⟨rfl, Sq⟩; replace TQ := Lib.hid Sq; clear Sq; have c2 := blk_mem TQ.out (g := w.heap.size) (t := 25) (cs := xs) (by simp) 2 k2; have c3 := blk_mem TQ.out (g := w.heap.size) (t := 25) (cs := xs) (by simp) 3 k3)
      | (go_at_call 19; clear t3; refine (changesV (HY.out.below TQ.out.below) (by omega)).mono ?_; rintro e wq ⟨vq, rfl, Sq⟩; replace TQ := Lib.hid (TQ.out.call Sq); clear Sq; have c2 := blk_mem TQ.out (g := w.heap.size) (t := 25) (cs := xs) (by simp) 2 k2; have c3 := blk_mem TQ.out (g := w.heap.size) (t := 25) (cs := xs) (by simp) 3 k3)
      | (go_at_call 36; refine (refComposeV HP3.out (TQ.out.rdv (v := vp) (l := (second C.turn X)) (by simp)) (TQ.out.rdv (v := vq) (l := Y) (by simp)) (by omega)).mono ?_; rintro e wq ⟨vm, rfl, Sm⟩; replace TQ := Lib.hid (TQ.out.call Sm); clear Sm))
    all_goals (go_wp2_with fail; go_meet; exact ⟨rfl, TQ.out.drop1.drop1⟩)
  case rest =>
  obtain ⟨rfl, T17⟩ := hcut
  clear TQ T16 t1 t2 t3
  generalize wc = w17 at T17 ⊢
  have TQ := Lib.hid T17.out
  have c2 := blk_mem TQ.out (g := w.heap.size) (t := 25) (cs := xs) (by simp) 2 k2; have c3 := blk_mem TQ.out (g := w.heap.size) (t := 25) (cs := xs) (by simp) 3 k3
  have t1 : True := trivial
  have t2 : True := trivial
  have t3 : True := trivial
  go_upto_region 22 with (first
    | (go_at_call 19; clear t1; refine (changesV (HX.out.below TQ.out.below) (by omega)).mono ?_; rintro e wq ⟨vp, rfl, Sq⟩; replace TQ := Lib.hid (TQ.out.call Sq); clear Sq; have c2 := blk_mem TQ.out (g := w.heap.size) (t := 25) (cs := xs) (by simp) 2 k2; have c3 := blk_mem TQ.out (g := w.heap.size) (t := 25) (cs := xs) (by simp) 3 k3)
    | (go_at_call 28; clear t2; refine (otherwise w _ _ vp X TQ.out HS.out (by omega)).mono ?_; rintro e wq ⟨rfl, Sq⟩; replace TQ := Lib.hid Sq; clear Sq; have c2 := blk_mem TQ.out (g := w.heap.size) (t := 25) (cs := xs) (by simp) 2 k2; have c3 := blk_mem TQ.out (g := w.heap.size) (t := 25) (cs := xs) (by simp) 3 k3)
    | (go_at_call 37; clear t3; refine (refInvertV (TQ.out.rdv (v := vp) (l := (second C.turn X)) (by simp)) (by first | omega | (simp; omega))).mono ?_; rintro e wq ⟨v16, rfl, Sq⟩; replace TQ := Lib.hid (TQ.out.call Sq); clear Sq; have c2 := blk_mem TQ.out (g := w.heap.size) (t := 25) (cs := xs) (by simp) 2 k2; have c3 := blk_mem TQ.out (g := w.heap.size) (t := 25) (cs := xs) (by simp) 3 k3))
  clear c2 c3
  have t1 : True := trivial
  have t2 : True := trivial
  have t3 : True := trivial
  go_wp2_with (first
    | (go_at_call 23; clear t1; refine (num_any E _ (HE.out.below TQ.out.below) o3 HE3.out).mono ?_; rintro e wq ⟨rfl, hq⟩; replace TQ := Lib.hid (TQ.out.step hq); clear hq)
    | (go_at_call 32; clear t2; refine (sameCV (TQ.out.rdv (v := u7) (l := r3) (by simp)) (TQ.out.rdv (v := u14) (l := r3) (by simp))).mono ?_; rintro e wq ⟨rfl, hq⟩; replace TQ := Lib.hid (TQ.out.step hq); clear hq)
    | (go_at_call 32; clear t3; refine (sameCV (TQ.out.rdv (v := v9) (l := (second C.turn X).map C.back) (by simp)) (TQ.out.rdv (v := v16) (l := (second C.turn X).map C.back) (by simp))).mono ?_; rintro e wq ⟨rfl, hq⟩; replace TQ := Lib.hid (TQ.out.step hq); clear hq))
  go_ret
  exact ⟨rfl, TQ.out.below⟩
end Go.Proofs.YtdkailccfcijiaaDoor
