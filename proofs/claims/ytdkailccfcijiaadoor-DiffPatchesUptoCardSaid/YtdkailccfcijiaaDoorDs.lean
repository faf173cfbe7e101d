/- The law DiffPatches, walked. Conditions: the lengths and sizes. -/
import Derived.Test.YtdkailccfcijiaaDoorDr
import Derived.Deep.RegionWith
import Derived.Deep.RegionHeld3
import Derived.Deep.DeepCutAuto
namespace Go.Proofs.YtdkailccfcijiaaDoor
open Go.RowKit
set_option linter.unusedVariables false
set_option linter.unusedSimpArgs false
set_option maxRecDepth 100000

set_option maxHeartbeats 60000000 in
theorem diffPatches (E : Nat → Addr) (w : World) (aA aB aL aM : Option Addr) (nB nM cA cB cL cM : Nat) (A : List P) (M : List C) (hE : Errs all13 E w)
    (hA : RdV PT w (.slice aA A.length cA) A) (hL : RdV CT w (.slice aL M.length cL) M) (hnA : A.length ≤ 1048576) (hnL : M.length ≤ 1048576) (hsA : ∀ p ∈ A, p.v.size ≤ 4194304) (hsL : ∀ p ∈ M, p.new.size ≤ 4194304) :
    Calls Tryd.prog 3 #[.agg #[.slice aA A.length cA, .slice aB nB cB, .slice aL M.length cL, .slice aM nM cM]] w fun e w' => e = .returned (.bool true) ∧ Below w.heap.size w w' := by
  have HE := Lib.hid hE
  have HA := Lib.hid hA
  have HL := Lib.hid hL
  have HS := Lib.hid (And.intro hsA hsL)
  have hbP : (A.length + 1) * 32 ≤ 140737488355328 := by omega
  have hbC : (M.length + 1) * 56 ≤ 140737488355328 := by omega
  clear hE hA hL hsA hsL
  obtain ⟨xs, hxs⟩ : ∃ xs : List Value, xs = [.slice aA A.length cA, .slice aB nB cB, .slice aL M.length cL, .slice aM nM cM] := ⟨_, rfl⟩
  have k0 : xs[0]? = some (.slice aA A.length cA) := by rw [hxs]; rfl
  have k2 : xs[2]? = some (.slice aL M.length cL) := by rw [hxs]; rfl
  have S0 : Hid (Sep w (w.alloc (.cells #[.slice aA A.length cA, .slice aB nB cB, .slice aL M.length cL, .slice aM nM cM] 25)) [blk w.heap.size 25 xs]) := Lib.hid (by rw [hxs]; exact (Sep.nil w).box 25 [.slice aA A.length cA, .slice aB nB cB, .slice aL M.length cL, .slice aM nM cM])
  clear hxs
  have hBx : 0 + w.heap.size = w.heap.size := by omega
  obtain ⟨r1, o1, hp1, hl1, he1⟩ := patchL_at A M
  obtain ⟨r2, o2, hp2, hl2, he2⟩ := patchL_at A []
  have HP1 := Lib.hid hp1
  have HP2 := Lib.hid hp2
  have HE1 := Lib.hid he1
  have HE2 := Lib.hid he2
  obtain ⟨r3, o3, hp3, hl3, he3⟩ := patchL_at A (second C.turn M)
  obtain ⟨r4, o4, hp4, hl4, he4⟩ := patchL_at (second P.turn A) (second C.turn M)
  have HP3 := Lib.hid hp3
  have HP4 := Lib.hid hp4
  have HE3 := Lib.hid he3
  have HE4 := Lib.hid he4
  have hsM : (second C.turn M).length = M.length := second_length _ _
  have hsN : (second P.turn A).length = A.length := second_length _ _
  simp only [List.length_nil, Nat.add_zero] at hl2
  clear hp1 hp2 he1 he2 hp3 hp4 he3 he4
  go_enter Tryd.func3, Tryd.ntmps3
  go_upto_region 2 with (first
    | (go_at_call 17; refine (pairsV (HA.out.below S0.out.below) (by omega)).mono ?_; rintro e w1 ⟨v1, rfl, S1⟩)
    | (go_at_call 18; refine (lastPair _).mono ?_; rintro e w2 ⟨rfl, hw2⟩)
    | (at_builtin; refine app_sep elemP rfl (.tmp 19) (.tmp 21) rfl v1 A rfl (((S0.out.call S1).step hw2).alloc _) _ 1 1 [lastP] rfl (rd_new PT w2 lastP _ rfl 28) hbP ?_; intro v2 w3 S2 hkp))
  obtain ⟨ga, ca, rfl, hca1, hca2⟩ := row_front S2
  have T1 : Hid (Sep w w3 [row PT (.slice (some ⟨ga, 0, none⟩) (A.length + 1) ca) (A ++ [lastP]), blk w.heap.size 25 xs]) := Lib.hid S2
  have c2 := blk_mem T1.out (.tail _ (.head _)) 2 k2
  clear S1 S2 hw2 hkp
  go_upto_region 3 with (first
    | (go_at_call 19; refine (changesV (HL.out.below T1.out.below) (by omega)).mono ?_; rintro e w4 ⟨v4, rfl, S4⟩)
    | (go_at_call 20; refine (lastChange _).mono ?_; rintro e w5 ⟨rfl, hw5⟩)
    | (at_builtin; refine app_sep elemC rfl (.tmp 25) (.tmp 27) rfl v4 M rfl (((T1.out.call S4).step hw5).alloc _) _ 1 1 [lastC] rfl (rd_new CT w5 lastC _ rfl 32) hbC ?_; intro v6 w6 S6 hkp))
  obtain ⟨gc, cc, rfl, hcc1, hcc2⟩ := row_front S6
  have T2 : Hid (Sep w w6 [row CT (.slice (some ⟨gc, 0, none⟩) (M.length + 1) cc) (M ++ [lastC]), row PT (.slice (some ⟨ga, 0, none⟩) (A.length + 1) ca) (A ++ [lastP]), blk w.heap.size 25 xs]) := Lib.hid S6
  clear S4 S6 hw5 hkp c2
  have c0 := blk_mem T2.out (.tail _ (.tail _ (.head _))) 0 k0
  have c2 := blk_mem T2.out (.tail _ (.tail _ (.head _))) 2 k2
  have x0 := xt_cell c0
  have x2 := xt_cell c2
  go_wp2
  refine xt_region (by kernel_rfl) (by kernel_rfl) ?_
  repeat (go_big_quiet_step (fail))
  refine wpQuiet_nil ?_
  intro _ hw'
  obtain ⟨m, rfl⟩ := hw'
  have T3 := Lib.hid (T2.out.step (xt_below w6 m))
  generalize wx w6 m = w7 at T3 ⊢
  clear x0 x2 c0 c2 T2
  go_upto_region 4 with fail
  go_cut [7, 8] (fun s7 s8 wx => s8 = errV E o1 ∧ Hid (Sep w wx [row PT s7 r1, row CT (.slice (some ⟨gc, 0, none⟩) (M.length + 1) cc) (M ++ [lastC]), row PT (.slice (some ⟨ga, 0, none⟩) (A.length + 1) ca) (A ++ [lastP]), blk w.heap.size 25 xs]))
  case first => as_aux_lemma =>
    have q1 : (0 : Int) ≤ (A.length : Int) := by omega
    have q2 : (A.length : Int) ≤ (ca : Int) := by omega
    have q3 : (0 : Int) ≤ (M.length : Int) := by omega
    have q4 : (M.length : Int) ≤ (cc : Int) := by omega
    go_region_held3 (fun _ => True) (trivial) (first | (go_at_call 21; refine (patchV HP1.out (HE.out.below T3.out.drew.below) (Row.rdv (row_cut (T3.out.drew.is _ (.tail _ (.head _))))) (Row.rdv (row_cut T3.out.drew.hd)) (by omega)).mono ?_; rintro e w8 ⟨v8, rfl, S8⟩))
    all_goals (go_wp2_with fail; go_meet; exact ⟨rfl, T3.out.drew.call S8⟩)
  case rest =>
  obtain ⟨rfl, T4⟩ := hcut
  obtain ⟨a7, c7, e7, _, _, _⟩ := Sep.rdv T4.out (.head _)
  subst e7
  clear T3
  go_upto_region 6 with (go_at_call 21; refine (patchV HP2.out (HE.out.below T4.out.below) (Row.rdv (row_cut (T4.out.is _ (.tail _ (.tail _ (.head _)))))) (RdV.nil CT _) (by simp; omega)).mono ?_; rintro e w9 ⟨v9, rfl, S9⟩)
  have T5 : Hid (Sep w w9 [row PT v9 r2, row PT (.slice a7 r1.length c7) r1, row CT (.slice (some ⟨gc, 0, none⟩) (M.length + 1) cc) (M ++ [lastC]), row PT (.slice (some ⟨ga, 0, none⟩) (A.length + 1) ca) (A ++ [lastP]), blk w.heap.size 25 xs]) := Lib.hid (T4.out.call S9)
  obtain ⟨a9, c9, e9, _, _, _⟩ := Sep.rdv T5.out (.head _)
  subst e9
  clear T4 S9
  go_cut [11, 12] (fun s11 s12 wx => Hid (Sep w wx [row PT s11 r1, row PT (.slice a9 r2.length c9) r2, row PT (.slice a7 r1.length c7) r1, row CT (.slice (some ⟨gc, 0, none⟩) (M.length + 1) cc) (M ++ [lastC]), row PT (.slice (some ⟨ga, 0, none⟩) (A.length + 1) ca) (A ++ [lastP]), blk w.heap.size 25 xs]))
  case first => as_aux_lemma =>
    have q1 : (0 : Int) ≤ (A.length : Int) := by omega
    have q2 : (A.length : Int) ≤ (ca : Int) := by omega
    have q3 : (0 : Int) ≤ (M.length : Int) := by omega
    have q4 : (M.length : Int) ≤ (cc : Int) := by omega
    go_region_held3 (fun _ => True) (trivial) (first | (go_at_call 21; refine (patchV HP1.out (HE.out.below T5.out.drew.below) (Row.rdv (row_cut (T5.out.drew.is _ (.tail _ (.tail _ (.tail _ (.head _))))))) (Row.rdv (row_cut (T5.out.drew.is _ (.tail _ (.tail _ (.head _)))))) (by omega)).mono ?_; rintro e w8 ⟨v8, rfl, S8⟩))
    all_goals (go_wp2_with fail; go_meet; exact T5.out.drew.call S8)
  case rest =>
  have T6 := Lib.hid hcut.out
  clear hcut T5
  obtain ⟨a11, c11, e11, _, _, _⟩ := Sep.rdv T6.out (.head _)
  subst e11
  generalize wc = w10 at T6 ⊢
  go_upto_region 7 with fail
  have c0 := blk_mem T6.out (g := w.heap.size) (t := 25) (cs := xs) (by simp) 0 k0
  have c2 := blk_mem T6.out (g := w.heap.size) (t := 25) (cs := xs) (by simp) 2 k2
  have TQ := Lib.hid T6.out.drew
  go_cut [13, 14] (fun s13 s14 wx => s14 = .int .i64 (numOf o1) ∧ Hid (Sep w wx [row PT s13 r1, row PT (.slice a11 r1.length c11) r1, row PT (.slice a9 r2.length c9) r2, row PT (.slice a7 r1.length c7) r1, row CT (.slice (some ⟨gc, 0, none⟩) (M.length + 1) cc) (M ++ [lastC]), row PT (.slice (some ⟨ga, 0, none⟩) (A.length + 1) ca) (A ++ [lastP]), blk w.heap.size 25 xs]))
  case first => as_aux_lemma =>
    go_region_held3 (fun w' => w'.cell? ⟨w.heap.size, 0, none⟩ = some (.slice aA A.length cA) ∧ w'.cell? ⟨w.heap.size, 2, none⟩ = some (.slice aL M.length cL)) (first | exact ⟨blk_mem TQ.out (g := w.heap.size) (t := 25) (cs := xs) (by simp) 0 k0, blk_mem TQ.out (g := w.heap.size) (t := 25) (cs := xs) (by simp) 2 k2⟩ | go_keep) (first
      | (go_at_call 17; refine (pairsV (HA.out.below TQ.out.below) (by omega)).mono ?_; rintro e wq ⟨vp, rfl, Sp⟩; replace TQ := Lib.hid (TQ.out.call Sp); clear Sp; have c0 := blk_mem TQ.out (g := w.heap.size) (t := 25) (cs := xs) (by simp) 0 k0; have c2 := blk_mem TQ.out (g := w.heap.size) (t := 25) (cs := xs) (by simp) 2 k2)
      | (go_at_call 19; refine (changesV (HL.out.below TQ.out.below) (by omega)).mono ?_; rintro e wq ⟨vq, rfl, Sq⟩; replace TQ := Lib.hid (TQ.out.call Sq); clear Sq; have c0 := blk_mem TQ.out (g := w.heap.size) (t := 25) (cs := xs) (by simp) 0 k0; have c2 := blk_mem TQ.out (g := w.heap.size) (t := 25) (cs := xs) (by simp) 2 k2)
      | (go_at_call 22; refine (refPatchV HP1.out (TQ.out.rdv (v := vp) (l := A) (by simp)) (TQ.out.rdv (v := vq) (l := M) (by simp)) (by omega)).mono ?_; rintro e wq ⟨vm, rfl, Sm⟩; replace TQ := Lib.hid (TQ.out.call Sm); clear Sm))
    all_goals (go_wp2_with fail; go_meet; exact ⟨rfl, TQ.out.drop1.drop1⟩)
  case rest => as_aux_lemma =>
  obtain ⟨rfl, T7⟩ := hcut
  clear T6 TQ c0 c2
  generalize wc = w11 at T7 ⊢
  have TQ := Lib.hid T7.out
  have c0 := blk_mem TQ.out (g := w.heap.size) (t := 25) (cs := xs) (by simp) 0 k0
  have c2 := blk_mem TQ.out (g := w.heap.size) (t := 25) (cs := xs) (by simp) 2 k2
  go_upto_region 9 with (first
    | (go_at_call 17; refine (pairsV (HA.out.below TQ.out.below) (by omega)).mono ?_; rintro e wq ⟨vp, rfl, Sp⟩; replace TQ := Lib.hid (TQ.out.call Sp); clear Sp)
    | (go_at_call 22; refine (refPatchV HP2.out (TQ.out.rdv (v := vp) (l := A) (by simp)) (RdV.nil CT _) (by simp; omega)).mono ?_; rintro e w12 ⟨v15, rfl, Sm⟩))
  have T8 : Hid (Sep w w12 [row PT v15 r2, row PT u13 r1, row PT (.slice a11 r1.length c11) r1, row PT (.slice a9 r2.length c9) r2, row PT (.slice a7 r1.length c7) r1, row CT (.slice (some ⟨gc, 0, none⟩) (M.length + 1) cc) (M ++ [lastC]), row PT (.slice (some ⟨ga, 0, none⟩) (A.length + 1) ca) (A ++ [lastP]), blk w.heap.size 25 xs]) := Lib.hid (TQ.out.call Sm).drop1
  clear T7 TQ Sm c0 c2
  have TQ := Lib.hid T8.out
  have t1 : True := trivial
  have t2 : True := trivial
  have t3 : True := trivial
  have t4 : True := trivial
  have t5 : True := trivial
  go_upto_region 11 with (first
    | (go_at_call 23; clear t1; refine (num_any E _ (HE.out.below TQ.out.below) o1 HE1.out).mono ?_; rintro e wq ⟨rfl, hq⟩; replace TQ := Lib.hid (TQ.out.step hq); clear hq)
    | (go_at_call 23; clear t2; refine (num_any E _ (HE.out.below TQ.out.below) o2 HE2.out).mono ?_; rintro e wq ⟨rfl, hq⟩; replace TQ := Lib.hid (TQ.out.step hq); clear hq)
    | (go_at_call 24; clear t3; refine (sameV (TQ.out.rdv (v := .slice a7 r1.length c7) (l := r1) (by simp)) (TQ.out.rdv (v := u13) (l := r1) (by simp))).mono ?_; rintro e wq ⟨rfl, hq⟩; replace TQ := Lib.hid (TQ.out.step hq); clear hq)
    | (go_at_call 24; clear t4; refine (sameV (TQ.out.rdv (v := .slice a9 r2.length c9) (l := r2) (by simp)) (TQ.out.rdv (v := v15) (l := r2) (by simp))).mono ?_; rintro e wq ⟨rfl, hq⟩; replace TQ := Lib.hid (TQ.out.step hq); clear hq)
    | (go_at_call 24; clear t5; refine (sameV (TQ.out.rdv (v := .slice a11 r1.length c11) (l := r1) (by simp)) (TQ.out.rdv (v := u13) (l := r1) (by simp))).mono ?_; rintro e wq ⟨rfl, hq⟩; replace TQ := Lib.hid (TQ.out.step hq); clear hq))
  have T9 : Hid (Sep w wq [row PT (.slice a7 r1.length c7) r1, row PT (.slice a9 r2.length c9) r2, row PT (.slice a11 r1.length c11) r1, row CT (.slice (some ⟨gc, 0, none⟩) (M.length + 1) cc) (M ++ [lastC]), row PT (.slice (some ⟨ga, 0, none⟩) (A.length + 1) ca) (A ++ [lastP]), blk w.heap.size 25 xs]) := Lib.hid ((Sep.up2 TQ.out.tl.tl).perm (List.Perm.cons _ (List.Perm.swap ..)))
  have hlen3 : ∀ l ∈ [r1, r2, r1], l.length ≤ 8388608 := by intro l hl; simp at hl; rcases hl with rfl | rfl | rfl <;> omega
  clear TQ T8
  have TQ := Lib.hid T9.out
  have c0 := blk_mem TQ.out (g := w.heap.size) (t := 25) (cs := xs) (by simp) 0 k0
  have c2 := blk_mem TQ.out (g := w.heap.size) (t := 25) (cs := xs) (by simp) 2 k2
  go_upto_region 13 with (first
    | (go_at_call 25; refine (keptV (TQ.out.rdv (v := .slice (some ⟨ga, 0, none⟩) (A.length + 1) ca) (l := A ++ [lastP]) (by simp)) (HA.out.below TQ.out.below)).mono ?_; rintro e wq ⟨rfl, hq⟩; replace TQ := Lib.hid (TQ.out.step hq); clear hq; have c0 := blk_mem TQ.out (g := w.heap.size) (t := 25) (cs := xs) (by simp) 0 k0; have c2 := blk_mem TQ.out (g := w.heap.size) (t := 25) (cs := xs) (by simp) 2 k2)
    | (go_at_call 26; refine (keptCV (TQ.out.rdv (v := .slice (some ⟨gc, 0, none⟩) (M.length + 1) cc) (l := M ++ [lastC]) (by simp)) (HL.out.below TQ.out.below)).mono ?_; rintro e wq ⟨rfl, hq⟩; replace TQ := Lib.hid (TQ.out.step hq); clear hq; have c0 := blk_mem TQ.out (g := w.heap.size) (t := 25) (cs := xs) (by simp) 0 k0; have c2 := blk_mem TQ.out (g := w.heap.size) (t := 25) (cs := xs) (by simp) 2 k2)
    | (go_at_call 27; refine (apartPairs w _ _ wq.heap.size 3 [.slice a7 r1.length c7, .slice a9 r2.length c9, .slice a11 r1.length c11] [r1, r2, r1] rfl rfl (by decide) hlen3 (Sep.down [row PT (.slice a7 r1.length c7) r1, row PT (.slice a9 r2.length c9) r2, row PT (.slice a11 r1.length c11) r1] (TQ.out.boxAt 22 [.slice a7 r1.length c7, .slice a9 r2.length c9, .slice a11 r1.length c11] wq.heap.size rfl))).mono ?_; rintro e w13 ⟨rfl, T13⟩))
  have T14 : Hid (Sep w w13 [row CT (.slice (some ⟨gc, 0, none⟩) (M.length + 1) cc) (M ++ [lastC]), row PT (.slice (some ⟨ga, 0, none⟩) (A.length + 1) ca) (A ++ [lastP]), blk w.heap.size 25 xs]) := Lib.hid T13
  clear T9 T13 TQ c0 c2
  have TQ := Lib.hid T14.out.drew
  go_cut [7, 8] (fun s7 s8 wx => s8 = errV E o3 ∧ Hid (Sep w wx [row PT s7 r3, row CT (.slice (some ⟨gc, 0, none⟩) M.length cc) (second C.turn M), row PT (.slice (some ⟨ga, 0, none⟩) (A.length + 1) ca) (A ++ [lastP]), blk w.heap.size 25 xs]))
  case first => as_aux_lemma =>
    have q1 : (0 : Int) ≤ (A.length : Int) := by omega
    have q2 : (A.length : Int) ≤ (ca : Int) := by omega
    have q3 : (0 : Int) ≤ (M.length : Int) := by omega
    have q4 : (M.length : Int) ≤ (cc : Int) := by omega
    go_region_held3 (fun _ => True) (trivial) (first
      | (go_at_call 28; refine (otherwise w _ _ _ M TQ.out.cut HS.out.2 (by omega)).mono ?_; rintro e wq ⟨rfl, Sq⟩; replace TQ := Lib.hid Sq; clear Sq)
      | (go_at_call 21; refine (patchV HP3.out (HE.out.below TQ.out.below) (Row.rdv (row_cut (TQ.out.is _ (.tail _ (.head _))))) (TQ.out.rdv (.head _)) (by omega)).mono ?_; rintro e wq ⟨v8, rfl, S8⟩))
    all_goals (go_wp2_with fail; go_meet; exact ⟨rfl, TQ.out.call S8⟩)
  case rest =>
  obtain ⟨rfl, T15⟩ := hcut
  clear TQ T14
  generalize wc = w15 at T15 ⊢
  go_upto_region 14 with fail
  have TQ := Lib.hid T15.out.drew
  have c0 := blk_mem TQ.out (g := w.heap.size) (t := 25) (cs := xs) (by simp) 0 k0
  have c2 := blk_mem TQ.out (g := w.heap.size) (t := 25) (cs := xs) (by simp) 2 k2
  go_cut [13, 14] (fun s13 s14 wx => s14 = .int .i64 (numOf o3) ∧ Hid (Sep w wx [row PT s13 r3, row PT u7 r3, row CT (.slice (some ⟨gc, 0, none⟩) M.length cc) (second C.turn M), row PT (.slice (some ⟨ga, 0, none⟩) (A.length + 1) ca) (A ++ [lastP]), blk w.heap.size 25 xs]))
  case first => as_aux_lemma =>
    go_region_held3 (fun w' => w'.cell? ⟨w.heap.size, 0, none⟩ = some (.slice aA A.length cA) ∧ w'.cell? ⟨w.heap.size, 2, none⟩ = some (.slice aL M.length cL)) (first | exact ⟨blk_mem TQ.out (g := w.heap.size) (t := 25) (cs := xs) (by simp) 0 k0, blk_mem TQ.out (g := w.heap.size) (t := 25) (cs := xs) (by simp) 2 k2⟩ | go_keep) (first
      | (go_at_call 17; refine (pairsV (HA.out.below TQ.out.below) (by omega)).mono ?_; rintro e wq ⟨vp, rfl, Sp⟩; replace TQ := Lib.hid (TQ.out.call Sp); clear Sp; have c0 := blk_mem TQ.out (g := w.heap.size) (t := 25) (cs := xs) (by simp) 0 k0; have c2 := blk_mem TQ.out (g := w.heap.size) (t := 25) (cs := xs) (by simp) 2 k2)
      | (go_at_call 19; refine (changesV (HL.out.below TQ.out.below) (by omega)).mono ?_; rintro e wq ⟨vq, rfl, Sq⟩; replace TQ := Lib.hid (TQ.out.call Sq); clear Sq; have c0 := blk_mem TQ.out (g := w.heap.size) (t := 25) (cs := xs) (by simp) 0 k0; have c2 := blk_mem TQ.out (g := w.heap.size) (t := 25) (cs := xs) (by simp) 2 k2)
      | (go_at_call 28; (first | refine (otherwise w _ _ vq M TQ.out HS.out.2 (by omega)).mono ?_ | refine (otherwise w _ _ vq M (Sep.up1 TQ.out) HS.out.2 (by omega)).mono ?_); rintro e wq ⟨rfl, Sq⟩; replace TQ := Lib.hid Sq; clear Sq; have c0 := blk_mem TQ.out (g := w.heap.size) (t := 25) (cs := xs) (by simp) 0 k0; have c2 := blk_mem TQ.out (g := w.heap.size) (t := 25) (cs := xs) (by simp) 2 k2)
      | (go_at_call 22; refine (refPatchV HP3.out (TQ.out.rdv (v := vp) (l := A) (by simp)) (TQ.out.rdv (v := vq) (l := second C.turn M) (by simp)) (by omega)).mono ?_; rintro e wq ⟨vm, rfl, Sm⟩; replace TQ := Lib.hid (TQ.out.call Sm); clear Sm))
    all_goals (go_wp2_with fail; go_meet; exact ⟨rfl, TQ.out.drop1.drop1⟩)
  case rest => as_aux_lemma =>
  obtain ⟨rfl, T16⟩ := hcut
  clear TQ T15 c0 c2
  generalize wc = w16 at T16 ⊢
  have TQ := Lib.hid T16.out
  have t1 : True := trivial
  have t2 : True := trivial
  go_upto_region 17 with (first
    | (go_at_call 23; clear t1; refine (num_any E _ (HE.out.below TQ.out.below) o3 HE3.out).mono ?_; rintro e wq ⟨rfl, hq⟩; replace TQ := Lib.hid (TQ.out.step hq); clear hq)
    | (go_at_call 24; clear t2; refine (sameV (TQ.out.rdv (v := u7) (l := r3) (by simp)) (TQ.out.rdv (v := u13) (l := r3) (by simp))).mono ?_; rintro e wq ⟨rfl, hq⟩; replace TQ := Lib.hid (TQ.out.step hq); clear hq))
  have T17 : Hid (Sep w wq [row PT (.slice (some ⟨ga, 0, none⟩) (A.length + 1) ca) (A ++ [lastP]), row CT (.slice (some ⟨gc, 0, none⟩) M.length cc) (second C.turn M), blk w.heap.size 25 xs]) := Lib.hid (Sep.up1 TQ.out.tl.tl)
  clear T16 TQ
  have TQ := Lib.hid T17.out.drew
  go_cut [7, 8] (fun s7 s8 wx => s8 = errV E o4 ∧ Hid (Sep w wx [row PT s7 r4, row PT (.slice (some ⟨ga, 0, none⟩) A.length ca) (second P.turn A), row CT (.slice (some ⟨gc, 0, none⟩) M.length cc) (second C.turn M), blk w.heap.size 25 xs]))
  case first => as_aux_lemma =>
    have q1 : (0 : Int) ≤ (A.length : Int) := by omega
    have q2 : (A.length : Int) ≤ (ca : Int) := by omega
    have q3 : (0 : Int) ≤ (M.length : Int) := by omega
    have q4 : (M.length : Int) ≤ (cc : Int) := by omega
    go_region_held3 (fun _ => True) (trivial) (first
      | (go_at_call 29; refine (other w _ _ _ A TQ.out.cut HS.out.1 (by omega)).mono ?_; rintro e wq ⟨rfl, Sq⟩; replace TQ := Lib.hid Sq; clear Sq)
      | (go_at_call 21; refine (patchV HP4.out (HE.out.below TQ.out.below) (TQ.out.rdv (.head _)) (TQ.out.rdv (.tail _ (.head _))) (by omega)).mono ?_; rintro e wq ⟨v8, rfl, S8⟩))
    all_goals (go_wp2_with fail; go_meet; exact ⟨rfl, TQ.out.call S8⟩)
  case rest =>
  obtain ⟨rfl, T18⟩ := hcut
  clear TQ T17
  generalize wc = w18 at T18 ⊢
  go_upto_region 18 with fail
  have TQ := Lib.hid T18.out.drew
  have c0 := blk_mem TQ.out (g := w.heap.size) (t := 25) (cs := xs) (by simp) 0 k0
  have c2 := blk_mem TQ.out (g := w.heap.size) (t := 25) (cs := xs) (by simp) 2 k2
  go_cut [13, 14] (fun s13 s14 wx => s14 = .int .i64 (numOf o4) ∧ Hid (Sep w wx [row PT s13 r4, row PT u7 r4, row PT (.slice (some ⟨ga, 0, none⟩) A.length ca) (second P.turn A), row CT (.slice (some ⟨gc, 0, none⟩) M.length cc) (second C.turn M), blk w.heap.size 25 xs]))
  case first => as_aux_lemma =>
    go_region_held3 (fun w' => w'.cell? ⟨w.heap.size, 0, none⟩ = some (.slice aA A.length cA) ∧ w'.cell? ⟨w.heap.size, 2, none⟩ = some (.slice aL M.length cL)) (first | exact ⟨blk_mem TQ.out (g := w.heap.size) (t := 25) (cs := xs) (by simp) 0 k0, blk_mem TQ.out (g := w.heap.size) (t := 25) (cs := xs) (by simp) 2 k2⟩ | go_keep) (first
      | (go_at_call 17; refine (pairsV (HA.out.below TQ.out.below) (by omega)).mono ?_; rintro e wq ⟨vp, rfl, Sp⟩; replace TQ := Lib.hid (TQ.out.call Sp); clear Sp; have c0 := blk_mem TQ.out (g := w.heap.size) (t := 25) (cs := xs) (by simp) 0 k0; have c2 := blk_mem TQ.out (g := w.heap.size) (t := 25) (cs := xs) (by simp) 2 k2)
      | (go_at_call 29; (first | refine (other w _ _ vp A TQ.out HS.out.1 (by omega)).mono ?_ | refine (other w _ _ vp A (Sep.up1 TQ.out) HS.out.1 (by omega)).mono ?_); rintro e wq ⟨rfl, Sq⟩; replace TQ := Lib.hid Sq; clear Sq; have c0 := blk_mem TQ.out (g := w.heap.size) (t := 25) (cs := xs) (by simp) 0 k0; have c2 := blk_mem TQ.out (g := w.heap.size) (t := 25) (cs := xs) (by simp) 2 k2)
      | (go_at_call 19; refine (changesV (HL.out.below TQ.out.below) (by omega)).mono ?_; rintro e wq ⟨vq, rfl, Sq⟩; replace TQ := Lib.hid (TQ.out.call Sq); clear Sq; have c0 := blk_mem TQ.out (g := w.heap.size) (t := 25) (cs := xs) (by simp) 0 k0; have c2 := blk_mem TQ.out (g := w.heap.size) (t := 25) (cs := xs) (by simp) 2 k2)
      | (go_at_call 28; (first | refine (otherwise w _ _ vq M TQ.out HS.out.2 (by omega)).mono ?_ | refine (otherwise w _ _ vq M (Sep.up1 TQ.out) HS.out.2 (by omega)).mono ?_); rintro e wq ⟨rfl, Sq⟩; replace TQ := Lib.hid Sq; clear Sq; have c0 := blk_mem TQ.out (g := w.heap.size) (t := 25) (cs := xs) (by simp) 0 k0; have c2 := blk_mem TQ.out (g := w.heap.size) (t := 25) (cs := xs) (by simp) 2 k2)
      | (go_at_call 22; refine (refPatchV HP4.out (TQ.out.rdv (v := vp) (l := second P.turn A) (by simp)) (TQ.out.rdv (v := vq) (l := second C.turn M) (by simp)) (by omega)).mono ?_; rintro e wq ⟨vm, rfl, Sm⟩; replace TQ := Lib.hid (TQ.out.call Sm); clear Sm))
    all_goals (go_wp2_with fail; go_meet; exact ⟨rfl, TQ.out.drop1.drop1⟩)
  case rest =>
  obtain ⟨rfl, T19⟩ := hcut
  clear TQ T18 c0 c2
  generalize wc = w19 at T19 ⊢
  have TQ := Lib.hid T19.out
  have t1 : True := trivial
  have t2 : True := trivial
  go_wp2_with (first
    | (go_at_call 23; clear t1; refine (num_any E _ (HE.out.below TQ.out.below) o4 HE4.out).mono ?_; rintro e wq ⟨rfl, hq⟩; replace TQ := Lib.hid (TQ.out.step hq); clear hq)
    | (go_at_call 24; clear t2; refine (sameV (TQ.out.rdv (v := u7) (l := r4) (by simp)) (TQ.out.rdv (v := u13) (l := r4) (by simp))).mono ?_; rintro e wq ⟨rfl, hq⟩; replace TQ := Lib.hid (TQ.out.step hq); clear hq))
  go_ret
  exact ⟨rfl, TQ.out.below⟩
end Go.Proofs.YtdkailccfcijiaaDoor
