/- The law DiffLists, walked. Conditions: the lengths and sizes. -/
import Derived.Test.YtdkailccfcijiaaDoorDx
import Derived.Deep.RegionWith
import Derived.Deep.RegionHeld3
import Derived.Deep.DeepCutAuto
namespace Go.Proofs.YtdkailccfcijiaaDoor
open Go.RowKit
set_option linter.unusedVariables false
set_option linter.unusedSimpArgs false
set_option maxRecDepth 100000

set_option maxHeartbeats 60000000 in
theorem diffLists (E : Nat → Addr) (w : World) (aA aB aL aM : Option Addr) (nL nM cA cB cL cM : Nat) (A B : List P) (hE : Errs all13 E w)
    (hA : RdV PT w (.slice aA A.length cA) A) (hB : RdV PT w (.slice aB B.length cB) B) (hnA : A.length ≤ 1048576) (hnB : B.length ≤ 1048576) (hsA : ∀ p ∈ A, p.v.size ≤ 4194304) :
    Calls Tryd.prog 4 #[.agg #[.slice aA A.length cA, .slice aB B.length cB, .slice aL nL cL, .slice aM nM cM]] w fun e w' => e = .returned (.bool true) ∧ Below w.heap.size w w' := by
  have HE := Lib.hid hE
  have HA := Lib.hid hA
  have HB := Lib.hid hB
  have HS := Lib.hid hsA
  have hbA : (A.length + 1) * 32 ≤ 140737488355328 := by omega
  have hbB : (B.length + 1) * 32 ≤ 140737488355328 := by omega
  clear hE hA hB hsA
  obtain ⟨xs, hxs⟩ : ∃ xs : List Value, xs = [.slice aA A.length cA, .slice aB B.length cB, .slice aL nL cL, .slice aM nM cM] := ⟨_, rfl⟩
  have k0 : xs[0]? = some (.slice aA A.length cA) := by rw [hxs]; rfl
  have k1 : xs[1]? = some (.slice aB B.length cB) := by rw [hxs]; rfl
  have S0 : Hid (Sep w (w.alloc (.cells #[.slice aA A.length cA, .slice aB B.length cB, .slice aL nL cL, .slice aM nM cM] 25)) [blk w.heap.size 25 xs]) := Lib.hid (by rw [hxs]; exact (Sep.nil w).box 25 [.slice aA A.length cA, .slice aB B.length cB, .slice aL nL cL, .slice aM nM cM])
  clear hxs
  have hBx : 0 + w.heap.size = w.heap.size := by omega
  obtain ⟨r1, o1, hp1, hl1, he1⟩ := listsL_at A B
  obtain ⟨r2, o2, hp2, hl2, he2⟩ := listsL_at B A
  obtain ⟨r3, o3, hp3, hl3, he3⟩ := listsL_at (second P.turn A) B
  have HP1 := Lib.hid hp1
  have HP2 := Lib.hid hp2
  have HP3 := Lib.hid hp3
  have HE1 := Lib.hid he1
  have HE2 := Lib.hid he2
  have HE3 := Lib.hid he3
  have hsN : (second P.turn A).length = A.length := second_length _ _
  clear hp1 hp2 hp3 he1 he2 he3
  have t1 : True := trivial
  have t2 : True := trivial
  go_enter Tryd.func4, Tryd.ntmps4
  go_upto_region 2 with (first
    | (go_at_call 17; refine (pairsV (HA.out.below S0.out.below) (by omega)).mono ?_; rintro e w1 ⟨v1, rfl, S1⟩)
    | (go_at_call 18; refine (lastPair _).mono ?_; rintro e w2 ⟨rfl, hw2⟩)
    | (at_builtin; refine app_sep elemP rfl (.tmp 19) (.tmp 21) rfl v1 A rfl (((S0.out.call S1).step hw2).alloc _) _ 1 1 [lastP] rfl (rd_new PT w2 lastP _ rfl 28) hbA ?_; intro v2 w3 S2 hkp))
  obtain ⟨ga, ca, rfl, hca1, hca2⟩ := row_front S2
  have T1 : Hid (Sep w w3 [row PT (.slice (some ⟨ga, 0, none⟩) (A.length + 1) ca) (A ++ [lastP]), blk w.heap.size 25 xs]) := Lib.hid S2
  have c1 := blk_mem T1.out (.tail _ (.head _)) 1 k1
  clear S1 S2 hw2 hkp
  go_upto_region 3 with (first
    | (go_at_call 17; refine (pairsV (HB.out.below T1.out.below) (by omega)).mono ?_; rintro e w4 ⟨v4, rfl, S4⟩)
    | (go_at_call 18; refine (lastPair _).mono ?_; rintro e w5 ⟨rfl, hw5⟩)
    | (at_builtin; refine app_sep elemP rfl (.tmp 25) (.tmp 27) rfl v4 B rfl (((T1.out.call S4).step hw5).alloc _) _ 1 1 [lastP] rfl (rd_new PT w5 lastP _ rfl 28) hbB ?_; intro v6 w6 S6 hkp))
  obtain ⟨gb, cb, rfl, hcb1, hcb2⟩ := row_front S6
  have T2 : Hid (Sep w w6 [row PT (.slice (some ⟨gb, 0, none⟩) (B.length + 1) cb) (B ++ [lastP]), row PT (.slice (some ⟨ga, 0, none⟩) (A.length + 1) ca) (A ++ [lastP]), blk w.heap.size 25 xs]) := Lib.hid S6
  clear S4 S6 hw5 hkp c1
  have c0 := blk_mem T2.out (.tail _ (.tail _ (.head _))) 0 k0
  have c1 := blk_mem T2.out (.tail _ (.tail _ (.head _))) 1 k1
  have x0 := xt_cell c0
  have x1 := xt_cell c1
  go_wp2
  refine xt_region (by kernel_rfl) (by kernel_rfl) ?_
  repeat (go_big_quiet_step (fail))
  refine wpQuiet_nil ?_
  intro _ hw'
  obtain ⟨m, rfl⟩ := hw'
  have T3 := Lib.hid (T2.out.step (xt_below w6 m))
  generalize wx w6 m = w7 at T3 ⊢
  clear x0 x1 c0 c1 T2
  go_upto_region 4 with fail
  have TQ : Hid (Sep w w7.drew [row PT (.slice (some ⟨gb, 0, none⟩) (B.length + 1) cb) (B ++ [lastP]), row PT (.slice (some ⟨ga, 0, none⟩) (A.length + 1) ca) (A ++ [lastP]), blk w.heap.size 25 xs]) := Lib.hid T3.out.drew
  go_cut [7, 8] (fun s7 s8 wx => s8 = errV E o1 ∧ Hid (Sep w wx [row CT s7 r1, row PT (.slice (some ⟨gb, 0, none⟩) (B.length + 1) cb) (B ++ [lastP]), row PT (.slice (some ⟨ga, 0, none⟩) (A.length + 1) ca) (A ++ [lastP]), blk w.heap.size 25 xs]))
  case first => as_aux_lemma =>
    have q1 : (0 : Int) ≤ (A.length : Int) := by omega
    have q2 : (A.length : Int) ≤ (ca : Int) := by omega
    have q3 : (0 : Int) ≤ (B.length : Int) := by omega
    have q4 : (B.length : Int) ≤ (cb : Int) := by omega
    go_region_held3 (fun _ => True) (trivial) (first
      | (go_at_call 30; refine (listsV HP1.out (HE.out.below TQ.out.below) (Row.rdv (row_cut (TQ.out.is _ (.tail _ (.head _))))) (Row.rdv (row_cut TQ.out.hd)) (by omega)).mono ?_; rintro e w8 ⟨v8, rfl, S8⟩))
    all_goals (go_wp2_with fail; go_meet; exact ⟨rfl, TQ.out.call S8⟩)
  case rest =>
  obtain ⟨rfl, T4⟩ := hcut
  obtain ⟨a7, c7, e7, _, _, _⟩ := Sep.rdv T4.out (.head _)
  subst e7
  clear T3 TQ
  generalize wc = w9 at T4 ⊢
  go_upto_region 5 with fail
  have TQ := Lib.hid T4.out.drew
  go_cut [9, 10] (fun s9 s10 wx => s10 = errV E o2 ∧ Hid (Sep w wx [row CT s9 r2, row CT (.slice a7 r1.length c7) r1, row PT (.slice (some ⟨gb, 0, none⟩) (B.length + 1) cb) (B ++ [lastP]), row PT (.slice (some ⟨ga, 0, none⟩) (A.length + 1) ca) (A ++ [lastP]), blk w.heap.size 25 xs]))
  case first => as_aux_lemma =>
    have q1 : (0 : Int) ≤ (A.length : Int) := by omega
    have q2 : (A.length : Int) ≤ (ca : Int) := by omega
    have q3 : (0 : Int) ≤ (B.length : Int) := by omega
    have q4 : (B.length : Int) ≤ (cb : Int) := by omega
    go_region_held3 (fun _ => True) (trivial) (first
      | (go_at_call 30; refine (listsV HP2.out (HE.out.below TQ.out.below) (Row.rdv (row_cut (TQ.out.is _ (.tail _ (.head _))))) (Row.rdv (row_cut (TQ.out.is _ (.tail _ (.tail _ (.head _)))))) (by omega)).mono ?_; rintro e w8 ⟨v8, rfl, S8⟩))
    all_goals (go_wp2_with fail; go_meet; exact ⟨rfl, TQ.out.call S8⟩)
  case rest =>
  obtain ⟨rfl, T5⟩ := hcut
  obtain ⟨a9, c9, e9, _, _, _⟩ := Sep.rdv T5.out (.head _)
  subst e9
  clear T4 TQ
  generalize wc = w10 at T5 ⊢
  go_upto_region 6 with fail
  have TQ := Lib.hid T5.out.drew
  go_cut [11, 12] (fun s11 s12 wx => Hid (Sep w wx [row CT s11 r1, row CT (.slice a9 r2.length c9) r2, row CT (.slice a7 r1.length c7) r1, row PT (.slice (some ⟨gb, 0, none⟩) (B.length + 1) cb) (B ++ [lastP]), row PT (.slice (some ⟨ga, 0, none⟩) (A.length + 1) ca) (A ++ [lastP]), blk w.heap.size 25 xs]))
  case first => as_aux_lemma =>
    have q1 : (0 : Int) ≤ (A.length : Int) := by omega
    have q2 : (A.length : Int) ≤ (ca : Int) := by omega
    have q3 : (0 : Int) ≤ (B.length : Int) := by omega
    have q4 : (B.length : Int) ≤ (cb : Int) := by omega
    go_region_held3 (fun _ => True) (trivial) (first
      | (go_at_call 30; refine (listsV HP1.out (HE.out.below TQ.out.below) (Row.rdv (row_cut (TQ.out.is _ (.tail _ (.tail _ (.tail _ (.head _))))))) (Row.rdv (row_cut (TQ.out.is _ (.tail _ (.tail _ (.head _)))))) (by omega)).mono ?_; rintro e w8 ⟨v8, rfl, S8⟩))
    all_goals (go_wp2_with fail; go_meet; exact TQ.out.call S8)
  case rest =>
  have T6 := Lib.hid hcut.out
  clear hcut T5 TQ
  obtain ⟨a11, c11, e11, _, _, _⟩ := Sep.rdv T6.out (.head _)
  subst e11
  generalize wc = w11 at T6 ⊢
  go_upto_region 7 with fail
  have TQ := Lib.hid T6.out.drew
  go_cut [13, 14] (fun s13 s14 wx => s14 = .int .i64 (numOf o1) ∧ Hid (Sep w wx [row CT s13 r1, row CT (.slice a11 r1.length c11) r1, row CT (.slice a9 r2.length c9) r2, row CT (.slice a7 r1.length c7) r1, row PT (.slice (some ⟨gb, 0, none⟩) (B.length + 1) cb) (B ++ [lastP]), row PT (.slice (some ⟨ga, 0, none⟩) (A.length + 1) ca) (A ++ [lastP]), blk w.heap.size 25 xs]))
  case first => as_aux_lemma =>
    have c0 := blk_mem TQ.out (g := w.heap.size) (t := 25) (cs := xs) (by simp) 0 k0; have c1 := blk_mem TQ.out (g := w.heap.size) (t := 25) (cs := xs) (by simp) 1 k1
    go_region_held3 (fun w' => w'.cell? ⟨w.heap.size, 0, none⟩ = some (.slice aA A.length cA) ∧ w'.cell? ⟨w.heap.size, 1, none⟩ = some (.slice aB B.length cB)) (first | exact ⟨blk_mem TQ.out (g := w.heap.size) (t := 25) (cs := xs) (by simp) 0 k0, blk_mem TQ.out (g := w.heap.size) (t := 25) (cs := xs) (by simp) 1 k1⟩ | go_keep) (first
      | (go_at_call 17; clear t1; refine (pairsV (HA.out.below TQ.out.below) (by omega)).mono ?_; rintro e wq ⟨vp, rfl, Sp⟩; replace TQ := Lib.hid (TQ.out.call Sp); clear Sp; have c0 := blk_mem TQ.out (g := w.heap.size) (t := 25) (cs := xs) (by simp) 0 k0; have c1 := blk_mem TQ.out (g := w.heap.size) (t := 25) (cs := xs) (by simp) 1 k1)
      | (go_at_call 17; clear t2; refine (pairsV (HB.out.below TQ.out.below) (by omega)).mono ?_; rintro e wq ⟨vq, rfl, Sq⟩; replace TQ := Lib.hid (TQ.out.call Sq); clear Sq; have c0 := blk_mem TQ.out (g := w.heap.size) (t := 25) (cs := xs) (by simp) 0 k0; have c1 := blk_mem TQ.out (g := w.heap.size) (t := 25) (cs := xs) (by simp) 1 k1)
      | (go_at_call 31; refine (refListsV HP1.out (TQ.out.rdv (v := vp) (l := A) (by simp)) (TQ.out.rdv (v := vq) (l := B) (by simp)) (by omega)).mono ?_; rintro e wq ⟨vm, rfl, Sm⟩; replace TQ := Lib.hid (TQ.out.call Sm); clear Sm))
    all_goals (go_wp2_with fail; go_meet; exact ⟨rfl, TQ.out.drop1.drop1⟩)
  case rest =>
  obtain ⟨rfl, T7⟩ := hcut
  clear T6 TQ
  generalize wc = w12 at T7 ⊢
  go_upto_region 8 with fail
  have TQ := Lib.hid T7.out.drew
  go_cut [15, 16] (fun s15 s16 wx => s16 = .int .i64 (numOf o2) ∧ Hid (Sep w wx [row CT s15 r2, row CT u13 r1, row CT (.slice a11 r1.length c11) r1, row CT (.slice a9 r2.length c9) r2, row CT (.slice a7 r1.length c7) r1, row PT (.slice (some ⟨gb, 0, none⟩) (B.length + 1) cb) (B ++ [lastP]), row PT (.slice (some ⟨ga, 0, none⟩) (A.length + 1) ca) (A ++ [lastP]), blk w.heap.size 25 xs]))
  case first => as_aux_lemma =>
    have c0 := blk_mem TQ.out (g := w.heap.size) (t := 25) (cs := xs) (by simp) 0 k0; have c1 := blk_mem TQ.out (g := w.heap.size) (t := 25) (cs := xs) (by simp) 1 k1
    go_region_held3 (fun w' => w'.cell? ⟨w.heap.size, 0, none⟩ = some (.slice aA A.length cA) ∧ w'.cell? ⟨w.heap.size, 1, none⟩ = some (.slice aB B.length cB)) (first | exact ⟨blk_mem TQ.out (g := w.heap.size) (t := 25) (cs := xs) (by simp) 0 k0, blk_mem TQ.out (g := w.heap.size) (t := 25) (cs := xs) (by simp) 1 k1⟩ | go_keep) (first
      | (go_at_call 17; clear t1; refine (pairsV (HB.out.below TQ.out.below) (by omega)).mono ?_; rintro e wq ⟨vq, rfl, Sq⟩; replace TQ := Lib.hid (TQ.out.call Sq); clear Sq; have c0 := blk_mem TQ.out (g := w.heap.size) (t := 25) (cs := xs) (by simp) 0 k0; have c1 := blk_mem TQ.out (g := w.heap.size) (t := 25) (cs := xs) (by simp) 1 k1)
      | (go_at_call 17; clear t2; refine (pairsV (HA.out.below TQ.out.below) (by omega)).mono ?_; rintro e wq ⟨vp, rfl, Sp⟩; replace TQ := Lib.hid (TQ.out.call Sp); clear Sp; have c0 := blk_mem TQ.out (g := w.heap.size) (t := 25) (cs := xs) (by simp) 0 k0; have c1 := blk_mem TQ.out (g := w.heap.size) (t := 25) (cs := xs) (by simp) 1 k1)
      | (go_at_call 31; refine (refListsV HP2.out (TQ.out.rdv (v := vq) (l := B) (by simp)) (TQ.out.rdv (v := vp) (l := A) (by simp)) (by omega)).mono ?_; rintro e wq ⟨vm, rfl, Sm⟩; replace TQ := Lib.hid (TQ.out.call Sm); clear Sm))
    all_goals (go_wp2_with fail; go_meet; exact ⟨rfl, TQ.out.drop1.drop1⟩)
  case rest =>
  obtain ⟨rfl, T8⟩ := hcut
  clear T7 TQ t1 t2
  generalize wc = w13 at T8 ⊢
  have TQ := Lib.hid T8.out
  have t1 : True := trivial
  have t2 : True := trivial
  have t3 : True := trivial
  have t4 : True := trivial
  have t5 : True := trivial
  go_upto_region 11 with (first
    | (go_at_call 23; clear t1; refine (num_any E _ (HE.out.below TQ.out.below) o1 HE1.out).mono ?_; rintro e wq ⟨rfl, hq⟩; replace TQ := Lib.hid (TQ.out.step hq); clear hq)
    | (go_at_call 23; clear t2; refine (num_any E _ (HE.out.below TQ.out.below) o2 HE2.out).mono ?_; rintro e wq ⟨rfl, hq⟩; replace TQ := Lib.hid (TQ.out.step hq); clear hq)
    | (go_at_call 32; clear t3; refine (sameCV (TQ.out.rdv (v := (.slice a7 r1.length c7)) (l := r1) (by simp)) (TQ.out.rdv (v := u13) (l := r1) (by simp))).mono ?_; rintro e wq ⟨rfl, hq⟩; replace TQ := Lib.hid (TQ.out.step hq); clear hq)
    | (go_at_call 32; clear t4; refine (sameCV (TQ.out.rdv (v := (.slice a9 r2.length c9)) (l := r2) (by simp)) (TQ.out.rdv (v := u15) (l := r2) (by simp))).mono ?_; rintro e wq ⟨rfl, hq⟩; replace TQ := Lib.hid (TQ.out.step hq); clear hq)
    | (go_at_call 32; clear t5; refine (sameCV (TQ.out.rdv (v := (.slice a11 r1.length c11)) (l := r1) (by simp)) (TQ.out.rdv (v := u13) (l := r1) (by simp))).mono ?_; rintro e wq ⟨rfl, hq⟩; replace TQ := Lib.hid (TQ.out.step hq); clear hq))
  have T9 : Hid (Sep w wq [row CT (.slice a7 r1.length c7) r1, row CT (.slice a9 r2.length c9) r2, row CT (.slice a11 r1.length c11) r1, row PT (.slice (some ⟨gb, 0, none⟩) (B.length + 1) cb) (B ++ [lastP]), row PT (.slice (some ⟨ga, 0, none⟩) (A.length + 1) ca) (A ++ [lastP]), blk w.heap.size 25 xs]) := Lib.hid ((Sep.up2 TQ.out.tl.tl).perm (List.Perm.cons _ (List.Perm.swap ..)))
  have hlen3 : ∀ l ∈ [r1, r2, r1], l.length ≤ 8388608 := by intro l hl; simp at hl; rcases hl with rfl | rfl | rfl <;> omega
  clear TQ T8
  have TQ := Lib.hid T9.out
  have c0 := blk_mem TQ.out (g := w.heap.size) (t := 25) (cs := xs) (by simp) 0 k0; have c1 := blk_mem TQ.out (g := w.heap.size) (t := 25) (cs := xs) (by simp) 1 k1
  have t1 : True := trivial
  have t2 : True := trivial
  go_upto_region 13 with (first
    | (go_at_call 25; clear t1; refine (keptV (TQ.out.rdv (v := (.slice (some ⟨ga, 0, none⟩) (A.length + 1) ca)) (l := A ++ [lastP]) (by simp)) (HA.out.below TQ.out.below)).mono ?_; rintro e wq ⟨rfl, hq⟩; replace TQ := Lib.hid (TQ.out.step hq); clear hq; have c0 := blk_mem TQ.out (g := w.heap.size) (t := 25) (cs := xs) (by simp) 0 k0; have c1 := blk_mem TQ.out (g := w.heap.size) (t := 25) (cs := xs) (by simp) 1 k1)
    | (go_at_call 25; clear t2; refine (keptV (TQ.out.rdv (v := (.slice (some ⟨gb, 0, none⟩) (B.length + 1) cb)) (l := B ++ [lastP]) (by simp)) (HB.out.below TQ.out.below)).mono ?_; rintro e wq ⟨rfl, hq⟩; replace TQ := Lib.hid (TQ.out.step hq); clear hq; have c0 := blk_mem TQ.out (g := w.heap.size) (t := 25) (cs := xs) (by simp) 0 k0; have c1 := blk_mem TQ.out (g := w.heap.size) (t := 25) (cs := xs) (by simp) 1 k1)
    | (go_at_call 33; refine (apart w _ _ wq.heap.size 3 [.slice a7 r1.length c7, .slice a9 r2.length c9, .slice a11 r1.length c11] [r1, r2, r1] rfl rfl (by decide) hlen3 (Sep.down [row CT (.slice a7 r1.length c7) r1, row CT (.slice a9 r2.length c9) r2, row CT (.slice a11 r1.length c11) r1] (TQ.out.boxAt 23 [.slice a7 r1.length c7, .slice a9 r2.length c9, .slice a11 r1.length c11] wq.heap.size rfl))).mono ?_; rintro e w14 ⟨rfl, T13⟩))
  have T14 : Hid (Sep w w14 [row PT (.slice (some ⟨gb, 0, none⟩) (B.length + 1) cb) (B ++ [lastP]), row PT (.slice (some ⟨ga, 0, none⟩) (A.length + 1) ca) (A ++ [lastP]), blk w.heap.size 25 xs]) := Lib.hid T13
  clear T9 T13 TQ c0 c1
  have TQ : Hid (Sep w w14.drew [row PT (.slice (some ⟨ga, 0, none⟩) (A.length + 1) ca) (A ++ [lastP]), row PT (.slice (some ⟨gb, 0, none⟩) (B.length + 1) cb) (B ++ [lastP]), blk w.heap.size 25 xs]) := Lib.hid (Sep.up1 T14.out).drew
  go_cut [7, 8] (fun s7 s8 wx => s8 = errV E o3 ∧ Hid (Sep w wx [row CT s7 r3, row PT (.slice (some ⟨ga, 0, none⟩) A.length ca) (second P.turn A), row PT (.slice (some ⟨gb, 0, none⟩) (B.length + 1) cb) (B ++ [lastP]), blk w.heap.size 25 xs]))
  case first => as_aux_lemma =>
    have q1 : (0 : Int) ≤ (A.length : Int) := by omega
    have q2 : (A.length : Int) ≤ (ca : Int) := by omega
    have q3 : (0 : Int) ≤ (B.length : Int) := by omega
    have q4 : (B.length : Int) ≤ (cb : Int) := by omega
    go_region_held3 (fun _ => True) (trivial) (first
      | (go_at_call 29; refine (other w _ _ _ A TQ.out.cut HS.out (by omega)).mono ?_; rintro e wq ⟨rfl, Sq⟩; replace TQ := Lib.hid Sq; clear Sq)
      | (go_at_call 30; refine (listsV HP3.out (HE.out.below TQ.out.below) (TQ.out.rdv (.head _)) (Row.rdv (row_cut (TQ.out.is _ (.tail _ (.head _))))) (by omega)).mono ?_; rintro e wq ⟨v8, rfl, S8⟩))
    all_goals (go_wp2_with fail; go_meet; exact ⟨rfl, TQ.out.call S8⟩)
  case rest =>
  obtain ⟨rfl, T15⟩ := hcut
  clear TQ T14
  generalize wc = w15 at T15 ⊢
  go_upto_region 14 with fail
  have TQ := Lib.hid T15.out.drew
  have t1 : True := trivial
  have t2 : True := trivial
  go_cut [13, 14] (fun s13 s14 wx => s14 = .int .i64 (numOf o3) ∧ Hid (Sep w wx [row CT s13 r3, row CT u7 r3, row PT (.slice (some ⟨ga, 0, none⟩) A.length ca) (second P.turn A), row PT (.slice (some ⟨gb, 0, none⟩) (B.length + 1) cb) (B ++ [lastP]), blk w.heap.size 25 xs]))
  case first => as_aux_lemma =>
    have c0 := blk_mem TQ.out (g := w.heap.size) (t := 25) (cs := xs) (by simp) 0 k0; have c1 := blk_mem TQ.out (g := w.heap.size) (t := 25) (cs := xs) (by simp) 1 k1
    go_region_held3 (fun w' => w'.cell? ⟨w.heap.size, 0, none⟩ = some (.slice aA A.length cA) ∧ w'.cell? ⟨w.heap.size, 1, none⟩ = some (.slice aB B.length cB)) (first | exact ⟨blk_mem TQ.out (g := w.heap.size) (t := 25) (cs := xs) (by simp) 0 k0, blk_mem TQ.out (g := w.heap.size) (t := 25) (cs := xs) (by simp) 1 k1⟩ | go_keep) (first
      | (go_at_call 17; clear t1; refine (pairsV (HA.out.below TQ.out.below) (by omega)).mono ?_; rintro e wq ⟨vp, rfl, Sp⟩; replace TQ := Lib.hid (TQ.out.call Sp); clear Sp; have c0 := blk_mem TQ.out (g := w.heap.size) (t := 25) (cs := xs) (by simp) 0 k0; have c1 := blk_mem TQ.out (g := w.heap.size) (t := 25) (cs := xs) (by simp) 1 k1)
      | (go_at_call 29; refine (other w _ _ vp A TQ.out HS.out (by omega)).mono ?_; rintro e wq ⟨rfl, Sq⟩; replace TQ := Lib.hid Sq; clear Sq; have c0 := blk_mem TQ.out (g := w.heap.size) (t := 25) (cs := xs) (by simp) 0 k0; have c1 := blk_mem TQ.out (g := w.heap.size) (t := 25) (cs := xs) (by simp) 1 k1)
      | (go_at_call 17; clear t2; refine (pairsV (HB.out.below TQ.out.below) (by omega)).mono ?_; rintro e wq ⟨vq, rfl, Sq⟩; replace TQ := Lib.hid (TQ.out.call Sq); clear Sq; have c0 := blk_mem TQ.out (g := w.heap.size) (t := 25) (cs := xs) (by simp) 0 k0; have c1 := blk_mem TQ.out (g := w.heap.size) (t := 25) (cs := xs) (by simp) 1 k1)
      | (go_at_call 31; refine (refListsV HP3.out (TQ.out.rdv (v := vp) (l := second P.turn A) (by simp)) (TQ.out.rdv (v := vq) (l := B) (by simp)) (by omega)).mono ?_; rintro e wq ⟨vm, rfl, Sm⟩; replace TQ := Lib.hid (TQ.out.call Sm); clear Sm))
    all_goals (go_wp2_with fail; go_meet; exact ⟨rfl, TQ.out.drop1.drop1⟩)
  case rest =>
  obtain ⟨rfl, T16⟩ := hcut
  clear TQ T15 t1 t2
  generalize wc = w16 at T16 ⊢
  have TQ := Lib.hid T16.out
  have t1 : True := trivial
  have t2 : True := trivial
  go_wp2_with (first
    | (go_at_call 23; clear t1; refine (num_any E _ (HE.out.below TQ.out.below) o3 HE3.out).mono ?_; rintro e wq ⟨rfl, hq⟩; replace TQ := Lib.hid (TQ.out.step hq); clear hq)
    | (go_at_call 32; clear t2; refine (sameCV (TQ.out.rdv (v := u7) (l := r3) (by simp)) (TQ.out.rdv (v := u13) (l := r3) (by simp))).mono ?_; rintro e wq ⟨rfl, hq⟩; replace TQ := Lib.hid (TQ.out.step hq); clear hq))
  go_ret
  exact ⟨rfl, TQ.out.below⟩
end Go.Proofs.YtdkailccfcijiaaDoor
