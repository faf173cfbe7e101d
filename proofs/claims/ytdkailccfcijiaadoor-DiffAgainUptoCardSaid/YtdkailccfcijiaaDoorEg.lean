/- The law DiffAgain, walked. Conditions: the lengths. -/
import Derived.Test.YtdkailccfcijiaaDoorEe
import Derived.Test.YtdkailccfcijiaaDoorPr
namespace Go.Proofs.YtdkailccfcijiaaDoor
open Go.RowKit
set_option linter.unusedVariables false
set_option linter.unusedSimpArgs false
set_option maxRecDepth 100000

set_option maxHeartbeats 20000000 in
theorem diffAgain (E : Nat → Addr) (w : World) (aA aB aL aM : Option Addr) (nB nM cA cB cL cM : Nat) (A : List P) (X : List C) (hE : Errs [0, 1] E w)
    (hA : RdV PT w (.slice aA A.length cA) A) (hL : RdV CT w (.slice aL X.length cL) X) (hnA : A.length ≤ 1048576) (hnL : X.length ≤ 1048576) :
    Calls Tryd.prog 8 #[.agg #[.slice aA A.length cA, .slice aB nB cB, .slice aL X.length cL, .slice aM nM cM]] w fun e w' => e = .returned (.bool true) ∧ Below w.heap.size w w' := by
  have HE := Lib.hid hE
  have HA := Lib.hid hA
  have HL := Lib.hid hL
  have hla := stateL_len A
  have hua := stateL_up A
  have hpa : ∀ v W, RdV PT W v A → Calls Tryd.prog 44 #[v] W fun e w' => ∃ v', e = .returned v' ∧ Sep W w' [row PT v' (stateL A)] := fun v W h => stateV h (by omega)
  generalize stateL A = a at hla hua hpa
  have HPA := Lib.hid hpa
  have HL2 : Hid (Rd CT w aL X.length X) := Lib.hid (by obtain ⟨a', c', e', _, _, h⟩ := hL; cases e'; exact h)
  obtain ⟨r, o, h1, h2, h3⟩ := again_facts hua X
  have H1 := Lib.hid h1
  have H3 := Lib.hid h3
  clear hE hA hL hua hpa h1 h3
  obtain ⟨xs, hxs⟩ : ∃ xs : List Value, xs = [.slice aA A.length cA, .slice aB nB cB, .slice aL X.length cL, .slice aM nM cM] := ⟨_, rfl⟩
  have k0 : xs[0]? = some (.slice aA A.length cA) := by rw [hxs]; rfl
  have k2 : xs[2]? = some (.slice aL X.length cL) := by rw [hxs]; rfl
  have TQ : Hid (Sep w (w.alloc (.cells #[.slice aA A.length cA, .slice aB nB cB, .slice aL X.length cL, .slice aM nM cM] 25)) [blk w.heap.size 25 xs]) := Lib.hid (by rw [hxs]; exact (Sep.nil w).box 25 [.slice aA A.length cA, .slice aB nB cB, .slice aL X.length cL, .slice aM nM cM])
  clear hxs
  go_enter Tryd.func8, Tryd.ntmps8
  go_upto_region 4 with (first
    | (go_at_call 43; refine (begun43 E _ (HE.out.below TQ.out.below)).mono ?_; rintro e wq ⟨rfl, hq⟩; replace TQ := Lib.hid (TQ.out.step hq); clear hq; have c0 := blk_mem TQ.out (g := w.heap.size) (t := 25) (cs := xs) (by simp) 0 k0; have c2 := blk_mem TQ.out (g := w.heap.size) (t := 25) (cs := xs) (by simp) 2 k2)
    | (go_at_call 44; refine (HPA.out _ _ (HA.out.below TQ.out.below)).mono ?_; rintro e wq ⟨va, rfl, Sq⟩; replace TQ := Lib.hid (TQ.out.call Sq); clear Sq))
  clear c0 c2
  replace TQ := Lib.hid TQ.out.drew
  go_cut [4, 5] (fun s4 s5 wx => s5 = errV E o ∧ Hid (Sep w wx [row PT s4 r, row PT va a, blk w.heap.size 25 xs]))
  case first => as_aux_lemma =>
    have c0 := blk_mem TQ.out (g := w.heap.size) (t := 25) (cs := xs) (by simp) 0 k0; have c2 := blk_mem TQ.out (g := w.heap.size) (t := 25) (cs := xs) (by simp) 2 k2
    go_region_held3 (fun w' => w'.cell? ⟨w.heap.size, 2, none⟩ = some (.slice aL X.length cL)) (first | exact blk_mem TQ.out (g := w.heap.size) (t := 25) (cs := xs) (by simp) 2 k2 | go_keep) (first
      | (go_at_call 17; refine (pairsV (TQ.out.rdv (v := va) (l := a) (by simp)) (by omega)).mono ?_; rintro e wq ⟨vp, rfl, Sq⟩; replace TQ := Lib.hid (TQ.out.call Sq); clear Sq; have c0 := blk_mem TQ.out (g := w.heap.size) (t := 25) (cs := xs) (by simp) 0 k0; have c2 := blk_mem TQ.out (g := w.heap.size) (t := 25) (cs := xs) (by simp) 2 k2)
      | (go_at_call 19; refine (changesV (HL.out.below TQ.out.below) (by omega)).mono ?_; rintro e wq ⟨vq, rfl, Sq⟩; replace TQ := Lib.hid (TQ.out.call Sq); clear Sq)
      | (go_at_call 21; refine (patchV2 H1.out (HE.out.below TQ.out.below) (TQ.out.rdv (v := vp) (l := a) (by simp)) (TQ.out.rdv (v := vq) (l := X) (by simp)) (by omega)).mono ?_; rintro e wq ⟨vb, rfl, Sq⟩; replace TQ := Lib.hid (TQ.out.call Sq); clear Sq))
    all_goals (go_wp2_with fail; go_meet; exact ⟨rfl, TQ.out.drop1.drop1⟩)
  case rest =>
  obtain ⟨rfl, T4⟩ := hcut
  clear TQ
  generalize wc = w4 at T4 ⊢
  have hE4 := HE.out.below T4.out.below
  rcases H3.out with ⟨g, rfl, rfl, hg⟩ | ⟨rfl, hlist, htell⟩
  · obtain ⟨ab, cb, rfl, _, _, _⟩ := T4.out.rdv (T := PT) (v := u4) (l := []) (.head _)
    have q0 := hE4.cell 0 (by decide)
    have q1 := hE4.cell 1 (by decide)
    have e00 := err_eq hE4 0 0 (by decide) (by decide)
    have e10 := err_eq hE4 1 0 (by decide) (by decide)
    have e11 := err_eq hE4 1 1 (by decide) (by decide)
    simp only [Nat.reduceBEq, beq_self_eq_true] at e00 e10 e11
    have en := err_ne_nil
    have hb := Lib.hid T4.out.below
    clear hE4 T4 H1 H3
    rcases hg with rfl | rfl
    all_goals
      simp only [errV]
      go_wp2
      go_ret
      exact ⟨rfl, hb.out⟩
  · have HLst := Lib.hid hlist
    have HTell := Lib.hid htell
    clear hE4 H1 H3 hlist htell
    simp only [errV]
    go_wp2
    go_loopw [6] (fun t6 wr => ∃ k : Nat, k ≤ X.length ∧ t6 = .int .i64 k ∧ Hid (Sep w wr [row PT u4 r, row PT va a, blk w.heap.size 25 xs])) (fun t6 _ => X.length - (intOf t6).toNat)
    case atStart => exact ⟨0, Nat.zero_le _, rfl, T4.out⟩
    case round =>
      obtain ⟨k, hk, rfl, hS⟩ := hrel
      by_cases hlt : k < X.length
      · obtain ⟨bb, o, x, hae, hx, d0, d1, d2, d3, d4⟩ := rdC (HL2.out.below hS.out.below) hlt
        subst hae
        have HT := Lib.hid (HTell.out x (List.mem_of_getElem? hx))
        obtain ⟨xk, had, has, old, new⟩ := x
        dsimp only at d0 d1 d2 d3 d4
        have c2 := blk_mem hS.out (g := w.heap.size) (t := 25) (cs := xs) (by simp) 2 k2
        clear hx
        have T0 := Lib.hid ((Sep.nil wr).boxAt 32 [.string xk, .bool had, .bool has, .string old, .string new] wr.heap.size rfl)
        have z0 := blk_cell T0.out 0 rfl
        have f0 := blk_free T0.out 0
        have z1 := blk_cell T0.out 1 rfl
        have f1 := blk_free T0.out 1
        have z2 := blk_cell T0.out 2 rfl
        have f2 := blk_free T0.out 2
        have z3 := blk_cell T0.out 3 rfl
        have f3 := blk_free T0.out 3
        have z4 := blk_cell T0.out 4 rfl
        have f4 := blk_free T0.out 4
        have hb0 := Lib.hid T0.out.below
        replace hS := Lib.hid (hS.out.step T0.out.below)
        clear T0 f0 f1 f2 f3 f4
        have t1 : True := trivial
        have t2 : True := trivial
        obtain ⟨nv, hnv⟩ : ∃ nv, nv = fv (findP r xk) := ⟨_, rfl⟩
        have HN := Lib.hid hnv
        cases has with
        | true =>
          have hN2 : nv = new := by rw [hnv]; exact (HT.out.2.2.2 rfl).symm
          clear hnv
          subst hN2
          go_wp2_with (first
            | (go_at_call 46; clear t1; refine (hasV2 HT.out.2.1 HT.out.1 (hS.out.rdv (v := va) (l := a) (by simp))).mono ?_; rintro e wq ⟨rfl, hq⟩; replace hS := Lib.hid (hS.out.step hq); replace z0 := qcell z0 hq; replace z1 := qcell z1 hq; replace z2 := qcell z2 hq; replace z3 := qcell z3 hq; replace z4 := qcell z4 hq; clear hq)
            | (go_at_call 46; clear t2; refine (hasV2 HN.out HT.out.2.2.1 (hS.out.rdv (v := u4) (l := r) (by simp))).mono ?_; rintro e wq ⟨rfl, hq⟩; replace hS := Lib.hid (hS.out.step hq); replace z0 := qcell z0 hq; replace z1 := qcell z1 hq; replace z2 := qcell z2 hq; replace z3 := qcell z3 hq; replace z4 := qcell z4 hq; clear hq))
          clear z0 z1 z2 z3 z4 d0 d1 d2 d3 d4 c2
          go_roundw
          case rel => exact ⟨k + 1, by omega, by go_num, hS.out⟩
          case measure => simp [intOf]; omega
        | false =>
          clear hnv
          go_wp2_with (first
            | (go_at_call 46; clear t1; refine (hasV2 HT.out.2.1 HT.out.1 (hS.out.rdv (v := va) (l := a) (by simp))).mono ?_; rintro e wq ⟨rfl, hq⟩; replace hS := Lib.hid (hS.out.step hq); replace z0 := qcell z0 hq; replace z1 := qcell z1 hq; replace z2 := qcell z2 hq; replace z3 := qcell z3 hq; replace z4 := qcell z4 hq; clear hq)
            | (go_at_call 46; clear t2; refine (hasV2 HN.out HT.out.2.2.1 (hS.out.rdv (v := u4) (l := r) (by simp))).mono ?_; rintro e wq ⟨rfl, hq⟩; replace hS := Lib.hid (hS.out.step hq); replace z0 := qcell z0 hq; replace z1 := qcell z1 hq; replace z2 := qcell z2 hq; replace z3 := qcell z3 hq; replace z4 := qcell z4 hq; clear hq))
          clear z0 z1 z2 z3 z4 d0 d1 d2 d3 d4 c2
          go_roundw
          case rel => exact ⟨k + 1, by omega, by go_num, hS.out⟩
          case measure => simp [intOf]; omega
      · obtain rfl : k = X.length := by omega
        have TQ := Lib.hid hS.out
        have c2 := blk_mem hS.out (g := w.heap.size) (t := 25) (cs := xs) (by simp) 2 k2
        clear hlt hk hS T4
        go_upto_region 16 with (first
          | (go_at_call 17; refine (pairsV (TQ.out.rdv (v := va) (l := a) (by simp)) (by omega)).mono ?_; rintro e wq ⟨v1, rfl, Sq⟩; replace TQ := Lib.hid (TQ.out.call Sq); clear Sq; have tk : True := trivial)
          | (go_at_call 17; clear tk; refine (pairsV (TQ.out.rdv (v := u4) (l := r) (by simp)) (by omega)).mono ?_; rintro e wq ⟨v2, rfl, Sq⟩; replace TQ := Lib.hid (TQ.out.call Sq); clear Sq)
          | (go_at_call 30; refine (listsV2 HLst.out (HE.out.below TQ.out.below) (TQ.out.rdv (v := v1) (l := a) (by simp)) (TQ.out.rdv (v := v2) (l := r) (by simp)) (by omega)).mono ?_; rintro e wq ⟨vl, rfl, Sq⟩; simp only [errV]; replace TQ := Lib.hid (TQ.out.call Sq); clear Sq))
        have T16 : Hid (Sep w wq [row CT vl (wantL X), blk w.heap.size 25 xs]) := Lib.hid (TQ.out.sub2 (by repeat' (first | exact List.Sublist.refl _ | exact List.nil_sublist _ | apply List.Sublist.cons_cons | apply List.Sublist.cons)))
        clear TQ c2
        have c2 := blk_mem T16.out (g := w.heap.size) (t := 25) (cs := xs) (by simp) 2 k2
        have T17 : Hid (Sep w wq [row CT (.slice none 0 0) (wantL (X.take 0)), row CT vl (wantL X), blk w.heap.size 25 xs]) := Lib.hid (T16.out.none_ CT)
        clear T16
        go_wp2
        go_loopw [14, 15] (fun v t15 wr => ∃ k : Nat, k ≤ X.length ∧ t15 = .int .i64 k ∧ Hid (Sep w wr [row CT v (wantL (X.take k)), row CT vl (wantL X), blk w.heap.size 25 xs])) (fun _ t15 _ => X.length - (intOf t15).toNat)
        case atStart => exact ⟨0, Nat.zero_le _, rfl, T17.out⟩
        case round =>
          obtain ⟨k, hk, rfl, hS⟩ := hrel
          clear c2
          by_cases hlt : k < X.length
          · obtain ⟨bb, o, x, hae, hx, d0, d1, d2, d3, d4⟩ := rdC (HL2.out.below hS.out.below) hlt
            subst hae
            have HX := Lib.hid (wantL_take hx)
            obtain ⟨xk, had, has, old, new⟩ := x
            dsimp only at d0 d1 d2 d3 d4
            have c2 := blk_mem hS.out (g := w.heap.size) (t := 25) (cs := xs) (by simp) 2 k2
            have hwl : (wantL (X.take k)).length ≤ k := Nat.le_trans (wantL_len _) (List.length_take_le _ _)
            generalize hwt : wantL (X.take k) = wt at hS HX hwl
            clear hx hwt
            have hb56 : (wt.length + 1) * 56 ≤ 140737488355328 := by omega
            have T0 := Lib.hid ((Sep.nil wr).boxAt 32 [.string xk, .bool had, .bool has, .string old, .string new] wr.heap.size rfl)
            have z0 := blk_cell T0.out 0 rfl
            have f0 := blk_free T0.out 0
            have z1 := blk_cell T0.out 1 rfl
            have f1 := blk_free T0.out 1
            have z2 := blk_cell T0.out 2 rfl
            have f2 := blk_free T0.out 2
            have z3 := blk_cell T0.out 3 rfl
            have f3 := blk_free T0.out 3
            have z4 := blk_cell T0.out 4 rfl
            have f4 := blk_free T0.out 4
            clear T0
            cases had with
            | true =>
              cases has with
              | true =>
                cases hv : (old.toList == new.toList)
                · have HK := Lib.hid (show keepC (normC ⟨xk, true, true, old, new⟩) = [⟨xk, true, true, old, new⟩] from keepC_vals xk old new false hv)
                  have T1 := Lib.hid ((Sep.nil wr).boxAt 32 [.string xk, .bool true, .bool true, .string old, .string new] wr.heap.size rfl)
                  have hS1 := Lib.hid (hS.out.step T1.out.below)
                  have y0 := blk_cell T1.out 0 rfl
                  have y1 := blk_cell T1.out 1 rfl
                  have y2 := blk_cell T1.out 2 rfl
                  have y3 := blk_cell T1.out 3 rfl
                  have y4 := blk_cell T1.out 4 rfl
                  clear T1
                  go_wp2_with (at_builtin; refine app_sep elemC rfl (.tmp 137) (.tmp 139) rfl u14 wt rfl (hS1.out.alloc _) _ 1 1 [⟨xk, true, true, old, new⟩] rfl (rd_new2 CT _ ⟨xk, true, true, old, new⟩ _ rfl 32 (wr.heap.size + 1) (by simp)) hb56 ?_; intro v2 w4 S5 hk5)
                  have S6 := Lib.hid S5
                  clear S5 hk5
                  go_roundw
                  case rel => exact ⟨k + 1, by omega, by go_num, by rw [HX.out, HK.out]; exact S6.out⟩
                  case measure => simp [intOf]; omega
                · have HK := Lib.hid (show keepC (normC ⟨xk, true, true, old, new⟩) = [] from keepC_vals xk old new true hv)
                  have T1 := Lib.hid ((Sep.nil wr).boxAt 32 [.string xk, .bool true, .bool true, .string old, .string new] wr.heap.size rfl)
                  have hS1 := Lib.hid (hS.out.step T1.out.below)
                  have y0 := blk_cell T1.out 0 rfl
                  have y1 := blk_cell T1.out 1 rfl
                  have y2 := blk_cell T1.out 2 rfl
                  have y3 := blk_cell T1.out 3 rfl
                  have y4 := blk_cell T1.out 4 rfl
                  clear T1
                  go_wp2
                  go_roundw
                  case rel => exact ⟨k + 1, by omega, by go_num, by rw [HX.out, HK.out, List.append_nil]; exact hS1.out⟩
                  case measure => simp [intOf]; omega
              | false =>
                have HK := Lib.hid (show keepC (normC ⟨xk, true, false, old, new⟩) = [⟨xk, true, false, old, ⟨#[]⟩⟩] from rfl)
                have T1 := Lib.hid ((Sep.nil wr).boxAt 32 [.string xk, .bool true, .bool false, .string old, .string ⟨#[]⟩] wr.heap.size rfl)
                have hS1 := Lib.hid (hS.out.step T1.out.below)
                have y0 := blk_cell T1.out 0 rfl
                have y1 := blk_cell T1.out 1 rfl
                have y2 := blk_cell T1.out 2 rfl
                have y3 := blk_cell T1.out 3 rfl
                have y4 := blk_cell T1.out 4 rfl
                clear T1
                go_wp2_with (at_builtin; refine app_sep elemC rfl (.tmp 137) (.tmp 139) rfl u14 wt rfl (hS1.out.alloc _) _ 1 1 [⟨xk, true, false, old, ⟨#[]⟩⟩] rfl (rd_new2 CT _ ⟨xk, true, false, old, ⟨#[]⟩⟩ _ rfl 32 (wr.heap.size + 1) (by simp)) hb56 ?_; intro v2 w4 S5 hk5)
                have S6 := Lib.hid S5
                clear S5 hk5
                go_roundw
                case rel => exact ⟨k + 1, by omega, by go_num, by rw [HX.out, HK.out]; exact S6.out⟩
                case measure => simp [intOf]; omega
            | false =>
              cases has with
              | true =>
                have HK := Lib.hid (show keepC (normC ⟨xk, false, true, old, new⟩) = [⟨xk, false, true, ⟨#[]⟩, new⟩] from rfl)
                have T1 := Lib.hid ((Sep.nil wr).boxAt 32 [.string xk, .bool false, .bool true, .string ⟨#[]⟩, .string new] wr.heap.size rfl)
                have hS1 := Lib.hid (hS.out.step T1.out.below)
                have y0 := blk_cell T1.out 0 rfl
                have y1 := blk_cell T1.out 1 rfl
                have y2 := blk_cell T1.out 2 rfl
                have y3 := blk_cell T1.out 3 rfl
                have y4 := blk_cell T1.out 4 rfl
                clear T1
                go_wp2_with (at_builtin; refine app_sep elemC rfl (.tmp 137) (.tmp 139) rfl u14 wt rfl (hS1.out.alloc _) _ 1 1 [⟨xk, false, true, ⟨#[]⟩, new⟩] rfl (rd_new2 CT _ ⟨xk, false, true, ⟨#[]⟩, new⟩ _ rfl 32 (wr.heap.size + 1) (by simp)) hb56 ?_; intro v2 w4 S5 hk5)
                have S6 := Lib.hid S5
                clear S5 hk5
                go_roundw
                case rel => exact ⟨k + 1, by omega, by go_num, by rw [HX.out, HK.out]; exact S6.out⟩
                case measure => simp [intOf]; omega
              | false =>
                have HK := Lib.hid (show keepC (normC ⟨xk, false, false, old, new⟩) = [] from by simp [normC, keepC, idle_eq])
                have T1 := Lib.hid ((Sep.nil wr).boxAt 32 [.string xk, .bool false, .bool false, .string ⟨#[]⟩, .string ⟨#[]⟩] wr.heap.size rfl)
                have hS1 := Lib.hid (hS.out.step T1.out.below)
                have y0 := blk_cell T1.out 0 rfl
                have y1 := blk_cell T1.out 1 rfl
                have y2 := blk_cell T1.out 2 rfl
                have y3 := blk_cell T1.out 3 rfl
                have y4 := blk_cell T1.out 4 rfl
                clear T1
                go_wp2
                go_roundw
                case rel => exact ⟨k + 1, by omega, by go_num, by rw [HX.out, HK.out, List.append_nil]; exact hS1.out⟩
                case measure => simp [intOf]; omega
          · obtain rfl : k = X.length := by omega
            rw [List.take_length] at hS
            have c2 := blk_mem hS.out (g := w.heap.size) (t := 25) (cs := xs) (by simp) 2 k2
            clear hlt hk
            go_wp2_with (go_at_call 32; refine (sameCV (hS.out.rdv (v := vl) (l := wantL X) (by simp)) (hS.out.rdv (v := u14) (l := wantL X) (by simp))).mono ?_; rintro e wq ⟨rfl, hq⟩; replace hS := Lib.hid (hS.out.step hq); clear hq)
            go_ret
            exact ⟨rfl, hS.out.below⟩
end Go.Proofs.YtdkailccfcijiaaDoor
