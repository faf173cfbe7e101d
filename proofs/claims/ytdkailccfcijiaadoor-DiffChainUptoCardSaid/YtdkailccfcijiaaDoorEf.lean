/- The law DiffChain, walked. Conditions: the lengths. -/
import Derived.Test.YtdkailccfcijiaaDoorEd
import Derived.Test.YtdkailccfcijiaaDoorPq
namespace Go.Proofs.YtdkailccfcijiaaDoor
open Go.RowKit
set_option linter.unusedVariables false
set_option linter.unusedSimpArgs false
set_option maxRecDepth 100000

set_option maxHeartbeats 20000000 in
theorem diffChain (E : Nat → Addr) (w : World) (aA aB aD : Option Addr) (cA cB cD : Nat) (A B D : List P) (hE : Errs [0, 1] E w)
    (hA : RdV PT w (.slice aA A.length cA) A) (hB : RdV PT w (.slice aB B.length cB) B) (hD : RdV PT w (.slice aD D.length cD) D) (hnA : A.length ≤ 1048576) (hnB : B.length ≤ 1048576) (hnD : D.length ≤ 1048576) :
    Calls Tryd.prog 9 #[.agg #[.slice aA A.length cA, .slice aB B.length cB, .slice aD D.length cD]] w fun e w' => e = .returned (.bool true) ∧ Below w.heap.size w w' := by
  have HE := Lib.hid hE
  have HA := Lib.hid hA
  have HB := Lib.hid hB
  have HD := Lib.hid hD
  have hla := stateL_len A
  have hua := stateL_up A
  have hpa : ∀ v W, RdV PT W v A → Calls Tryd.prog 44 #[v] W fun e w' => ∃ v', e = .returned v' ∧ Sep W w' [row PT v' (stateL A)] := fun v W h => stateV h (by omega)
  generalize stateL A = a at hla hua hpa
  have HPa := Lib.hid hpa
  clear hpa
  have hlb := stateL_len B
  have hub := stateL_up B
  have hpb : ∀ v W, RdV PT W v B → Calls Tryd.prog 44 #[v] W fun e w' => ∃ v', e = .returned v' ∧ Sep W w' [row PT v' (stateL B)] := fun v W h => stateV h (by omega)
  generalize stateL B = b at hlb hub hpb
  have HPb := Lib.hid hpb
  clear hpb
  have hld := stateL_len D
  have hud := stateL_up D
  have hpd : ∀ v W, RdV PT W v D → Calls Tryd.prog 44 #[v] W fun e w' => ∃ v', e = .returned v' ∧ Sep W w' [row PT v' (stateL D)] := fun v W h => stateV h (by omega)
  generalize stateL D = d at hld hud hpd
  have HPd := Lib.hid hpd
  clear hpd
  obtain ⟨X, Y, Z, Q, h1, h2, h3, h4, h5, h6, h7, h8, n1, n2, n3, n4⟩ := chain_facts hua hub hud
  have H1 := Lib.hid h1
  have H2 := Lib.hid h2
  have H3 := Lib.hid h3
  have H4 := Lib.hid h4
  have H5 := Lib.hid h5
  have H6 := Lib.hid h6
  have H7 := Lib.hid h7
  have H8 := Lib.hid h8
  clear hE hA hB hD hua hub hud h1 h2 h3 h4 h5 h6 h7 h8
  obtain ⟨xs, hxs⟩ : ∃ xs : List Value, xs = [.slice aA A.length cA, .slice aB B.length cB, .slice aD D.length cD] := ⟨_, rfl⟩
  have k0 : xs[0]? = some (.slice aA A.length cA) := by rw [hxs]; rfl
  have k1 : xs[1]? = some (.slice aB B.length cB) := by rw [hxs]; rfl
  have k2 : xs[2]? = some (.slice aD D.length cD) := by rw [hxs]; rfl
  have TQ : Hid (Sep w (w.alloc (.cells #[.slice aA A.length cA, .slice aB B.length cB, .slice aD D.length cD] 71)) [blk w.heap.size 71 xs]) := Lib.hid (by rw [hxs]; exact (Sep.nil w).box 71 [.slice aA A.length cA, .slice aB B.length cB, .slice aD D.length cD])
  clear hxs
  go_enter Tryd.func9, Tryd.ntmps9
  go_upto_region 3 with (go_at_call 43; refine (begun43 E _ (HE.out.below TQ.out.below)).mono ?_; rintro e wq ⟨rfl, hq⟩; replace TQ := Lib.hid (TQ.out.step hq); clear hq)
  replace TQ := Lib.hid TQ.out.drew
  go_cut [3, 4, 5] (fun s3 s4 s5 wx => Hid (Sep w wx [row PT s5 d, row PT s4 b, row PT s3 a, blk w.heap.size 71 xs]))
  case first => as_aux_lemma =>
    have c0 := blk_mem TQ.out (g := w.heap.size) (t := 71) (cs := xs) (by simp) 0 k0; have c1 := blk_mem TQ.out (g := w.heap.size) (t := 71) (cs := xs) (by simp) 1 k1; have c2 := blk_mem TQ.out (g := w.heap.size) (t := 71) (cs := xs) (by simp) 2 k2
    have t1 : True := trivial
    have t2 : True := trivial
    have t3 : True := trivial
    go_region_held3 (fun w' => w'.cell? ⟨w.heap.size, 0, none⟩ = some (.slice aA A.length cA) ∧ w'.cell? ⟨w.heap.size, 1, none⟩ = some (.slice aB B.length cB) ∧ w'.cell? ⟨w.heap.size, 2, none⟩ = some (.slice aD D.length cD)) (first | exact ⟨blk_mem TQ.out (g := w.heap.size) (t := 71) (cs := xs) (by simp) 0 k0, blk_mem TQ.out (g := w.heap.size) (t := 71) (cs := xs) (by simp) 1 k1, blk_mem TQ.out (g := w.heap.size) (t := 71) (cs := xs) (by simp) 2 k2⟩ | go_keep) (first
      | (go_at_call 44; clear t1; refine (HPa.out _ _ (HA.out.below TQ.out.below)).mono ?_; rintro e wq ⟨v1, rfl, Sq⟩; replace TQ := Lib.hid (TQ.out.call Sq); clear Sq; have c0 := blk_mem TQ.out (g := w.heap.size) (t := 71) (cs := xs) (by simp) 0 k0; have c1 := blk_mem TQ.out (g := w.heap.size) (t := 71) (cs := xs) (by simp) 1 k1; have c2 := blk_mem TQ.out (g := w.heap.size) (t := 71) (cs := xs) (by simp) 2 k2)
      | (go_at_call 44; clear t2; refine (HPb.out _ _ (HB.out.below TQ.out.below)).mono ?_; rintro e wq ⟨v2, rfl, Sq⟩; replace TQ := Lib.hid (TQ.out.call Sq); clear Sq; have c0 := blk_mem TQ.out (g := w.heap.size) (t := 71) (cs := xs) (by simp) 0 k0; have c1 := blk_mem TQ.out (g := w.heap.size) (t := 71) (cs := xs) (by simp) 1 k1; have c2 := blk_mem TQ.out (g := w.heap.size) (t := 71) (cs := xs) (by simp) 2 k2)
      | (go_at_call 44; clear t3; refine (HPd.out _ _ (HD.out.below TQ.out.below)).mono ?_; rintro e wq ⟨v3, rfl, Sq⟩; replace TQ := Lib.hid (TQ.out.call Sq); clear Sq; have c0 := blk_mem TQ.out (g := w.heap.size) (t := 71) (cs := xs) (by simp) 0 k0; have c1 := blk_mem TQ.out (g := w.heap.size) (t := 71) (cs := xs) (by simp) 1 k1; have c2 := blk_mem TQ.out (g := w.heap.size) (t := 71) (cs := xs) (by simp) 2 k2))
    all_goals (go_wp2_with fail; go_meet; exact TQ.out)
  case rest =>
  replace TQ := Lib.hid hcut.out
  clear hcut
  generalize wc = w3 at TQ ⊢
  have t1 : True := trivial
  have t2 : True := trivial
  have t3 : True := trivial
  have s1 : True := trivial
  have s2 : True := trivial
  have s3 : True := trivial
  have s4 : True := trivial
  have s5 : True := trivial
  have i1 : True := trivial
  have i2 : True := trivial
  go_wp2_with (first
    | (go_at_call 30; clear t1; refine (listsV2 H1.out (HE.out.below TQ.out.below) (TQ.out.rdv (v := u3) (l := a) (by simp)) (TQ.out.rdv (v := u4) (l := b) (by simp)) (by omega)).mono ?_; rintro e wq ⟨vx, rfl, Sq⟩; simp only [errV]; replace TQ := Lib.hid (TQ.out.call Sq); clear Sq)
    | (go_at_call 30; clear t2; refine (listsV2 H2.out (HE.out.below TQ.out.below) (TQ.out.rdv (v := u4) (l := b) (by simp)) (TQ.out.rdv (v := u5) (l := d) (by simp)) (by omega)).mono ?_; rintro e wq ⟨vy, rfl, Sq⟩; simp only [errV]; replace TQ := Lib.hid (TQ.out.call Sq); clear Sq)
    | (go_at_call 30; clear t3; refine (listsV2 H3.out (HE.out.below TQ.out.below) (TQ.out.rdv (v := u3) (l := a) (by simp)) (TQ.out.rdv (v := u5) (l := d) (by simp)) (by omega)).mono ?_; rintro e wq ⟨vz, rfl, Sq⟩; simp only [errV]; replace TQ := Lib.hid (TQ.out.call Sq); clear Sq)
    | (go_at_call 34; clear s1; refine (composeV2 H4.out (HE.out.below TQ.out.below) (TQ.out.rdv (v := vx) (l := X) (by simp)) (TQ.out.rdv (v := vy) (l := Y) (by simp)) (by first | omega | (simp; omega))).mono ?_; rintro e wq ⟨vk, rfl, Sq⟩; simp only [errV]; replace TQ := Lib.hid (TQ.out.call Sq); clear Sq)
    | (go_at_call 32; refine (sameCV (TQ.out.rdv (v := vk) (l := Z) (by simp)) (TQ.out.rdv (v := vz) (l := Z) (by simp))).mono ?_; rintro e wq ⟨rfl, hq⟩; replace TQ := Lib.hid (TQ.out.step hq); clear hq)
    | (go_at_call 35; clear i1; refine (invertV (TQ.out.rdv (v := vx) (l := X) (by simp)) (by omega)).mono ?_; rintro e wq ⟨vi, rfl, Sq⟩; replace TQ := Lib.hid (TQ.out.call Sq); clear Sq)
    | (go_at_call 34; clear s2; refine (composeV2 H5.out (HE.out.below TQ.out.below) (TQ.out.rdv (v := vx) (l := X) (by simp)) (TQ.out.rdv (v := vi) (l := X.map C.back) (by simp)) (by first | omega | (simp; omega))).mono ?_; rintro e wq ⟨vn, rfl, Sq⟩; simp only [errV]; obtain ⟨a_vn, c_vn, rfl, _, _, _⟩ := Sq.rdv (T := CT) (v := vn) (l := []) (.head _); replace TQ := Lib.hid (TQ.out.call Sq); clear Sq)
    | (go_at_call 35; clear i2; refine (invertV (TQ.out.rdv (v := vz) (l := Z) (by simp)) (by omega)).mono ?_; rintro e wq ⟨vj, rfl, Sq⟩; replace TQ := Lib.hid (TQ.out.call Sq); clear Sq)
    | (go_at_call 34; clear s3; refine (composeV2 H6.out (HE.out.below TQ.out.below) (TQ.out.rdv (v := vk) (l := Z) (by simp)) (TQ.out.rdv (v := vj) (l := Z.map C.back) (by simp)) (by first | omega | (simp; omega))).mono ?_; rintro e wq ⟨vm, rfl, Sq⟩; simp only [errV]; obtain ⟨a_vm, c_vm, rfl, _, _, _⟩ := Sq.rdv (T := CT) (v := vm) (l := []) (.head _); replace TQ := Lib.hid (TQ.out.call Sq); clear Sq)
    | (go_at_call 34; clear s4; refine (composeV2 H7.out (HE.out.below TQ.out.below) (TQ.out.rdv (v := vy) (l := Y) (by simp)) (TQ.out.rdv (v := vj) (l := Z.map C.back) (by simp)) (by first | omega | (simp; omega))).mono ?_; rintro e wq ⟨vr, rfl, Sq⟩; simp only [errV]; replace TQ := Lib.hid (TQ.out.call Sq); clear Sq)
    | (go_at_call 34; clear s5; refine (composeV2 H8.out (HE.out.below TQ.out.below) (TQ.out.rdv (v := vx) (l := X) (by simp)) (TQ.out.rdv (v := vr) (l := Q) (by simp)) (by first | omega | (simp; omega))).mono ?_; rintro e wq ⟨vo, rfl, Sq⟩; simp only [errV]; obtain ⟨a_vo, c_vo, rfl, _, _, _⟩ := Sq.rdv (T := CT) (v := vo) (l := []) (.head _); replace TQ := Lib.hid (TQ.out.call Sq); clear Sq))
  go_ret
  exact ⟨rfl, TQ.out.below⟩
end Go.Proofs.YtdkailccfcijiaaDoor
