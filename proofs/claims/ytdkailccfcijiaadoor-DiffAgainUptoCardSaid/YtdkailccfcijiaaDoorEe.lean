/- The law DiffBack, walked. Conditions: the lengths. -/
import Derived.Test.YtdkailccfcijiaaDoorEc
import Derived.Test.YtdkailccfcijiaaDoorEd
namespace Go.Proofs.YtdkailccfcijiaaDoor
open Go.RowKit
set_option linter.unusedVariables false
set_option linter.unusedSimpArgs false
set_option maxRecDepth 100000

theorem Sep.sub2 {w0 w : World} {L1 L2 : List Chunk} (h : Sep w0 w L2) (hs : L1.Sublist L2) : Sep w0 w L1 :=
  ⟨h.below, fun c hc => h.is c (hs.subset hc), fun c hc => h.lie c (hs.subset hc), h.apart.sublist hs⟩
theorem hasV2 {v : Value} {l : List P} {key : ByteArray} {w : World} {o : ByteArray} {b : Bool} (ho : o = fv (findP l key)) (hb : b = (findP l key).isSome) (h : RdV PT w v l) : Calls Tryd.prog 46 #[v, .string key] w fun e w' => e = .returned (.tuple #[.string o, .bool b]) ∧ Below w.heap.size w w' := by
  subst ho hb
  exact hasV h
theorem back_facts (a b : List P) (ha : Up P.k a) (hb : Up P.k b) : ∃ R, listsL a b = (R, none) ∧ Up C.k R ∧ (∀ c ∈ R, Tells a b c) ∧ patchL a R = (b, none) ∧ patchL b (R.map C.back) = (a, none) ∧ listsL a a = ([], none) ∧ R.length ≤ a.length + b.length := by
  obtain ⟨r, o, h1, h2, _⟩ := listsL_at a b
  have h3 := listsL_up ha hb
  rw [h1] at h3
  injection h3 with h4 h5
  subst h4 h5
  exact ⟨_, h1, lists_up ha hb, lists_tells ha hb, patch_lists ha hb, patch_back ha hb, by rw [listsL_up ha ha, lists_self ha], h2⟩

set_option maxHeartbeats 20000000 in
theorem diffBack (E : Nat → Addr) (w : World) (aA aB aL aM : Option Addr) (nL nM cA cB cL cM : Nat) (A B : List P) (hE : Errs [0, 1] E w)
    (hA : RdV PT w (.slice aA A.length cA) A) (hB : RdV PT w (.slice aB B.length cB) B) (hnA : A.length ≤ 1048576) (hnB : B.length ≤ 1048576) :
    Calls Tryd.prog 7 #[.agg #[.slice aA A.length cA, .slice aB B.length cB, .slice aL nL cL, .slice aM nM cM]] w fun e w' => e = .returned (.bool true) ∧ Below w.heap.size w w' := by
  have HE := Lib.hid hE
  have HA := Lib.hid hA
  have HB := Lib.hid hB
  have hla := stateL_len A
  have hlb := stateL_len B
  have hua := stateL_up A
  have hub := stateL_up B
  have hpa : ∀ v W, RdV PT W v A → Calls Tryd.prog 44 #[v] W fun e w' => ∃ v', e = .returned v' ∧ Sep W w' [row PT v' (stateL A)] := fun v W h => stateV h (by omega)
  have hpb : ∀ v W, RdV PT W v B → Calls Tryd.prog 44 #[v] W fun e w' => ∃ v', e = .returned v' ∧ Sep W w' [row PT v' (stateL B)] := fun v W h => stateV h (by omega)
  generalize stateL A = a at hla hua hpa
  generalize stateL B = b at hlb hub hpb
  have HPA := Lib.hid hpa
  have HPB := Lib.hid hpb
  obtain ⟨R, h1, h2, h3, h4, h5, h6, h7⟩ := back_facts a b hua hub
  have H1 := Lib.hid h1
  have H2 := Lib.hid h2
  have H3 := Lib.hid h3
  have H4 := Lib.hid h4
  have H5 := Lib.hid h5
  have H6 := Lib.hid h6
  clear hE hA hB hua hub hpa hpb h1 h2 h3 h4 h5 h6
  obtain ⟨xs, hxs⟩ : ∃ xs : List Value, xs = [.slice aA A.length cA, .slice aB B.length cB, .slice aL nL cL, .slice aM nM cM] := ⟨_, rfl⟩
  have k0 : xs[0]? = some (.slice aA A.length cA) := by rw [hxs]; rfl
  have k1 : xs[1]? = some (.slice aB B.length cB) := by rw [hxs]; rfl
  have TQ : Hid (Sep w (w.alloc (.cells #[.slice aA A.length cA, .slice aB B.length cB, .slice aL nL cL, .slice aM nM cM] 25)) [blk w.heap.size 25 xs]) := Lib.hid (by rw [hxs]; exact (Sep.nil w).box 25 [.slice aA A.length cA, .slice aB B.length cB, .slice aL nL cL, .slice aM nM cM])
  clear hxs
  have t1 : True := trivial
  have t2 : True := trivial
  have t3 : True := trivial
  have t4 : True := trivial
  go_enter Tryd.func7, Tryd.ntmps7
  go_upto_region 6 with (first
    | (go_at_call 43; refine (begun43 E _ (HE.out.below TQ.out.below)).mono ?_; rintro e wq ⟨rfl, hq⟩; replace TQ := Lib.hid (TQ.out.step hq); clear hq; have c0 := blk_mem TQ.out (g := w.heap.size) (t := 25) (cs := xs) (by simp) 0 k0; have c1 := blk_mem TQ.out (g := w.heap.size) (t := 25) (cs := xs) (by simp) 1 k1)
    | (go_at_call 44; clear t1; refine (HPA.out _ _ (HA.out.below TQ.out.below)).mono ?_; rintro e wq ⟨va, rfl, Sq⟩; replace TQ := Lib.hid (TQ.out.call Sq); clear Sq; have c0 := blk_mem TQ.out (g := w.heap.size) (t := 25) (cs := xs) (by simp) 0 k0; have c1 := blk_mem TQ.out (g := w.heap.size) (t := 25) (cs := xs) (by simp) 1 k1)
    | (go_at_call 44; clear t2; refine (HPB.out _ _ (HB.out.below TQ.out.below)).mono ?_; rintro e wq ⟨vb, rfl, Sq⟩; replace TQ := Lib.hid (TQ.out.call Sq); clear Sq)
    | (go_at_call 17; clear t3; refine (pairsV (TQ.out.rdv (v := va) (l := a) (by simp)) (by omega)).mono ?_; rintro e wq ⟨vp, rfl, Sq⟩; replace TQ := Lib.hid (TQ.out.call Sq); clear Sq)
    | (go_at_call 17; clear t4; refine (pairsV (TQ.out.rdv (v := vb) (l := b) (by simp)) (by omega)).mono ?_; rintro e wq ⟨vq, rfl, Sq⟩; replace TQ := Lib.hid (TQ.out.call Sq); clear Sq)
    | (go_at_call 30; refine (listsV2 H1.out (HE.out.below TQ.out.below) (TQ.out.rdv (v := vp) (l := a) (by simp)) (TQ.out.rdv (v := vq) (l := b) (by simp)) (by omega)).mono ?_; rintro e w5 ⟨vl, rfl, Sq⟩; replace TQ := Lib.hid (TQ.out.call Sq); clear Sq))
  have T5 : Hid (Sep w w5 [row CT vl R, row PT vb b, row PT va a]) := Lib.hid (TQ.out.sub2 (by repeat' (first | exact List.Sublist.refl _ | exact List.nil_sublist _ | apply List.Sublist.cons_cons | apply List.Sublist.cons)))
  obtain ⟨al, cl, rfl, hcl, hcl2, _⟩ := T5.out.rdv (T := CT) (v := vl) (l := R) (.head _)
  clear TQ
  have TQ := Lib.hid T5.out
  clear T5
  simp only [errV]
  go_wp2_with (go_at_call 45; refine (cleanV (TQ.out.rdv (.head _)) H2.out (fun x hx => clean_of_tells (H3.out x hx))).mono ?_; rintro e wq ⟨rfl, hq⟩; replace TQ := Lib.hid (TQ.out.step hq); clear hq)
  go_loopw [7] (fun t7 wr => ∃ k : Nat, k ≤ R.length ∧ t7 = .int .i64 k ∧ Hid (Sep w wr [row CT (.slice al R.length cl) R, row PT vb b, row PT va a])) (fun t7 _ => R.length - (intOf t7).toNat)
  case atStart => exact ⟨0, Nat.zero_le _, rfl, TQ.out⟩
  case round =>
    obtain ⟨k, hk, rfl, hS⟩ := hrel
    by_cases hlt : k < R.length
    · obtain ⟨a', c', e', _, _, hrd⟩ := hS.out.rdv (T := CT) (v := .slice al R.length cl) (l := R) (.head _)
      cases e'
      obtain ⟨bb, o, x, rfl, hx, d0, d1, d2, d3, d4⟩ := rdC hrd hlt
      have HT := Lib.hid (H3.out x (List.mem_of_getElem? hx))
      clear hrd hx
      obtain ⟨xk, had, has, old, new⟩ := x
      dsimp only at d0 d1 d2 d3 d4
      have hS0 := Lib.hid hS.out
      have hW : ∃ W0, W0 = wr := ⟨_, rfl⟩
      have t1 : True := trivial
      have t2 : True := trivial
      go_wp2_with (first
        | (go_at_call 46; clear t1; refine (hasV2 HT.out.2.2.1 HT.out.1 (hS.out.rdv (v := va) (l := a) (by simp))).mono ?_; rintro e wq ⟨rfl, hq⟩; replace hS := Lib.hid (hS.out.step hq); replace d0 := qcell d0 hq; replace d1 := qcell d1 hq; replace d2 := qcell d2 hq; replace d3 := qcell d3 hq; replace d4 := qcell d4 hq; clear hq)
        | (go_at_call 46; clear t2; refine (hasV2 HT.out.2.2.2.1 HT.out.2.1 (hS.out.rdv (v := vb) (l := b) (by simp))).mono ?_; rintro e wq ⟨rfl, hq⟩; replace hS := Lib.hid (hS.out.step hq); replace d0 := qcell d0 hq; replace d1 := qcell d1 hq; replace d2 := qcell d2 hq; replace d3 := qcell d3 hq; replace d4 := qcell d4 hq; clear hq))
      clear d0 d1 d2 d3 d4
      go_roundw
      case rel => exact ⟨k + 1, by omega, by go_num, hS.out⟩
      case measure => simp [intOf]; omega
    · obtain rfl : k = R.length := by omega
      clear hlt hk TQ
      have TQ := Lib.hid hS.out
      clear hS
      have t1 : True := trivial
      have t2 : True := trivial
      have t3 : True := trivial
      have t4 : True := trivial
      have t5 : True := trivial
      have t6 : True := trivial
      have t7 : True := trivial
      have t8 : True := trivial
      go_wp2_with (first
        | (go_at_call 17; clear t1; refine (pairsV (TQ.out.rdv (v := va) (l := a) (by simp)) (by omega)).mono ?_; rintro e wq ⟨v1, rfl, Sq⟩; replace TQ := Lib.hid (TQ.out.call Sq); clear Sq)
        | (go_at_call 19; clear t2; refine (changesV (TQ.out.rdv (v := .slice al R.length cl) (l := R) (by simp)) (by omega)).mono ?_; rintro e wq ⟨v2, rfl, Sq⟩; replace TQ := Lib.hid (TQ.out.call Sq); clear Sq)
        | (go_at_call 21; clear t3; refine (patchV2 H4.out (HE.out.below TQ.out.below) (TQ.out.rdv (v := v1) (l := a) (by simp)) (TQ.out.rdv (v := v2) (l := R) (by simp)) (by omega)).mono ?_; rintro e wq ⟨v3, rfl, Sq⟩; simp only [errV]; replace TQ := Lib.hid (TQ.out.call Sq); clear Sq)
        | (go_at_call 17; clear t4; refine (pairsV (TQ.out.rdv (v := vb) (l := b) (by simp)) (by omega)).mono ?_; rintro e wq ⟨v4, rfl, Sq⟩; replace TQ := Lib.hid (TQ.out.call Sq); clear Sq)
        | (go_at_call 19; clear t5; refine (changesV (TQ.out.rdv (v := .slice al R.length cl) (l := R) (by simp)) (by omega)).mono ?_; rintro e wq ⟨v5, rfl, Sq⟩; replace TQ := Lib.hid (TQ.out.call Sq); clear Sq)
        | (go_at_call 35; refine (invertV (TQ.out.rdv (v := v5) (l := R) (by simp)) (by omega)).mono ?_; rintro e wq ⟨v6, rfl, Sq⟩; replace TQ := Lib.hid (TQ.out.call Sq); clear Sq)
        | (go_at_call 21; clear t6; refine (patchV2 H5.out (HE.out.below TQ.out.below) (TQ.out.rdv (v := v4) (l := b) (by simp)) (TQ.out.rdv (v := v6) (l := R.map C.back) (by simp)) (by simp; omega)).mono ?_; rintro e wq ⟨v7, rfl, Sq⟩; simp only [errV]; replace TQ := Lib.hid (TQ.out.call Sq); clear Sq)
        | (go_at_call 17; clear t7; refine (pairsV (TQ.out.rdv (v := va) (l := a) (by simp)) (by omega)).mono ?_; rintro e wq ⟨v8, rfl, Sq⟩; replace TQ := Lib.hid (TQ.out.call Sq); clear Sq)
        | (go_at_call 17; clear t8; refine (pairsV (TQ.out.rdv (v := va) (l := a) (by simp)) (by omega)).mono ?_; rintro e wq ⟨v9, rfl, Sq⟩; replace TQ := Lib.hid (TQ.out.call Sq); clear Sq)
        | (go_at_call 30; refine (listsV2 H6.out (HE.out.below TQ.out.below) (TQ.out.rdv (v := v8) (l := a) (by simp)) (TQ.out.rdv (v := v9) (l := a) (by simp)) (by omega)).mono ?_; rintro e wq ⟨vn, rfl, Sq⟩; simp only [errV]; obtain ⟨an, cn, rfl, _, _, _⟩ := Sq.rdv (T := CT) (v := vn) (l := []) (.head _); replace TQ := Lib.hid (TQ.out.call Sq); clear Sq; have u1 : True := trivial; have u2 : True := trivial)
        | (go_at_call 24; clear u1; refine (sameV (TQ.out.rdv (v := v3) (l := b) (by simp)) (TQ.out.rdv (v := vb) (l := b) (by simp))).mono ?_; rintro e wq ⟨rfl, hq⟩; replace TQ := Lib.hid (TQ.out.step hq); clear hq)
        | (go_at_call 24; clear u2; refine (sameV (TQ.out.rdv (v := v7) (l := a) (by simp)) (TQ.out.rdv (v := va) (l := a) (by simp))).mono ?_; rintro e wq ⟨rfl, hq⟩; replace TQ := Lib.hid (TQ.out.step hq); clear hq))
      go_ret
      exact ⟨rfl, TQ.out.below⟩
end Go.Proofs.YtdkailccfcijiaaDoor
