/- 'begun', walked: the two small states and the way between them. No condition but that the errors are laid. -/
import Derived.Test.YtdkailccfcijiaaDoorEb
import Derived.Test.YtdkailccfcijiaaDoorDx
import Derived.Deep.RegionWith
import Derived.Deep.RegionHeld3
import Derived.Deep.DeepCutAuto
namespace Go.Proofs.YtdkailccfcijiaaDoor
open Go.RowKit Go.Shelf
set_option linter.unusedVariables false
set_option linter.unusedSimpArgs false
set_option maxRecDepth 100000

/-- A block that has just been made reads as the list that was laid into it. -/
theorem rd_lit {α : Type} (T : Ty α) (w : World) (l : List α) (cs : Array Value) (h : cs.toList = T.flat l) (t : TypeId) (hl : l.length ≤ 9223372036854775807) : RdV T (w.alloc (.cells cs t)) (.slice (some ⟨w.heap.size, 0, none⟩) l.length l.length) l := by
  refine ⟨_, _, rfl, Nat.le_refl _, hl, rfl, hl, fun i x hx => ⟨w.heap.size, 0, rfl, fun j u hu => ?_⟩⟩
  have hh : (w.alloc (.cells cs t)).heap[w.heap.size]? = some (.cells cs t (0, 0)) := heap_alloc_new w _
  have hj : j < T.sz := by
    have := (List.getElem?_eq_some_iff.1 hu).1
    rwa [T.len] at this
  simp only [World.cell?, hh, Option.isSome_none, Nat.zero_add]
  rw [← Array.getElem?_toList, h]
  exact (T.flat_get hx j hj).trans hu
def bgA : List P := [⟨⟨#[97]⟩, ⟨#[49]⟩⟩, ⟨⟨#[98]⟩, ⟨#[50]⟩⟩]
def bgB : List P := [⟨⟨#[98]⟩, ⟨#[51]⟩⟩, ⟨⟨#[99]⟩, ⟨#[52]⟩⟩]
def bgW : List C := [⟨⟨#[97]⟩, true, false, ⟨#[49]⟩, ⟨#[]⟩⟩, ⟨⟨#[98]⟩, true, true, ⟨#[50]⟩, ⟨#[51]⟩⟩, ⟨⟨#[99]⟩, false, true, ⟨#[]⟩, ⟨#[52]⟩⟩]
theorem bgA_up : Up P.k bgA := by
  refine List.pairwise_cons.2 ⟨fun x hx => ?_, List.pairwise_singleton _ _⟩
  obtain rfl : x = ⟨⟨#[98]⟩, ⟨#[50]⟩⟩ := by simpa using hx
  decide +kernel
theorem bgB_up : Up P.k bgB := by
  refine List.pairwise_cons.2 ⟨fun x hx => ?_, List.pairwise_singleton _ _⟩
  obtain rfl : x = ⟨⟨#[99]⟩, ⟨#[52]⟩⟩ := by simpa using hx
  decide +kernel
theorem bg_lists : refListsL bgA bgB = bgW := by
  unfold refListsL bgA bgB
  rw [sidesL, if_pos (by decide +kernel), sidesL, if_neg (by decide +kernel), if_neg (by decide +kernel), sidesL, sidesL]
  have h1 : keepC (listsOne (some ⟨⟨#[97]⟩, ⟨#[49]⟩⟩) none) = [⟨⟨#[97]⟩, true, false, ⟨#[49]⟩, ⟨#[]⟩⟩] := rfl
  have h2 : keepC (listsOne (some ⟨⟨#[98]⟩, ⟨#[50]⟩⟩) (some ⟨⟨#[98]⟩, ⟨#[51]⟩⟩)) = [⟨⟨#[98]⟩, true, true, ⟨#[50]⟩, ⟨#[51]⟩⟩] := by
    show keepC ⟨⟨#[98]⟩, true, true, ⟨#[50]⟩, ⟨#[51]⟩⟩ = _
    rw [keepC_vals _ _ _ false (by decide +kernel)]
    rfl
  have h3 : keepC (listsOne none (some ⟨⟨#[99]⟩, ⟨#[52]⟩⟩)) = [⟨⟨#[99]⟩, false, true, ⟨#[]⟩, ⟨#[52]⟩⟩] := rfl
  simp only [List.flatMap_cons, List.flatMap_nil, h1, h2, h3]
  rfl
theorem bg1 : listsL bgA bgB = (bgW, none) := by rw [listsL_up bgA_up bgB_up, bg_lists]
theorem bg2 : patchL bgA bgW = (bgB, none) := by rw [← bg_lists]; exact patch_lists bgA_up bgB_up
theorem bg3 : patchL bgB (bgW.map C.back) = (bgA, none) := by rw [← bg_lists]; exact patch_back bgA_up bgB_up
theorem bg4 : patchL bgB bgW = ([], some 1) := by
  have hW : Up C.k bgW := by rw [← bg_lists]; exact lists_up bgA_up bgB_up
  refine patch_no (c := ⟨⟨#[97]⟩, true, false, ⟨#[49]⟩, ⟨#[]⟩⟩) (rises_of_up bgB_up) (rises_of_up hW) List.mem_cons_self ?_
  have : findP bgB ⟨#[97]⟩ = none := by decide +kernel
  rw [show (C.k ⟨⟨#[97]⟩, true, false, ⟨#[49]⟩, ⟨#[]⟩⟩) = ⟨#[97]⟩ from rfl, this]
  rfl
set_option maxHeartbeats 4000000 in
theorem begun43 (E : Nat → Addr) (w : World) (hE : Errs [0, 1] E w) : Calls Tryd.prog 43 #[] w fun e w' => e = .returned (.bool true) ∧ Below w.heap.size w w' := by
  have HE := Lib.hid hE
  clear hE
  have cA : ([.string ⟨#[97]⟩, .string ⟨#[49]⟩, .string ⟨#[98]⟩, .string ⟨#[50]⟩] : List Value) = PT.flat bgA := rfl
  have cB : ([.string ⟨#[98]⟩, .string ⟨#[51]⟩, .string ⟨#[99]⟩, .string ⟨#[52]⟩] : List Value) = PT.flat bgB := rfl
  have cW : ([.string ⟨#[97]⟩, .bool true, .bool false, .string ⟨#[49]⟩, .string ⟨#[]⟩, .string ⟨#[98]⟩, .bool true, .bool true, .string ⟨#[50]⟩, .string ⟨#[51]⟩, .string ⟨#[99]⟩, .bool false, .bool true, .string ⟨#[]⟩, .string ⟨#[52]⟩] : List Value) = CT.flat bgW := rfl
  have HA := Lib.hid (rd_lit PT w bgA #[.string ⟨#[97]⟩, .string ⟨#[49]⟩, .string ⟨#[98]⟩, .string ⟨#[50]⟩] cA 28 (by decide))
  have HB := Lib.hid (rd_lit PT (w.alloc (.cells #[.string ⟨#[97]⟩, .string ⟨#[49]⟩, .string ⟨#[98]⟩, .string ⟨#[50]⟩] 28)) bgB #[.string ⟨#[98]⟩, .string ⟨#[51]⟩, .string ⟨#[99]⟩, .string ⟨#[52]⟩] cB 28 (by decide))
  have HWx := fun W => Lib.hid (rd_lit CT W bgW #[.string ⟨#[97]⟩, .bool true, .bool false, .string ⟨#[49]⟩, .string ⟨#[]⟩, .string ⟨#[98]⟩, .bool true, .bool true, .string ⟨#[50]⟩, .string ⟨#[51]⟩, .string ⟨#[99]⟩, .bool false, .bool true, .string ⟨#[]⟩, .string ⟨#[52]⟩] cW 32 (by decide))
  have HW := Lib.hid HWx
  clear cA cB cW HWx
  have t1 : True := trivial
  have t2 : True := trivial
  have t3 : True := trivial
  have t4 : True := trivial
  have t5 : True := trivial
  go_enter Tryd.func43, Tryd.ntmps43
  go_upto_region 3 with fail
  have HA2 : Hid (RdV PT ((w.alloc (.cells #[.string ⟨#[97]⟩, .string ⟨#[49]⟩, .string ⟨#[98]⟩, .string ⟨#[50]⟩] 28)).alloc (.cells #[.string ⟨#[98]⟩, .string ⟨#[51]⟩, .string ⟨#[99]⟩, .string ⟨#[52]⟩] 28)) (.slice (some ⟨w.heap.size, 0, none⟩) 2 2) bgA) := Lib.hid (HA.out.below (qalloc (qrefl _) _))
  have HB2 : Hid (RdV PT ((w.alloc (.cells #[.string ⟨#[97]⟩, .string ⟨#[49]⟩, .string ⟨#[98]⟩, .string ⟨#[50]⟩] 28)).alloc (.cells #[.string ⟨#[98]⟩, .string ⟨#[51]⟩, .string ⟨#[99]⟩, .string ⟨#[52]⟩] 28)) (.slice (some ⟨w.heap.size + 1, 0, none⟩) 2 2) bgB) := Lib.hid (by have := HB.out; simp only [World.size_alloc] at this; exact this)
  have hb2 := Lib.hid (qalloc (qalloc (qrefl w) (.cells #[.string ⟨#[97]⟩, .string ⟨#[49]⟩, .string ⟨#[98]⟩, .string ⟨#[50]⟩] 28)) (.cells #[.string ⟨#[98]⟩, .string ⟨#[51]⟩, .string ⟨#[99]⟩, .string ⟨#[52]⟩] 28))
  generalize (w.alloc (.cells #[.string ⟨#[97]⟩, .string ⟨#[49]⟩, .string ⟨#[98]⟩, .string ⟨#[50]⟩] 28)).alloc (.cells #[.string ⟨#[98]⟩, .string ⟨#[51]⟩, .string ⟨#[99]⟩, .string ⟨#[52]⟩] 28) = w2 at HA2 HB2 hb2 ⊢
  clear HA HB
  generalize w.heap.size = g1 at HA2 HB2 ⊢
  have vA : ∃ v, v = Value.slice (some ⟨g1, 0, none⟩) 2 2 := ⟨_, rfl⟩
  go_upto_region 4 with (go_at_call 30; refine (listsV2 bg1 (HE.out.below hb2.out) HA2.out HB2.out (by decide)).mono ?_; rintro e w3 ⟨vl, rfl, S3⟩)
  have hb3 := Lib.hid (qbelow hb2.out S3.below)
  have HA3 := Lib.hid (HA2.out.below S3.below)
  have HB3 := Lib.hid (HB2.out.below S3.below)
  have HL3 := Lib.hid (S3.rdv (.head _))
  clear HA2 HB2 hb2 S3
  obtain ⟨al, nl, cl, rfl⟩ : ∃ a n c, vl = Value.slice a n c := by
    obtain ⟨a, c, e, _⟩ := HL3.out
    exact ⟨_, _, _, e⟩
  go_upto_region 5 with fail
  have HW4 := Lib.hid (HW.out w3).out
  have hq := Lib.hid (qalloc (qrefl w3) (.cells #[.string ⟨#[97]⟩, .bool true, .bool false, .string ⟨#[49]⟩, .string ⟨#[]⟩, .string ⟨#[98]⟩, .bool true, .bool true, .string ⟨#[50]⟩, .string ⟨#[51]⟩, .string ⟨#[99]⟩, .bool false, .bool true, .string ⟨#[]⟩, .string ⟨#[52]⟩] 32))
  generalize w3.alloc (.cells #[.string ⟨#[97]⟩, .bool true, .bool false, .string ⟨#[49]⟩, .string ⟨#[]⟩, .string ⟨#[98]⟩, .bool true, .bool true, .string ⟨#[50]⟩, .string ⟨#[51]⟩, .string ⟨#[99]⟩, .bool false, .bool true, .string ⟨#[]⟩, .string ⟨#[52]⟩] 32) = w4 at HW4 hq ⊢
  generalize w3.heap.size = g3 at HW4 ⊢
  have HA4 := Lib.hid (HA3.out.below hq.out)
  have HB4 := Lib.hid (HB3.out.below hq.out)
  have HL4 := Lib.hid (HL3.out.below hq.out)
  have hb4 := Lib.hid (qbelow hb3.out hq.out)
  clear HA3 HB3 HL3 hb3 hq HW
  have TQ := Lib.hid (Sep.nil w4)
  have e11 := err_eq (HE.out.below hb4.out) 1 1 (by decide) (by decide)
  have HE4 := Lib.hid (HE.out.below hb4.out)
  clear e11
  go_upto_region 8 with (first
    | (go_at_call 21; clear t1; refine (patchV2 bg2 (HE4.out.below TQ.out.below) (HA4.out.below TQ.out.below) (HL4.out.below TQ.out.below) (by decide)).mono ?_; rintro e wq ⟨v6, rfl, Sq⟩; replace TQ := Lib.hid (TQ.out.call Sq); clear Sq)
    | (go_at_call 35; clear t2; refine (invertV (HL4.out.below TQ.out.below) (by decide)).mono ?_; rintro e wq ⟨vi, rfl, Sq⟩; replace TQ := Lib.hid (TQ.out.call Sq); clear Sq)
    | (go_at_call 21; clear t3; refine (patchV2 bg3 (HE4.out.below TQ.out.below) (HB4.out.below TQ.out.below) (TQ.out.rdv (v := vi) (l := bgW.map C.back) (by simp)) (by decide)).mono ?_; rintro e wq ⟨v8, rfl, Sq⟩; replace TQ := Lib.hid (TQ.out.call Sq); clear Sq)
    | (go_at_call 21; clear t4; refine (patchV2 bg4 (HE4.out.below TQ.out.below) (HB4.out.below TQ.out.below) (HL4.out.below TQ.out.below) (by decide)).mono ?_; rintro e wq ⟨v10, rfl, Sq⟩; replace TQ := Lib.hid (TQ.out.call Sq); clear Sq))
  have HE8 := HE4.out.below TQ.out.below
  have e11 := fun W (h : Errs [0, 1] E W) => err_eq h 1 1 (by decide) (by decide)
  have c1 := HE8.cell 1 (by decide)
  have e12 := err_eq HE8 1 1 (by decide) (by decide)
  simp only [Nat.reduceBEq, beq_self_eq_true] at e12
  clear e11 HE8
  have t1 : True := trivial
  have t2 : True := trivial
  simp only [errV]
  go_wp2_with (first
    | (go_at_call 32; refine (sameCV (HL4.out.below TQ.out.below) (HW4.out.below TQ.out.below)).mono ?_; rintro e wq ⟨rfl, hq⟩; replace TQ := Lib.hid (TQ.out.step hq); clear hq)
    | (go_at_call 24; clear t1; refine (sameV (TQ.out.rdv (v := v6) (l := bgB) (by simp)) (HB4.out.below TQ.out.below)).mono ?_; rintro e wq ⟨rfl, hq⟩; replace TQ := Lib.hid (TQ.out.step hq); clear hq)
    | (go_at_call 24; clear t2; refine (sameV (TQ.out.rdv (v := v8) (l := bgA) (by simp)) (HA4.out.below TQ.out.below)).mono ?_; rintro e wq ⟨rfl, hq⟩; replace TQ := Lib.hid (TQ.out.step hq); clear hq))
  go_ret
  exact ⟨rfl, qbelow hb4.out TQ.out.below⟩
end Go.Proofs.YtdkailccfcijiaaDoor
