/- 'begun' of the map's laws, walked. No condition but that the errors and the library's table are laid. -/
import Derived.Test.YtdkailccfcijiaaDoorFj
import Derived.Test.YtdkailccfcijiaaDoorEd
namespace Go.Proofs.YtdkailccfcijiaaDoor
open Go.RowKit Go.Shelf
set_option linter.unusedVariables false
set_option linter.unusedSimpArgs false
set_option maxRecDepth 100000

/-! ### the small map -/
def bw0 : List Nat := [18446744073709551363]
def bw1 : List Nat := [18446744073709551371]
def bw2 : List Nat := [18446744073709551391]
def bw3 : List Nat := [18446744073709551383]
theorem bw_new : newW 8 = bw0 := by decide +kernel
theorem bw_mark : markR 8 bw0 3 = (none, bw1) := by decide +kernel
theorem bw_free1 : freeN bw1 = 5 := by decide +kernel
theorem bw_free2 : freeN bw2 = 3 := by decide +kernel
theorem bw_free3 : freeN bw3 = 4 := by decide +kernel
theorem bw_clear : clearR 8 bw2 3 = (none, bw3) := by decide +kernel
theorem bw_ok0 : FmInv 8 bw0 := by rw [← bw_new]; exact inv_new (by decide) (by decide)
theorem bw_ok1 : FmInv 8 bw1 := by have := inv_mark bw_ok0 3; rw [bw_mark] at this; exact this
theorem bw_n1 : nextF bw1 = 2 := nextF_is ⟨by decide +kernel, by decide +kernel⟩
theorem bw_s1 : setW bw1 2 = [18446744073709551375] := by decide +kernel
theorem bw_n2 : nextF [18446744073709551375] = 4 := nextF_is ⟨by decide +kernel, by decide +kernel⟩
theorem bw_s2 : setW [18446744073709551375] 4 = bw2 := by decide +kernel
theorem bw_n3 : nextF bw3 = 3 := nextF_is ⟨by decide +kernel, by decide +kernel⟩
theorem bw_s3 : setW bw3 3 = bw2 := by decide +kernel
theorem bw_take2 : takeA bw1 2 = (none, [2, 4], bw2) := by
  unfold takeA
  rw [if_neg (by decide), bw_free1, if_neg (by decide)]
  show (none, (takeR 2 bw1).1, (takeR 2 bw1).2) = _
  rw [takeR, bw_n1, bw_s1, takeR, bw_n2, bw_s2, takeR]
theorem bw_take1 : takeA bw3 1 = (none, [3], bw2) := by
  unfold takeA
  rw [if_neg (by decide), bw_free3, if_neg (by decide)]
  show (none, (takeR 1 bw3).1, (takeR 1 bw3).2) = _
  rw [takeR, bw_n3, bw_s3, takeR]
theorem bw_take9 : takeA bw2 9 = (some 7, [], bw2) := by
  unfold takeA
  rw [if_neg (by decide), bw_free2, if_pos (by decide)]
theorem bw_ok2 : FmInv 8 bw2 := by have := inv_takeA bw_ok1 2; rw [bw_take2] at this; exact this
theorem bw_ok3 : FmInv 8 bw3 := by have := inv_clear bw_ok2 3; rw [bw_clear] at this; exact this
theorem bw_u3 : usedB 8 bw2 3 = true := by decide +kernel
theorem bw_u5 : usedB 8 bw2 5 = false := by decide +kernel
theorem bw_u0 : usedB 8 bw2 0 = true := by decide +kernel
theorem bw_u1 : usedB 8 bw2 1 = true := by decide +kernel

section
variable {E : Nat → Addr} {w0 w : World} {L : List Chunk} {p g : Nat}
theorem bg_new (S : Sep w0 w L) : Calls Tryd.prog 57 #[.int .i64 8] w fun e w' => ∃ p g, e = .returned (.tuple #[.pointer (some ⟨p, 0, none⟩), .nilIface]) ∧ Sep w0 w' (fm p g 8 bw0 :: L) :=
  (new57_yes w 8 (by decide) (by decide)).mono fun e w' ⟨p, g, he, hs⟩ => ⟨p, g, he, by rw [bw_new] at hs; exact S.call hs⟩
theorem bg_mark (hE : Errs all13 E w0) (S : Sep w0 w (fm p g 8 bw0 :: L)) : Calls Tryd.prog 55 #[.pointer (some ⟨p, 0, none⟩), .int .i64 3] w fun e w' => e = .returned .nilIface ∧ Sep w0 w' (fm p g 8 bw1 :: L) :=
  (mark55 (hE.below S.below) S bw_ok0.ok 3).mono fun e w' ⟨he, hs⟩ => by rw [bw_mark] at he hs; exact ⟨he, hs⟩
theorem bg_free (S : Sep w0 w (fm p g 8 bw1 :: L)) : Calls Tryd.prog 63 #[.pointer (some ⟨p, 0, none⟩)] w fun e w' => e = .returned (.int .i64 5) ∧ Sep w0 w' (fm p g 8 bw1 :: L) :=
  (free63 S bw_ok1.ok).mono fun e w' ⟨he, hs⟩ => by rw [bw_free1] at he; exact ⟨he, S.step hs⟩
theorem bg_take2 (hE : Errs all13 E w0) (hT : TabAt13 w0) (S : Sep w0 w (fm p g 8 bw1 :: L)) : Calls Tryd.prog 68 #[.pointer (some ⟨p, 0, none⟩), .int .i64 2] w fun e w' => ∃ v, e = .returned (.tuple #[v, .nilIface]) ∧ Sep w0 w' (row IT v [2, 4] :: fm p g 8 bw2 :: L) :=
  (take68 (hE.below S.below) hT S bw_ok1.ok 2).mono fun e w' ⟨v, he, hs⟩ => by rw [bw_take2] at he hs; exact ⟨v, he, hs⟩
theorem bg_clear (hE : Errs all13 E w0) (S : Sep w0 w (fm p g 8 bw2 :: L)) : Calls Tryd.prog 70 #[.pointer (some ⟨p, 0, none⟩), .int .i64 3] w fun e w' => e = .returned .nilIface ∧ Sep w0 w' (fm p g 8 bw3 :: L) :=
  (clear70 (hE.below S.below) S bw_ok2.ok 3).mono fun e w' ⟨he, hs⟩ => by rw [bw_clear] at he hs; exact ⟨he, hs⟩
theorem bg_take1 (hE : Errs all13 E w0) (hT : TabAt13 w0) (S : Sep w0 w (fm p g 8 bw3 :: L)) : Calls Tryd.prog 68 #[.pointer (some ⟨p, 0, none⟩), .int .i64 1] w fun e w' => ∃ v, e = .returned (.tuple #[v, .nilIface]) ∧ Sep w0 w' (row IT v [3] :: fm p g 8 bw2 :: L) :=
  (take68 (hE.below S.below) hT S bw_ok3.ok 1).mono fun e w' ⟨v, he, hs⟩ => by rw [bw_take1] at he hs; exact ⟨v, he, hs⟩
theorem bg_take9 (hE : Errs all13 E w0) (hT : TabAt13 w0) (S : Sep w0 w (fm p g 8 bw2 :: L)) : Calls Tryd.prog 68 #[.pointer (some ⟨p, 0, none⟩), .int .i64 9] w fun e w' => ∃ v, e = .returned (.tuple #[v, .iface 232 (.pointer (some (E 7)))]) ∧ Sep w0 w' (fm p g 8 bw2 :: L) :=
  (take68 (hE.below S.below) hT S bw_ok2.ok 9).mono fun e w' ⟨v, he, hs⟩ => by rw [bw_take9] at he hs; exact ⟨v, he, hs.tl⟩
theorem bg_used (S : Sep w0 w (fm p g 8 bw2 :: L)) {i : Int} {b : Bool} (h : usedB 8 bw2 i = b) : Calls Tryd.prog 54 #[.pointer (some ⟨p, 0, none⟩), .int .i64 i] w fun e w' => e = .returned (.bool b) ∧ Sep w0 w' (fm p g 8 bw2 :: L) :=
  (used54 S bw_ok2.ok i).mono fun e w' ⟨he, hs⟩ => by rw [h] at he; exact ⟨he, S.step hs⟩
theorem sameLit {v : Value} {l : List Int} (S : Sep w0 w (row IT v l :: L)) (cs : Array Value) (h : cs.toList = IT.flat l) (hl : l.length ≤ 9223372036854775807) :
    Calls Tryd.prog 69 #[v, .slice (some ⟨w.heap.size, 0, none⟩) l.length l.length] (w.alloc (.cells cs 3)) fun e w' => e = .returned (.bool true) ∧ Sep w0 w' L :=
  (sameIV ((S.alloc (.cells cs 3)).rdv (.head _)) (rd_lit IT w l cs h 3 hl)).mono fun e w' ⟨he, hs⟩ => ⟨he, ((S.alloc _).step hs).tl⟩
end
set_option maxHeartbeats 4000000 in
theorem begun48 {E : Nat → Addr} {w : World} (hE : Errs all13 E w) (hT : TabAt13 w) : Calls Tryd.prog 48 #[] w fun e w' => e = .returned (.bool true) ∧ Below w.heap.size w w' := by
  have HE := Lib.hid hE
  have HT := Lib.hid hT
  have TQ := Lib.hid (Sep.nil w)
  clear hE hT
  have t1 : True := trivial
  have t2 : True := trivial
  have t3 : True := trivial
  have t4 : True := trivial
  have t5 : True := trivial
  have t6 : True := trivial
  go_enter Tryd.func48, Tryd.ntmps48
  go_wp2_with (first
    | (go_at_call 57; refine (bg_new TQ.out).mono ?_; rintro e wq ⟨p, g, rfl, Sq⟩; replace TQ := Lib.hid Sq; clear Sq)
    | (go_at_call 55; refine (bg_mark HE.out TQ.out).mono ?_; rintro e wq ⟨rfl, Sq⟩; replace TQ := Lib.hid Sq; clear Sq)
    | (go_at_call 63; refine (bg_free TQ.out).mono ?_; rintro e wq ⟨rfl, Sq⟩; replace TQ := Lib.hid Sq; clear Sq)
    | (go_at_call 68; clear t1; refine (bg_take2 HE.out HT.out TQ.out).mono ?_; rintro e wq ⟨v1, rfl, Sq⟩; replace TQ := Lib.hid Sq; clear Sq)
    | (go_at_call 69; clear t2; refine (sameLit TQ.out _ rfl (by decide)).mono ?_; rintro e wq ⟨rfl, Sq⟩; replace TQ := Lib.hid Sq; clear Sq)
    | (go_at_call 70; refine (bg_clear HE.out TQ.out).mono ?_; rintro e wq ⟨rfl, Sq⟩; replace TQ := Lib.hid Sq; clear Sq)
    | (go_at_call 68; clear t3; refine (bg_take1 HE.out HT.out TQ.out).mono ?_; rintro e wq ⟨v2, rfl, Sq⟩; replace TQ := Lib.hid (Sep.up1 Sq); clear Sq)
    | (go_at_call 68; refine (bg_take9 HE.out HT.out TQ.out).mono ?_; rintro e wq ⟨v3, rfl, Sq⟩; replace TQ := Lib.hid (Sep.up1 Sq); clear Sq; obtain ⟨a9, c9, rfl, _, _, _⟩ := TQ.out.rdv (.head _); have t7 : True := trivial)
    | (go_at_call 69; refine (sameLit TQ.out _ rfl (by decide)).mono ?_; rintro e wq ⟨rfl, Sq⟩; replace TQ := Lib.hid Sq; clear Sq; have c7 := (HE.out.below TQ.out.below).cell 7 (by decide); have e7 := err_eq (HE.out.below TQ.out.below) 7 7 (by decide) (by decide); simp only [beq_self_eq_true] at e7)
    | (go_at_call 54; clear t4; refine (bg_used TQ.out bw_u3).mono ?_; rintro e wq ⟨rfl, Sq⟩; replace TQ := Lib.hid Sq; clear Sq)
    | (go_at_call 54; clear t5; refine (bg_used TQ.out bw_u5).mono ?_; rintro e wq ⟨rfl, Sq⟩; replace TQ := Lib.hid Sq; clear Sq)
    | (go_at_call 54; clear t6; refine (bg_used TQ.out bw_u0).mono ?_; rintro e wq ⟨rfl, Sq⟩; replace TQ := Lib.hid Sq; clear Sq)
    | (go_at_call 54; refine (bg_used TQ.out bw_u1).mono ?_; rintro e wq ⟨rfl, Sq⟩; replace TQ := Lib.hid Sq; clear Sq))
  go_ret
  exact ⟨rfl, TQ.out.below⟩
end Go.Proofs.YtdkailccfcijiaaDoor
