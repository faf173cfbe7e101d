/- The law FreeBook, walked. Conditions: the laid errors and the library's table. -/
import Derived.Test.YtdkailccfcijiaaDoorFs
namespace Go.Proofs.YtdkailccfcijiaaDoor
open Go.RowKit Go.Shelf
set_option linter.unusedVariables false
set_option linter.unusedSimpArgs false
set_option maxRecDepth 100000

theorem size_at {w0 w : World} {L : List Chunk} {p g pages : Nat} {ws : List Nat} (S : Sep w0 w (fm p g pages ws :: L)) :
    Calls Tryd.prog 50 #[.pointer (some ⟨p, 0, none⟩)] w fun e w' => e = .returned (.int .i64 pages) ∧ Sep w0 w' (fm p g pages ws :: L) :=
  (size50 S).mono fun e w' ⟨he, hs⟩ => ⟨he, S.step hs⟩
set_option maxHeartbeats 20000000 in
theorem freeBook (E : Nat → Addr) (w : World) (aS : Option Addr) (cS n : Nat) (X : List St) (pg ot : Int) (hE : Errs all13 E w) (hT : TabAt13 w) (hX : Rd ST w aS n X) :
    Calls Tryd.prog 10 #[.agg #[.int .i64 pg, .int .i64 ot, .slice aS n cS]] w fun e w' => e = .returned (.bool true) ∧ Below w.heap.size w w' := by
  have HE := Lib.hid hE
  have HT := Lib.hid hT
  have HX := Lib.hid hX
  have hn := hX.2.1
  clear hE hT hX
  obtain ⟨xs, hxs⟩ : ∃ xs : List Value, xs = [.int .i64 pg, .int .i64 ot, .slice aS n cS] := ⟨_, rfl⟩
  have k0 : xs[0]? = some (.int .i64 pg) := by rw [hxs]; rfl
  have k2 : xs[2]? = some (.slice aS n cS) := by rw [hxs]; rfl
  have TQ : Hid (Sep w (w.alloc (.cells #[.int .i64 pg, .int .i64 ot, .slice aS n cS] 75)) [blk w.heap.size 75 xs]) := Lib.hid (by rw [hxs]; exact (Sep.nil w).box 75 [.int .i64 pg, .int .i64 ot, .slice aS n cS])
  have K0 := Lib.hid k0
  have K2 := Lib.hid k2
  have HI0 := Lib.hid (made47_inv pg)
  have hN2 : madeN pg ≤ 300 := by unfold madeN; have := pickN_lt pg (n := 297) (by omega); omega
  have HM := Lib.hid fun W S => made47 (w0 := w) (w := W) (L := [blk w.heap.size 75 xs]) S pg
  clear hxs k0 k2
  generalize madeN pg = N at HM HI0 hN2
  have hfl : bk N (newW N) = flags N := bk_new HI0.out.ok.lo
  have HFL := Lib.hid hfl
  clear hfl
  generalize newW N = ws0 at HM HI0 HFL
  go_enter Tryd.func10, Tryd.ntmps10
  go_wp2_with (first
    | (go_at_call 47; refine (HM.out _ TQ.out).mono ?_; rintro e wq ⟨p, g, rfl, Sq⟩; replace TQ := Lib.hid Sq; clear Sq)
    | (go_at_call 48; refine (begun48 (HE.out.below TQ.out.below) (HT.out.below TQ.out.below)).mono ?_; rintro e wq ⟨rfl, hq⟩; replace TQ := Lib.hid (TQ.out.step hq); clear hq)
    | (go_at_call 50; refine (size_at TQ.out).mono ?_; rintro e wq ⟨rfl, Sq⟩; replace TQ := Lib.hid Sq; clear Sq)
    | (go_at_call 49; refine (book49 TQ.out N (by omega)).mono ?_; rintro e wq ⟨q, v, rfl, Sq⟩; rw [← HFL.out] at Sq; replace TQ := Lib.hid Sq; clear Sq)
    | (go_at_call 51; refine (agrees51 TQ.out HI0.out).mono ?_; rintro e wq ⟨rfl, hq⟩; replace TQ := Lib.hid (TQ.out.step hq); clear hq))
  go_loopw [5] (fun t wr => ∃ k : Nat, k ≤ n ∧ t = .int .i64 k ∧ Hid (∃ ws, FmInv N ws ∧ Sep w wr [row BT v (bk N ws), blk q 150 [v], fm p g N ws, blk w.heap.size 75 xs])) (fun t _ => n - (intOf t).toNat)
  case atStart => exact ⟨0, Nat.zero_le _, rfl, ⟨_, HI0.out, TQ.out⟩⟩
  case round =>
    obtain ⟨k, hk, rfl, hS⟩ := hrel
    clear TQ
    obtain ⟨ws1, hI1, hS1⟩ := hS.out
    have HI := Lib.hid hI1
    have TQ := Lib.hid hS1
    clear hS hI1 hS1
    have c2 := blk_mem TQ.out (g := w.heap.size) (t := 75) (cs := xs) (by simp) 2 K2.out
    by_cases hlt : k < n
    · obtain ⟨b, o, x, rfl, hx, d0, d1, d2⟩ := rdS HX.out hlt
      obtain ⟨xk, xo, xn⟩ := x
      dsimp only at d0 d1 d2
      replace d0 := qcell d0 TQ.out.below
      replace d1 := qcell d1 TQ.out.below
      replace d2 := qcell d2 TQ.out.below
      clear hx
      go_wp2_with (first
        | (go_at_call 52; refine (step52 HE.out HT.out TQ.out HI.out xk xo xn).mono ?_; rintro e wq ⟨rfl, Sq⟩; replace TQ := Lib.hid Sq; clear Sq c2 d0 d1 d2)
        | (go_at_call 51; refine (agrees51 TQ.out (inv_act HI.out xk xn)).mono ?_; rintro e wq ⟨rfl, hq⟩; replace TQ := Lib.hid (TQ.out.step hq); clear hq))
      go_roundw
      case rel => exact ⟨k + 1, by omega, by go_num, ⟨_, inv_act HI.out _ _, TQ.out⟩⟩
      case measure => simp [intOf]; omega
    · obtain rfl : n = k := by omega
      go_wp2
      go_ret
      exact ⟨rfl, TQ.out.below⟩
end Go.Proofs.YtdkailccfcijiaaDoor
