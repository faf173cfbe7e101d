/- The law FreeGives, walked. Conditions: the laid errors and the library's table. -/
import Derived.Test.YtdkailccfcijiaaDoorFo
namespace Go.Proofs.YtdkailccfcijiaaDoor
open Go.RowKit Go.Shelf
set_option linter.unusedVariables false
set_option linter.unusedSimpArgs false
set_option maxRecDepth 100000

set_option maxHeartbeats 20000000 in
theorem freeGives (E : Nat → Addr) (w : World) (aS : Option Addr) (cS n : Nat) (X : List St) (pg ot nn kk : Int) (hE : Errs all13 E w) (hT : TabAt13 w) (hX : Rd ST w aS n X) :
    Calls Tryd.prog 14 #[.agg #[.int .i64 pg, .int .i64 ot, .slice aS n cS, .int .i64 nn, .int .i64 kk]] w fun e w' => e = .returned (.bool true) ∧ Below w.heap.size w w' := by
  have HE := Lib.hid hE
  have HT := Lib.hid hT
  have HX := Lib.hid hX
  have hn := hX.2.1
  clear hE hT hX
  obtain ⟨xs, hxs⟩ : ∃ xs : List Value, xs = [.int .i64 pg, .int .i64 ot, .slice aS n cS, .int .i64 nn, .int .i64 kk] := ⟨_, rfl⟩
  have k0 : xs[0]? = some (.int .i64 pg) := by rw [hxs]; rfl
  have k2 : xs[2]? = some (.slice aS n cS) := by rw [hxs]; rfl
  have k3 : xs[3]? = some (.int .i64 nn) := by rw [hxs]; rfl
  have k4 : xs[4]? = some (.int .i64 kk) := by rw [hxs]; rfl
  have TQ : Hid (Sep w (w.alloc (.cells #[.int .i64 pg, .int .i64 ot, .slice aS n cS, .int .i64 nn, .int .i64 kk] 106)) [blk w.heap.size 106 xs]) := Lib.hid (by rw [hxs]; exact (Sep.nil w).box 106 [.int .i64 pg, .int .i64 ot, .slice aS n cS, .int .i64 nn, .int .i64 kk])
  have K0 := Lib.hid k0
  have K2 := Lib.hid k2
  have K3 := Lib.hid k3
  have K4 := Lib.hid k4
  have HI0 := Lib.hid (made47_inv pg)
  clear hxs k0 k2 k3 k4
  go_enter Tryd.func14, Tryd.ntmps14
  go_wp2_with (first
    | (go_at_call 47; refine (made47 TQ.out pg).mono ?_; rintro e wq ⟨p, g, rfl, Sq⟩; replace TQ := Lib.hid Sq; clear Sq)
    | (go_at_call 48; refine (begun48 (HE.out.below TQ.out.below) (HT.out.below TQ.out.below)).mono ?_; rintro e wq ⟨rfl, hq⟩; replace TQ := Lib.hid (TQ.out.step hq); clear hq))
  have hN1 := HI0.out.ok.lo
  have hN2 : madeN pg ≤ 300 := by unfold madeN; have := pickN_lt pg (n := 297) (by omega); omega
  generalize madeN pg = N at TQ HI0 hN1 hN2
  generalize newW N = ws0 at TQ HI0
  go_loopw [4] (fun t wr => ∃ k : Nat, k ≤ n ∧ t = .int .i64 k ∧ Hid (∃ ws, FmInv N ws ∧ Sep w wr [fm p g N ws, blk w.heap.size 106 xs])) (fun t _ => n - (intOf t).toNat)
  case atStart => exact ⟨0, Nat.zero_le _, rfl, ⟨_, HI0.out, TQ.out⟩⟩
  case round =>
    obtain ⟨k, hk, rfl, hS⟩ := hrel
    clear TQ HI0 ws0
    obtain ⟨ws, hI1, hS1⟩ := hS.out
    have HI := Lib.hid hI1
    have TQ := Lib.hid hS1
    clear hS hI1 hS1
    have c2 := blk_mem TQ.out (g := w.heap.size) (t := 106) (cs := xs) (by simp) 2 K2.out
    by_cases hlt : k < n
    · obtain ⟨b, o, x, rfl, hx, d0, d1, d2⟩ := rdS HX.out hlt
      replace d0 := qcell d0 TQ.out.below
      replace d1 := qcell d1 TQ.out.below
      replace d2 := qcell d2 TQ.out.below
      clear hx
      go_wp2_with (go_at_call 53; refine (act53_drop HE.out HT.out TQ.out HI.out _ _ _).mono ?_; rintro e wq ⟨va, rfl, Sq⟩; replace TQ := Lib.hid Sq; clear Sq c2 d0 d1 d2)
      go_roundw
      case rel => exact ⟨k + 1, by omega, by go_num, ⟨_, inv_act HI.out _ _, TQ.out⟩⟩
      case measure => simp [intOf]; omega
    · obtain rfl : n = k := by omega
      clear hlt hk
      have t1 : True := trivial
      go_wp2_with (first
        | (go_at_call 61; clear t1; refine (copy61 TQ.out HI.out.ok).mono ?_; rintro e wq ⟨pc, gc, rfl, Sq⟩; replace TQ := Lib.hid (Sep.up1 Sq); clear Sq c2)
        | (go_at_call 61; refine (copy61 TQ.out HI.out.ok).mono ?_; rintro e wq ⟨pd, gd, rfl, Sq⟩; replace TQ := Lib.hid (Sep.up1 Sq); clear Sq; have c3 := blk_mem TQ.out (g := w.heap.size) (t := 106) (cs := xs) (by simp) 3 K3.out; have x3 := xt_cell c3))
      have hlen := HI.out.ok.len
      have hfle := freeN_le ws
      have HF := Lib.hid fun W S => free63 (w0 := w) (w := W) (p := p) (g := g) (L := [fm pd gd N ws, fm pc gc N ws, blk w.heap.size 106 xs]) S HI.out.ok
      generalize hfr : freeN ws = fr at hfle HF
      have HFR := Lib.hid hfr
      have hfb : fr ≤ 512 := by omega
      clear hfr hfle hlen
      obtain ⟨f1, hf1⟩ : ∃ f1, f1 = fr + 1 := ⟨_, rfl⟩
      have e1 : IntKind.i64.wrap ((fr : Int) + 1) = (f1 : Int) := by rw [IntWalk.i64_in _ (by omega)]; omega
      have hp1 := pickN_lt nn (n := f1) (by omega)
      have HP1 := Lib.hid fun W => pickB nn f1 W (by omega) (by omega)
      have HF1 := Lib.hid hf1
      clear hf1
      generalize pickN nn f1 = nP at hp1 HP1
      refine xt_region (by kernel_rfl) (by kernel_rfl) ?_
      repeat (go_big_quiet_step (first | (go_at_call 63; exact xt_call (HF.out _ (TQ.out.step (xt_below _ _)))) | (go_at_call 67; exact xt_call (HP1.out _))))
      refine wpQuiet_nil ?_
      intro _ hw'
      obtain ⟨m, rfl⟩ := hw'
      replace TQ := Lib.hid (TQ.out.step (xt_below _ m))
      clear e1 x3 c3
      generalize wx _ m = w5 at TQ ⊢
      have c4 := blk_mem TQ.out (g := w.heap.size) (t := 106) (cs := xs) (by simp) 4 K4.out
      have x4 := xt_cell c4
      have hf1 := HF1.out
      obtain ⟨f2, hf2⟩ : ∃ f2, f2 = fr - nP := ⟨_, rfl⟩
      obtain ⟨f3, hf3⟩ : ∃ f3, f3 = f2 + 1 := ⟨_, rfl⟩
      have e2 : IntKind.i64.wrap ((fr : Int) - (nP : Int)) = (f2 : Int) := by rw [IntWalk.i64_in _ (by omega)]; omega
      have e3 : IntKind.i64.wrap ((f2 : Int) + 1) = (f3 : Int) := by rw [IntWalk.i64_in _ (by omega)]; omega
      have hp2 := pickN_lt kk (n := f3) (by omega)
      have HP2 := Lib.hid fun W => pickB kk f3 W (by omega) (by omega)
      generalize pickN kk f3 = kP at hp2 HP2
      obtain ⟨T, hT2⟩ : ∃ T, T = nP + kP := ⟨_, rfl⟩
      have hTle : T ≤ fr := by omega
      have e4 : (nP : Int) + (kP : Int) = (T : Int) := by omega
      have E4 := Lib.hid e4
      have hkle : kP ≤ f2 := by omega
      have hnle : nP ≤ fr := by omega
      have hkb : kP ≤ 512 := by omega
      have HF2 := Lib.hid hf2
      have HT2 := Lib.hid hT2
      clear hf1 hf2 hf3 hp1 hp2 hT2 e4
      go_wp2
      refine xt_region (by kernel_rfl) (by kernel_rfl) ?_
      repeat (go_big_quiet_step (first | (go_at_call 63; exact xt_call (HF.out _ (TQ.out.step (xt_below _ _)))) | (go_at_call 67; exact xt_call (HP2.out _))))
      refine wpQuiet_nil ?_
      intro _ hw'
      obtain ⟨m, rfl⟩ := hw'
      replace TQ := Lib.hid (TQ.out.step (xt_below _ m))
      clear e2 e3 x4 c4 HP1 HP2
      generalize wx _ m = w6 at TQ ⊢
      obtain ⟨la, wa, hA⟩ : ∃ la wa, takeR nP ws = (la, wa) := ⟨_, _, rfl⟩
      obtain ⟨lb, wb, hB⟩ : ∃ lb wb, takeR kP wa = (lb, wb) := ⟨_, _, rfl⟩
      have hC : takeR T ws = (la ++ lb, wb) := by rw [HT2.out, takeR_append, hA]; simp only [hB]
      have hI1 : FmInv N wa := by have := inv_take nP HI.out (by rw [HFR.out]; exact hnle); rwa [hA] at this
      have hF1 : freeN wa + nP = fr := by have := free_take nP HI.out (by rw [HFR.out]; exact hnle); rw [hA, HFR.out] at this; exact this
      have hG : Given N ws wb (la ++ lb) := by have := given_take HI.out (n := T) (by rw [HFR.out]; exact hTle); rwa [hC] at this
      have hla : la.length = nP := by have := takeR_len nP ws; rwa [hA] at this
      have hlb : lb.length = kP := by have := takeR_len kP wa; rwa [hB] at this
      have n1 : nP ≤ freeN ws := by rw [HFR.out]; exact hnle
      have n2 : kP ≤ freeN wa := by have := HF2.out; omega
      have n3 : T ≤ freeN ws := by rw [HFR.out]; exact hTle
      have N1 := Lib.hid n1
      have N2 := Lib.hid n2
      have N3 := Lib.hid n3
      have HA := Lib.hid hA
      have HB := Lib.hid hB
      have HC := Lib.hid hC
      have HG := Lib.hid hG
      have HIa := Lib.hid hI1
      have LA := Lib.hid hla
      have LB := Lib.hid hlb
      clear hA hB hC hG hI1 hF1 hla hlb n1 n2 n3
      have t1 : True := trivial
      have t2 : True := trivial
      have t3 : True := trivial
      have e4 := E4.out
      go_upto_region 20 with (first
        | (go_at_call 68; clear t1; refine (take_at HT.out TQ.out HI.out.ok N1.out HA.out).mono ?_; rintro e wq ⟨v1, rfl, Sq⟩; replace TQ := Lib.hid (Sep.up1 Sq); clear Sq)
        | (go_at_call 68; clear t2; refine (take_at HT.out TQ.out HIa.out.ok N2.out HB.out).mono ?_; rintro e wq ⟨v2, rfl, Sq⟩; replace TQ := Lib.hid (Sep.up3 Sq); clear Sq)
        | (go_at_call 68; refine (take_at HT.out TQ.out HI.out.ok N3.out HC.out).mono ?_; rintro e wq ⟨v3, rfl, Sq⟩; replace TQ := Lib.hid Sq; clear Sq)
        | (go_at_call 66; refine (alike66 (Sep.up3 TQ.out) ⟨_, Sep.up1 TQ.out⟩ HG.out.inv.ok).mono ?_; rintro e wq ⟨rfl, hq⟩; replace TQ := Lib.hid (TQ.out.step hq); clear hq))
      obtain ⟨a1, m1, c1, rfl, hr1, hm1⟩ := rdv_form (T := IT) (TQ.out.rdv (v := v1) (l := ints la) (by simp))
      obtain ⟨a2, m2, c2, rfl, hr2, hm2⟩ := rdv_form (T := IT) (TQ.out.rdv (v := v2) (l := ints lb) (by simp))
      obtain ⟨a3, m3, c3, rfl, hr3, hm3⟩ := rdv_form (T := IT) (TQ.out.rdv (v := v3) (l := ints (la ++ lb)) (by simp))
      rw [ints_len, LA.out] at hm1
      rw [ints_len, LB.out] at hm2
      rw [ints_len, List.length_append, LA.out, LB.out, ← HT2.out] at hm3
      subst hm1 hm2 hm3
      clear hr1 hr2 hr3 e4
      go_wp2_with (first
        | (at_builtin; clear t3; refine app_sep elemI rfl (.tmp 103) (.tmp 104) rfl (.slice none 0 0) [] rfl (TQ.out.none_ IT) a1 m1 c1 (ints la) rfl (rd_of TQ.out (.tail _ (.tail _ (.tail _ (.tail _ (.head _)))))) (by simp; omega) ?_; intro v5 w5 Sq hkp; replace TQ := Lib.hid Sq; clear Sq hkp)
        | (at_builtin; refine app_sep elemI rfl (.tmp 106) (.tmp 107) rfl v5 ([] ++ ints la) rfl TQ.out a2 m2 c2 (ints lb) rfl (rd_of TQ.out (.tail _ (.tail _ (.tail _ (.head _))))) (by rw [List.nil_append, ints_len, LA.out]; omega) ?_; intro v6 w6 Sq hkp; replace TQ := Lib.hid Sq; clear Sq hkp)
        | (go_at_call 69; refine (sameIV (TQ.out.rdv (v := v6) (l := [] ++ ints la ++ ints lb) (by simp)) (by rw [List.nil_append, ← ints_append]; exact (TQ.out.rdv (v := .slice a3 m3 c3) (l := ints (la ++ lb)) (by simp)))).mono ?_; rintro e wq ⟨rfl, hq⟩; replace TQ := Lib.hid (TQ.out.step hq); clear hq))
      have hlc : (la ++ lb).length = m3 := by rw [List.length_append, LA.out, LB.out, HT2.out]
      have HLC := Lib.hid hlc
      have TZ : Hid (Sep w _ [row IT (.slice a3 m3 c3) (ints (la ++ lb)), fm pd gd N wb, fm p g N wb, fm pc gc N ws]) := Lib.hid (TQ.out.keepS (.cons _ (.cons_cons _ (.cons_cons _ (.cons _ (.cons_cons _ (.cons _ (.cons_cons _ (List.nil_sublist _)))))))))
      clear TQ hlc
      have TQ := Lib.hid (Sep.up2 (Sep.up1 TZ.out))
      clear TZ
      have hm3 : m3 ≤ 512 := by omega
      generalize la ++ lb = c at HG HC HLC TQ
      go_loopw [16] (fun t wr => ∃ r : Nat, r ≤ m3 ∧ t = .int .i64 r ∧ Hid (∃ vs us, Gone N wb (c.reverse.take r) vs ∧ Gone N wb (c.take r) us ∧ Sep w wr [fm p g N vs, fm pd gd N us, row IT (.slice a3 m3 c3) (ints c), fm pc gc N ws])) (fun t _ => m3 - (intOf t).toNat)
      case atStart => exact ⟨0, Nat.zero_le _, rfl, ⟨_, _, by simpa using Gone.start HG.out.inv, by simpa using Gone.start HG.out.inv, TQ.out⟩⟩
      case round =>
        obtain ⟨r, hr, rfl, hS⟩ := hrel
        clear TQ
        obtain ⟨vs, us, hv, hu, hS1⟩ := hS.out
        have HV := Lib.hid hv
        have HU := Lib.hid hu
        have TQ := Lib.hid hS1
        clear hS hv hu hS1
        by_cases hlt : r < m3
        · obtain ⟨j, hj⟩ : ∃ j, j = m3 - 1 - r := ⟨_, rfl⟩
          have e5 : (m3 : Int) - 1 - (r : Int) = (j : Int) := by omega
          have hjm : j < m3 := by omega
          have hxj : c[j]? = some (c[j]'(by rw [HLC.out]; exact hjm)) := List.getElem?_eq_getElem _
          have hyr : c[r]? = some (c[r]'(by rw [HLC.out]; exact hlt)) := List.getElem?_eq_getElem _
          generalize c[j]'(by rw [HLC.out]; exact hjm) = x at hxj
          generalize c[r]'(by rw [HLC.out]; exact hlt) = y at hyr
          have hrx : c.reverse[r]? = some x := by rw [rev_at (by rw [HLC.out]; exact hlt), HLC.out, ← hj]; exact hxj
          obtain ⟨hc1, hg1⟩ := HG.out.step (rev_nodup HG.out.nodup) (fun y => List.mem_reverse) hrx HV.out
          obtain ⟨hc2, hg2⟩ := HG.out.step HG.out.nodup (fun y => Iff.rfl) hyr HU.out
          obtain ⟨b, o, x0, e0, _, _⟩ := rdI (rd_of TQ.out (.tail _ (.tail _ (.head _)))) hlt
          subst e0
          have c1 := row_at TQ.out (.tail _ (.tail _ (.head _))) (ints_at hxj)
          have C1 := Lib.hid hc1
          have C2 := Lib.hid hc2
          have G1 := Lib.hid hg1
          have G2 := Lib.hid hg2
          have HY := Lib.hid (ints_at hyr)
          clear hj hxj hyr hrx hc1 hc2 hg1 hg2
          have t1 : True := trivial
          go_wp2_with (first
            | (go_at_call 70; clear t1; refine (clear_at HE.out TQ.out HV.out.inv.ok C1.out).mono ?_; rintro e wq ⟨rfl, Sq⟩; replace TQ := Lib.hid (Sep.up1 Sq); clear Sq c1; have c2 := row_at TQ.out (.tail _ (.tail _ (.head _))) HY.out)
            | (go_at_call 70; refine (clear_at HE.out TQ.out HU.out.inv.ok C2.out).mono ?_; rintro e wq ⟨rfl, Sq⟩; replace TQ := Lib.hid (Sep.up1 Sq); clear Sq c2))
          go_roundw
          case rel => exact ⟨r + 1, by omega, by go_num, ⟨_, _, G1.out, G2.out, TQ.out⟩⟩
          case measure => simp [intOf]; omega
        · obtain rfl : m3 = r := by omega
          have ev := HG.out.back (fun y => List.mem_reverse) (by rw [List.length_reverse, HLC.out]; exact Nat.le_refl _) HV.out
          have eu := HG.out.back (fun y => Iff.rfl) (by rw [HLC.out]; exact Nat.le_refl _) HU.out
          subst ev eu
          clear hlt
          have t1 : True := trivial
          go_wp2_with (first
            | (go_at_call 66; clear t1; refine (alike66 TQ.out ⟨_, Sep.up3 TQ.out⟩ HI.out.ok).mono ?_; rintro e wq ⟨rfl, hq⟩; replace TQ := Lib.hid (TQ.out.step hq); clear hq)
            | (go_at_call 66; refine (alike66 (Sep.up1 TQ.out) ⟨_, Sep.up3 TQ.out⟩ HI.out.ok).mono ?_; rintro e wq ⟨rfl, hq⟩; replace TQ := Lib.hid (TQ.out.step hq); clear hq))
          go_ret
          exact ⟨rfl, TQ.out.below⟩
end Go.Proofs.YtdkailccfcijiaaDoor
