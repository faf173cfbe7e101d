/- The law FreeSame, walked. Conditions: the laid errors and the library's table. -/
import Derived.Test.YtdkailccfcijiaaDoorFm
namespace Go.Proofs.YtdkailccfcijiaaDoor
open Go.RowKit Go.Shelf
set_option linter.unusedVariables false
set_option linter.unusedSimpArgs false
set_option maxRecDepth 100000

/-- Two maps that say the same have the same words. -/
theorem words_ext {N : Nat} {a b : List Nat} (ha : FmInv N a) (hb : FmInv N b) (h : ∀ i, i < N → tk a i = tk b i) : a = b := by
  have hl : a.length = b.length := by rw [ha.ok.len, hb.ok.len]
  have hall : ∀ i, i < 64 * a.length → tk a i = tk b i := by
    intro i hi
    rcases Nat.lt_or_ge i N with h1 | h1
    · exact h i h1
    · rw [ha.over i h1 hi, hb.over i h1 (by omega)]
  apply List.ext_getElem hl
  intro k h1 h2
  apply Nat.eq_of_testBit_eq
  intro j
  rcases Nat.lt_or_ge j 64 with hj | hj
  · have := hall (64 * k + j) (by omega)
    unfold tk at this
    rw [show (64 * k + j) / 64 = k by omega, show (64 * k + j) % 64 = j by omega, List.getD_eq_getElem?_getD, List.getD_eq_getElem?_getD, List.getElem?_eq_getElem h1, List.getElem?_eq_getElem h2] at this
    exact this
  · have hp : (2 : Nat) ^ 64 ≤ 2 ^ j := Nat.pow_le_pow_right (by decide) hj
    rw [Nat.testBit_lt_two_pow (Nat.lt_of_lt_of_le (ha.ok.word _ (List.getElem_mem h1)) hp), Nat.testBit_lt_two_pow (Nat.lt_of_lt_of_le (hb.ok.word _ (List.getElem_mem h2)) hp)]
/-- What the second map says, when the pages behind j have been marked. -/
structure Marked (N : Nat) (ws vs : List Nat) (j : Nat) : Prop where
  inv : FmInv N vs
  say : ∀ i, i < N → tk vs i = (decide (i < 2) || (decide (j < i) && tk ws i))
theorem Marked.start {N : Nat} {ws : List Nat} (h : FmInv N (newW N)) : Marked N ws (newW N) (N - 1) := by
  refine ⟨h, fun i hi => ?_⟩
  rw [tk_new h.ok.lo (by omega), show decide (N ≤ i) = false by simp; omega, show decide (N - 1 < i) = false by simp; omega]
  simp
theorem Marked.step_no {N : Nat} {ws vs : List Nat} {j : Nat} (h : Marked N ws vs (j + 1)) (hj : j + 1 < N) (ht : tk ws (j + 1) = false) : Marked N ws vs j := by
  refine ⟨h.inv, fun i hi => ?_⟩
  rw [h.say i hi]
  by_cases he : i = j + 1
  · subst he; rw [ht]; simp
  · congr 2
    rw [decide_eq_decide]
    omega
theorem Marked.step_yes {N : Nat} {ws vs : List Nat} {j : Nat} (h : Marked N ws vs (j + 1)) (h2 : 2 ≤ j + 1) (hj : j + 1 < N) (ht : tk ws (j + 1) = true) : markR N vs ((j + 1 : Nat) : Int) = (none, setW vs (j + 1)) ∧ Marked N ws (setW vs (j + 1)) j := by
  have hf : tk vs (j + 1) = false := by
    rw [h.say _ hj]; simp; omega
  have hlt : (j + 1) / 64 < vs.length := by rw [h.inv.ok.len]; omega
  constructor
  · unfold markR treeB
    rw [if_pos (by simp; omega), Int.toNat_natCast, hf]
    simp
  · refine ⟨inv_set h.inv hlt, fun i hi => ?_⟩
    rw [tk_set hlt, h.say i hi]
    by_cases he : i = j + 1
    · subst he; rw [ht]; simp
    · rw [show decide (j + 1 = i) = false by simp; omega, Bool.or_false]
      congr 2
      rw [decide_eq_decide]
      omega
theorem Marked.no {N : Nat} {ws vs : List Nat} {j : Nat} (h : Marked N ws vs j) (h2 : 2 ≤ j) (hj : j < N) (ht : tk ws j = false) : Marked N ws vs (j - 1) := by
  obtain ⟨i, rfl⟩ : ∃ i, j = i + 1 := ⟨j - 1, by omega⟩
  exact h.step_no hj ht
theorem Marked.yes {N : Nat} {ws vs : List Nat} {j : Nat} (h : Marked N ws vs j) (h2 : 2 ≤ j) (hj : j < N) (ht : tk ws j = true) : markR N vs (j : Int) = (none, setW vs j) ∧ Marked N ws (setW vs j) (j - 1) := by
  obtain ⟨i, rfl⟩ : ∃ i, j = i + 1 := ⟨j - 1, by omega⟩
  exact h.step_yes h2 hj ht
theorem Marked.done {N : Nat} {ws vs : List Nat} (h : Marked N ws vs 1) (hw : FmInv N ws) : vs = ws := by
  refine words_ext h.inv hw fun i hi => ?_
  rw [h.say i hi]
  by_cases h2 : i < 2
  · rw [hw.low i h2]; simp [h2]
  · rw [show decide (1 < i) = true by simp; omega]; simp [h2]
theorem Marked.done1 {N j : Nat} {ws vs : List Nat} (h : Marked N ws vs j) (hj : j = 1) (hw : FmInv N ws) : vs = ws := by
  subst hj
  exact h.done hw
section
variable {E : Nat → Addr} {w0 w : World} {L : List Chunk} {p g pages : Nat} {ws ws' : List Nat} {er : Option Nat} {a b : Int} {ok : Bool} {l : List Nat}
theorem act53_at (hE : Errs all13 E w0) (hT : TabAt13 w0) (S : Sep w0 w (fm p g pages ws :: L)) (hok : FmOk pages ws) {k n : Int} (hA : actA pages ws k n = (⟨er, a, b, ok, l⟩, ws')) (on : Int) :
    Calls Tryd.prog 53 #[.pointer (some ⟨p, 0, none⟩), .agg #[.int .i64 k, .int .i64 on, .int .i64 n]] w fun e w' => ∃ v, e = .returned (.agg #[.int .i64 (numOf er), .int .i64 a, .int .i64 b, .bool ok, v]) ∧ Sep w0 w' (row IT v (ints l) :: fm p g pages ws' :: L) := by
  have := act53 hE hT S hok k on n
  rw [hA] at this
  exact this
theorem mark_at (hE : Errs all13 E w0) (S : Sep w0 w (fm p g pages ws :: L)) (hok : FmOk pages ws) {n : Int} (hM : markR pages ws n = (none, ws')) :
    Calls Tryd.prog 55 #[.pointer (some ⟨p, 0, none⟩), .int .i64 n] w fun e w' => e = .returned .nilIface ∧ Sep w0 w' (fm p g pages ws' :: L) := by
  have := mark55 (hE.below S.below) S hok n
  rw [hM] at this
  exact this
theorem used_at (S : Sep w0 w (fm p g pages ws :: L)) (hok : FmOk pages ws) {n : Nat} {b : Bool} (hn : n < pages) (hb : tk ws n = b) :
    Calls Tryd.prog 54 #[.pointer (some ⟨p, 0, none⟩), .int .i64 n] w fun e w' => e = .returned (.bool b) ∧ Sep w0 w' (fm p g pages ws :: L) := by
  have h : usedB pages ws n = b := by
    unfold usedB
    rw [show decide (0 ≤ (n : Int) ∧ (n : Int) < pages) = true by simp; omega, Int.toNat_natCast, hb]
    rfl
  exact (used54 S hok n).mono fun e w' ⟨he, hs⟩ => by rw [h] at he; exact ⟨he, S.step hs⟩
end
theorem Sep.keepS {w0 w : World} {L1 L2 : List Chunk} (h : Sep w0 w L2) (hs : L1.Sublist L2) : Sep w0 w L1 :=
  ⟨h.below, fun c hc => h.is c (hs.subset hc), fun c hc => h.lie c (hs.subset hc), h.apart.sublist hs⟩
set_option maxHeartbeats 20000000 in
theorem freeSame (E : Nat → Addr) (w : World) (aS : Option Addr) (cS n : Nat) (X : List St) (pg ot : Int) (hE : Errs all13 E w) (hT : TabAt13 w) (hX : Rd ST w aS n X) :
    Calls Tryd.prog 11 #[.agg #[.int .i64 pg, .int .i64 ot, .slice aS n cS]] w fun e w' => e = .returned (.bool true) ∧ Below w.heap.size w w' := by
  have HE := Lib.hid hE
  have HT := Lib.hid hT
  have HX := Lib.hid hX
  have hn := hX.2.1
  obtain ⟨half, hhalf⟩ : ∃ h, n / 2 = h := ⟨_, rfl⟩
  have h2 : (n : Int) / 2 = (half : Int) := by omega
  have hle : half ≤ n := by omega
  have H2 := Lib.hid h2
  clear hhalf h2 hE hT hX
  obtain ⟨xs, hxs⟩ : ∃ xs : List Value, xs = [.int .i64 pg, .int .i64 ot, .slice aS n cS] := ⟨_, rfl⟩
  have k0 : xs[0]? = some (.int .i64 pg) := by rw [hxs]; rfl
  have k2 : xs[2]? = some (.slice aS n cS) := by rw [hxs]; rfl
  have TQ : Hid (Sep w (w.alloc (.cells #[.int .i64 pg, .int .i64 ot, .slice aS n cS] 75)) [blk w.heap.size 75 xs]) := Lib.hid (by rw [hxs]; exact (Sep.nil w).box 75 [.int .i64 pg, .int .i64 ot, .slice aS n cS])
  have K0 := Lib.hid k0
  have K2 := Lib.hid k2
  have HI0 := Lib.hid (made47_inv pg)
  have t1 : True := trivial
  clear hxs k0 k2
  go_enter Tryd.func11, Tryd.ntmps11
  go_wp2_with (first
    | (go_at_call 47; clear t1; refine (made47 TQ.out pg).mono ?_; rintro e wq ⟨p, g, rfl, Sq⟩; replace TQ := Lib.hid Sq; clear Sq; have c0 := blk_mem TQ.out (g := w.heap.size) (t := 75) (cs := xs) (by simp) 0 K0.out)
    | (go_at_call 47; refine (made47 TQ.out pg).mono ?_; rintro e wq ⟨q, h, rfl, Sq⟩; replace TQ := Lib.hid Sq; clear Sq c0)
    | (go_at_call 48; refine (begun48 (HE.out.below TQ.out.below) (HT.out.below TQ.out.below)).mono ?_; rintro e wq ⟨rfl, hq⟩; replace TQ := Lib.hid (Sep.up1 (TQ.out.step hq)); clear hq; have c2 := blk_mem TQ.out (g := w.heap.size) (t := 75) (cs := xs) (by simp) 2 K2.out; have h2 := H2.out))
  clear h2 c2
  have hN1 := HI0.out.ok.lo
  have hN2 := HI0.out.ok.hi
  generalize madeN pg = N at TQ HI0 hN1 hN2
  go_loopw [6] (fun t wr => ∃ k : Nat, k ≤ half ∧ t = .int .i64 k ∧ Hid (∃ ws, FmInv N ws ∧ Sep w wr [fm p g N ws, fm q h N (newW N), blk w.heap.size 75 xs])) (fun t _ => half - (intOf t).toNat)
  case atStart => exact ⟨0, Nat.zero_le _, rfl, ⟨_, HI0.out, TQ.out⟩⟩
  case round =>
    obtain ⟨k, hk, rfl, hS⟩ := hrel
    clear TQ
    obtain ⟨ws1, hI1, hS1⟩ := hS.out
    have HI := Lib.hid hI1
    have TQ := Lib.hid hS1
    clear hS hI1 hS1
    by_cases hlt : k < half
    · have c2 := blk_mem TQ.out (g := w.heap.size) (t := 75) (cs := xs) (by simp) 2 K2.out
      obtain ⟨b, o, x, rfl, hx, d0, d1, d2⟩ := rdS HX.out (show k < n by omega)
      replace d0 := qcell d0 TQ.out.below
      replace d1 := qcell d1 TQ.out.below
      replace d2 := qcell d2 TQ.out.below
      clear hx
      go_wp2_with (go_at_call 53; refine (act53_drop HE.out HT.out TQ.out HI.out _ _ _).mono ?_; rintro e wq ⟨va, rfl, Sq⟩; replace TQ := Lib.hid Sq; clear Sq c2 d0 d1 d2)
      go_roundw
      case rel => exact ⟨k + 1, by omega, by go_num, ⟨_, inv_act HI.out _ _, TQ.out⟩⟩
      case measure => simp [intOf]; omega
    · obtain rfl : half = k := by omega
      clear hlt hk
      have hN3 : (N : Int) - 1 = ((N - 1 : Nat) : Int) := by omega
      go_wp2_with (go_at_call 50; refine (size50 (Sep.up1 TQ.out)).mono ?_; rintro e wq ⟨rfl, hq⟩; replace TQ := Lib.hid (TQ.out.step hq); clear hq)
      clear hN3
      go_loopw [7] (fun t wr => ∃ j : Nat, 1 ≤ j ∧ j < N ∧ t = .int .i64 j ∧ Hid (∃ vs, Marked N ws1 vs j ∧ Sep w wr [fm p g N ws1, fm q h N vs, blk w.heap.size 75 xs])) (fun t _ => (intOf t).toNat)
      case atStart => exact ⟨N - 1, by omega, by omega, rfl, ⟨_, Marked.start HI0.out, TQ.out⟩⟩
      case round =>
        obtain ⟨j, hj1, hj2, rfl, hS⟩ := hrel
        clear TQ
        obtain ⟨vs, hM0, hS1⟩ := hS.out
        have HM := Lib.hid hM0
        have TQ := Lib.hid hS1
        clear hS hM0 hS1
        by_cases hlt : 2 ≤ j
        · cases ht : tk ws1 j
          · have HU := Lib.hid (used_at TQ.out HI.out.ok hj2 ht)
            have HW := Lib.hid (HM.out.no hlt hj2 ht)
            clear ht
            go_wp2_with (go_at_call 54; refine HU.out.mono ?_; rintro e wq ⟨rfl, Sq⟩; replace TQ := Lib.hid Sq; clear Sq)
            go_roundw
            case rel => exact ⟨j - 1, by omega, by omega, by rw [show ((j - 1 : Nat) : Int) = (j : Int) - 1 by omega], ⟨_, HW.out, TQ.out⟩⟩
            case measure => simp [intOf]; omega
          · have HU := Lib.hid (used_at TQ.out HI.out.ok hj2 ht)
            obtain ⟨hm1, hm2⟩ := HM.out.yes hlt hj2 ht
            have HW := Lib.hid hm2
            have HY := Lib.hid hm1
            clear ht hm1 hm2
            go_wp2_with (first
              | (go_at_call 54; refine HU.out.mono ?_; rintro e wq ⟨rfl, Sq⟩; replace TQ := Lib.hid Sq; clear Sq)
              | (go_at_call 55; refine (mark_at HE.out (Sep.up1 TQ.out) HM.out.inv.ok HY.out).mono ?_; rintro e wq ⟨rfl, Sq⟩; replace TQ := Lib.hid (Sep.up1 Sq); clear Sq))
            go_roundw
            case rel => exact ⟨j - 1, by omega, by omega, by rw [show ((j - 1 : Nat) : Int) = (j : Int) - 1 by omega], ⟨_, HW.out, TQ.out⟩⟩
            case measure => simp [intOf]; omega
        · have he := HM.out.done1 (by omega) HI.out
          subst he
          clear HM
          go_wp2
          clear hlt hj1 hj2
          go_loopw [8] (fun t wr => ∃ k : Nat, half ≤ k ∧ k ≤ n ∧ t = .int .i64 k ∧ Hid (∃ ws, FmInv N ws ∧ Sep w wr [fm p g N ws, fm q h N ws, blk w.heap.size 75 xs])) (fun t _ => n - (intOf t).toNat)
          case atStart => exact ⟨half, Nat.le_refl _, hle, rfl, ⟨_, HI.out, TQ.out⟩⟩
          case round =>
            obtain ⟨k, hk1, hk2, rfl, hS⟩ := hrel
            clear TQ HI
            obtain ⟨ws2, hI1, hS1⟩ := hS.out
            have HI := Lib.hid hI1
            have TQ := Lib.hid hS1
            clear hS hI1 hS1
            have c2 := blk_mem TQ.out (g := w.heap.size) (t := 75) (cs := xs) (by simp) 2 K2.out
            by_cases hlt : k < n
            · obtain ⟨b, o, x, rfl, hx, d0, d1, d2⟩ := rdS HX.out hlt
              obtain ⟨xk, xo, xn⟩ := x
              dsimp only at d0 d1 d2
              have D0 := Lib.hid d0
              have D1 := Lib.hid d1
              have D2 := Lib.hid d2
              obtain ⟨er, a3, b3, ok3, l3, ws3, hA⟩ : ∃ er a b ok l ws', actA N ws2 xk xn = (⟨er, a, b, ok, l⟩, ws') := ⟨_, _, _, _, _, _, rfl⟩
              have hI3 := inv_act HI.out xk xn
              rw [hA] at hI3
              have HI3 := Lib.hid hI3
              have HA := Lib.hid hA
              clear hx d0 d1 d2 hA hI3
              go_wp2
              replace TQ := Lib.hid TQ.out.drew
              clear c2
              go_region_held3 (fun w' => w'.cell? ⟨w.heap.size, 2, none⟩ = some (.slice (some ⟨b, o, none⟩) n cS) ∧ w'.cell? ⟨b, o + k * 3, none⟩ = some (.int .i64 xk) ∧ w'.cell? ⟨b, o + k * 3 + 1, none⟩ = some (.int .i64 xo) ∧ w'.cell? ⟨b, o + k * 3 + 2, none⟩ = some (.int .i64 xn)) (first | exact ⟨blk_mem TQ.out (g := w.heap.size) (t := 75) (cs := xs) (by simp) 2 K2.out, qcell D0.out TQ.out.below, qcell D1.out TQ.out.below, qcell D2.out TQ.out.below⟩ | go_keep) (first
                | (go_at_call 53; ((with_reducible refine (act53_at (p := p) (g := g) (ws := ws2) HE.out HT.out TQ.out HI.out.ok HA.out _).mono ?_); rintro e wq ⟨va, rfl, Sq⟩; replace TQ := Lib.hid Sq; clear Sq))
                | (go_at_call 53; ((with_reducible refine (act53_at (p := p) (g := g) (ws := ws2) HE.out HT.out (Sep.up2 TQ.out) HI.out.ok HA.out _).mono ?_); rintro e wq ⟨va, rfl, Sq⟩; replace TQ := Lib.hid Sq; clear Sq))
                | (go_at_call 53; ((with_reducible refine (act53_at (p := q) (g := h) (ws := ws2) HE.out HT.out (Sep.up1 TQ.out) HI.out.ok HA.out _).mono ?_); rintro e wq ⟨vb, rfl, Sq⟩; replace TQ := Lib.hid Sq; clear Sq))
                | (go_at_call 53; ((with_reducible refine (act53_at (p := q) (g := h) (ws := ws2) HE.out HT.out (Sep.up2 TQ.out) HI.out.ok HA.out _).mono ?_); rintro e wq ⟨vb, rfl, Sq⟩; replace TQ := Lib.hid Sq; clear Sq))
                | (go_at_call 56; refine (same56 _ _ _ _ (TQ.out.rdv (v := va) (l := ints l3) (by simp)) (TQ.out.rdv (v := vb) (l := ints l3) (by simp))).mono ?_; rintro e wq ⟨rfl, hq⟩; replace TQ := Lib.hid (TQ.out.step hq); clear hq))
              all_goals
                go_wp2
                go_roundw
                case rel => exact ⟨k + 1, by omega, by omega, by go_num, ⟨_, HI3.out, by first | exact Sep.keepS TQ.out (.cons _ (.cons_cons _ (.cons _ (.cons_cons _ (.refl _))))) | exact Sep.up1 (Sep.keepS TQ.out (.cons _ (.cons_cons _ (.cons _ (.cons_cons _ (.refl _))))))⟩⟩
                case measure => simp [intOf]; omega
            · obtain rfl : n = k := by omega
              go_wp2
              go_ret
              exact ⟨rfl, TQ.out.below⟩
end Go.Proofs.YtdkailccfcijiaaDoor
