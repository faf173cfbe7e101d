/- The law FreeCopies, walked. Conditions: the lengths; the laid errors and the library's table. -/
import Derived.Test.YtdkailccfcijiaaDoorFl
namespace Go.Proofs.YtdkailccfcijiaaDoor
open Go.RowKit Go.Shelf
set_option linter.unusedVariables false
set_option linter.unusedSimpArgs false
set_option maxRecDepth 100000

/-- A step of a script. -/
structure St where
  kind : Int
  on : Int
  n : Int
def ST : Ty St := ⟨84, 3, fun x => [.int .i64 x.kind, .int .i64 x.on, .int .i64 x.n], fun _ => rfl, fun _ u h => by simp at h; rcases h with rfl | rfl | rfl <;> rfl, by decide⟩
theorem rdS {w : World} {a : Option Addr} {n : Nat} {l : List St} (h : Rd ST w a n l) {i : Nat} (hi : i < n) : ∃ b o x, a = some ⟨b, o, none⟩ ∧ l[i]? = some x ∧
    w.cell? ⟨b, o + i * 3, none⟩ = some (.int .i64 x.kind) ∧ w.cell? ⟨b, o + i * 3 + 1, none⟩ = some (.int .i64 x.on) ∧ w.cell? ⟨b, o + i * 3 + 2, none⟩ = some (.int .i64 x.n) := by
  obtain ⟨b, o, x, e, hx, hc⟩ := h.get i hi
  exact ⟨b, o, x, e, hx, hc 0 _ rfl, hc 1 _ rfl, hc 2 _ rfl⟩
/-- The words behind a list of steps. -/
noncomputable def runS (pages : Nat) (ws : List Nat) (l : List St) : List Nat := l.foldl (fun ws s => (actA pages ws s.kind s.n).2) ws
theorem runS_take {pages : Nat} {ws : List Nat} {l : List St} {k : Nat} {x : St} (h : l[k]? = some x) : runS pages ws (l.take (k + 1)) = (actA pages (runS pages ws (l.take k)) x.kind x.n).2 := by
  unfold runS
  rw [List.take_add_one, h, List.foldl_append]
  rfl
/-- From half on. -/
theorem runS_from {pages : Nat} {ws : List Nat} {l : List St} {h k : Nat} {x : St} (hk : h ≤ k) (hx : l[k]? = some x) : runS pages ws ((l.take (k + 1)).drop h) = (actA pages (runS pages ws ((l.take k).drop h)) x.kind x.n).2 := by
  have hlt := (List.getElem?_eq_some_iff.1 hx).1
  unfold runS
  rw [List.take_add_one, hx, List.drop_append_of_le_length (by rw [List.length_take]; omega), List.foldl_append]
  rfl
theorem runS_start {pages : Nat} {ws : List Nat} {l : List St} {h : Nat} : runS pages ws ((l.take h).drop h) = ws := by
  unfold runS
  rw [List.drop_eq_nil_of_le (List.length_take_le _ _)]
  rfl
theorem inv_runS {pages : Nat} : ∀ (l : List St) {ws : List Nat}, FmInv pages ws → FmInv pages (runS pages ws l)
  | [], _, h => h
  | s :: l, _, h => inv_runS l (inv_act h s.kind s.n)
section
variable {E : Nat → Addr} {w0 w : World} {L : List Chunk} {p g pages : Nat} {ws : List Nat}
/-- One step, its answer thrown away. -/
theorem act53_drop (hE : Errs all13 E w0) (hT : TabAt13 w0) (S : Sep w0 w (fm p g pages ws :: L)) (hok : FmInv pages ws) (k on n : Int) :
    Calls Tryd.prog 53 #[.pointer (some ⟨p, 0, none⟩), .agg #[.int .i64 k, .int .i64 on, .int .i64 n]] w fun e w' => ∃ v, e = .returned v ∧ Sep w0 w' (fm p g pages (actA pages ws k n).2 :: L) :=
  (act53 hE hT S hok.ok k on n).mono fun e w' ⟨v, he, hs⟩ => ⟨_, he, hs.tl⟩
theorem made47_inv (k : Int) : FmInv (madeN k) (newW (madeN k)) := by
  have := pickN_lt k (n := 297) (by omega)
  exact inv_new (by unfold madeN; omega) (by unfold madeN; omega)
end
set_option maxHeartbeats 20000000 in
theorem freeCopies (E : Nat → Addr) (w : World) (aS : Option Addr) (cS n : Nat) (X : List St) (pg ot : Int) (hE : Errs all13 E w) (hT : TabAt13 w) (hX : Rd ST w aS n X) :
    Calls Tryd.prog 13 #[.agg #[.int .i64 pg, .int .i64 ot, .slice aS n cS]] w fun e w' => e = .returned (.bool true) ∧ Below w.heap.size w w' := by
  have HE := Lib.hid hE
  have HT := Lib.hid hT
  have HX := Lib.hid hX
  have hn := hX.2.1
  obtain ⟨half, hhalf⟩ : ∃ h, n / 2 = h := ⟨_, rfl⟩
  have h2 : (n : Int) / 2 = (half : Int) := by omega
  have hle : half ≤ n := by omega
  have H2 := Lib.hid h2
  clear hhalf h2 hE hT hX
  obtain ⟨xs, hxs⟩ : ∃ xs : List Value, xs = [.int .i64 pg, .int .i64 ot, .slice aS n cS] := ⟨_, rfl⟩
  have k0 : xs[0]? = some (.int .i64 pg) := by rw [hxs]; rfl
  have k2 : xs[2]? = some (.slice aS n cS) := by rw [hxs]; rfl
  have TQ : Hid (Sep w (w.alloc (.cells #[.int .i64 pg, .int .i64 ot, .slice aS n cS] 75)) [blk w.heap.size 75 xs]) := Lib.hid (by rw [hxs]; exact (Sep.nil w).box 75 [.int .i64 pg, .int .i64 ot, .slice aS n cS])
  have K0 := Lib.hid k0
  have K2 := Lib.hid k2
  have HI0 := Lib.hid (made47_inv pg)
  clear hxs k0 k2
  go_enter Tryd.func13, Tryd.ntmps13
  go_wp2_with (first
    | (go_at_call 47; refine (made47 TQ.out pg).mono ?_; rintro e wq ⟨p, g, rfl, Sq⟩; replace TQ := Lib.hid Sq; clear Sq)
    | (go_at_call 48; refine (begun48 (HE.out.below TQ.out.below) (HT.out.below TQ.out.below)).mono ?_; rintro e wq ⟨rfl, hq⟩; replace TQ := Lib.hid (TQ.out.step hq); clear hq; have c2 := blk_mem TQ.out (g := w.heap.size) (t := 75) (cs := xs) (by simp) 2 K2.out; have h2 := H2.out))
  clear h2 c2
  generalize madeN pg = N at TQ HI0
  generalize newW N = ws0 at TQ HI0
  go_loopw [5] (fun t wr => ∃ k : Nat, k ≤ half ∧ t = .int .i64 k ∧ Hid (∃ ws, FmInv N ws ∧ Sep w wr [fm p g N ws, blk w.heap.size 75 xs])) (fun t _ => half - (intOf t).toNat)
  case atStart => exact ⟨0, Nat.zero_le _, rfl, ⟨_, HI0.out, TQ.out⟩⟩
  case round =>
    obtain ⟨k, hk, rfl, hS⟩ := hrel
    clear TQ
    obtain ⟨ws1, hI1, hS1⟩ := hS.out
    have HI := Lib.hid hI1
    have TQ := Lib.hid hS1
    clear hS hI1 hS1
    have c2 := blk_mem TQ.out (g := w.heap.size) (t := 75) (cs := xs) (by simp) 2 K2.out
    by_cases hlt : k < half
    · obtain ⟨b, o, x, rfl, hx, d0, d1, d2⟩ := rdS HX.out (show k < n by omega)
      replace d0 := qcell d0 TQ.out.below
      replace d1 := qcell d1 TQ.out.below
      replace d2 := qcell d2 TQ.out.below
      clear hx
      go_wp2_with (go_at_call 53; refine (act53_drop HE.out HT.out TQ.out HI.out _ _ _).mono ?_; rintro e wq ⟨va, rfl, Sq⟩; replace TQ := Lib.hid Sq; clear Sq c2 d0 d1 d2)
      go_roundw
      case rel => exact ⟨k + 1, by omega, by go_num, ⟨_, inv_act HI.out _ _, TQ.out⟩⟩
      case measure => simp [intOf]; omega
    · obtain rfl : half = k := by omega
      clear hlt hk HI0 ws0
      have t1 : True := trivial
      go_wp2_with (first
        | (go_at_call 61; clear t1; refine (copy61 TQ.out HI.out.ok).mono ?_; rintro e wq ⟨pc, gc, rfl, Sq⟩; replace TQ := Lib.hid (Sep.up1 Sq); clear Sq c2)
        | (go_at_call 61; refine (copy61 TQ.out HI.out.ok).mono ?_; rintro e wq ⟨pd, gd, rfl, Sq⟩; replace TQ := Lib.hid (Sep.up2 Sq); clear Sq)
        | (go_at_call 66; refine (alike66 TQ.out ⟨_, Sep.up2 TQ.out⟩ HI.out.ok).mono ?_; rintro e wq ⟨rfl, hq⟩; replace TQ := Lib.hid (TQ.out.step hq); clear hq))
      go_loopw [8] (fun t wr => ∃ k : Nat, half ≤ k ∧ k ≤ n ∧ t = .int .i64 k ∧ Hid (FmInv N (runS N ws1 ((X.take k).drop half)) ∧ Sep w wr [fm pc gc N (runS N ws1 ((X.take k).drop half)), fm pd gd N ws1, fm p g N ws1, blk w.heap.size 75 xs])) (fun t _ => n - (intOf t).toNat)
      case atStart => exact ⟨half, Nat.le_refl _, hle, rfl, by rw [runS_start]; exact ⟨HI.out, TQ.out⟩⟩
      case round =>
        obtain ⟨k, hk1, hk2, rfl, hS⟩ := hrel
        clear TQ
        have TQ := Lib.hid hS.out.2
        have HJ := Lib.hid hS.out.1
        clear hS
        have c2 := blk_mem TQ.out (g := w.heap.size) (t := 75) (cs := xs) (by simp) 2 K2.out
        by_cases hlt : k < n
        · obtain ⟨b, o, x, rfl, hx, d0, d1, d2⟩ := rdS HX.out hlt
          replace d0 := qcell d0 TQ.out.below
          replace d1 := qcell d1 TQ.out.below
          replace d2 := qcell d2 TQ.out.below
          have HR := Lib.hid (runS_from (pages := N) (ws := ws1) hk1 hx)
          clear hx
          generalize runS N ws1 ((X.take k).drop half) = ws2 at TQ HJ HR
          go_wp2_with (go_at_call 53; refine (act53_drop HE.out HT.out TQ.out HJ.out _ _ _).mono ?_; rintro e wq ⟨va, rfl, Sq⟩; replace TQ := Lib.hid Sq; clear Sq c2 d0 d1 d2)
          go_roundw
          case rel => exact ⟨k + 1, by omega, by omega, by go_num, by rw [HR.out]; exact ⟨inv_act HJ.out _ _, TQ.out⟩⟩
          case measure => simp [intOf]; omega
        · obtain rfl : n = k := by omega
          clear hlt hk1 hk2
          generalize hwe : runS N ws1 ((X.take n).drop half) = we at TQ HJ
          have HW := Lib.hid hwe
          clear hwe
          replace TQ := Lib.hid (Sep.up2 TQ.out)
          go_wp2_with (first
            | (go_at_call 66; refine (alike66 (Sep.up2 TQ.out) ⟨_, TQ.out⟩ HI.out.ok).mono ?_; rintro e wq ⟨rfl, hq⟩; replace TQ := Lib.hid (TQ.out.step hq); clear hq)
            | (go_at_call 61; refine (copy61 TQ.out HI.out.ok).mono ?_; rintro e wq ⟨pe, ge, rfl, Sq⟩; replace TQ := Lib.hid (Sep.up1 Sq); clear Sq c2))
          go_loopw [10] (fun t wr => ∃ i : Nat, half ≤ i ∧ i ≤ n ∧ t = .int .i64 i ∧ Hid (FmInv N (runS N ws1 ((X.take i).drop half)) ∧ Sep w wr [fm p g N (runS N ws1 ((X.take i).drop half)), fm pe ge N ws1, fm pc gc N we, fm pd gd N ws1, blk w.heap.size 75 xs])) (fun t _ => n - (intOf t).toNat)
          case atStart => exact ⟨half, Nat.le_refl _, hle, rfl, by rw [runS_start]; exact ⟨HI.out, TQ.out⟩⟩
          case round =>
            obtain ⟨i, hk1, hk2, rfl, hS⟩ := hrel
            clear TQ
            have TQ := Lib.hid hS.out.2
            have HL := Lib.hid hS.out.1
            clear hS
            have c2 := blk_mem TQ.out (g := w.heap.size) (t := 75) (cs := xs) (by simp) 2 K2.out
            by_cases hlt : i < n
            · obtain ⟨b, o, x, rfl, hx, d0, d1, d2⟩ := rdS HX.out hlt
              replace d0 := qcell d0 TQ.out.below
              replace d1 := qcell d1 TQ.out.below
              replace d2 := qcell d2 TQ.out.below
              have HR := Lib.hid (runS_from (pages := N) (ws := ws1) hk1 hx)
              clear hx
              generalize runS N ws1 ((X.take i).drop half) = ws2 at TQ HL HR
              go_wp2_with (go_at_call 53; refine (act53_drop HE.out HT.out TQ.out HL.out _ _ _).mono ?_; rintro e wq ⟨va, rfl, Sq⟩; replace TQ := Lib.hid Sq; clear Sq c2 d0 d1 d2)
              go_roundw
              case rel => exact ⟨i + 1, by omega, by omega, by go_num, by rw [HR.out]; exact ⟨inv_act HL.out _ _, TQ.out⟩⟩
              case measure => simp [intOf]; omega
            · obtain rfl : n = i := by omega
              rw [HW.out] at TQ HL
              clear hlt
              have t1 : True := trivial
              go_wp2_with (first
                | (go_at_call 66; clear t1; refine (alike66 TQ.out ⟨_, Sep.up2 TQ.out⟩ HL.out.ok).mono ?_; rintro e wq ⟨rfl, hq⟩; replace TQ := Lib.hid (TQ.out.step hq); clear hq)
                | (go_at_call 66; refine (alike66 (Sep.up3 TQ.out) ⟨_, Sep.up1 TQ.out⟩ HI.out.ok).mono ?_; rintro e wq ⟨rfl, hq⟩; replace TQ := Lib.hid (TQ.out.step hq); clear hq))
              go_ret
              exact ⟨rfl, TQ.out.below⟩
end Go.Proofs.YtdkailccfcijiaaDoor
