/- Pick; a map of 4 to 300 pages; two lists of ints; two maps compared. No condition but the sizes and the laid errors. One step of a script on a map as one contract; two lists of ints compared; two answers; two maps. No condition but the sizes, the laid errors and the library's table. -/
import Derived.Test.YtdkailccfcijiaaDoorFh
import Derived.Test.YtdkailccfcijiaaDoorPu
namespace Go.Proofs.YtdkailccfcijiaaDoor
open Go.RowKit Go.Shelf
set_option linter.unusedVariables false
set_option linter.unusedSimpArgs false
set_option maxRecDepth 100000

def pickN (k : Int) (n : Nat) : Nat := (k % (n : Int)).toNat
theorem pickN_lt (k : Int) {n : Nat} (h : 1 ≤ n) : pickN k n < n := by
  unfold pickN
  have h1 := Int.emod_lt_of_pos k (show (0 : Int) < n by omega)
  have h2 := Int.emod_nonneg k (show (n : Int) ≠ 0 by omega)
  omega
theorem pick_tmod (k : Int) {n : Nat} (h : 1 ≤ n) : (if k.tmod n < 0 then k.tmod n + n else k.tmod n) = (pickN k n : Int) := by
  unfold pickN
  have h2 := Int.emod_nonneg k (show (n : Int) ≠ 0 by omega)
  have h3 := Int.emod_lt_of_pos k (show (0 : Int) < n by omega)
  rw [Int.toNat_of_nonneg h2]
  rcases Int.lt_or_le k 0 with hk | hk
  · by_cases hd : (n : Int) ∣ k
    · have h4 : k.tmod n = 0 := Int.tmod_eq_zero_of_dvd hd
      have h5 : k % (n : Int) = 0 := Int.emod_eq_zero_of_dvd hd
      rw [h4, h5]; simp
    · have h5 : k % (n : Int) ≠ 0 := fun e => hd (Int.dvd_of_emod_eq_zero e)
      have h4 := Int.tmod_eq_emod (a := k) (b := n)
      rw [if_neg (by omega)] at h4
      have h6 : ((n : Int).natAbs : Int) = n := by simp
      rw [h6] at h4
      rw [if_pos (by omega)]
      omega
  · rw [Int.tmod_eq_emod_of_nonneg hk, if_neg (by omega)]
theorem pick67 (k : Int) (n : Nat) (w : World) (h1 : 1 ≤ n) (h2 : n ≤ 4294967296) :
    Calls Tryd.prog 67 #[.int .i64 k, .int .i64 n] w fun e w' => e = .returned (.int .i64 (pickN k n : Nat)) ∧ w = w' := by
  have hp := pick_tmod k h1
  have hlt := pickN_lt k h1
  generalize pickN k n = q at hp hlt
  have hz : ((n : Int) == 0) = false := by simp; omega
  have hn : decide ((n : Int) < 1) = false := by simp; omega
  generalize ht : k.tmod n = t at hp
  by_cases h0 : t < 0
  · rw [if_pos h0] at hp
    go_enter Tryd.func67, Tryd.ntmps67
    go_wp2_with (simp only [ht])
    all_goals first | (exfalso; omega) | skip
    go_ret
    exact ⟨rfl, rfl⟩
  · rw [if_neg h0] at hp
    go_enter Tryd.func67, Tryd.ntmps67
    go_wp2_with (simp only [ht])
    all_goals first | (exfalso; omega) | skip
    go_ret
    exact ⟨rfl, rfl⟩
/-- The pages of a map that these statements go through. -/
def madeN (k : Int) : Nat := 4 + pickN k 297
set_option maxHeartbeats 4000000 in
theorem made47 {w0 w : World} {L : List Chunk} (S : Sep w0 w L) (k : Int) :
    Calls Tryd.prog 47 #[.int .i64 k] w fun e w' => ∃ p g, e = .returned (.pointer (some ⟨p, 0, none⟩)) ∧ Sep w0 w' (fm p g (madeN k) (newW (madeN k)) :: L) := by
  have HS := Lib.hid S
  have hp := pick67 k 297 w (by omega) (by omega)
  rw [show ((297 : Nat) : Int) = 297 from rfl] at hp
  have HP := Lib.hid hp
  clear hp
  have hlt := pickN_lt k (n := 297) (by omega)
  unfold madeN
  generalize pickN k 297 = q at HP hlt ⊢
  generalize hm : 4 + q = m
  have hq : ((4 : Int) + (q : Int)) = (m : Int) := by omega
  have hm1 : 4 ≤ m := by omega
  have hm2 : m ≤ 300 := by omega
  have HY := Lib.hid fun (w : World) => new57_yes w m hm1 (by omega)
  clear S
  go_enter Tryd.func47, Tryd.ntmps47
  go_wp2_with fail
  refine HP.out.mono ?_
  rintro e w1 ⟨rfl, rfl⟩
  go_wp2_with fail
  refine (HY.out _).mono ?_
  rintro e w2 ⟨p, g, rfl, S2⟩
  have HS2 := Lib.hid (HS.out.call S2)
  clear S2
  go_wp2
  go_ret
  exact ⟨p, g, rfl, HS2.out⟩

/-- What a step answers. -/
structure An where
  err : Option Nat
  a : Int
  b : Int
  ok : Bool
  list : List Nat
noncomputable def actA (pages : Nat) (ws : List Nat) (k n : Int) : An × List Nat :=
  if k = 1 then (⟨(markR pages ws n).1, 0, 0, false, []⟩, (markR pages ws n).2)
  else if k = 2 then (⟨(clearR pages ws n).1, 0, 0, false, []⟩, (clearR pages ws n).2)
  else if k = 3 then (⟨none, 0, 0, usedB pages ws n, []⟩, ws)
  else if k = 4 then (⟨none, (freeN ws : Nat), pages, false, []⟩, ws)
  else if k = 5 then (⟨(takeA ws n).1, 0, 0, false, (takeA ws n).2.1⟩, (takeA ws n).2.2)
  else (⟨none, 0, 0, false, []⟩, ws)
def An.val (x : An) (v : Value) : Value := .agg #[.int .i64 (numOf x.err), .int .i64 x.a, .int .i64 x.b, .bool x.ok, v]
theorem inv_takeA {pages : Nat} {ws : List Nat} (h : FmInv pages ws) (n : Int) : FmInv pages (takeA ws n).2.2 := by
  unfold takeA
  split
  · exact h
  · split
    · exact h
    · exact inv_take _ h (by omega)
theorem inv_act {pages : Nat} {ws : List Nat} (h : FmInv pages ws) (k n : Int) : FmInv pages (actA pages ws k n).2 := by
  unfold actA
  split
  · exact inv_mark h n
  · split
    · exact inv_clear h n
    · split
      · exact h
      · split
        · exact h
        · split
          · exact inv_takeA h n
          · exact h
theorem act53 {E : Nat → Addr} {w0 w : World} {L : List Chunk} {p g pages : Nat} {ws : List Nat} (hE : Errs all13 E w0) (hT : TabAt13 w0) (S : Sep w0 w (fm p g pages ws :: L)) (hok : FmOk pages ws) (k on n : Int) :
    Calls Tryd.prog 53 #[.pointer (some ⟨p, 0, none⟩), .agg #[.int .i64 k, .int .i64 on, .int .i64 n]] w fun e w' => ∃ v, e = .returned ((actA pages ws k n).1.val v) ∧ Sep w0 w' (row IT v (ints (actA pages ws k n).1.list) :: fm p g pages (actA pages ws k n).2 :: L) := by
  unfold actA
  by_cases h1 : k = 1
  · subst h1
    refine (act53_mark hE S hok on n).mono ?_
    rintro e w' ⟨rfl, S'⟩
    exact ⟨_, rfl, S'.none_ IT⟩
  · rw [if_neg h1]
    by_cases h2 : k = 2
    · subst h2
      refine (act53_clear hE S hok on n).mono ?_
      rintro e w' ⟨rfl, S'⟩
      exact ⟨_, rfl, S'.none_ IT⟩
    · rw [if_neg h2]
      by_cases h3 : k = 3
      · subst h3
        refine (act53_used hE S hok on n).mono ?_
        rintro e w' ⟨rfl, S'⟩
        exact ⟨_, rfl, S'.none_ IT⟩
      · rw [if_neg h3]
        by_cases h4 : k = 4
        · subst h4
          refine (act53_free hE S hok on n).mono ?_
          rintro e w' ⟨rfl, S'⟩
          exact ⟨_, rfl, S'.none_ IT⟩
        · rw [if_neg h4]
          by_cases h5 : k = 5
          · subst h5
            refine (act53_take hE hT S hok on n).mono ?_
            rintro e w' ⟨v, rfl, S'⟩
            exact ⟨v, rfl, S'⟩
          · rw [if_neg h5]
            refine (act53_none hE S hok k on n h1 h2 h3 h4 h5).mono ?_
            rintro e w' ⟨rfl, S'⟩
            exact ⟨_, rfl, S'.none_ IT⟩

/-! ### lists of ints -/
theorem rdI {w : World} {a : Option Addr} {n k : Nat} {l : List Int} (h : Rd IT w a n l) (hk : k < n) : ∃ b o x, a = some ⟨b, o, none⟩ ∧ l[k]? = some x ∧ w.cell? ⟨b, o + k, none⟩ = some (.int .i64 x) := by
  obtain ⟨b, o, x, rfl, hx, hc⟩ := h.get k hk
  exact ⟨b, o, x, rfl, hx, by simpa [IT] using hc 0 _ rfl⟩
set_option maxHeartbeats 2000000 in
theorem sameInts69 (a1 a2 : Option Addr) (c1 c2 n : Nat) (l : List Int) (w : World) (h1 : Rd IT w a1 n l) (h2 : Rd IT w a2 n l) :
    Calls Tryd.prog 69 #[.slice a1 n c1, .slice a2 n c2] w fun e w' => e = .returned (.bool true) ∧ Below w.heap.size w w' := by
  have H1 := Lib.hid h1
  have H2 := Lib.hid h2
  have hl := h1.2.1
  clear h1 h2
  have hz : ((n : Int) != (n : Int)) = false := by simp
  go_enter Tryd.func69, Tryd.ntmps69
  go_wp2
  go_loopw [5] (fun i wr => ∃ k : Nat, i = .int .i64 k ∧ Below w.heap.size w wr) (fun i _ => n - (intOf i).toNat)
  case atStart => exact ⟨0, rfl, qrefl _⟩
  case round =>
    obtain ⟨k, rfl, hb⟩ := hrel
    by_cases hlt : k < n
    · obtain ⟨b, o, x, rfl, hx, d1⟩ := rdI H1.out hlt
      obtain ⟨b', o', x', rfl, hx', d2⟩ := rdI H2.out hlt
      obtain rfl : x = x' := Option.some.inj (hx.symm.trans hx')
      have x1 := xt_cell (qcell d1 hb)
      have x2 := xt_cell (qcell d2 hb)
      clear d1 d2 hx hx'
      go_wp2
      refine xt_region (by kernel_rfl) (by kernel_rfl) ?_
      repeat (go_big_quiet_step (fail))
      refine wpQuiet_nil ?_
      intro _ hw'
      obtain ⟨m, rfl⟩ := hw'
      have hq : (x != x) = false := by simp
      have hb2 := qbelow hb (xt_below wr m)
      clear x1 x2
      generalize wx wr m = wr2 at hb2
      go_wp2
      go_roundw
      case rel => exact ⟨k + 1, by go_num, hb2⟩
      case measure => simp [intOf]; omega
    · go_wp2
      go_ret
      exact ⟨rfl, hb⟩
theorem sameIV {v1 v2 : Value} {l : List Int} {w : World} (h1 : RdV IT w v1 l) (h2 : RdV IT w v2 l) : Calls Tryd.prog 69 #[v1, v2] w fun e w' => e = .returned (.bool true) ∧ Below w.heap.size w w' := by
  obtain ⟨a, c, rfl, _, _, h1⟩ := h1
  obtain ⟨a', c', rfl, _, _, h2⟩ := h2
  exact sameInts69 a a' c c' _ l w h1 h2
set_option maxHeartbeats 2000000 in
theorem same56 (n a b : Int) (ok : Bool) {v1 v2 : Value} {l : List Int} {w : World} (h1 : RdV IT w v1 l) (h2 : RdV IT w v2 l) :
    Calls Tryd.prog 56 #[.agg #[.int .i64 n, .int .i64 a, .int .i64 b, .bool ok, v1], .agg #[.int .i64 n, .int .i64 a, .int .i64 b, .bool ok, v2]] w fun e w' => e = .returned (.bool true) ∧ Below w.heap.size w w' := by
  obtain ⟨a1, c1, rfl, _, _, h1⟩ := h1
  obtain ⟨a2, c2, rfl, _, _, h2⟩ := h2
  have hb := qalloc (qalloc (qrefl w) (.cells #[.int .i64 n, .int .i64 a, .int .i64 b, .bool ok, .slice a1 l.length c1] 88)) (.cells #[.int .i64 n, .int .i64 a, .int .i64 b, .bool ok, .slice a2 l.length c2] 88)
  have HB := Lib.hid hb
  have HS := fun W (hb : Below w.heap.size w W) => sameInts69 a1 a2 c1 c2 l.length l W (h1.below hb) (h2.below hb)
  have HC := Lib.hid HS
  clear hb HS h1 h2
  generalize l.length = len at HB HC ⊢
  go_enter Tryd.func56, Tryd.ntmps56
  go_wp2_with fail
  refine (HC.out _ HB.out).mono ?_
  rintro e w1 ⟨rfl, hw1⟩
  have HB2 := Lib.hid (qbelow HB.out hw1)
  obtain ⟨hc, hf⟩ : (∀ bb o, bb < w.heap.size + 2 → w1.cell? ⟨bb, o, none⟩ = ((w.alloc (.cells #[.int .i64 n, .int .i64 a, .int .i64 b, .bool ok, .slice a1 len c1] 88)).alloc (.cells #[.int .i64 n, .int .i64 a, .int .i64 b, .bool ok, .slice a2 len c2] 88)).cell? ⟨bb, o, none⟩) ∧ True :=
    ⟨fun bb o h => hw1.cell (p := ⟨bb, o, none⟩) (by simpa using h), trivial⟩
  clear hw1
  go_wp2
  go_ret
  exact ⟨rfl, HB2.out⟩
set_option maxHeartbeats 2000000 in
theorem alike66 {w0 w : World} {L : List Chunk} {p1 g1 p2 g2 pages : Nat} {ws : List Nat} (S1 : Sep w0 w (fm p1 g1 pages ws :: L)) (S2 : ∃ L2, Sep w0 w (fm p2 g2 pages ws :: L2)) (hok : FmOk pages ws) :
    Calls Tryd.prog 66 #[.pointer (some ⟨p1, 0, none⟩), .pointer (some ⟨p2, 0, none⟩)] w fun e w' => e = .returned (.bool true) ∧ Below w.heap.size w w' := by
  obtain ⟨L2, S2⟩ := S2
  have A1 := Lib.hid fun W (hb : Below w.heap.size w W) => size50 (S1.step hb)
  have A2 := Lib.hid fun W (hb : Below w.heap.size w W) => size50 (S2.step hb)
  have B1 := Lib.hid fun W (hb : Below w.heap.size w W) => free63 (S1.step hb) hok
  have B2 := Lib.hid fun W (hb : Below w.heap.size w W) => free63 (S2.step hb) hok
  have C1 := Lib.hid fun (i : Nat) W (hb : Below w.heap.size w W) => used54 (S1.step hb) hok i
  have C2 := Lib.hid fun (i : Nat) W (hb : Below w.heap.size w W) => used54 (S2.step hb) hok i
  have h1 := hok.lo
  have h2 := hok.hi
  have hz : ((pages : Int) != (pages : Int)) = false := by simp
  have HB := Lib.hid (qrefl w)
  clear S1 S2 hok
  generalize freeN ws = fr at B1 B2
  have hz2 : ((fr : Int) != (fr : Int)) = false := by simp
  have t1 : True := trivial
  have t2 : True := trivial
  go_enter Tryd.func66, Tryd.ntmps66
  go_wp2_with (first
    | (go_at_call 50; clear t1; refine (A1.out _ HB.out).mono ?_; rintro e wq ⟨rfl, hq⟩; replace HB := Lib.hid (qbelow HB.out hq); clear hq)
    | (go_at_call 50; refine (A2.out _ HB.out).mono ?_; rintro e wq ⟨rfl, hq⟩; replace HB := Lib.hid (qbelow HB.out hq); clear hq)
    | (go_at_call 63; clear t2; refine (B1.out _ HB.out).mono ?_; rintro e wq ⟨rfl, hq⟩; replace HB := Lib.hid (qbelow HB.out hq); clear hq)
    | (go_at_call 63; refine (B2.out _ HB.out).mono ?_; rintro e wq ⟨rfl, hq⟩; replace HB := Lib.hid (qbelow HB.out hq); clear hq))
  go_loopw [5] (fun i wr => ∃ k : Nat, i = .int .i64 k ∧ k ≤ pages ∧ Hid (Below w.heap.size w wr)) (fun i _ => pages - (intOf i).toNat)
  case atStart => exact ⟨0, rfl, Nat.zero_le _, HB.out⟩
  case round =>
    obtain ⟨k, rfl, hk, hb⟩ := hrel
    clear HB
    have HB := Lib.hid hb.out
    clear hb
    have CA := Lib.hid (C1.out k)
    have CB := Lib.hid (C2.out k)
    generalize usedB pages ws k = ub at CA CB
    have hz3 : (ub != ub) = false := by simp
    have t1 : True := trivial
    by_cases hlt : k < pages
    · go_wp2_with (first
        | (go_at_call 50; refine (A1.out _ HB.out).mono ?_; rintro e wq ⟨rfl, hq⟩; replace HB := Lib.hid (qbelow HB.out hq); clear hq)
        | (go_at_call 54; clear t1; refine (CA.out _ HB.out).mono ?_; rintro e wq ⟨rfl, hq⟩; replace HB := Lib.hid (qbelow HB.out hq); clear hq)
        | (go_at_call 54; refine (CB.out _ HB.out).mono ?_; rintro e wq ⟨rfl, hq⟩; replace HB := Lib.hid (qbelow HB.out hq); clear hq))
      go_roundw
      case rel => exact ⟨k + 1, by go_num, by omega, HB⟩
      case measure => simp [intOf]; omega
    · obtain rfl : k = pages := by omega
      go_wp2_with (go_at_call 50; refine (A1.out _ HB.out).mono ?_; rintro e wq ⟨rfl, hq⟩; replace HB := Lib.hid (qbelow HB.out hq); clear hq)
      go_ret
      exact ⟨rfl, HB.out⟩
end Go.Proofs.YtdkailccfcijiaaDoor
