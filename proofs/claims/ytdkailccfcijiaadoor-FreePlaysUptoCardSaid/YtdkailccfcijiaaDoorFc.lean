/- The free map's small calls: tree, Size, Mark, Clear, Free. No condition but the sizes and the laid errors. -/
import Derived.Test.YtdkailccfcijiaaDoorFb
import Derived.Laws.BitsAllLaws
import Derived.Laws.DeepNot64
namespace Go.Proofs.YtdkailccfcijiaaDoor
open Go.RowKit
set_option linter.unusedVariables false
set_option linter.unusedSimpArgs false
set_option maxRecDepth 100000

def treeB (pages : Nat) (i : Int) : Bool := decide (2 ≤ i ∧ i < pages)
theorem tree99 {w0 w : World} {L : List Chunk} {p g pages : Nat} {ws : List Nat} (S : Sep w0 w (fm p g pages ws :: L)) (hok : FmOk pages ws) (i : Int) :
    Calls Tryd.prog 99 #[.pointer (some ⟨p, 0, none⟩), .int .i64 i] w fun e w' => e = .returned (.bool (treeB pages i)) ∧ Below w.heap.size w w' := by
  have c0 := fm_cell0 S
  by_cases h1 : i < 2
  · have hu : treeB pages i = false := by unfold treeB; simp; intro h; omega
    rw [hu]
    clear hu
    go_enter Tryd.func99, Tryd.ntmps99
    go_wp2
    go_ret
    exact ⟨rfl, qrefl _⟩
  · by_cases h2 : (pages : Int) ≤ i
    · have hu : treeB pages i = false := by unfold treeB; simp; intro h; omega
      have hd : decide (i < (pages : Int)) = false := by simp; omega
      rw [hu]
      clear hu
      go_enter Tryd.func99, Tryd.ntmps99
      go_wp2
      go_ret
      exact ⟨rfl, qrefl _⟩
    · have hu : treeB pages i = true := by unfold treeB; simp; omega
      rw [hu]
      clear hu
      go_enter Tryd.func99, Tryd.ntmps99
      go_wp2
      go_ret
      exact ⟨rfl, qrefl _⟩
theorem size50 {w0 w : World} {L : List Chunk} {p g pages : Nat} {ws : List Nat} (S : Sep w0 w (fm p g pages ws :: L)) :
    Calls Tryd.prog 50 #[.pointer (some ⟨p, 0, none⟩)] w fun e w' => e = .returned (.int .i64 pages) ∧ Below w.heap.size w w' := by
  have c0 := fm_cell0 S
  go_enter Tryd.func50, Tryd.ntmps50
  go_wp2
  go_ret
  exact ⟨rfl, qrefl _⟩

/-- The words, where a page is taken, where it is given back. -/
def setW (ws : List Nat) (i : Nat) : List Nat := ws.set (i / 64) (ws.getD (i / 64) 0 ||| 2 ^ (i % 64))
def clrW (ws : List Nat) (i : Nat) : List Nat := ws.set (i / 64) (ws.getD (i / 64) 0 &&& (18446744073709551615 - 2 ^ (i % 64)))
def markR (pages : Nat) (ws : List Nat) (i : Int) : Option Nat × List Nat := if treeB pages i then (if tk ws i.toNat then (some 6, ws) else (none, setW ws i.toNat)) else (some 2, ws)
def clearR (pages : Nat) (ws : List Nat) (i : Int) : Option Nat × List Nat := if treeB pages i then (if tk ws i.toNat then (none, clrW ws i.toNat) else (some 1, ws)) else (some 2, ws)
theorem used_tree {pages : Nat} {ws : List Nat} {i : Int} (h : treeB pages i = true) : usedB pages ws i = tk ws i.toNat := by
  unfold treeB at h
  unfold usedB
  rw [decide_eq_true_eq] at h
  rw [show decide (0 ≤ i ∧ i < pages) = true by simp; omega, Bool.true_and]
set_option maxHeartbeats 2000000 in
theorem mark55 {E : Nat → Addr} {w0 w : World} {L : List Chunk} {p g pages : Nat} {ws : List Nat} (hE : Errs all13 E w) (S : Sep w0 w (fm p g pages ws :: L)) (hok : FmOk pages ws) (i : Int) :
    Calls Tryd.prog 55 #[.pointer (some ⟨p, 0, none⟩), .int .i64 i] w fun e w' => e = .returned (errV E (markR pages ws i).1) ∧ Sep w0 w' (fm p g pages (markR pages ws i).2 :: L) := by
  have HE := Lib.hid hE
  have HS := Lib.hid S
  have HK := Lib.hid hok
  have hhi := hok.hi
  clear hE S hok
  unfold markR
  cases ht : treeB pages i with
  | false =>
    rw [if_neg (by decide)]
    have HT := Lib.hid ht
    clear ht
    go_enter Tryd.func55, Tryd.ntmps55
    go_wp2_with (go_at_call 99; refine (tree99 HS.out HK.out i).mono ?_; rintro e w1 ⟨rfl, hw1⟩; rw [HT.out]; replace HS := Lib.hid (HS.out.step hw1); have c2 := (HE.out.below hw1).cell 2 (by decide))
    go_ret
    exact ⟨rfl, HS.out⟩
  | true =>
    rw [if_pos rfl]
    have HU := Lib.hid (used_tree (ws := ws) ht)
    have HT := Lib.hid ht
    obtain ⟨n, rfl⟩ := Int.eq_ofNat_of_zero_le (show 0 ≤ i by unfold treeB at ht; rw [decide_eq_true_eq] at ht; omega)
    have hn : n < pages := by unfold treeB at ht; rw [decide_eq_true_eq] at ht; omega
    rw [Int.toNat_natCast] at HU ⊢
    clear ht
    cases hk : tk ws n with
    | true =>
      rw [if_pos rfl]
      have HK2 := Lib.hid hk
      clear hk
      go_enter Tryd.func55, Tryd.ntmps55
      go_wp2_with (first
        | (go_at_call 99; refine (tree99 HS.out HK.out n).mono ?_; rintro e w1 ⟨rfl, hw1⟩; rw [HT.out]; replace HS := Lib.hid (HS.out.step hw1))
        | (go_at_call 54; refine (used54 HS.out HK.out n).mono ?_; rintro e w2 ⟨rfl, hw2⟩; rw [HU.out, HK2.out]; replace HS := Lib.hid (HS.out.step hw2); have c6 := (HE.out.below (qbelow hw1 hw2)).cell 6 (by decide)))
      go_ret
      exact ⟨rfl, HS.out⟩
    | false =>
      rw [if_neg (by decide)]
      have HK2 := Lib.hid hk
      clear hk
      obtain ⟨x, hx, hlt, hw⟩ := page_word HK.out hn
      have hm : n % 64 < 64 := Nat.mod_lt _ (by decide)
      have hp : (2 : Nat) ^ (n % 64) < 18446744073709551616 := Nat.lt_of_lt_of_le (Nat.pow_lt_pow_right (by decide) hm) (by decide)
      have hor := bits_or_u64_nat x (2 ^ (n % 64)) hw hp
      have hset : setW ws n = ws.set (n / 64) (x ||| 2 ^ (n % 64)) := by
        unfold setW
        rw [List.getD_eq_getElem?_getD, hx]
        rfl
      rw [hset]
      generalize hbb : (2 : Nat) ^ (n % 64) = bb at hp hor
      generalize x ||| bb = ob at hor
      have HB := Lib.hid hbb
      have HX := Lib.hid hx
      clear hbb hset hx
      go_enter Tryd.func55, Tryd.ntmps55
      go_wp2_with (first
        | (go_at_call 99; refine (tree99 HS.out HK.out n).mono ?_; rintro e w1 ⟨rfl, hw1⟩; rw [HT.out]; replace HS := Lib.hid (HS.out.step hw1))
        | (go_at_call 54; refine (used54 HS.out HK.out n).mono ?_; rintro e w2 ⟨rfl, hw2⟩; rw [HU.out, HK2.out]; replace HS := Lib.hid (HS.out.step hw2))
        | (go_at_call 98; refine (bit98 n (by omega) _).mono ?_; rintro e w3 ⟨rfl, hw3⟩; rw [HB.out]; replace HS := Lib.hid (HS.out.step hw3); have c1 := fm_cell1 HS.out; have cx := fm_word HS.out HX.out; have fx := fm_free HS.out (n / 64)))
      go_ret
      exact ⟨rfl, fm_set HS.out _ _⟩
set_option maxHeartbeats 2000000 in
theorem clear70 {E : Nat → Addr} {w0 w : World} {L : List Chunk} {p g pages : Nat} {ws : List Nat} (hE : Errs all13 E w) (S : Sep w0 w (fm p g pages ws :: L)) (hok : FmOk pages ws) (i : Int) :
    Calls Tryd.prog 70 #[.pointer (some ⟨p, 0, none⟩), .int .i64 i] w fun e w' => e = .returned (errV E (clearR pages ws i).1) ∧ Sep w0 w' (fm p g pages (clearR pages ws i).2 :: L) := by
  have HE := Lib.hid hE
  have HS := Lib.hid S
  have HK := Lib.hid hok
  have hhi := hok.hi
  clear hE S hok
  unfold clearR
  cases ht : treeB pages i with
  | false =>
    rw [if_neg (by decide)]
    have HT := Lib.hid ht
    clear ht
    go_enter Tryd.func70, Tryd.ntmps70
    go_wp2_with (go_at_call 99; refine (tree99 HS.out HK.out i).mono ?_; rintro e w1 ⟨rfl, hw1⟩; rw [HT.out]; replace HS := Lib.hid (HS.out.step hw1); have c2 := (HE.out.below hw1).cell 2 (by decide))
    go_ret
    exact ⟨rfl, HS.out⟩
  | true =>
    rw [if_pos rfl]
    have HU := Lib.hid (used_tree (ws := ws) ht)
    have HT := Lib.hid ht
    obtain ⟨n, rfl⟩ := Int.eq_ofNat_of_zero_le (show 0 ≤ i by unfold treeB at ht; rw [decide_eq_true_eq] at ht; omega)
    have hn : n < pages := by unfold treeB at ht; rw [decide_eq_true_eq] at ht; omega
    rw [Int.toNat_natCast] at HU ⊢
    clear ht
    cases hk : tk ws n with
    | false =>
      rw [if_neg (by decide)]
      have HK2 := Lib.hid hk
      clear hk
      go_enter Tryd.func70, Tryd.ntmps70
      go_wp2_with (first
        | (go_at_call 99; refine (tree99 HS.out HK.out n).mono ?_; rintro e w1 ⟨rfl, hw1⟩; rw [HT.out]; replace HS := Lib.hid (HS.out.step hw1))
        | (go_at_call 54; refine (used54 HS.out HK.out n).mono ?_; rintro e w2 ⟨rfl, hw2⟩; rw [HU.out, HK2.out]; replace HS := Lib.hid (HS.out.step hw2); have c6 := (HE.out.below (qbelow hw1 hw2)).cell 1 (by decide)))
      go_ret
      exact ⟨rfl, HS.out⟩
    | true =>
      rw [if_pos rfl]
      have HK2 := Lib.hid hk
      clear hk
      obtain ⟨x, hx, hlt, hw⟩ := page_word HK.out hn
      have hm : n % 64 < 64 := Nat.mod_lt _ (by decide)
      have hp : (2 : Nat) ^ (n % 64) < 18446744073709551616 := Nat.lt_of_lt_of_le (Nat.pow_lt_pow_right (by decide) hm) (by decide)
      have hor := u64_andNot_nat x (2 ^ (n % 64)) hw hp
      have hset : clrW ws n = ws.set (n / 64) (x &&& (18446744073709551615 - 2 ^ (n % 64))) := by
        unfold clrW
        rw [List.getD_eq_getElem?_getD, hx]
        rfl
      rw [hset]
      generalize hbb : (2 : Nat) ^ (n % 64) = bb at hp hor
      generalize x &&& (18446744073709551615 - bb) = ob at hor
      have HB := Lib.hid hbb
      have HX := Lib.hid hx
      clear hbb hset hx
      go_enter Tryd.func70, Tryd.ntmps70
      go_wp2_with (first
        | (go_at_call 99; refine (tree99 HS.out HK.out n).mono ?_; rintro e w1 ⟨rfl, hw1⟩; rw [HT.out]; replace HS := Lib.hid (HS.out.step hw1))
        | (go_at_call 54; refine (used54 HS.out HK.out n).mono ?_; rintro e w2 ⟨rfl, hw2⟩; rw [HU.out, HK2.out]; replace HS := Lib.hid (HS.out.step hw2))
        | (go_at_call 98; refine (bit98 n (by omega) _).mono ?_; rintro e w3 ⟨rfl, hw3⟩; rw [HB.out]; replace HS := Lib.hid (HS.out.step hw3); have c1 := fm_cell1 HS.out; have cx := fm_word HS.out HX.out; have fx := fm_free HS.out (n / 64)))
      go_ret
      exact ⟨rfl, fm_set HS.out _ _⟩
theorem not64 (x : Nat) (hx : x < 18446744073709551616) : bits BinOp.xor IntKind.u64 IntKind.u64.max (x : Int) = ((18446744073709551615 - x : Nat) : Int) := by
  have e : IntKind.u64.max = ((18446744073709551615 : Nat) : Int) := by decide
  have h := congrArg BitVec.toNat (BitVec.allOnes_xor (x := BitVec.ofNat 64 x))
  rw [BitVec.toNat_xor, BitVec.toNat_not, BitVec.toNat_allOnes, BitVec.toNat_ofNat, Nat.mod_eq_of_lt (by simpa using hx)] at h
  rw [e, bits_xor_u64_nat _ x (by decide) hx]
  exact congrArg Nat.cast h
def freeN (ws : List Nat) : Nat := (ws.map fun x => popc 64 (18446744073709551615 - x)).sum
theorem freeN_take {ws : List Nat} {k x : Nat} (h : ws[k]? = some x) : freeN (ws.take (k + 1)) = freeN (ws.take k) + popc 64 (18446744073709551615 - x) := by
  unfold freeN
  rw [List.take_add_one, h, List.map_append, List.sum_append]
  simp
theorem freeN_le (ws : List Nat) : freeN ws ≤ 64 * ws.length := by
  unfold freeN
  induction ws with
  | nil => simp
  | cons x ws ih =>
    have := popc_le 64 (18446744073709551615 - x)
    simp only [List.map_cons, List.sum_cons, List.length_cons]
    omega
set_option maxHeartbeats 2000000 in
theorem free63 {w0 w : World} {L : List Chunk} {p g pages : Nat} {ws : List Nat} (S : Sep w0 w (fm p g pages ws :: L)) (hok : FmOk pages ws) :
    Calls Tryd.prog 63 #[.pointer (some ⟨p, 0, none⟩)] w fun e w' => e = .returned (.int .i64 (freeN ws : Nat)) ∧ Below w.heap.size w w' := by
  have HS := Lib.hid S
  have c1 := fm_cell1 S
  have hlen : ws.length ≤ 16384 := by have h1 := hok.len; have h2 := hok.hi; omega
  have HW := Lib.hid hok.word
  clear S hok
  go_enter Tryd.func63, Tryd.ntmps63
  go_wp2
  go_loop [3, 11] (fun t3 t11 => ∃ k : Nat, k ≤ ws.length ∧ t11 = .int .i64 k ∧ t3 = .int .i64 (freeN (ws.take k) : Nat)) (fun _ t11 => ws.length - (intOf t11).toNat)
  case atStart => exact ⟨0, Nat.zero_le _, rfl, rfl⟩
  case round =>
    obtain ⟨k, hk, rfl, rfl⟩ := hrel
    have hb := freeN_le (ws.take k)
    have hb2 : (ws.take k).length ≤ 16384 := Nat.le_trans (List.length_take_le _ _) (by omega)
    by_cases hlt : k < ws.length
    · have hx : ws[k]? = some ws[k] := List.getElem?_eq_getElem hlt
      have cx := fm_word HS.out hx
      have hw := HW.out _ (List.getElem_mem hlt)
      have HN := Lib.hid (freeN_take hx)
      generalize ws[k] = x at hx cx hw HN
      clear hx
      generalize freeN (ws.take k) = fr at hb HN
      have hn := not64 x hw
      have hp := popc_le 64 (18446744073709551615 - x)
      have hfr : fr ≤ 1048576 := by omega
      have ho : ∀ W, Calls Tryd.prog 105 #[.int .u64 ((18446744073709551615 - x : Nat) : Int)] W fun e w' => e = .returned (.int .i64 (popc 64 (18446744073709551615 - x) : Nat)) ∧ W = w' := fun W => ones105 (18446744073709551615 - x) (by omega) W
      generalize 18446744073709551615 - x = nx at hn hp HN ho
      generalize popc 64 nx = pn at hp HN ho
      have HO := Lib.hid ho
      clear ho
      go_wp2_with fail
      refine (HO.out _).mono ?_
      rintro e w' ⟨rfl, rfl⟩
      go_wp2
      go_round
      case rel => exact ⟨k + 1, by omega, by go_num, by rw [HN.out]; rfl⟩
      case measure => simp [intOf]; omega
    · obtain rfl : k = ws.length := by omega
      go_wp2
      go_ret
      exact ⟨rfl, qrefl _⟩
end Go.Proofs.YtdkailccfcijiaaDoor
