/- A map of pages in memory: its words; what is read of it, a word that is written. No condition but the sizes. -/
import Derived.Test.YtdkailccfcijiaaDoorFa
namespace Go.Proofs.YtdkailccfcijiaaDoor
open Go.RowKit
set_option linter.unusedVariables false
set_option linter.unusedSimpArgs false
set_option maxRecDepth 100000

def wordV (x : Nat) : Value := .int .u64 x
/-- The map of so many pages at block p, its words at block g. -/
def fm (p g pages : Nat) (ws : List Nat) : Chunk where
  blk k := k = p ∨ k = g
  is w := p ≠ g ∧ w.heap[p]? = some (.cells #[.int .i64 pages, .slice (some ⟨g, 0, none⟩) ws.length ws.length] 153 (0, 0)) ∧ w.heap[g]? = some (.cells (ws.map wordV).toArray 54 (0, 0))
  keep hm h := ⟨h.1, (hm p (.inl rfl)).trans h.2.1, (hm g (.inr rfl)).trans h.2.2⟩
/-- The sizes fit; all words are words. -/
structure FmOk (pages : Nat) (ws : List Nat) : Prop where
  lo : 4 ≤ pages
  hi : pages ≤ 1048576
  len : ws.length = (pages + 63) / 64
  word : ∀ x ∈ ws, x < 18446744073709551616
section
variable {w0 w : World} {L : List Chunk} {p g pages : Nat} {ws : List Nat}
theorem fm_cell0 (S : Sep w0 w (fm p g pages ws :: L)) : w.cell? ⟨p, 0, none⟩ = some (.int .i64 pages) := by
  have h : (fm p g pages ws).is w := S.hd
  simp [World.cell?, h.2.1]
theorem fm_cell1 (S : Sep w0 w (fm p g pages ws :: L)) : w.cell? ⟨p, 1, none⟩ = some (.slice (some ⟨g, 0, none⟩) ws.length ws.length) := by
  have h : (fm p g pages ws).is w := S.hd
  simp [World.cell?, h.2.1]
theorem fm_word (S : Sep w0 w (fm p g pages ws :: L)) {i x : Nat} (hx : ws[i]? = some x) : w.cell? ⟨g, i, none⟩ = some (.int .u64 x) := by
  have h : (fm p g pages ws).is w := S.hd
  simp [World.cell?, h.2.2, hx, wordV]
theorem fm_free (S : Sep w0 w (fm p g pages ws :: L)) (i : Nat) : w.frozen? ⟨g, i, none⟩ = false := by
  have h : (fm p g pages ws).is w := S.hd
  simp [World.frozen?, h.2.2]
theorem fm_set (S : Sep w0 w (fm p g pages ws :: L)) (i x : Nat) : Sep w0 (w.setCell ⟨g, i, none⟩ (.int .u64 x)) (fm p g pages (ws.set i x) :: L) := by
  have h : (fm p g pages ws).is w := S.hd
  refine S.turn (d := fm p g pages (ws.set i x)) ((Kp.setCell w ⟨g, i, none⟩ _).mono (fun k hk => .inl (.inr hk))) ?_ (fun k hk => .inl hk)
  refine ⟨h.1, ?_, ?_⟩
  · rw [List.length_set]
    exact (Below.heap_setCell w ⟨g, i, none⟩ _ p h.1).trans h.2.1
  · simp [World.setCell, Array.getElem?_modify, h.2.2, wordV]
end
/-- Is a page taken? -/
def tk (ws : List Nat) (i : Nat) : Bool := (ws.getD (i / 64) 0).testBit (i % 64)
def usedB (pages : Nat) (ws : List Nat) (i : Int) : Bool := decide (0 ≤ i ∧ i < pages) && tk ws i.toNat
theorem page_word {pages : Nat} {ws : List Nat} (h : FmOk pages ws) {i : Nat} (hi : i < pages) : ∃ x, ws[i / 64]? = some x ∧ i / 64 < ws.length ∧ x < 18446744073709551616 := by
  have hlt : i / 64 < ws.length := by rw [h.len]; omega
  exact ⟨ws[i / 64], List.getElem?_eq_getElem hlt, hlt, h.word _ (List.getElem_mem _)⟩
theorem and_bit_ne (x j : Nat) : (x &&& 2 ^ j = 0) ↔ x.testBit j = false := by
  constructor
  · intro h
    have := congrArg (fun n => n.testBit j) h
    simpa [Nat.testBit_and, Nat.testBit_two_pow] using this
  · intro h
    apply Nat.eq_of_testBit_eq
    intro k
    rw [Nat.testBit_and, Nat.testBit_two_pow, Nat.zero_testBit]
    by_cases hk : j = k
    · subst hk; simp [h]
    · simp [hk]
set_option maxHeartbeats 2000000 in
theorem used54 {w0 w : World} {L : List Chunk} {p g pages : Nat} {ws : List Nat} (S : Sep w0 w (fm p g pages ws :: L)) (hok : FmOk pages ws) (i : Int) :
    Calls Tryd.prog 54 #[.pointer (some ⟨p, 0, none⟩), .int .i64 i] w fun e w' => e = .returned (.bool (usedB pages ws i)) ∧ Below w.heap.size w w' := by
  have c0 := fm_cell0 S
  have c1 := fm_cell1 S
  have hlo := hok.lo
  have hhi := hok.hi
  by_cases h1 : i < 0
  · have hu : usedB pages ws i = false := by unfold usedB; simp; intro h; omega
    rw [hu]
    clear hu c0 c1
    go_enter Tryd.func54, Tryd.ntmps54
    go_wp2
    go_ret
    exact ⟨rfl, qrefl _⟩
  · by_cases h2 : (pages : Int) ≤ i
    · have hu : usedB pages ws i = false := by unfold usedB; simp; intro h h'; omega
      rw [hu]
      clear hu c1
      go_enter Tryd.func54, Tryd.ntmps54
      go_wp2
      go_ret
      exact ⟨rfl, qrefl _⟩
    · obtain ⟨n, rfl⟩ := Int.eq_ofNat_of_zero_le (by omega : 0 ≤ i)
      obtain ⟨x, hx, hlt, hw⟩ := page_word hok (i := n) (by omega)
      have cx := fm_word S hx
      have hm : n % 64 < 64 := Nat.mod_lt _ (by decide)
      have hp : (2 : Nat) ^ (n % 64) < 18446744073709551616 := Nat.lt_of_lt_of_le (Nat.pow_lt_pow_right (by decide) hm) (by decide)
      have hu : usedB pages ws n = x.testBit (n % 64) := by
        unfold usedB tk
        rw [List.getD_eq_getElem?_getD, Int.toNat_natCast, hx]
        simp
        intro _
        omega
      rw [hu]
      have hand := bits_and_u64_nat x (2 ^ (n % 64)) hw hp
      have hbit := and_bit_ne x (n % 64)
      have hq : (((x &&& 2 ^ (n % 64) : Nat) : Int) == 0) = !x.testBit (n % 64) := by
        cases ht : x.testBit (n % 64)
        · rw [hbit.2 ht]; rfl
        · have : x &&& 2 ^ (n % 64) ≠ 0 := fun e => by rw [hbit.1 e] at ht; cases ht
          simp; omega
      generalize x.testBit (n % 64) = tb at hq
      generalize hbb : (2 : Nat) ^ (n % 64) = bb at hp hand hq
      generalize x &&& bb = ab at hand hq
      have HB := Lib.hid hbb
      clear hbit hu hbb
      go_enter Tryd.func54, Tryd.ntmps54
      go_wp2_with (go_at_call 98; refine (bit98 n (by omega) _).mono ?_; rintro e w1 ⟨rfl, hw1⟩; replace c0 := qcell c0 hw1; replace c1 := qcell c1 hw1; replace cx := qcell cx hw1; rw [HB.out])
      have hne : ((ab : Int) != 0) = tb := by rw [bne, hq, Bool.not_not]
      go_ret
      rw [hne]
      exact ⟨rfl, hw1⟩
end Go.Proofs.YtdkailccfcijiaaDoor
