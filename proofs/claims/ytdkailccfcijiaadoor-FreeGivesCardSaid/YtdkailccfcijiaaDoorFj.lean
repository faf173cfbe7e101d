/- Pick; a map of 4 to 300 pages; two lists of ints; two maps compared. No condition but the sizes and the laid errors. -/
import Derived.Test.YtdkailccfcijiaaDoorFi
namespace Go.Proofs.YtdkailccfcijiaaDoor
open Go.RowKit Go.Shelf
set_option linter.unusedVariables false
set_option linter.unusedSimpArgs false
set_option maxRecDepth 100000

def pickN (k : Int) (n : Nat) : Nat := (k % (n : Int)).toNat
theorem pickN_lt (k : Int) {n : Nat} (h : 1 ≤ n) : pickN k n < n := by
  unfold pickN
  have h1 := Int.emod_lt_of_pos k (show (0 : Int) < n by omega)
  have h2 := Int.emod_nonneg k (show (n : Int) ≠ 0 by omega)
  omega
theorem pick_tmod (k : Int) {n : Nat} (h : 1 ≤ n) : (if k.tmod n < 0 then k.tmod n + n else k.tmod n) = (pickN k n : Int) := by
  unfold pickN
  have h2 := Int.emod_nonneg k (show (n : Int) ≠ 0 by omega)
  have h3 := Int.emod_lt_of_pos k (show (0 : Int) < n by omega)
  rw [Int.toNat_of_nonneg h2]
  rcases Int.lt_or_le k 0 with hk | hk
  · by_cases hd : (n : Int) ∣ k
    · have h4 : k.tmod n = 0 := Int.tmod_eq_zero_of_dvd hd
      have h5 : k % (n : Int) = 0 := Int.emod_eq_zero_of_dvd hd
      rw [h4, h5]; simp
    · have h5 : k % (n : Int) ≠ 0 := fun e => hd (Int.dvd_of_emod_eq_zero e)
      have h4 := Int.tmod_eq_emod (a := k) (b := n)
      rw [if_neg (by omega)] at h4
      have h6 : ((n : Int).natAbs : Int) = n := by simp
      rw [h6] at h4
      rw [if_pos (by omega)]
      omega
  · rw [Int.tmod_eq_emod_of_nonneg hk, if_neg (by omega)]
theorem pick67 (k : Int) (n : Nat) (w : World) (h1 : 1 ≤ n) (h2 : n ≤ 4294967296) :
    Calls Tryd.prog 67 #[.int .i64 k, .int .i64 n] w fun e w' => e = .returned (.int .i64 (pickN k n : Nat)) ∧ w = w' := by
  have hp := pick_tmod k h1
  have hlt := pickN_lt k h1
  generalize pickN k n = q at hp hlt
  have hz : ((n : Int) == 0) = false := by simp; omega
  have hn : decide ((n : Int) < 1) = false := by simp; omega
  generalize ht : k.tmod n = t at hp
  by_cases h0 : t < 0
  · rw [if_pos h0] at hp
    go_enter Tryd.func67, Tryd.ntmps67
    go_wp2_with (simp only [ht])
    all_goals first | (exfalso; omega) | skip
    go_ret
    exact ⟨rfl, rfl⟩
  · rw [if_neg h0] at hp
    go_enter Tryd.func67, Tryd.ntmps67
    go_wp2_with (simp only [ht])
    all_goals first | (exfalso; omega) | skip
    go_ret
    exact ⟨rfl, rfl⟩
/-- The pages of a map that these statements go through. -/
def madeN (k : Int) : Nat := 4 + pickN k 297
set_option maxHeartbeats 4000000 in
theorem made47 {w0 w : World} {L : List Chunk} (S : Sep w0 w L) (k : Int) :
    Calls Tryd.prog 47 #[.int .i64 k] w fun e w' => ∃ p g, e = .returned (.pointer (some ⟨p, 0, none⟩)) ∧ Sep w0 w' (fm p g (madeN k) (newW (madeN k)) :: L) := by
  have HS := Lib.hid S
  have hp := pick67 k 297 w (by omega) (by omega)
  rw [show ((297 : Nat) : Int) = 297 from rfl] at hp
  have HP := Lib.hid hp
  clear hp
  have hlt := pickN_lt k (n := 297) (by omega)
  unfold madeN
  generalize pickN k 297 = q at HP hlt ⊢
  generalize hm : 4 + q = m
  have hq : ((4 : Int) + (q : Int)) = (m : Int) := by omega
  have hm1 : 4 ≤ m := by omega
  have hm2 : m ≤ 300 := by omega
  have HY := Lib.hid fun (w : World) => new57_yes w m hm1 (by omega)
  clear S
  go_enter Tryd.func47, Tryd.ntmps47
  go_wp2_with fail
  refine HP.out.mono ?_
  rintro e w1 ⟨rfl, rfl⟩
  go_wp2_with fail
  refine (HY.out _).mono ?_
  rintro e w2 ⟨p, g, rfl, S2⟩
  have HS2 := Lib.hid (HS.out.call S2)
  clear S2
  go_wp2
  go_ret
  exact ⟨p, g, rfl, HS2.out⟩
end Go.Proofs.YtdkailccfcijiaaDoor
