/- Words of 64 bits: how many bits are set; the lowest one. Conditions: the table of the library where it is read. -/
import Derived.Test.YtdkailccfcijiaaDoorPb
import Derived.Test.YtdkailccfcijiaaDoorDr
import Derived.Laws.Bits64b
import Derived.Lib.TrailingZeros
import Derived.Laws.Bits128
namespace Go.Proofs.YtdkailccfcijiaaDoor
open Go.RowKit
set_option linter.unusedVariables false
set_option linter.unusedSimpArgs false
set_option maxRecDepth 100000

theorem wrap_u64_fits (n : Int) (h0 : 0 ≤ n) (h : n < 18446744073709551616) : IntKind.u64.wrap n = n := by
  rw [IntKind.wrap_u64]
  omega
set_option maxHeartbeats 1000000 in
theorem ones_core (x a1 a2 x1 b1 b2 x2 c x3 x4 x5 x6 r : Nat) (w : World)
    (f1 : bits BinOp.and IntKind.u64 ((x : Int) / 2) 6148914691236517205 = (a1 : Int)) (f2 : bits BinOp.and IntKind.u64 (x : Int) 6148914691236517205 = (a2 : Int)) (f3 : IntKind.u64.wrap ((a1 : Int) + (a2 : Int)) = (x1 : Int))
    (f4 : bits BinOp.and IntKind.u64 ((x1 : Int) / 4) 3689348814741910323 = (b1 : Int)) (f5 : bits BinOp.and IntKind.u64 (x1 : Int) 3689348814741910323 = (b2 : Int)) (f6 : IntKind.u64.wrap ((b1 : Int) + (b2 : Int)) = (x2 : Int))
    (f7 : IntKind.u64.wrap ((x2 : Int) / 16 + (x2 : Int)) = (c : Int)) (f8 : bits BinOp.and IntKind.u64 (c : Int) 1085102592571150095 = (x3 : Int))
    (f9 : IntKind.u64.wrap ((x3 : Int) + (x3 : Int) / 256) = (x4 : Int)) (f10 : IntKind.u64.wrap ((x4 : Int) + (x4 : Int) / 65536) = (x5 : Int)) (f11 : IntKind.u64.wrap ((x5 : Int) + (x5 : Int) / 4294967296) = (x6 : Int))
    (f12 : IntKind.i64.wrap (x6 : Int) = (x6 : Int)) (f13 : bits BinOp.and IntKind.i64 (x6 : Int) 127 = (r : Int)) :
    Calls Tryd.prog 105 #[.int .u64 x] w fun e w' => e = .returned (.int .i64 r) ∧ w = w' := by
  go_enter Tryd.func105, Tryd.ntmps105
  go_wp2
  go_ret
  exact ⟨rfl, rfl⟩
theorem ones105 (x : Nat) (hx : x < 18446744073709551616) (w : World) : Calls Tryd.prog 105 #[.int .u64 x] w fun e w' => e = .returned (.int .i64 (popc 64 x : Nat)) ∧ w = w' := by
  obtain ⟨a, b, c, d, e, f, g, k, ha, hb, hc, hd, he, hf, hg, hk, hs, hp, l1, l2, l3⟩ := swar x hx
  obtain ⟨x4, x5, x6, e4, e5, e6, m4, m5, m6, hm⟩ := swar_sum ha hb hc hd he hf hg hk
  rw [← hs] at e4
  have n1 : x / 2 < 18446744073709551616 := by omega
  have n2 : sw1 x / 4 < 18446744073709551616 := by omega
  have c2 : ∀ (n m : Nat), ((n : Int) / ((m : Nat) : Int)) = ((n / m : Nat) : Int) := fun n m => rfl
  refine ones_core x (x / 2 &&& 6148914691236517205) (x &&& 6148914691236517205) (sw1 x) (sw1 x / 4 &&& 3689348814741910323) (sw1 x &&& 3689348814741910323) (sw2 (sw1 x)) (sw2 (sw1 x) / 16 + sw2 (sw1 x)) (sw3 (sw2 (sw1 x))) x4 x5 x6 (popc 64 x) w
    (bits_and_u64_nat (x / 2) 6148914691236517205 n1 (by decide)) (bits_and_u64_nat x 6148914691236517205 hx (by decide)) ?_ (bits_and_u64_nat (sw1 x / 4) 3689348814741910323 n2 (by decide)) (bits_and_u64_nat (sw1 x) 3689348814741910323 l1 (by decide)) ?_ ?_
    (bits_and_u64_nat (sw2 (sw1 x) / 16 + sw2 (sw1 x)) 1085102592571150095 l3 (by decide)) ?_ ?_ ?_ ?_ ?_
  · rw [wrap_u64_fits _ (by omega) (by have : sw1 x = _ := rfl; unfold sw1 at l1; omega)]; rfl
  · rw [wrap_u64_fits _ (by omega) (by unfold sw2 at l2; omega)]; rfl
  · rw [wrap_u64_fits _ (by omega) (by omega)]; rfl
  · rw [wrap_u64_fits _ (by omega) (by omega)]; omega
  · rw [wrap_u64_fits _ (by omega) (by omega)]; omega
  · rw [wrap_u64_fits _ (by omega) (by omega)]; omega
  · exact IntWalk.i64_in _ (by omega)
  · rw [i64_and127, ← hp] at *
    omega
/-- The table of the library. -/
def TabAt13 (w : World) : Prop := ∀ j, j < Lib.deBruijn64tab.length → w.cell? ⟨13, j, none⟩ = some (.int .u8 (Lib.deBruijn64tab.getD j 0))
theorem TabAt13.below {w w' : World} (h : TabAt13 w) (k : Below w.heap.size w w') : TabAt13 w' := fun j hj => qcell (h j hj) k
set_option maxHeartbeats 1000000 in
theorem tz_core (x k idx : Nat) (w : World) (hx0 : ((x : Int) == 0) = false)
    (key : IntKind.u64.wrap (bits BinOp.and IntKind.u64 (x : Int) (IntKind.u64.wrap (-(x : Int))) * 285870213051353865) / 288230376151711744 = (idx : Int))
    (hi : idx < 64) (hk : k < 64) (hcell : w.cell? ⟨13, idx, none⟩ = some (.int .u8 k)) :
    Calls Tryd.prog 106 #[.int .u64 x] w fun e w' => e = .returned (.int .i64 k) ∧ w = w' := by
  go_enter Tryd.func106, Tryd.ntmps106
  go_wp2_with (simp only [key])
  go_ret
  exact ⟨rfl, rfl⟩
theorem tz_key (x a : Nat) (hx : x < 18446744073709551616) (hx0 : x ≠ 0) (hlow : x &&& (18446744073709551616 - x) = a) :
    IntKind.u64.wrap (bits BinOp.and IntKind.u64 (x : Int) (IntKind.u64.wrap (-(x : Int))) * 285870213051353865) / 288230376151711744 = ((a * 285870213051353865 % 18446744073709551616 / 288230376151711744 : Nat) : Int) := by
  have e1 : IntKind.u64.wrap (-(x : Int)) = ((18446744073709551616 - x : Nat) : Int) := by rw [IntKind.wrap_u64]; omega
  rw [e1, bits_and_u64_nat x _ hx (by omega), hlow, IntKind.wrap_u64]
  omega
/-- TrailingZeros64, of a number that is not 0. -/
theorem tz106 (x : Nat) (hx : x < 18446744073709551616) (hx0 : x ≠ 0) (w : World) (hT : TabAt13 w) : Calls Tryd.prog 106 #[.int .u64 x] w fun e w' => e = .returned (.int .i64 (Lib.ctz 64 x : Nat)) ∧ w = w' := by
  obtain ⟨hlow, hk⟩ := Lib.lowest_bit 64 x hx0 hx
  obtain ⟨hi, htab⟩ := Lib.deBruijn64_at _ hk
  have hc := hT _ (show _ < Lib.deBruijn64tab.length from hi)
  rw [htab] at hc
  exact tz_core x _ _ w (by simpa using hx0) (tz_key x _ hx hx0 hlow) hi hk hc
theorem pow_u64 (j : Nat) (hj : j < 64) : IntKind.u64.wrap ((2 : Int) ^ j) = ((2 ^ j : Nat) : Int) := by
  have h1 : (2 : Nat) ^ j < 18446744073709551616 := Nat.lt_of_lt_of_le (Nat.pow_lt_pow_right (by decide) hj) (by decide)
  have h2 : ((2 : Int) ^ j) = ((2 ^ j : Nat) : Int) := by simp
  rw [h2]
  generalize (2 : Nat) ^ j = q at h1
  rw [wrap_u64_fits _ (by omega) (by omega)]
set_option maxHeartbeats 1000000 in
theorem bit98 (i : Nat) (hi : i ≤ 1048576) (w : World) : Calls Tryd.prog 98 #[.int .i64 i] w fun e w' => e = .returned (.tuple #[.int .i64 ((i / 64 : Nat) : Int), .int .u64 ((2 ^ (i % 64) : Nat) : Int)]) ∧ Below w.heap.size w w' := by
  have hm : i % 64 < 64 := Nat.mod_lt _ (by decide)
  have h0 : 0 ≤ (i : Int) := by omega
  go_enter Tryd.func98, Tryd.ntmps98
  go_wp2
  refine xt_region (by kernel_rfl) (by kernel_rfl) ?_
  repeat (go_big_quiet_step (fail))
  refine wpQuiet_nil ?_
  intro _ hw'
  obtain ⟨m, rfl⟩ := hw'
  go_wp2
  go_ret2
  exact ⟨by rw [pow_u64 _ hm]; rfl, xt_below w m⟩
end Go.Proofs.YtdkailccfcijiaaDoor
