/- How many bits a word of 64 bits has: what the sums over halves come to. Plain laws of numbers. -/
import Derived.Test.YtdkailccfcijiaaDoorPm
namespace Go.Proofs.YtdkailccfcijiaaDoor
set_option linter.unusedVariables false
set_option linter.unusedSimpArgs false

/-- How many of the lowest n bits of x are set. -/
def popc : Nat → Nat → Nat
  | 0, _ => 0
  | n + 1, x => x % 2 + popc n (x / 2)
theorem popc_le (n x : Nat) : popc n x ≤ n := by
  induction n generalizing x with
  | zero => exact Nat.le_refl _
  | succ n ih => simp only [popc]; have := ih (x / 2); omega
theorem popc_count (n x : Nat) : popc n x = ((List.range n).filter fun j => x.testBit j).length := by
  induction n generalizing x with
  | zero => rfl
  | succ n ih =>
    rw [popc, ih, List.range_succ_eq_map, List.filter_cons]
    have h : (List.filter (fun j => x.testBit j) (List.map Nat.succ (List.range n))).length = ((List.range n).filter fun j => (x / 2).testBit j).length := by
      rw [List.filter_map, List.length_map]
      congr 1
      apply List.filter_congr
      intro j _
      simp [Function.comp, Nat.testBit_succ]
    rw [Nat.testBit_zero]
    by_cases h2 : x % 2 = 1
    · simp only [h2, decide_true, if_true, List.length_cons, h]; omega
    · have : x % 2 = 0 := by omega
      simp only [this]
      simp
      exact h.symm
theorem popc_add (m n a y : Nat) (h : a < 2 ^ m) : popc (m + n) (a + 2 ^ m * y) = popc m a + popc n y := by
  induction m generalizing a with
  | zero =>
    obtain rfl : a = 0 := by simpa using h
    simp [popc]
  | succ m ih =>
    rw [Nat.succ_add]
    simp only [popc]
    have e0 : 2 ^ (m + 1) * y = 2 * (2 ^ m * y) := by rw [Nat.pow_succ, Nat.mul_comm (2 ^ m) 2, Nat.mul_assoc]
    have e1 : (a + 2 ^ (m + 1) * y) % 2 = a % 2 := by rw [e0]; omega
    have e2 : (a + 2 ^ (m + 1) * y) / 2 = a / 2 + 2 ^ m * y := by
      rw [e0]
      omega
    rw [e1, e2, ih (a / 2) (by rw [Nat.pow_succ] at h; omega)]
    omega
theorem and_split (p q r s : Nat) (hp : p < 256) (hr : r < 256) : (p + 256 * q) &&& (r + 256 * s) = (p &&& r) + 256 * (q &&& s) := by
  have hpr : p &&& r < 2 ^ 8 := Nat.and_lt_two_pow _ (by simpa using hr)
  apply Nat.eq_of_testBit_eq
  intro i
  have e : ∀ u v : Nat, u < 2 ^ 8 → (u + 256 * v).testBit i = if i < 8 then u.testBit i else v.testBit (i - 8) := by
    intro u v hu
    rw [Nat.add_comm, show 256 * v = 2 ^ 8 * v by omega, Nat.testBit_two_pow_mul_add _ hu]
  rw [Nat.testBit_and, e p q (by simpa using hp), e r s (by simpa using hr), e _ _ hpr]
  split <;> simp [Nat.testBit_and]
/-- Bytes, the lowest first. -/
def ofB : List Nat → Nat
  | [] => 0
  | a :: l => a + 256 * ofB l
def mk (m : Nat) : Nat → Nat
  | 0 => 0
  | n + 1 => m + 256 * mk m n
def g1 (a : Nat) : Nat := (a / 2 &&& 85) + (a &&& 85)
def g2 (a : Nat) : Nat := (a / 4 &&& 51) + (a &&& 51)
def g3 (a : Nat) : Nat := (a / 16 + a) &&& 15
theorem low1 : ∀ a, a < 256 → ∀ b, b < 2 → (a / 2 + 128 * b) &&& 85 = a / 2 &&& 85 := by decide +kernel
theorem low2 : ∀ a, a < 256 → ∀ b, b < 4 → (a / 4 + 64 * b) &&& 51 = a / 4 &&& 51 := by decide +kernel
theorem low3 : ∀ a, a < 256 → a % 16 ≤ 4 → a / 16 ≤ 4 → ∀ b, b < 5 → (a / 16 + 16 * b + a) &&& 15 = g3 a := by decide +kernel
theorem step1 : ∀ (l : List Nat), (∀ a ∈ l, a < 256) → ((ofB l / 2) &&& mk 85 l.length) + (ofB l &&& mk 85 l.length) = ofB (l.map g1)
  | [], _ => rfl
  | a :: l, h => by
    have ha := h a List.mem_cons_self
    have ih := step1 l fun b hb => h b (List.mem_cons_of_mem _ hb)
    simp only [ofB, List.length_cons, mk, List.map_cons]
    generalize ofB l = y at *
    generalize mk 85 l.length = M at *
    rw [show (a + 256 * y) / 2 = (a / 2 + 128 * (y % 2)) + 256 * (y / 2) by omega, and_split _ _ _ _ (by omega) (by omega), and_split _ _ _ _ ha (by omega), low1 a ha _ (by omega), ← ih]
    unfold g1
    omega
theorem step2 : ∀ (l : List Nat), (∀ a ∈ l, a < 256) → ((ofB l / 4) &&& mk 51 l.length) + (ofB l &&& mk 51 l.length) = ofB (l.map g2)
  | [], _ => rfl
  | a :: l, h => by
    have ha := h a List.mem_cons_self
    have ih := step2 l fun b hb => h b (List.mem_cons_of_mem _ hb)
    simp only [ofB, List.length_cons, mk, List.map_cons]
    generalize ofB l = y at *
    generalize mk 51 l.length = M at *
    rw [show (a + 256 * y) / 4 = (a / 4 + 64 * (y % 4)) + 256 * (y / 4) by omega, and_split _ _ _ _ (by omega) (by omega), and_split _ _ _ _ ha (by omega), low2 a ha _ (by omega), ← ih]
    unfold g2
    omega
theorem ofB_mod16 : ∀ (l : List Nat), (∀ a ∈ l, a % 16 ≤ 4) → ofB l % 16 < 5
  | [], _ => by decide
  | a :: l, h => by
    have := h a List.mem_cons_self
    simp only [ofB]
    omega
theorem step3 : ∀ (l : List Nat), (∀ a ∈ l, a < 256 ∧ a % 16 ≤ 4 ∧ a / 16 ≤ 4) → (ofB l / 16 + ofB l) &&& mk 15 l.length = ofB (l.map g3)
  | [], _ => rfl
  | a :: l, h => by
    obtain ⟨ha, h1, h2⟩ := h a List.mem_cons_self
    have ih := step3 l fun b hb => h b (List.mem_cons_of_mem _ hb)
    have hy := ofB_mod16 l fun b hb => (h b (List.mem_cons_of_mem _ hb)).2.1
    simp only [ofB, List.length_cons, mk, List.map_cons]
    generalize ofB l = y at *
    generalize mk 15 l.length = M at *
    rw [show (a + 256 * y) / 16 + (a + 256 * y) = (a / 16 + 16 * (y % 16) + a) + 256 * (y / 16 + y) by omega, and_split _ _ _ _ (by omega) (by omega), low3 a ha h1 h2 _ hy, ih]
theorem byte1 : ∀ a, a < 256 → g1 a < 256 := by decide +kernel
theorem byte2 : ∀ a, a < 256 → g2 (g1 a) < 256 ∧ g2 (g1 a) % 16 ≤ 4 ∧ g2 (g1 a) / 16 ≤ 4 := by decide +kernel
theorem byte3 : ∀ a, a < 256 → g3 (g2 (g1 a)) = popc 8 a ∧ g3 (g2 (g1 a)) ≤ 8 := by decide +kernel
/-- The eight bytes of a word. -/
theorem eight (x : Nat) (h : x < 18446744073709551616) : ∃ a b c d e f g k, a < 256 ∧ b < 256 ∧ c < 256 ∧ d < 256 ∧ e < 256 ∧ f < 256 ∧ g < 256 ∧ k < 256 ∧ x = ofB [a, b, c, d, e, f, g, k] :=
  ⟨x % 256, x / 256 % 256, x / 65536 % 256, x / 16777216 % 256, x / 4294967296 % 256, x / 1099511627776 % 256, x / 281474976710656 % 256, x / 72057594037927936, by omega, by omega, by omega, by omega, by omega, by omega, by omega, by omega, by simp only [ofB]; omega⟩
def sw1 (x : Nat) : Nat := (x / 2 &&& 6148914691236517205) + (x &&& 6148914691236517205)
def sw2 (x : Nat) : Nat := (x / 4 &&& 3689348814741910323) + (x &&& 3689348814741910323)
def sw3 (x : Nat) : Nat := (x / 16 + x) &&& 1085102592571150095
/-- What the three steps come to: the eight counts. -/
theorem swar (x : Nat) (h : x < 18446744073709551616) : ∃ a b c d e f g k, a ≤ 8 ∧ b ≤ 8 ∧ c ≤ 8 ∧ d ≤ 8 ∧ e ≤ 8 ∧ f ≤ 8 ∧ g ≤ 8 ∧ k ≤ 8 ∧ sw3 (sw2 (sw1 x)) = ofB [a, b, c, d, e, f, g, k] ∧ popc 64 x = a + b + c + d + e + f + g + k ∧
    sw1 x < 18446744073709551616 ∧ sw2 (sw1 x) < 18446744073709551616 ∧ sw2 (sw1 x) / 16 + sw2 (sw1 x) < 18446744073709551616 := by
  obtain ⟨a, b, c, d, e, f, g, k, ha, hb, hc, hd, he, hf, hg, hk, rfl⟩ := eight x h
  have hl : ∀ z ∈ [a, b, c, d, e, f, g, k], z < 256 := by
    intro z hz
    simp only [List.mem_cons, List.not_mem_nil, or_false] at hz
    rcases hz with rfl | rfl | rfl | rfl | rfl | rfl | rfl | rfl <;> assumption
  generalize hL : [a, b, c, d, e, f, g, k] = L at hl h
  have hlen : L.length = 8 := by rw [← hL]; rfl
  have e1 : sw1 (ofB L) = ofB (L.map g1) := by
    have := step1 L hl
    rw [hlen] at this
    exact this
  have hl1 : ∀ z ∈ L.map g1, z < 256 := by
    intro z hz
    obtain ⟨u, hu, rfl⟩ := List.mem_map.1 hz
    exact byte1 u (hl u hu)
  have e2 : sw2 (ofB (L.map g1)) = ofB ((L.map g1).map g2) := by
    have := step2 _ hl1
    rw [List.length_map, hlen] at this
    exact this
  have hl2 : ∀ z ∈ (L.map g1).map g2, z < 256 ∧ z % 16 ≤ 4 ∧ z / 16 ≤ 4 := by
    intro z hz
    rw [List.map_map] at hz
    obtain ⟨u, hu, rfl⟩ := List.mem_map.1 hz
    exact byte2 u (hl u hu)
  have e3 : sw3 (ofB ((L.map g1).map g2)) = ofB (((L.map g1).map g2).map g3) := by
    have := step3 _ hl2
    rw [List.length_map, List.length_map, hlen] at this
    exact this
  have small : ∀ (l : List Nat), (∀ z ∈ l, z < 256) → ofB l < 256 ^ l.length := by
    intro l
    induction l with
    | nil => intro _; decide
    | cons z l ih =>
      intro hz
      have h1 := hz z List.mem_cons_self
      have h2 := ih fun u hu => hz u (List.mem_cons_of_mem _ hu)
      simp only [ofB, List.length_cons, Nat.pow_succ]
      omega
  have small2 : ∀ (l : List Nat), (∀ z ∈ l, z ≤ 68) → ofB l ≤ 68 * ofB (l.map fun _ => 1) := by
    intro l
    induction l with
    | nil => intro _; decide
    | cons z l ih =>
      intro hz
      have h1 := hz z List.mem_cons_self
      have h2 := ih fun u hu => hz u (List.mem_cons_of_mem _ hu)
      simp only [ofB, List.map_cons]
      omega
  rw [e1, e2, e3]
  have s1 := small _ hl1
  rw [List.length_map, hlen] at s1
  have s2 := small2 ((L.map g1).map g2) (fun z hz => by have := hl2 z hz; omega)
  have hone : ofB (((L.map g1).map g2).map fun _ => 1) = 72340172838076673 := by
    rw [← hL]
    simp [ofB]
  rw [hone] at s2
  have hpop : popc 64 (ofB L) = popc 8 a + popc 8 b + popc 8 c + popc 8 d + popc 8 e + popc 8 f + popc 8 g + popc 8 k := by
    rw [← hL]
    simp only [ofB]
    have q : ∀ (n z y : Nat), z < 256 → popc (8 + n) (z + 256 * y) = popc 8 z + popc n y := fun n z y hz => popc_add 8 n z y hz
    have q1 := q 56 a (ofB [b, c, d, e, f, g, k]) ha
    have q2 := q 48 b (ofB [c, d, e, f, g, k]) hb
    have q3 := q 40 c (ofB [d, e, f, g, k]) hc
    have q4 := q 32 d (ofB [e, f, g, k]) hd
    have q5 := q 24 e (ofB [f, g, k]) he
    have q6 := q 16 f (ofB [g, k]) hf
    have q7 := q 8 g (ofB [k]) hg
    simp only [ofB, Nat.mul_zero, Nat.add_zero, Nat.reduceAdd] at q1 q2 q3 q4 q5 q6 q7 ⊢
    rw [q1, q2, q3, q4, q5, q6, q7]
    simp only [Nat.add_assoc]
  refine ⟨popc 8 a, popc 8 b, popc 8 c, popc 8 d, popc 8 e, popc 8 f, popc 8 g, popc 8 k, ?_, ?_, ?_, ?_, ?_, ?_, ?_, ?_, ?_, hpop, by omega, by omega, by omega⟩
  all_goals first | exact popc_le 8 _ | skip
  rw [← hL]
  simp only [List.map_cons, List.map_nil]
  rw [(byte3 a ha).1, (byte3 b hb).1, (byte3 c hc).1, (byte3 d hd).1, (byte3 e he).1, (byte3 f hf).1, (byte3 g hg).1, (byte3 k hk).1]
theorem sL1 {x a y b z : Nat} (h0 : x = a + 256 * y) (h1 : y = b + 256 * z) (ha : a ≤ 8) : x + x / 256 = (a + b) + 256 * (y + z) := by omega
theorem sL3 {x p z q u : Nat} (h0 : x = p + 256 * z) (h1 : z = q + 256 * u) (hp : p ≤ 16) (hq : q ≤ 16) : x / 65536 = u := by omega
theorem sL5 {x r0 u1 r1 u2 r2 u3 r3 u4 : Nat} (h0 : x = r0 + 256 * u1) (h1 : u1 = r1 + 256 * u2) (h2 : u2 = r2 + 256 * u3) (h3 : u3 = r3 + 256 * u4) (b0 : r0 ≤ 32) (b1 : r1 ≤ 32) (b2 : r2 ≤ 32) (b3 : r3 ≤ 32) : x / 4294967296 = u4 := by
  have e : x = (r0 + 256 * r1 + 65536 * r2 + 16777216 * r3) + 4294967296 * u4 := by omega
  clear h0 h1 h2 h3
  omega
theorem sLin {y c z u p q : Nat} (h0 : y = c + 256 * z) (h2 : u = p + 256 * q) : y + u = (c + p) + 256 * (z + q) := by omega
theorem sBound {x a y B : Nat} (h0 : x = a + 256 * y) (ha : a ≤ 8) (hy : y ≤ B) : x ≤ 8 + 256 * B := by omega
theorem sTwice {x m : Nat} : x + x / m ≤ 2 * x := by
  have := Nat.div_le_self x m
  omega
theorem sLess {x4 x B : Nat} (h : x4 ≤ 2 * x) (hx : x ≤ B) : x4 ≤ 2 * B := by omega
theorem sMod {x s t : Nat} (h : x = s + 256 * t) (hs : s ≤ 64) : x % 128 = s := by omega
theorem swar_sum {a b c d e f g k : Nat} (ha : a ≤ 8) (hb : b ≤ 8) (hc : c ≤ 8) (hd : d ≤ 8) (he : e ≤ 8) (hf : f ≤ 8) (hg : g ≤ 8) (hk : k ≤ 8) :
    ∃ x4 x5 x6, ofB [a, b, c, d, e, f, g, k] + ofB [a, b, c, d, e, f, g, k] / 256 = x4 ∧ x4 + x4 / 65536 = x5 ∧ x5 + x5 / 4294967296 = x6 ∧ x4 < 9223372036854775808 ∧ x5 < 9223372036854775808 ∧ x6 < 9223372036854775808 ∧ x6 % 128 = a + b + c + d + e + f + g + k := by
  have bd : ∀ {u v}, u ≤ 8 → v ≤ 8 → u + v ≤ 16 := fun h1 h2 => Nat.add_le_add h1 h2
  have bq : ∀ {u v s t}, u ≤ 8 → v ≤ 8 → s ≤ 8 → t ≤ 8 → (u + v) + (s + t) ≤ 32 := fun h1 h2 h3 h4 => Nat.add_le_add (bd h1 h2) (bd h3 h4)
  have e0 : ofB [a, b, c, d, e, f, g, k] = a + 256 * ofB [b, c, d, e, f, g, k] := rfl
  have e1 : ofB [b, c, d, e, f, g, k] = b + 256 * ofB [c, d, e, f, g, k] := rfl
  have e2 : ofB [c, d, e, f, g, k] = c + 256 * ofB [d, e, f, g, k] := rfl
  have e3 : ofB [d, e, f, g, k] = d + 256 * ofB [e, f, g, k] := rfl
  have e4 : ofB [e, f, g, k] = e + 256 * ofB [f, g, k] := rfl
  have e5 : ofB [f, g, k] = f + 256 * ofB [g, k] := rfl
  have e6 : ofB [g, k] = g + 256 * ofB [k] := rfl
  have e7 : ofB [k] = k + 256 * 0 := rfl
  generalize ofB [a, b, c, d, e, f, g, k] = x at e0 ⊢
  generalize ofB [b, c, d, e, f, g, k] = y1 at e0 e1
  generalize ofB [c, d, e, f, g, k] = y2 at e1 e2
  generalize ofB [d, e, f, g, k] = y3 at e2 e3
  generalize ofB [e, f, g, k] = y4 at e3 e4
  generalize ofB [f, g, k] = y5 at e4 e5
  generalize ofB [g, k] = y6 at e5 e6
  generalize ofB [k] = y7 at e6 e7
  have hx := sBound e0 ha (sBound e1 hb (sBound e2 hc (sBound e3 hd (sBound e4 he (sBound e5 hf (sBound e6 hg (sBound e7 hk (Nat.le_refl 0))))))))
  have p0 := sL1 e0 e1 ha
  have p1 := sLin e1 e2
  have p2 := sLin e2 e3
  have p3 := sLin e3 e4
  have p4 := sLin e4 e5
  have p5 := sLin e5 e6
  have p6 := sLin e6 e7
  have p7 : y7 + 0 = (k + 0) + 256 * (0 + 0) := sLin e7 (show 0 = 0 + 256 * 0 from rfl)
  have d2 := sL3 p0 p1 (bd ha hb) (bd hb hc)
  have q0 := sLin p0 p2
  have q1 := sLin p1 p3
  have q2 := sLin p2 p4
  have q3 := sLin p3 p5
  have q4 := sLin p4 p6
  have q5 := sLin p5 p7
  have d3 := sL5 q0 q1 q2 q3 (bq ha hb hc hd) (bq hb hc hd he) (bq hc hd he hf) (bq hd he hf hg)
  have s0 := sLin q0 q4
  have b4 : x + x / 256 ≤ 2 * _ := sLess sTwice hx
  have b5 : (x + x / 256) + (x + x / 256) / 65536 ≤ 2 * _ := sLess sTwice b4
  have b6 : ((x + x / 256) + (x + x / 256) / 65536) + ((x + x / 256) + (x + x / 256) / 65536) / 4294967296 ≤ 2 * _ := sLess sTwice b5
  have m := sMod s0 (Nat.add_le_add (bq ha hb hc hd) (bq he hf hg hk))
  refine ⟨_, _, _, rfl, rfl, rfl, Nat.lt_of_le_of_lt b4 (by decide), Nat.lt_of_le_of_lt b5 (by decide), Nat.lt_of_le_of_lt b6 (by decide), ?_⟩
  rw [d2, d3, m]
  simp only [Nat.add_assoc]
end Go.Proofs.YtdkailccfcijiaaDoor
