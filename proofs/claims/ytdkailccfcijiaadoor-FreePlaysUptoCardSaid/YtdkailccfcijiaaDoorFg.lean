/- The free map gives out the lowest free pages: Take, where there are enough. No condition but the sizes and the library's table. -/
import Derived.Test.YtdkailccfcijiaaDoorFf
namespace Go.Proofs.YtdkailccfcijiaaDoor
open Go.RowKit Go.Shelf
set_option linter.unusedVariables false
set_option linter.unusedSimpArgs false
set_option maxRecDepth 100000

set_option maxHeartbeats 4000000 in
theorem take68_ok {w0 w : World} {L : List Chunk} {p g pages : Nat} {ws : List Nat} (hT : TabAt13 w0) (S : Sep w0 w (fm p g pages ws :: L)) (hok : FmOk pages ws) (n : Nat) (hn : n ≤ freeN ws) :
    Calls Tryd.prog 68 #[.pointer (some ⟨p, 0, none⟩), .int .i64 n] w fun e w' => ∃ v, e = .returned (.tuple #[v, .nilIface]) ∧ Sep w0 w' (row IT v (ints (takeR n ws).1) :: fm p g pages (takeR n ws).2 :: L) := by
  have HF := Lib.hid (free63 S hok)
  have HS := Lib.hid S
  have HT := Lib.hid hT
  have HA := Lib.hid (TakeAt.start hok hn)
  have hlen : ws.length ≤ 16384 := by have h1 := hok.len; have h2 := hok.hi; omega
  have hfl := freeN_le ws
  have hmo : Tryd.prog.follows .mixedOrders = true := by kernel_rfl
  have hn2 : n ≤ 1048576 := by omega
  have h0 : 0 ≤ (n : Int) := by omega
  clear S hok hT
  generalize hfr : freeN ws = fr at hn HF
  clear hfl hfr
  refine (callsIn_wide (n := 3)).1 ?_
  refine callsIn_of_wp Tryd.func68 rfl trivial ?_ rfl
  simp only [Tryd.ntmps68, List.size_toArray, List.length_cons, List.length_nil, Nat.reduceAdd, Nat.reduceSub, Array.replicate_succ, Array.replicate_zero, List.push_toArray, List.append_toArray, List.nil_append, List.cons_append]
  have hgt : decide ((fr : Int) < (n : Int)) = false := by simp; omega
  have hgt2 : decide (fr < n) = false := by simp; omega
  gi_wp2_with fail
  refine ⟨trivial, (callsIn_wide.2 HF.out).mono ?_⟩
  rintro e w1 ⟨rfl, hw1⟩
  have H1 := Lib.hid (HS.out.step hw1)
  clear hw1
  gi_wp2_with (gi_at_make; refine mkIn_sep elemI rfl (.const (.int .i64 0)) (.tmp 17) rfl .i64 .i64 n rfl rfl (by omega) (by unfold maxLen; omega) H1.out ?_; intro v0 W0 S0)
  have HS0 := Lib.hid S0
  clear S0
  obtain ⟨a0, c0, e0, _, _, _⟩ := Sep.rdv HS0.out (.head _)
  replace e0 : v0 = .slice a0 0 c0 := e0
  subst e0
  gi_loopw [6, 7, 8] (fun t6 t7 _ wr => ∃ (k i : Nat) (a : Option Addr) (c : Nat) (out ws2 : List Nat), t6 = .slice a k c ∧ t7 = .int .i64 i ∧ i ≤ 16384 ∧ k ≤ n ∧ Hid (k = out.length) ∧ Hid (TakeAt pages n ws i out ws2) ∧ Hid (Sep w0 wr (row IT (.slice a k c) (ints out) :: fm p g pages ws2 :: L))) (fun t6 t7 _ _ => (n - lenV t6) * 20000 + (20000 - (intOf t7).toNat))
  case atStart =>
    exact ⟨0, 0, a0, c0, [], ws, rfl, rfl, by omega, by omega, rfl, HA.out, HS0.out⟩
  case round =>
    obtain ⟨k, i, a, c, out, ws2, rfl, rfl, hi, hk, hkl, hA, hS⟩ := hrel
    rcases Nat.lt_or_ge k n with hlt | hge
    · have hl2 : out.length < n := by have := hkl.out; omega
      have hiw := hA.out.word hl2
      have hwl : ws2.length ≤ 16384 := by have h1 := hA.out.ok.len; have h2 := hA.out.ok.hi; omega
      have hx : ws2[i]? = some ws2[i] := List.getElem?_eq_getElem hiw
      have hw := hA.out.ok.word _ (List.getElem_mem hiw)
      generalize ws2[i] = x at hx hw
      have HX := Lib.hid hx
      have d1 := fm_cell1 (Sep.up1 hS.out)
      have dx := fm_word (Sep.up1 hS.out) hx
      generalize hgl : ws2.length = nl at d1 hiw hwl
      have HGL := Lib.hid hgl
      have HL2 := Lib.hid hl2
      clear hx hgl hl2
      by_cases hfull : x = 18446744073709551615
      · subst hfull
        have hA2 := Lib.hid (hA.out.skip HX.out)
        gi_wp2
        go_roundw
        case rel => exact ⟨k, i + 1, a, c, out, ws2, rfl, by go_num, by omega, hk, hkl.out, hA2.out, hS.out⟩
        case measure => simp [intOf, lenV]; omega
      · have hA2 := Lib.hid (hA.out.put HL2.out HX.out hw hfull)
        have hq := (low_bit hw hfull).1
        have hne : ((x : Int) == 18446744073709551615) = false := by simp; omega
        have hnx := not64 x hw
        have ho : ∀ W, TabAt13 W → Calls Tryd.prog 106 #[.int .u64 ((18446744073709551615 - x : Nat) : Int)] W fun e w' => e = .returned (.int .i64 (Lib.ctz 64 (18446744073709551615 - x) : Nat)) ∧ W = w' := fun W hW => tz106 (18446744073709551615 - x) (by omega) (by omega) W hW
        generalize Lib.ctz 64 (18446744073709551615 - x) = q at hA2 hq ho
        generalize 18446744073709551615 - x = nx at hnx ho
        have HO := Lib.hid (ho wr (HT.out.below hS.out.below))
        clear ho
        have hp : (2 : Nat) ^ q < 18446744073709551616 := Nat.lt_of_lt_of_le (Nat.pow_lt_pow_right (by decide) hq) (by decide)
        have hor := bits_or_u64_nat x (2 ^ q) hw hp
        have hpow := pow_u64 q hq
        have hv : ((64 * i + q : Nat) : Int) = (i : Int) * 64 + (q : Int) := by omega
        generalize (2 : Nat) ^ q = bb at hp hor hpow hA2
        generalize x ||| bb = ob at hor hA2
        gi_wp2_with fail
        refine ⟨trivial, (callsIn_wide.2 HO.out).mono ?_⟩
        rintro e w2 ⟨rfl, rfl⟩
        gi_wp2
        have HD := Lib.hid hS.out.drew
        clear d1 dx
        have d1 := fm_cell1 (Sep.up1 HD.out)
        have dx := fm_word (Sep.up1 HD.out) HX.out
        have fx := fm_free (Sep.up1 HD.out) i
        rw [HGL.out] at d1
        have x1 := kt_cell (K := fun _ => True) d1 trivial
        have x2 := kt_cell (K := fun _ => True) dx trivial
        refine mixed_region (fun _ => True) [0, 1, 2, 3, 4, 5, 6, 7, 8, 9, 10] [] _ _ _ hmo (by kernel_rfl) (by kernel_rfl) (Eq.refl _) rfl (Eq.refl _) rfl rfl ?_
        simp only [List.filterMap_cons, List.filterMap_nil, List.getElem?_cons_succ, List.getElem?_cons_zero]
        change wpQuietIn _ _ _ _ _ _ (_ :: _ :: _ :: _ :: _ :: _ :: _ :: _ :: _ :: _ :: _ :: []) _
        gi_big_quiet_want
        gi_big_quiet_op
        go_big_quiet_on
        repeat (gi_big_quiet_step (fail))
        refine wpQuietIn_nil ?_
        simp only [wpWrites, Act.put, List.setIfInBounds_toArray, List.set_cons_succ, List.set_cons_zero]
        generalize wr.drew = W1 at HD d1 dx fx ⊢
        clear x1 x2
        have HE := Lib.hid (Sep.down [row IT (.slice a k c) (ints out)] (fm_set (Sep.up1 HD.out) i ob))
        have hb8 : ((ints out).length + 1) * 8 ≤ 140737488355328 := by have := hkl.out; simp only [ints, List.length_map]; omega
        gi_wp2_with (gi_at_builtin; refine appIn_sep elemI rfl (.tmp 53) (.tmp 58) rfl (.slice a k c) (ints out) rfl (HE.out.alloc _) _ 1 1 [(i : Int) * 64 + (q : Int)] rfl (rd_new2 IT _ ((i : Int) * 64 + (q : Int)) _ rfl 3 W1.heap.size (by simp)) hb8 ?_; intro v2 W2 S5 hk5)
        have he2 : ints out ++ [(i : Int) * 64 + (q : Int)] = ints (out ++ [64 * i + q]) := by unfold ints; rw [List.map_append, List.map_singleton, hv]
        rw [he2] at S5
        obtain ⟨a5, c5, e5, _, _, _⟩ := Sep.rdv S5 (.head _)
        have hl5 : (ints (out ++ [64 * i + q])).length = k + 1 := by have := hkl.out; simp [ints]; omega
        rw [hl5] at e5
        subst e5
        have HS5 := Lib.hid S5
        clear S5 hk5 hl5 he2
        go_roundw
        case rel =>
          exact ⟨k + 1, i, a5, c5, out ++ [64 * i + q], ws2.set i ob, rfl, rfl, hi, hlt, (by have := hkl.out; show k + 1 = _; rw [List.length_append, List.length_singleton]; omega), hA2.out, HS5.out⟩
        case measure => simp [intOf, lenV]; omega
    · have hdone := hA.out.done (by have := hkl.out; omega)
      obtain ⟨e1, e2⟩ := hdone
      have hS2 := hS.out
      rw [e1, e2] at hS2
      have HS2 := Lib.hid hS2
      clear e1 e2 hS2
      gi_wp2
      refine bodyPost_ret (v := .tuple #[.slice a k c, .nilIface]) (by simp [results, Tryd.results68, go_sem]) rfl ⟨.slice a k c, rfl, HS2.out⟩
end Go.Proofs.YtdkailccfcijiaaDoor
