/- The free map made anew: New. No condition but that the errors are laid. -/
import Derived.Test.YtdkailccfcijiaaDoorFc
import Derived.Deep.RegionWith
import Derived.Deep.RegionHeld3
import Derived.Deep.DeepCutAuto
import Derived.Sort.CutIn
import Derived.Test.YtdkailccfcijiaaDoorRm
namespace Go.Proofs.YtdkailccfcijiaaDoor
open Go.RowKit Go.Shelf
set_option linter.unusedVariables false
set_option linter.unusedSimpArgs false
set_option maxRecDepth 100000

theorem info54 : (Tryd.prog.info? 54).map (fun i => (i.zero, i.size, i.bytes)) = some (some (.int .u64 0), 1, 8) := by kernel_rfl
theorem made_words (n : Nat) : madeCells (Value.int .u64 0).cells (n * 1) = ((List.replicate n 0).map wordV).toArray := by
  apply Array.ext
  · simp [madeCells]
  · intro i h1 h2
    simp [madeCells, wordV, Value.cells, Nat.mod_one]
theorem run_words (W : World) (kl kc : IntKind) (n : Nat) (hn : n ≤ 16777216) : (Instr.makeSlice 151 (.int kl n) (.int kc n)).run Tryd.prog W = .ok (.slice (some ⟨W.heap.size, 0, none⟩) n n) (W.alloc (.cells ((List.replicate n 0).map wordV).toArray 54)) := by
  obtain ⟨i, hi, hzz⟩ := Option.map_eq_some_iff.1 info54
  simp only [Prod.mk.injEq] at hzz
  have := run_make (P := Tryd.prog) W 151 54 i (.int .u64 0) Tryd.underlying151 hi hzz.1 kl kc (n : Int) (n : Int) (by omega) (Int.le_refl _) (by rw [hzz.2.2]; omega) (by omega)
  rw [hzz.2.1, Int.toNat_natCast, made_words] at this
  exact this
def zeroWords (n : Nat) : Array Value := ((List.replicate n 0).map wordV).toArray
theorem mk_words {ops : Array Oper} {rest : List Oper} {o : Oper} {a : Act} {w : World} {Q : Exit → Act → World → Prop} (hgd : o.guard = none) (l c : Operand) (ho : o.op = Op.makeSlice 151 l c) (kl kc : IntKind) (L C : Int) (n : Nat) (hl : a.eval l = .int kl L) (hc : a.eval c = .int kc C)
    (hL : L = (n : Int)) (hC : C = (n : Int)) (hn : n ≤ 16777216) (h : wpList Tryd.prog ops Q rest (a.put o.dst (.slice (some ⟨w.heap.size, 0, none⟩) n n)) (w.alloc (.cells (zeroWords n) 54))) : wpList Tryd.prog ops Q (o :: rest) a w := by
  refine wpList_plain hgd fun K hK' => ?_
  subst hL hC
  unfold Oper.wp
  unfold execOp
  simp only [ho, hl, hc, Sem.run_bind, Sem.run_pure, run_words w kl kc n hn, Result.andThen_ok]
  exact hK' _ _ h
theorem mkIn_words {F : Fence} {m : Nat} {ops : Array Oper} {rest : List Oper} {o : Oper} {a : Act} {w : World} {Q : Exit → Act → World → Prop} (hgd : o.guard = none) (l c : Operand) (ho : o.op = Op.makeSlice 151 l c) (kl kc : IntKind) (L C : Int) (n : Nat) (hl : a.eval l = .int kl L) (hc : a.eval c = .int kc C)
    (hL : L = (n : Int)) (hC : C = (n : Int)) (hn : n ≤ 16777216) (h : wpListIn F m Tryd.prog ops Q rest (a.put o.dst (.slice (some ⟨w.heap.size, 0, none⟩) n n)) (w.alloc (.cells (zeroWords n) 54))) : wpListIn F m Tryd.prog ops Q (o :: rest) a w := by
  refine wpListIn_plain hgd fun K hK' => ?_
  subst hL hC
  unfold Oper.wpIn
  refine ⟨by simp [Oper.about, ho], ?_⟩
  rw [Oper.semAt_plain F _ _ (by rw [ho]; intro c hc'; cases hc')]
  unfold execOp
  simp only [ho, hl, hc, Sem.run_bind, Sem.run_pure, run_words w kl kc n hn, Result.andThen_ok]
  exact hK' _ _ h
/-- A map that has just been made. -/
theorem fm_new {w0 w : World} {L : List Chunk} (S : Sep w0 w L) (pages n : Nat) : Sep w0 ((w.alloc (.cells (zeroWords n) 54)).alloc (.cells #[.int .i64 pages, .slice (some ⟨w.heap.size, 0, none⟩) n n] 153)) (fm (w.heap.size + 1) w.heap.size pages (List.replicate n 0) :: L) := by
  refine S.push (qalloc (qalloc (qrefl w) _) _) ⟨by omega, ?_, ?_⟩ (fun i hi => ?_)
  · have := heap_alloc_new (w.alloc (.cells (zeroWords n) 54)) (.cells #[.int .i64 pages, .slice (some ⟨w.heap.size, 0, none⟩) n n] 153)
    simpa using this
  · have h1 := heap_alloc_new w (.cells (zeroWords n) 54)
    have h2 := (qalloc (qrefl (w.alloc (.cells (zeroWords n) 54))) (.cells #[.int .i64 pages, .slice (some ⟨w.heap.size, 0, none⟩) n n] 153)).block w.heap.size (by simp)
    exact h2.trans h1
  · rcases hi with rfl | rfl
    · exact ⟨by omega, by simp⟩
    · exact ⟨Nat.le_refl _, by simp; omega⟩
def newW (pages : Nat) : List Nat :=
  let ws := (List.replicate ((pages + 63) / 64) 0).set 0 3
  if pages % 64 = 0 then ws else ws.set ((pages + 63) / 64 - 1) (ws.getD ((pages + 63) / 64 - 1) 0 ||| (18446744073709551616 - 2 ^ (pages % 64)))
set_option maxHeartbeats 2000000 in
theorem new57_no {E : Nat → Addr} {w : World} (hE : Errs all13 E w) (n : Int) (hn : n < 4 ∨ 1048576 < n) : Calls Tryd.prog 57 #[.int .i64 n] w fun e w' => e = .returned (.tuple #[.pointer none, errV E (some 2)]) ∧ Below w.heap.size w w' := by
  have c2 := hE.cell 2 (by decide)
  clear hE
  rcases hn with h | h
  all_goals
    go_enter Tryd.func57, Tryd.ntmps57
    go_wp2
    go_region
    all_goals (go_wp2; go_ret2; exact ⟨rfl, qdrew (qrefl _)⟩)
theorem shl_all (j : Nat) (hj : j < 64) : IntKind.u64.wrap (18446744073709551615 * (2 : Int) ^ j) = ((18446744073709551616 - 2 ^ j : Nat) : Int) := by
  have h1 : (2 : Nat) ^ j < 18446744073709551616 := Nat.lt_of_lt_of_le (Nat.pow_lt_pow_right (by decide) hj) (by decide)
  have h0 : 0 < (2 : Nat) ^ j := Nat.pow_pos (by decide)
  have h2 : ((2 : Int) ^ j) = ((2 ^ j : Nat) : Int) := by simp
  rw [h2]
  generalize (2 : Nat) ^ j = q at h1 h0
  rw [IntKind.wrap_u64]
  omega
theorem newW_zero {n : Nat} (h : n % 64 = 0) : newW n = (List.replicate ((n + 63) / 64) 0).set 0 3 := by
  unfold newW
  simp only [h, if_true]
theorem newW_over {n x : Nat} (h : n % 64 ≠ 0) (hx : ((List.replicate ((n + 63) / 64) 0).set 0 3)[(n + 63) / 64 - 1]? = some x) : newW n = ((List.replicate ((n + 63) / 64) 0).set 0 3).set ((n + 63) / 64 - 1) (x ||| (18446744073709551616 - 2 ^ (n % 64))) := by
  unfold newW
  simp only [h, if_false]
  rw [List.getD_eq_getElem?_getD, hx]
  rfl
theorem new_last (k : Nat) (h : 1 ≤ k) : ∃ x, ((List.replicate k 0).set 0 3)[k - 1]? = some x ∧ x < 18446744073709551616 := by
  have hlt : k - 1 < ((List.replicate k 0).set 0 3).length := by simp; omega
  refine ⟨_, List.getElem?_eq_getElem hlt, ?_⟩
  rw [List.getElem_set]
  split
  · decide
  · simp
set_option maxHeartbeats 4000000 in
theorem new57_yes (w : World) (n : Nat) (h1 : 4 ≤ n) (h2 : n ≤ 1048576) : Calls Tryd.prog 57 #[.int .i64 n] w fun e w' => ∃ p g, e = .returned (.tuple #[.pointer (some ⟨p, 0, none⟩), .nilIface]) ∧ Sep w w' [fm p g n (newW n)] := by
  have hs := Lib.hid (fm_new (Sep.nil w) n ((n + 63) / 64))
  obtain ⟨k, hk⟩ : ∃ k, (n + 63) / 64 = k := ⟨_, rfl⟩
  have hlen : k ≤ 16384 := by omega
  have hpos : 1 ≤ k := by omega
  have HZ := fun h => newW_zero (n := n) h
  have HO := fun x h hx => newW_over (n := n) (x := x) h hx
  rw [hk] at hs HZ HO
  have HK := Lib.hid hk
  have HZ2 := Lib.hid HZ
  have HO2 := Lib.hid HO
  clear HZ HO
  have hmo : Tryd.prog.follows .mixedOrders = true := by kernel_rfl
  refine (callsIn_wide (n := 3)).1 ?_
  refine callsIn_of_wp Tryd.func57 rfl trivial ?_ rfl
  simp only [Tryd.ntmps57, List.size_toArray, List.length_cons, List.length_nil, Nat.reduceAdd, Nat.reduceSub, Array.replicate_succ, Array.replicate_zero, List.push_toArray, List.append_toArray, List.nil_append, List.cons_append]
  gi_upto_region 4 with (gi_at_make; refine mkIn_words rfl _ _ rfl .i64 .i64 _ _ k rfl rfl (by clear hs; omega) (by clear hs; omega) (by clear hs; omega) ?_)
  clear hk
  generalize (w.alloc (.cells (zeroWords k) 54)).alloc (.cells #[.int .i64 n, .slice (some ⟨w.heap.size, 0, none⟩) k k] 153) = W1 at hs ⊢
  have c1 := fm_cell1 hs.out
  rw [List.length_replicate] at c1
  have cx := fm_word hs.out (i := 0) (x := 0) (by rw [List.getElem?_replicate, if_pos (by omega)])
  have fx := fm_free hs.out 0
  have hs2 := Lib.hid (fm_set hs.out 0 3)
  by_cases hm : n % 64 = 0
  · have hz := Lib.hid (HZ2.out hm)
    have hm2 : (n : Int) % 64 ≤ 0 := by omega
    clear hs hm
    gi_wp2
    refine bodyPost_ret (v := .tuple #[.pointer (some ⟨w.heap.size + 1, 0, none⟩), .nilIface]) (by simp [results, Tryd.results57, go_sem]) rfl ⟨w.heap.size + 1, w.heap.size, rfl, by rw [hz.out]; exact hs2.out⟩
  · obtain ⟨x, hx, hxl⟩ := new_last k hpos
    have hz := Lib.hid (HO2.out x hm hx)
    have hj : n % 64 < 64 := Nat.mod_lt _ (by decide)
    have hp : (2 : Nat) ^ (n % 64) < 18446744073709551616 := Nat.lt_of_lt_of_le (Nat.pow_lt_pow_right (by decide) hj) (by decide)
    have hp0 : 0 < (2 : Nat) ^ (n % 64) := Nat.pow_pos (by decide)
    have hsh := shl_all (n % 64) hj
    have hor := bits_or_u64_nat x (18446744073709551616 - 2 ^ (n % 64)) hxl (by omega)
    have hm2 : 0 < (n : Int) % 64 := by omega
    have hm3 : (n : Int) % 64 < 64 := by omega
    have HX := Lib.hid hx
    clear hm hs hx
    gi_upto_region 7 with fail
    clear c1 cx fx
    generalize W1.setCell ⟨w.heap.size, 0, none⟩ (.int .u64 3) = W2 at hs2 ⊢
    have HS := Lib.hid hs2.out.drew
    have c1 := fm_cell1 HS.out
    rw [List.length_set, List.length_replicate] at c1
    have cx := fm_word HS.out HX.out
    have fx := fm_free HS.out (k - 1)
    have hfin := Lib.hid (fm_set HS.out (k - 1) (x ||| (18446744073709551616 - 2 ^ (n % 64))))
    have i1 : (1 : Int) ≤ (k : Int) := by omega
    have i2 : ((k : Int) - 1).toNat = k - 1 := by omega
    have i3 : (0 : Int) ≤ (k : Int) - 1 := by omega
    have i4 : (k : Int) - 1 < (k : Int) := by omega
    have i5 : k - 1 < k := by omega
    have i6 : IntKind.i64.wrap ((k : Int) - 1) = (k : Int) - 1 := IntWalk.i64_in _ (by omega)
    have i7 : (k : Int) ≤ 16384 := by omega
    generalize 18446744073709551616 - 2 ^ (n % 64) = ov at hsh hor hfin hz
    generalize x ||| ov = nx at hor hfin hz
    clear hp hp0 hj hs2
    have x1 := kt_cell (K := fun _ => True) c1 trivial
    have x2 := kt_cell (K := fun _ => True) cx trivial
    have hsh2 : IntKind.u64.wrap (18446744073709551615 * (2 : Int) ^ ((n : Int) % 64).toNat) = (ov : Int) := by rw [show ((n : Int) % 64).toNat = n % 64 by omega]; exact hsh
    refine mixed_region (fun _ => True) [0, 1, 2, 3, 4, 5, 6, 7, 8, 9, 10, 11, 12, 13, 14, 15] [] _ _ _ hmo (by kernel_rfl) (by kernel_rfl) (Eq.refl _) rfl (Eq.refl _) rfl rfl ?_
    simp only [List.filterMap_cons, List.filterMap_nil, List.getElem?_cons_succ, List.getElem?_cons_zero]
    change wpQuietIn _ _ _ _ _ _ (_ :: _ :: _ :: _ :: _ :: _ :: _ :: _ :: _ :: _ :: _ :: _ :: _ :: _ :: _ :: _ :: []) _
    gi_big_quiet_want
    gi_big_quiet_op
    go_big_quiet_on
    repeat (gi_big_quiet_step (fail))
    refine wpQuietIn_nil ?_
    simp only [wpWrites, Act.put, List.setIfInBounds_toArray, List.set_cons_succ, List.set_cons_zero]
    gi_wp2
    refine bodyPost_ret (v := .tuple #[.pointer (some ⟨w.heap.size + 1, 0, none⟩), .nilIface]) (by simp [results, Tryd.results57, go_sem]) rfl ⟨w.heap.size + 1, w.heap.size, rfl, by rw [hz.out]; exact hfin.out⟩
end Go.Proofs.YtdkailccfcijiaaDoor
