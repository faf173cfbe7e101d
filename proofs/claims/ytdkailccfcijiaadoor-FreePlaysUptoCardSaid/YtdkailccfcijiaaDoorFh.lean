/- One step of a script on a map: act. No condition but the sizes, the laid errors and the library's table. One step of a script on a map: act, Take and no call. No condition but the sizes, the laid errors and the library's table. -/
import Derived.Test.YtdkailccfcijiaaDoorFg
import Derived.Test.YtdkailccfcijiaaDoorDw
namespace Go.Proofs.YtdkailccfcijiaaDoor
open Go.RowKit Go.Shelf
set_option linter.unusedVariables false
set_option linter.unusedSimpArgs false
set_option maxRecDepth 100000

theorem mark_err (pages : Nat) (ws : List Nat) (i : Int) : ∀ g, (markR pages ws i).1 = some g → g < 13 := by
  intro g h
  unfold markR at h
  split at h
  · split at h <;> simp at h
    omega
  · simp at h
    omega
set_option maxHeartbeats 4000000 in
theorem act53_mark {E : Nat → Addr} {w0 w : World} {L : List Chunk} {p g pages : Nat} {ws : List Nat} (hE : Errs all13 E w0) (S : Sep w0 w (fm p g pages ws :: L)) (hok : FmOk pages ws) (on n : Int) :
    Calls Tryd.prog 53 #[.pointer (some ⟨p, 0, none⟩), .agg #[.int .i64 1, .int .i64 on, .int .i64 n]] w fun e w' => e = .returned (.agg #[.int .i64 (numOf (markR pages ws n).1), .int .i64 0, .int .i64 0, .bool false, .slice none 0 0]) ∧ Sep w0 w' (fm p g pages (markR pages ws n).2 :: L) := by
  have HE := Lib.hid hE
  have HK := Lib.hid hok
  have HS := Lib.hid (Sep.up1 ((S.alloc (.cells #[.int .i64 1, .int .i64 on, .int .i64 n] 84)).boxAt 88 [.int .i64 0, .int .i64 0, .int .i64 0, .bool false, .slice none 0 0] (w.heap.size + 1) (by simp)))
  have HM := Lib.hid (mark55 (hE.below HS.out.below) HS.out hok n)
  clear hE S hok
  refine (callsIn_wide (n := 3)).1 ?_
  refine callsIn_of_wp Tryd.func53 rfl trivial ?_ rfl
  simp only [Tryd.ntmps53, List.size_toArray, List.length_cons, List.length_nil, Nat.reduceAdd, Nat.reduceSub, Array.replicate_succ, Array.replicate_zero, List.push_toArray, List.append_toArray, List.nil_append, List.cons_append]
  gi_wp2_with fail
  refine ⟨trivial, (callsIn_wide.2 HM.out).mono ?_⟩
  rintro e w1 ⟨rfl, S1⟩
  have HS1 := Lib.hid S1
  clear S1
  gi_wp2_with fail
  refine ⟨trivial, (callsIn_wide.2 (num_any E _ (HE.out.below HS1.out.below) _ (mark_err pages ws n))).mono ?_⟩
  rintro e w2 ⟨rfl, hw2⟩
  have HS2 := Lib.hid (Sep.up1 (HS1.out.step hw2))
  gi_wp2_with (refine storeIn_blk rfl 88 (.tmp 4) (.tmp 16) rfl [.int .i64 (numOf (markR pages ws n).1), .int .i64 0, .int .i64 0, .bool false, .slice none 0 0] (by kernel_rfl) rfl rfl HS2.out rfl (by simp [Value.oneCell']) ?_; intro WS TS)
  have r0 := blk_cell TS 0 rfl
  have r1 := blk_cell TS 1 rfl
  have r2 := blk_cell TS 2 rfl
  have r3 := blk_cell TS 3 rfl
  have r4 := blk_cell TS 4 rfl
  refine bodyPost_ret (v := .agg #[.int .i64 (numOf (markR pages ws n).1), .int .i64 0, .int .i64 0, .bool false, .slice none 0 0]) (by simp [results, Tryd.results53, go_sem, r0, r1, r2, r3, r4]) rfl ⟨rfl, TS.tl⟩
theorem clear_err (pages : Nat) (ws : List Nat) (i : Int) : ∀ g, (clearR pages ws i).1 = some g → g < 13 := by
  intro g h
  unfold clearR at h
  split at h
  · split at h <;> simp at h
    omega
  · simp at h
    omega
set_option maxHeartbeats 4000000 in
theorem act53_clear {E : Nat → Addr} {w0 w : World} {L : List Chunk} {p g pages : Nat} {ws : List Nat} (hE : Errs all13 E w0) (S : Sep w0 w (fm p g pages ws :: L)) (hok : FmOk pages ws) (on n : Int) :
    Calls Tryd.prog 53 #[.pointer (some ⟨p, 0, none⟩), .agg #[.int .i64 2, .int .i64 on, .int .i64 n]] w fun e w' => e = .returned (.agg #[.int .i64 (numOf (clearR pages ws n).1), .int .i64 0, .int .i64 0, .bool false, .slice none 0 0]) ∧ Sep w0 w' (fm p g pages (clearR pages ws n).2 :: L) := by
  have HE := Lib.hid hE
  have HK := Lib.hid hok
  have HS := Lib.hid (Sep.up1 ((S.alloc (.cells #[.int .i64 2, .int .i64 on, .int .i64 n] 84)).boxAt 88 [.int .i64 0, .int .i64 0, .int .i64 0, .bool false, .slice none 0 0] (w.heap.size + 1) (by simp)))
  have HM := Lib.hid (clear70 (hE.below HS.out.below) HS.out hok n)
  clear hE S hok
  refine (callsIn_wide (n := 3)).1 ?_
  refine callsIn_of_wp Tryd.func53 rfl trivial ?_ rfl
  simp only [Tryd.ntmps53, List.size_toArray, List.length_cons, List.length_nil, Nat.reduceAdd, Nat.reduceSub, Array.replicate_succ, Array.replicate_zero, List.push_toArray, List.append_toArray, List.nil_append, List.cons_append]
  gi_wp2_with fail
  refine ⟨trivial, (callsIn_wide.2 HM.out).mono ?_⟩
  rintro e w1 ⟨rfl, S1⟩
  have HS1 := Lib.hid S1
  clear S1
  gi_wp2_with fail
  refine ⟨trivial, (callsIn_wide.2 (num_any E _ (HE.out.below HS1.out.below) _ (clear_err pages ws n))).mono ?_⟩
  rintro e w2 ⟨rfl, hw2⟩
  have HS2 := Lib.hid (Sep.up1 (HS1.out.step hw2))
  gi_wp2_with (refine storeIn_blk rfl 88 (.tmp 4) (.tmp 24) rfl [.int .i64 (numOf (clearR pages ws n).1), .int .i64 0, .int .i64 0, .bool false, .slice none 0 0] (by kernel_rfl) rfl rfl HS2.out rfl (by simp [Value.oneCell']) ?_; intro WS TS)
  have r0 := blk_cell TS 0 rfl
  have r1 := blk_cell TS 1 rfl
  have r2 := blk_cell TS 2 rfl
  have r3 := blk_cell TS 3 rfl
  have r4 := blk_cell TS 4 rfl
  refine bodyPost_ret (v := .agg #[.int .i64 (numOf (clearR pages ws n).1), .int .i64 0, .int .i64 0, .bool false, .slice none 0 0]) (by simp [results, Tryd.results53, go_sem, r0, r1, r2, r3, r4]) rfl ⟨rfl, TS.tl⟩
set_option maxHeartbeats 4000000 in
theorem act53_used {E : Nat → Addr} {w0 w : World} {L : List Chunk} {p g pages : Nat} {ws : List Nat} (hE : Errs all13 E w0) (S : Sep w0 w (fm p g pages ws :: L)) (hok : FmOk pages ws) (on n : Int) :
    Calls Tryd.prog 53 #[.pointer (some ⟨p, 0, none⟩), .agg #[.int .i64 3, .int .i64 on, .int .i64 n]] w fun e w' => e = .returned (.agg #[.int .i64 0, .int .i64 0, .int .i64 0, .bool (usedB pages ws n), .slice none 0 0]) ∧ Sep w0 w' (fm p g pages ws :: L) := by
  have HE := Lib.hid hE
  have HK := Lib.hid hok
  have HS := Lib.hid (Sep.up1 ((S.alloc (.cells #[.int .i64 3, .int .i64 on, .int .i64 n] 84)).boxAt 88 [.int .i64 0, .int .i64 0, .int .i64 0, .bool false, .slice none 0 0] (w.heap.size + 1) (by simp)))
  have HM := Lib.hid (used54 HS.out hok n)
  clear hE S hok
  refine (callsIn_wide (n := 3)).1 ?_
  refine callsIn_of_wp Tryd.func53 rfl trivial ?_ rfl
  simp only [Tryd.ntmps53, List.size_toArray, List.length_cons, List.length_nil, Nat.reduceAdd, Nat.reduceSub, Array.replicate_succ, Array.replicate_zero, List.push_toArray, List.append_toArray, List.nil_append, List.cons_append]
  gi_wp2_with fail
  refine ⟨trivial, (callsIn_wide.2 HM.out).mono ?_⟩
  rintro e w1 ⟨rfl, hw1⟩
  have HS2 := Lib.hid (Sep.up1 (HS.out.step hw1))
  gi_wp2_with (refine storeIn_blk rfl 88 (.tmp 4) (.tmp 31) rfl [.int .i64 0, .int .i64 0, .int .i64 0, .bool (usedB pages ws n), .slice none 0 0] (by kernel_rfl) rfl rfl HS2.out rfl (by simp [Value.oneCell']) ?_; intro WS TS)
  have r0 := blk_cell TS 0 rfl
  have r1 := blk_cell TS 1 rfl
  have r2 := blk_cell TS 2 rfl
  have r3 := blk_cell TS 3 rfl
  have r4 := blk_cell TS 4 rfl
  refine bodyPost_ret (v := .agg #[.int .i64 0, .int .i64 0, .int .i64 0, .bool (usedB pages ws n), .slice none 0 0]) (by simp [results, Tryd.results53, go_sem, r0, r1, r2, r3, r4]) rfl ⟨rfl, TS.tl⟩
set_option maxHeartbeats 4000000 in
theorem act53_free {E : Nat → Addr} {w0 w : World} {L : List Chunk} {p g pages : Nat} {ws : List Nat} (hE : Errs all13 E w0) (S : Sep w0 w (fm p g pages ws :: L)) (hok : FmOk pages ws) (on n : Int) :
    Calls Tryd.prog 53 #[.pointer (some ⟨p, 0, none⟩), .agg #[.int .i64 4, .int .i64 on, .int .i64 n]] w fun e w' => e = .returned (.agg #[.int .i64 0, .int .i64 (freeN ws : Nat), .int .i64 pages, .bool false, .slice none 0 0]) ∧ Sep w0 w' (fm p g pages ws :: L) := by
  have HE := Lib.hid hE
  have HK := Lib.hid hok
  have HS := Lib.hid (Sep.up1 ((S.alloc (.cells #[.int .i64 4, .int .i64 on, .int .i64 n] 84)).boxAt 88 [.int .i64 0, .int .i64 0, .int .i64 0, .bool false, .slice none 0 0] (w.heap.size + 1) (by simp)))
  have HM := Lib.hid (free63 HS.out hok)
  clear hE S hok
  refine (callsIn_wide (n := 3)).1 ?_
  refine callsIn_of_wp Tryd.func53 rfl trivial ?_ rfl
  simp only [Tryd.ntmps53, List.size_toArray, List.length_cons, List.length_nil, Nat.reduceAdd, Nat.reduceSub, Array.replicate_succ, Array.replicate_zero, List.push_toArray, List.append_toArray, List.nil_append, List.cons_append]
  gi_wp2_with fail
  refine ⟨trivial, (callsIn_wide.2 HM.out).mono ?_⟩
  rintro e w1 ⟨rfl, hw1⟩
  have HS1 := Lib.hid (HS.out.step hw1)
  clear hw1
  gi_wp2_with fail
  refine ⟨trivial, (callsIn_wide.2 (size50 HS1.out)).mono ?_⟩
  rintro e w2 ⟨rfl, hw2⟩
  have HS2 := Lib.hid (Sep.up1 (HS1.out.step hw2))
  gi_wp2_with (refine storeIn_blk rfl 88 (.tmp 4) (.tmp 38) rfl [.int .i64 0, .int .i64 (freeN ws : Nat), .int .i64 pages, .bool false, .slice none 0 0] (by kernel_rfl) rfl rfl HS2.out rfl (by simp [Value.oneCell']) ?_; intro WS TS)
  have r0 := blk_cell TS 0 rfl
  have r1 := blk_cell TS 1 rfl
  have r2 := blk_cell TS 2 rfl
  have r3 := blk_cell TS 3 rfl
  have r4 := blk_cell TS 4 rfl
  refine bodyPost_ret (v := .agg #[.int .i64 0, .int .i64 (freeN ws : Nat), .int .i64 pages, .bool false, .slice none 0 0]) (by simp [results, Tryd.results53, go_sem, r0, r1, r2, r3, r4]) rfl ⟨rfl, TS.tl⟩

/-- What Take answers: the error, the pages, the words. -/
noncomputable def takeA (ws : List Nat) (n : Int) : Option Nat × List Nat × List Nat :=
  if n < 0 then (some 2, [], ws) else if (freeN ws : Int) < n then (some 7, [], ws) else (none, (takeR n.toNat ws).1, (takeR n.toNat ws).2)
theorem take_err (ws : List Nat) (i : Int) : ∀ g, (takeA ws i).1 = some g → g < 13 := by
  intro g h
  unfold takeA at h
  split at h
  · simp at h; omega
  · split at h <;> simp at h
    omega
theorem take68 {E : Nat → Addr} {w0 w : World} {L : List Chunk} {p g pages : Nat} {ws : List Nat} (hE : Errs all13 E w) (hT : TabAt13 w0) (S : Sep w0 w (fm p g pages ws :: L)) (hok : FmOk pages ws) (n : Int) :
    Calls Tryd.prog 68 #[.pointer (some ⟨p, 0, none⟩), .int .i64 n] w fun e w' => ∃ v, e = .returned (.tuple #[v, errV E (takeA ws n).1]) ∧ Sep w0 w' (row IT v (ints (takeA ws n).2.1) :: fm p g pages (takeA ws n).2.2 :: L) := by
  unfold takeA
  by_cases h1 : n < 0
  · rw [if_pos h1]
    refine (take68_no hE S hok n h1).mono ?_
    rintro e w' ⟨rfl, hw⟩
    exact ⟨_, rfl, (S.step hw).none_ IT⟩
  · rw [if_neg h1]
    by_cases h2 : (freeN ws : Int) < n
    · rw [if_pos h2]
      refine (take68_full hE S hok n (by omega) h2).mono ?_
      rintro e w' ⟨rfl, hw⟩
      exact ⟨_, rfl, (S.step hw).none_ IT⟩
    · rw [if_neg h2]
      obtain ⟨k, rfl⟩ := Int.eq_ofNat_of_zero_le (show 0 ≤ n by omega)
      rw [Int.toNat_natCast]
      exact take68_ok hT S hok k (by omega)
set_option maxHeartbeats 4000000 in
theorem act53_take {E : Nat → Addr} {w0 w : World} {L : List Chunk} {p g pages : Nat} {ws : List Nat} (hE : Errs all13 E w0) (hT : TabAt13 w0) (S : Sep w0 w (fm p g pages ws :: L)) (hok : FmOk pages ws) (on n : Int) :
    Calls Tryd.prog 53 #[.pointer (some ⟨p, 0, none⟩), .agg #[.int .i64 5, .int .i64 on, .int .i64 n]] w fun e w' => ∃ v, e = .returned (.agg #[.int .i64 (numOf (takeA ws n).1), .int .i64 0, .int .i64 0, .bool false, v]) ∧ Sep w0 w' (row IT v (ints (takeA ws n).2.1) :: fm p g pages (takeA ws n).2.2 :: L) := by
  have HE := Lib.hid hE
  have HK := Lib.hid hok
  have HS := Lib.hid (Sep.up1 ((S.alloc (.cells #[.int .i64 5, .int .i64 on, .int .i64 n] 84)).boxAt 88 [.int .i64 0, .int .i64 0, .int .i64 0, .bool false, .slice none 0 0] (w.heap.size + 1) (by simp)))
  have HM := Lib.hid (take68 (hE.below HS.out.below) hT HS.out hok n)
  clear hE S hok
  refine (callsIn_wide (n := 3)).1 ?_
  refine callsIn_of_wp Tryd.func53 rfl trivial ?_ rfl
  simp only [Tryd.ntmps53, List.size_toArray, List.length_cons, List.length_nil, Nat.reduceAdd, Nat.reduceSub, Array.replicate_succ, Array.replicate_zero, List.push_toArray, List.append_toArray, List.nil_append, List.cons_append]
  gi_wp2_with fail
  refine ⟨trivial, (callsIn_wide.2 HM.out).mono ?_⟩
  rintro e w1 ⟨v, rfl, S1⟩
  obtain ⟨a9, k9, c9, e9⟩ : ∃ a k c, v = Value.slice a k c := by
    obtain ⟨a9, c9, e9, _, _, _⟩ := Sep.rdv S1 (.head _)
    exact ⟨_, _, _, e9⟩
  subst e9
  have HS1 := Lib.hid S1
  clear S1
  gi_wp2_with fail
  refine ⟨trivial, (callsIn_wide.2 (num_any E _ (HE.out.below HS1.out.below) _ (take_err ws n))).mono ?_⟩
  rintro e w2 ⟨rfl, hw2⟩
  have HS2 := Lib.hid (Sep.up2 (HS1.out.step hw2))
  gi_wp2_with (refine storeIn_blk rfl 88 (.tmp 4) (.tmp 51) rfl [.int .i64 (numOf (takeA ws n).1), .int .i64 0, .int .i64 0, .bool false, .slice a9 k9 c9] (by kernel_rfl) rfl rfl HS2.out rfl (by simp [Value.oneCell']) ?_; intro WS TS)
  have r0 := blk_cell TS 0 rfl
  have r1 := blk_cell TS 1 rfl
  have r2 := blk_cell TS 2 rfl
  have r3 := blk_cell TS 3 rfl
  have r4 := blk_cell TS 4 rfl
  refine bodyPost_ret (v := .agg #[.int .i64 (numOf (takeA ws n).1), .int .i64 0, .int .i64 0, .bool false, .slice a9 k9 c9]) (by simp [results, Tryd.results53, go_sem, r0, r1, r2, r3, r4]) rfl ⟨_, rfl, TS.tl⟩
set_option maxHeartbeats 4000000 in
theorem act53_none {E : Nat → Addr} {w0 w : World} {L : List Chunk} {p g pages : Nat} {ws : List Nat} (hE : Errs all13 E w0) (S : Sep w0 w (fm p g pages ws :: L)) (hok : FmOk pages ws) (k on n : Int) (h1 : k ≠ 1) (h2 : k ≠ 2) (h3 : k ≠ 3) (h4 : k ≠ 4) (h5 : k ≠ 5) :
    Calls Tryd.prog 53 #[.pointer (some ⟨p, 0, none⟩), .agg #[.int .i64 k, .int .i64 on, .int .i64 n]] w fun e w' => e = .returned (.agg #[.int .i64 0, .int .i64 0, .int .i64 0, .bool false, .slice none 0 0]) ∧ Sep w0 w' (fm p g pages ws :: L) := by
  have HE := Lib.hid hE
  have HK := Lib.hid hok
  have HS := Lib.hid (Sep.up1 ((S.alloc (.cells #[.int .i64 k, .int .i64 on, .int .i64 n] 84)).boxAt 88 [.int .i64 0, .int .i64 0, .int .i64 0, .bool false, .slice none 0 0] (w.heap.size + 1) (by simp)))
  have g1 : (k == 1) = false := by simpa using h1
  have g2 : (k == 2) = false := by simpa using h2
  have g3 : (k == 3) = false := by simpa using h3
  have g4 : (k == 4) = false := by simpa using h4
  have g5 : (k == 5) = false := by simpa using h5
  have HS2 := Lib.hid (Sep.up1 HS.out)
  clear hE S hok
  refine (callsIn_wide (n := 3)).1 ?_
  refine callsIn_of_wp Tryd.func53 rfl trivial ?_ rfl
  simp only [Tryd.ntmps53, List.size_toArray, List.length_cons, List.length_nil, Nat.reduceAdd, Nat.reduceSub, Array.replicate_succ, Array.replicate_zero, List.push_toArray, List.append_toArray, List.nil_append, List.cons_append]
  gi_wp2_with (refine storeIn_blk rfl 88 (.tmp 4) (.tmp 52) rfl [.int .i64 0, .int .i64 0, .int .i64 0, .bool false, .slice none 0 0] (by kernel_rfl) rfl rfl HS2.out rfl (by simp [Value.oneCell']) ?_; intro WS TS)
  have r0 := blk_cell TS 0 rfl
  have r1 := blk_cell TS 1 rfl
  have r2 := blk_cell TS 2 rfl
  have r3 := blk_cell TS 3 rfl
  have r4 := blk_cell TS 4 rfl
  refine bodyPost_ret (v := .agg #[.int .i64 0, .int .i64 0, .int .i64 0, .bool false, .slice none 0 0]) (by simp [results, Tryd.results53, go_sem, r0, r1, r2, r3, r4]) rfl ⟨rfl, TS.tl⟩
end Go.Proofs.YtdkailccfcijiaaDoor
