/- The document's map: Take as one contract; one step of a script: told. No condition but the sizes. The document's map: Copy. No condition but the sizes. -/
import Derived.Test.YtdkailccfcijiaaDoorFv
import Derived.Test.YtdkailccfcijiaaDoorRm
namespace Go.Proofs.YtdkailccfcijiaaDoor
open Go.RowKit Go.Shelf
set_option linter.unusedVariables false
set_option linter.unusedSimpArgs false
set_option maxRecDepth 100000

section
variable {w0 w : World} {L : List Chunk} {r N : Nat} {v : Value} {ws ws' : List Nat}
theorem take104_neg (S : Sep w0 w L) (n : Int) (hn : n < 0) : Calls Tryd.prog 104 #[.pointer (some ⟨r, 0, none⟩), .int .i64 n] w fun e w' => e = .returned (.tuple #[.slice none 0 0, .int .i64 1]) ∧ Below w.heap.size w w' := by
  clear S
  go_enter Tryd.func104, Tryd.ntmps104
  go_wp2
  go_ret2
  exact ⟨rfl, qrefl _⟩
theorem take104_full (S : Sep w0 w (row IT v (ints (refT N ws)) :: blk r 158 [.int .i64 N, v] :: L)) (hI : FmInv N ws) (n : Int) (h0 : 0 ≤ n) (hn : (freeN ws : Int) < n) : Calls Tryd.prog 104 #[.pointer (some ⟨r, 0, none⟩), .int .i64 n] w fun e w' => e = .returned (.tuple #[.slice none 0 0, .int .i64 7]) ∧ Below w.heap.size w w' := by
  have HF := Lib.hid (free64 S hI)
  clear S hI
  generalize freeN ws = fr at HF hn
  go_enter Tryd.func104, Tryd.ntmps104
  go_wp2_with (go_at_call 64; refine HF.out.mono ?_; rintro e w1 ⟨rfl, hq⟩)
  go_ret2
  exact ⟨rfl, hq⟩
/-- Take. -/
theorem take104 (S : Sep w0 w (row IT v (ints (refT N ws)) :: blk r 158 [.int .i64 N, v] :: L)) (hI : FmInv N ws) (n : Int) :
    Calls Tryd.prog 104 #[.pointer (some ⟨r, 0, none⟩), .int .i64 n] w fun e w' => ∃ u z, e = .returned (.tuple #[z, .int .i64 (numOf (takeA ws n).1)]) ∧ Sep w0 w' (row IT z (ints (takeA ws n).2.1) :: row IT u (ints (refT N (takeA ws n).2.2)) :: blk r 158 [.int .i64 N, u] :: L) := by
  unfold takeA
  by_cases h1 : n < 0
  · rw [if_pos h1]
    exact (take104_neg S n h1).mono fun e w' ⟨he, hw⟩ => ⟨v, _, he, (S.step hw).none_ IT⟩
  · rw [if_neg h1]
    by_cases h2 : (freeN ws : Int) < n
    · rw [if_pos h2]
      exact (take104_full S hI n (by omega) h2).mono fun e w' ⟨he, hw⟩ => ⟨v, _, he, (S.step hw).none_ IT⟩
    · rw [if_neg h2]
      obtain ⟨k, rfl⟩ := Int.eq_ofNat_of_zero_le (show 0 ≤ n by omega)
      rw [Int.toNat_natCast]
      exact take104_ok S hI k (by omega)
set_option maxHeartbeats 4000000 in
theorem told59_mark (S : Sep w0 w (row IT v (ints (refT N ws)) :: blk r 158 [.int .i64 N, v] :: L)) (hI : FmInv N ws) (on n : Int) :
    Calls Tryd.prog 59 #[.pointer (some ⟨r, 0, none⟩), .agg #[.int .i64 1, .int .i64 on, .int .i64 n]] w fun e w' => ∃ u, e = .returned (.agg #[.int .i64 (numOf (markR N ws n).1), .int .i64 0, .int .i64 0, .bool false, .slice none 0 0]) ∧ Sep w0 w' (row IT u (ints (refT N (markR N ws n).2)) :: blk r 158 [.int .i64 N, u] :: L) := by
  have HI := Lib.hid hI
  have HS := Lib.hid (Sep.up2 (Sep.up2 ((S.alloc (.cells #[.int .i64 1, .int .i64 on, .int .i64 n] 84)).boxAt 88 [.int .i64 0, .int .i64 0, .int .i64 0, .bool false, .slice none 0 0] (w.heap.size + 1) (by simp))))
  clear hI S
  refine (callsIn_wide (n := 3)).1 ?_
  refine callsIn_of_wp Tryd.func59 rfl trivial ?_ rfl
  simp only [Tryd.ntmps59, List.size_toArray, List.length_cons, List.length_nil, Nat.reduceAdd, Nat.reduceSub, Array.replicate_succ, Array.replicate_zero, List.push_toArray, List.append_toArray, List.nil_append, List.cons_append]
  gi_wp2_with fail
  refine ⟨trivial, (callsIn_wide.2 (mark100 HS.out HI.out n)).mono ?_⟩
  rintro e w1 ⟨u, rfl, S1⟩
  have HZ := Lib.hid (Sep.up2 S1)
  clear S1
  gi_wp2_with (refine storeIn_blk rfl 88 (.tmp 4) (.tmp 21) rfl [.int .i64 (numOf (markR N ws n).1), .int .i64 0, .int .i64 0, .bool false, .slice none 0 0] (by kernel_rfl) rfl rfl HZ.out rfl (by simp [Value.oneCell']) ?_; intro WS TS)
  have r0 := blk_cell TS 0 rfl
  have r1 := blk_cell TS 1 rfl
  have r2 := blk_cell TS 2 rfl
  have r3 := blk_cell TS 3 rfl
  have r4 := blk_cell TS 4 rfl
  refine bodyPost_ret (v := .agg #[.int .i64 (numOf (markR N ws n).1), .int .i64 0, .int .i64 0, .bool false, .slice none 0 0]) (by simp [results, Tryd.results59, go_sem, r0, r1, r2, r3, r4]) rfl ⟨u, rfl, TS.tl⟩
set_option maxHeartbeats 4000000 in
theorem told59_clear (S : Sep w0 w (row IT v (ints (refT N ws)) :: blk r 158 [.int .i64 N, v] :: L)) (hI : FmInv N ws) (on n : Int) :
    Calls Tryd.prog 59 #[.pointer (some ⟨r, 0, none⟩), .agg #[.int .i64 2, .int .i64 on, .int .i64 n]] w fun e w' => ∃ u, e = .returned (.agg #[.int .i64 (numOf (clearR N ws n).1), .int .i64 0, .int .i64 0, .bool false, .slice none 0 0]) ∧ Sep w0 w' (row IT u (ints (refT N (clearR N ws n).2)) :: blk r 158 [.int .i64 N, u] :: L) := by
  have HI := Lib.hid hI
  have HS := Lib.hid (Sep.up2 (Sep.up2 ((S.alloc (.cells #[.int .i64 2, .int .i64 on, .int .i64 n] 84)).boxAt 88 [.int .i64 0, .int .i64 0, .int .i64 0, .bool false, .slice none 0 0] (w.heap.size + 1) (by simp))))
  clear hI S
  refine (callsIn_wide (n := 3)).1 ?_
  refine callsIn_of_wp Tryd.func59 rfl trivial ?_ rfl
  simp only [Tryd.ntmps59, List.size_toArray, List.length_cons, List.length_nil, Nat.reduceAdd, Nat.reduceSub, Array.replicate_succ, Array.replicate_zero, List.push_toArray, List.append_toArray, List.nil_append, List.cons_append]
  gi_wp2_with fail
  refine ⟨trivial, (callsIn_wide.2 (clear101 HS.out HI.out n)).mono ?_⟩
  rintro e w1 ⟨u, rfl, S1⟩
  have HZ := Lib.hid (Sep.up2 S1)
  clear S1
  gi_wp2_with (refine storeIn_blk rfl 88 (.tmp 4) (.tmp 29) rfl [.int .i64 (numOf (clearR N ws n).1), .int .i64 0, .int .i64 0, .bool false, .slice none 0 0] (by kernel_rfl) rfl rfl HZ.out rfl (by simp [Value.oneCell']) ?_; intro WS TS)
  have r0 := blk_cell TS 0 rfl
  have r1 := blk_cell TS 1 rfl
  have r2 := blk_cell TS 2 rfl
  have r3 := blk_cell TS 3 rfl
  have r4 := blk_cell TS 4 rfl
  refine bodyPost_ret (v := .agg #[.int .i64 (numOf (clearR N ws n).1), .int .i64 0, .int .i64 0, .bool false, .slice none 0 0]) (by simp [results, Tryd.results59, go_sem, r0, r1, r2, r3, r4]) rfl ⟨u, rfl, TS.tl⟩
set_option maxHeartbeats 4000000 in
theorem told59_used (S : Sep w0 w (row IT v (ints (refT N ws)) :: blk r 158 [.int .i64 N, v] :: L)) (hI : FmInv N ws) (on n : Int) :
    Calls Tryd.prog 59 #[.pointer (some ⟨r, 0, none⟩), .agg #[.int .i64 3, .int .i64 on, .int .i64 n]] w fun e w' => ∃ u, e = .returned (.agg #[.int .i64 0, .int .i64 0, .int .i64 0, .bool (usedB N ws n), .slice none 0 0]) ∧ Sep w0 w' (row IT u (ints (refT N ws)) :: blk r 158 [.int .i64 N, u] :: L) := by
  have HI := Lib.hid hI
  have HS := Lib.hid (Sep.up2 (Sep.up2 ((S.alloc (.cells #[.int .i64 3, .int .i64 on, .int .i64 n] 84)).boxAt 88 [.int .i64 0, .int .i64 0, .int .i64 0, .bool false, .slice none 0 0] (w.heap.size + 1) (by simp))))
  clear hI S
  refine (callsIn_wide (n := 3)).1 ?_
  refine callsIn_of_wp Tryd.func59 rfl trivial ?_ rfl
  simp only [Tryd.ntmps59, List.size_toArray, List.length_cons, List.length_nil, Nat.reduceAdd, Nat.reduceSub, Array.replicate_succ, Array.replicate_zero, List.push_toArray, List.append_toArray, List.nil_append, List.cons_append]
  gi_wp2_with fail
  refine ⟨trivial, (callsIn_wide.2 (used102 HS.out HI.out n)).mono ?_⟩
  rintro e w1 ⟨rfl, rfl⟩
  have HZ := Lib.hid (Sep.up2 HS.out)
  gi_wp2_with (refine storeIn_blk rfl 88 (.tmp 4) (.tmp 37) rfl [.int .i64 0, .int .i64 0, .int .i64 0, .bool (usedB N ws n), .slice none 0 0] (by kernel_rfl) rfl rfl HZ.out rfl (by simp [Value.oneCell']) ?_; intro WS TS)
  have r0 := blk_cell TS 0 rfl
  have r1 := blk_cell TS 1 rfl
  have r2 := blk_cell TS 2 rfl
  have r3 := blk_cell TS 3 rfl
  have r4 := blk_cell TS 4 rfl
  refine bodyPost_ret (v := .agg #[.int .i64 0, .int .i64 0, .int .i64 0, .bool (usedB N ws n), .slice none 0 0]) (by simp [results, Tryd.results59, go_sem, r0, r1, r2, r3, r4]) rfl ⟨v, rfl, TS.tl⟩
set_option maxHeartbeats 4000000 in
theorem told59_free (S : Sep w0 w (row IT v (ints (refT N ws)) :: blk r 158 [.int .i64 N, v] :: L)) (hI : FmInv N ws) (on n : Int) :
    Calls Tryd.prog 59 #[.pointer (some ⟨r, 0, none⟩), .agg #[.int .i64 4, .int .i64 on, .int .i64 n]] w fun e w' => ∃ u, e = .returned (.agg #[.int .i64 0, .int .i64 (freeN ws : Nat), .int .i64 N, .bool false, .slice none 0 0]) ∧ Sep w0 w' (row IT u (ints (refT N ws)) :: blk r 158 [.int .i64 N, u] :: L) := by
  have HI := Lib.hid hI
  have HS := Lib.hid (Sep.up2 (Sep.up2 ((S.alloc (.cells #[.int .i64 4, .int .i64 on, .int .i64 n] 84)).boxAt 88 [.int .i64 0, .int .i64 0, .int .i64 0, .bool false, .slice none 0 0] (w.heap.size + 1) (by simp))))
  clear hI S
  refine (callsIn_wide (n := 3)).1 ?_
  refine callsIn_of_wp Tryd.func59 rfl trivial ?_ rfl
  simp only [Tryd.ntmps59, List.size_toArray, List.length_cons, List.length_nil, Nat.reduceAdd, Nat.reduceSub, Array.replicate_succ, Array.replicate_zero, List.push_toArray, List.append_toArray, List.nil_append, List.cons_append]
  gi_wp2_with fail
  refine ⟨trivial, (callsIn_wide.2 (free64 HS.out HI.out)).mono ?_⟩
  rintro e w1 ⟨rfl, hw1⟩
  have HS1 := Lib.hid (HS.out.step hw1)
  clear hw1
  gi_wp2_with fail
  refine ⟨trivial, (callsIn_wide.2 (size103 HS1.out)).mono ?_⟩
  rintro e w2 ⟨rfl, hw2⟩
  have HZ := Lib.hid (Sep.up2 (HS1.out.step hw2))
  clear hw2
  gi_wp2_with (refine storeIn_blk rfl 88 (.tmp 4) (.tmp 46) rfl [.int .i64 0, .int .i64 (freeN ws : Nat), .int .i64 N, .bool false, .slice none 0 0] (by kernel_rfl) rfl rfl HZ.out rfl (by simp [Value.oneCell']) ?_; intro WS TS)
  have r0 := blk_cell TS 0 rfl
  have r1 := blk_cell TS 1 rfl
  have r2 := blk_cell TS 2 rfl
  have r3 := blk_cell TS 3 rfl
  have r4 := blk_cell TS 4 rfl
  refine bodyPost_ret (v := .agg #[.int .i64 0, .int .i64 (freeN ws : Nat), .int .i64 N, .bool false, .slice none 0 0]) (by simp [results, Tryd.results59, go_sem, r0, r1, r2, r3, r4]) rfl ⟨v, rfl, TS.tl⟩
set_option maxHeartbeats 4000000 in
theorem told59_take (S : Sep w0 w (row IT v (ints (refT N ws)) :: blk r 158 [.int .i64 N, v] :: L)) (hI : FmInv N ws) (on n : Int) :
    Calls Tryd.prog 59 #[.pointer (some ⟨r, 0, none⟩), .agg #[.int .i64 5, .int .i64 on, .int .i64 n]] w fun e w' => ∃ u z, e = .returned (.agg #[.int .i64 (numOf (takeA ws n).1), .int .i64 0, .int .i64 0, .bool false, z]) ∧ Sep w0 w' (row IT z (ints (takeA ws n).2.1) :: row IT u (ints (refT N (takeA ws n).2.2)) :: blk r 158 [.int .i64 N, u] :: L) := by
  have HI := Lib.hid hI
  have HS := Lib.hid (Sep.up2 (Sep.up2 ((S.alloc (.cells #[.int .i64 5, .int .i64 on, .int .i64 n] 84)).boxAt 88 [.int .i64 0, .int .i64 0, .int .i64 0, .bool false, .slice none 0 0] (w.heap.size + 1) (by simp))))
  clear hI S
  refine (callsIn_wide (n := 3)).1 ?_
  refine callsIn_of_wp Tryd.func59 rfl trivial ?_ rfl
  simp only [Tryd.ntmps59, List.size_toArray, List.length_cons, List.length_nil, Nat.reduceAdd, Nat.reduceSub, Array.replicate_succ, Array.replicate_zero, List.push_toArray, List.append_toArray, List.nil_append, List.cons_append]
  gi_wp2_with fail
  refine ⟨trivial, (callsIn_wide.2 (take104 HS.out HI.out n)).mono ?_⟩
  rintro e w1 ⟨u, z, rfl, S1⟩
  obtain ⟨a9, k9, c9, rfl, _, hk9⟩ := rdv_form (T := IT) (Sep.rdv S1 (.head _))
  clear hk9
  have HZ := Lib.hid (Sep.up3 S1)
  clear S1
  gi_wp2_with (refine storeIn_blk rfl 88 (.tmp 4) (.tmp 58) rfl [.int .i64 (numOf (takeA ws n).1), .int .i64 0, .int .i64 0, .bool false, .slice a9 k9 c9] (by kernel_rfl) rfl rfl HZ.out rfl (by simp [Value.oneCell']) ?_; intro WS TS)
  have r0 := blk_cell TS 0 rfl
  have r1 := blk_cell TS 1 rfl
  have r2 := blk_cell TS 2 rfl
  have r3 := blk_cell TS 3 rfl
  have r4 := blk_cell TS 4 rfl
  refine bodyPost_ret (v := .agg #[.int .i64 (numOf (takeA ws n).1), .int .i64 0, .int .i64 0, .bool false, .slice a9 k9 c9]) (by simp [results, Tryd.results59, go_sem, r0, r1, r2, r3, r4]) rfl ⟨u, _, rfl, TS.tl⟩
set_option maxHeartbeats 4000000 in
theorem told59_none (S : Sep w0 w (row IT v (ints (refT N ws)) :: blk r 158 [.int .i64 N, v] :: L)) (hI : FmInv N ws) (k on n : Int) (h1 : k ≠ 1) (h2 : k ≠ 2) (h3 : k ≠ 3) (h4 : k ≠ 4) (h5 : k ≠ 5) :
    Calls Tryd.prog 59 #[.pointer (some ⟨r, 0, none⟩), .agg #[.int .i64 k, .int .i64 on, .int .i64 n]] w fun e w' => ∃ u, e = .returned (.agg #[.int .i64 0, .int .i64 0, .int .i64 0, .bool false, .slice none 0 0]) ∧ Sep w0 w' (row IT u (ints (refT N ws)) :: blk r 158 [.int .i64 N, u] :: L) := by
  have HI := Lib.hid hI
  have HS := Lib.hid (Sep.up2 (Sep.up2 ((S.alloc (.cells #[.int .i64 k, .int .i64 on, .int .i64 n] 84)).boxAt 88 [.int .i64 0, .int .i64 0, .int .i64 0, .bool false, .slice none 0 0] (w.heap.size + 1) (by simp))))
  clear hI S
  refine (callsIn_wide (n := 3)).1 ?_
  refine callsIn_of_wp Tryd.func59 rfl trivial ?_ rfl
  simp only [Tryd.ntmps59, List.size_toArray, List.length_cons, List.length_nil, Nat.reduceAdd, Nat.reduceSub, Array.replicate_succ, Array.replicate_zero, List.push_toArray, List.append_toArray, List.nil_append, List.cons_append]
  have g1 : (k == 1) = false := by simpa using h1
  have g2 : (k == 2) = false := by simpa using h2
  have g3 : (k == 3) = false := by simpa using h3
  have g4 : (k == 4) = false := by simpa using h4
  have g5 : (k == 5) = false := by simpa using h5
  have HZ := Lib.hid (Sep.up2 HS.out)
  gi_wp2_with (refine storeIn_blk rfl 88 (.tmp 4) (.tmp 59) rfl [.int .i64 0, .int .i64 0, .int .i64 0, .bool false, .slice none 0 0] (by kernel_rfl) rfl rfl HZ.out rfl (by simp [Value.oneCell']) ?_; intro WS TS)
  have r0 := blk_cell TS 0 rfl
  have r1 := blk_cell TS 1 rfl
  have r2 := blk_cell TS 2 rfl
  have r3 := blk_cell TS 3 rfl
  have r4 := blk_cell TS 4 rfl
  refine bodyPost_ret (v := .agg #[.int .i64 0, .int .i64 0, .int .i64 0, .bool false, .slice none 0 0]) (by simp [results, Tryd.results59, go_sem, r0, r1, r2, r3, r4]) rfl ⟨v, rfl, TS.tl⟩
/-- One step of the document's map. -/
theorem told59 (S : Sep w0 w (row IT v (ints (refT N ws)) :: blk r 158 [.int .i64 N, v] :: L)) (hI : FmInv N ws) {k n : Int} {er : Option Nat} {a b : Int} {ok : Bool} {l : List Nat} (hA : actA N ws k n = (⟨er, a, b, ok, l⟩, ws')) (on : Int) :
    Calls Tryd.prog 59 #[.pointer (some ⟨r, 0, none⟩), .agg #[.int .i64 k, .int .i64 on, .int .i64 n]] w fun e w' => ∃ u z, e = .returned (.agg #[.int .i64 (numOf er), .int .i64 a, .int .i64 b, .bool ok, z]) ∧ Sep w0 w' (row IT z (ints l) :: row IT u (ints (refT N ws')) :: blk r 158 [.int .i64 N, u] :: L) := by
  unfold actA at hA
  by_cases h1 : k = 1
  · subst h1
    rw [if_pos rfl] at hA
    cases hA
    exact (told59_mark S hI on n).mono fun e w' ⟨u, he, hs⟩ => ⟨u, _, he, hs.none_ IT⟩
  · rw [if_neg h1] at hA
    by_cases h2 : k = 2
    · subst h2
      rw [if_pos rfl] at hA
      cases hA
      exact (told59_clear S hI on n).mono fun e w' ⟨u, he, hs⟩ => ⟨u, _, he, hs.none_ IT⟩
    · rw [if_neg h2] at hA
      by_cases h3 : k = 3
      · subst h3
        rw [if_pos rfl] at hA
        cases hA
        exact (told59_used S hI on n).mono fun e w' ⟨u, he, hs⟩ => ⟨u, _, he, hs.none_ IT⟩
      · rw [if_neg h3] at hA
        by_cases h4 : k = 4
        · subst h4
          rw [if_pos rfl] at hA
          cases hA
          exact (told59_free S hI on n).mono fun e w' ⟨u, he, hs⟩ => ⟨u, _, he, hs.none_ IT⟩
        · rw [if_neg h4] at hA
          by_cases h5 : k = 5
          · subst h5
            rw [if_pos rfl] at hA
            cases hA
            exact (told59_take S hI on n).mono fun e w' ⟨u, z, he, hs⟩ => ⟨u, z, he, hs⟩
          · rw [if_neg h5] at hA
            cases hA
            exact (told59_none S hI k on n h1 h2 h3 h4 h5).mono fun e w' ⟨u, he, hs⟩ => ⟨u, _, he, hs.none_ IT⟩
end

/-- append as a writer of a drawn region. -/
theorem gives_app {α : Type} {T : Ty α} {P : Program} {w0 w : World} {L : List Chunk} {o : Oper} {a : Act} {t : TypeId} {bytes : Nat} (E : Elem P T t bytes) (s x : Operand)
    (ho : o.op = .call { callee := .builtin .append, args := #[s, x], argTypes := #[t, t] }) (v : Value) (l : List α) (hs : a.eval s = v) (S : Sep w0 w (row T v l :: L)) (b : Option Addr) (m c : Nat) (r : List α) (hx : a.eval x = .slice b m c) (hrd : Rd T w b m r)
    (hbytes : (l.length + m) * bytes ≤ 140737488355328) : ∃ v' w', gives P a o w v' w' ∧ Sep w0 w' (row T v' (l ++ r) :: L) ∧ Kp w w' (fun k => v.ownBlock = some k) := by
  obtain ⟨z, hz, hinfo⟩ := E.hi
  obtain ⟨i, hi, hzz⟩ := Option.map_eq_some_iff.1 hinfo
  simp only [Prod.mk.injEq] at hzz
  obtain ⟨v', w', h1, h2, h3, h4⟩ := run_app (P := P) (w := w) t o.type i z bytes E.ht hi hzz.1 hzz.2.1 hzz.2.2 hz S.hd hrd (c := c) hbytes E.pos
  refine ⟨v', w', .inl ?_, S.turn (d := row T v' (l ++ r)) h3 h2 (row_blk_turn (l := l) h4 h2), h3⟩
  unfold execOp
  simp only [ho, resolve, invoke, builtin, Sem.run_bind, Sem.run_pure, Result.andThen_ok, List.map_toArray, List.map_cons, List.map_nil, hs, hx, h1]
theorem writes_app {α : Type} {T : Ty α} {P : Program} {F : Fence} {mm : Nat} {ops : Array Oper} {Q : Exit → Act → World → Prop} {K : Nat → Prop} {oL : Oper} {os : List Oper} {w0 w : World} {L : List Chunk} {o : Oper} {a : Act} {t : TypeId} {bytes : Nat} (E : Elem P T t bytes) (hgd : o.guard = none) (hab : o.about P w a.eval = none) (s x : Operand)
    (ho : o.op = .call { callee := .builtin .append, args := #[s, x], argTypes := #[t, t] }) (v : Value) (l : List α) (hs : a.eval s = v) (S : Sep w0 w (row T v l :: L)) (b : Option Addr) (m c : Nat) (r : List α) (hx : a.eval x = .slice b m c) (hrd : Rd T w b m r)
    (hbytes : (l.length + m) * bytes ≤ 140737488355328) (hK : ∀ k, K k → k < w.heap.size ∧ v.ownBlock ≠ some k)
    (h : ∀ v' w', Sep w0 w' (row T v' (l ++ r) :: L) → wpWrites F mm P ops Q K oL os (a.put o.dst v') w') : wpWrites F mm P ops Q K oL (o :: os) a w := by
  obtain ⟨v', w', hg, Sq, hk⟩ := gives_app E s x ho v l hs S b m c r hx hrd hbytes
  exact ⟨v', w', hgd, hab, hg, fun k hk' => hk.block k (hK k hk').1 (hK k hk').2, h v' w' Sq⟩
section
variable {w0 w : World} {L : List Chunk} {r N : Nat} {v : Value} {ws : List Nat} {T : List Nat}
set_option maxHeartbeats 4000000 in
theorem copy62 (S : Sep w0 w (row IT v (ints T) :: blk r 158 [.int .i64 N, v] :: L)) (hl : T.length ≤ 1048576) :
    Calls Tryd.prog 62 #[.pointer (some ⟨r, 0, none⟩)] w fun e w' => ∃ r2 u, e = .returned (.pointer (some ⟨r2, 0, none⟩)) ∧ Sep w0 w' (row IT u (ints T) :: blk r2 158 [.int .i64 N, u] :: row IT v (ints T) :: blk r 158 [.int .i64 N, v] :: L) := by
  obtain ⟨a, n, c, rfl, _, hn⟩ := rdv_form (T := IT) (Sep.rdv S (.head _))
  rw [ints_len] at hn
  have hnb : n ≤ 1048576 := by omega
  have c0 := blk_cell S.tl 0 rfl
  have HS := Lib.hid (S.box 158 [.int .i64 N, .slice none 0 0])
  have hmo : Tryd.prog.follows .mixedOrders = true := by kernel_rfl
  clear S hn hl
  refine (callsIn_wide (n := 3)).1 ?_
  refine callsIn_of_wp Tryd.func62 rfl trivial ?_ rfl
  simp only [Tryd.ntmps62, List.size_toArray, List.length_cons, List.length_nil, Nat.reduceAdd, Nat.reduceSub, Array.replicate_succ, Array.replicate_zero, List.push_toArray, List.append_toArray, List.nil_append, List.cons_append]
  gi_wp2
  generalize w.heap.size = r2 at HS ⊢
  generalize w.alloc (.cells #[.int .i64 N, .slice none 0 0] 158) = W1 at HS ⊢
  clear c0
  have HD := Lib.hid (HS.out.drew.none_ IT)
  have d1 := blk_mem HD.out (g := r2) (t := 158) (cs := [.int .i64 N, .slice none 0 0]) (by simp) 1 rfl
  have d2 := blk_mem HD.out (g := r) (t := 158) (cs := [.int .i64 N, .slice a n c]) (by simp) 1 rfl
  obtain ⟨hs, hsz⟩ : ∃ hs, hs = W1.drew.heap.size := ⟨_, rfl⟩
  have x1 := kt_cell (K := fun k => k < hs) d1 (by rw [hsz]; exact World.block_lt_of_cell? _ _ d1)
  have x2 := kt_cell (K := fun k => k < hs) d2 (by rw [hsz]; exact World.block_lt_of_cell? _ _ d2)
  have HZ := Lib.hid hsz
  clear d1 d2 hsz
  refine mixed_region (fun k => k < hs) [0, 1, 2, 3, 4, 5, 6, 7, 8] [9, 10, 11] _ _ _ hmo (by kernel_rfl) (by kernel_rfl) (Eq.refl _) rfl (Eq.refl _) rfl rfl ?_
  simp only [List.filterMap_cons, List.filterMap_nil, List.getElem?_cons_succ, List.getElem?_cons_zero]
  change wpQuietIn _ _ _ _ _ _ (_ :: _ :: _ :: _ :: _ :: _ :: _ :: _ :: _ :: []) _
  gi_big_quiet_want
  gi_big_quiet_op
  go_big_quiet_on
  repeat (gi_big_quiet_step (fail))
  refine wpQuietIn_nil ?_
  clear x1 x2
  refine writes_app elemI rfl (by rfl) (.tmp 14) (.tmp 18) rfl (.slice none 0 0) [] rfl HD.out a n c (ints T) rfl (rd_of HD.out (.tail _ (.tail _ (.head _)))) (by simp; omega) (fun k hk => ⟨by rw [← HZ.out]; exact hk, by simp [Value.ownBlock]⟩) ?_
  intro v' w' Sq
  refine ⟨.pointer (some ⟨r2, 0, none⟩), _, rfl, rfl, .inl (by simp [execOp, go_sem]), Kq.refl _ _, ?_⟩
  refine ⟨.pointer (some ⟨r2, 1, none⟩), _, rfl, rfl, .inl (by simp [execOp, go_sem]), Kq.refl _ _, ?_⟩
  simp only [wpWrites, Act.put, List.setIfInBounds_toArray, List.set_cons_succ, List.set_cons_zero]
  clear HD
  obtain ⟨a5, n5, c5, rfl, _, hn5⟩ := rdv_form (T := IT) (Sep.rdv Sq (.head _))
  clear hn5
  have TQ := Lib.hid Sq
  clear Sq
  have z1 := blk_mem TQ.out (g := r2) (t := 158) (cs := [.int .i64 N, .slice none 0 0]) (by simp) 1 rfl
  have f1 := blk_free (Sep.up1 TQ.out) 1
  gi_wp2
  refine bodyPost_ret (v := .pointer (some ⟨r2, 0, none⟩)) (by simp [results, Tryd.results62, go_sem]) rfl ⟨r2, .slice a5 n5 c5, rfl, Sep.up1 (blk_set (Sep.up1 TQ.out) 1 (.slice a5 n5 c5))⟩
end
end Go.Proofs.YtdkailccfcijiaaDoor
