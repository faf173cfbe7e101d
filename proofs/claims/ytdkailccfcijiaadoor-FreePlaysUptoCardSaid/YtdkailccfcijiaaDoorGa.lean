/- The law FreePlays, walked. Conditions: the length of the script; the laid errors and the library's table. -/
import Derived.Test.YtdkailccfcijiaaDoorFy
namespace Go.Proofs.YtdkailccfcijiaaDoor
open Go.RowKit Go.Shelf
set_option linter.unusedVariables false
set_option linter.unusedSimpArgs false
set_option maxRecDepth 100000

def keptR (ss : List Sl) (ls : List (List Int)) : List Chunk := rowsOf IT (ss.map Sl.val) ls
/-- The lists that were kept. -/
structure Kept (k : Nat) (ss : List Sl) (ls : List (List Int)) : Prop where
  len : ss.length = ls.length
  few : ss.length ≤ k
  short : ∀ l ∈ ls, l.length ≤ 8388608
theorem Kept.start : Kept 0 [] [] := ⟨rfl, Nat.le_refl _, fun l h => by cases h⟩
theorem Kept.more {k : Nat} {ss : List Sl} {ls : List (List Int)} (h : Kept k ss ls) : Kept (k + 1) ss ls := ⟨h.len, by have := h.few; omega, h.short⟩
theorem Kept.add {k : Nat} {ss : List Sl} {ls : List (List Int)} (h : Kept k ss ls) (s : Sl) {l : List Int} (hl : l.length ≤ 8388608) : Kept (k + 1) (ss ++ [s]) (ls ++ [l]) := by
  refine ⟨by simp [h.len], by have := h.few; simp; omega, fun x hx => ?_⟩
  rcases List.mem_append.1 hx with hx | hx
  · exact h.short x hx
  · obtain rfl : x = l := by simpa using hx
    exact hl
theorem keptR_add {ss : List Sl} {ls : List (List Int)} (h : ss.length = ls.length) (s : Sl) (l : List Int) : keptR (ss ++ [s]) (ls ++ [l]) = keptR ss ls ++ [row IT s.val l] := by
  unfold keptR rowsOf
  rw [List.map_append, List.zipWith_append (by simpa using h)]
  rfl
theorem sep_add {w0 w : World} {X : List Chunk} {ss : List Sl} {ls : List (List Int)} {s : Sl} {l : List Int} (S : Sep w0 w (row IT s.val l :: (X ++ keptR ss ls))) (h : ss.length = ls.length) : Sep w0 w (X ++ keptR (ss ++ [s]) (ls ++ [l])) := by
  rw [keptR_add h, ← List.append_assoc]
  exact S.perm (List.perm_append_singleton _ _).symm
theorem act_short {N : Nat} {ws ws' : List Nat} {k n : Int} {er : Option Nat} {a b : Int} {ok : Bool} {l : List Nat} (h : FmInv N ws) (hA : actA N ws k n = (⟨er, a, b, ok, l⟩, ws')) : (ints l).length ≤ 8388608 := by
  have hf := freeN_le ws
  have hl := h.ok.len
  have hh := h.ok.hi
  have hb : (actA N ws k n).1.list.length ≤ 8388608 := by
    unfold actA
    split
    · simp
    · split
      · simp
      · split
        · simp
        · split
          · simp
          · split
            · show (takeA ws n).2.1.length ≤ _
              unfold takeA
              split
              · simp
              · split
                · simp
                · show (takeR n.toNat ws).1.length ≤ _
                  rw [takeR_len]
                  omega
            · simp
  rw [hA] at hb
  rw [ints_len]
  exact hb
theorem odd_swap {w0 w : World} {a b c d e f : Chunk} {L : List Chunk} (S : Sep w0 w (a :: b :: c :: d :: e :: f :: L)) : Sep w0 w (d :: e :: f :: a :: b :: c :: L) := Sep.up5 (Sep.up5 (Sep.up5 S))
theorem numN (E : Nat → Addr) (w : World) (h : Errs all13 E w) : Calls Tryd.prog 23 #[.nilIface] w fun e w' => e = .returned (.int .i64 0) ∧ Below w.heap.size w w' := num_any E w h none (by simp)
theorem numA (E : Nat → Addr) (w : World) (h : Errs all13 E w) : Calls Tryd.prog 23 #[.iface 232 (.pointer (some (E 2)))] w fun e w' => e = .returned (.int .i64 1) ∧ Below w.heap.size w w' := num_any E w h (some 2) (by simp)
theorem new57_at {w0 w : World} {L : List Chunk} (S : Sep w0 w L) (n : Nat) (h1 : 4 ≤ n) (h2 : n ≤ 1048576) : Calls Tryd.prog 57 #[.int .i64 n] w fun e w' => ∃ p g, e = .returned (.tuple #[.pointer (some ⟨p, 0, none⟩), .nilIface]) ∧ Sep w0 w' (fm p g n (newW n) :: L) :=
  (new57_yes w n h1 h2).mono fun e w' ⟨p, g, he, hs⟩ => ⟨p, g, he, S.call hs⟩
theorem bad_nat {n : Int} (h : n < 4 ∨ 1048576 < n) : True := trivial
theorem free_at {w0 w : World} {L : List Chunk} {p g pages : Nat} {ws : List Nat} (S : Sep w0 w (fm p g pages ws :: L)) (hok : FmOk pages ws) :
    Calls Tryd.prog 63 #[.pointer (some ⟨p, 0, none⟩)] w fun e w' => e = .returned (.int .i64 (freeN ws : Nat)) ∧ Below w.heap.size w w' := free63 S hok
set_option maxHeartbeats 20000000 in
theorem freePlays_neither (E : Nat → Addr) (w : World) (aS : Option Addr) (cS n : Nat) (X : List St) (pg : Int) (ot : Int) (hE : Errs all13 E w) (hT : TabAt13 w) (hX : Rd ST w aS n X) (h1 : pg < 4 ∨ 1048576 < pg) (h3 : ot < 4 ∨ 1048576 < ot) :
    Calls Tryd.prog 12 #[.agg #[.int .i64 pg, .int .i64 ot, .slice aS n cS]] w fun e w' => e = .returned (.bool true) ∧ Below w.heap.size w w' := by
  replace h1 := Lib.hid h1
  replace h3 := Lib.hid h3
  have HE := Lib.hid hE
  have HT := Lib.hid hT
  have HX := Lib.hid hX
  clear hE hT hX
  obtain ⟨xs, hxs⟩ : ∃ xs : List Value, xs = [.int .i64 pg, .int .i64 ot, .slice aS n cS] := ⟨_, rfl⟩
  have k0 : xs[0]? = some (.int .i64 pg) := by rw [hxs]; rfl
  have k1 : xs[1]? = some (.int .i64 ot) := by rw [hxs]; rfl
  have k2 : xs[2]? = some (.slice aS n cS) := by rw [hxs]; rfl
  have TQ : Hid (Sep w (w.alloc (.cells #[.int .i64 pg, .int .i64 ot, .slice aS n cS] 75)) [blk w.heap.size 75 xs]) := Lib.hid (by rw [hxs]; exact (Sep.nil w).box 75 [.int .i64 pg, .int .i64 ot, .slice aS n cS])
  have K0 := Lib.hid k0
  have K1 := Lib.hid k1
  have K2 := Lib.hid k2
  clear hxs k0 k1 k2
  have t1 : True := trivial
  have t2 : True := trivial
  have t3 : True := trivial
  go_enter Tryd.func12, Tryd.ntmps12
  go_upto_region 7 with (first
    | (go_at_call 57; clear t1; refine (new57_no (HE.out.below TQ.out.below) pg h1.out).mono ?_; rintro e wq ⟨rfl, hq⟩; simp only [errV]; replace TQ := Lib.hid (TQ.out.step hq); clear hq; have c0 := blk_mem TQ.out (g := w.heap.size) (t := 75) (cs := xs) (by simp) 0 K0.out; have c1 := blk_mem TQ.out (g := w.heap.size) (t := 75) (cs := xs) (by simp) 1 K1.out)
    | (go_at_call 58; clear t2; refine (new58_no _ pg h1.out).mono ?_; rintro e wq ⟨rfl, hq⟩; replace TQ := Lib.hid (TQ.out.step hq); clear hq c0 c1; have c0 := blk_mem TQ.out (g := w.heap.size) (t := 75) (cs := xs) (by simp) 0 K0.out; have c1 := blk_mem TQ.out (g := w.heap.size) (t := 75) (cs := xs) (by simp) 1 K1.out)
    | (go_at_call 57; refine (new57_no (HE.out.below TQ.out.below) ot h3.out).mono ?_; rintro e wq ⟨rfl, hq⟩; simp only [errV]; replace TQ := Lib.hid (TQ.out.step hq); clear hq c0 c1; have c0 := blk_mem TQ.out (g := w.heap.size) (t := 75) (cs := xs) (by simp) 0 K0.out; have c1 := blk_mem TQ.out (g := w.heap.size) (t := 75) (cs := xs) (by simp) 1 K1.out)
    | (go_at_call 58; refine (new58_no _ ot h3.out).mono ?_; rintro e wq ⟨rfl, hq⟩; replace TQ := Lib.hid (TQ.out.step hq); clear hq c0 c1)
    | (go_at_call 23; clear t3; refine (numA E _ (HE.out.below TQ.out.below)).mono ?_; rintro e wq ⟨rfl, hq⟩; replace TQ := Lib.hid (TQ.out.step hq); clear hq)
    | (go_at_call 23; refine (numA E _ (HE.out.below TQ.out.below)).mono ?_; rintro e wq ⟨rfl, hq⟩; replace TQ := Lib.hid (TQ.out.step hq); clear hq))
  go_wp2_with fail
  go_ret
  exact ⟨rfl, TQ.out.below⟩
set_option maxHeartbeats 20000000 in
theorem freePlays_first (E : Nat → Addr) (w : World) (aS : Option Addr) (cS n : Nat) (X : List St) (pg : Int) (ot : Nat) (hE : Errs all13 E w) (hT : TabAt13 w) (hX : Rd ST w aS n X) (h1 : pg < 4 ∨ 1048576 < pg) (h3 : 4 ≤ ot) (h4 : ot ≤ 1048576) :
    Calls Tryd.prog 12 #[.agg #[.int .i64 pg, .int .i64 ot, .slice aS n cS]] w fun e w' => e = .returned (.bool true) ∧ Below w.heap.size w w' := by
  replace h1 := Lib.hid h1
  replace h3 := Lib.hid h3
  replace h4 := Lib.hid h4
  have HE := Lib.hid hE
  have HT := Lib.hid hT
  have HX := Lib.hid hX
  clear hE hT hX
  obtain ⟨xs, hxs⟩ : ∃ xs : List Value, xs = [.int .i64 pg, .int .i64 ot, .slice aS n cS] := ⟨_, rfl⟩
  have k0 : xs[0]? = some (.int .i64 pg) := by rw [hxs]; rfl
  have k1 : xs[1]? = some (.int .i64 ot) := by rw [hxs]; rfl
  have k2 : xs[2]? = some (.slice aS n cS) := by rw [hxs]; rfl
  have TQ : Hid (Sep w (w.alloc (.cells #[.int .i64 pg, .int .i64 ot, .slice aS n cS] 75)) [blk w.heap.size 75 xs]) := Lib.hid (by rw [hxs]; exact (Sep.nil w).box 75 [.int .i64 pg, .int .i64 ot, .slice aS n cS])
  have K0 := Lib.hid k0
  have K1 := Lib.hid k1
  have K2 := Lib.hid k2
  clear hxs k0 k1 k2
  have t1 : True := trivial
  have t2 : True := trivial
  have t3 : True := trivial
  go_enter Tryd.func12, Tryd.ntmps12
  go_upto_region 7 with (first
    | (go_at_call 57; clear t1; refine (new57_no (HE.out.below TQ.out.below) pg h1.out).mono ?_; rintro e wq ⟨rfl, hq⟩; simp only [errV]; replace TQ := Lib.hid (TQ.out.step hq); clear hq; have c0 := blk_mem TQ.out (g := w.heap.size) (t := 75) (cs := xs) (by simp) 0 K0.out; have c1 := blk_mem TQ.out (g := w.heap.size) (t := 75) (cs := xs) (by simp) 1 K1.out)
    | (go_at_call 58; clear t2; refine (new58_no _ pg h1.out).mono ?_; rintro e wq ⟨rfl, hq⟩; replace TQ := Lib.hid (TQ.out.step hq); clear hq c0 c1; have c0 := blk_mem TQ.out (g := w.heap.size) (t := 75) (cs := xs) (by simp) 0 K0.out; have c1 := blk_mem TQ.out (g := w.heap.size) (t := 75) (cs := xs) (by simp) 1 K1.out)
    | (go_at_call 57; refine (new57_at TQ.out ot h3.out h4.out).mono ?_; rintro e wq ⟨p2, g2, rfl, Sq⟩; replace TQ := Lib.hid Sq; clear Sq c0 c1; have c0 := blk_mem TQ.out (g := w.heap.size) (t := 75) (cs := xs) (by simp) 0 K0.out; have c1 := blk_mem TQ.out (g := w.heap.size) (t := 75) (cs := xs) (by simp) 1 K1.out)
    | (go_at_call 58; refine (new58_yes TQ.out ot h3.out h4.out).mono ?_; rintro e wq ⟨rd, vd, rfl, Sq⟩; replace TQ := Lib.hid Sq; clear Sq c0 c1)
    | (go_at_call 23; clear t3; refine (numA E _ (HE.out.below TQ.out.below)).mono ?_; rintro e wq ⟨rfl, hq⟩; replace TQ := Lib.hid (TQ.out.step hq); clear hq)
    | (go_at_call 23; refine (numN E _ (HE.out.below TQ.out.below)).mono ?_; rintro e wq ⟨rfl, hq⟩; replace TQ := Lib.hid (TQ.out.step hq); clear hq))
  go_wp2_with fail
  go_ret
  exact ⟨rfl, TQ.out.below⟩
set_option maxHeartbeats 20000000 in
theorem freePlays_second (E : Nat → Addr) (w : World) (aS : Option Addr) (cS n : Nat) (X : List St) (pg : Nat) (ot : Int) (hE : Errs all13 E w) (hT : TabAt13 w) (hX : Rd ST w aS n X) (h1 : 4 ≤ pg) (h2 : pg ≤ 1048576) (h3 : ot < 4 ∨ 1048576 < ot) :
    Calls Tryd.prog 12 #[.agg #[.int .i64 pg, .int .i64 ot, .slice aS n cS]] w fun e w' => e = .returned (.bool true) ∧ Below w.heap.size w w' := by
  replace h1 := Lib.hid h1
  replace h2 := Lib.hid h2
  replace h3 := Lib.hid h3
  have HE := Lib.hid hE
  have HT := Lib.hid hT
  have HX := Lib.hid hX
  clear hE hT hX
  obtain ⟨xs, hxs⟩ : ∃ xs : List Value, xs = [.int .i64 pg, .int .i64 ot, .slice aS n cS] := ⟨_, rfl⟩
  have k0 : xs[0]? = some (.int .i64 pg) := by rw [hxs]; rfl
  have k1 : xs[1]? = some (.int .i64 ot) := by rw [hxs]; rfl
  have k2 : xs[2]? = some (.slice aS n cS) := by rw [hxs]; rfl
  have TQ : Hid (Sep w (w.alloc (.cells #[.int .i64 pg, .int .i64 ot, .slice aS n cS] 75)) [blk w.heap.size 75 xs]) := Lib.hid (by rw [hxs]; exact (Sep.nil w).box 75 [.int .i64 pg, .int .i64 ot, .slice aS n cS])
  have K0 := Lib.hid k0
  have K1 := Lib.hid k1
  have K2 := Lib.hid k2
  clear hxs k0 k1 k2
  have t1 : True := trivial
  have t2 : True := trivial
  have t3 : True := trivial
  go_enter Tryd.func12, Tryd.ntmps12
  go_upto_region 7 with (first
    | (go_at_call 57; clear t1; refine (new57_at TQ.out pg h1.out h2.out).mono ?_; rintro e wq ⟨p, g, rfl, Sq⟩; replace TQ := Lib.hid Sq; clear Sq; have c0 := blk_mem TQ.out (g := w.heap.size) (t := 75) (cs := xs) (by simp) 0 K0.out; have c1 := blk_mem TQ.out (g := w.heap.size) (t := 75) (cs := xs) (by simp) 1 K1.out)
    | (go_at_call 58; clear t2; refine (new58_yes TQ.out pg h1.out h2.out).mono ?_; rintro e wq ⟨rb, vb, rfl, Sq⟩; replace TQ := Lib.hid Sq; clear Sq c0 c1; have c0 := blk_mem TQ.out (g := w.heap.size) (t := 75) (cs := xs) (by simp) 0 K0.out; have c1 := blk_mem TQ.out (g := w.heap.size) (t := 75) (cs := xs) (by simp) 1 K1.out)
    | (go_at_call 57; refine (new57_no (HE.out.below TQ.out.below) ot h3.out).mono ?_; rintro e wq ⟨rfl, hq⟩; simp only [errV]; replace TQ := Lib.hid (TQ.out.step hq); clear hq c0 c1; have c0 := blk_mem TQ.out (g := w.heap.size) (t := 75) (cs := xs) (by simp) 0 K0.out; have c1 := blk_mem TQ.out (g := w.heap.size) (t := 75) (cs := xs) (by simp) 1 K1.out)
    | (go_at_call 58; refine (new58_no _ ot h3.out).mono ?_; rintro e wq ⟨rfl, hq⟩; replace TQ := Lib.hid (TQ.out.step hq); clear hq c0 c1)
    | (go_at_call 23; clear t3; refine (numN E _ (HE.out.below TQ.out.below)).mono ?_; rintro e wq ⟨rfl, hq⟩; replace TQ := Lib.hid (TQ.out.step hq); clear hq)
    | (go_at_call 23; refine (numA E _ (HE.out.below TQ.out.below)).mono ?_; rintro e wq ⟨rfl, hq⟩; replace TQ := Lib.hid (TQ.out.step hq); clear hq))
  go_wp2_with fail
  go_ret
  exact ⟨rfl, TQ.out.below⟩
set_option maxHeartbeats 40000000 in
theorem freePlays_both (E : Nat → Addr) (w : World) (aS : Option Addr) (cS n : Nat) (X : List St) (pg ot : Nat) (hE : Errs all13 E w) (hT : TabAt13 w) (hX : Rd ST w aS n X) (hn : n ≤ 1048576) (h1 : 4 ≤ pg) (h2 : pg ≤ 1048576) (h3 : 4 ≤ ot) (h4 : ot ≤ 1048576) :
    Calls Tryd.prog 12 #[.agg #[.int .i64 pg, .int .i64 ot, .slice aS n cS]] w fun e w' => e = .returned (.bool true) ∧ Below w.heap.size w w' := by
  replace h1 := Lib.hid h1
  replace h2 := Lib.hid h2
  replace h3 := Lib.hid h3
  replace h4 := Lib.hid h4
  have HE := Lib.hid hE
  have HT := Lib.hid hT
  have HX := Lib.hid hX
  clear hE hT hX
  obtain ⟨xs, hxs⟩ : ∃ xs : List Value, xs = [.int .i64 pg, .int .i64 ot, .slice aS n cS] := ⟨_, rfl⟩
  have k0 : xs[0]? = some (.int .i64 pg) := by rw [hxs]; rfl
  have k1 : xs[1]? = some (.int .i64 ot) := by rw [hxs]; rfl
  have k2 : xs[2]? = some (.slice aS n cS) := by rw [hxs]; rfl
  have TQ : Hid (Sep w (w.alloc (.cells #[.int .i64 pg, .int .i64 ot, .slice aS n cS] 75)) [blk w.heap.size 75 xs]) := Lib.hid (by rw [hxs]; exact (Sep.nil w).box 75 [.int .i64 pg, .int .i64 ot, .slice aS n cS])
  have K0 := Lib.hid k0
  have K1 := Lib.hid k1
  have K2 := Lib.hid k2
  clear hxs k0 k1 k2
  have t1 : True := trivial
  have t2 : True := trivial
  have t3 : True := trivial
  go_enter Tryd.func12, Tryd.ntmps12
  go_upto_region 7 with (first
    | (go_at_call 57; clear t1; refine (new57_at TQ.out pg h1.out h2.out).mono ?_; rintro e wq ⟨p, g, rfl, Sq⟩; replace TQ := Lib.hid Sq; clear Sq; have c0 := blk_mem TQ.out (g := w.heap.size) (t := 75) (cs := xs) (by simp) 0 K0.out; have c1 := blk_mem TQ.out (g := w.heap.size) (t := 75) (cs := xs) (by simp) 1 K1.out)
    | (go_at_call 58; clear t2; refine (new58_yes TQ.out pg h1.out h2.out).mono ?_; rintro e wq ⟨rb, vb, rfl, Sq⟩; replace TQ := Lib.hid Sq; clear Sq c0 c1; have c0 := blk_mem TQ.out (g := w.heap.size) (t := 75) (cs := xs) (by simp) 0 K0.out; have c1 := blk_mem TQ.out (g := w.heap.size) (t := 75) (cs := xs) (by simp) 1 K1.out)
    | (go_at_call 57; refine (new57_at TQ.out ot h3.out h4.out).mono ?_; rintro e wq ⟨p2, g2, rfl, Sq⟩; replace TQ := Lib.hid Sq; clear Sq c0 c1; have c0 := blk_mem TQ.out (g := w.heap.size) (t := 75) (cs := xs) (by simp) 0 K0.out; have c1 := blk_mem TQ.out (g := w.heap.size) (t := 75) (cs := xs) (by simp) 1 K1.out)
    | (go_at_call 58; refine (new58_yes TQ.out ot h3.out h4.out).mono ?_; rintro e wq ⟨rd, vd, rfl, Sq⟩; replace TQ := Lib.hid Sq; clear Sq c0 c1)
    | (go_at_call 23; clear t3; refine (numN E _ (HE.out.below TQ.out.below)).mono ?_; rintro e wq ⟨rfl, hq⟩; replace TQ := Lib.hid (TQ.out.step hq); clear hq)
    | (go_at_call 23; refine (numN E _ (HE.out.below TQ.out.below)).mono ?_; rintro e wq ⟨rfl, hq⟩; replace TQ := Lib.hid (TQ.out.step hq); clear hq))
  have TZ : Hid (Sep w _ (fm p g pg (newW pg) :: row IT vb (ints (refT pg (newW pg))) :: blk rb 158 [.int .i64 pg, vb] :: fm p2 g2 ot (newW ot) :: row IT vd (ints (refT ot (newW ot))) :: blk rd 158 [.int .i64 ot, vd] :: blk w.heap.size 75 xs :: row KT (.slice none 0 0) [] :: keptR [] [])) := Lib.hid (Sep.down [_, _, _, _, _, _, _] ((Sep.up5 (Sep.up4 (Sep.up4 (Sep.up2 TQ.out)))).none_ KT))
  clear TQ
  have TQ := Lib.hid TZ.out
  clear TZ
  go_wp2_with fail
  go_loopw [3, 5, 7, 9, 11, 12] (fun t3 t5 t7 t9 t11 t12 wr => ∃ k p g N rb p2 g2 M rd : Nat, k ≤ n ∧ t12 = .int .i64 k ∧ t3 = .pointer (some ⟨p, 0, none⟩) ∧ t5 = .pointer (some ⟨rb, 0, none⟩) ∧ t7 = .pointer (some ⟨p2, 0, none⟩) ∧ t9 = .pointer (some ⟨rd, 0, none⟩) ∧ Hid (∃ wa wc vb vd ss ls, FmInv N wa ∧ FmInv M wc ∧ Kept k ss ls ∧ Sep w wr (fm p g N wa :: row IT vb (ints (refT N wa)) :: blk rb 158 [.int .i64 N, vb] :: fm p2 g2 M wc :: row IT vd (ints (refT M wc)) :: blk rd 158 [.int .i64 M, vd] :: blk w.heap.size 75 xs :: row KT t11 ss :: keptR ss ls))) (fun _ _ _ _ _ t12 _ => n - (intOf t12).toNat)
  case atStart => exact ⟨0, p, g, pg, rb, p2, g2, ot, rd, Nat.zero_le _, rfl, rfl, rfl, rfl, rfl, ⟨_, _, _, _, [], [], inv_new h1.out h2.out, inv_new h3.out h4.out, Kept.start, TQ.out⟩⟩
  case round =>
    clear TQ
    obtain ⟨k, p, g, N, rb, p2, g2, M, rd, hk, rfl, rfl, rfl, rfl, rfl, hS⟩ := hrel
    obtain ⟨wa, wc, vb, vd, ss, ls, hI1, hI2, hK, hS1⟩ := hS.out
    have HIa := Lib.hid hI1
    have HIc := Lib.hid hI2
    have HK := Lib.hid hK
    have TQ := Lib.hid hS1
    clear hS hI1 hI2 hK hS1
    by_cases hlt : k < n
    · obtain ⟨b, o, x, rfl, hx, d0, d1, d2⟩ := rdS HX.out hlt
      obtain ⟨xk, xo, xn⟩ := x
      dsimp only at d0 d1 d2
      have c2 := blk_mem TQ.out (g := w.heap.size) (t := 75) (cs := xs) (by simp) 2 K2.out
      replace d0 := qcell d0 TQ.out.below
      replace d1 := qcell d1 TQ.out.below
      replace d2 := qcell d2 TQ.out.below
      have hbK := Lib.hid (show (ss.length + 1) * 24 ≤ 140737488355328 by have := HK.out.few; omega)
      clear hx
      cases hon : (xo.tmod 2 != 0)
      · by_cases hpar : k % 2 = 0
        · cases hk6 : (xk == 6)
          · have hz : True := trivial
            have ho : (xo.tmod 2 != 0) = false := hon
            have hp1 : (k : Int) % 2 = 0 := by omega
            have hp3 : (k : Int).tmod 2 = 0 := by rw [Int.tmod_eq_emod_of_nonneg (by omega)]; exact hp1
            have hq6 : (xk == 6) = false := hk6
            clear hon hpar hk6
            obtain ⟨er, a3, b3, ok3, l3, ws3, hA⟩ : ∃ er a b ok l ws', actA N wa xk xn = (⟨er, a, b, ok, l⟩, ws') := ⟨_, _, _, _, _, _, rfl⟩
            have hI3 := inv_act HIa.out xk xn
            rw [hA] at hI3
            have HI3 := Lib.hid hI3
            have HA := Lib.hid hA
            have HSH := Lib.hid (act_short HIa.out hA)
            clear hI3 hA
            go_wp2_with (go_at_call 53; refine (act53_at HE.out HT.out (Sep.up1 (TQ.out.box 84 [.int .i64 xk, .int .i64 xo, .int .i64 xn])) HIa.out.ok HA.out _).mono ?_; rintro e wq ⟨vz, rfl, Sq⟩; obtain ⟨a9, k9, c9, rfl, _, hk9⟩ := rdv_form (T := IT) (Sep.rdv Sq (.head _)); clear hk9; replace TQ := Lib.hid Sq; clear Sq c2 d0 d1 d2)
            replace TQ := Lib.hid (TQ.out.box 88 [.int .i64 (numOf er), .int .i64 a3, .int .i64 b3, .bool ok3, .slice a9 k9 c9]).drew
            generalize wr.heap.size = s at TQ ⊢
            generalize wq.heap.size = gt at TQ ⊢
            go_region_held3 (fun w' => w'.cell? ⟨gt, 0, none⟩ = some (.int .i64 (numOf er)) ∧ w'.cell? ⟨gt, 1, none⟩ = some (.int .i64 a3) ∧ w'.cell? ⟨gt, 2, none⟩ = some (.int .i64 b3) ∧ w'.cell? ⟨gt, 3, none⟩ = some (.bool ok3) ∧ w'.cell? ⟨gt, 4, none⟩ = some (.slice a9 k9 c9) ∧ w'.cell? ⟨s, 0, none⟩ = some (.int .i64 xk) ∧ w'.cell? ⟨s, 1, none⟩ = some (.int .i64 xo) ∧ w'.cell? ⟨s, 2, none⟩ = some (.int .i64 xn)) (first | exact ⟨blk_mem TQ.out (g := gt) (t := 88) (cs := [.int .i64 (numOf er), .int .i64 a3, .int .i64 b3, .bool ok3, .slice a9 k9 c9]) (by simp) 0 rfl, blk_mem TQ.out (g := gt) (t := 88) (cs := [.int .i64 (numOf er), .int .i64 a3, .int .i64 b3, .bool ok3, .slice a9 k9 c9]) (by simp) 1 rfl, blk_mem TQ.out (g := gt) (t := 88) (cs := [.int .i64 (numOf er), .int .i64 a3, .int .i64 b3, .bool ok3, .slice a9 k9 c9]) (by simp) 2 rfl, blk_mem TQ.out (g := gt) (t := 88) (cs := [.int .i64 (numOf er), .int .i64 a3, .int .i64 b3, .bool ok3, .slice a9 k9 c9]) (by simp) 3 rfl, blk_mem TQ.out (g := gt) (t := 88) (cs := [.int .i64 (numOf er), .int .i64 a3, .int .i64 b3, .bool ok3, .slice a9 k9 c9]) (by simp) 4 rfl, blk_mem TQ.out (g := s) (t := 84) (cs := [.int .i64 xk, .int .i64 xo, .int .i64 xn]) (by simp) 0 rfl, blk_mem TQ.out (g := s) (t := 84) (cs := [.int .i64 xk, .int .i64 xo, .int .i64 xn]) (by simp) 1 rfl, blk_mem TQ.out (g := s) (t := 84) (cs := [.int .i64 xk, .int .i64 xo, .int .i64 xn]) (by simp) 2 rfl⟩ | go_keep) (first
              | (go_at_call 59; refine (told59 (Sep.up5 (Sep.up5 TQ.out)) HIa.out HA.out _).mono ?_; rintro e wq2 ⟨vn2, vy, rfl, Sq⟩; replace TQ := Lib.hid Sq; clear Sq)
              | (go_at_call 56; refine (same56 _ _ _ _ (TQ.out.rdv (v := .slice a9 k9 c9) (l := ints l3) (by simp)) (TQ.out.rdv (v := vy) (l := ints l3) (by simp))).mono ?_; rintro e wq ⟨rfl, hq⟩; replace TQ := Lib.hid (TQ.out.step hq); clear hq)
              | (go_at_call 60; refine (spoil60 (Sep.up4 TQ.out) HSH.out).mono ?_; rintro e wq ⟨rfl, Sq⟩; replace TQ := Lib.hid Sq; clear Sq))
            all_goals
              replace TQ := Lib.hid (Sep.up2 (TQ.out.keepS (.cons _ (.cons_cons _ (.cons_cons _ (.cons _ (.refl _)))))))
              have d0 := blk_mem TQ.out (g := s) (t := 84) (cs := [.int .i64 xk, .int .i64 xo, .int .i64 xn]) (by simp) 0 rfl
              replace TQ := Lib.hid (TQ.out.keepS (.cons_cons _ (.cons_cons _ (.cons_cons _ (.cons _ (.refl _))))))
              have q1 : True := trivial
              have q2 : True := trivial
              go_wp2_with (first
                | (go_at_call 63; clear q1; refine (free_at TQ.out HI3.out.ok).mono ?_; rintro e wq ⟨rfl, hq⟩; replace TQ := Lib.hid (TQ.out.step hq); clear hq)
                | (go_at_call 64; clear q2; refine (free64 (Sep.up2 (Sep.up2 TQ.out)) HI3.out).mono ?_; rintro e wq ⟨rfl, hq⟩; replace TQ := Lib.hid (TQ.out.step hq); clear hq)
                | (go_at_call 63; refine (free_at (Sep.up3 TQ.out) HIc.out.ok).mono ?_; rintro e wq ⟨rfl, hq⟩; replace TQ := Lib.hid (TQ.out.step hq); clear hq)
                | (go_at_call 64; refine (free64 (Sep.up5 (Sep.up5 TQ.out)) HIc.out).mono ?_; rintro e wq ⟨rfl, hq⟩; replace TQ := Lib.hid (TQ.out.step hq); clear hq))
              go_roundw
              case rel => exact ⟨k + 1, p, g, N, rb, p2, g2, M, rd, by omega, by go_num, rfl, rfl, rfl, rfl, ⟨_, _, _, _, ss, ls, HI3.out, HIc.out, HK.out.more, TQ.out⟩⟩
              case measure => simp [intOf]; omega
          · have hz : True := trivial
            have ho : (xo.tmod 2 != 0) = false := hon
            have hp1 : (k : Int) % 2 = 0 := by omega
            have hp3 : (k : Int).tmod 2 = 0 := by rw [Int.tmod_eq_emod_of_nonneg (by omega)]; exact hp1
            have hq6 : (xk == 6) = true := hk6
            clear hon hpar hk6
            obtain ⟨er, a3, b3, ok3, l3, ws3, hA⟩ : ∃ er a b ok l ws', actA N wa xk xn = (⟨er, a, b, ok, l⟩, ws') := ⟨_, _, _, _, _, _, rfl⟩
            have hI3 := inv_act HIa.out xk xn
            rw [hA] at hI3
            have HI3 := Lib.hid hI3
            have HA := Lib.hid hA
            have HSH := Lib.hid (act_short HIa.out hA)
            clear hI3 hA
            go_wp2_with (go_at_call 53; refine (act53_at HE.out HT.out (Sep.up1 (TQ.out.box 84 [.int .i64 xk, .int .i64 xo, .int .i64 xn])) HIa.out.ok HA.out _).mono ?_; rintro e wq ⟨vz, rfl, Sq⟩; obtain ⟨a9, k9, c9, rfl, _, hk9⟩ := rdv_form (T := IT) (Sep.rdv Sq (.head _)); clear hk9; replace TQ := Lib.hid Sq; clear Sq c2 d0 d1 d2)
            replace TQ := Lib.hid (TQ.out.box 88 [.int .i64 (numOf er), .int .i64 a3, .int .i64 b3, .bool ok3, .slice a9 k9 c9]).drew
            generalize wr.heap.size = s at TQ ⊢
            generalize wq.heap.size = gt at TQ ⊢
            go_region_held3 (fun w' => w'.cell? ⟨gt, 0, none⟩ = some (.int .i64 (numOf er)) ∧ w'.cell? ⟨gt, 1, none⟩ = some (.int .i64 a3) ∧ w'.cell? ⟨gt, 2, none⟩ = some (.int .i64 b3) ∧ w'.cell? ⟨gt, 3, none⟩ = some (.bool ok3) ∧ w'.cell? ⟨gt, 4, none⟩ = some (.slice a9 k9 c9) ∧ w'.cell? ⟨s, 0, none⟩ = some (.int .i64 xk) ∧ w'.cell? ⟨s, 1, none⟩ = some (.int .i64 xo) ∧ w'.cell? ⟨s, 2, none⟩ = some (.int .i64 xn)) (first | exact ⟨blk_mem TQ.out (g := gt) (t := 88) (cs := [.int .i64 (numOf er), .int .i64 a3, .int .i64 b3, .bool ok3, .slice a9 k9 c9]) (by simp) 0 rfl, blk_mem TQ.out (g := gt) (t := 88) (cs := [.int .i64 (numOf er), .int .i64 a3, .int .i64 b3, .bool ok3, .slice a9 k9 c9]) (by simp) 1 rfl, blk_mem TQ.out (g := gt) (t := 88) (cs := [.int .i64 (numOf er), .int .i64 a3, .int .i64 b3, .bool ok3, .slice a9 k9 c9]) (by simp) 2 rfl, blk_mem TQ.out (g := gt) (t := 88) (cs := [.int .i64 (numOf er), .int .i64 a3, .int .i64 b3, .bool ok3, .slice a9 k9 c9]) (by simp) 3 rfl, blk_mem TQ.out (g := gt) (t := 88) (cs := [.int .i64 (numOf er), .int .i64 a3, .int .i64 b3, .bool ok3, .slice a9 k9 c9]) (by simp) 4 rfl, blk_mem TQ.out (g := s) (t := 84) (cs := [.int .i64 xk, .int .i64 xo, .int .i64 xn]) (by simp) 0 rfl, blk_mem TQ.out (g := s) (t := 84) (cs := [.int .i64 xk, .int .i64 xo, .int .i64 xn]) (by simp) 1 rfl, blk_mem TQ.out (g := s) (t := 84) (cs := [.int .i64 xk, .int .i64 xo, .int .i64 xn]) (by simp) 2 rfl⟩ | go_keep) (first
              | (go_at_call 59; refine (told59 (Sep.up5 (Sep.up5 TQ.out)) HIa.out HA.out _).mono ?_; rintro e wq2 ⟨vn2, vy, rfl, Sq⟩; replace TQ := Lib.hid Sq; clear Sq)
              | (go_at_call 56; refine (same56 _ _ _ _ (TQ.out.rdv (v := .slice a9 k9 c9) (l := ints l3) (by simp)) (TQ.out.rdv (v := vy) (l := ints l3) (by simp))).mono ?_; rintro e wq ⟨rfl, hq⟩; replace TQ := Lib.hid (TQ.out.step hq); clear hq)
              | (go_at_call 60; refine (spoil60 (Sep.up4 TQ.out) HSH.out).mono ?_; rintro e wq ⟨rfl, Sq⟩; replace TQ := Lib.hid Sq; clear Sq))
            all_goals
              replace TQ := Lib.hid (Sep.up2 (TQ.out.keepS (.cons _ (.cons_cons _ (.cons_cons _ (.cons _ (.refl _)))))))
              have d0 := blk_mem TQ.out (g := s) (t := 84) (cs := [.int .i64 xk, .int .i64 xo, .int .i64 xn]) (by simp) 0 rfl
              have q1 : True := trivial
              have q2 : True := trivial
              go_wp2_with (first
                | (go_at_call 61; refine (copy61 TQ.out HI3.out.ok).mono ?_; rintro e wq ⟨pn, gn, rfl, Sq⟩; replace TQ := Lib.hid (Sep.up3 (Sep.up3 Sq)); clear Sq d0)
                | (go_at_call 62; refine (copy62 TQ.out (refT_short HI3.out)).mono ?_; rintro e wq ⟨rn, vn, rfl, Sq⟩; have d1 := blk_mem Sq (g := s) (t := 84) (cs := [.int .i64 xk, .int .i64 xo, .int .i64 xn]) (by simp) 1 rfl; replace TQ := Lib.hid (Sep.keepS (Sep.up5 (Sep.up4 (Sep.up4 (Sep.up4 (Sep.keepS Sq (.cons_cons _ (.cons_cons _ (.cons_cons _ (.cons_cons _ (.cons_cons _ (.cons_cons _ (.cons_cons _ (.cons _ (.cons _ (.cons _ (.refl _)))))))))))))))) (.cons_cons _ (.cons_cons _ (.cons_cons _ (.cons_cons _ (.cons_cons _ (.cons_cons _ (.cons _ (.refl _))))))))); clear Sq)
                | (go_at_call 63; clear q1; refine (free_at TQ.out HI3.out.ok).mono ?_; rintro e wq ⟨rfl, hq⟩; replace TQ := Lib.hid (TQ.out.step hq); clear hq)
                | (go_at_call 64; clear q2; refine (free64 (Sep.up2 (Sep.up2 TQ.out)) HI3.out).mono ?_; rintro e wq ⟨rfl, hq⟩; replace TQ := Lib.hid (TQ.out.step hq); clear hq)
                | (go_at_call 63; refine (free_at (Sep.up3 TQ.out) HI3.out.ok).mono ?_; rintro e wq ⟨rfl, hq⟩; replace TQ := Lib.hid (TQ.out.step hq); clear hq)
                | (go_at_call 64; refine (free64 (Sep.up5 (Sep.up5 TQ.out)) HI3.out).mono ?_; rintro e wq ⟨rfl, hq⟩; replace TQ := Lib.hid (TQ.out.step hq); clear hq))
              go_roundw
              case rel => exact ⟨k + 1, p, g, N, rb, pn, gn, N, rn, by omega, by go_num, rfl, rfl, rfl, rfl, ⟨_, _, _, _, ss, ls, HI3.out, HI3.out, HK.out.more, TQ.out⟩⟩
              case measure => simp [intOf]; omega
        · cases hk6 : (xk == 6)
          · have hz : True := trivial
            have ho : (xo.tmod 2 != 0) = false := hon
            have hp1 : (k : Int) % 2 = 1 := by omega
            have hp3 : (k : Int).tmod 2 = 1 := by rw [Int.tmod_eq_emod_of_nonneg (by omega)]; exact hp1
            have hq6 : (xk == 6) = false := hk6
            clear hon hpar hk6
            obtain ⟨er, a3, b3, ok3, l3, ws3, hA⟩ : ∃ er a b ok l ws', actA N wa xk xn = (⟨er, a, b, ok, l⟩, ws') := ⟨_, _, _, _, _, _, rfl⟩
            have hI3 := inv_act HIa.out xk xn
            rw [hA] at hI3
            have HI3 := Lib.hid hI3
            have HA := Lib.hid hA
            have HSH := Lib.hid (act_short HIa.out hA)
            clear hI3 hA
            go_wp2_with (go_at_call 53; refine (act53_at HE.out HT.out (Sep.up1 (TQ.out.box 84 [.int .i64 xk, .int .i64 xo, .int .i64 xn])) HIa.out.ok HA.out _).mono ?_; rintro e wq ⟨vz, rfl, Sq⟩; obtain ⟨a9, k9, c9, rfl, _, hk9⟩ := rdv_form (T := IT) (Sep.rdv Sq (.head _)); clear hk9; replace TQ := Lib.hid Sq; clear Sq c2 d0 d1 d2)
            replace TQ := Lib.hid (TQ.out.box 88 [.int .i64 (numOf er), .int .i64 a3, .int .i64 b3, .bool ok3, .slice a9 k9 c9]).drew
            generalize wr.heap.size = s at TQ ⊢
            generalize wq.heap.size = gt at TQ ⊢
            refine wp_region_held_drew (S := fun w' => w'.cell? ⟨gt, 0, none⟩ = some (.int .i64 (numOf er)) ∧ w'.cell? ⟨gt, 1, none⟩ = some (.int .i64 a3) ∧ w'.cell? ⟨gt, 2, none⟩ = some (.int .i64 b3) ∧ w'.cell? ⟨gt, 3, none⟩ = some (.bool ok3) ∧ w'.cell? ⟨gt, 4, none⟩ = some (.slice a9 k9 c9) ∧ w'.cell? ⟨s, 0, none⟩ = some (.int .i64 xk) ∧ w'.cell? ⟨s, 1, none⟩ = some (.int .i64 xo) ∧ w'.cell? ⟨s, 2, none⟩ = some (.int .i64 xn)) (by kernel_rfl) ⟨blk_mem TQ.out (g := gt) (t := 88) (cs := [.int .i64 (numOf er), .int .i64 a3, .int .i64 b3, .bool ok3, .slice a9 k9 c9]) (by simp) 0 rfl, blk_mem TQ.out (g := gt) (t := 88) (cs := [.int .i64 (numOf er), .int .i64 a3, .int .i64 b3, .bool ok3, .slice a9 k9 c9]) (by simp) 1 rfl, blk_mem TQ.out (g := gt) (t := 88) (cs := [.int .i64 (numOf er), .int .i64 a3, .int .i64 b3, .bool ok3, .slice a9 k9 c9]) (by simp) 2 rfl, blk_mem TQ.out (g := gt) (t := 88) (cs := [.int .i64 (numOf er), .int .i64 a3, .int .i64 b3, .bool ok3, .slice a9 k9 c9]) (by simp) 3 rfl, blk_mem TQ.out (g := gt) (t := 88) (cs := [.int .i64 (numOf er), .int .i64 a3, .int .i64 b3, .bool ok3, .slice a9 k9 c9]) (by simp) 4 rfl, blk_mem TQ.out (g := s) (t := 84) (cs := [.int .i64 xk, .int .i64 xo, .int .i64 xn]) (by simp) 0 rfl, blk_mem TQ.out (g := s) (t := 84) (cs := [.int .i64 xk, .int .i64 xo, .int .i64 xn]) (by simp) 1 rfl, blk_mem TQ.out (g := s) (t := 84) (cs := [.int .i64 xk, .int .i64 xo, .int .i64 xn]) (by simp) 2 rfl⟩ (fun hHeld => ?_)
            refine wpAnyH_take (i := 0) (v := .agg #[.int .i64 (numOf er), .int .i64 a3, .int .i64 b3, .bool ok3, .slice a9 k9 c9]) rfl (by kernel_rfl) (by kernel_rfl) (by kernel_rfl) (fun _ _ _ h => h) (Or.inl ⟨by kernel_rfl, fun w' hSw => ?_⟩) (by assumption) ?_
            · obtain ⟨e0, e1, e2, e3, e4, e5, e6, e7⟩ := hSw
              go_simp
            try simp only [List.getElem_toArray, List.getElem_cons_succ, List.getElem_cons_zero, Act.put, List.setIfInBounds_toArray, List.set_cons_zero, List.set_cons_succ]
            refine wpAnyH_take (i := 1) (v := .pointer (some ⟨rb, 0, none⟩)) rfl (by kernel_rfl) (by kernel_rfl) (by kernel_rfl) (fun _ _ _ h => h) (Or.inl ⟨by kernel_rfl, fun w' hSw => ?_⟩) (by assumption) ?_
            · obtain ⟨e0, e1, e2, e3, e4, e5, e6, e7⟩ := hSw
              go_simp
            try simp only [List.getElem_toArray, List.getElem_cons_succ, List.getElem_cons_zero, Act.put, List.setIfInBounds_toArray, List.set_cons_zero, List.set_cons_succ]
            refine wpAnyH_take (i := 2) (v := .agg #[.int .i64 xk, .int .i64 xo, .int .i64 xn]) rfl (by kernel_rfl) (by kernel_rfl) (by kernel_rfl) (fun _ _ _ h => h) (Or.inl ⟨by kernel_rfl, fun w' hSw => ?_⟩) (by assumption) ?_
            · obtain ⟨e0, e1, e2, e3, e4, e5, e6, e7⟩ := hSw
              go_simp
            try simp only [List.getElem_toArray, List.getElem_cons_succ, List.getElem_cons_zero, Act.put, List.setIfInBounds_toArray, List.set_cons_zero, List.set_cons_succ]
            refine wpAnyH_ready (rs := [3]) (by kernel_rfl) (by simp) ?_
            refine AllReadyH.cons rfl (fun K hKK => ?_) AllReadyH.nil
            go_simp
            go_at_call 59; refine (told59 (Sep.up5 (Sep.up5 TQ.out)) HIa.out HA.out _).mono ?_; rintro e wq2 ⟨vn2, vy, rfl, Sq⟩; replace TQ := Lib.hid Sq; clear Sq
            refine hKK.out _ _ ⟨blk_mem TQ.out (g := gt) (t := 88) (cs := [.int .i64 (numOf er), .int .i64 a3, .int .i64 b3, .bool ok3, .slice a9 k9 c9]) (by simp) 0 rfl, blk_mem TQ.out (g := gt) (t := 88) (cs := [.int .i64 (numOf er), .int .i64 a3, .int .i64 b3, .bool ok3, .slice a9 k9 c9]) (by simp) 1 rfl, blk_mem TQ.out (g := gt) (t := 88) (cs := [.int .i64 (numOf er), .int .i64 a3, .int .i64 b3, .bool ok3, .slice a9 k9 c9]) (by simp) 2 rfl, blk_mem TQ.out (g := gt) (t := 88) (cs := [.int .i64 (numOf er), .int .i64 a3, .int .i64 b3, .bool ok3, .slice a9 k9 c9]) (by simp) 3 rfl, blk_mem TQ.out (g := gt) (t := 88) (cs := [.int .i64 (numOf er), .int .i64 a3, .int .i64 b3, .bool ok3, .slice a9 k9 c9]) (by simp) 4 rfl, blk_mem TQ.out (g := s) (t := 84) (cs := [.int .i64 xk, .int .i64 xo, .int .i64 xn]) (by simp) 0 rfl, blk_mem TQ.out (g := s) (t := 84) (cs := [.int .i64 xk, .int .i64 xo, .int .i64 xn]) (by simp) 1 rfl, blk_mem TQ.out (g := s) (t := 84) (cs := [.int .i64 xk, .int .i64 xo, .int .i64 xn]) (by simp) 2 rfl⟩ (fun hHeld2 => ?_)
            clear hKK K
            clear hHeld
            have hHeld := hHeld2
            clear hHeld2
            try simp only [List.getElem_toArray, List.getElem_cons_succ, List.getElem_cons_zero, Act.put, List.setIfInBounds_toArray, List.set_cons_zero, List.set_cons_succ]
            refine wpAnyH_ready (rs := [4]) (by kernel_rfl) (by simp) ?_
            refine AllReadyH.cons rfl (fun K hKK => ?_) AllReadyH.nil
            go_simp
            go_at_call 56; refine (same56 _ _ _ _ (TQ.out.rdv (v := .slice a9 k9 c9) (l := ints l3) (by simp)) (TQ.out.rdv (v := vy) (l := ints l3) (by simp))).mono ?_; rintro e wq ⟨rfl, hq⟩; replace TQ := Lib.hid (TQ.out.step hq); clear hq
            refine hKK.out _ _ ⟨blk_mem TQ.out (g := gt) (t := 88) (cs := [.int .i64 (numOf er), .int .i64 a3, .int .i64 b3, .bool ok3, .slice a9 k9 c9]) (by simp) 0 rfl, blk_mem TQ.out (g := gt) (t := 88) (cs := [.int .i64 (numOf er), .int .i64 a3, .int .i64 b3, .bool ok3, .slice a9 k9 c9]) (by simp) 1 rfl, blk_mem TQ.out (g := gt) (t := 88) (cs := [.int .i64 (numOf er), .int .i64 a3, .int .i64 b3, .bool ok3, .slice a9 k9 c9]) (by simp) 2 rfl, blk_mem TQ.out (g := gt) (t := 88) (cs := [.int .i64 (numOf er), .int .i64 a3, .int .i64 b3, .bool ok3, .slice a9 k9 c9]) (by simp) 3 rfl, blk_mem TQ.out (g := gt) (t := 88) (cs := [.int .i64 (numOf er), .int .i64 a3, .int .i64 b3, .bool ok3, .slice a9 k9 c9]) (by simp) 4 rfl, blk_mem TQ.out (g := s) (t := 84) (cs := [.int .i64 xk, .int .i64 xo, .int .i64 xn]) (by simp) 0 rfl, blk_mem TQ.out (g := s) (t := 84) (cs := [.int .i64 xk, .int .i64 xo, .int .i64 xn]) (by simp) 1 rfl, blk_mem TQ.out (g := s) (t := 84) (cs := [.int .i64 xk, .int .i64 xo, .int .i64 xn]) (by simp) 2 rfl⟩ (fun hHeld2 => ?_)
            clear hKK K
            clear hHeld
            have hHeld := hHeld2
            clear hHeld2
            try simp only [List.getElem_toArray, List.getElem_cons_succ, List.getElem_cons_zero, Act.put, List.setIfInBounds_toArray, List.set_cons_zero, List.set_cons_succ]
            refine wpAnyH_take (i := 5) (v := .bool false) rfl (by kernel_rfl) (by kernel_rfl) (by kernel_rfl) (fun _ _ _ h => h) (Or.inl ⟨by kernel_rfl, fun w' hSw => ?_⟩) (by assumption) ?_
            · obtain ⟨e0, e1, e2, e3, e4, e5, e6, e7⟩ := hSw
              go_simp
            try simp only [List.getElem_toArray, List.getElem_cons_succ, List.getElem_cons_zero, Act.put, List.setIfInBounds_toArray, List.set_cons_zero, List.set_cons_succ]
            refine wpAnyH_take (i := 6) (v := .bool false) rfl (by kernel_rfl) (by kernel_rfl) (by kernel_rfl) (fun _ _ _ h => h) (Or.inl ⟨by kernel_rfl, fun w' hSw => ?_⟩) (by assumption) ?_
            · obtain ⟨e0, e1, e2, e3, e4, e5, e6, e7⟩ := hSw
              go_simp
            try simp only [List.getElem_toArray, List.getElem_cons_succ, List.getElem_cons_zero, Act.put, List.setIfInBounds_toArray, List.set_cons_zero, List.set_cons_succ]
            refine wpAnyH_take (i := 7) (v := .int .i64 k) rfl (by kernel_rfl) (by kernel_rfl) (by kernel_rfl) (fun _ _ _ h => h) (Or.inl ⟨by kernel_rfl, fun w' hSw => ?_⟩) (by assumption) ?_
            · obtain ⟨e0, e1, e2, e3, e4, e5, e6, e7⟩ := hSw
              go_simp
            try simp only [List.getElem_toArray, List.getElem_cons_succ, List.getElem_cons_zero, Act.put, List.setIfInBounds_toArray, List.set_cons_zero, List.set_cons_succ]
            refine wpAnyH_take (i := 8) (v := .int .i64 1) rfl (by kernel_rfl) (by kernel_rfl) (by kernel_rfl) (fun _ _ _ h => h) (Or.inl ⟨by kernel_rfl, fun w' hSw => ?_⟩) (by assumption) ?_
            · obtain ⟨e0, e1, e2, e3, e4, e5, e6, e7⟩ := hSw
              go_simp
            try simp only [List.getElem_toArray, List.getElem_cons_succ, List.getElem_cons_zero, Act.put, List.setIfInBounds_toArray, List.set_cons_zero, List.set_cons_succ]
            refine wpAnyH_take (i := 9) (v := .bool false) rfl (by kernel_rfl) (by kernel_rfl) (by kernel_rfl) (fun _ _ _ h => h) (Or.inl ⟨by kernel_rfl, fun w' hSw => ?_⟩) (by assumption) ?_
            · obtain ⟨e0, e1, e2, e3, e4, e5, e6, e7⟩ := hSw
              go_simp
            try simp only [List.getElem_toArray, List.getElem_cons_succ, List.getElem_cons_zero, Act.put, List.setIfInBounds_toArray, List.set_cons_zero, List.set_cons_succ]
            refine wpAnyH_take (i := 10) (v := .bool false) rfl (by kernel_rfl) (by kernel_rfl) (by kernel_rfl) (fun _ _ _ h => h) (Or.inl ⟨by kernel_rfl, fun w' hSw => ?_⟩) (by assumption) ?_
            · obtain ⟨e0, e1, e2, e3, e4, e5, e6, e7⟩ := hSw
              go_simp
            try simp only [List.getElem_toArray, List.getElem_cons_succ, List.getElem_cons_zero, Act.put, List.setIfInBounds_toArray, List.set_cons_zero, List.set_cons_succ]
            refine wpAnyH_take (i := 11) (v := undef) rfl (by kernel_rfl) (by kernel_rfl) (by kernel_rfl) (fun _ _ _ h => h) (Or.inr ⟨by kernel_rfl, rfl⟩) (by assumption) ?_
            try simp only [List.getElem_toArray, List.getElem_cons_succ, List.getElem_cons_zero, Act.put, List.setIfInBounds_toArray, List.set_cons_zero, List.set_cons_succ]
            refine wpAnyH_take (i := 12) (v := undef) rfl (by kernel_rfl) (by kernel_rfl) (by kernel_rfl) (fun _ _ _ h => h) (Or.inr ⟨by kernel_rfl, rfl⟩) (by assumption) ?_
            try simp only [List.getElem_toArray, List.getElem_cons_succ, List.getElem_cons_zero, Act.put, List.setIfInBounds_toArray, List.set_cons_zero, List.set_cons_succ]
            refine wpAnyH_take (i := 13) (v := undef) rfl (by kernel_rfl) (by kernel_rfl) (by kernel_rfl) (fun _ _ _ h => h) (Or.inr ⟨by kernel_rfl, rfl⟩) (by assumption) ?_
            try simp only [List.getElem_toArray, List.getElem_cons_succ, List.getElem_cons_zero, Act.put, List.setIfInBounds_toArray, List.set_cons_zero, List.set_cons_succ]
            refine wpAnyH_take (i := 14) (v := undef) rfl (by kernel_rfl) (by kernel_rfl) (by kernel_rfl) (fun _ _ _ h => h) (Or.inr ⟨by kernel_rfl, rfl⟩) (by assumption) ?_
            try simp only [List.getElem_toArray, List.getElem_cons_succ, List.getElem_cons_zero, Act.put, List.setIfInBounds_toArray, List.set_cons_zero, List.set_cons_succ]
            refine wpAnyH_take (i := 15) (v := .bool false) rfl (by kernel_rfl) (by kernel_rfl) (by kernel_rfl) (fun _ _ _ h => h) (Or.inl ⟨by kernel_rfl, fun w' hSw => ?_⟩) (by assumption) ?_
            · obtain ⟨e0, e1, e2, e3, e4, e5, e6, e7⟩ := hSw
              go_simp
            try simp only [List.getElem_toArray, List.getElem_cons_succ, List.getElem_cons_zero, Act.put, List.setIfInBounds_toArray, List.set_cons_zero, List.set_cons_succ]
            refine wpAnyH_take (i := 16) (v := .bool false) rfl (by kernel_rfl) (by kernel_rfl) (by kernel_rfl) (fun _ _ _ h => h) (Or.inl ⟨by kernel_rfl, fun w' hSw => ?_⟩) (by assumption) ?_
            · obtain ⟨e0, e1, e2, e3, e4, e5, e6, e7⟩ := hSw
              go_simp
            try simp only [List.getElem_toArray, List.getElem_cons_succ, List.getElem_cons_zero, Act.put, List.setIfInBounds_toArray, List.set_cons_zero, List.set_cons_succ]
            refine wpAnyH_done (by kernel_rfl) ?_ _
            clear hHeld
            all_goals
              replace TQ := Lib.hid (Sep.up4 (TQ.out.keepS (.cons _ (.refl _))))
              have d0 := blk_mem TQ.out (g := s) (t := 84) (cs := [.int .i64 xk, .int .i64 xo, .int .i64 xn]) (by simp) 0 rfl
              have g4 := blk_mem TQ.out (g := gt) (t := 88) (cs := [.int .i64 (numOf er), .int .i64 a3, .int .i64 b3, .bool ok3, .slice a9 k9 c9]) (by simp) 4 rfl
              have q1 : True := trivial
              have q2 : True := trivial
              go_wp2_with (first
                | (at_builtin; refine app_sep elemK rfl (.tmp 119) (.tmp 122) rfl u11 ss rfl ((Sep.up [_, _, _, _, _, _, _, _, _, _] TQ.out).alloc _) _ 1 1 [⟨a9, k9, c9⟩] rfl (rd_new KT _ ⟨a9, k9, c9⟩ _ rfl 86) hbK.out ?_; intro v11 w11 Sq hkp; obtain ⟨a11, k11, c11, rfl, _, hk11⟩ := rdv_form (T := KT) (Sep.rdv Sq (.head _)); clear hk11; replace TQ := Lib.hid (Sep.down [_, _, _, _, _, _, _, _] (Sep.keepS (sep_add (X := [_, _, _, _, _, _, _, _, _, _]) (s := ⟨a9, k9, c9⟩) (Sep.up5 Sq) HK.out.len) (.cons_cons _ (.cons_cons _ (.cons_cons _ (.cons_cons _ (.cons _ (.refl _)))))))); clear Sq hkp d0 g4; have d0 := blk_mem TQ.out (g := s) (t := 84) (cs := [.int .i64 xk, .int .i64 xo, .int .i64 xn]) (by simp) 0 rfl; replace TQ := Lib.hid (TQ.out.keepS (.cons_cons _ (.cons_cons _ (.cons_cons _ (.cons _ (.refl _)))))))
                | (go_at_call 63; clear q1; refine (free_at TQ.out HI3.out.ok).mono ?_; rintro e wq ⟨rfl, hq⟩; replace TQ := Lib.hid (TQ.out.step hq); clear hq)
                | (go_at_call 64; clear q2; refine (free64 (Sep.up2 (Sep.up2 TQ.out)) HI3.out).mono ?_; rintro e wq ⟨rfl, hq⟩; replace TQ := Lib.hid (TQ.out.step hq); clear hq)
                | (go_at_call 63; refine (free_at (Sep.up3 TQ.out) HIc.out.ok).mono ?_; rintro e wq ⟨rfl, hq⟩; replace TQ := Lib.hid (TQ.out.step hq); clear hq)
                | (go_at_call 64; refine (free64 (Sep.up5 (Sep.up5 TQ.out)) HIc.out).mono ?_; rintro e wq ⟨rfl, hq⟩; replace TQ := Lib.hid (TQ.out.step hq); clear hq))
              go_roundw
              case rel => exact ⟨k + 1, p, g, N, rb, p2, g2, M, rd, by omega, by go_num, rfl, rfl, rfl, rfl, ⟨_, _, _, _, (ss ++ [⟨a9, k9, c9⟩]), (ls ++ [ints l3]), HI3.out, HIc.out, HK.out.add ⟨a9, k9, c9⟩ HSH.out, TQ.out⟩⟩
              case measure => simp [intOf]; omega
          · have hz : True := trivial
            have ho : (xo.tmod 2 != 0) = false := hon
            have hp1 : (k : Int) % 2 = 1 := by omega
            have hp3 : (k : Int).tmod 2 = 1 := by rw [Int.tmod_eq_emod_of_nonneg (by omega)]; exact hp1
            have hq6 : (xk == 6) = true := hk6
            clear hon hpar hk6
            obtain ⟨er, a3, b3, ok3, l3, ws3, hA⟩ : ∃ er a b ok l ws', actA N wa xk xn = (⟨er, a, b, ok, l⟩, ws') := ⟨_, _, _, _, _, _, rfl⟩
            have hI3 := inv_act HIa.out xk xn
            rw [hA] at hI3
            have HI3 := Lib.hid hI3
            have HA := Lib.hid hA
            have HSH := Lib.hid (act_short HIa.out hA)
            clear hI3 hA
            go_wp2_with (go_at_call 53; refine (act53_at HE.out HT.out (Sep.up1 (TQ.out.box 84 [.int .i64 xk, .int .i64 xo, .int .i64 xn])) HIa.out.ok HA.out _).mono ?_; rintro e wq ⟨vz, rfl, Sq⟩; obtain ⟨a9, k9, c9, rfl, _, hk9⟩ := rdv_form (T := IT) (Sep.rdv Sq (.head _)); clear hk9; replace TQ := Lib.hid Sq; clear Sq c2 d0 d1 d2)
            replace TQ := Lib.hid (TQ.out.box 88 [.int .i64 (numOf er), .int .i64 a3, .int .i64 b3, .bool ok3, .slice a9 k9 c9]).drew
            generalize wr.heap.size = s at TQ ⊢
            generalize wq.heap.size = gt at TQ ⊢
            refine wp_region_held_drew (S := fun w' => w'.cell? ⟨gt, 0, none⟩ = some (.int .i64 (numOf er)) ∧ w'.cell? ⟨gt, 1, none⟩ = some (.int .i64 a3) ∧ w'.cell? ⟨gt, 2, none⟩ = some (.int .i64 b3) ∧ w'.cell? ⟨gt, 3, none⟩ = some (.bool ok3) ∧ w'.cell? ⟨gt, 4, none⟩ = some (.slice a9 k9 c9) ∧ w'.cell? ⟨s, 0, none⟩ = some (.int .i64 xk) ∧ w'.cell? ⟨s, 1, none⟩ = some (.int .i64 xo) ∧ w'.cell? ⟨s, 2, none⟩ = some (.int .i64 xn)) (by kernel_rfl) ⟨blk_mem TQ.out (g := gt) (t := 88) (cs := [.int .i64 (numOf er), .int .i64 a3, .int .i64 b3, .bool ok3, .slice a9 k9 c9]) (by simp) 0 rfl, blk_mem TQ.out (g := gt) (t := 88) (cs := [.int .i64 (numOf er), .int .i64 a3, .int .i64 b3, .bool ok3, .slice a9 k9 c9]) (by simp) 1 rfl, blk_mem TQ.out (g := gt) (t := 88) (cs := [.int .i64 (numOf er), .int .i64 a3, .int .i64 b3, .bool ok3, .slice a9 k9 c9]) (by simp) 2 rfl, blk_mem TQ.out (g := gt) (t := 88) (cs := [.int .i64 (numOf er), .int .i64 a3, .int .i64 b3, .bool ok3, .slice a9 k9 c9]) (by simp) 3 rfl, blk_mem TQ.out (g := gt) (t := 88) (cs := [.int .i64 (numOf er), .int .i64 a3, .int .i64 b3, .bool ok3, .slice a9 k9 c9]) (by simp) 4 rfl, blk_mem TQ.out (g := s) (t := 84) (cs := [.int .i64 xk, .int .i64 xo, .int .i64 xn]) (by simp) 0 rfl, blk_mem TQ.out (g := s) (t := 84) (cs := [.int .i64 xk, .int .i64 xo, .int .i64 xn]) (by simp) 1 rfl, blk_mem TQ.out (g := s) (t := 84) (cs := [.int .i64 xk, .int .i64 xo, .int .i64 xn]) (by simp) 2 rfl⟩ (fun hHeld => ?_)
            refine wpAnyH_take (i := 0) (v := .agg #[.int .i64 (numOf er), .int .i64 a3, .int .i64 b3, .bool ok3, .slice a9 k9 c9]) rfl (by kernel_rfl) (by kernel_rfl) (by kernel_rfl) (fun _ _ _ h => h) (Or.inl ⟨by kernel_rfl, fun w' hSw => ?_⟩) (by assumption) ?_
            · obtain ⟨e0, e1, e2, e3, e4, e5, e6, e7⟩ := hSw
              go_simp
            try simp only [List.getElem_toArray, List.getElem_cons_succ, List.getElem_cons_zero, Act.put, List.setIfInBounds_toArray, List.set_cons_zero, List.set_cons_succ]
            refine wpAnyH_take (i := 1) (v := .pointer (some ⟨rb, 0, none⟩)) rfl (by kernel_rfl) (by kernel_rfl) (by kernel_rfl) (fun _ _ _ h => h) (Or.inl ⟨by kernel_rfl, fun w' hSw => ?_⟩) (by assumption) ?_
            · obtain ⟨e0, e1, e2, e3, e4, e5, e6, e7⟩ := hSw
              go_simp
            try simp only [List.getElem_toArray, List.getElem_cons_succ, List.getElem_cons_zero, Act.put, List.setIfInBounds_toArray, List.set_cons_zero, List.set_cons_succ]
            refine wpAnyH_take (i := 2) (v := .agg #[.int .i64 xk, .int .i64 xo, .int .i64 xn]) rfl (by kernel_rfl) (by kernel_rfl) (by kernel_rfl) (fun _ _ _ h => h) (Or.inl ⟨by kernel_rfl, fun w' hSw => ?_⟩) (by assumption) ?_
            · obtain ⟨e0, e1, e2, e3, e4, e5, e6, e7⟩ := hSw
              go_simp
            try simp only [List.getElem_toArray, List.getElem_cons_succ, List.getElem_cons_zero, Act.put, List.setIfInBounds_toArray, List.set_cons_zero, List.set_cons_succ]
            refine wpAnyH_ready (rs := [3]) (by kernel_rfl) (by simp) ?_
            refine AllReadyH.cons rfl (fun K hKK => ?_) AllReadyH.nil
            go_simp
            go_at_call 59; refine (told59 (Sep.up5 (Sep.up5 TQ.out)) HIa.out HA.out _).mono ?_; rintro e wq2 ⟨vn2, vy, rfl, Sq⟩; replace TQ := Lib.hid Sq; clear Sq
            refine hKK.out _ _ ⟨blk_mem TQ.out (g := gt) (t := 88) (cs := [.int .i64 (numOf er), .int .i64 a3, .int .i64 b3, .bool ok3, .slice a9 k9 c9]) (by simp) 0 rfl, blk_mem TQ.out (g := gt) (t := 88) (cs := [.int .i64 (numOf er), .int .i64 a3, .int .i64 b3, .bool ok3, .slice a9 k9 c9]) (by simp) 1 rfl, blk_mem TQ.out (g := gt) (t := 88) (cs := [.int .i64 (numOf er), .int .i64 a3, .int .i64 b3, .bool ok3, .slice a9 k9 c9]) (by simp) 2 rfl, blk_mem TQ.out (g := gt) (t := 88) (cs := [.int .i64 (numOf er), .int .i64 a3, .int .i64 b3, .bool ok3, .slice a9 k9 c9]) (by simp) 3 rfl, blk_mem TQ.out (g := gt) (t := 88) (cs := [.int .i64 (numOf er), .int .i64 a3, .int .i64 b3, .bool ok3, .slice a9 k9 c9]) (by simp) 4 rfl, blk_mem TQ.out (g := s) (t := 84) (cs := [.int .i64 xk, .int .i64 xo, .int .i64 xn]) (by simp) 0 rfl, blk_mem TQ.out (g := s) (t := 84) (cs := [.int .i64 xk, .int .i64 xo, .int .i64 xn]) (by simp) 1 rfl, blk_mem TQ.out (g := s) (t := 84) (cs := [.int .i64 xk, .int .i64 xo, .int .i64 xn]) (by simp) 2 rfl⟩ (fun hHeld2 => ?_)
            clear hKK K
            clear hHeld
            have hHeld := hHeld2
            clear hHeld2
            try simp only [List.getElem_toArray, List.getElem_cons_succ, List.getElem_cons_zero, Act.put, List.setIfInBounds_toArray, List.set_cons_zero, List.set_cons_succ]
            refine wpAnyH_ready (rs := [4]) (by kernel_rfl) (by simp) ?_
            refine AllReadyH.cons rfl (fun K hKK => ?_) AllReadyH.nil
            go_simp
            go_at_call 56; refine (same56 _ _ _ _ (TQ.out.rdv (v := .slice a9 k9 c9) (l := ints l3) (by simp)) (TQ.out.rdv (v := vy) (l := ints l3) (by simp))).mono ?_; rintro e wq ⟨rfl, hq⟩; replace TQ := Lib.hid (TQ.out.step hq); clear hq
            refine hKK.out _ _ ⟨blk_mem TQ.out (g := gt) (t := 88) (cs := [.int .i64 (numOf er), .int .i64 a3, .int .i64 b3, .bool ok3, .slice a9 k9 c9]) (by simp) 0 rfl, blk_mem TQ.out (g := gt) (t := 88) (cs := [.int .i64 (numOf er), .int .i64 a3, .int .i64 b3, .bool ok3, .slice a9 k9 c9]) (by simp) 1 rfl, blk_mem TQ.out (g := gt) (t := 88) (cs := [.int .i64 (numOf er), .int .i64 a3, .int .i64 b3, .bool ok3, .slice a9 k9 c9]) (by simp) 2 rfl, blk_mem TQ.out (g := gt) (t := 88) (cs := [.int .i64 (numOf er), .int .i64 a3, .int .i64 b3, .bool ok3, .slice a9 k9 c9]) (by simp) 3 rfl, blk_mem TQ.out (g := gt) (t := 88) (cs := [.int .i64 (numOf er), .int .i64 a3, .int .i64 b3, .bool ok3, .slice a9 k9 c9]) (by simp) 4 rfl, blk_mem TQ.out (g := s) (t := 84) (cs := [.int .i64 xk, .int .i64 xo, .int .i64 xn]) (by simp) 0 rfl, blk_mem TQ.out (g := s) (t := 84) (cs := [.int .i64 xk, .int .i64 xo, .int .i64 xn]) (by simp) 1 rfl, blk_mem TQ.out (g := s) (t := 84) (cs := [.int .i64 xk, .int .i64 xo, .int .i64 xn]) (by simp) 2 rfl⟩ (fun hHeld2 => ?_)
            clear hKK K
            clear hHeld
            have hHeld := hHeld2
            clear hHeld2
            try simp only [List.getElem_toArray, List.getElem_cons_succ, List.getElem_cons_zero, Act.put, List.setIfInBounds_toArray, List.set_cons_zero, List.set_cons_succ]
            refine wpAnyH_take (i := 5) (v := .bool false) rfl (by kernel_rfl) (by kernel_rfl) (by kernel_rfl) (fun _ _ _ h => h) (Or.inl ⟨by kernel_rfl, fun w' hSw => ?_⟩) (by assumption) ?_
            · obtain ⟨e0, e1, e2, e3, e4, e5, e6, e7⟩ := hSw
              go_simp
            try simp only [List.getElem_toArray, List.getElem_cons_succ, List.getElem_cons_zero, Act.put, List.setIfInBounds_toArray, List.set_cons_zero, List.set_cons_succ]
            refine wpAnyH_take (i := 6) (v := .bool false) rfl (by kernel_rfl) (by kernel_rfl) (by kernel_rfl) (fun _ _ _ h => h) (Or.inl ⟨by kernel_rfl, fun w' hSw => ?_⟩) (by assumption) ?_
            · obtain ⟨e0, e1, e2, e3, e4, e5, e6, e7⟩ := hSw
              go_simp
            try simp only [List.getElem_toArray, List.getElem_cons_succ, List.getElem_cons_zero, Act.put, List.setIfInBounds_toArray, List.set_cons_zero, List.set_cons_succ]
            refine wpAnyH_take (i := 7) (v := .int .i64 k) rfl (by kernel_rfl) (by kernel_rfl) (by kernel_rfl) (fun _ _ _ h => h) (Or.inl ⟨by kernel_rfl, fun w' hSw => ?_⟩) (by assumption) ?_
            · obtain ⟨e0, e1, e2, e3, e4, e5, e6, e7⟩ := hSw
              go_simp
            try simp only [List.getElem_toArray, List.getElem_cons_succ, List.getElem_cons_zero, Act.put, List.setIfInBounds_toArray, List.set_cons_zero, List.set_cons_succ]
            refine wpAnyH_take (i := 8) (v := .int .i64 1) rfl (by kernel_rfl) (by kernel_rfl) (by kernel_rfl) (fun _ _ _ h => h) (Or.inl ⟨by kernel_rfl, fun w' hSw => ?_⟩) (by assumption) ?_
            · obtain ⟨e0, e1, e2, e3, e4, e5, e6, e7⟩ := hSw
              go_simp
            try simp only [List.getElem_toArray, List.getElem_cons_succ, List.getElem_cons_zero, Act.put, List.setIfInBounds_toArray, List.set_cons_zero, List.set_cons_succ]
            refine wpAnyH_take (i := 9) (v := .bool false) rfl (by kernel_rfl) (by kernel_rfl) (by kernel_rfl) (fun _ _ _ h => h) (Or.inl ⟨by kernel_rfl, fun w' hSw => ?_⟩) (by assumption) ?_
            · obtain ⟨e0, e1, e2, e3, e4, e5, e6, e7⟩ := hSw
              go_simp
            try simp only [List.getElem_toArray, List.getElem_cons_succ, List.getElem_cons_zero, Act.put, List.setIfInBounds_toArray, List.set_cons_zero, List.set_cons_succ]
            refine wpAnyH_take (i := 10) (v := .bool false) rfl (by kernel_rfl) (by kernel_rfl) (by kernel_rfl) (fun _ _ _ h => h) (Or.inl ⟨by kernel_rfl, fun w' hSw => ?_⟩) (by assumption) ?_
            · obtain ⟨e0, e1, e2, e3, e4, e5, e6, e7⟩ := hSw
              go_simp
            try simp only [List.getElem_toArray, List.getElem_cons_succ, List.getElem_cons_zero, Act.put, List.setIfInBounds_toArray, List.set_cons_zero, List.set_cons_succ]
            refine wpAnyH_take (i := 11) (v := undef) rfl (by kernel_rfl) (by kernel_rfl) (by kernel_rfl) (fun _ _ _ h => h) (Or.inr ⟨by kernel_rfl, rfl⟩) (by assumption) ?_
            try simp only [List.getElem_toArray, List.getElem_cons_succ, List.getElem_cons_zero, Act.put, List.setIfInBounds_toArray, List.set_cons_zero, List.set_cons_succ]
            refine wpAnyH_take (i := 12) (v := undef) rfl (by kernel_rfl) (by kernel_rfl) (by kernel_rfl) (fun _ _ _ h => h) (Or.inr ⟨by kernel_rfl, rfl⟩) (by assumption) ?_
            try simp only [List.getElem_toArray, List.getElem_cons_succ, List.getElem_cons_zero, Act.put, List.setIfInBounds_toArray, List.set_cons_zero, List.set_cons_succ]
            refine wpAnyH_take (i := 13) (v := undef) rfl (by kernel_rfl) (by kernel_rfl) (by kernel_rfl) (fun _ _ _ h => h) (Or.inr ⟨by kernel_rfl, rfl⟩) (by assumption) ?_
            try simp only [List.getElem_toArray, List.getElem_cons_succ, List.getElem_cons_zero, Act.put, List.setIfInBounds_toArray, List.set_cons_zero, List.set_cons_succ]
            refine wpAnyH_take (i := 14) (v := undef) rfl (by kernel_rfl) (by kernel_rfl) (by kernel_rfl) (fun _ _ _ h => h) (Or.inr ⟨by kernel_rfl, rfl⟩) (by assumption) ?_
            try simp only [List.getElem_toArray, List.getElem_cons_succ, List.getElem_cons_zero, Act.put, List.setIfInBounds_toArray, List.set_cons_zero, List.set_cons_succ]
            refine wpAnyH_take (i := 15) (v := .bool false) rfl (by kernel_rfl) (by kernel_rfl) (by kernel_rfl) (fun _ _ _ h => h) (Or.inl ⟨by kernel_rfl, fun w' hSw => ?_⟩) (by assumption) ?_
            · obtain ⟨e0, e1, e2, e3, e4, e5, e6, e7⟩ := hSw
              go_simp
            try simp only [List.getElem_toArray, List.getElem_cons_succ, List.getElem_cons_zero, Act.put, List.setIfInBounds_toArray, List.set_cons_zero, List.set_cons_succ]
            refine wpAnyH_take (i := 16) (v := .bool false) rfl (by kernel_rfl) (by kernel_rfl) (by kernel_rfl) (fun _ _ _ h => h) (Or.inl ⟨by kernel_rfl, fun w' hSw => ?_⟩) (by assumption) ?_
            · obtain ⟨e0, e1, e2, e3, e4, e5, e6, e7⟩ := hSw
              go_simp
            try simp only [List.getElem_toArray, List.getElem_cons_succ, List.getElem_cons_zero, Act.put, List.setIfInBounds_toArray, List.set_cons_zero, List.set_cons_succ]
            refine wpAnyH_done (by kernel_rfl) ?_ _
            clear hHeld
            all_goals
              replace TQ := Lib.hid (Sep.up4 (TQ.out.keepS (.cons _ (.refl _))))
              have d0 := blk_mem TQ.out (g := s) (t := 84) (cs := [.int .i64 xk, .int .i64 xo, .int .i64 xn]) (by simp) 0 rfl
              have g4 := blk_mem TQ.out (g := gt) (t := 88) (cs := [.int .i64 (numOf er), .int .i64 a3, .int .i64 b3, .bool ok3, .slice a9 k9 c9]) (by simp) 4 rfl
              have q1 : True := trivial
              have q2 : True := trivial
              go_wp2_with (first
                | (at_builtin; refine app_sep elemK rfl (.tmp 119) (.tmp 122) rfl u11 ss rfl ((Sep.up [_, _, _, _, _, _, _, _, _, _] TQ.out).alloc _) _ 1 1 [⟨a9, k9, c9⟩] rfl (rd_new KT _ ⟨a9, k9, c9⟩ _ rfl 86) hbK.out ?_; intro v11 w11 Sq hkp; obtain ⟨a11, k11, c11, rfl, _, hk11⟩ := rdv_form (T := KT) (Sep.rdv Sq (.head _)); clear hk11; replace TQ := Lib.hid (Sep.down [_, _, _, _, _, _, _, _] (Sep.keepS (sep_add (X := [_, _, _, _, _, _, _, _, _, _]) (s := ⟨a9, k9, c9⟩) (Sep.up5 Sq) HK.out.len) (.cons_cons _ (.cons_cons _ (.cons_cons _ (.cons_cons _ (.cons _ (.refl _)))))))); clear Sq hkp d0 g4; have d0 := blk_mem TQ.out (g := s) (t := 84) (cs := [.int .i64 xk, .int .i64 xo, .int .i64 xn]) (by simp) 0 rfl)
                | (go_at_call 61; refine (copy61 TQ.out HI3.out.ok).mono ?_; rintro e wq ⟨pn, gn, rfl, Sq⟩; replace TQ := Lib.hid (Sep.up3 (Sep.up3 Sq)); clear Sq d0)
                | (go_at_call 62; refine (copy62 TQ.out (refT_short HI3.out)).mono ?_; rintro e wq ⟨rn, vn, rfl, Sq⟩; have d1 := blk_mem Sq (g := s) (t := 84) (cs := [.int .i64 xk, .int .i64 xo, .int .i64 xn]) (by simp) 1 rfl; replace TQ := Lib.hid (Sep.keepS (Sep.up5 (Sep.up4 (Sep.up4 (Sep.up4 (Sep.keepS Sq (.cons_cons _ (.cons_cons _ (.cons_cons _ (.cons_cons _ (.cons_cons _ (.cons_cons _ (.cons_cons _ (.cons _ (.cons _ (.cons _ (.refl _)))))))))))))))) (.cons_cons _ (.cons_cons _ (.cons_cons _ (.cons_cons _ (.cons_cons _ (.cons_cons _ (.cons _ (.refl _))))))))); clear Sq)
                | (go_at_call 63; clear q1; refine (free_at TQ.out HI3.out.ok).mono ?_; rintro e wq ⟨rfl, hq⟩; replace TQ := Lib.hid (TQ.out.step hq); clear hq)
                | (go_at_call 64; clear q2; refine (free64 (Sep.up2 (Sep.up2 TQ.out)) HI3.out).mono ?_; rintro e wq ⟨rfl, hq⟩; replace TQ := Lib.hid (TQ.out.step hq); clear hq)
                | (go_at_call 63; refine (free_at (Sep.up3 TQ.out) HI3.out.ok).mono ?_; rintro e wq ⟨rfl, hq⟩; replace TQ := Lib.hid (TQ.out.step hq); clear hq)
                | (go_at_call 64; refine (free64 (Sep.up5 (Sep.up5 TQ.out)) HI3.out).mono ?_; rintro e wq ⟨rfl, hq⟩; replace TQ := Lib.hid (TQ.out.step hq); clear hq))
              go_roundw
              case rel => exact ⟨k + 1, p, g, N, rb, pn, gn, N, rn, by omega, by go_num, rfl, rfl, rfl, rfl, ⟨_, _, _, _, (ss ++ [⟨a9, k9, c9⟩]), (ls ++ [ints l3]), HI3.out, HI3.out, HK.out.add ⟨a9, k9, c9⟩ HSH.out, TQ.out⟩⟩
              case measure => simp [intOf]; omega
      · by_cases hpar : k % 2 = 0
        · cases hk6 : (xk == 6)
          · have hz : True := trivial
            have ho : (xo.tmod 2 != 0) = true := hon
            have hp1 : (k : Int) % 2 = 0 := by omega
            have hp3 : (k : Int).tmod 2 = 0 := by rw [Int.tmod_eq_emod_of_nonneg (by omega)]; exact hp1
            have hq6 : (xk == 6) = false := hk6
            clear hon hpar hk6
            replace TQ := Lib.hid (odd_swap TQ.out)
            obtain ⟨er, a3, b3, ok3, l3, ws3, hA⟩ : ∃ er a b ok l ws', actA M wc xk xn = (⟨er, a, b, ok, l⟩, ws') := ⟨_, _, _, _, _, _, rfl⟩
            have hI3 := inv_act HIc.out xk xn
            rw [hA] at hI3
            have HI3 := Lib.hid hI3
            have HA := Lib.hid hA
            have HSH := Lib.hid (act_short HIc.out hA)
            clear hI3 hA
            go_wp2_with (go_at_call 53; refine (act53_at HE.out HT.out (Sep.up1 (TQ.out.box 84 [.int .i64 xk, .int .i64 xo, .int .i64 xn])) HIc.out.ok HA.out _).mono ?_; rintro e wq ⟨vz, rfl, Sq⟩; obtain ⟨a9, k9, c9, rfl, _, hk9⟩ := rdv_form (T := IT) (Sep.rdv Sq (.head _)); clear hk9; replace TQ := Lib.hid Sq; clear Sq c2 d0 d1 d2)
            replace TQ := Lib.hid (TQ.out.box 88 [.int .i64 (numOf er), .int .i64 a3, .int .i64 b3, .bool ok3, .slice a9 k9 c9]).drew
            generalize wr.heap.size = s at TQ ⊢
            generalize wq.heap.size = gt at TQ ⊢
            go_region_held3 (fun w' => w'.cell? ⟨gt, 0, none⟩ = some (.int .i64 (numOf er)) ∧ w'.cell? ⟨gt, 1, none⟩ = some (.int .i64 a3) ∧ w'.cell? ⟨gt, 2, none⟩ = some (.int .i64 b3) ∧ w'.cell? ⟨gt, 3, none⟩ = some (.bool ok3) ∧ w'.cell? ⟨gt, 4, none⟩ = some (.slice a9 k9 c9) ∧ w'.cell? ⟨s, 0, none⟩ = some (.int .i64 xk) ∧ w'.cell? ⟨s, 1, none⟩ = some (.int .i64 xo) ∧ w'.cell? ⟨s, 2, none⟩ = some (.int .i64 xn)) (first | exact ⟨blk_mem TQ.out (g := gt) (t := 88) (cs := [.int .i64 (numOf er), .int .i64 a3, .int .i64 b3, .bool ok3, .slice a9 k9 c9]) (by simp) 0 rfl, blk_mem TQ.out (g := gt) (t := 88) (cs := [.int .i64 (numOf er), .int .i64 a3, .int .i64 b3, .bool ok3, .slice a9 k9 c9]) (by simp) 1 rfl, blk_mem TQ.out (g := gt) (t := 88) (cs := [.int .i64 (numOf er), .int .i64 a3, .int .i64 b3, .bool ok3, .slice a9 k9 c9]) (by simp) 2 rfl, blk_mem TQ.out (g := gt) (t := 88) (cs := [.int .i64 (numOf er), .int .i64 a3, .int .i64 b3, .bool ok3, .slice a9 k9 c9]) (by simp) 3 rfl, blk_mem TQ.out (g := gt) (t := 88) (cs := [.int .i64 (numOf er), .int .i64 a3, .int .i64 b3, .bool ok3, .slice a9 k9 c9]) (by simp) 4 rfl, blk_mem TQ.out (g := s) (t := 84) (cs := [.int .i64 xk, .int .i64 xo, .int .i64 xn]) (by simp) 0 rfl, blk_mem TQ.out (g := s) (t := 84) (cs := [.int .i64 xk, .int .i64 xo, .int .i64 xn]) (by simp) 1 rfl, blk_mem TQ.out (g := s) (t := 84) (cs := [.int .i64 xk, .int .i64 xo, .int .i64 xn]) (by simp) 2 rfl⟩ | go_keep) (first
              | (go_at_call 59; refine (told59 (Sep.up5 (Sep.up5 TQ.out)) HIc.out HA.out _).mono ?_; rintro e wq2 ⟨vn2, vy, rfl, Sq⟩; replace TQ := Lib.hid Sq; clear Sq)
              | (go_at_call 56; refine (same56 _ _ _ _ (TQ.out.rdv (v := .slice a9 k9 c9) (l := ints l3) (by simp)) (TQ.out.rdv (v := vy) (l := ints l3) (by simp))).mono ?_; rintro e wq ⟨rfl, hq⟩; replace TQ := Lib.hid (TQ.out.step hq); clear hq)
              | (go_at_call 60; refine (spoil60 (Sep.up4 TQ.out) HSH.out).mono ?_; rintro e wq ⟨rfl, Sq⟩; replace TQ := Lib.hid Sq; clear Sq))
            all_goals
              replace TQ := Lib.hid (Sep.up2 (TQ.out.keepS (.cons _ (.cons_cons _ (.cons_cons _ (.cons _ (.refl _)))))))
              have d0 := blk_mem TQ.out (g := s) (t := 84) (cs := [.int .i64 xk, .int .i64 xo, .int .i64 xn]) (by simp) 0 rfl
              replace TQ := Lib.hid (TQ.out.keepS (.cons_cons _ (.cons_cons _ (.cons_cons _ (.cons _ (.refl _))))))
              have q1 : True := trivial
              have q2 : True := trivial
              go_wp2_with (first
                | (go_at_call 63; clear q1; refine (free_at (Sep.up3 TQ.out) HIa.out.ok).mono ?_; rintro e wq ⟨rfl, hq⟩; replace TQ := Lib.hid (TQ.out.step hq); clear hq)
                | (go_at_call 64; clear q2; refine (free64 (Sep.up5 (Sep.up5 TQ.out)) HIa.out).mono ?_; rintro e wq ⟨rfl, hq⟩; replace TQ := Lib.hid (TQ.out.step hq); clear hq)
                | (go_at_call 63; refine (free_at TQ.out HI3.out.ok).mono ?_; rintro e wq ⟨rfl, hq⟩; replace TQ := Lib.hid (TQ.out.step hq); clear hq)
                | (go_at_call 64; refine (free64 (Sep.up2 (Sep.up2 TQ.out)) HI3.out).mono ?_; rintro e wq ⟨rfl, hq⟩; replace TQ := Lib.hid (TQ.out.step hq); clear hq))
              go_roundw
              case rel => exact ⟨k + 1, p, g, N, rb, p2, g2, M, rd, by omega, by go_num, rfl, rfl, rfl, rfl, ⟨_, _, _, _, ss, ls, HIa.out, HI3.out, HK.out.more, odd_swap TQ.out⟩⟩
              case measure => simp [intOf]; omega
          · have hz : True := trivial
            have ho : (xo.tmod 2 != 0) = true := hon
            have hp1 : (k : Int) % 2 = 0 := by omega
            have hp3 : (k : Int).tmod 2 = 0 := by rw [Int.tmod_eq_emod_of_nonneg (by omega)]; exact hp1
            have hq6 : (xk == 6) = true := hk6
            clear hon hpar hk6
            replace TQ := Lib.hid (odd_swap TQ.out)
            obtain ⟨er, a3, b3, ok3, l3, ws3, hA⟩ : ∃ er a b ok l ws', actA M wc xk xn = (⟨er, a, b, ok, l⟩, ws') := ⟨_, _, _, _, _, _, rfl⟩
            have hI3 := inv_act HIc.out xk xn
            rw [hA] at hI3
            have HI3 := Lib.hid hI3
            have HA := Lib.hid hA
            have HSH := Lib.hid (act_short HIc.out hA)
            clear hI3 hA
            go_wp2_with (go_at_call 53; refine (act53_at HE.out HT.out (Sep.up1 (TQ.out.box 84 [.int .i64 xk, .int .i64 xo, .int .i64 xn])) HIc.out.ok HA.out _).mono ?_; rintro e wq ⟨vz, rfl, Sq⟩; obtain ⟨a9, k9, c9, rfl, _, hk9⟩ := rdv_form (T := IT) (Sep.rdv Sq (.head _)); clear hk9; replace TQ := Lib.hid Sq; clear Sq c2 d0 d1 d2)
            replace TQ := Lib.hid (TQ.out.box 88 [.int .i64 (numOf er), .int .i64 a3, .int .i64 b3, .bool ok3, .slice a9 k9 c9]).drew
            generalize wr.heap.size = s at TQ ⊢
            generalize wq.heap.size = gt at TQ ⊢
            go_region_held3 (fun w' => w'.cell? ⟨gt, 0, none⟩ = some (.int .i64 (numOf er)) ∧ w'.cell? ⟨gt, 1, none⟩ = some (.int .i64 a3) ∧ w'.cell? ⟨gt, 2, none⟩ = some (.int .i64 b3) ∧ w'.cell? ⟨gt, 3, none⟩ = some (.bool ok3) ∧ w'.cell? ⟨gt, 4, none⟩ = some (.slice a9 k9 c9) ∧ w'.cell? ⟨s, 0, none⟩ = some (.int .i64 xk) ∧ w'.cell? ⟨s, 1, none⟩ = some (.int .i64 xo) ∧ w'.cell? ⟨s, 2, none⟩ = some (.int .i64 xn)) (first | exact ⟨blk_mem TQ.out (g := gt) (t := 88) (cs := [.int .i64 (numOf er), .int .i64 a3, .int .i64 b3, .bool ok3, .slice a9 k9 c9]) (by simp) 0 rfl, blk_mem TQ.out (g := gt) (t := 88) (cs := [.int .i64 (numOf er), .int .i64 a3, .int .i64 b3, .bool ok3, .slice a9 k9 c9]) (by simp) 1 rfl, blk_mem TQ.out (g := gt) (t := 88) (cs := [.int .i64 (numOf er), .int .i64 a3, .int .i64 b3, .bool ok3, .slice a9 k9 c9]) (by simp) 2 rfl, blk_mem TQ.out (g := gt) (t := 88) (cs := [.int .i64 (numOf er), .int .i64 a3, .int .i64 b3, .bool ok3, .slice a9 k9 c9]) (by simp) 3 rfl, blk_mem TQ.out (g := gt) (t := 88) (cs := [.int .i64 (numOf er), .int .i64 a3, .int .i64 b3, .bool ok3, .slice a9 k9 c9]) (by simp) 4 rfl, blk_mem TQ.out (g := s) (t := 84) (cs := [.int .i64 xk, .int .i64 xo, .int .i64 xn]) (by simp) 0 rfl, blk_mem TQ.out (g := s) (t := 84) (cs := [.int .i64 xk, .int .i64 xo, .int .i64 xn]) (by simp) 1 rfl, blk_mem TQ.out (g := s) (t := 84) (cs := [.int .i64 xk, .int .i64 xo, .int .i64 xn]) (by simp) 2 rfl⟩ | go_keep) (first
              | (go_at_call 59; refine (told59 (Sep.up5 (Sep.up5 TQ.out)) HIc.out HA.out _).mono ?_; rintro e wq2 ⟨vn2, vy, rfl, Sq⟩; replace TQ := Lib.hid Sq; clear Sq)
              | (go_at_call 56; refine (same56 _ _ _ _ (TQ.out.rdv (v := .slice a9 k9 c9) (l := ints l3) (by simp)) (TQ.out.rdv (v := vy) (l := ints l3) (by simp))).mono ?_; rintro e wq ⟨rfl, hq⟩; replace TQ := Lib.hid (TQ.out.step hq); clear hq)
              | (go_at_call 60; refine (spoil60 (Sep.up4 TQ.out) HSH.out).mono ?_; rintro e wq ⟨rfl, Sq⟩; replace TQ := Lib.hid Sq; clear Sq))
            all_goals
              replace TQ := Lib.hid (Sep.up2 (TQ.out.keepS (.cons _ (.cons_cons _ (.cons_cons _ (.cons _ (.refl _)))))))
              have d0 := blk_mem TQ.out (g := s) (t := 84) (cs := [.int .i64 xk, .int .i64 xo, .int .i64 xn]) (by simp) 0 rfl
              have q1 : True := trivial
              have q2 : True := trivial
              go_wp2_with (first
                | (go_at_call 61; refine (copy61 TQ.out HI3.out.ok).mono ?_; rintro e wq ⟨pn, gn, rfl, Sq⟩; replace TQ := Lib.hid (Sep.up3 (Sep.up3 Sq)); clear Sq d0)
                | (go_at_call 62; refine (copy62 TQ.out (refT_short HI3.out)).mono ?_; rintro e wq ⟨rn, vn, rfl, Sq⟩; have d1 := blk_mem Sq (g := s) (t := 84) (cs := [.int .i64 xk, .int .i64 xo, .int .i64 xn]) (by simp) 1 rfl; replace TQ := Lib.hid (Sep.keepS (Sep.up5 (Sep.up4 (Sep.up4 (Sep.up4 (Sep.keepS Sq (.cons_cons _ (.cons_cons _ (.cons_cons _ (.cons_cons _ (.cons_cons _ (.cons_cons _ (.cons_cons _ (.cons _ (.cons _ (.cons _ (.refl _)))))))))))))))) (.cons_cons _ (.cons_cons _ (.cons_cons _ (.cons_cons _ (.cons_cons _ (.cons_cons _ (.cons _ (.refl _))))))))); clear Sq)
                | (go_at_call 63; clear q1; refine (free_at (Sep.up3 TQ.out) HI3.out.ok).mono ?_; rintro e wq ⟨rfl, hq⟩; replace TQ := Lib.hid (TQ.out.step hq); clear hq)
                | (go_at_call 64; clear q2; refine (free64 (Sep.up5 (Sep.up5 TQ.out)) HI3.out).mono ?_; rintro e wq ⟨rfl, hq⟩; replace TQ := Lib.hid (TQ.out.step hq); clear hq)
                | (go_at_call 63; refine (free_at TQ.out HI3.out.ok).mono ?_; rintro e wq ⟨rfl, hq⟩; replace TQ := Lib.hid (TQ.out.step hq); clear hq)
                | (go_at_call 64; refine (free64 (Sep.up2 (Sep.up2 TQ.out)) HI3.out).mono ?_; rintro e wq ⟨rfl, hq⟩; replace TQ := Lib.hid (TQ.out.step hq); clear hq))
              go_roundw
              case rel => exact ⟨k + 1, pn, gn, M, rn, p2, g2, M, rd, by omega, by go_num, rfl, rfl, rfl, rfl, ⟨_, _, _, _, ss, ls, HI3.out, HI3.out, HK.out.more, odd_swap TQ.out⟩⟩
              case measure => simp [intOf]; omega
        · cases hk6 : (xk == 6)
          · have hz : True := trivial
            have ho : (xo.tmod 2 != 0) = true := hon
            have hp1 : (k : Int) % 2 = 1 := by omega
            have hp3 : (k : Int).tmod 2 = 1 := by rw [Int.tmod_eq_emod_of_nonneg (by omega)]; exact hp1
            have hq6 : (xk == 6) = false := hk6
            clear hon hpar hk6
            replace TQ := Lib.hid (odd_swap TQ.out)
            obtain ⟨er, a3, b3, ok3, l3, ws3, hA⟩ : ∃ er a b ok l ws', actA M wc xk xn = (⟨er, a, b, ok, l⟩, ws') := ⟨_, _, _, _, _, _, rfl⟩
            have hI3 := inv_act HIc.out xk xn
            rw [hA] at hI3
            have HI3 := Lib.hid hI3
            have HA := Lib.hid hA
            have HSH := Lib.hid (act_short HIc.out hA)
            clear hI3 hA
            go_wp2_with (go_at_call 53; refine (act53_at HE.out HT.out (Sep.up1 (TQ.out.box 84 [.int .i64 xk, .int .i64 xo, .int .i64 xn])) HIc.out.ok HA.out _).mono ?_; rintro e wq ⟨vz, rfl, Sq⟩; obtain ⟨a9, k9, c9, rfl, _, hk9⟩ := rdv_form (T := IT) (Sep.rdv Sq (.head _)); clear hk9; replace TQ := Lib.hid Sq; clear Sq c2 d0 d1 d2)
            replace TQ := Lib.hid (TQ.out.box 88 [.int .i64 (numOf er), .int .i64 a3, .int .i64 b3, .bool ok3, .slice a9 k9 c9]).drew
            generalize wr.heap.size = s at TQ ⊢
            generalize wq.heap.size = gt at TQ ⊢
            refine wp_region_held_drew (S := fun w' => w'.cell? ⟨gt, 0, none⟩ = some (.int .i64 (numOf er)) ∧ w'.cell? ⟨gt, 1, none⟩ = some (.int .i64 a3) ∧ w'.cell? ⟨gt, 2, none⟩ = some (.int .i64 b3) ∧ w'.cell? ⟨gt, 3, none⟩ = some (.bool ok3) ∧ w'.cell? ⟨gt, 4, none⟩ = some (.slice a9 k9 c9) ∧ w'.cell? ⟨s, 0, none⟩ = some (.int .i64 xk) ∧ w'.cell? ⟨s, 1, none⟩ = some (.int .i64 xo) ∧ w'.cell? ⟨s, 2, none⟩ = some (.int .i64 xn)) (by kernel_rfl) ⟨blk_mem TQ.out (g := gt) (t := 88) (cs := [.int .i64 (numOf er), .int .i64 a3, .int .i64 b3, .bool ok3, .slice a9 k9 c9]) (by simp) 0 rfl, blk_mem TQ.out (g := gt) (t := 88) (cs := [.int .i64 (numOf er), .int .i64 a3, .int .i64 b3, .bool ok3, .slice a9 k9 c9]) (by simp) 1 rfl, blk_mem TQ.out (g := gt) (t := 88) (cs := [.int .i64 (numOf er), .int .i64 a3, .int .i64 b3, .bool ok3, .slice a9 k9 c9]) (by simp) 2 rfl, blk_mem TQ.out (g := gt) (t := 88) (cs := [.int .i64 (numOf er), .int .i64 a3, .int .i64 b3, .bool ok3, .slice a9 k9 c9]) (by simp) 3 rfl, blk_mem TQ.out (g := gt) (t := 88) (cs := [.int .i64 (numOf er), .int .i64 a3, .int .i64 b3, .bool ok3, .slice a9 k9 c9]) (by simp) 4 rfl, blk_mem TQ.out (g := s) (t := 84) (cs := [.int .i64 xk, .int .i64 xo, .int .i64 xn]) (by simp) 0 rfl, blk_mem TQ.out (g := s) (t := 84) (cs := [.int .i64 xk, .int .i64 xo, .int .i64 xn]) (by simp) 1 rfl, blk_mem TQ.out (g := s) (t := 84) (cs := [.int .i64 xk, .int .i64 xo, .int .i64 xn]) (by simp) 2 rfl⟩ (fun hHeld => ?_)
            refine wpAnyH_take (i := 0) (v := .agg #[.int .i64 (numOf er), .int .i64 a3, .int .i64 b3, .bool ok3, .slice a9 k9 c9]) rfl (by kernel_rfl) (by kernel_rfl) (by kernel_rfl) (fun _ _ _ h => h) (Or.inl ⟨by kernel_rfl, fun w' hSw => ?_⟩) (by assumption) ?_
            · obtain ⟨e0, e1, e2, e3, e4, e5, e6, e7⟩ := hSw
              go_simp
            try simp only [List.getElem_toArray, List.getElem_cons_succ, List.getElem_cons_zero, Act.put, List.setIfInBounds_toArray, List.set_cons_zero, List.set_cons_succ]
            refine wpAnyH_take (i := 1) (v := .pointer (some ⟨rd, 0, none⟩)) rfl (by kernel_rfl) (by kernel_rfl) (by kernel_rfl) (fun _ _ _ h => h) (Or.inl ⟨by kernel_rfl, fun w' hSw => ?_⟩) (by assumption) ?_
            · obtain ⟨e0, e1, e2, e3, e4, e5, e6, e7⟩ := hSw
              go_simp
            try simp only [List.getElem_toArray, List.getElem_cons_succ, List.getElem_cons_zero, Act.put, List.setIfInBounds_toArray, List.set_cons_zero, List.set_cons_succ]
            refine wpAnyH_take (i := 2) (v := .agg #[.int .i64 xk, .int .i64 xo, .int .i64 xn]) rfl (by kernel_rfl) (by kernel_rfl) (by kernel_rfl) (fun _ _ _ h => h) (Or.inl ⟨by kernel_rfl, fun w' hSw => ?_⟩) (by assumption) ?_
            · obtain ⟨e0, e1, e2, e3, e4, e5, e6, e7⟩ := hSw
              go_simp
            try simp only [List.getElem_toArray, List.getElem_cons_succ, List.getElem_cons_zero, Act.put, List.setIfInBounds_toArray, List.set_cons_zero, List.set_cons_succ]
            refine wpAnyH_ready (rs := [3]) (by kernel_rfl) (by simp) ?_
            refine AllReadyH.cons rfl (fun K hKK => ?_) AllReadyH.nil
            go_simp
            go_at_call 59; refine (told59 (Sep.up5 (Sep.up5 TQ.out)) HIc.out HA.out _).mono ?_; rintro e wq2 ⟨vn2, vy, rfl, Sq⟩; replace TQ := Lib.hid Sq; clear Sq
            refine hKK.out _ _ ⟨blk_mem TQ.out (g := gt) (t := 88) (cs := [.int .i64 (numOf er), .int .i64 a3, .int .i64 b3, .bool ok3, .slice a9 k9 c9]) (by simp) 0 rfl, blk_mem TQ.out (g := gt) (t := 88) (cs := [.int .i64 (numOf er), .int .i64 a3, .int .i64 b3, .bool ok3, .slice a9 k9 c9]) (by simp) 1 rfl, blk_mem TQ.out (g := gt) (t := 88) (cs := [.int .i64 (numOf er), .int .i64 a3, .int .i64 b3, .bool ok3, .slice a9 k9 c9]) (by simp) 2 rfl, blk_mem TQ.out (g := gt) (t := 88) (cs := [.int .i64 (numOf er), .int .i64 a3, .int .i64 b3, .bool ok3, .slice a9 k9 c9]) (by simp) 3 rfl, blk_mem TQ.out (g := gt) (t := 88) (cs := [.int .i64 (numOf er), .int .i64 a3, .int .i64 b3, .bool ok3, .slice a9 k9 c9]) (by simp) 4 rfl, blk_mem TQ.out (g := s) (t := 84) (cs := [.int .i64 xk, .int .i64 xo, .int .i64 xn]) (by simp) 0 rfl, blk_mem TQ.out (g := s) (t := 84) (cs := [.int .i64 xk, .int .i64 xo, .int .i64 xn]) (by simp) 1 rfl, blk_mem TQ.out (g := s) (t := 84) (cs := [.int .i64 xk, .int .i64 xo, .int .i64 xn]) (by simp) 2 rfl⟩ (fun hHeld2 => ?_)
            clear hKK K
            clear hHeld
            have hHeld := hHeld2
            clear hHeld2
            try simp only [List.getElem_toArray, List.getElem_cons_succ, List.getElem_cons_zero, Act.put, List.setIfInBounds_toArray, List.set_cons_zero, List.set_cons_succ]
            refine wpAnyH_ready (rs := [4]) (by kernel_rfl) (by simp) ?_
            refine AllReadyH.cons rfl (fun K hKK => ?_) AllReadyH.nil
            go_simp
            go_at_call 56; refine (same56 _ _ _ _ (TQ.out.rdv (v := .slice a9 k9 c9) (l := ints l3) (by simp)) (TQ.out.rdv (v := vy) (l := ints l3) (by simp))).mono ?_; rintro e wq ⟨rfl, hq⟩; replace TQ := Lib.hid (TQ.out.step hq); clear hq
            refine hKK.out _ _ ⟨blk_mem TQ.out (g := gt) (t := 88) (cs := [.int .i64 (numOf er), .int .i64 a3, .int .i64 b3, .bool ok3, .slice a9 k9 c9]) (by simp) 0 rfl, blk_mem TQ.out (g := gt) (t := 88) (cs := [.int .i64 (numOf er), .int .i64 a3, .int .i64 b3, .bool ok3, .slice a9 k9 c9]) (by simp) 1 rfl, blk_mem TQ.out (g := gt) (t := 88) (cs := [.int .i64 (numOf er), .int .i64 a3, .int .i64 b3, .bool ok3, .slice a9 k9 c9]) (by simp) 2 rfl, blk_mem TQ.out (g := gt) (t := 88) (cs := [.int .i64 (numOf er), .int .i64 a3, .int .i64 b3, .bool ok3, .slice a9 k9 c9]) (by simp) 3 rfl, blk_mem TQ.out (g := gt) (t := 88) (cs := [.int .i64 (numOf er), .int .i64 a3, .int .i64 b3, .bool ok3, .slice a9 k9 c9]) (by simp) 4 rfl, blk_mem TQ.out (g := s) (t := 84) (cs := [.int .i64 xk, .int .i64 xo, .int .i64 xn]) (by simp) 0 rfl, blk_mem TQ.out (g := s) (t := 84) (cs := [.int .i64 xk, .int .i64 xo, .int .i64 xn]) (by simp) 1 rfl, blk_mem TQ.out (g := s) (t := 84) (cs := [.int .i64 xk, .int .i64 xo, .int .i64 xn]) (by simp) 2 rfl⟩ (fun hHeld2 => ?_)
            clear hKK K
            clear hHeld
            have hHeld := hHeld2
            clear hHeld2
            try simp only [List.getElem_toArray, List.getElem_cons_succ, List.getElem_cons_zero, Act.put, List.setIfInBounds_toArray, List.set_cons_zero, List.set_cons_succ]
            refine wpAnyH_take (i := 5) (v := .bool false) rfl (by kernel_rfl) (by kernel_rfl) (by kernel_rfl) (fun _ _ _ h => h) (Or.inl ⟨by kernel_rfl, fun w' hSw => ?_⟩) (by assumption) ?_
            · obtain ⟨e0, e1, e2, e3, e4, e5, e6, e7⟩ := hSw
              go_simp
            try simp only [List.getElem_toArray, List.getElem_cons_succ, List.getElem_cons_zero, Act.put, List.setIfInBounds_toArray, List.set_cons_zero, List.set_cons_succ]
            refine wpAnyH_take (i := 6) (v := .bool false) rfl (by kernel_rfl) (by kernel_rfl) (by kernel_rfl) (fun _ _ _ h => h) (Or.inl ⟨by kernel_rfl, fun w' hSw => ?_⟩) (by assumption) ?_
            · obtain ⟨e0, e1, e2, e3, e4, e5, e6, e7⟩ := hSw
              go_simp
            try simp only [List.getElem_toArray, List.getElem_cons_succ, List.getElem_cons_zero, Act.put, List.setIfInBounds_toArray, List.set_cons_zero, List.set_cons_succ]
            refine wpAnyH_take (i := 7) (v := .int .i64 k) rfl (by kernel_rfl) (by kernel_rfl) (by kernel_rfl) (fun _ _ _ h => h) (Or.inl ⟨by kernel_rfl, fun w' hSw => ?_⟩) (by assumption) ?_
            · obtain ⟨e0, e1, e2, e3, e4, e5, e6, e7⟩ := hSw
              go_simp
            try simp only [List.getElem_toArray, List.getElem_cons_succ, List.getElem_cons_zero, Act.put, List.setIfInBounds_toArray, List.set_cons_zero, List.set_cons_succ]
            refine wpAnyH_take (i := 8) (v := .int .i64 1) rfl (by kernel_rfl) (by kernel_rfl) (by kernel_rfl) (fun _ _ _ h => h) (Or.inl ⟨by kernel_rfl, fun w' hSw => ?_⟩) (by assumption) ?_
            · obtain ⟨e0, e1, e2, e3, e4, e5, e6, e7⟩ := hSw
              go_simp
            try simp only [List.getElem_toArray, List.getElem_cons_succ, List.getElem_cons_zero, Act.put, List.setIfInBounds_toArray, List.set_cons_zero, List.set_cons_succ]
            refine wpAnyH_take (i := 9) (v := .bool false) rfl (by kernel_rfl) (by kernel_rfl) (by kernel_rfl) (fun _ _ _ h => h) (Or.inl ⟨by kernel_rfl, fun w' hSw => ?_⟩) (by assumption) ?_
            · obtain ⟨e0, e1, e2, e3, e4, e5, e6, e7⟩ := hSw
              go_simp
            try simp only [List.getElem_toArray, List.getElem_cons_succ, List.getElem_cons_zero, Act.put, List.setIfInBounds_toArray, List.set_cons_zero, List.set_cons_succ]
            refine wpAnyH_take (i := 10) (v := .bool false) rfl (by kernel_rfl) (by kernel_rfl) (by kernel_rfl) (fun _ _ _ h => h) (Or.inl ⟨by kernel_rfl, fun w' hSw => ?_⟩) (by assumption) ?_
            · obtain ⟨e0, e1, e2, e3, e4, e5, e6, e7⟩ := hSw
              go_simp
            try simp only [List.getElem_toArray, List.getElem_cons_succ, List.getElem_cons_zero, Act.put, List.setIfInBounds_toArray, List.set_cons_zero, List.set_cons_succ]
            refine wpAnyH_take (i := 11) (v := undef) rfl (by kernel_rfl) (by kernel_rfl) (by kernel_rfl) (fun _ _ _ h => h) (Or.inr ⟨by kernel_rfl, rfl⟩) (by assumption) ?_
            try simp only [List.getElem_toArray, List.getElem_cons_succ, List.getElem_cons_zero, Act.put, List.setIfInBounds_toArray, List.set_cons_zero, List.set_cons_succ]
            refine wpAnyH_take (i := 12) (v := undef) rfl (by kernel_rfl) (by kernel_rfl) (by kernel_rfl) (fun _ _ _ h => h) (Or.inr ⟨by kernel_rfl, rfl⟩) (by assumption) ?_
            try simp only [List.getElem_toArray, List.getElem_cons_succ, List.getElem_cons_zero, Act.put, List.setIfInBounds_toArray, List.set_cons_zero, List.set_cons_succ]
            refine wpAnyH_take (i := 13) (v := undef) rfl (by kernel_rfl) (by kernel_rfl) (by kernel_rfl) (fun _ _ _ h => h) (Or.inr ⟨by kernel_rfl, rfl⟩) (by assumption) ?_
            try simp only [List.getElem_toArray, List.getElem_cons_succ, List.getElem_cons_zero, Act.put, List.setIfInBounds_toArray, List.set_cons_zero, List.set_cons_succ]
            refine wpAnyH_take (i := 14) (v := undef) rfl (by kernel_rfl) (by kernel_rfl) (by kernel_rfl) (fun _ _ _ h => h) (Or.inr ⟨by kernel_rfl, rfl⟩) (by assumption) ?_
            try simp only [List.getElem_toArray, List.getElem_cons_succ, List.getElem_cons_zero, Act.put, List.setIfInBounds_toArray, List.set_cons_zero, List.set_cons_succ]
            refine wpAnyH_take (i := 15) (v := .bool false) rfl (by kernel_rfl) (by kernel_rfl) (by kernel_rfl) (fun _ _ _ h => h) (Or.inl ⟨by kernel_rfl, fun w' hSw => ?_⟩) (by assumption) ?_
            · obtain ⟨e0, e1, e2, e3, e4, e5, e6, e7⟩ := hSw
              go_simp
            try simp only [List.getElem_toArray, List.getElem_cons_succ, List.getElem_cons_zero, Act.put, List.setIfInBounds_toArray, List.set_cons_zero, List.set_cons_succ]
            refine wpAnyH_take (i := 16) (v := .bool false) rfl (by kernel_rfl) (by kernel_rfl) (by kernel_rfl) (fun _ _ _ h => h) (Or.inl ⟨by kernel_rfl, fun w' hSw => ?_⟩) (by assumption) ?_
            · obtain ⟨e0, e1, e2, e3, e4, e5, e6, e7⟩ := hSw
              go_simp
            try simp only [List.getElem_toArray, List.getElem_cons_succ, List.getElem_cons_zero, Act.put, List.setIfInBounds_toArray, List.set_cons_zero, List.set_cons_succ]
            refine wpAnyH_done (by kernel_rfl) ?_ _
            clear hHeld
            all_goals
              replace TQ := Lib.hid (Sep.up4 (TQ.out.keepS (.cons _ (.refl _))))
              have d0 := blk_mem TQ.out (g := s) (t := 84) (cs := [.int .i64 xk, .int .i64 xo, .int .i64 xn]) (by simp) 0 rfl
              have g4 := blk_mem TQ.out (g := gt) (t := 88) (cs := [.int .i64 (numOf er), .int .i64 a3, .int .i64 b3, .bool ok3, .slice a9 k9 c9]) (by simp) 4 rfl
              have q1 : True := trivial
              have q2 : True := trivial
              go_wp2_with (first
                | (at_builtin; refine app_sep elemK rfl (.tmp 119) (.tmp 122) rfl u11 ss rfl ((Sep.up [_, _, _, _, _, _, _, _, _, _] TQ.out).alloc _) _ 1 1 [⟨a9, k9, c9⟩] rfl (rd_new KT _ ⟨a9, k9, c9⟩ _ rfl 86) hbK.out ?_; intro v11 w11 Sq hkp; obtain ⟨a11, k11, c11, rfl, _, hk11⟩ := rdv_form (T := KT) (Sep.rdv Sq (.head _)); clear hk11; replace TQ := Lib.hid (Sep.down [_, _, _, _, _, _, _, _] (Sep.keepS (sep_add (X := [_, _, _, _, _, _, _, _, _, _]) (s := ⟨a9, k9, c9⟩) (Sep.up5 Sq) HK.out.len) (.cons_cons _ (.cons_cons _ (.cons_cons _ (.cons_cons _ (.cons _ (.refl _)))))))); clear Sq hkp d0 g4; have d0 := blk_mem TQ.out (g := s) (t := 84) (cs := [.int .i64 xk, .int .i64 xo, .int .i64 xn]) (by simp) 0 rfl; replace TQ := Lib.hid (TQ.out.keepS (.cons_cons _ (.cons_cons _ (.cons_cons _ (.cons _ (.refl _)))))))
                | (go_at_call 63; clear q1; refine (free_at (Sep.up3 TQ.out) HIa.out.ok).mono ?_; rintro e wq ⟨rfl, hq⟩; replace TQ := Lib.hid (TQ.out.step hq); clear hq)
                | (go_at_call 64; clear q2; refine (free64 (Sep.up5 (Sep.up5 TQ.out)) HIa.out).mono ?_; rintro e wq ⟨rfl, hq⟩; replace TQ := Lib.hid (TQ.out.step hq); clear hq)
                | (go_at_call 63; refine (free_at TQ.out HI3.out.ok).mono ?_; rintro e wq ⟨rfl, hq⟩; replace TQ := Lib.hid (TQ.out.step hq); clear hq)
                | (go_at_call 64; refine (free64 (Sep.up2 (Sep.up2 TQ.out)) HI3.out).mono ?_; rintro e wq ⟨rfl, hq⟩; replace TQ := Lib.hid (TQ.out.step hq); clear hq))
              go_roundw
              case rel => exact ⟨k + 1, p, g, N, rb, p2, g2, M, rd, by omega, by go_num, rfl, rfl, rfl, rfl, ⟨_, _, _, _, (ss ++ [⟨a9, k9, c9⟩]), (ls ++ [ints l3]), HIa.out, HI3.out, HK.out.add ⟨a9, k9, c9⟩ HSH.out, odd_swap TQ.out⟩⟩
              case measure => simp [intOf]; omega
          · have hz : True := trivial
            have ho : (xo.tmod 2 != 0) = true := hon
            have hp1 : (k : Int) % 2 = 1 := by omega
            have hp3 : (k : Int).tmod 2 = 1 := by rw [Int.tmod_eq_emod_of_nonneg (by omega)]; exact hp1
            have hq6 : (xk == 6) = true := hk6
            clear hon hpar hk6
            replace TQ := Lib.hid (odd_swap TQ.out)
            obtain ⟨er, a3, b3, ok3, l3, ws3, hA⟩ : ∃ er a b ok l ws', actA M wc xk xn = (⟨er, a, b, ok, l⟩, ws') := ⟨_, _, _, _, _, _, rfl⟩
            have hI3 := inv_act HIc.out xk xn
            rw [hA] at hI3
            have HI3 := Lib.hid hI3
            have HA := Lib.hid hA
            have HSH := Lib.hid (act_short HIc.out hA)
            clear hI3 hA
            go_wp2_with (go_at_call 53; refine (act53_at HE.out HT.out (Sep.up1 (TQ.out.box 84 [.int .i64 xk, .int .i64 xo, .int .i64 xn])) HIc.out.ok HA.out _).mono ?_; rintro e wq ⟨vz, rfl, Sq⟩; obtain ⟨a9, k9, c9, rfl, _, hk9⟩ := rdv_form (T := IT) (Sep.rdv Sq (.head _)); clear hk9; replace TQ := Lib.hid Sq; clear Sq c2 d0 d1 d2)
            replace TQ := Lib.hid (TQ.out.box 88 [.int .i64 (numOf er), .int .i64 a3, .int .i64 b3, .bool ok3, .slice a9 k9 c9]).drew
            generalize wr.heap.size = s at TQ ⊢
            generalize wq.heap.size = gt at TQ ⊢
            refine wp_region_held_drew (S := fun w' => w'.cell? ⟨gt, 0, none⟩ = some (.int .i64 (numOf er)) ∧ w'.cell? ⟨gt, 1, none⟩ = some (.int .i64 a3) ∧ w'.cell? ⟨gt, 2, none⟩ = some (.int .i64 b3) ∧ w'.cell? ⟨gt, 3, none⟩ = some (.bool ok3) ∧ w'.cell? ⟨gt, 4, none⟩ = some (.slice a9 k9 c9) ∧ w'.cell? ⟨s, 0, none⟩ = some (.int .i64 xk) ∧ w'.cell? ⟨s, 1, none⟩ = some (.int .i64 xo) ∧ w'.cell? ⟨s, 2, none⟩ = some (.int .i64 xn)) (by kernel_rfl) ⟨blk_mem TQ.out (g := gt) (t := 88) (cs := [.int .i64 (numOf er), .int .i64 a3, .int .i64 b3, .bool ok3, .slice a9 k9 c9]) (by simp) 0 rfl, blk_mem TQ.out (g := gt) (t := 88) (cs := [.int .i64 (numOf er), .int .i64 a3, .int .i64 b3, .bool ok3, .slice a9 k9 c9]) (by simp) 1 rfl, blk_mem TQ.out (g := gt) (t := 88) (cs := [.int .i64 (numOf er), .int .i64 a3, .int .i64 b3, .bool ok3, .slice a9 k9 c9]) (by simp) 2 rfl, blk_mem TQ.out (g := gt) (t := 88) (cs := [.int .i64 (numOf er), .int .i64 a3, .int .i64 b3, .bool ok3, .slice a9 k9 c9]) (by simp) 3 rfl, blk_mem TQ.out (g := gt) (t := 88) (cs := [.int .i64 (numOf er), .int .i64 a3, .int .i64 b3, .bool ok3, .slice a9 k9 c9]) (by simp) 4 rfl, blk_mem TQ.out (g := s) (t := 84) (cs := [.int .i64 xk, .int .i64 xo, .int .i64 xn]) (by simp) 0 rfl, blk_mem TQ.out (g := s) (t := 84) (cs := [.int .i64 xk, .int .i64 xo, .int .i64 xn]) (by simp) 1 rfl, blk_mem TQ.out (g := s) (t := 84) (cs := [.int .i64 xk, .int .i64 xo, .int .i64 xn]) (by simp) 2 rfl⟩ (fun hHeld => ?_)
            refine wpAnyH_take (i := 0) (v := .agg #[.int .i64 (numOf er), .int .i64 a3, .int .i64 b3, .bool ok3, .slice a9 k9 c9]) rfl (by kernel_rfl) (by kernel_rfl) (by kernel_rfl) (fun _ _ _ h => h) (Or.inl ⟨by kernel_rfl, fun w' hSw => ?_⟩) (by assumption) ?_
            · obtain ⟨e0, e1, e2, e3, e4, e5, e6, e7⟩ := hSw
              go_simp
            try simp only [List.getElem_toArray, List.getElem_cons_succ, List.getElem_cons_zero, Act.put, List.setIfInBounds_toArray, List.set_cons_zero, List.set_cons_succ]
            refine wpAnyH_take (i := 1) (v := .pointer (some ⟨rd, 0, none⟩)) rfl (by kernel_rfl) (by kernel_rfl) (by kernel_rfl) (fun _ _ _ h => h) (Or.inl ⟨by kernel_rfl, fun w' hSw => ?_⟩) (by assumption) ?_
            · obtain ⟨e0, e1, e2, e3, e4, e5, e6, e7⟩ := hSw
              go_simp
            try simp only [List.getElem_toArray, List.getElem_cons_succ, List.getElem_cons_zero, Act.put, List.setIfInBounds_toArray, List.set_cons_zero, List.set_cons_succ]
            refine wpAnyH_take (i := 2) (v := .agg #[.int .i64 xk, .int .i64 xo, .int .i64 xn]) rfl (by kernel_rfl) (by kernel_rfl) (by kernel_rfl) (fun _ _ _ h => h) (Or.inl ⟨by kernel_rfl, fun w' hSw => ?_⟩) (by assumption) ?_
            · obtain ⟨e0, e1, e2, e3, e4, e5, e6, e7⟩ := hSw
              go_simp
            try simp only [List.getElem_toArray, List.getElem_cons_succ, List.getElem_cons_zero, Act.put, List.setIfInBounds_toArray, List.set_cons_zero, List.set_cons_succ]
            refine wpAnyH_ready (rs := [3]) (by kernel_rfl) (by simp) ?_
            refine AllReadyH.cons rfl (fun K hKK => ?_) AllReadyH.nil
            go_simp
            go_at_call 59; refine (told59 (Sep.up5 (Sep.up5 TQ.out)) HIc.out HA.out _).mono ?_; rintro e wq2 ⟨vn2, vy, rfl, Sq⟩; replace TQ := Lib.hid Sq; clear Sq
            refine hKK.out _ _ ⟨blk_mem TQ.out (g := gt) (t := 88) (cs := [.int .i64 (numOf er), .int .i64 a3, .int .i64 b3, .bool ok3, .slice a9 k9 c9]) (by simp) 0 rfl, blk_mem TQ.out (g := gt) (t := 88) (cs := [.int .i64 (numOf er), .int .i64 a3, .int .i64 b3, .bool ok3, .slice a9 k9 c9]) (by simp) 1 rfl, blk_mem TQ.out (g := gt) (t := 88) (cs := [.int .i64 (numOf er), .int .i64 a3, .int .i64 b3, .bool ok3, .slice a9 k9 c9]) (by simp) 2 rfl, blk_mem TQ.out (g := gt) (t := 88) (cs := [.int .i64 (numOf er), .int .i64 a3, .int .i64 b3, .bool ok3, .slice a9 k9 c9]) (by simp) 3 rfl, blk_mem TQ.out (g := gt) (t := 88) (cs := [.int .i64 (numOf er), .int .i64 a3, .int .i64 b3, .bool ok3, .slice a9 k9 c9]) (by simp) 4 rfl, blk_mem TQ.out (g := s) (t := 84) (cs := [.int .i64 xk, .int .i64 xo, .int .i64 xn]) (by simp) 0 rfl, blk_mem TQ.out (g := s) (t := 84) (cs := [.int .i64 xk, .int .i64 xo, .int .i64 xn]) (by simp) 1 rfl, blk_mem TQ.out (g := s) (t := 84) (cs := [.int .i64 xk, .int .i64 xo, .int .i64 xn]) (by simp) 2 rfl⟩ (fun hHeld2 => ?_)
            clear hKK K
            clear hHeld
            have hHeld := hHeld2
            clear hHeld2
            try simp only [List.getElem_toArray, List.getElem_cons_succ, List.getElem_cons_zero, Act.put, List.setIfInBounds_toArray, List.set_cons_zero, List.set_cons_succ]
            refine wpAnyH_ready (rs := [4]) (by kernel_rfl) (by simp) ?_
            refine AllReadyH.cons rfl (fun K hKK => ?_) AllReadyH.nil
            go_simp
            go_at_call 56; refine (same56 _ _ _ _ (TQ.out.rdv (v := .slice a9 k9 c9) (l := ints l3) (by simp)) (TQ.out.rdv (v := vy) (l := ints l3) (by simp))).mono ?_; rintro e wq ⟨rfl, hq⟩; replace TQ := Lib.hid (TQ.out.step hq); clear hq
            refine hKK.out _ _ ⟨blk_mem TQ.out (g := gt) (t := 88) (cs := [.int .i64 (numOf er), .int .i64 a3, .int .i64 b3, .bool ok3, .slice a9 k9 c9]) (by simp) 0 rfl, blk_mem TQ.out (g := gt) (t := 88) (cs := [.int .i64 (numOf er), .int .i64 a3, .int .i64 b3, .bool ok3, .slice a9 k9 c9]) (by simp) 1 rfl, blk_mem TQ.out (g := gt) (t := 88) (cs := [.int .i64 (numOf er), .int .i64 a3, .int .i64 b3, .bool ok3, .slice a9 k9 c9]) (by simp) 2 rfl, blk_mem TQ.out (g := gt) (t := 88) (cs := [.int .i64 (numOf er), .int .i64 a3, .int .i64 b3, .bool ok3, .slice a9 k9 c9]) (by simp) 3 rfl, blk_mem TQ.out (g := gt) (t := 88) (cs := [.int .i64 (numOf er), .int .i64 a3, .int .i64 b3, .bool ok3, .slice a9 k9 c9]) (by simp) 4 rfl, blk_mem TQ.out (g := s) (t := 84) (cs := [.int .i64 xk, .int .i64 xo, .int .i64 xn]) (by simp) 0 rfl, blk_mem TQ.out (g := s) (t := 84) (cs := [.int .i64 xk, .int .i64 xo, .int .i64 xn]) (by simp) 1 rfl, blk_mem TQ.out (g := s) (t := 84) (cs := [.int .i64 xk, .int .i64 xo, .int .i64 xn]) (by simp) 2 rfl⟩ (fun hHeld2 => ?_)
            clear hKK K
            clear hHeld
            have hHeld := hHeld2
            clear hHeld2
            try simp only [List.getElem_toArray, List.getElem_cons_succ, List.getElem_cons_zero, Act.put, List.setIfInBounds_toArray, List.set_cons_zero, List.set_cons_succ]
            refine wpAnyH_take (i := 5) (v := .bool false) rfl (by kernel_rfl) (by kernel_rfl) (by kernel_rfl) (fun _ _ _ h => h) (Or.inl ⟨by kernel_rfl, fun w' hSw => ?_⟩) (by assumption) ?_
            · obtain ⟨e0, e1, e2, e3, e4, e5, e6, e7⟩ := hSw
              go_simp
            try simp only [List.getElem_toArray, List.getElem_cons_succ, List.getElem_cons_zero, Act.put, List.setIfInBounds_toArray, List.set_cons_zero, List.set_cons_succ]
            refine wpAnyH_take (i := 6) (v := .bool false) rfl (by kernel_rfl) (by kernel_rfl) (by kernel_rfl) (fun _ _ _ h => h) (Or.inl ⟨by kernel_rfl, fun w' hSw => ?_⟩) (by assumption) ?_
            · obtain ⟨e0, e1, e2, e3, e4, e5, e6, e7⟩ := hSw
              go_simp
            try simp only [List.getElem_toArray, List.getElem_cons_succ, List.getElem_cons_zero, Act.put, List.setIfInBounds_toArray, List.set_cons_zero, List.set_cons_succ]
            refine wpAnyH_take (i := 7) (v := .int .i64 k) rfl (by kernel_rfl) (by kernel_rfl) (by kernel_rfl) (fun _ _ _ h => h) (Or.inl ⟨by kernel_rfl, fun w' hSw => ?_⟩) (by assumption) ?_
            · obtain ⟨e0, e1, e2, e3, e4, e5, e6, e7⟩ := hSw
              go_simp
            try simp only [List.getElem_toArray, List.getElem_cons_succ, List.getElem_cons_zero, Act.put, List.setIfInBounds_toArray, List.set_cons_zero, List.set_cons_succ]
            refine wpAnyH_take (i := 8) (v := .int .i64 1) rfl (by kernel_rfl) (by kernel_rfl) (by kernel_rfl) (fun _ _ _ h => h) (Or.inl ⟨by kernel_rfl, fun w' hSw => ?_⟩) (by assumption) ?_
            · obtain ⟨e0, e1, e2, e3, e4, e5, e6, e7⟩ := hSw
              go_simp
            try simp only [List.getElem_toArray, List.getElem_cons_succ, List.getElem_cons_zero, Act.put, List.setIfInBounds_toArray, List.set_cons_zero, List.set_cons_succ]
            refine wpAnyH_take (i := 9) (v := .bool false) rfl (by kernel_rfl) (by kernel_rfl) (by kernel_rfl) (fun _ _ _ h => h) (Or.inl ⟨by kernel_rfl, fun w' hSw => ?_⟩) (by assumption) ?_
            · obtain ⟨e0, e1, e2, e3, e4, e5, e6, e7⟩ := hSw
              go_simp
            try simp only [List.getElem_toArray, List.getElem_cons_succ, List.getElem_cons_zero, Act.put, List.setIfInBounds_toArray, List.set_cons_zero, List.set_cons_succ]
            refine wpAnyH_take (i := 10) (v := .bool false) rfl (by kernel_rfl) (by kernel_rfl) (by kernel_rfl) (fun _ _ _ h => h) (Or.inl ⟨by kernel_rfl, fun w' hSw => ?_⟩) (by assumption) ?_
            · obtain ⟨e0, e1, e2, e3, e4, e5, e6, e7⟩ := hSw
              go_simp
            try simp only [List.getElem_toArray, List.getElem_cons_succ, List.getElem_cons_zero, Act.put, List.setIfInBounds_toArray, List.set_cons_zero, List.set_cons_succ]
            refine wpAnyH_take (i := 11) (v := undef) rfl (by kernel_rfl) (by kernel_rfl) (by kernel_rfl) (fun _ _ _ h => h) (Or.inr ⟨by kernel_rfl, rfl⟩) (by assumption) ?_
            try simp only [List.getElem_toArray, List.getElem_cons_succ, List.getElem_cons_zero, Act.put, List.setIfInBounds_toArray, List.set_cons_zero, List.set_cons_succ]
            refine wpAnyH_take (i := 12) (v := undef) rfl (by kernel_rfl) (by kernel_rfl) (by kernel_rfl) (fun _ _ _ h => h) (Or.inr ⟨by kernel_rfl, rfl⟩) (by assumption) ?_
            try simp only [List.getElem_toArray, List.getElem_cons_succ, List.getElem_cons_zero, Act.put, List.setIfInBounds_toArray, List.set_cons_zero, List.set_cons_succ]
            refine wpAnyH_take (i := 13) (v := undef) rfl (by kernel_rfl) (by kernel_rfl) (by kernel_rfl) (fun _ _ _ h => h) (Or.inr ⟨by kernel_rfl, rfl⟩) (by assumption) ?_
            try simp only [List.getElem_toArray, List.getElem_cons_succ, List.getElem_cons_zero, Act.put, List.setIfInBounds_toArray, List.set_cons_zero, List.set_cons_succ]
            refine wpAnyH_take (i := 14) (v := undef) rfl (by kernel_rfl) (by kernel_rfl) (by kernel_rfl) (fun _ _ _ h => h) (Or.inr ⟨by kernel_rfl, rfl⟩) (by assumption) ?_
            try simp only [List.getElem_toArray, List.getElem_cons_succ, List.getElem_cons_zero, Act.put, List.setIfInBounds_toArray, List.set_cons_zero, List.set_cons_succ]
            refine wpAnyH_take (i := 15) (v := .bool false) rfl (by kernel_rfl) (by kernel_rfl) (by kernel_rfl) (fun _ _ _ h => h) (Or.inl ⟨by kernel_rfl, fun w' hSw => ?_⟩) (by assumption) ?_
            · obtain ⟨e0, e1, e2, e3, e4, e5, e6, e7⟩ := hSw
              go_simp
            try simp only [List.getElem_toArray, List.getElem_cons_succ, List.getElem_cons_zero, Act.put, List.setIfInBounds_toArray, List.set_cons_zero, List.set_cons_succ]
            refine wpAnyH_take (i := 16) (v := .bool false) rfl (by kernel_rfl) (by kernel_rfl) (by kernel_rfl) (fun _ _ _ h => h) (Or.inl ⟨by kernel_rfl, fun w' hSw => ?_⟩) (by assumption) ?_
            · obtain ⟨e0, e1, e2, e3, e4, e5, e6, e7⟩ := hSw
              go_simp
            try simp only [List.getElem_toArray, List.getElem_cons_succ, List.getElem_cons_zero, Act.put, List.setIfInBounds_toArray, List.set_cons_zero, List.set_cons_succ]
            refine wpAnyH_done (by kernel_rfl) ?_ _
            clear hHeld
            all_goals
              replace TQ := Lib.hid (Sep.up4 (TQ.out.keepS (.cons _ (.refl _))))
              have d0 := blk_mem TQ.out (g := s) (t := 84) (cs := [.int .i64 xk, .int .i64 xo, .int .i64 xn]) (by simp) 0 rfl
              have g4 := blk_mem TQ.out (g := gt) (t := 88) (cs := [.int .i64 (numOf er), .int .i64 a3, .int .i64 b3, .bool ok3, .slice a9 k9 c9]) (by simp) 4 rfl
              have q1 : True := trivial
              have q2 : True := trivial
              go_wp2_with (first
                | (at_builtin; refine app_sep elemK rfl (.tmp 119) (.tmp 122) rfl u11 ss rfl ((Sep.up [_, _, _, _, _, _, _, _, _, _] TQ.out).alloc _) _ 1 1 [⟨a9, k9, c9⟩] rfl (rd_new KT _ ⟨a9, k9, c9⟩ _ rfl 86) hbK.out ?_; intro v11 w11 Sq hkp; obtain ⟨a11, k11, c11, rfl, _, hk11⟩ := rdv_form (T := KT) (Sep.rdv Sq (.head _)); clear hk11; replace TQ := Lib.hid (Sep.down [_, _, _, _, _, _, _, _] (Sep.keepS (sep_add (X := [_, _, _, _, _, _, _, _, _, _]) (s := ⟨a9, k9, c9⟩) (Sep.up5 Sq) HK.out.len) (.cons_cons _ (.cons_cons _ (.cons_cons _ (.cons_cons _ (.cons _ (.refl _)))))))); clear Sq hkp d0 g4; have d0 := blk_mem TQ.out (g := s) (t := 84) (cs := [.int .i64 xk, .int .i64 xo, .int .i64 xn]) (by simp) 0 rfl)
                | (go_at_call 61; refine (copy61 TQ.out HI3.out.ok).mono ?_; rintro e wq ⟨pn, gn, rfl, Sq⟩; replace TQ := Lib.hid (Sep.up3 (Sep.up3 Sq)); clear Sq d0)
                | (go_at_call 62; refine (copy62 TQ.out (refT_short HI3.out)).mono ?_; rintro e wq ⟨rn, vn, rfl, Sq⟩; have d1 := blk_mem Sq (g := s) (t := 84) (cs := [.int .i64 xk, .int .i64 xo, .int .i64 xn]) (by simp) 1 rfl; replace TQ := Lib.hid (Sep.keepS (Sep.up5 (Sep.up4 (Sep.up4 (Sep.up4 (Sep.keepS Sq (.cons_cons _ (.cons_cons _ (.cons_cons _ (.cons_cons _ (.cons_cons _ (.cons_cons _ (.cons_cons _ (.cons _ (.cons _ (.cons _ (.refl _)))))))))))))))) (.cons_cons _ (.cons_cons _ (.cons_cons _ (.cons_cons _ (.cons_cons _ (.cons_cons _ (.cons _ (.refl _))))))))); clear Sq)
                | (go_at_call 63; clear q1; refine (free_at (Sep.up3 TQ.out) HI3.out.ok).mono ?_; rintro e wq ⟨rfl, hq⟩; replace TQ := Lib.hid (TQ.out.step hq); clear hq)
                | (go_at_call 64; clear q2; refine (free64 (Sep.up5 (Sep.up5 TQ.out)) HI3.out).mono ?_; rintro e wq ⟨rfl, hq⟩; replace TQ := Lib.hid (TQ.out.step hq); clear hq)
                | (go_at_call 63; refine (free_at TQ.out HI3.out.ok).mono ?_; rintro e wq ⟨rfl, hq⟩; replace TQ := Lib.hid (TQ.out.step hq); clear hq)
                | (go_at_call 64; refine (free64 (Sep.up2 (Sep.up2 TQ.out)) HI3.out).mono ?_; rintro e wq ⟨rfl, hq⟩; replace TQ := Lib.hid (TQ.out.step hq); clear hq))
              go_roundw
              case rel => exact ⟨k + 1, pn, gn, M, rn, p2, g2, M, rd, by omega, by go_num, rfl, rfl, rfl, rfl, ⟨_, _, _, _, (ss ++ [⟨a9, k9, c9⟩]), (ls ++ [ints l3]), HI3.out, HI3.out, HK.out.add ⟨a9, k9, c9⟩ HSH.out, odd_swap TQ.out⟩⟩
              case measure => simp [intOf]; omega
    · obtain rfl : n = k := by omega
      have c2 := blk_mem TQ.out (g := w.heap.size) (t := 75) (cs := xs) (by simp) 2 K2.out
      have TZ : Hid (Sep w wr (fm p g N wa :: row IT vb (ints (refT N wa)) :: blk rb 158 [.int .i64 N, vb] :: row KT u11 ss :: keptR ss ls)) := Lib.hid (TQ.out.keepS (.cons_cons _ (.cons_cons _ (.cons_cons _ (.cons _ (.cons _ (.cons _ (.cons _ (.refl _)))))))))
      clear TQ hlt hk HIc
      go_wp2
      clear c2
      go_loopw [11, 19] (fun t11 t19 wr => ∃ i : Nat, i ≤ 3 ∧ t19 = .int .i64 i ∧ Hid (∃ wa vb ss ls, FmInv N wa ∧ Kept (n + i) ss ls ∧ i ≤ ss.length ∧ Sep w wr (fm p g N wa :: row IT vb (ints (refT N wa)) :: blk rb 158 [.int .i64 N, vb] :: row KT t11 ss :: keptR ss ls))) (fun _ t19 _ => 3 - (intOf t19).toNat)
      case atStart => exact ⟨0, by omega, rfl, ⟨wa, vb, ss, ls, HIa.out, HK.out, Nat.zero_le _, TZ.out⟩⟩
      case round =>
        clear TZ HIa HK
        obtain ⟨i, hi, rfl, hS⟩ := hrel
        obtain ⟨wa, vb, ss, ls, hI1, hK, hil, hS1⟩ := hS.out
        have HIa := Lib.hid hI1
        have HK := Lib.hid hK
        have TQ := Lib.hid hS1
        clear hS hI1 hK hS1
        by_cases hlt : i < 3
        · obtain ⟨j, hj1, hj2⟩ : ∃ j : Nat, (i : Int) % 2 = (j : Int) ∧ j ≤ 1 := ⟨i % 2, by omega, by omega⟩
          have hj3 : (i : Int).tmod 2 = (j : Int) := by rw [Int.tmod_eq_emod_of_nonneg (by omega)]; exact hj1
          have hbK := Lib.hid (show (ss.length + 1) * 24 ≤ 140737488355328 by have := HK.out.few; omega)
          obtain ⟨er, a3, b3, ok3, l3, ws3, hA⟩ : ∃ er a b ok l ws', actA N wa 5 (1 + (j : Int)) = (⟨er, a, b, ok, l⟩, ws') := ⟨_, _, _, _, _, _, rfl⟩
          have hI3 := inv_act HIa.out 5 (1 + (j : Int))
          rw [hA] at hI3
          have HI3 := Lib.hid hI3
          have HA := Lib.hid hA
          have HSH := Lib.hid (act_short HIa.out hA)
          clear hI3 hA
          go_wp2_with (go_at_call 53; refine (act53_at HE.out HT.out (Sep.up1 (TQ.out.box 84 [.int .i64 5, .int .i64 0, .int .i64 (1 + (j : Int))])) HIa.out.ok HA.out _).mono ?_; rintro e wq ⟨vz, rfl, Sq⟩; obtain ⟨a9, k9, c9, rfl, _, hk9⟩ := rdv_form (T := IT) (Sep.rdv Sq (.head _)); clear hk9; replace TQ := Lib.hid Sq; clear Sq)
          replace TQ := Lib.hid (TQ.out.box 88 [.int .i64 (numOf er), .int .i64 a3, .int .i64 b3, .bool ok3, .slice a9 k9 c9]).drew
          generalize wr.heap.size = s at TQ ⊢
          generalize wq.heap.size = gt at TQ ⊢
          go_region_held3 (fun w' => w'.cell? ⟨gt, 0, none⟩ = some (.int .i64 (numOf er)) ∧ w'.cell? ⟨gt, 1, none⟩ = some (.int .i64 a3) ∧ w'.cell? ⟨gt, 2, none⟩ = some (.int .i64 b3) ∧ w'.cell? ⟨gt, 3, none⟩ = some (.bool ok3) ∧ w'.cell? ⟨gt, 4, none⟩ = some (.slice a9 k9 c9) ∧ w'.cell? ⟨s, 0, none⟩ = some (.int .i64 5) ∧ w'.cell? ⟨s, 1, none⟩ = some (.int .i64 0) ∧ w'.cell? ⟨s, 2, none⟩ = some (.int .i64 (1 + (j : Int)))) (first | exact ⟨blk_mem TQ.out (g := gt) (t := 88) (cs := [.int .i64 (numOf er), .int .i64 a3, .int .i64 b3, .bool ok3, .slice a9 k9 c9]) (by simp) 0 rfl, blk_mem TQ.out (g := gt) (t := 88) (cs := [.int .i64 (numOf er), .int .i64 a3, .int .i64 b3, .bool ok3, .slice a9 k9 c9]) (by simp) 1 rfl, blk_mem TQ.out (g := gt) (t := 88) (cs := [.int .i64 (numOf er), .int .i64 a3, .int .i64 b3, .bool ok3, .slice a9 k9 c9]) (by simp) 2 rfl, blk_mem TQ.out (g := gt) (t := 88) (cs := [.int .i64 (numOf er), .int .i64 a3, .int .i64 b3, .bool ok3, .slice a9 k9 c9]) (by simp) 3 rfl, blk_mem TQ.out (g := gt) (t := 88) (cs := [.int .i64 (numOf er), .int .i64 a3, .int .i64 b3, .bool ok3, .slice a9 k9 c9]) (by simp) 4 rfl, blk_mem TQ.out (g := s) (t := 84) (cs := [.int .i64 5, .int .i64 0, .int .i64 (1 + (j : Int))]) (by simp) 0 rfl, blk_mem TQ.out (g := s) (t := 84) (cs := [.int .i64 5, .int .i64 0, .int .i64 (1 + (j : Int))]) (by simp) 1 rfl, blk_mem TQ.out (g := s) (t := 84) (cs := [.int .i64 5, .int .i64 0, .int .i64 (1 + (j : Int))]) (by simp) 2 rfl⟩ | go_keep) (first
            | (go_at_call 59; refine (told59 (Sep.up5 (Sep.up5 TQ.out)) HIa.out HA.out _).mono ?_; rintro e wq2 ⟨vn2, vy, rfl, Sq⟩; replace TQ := Lib.hid Sq; clear Sq)
            | (go_at_call 56; refine (same56 _ _ _ _ (TQ.out.rdv (v := .slice a9 k9 c9) (l := ints l3) (by simp)) (TQ.out.rdv (v := vy) (l := ints l3) (by simp))).mono ?_; rintro e wq ⟨rfl, hq⟩; replace TQ := Lib.hid (TQ.out.step hq); clear hq))
          all_goals
            replace TQ := Lib.hid (Sep.up4 (TQ.out.keepS (.cons _ (.refl _))))
            have g4 := blk_mem TQ.out (g := gt) (t := 88) (cs := [.int .i64 (numOf er), .int .i64 a3, .int .i64 b3, .bool ok3, .slice a9 k9 c9]) (by simp) 4 rfl
            go_wp2_with (at_builtin; refine app_sep elemK rfl (.tmp 170) (.tmp 173) rfl u11 ss rfl ((Sep.up [_, _, _, _, _, _] TQ.out).alloc _) _ 1 1 [⟨a9, k9, c9⟩] rfl (rd_new KT _ ⟨a9, k9, c9⟩ _ rfl 86) hbK.out ?_; intro v11 w11 Sq hkp; obtain ⟨a11, k11, c11, rfl, _, hk11⟩ := rdv_form (T := KT) (Sep.rdv Sq (.head _)); clear hk11; replace TQ := Lib.hid (Sep.down [_, _, _] (Sep.keepS (sep_add (X := [_, _, _, _, _, _]) (s := ⟨a9, k9, c9⟩) (Sep.up5 Sq) HK.out.len) (.cons_cons _ (.cons_cons _ (.cons_cons _ (.cons_cons _ (.cons _ (.cons _ (.refl _))))))))); clear Sq hkp g4)
            go_roundw
            case rel => exact ⟨i + 1, by omega, by go_num, ⟨_, _, _, _, HI3.out, HK.out.add ⟨a9, k9, c9⟩ HSH.out, by simp; omega, TQ.out⟩⟩
            case measure => simp [intOf]; omega
        · obtain rfl : 3 = i := by omega
          obtain ⟨q, m, cap, rfl, hm⟩ : ∃ q m cap, u11 = .slice (some ⟨q, 0, none⟩) m cap ∧ m = ss.length := by
            rcases Row.form (TQ.out.is (row KT u11 ss) (by simp)) with ⟨_, h⟩ | ⟨q, c', h, _⟩
            · rw [h] at hil; simp at hil
            · exact ⟨q, _, c', h, rfl⟩
          have hm2 : m ≤ 2097152 := by rw [hm]; have := HK.out.few; omega
          have HM := Lib.hid hm
          obtain ⟨er, a3, b3, ok3, l3, ws3, hA⟩ : ∃ er a b ok l ws', actA N wa 5 1 = (⟨er, a, b, ok, l⟩, ws') := ⟨_, _, _, _, _, _, rfl⟩
          have hI3 := inv_act HIa.out 5 1
          rw [hA] at hI3
          have HI3 := Lib.hid hI3
          have HA := Lib.hid hA
          clear hI3 hA hm hil
          go_wp2_with (first
            | (go_at_call 65; refine (apart65 w _ _ q m cap ss ls HM.out.symm (by rw [HM.out, HK.out.len]) hm2 HK.out.short (Sep.perm (Sep.up3 TQ.out) (List.perm_append_comm (l₁ := [_, _, _, _])))).mono ?_; rintro e wq ⟨rfl, Sq⟩; replace TQ := Lib.hid Sq; clear Sq)
            | (go_at_call 53; refine (act53_at HE.out HT.out TQ.out HIa.out.ok HA.out _).mono ?_; rintro e wq ⟨vz, rfl, Sq⟩; replace TQ := Lib.hid Sq; clear Sq)
            | (go_at_call 59; refine (told59 (Sep.up3 (Sep.up3 TQ.out)) HIa.out HA.out _).mono ?_; rintro e wq2 ⟨vn2, vy, rfl, Sq⟩; replace TQ := Lib.hid Sq; clear Sq)
            | (go_at_call 56; refine (same56 _ _ _ _ (TQ.out.rdv (v := vz) (l := ints l3) (by simp)) (TQ.out.rdv (v := vy) (l := ints l3) (by simp))).mono ?_; rintro e wq ⟨rfl, hq⟩; replace TQ := Lib.hid (TQ.out.step hq); clear hq)
            | (go_at_call 63; refine (free_at (Sep.up4 TQ.out) HI3.out.ok).mono ?_; rintro e wq ⟨rfl, hq⟩; replace TQ := Lib.hid (TQ.out.step hq); clear hq)
            | (go_at_call 64; refine (free64 (Sep.up2 (Sep.up2 TQ.out)) HI3.out).mono ?_; rintro e wq ⟨rfl, hq⟩; replace TQ := Lib.hid (TQ.out.step hq); clear hq))
          go_ret
          exact ⟨by simp, TQ.out.below⟩
/-- The law, whatever the sizes. -/
theorem freePlays (E : Nat → Addr) (w : World) (aS : Option Addr) (cS n : Nat) (X : List St) (pg ot : Int) (hE : Errs all13 E w) (hT : TabAt13 w) (hX : Rd ST w aS n X) (hn : n ≤ 1048576) :
    Calls Tryd.prog 12 #[.agg #[.int .i64 pg, .int .i64 ot, .slice aS n cS]] w fun e w' => e = .returned (.bool true) ∧ Below w.heap.size w w' := by
  by_cases h1 : pg < 4 ∨ 1048576 < pg
  · by_cases h2 : ot < 4 ∨ 1048576 < ot
    · exact freePlays_neither E w aS cS n X pg ot hE hT hX h1 h2
    · obtain ⟨q, rfl⟩ := Int.eq_ofNat_of_zero_le (show 0 ≤ ot by omega)
      exact freePlays_first E w aS cS n X pg q hE hT hX h1 (by omega) (by omega)
  · obtain ⟨p, rfl⟩ := Int.eq_ofNat_of_zero_le (show 0 ≤ pg by omega)
    by_cases h2 : ot < 4 ∨ 1048576 < ot
    · exact freePlays_second E w aS cS n X p ot hE hT hX (by omega) (by omega) h2
    · obtain ⟨q, rfl⟩ := Int.eq_ofNat_of_zero_le (show 0 ≤ ot by omega)
      exact freePlays_both E w aS cS n X p q hE hT hX hn (by omega) (by omega) (by omega) (by omega)
end Go.Proofs.YtdkailccfcijiaaDoor
