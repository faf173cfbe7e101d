/- The book of a map's pages: New, count, tree, took. No condition but the sizes. The book of a map's pages: took, agrees, step. No condition but the sizes, the laid errors and the library's table. -/
import Derived.Test.YtdkailccfcijiaaDoorFm
namespace Go.Proofs.YtdkailccfcijiaaDoor
open Go.RowKit Go.Shelf
set_option linter.unusedVariables false
set_option linter.unusedSimpArgs false
set_option maxRecDepth 100000

def BT : Ty Bool := ⟨4, 1, fun x => [.bool x], fun _ => rfl, fun _ u h => by simp at h; subst h; rfl, by decide⟩
theorem elemB : Elem Tryd.prog BT 148 1 := ⟨Tryd.underlying148, ⟨.bool false, rfl, by kernel_rfl⟩, by decide⟩
/-- The book at block q, its row at block h. -/
structure BookAt (w : World) (q h : Nat) (l : List Bool) : Prop where
  head : ∃ c, w.cell? ⟨q, 0, none⟩ = some (.slice (some ⟨h, 0, none⟩) l.length c)
  at_ : ∀ i b, l[i]? = some b → w.cell? ⟨h, i, none⟩ = some (.bool b)
theorem BookAt.below {w w' : World} {q h : Nat} {l : List Bool} (B : BookAt w q h l) (k : Below w.heap.size w w') : BookAt w' q h l :=
  ⟨let ⟨c, hc⟩ := B.head; ⟨c, qcell hc k⟩, fun i b hi => qcell (B.at_ i b hi) k⟩
theorem book_at {w0 w : World} {L : List Chunk} {q h c : Nat} {l : List Bool} (S : Sep w0 w (row BT (.slice (some ⟨h, 0, none⟩) l.length c) l :: blk q 150 [.slice (some ⟨h, 0, none⟩) l.length c] :: L)) : BookAt w q h l :=
  ⟨⟨c, blk_cell S.tl 0 rfl⟩, fun i b hi => by
    have := row_cell S (i := i) (j := 0) hi (show (BT.enc b)[0]? = some (.bool b) from rfl)
    simpa [BT] using this⟩
set_option maxHeartbeats 2000000 in
theorem count95 {w : World} {q h : Nat} {l : List Bool} (B : BookAt w q h l) (hl : l.length ≤ 1048576) :
    Calls Tryd.prog 95 #[.pointer (some ⟨q, 0, none⟩)] w fun e w' => e = .returned (.int .i64 (cntF l : Nat)) ∧ Below w.heap.size w w' := by
  obtain ⟨c, c0⟩ := B.head
  have HA := Lib.hid B.at_
  generalize hn : l.length = n at c0 hl
  have HN := Lib.hid hn
  clear B hn
  go_enter Tryd.func95, Tryd.ntmps95
  go_wp2
  go_loop [3, 4] (fun t3 t4 => ∃ k : Nat, k ≤ n ∧ t4 = .int .i64 k ∧ t3 = .int .i64 (cntF (l.take k) : Nat)) (fun _ t4 => n - (intOf t4).toNat)
  case atStart => exact ⟨0, Nat.zero_le _, rfl, rfl⟩
  case round =>
    obtain ⟨k, hk, rfl, rfl⟩ := hrel
    have hb := cntF_le (l.take k)
    have hb2 : (l.take k).length ≤ k := List.length_take_le _ _
    by_cases hlt : k < n
    · have hx : l[k]? = some (l[k]'(by rw [HN.out]; exact hlt)) := List.getElem?_eq_getElem _
      generalize l[k]'(by rw [HN.out]; exact hlt) = x at hx
      have cx := HA.out k x hx
      have HT := Lib.hid (cntF_take hx)
      clear hx
      have hcb : cntF (l.take k) ≤ 1048576 := by omega
      clear hb hb2
      generalize cntF (l.take k) = cf at HT hcb
      cases x
      · go_wp2
        go_round
        case rel => exact ⟨k + 1, by omega, by go_num, by rw [HT.out]; go_num⟩
        case measure => simp [intOf]; omega
      · go_wp2
        go_round
        case rel => exact ⟨k + 1, by omega, by go_num, by rw [HT.out]; simp⟩
        case measure => simp [intOf]; omega
    · obtain rfl : n = k := by omega
      have HE : Hid (l.take n = l) := Lib.hid (List.take_of_length_le (by rw [HN.out]; exact Nat.le_refl _))
      go_wp2
      go_ret
      rw [HE.out]
      exact ⟨rfl, qrefl _⟩
set_option maxHeartbeats 2000000 in
theorem tree96 {w : World} {q h : Nat} {l : List Bool} (B : BookAt w q h l) (i : Int) :
    Calls Tryd.prog 96 #[.pointer (some ⟨q, 0, none⟩), .int .i64 i] w fun e w' => e = .returned (.bool (treeB l.length i)) ∧ Below w.heap.size w w' := by
  obtain ⟨c, c0⟩ := B.head
  clear B
  generalize l.length = n at c0
  by_cases h1 : i < 2
  · have hu : treeB n i = false := by unfold treeB; simp; intro h; omega
    rw [hu]
    clear hu
    go_enter Tryd.func96, Tryd.ntmps96
    go_wp2
    go_ret
    exact ⟨rfl, qrefl _⟩
  · by_cases h2 : (n : Int) ≤ i
    · have hu : treeB n i = false := by unfold treeB; simp; intro h; omega
      have hd : decide (i < (n : Int)) = false := by simp; omega
      rw [hu]
      clear hu
      go_enter Tryd.func96, Tryd.ntmps96
      go_wp2
      go_ret
      exact ⟨rfl, qrefl _⟩
    · have hu : treeB n i = true := by unfold treeB; simp; omega
      rw [hu]
      clear hu
      go_enter Tryd.func96, Tryd.ntmps96
      go_wp2
      go_ret
      exact ⟨rfl, qrefl _⟩
def flags (n : Nat) : List Bool := (List.range n).map fun i => decide (i < 2)
theorem flags_len (n : Nat) : (flags n).length = n := by simp [flags]
theorem flags_succ (k : Nat) : flags (k + 1) = flags k ++ [decide (k < 2)] := by simp [flags, List.range_succ]
set_option maxHeartbeats 4000000 in
theorem book49 {w0 w : World} {L : List Chunk} (S : Sep w0 w L) (n : Nat) (hn : n ≤ 1048576) :
    Calls Tryd.prog 49 #[.int .i64 n] w fun e w' => ∃ q v, e = .returned (.pointer (some ⟨q, 0, none⟩)) ∧ Sep w0 w' (row BT v (flags n) :: blk q 150 [v] :: L) := by
  have TQ : Hid (Sep w0 (w.alloc (.cells #[.slice none 0 0] 150)) (row BT (.slice none 0 0) (flags 0) :: blk w.heap.size 150 [.slice none 0 0] :: L)) := Lib.hid ((S.box 150 [.slice none 0 0]).none_ BT)
  generalize hq : w.heap.size = q at TQ
  have HQ := Lib.hid hq
  clear S hq
  go_enter Tryd.func49, Tryd.ntmps49
  go_wp2
  rw [HQ.out]
  go_loopw [4] (fun t wr => ∃ k : Nat, k ≤ n ∧ t = .int .i64 k ∧ Hid (∃ v, Sep w0 wr (row BT v (flags k) :: blk q 150 [v] :: L))) (fun t _ => n - (intOf t).toNat)
  case atStart => exact ⟨0, Nat.zero_le _, rfl, ⟨_, TQ.out⟩⟩
  case round =>
    obtain ⟨k, hk, rfl, hS⟩ := hrel
    clear TQ
    obtain ⟨v, hS1⟩ := hS.out
    obtain ⟨a, c, e0, _, _, _⟩ := Sep.rdv hS1 (.head _)
    rw [flags_len] at e0
    subst e0
    have TQ := Lib.hid hS1
    clear hS hS1
    by_cases hlt : k < n
    · obtain ⟨bx, hbx⟩ : ∃ bx, bx = decide (k < 2) := ⟨_, rfl⟩
      have hb2 : decide ((k : Int) < 2) = bx := by rw [hbx, decide_eq_decide]; omega
      have HF := Lib.hid (flags_succ k)
      rw [← hbx] at HF
      have HL := Lib.hid (flags_len k)
      have c0 := blk_mem TQ.out (.tail _ (.head _)) 0 rfl
      clear hbx
      go_wp2_with (at_builtin; refine app_sep elemB rfl (.tmp 16) (.tmp 19) rfl (.slice a k c) (flags k) rfl (TQ.out.alloc _) _ 1 1 [bx] rfl (rd_new BT wr bx _ rfl 4) (by rw [HL.out]; omega) ?_; intro v5 w5 Sq hkp; obtain ⟨a5, c5, e5, _, _, _⟩ := Sep.rdv Sq (.head _); generalize (flags k ++ [bx]).length = n5 at e5; subst e5; replace TQ := Lib.hid Sq; clear Sq hkp c0; have c1 := blk_mem TQ.out (.tail _ (.head _)) 0 rfl; have f1 := blk_free (Sep.up1 TQ.out) 0)
      go_roundw
      case rel => exact ⟨k + 1, by omega, by go_num, ⟨_, by rw [HF.out]; exact Sep.up1 (blk_set (Sep.up1 TQ.out) 0 (.slice a5 n5 c5))⟩⟩
      case measure => simp [intOf]; omega
    · obtain rfl : n = k := by omega
      go_wp2
      go_ret
      exact ⟨q, _, rfl, TQ.out⟩

theorem row_cellI {w0 w : World} {L : List Chunk} {a : Option Addr} {n c k : Nat} {l : List Int} {x : Int} (S : Sep w0 w L) (h : row IT (.slice a n c) l ∈ L) (hx : l[k]? = some x) : ∃ b o, a = some ⟨b, o, none⟩ ∧ w.cell? ⟨b, o + k, none⟩ = some (.int .i64 x) := by
  have hr := (Row.rd' (S.is _ h)).1
  have hk : k < n := by
    have := (List.getElem?_eq_some_iff.1 hx).1
    rw [hr.1] at this
    exact this
  obtain ⟨b', o', x', e, hx', hc⟩ := rdI hr hk
  rw [hx] at hx'
  cases hx'
  exact ⟨b', o', e, hc⟩
theorem ints_get {a : List Nat} {k x : Nat} (h : a[k]? = some x) : (ints a)[k]? = some (x : Int) := by simp [ints, h]
theorem bk_form {w0 w : World} {L : List Chunk} {v : Value} {N : Nat} {ws : List Nat} (S : Sep w0 w (row BT v (bk N ws) :: L)) (hN : 4 ≤ N) : ∃ h c, v = .slice (some ⟨h, 0, none⟩) N c := by
  rcases Row.form S.hd with ⟨_, he⟩ | ⟨g, c, rfl, _, _, _⟩
  · have := congrArg List.length he
    rw [bk_len] at this
    simp at this
    omega
  · exact ⟨g, c, by rw [bk_len]⟩
theorem bk_at' {w0 w : World} {L : List Chunk} {q h c N : Nat} {ws : List Nat} (S : Sep w0 w (row BT (.slice (some ⟨h, 0, none⟩) N c) (bk N ws) :: blk q 150 [.slice (some ⟨h, 0, none⟩) N c] :: L)) : BookAt w q h (bk N ws) := by
  have hl := bk_len N ws
  have : ∀ M, M = (bk N ws).length → Sep w0 w (row BT (.slice (some ⟨h, 0, none⟩) M c) (bk N ws) :: blk q 150 [.slice (some ⟨h, 0, none⟩) M c] :: L) → BookAt w q h (bk N ws) := fun M e S => by subst e; exact book_at S
  exact this N hl.symm S
theorem bk_mark {w0 w : World} {L : List Chunk} {h c N : Nat} {ws : List Nat} (S : Sep w0 w (row BT (.slice (some ⟨h, 0, none⟩) N c) (bk N ws) :: L)) (hok : FmOk N ws) {i : Nat} (hi : i < N) : Sep w0 (w.setCell ⟨h, i, none⟩ (.bool true)) (row BT (.slice (some ⟨h, 0, none⟩) N c) (bk N (setW ws i)) :: L) := by
  have := row_set (x' := true) (u := .bool true) S (bk_at (ws := ws) hi) (j := 0) (by decide) rfl
  rw [bk_set hok hi]
  simpa [BT] using this
theorem bk_unmark {w0 w : World} {L : List Chunk} {h c N : Nat} {ws : List Nat} (S : Sep w0 w (row BT (.slice (some ⟨h, 0, none⟩) N c) (bk N ws) :: L)) (hok : FmOk N ws) {i : Nat} (hi : i < N) : Sep w0 (w.setCell ⟨h, i, none⟩ (.bool false)) (row BT (.slice (some ⟨h, 0, none⟩) N c) (bk N (clrW ws i)) :: L) := by
  have := row_set (x' := false) (u := .bool false) S (bk_at (ws := ws) hi) (j := 0) (by decide) rfl
  rw [bk_clr hok hi]
  simpa [BT] using this
set_option maxHeartbeats 4000000 in
theorem took97 {w0 w : World} {L : List Chunk} {q N k c : Nat} {a : Option Addr} {v : Value} {ws : List Nat} (S : Sep w0 w (row BT v (bk N ws) :: blk q 150 [v] :: L)) (hI : FmInv N ws) (hm : row IT (.slice a k c) (ints (takeR k ws).1) ∈ L) (hk : k ≤ freeN ws) :
    Calls Tryd.prog 97 #[.pointer (some ⟨q, 0, none⟩), .slice a k c, .int .i64 k] w fun e w' => e = .returned (.bool true) ∧ Sep w0 w' (row BT v (bk N (takeR k ws).2) :: blk q 150 [v] :: L) := by
  obtain ⟨h, cc, rfl⟩ := bk_form S hI.ok.lo
  have hN1 := hI.ok.lo
  have hN2 := hI.ok.hi
  have hkb : k ≤ 1048640 := by have h1 := freeN_le ws; have h2 := hI.ok.len; omega
  have HI := Lib.hid hI
  have HM := Lib.hid hm
  have HK := Lib.hid hk
  have TQ := Lib.hid S
  clear S hI hm hk
  go_enter Tryd.func97, Tryd.ntmps97
  go_wp2
  go_loopw [7, 8] (fun t7 t8 wr => ∃ i at_ : Nat, i ≤ k ∧ t8 = .int .i64 i ∧ t7 = .int .i64 at_ ∧ Hid ((∀ j, j < at_ → tk (takeR i ws).2 j = true) ∧ Sep w0 wr (row BT (.slice (some ⟨h, 0, none⟩) N cc) (bk N (takeR i ws).2) :: blk q 150 [.slice (some ⟨h, 0, none⟩) N cc] :: L))) (fun _ t8 _ => k - (intOf t8).toNat)
  case atStart => exact ⟨0, 2, Nat.zero_le _, rfl, rfl, ⟨HI.out.low, TQ.out⟩⟩
  case round =>
    obtain ⟨i, at_, hi, rfl, rfl, hS⟩ := hrel
    clear TQ
    by_cases hlt : i < k
    · have HW := Lib.hid (inv_take i HI.out (by have := HK.out; omega))
      have hfr := free_take i HI.out (by have := HK.out; omega)
      obtain ⟨hn, hf2, hf3, hf4⟩ := next_at HW.out (by have := HK.out; omega)
      obtain ⟨hx, hstep⟩ := takeR_at k i ws hlt
      have hle : at_ ≤ nextF (takeR i ws).2 := by
        rcases Nat.lt_or_ge (nextF (takeR i ws).2) at_ with h1 | h1
        · have := hS.out.1 _ h1; rw [hn.1] at this; cases this
        · exact h1
      have TQ := Lib.hid hS.out.2
      have HN := Lib.hid hn
      have HX := Lib.hid hx
      have HS := Lib.hid hstep
      clear hS hn hfr hx hstep
      generalize nextF (takeR i ws).2 = f at HN HX HS hf2 hf3 hf4 hle
      generalize (takeR i ws).2 = wi at HN HS TQ HW hf4
      have B := Lib.hid (bk_at' TQ.out)
      obtain ⟨b, o, rfl, cx⟩ := row_cellI TQ.out.tl.tl HM.out (ints_get HX.out)
      obtain ⟨c1, c0⟩ := B.out.head
      rw [bk_len] at c0
      clear hf4
      go_wp2
      go_loop [7] (fun t7 => ∃ at_ : Nat, at_ ≤ f ∧ t7 = .int .i64 at_) (fun t7 => f - (intOf t7).toNat)
      case atStart => exact ⟨at_, hle, rfl⟩
      case round =>
        clear hle
        obtain ⟨at_, hle, rfl⟩ := hrel
        by_cases hlt2 : at_ < f
        · have ht := HN.out.2 at_ hlt2
          have ca := B.out.at_ at_ _ (bk_at (show at_ < N by omega))
          rw [ht] at ca
          clear ht
          go_wp2
          go_round
          case rel => exact ⟨at_ + 1, by omega, by go_num⟩
          case measure => simp [intOf]; omega
        · obtain rfl : f = at_ := by omega
          have ca := B.out.at_ f _ (bk_at hf3)
          rw [HN.out.1] at ca
          have fa := row_free TQ.out f
          clear hle hlt2
          go_wp2
          go_roundw
          case rel => exact ⟨i + 1, f, by omega, by go_num, rfl, by rw [HS.out]; exact ⟨fun j hj => by rw [tk_set (by rw [HW.out.ok.len]; omega), HN.out.2 j hj]; rfl, bk_mark TQ.out HW.out.ok hf3⟩⟩
          case measure => simp [intOf]; omega
    · obtain rfl : k = i := by omega
      have TQ := Lib.hid hS.out.2
      go_wp2
      go_ret
      exact ⟨rfl, TQ.out⟩
theorem took97i {w0 w : World} {L : List Chunk} {q N k c : Nat} {n : Int} {a : Option Addr} {v : Value} {ws : List Nat} (S : Sep w0 w (row BT v (bk N ws) :: blk q 150 [v] :: L)) (hI : FmInv N ws) (hm : row IT (.slice a k c) (ints (takeR k ws).1) ∈ L) (hk : k ≤ freeN ws) (hn : n = (k : Int)) :
    Calls Tryd.prog 97 #[.pointer (some ⟨q, 0, none⟩), .slice a k c, .int .i64 n] w fun e w' => e = .returned (.bool true) ∧ Sep w0 w' (row BT v (bk N (takeR k ws).2) :: blk q 150 [v] :: L) := by
  subst hn
  exact took97 S hI hm hk
theorem used_nat {N : Nat} {ws : List Nat} {k : Nat} (h : k < N) : usedB N ws (k : Int) = tk ws k := by
  unfold usedB
  rw [show decide (0 ≤ (k : Int) ∧ (k : Int) < N) = true by simp; omega, Int.toNat_natCast]
  rfl
theorem used_neg (N : Nat) (ws : List Nat) : usedB N ws (-1) = false := by
  unfold usedB
  simp
theorem used_end (N : Nat) (ws : List Nat) : usedB N ws (N : Int) = false := by
  unfold usedB
  simp
set_option maxHeartbeats 4000000 in
theorem agrees51 {w0 w : World} {L : List Chunk} {q p g N : Nat} {v : Value} {ws : List Nat} (S : Sep w0 w (row BT v (bk N ws) :: blk q 150 [v] :: fm p g N ws :: L)) (hI : FmInv N ws) :
    Calls Tryd.prog 51 #[.pointer (some ⟨q, 0, none⟩), .pointer (some ⟨p, 0, none⟩)] w fun e w' => e = .returned (.bool true) ∧ Below w.heap.size w w' := by
  obtain ⟨h, cc, rfl⟩ := bk_form S hI.ok.lo
  have hN1 := hI.ok.lo
  have hN2 := hI.ok.hi
  have hB := bk_at' S
  have A63 := Lib.hid fun W (hb : Below w.heap.size w W) => free63 (S.tl.tl.step hb) hI.ok
  have A95 := Lib.hid fun W (hb : Below w.heap.size w W) => count95 (hB.below hb) (by rw [bk_len]; exact hN2)
  have A50 := Lib.hid fun W (hb : Below w.heap.size w W) => size50 (S.tl.tl.step hb)
  have A54 := Lib.hid fun W (i : Int) (hb : Below w.heap.size w W) => used54 (S.tl.tl.step hb) hI.ok i
  have A0 := Lib.hid fun W (hb : Below w.heap.size w W) => used54 (S.tl.tl.step hb) hI.ok (-1)
  have A1 := Lib.hid fun W (hb : Below w.heap.size w W) => used54 (S.tl.tl.step hb) hI.ok (N : Int)
  rw [used_neg] at A0
  rw [used_end] at A1
  rw [bk_count hI] at A95
  generalize freeN ws = fr at A63 A95
  obtain ⟨c1, c0⟩ := hB.head
  rw [bk_len] at c0
  have C0 := Lib.hid c0
  have HA := Lib.hid hB.at_
  clear S hI hB c0
  go_enter Tryd.func51, Tryd.ntmps51
  go_wp2
  go_loopw [5] (fun t wr => ∃ k : Nat, k ≤ N ∧ t = .int .i64 k ∧ Hid (Below w.heap.size w wr)) (fun t _ => N - (intOf t).toNat)
  case atStart => exact ⟨0, Nat.zero_le _, rfl, qrefl _⟩
  case round =>
    obtain ⟨k, hk, rfl, HB⟩ := hrel
    have c0 := qcell C0.out HB.out
    have x0 := xt_cell c0
    by_cases hlt : k < N
    · have ca := qcell (HA.out k _ (bk_at (ws := ws) hlt)) HB.out
      have A54k := Lib.hid fun W => A54.out W (k : Int)
      rw [used_nat hlt] at A54k
      generalize tk ws k = tb at ca A54k
      have xa := xt_cell ca
      have hz : (tb != tb) = false := by simp
      clear ca
      go_wp2
      clear c0
      refine xt_region (by kernel_rfl) (by kernel_rfl) ?_
      repeat (go_big_quiet_step ((go_at_call 54; exact xt_call (A54k.out _ (qbelow HB.out (xt_below _ _))))))
      refine wpQuiet_nil ?_
      intro _ hw'
      obtain ⟨m, rfl⟩ := hw'
      replace HB := Lib.hid (qbelow HB.out (xt_below wr m))
      clear x0 xa
      generalize wx wr m = w2 at HB ⊢
      go_wp2
      go_roundw
      case rel => exact ⟨k + 1, by omega, by go_num, HB⟩
      case measure => simp [intOf]; omega
    · obtain rfl : N = k := by omega
      go_wp2
      clear c0
      refine xt_region (by kernel_rfl) (by kernel_rfl) ?_
      repeat (go_big_quiet_step (first
        | (go_at_call 63; exact xt_call (A63.out _ (qbelow HB.out (xt_below _ _))))
        | (go_at_call 95; exact xt_call (A95.out _ (qbelow HB.out (xt_below _ _))))
        | (go_at_call 50; exact xt_call (A50.out _ (qbelow HB.out (xt_below _ _))))
        | (go_at_call 54; with_reducible exact xt_call (A0.out _ (qbelow HB.out (xt_below _ _))))
        | (go_at_call 54; exact xt_call (A1.out _ (qbelow HB.out (xt_below _ _))))))
      refine wpQuiet_nil ?_
      intro _ hw'
      obtain ⟨m, rfl⟩ := hw'
      replace HB := Lib.hid (qbelow HB.out (xt_below wr m))
      clear x0
      generalize wx wr m = w2 at HB ⊢
      go_wp2
      go_ret
      exact ⟨by simp, HB.out⟩
end Go.Proofs.YtdkailccfcijiaaDoor
