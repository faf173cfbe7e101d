/- The document's map: New, Size, Free, taken, Used, Mark, Clear. No condition but the sizes. The document's map: New, Mark, Clear. No condition but the sizes. The document's map: Clear, Take. No condition but the sizes. -/
import Derived.Test.YtdkailccfcijiaaDoorFo
import Derived.Test.YtdkailccfcijiaaDoorFu
namespace Go.Proofs.YtdkailccfcijiaaDoor
open Go.RowKit Go.Shelf
set_option linter.unusedVariables false
set_option linter.unusedSimpArgs false
set_option maxRecDepth 100000

section
variable {w0 w : World} {L : List Chunk} {r N : Nat} {v : Value} {ws : List Nat} {T : List Nat}
theorem size103 (S : Sep w0 w (row IT v (ints T) :: blk r 158 [.int .i64 N, v] :: L)) :
    Calls Tryd.prog 103 #[.pointer (some ⟨r, 0, none⟩)] w fun e w' => e = .returned (.int .i64 N) ∧ Below w.heap.size w w' := by
  have c0 := blk_cell S.tl 0 rfl
  clear S
  go_enter Tryd.func103, Tryd.ntmps103
  go_wp2
  go_ret
  exact ⟨rfl, qrefl _⟩
set_option maxHeartbeats 2000000 in
theorem free64 (S : Sep w0 w (row IT v (ints (refT N ws)) :: blk r 158 [.int .i64 N, v] :: L)) (hI : FmInv N ws) :
    Calls Tryd.prog 64 #[.pointer (some ⟨r, 0, none⟩)] w fun e w' => e = .returned (.int .i64 (freeN ws : Nat)) ∧ Below w.heap.size w w' := by
  obtain ⟨a, n, c, rfl, _, hn⟩ := rdv_form (T := IT) (Sep.rdv S (.head _))
  have c0 := blk_cell S.tl 0 rfl
  have c1 := blk_cell S.tl 1 rfl
  have hlen := refT_len hI
  have hhi := hI.ok.hi
  rw [ints_len] at hn
  have e1 : IntKind.i64.wrap ((N : Int) - 2) = (N : Int) - 2 := IntWalk.i64_in _ (by omega)
  have e2 : IntKind.i64.wrap ((N : Int) - 2 - (n : Int)) = ((freeN ws : Nat) : Int) := by rw [IntWalk.i64_in _ (by omega)]; omega
  generalize freeN ws = fr at e2 hlen
  have x0 := xt_cell c0
  have x1 := xt_cell c1
  clear S hI hn hlen c0 c1
  go_enter Tryd.func64, Tryd.ntmps64
  go_wp2
  refine xt_region (by kernel_rfl) (by kernel_rfl) ?_
  repeat (go_big_quiet_step (fail))
  refine wpQuiet_nil ?_
  intro _ hw'
  obtain ⟨m, rfl⟩ := hw'
  clear x0 x1 e1 e2
  go_wp2
  go_ret
  exact ⟨rfl, xt_below w m⟩
def inB (id : Int) (T : List Nat) : Bool := decide (id ∈ ints T)
set_option maxHeartbeats 2000000 in
theorem taken126 (S : Sep w0 w (row IT v (ints T) :: blk r 158 [.int .i64 N, v] :: L)) (id : Int) (b : Bool) (hb : inB id T = b) :
    Calls Tryd.prog 126 #[.pointer (some ⟨r, 0, none⟩), .int .i64 id] w fun e w' => e = .returned (.bool b) ∧ w = w' := by
  obtain ⟨a, n, c, rfl, hr, hn⟩ := rdv_form (T := IT) (Sep.rdv S (.head _))
  have c1 := blk_cell S.tl 1 rfl
  have HR := Lib.hid hr
  have hl := hr.2.1
  have HN := Lib.hid hn
  have HB := Lib.hid hb
  clear S hr hn hb
  go_enter Tryd.func126, Tryd.ntmps126
  go_wp2
  go_loop [5] (fun t => ∃ k : Nat, k ≤ n ∧ t = .int .i64 k ∧ Hid (∀ j x, j < k → (ints T)[j]? = some x → x ≠ id)) (fun t => n - (intOf t).toNat)
  case atStart => exact ⟨0, Nat.zero_le _, rfl, fun j x hj => by omega⟩
  case round =>
    obtain ⟨k, hk, rfl, hp⟩ := hrel
    by_cases hlt : k < n
    · obtain ⟨bb, o, x, rfl, hx, d0⟩ := rdI HR.out hlt
      have HX := Lib.hid hx
      clear hx
      by_cases he : x = id
      · have hq : (x == id) = true := by simpa using he
        have hbt : b = true := by
          rw [← HB.out]
          unfold inB
          rw [decide_eq_true_eq, ← he]
          exact List.mem_of_getElem? HX.out
        subst hbt
        clear he
        go_wp2
        go_ret
        exact ⟨rfl, rfl⟩
      · have hq : (x == id) = false := by simpa using he
        have HP : Hid (∀ j y, j < k + 1 → (ints T)[j]? = some y → y ≠ id) := by
          intro j y hj hy
          rcases Nat.lt_or_ge j k with h | h
          · exact hp.out j y h hy
          · obtain rfl : j = k := by omega
            rw [HX.out] at hy
            cases hy
            exact he
        clear he hp
        go_wp2
        go_round
        case rel => exact ⟨k + 1, by omega, by go_num, HP⟩
        case measure => simp [intOf]; omega
    · obtain rfl : n = k := by omega
      have hbf : b = false := by
        rw [← HB.out]
        unfold inB
        rw [decide_eq_false_iff_not]
        intro hm
        obtain ⟨j, hj⟩ := List.mem_iff_getElem?.1 hm
        have hjn := (List.getElem?_eq_some_iff.1 hj).1
        rw [← HN.out] at hjn
        exact hp.out j id hjn hj rfl
      subst hbf
      go_wp2
      go_ret
      exact ⟨rfl, rfl⟩
theorem inB_ref (h : FmInv N ws) (id : Int) : inB id (refT N ws) = (treeB N id && tk ws id.toNat) := by
  unfold inB treeB ints
  rw [Bool.eq_iff_iff, decide_eq_true_eq, Bool.and_eq_true, decide_eq_true_eq, List.mem_map]
  constructor
  · rintro ⟨i, hi, rfl⟩
    obtain ⟨a, b, c⟩ := refT_mem.1 hi
    rw [Int.toNat_natCast]
    exact ⟨⟨by omega, by omega⟩, c⟩
  · rintro ⟨⟨a, b⟩, c⟩
    exact ⟨id.toNat, refT_mem.2 ⟨by omega, by omega, c⟩, by omega⟩
theorem used_ref (h : FmInv N ws) (id : Int) : usedB N ws id = (decide (id = 0) || decide (id = 1) || inB id (refT N ws)) := by
  have hlo := h.ok.lo
  rw [inB_ref h]
  by_cases h0 : id = 0
  · subst h0
    have : usedB N ws 0 = true := by unfold usedB; rw [show (0 : Int).toNat = 0 from rfl, h.low 0 (by decide)]; simp; omega
    rw [this]; rfl
  · by_cases h1 : id = 1
    · subst h1
      have : usedB N ws 1 = true := by unfold usedB; rw [show (1 : Int).toNat = 1 from rfl, h.low 1 (by decide)]; simp; omega
      rw [this]; rfl
    · unfold usedB treeB
      rw [show decide (id = 0) = false by simpa using h0, show decide (id = 1) = false by simpa using h1]
      simp only [Bool.false_or]
      congr 1
      rw [decide_eq_decide]
      omega
set_option maxHeartbeats 2000000 in
theorem used102 (S : Sep w0 w (row IT v (ints (refT N ws)) :: blk r 158 [.int .i64 N, v] :: L)) (hI : FmInv N ws) (id : Int) :
    Calls Tryd.prog 102 #[.pointer (some ⟨r, 0, none⟩), .int .i64 id] w fun e w' => e = .returned (.bool (usedB N ws id)) ∧ w = w' := by
  rw [used_ref hI]
  have HC := Lib.hid (taken126 S id _ rfl)
  generalize inB id (refT N ws) = bt at HC
  clear S hI
  by_cases h0 : id = 0
  · have hq : (id == 0) = true := by simpa using h0
    rw [show decide (id = 0) = true by simpa using h0]
    clear h0
    go_enter Tryd.func102, Tryd.ntmps102
    go_wp2_with (go_at_call 126; refine HC.out.mono ?_; rintro e w' ⟨rfl, rfl⟩)
    go_ret
    exact ⟨rfl, rfl⟩
  · have hq : (id == 0) = false := by simpa using h0
    rw [show decide (id = 0) = false by simpa using h0]
    by_cases h1 : id = 1
    · have hq1 : (id == 1) = true := by simpa using h1
      rw [show decide (id = 1) = true by simpa using h1]
      clear h0 h1
      go_enter Tryd.func102, Tryd.ntmps102
      go_wp2_with (go_at_call 126; refine HC.out.mono ?_; rintro e w' ⟨rfl, rfl⟩)
      go_ret
      exact ⟨rfl, rfl⟩
    · have hq1 : (id == 1) = false := by simpa using h1
      rw [show decide (id = 1) = false by simpa using h1]
      clear h0 h1
      go_enter Tryd.func102, Tryd.ntmps102
      go_wp2_with (go_at_call 126; refine HC.out.mono ?_; rintro e w' ⟨rfl, rfl⟩)
      go_ret
      exact ⟨by simp, rfl⟩
end

/-- Where Mark's loop stands. -/
def InsAt (id : Nat) (T : List Nat) (k : Nat) (done : Bool) (out : List Nat) : Prop :=
  (done = false ∧ out = T.take k ∧ ∀ x ∈ T.take k, x < id) ∨ (done = true ∧ out = insT id (T.take k) ∧ ∃ (j y : Nat), j < k ∧ T[j]? = some y ∧ id < y)
theorem ins_all {id : Nat} {l : List Nat} (h : ∀ x ∈ l, x < id) : insT id l = l ++ [id] := by
  unfold insT
  rw [List.filter_eq_self.2 (fun x hx => by simpa using h x hx), List.filter_eq_nil_iff.2 (fun x hx => by have := h x hx; simp; omega)]
theorem ins_high {id x : Nat} {l : List Nat} (h : id < x) : insT id (l ++ [x]) = insT id l ++ [x] := by
  unfold insT
  rw [List.filter_append, List.filter_append]
  have h1 : [x].filter (fun y => decide (y < id)) = [] := by simp; omega
  have h2 : [x].filter (fun y => decide (id < y)) = [x] := by simp [h]
  rw [h1, h2]
  simp
theorem InsAt.start (id : Nat) (T : List Nat) : InsAt id T 0 false [] := .inl ⟨rfl, rfl, fun x hx => by simp at hx⟩
theorem InsAt.low {id k x : Nat} {T out : List Nat} (h : InsAt id T k false out) (hx : T[k]? = some x) (hl : x < id) : InsAt id T (k + 1) false (out ++ [x]) := by
  rcases h with ⟨_, rfl, h3⟩ | ⟨h1, _⟩
  · refine .inl ⟨rfl, (take_step hx).symm, fun y hy => ?_⟩
    rw [take_step hx] at hy
    rcases List.mem_append.1 hy with hy | hy
    · exact h3 y hy
    · obtain rfl : y = x := by simpa using hy
      exact hl
  · cases h1
theorem InsAt.len {id k : Nat} {T out : List Nat} (h : InsAt id T k false out) : out.length ≤ k := by
  rcases h with ⟨_, rfl, _⟩ | ⟨h1, _⟩
  · exact List.length_take_le _ _
  · cases h1
theorem InsAt.here {id k x : Nat} {T out : List Nat} (h : InsAt id T k false out) (hx : T[k]? = some x) (hl : id < x) : InsAt id T (k + 1) true (out ++ [id] ++ [x]) := by
  rcases h with ⟨_, rfl, h3⟩ | ⟨h1, _⟩
  · refine .inr ⟨rfl, ?_, k, x, by omega, hx, hl⟩
    rw [take_step hx, ins_high hl, ins_all h3]
  · cases h1
theorem InsAt.high {id k x : Nat} {T out : List Nat} (h : InsAt id T k true out) (hT : RiseN T) (hx : T[k]? = some x) : InsAt id T (k + 1) true (out ++ [x]) := by
  rcases h with ⟨h1, _⟩ | ⟨_, rfl, j, y, hj, hy, hl⟩
  · cases h1
  · have hyx : y < x := by
      obtain ⟨a, b⟩ := List.getElem?_eq_some_iff.1 hy
      obtain ⟨c, d⟩ := List.getElem?_eq_some_iff.1 hx
      rw [← b, ← d]
      exact List.pairwise_iff_getElem.1 hT j k a c hj
    refine .inr ⟨rfl, ?_, j, y, by omega, hy, hl⟩
    rw [take_step hx, ins_high (show id < x by omega)]
theorem InsAt.endNo {id k : Nat} {T out : List Nat} (h : InsAt id T k false out) (hk : T.length ≤ k) : out ++ [id] = insT id T := by
  rcases h with ⟨_, rfl, h3⟩ | ⟨h1, _⟩
  · rw [List.take_of_length_le hk] at h3 ⊢
    exact (ins_all h3).symm
  · cases h1
theorem InsAt.endYes {id k : Nat} {T out : List Nat} (h : InsAt id T k true out) (hk : T.length ≤ k) : out = insT id T := by
  rcases h with ⟨h1, _⟩ | ⟨_, rfl, _⟩
  · cases h1
  · rw [List.take_of_length_le hk]
section
variable {w0 w : World} {L : List Chunk} {r N : Nat} {v : Value} {ws : List Nat} {T : List Nat}
theorem new58_no (w : World) (n : Int) (hn : n < 4 ∨ 1048576 < n) : Calls Tryd.prog 58 #[.int .i64 n] w fun e w' => e = .returned (.tuple #[.pointer none, .int .i64 1]) ∧ Below w.heap.size w w' := by
  rcases hn with h | h
  all_goals
    go_enter Tryd.func58, Tryd.ntmps58
    go_wp2
    go_ret2
    exact ⟨rfl, qrefl _⟩
theorem refT_new {n : Nat} (h : 4 ≤ n) : refT n (newW n) = [] := by
  unfold refT
  rw [List.filter_eq_nil_iff]
  intro i hi
  have := List.mem_range.1 hi
  rw [tk_new h (by omega)]
  simp
  omega
theorem new58_yes (S : Sep w0 w L) (n : Nat) (h1 : 4 ≤ n) (h2 : n ≤ 1048576) : Calls Tryd.prog 58 #[.int .i64 n] w fun e w' => ∃ r v, e = .returned (.tuple #[.pointer (some ⟨r, 0, none⟩), .int .i64 0]) ∧ Sep w0 w' (row IT v (ints (refT n (newW n))) :: blk r 158 [.int .i64 n, v] :: L) := by
  have HS := Lib.hid (S.box 158 [.int .i64 n, .slice none 0 0])
  have HR := Lib.hid (refT_new h1)
  clear S
  go_enter Tryd.func58, Tryd.ntmps58
  go_wp2
  go_ret2
  exact ⟨_, _, rfl, by rw [HR.out]; exact HS.out.none_ IT⟩
theorem swap_ref {u : Value} {U : List Nat} (S : Sep w0 w (row IT u (ints U) :: row IT v (ints T) :: blk r 158 [.int .i64 N, v] :: L)) : Sep w0 (w.setCell ⟨r, 1, none⟩ u) (row IT u (ints U) :: blk r 158 [.int .i64 N, u] :: L) :=
  Sep.keepS (Sep.up1 (blk_set (Sep.up2 S) 1 u)) (.cons_cons _ (.cons_cons _ (.cons _ (.refl _))))
theorem row_at2 {a : Option Addr} {n c k x : Nat} (S : Sep w0 w L) (h : row IT (.slice a n c) (ints T) ∈ L) (hx : T[k]? = some x) : ∃ b o, a = some ⟨b, o, none⟩ ∧ w.cell? ⟨b, o + k, none⟩ = some (.int .i64 (x : Int)) := by
  obtain ⟨b, o, x', e, hx', hc⟩ := rdI (rd_of S h) (k := k) (by
    have h1 := (rd_of S h).1
    have h2 := (List.getElem?_eq_some_iff.1 hx).1
    rw [ints_len] at h1
    omega)
  rw [ints_at hx] at hx'
  cases hx'
  exact ⟨b, o, e, hc⟩
set_option maxHeartbeats 4000000 in
theorem mark100_ok (S : Sep w0 w (row IT v (ints T) :: blk r 158 [.int .i64 N, v] :: L)) (hT : RiseN T) (hN : N ≤ 1048576) (hl : T.length ≤ 1048576) (id : Nat) (h2 : 2 ≤ id) (hid : id < N) (hno : inB (id : Int) T = false) :
    Calls Tryd.prog 100 #[.pointer (some ⟨r, 0, none⟩), .int .i64 id] w fun e w' => ∃ u, e = .returned (.int .i64 0) ∧ Sep w0 w' (row IT u (ints (insT id T)) :: blk r 158 [.int .i64 N, u] :: L) := by
  have HC := Lib.hid (taken126 S (id : Int) false hno)
  obtain ⟨a, n, c, rfl, _, hn⟩ := rdv_form (T := IT) (Sep.rdv S (.head _))
  rw [ints_len] at hn
  have HN := Lib.hid hn
  have hnb : n ≤ 1048576 := by omega
  have HT := Lib.hid hT
  have hne : ∀ x, x ∈ T → x ≠ id := by
    intro x hx e
    have : inB (id : Int) T = true := by unfold inB; rw [decide_eq_true_eq]; exact List.mem_map.2 ⟨x, hx, by rw [e]⟩
    rw [hno] at this
    cases this
  have HX := Lib.hid hne
  have TQ := Lib.hid (S.none_ IT)
  have c0 := blk_mem TQ.out (g := r) (t := 158) (cs := [.int .i64 N, .slice a n c]) (by simp) 0 rfl
  clear S hT hl hn hno hne
  go_enter Tryd.func100, Tryd.ntmps100
  go_wp2_with (go_at_call 126; refine HC.out.mono ?_; rintro e w' ⟨rfl, rfl⟩)
  clear c0
  go_loopw [6, 7, 8] (fun t6 t7 t8 wr => ∃ (k : Nat) (done : Bool), k ≤ n ∧ t8 = .int .i64 k ∧ t7 = .bool done ∧ Hid (∃ out, InsAt id T k done out ∧ out.length ≤ k + 1 ∧ Sep w0 wr (row IT t6 (ints out) :: row IT (.slice a n c) (ints T) :: blk r 158 [.int .i64 N, .slice a n c] :: L))) (fun _ _ t8 _ => n - (intOf t8).toNat)
  case atStart => exact ⟨0, false, Nat.zero_le _, rfl, rfl, ⟨[], InsAt.start id T, by simp, TQ.out⟩⟩
  case round =>
    obtain ⟨k, done, hk, rfl, rfl, hS⟩ := hrel
    clear TQ
    obtain ⟨out, hA, hol, hS1⟩ := hS.out
    have HA := Lib.hid hA
    have TQ := Lib.hid hS1
    clear hS hA hS1
    have c1 := blk_mem TQ.out (g := r) (t := 158) (cs := [.int .i64 N, .slice a n c]) (by simp) 1 rfl
    by_cases hlt : k < n
    · obtain ⟨x, hx⟩ : ∃ x, T[k]? = some x := ⟨_, List.getElem?_eq_getElem (by rw [← HN.out]; exact hlt)⟩
      obtain ⟨b, o, rfl, d0⟩ := row_at2 TQ.out (.tail _ (.head _)) hx
      have hb1 : ((ints out).length + 1) * 8 ≤ 140737488355328 := by rw [ints_len]; omega
      have hb2 : ((ints out ++ [(id : Int)]).length + 1) * 8 ≤ 140737488355328 := by rw [List.length_append, ints_len]; simp; omega
      have hb3 := Lib.hid hb1
      have hb4 := Lib.hid hb2
      clear hb1 hb2
      have hxe := HX.out x (List.mem_of_getElem? hx)
      have HXK := Lib.hid hx
      clear hx
      cases done
      · by_cases hlow : x < id
        · have hd : decide ((id : Int) < (x : Int)) = false := by simp; omega
          have HA2 := Lib.hid (HA.out.low HXK.out hlow)
          clear hxe
          go_wp2_with (at_builtin; refine app_sep elemI rfl (.tmp 49) (.tmp 57) rfl u6 (ints out) rfl (TQ.out.alloc _) _ 1 1 [(x : Int)] rfl (rd_new IT wr (x : Int) _ rfl 3) hb3.out ?_; intro u2 w2 Sq hkp; replace TQ := Lib.hid Sq; clear Sq hkp c1 d0)
          go_roundw
          case rel => exact ⟨k + 1, false, by omega, by go_num, rfl, ⟨out ++ [x], HA2.out, by simp; omega, by rw [ints_append]; exact TQ.out⟩⟩
          case measure => simp [intOf]; omega
        · have hlx : id < x := by omega
          have HA2 := Lib.hid (HA.out.here HXK.out (show id < x by omega))
          have hol2 := HA.out.len
          clear hxe
          have t1 : True := trivial
          go_wp2_with (first
            | (at_builtin; clear t1; refine app_sep elemI rfl (.tmp 45) (.tmp 47) rfl u6 (ints out) rfl (TQ.out.alloc _) _ 1 1 [(id : Int)] rfl (rd_new IT wr (id : Int) _ rfl 3) hb3.out ?_; intro u2 w2 Sq hkp; replace TQ := Lib.hid Sq; clear Sq hkp c1 d0; have c1 := blk_mem TQ.out (g := r) (t := 158) (cs := [.int .i64 N, .slice (some ⟨b, o, none⟩) n c]) (by simp) 1 rfl; obtain ⟨b', o', e', d0⟩ := row_at2 TQ.out (.tail _ (.head _)) HXK.out; cases e')
            | (at_builtin; refine app_sep elemI rfl (.tmp 49) (.tmp 57) rfl u2 (ints out ++ [(id : Int)]) rfl (TQ.out.alloc _) _ 1 1 [(x : Int)] rfl (rd_new IT w2 (x : Int) _ rfl 3) hb4.out ?_; intro u3 w3 Sq hkp; replace TQ := Lib.hid Sq; clear Sq hkp c1 d0))
          go_roundw
          case rel => exact ⟨k + 1, true, by omega, by go_num, rfl, ⟨out ++ [id] ++ [x], HA2.out, by simp; omega, by rw [ints_append, ints_append]; exact TQ.out⟩⟩
          case measure => simp [intOf]; omega
      · have HA2 := Lib.hid (HA.out.high HT.out HXK.out)
        clear hxe
        go_wp2_with (at_builtin; refine app_sep elemI rfl (.tmp 49) (.tmp 57) rfl u6 (ints out) rfl (TQ.out.alloc _) _ 1 1 [(x : Int)] rfl (rd_new IT wr (x : Int) _ rfl 3) hb3.out ?_; intro u2 w2 Sq hkp; replace TQ := Lib.hid Sq; clear Sq hkp c1 d0)
        go_roundw
        case rel => exact ⟨k + 1, true, by omega, by go_num, rfl, ⟨out ++ [x], HA2.out, by simp; omega, by rw [ints_append]; exact TQ.out⟩⟩
        case measure => simp [intOf]; omega
    · obtain rfl : n = k := by omega
      have hb1 : ((ints out).length + 1) * 8 ≤ 140737488355328 := by rw [ints_len]; omega
      have f1 := blk_free (Sep.up2 TQ.out) 1
      cases done
      · have HE := Lib.hid (HA.out.endNo (by rw [HN.out]; exact Nat.le_refl _))
        go_wp2_with (at_builtin; refine app_sep elemI rfl (.tmp 61) (.tmp 63) rfl u6 (ints out) rfl (TQ.out.alloc _) _ 1 1 [(id : Int)] rfl (rd_new IT wr (id : Int) _ rfl 3) hb1 ?_; intro u2 w2 Sq hkp; obtain ⟨a5, n5, c5, rfl, _, hn5⟩ := rdv_form (T := IT) (Sep.rdv Sq (.head _)); clear hn5; replace TQ := Lib.hid Sq; clear Sq hkp c1 f1; have c1 := blk_mem TQ.out (g := r) (t := 158) (cs := [.int .i64 N, .slice a n c]) (by simp) 1 rfl; have f1 := blk_free (Sep.up2 TQ.out) 1)
        go_ret
        exact ⟨_, rfl, swap_ref (T := T) (U := insT id T) (by have h := TQ.out; rw [show ints out ++ [(id : Int)] = ints (insT id T) by rw [← HE.out, ints_append]; rfl] at h; exact h)⟩
      · have HE := Lib.hid (HA.out.endYes (by rw [HN.out]; exact Nat.le_refl _))
        obtain ⟨a5, n5, c5, rfl, _, hn5⟩ := rdv_form (T := IT) (Sep.rdv TQ.out (.head _))
        clear hn5
        go_wp2
        go_ret
        exact ⟨_, rfl, swap_ref (T := T) (U := insT id T) (by have h := TQ.out; rw [HE.out] at h; exact h)⟩
set_option maxHeartbeats 4000000 in
theorem mark100_no (S : Sep w0 w (row IT v (ints (refT N ws)) :: blk r 158 [.int .i64 N, v] :: L)) (hI : FmInv N ws) (id : Int) (ht : treeB N id = false) :
    Calls Tryd.prog 100 #[.pointer (some ⟨r, 0, none⟩), .int .i64 id] w fun e w' => e = .returned (.int .i64 1) ∧ Below w.heap.size w w' := by
  have c0 := blk_cell S.tl 0 rfl
  clear S hI
  by_cases h1 : id < 2
  · go_enter Tryd.func100, Tryd.ntmps100
    go_wp2
    go_ret
    exact ⟨rfl, qrefl _⟩
  · have h2 : (N : Int) ≤ id := by unfold treeB at ht; simp at ht; omega
    clear ht
    go_enter Tryd.func100, Tryd.ntmps100
    go_wp2
    go_ret
    exact ⟨rfl, qrefl _⟩
set_option maxHeartbeats 4000000 in
theorem mark100_twice (S : Sep w0 w (row IT v (ints (refT N ws)) :: blk r 158 [.int .i64 N, v] :: L)) (id : Int) (h1 : 2 ≤ id) (h2 : id < N) (hb : inB id (refT N ws) = true) :
    Calls Tryd.prog 100 #[.pointer (some ⟨r, 0, none⟩), .int .i64 id] w fun e w' => e = .returned (.int .i64 5) ∧ Below w.heap.size w w' := by
  have c0 := blk_cell S.tl 0 rfl
  have HC := Lib.hid (taken126 S id true hb)
  clear S hb
  go_enter Tryd.func100, Tryd.ntmps100
  go_wp2_with (go_at_call 126; refine HC.out.mono ?_; rintro e w' ⟨rfl, rfl⟩)
  go_ret
  exact ⟨rfl, qrefl _⟩
theorem refT_short (hI : FmInv N ws) : (refT N ws).length ≤ 1048576 := by
  have := refT_len hI
  have := hI.ok.hi
  omega
/-- Mark. -/
theorem mark100 (S : Sep w0 w (row IT v (ints (refT N ws)) :: blk r 158 [.int .i64 N, v] :: L)) (hI : FmInv N ws) (id : Int) :
    Calls Tryd.prog 100 #[.pointer (some ⟨r, 0, none⟩), .int .i64 id] w fun e w' => ∃ u, e = .returned (.int .i64 (numOf (markR N ws id).1)) ∧ Sep w0 w' (row IT u (ints (refT N (markR N ws id).2)) :: blk r 158 [.int .i64 N, u] :: L) := by
  cases ht : treeB N id
  · have hM : markR N ws id = (some 2, ws) := by unfold markR; rw [if_neg (by rw [ht]; decide)]
    rw [hM]
    exact (mark100_no S hI id ht).mono fun e w' ⟨he, hw⟩ => ⟨v, he, S.step hw⟩
  · obtain ⟨a, b, c⟩ := tree_nat ht
    have hin := inB_ref hI id
    rw [ht, Bool.true_and] at hin
    cases hk : tk ws id.toNat
    · have hM : markR N ws id = (none, setW ws id.toNat) := by unfold markR; rw [if_pos (by rw [ht]), hk]; rfl
      rw [hk] at hin
      rw [hM]
      rw [c] at hin
      have := mark100_ok S (refT_rise N ws) hI.ok.hi (refT_short hI) id.toNat a b hin
      rw [refT_set hI a b, ← c] at this
      exact this
    · have hM : markR N ws id = (some 6, ws) := by unfold markR; rw [if_pos (by rw [ht]), hk]; rfl
      rw [hk] at hin
      rw [hM]
      exact (mark100_twice S id (by omega) (by omega) hin).mono fun e w' ⟨he, hw⟩ => ⟨v, he, S.step hw⟩
end

section
variable {w0 w : World} {L : List Chunk} {r N : Nat} {v : Value} {ws : List Nat} {T : List Nat}
def dropT (id : Nat) (l : List Nat) : List Nat := l.filter fun x => !decide (x = id)
theorem dropT_take {id k x : Nat} (hx : T[k]? = some x) : dropT id (T.take (k + 1)) = if x = id then dropT id (T.take k) else dropT id (T.take k) ++ [x] := by
  unfold dropT
  rw [take_step hx, List.filter_append]
  by_cases h : x = id
  · rw [if_pos h]
    simp [h]
  · rw [if_neg h]
    simp [h]
theorem dropT_len (id : Nat) (l : List Nat) : (dropT id l).length ≤ l.length := List.length_filter_le _ _
set_option maxHeartbeats 4000000 in
theorem clear101_ok (S : Sep w0 w (row IT v (ints T) :: blk r 158 [.int .i64 N, v] :: L)) (hN : N ≤ 1048576) (hl : T.length ≤ 1048576) (id : Nat) (h2 : 2 ≤ id) (hid : id < N) (hin : inB (id : Int) T = true) :
    Calls Tryd.prog 101 #[.pointer (some ⟨r, 0, none⟩), .int .i64 id] w fun e w' => ∃ u, e = .returned (.int .i64 0) ∧ Sep w0 w' (row IT u (ints (dropT id T)) :: blk r 158 [.int .i64 N, u] :: L) := by
  have HC := Lib.hid (taken126 S (id : Int) true hin)
  obtain ⟨a, n, c, rfl, _, hn⟩ := rdv_form (T := IT) (Sep.rdv S (.head _))
  rw [ints_len] at hn
  have HN := Lib.hid hn
  have hnb : n ≤ 1048576 := by omega
  have TQ := Lib.hid (S.none_ IT)
  have c0 := blk_mem TQ.out (g := r) (t := 158) (cs := [.int .i64 N, .slice a n c]) (by simp) 0 rfl
  clear S hl hn hin
  go_enter Tryd.func101, Tryd.ntmps101
  go_wp2_with (go_at_call 126; refine HC.out.mono ?_; rintro e w' ⟨rfl, rfl⟩)
  clear c0
  go_loopw [6, 7] (fun t6 t7 wr => ∃ k : Nat, k ≤ n ∧ t7 = .int .i64 k ∧ Hid (Sep w0 wr (row IT t6 (ints (dropT id (T.take k))) :: row IT (.slice a n c) (ints T) :: blk r 158 [.int .i64 N, .slice a n c] :: L))) (fun _ t7 _ => n - (intOf t7).toNat)
  case atStart => exact ⟨0, Nat.zero_le _, rfl, TQ.out⟩
  case round =>
    obtain ⟨k, hk, rfl, hS⟩ := hrel
    clear TQ
    have TQ := Lib.hid hS.out
    clear hS
    have c1 := blk_mem TQ.out (g := r) (t := 158) (cs := [.int .i64 N, .slice a n c]) (by simp) 1 rfl
    by_cases hlt : k < n
    · obtain ⟨x, hx⟩ : ∃ x, T[k]? = some x := ⟨_, List.getElem?_eq_getElem (by rw [← HN.out]; exact hlt)⟩
      obtain ⟨b, o, rfl, d0⟩ := row_at2 TQ.out (.tail _ (.head _)) hx
      have hb1 : ((ints (dropT id (T.take k))).length + 1) * 8 ≤ 140737488355328 := by
        rw [ints_len]
        have := dropT_len id (T.take k)
        have := List.length_take_le k T
        omega
      have HD := Lib.hid (dropT_take (id := id) hx)
      clear hx
      by_cases he : x = id
      · have HD2 := Lib.hid (HD.out.trans (if_pos he))
        have hq : ((x : Int) != (id : Int)) = false := by simp [he]
        clear he
        go_wp2
        go_roundw
        case rel => exact ⟨k + 1, by omega, by go_num, by rw [HD2.out]; exact TQ.out⟩
        case measure => simp [intOf]; omega
      · have HD2 := Lib.hid (HD.out.trans (if_neg he))
        have hq : ((x : Int) != (id : Int)) = true := by simp; omega
        go_wp2_with (at_builtin; refine app_sep elemI rfl (.tmp 41) (.tmp 49) rfl u6 (ints (dropT id (T.take k))) rfl (TQ.out.alloc _) _ 1 1 [(x : Int)] rfl (rd_new IT wr (x : Int) _ rfl 3) hb1 ?_; intro u2 w2 Sq hkp; replace TQ := Lib.hid Sq; clear Sq hkp c1 d0)
        go_roundw
        case rel => exact ⟨k + 1, by omega, by go_num, by rw [HD2.out, ints_append]; exact TQ.out⟩
        case measure => simp [intOf]; omega
    · obtain rfl : n = k := by omega
      have hT : T.take n = T := List.take_of_length_le (by rw [HN.out]; exact Nat.le_refl _)
      rw [hT] at TQ
      have f1 := blk_free (Sep.up2 TQ.out) 1
      obtain ⟨a5, n5, c5, rfl, _, hn5⟩ := rdv_form (T := IT) (Sep.rdv TQ.out (.head _))
      clear hn5 hT
      go_wp2
      go_ret
      exact ⟨_, rfl, swap_ref (T := T) (U := dropT id T) TQ.out⟩
set_option maxHeartbeats 4000000 in
theorem clear101_no (S : Sep w0 w (row IT v (ints (refT N ws)) :: blk r 158 [.int .i64 N, v] :: L)) (hI : FmInv N ws) (id : Int) (ht : treeB N id = false) :
    Calls Tryd.prog 101 #[.pointer (some ⟨r, 0, none⟩), .int .i64 id] w fun e w' => e = .returned (.int .i64 1) ∧ Below w.heap.size w w' := by
  have c0 := blk_cell S.tl 0 rfl
  clear S hI
  by_cases h1 : id < 2
  · go_enter Tryd.func101, Tryd.ntmps101
    go_wp2
    go_ret
    exact ⟨rfl, qrefl _⟩
  · have h2 : (N : Int) ≤ id := by unfold treeB at ht; simp at ht; omega
    clear ht
    go_enter Tryd.func101, Tryd.ntmps101
    go_wp2
    go_ret
    exact ⟨rfl, qrefl _⟩
set_option maxHeartbeats 4000000 in
theorem clear101_lost (S : Sep w0 w (row IT v (ints (refT N ws)) :: blk r 158 [.int .i64 N, v] :: L)) (id : Int) (h1 : 2 ≤ id) (h2 : id < N) (hb : inB id (refT N ws) = false) :
    Calls Tryd.prog 101 #[.pointer (some ⟨r, 0, none⟩), .int .i64 id] w fun e w' => e = .returned (.int .i64 6) ∧ Below w.heap.size w w' := by
  have c0 := blk_cell S.tl 0 rfl
  have HC := Lib.hid (taken126 S id false hb)
  clear S hb
  go_enter Tryd.func101, Tryd.ntmps101
  go_wp2_with (go_at_call 126; refine HC.out.mono ?_; rintro e w' ⟨rfl, rfl⟩)
  go_ret
  exact ⟨rfl, qrefl _⟩
/-- Clear. -/
theorem clear101 (S : Sep w0 w (row IT v (ints (refT N ws)) :: blk r 158 [.int .i64 N, v] :: L)) (hI : FmInv N ws) (id : Int) :
    Calls Tryd.prog 101 #[.pointer (some ⟨r, 0, none⟩), .int .i64 id] w fun e w' => ∃ u, e = .returned (.int .i64 (numOf (clearR N ws id).1)) ∧ Sep w0 w' (row IT u (ints (refT N (clearR N ws id).2)) :: blk r 158 [.int .i64 N, u] :: L) := by
  cases ht : treeB N id
  · have hM : clearR N ws id = (some 2, ws) := by unfold clearR; rw [if_neg (by rw [ht]; decide)]
    rw [hM]
    exact (clear101_no S hI id ht).mono fun e w' ⟨he, hw⟩ => ⟨v, he, S.step hw⟩
  · obtain ⟨a, b, c⟩ := tree_nat ht
    have hin := inB_ref hI id
    rw [ht, Bool.true_and] at hin
    cases hk : tk ws id.toNat
    · have hM : clearR N ws id = (some 1, ws) := by unfold clearR; rw [if_pos (by rw [ht]), hk]; rfl
      rw [hk] at hin
      rw [hM]
      exact (clear101_lost S id (by omega) (by omega) hin).mono fun e w' ⟨he, hw⟩ => ⟨v, he, S.step hw⟩
    · have hM : clearR N ws id = (none, clrW ws id.toNat) := by unfold clearR; rw [if_pos (by rw [ht]), hk]; rfl
      rw [hk] at hin
      rw [hM]
      rw [c] at hin
      have := clear101_ok S hI.ok.hi (refT_short hI) id.toNat a b hin
      rw [show dropT id.toNat (refT N ws) = refT N (clrW ws id.toNat) from refT_clr hI b, ← c] at this
      exact this

/-! ### Take -/
theorem outT_two (h : FmInv N ws) : outT ws 2 = [] := by
  unfold outT
  rw [List.filter_eq_nil_iff]
  intro i hi
  rw [h.low i (List.mem_range.1 hi)]
  simp
theorem lowT_two : lowT (refT N ws) 2 = [] := by
  unfold lowT
  rw [List.filter_eq_nil_iff]
  intro i hi
  have := (refT_mem.1 hi).2.1
  simp
  omega
theorem upTo_two : upTo 2 = [] := by decide
theorem upTo_len (p : Nat) : (upTo p).length ≤ p := by
  unfold upTo
  exact Nat.le_trans (List.length_filter_le _ _) (by simp)
theorem lowT_len (l : List Nat) (p : Nat) : (lowT l p).length ≤ l.length := List.length_filter_le _ _
theorem drop_take_step {l : List Nat} {h k x : Nat} (hk : h ≤ k) (hx : l[k]? = some x) : (l.take (k + 1)).drop h = (l.take k).drop h ++ [x] := by
  have hlt := (List.getElem?_eq_some_iff.1 hx).1
  rw [take_step hx, List.drop_append_of_le_length (by rw [List.length_take]; omega)]
set_option maxHeartbeats 8000000 in
theorem take104_ok (S : Sep w0 w (row IT v (ints (refT N ws)) :: blk r 158 [.int .i64 N, v] :: L)) (hI : FmInv N ws) (n : Nat) (hn : n ≤ freeN ws) :
    Calls Tryd.prog 104 #[.pointer (some ⟨r, 0, none⟩), .int .i64 n] w fun e w' => ∃ u z, e = .returned (.tuple #[z, .int .i64 0]) ∧ Sep w0 w' (row IT z (ints (takeR n ws).1) :: row IT u (ints (refT N (takeR n ws).2)) :: blk r 158 [.int .i64 N, u] :: L) := by
  obtain ⟨a, tl, c, rfl, _, htl⟩ := rdv_form (T := IT) (Sep.rdv S (.head _))
  rw [ints_len] at htl
  have HTL := Lib.hid htl
  have hlo := hI.ok.lo
  have hhi := hI.ok.hi
  have htb : tl ≤ 1048576 := by rw [htl]; exact refT_short hI
  have hfl := refT_len hI
  have hnb : n ≤ 1048576 := by omega
  have HF := Lib.hid (free64 S hI)
  have HI := Lib.hid hI
  have HK := Lib.hid hn
  have TQ := Lib.hid ((S.none_ IT).none_ IT)
  clear S hI htl hfl
  generalize freeN ws = fr at HF hn
  have hd1 : decide (fr < n) = false := by simp; omega
  have hd2 : decide ((n : Int) < 0) = false := by simp
  go_enter Tryd.func104, Tryd.ntmps104
  go_wp2_with (go_at_call 64; refine HF.out.mono ?_; rintro e w1 ⟨rfl, hq⟩; replace TQ := Lib.hid (TQ.out.step hq); clear hq)
  go_loopw [6, 7, 8, 9] (fun t6 t7 t8 t9 wr => ∃ p nx : Nat, 2 ≤ p ∧ p ≤ N ∧ t9 = .int .i64 p ∧ t8 = .int .i64 nx ∧ nx ≤ tl ∧ Hid (nx = (lowT (refT N ws) p).length ∧ (outT ws p).length ≤ n) ∧ Hid (Sep w0 wr (row IT t6 (ints (outT ws p)) :: row IT t7 (ints (upTo p)) :: row IT (.slice a tl c) (ints (refT N ws)) :: blk r 158 [.int .i64 N, .slice a tl c] :: L))) (fun _ _ _ t9 _ => N - (intOf t9).toNat)
  case atStart => exact ⟨2, 0, by omega, by omega, rfl, rfl, Nat.zero_le _, ⟨by rw [lowT_two]; rfl, by rw [outT_two HI.out]; exact Nat.zero_le _⟩, by rw [outT_two HI.out, upTo_two]; exact TQ.out⟩
  case round =>
    obtain ⟨p, nx, hp2, hpN, rfl, rfl, hnx, hF, hS⟩ := hrel
    clear TQ
    have TQ := Lib.hid hS.out
    clear hS
    obtain ⟨a6, n6, c6, rfl, _, hn6⟩ := rdv_form (T := IT) (Sep.rdv TQ.out (.head _))
    rw [ints_len] at hn6
    have hn6b : n6 ≤ n := by rw [hn6]; exact hF.out.2
    have HN6 := Lib.hid hn6
    clear hn6
    have c0 := blk_mem TQ.out (g := r) (t := 158) (cs := [.int .i64 N, .slice a tl c]) (by simp) 0 rfl
    have c1 := blk_mem TQ.out (g := r) (t := 158) (cs := [.int .i64 N, .slice a tl c]) (by simp) 1 rfl
    by_cases hgo : p < N ∧ n6 < n
    · obtain ⟨hp3, hn7⟩ := hgo
      have HO := Lib.hid (outT_succ ws p)
      have HU := Lib.hid (upTo_succ hp2)
      have HW := Lib.hid (lowT_succ (N := N) (ws := ws) hp2 hp3)
      obtain ⟨hat1, hat2⟩ := low_at (N := N) (ws := ws) hp2 hp3
      rw [← hF.out.1] at hat1 hat2
      have hb1 : ((ints (outT ws p)).length + 1) * 8 ≤ 140737488355328 := by rw [ints_len, ← HN6.out]; omega
      have hb2 : ((ints (upTo p)).length + 1) * 8 ≤ 140737488355328 := by rw [ints_len]; have := upTo_len p; omega
      have HB1 := Lib.hid hb1
      have HB2 := Lib.hid hb2
      clear hb1 hb2
      cases ht : tk ws p
      · have HO2 := Lib.hid (HO.out.trans (if_neg (by rw [ht]; decide)))
        have HW2 := Lib.hid (HW.out.trans (if_neg (by rw [ht]; decide)))
        clear hat1
        by_cases hnt : nx < tl
        · obtain ⟨y, hy⟩ : ∃ y, (refT N ws)[nx]? = some y := ⟨_, List.getElem?_eq_getElem (by rw [← HTL.out]; exact hnt)⟩
          obtain ⟨b, o, rfl, d0⟩ := row_at2 TQ.out (.tail _ (.tail _ (.head _))) hy
          have hyp := hat2 y hy ht
          clear hat2 hy ht
          have t1 : True := trivial
          go_wp2_with (first
            | (at_builtin; clear t1; refine app_sep elemI rfl (.tmp 51) (.tmp 53) rfl (.slice a6 n6 c6) (ints (outT ws p)) rfl (TQ.out.alloc _) _ 1 1 [(p : Int)] rfl (rd_new IT wr (p : Int) _ rfl 3) HB1.out ?_; intro u2 w2 Sq hkp; replace TQ := Lib.hid (Sep.up1 Sq); clear Sq hkp c1 d0 c0)
            | (at_builtin; refine app_sep elemI rfl (.tmp 55) (.tmp 57) rfl u7 (ints (upTo p)) rfl (TQ.out.alloc _) _ 1 1 [(p : Int)] rfl (rd_new IT w2 (p : Int) _ rfl 3) HB2.out ?_; intro u3 w3 Sq hkp; replace TQ := Lib.hid (Sep.up1 Sq); clear Sq hkp))
          go_roundw
          case rel => exact ⟨p + 1, nx, by omega, by omega, by go_num, rfl, hnx, ⟨by rw [HW2.out]; exact hF.out.1, by rw [HO2.out, List.length_append, ← HN6.out]; simp; omega⟩, by rw [HO2.out, HU.out, ints_append, ints_append]; exact TQ.out⟩
          case measure => simp [intOf]; omega
        · clear hat2 ht
          have t1 : True := trivial
          go_wp2_with (first
            | (at_builtin; clear t1; refine app_sep elemI rfl (.tmp 51) (.tmp 53) rfl (.slice a6 n6 c6) (ints (outT ws p)) rfl (TQ.out.alloc _) _ 1 1 [(p : Int)] rfl (rd_new IT wr (p : Int) _ rfl 3) HB1.out ?_; intro u2 w2 Sq hkp; replace TQ := Lib.hid (Sep.up1 Sq); clear Sq hkp c1 c0)
            | (at_builtin; refine app_sep elemI rfl (.tmp 55) (.tmp 57) rfl u7 (ints (upTo p)) rfl (TQ.out.alloc _) _ 1 1 [(p : Int)] rfl (rd_new IT w2 (p : Int) _ rfl 3) HB2.out ?_; intro u3 w3 Sq hkp; replace TQ := Lib.hid (Sep.up1 Sq); clear Sq hkp))
          go_roundw
          case rel => exact ⟨p + 1, nx, by omega, by omega, by go_num, rfl, hnx, ⟨by rw [HW2.out]; exact hF.out.1, by rw [HO2.out, List.length_append, ← HN6.out]; simp; omega⟩, by rw [HO2.out, HU.out, ints_append, ints_append]; exact TQ.out⟩
          case measure => simp [intOf]; omega
      · have HO2 := Lib.hid (HO.out.trans (if_pos ht))
        have HW2 := Lib.hid (HW.out.trans (if_pos ht))
        have hy := hat1 ht
        have hnt : nx < tl := by have := (List.getElem?_eq_some_iff.1 hy).1; rw [← HTL.out] at this; exact this
        obtain ⟨b, o, rfl, d0⟩ := row_at2 TQ.out (.tail _ (.tail _ (.head _))) hy
        clear hat1 hat2 hy ht
        go_wp2_with (at_builtin; refine app_sep elemI rfl (.tmp 55) (.tmp 57) rfl u7 (ints (upTo p)) rfl ((Sep.up1 TQ.out).alloc _) _ 1 1 [(p : Int)] rfl (rd_new IT wr (p : Int) _ rfl 3) HB2.out ?_; intro u3 w3 Sq hkp; replace TQ := Lib.hid (Sep.up1 Sq); clear Sq hkp c1 d0 c0)
        go_roundw
        case rel => exact ⟨p + 1, nx + 1, by omega, by omega, by go_num, by go_num, by omega, ⟨by rw [HW2.out, List.length_append, ← hF.out.1]; rfl, by rw [HO2.out]; exact hF.out.2⟩, by rw [HO2.out, HU.out, ints_append]; exact TQ.out⟩
        case measure => simp [intOf]; omega
    · have hl : (outT ws p).length = n := by
        by_cases hp : p < N
        · rw [← HN6.out]
          omega
        · obtain rfl : N = p := by omega
          have h1 := freeL_len HI.out
          have h2 := hF.out.2
          have h3 := HK.out
          unfold freeL at h1
          unfold outT at h2 ⊢
          omega
      have HO := Lib.hid (outT_done HI.out HK.out hpN hl)
      have HAll := Lib.hid (take_all HI.out HK.out hpN hl)
      rw [← hF.out.1] at HAll
      clear hl
      have TZ : Hid (Sep w0 wr (row IT (.slice a6 n6 c6) (ints (outT ws p)) :: row IT u7 (ints (upTo p ++ ((refT N ws).take nx).drop nx)) :: row IT (.slice a tl c) (ints (refT N ws)) :: blk r 158 [.int .i64 N, .slice a tl c] :: L)) := by
        rw [List.drop_eq_nil_of_le (List.length_take_le _ _), List.append_nil]
        exact Lib.hid TQ.out
      clear TQ
      rcases (show (p < N ∧ decide (n6 < n) = false) ∨ decide (p < N) = false by
        by_cases hp : p < N
        · exact .inl ⟨hp, by simp; omega⟩
        · exact .inr (by simpa using hp)) with ⟨hp, hn8⟩ | hp
      all_goals
        clear hgo
        go_wp2
        go_loopw [7, 10] (fun t7 t10 wr => ∃ i : Nat, nx ≤ i ∧ i ≤ tl ∧ t10 = .int .i64 i ∧ Hid (Sep w0 wr (row IT (.slice a6 n6 c6) (ints (outT ws p)) :: row IT t7 (ints (upTo p ++ ((refT N ws).take i).drop nx)) :: row IT (.slice a tl c) (ints (refT N ws)) :: blk r 158 [.int .i64 N, .slice a tl c] :: L))) (fun _ t10 _ => tl - (intOf t10).toNat)
        case atStart => exact ⟨nx, Nat.le_refl _, hnx, rfl, TZ.out⟩
        case round =>
          obtain ⟨i, hi1, hi2, rfl, hS⟩ := hrel
          clear TZ c0 c1
          have TQ := Lib.hid hS.out
          clear hS
          have c1 := blk_mem TQ.out (g := r) (t := 158) (cs := [.int .i64 N, .slice a tl c]) (by simp) 1 rfl
          by_cases hit : i < tl
          · obtain ⟨y, hy⟩ : ∃ y, (refT N ws)[i]? = some y := ⟨_, List.getElem?_eq_getElem (by rw [← HTL.out]; exact hit)⟩
            obtain ⟨b, o, rfl, d0⟩ := row_at2 TQ.out (.tail _ (.tail _ (.head _))) hy
            have HD := Lib.hid (drop_take_step hi1 hy)
            have hb1 : ((ints (upTo p ++ ((refT N ws).take i).drop nx)).length + 1) * 8 ≤ 140737488355328 := by
              rw [ints_len, List.length_append, List.length_drop, List.length_take]
              have := upTo_len p
              omega
            clear hy
            go_wp2_with (at_builtin; refine app_sep elemI rfl (.tmp 69) (.tmp 77) rfl u7 (ints (upTo p ++ ((refT N ws).take i).drop nx)) rfl ((Sep.up1 TQ.out).alloc _) _ 1 1 [(y : Int)] rfl (rd_new IT wr (y : Int) _ rfl 3) hb1 ?_; intro u3 w3 Sq hkp; replace TQ := Lib.hid (Sep.up1 Sq); clear Sq hkp c1 d0)
            go_roundw
            case rel => exact ⟨i + 1, by omega, by omega, by go_num, by rw [HD.out, ← List.append_assoc, ints_append]; exact TQ.out⟩
            case measure => simp [intOf]; omega
          · obtain rfl : tl = i := by omega
            have hT : (refT N ws).take tl = refT N ws := List.take_of_length_le (by rw [HTL.out]; exact Nat.le_refl _)
            rw [hT, HAll.out, HO.out] at TQ
            have f1 := blk_free (Sep.up3 TQ.out) 1
            obtain ⟨a5, n5, c5, rfl, _, hn5⟩ := rdv_form (T := IT) (Sep.rdv TQ.out.tl (.head _))
            clear hn5 hT
            go_wp2
            go_ret2
            exact ⟨.slice a5 n5 c5, _, rfl, Sep.up1 (Sep.up2 (Sep.up1 ((blk_set (Sep.up3 TQ.out) 1 (.slice a5 n5 c5)).keepS (.cons_cons _ (.cons_cons _ (.cons_cons _ (.cons _ (.refl _))))))))⟩
end
end Go.Proofs.YtdkailccfcijiaaDoor
