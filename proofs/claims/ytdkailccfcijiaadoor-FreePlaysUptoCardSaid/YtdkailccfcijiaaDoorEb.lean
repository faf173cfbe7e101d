/- The small functions of the laws without a reference: the value of a key, the rising part of a list. Conditions: the lengths. -/
import Derived.Test.YtdkailccfcijiaaDoorDr
import Derived.Test.YtdkailccfcijiaaDoorPn
namespace Go.Proofs.YtdkailccfcijiaaDoor
open Go.RowKit Go.Shelf
set_option linter.unusedVariables false
set_option linter.unusedSimpArgs false
set_option maxRecDepth 100000

theorem has46 (a : Option Addr) (c n : Nat) (l : List P) (key : ByteArray) (w : World) (h : Rd PT w a n l) :
    Calls Tryd.prog 46 #[.slice a n c, .string key] w fun e w' => e = .returned (.tuple #[.string (fv (findP l key)), .bool (findP l key).isSome]) ∧ Below w.heap.size w w' := by
  have H := Lib.hid h
  have hl := h.2.1
  have hn := Lib.hid h.1
  clear h
  go_enter Tryd.func46, Tryd.ntmps46
  go_wp2
  go_loopw [6] (fun i wr => ∃ k : Nat, i = .int .i64 k ∧ Below w.heap.size w wr ∧ Hid (∀ j y, j < k → l[j]? = some y → (y.k.toList == key.toList) = false)) (fun i _ => n - (intOf i).toNat)
  case atStart => exact ⟨0, rfl, qrefl _, fun j y hj => by omega⟩
  case round =>
    obtain ⟨k, rfl, hb, hp⟩ := hrel
    by_cases hlt : k < n
    · obtain ⟨b, o, y, rfl, hy, c0, c1⟩ := rdP H.out hlt
      have x0 := qcell c0 hb
      have x1 := qcell c1 hb
      have HY := Lib.hid hy
      clear c0 c1 hy
      cases ht : (y.k.toList == key.toList)
      · go_wp2
        go_roundw
        case rel => exact ⟨k + 1, by go_num, hb, find_step hp.out HY.out ht⟩
        case measure => simp [intOf]; omega
      · have hf := Lib.hid (find_at hp.out HY.out ht)
        go_wp2
        go_ret2
        rw [hf.out]
        exact ⟨rfl, hb⟩
    · have hf := Lib.hid (find_none hp.out (by rw [hn.out]; omega))
      go_wp2
      go_ret2
      rw [hf.out]
      exact ⟨rfl, hb⟩
theorem hasV {v : Value} {l : List P} {key : ByteArray} {w : World} (h : RdV PT w v l) : Calls Tryd.prog 46 #[v, .string key] w fun e w' => e = .returned (.tuple #[.string (fv (findP l key)), .bool (findP l key).isSome]) ∧ Below w.heap.size w w' := by
  obtain ⟨a, c, rfl, _, _, h⟩ := h
  exact has46 a c _ l key w h

/-! ### the rising part of a list -/
def stepS (m : List P) (x : P) : List P := match m.getLast? with
  | none => m ++ [x]
  | some y => if lessK y.k x.k then m ++ [x] else m
def stateL (l : List P) : List P := l.foldl stepS []
theorem stepS_nil (x : P) : stepS [] x = [x] := rfl
theorem stepS_yes {m : List P} {x y : P} (h : m.getLast? = some y) (hl : lessK y.k x.k = true) : stepS m x = m ++ [x] := by
  unfold stepS
  rw [h]
  simp [hl]
theorem stepS_no {m : List P} {x y : P} (h : m.getLast? = some y) (hl : lessK y.k x.k = false) : stepS m x = m := by
  unfold stepS
  rw [h]
  simp [hl]
theorem stateL_take {l : List P} {k : Nat} {x : P} (h : l[k]? = some x) : stateL (l.take (k + 1)) = stepS (stateL (l.take k)) x := by
  unfold stateL
  rw [List.take_add_one, h, List.foldl_append]
  rfl
theorem stepS_len (m : List P) (x : P) : (stepS m x).length ≤ m.length + 1 := by
  unfold stepS
  split
  · simp
  · split <;> simp
theorem stateL_len : ∀ (l : List P), (stateL l).length ≤ l.length := by
  have : ∀ (l m : List P), (l.foldl stepS m).length ≤ m.length + l.length := by
    intro l
    induction l with
    | nil => intro m; simp
    | cons x l ih =>
      intro m
      rw [List.foldl_cons, List.length_cons]
      have h1 := ih (stepS m x)
      have h2 := stepS_len m x
      omega
  intro l
  have := this l []
  show (l.foldl stepS []).length ≤ _
  simpa using this
theorem stepS_up {m : List P} {x : P} (h : Up P.k m) : Up P.k (stepS m x) := by
  unfold stepS
  split
  · rename_i hm
    rw [List.getLast?_eq_none_iff.1 hm]
    exact List.pairwise_singleton _ _
  · rename_i y hy
    split
    · rename_i hl
      refine List.pairwise_append.2 ⟨h, List.pairwise_singleton _ _, fun z hz u hu => ?_⟩
      obtain rfl : u = x := by simpa using hu
      obtain ⟨s, rfl⟩ := List.getLast?_eq_some_iff.1 hy
      rcases List.mem_append.1 hz with hz | hz
      · exact lessK_trans ((List.pairwise_append.1 h).2.2 z hz y (by simp)) hl
      · obtain rfl : z = y := by simpa using hz
        exact hl
    · exact h
theorem stateL_up (l : List P) : Up P.k (stateL l) := by
  have : ∀ (l m : List P), Up P.k m → Up P.k (l.foldl stepS m) := by
    intro l
    induction l with
    | nil => exact fun m h => h
    | cons x l ih => exact fun m h => ih _ (stepS_up h)
  exact this l [] List.Pairwise.nil
theorem stateL_mem (l : List P) : ∀ x ∈ stateL l, x ∈ l := by
  have : ∀ (l m : List P), ∀ x ∈ l.foldl stepS m, x ∈ m ∨ x ∈ l := by
    intro l
    induction l with
    | nil => exact fun m x hx => .inl hx
    | cons y l ih =>
      intro m x hx
      rcases ih _ x hx with h | h
      · unfold stepS at h
        split at h
        · simp at h; rcases h with h | h
          · exact .inl h
          · exact .inr (by simp [h])
        · split at h
          · simp at h; rcases h with h | h
            · exact .inl h
            · exact .inr (by simp [h])
          · exact .inl h
      · exact .inr (List.mem_cons_of_mem _ h)
  intro x hx
  simpa using this l [] x hx
set_option maxHeartbeats 4000000 in
theorem state44 (a : Option Addr) (c : Nat) (l : List P) (w : World) (h : Rd PT w a l.length l) (hl : l.length ≤ 4194304) :
    Calls Tryd.prog 44 #[.slice a l.length c] w fun e w' => ∃ v, e = .returned v ∧ Sep w w' [row PT v (stateL l)] := by
  have H := Lib.hid h
  clear h
  go_enter Tryd.func44, Tryd.ntmps44
  go_wp2
  go_loopw [3, 4] (fun v i wr => ∃ k : Nat, k ≤ l.length ∧ i = .int .i64 k ∧ Hid (Sep w wr [row PT v (stateL (l.take k))])) (fun _ i _ => l.length - (intOf i).toNat)
  case atStart => exact ⟨0, Nat.zero_le _, rfl, (Sep.nil w).none_ PT⟩
  case round =>
    obtain ⟨k, hk, rfl, hS⟩ := hrel
    have hlen : (stateL (l.take k)).length ≤ k := Nat.le_trans (stateL_len _) (List.length_take_le _ _)
    by_cases hlt : k < l.length
    · obtain ⟨b, o, x, rfl, hx, c0, c1⟩ := rdP (H.out.below hS.out.below) hlt
      have HX := Lib.hid (stateL_take hx)
      generalize hm : stateL (l.take k) = m at hS hlen HX
      have hb32 : (m.length + 1) * 32 ≤ 140737488355328 := by omega
      clear hx hm
      obtain ⟨av, cv, rfl, hcv, hcv2, hrd⟩ := Sep.rdv hS.out (.head _)
      cases hq : m.getLast? with
      | none =>
        obtain rfl := List.getLast?_eq_none_iff.1 hq
        have hS := Lib.hid hS.out
        have x0 := xt_cell c0
        clear hrd hq
        go_wp2
        refine xt_region (by kernel_rfl) (by kernel_rfl) ?_
        repeat (go_big_quiet_step (fail))
        refine wpQuiet_nil ?_
        intro _ hw'
        obtain ⟨m2, rfl⟩ := hw'
        have hbm := xt_below wr m2
        generalize wx wr m2 = w3 at hbm ⊢
        clear x0
        replace hS := Lib.hid (hS.out.step hbm)
        replace c0 := qcell c0 hbm
        replace c1 := qcell c1 hbm
        go_wp2_with (at_builtin; refine app_sep elemP rfl (.tmp 29) (.tmp 34) rfl _ [] rfl (hS.out.alloc _) _ 1 1 [x] rfl (rd_new PT w3 x _ rfl 28) hb32 ?_; intro v2 w4 S5 hk5)
        have S6 := Lib.hid S5
        clear S5 hk5
        go_roundw
        case rel => exact ⟨k + 1, by omega, by go_num, by rw [HX.out]; exact S6.out⟩
        case measure => simp [intOf]; omega
      | some y =>
        obtain ⟨q, hmq⟩ : ∃ q, m.length = q + 1 := ⟨m.length - 1, by
          have : m ≠ [] := by rintro rfl; cases hq
          have := List.length_pos_iff.2 this
          omega⟩
        have hyq : m[q]? = some y := by
          rw [List.getLast?_eq_getElem?, hmq] at hq
          simpa using hq
        have hrd' := hrd
        rw [hmq] at hrd hcv hb32 hlen
        obtain ⟨b2, o2, y', rfl, hy', d0, d1⟩ := rdP hrd (i := q) (by omega)
        rw [hyq] at hy'
        cases hy'
        have HL := Lib.hid hmq
        have HQ := Lib.hid hq
        have z0 : ((q : Int) + 1 == 0) = false := by simp; omega
        have z1 : (((q + 1 : Nat) : Int) == 0) = false := by simp; omega
        have z2 : 0 ≤ (q : Int) := by omega
        clear hrd hrd' hq hyq
        rw [hmq]
        clear hmq
        have x0 := xt_cell c0
        have y0 := xt_cell d0
        cases ht : Op.bytesLess y.k.toList x.k.toList
        · have hst := Lib.hid (stepS_no HQ.out ht)
          have u3 := le_of_not ht
          cases u1 : Op.bytesLess x.k.toList y.k.toList
          case' false => have u2 : (x.k.toList == y.k.toList) = true := by rw [u1] at u3; simpa using u3
          all_goals
            clear u3
            go_wp2
            refine xt_region (by kernel_rfl) (by kernel_rfl) ?_
            repeat (go_big_quiet_step (fail))
            refine wpQuiet_nil ?_
            intro _ hw'
            obtain ⟨m2, rfl⟩ := hw'
            have hbm := xt_below wr m2
            generalize wx wr m2 = w3 at hbm ⊢
            clear x0 y0
            replace hS := Lib.hid (hS.out.step hbm)
            clear hbm c0 c1 d0 d1
            rw [HL.out] at hS
            go_wp2
            go_roundw
            case rel => exact ⟨k + 1, by omega, by go_num, by rw [HX.out, hst.out]; exact hS.out⟩
            case measure => simp [intOf]; omega
        · have hst := Lib.hid (stepS_yes HQ.out ht)
          have u1 := bl_asymm ht
          have u2 : (x.k.toList == y.k.toList) = false := lessK_ne' ht
          go_wp2
          refine xt_region (by kernel_rfl) (by kernel_rfl) ?_
          repeat (go_big_quiet_step (fail))
          refine wpQuiet_nil ?_
          intro _ hw'
          obtain ⟨m2, rfl⟩ := hw'
          have hbm := xt_below wr m2
          generalize wx wr m2 = w3 at hbm ⊢
          clear x0 y0
          replace hS := Lib.hid (hS.out.step hbm)
          replace c0 := qcell c0 hbm
          replace c1 := qcell c1 hbm
          clear hbm d0 d1
          rw [HL.out] at hS
          have hb32' := Lib.hid (show (m.length + 1) * 32 ≤ 140737488355328 by rw [HL.out]; exact hb32)
          go_wp2_with (at_builtin; refine app_sep elemP rfl (.tmp 29) (.tmp 34) rfl _ m rfl (hS.out.alloc _) _ 1 1 [x] rfl (rd_new PT w3 x _ rfl 28) hb32'.out ?_; intro v2 w4 S5 hk5)
          have S6 := Lib.hid S5
          clear S5 hk5
          go_roundw
          case rel => exact ⟨k + 1, by omega, by go_num, by rw [HX.out, hst.out]; exact S6.out⟩
          case measure => simp [intOf]; omega
    · obtain rfl : k = l.length := by omega
      rw [List.take_length] at hS
      go_wp2
      go_ret
      exact ⟨_, rfl, hS.out⟩
theorem stateV {v : Value} {l : List P} {w : World} (h : RdV PT w v l) (hl : l.length ≤ 4194304) : Calls Tryd.prog 44 #[v] w fun e w' => ∃ v', e = .returned v' ∧ Sep w w' [row PT v' (stateL l)] := by
  obtain ⟨a, c, rfl, _, _, h⟩ := h
  exact state44 a c l w h hl
end Go.Proofs.YtdkailccfcijiaaDoor
