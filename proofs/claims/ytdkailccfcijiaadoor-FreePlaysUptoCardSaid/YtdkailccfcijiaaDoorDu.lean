/- The document's own Lists, walked. Conditions: the lengths. -/
import Derived.Test.YtdkailccfcijiaaDoorDp
namespace Go.Proofs.YtdkailccfcijiaaDoor
open Go.RowKit Go.Shelf
set_option linter.unusedVariables false
set_option linter.unusedSimpArgs false
set_option maxRecDepth 100000
attribute [local simp] wide_fn wide_fn_round
attribute [local go_sem] wide_fn wide_fn_round

theorem undef_no {b : Bool} (h : some undef = some (Value.bool b)) : False := by cases h
def refListsL (la lb : List P) : List C := (sidesL P.k P.k la lb).flatMap fun p => keepC (listsOne p.1 p.2)
theorem lists_ok {la lb : List P} (h1 : Rises (la.map P.k)) (h2 : Rises (lb.map P.k)) : listsL la lb = (refListsL la lb, none) := answer_ok ⟨h1, h2⟩ (runAll_all fun p hp => rfl)
theorem keepC_vals (k x z : ByteArray) (b : Bool) (h : (x.toList == z.toList) = b) : keepC ⟨k, true, true, x, z⟩ = if b then [] else [⟨k, true, true, x, z⟩] := by
  subst h
  rfl
section
variable {la lb : List P} {i k : Nat} {x z : P}
theorem rs_of {p : Option P × Option P} {t : List (Option P × Option P)} (h : sidesL P.k P.k (la.drop i) (lb.drop k) = p :: t) : refListsL (la.drop i) (lb.drop k) = keepC (listsOne p.1 p.2) ++ t.flatMap fun p => keepC (listsOne p.1 p.2) := by
  unfold refListsL
  rw [h]
  rfl
theorem rs_left (hx : la[i]? = some x) (hk : lb.length ≤ k) : refListsL (la.drop i) (lb.drop k) = ⟨x.k, true, false, x.v, ⟨#[]⟩⟩ :: refListsL (la.drop (i + 1)) (lb.drop k) := rs_of (sides_left hx hk)
theorem rs_right (hi : la.length ≤ i) (hz : lb[k]? = some z) : refListsL (la.drop i) (lb.drop k) = ⟨z.k, false, true, ⟨#[]⟩, z.v⟩ :: refListsL (la.drop i) (lb.drop (k + 1)) := rs_of (sides_right hi hz)
theorem rs_lt (hx : la[i]? = some x) (hz : lb[k]? = some z) (h : Op.bytesLess x.k.toList z.k.toList = true) : refListsL (la.drop i) (lb.drop k) = ⟨x.k, true, false, x.v, ⟨#[]⟩⟩ :: refListsL (la.drop (i + 1)) (lb.drop k) := rs_of (sides_lt hx hz h)
theorem rs_gt (hx : la[i]? = some x) (hz : lb[k]? = some z) (h : Op.bytesLess z.k.toList x.k.toList = true) : refListsL (la.drop i) (lb.drop k) = ⟨z.k, false, true, ⟨#[]⟩, z.v⟩ :: refListsL (la.drop i) (lb.drop (k + 1)) := rs_of (sides_gt hx hz h)
theorem rs_eq (hx : la[i]? = some x) (hz : lb[k]? = some z) (h1 : Op.bytesLess x.k.toList z.k.toList = false) (h2 : Op.bytesLess z.k.toList x.k.toList = false) : refListsL (la.drop i) (lb.drop k) = keepC (listsOne (some x) (some z)) ++ refListsL (la.drop (i + 1)) (lb.drop (k + 1)) := rs_of (sides_eq hx hz h1 h2)
theorem rs_end (hi : la.length ≤ i) (hk : lb.length ≤ k) : refListsL (la.drop i) (lb.drop k) = [] := by
  unfold refListsL
  rw [sides_end hi hk]
  rfl
end

set_option maxHeartbeats 8000000 in
theorem refLists (a1 a2 : Option Addr) (c1 c2 : Nat) (la lb : List P) (w : World) (h1 : Rd PT w a1 la.length la) (h2 : Rd PT w a2 lb.length lb) (hlen : la.length + lb.length ≤ 4194304) :
    Calls Tryd.prog 31 #[.slice a1 la.length c1, .slice a2 lb.length c2] w fun e w' => ∃ v, e = .returned (.tuple #[v, .int .i64 (numOf (listsL la lb).2)]) ∧ Sep w w' [row CT v (listsL la lb).1] := by
  refine (callsIn_wide (n := 3)).1 ?_
  have H1 := Lib.hid h1
  have H2 := Lib.hid h2
  clear h1 h2
  have hm : Tryd.prog.follows .mixedOrders = true := by kernel_rfl
  have t1 : True := trivial
  have t2 : True := trivial
  refine callsIn_of_wp Tryd.func31 rfl trivial ?_ rfl
  simp only [Tryd.ntmps31, List.size_toArray, List.length_cons, List.length_nil, Nat.reduceAdd, Nat.reduceSub, Array.replicate_succ, Array.replicate_zero, List.push_toArray, List.append_toArray, List.nil_append, List.cons_append]
  by_cases hR1 : Rises (la.map P.k)
  · by_cases hR2 : Rises (lb.map P.k)
    · gi_wp2_with (first | (gi_at_call 82; clear t1; refine ((callsIn_wide.2 (refRisesP_yes a1 c1 la _ H1.out hR1))).mono ?_; rintro e w1 ⟨rfl, hw1⟩) | (gi_at_call 82; clear t2; refine ((callsIn_wide.2 (refRisesP_yes a2 c2 lb _ (H2.out.below hw1) hR2))).mono ?_; rintro e w2 ⟨rfl, hw2⟩))
      have SB := Lib.hid ((((Sep.nil w).step hw1).step hw2).none_ CT)
      have hok := Lib.hid (lists_ok hR1 hR2)
      clear hw1 hw2 hR1 hR2
      gi_loopw [8, 9, 10, 11] (fun v t9 t10 t11 wr => ∃ i k n : Nat, i ≤ la.length ∧ k ≤ lb.length ∧ n ≤ i + k ∧ t9 = .int .i64 i ∧ t10 = .int .i64 k ∧ t11 = .int .i64 n ∧ ∃ out : List C, out.length ≤ i + k ∧ Hid (Sep w wr [row CT v out]) ∧ Hid (out ++ refListsL (la.drop i) (lb.drop k) = refListsL la lb)) (fun _ t9 t10 _ _ => (la.length + lb.length) - ((intOf t9).toNat + (intOf t10).toNat))
      case atStart => exact ⟨0, 0, 0, Nat.zero_le _, Nat.zero_le _, Nat.le_refl _, rfl, rfl, rfl, [], Nat.le_refl _, SB.out, rfl⟩
      case round =>
        obtain ⟨i, k, n, hi, hk, hn, rfl, rfl, rfl, out, hol, hS, hM⟩ := hrel
        by_cases hiN : i < la.length
        · obtain ⟨b, o, x, hae, hx, d0, d1⟩ := rdP (H1.out.below hS.out.below) hiN
          subst hae
          obtain ⟨xk, xv⟩ := x
          dsimp only at d0 d1
          by_cases hkN : k < lb.length
          · obtain ⟨b2, o2, z, hae, hz, e0, e1⟩ := rdP (H2.out.below hS.out.below) hkN
            subst hae
            obtain ⟨zk, zv⟩ := z
            dsimp only at e0 e1
            have hb56 : (out.length + 1) * 56 ≤ 140737488355328 := by omega
            cases hless : Op.bytesLess xk.toList zk.toList
            · cases hless2 : Op.bytesLess zk.toList xk.toList
              · obtain rfl : xk = zk := lessK_eq hless hless2
                cases hv : (xv.toList == zv.toList)
                · have hd : Hid (refListsL (la.drop i) (lb.drop k) = ([⟨xk, true, true, xv, zv⟩] : List C) ++ refListsL (la.drop (i + 1)) (lb.drop (k + 1))) := Lib.hid (by rw [rs_eq hx hz hless hless2]; show keepC ⟨xk, true, true, xv, zv⟩ ++ _ = _; rw [keepC_vals xk xv zv false hv]; rfl)
                  have hV := Lib.hid hv
                  have hx2 := Lib.hid hx
                  have hz2 := Lib.hid hz
                  clear hx hz
                  have hi1 : decide (i < la.length) = true := by simp; omega
                  have hi2 : decide (la.length ≤ i) = false := by simp; omega
                  have hk1 : decide (k < lb.length) = true := by simp; omega
                  have hk2 : decide (lb.length ≤ k) = false := by simp; omega
                  have xd0 := xt_cell d0
                  have xd1 := xt_cell d1
                  have xe0 := xt_cell e0
                  have xe1 := xt_cell e1
                  gi_wp2
                  refine xtIn_region rfl hm (by kernel_rfl) ?_
                  repeat (gi_big_quiet_step (fail))
                  refine wpQuietIn_nil ?_
                  intro _ hw'
                  obtain ⟨m, rfl⟩ := hw'
                  have hbm := xt_below wr m
                  generalize wx wr m = w3 at hbm ⊢
                  clear xd0 xd1 xe0 xe1
                  replace d0 := qcell d0 hbm
                  replace d1 := qcell d1 hbm
                  replace e0 := qcell e0 hbm
                  replace e1 := qcell e1 hbm
                  replace hS := Lib.hid (hS.out.step hbm)
                  clear hbm
                  have xd0 := xt_cell d0
                  have xd1 := xt_cell d1
                  have xe0 := xt_cell e0
                  have xe1 := xt_cell e1
                  gi_wp2
                  refine xtIn_region rfl hm (by kernel_rfl) ?_
                  repeat (gi_big_quiet_step (fail))
                  refine wpQuietIn_nil ?_
                  intro _ hw'
                  obtain ⟨m, rfl⟩ := hw'
                  have hbm := xt_below w3 m
                  generalize wx w3 m = w4 at hbm ⊢
                  clear xd0 xd1 xe0 xe1
                  replace d0 := qcell d0 hbm
                  replace d1 := qcell d1 hbm
                  replace e0 := qcell e0 hbm
                  replace e1 := qcell e1 hbm
                  replace hS := Lib.hid (hS.out.step hbm)
                  clear hbm
                  have xd0 := xt_cell d0
                  have xd1 := xt_cell d1
                  have xe0 := xt_cell e0
                  have xe1 := xt_cell e1
                  gi_wp2
                  refine xtIn_region rfl hm (by kernel_rfl) ?_
                  repeat (gi_big_quiet_step (fail))
                  refine wpQuietIn_nil ?_
                  intro _ hw'
                  obtain ⟨m, rfl⟩ := hw'
                  have hbm := xt_below w4 m
                  generalize wx w4 m = w5 at hbm ⊢
                  clear xd0 xd1 xe0 xe1
                  replace d0 := qcell d0 hbm
                  replace d1 := qcell d1 hbm
                  replace e0 := qcell e0 hbm
                  replace e1 := qcell e1 hbm
                  replace hS := Lib.hid (hS.out.step hbm)
                  clear hbm
                  have xd0 := xt_cell d0
                  have xd1 := xt_cell d1
                  have xe0 := xt_cell e0
                  have xe1 := xt_cell e1
                  gi_wp2
                  refine made_slice 17 hm (by kernel_rfl) (by kernel_rfl) ?_
                  simp only [List.take_succ_cons, List.take_zero, List.drop_succ_cons, List.drop_zero]
                  repeat (gi_big_quiet_step (fail))
                  refine wpQuietIn_nil ?_
                  refine ⟨_, _, _, _, _, rfl, rfl, rfl, bsC _ _ _ _ _ _, qalloc (qrefl _) _, ?_⟩
                  simp only [Act.put, List.setIfInBounds_toArray, List.set_cons_succ, List.set_cons_zero]
                  gi_wp2_with (gi_at_builtin; refine appIn_sep elemC rfl (.tmp 126) (.tmp 143) rfl u8 out rfl (hS.out.drew.alloc _) _ 1 1 [⟨xk, true, true, xv, zv⟩] rfl (rd_new CT w5.drew ⟨xk, true, true, xv, zv⟩ _ rfl 32) hb56 ?_; intro v2 W2 S5 hk5)
                  have S6 := Lib.hid S5
                  clear S5 hk5 xd0 xd1 xe0 xe1
                  go_roundw
                  case rel => exact ⟨i + 1, k + 1, n + 1, by omega, by omega, by omega, by go_num, by go_num, by go_num, out ++ [(⟨xk, true, true, xv, zv⟩ : C)], by simp; omega, S6.out, by show (out ++ [(⟨xk, true, true, xv, zv⟩ : C)]) ++ refListsL (la.drop (i + 1)) (lb.drop (k + 1)) = _; rw [← hM.out, hd.out]; simp⟩
                  case measure => simp [intOf]; omega
                · have hd : Hid (refListsL (la.drop i) (lb.drop k) = refListsL (la.drop (i + 1)) (lb.drop (k + 1))) := Lib.hid (by rw [rs_eq hx hz hless hless2]; show keepC ⟨xk, true, true, xv, zv⟩ ++ _ = _; rw [keepC_vals xk xv zv true hv]; rfl)
                  have hV := Lib.hid hv
                  have hx2 := Lib.hid hx
                  have hz2 := Lib.hid hz
                  clear hx hz
                  have hi1 : decide (i < la.length) = true := by simp; omega
                  have hi2 : decide (la.length ≤ i) = false := by simp; omega
                  have hk1 : decide (k < lb.length) = true := by simp; omega
                  have hk2 : decide (lb.length ≤ k) = false := by simp; omega
                  have xd0 := xt_cell d0
                  have xd1 := xt_cell d1
                  have xe0 := xt_cell e0
                  have xe1 := xt_cell e1
                  gi_wp2
                  refine xtIn_region rfl hm (by kernel_rfl) ?_
                  repeat (gi_big_quiet_step (fail))
                  refine wpQuietIn_nil ?_
                  intro _ hw'
                  obtain ⟨m, rfl⟩ := hw'
                  have hbm := xt_below wr m
                  generalize wx wr m = w3 at hbm ⊢
                  clear xd0 xd1 xe0 xe1
                  replace d0 := qcell d0 hbm
                  replace d1 := qcell d1 hbm
                  replace e0 := qcell e0 hbm
                  replace e1 := qcell e1 hbm
                  replace hS := Lib.hid (hS.out.step hbm)
                  clear hbm
                  have xd0 := xt_cell d0
                  have xd1 := xt_cell d1
                  have xe0 := xt_cell e0
                  have xe1 := xt_cell e1
                  gi_wp2
                  refine xtIn_region rfl hm (by kernel_rfl) ?_
                  repeat (gi_big_quiet_step (fail))
                  refine wpQuietIn_nil ?_
                  intro _ hw'
                  obtain ⟨m, rfl⟩ := hw'
                  have hbm := xt_below w3 m
                  generalize wx w3 m = w4 at hbm ⊢
                  clear xd0 xd1 xe0 xe1
                  replace d0 := qcell d0 hbm
                  replace d1 := qcell d1 hbm
                  replace e0 := qcell e0 hbm
                  replace e1 := qcell e1 hbm
                  replace hS := Lib.hid (hS.out.step hbm)
                  clear hbm
                  have xd0 := xt_cell d0
                  have xd1 := xt_cell d1
                  have xe0 := xt_cell e0
                  have xe1 := xt_cell e1
                  gi_wp2
                  refine xtIn_region rfl hm (by kernel_rfl) ?_
                  repeat (gi_big_quiet_step (fail))
                  refine wpQuietIn_nil ?_
                  intro _ hw'
                  obtain ⟨m, rfl⟩ := hw'
                  have hbm := xt_below w4 m
                  generalize wx w4 m = w5 at hbm ⊢
                  clear xd0 xd1 xe0 xe1
                  replace d0 := qcell d0 hbm
                  replace d1 := qcell d1 hbm
                  replace e0 := qcell e0 hbm
                  replace e1 := qcell e1 hbm
                  replace hS := Lib.hid (hS.out.step hbm)
                  clear hbm
                  gi_wp2
                  go_roundw
                  case rel => exact ⟨i + 1, k + 1, n + 1, by omega, by omega, by omega, by go_num, by go_num, by go_num, out, by omega, hS.out, by show (out) ++ refListsL (la.drop (i + 1)) (lb.drop (k + 1)) = _; rw [← hM.out, hd.out]⟩
                  case measure => simp [intOf]; omega
              · have hd := Lib.hid (rs_gt hx hz hless2)
                have hx2 := Lib.hid hx
                have hz2 := Lib.hid hz
                clear hx hz
                have hi1 : decide (i < la.length) = true := by simp; omega
                have hi2 : decide (la.length ≤ i) = false := by simp; omega
                have hk1 : decide (k < lb.length) = true := by simp; omega
                have hk2 : decide (lb.length ≤ k) = false := by simp; omega
                have xd0 := xt_cell d0
                have xe0 := xt_cell e0
                have xe1 := xt_cell e1
                gi_wp2
                refine xtIn_region rfl hm (by kernel_rfl) ?_
                repeat (gi_big_quiet_step (fail))
                refine wpQuietIn_nil ?_
                intro _ hw'
                obtain ⟨m, rfl⟩ := hw'
                have hbm := xt_below wr m
                generalize wx wr m = w3 at hbm ⊢
                clear xd0 xe0 xe1
                replace d0 := qcell d0 hbm
                replace e0 := qcell e0 hbm
                replace e1 := qcell e1 hbm
                replace hS := Lib.hid (hS.out.step hbm)
                clear hbm
                have xd0 := xt_cell d0
                have xe0 := xt_cell e0
                have xe1 := xt_cell e1
                gi_wp2
                refine xtIn_region rfl hm (by kernel_rfl) ?_
                repeat (gi_big_quiet_step (fail))
                refine wpQuietIn_nil ?_
                intro _ hw'
                obtain ⟨m, rfl⟩ := hw'
                have hbm := xt_below w3 m
                generalize wx w3 m = w4 at hbm ⊢
                clear xd0 xe0 xe1
                replace d0 := qcell d0 hbm
                replace e0 := qcell e0 hbm
                replace e1 := qcell e1 hbm
                replace hS := Lib.hid (hS.out.step hbm)
                clear hbm
                have xe0 := xt_cell e0
                have xe1 := xt_cell e1
                gi_wp2
                refine made_slice 12 hm (by kernel_rfl) (by kernel_rfl) ?_
                simp only [List.take_succ_cons, List.take_zero, List.drop_succ_cons, List.drop_zero]
                repeat (gi_big_quiet_step (fail))
                refine wpQuietIn_nil ?_
                refine ⟨_, _, _, _, _, rfl, rfl, rfl, bsC _ _ _ _ _ _, qalloc (qrefl _) _, ?_⟩
                simp only [Act.put, List.setIfInBounds_toArray, List.set_cons_succ, List.set_cons_zero]
                gi_wp2_with (gi_at_builtin; refine appIn_sep elemC rfl (.tmp 99) (.tmp 111) rfl u8 out rfl (hS.out.drew.alloc _) _ 1 1 [⟨zk, false, true, ⟨#[]⟩, zv⟩] rfl (rd_new CT w4.drew ⟨zk, false, true, ⟨#[]⟩, zv⟩ _ rfl 32) hb56 ?_; intro v2 W2 S5 hk5)
                have S6 := Lib.hid S5
                clear S5 hk5 xe0 xe1
                go_roundw
                case rel => exact ⟨i, k + 1, n + 1, by omega, by omega, by omega, rfl, by go_num, by go_num, out ++ [(⟨zk, false, true, ⟨#[]⟩, zv⟩ : C)], by simp; omega, S6.out, by show (out ++ [(⟨zk, false, true, ⟨#[]⟩, zv⟩ : C)]) ++ refListsL (la.drop i) (lb.drop (k + 1)) = _; rw [← hM.out, hd.out]; simp⟩
                case measure => simp [intOf]; omega
            · have hd := Lib.hid (rs_lt hx hz hless)
              have hx2 := Lib.hid hx
              have hz2 := Lib.hid hz
              clear hx hz
              have hi1 : decide (i < la.length) = true := by simp; omega
              have hi2 : decide (la.length ≤ i) = false := by simp; omega
              have hk1 : decide (k < lb.length) = true := by simp; omega
              have hk2 : decide (lb.length ≤ k) = false := by simp; omega
              have xd0 := xt_cell d0
              have xd1 := xt_cell d1
              have xe0 := xt_cell e0
              gi_wp2
              refine xtIn_region rfl hm (by kernel_rfl) ?_
              repeat (gi_big_quiet_step (fail))
              refine wpQuietIn_nil ?_
              intro _ hw'
              obtain ⟨m, rfl⟩ := hw'
              have hbm := xt_below wr m
              generalize wx wr m = w3 at hbm ⊢
              clear xd0 xd1 xe0
              replace d0 := qcell d0 hbm
              replace d1 := qcell d1 hbm
              replace e0 := qcell e0 hbm
              replace hS := Lib.hid (hS.out.step hbm)
              clear hbm
              have xd0 := xt_cell d0
              have xd1 := xt_cell d1
              gi_wp2
              refine made_slice 12 hm (by kernel_rfl) (by kernel_rfl) ?_
              simp only [List.take_succ_cons, List.take_zero, List.drop_succ_cons, List.drop_zero]
              repeat (gi_big_quiet_step (fail))
              refine wpQuietIn_nil ?_
              refine ⟨_, _, _, _, _, rfl, rfl, rfl, bsC _ _ _ _ _ _, qalloc (qrefl _) _, ?_⟩
              simp only [Act.put, List.setIfInBounds_toArray, List.set_cons_succ, List.set_cons_zero]
              gi_wp2_with (gi_at_builtin; refine appIn_sep elemC rfl (.tmp 66) (.tmp 78) rfl u8 out rfl (hS.out.drew.alloc _) _ 1 1 [⟨xk, true, false, xv, ⟨#[]⟩⟩] rfl (rd_new CT w3.drew ⟨xk, true, false, xv, ⟨#[]⟩⟩ _ rfl 32) hb56 ?_; intro v2 W2 S5 hk5)
              have S6 := Lib.hid S5
              clear S5 hk5 xd0 xd1
              go_roundw
              case rel => exact ⟨i + 1, k, n + 1, by omega, by omega, by omega, by go_num, rfl, by go_num, out ++ [(⟨xk, true, false, xv, ⟨#[]⟩⟩ : C)], by simp; omega, S6.out, by show (out ++ [(⟨xk, true, false, xv, ⟨#[]⟩⟩ : C)]) ++ refListsL (la.drop (i + 1)) (lb.drop k) = _; rw [← hM.out, hd.out]; simp⟩
              case measure => simp [intOf]; omega
          · have hb56 : (out.length + 1) * 56 ≤ 140737488355328 := by omega
            have hd := Lib.hid (rs_left hx (Nat.le_of_not_lt hkN))
            have hx2 := Lib.hid hx
            clear hx
            have hkN' : lb.length ≤ k := Nat.le_of_not_lt hkN
            have hi1 : decide (i < la.length) = true := by simp; omega
            have hi2 : decide (la.length ≤ i) = false := by simp; omega
            have hk1 : decide (k < lb.length) = false := by simp; omega
            have hk2 : decide (lb.length ≤ k) = true := by simp; omega
            have xd0 := xt_cell d0
            have xd1 := xt_cell d1
            gi_wp2
            refine xtIn_region rfl hm (by kernel_rfl) ?_
            repeat (gi_big_quiet_step (fail))
            refine wpQuietIn_nil ?_
            intro _ hw'
            obtain ⟨m, rfl⟩ := hw'
            have hbm := xt_below wr m
            generalize wx wr m = w3 at hbm ⊢
            clear xd0 xd1
            replace d0 := qcell d0 hbm
            replace d1 := qcell d1 hbm
            replace hS := Lib.hid (hS.out.step hbm)
            clear hbm
            have xd0 := xt_cell d0
            have xd1 := xt_cell d1
            gi_wp2
            refine made_slice 12 hm (by kernel_rfl) (by kernel_rfl) ?_
            simp only [List.take_succ_cons, List.take_zero, List.drop_succ_cons, List.drop_zero]
            repeat (gi_big_quiet_step (fail))
            refine wpQuietIn_nil ?_
            refine ⟨_, _, _, _, _, rfl, rfl, rfl, bsC _ _ _ _ _ _, qalloc (qrefl _) _, ?_⟩
            simp only [Act.put, List.setIfInBounds_toArray, List.set_cons_succ, List.set_cons_zero]
            gi_wp2_with (gi_at_builtin; refine appIn_sep elemC rfl (.tmp 66) (.tmp 78) rfl u8 out rfl (hS.out.drew.alloc _) _ 1 1 [⟨xk, true, false, xv, ⟨#[]⟩⟩] rfl (rd_new CT w3.drew ⟨xk, true, false, xv, ⟨#[]⟩⟩ _ rfl 32) hb56 ?_; intro v2 W2 S5 hk5)
            have S6 := Lib.hid S5
            clear S5 hk5 xd0 xd1
            go_roundw
            case rel => exact ⟨i + 1, k, n + 1, by omega, by omega, by omega, by go_num, rfl, by go_num, out ++ [(⟨xk, true, false, xv, ⟨#[]⟩⟩ : C)], by simp; omega, S6.out, by show (out ++ [(⟨xk, true, false, xv, ⟨#[]⟩⟩ : C)]) ++ refListsL (la.drop (i + 1)) (lb.drop k) = _; rw [← hM.out, hd.out]; simp⟩
            case measure => simp [intOf]; omega
        · by_cases hkN : k < lb.length
          · obtain ⟨b2, o2, z, hae, hz, e0, e1⟩ := rdP (H2.out.below hS.out.below) hkN
            subst hae
            obtain ⟨zk, zv⟩ := z
            dsimp only at e0 e1
            have hb56 : (out.length + 1) * 56 ≤ 140737488355328 := by omega
            have hd := Lib.hid (rs_right (Nat.le_of_not_lt hiN) hz)
            have hz2 := Lib.hid hz
            clear hz
            have hiN' : la.length ≤ i := Nat.le_of_not_lt hiN
            have hi1 : decide (i < la.length) = false := by simp; omega
            have hi2 : decide (la.length ≤ i) = true := by simp; omega
            have hk1 : decide (k < lb.length) = true := by simp; omega
            have hk2 : decide (lb.length ≤ k) = false := by simp; omega
            have xe0 := xt_cell e0
            have xe1 := xt_cell e1
            gi_wp2
            refine xtIn_region rfl hm (by kernel_rfl) ?_
            repeat (gi_big_quiet_step (fail))
            refine wpQuietIn_nil ?_
            intro _ hw'
            obtain ⟨m, rfl⟩ := hw'
            have hbm := xt_below wr m
            generalize wx wr m = w3 at hbm ⊢
            clear xe0 xe1
            replace e0 := qcell e0 hbm
            replace e1 := qcell e1 hbm
            replace hS := Lib.hid (hS.out.step hbm)
            clear hbm
            have xe0 := xt_cell e0
            have xe1 := xt_cell e1
            gi_wp2
            refine xtIn_region rfl hm (by kernel_rfl) ?_
            repeat (gi_big_quiet_step (fail))
            refine wpQuietIn_nil ?_
            intro _ hw'
            obtain ⟨m, rfl⟩ := hw'
            have hbm := xt_below w3 m
            generalize wx w3 m = w4 at hbm ⊢
            clear xe0 xe1
            replace e0 := qcell e0 hbm
            replace e1 := qcell e1 hbm
            replace hS := Lib.hid (hS.out.step hbm)
            clear hbm
            have xe0 := xt_cell e0
            have xe1 := xt_cell e1
            gi_wp2
            refine made_slice 12 hm (by kernel_rfl) (by kernel_rfl) ?_
            simp only [List.take_succ_cons, List.take_zero, List.drop_succ_cons, List.drop_zero]
            repeat (gi_big_quiet_step (fail))
            refine wpQuietIn_nil ?_
            refine ⟨_, _, _, _, _, rfl, rfl, rfl, bsC _ _ _ _ _ _, qalloc (qrefl _) _, ?_⟩
            simp only [Act.put, List.setIfInBounds_toArray, List.set_cons_succ, List.set_cons_zero]
            gi_wp2_with (gi_at_builtin; refine appIn_sep elemC rfl (.tmp 99) (.tmp 111) rfl u8 out rfl (hS.out.drew.alloc _) _ 1 1 [⟨zk, false, true, ⟨#[]⟩, zv⟩] rfl (rd_new CT w4.drew ⟨zk, false, true, ⟨#[]⟩, zv⟩ _ rfl 32) hb56 ?_; intro v2 W2 S5 hk5)
            have S6 := Lib.hid S5
            clear S5 hk5 xe0 xe1
            go_roundw
            case rel => exact ⟨i, k + 1, n + 1, by omega, by omega, by omega, rfl, by go_num, by go_num, out ++ [(⟨zk, false, true, ⟨#[]⟩, zv⟩ : C)], by simp; omega, S6.out, by show (out ++ [(⟨zk, false, true, ⟨#[]⟩, zv⟩ : C)]) ++ refListsL (la.drop i) (lb.drop (k + 1)) = _; rw [← hM.out, hd.out]; simp⟩
            case measure => simp [intOf]; omega
          · have hd := Lib.hid (rs_end (la := la) (lb := lb) (Nat.le_of_not_lt hiN) (Nat.le_of_not_lt hkN))
            have hiN' : la.length ≤ i := Nat.le_of_not_lt hiN
            have hkN' : lb.length ≤ k := Nat.le_of_not_lt hkN
            have hfin := Lib.hid ((show out = refListsL la lb by rw [← hM.out, hd.out, List.append_nil]))
            have hi1 : decide (i < la.length) = false := by simp; omega
            have hi2 : decide (la.length ≤ i) = true := by simp; omega
            have hk1 : decide (k < lb.length) = false := by simp; omega
            have hk2 : decide (lb.length ≤ k) = true := by simp; omega
            rcases Nat.lt_or_ge n (la.length + lb.length) with hnN | hnN
            all_goals gi_wp2
            all_goals first | exact (undef_no (by assumption)).elim | skip
            all_goals
              refine bodyPost_ret (v := .tuple #[u8, .int .i64 0]) (by simp [results, Tryd.results31, go_sem]) rfl ⟨u8, ?_, ?_⟩
              · rw [hok.out]; rfl
              · rw [hok.out, ← hfin.out]; exact hS.out
    · have hans := Lib.hid (answer_order (f := fun x y => some (keepC (listsOne x y))) (ka := P.k) (kb := P.k) (a := la) (b := lb) (fun h => hR2 h.2))
      gi_wp2_with (first | (gi_at_call 82; clear t1; refine ((callsIn_wide.2 (refRisesP_yes a1 c1 la _ H1.out hR1))).mono ?_; rintro e w1 ⟨rfl, hw1⟩) | (gi_at_call 82; clear t2; refine ((callsIn_wide.2 (refRisesP_no a2 c2 lb _ (H2.out.below hw1) hR2))).mono ?_; rintro e w2 ⟨rfl, hw2⟩))
      refine bodyPost_ret (v := .tuple #[.slice none 0 0, .int .i64 12]) (by simp [results, Tryd.results31, go_sem]) rfl ⟨.slice none 0 0, ?_, ?_⟩
      · rw [show listsL la lb = _ from hans.out]; rfl
      · rw [show listsL la lb = _ from hans.out]; exact (((Sep.nil w).step hw1).step hw2).none_ CT
  · by_cases hR2 : Rises (lb.map P.k)
    · have hans := Lib.hid (answer_order (f := fun x y => some (keepC (listsOne x y))) (ka := P.k) (kb := P.k) (a := la) (b := lb) (fun h => hR1 h.1))
      gi_wp2_with (first | (gi_at_call 82; clear t1; refine ((callsIn_wide.2 (refRisesP_no a1 c1 la _ H1.out hR1))).mono ?_; rintro e w1 ⟨rfl, hw1⟩) | (gi_at_call 82; clear t2; refine ((callsIn_wide.2 (refRisesP_yes a2 c2 lb _ (H2.out.below hw1) hR2))).mono ?_; rintro e w2 ⟨rfl, hw2⟩))
      refine bodyPost_ret (v := .tuple #[.slice none 0 0, .int .i64 12]) (by simp [results, Tryd.results31, go_sem]) rfl ⟨.slice none 0 0, ?_, ?_⟩
      · rw [show listsL la lb = _ from hans.out]; rfl
      · rw [show listsL la lb = _ from hans.out]; exact (((Sep.nil w).step hw1).step hw2).none_ CT
    · have hans := Lib.hid (answer_order (f := fun x y => some (keepC (listsOne x y))) (ka := P.k) (kb := P.k) (a := la) (b := lb) (fun h => hR1 h.1))
      gi_wp2_with (first | (gi_at_call 82; clear t1; refine ((callsIn_wide.2 (refRisesP_no a1 c1 la _ H1.out hR1))).mono ?_; rintro e w1 ⟨rfl, hw1⟩) | (gi_at_call 82; clear t2; refine ((callsIn_wide.2 (refRisesP_no a2 c2 lb _ (H2.out.below hw1) hR2))).mono ?_; rintro e w2 ⟨rfl, hw2⟩))
      refine bodyPost_ret (v := .tuple #[.slice none 0 0, .int .i64 12]) (by simp [results, Tryd.results31, go_sem]) rfl ⟨.slice none 0 0, ?_, ?_⟩
      · rw [show listsL la lb = _ from hans.out]; rfl
      · rw [show listsL la lb = _ from hans.out]; exact (((Sep.nil w).step hw1).step hw2).none_ CT
end Go.Proofs.YtdkailccfcijiaaDoor
