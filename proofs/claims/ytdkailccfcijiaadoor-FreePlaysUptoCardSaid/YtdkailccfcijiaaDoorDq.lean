/- The document's own Patch, walked. Conditions: the lengths. -/
import Derived.Test.YtdkailccfcijiaaDoorDp
namespace Go.Proofs.YtdkailccfcijiaaDoor
open Go.RowKit Go.Shelf
set_option linter.unusedVariables false
set_option linter.unusedSimpArgs false
set_option maxRecDepth 100000
attribute [local simp] wide_fn wide_fn_round
attribute [local go_sem] wide_fn wide_fn_round

section
variable {la : List P} {lc : List C} {i k : Nat} {x : P} {c : C}
theorem rp_of {p : Option P × Option C} {t : List (Option P × Option C)} (h : sidesL P.k C.k (la.drop i) (lc.drop k) = p :: t) : refPatchL (la.drop i) (lc.drop k) = stepR p ++ t.flatMap stepR := by
  unfold refPatchL
  rw [h]
  rfl
theorem rp_left (hx : la[i]? = some x) (hk : lc.length ≤ k) : refPatchL (la.drop i) (lc.drop k) = x :: refPatchL (la.drop (i + 1)) (lc.drop k) := rp_of (sides_left hx hk)
theorem rp_right (hi : la.length ≤ i) (hy : lc[k]? = some c) : refPatchL (la.drop i) (lc.drop k) = putC c ++ refPatchL (la.drop i) (lc.drop (k + 1)) := rp_of (sides_right hi hy)
theorem rp_lt (hx : la[i]? = some x) (hy : lc[k]? = some c) (h : Op.bytesLess x.k.toList c.k.toList = true) : refPatchL (la.drop i) (lc.drop k) = x :: refPatchL (la.drop (i + 1)) (lc.drop k) := rp_of (sides_lt hx hy h)
theorem rp_gt (hx : la[i]? = some x) (hy : lc[k]? = some c) (h : Op.bytesLess c.k.toList x.k.toList = true) : refPatchL (la.drop i) (lc.drop k) = putC c ++ refPatchL (la.drop i) (lc.drop (k + 1)) := rp_of (sides_gt hx hy h)
theorem rp_eq (hx : la[i]? = some x) (hy : lc[k]? = some c) (h1 : Op.bytesLess x.k.toList c.k.toList = false) (h2 : Op.bytesLess c.k.toList x.k.toList = false) : refPatchL (la.drop i) (lc.drop k) = putC c ++ refPatchL (la.drop (i + 1)) (lc.drop (k + 1)) := rp_of (sides_eq hx hy h1 h2)
theorem rp_end (hi : la.length ≤ i) (hk : lc.length ≤ k) : refPatchL (la.drop i) (lc.drop k) = [] := by
  unfold refPatchL
  rw [sides_end hi hk]
  rfl
end

set_option maxHeartbeats 8000000 in
theorem refPatch (a1 a2 : Option Addr) (c1 c2 : Nat) (la : List P) (lc : List C) (w : World) (h1 : Rd PT w a1 la.length la) (h2 : Rd CT w a2 lc.length lc) (hlen : la.length + lc.length ≤ 4194304) :
    Calls Tryd.prog 22 #[.slice a1 la.length c1, .slice a2 lc.length c2] w fun e w' => ∃ v, e = .returned (.tuple #[v, .int .i64 (numOf (patchL la lc).2)]) ∧ Sep w w' [row PT v (patchL la lc).1] := by
  refine (callsIn_wide (n := 3)).1 ?_
  have H1 := Lib.hid h1
  have H2 := Lib.hid h2
  clear h1 h2
  have hm : Tryd.prog.follows .mixedOrders = true := by kernel_rfl
  refine callsIn_of_wp Tryd.func22 rfl trivial ?_ rfl
  simp only [Tryd.ntmps22, List.size_toArray, List.length_cons, List.length_nil, Nat.reduceAdd, Nat.reduceSub, Array.replicate_succ, Array.replicate_zero, List.push_toArray, List.append_toArray, List.nil_append, List.cons_append]
  by_cases hR1 : Rises (la.map P.k)
  · by_cases hR2 : Rises (lc.map C.k)
    · gi_wp2_with (first | (gi_at_call 82; refine ((callsIn_wide.2 (refRisesP_yes a1 c1 la _ H1.out hR1))).mono ?_; rintro e w1 ⟨rfl, hw1⟩) | (gi_at_call 83; refine ((callsIn_wide.2 (refRisesC_yes a2 c2 lc _ (H2.out.below hw1) hR2))).mono ?_; rintro e w2 ⟨rfl, hw2⟩))
      have HB := Lib.hid (qbelow hw1 hw2)
      clear hw1 hw2
      gi_loopw [8] (fun t8 wr => ∃ i : Nat, i ≤ lc.length ∧ t8 = .int .i64 i ∧ Hid (Below w.heap.size w wr) ∧ Hid (∀ (j : Nat) (c : C), j < i → lc[j]? = some c → c.fits (fv (findP la c.k)) (findP la c.k).isSome = true)) (fun t8 _ => lc.length - (intOf t8).toNat)
      case atStart => exact ⟨0, Nat.zero_le _, rfl, HB.out, fun j c hj => by omega⟩
      case round =>
        obtain ⟨i, hi, rfl, hB, hF⟩ := hrel
        by_cases hlt : i < lc.length
        · obtain ⟨b2, o2, z, hae, hz, e0, e1, e2, e3, e4⟩ := rdC (H2.out.below hB.out) hlt
          subst hae
          have hz2 := Lib.hid hz
          clear hz
          cases hf : z.fits (fv (findP la z.k)) (findP la z.k).isSome
          · have hno := Lib.hid (patch_no hR1 hR2 (List.mem_of_getElem? hz2.out) hf)
            gi_wp2_with (first | (gi_at_call 84; refine (callsIn_wide.2 (find84 a1 c1 _ la z.k _ (H1.out.below hB.out))).mono ?_; rintro e w3 ⟨rfl, hw3⟩; have f0 := qcell e0 hw3; have f1 := qcell e1 hw3; have f2 := qcell e2 hw3; have f3 := qcell e3 hw3; have f4 := qcell e4 hw3) | (gi_at_call 85; refine (callsIn_wide.2 (fits z _ _ _)).mono ?_; rintro e w4 ⟨rfl, hw4⟩))
            refine bodyPost_ret (v := .tuple #[.slice none 0 0, .int .i64 6]) (by simp [results, Tryd.results22, go_sem]) rfl ⟨.slice none 0 0, ?_, ?_⟩
            · rw [hno.out]; rfl
            · rw [hno.out]; exact ((Sep.nil w).step (qbelow (qbelow hB.out hw3) hw4)).none_ PT
          · have hst : ∀ (j : Nat) (c : C), j < i + 1 → lc[j]? = some c → c.fits (fv (findP la c.k)) (findP la c.k).isSome = true := by
              intro j c hj hc
              rcases Nat.lt_or_ge j i with h | h
              · exact hF.out j c h hc
              · obtain rfl : j = i := by omega
                rw [hz2.out] at hc
                cases hc
                exact hf
            have hst2 := Lib.hid hst
            clear hst
            gi_wp2_with (first | (gi_at_call 84; refine (callsIn_wide.2 (find84 a1 c1 _ la z.k _ (H1.out.below hB.out))).mono ?_; rintro e w3 ⟨rfl, hw3⟩; have f0 := qcell e0 hw3; have f1 := qcell e1 hw3; have f2 := qcell e2 hw3; have f3 := qcell e3 hw3; have f4 := qcell e4 hw3) | (gi_at_call 85; refine (callsIn_wide.2 (fits z _ _ _)).mono ?_; rintro e w4 ⟨rfl, hw4⟩))
            have hB4 := Lib.hid (qbelow (qbelow hB.out hw3) hw4)
            go_roundw
            case rel => exact ⟨i + 1, by omega, by go_num, hB4.out, hst2.out⟩
            case measure => simp [intOf]; omega
        · have hall : ∀ c ∈ lc, c.fits (fv (findP la c.k)) (findP la c.k).isSome = true := by
            intro c hc
            obtain ⟨j, hj⟩ := List.getElem?_of_mem hc
            exact hF.out j c (by have := (List.getElem?_eq_some_iff.1 hj).1; omega) hj
          have hok := Lib.hid (patch_ok hR1 hR2 hall)
          have SB := Lib.hid (((Sep.nil w).step hB.out).none_ PT)
          clear hall
          gi_wp2
          gi_loopw [12, 13, 14] (fun v t13 t14 wr => ∃ i k : Nat, i ≤ la.length ∧ k ≤ lc.length ∧ t14 = .int .i64 i ∧ t13 = .int .i64 k ∧ ∃ out : List P, out.length ≤ i + k ∧ Hid (Sep w wr [row PT v out]) ∧ Hid (out ++ refPatchL (la.drop i) (lc.drop k) = refPatchL la lc)) (fun _ _ t14 _ => la.length - (intOf t14).toNat)
          case atStart => exact ⟨0, 0, Nat.zero_le _, Nat.zero_le _, rfl, rfl, [], Nat.le_refl _, SB.out, rfl⟩
          case round =>
            obtain ⟨i, k0, hi, hk0, rfl, rfl, out0, hol0, hS0, hM0⟩ := hrel
            gi_wp2
            gi_loopw [12, 13] (fun v t13 wr => ∃ k : Nat, k ≤ lc.length ∧ t13 = .int .i64 k ∧ ∃ out : List P, out.length ≤ i + k ∧ Hid (Sep w wr [row PT v out]) ∧ Hid (out ++ refPatchL (la.drop i) (lc.drop k) = refPatchL la lc)) (fun _ t13 _ => lc.length - (intOf t13).toNat)
            case atStart => exact ⟨k0, hk0, rfl, out0, hol0, hS0.out, hM0.out⟩
            case round =>
              obtain ⟨k, hk, rfl, out, hol, hS, hM⟩ := hrel
              by_cases hkN : k < lc.length
              · obtain ⟨b2, o2, z, hae, hz, e0, e1, e2, e3, e4⟩ := rdC (H2.out.below hS.out.below) hkN
                subst hae
                obtain ⟨zk, had, has, old, new⟩ := z
                dsimp only at e0 e1 e2 e3 e4
                by_cases hiN : i < la.length
                · obtain ⟨b, o, x, hae, hx, d0, d1⟩ := rdP (H1.out.below hS.out.below) hiN
                  subst hae
                  obtain ⟨xk, xv⟩ := x
                  dsimp only at d0 d1
                  have hin : ((i : Int) == (la.length : Int)) = false := by simp; omega
                  cases hless : Op.bytesLess zk.toList xk.toList
                  · cases hless2 : Op.bytesLess xk.toList zk.toList
                    · have hd := Lib.hid (rp_eq hx hz hless2 hless)
                      have hq1 : (zk.toList == xk.toList) = true := by simpa using bl_tri hless hless2
                      have hx2 := Lib.hid hx
                      have hz2 := Lib.hid hz
                      clear hx hz
                      have xe0 := xt_cell e0
                      have xe2 := xt_cell e2
                      have xe4 := xt_cell e4
                      have xd0 := xt_cell d0
                      have xd1 := xt_cell d1
                      gi_wp2
                      refine xtIn_region rfl hm (by kernel_rfl) ?_
                      repeat (gi_big_quiet_step (fail))
                      refine wpQuietIn_nil ?_
                      intro _ hw'
                      obtain ⟨m, rfl⟩ := hw'
                      have hbm := xt_below wr m
                      generalize wx wr m = w3 at hbm ⊢
                      clear xe0 xe2 xe4 xd0 xd1
                      replace e0 := qcell e0 hbm
                      replace e2 := qcell e2 hbm
                      replace e4 := qcell e4 hbm
                      replace d0 := qcell d0 hbm
                      replace d1 := qcell d1 hbm
                      have hb3 := hbm
                      have xe0 := xt_cell e0
                      have xe2 := xt_cell e2
                      have xe4 := xt_cell e4
                      have xd0 := xt_cell d0
                      have xd1 := xt_cell d1
                      gi_wp2
                      refine xtIn_region rfl hm (by kernel_rfl) ?_
                      repeat (gi_big_quiet_step (fail))
                      refine wpQuietIn_nil ?_
                      intro _ hw'
                      obtain ⟨m, rfl⟩ := hw'
                      have hbm := xt_below w3 m
                      generalize wx w3 m = w4 at hbm ⊢
                      clear xe0 xe2 xe4 xd0 xd1
                      replace e0 := qcell e0 hbm
                      replace e2 := qcell e2 hbm
                      replace e4 := qcell e4 hbm
                      replace d0 := qcell d0 hbm
                      replace d1 := qcell d1 hbm
                      have S4 := Lib.hid ((hS.out.step hb3).step hbm)
                      have xe0 := xt_cell e0
                      have xe4 := xt_cell e4
                      have hb32 : (out.length + 1) * 32 ≤ 140737488355328 := by omega
                      cases has with
                      | true =>
                        gi_wp2
                        refine made_slice 12 hm (by kernel_rfl) (by kernel_rfl) ?_
                        simp only [List.take_succ_cons, List.take_zero, List.drop_succ_cons, List.drop_zero]
                        repeat (gi_big_quiet_step (fail))
                        refine wpQuietIn_nil ?_
                        refine ⟨_, _, _, _, _, rfl, rfl, rfl, bsP _ _ _, qalloc (qrefl _) _, ?_⟩
                        simp only [Act.put, List.setIfInBounds_toArray, List.set_cons_succ, List.set_cons_zero]
                        gi_wp2_with (gi_at_builtin; refine appIn_sep elemP rfl (.tmp 126) (.tmp 138) rfl u12 out rfl (S4.out.drew.alloc _) _ 1 1 [⟨zk, new⟩] rfl (rd_new PT w4.drew ⟨zk, new⟩ _ rfl 28) hb32 ?_; intro v2 W2 S5 hk5)
                        have S6 := Lib.hid S5
                        clear S5 hk5 xe0 xe4
                        go_roundw
                        case rel => exact ⟨i + 1, k + 1, by omega, by omega, by go_num, by go_num, out ++ [(⟨zk, new⟩ : P)], by simp; omega, S6.out, by show (out ++ [(⟨zk, new⟩ : P)]) ++ refPatchL (la.drop (i + 1)) (lc.drop (k + 1)) = _; rw [← hM.out, hd.out]; simp [putC]⟩
                        case measure => simp [intOf]; omega
                      | false =>
                        clear xe0 xe4
                        gi_wp2
                        go_roundw
                        case rel => exact ⟨i + 1, k + 1, by omega, by omega, by go_num, by go_num, out, by omega, S4.out, by show out ++ refPatchL (la.drop (i + 1)) (lc.drop (k + 1)) = _; rw [← hM.out, hd.out]; simp [putC]⟩
                        case measure => simp [intOf]; omega
                    · have hd := Lib.hid (rp_lt hx hz hless2)
                      have hq1 : (zk.toList == xk.toList) = false := lessK_ne' hless2
                      have hx2 := Lib.hid hx
                      have hz2 := Lib.hid hz
                      clear hx hz
                      have xe0 := xt_cell e0
                      have xd0 := xt_cell d0
                      have xd1 := xt_cell d1
                      gi_wp2
                      refine xtIn_region rfl hm (by kernel_rfl) ?_
                      repeat (gi_big_quiet_step (fail))
                      refine wpQuietIn_nil ?_
                      intro _ hw'
                      obtain ⟨m, rfl⟩ := hw'
                      have hbm := xt_below wr m
                      generalize wx wr m = w3 at hbm ⊢
                      clear xe0 xd0 xd1
                      replace e0 := qcell e0 hbm
                      replace d0 := qcell d0 hbm
                      replace d1 := qcell d1 hbm
                      have hb3 := hbm
                      have xe0 := xt_cell e0
                      have xd0 := xt_cell d0
                      have xd1 := xt_cell d1
                      gi_wp2
                      refine xtIn_region rfl hm (by kernel_rfl) ?_
                      repeat (gi_big_quiet_step (fail))
                      refine wpQuietIn_nil ?_
                      intro _ hw'
                      obtain ⟨m, rfl⟩ := hw'
                      have hbm := xt_below w3 m
                      generalize wx w3 m = w4 at hbm ⊢
                      clear xe0 xd0 xd1
                      replace e0 := qcell e0 hbm
                      replace d0 := qcell d0 hbm
                      replace d1 := qcell d1 hbm
                      have S4 := Lib.hid ((hS.out.step hb3).step hbm)
                      have hb32 : (out.length + 1) * 32 ≤ 140737488355328 := by omega
                      gi_wp2_with (gi_at_builtin; refine appIn_sep elemP rfl (.tmp 142) (.tmp 147) rfl u12 out rfl (S4.out.alloc _) _ 1 1 [⟨xk, xv⟩] rfl (rd_new PT w4 ⟨xk, xv⟩ _ rfl 28) hb32 ?_; intro v2 W2 S5 hk5)
                      have S6 := Lib.hid S5
                      clear S5 hk5
                      go_roundw
                      case rel => exact ⟨i + 1, k, by omega, by omega, by go_num, rfl, out ++ [(⟨xk, xv⟩ : P)], by simp; omega, S6.out, by show (out ++ [(⟨xk, xv⟩ : P)]) ++ refPatchL (la.drop (i + 1)) (lc.drop k) = _; rw [← hM.out, hd.out]; simp⟩
                      case measure => simp [intOf]; omega
                  · have hd := Lib.hid (rp_gt hx hz hless)
                    have hx2 := Lib.hid hx
                    have hz2 := Lib.hid hz
                    clear hx hz
                    have xe0 := xt_cell e0
                    have xe2 := xt_cell e2
                    have xe4 := xt_cell e4
                    have xd0 := xt_cell d0
                    gi_wp2
                    refine xtIn_region rfl hm (by kernel_rfl) ?_
                    repeat (gi_big_quiet_step (fail))
                    refine wpQuietIn_nil ?_
                    intro _ hw'
                    obtain ⟨m, rfl⟩ := hw'
                    have hbm := xt_below wr m
                    generalize wx wr m = w3 at hbm ⊢
                    clear xe0 xe2 xe4 xd0
                    replace e0 := qcell e0 hbm
                    replace e2 := qcell e2 hbm
                    replace e4 := qcell e4 hbm
                    replace d0 := qcell d0 hbm
                    have S3 := Lib.hid (hS.out.step hbm)
                    have xe0 := xt_cell e0
                    have xe4 := xt_cell e4
                    have hb32 : (out.length + 1) * 32 ≤ 140737488355328 := by omega
                    cases has with
                    | true =>
                      gi_wp2
                      refine made_slice 12 hm (by kernel_rfl) (by kernel_rfl) ?_
                      simp only [List.take_succ_cons, List.take_zero, List.drop_succ_cons, List.drop_zero]
                      repeat (gi_big_quiet_step (fail))
                      refine wpQuietIn_nil ?_
                      refine ⟨_, _, _, _, _, rfl, rfl, rfl, bsP _ _ _, qalloc (qrefl _) _, ?_⟩
                      simp only [Act.put, List.setIfInBounds_toArray, List.set_cons_succ, List.set_cons_zero]
                      gi_wp2_with (gi_at_builtin; refine appIn_sep elemP rfl (.tmp 84) (.tmp 96) rfl u12 out rfl (S3.out.drew.alloc _) _ 1 1 [⟨zk, new⟩] rfl (rd_new PT w3.drew ⟨zk, new⟩ _ rfl 28) hb32 ?_; intro v2 W2 S5 hk5)
                      have S6 := Lib.hid S5
                      clear S5 hk5 xe0 xe4
                      go_roundw
                      case rel => exact ⟨k + 1, by omega, by go_num, out ++ [(⟨zk, new⟩ : P)], by simp; omega, S6.out, by show (out ++ [(⟨zk, new⟩ : P)]) ++ refPatchL (la.drop _) (lc.drop (k + 1)) = _; rw [← hM.out, hd.out]; simp [putC]⟩
                      case measure => simp [intOf]; omega
                    | false =>
                      clear xe0 xe4
                      gi_wp2
                      go_roundw
                      case rel => exact ⟨k + 1, by omega, by go_num, out, by omega, S3.out, by show out ++ refPatchL (la.drop _) (lc.drop (k + 1)) = _; rw [← hM.out, hd.out]; simp [putC]⟩
                      case measure => simp [intOf]; omega
                · have hd := Lib.hid (rp_right (la := la) (i := i) (by omega) hz)
                  obtain rfl : i = la.length := by omega
                  have hz2 := Lib.hid hz
                  clear hz
                  have xe0 := xt_cell e0
                  have xe2 := xt_cell e2
                  have xe4 := xt_cell e4
                  gi_wp2
                  refine xtIn_region rfl hm (by kernel_rfl) ?_
                  repeat (gi_big_quiet_step (fail))
                  refine wpQuietIn_nil ?_
                  intro _ hw'
                  obtain ⟨m, rfl⟩ := hw'
                  have hbm := xt_below wr m
                  generalize wx wr m = w3 at hbm ⊢
                  clear xe0 xe2 xe4
                  replace e0 := qcell e0 hbm
                  replace e2 := qcell e2 hbm
                  replace e4 := qcell e4 hbm
                  have S3 := Lib.hid (hS.out.step hbm)
                  have xe0 := xt_cell e0
                  have xe4 := xt_cell e4
                  have hb32 : (out.length + 1) * 32 ≤ 140737488355328 := by omega
                  cases has with
                  | true =>
                    gi_wp2
                    refine made_slice 12 hm (by kernel_rfl) (by kernel_rfl) ?_
                    simp only [List.take_succ_cons, List.take_zero, List.drop_succ_cons, List.drop_zero]
                    repeat (gi_big_quiet_step (fail))
                    refine wpQuietIn_nil ?_
                    refine ⟨_, _, _, _, _, rfl, rfl, rfl, bsP _ _ _, qalloc (qrefl _) _, ?_⟩
                    simp only [Act.put, List.setIfInBounds_toArray, List.set_cons_succ, List.set_cons_zero]
                    gi_wp2_with (gi_at_builtin; refine appIn_sep elemP rfl (.tmp 84) (.tmp 96) rfl u12 out rfl (S3.out.drew.alloc _) _ 1 1 [⟨zk, new⟩] rfl (rd_new PT w3.drew ⟨zk, new⟩ _ rfl 28) hb32 ?_; intro v2 W2 S5 hk5)
                    have S6 := Lib.hid S5
                    clear S5 hk5 xe0 xe4
                    go_roundw
                    case rel => exact ⟨k + 1, by omega, by go_num, out ++ [(⟨zk, new⟩ : P)], by simp; omega, S6.out, by show (out ++ [(⟨zk, new⟩ : P)]) ++ refPatchL (la.drop _) (lc.drop (k + 1)) = _; rw [← hM.out, hd.out]; simp [putC]⟩
                    case measure => simp [intOf]; omega
                  | false =>
                    clear xe0 xe4
                    gi_wp2
                    go_roundw
                    case rel => exact ⟨k + 1, by omega, by go_num, out, by omega, S3.out, by show out ++ refPatchL (la.drop _) (lc.drop (k + 1)) = _; rw [← hM.out, hd.out]; simp [putC]⟩
                    case measure => simp [intOf]; omega
              · by_cases hiN : i < la.length
                · obtain ⟨b, o, x, hae, hx, d0, d1⟩ := rdP (H1.out.below hS.out.below) hiN
                  subst hae
                  obtain ⟨xk, xv⟩ := x
                  dsimp only at d0 d1
                  have hin : ((i : Int) == (la.length : Int)) = false := by simp; omega
                  have hd := Lib.hid (rp_left (lc := lc) (k := k) hx (by omega))
                  have hx2 := Lib.hid hx
                  clear hx
                  have xd0 := xt_cell d0
                  have xd1 := xt_cell d1
                  gi_wp2
                  refine xtIn_region rfl hm (by kernel_rfl) ?_
                  repeat (gi_big_quiet_step (fail))
                  refine wpQuietIn_nil ?_
                  intro _ hw'
                  obtain ⟨m, rfl⟩ := hw'
                  have hbm := xt_below wr m
                  generalize wx wr m = w3 at hbm ⊢
                  clear xd0 xd1
                  replace d0 := qcell d0 hbm
                  replace d1 := qcell d1 hbm
                  have hb3 := hbm
                  have xd0 := xt_cell d0
                  have xd1 := xt_cell d1
                  gi_wp2
                  refine xtIn_region rfl hm (by kernel_rfl) ?_
                  repeat (gi_big_quiet_step (fail))
                  refine wpQuietIn_nil ?_
                  intro _ hw'
                  obtain ⟨m, rfl⟩ := hw'
                  have hbm := xt_below w3 m
                  generalize wx w3 m = w4 at hbm ⊢
                  clear xd0 xd1
                  replace d0 := qcell d0 hbm
                  replace d1 := qcell d1 hbm
                  have S4 := Lib.hid ((hS.out.step hb3).step hbm)
                  have hb32 : (out.length + 1) * 32 ≤ 140737488355328 := by omega
                  gi_wp2_with (gi_at_builtin; refine appIn_sep elemP rfl (.tmp 142) (.tmp 147) rfl u12 out rfl (S4.out.alloc _) _ 1 1 [⟨xk, xv⟩] rfl (rd_new PT w4 ⟨xk, xv⟩ _ rfl 28) hb32 ?_; intro v2 W2 S5 hk5)
                  have S6 := Lib.hid S5
                  clear S5 hk5
                  go_roundw
                  case rel => exact ⟨i + 1, k, by omega, by omega, by go_num, rfl, out ++ [(⟨xk, xv⟩ : P)], by simp; omega, S6.out, by show (out ++ [(⟨xk, xv⟩ : P)]) ++ refPatchL (la.drop (i + 1)) (lc.drop k) = _; rw [← hM.out, hd.out]; simp⟩
                  case measure => simp [intOf]; omega
                · obtain rfl : i = la.length := by omega
                  have hfin := hM.out
                  rw [rp_end (Nat.le_refl _) (by omega), List.append_nil] at hfin
                  have hfin2 := Lib.hid hfin
                  clear hfin
                  gi_wp2
                  refine xtIn_region rfl hm (by kernel_rfl) ?_
                  repeat (gi_big_quiet_step (fail))
                  refine wpQuietIn_nil ?_
                  intro _ hw'
                  obtain ⟨m, rfl⟩ := hw'
                  have hbm := xt_below wr m
                  generalize wx wr m = w3 at hbm ⊢
                  have S3 := Lib.hid (hS.out.step hbm)
                  gi_wp2
                  refine bodyPost_ret (v := .tuple #[u12, .int .i64 0]) (by simp [results, Tryd.results22, go_sem]) rfl ⟨u12, ?_, ?_⟩
                  · rw [hok.out]; rfl
                  · rw [hok.out, ← hfin2.out]; exact S3.out
    · have hans := Lib.hid (answer_order (f := patchOne) (ka := P.k) (kb := C.k) (a := la) (b := lc) (fun h => hR2 h.2))
      gi_wp2_with (first | (gi_at_call 82; refine ((callsIn_wide.2 (refRisesP_yes a1 c1 la _ H1.out hR1))).mono ?_; rintro e w1 ⟨rfl, hw1⟩) | (gi_at_call 83; refine ((callsIn_wide.2 (refRisesC_no a2 c2 lc _ (H2.out.below hw1) hR2))).mono ?_; rintro e w2 ⟨rfl, hw2⟩))
      refine bodyPost_ret (v := .tuple #[.slice none 0 0, .int .i64 12]) (by simp [results, Tryd.results22, go_sem]) rfl ⟨.slice none 0 0, ?_, ?_⟩
      · rw [show patchL la lc = _ from hans.out]; rfl
      · rw [show patchL la lc = _ from hans.out]; exact (((Sep.nil w).step hw1).step hw2).none_ PT
  · have hans := Lib.hid (answer_order (f := patchOne) (ka := P.k) (kb := C.k) (a := la) (b := lc) (fun h => hR1 h.1))
    by_cases hR2 : Rises (lc.map C.k)
    · gi_wp2_with (first | (gi_at_call 82; refine ((callsIn_wide.2 (refRisesP_no a1 c1 la _ H1.out hR1))).mono ?_; rintro e w1 ⟨rfl, hw1⟩) | (gi_at_call 83; refine ((callsIn_wide.2 (refRisesC_yes a2 c2 lc _ (H2.out.below hw1) hR2))).mono ?_; rintro e w2 ⟨rfl, hw2⟩))
      refine bodyPost_ret (v := .tuple #[.slice none 0 0, .int .i64 12]) (by simp [results, Tryd.results22, go_sem]) rfl ⟨.slice none 0 0, ?_, ?_⟩
      · rw [show patchL la lc = _ from hans.out]; rfl
      · rw [show patchL la lc = _ from hans.out]; exact (((Sep.nil w).step hw1).step hw2).none_ PT
    · gi_wp2_with (first | (gi_at_call 82; refine ((callsIn_wide.2 (refRisesP_no a1 c1 la _ H1.out hR1))).mono ?_; rintro e w1 ⟨rfl, hw1⟩) | (gi_at_call 83; refine ((callsIn_wide.2 (refRisesC_no a2 c2 lc _ (H2.out.below hw1) hR2))).mono ?_; rintro e w2 ⟨rfl, hw2⟩))
      refine bodyPost_ret (v := .tuple #[.slice none 0 0, .int .i64 12]) (by simp [results, Tryd.results22, go_sem]) rfl ⟨.slice none 0 0, ?_, ?_⟩
      · rw [show patchL la lc = _ from hans.out]; rfl
      · rw [show patchL la lc = _ from hans.out]; exact (((Sep.nil w).step hw1).step hw2).none_ PT
end Go.Proofs.YtdkailccfcijiaaDoor
