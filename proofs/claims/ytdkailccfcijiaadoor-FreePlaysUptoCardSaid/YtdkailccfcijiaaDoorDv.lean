/- The document's own Compose, walked. Conditions: the lengths. -/
import Derived.Test.YtdkailccfcijiaaDoorDr
namespace Go.Proofs.YtdkailccfcijiaaDoor
open Go.RowKit Go.Shelf
set_option linter.unusedVariables false
set_option linter.unusedSimpArgs false
set_option maxRecDepth 100000
attribute [local simp] wide_fn wide_fn_round
attribute [local go_sem] wide_fn wide_fn_round

theorem undef_noC {b : Bool} (h : some undef = some (Value.bool b)) : False := by cases h
theorem idle2_of (c : C) (b : Bool) (h : c.idle = b) (w : World) : Calls Tryd.prog 90 #[.agg #[.string c.k, .bool c.had, .bool c.has, .string c.old, .string c.new]] w fun e w' => e = .returned (.bool b) ∧ Below w.heap.size w w' := h ▸ idle2 c w
def allOne : Option C → Option C → Option (List C)
  | some x, none => some [x]
  | none, some y => some [y]
  | none, none => some []
  | some x, some y => if x.has == y.had then if x.new.toList == y.old.toList then some [⟨x.k, x.had, y.has, x.old, y.new⟩] else none else none
theorem compose_all (p : Option C × Option C) : composeOne p.1 p.2 = (allOne p.1 p.2).map fun l => l.flatMap keepC := by
  obtain ⟨x, y⟩ := p
  cases x with
  | none => cases y <;> simp [composeOne, allOne]
  | some x =>
    cases y with
    | none => simp [composeOne, allOne]
    | some y =>
      simp only [composeOne, allOne]
      split
      · split <;> simp
      · rfl
theorem runAll_all2 (l : List (Option C × Option C)) : runAll composeOne l = (runAll allOne l).map fun l => l.flatMap keepC := by
  induction l with
  | nil => rfl
  | cons p l ih =>
    simp only [runAll, compose_all, ih]
    cases allOne p.1 p.2 with
    | none => rfl
    | some r => cases runAll allOne l <;> simp
theorem compose_ok {la lb : List C} (h1 : Rises (la.map C.k)) (h2 : Rises (lb.map C.k)) {l : List C} (h : runAll allOne (sidesL C.k C.k la lb) = some l) : composeL la lb = (l.flatMap keepC, none) :=
  answer_ok ⟨h1, h2⟩ (by rw [runAll_all2, h]; rfl)
theorem compose_lost {la lb : List C} (h1 : Rises (la.map C.k)) (h2 : Rises (lb.map C.k)) (h : runAll allOne (sidesL C.k C.k la lb) = none) : composeL la lb = ([], some 1) :=
  answer_lost ⟨h1, h2⟩ (by rw [runAll_all2, h]; rfl)
theorem map_app {α : Type} (o : Option (List α)) (l r : List α) : (o.map fun s => r ++ s).map (fun s => l ++ s) = o.map fun s => (l ++ r) ++ s := by
  cases o <;> simp
section
variable {la lb : List C} {i k : Nat} {x z : C}
abbrev rsC (la lb : List C) (i k : Nat) : Option (List C) := runAll allOne (sidesL C.k C.k (la.drop i) (lb.drop k))
theorem rt_of {p : Option C × Option C} {t r : List (Option C × Option C)} {y : C} (h : sidesL C.k C.k (la.drop i) (lb.drop k) = p :: t) (hp : allOne p.1 p.2 = some [y]) : rsC la lb i k = (runAll allOne t).map fun s => [y] ++ s := by
  unfold rsC
  rw [h]
  simp only [runAll, hp]
theorem rt_left (hx : la[i]? = some x) (hk : lb.length ≤ k) : rsC la lb i k = (rsC la lb (i + 1) k).map fun s => [x] ++ s := rt_of (r := []) (sides_left hx hk) rfl
theorem rt_right (hi : la.length ≤ i) (hz : lb[k]? = some z) : rsC la lb i k = (rsC la lb i (k + 1)).map fun s => [z] ++ s := rt_of (r := []) (sides_right hi hz) rfl
theorem rt_lt (hx : la[i]? = some x) (hz : lb[k]? = some z) (h : Op.bytesLess x.k.toList z.k.toList = true) : rsC la lb i k = (rsC la lb (i + 1) k).map fun s => [x] ++ s := rt_of (r := []) (sides_lt hx hz h) rfl
theorem rt_gt (hx : la[i]? = some x) (hz : lb[k]? = some z) (h : Op.bytesLess z.k.toList x.k.toList = true) : rsC la lb i k = (rsC la lb i (k + 1)).map fun s => [z] ++ s := rt_of (r := []) (sides_gt hx hz h) rfl
theorem rt_both (hx : la[i]? = some x) (hz : lb[k]? = some z) (h1 : Op.bytesLess x.k.toList z.k.toList = false) (h2 : Op.bytesLess z.k.toList x.k.toList = false) (h3 : (x.has == z.had) = true) (h4 : (x.new.toList == z.old.toList) = true) :
    rsC la lb i k = (rsC la lb (i + 1) (k + 1)).map fun s => [⟨x.k, x.had, z.has, x.old, z.new⟩] ++ s := rt_of (r := []) (sides_eq hx hz h1 h2) (by simp only [allOne, h3, h4, if_true])
theorem rt_lost1 (hx : la[i]? = some x) (hz : lb[k]? = some z) (h1 : Op.bytesLess x.k.toList z.k.toList = false) (h2 : Op.bytesLess z.k.toList x.k.toList = false) (h3 : (x.has == z.had) = false) : rsC la lb i k = none := by
  unfold rsC
  rw [sides_eq hx hz h1 h2]
  simp only [runAll, allOne, h3, Bool.false_eq_true, if_false]
theorem rt_lost2 (hx : la[i]? = some x) (hz : lb[k]? = some z) (h1 : Op.bytesLess x.k.toList z.k.toList = false) (h2 : Op.bytesLess z.k.toList x.k.toList = false) (h3 : (x.has == z.had) = true) (h4 : (x.new.toList == z.old.toList) = false) : rsC la lb i k = none := by
  unfold rsC
  rw [sides_eq hx hz h1 h2]
  simp only [runAll, allOne, h3, h4, if_true, Bool.false_eq_true, if_false]
theorem rt_end (hi : la.length ≤ i) (hk : lb.length ≤ k) : rsC la lb i k = some [] := by
  unfold rsC
  rw [sides_end hi hk]
  rfl
end

set_option maxHeartbeats 8000000 in
theorem refCompose (a1 a2 : Option Addr) (c1 c2 : Nat) (la lb : List C) (w : World) (h1 : Rd CT w a1 la.length la) (h2 : Rd CT w a2 lb.length lb) (hlen : la.length + lb.length ≤ 4194304) :
    Calls Tryd.prog 36 #[.slice a1 la.length c1, .slice a2 lb.length c2] w fun e w' => ∃ v, e = .returned (.tuple #[v, .int .i64 (numOf (composeL la lb).2)]) ∧ Sep w w' [row CT v (composeL la lb).1] := by
  refine (callsIn_wide (n := 3)).1 ?_
  have H1 := Lib.hid h1
  have H2 := Lib.hid h2
  clear h1 h2
  have hm : Tryd.prog.follows .mixedOrders = true := by kernel_rfl
  have t1 : True := trivial
  have t2 : True := trivial
  refine callsIn_of_wp Tryd.func36 rfl trivial ?_ rfl
  simp only [Tryd.ntmps36, List.size_toArray, List.length_cons, List.length_nil, Nat.reduceAdd, Nat.reduceSub, Array.replicate_succ, Array.replicate_zero, List.push_toArray, List.append_toArray, List.nil_append, List.cons_append]
  by_cases hR1 : Rises (la.map C.k)
  · by_cases hR2 : Rises (lb.map C.k)
    · gi_wp2_with (first | (gi_at_call 83; clear t1; refine ((callsIn_wide.2 (refRisesC_yes a1 c1 la _ H1.out hR1))).mono ?_; rintro e w1 ⟨rfl, hw1⟩) | (gi_at_call 83; clear t2; refine ((callsIn_wide.2 (refRisesC_yes a2 c2 lb _ (H2.out.below hw1) hR2))).mono ?_; rintro e w2 ⟨rfl, hw2⟩))
      have SB := Lib.hid ((((Sep.nil w).step hw1).step hw2).none_ CT)
      have hR := Lib.hid (And.intro hR1 hR2)
      clear hw1 hw2 hR1 hR2
      gi_loopw [8, 9, 10, 11] (fun v t9 t10 t11 wr => ∃ i k n : Nat, i ≤ la.length ∧ k ≤ lb.length ∧ n ≤ i + k ∧ t9 = .int .i64 i ∧ t10 = .int .i64 k ∧ t11 = .int .i64 n ∧ ∃ out : List C, out.length ≤ i + k ∧ Hid (Sep w wr [row CT v out]) ∧ Hid (runAll allOne (sidesL C.k C.k la lb) = (rsC la lb i k).map fun s => out ++ s)) (fun _ t9 t10 _ _ => (la.length + lb.length) - ((intOf t9).toNat + (intOf t10).toNat))
      case atStart => exact ⟨0, 0, 0, Nat.zero_le _, Nat.zero_le _, Nat.le_refl _, rfl, rfl, rfl, [], Nat.le_refl _, SB.out, Lib.hid (by simp [rsC])⟩
      case round =>
        obtain ⟨i, k, n, hi, hk, hn, rfl, rfl, rfl, out, hol, hS, hM⟩ := hrel
        by_cases hiN : i < la.length
        · obtain ⟨b, o, x, hae, hx, d0, d1, d2, d3, d4⟩ := rdC (H1.out.below hS.out.below) hiN
          subst hae
          obtain ⟨xk, xhad, xhas, xold, xnew⟩ := x
          dsimp only at d0 d1 d2 d3 d4
          by_cases hkN : k < lb.length
          · obtain ⟨b2, o2, z, hae, hz, e0, e1, e2, e3, e4⟩ := rdC (H2.out.below hS.out.below) hkN
            subst hae
            obtain ⟨zk, zhad, zhas, zold, znew⟩ := z
            dsimp only at e0 e1 e2 e3 e4
            have hb56 : (out.length + 1) * 56 ≤ 140737488355328 := by omega
            cases hless : Op.bytesLess xk.toList zk.toList
            · cases hless2 : Op.bytesLess zk.toList xk.toList
              · obtain rfl : xk = zk := lessK_eq hless hless2
                cases hv : (xhas == zhad)
                · have hd := Lib.hid (rt_lost1 hx hz hless hless2 hv)
                  have hV := Lib.hid hv
                  have hx2 := Lib.hid hx
                  have hz2 := Lib.hid hz
                  clear hx hz
                  have hi1 : decide (i < la.length) = true := by simp; omega
                  have hi2 : decide (la.length ≤ i) = false := by simp; omega
                  have hk1 : decide (k < lb.length) = true := by simp; omega
                  have hk2 : decide (lb.length ≤ k) = false := by simp; omega
                  have hb1 : (zhad == xhas) = false := by rw [Bool.beq_comm]; exact hV.out
                  have xd0 := xt_cell d0
                  have xd1 := xt_cell d1
                  have xd2 := xt_cell d2
                  have xd3 := xt_cell d3
                  have xd4 := xt_cell d4
                  have xe0 := xt_cell e0
                  have xe1 := xt_cell e1
                  have xe2 := xt_cell e2
                  have xe3 := xt_cell e3
                  have xe4 := xt_cell e4
                  gi_wp2
                  refine xtIn_region rfl hm (by kernel_rfl) ?_
                  repeat (gi_big_quiet_step (fail))
                  refine wpQuietIn_nil ?_
                  intro _ hw'
                  obtain ⟨m, rfl⟩ := hw'
                  have hbm := xt_below wr m
                  generalize wx wr m = w3 at hbm ⊢
                  clear xd0 xd1 xd2 xd3 xd4 xe0 xe1 xe2 xe3 xe4
                  replace d0 := qcell d0 hbm
                  replace d1 := qcell d1 hbm
                  replace d2 := qcell d2 hbm
                  replace d3 := qcell d3 hbm
                  replace d4 := qcell d4 hbm
                  replace e0 := qcell e0 hbm
                  replace e1 := qcell e1 hbm
                  replace e2 := qcell e2 hbm
                  replace e3 := qcell e3 hbm
                  replace e4 := qcell e4 hbm
                  replace hS := Lib.hid (hS.out.step hbm)
                  clear hbm
                  have xd0 := xt_cell d0
                  have xd1 := xt_cell d1
                  have xd2 := xt_cell d2
                  have xd3 := xt_cell d3
                  have xd4 := xt_cell d4
                  have xe0 := xt_cell e0
                  have xe1 := xt_cell e1
                  have xe2 := xt_cell e2
                  have xe3 := xt_cell e3
                  have xe4 := xt_cell e4
                  gi_wp2
                  refine xtIn_region rfl hm (by kernel_rfl) ?_
                  repeat (gi_big_quiet_step (fail))
                  refine wpQuietIn_nil ?_
                  intro _ hw'
                  obtain ⟨m, rfl⟩ := hw'
                  have hbm := xt_below w3 m
                  generalize wx w3 m = w4 at hbm ⊢
                  clear xd0 xd1 xd2 xd3 xd4 xe0 xe1 xe2 xe3 xe4
                  replace d0 := qcell d0 hbm
                  replace d1 := qcell d1 hbm
                  replace d2 := qcell d2 hbm
                  replace d3 := qcell d3 hbm
                  replace d4 := qcell d4 hbm
                  replace e0 := qcell e0 hbm
                  replace e1 := qcell e1 hbm
                  replace e2 := qcell e2 hbm
                  replace e3 := qcell e3 hbm
                  replace e4 := qcell e4 hbm
                  replace hS := Lib.hid (hS.out.step hbm)
                  clear hbm
                  have xd0 := xt_cell d0
                  have xd1 := xt_cell d1
                  have xd2 := xt_cell d2
                  have xd3 := xt_cell d3
                  have xd4 := xt_cell d4
                  have xe0 := xt_cell e0
                  have xe1 := xt_cell e1
                  have xe2 := xt_cell e2
                  have xe3 := xt_cell e3
                  have xe4 := xt_cell e4
                  gi_wp2
                  refine xtIn_region rfl hm (by kernel_rfl) ?_
                  repeat (gi_big_quiet_step (fail))
                  refine wpQuietIn_nil ?_
                  intro _ hw'
                  obtain ⟨m, rfl⟩ := hw'
                  have hbm := xt_below w4 m
                  generalize wx w4 m = w5 at hbm ⊢
                  clear xd0 xd1 xd2 xd3 xd4 xe0 xe1 xe2 xe3 xe4
                  replace d0 := qcell d0 hbm
                  replace d1 := qcell d1 hbm
                  replace d2 := qcell d2 hbm
                  replace d3 := qcell d3 hbm
                  replace d4 := qcell d4 hbm
                  replace e0 := qcell e0 hbm
                  replace e1 := qcell e1 hbm
                  replace e2 := qcell e2 hbm
                  replace e3 := qcell e3 hbm
                  replace e4 := qcell e4 hbm
                  replace hS := Lib.hid (hS.out.step hbm)
                  clear hbm
                  have hno := Lib.hid (compose_lost hR.out.1 hR.out.2 (by rw [hM.out, hd.out]; rfl))
                  gi_wp2
                  refine bodyPost_ret (v := .tuple #[.slice none 0 0, .int .i64 6]) (by simp [results, Tryd.results36, go_sem]) rfl ⟨.slice none 0 0, ?_, ?_⟩
                  · rw [hno.out]; rfl
                  · rw [hno.out]; exact hS.out.tl.none_ CT
                · cases hv2 : (xnew.toList == zold.toList)
                  · have hd := Lib.hid (rt_lost2 hx hz hless hless2 hv hv2)
                    have hV := Lib.hid hv
                    have hV2 : (zold.toList == xnew.toList) = false := by rw [Bool.beq_comm]; exact hv2
                    have hx2 := Lib.hid hx
                    have hz2 := Lib.hid hz
                    clear hx hz
                    have hi1 : decide (i < la.length) = true := by simp; omega
                    have hi2 : decide (la.length ≤ i) = false := by simp; omega
                    have hk1 : decide (k < lb.length) = true := by simp; omega
                    have hk2 : decide (lb.length ≤ k) = false := by simp; omega
                    have hb1 : (zhad == xhas) = true := by rw [Bool.beq_comm]; exact hV.out
                    have xd0 := xt_cell d0
                    have xd1 := xt_cell d1
                    have xd2 := xt_cell d2
                    have xd3 := xt_cell d3
                    have xd4 := xt_cell d4
                    have xe0 := xt_cell e0
                    have xe1 := xt_cell e1
                    have xe2 := xt_cell e2
                    have xe3 := xt_cell e3
                    have xe4 := xt_cell e4
                    gi_wp2
                    refine xtIn_region rfl hm (by kernel_rfl) ?_
                    repeat (gi_big_quiet_step (fail))
                    refine wpQuietIn_nil ?_
                    intro _ hw'
                    obtain ⟨m, rfl⟩ := hw'
                    have hbm := xt_below wr m
                    generalize wx wr m = w3 at hbm ⊢
                    clear xd0 xd1 xd2 xd3 xd4 xe0 xe1 xe2 xe3 xe4
                    replace d0 := qcell d0 hbm
                    replace d1 := qcell d1 hbm
                    replace d2 := qcell d2 hbm
                    replace d3 := qcell d3 hbm
                    replace d4 := qcell d4 hbm
                    replace e0 := qcell e0 hbm
                    replace e1 := qcell e1 hbm
                    replace e2 := qcell e2 hbm
                    replace e3 := qcell e3 hbm
                    replace e4 := qcell e4 hbm
                    replace hS := Lib.hid (hS.out.step hbm)
                    clear hbm
                    have xd0 := xt_cell d0
                    have xd1 := xt_cell d1
                    have xd2 := xt_cell d2
                    have xd3 := xt_cell d3
                    have xd4 := xt_cell d4
                    have xe0 := xt_cell e0
                    have xe1 := xt_cell e1
                    have xe2 := xt_cell e2
                    have xe3 := xt_cell e3
                    have xe4 := xt_cell e4
                    gi_wp2
                    refine xtIn_region rfl hm (by kernel_rfl) ?_
                    repeat (gi_big_quiet_step (fail))
                    refine wpQuietIn_nil ?_
                    intro _ hw'
                    obtain ⟨m, rfl⟩ := hw'
                    have hbm := xt_below w3 m
                    generalize wx w3 m = w4 at hbm ⊢
                    clear xd0 xd1 xd2 xd3 xd4 xe0 xe1 xe2 xe3 xe4
                    replace d0 := qcell d0 hbm
                    replace d1 := qcell d1 hbm
                    replace d2 := qcell d2 hbm
                    replace d3 := qcell d3 hbm
                    replace d4 := qcell d4 hbm
                    replace e0 := qcell e0 hbm
                    replace e1 := qcell e1 hbm
                    replace e2 := qcell e2 hbm
                    replace e3 := qcell e3 hbm
                    replace e4 := qcell e4 hbm
                    replace hS := Lib.hid (hS.out.step hbm)
                    clear hbm
                    have xd0 := xt_cell d0
                    have xd1 := xt_cell d1
                    have xd2 := xt_cell d2
                    have xd3 := xt_cell d3
                    have xd4 := xt_cell d4
                    have xe0 := xt_cell e0
                    have xe1 := xt_cell e1
                    have xe2 := xt_cell e2
                    have xe3 := xt_cell e3
                    have xe4 := xt_cell e4
                    gi_wp2
                    refine xtIn_region rfl hm (by kernel_rfl) ?_
                    repeat (gi_big_quiet_step (fail))
                    refine wpQuietIn_nil ?_
                    intro _ hw'
                    obtain ⟨m, rfl⟩ := hw'
                    have hbm := xt_below w4 m
                    generalize wx w4 m = w5 at hbm ⊢
                    clear xd0 xd1 xd2 xd3 xd4 xe0 xe1 xe2 xe3 xe4
                    replace d0 := qcell d0 hbm
                    replace d1 := qcell d1 hbm
                    replace d2 := qcell d2 hbm
                    replace d3 := qcell d3 hbm
                    replace d4 := qcell d4 hbm
                    replace e0 := qcell e0 hbm
                    replace e1 := qcell e1 hbm
                    replace e2 := qcell e2 hbm
                    replace e3 := qcell e3 hbm
                    replace e4 := qcell e4 hbm
                    replace hS := Lib.hid (hS.out.step hbm)
                    clear hbm
                    have hno := Lib.hid (compose_lost hR.out.1 hR.out.2 (by rw [hM.out, hd.out]; rfl))
                    gi_wp2
                    refine bodyPost_ret (v := .tuple #[.slice none 0 0, .int .i64 6]) (by simp [results, Tryd.results36, go_sem]) rfl ⟨.slice none 0 0, ?_, ?_⟩
                    · rw [hno.out]; rfl
                    · rw [hno.out]; exact hS.out.tl.none_ CT
                  · have hd := Lib.hid (rt_both hx hz hless hless2 hv hv2)
                    have hV := Lib.hid hv
                    have hV2 : (zold.toList == xnew.toList) = true := by rw [Bool.beq_comm]; exact hv2
                    have hx2 := Lib.hid hx
                    have hz2 := Lib.hid hz
                    clear hx hz
                    have hi1 : decide (i < la.length) = true := by simp; omega
                    have hi2 : decide (la.length ≤ i) = false := by simp; omega
                    have hk1 : decide (k < lb.length) = true := by simp; omega
                    have hk2 : decide (lb.length ≤ k) = false := by simp; omega
                    have hb1 : (zhad == xhas) = true := by rw [Bool.beq_comm]; exact hV.out
                    have xd0 := xt_cell d0
                    have xd1 := xt_cell d1
                    have xd2 := xt_cell d2
                    have xd3 := xt_cell d3
                    have xd4 := xt_cell d4
                    have xe0 := xt_cell e0
                    have xe1 := xt_cell e1
                    have xe2 := xt_cell e2
                    have xe3 := xt_cell e3
                    have xe4 := xt_cell e4
                    gi_wp2
                    refine xtIn_region rfl hm (by kernel_rfl) ?_
                    repeat (gi_big_quiet_step (fail))
                    refine wpQuietIn_nil ?_
                    intro _ hw'
                    obtain ⟨m, rfl⟩ := hw'
                    have hbm := xt_below wr m
                    generalize wx wr m = w3 at hbm ⊢
                    clear xd0 xd1 xd2 xd3 xd4 xe0 xe1 xe2 xe3 xe4
                    replace d0 := qcell d0 hbm
                    replace d1 := qcell d1 hbm
                    replace d2 := qcell d2 hbm
                    replace d3 := qcell d3 hbm
                    replace d4 := qcell d4 hbm
                    replace e0 := qcell e0 hbm
                    replace e1 := qcell e1 hbm
                    replace e2 := qcell e2 hbm
                    replace e3 := qcell e3 hbm
                    replace e4 := qcell e4 hbm
                    replace hS := Lib.hid (hS.out.step hbm)
                    clear hbm
                    have xd0 := xt_cell d0
                    have xd1 := xt_cell d1
                    have xd2 := xt_cell d2
                    have xd3 := xt_cell d3
                    have xd4 := xt_cell d4
                    have xe0 := xt_cell e0
                    have xe1 := xt_cell e1
                    have xe2 := xt_cell e2
                    have xe3 := xt_cell e3
                    have xe4 := xt_cell e4
                    gi_wp2
                    refine xtIn_region rfl hm (by kernel_rfl) ?_
                    repeat (gi_big_quiet_step (fail))
                    refine wpQuietIn_nil ?_
                    intro _ hw'
                    obtain ⟨m, rfl⟩ := hw'
                    have hbm := xt_below w3 m
                    generalize wx w3 m = w4 at hbm ⊢
                    clear xd0 xd1 xd2 xd3 xd4 xe0 xe1 xe2 xe3 xe4
                    replace d0 := qcell d0 hbm
                    replace d1 := qcell d1 hbm
                    replace d2 := qcell d2 hbm
                    replace d3 := qcell d3 hbm
                    replace d4 := qcell d4 hbm
                    replace e0 := qcell e0 hbm
                    replace e1 := qcell e1 hbm
                    replace e2 := qcell e2 hbm
                    replace e3 := qcell e3 hbm
                    replace e4 := qcell e4 hbm
                    replace hS := Lib.hid (hS.out.step hbm)
                    clear hbm
                    have xd0 := xt_cell d0
                    have xd1 := xt_cell d1
                    have xd2 := xt_cell d2
                    have xd3 := xt_cell d3
                    have xd4 := xt_cell d4
                    have xe0 := xt_cell e0
                    have xe1 := xt_cell e1
                    have xe2 := xt_cell e2
                    have xe3 := xt_cell e3
                    have xe4 := xt_cell e4
                    gi_wp2
                    refine xtIn_region rfl hm (by kernel_rfl) ?_
                    repeat (gi_big_quiet_step (fail))
                    refine wpQuietIn_nil ?_
                    intro _ hw'
                    obtain ⟨m, rfl⟩ := hw'
                    have hbm := xt_below w4 m
                    generalize wx w4 m = w5 at hbm ⊢
                    clear xd0 xd1 xd2 xd3 xd4 xe0 xe1 xe2 xe3 xe4
                    replace d0 := qcell d0 hbm
                    replace d1 := qcell d1 hbm
                    replace d2 := qcell d2 hbm
                    replace d3 := qcell d3 hbm
                    replace d4 := qcell d4 hbm
                    replace e0 := qcell e0 hbm
                    replace e1 := qcell e1 hbm
                    replace e2 := qcell e2 hbm
                    replace e3 := qcell e3 hbm
                    replace e4 := qcell e4 hbm
                    replace hS := Lib.hid (hS.out.step hbm)
                    clear hbm
                    have xd0 := xt_cell d0
                    have xd1 := xt_cell d1
                    have xd2 := xt_cell d2
                    have xd3 := xt_cell d3
                    have xd4 := xt_cell d4
                    have xe0 := xt_cell e0
                    have xe1 := xt_cell e1
                    have xe2 := xt_cell e2
                    have xe3 := xt_cell e3
                    have xe4 := xt_cell e4
                    gi_wp2
                    refine made_slice 27 hm (by kernel_rfl) (by kernel_rfl) ?_
                    simp only [List.take_succ_cons, List.take_zero, List.drop_succ_cons, List.drop_zero]
                    repeat (gi_big_quiet_step (fail))
                    refine wpQuietIn_nil ?_
                    refine ⟨_, _, _, _, _, rfl, rfl, rfl, bsC _ _ _ _ _ _, qalloc (qrefl _) _, ?_⟩
                    simp only [Act.put, List.setIfInBounds_toArray, List.set_cons_succ, List.set_cons_zero]
                    gi_wp2_with (gi_at_builtin; refine appIn_sep elemC rfl (.tmp 128) (.tmp 155) rfl u8 out rfl (hS.out.drew.alloc _) _ 1 1 [⟨xk, xhad, zhas, xold, znew⟩] rfl (rd_new CT w5.drew ⟨xk, xhad, zhas, xold, znew⟩ _ rfl 32) hb56 ?_; intro v2 W2 S5 hk5)
                    have S6 := Lib.hid S5
                    clear S5 hk5 xd0 xd1 xd2 xd3 xd4 xe0 xe1 xe2 xe3 xe4
                    go_roundw
                    case rel => exact ⟨i + 1, k + 1, n + 1, by omega, by omega, by omega, by go_num, by go_num, by go_num, out ++ [(⟨xk, xhad, zhas, xold, znew⟩ : C)], by simp; omega, S6.out, by rw [hM.out, hd.out]; exact map_app _ _ _⟩
                    case measure => simp [intOf]; omega
              · have hd := Lib.hid (rt_gt hx hz hless2)
                have hx2 := Lib.hid hx
                have hz2 := Lib.hid hz
                clear hx hz
                have hi1 : decide (i < la.length) = true := by simp; omega
                have hi2 : decide (la.length ≤ i) = false := by simp; omega
                have hk1 : decide (k < lb.length) = true := by simp; omega
                have hk2 : decide (lb.length ≤ k) = false := by simp; omega
                have xd0 := xt_cell d0
                have xe0 := xt_cell e0
                have xe1 := xt_cell e1
                have xe2 := xt_cell e2
                have xe3 := xt_cell e3
                have xe4 := xt_cell e4
                gi_wp2
                refine xtIn_region rfl hm (by kernel_rfl) ?_
                repeat (gi_big_quiet_step (fail))
                refine wpQuietIn_nil ?_
                intro _ hw'
                obtain ⟨m, rfl⟩ := hw'
                have hbm := xt_below wr m
                generalize wx wr m = w3 at hbm ⊢
                clear xd0 xe0 xe1 xe2 xe3 xe4
                replace d0 := qcell d0 hbm
                replace e0 := qcell e0 hbm
                replace e1 := qcell e1 hbm
                replace e2 := qcell e2 hbm
                replace e3 := qcell e3 hbm
                replace e4 := qcell e4 hbm
                replace hS := Lib.hid (hS.out.step hbm)
                clear hbm
                have xd0 := xt_cell d0
                have xe0 := xt_cell e0
                have xe1 := xt_cell e1
                have xe2 := xt_cell e2
                have xe3 := xt_cell e3
                have xe4 := xt_cell e4
                gi_wp2
                refine xtIn_region rfl hm (by kernel_rfl) ?_
                repeat (gi_big_quiet_step (fail))
                refine wpQuietIn_nil ?_
                intro _ hw'
                obtain ⟨m, rfl⟩ := hw'
                have hbm := xt_below w3 m
                generalize wx w3 m = w4 at hbm ⊢
                clear xd0 xe0 xe1 xe2 xe3 xe4
                replace d0 := qcell d0 hbm
                replace e0 := qcell e0 hbm
                replace e1 := qcell e1 hbm
                replace e2 := qcell e2 hbm
                replace e3 := qcell e3 hbm
                replace e4 := qcell e4 hbm
                replace hS := Lib.hid (hS.out.step hbm)
                clear hbm
                gi_wp2_with (gi_at_builtin; refine appIn_sep elemC rfl (.tmp 95) (.tmp 100) rfl u8 out rfl (hS.out.alloc _) _ 1 1 [⟨zk, zhad, zhas, zold, znew⟩] rfl (rd_new CT w4 ⟨zk, zhad, zhas, zold, znew⟩ _ rfl 32) hb56 ?_; intro v2 W2 S5 hk5)
                have S6 := Lib.hid S5
                clear S5 hk5
                go_roundw
                case rel => exact ⟨i, k + 1, n + 1, by omega, by omega, by omega, rfl, by go_num, by go_num, out ++ [(⟨zk, zhad, zhas, zold, znew⟩ : C)], by simp; omega, S6.out, by rw [hM.out, hd.out]; exact map_app _ _ _⟩
                case measure => simp [intOf]; omega
            · have hd := Lib.hid (rt_lt hx hz hless)
              have hx2 := Lib.hid hx
              have hz2 := Lib.hid hz
              clear hx hz
              have hi1 : decide (i < la.length) = true := by simp; omega
              have hi2 : decide (la.length ≤ i) = false := by simp; omega
              have hk1 : decide (k < lb.length) = true := by simp; omega
              have hk2 : decide (lb.length ≤ k) = false := by simp; omega
              have xd0 := xt_cell d0
              have xd1 := xt_cell d1
              have xd2 := xt_cell d2
              have xd3 := xt_cell d3
              have xd4 := xt_cell d4
              have xe0 := xt_cell e0
              gi_wp2
              refine xtIn_region rfl hm (by kernel_rfl) ?_
              repeat (gi_big_quiet_step (fail))
              refine wpQuietIn_nil ?_
              intro _ hw'
              obtain ⟨m, rfl⟩ := hw'
              have hbm := xt_below wr m
              generalize wx wr m = w3 at hbm ⊢
              clear xd0 xd1 xd2 xd3 xd4 xe0
              replace d0 := qcell d0 hbm
              replace d1 := qcell d1 hbm
              replace d2 := qcell d2 hbm
              replace d3 := qcell d3 hbm
              replace d4 := qcell d4 hbm
              replace e0 := qcell e0 hbm
              replace hS := Lib.hid (hS.out.step hbm)
              clear hbm
              gi_wp2_with (gi_at_builtin; refine appIn_sep elemC rfl (.tmp 69) (.tmp 74) rfl u8 out rfl (hS.out.alloc _) _ 1 1 [⟨xk, xhad, xhas, xold, xnew⟩] rfl (rd_new CT w3 ⟨xk, xhad, xhas, xold, xnew⟩ _ rfl 32) hb56 ?_; intro v2 W2 S5 hk5)
              have S6 := Lib.hid S5
              clear S5 hk5
              go_roundw
              case rel => exact ⟨i + 1, k, n + 1, by omega, by omega, by omega, by go_num, rfl, by go_num, out ++ [(⟨xk, xhad, xhas, xold, xnew⟩ : C)], by simp; omega, S6.out, by rw [hM.out, hd.out]; exact map_app _ _ _⟩
              case measure => simp [intOf]; omega
          · have hb56 : (out.length + 1) * 56 ≤ 140737488355328 := by omega
            have hd := Lib.hid (rt_left hx (Nat.le_of_not_lt hkN))
            have hx2 := Lib.hid hx
            clear hx
            have hkN' : lb.length ≤ k := Nat.le_of_not_lt hkN
            have hi1 : decide (i < la.length) = true := by simp; omega
            have hi2 : decide (la.length ≤ i) = false := by simp; omega
            have hk1 : decide (k < lb.length) = false := by simp; omega
            have hk2 : decide (lb.length ≤ k) = true := by simp; omega
            have xd0 := xt_cell d0
            have xd1 := xt_cell d1
            have xd2 := xt_cell d2
            have xd3 := xt_cell d3
            have xd4 := xt_cell d4
            gi_wp2
            refine xtIn_region rfl hm (by kernel_rfl) ?_
            repeat (gi_big_quiet_step (fail))
            refine wpQuietIn_nil ?_
            intro _ hw'
            obtain ⟨m, rfl⟩ := hw'
            have hbm := xt_below wr m
            generalize wx wr m = w3 at hbm ⊢
            clear xd0 xd1 xd2 xd3 xd4
            replace d0 := qcell d0 hbm
            replace d1 := qcell d1 hbm
            replace d2 := qcell d2 hbm
            replace d3 := qcell d3 hbm
            replace d4 := qcell d4 hbm
            replace hS := Lib.hid (hS.out.step hbm)
            clear hbm
            gi_wp2_with (gi_at_builtin; refine appIn_sep elemC rfl (.tmp 69) (.tmp 74) rfl u8 out rfl (hS.out.alloc _) _ 1 1 [⟨xk, xhad, xhas, xold, xnew⟩] rfl (rd_new CT w3 ⟨xk, xhad, xhas, xold, xnew⟩ _ rfl 32) hb56 ?_; intro v2 W2 S5 hk5)
            have S6 := Lib.hid S5
            clear S5 hk5
            go_roundw
            case rel => exact ⟨i + 1, k, n + 1, by omega, by omega, by omega, by go_num, rfl, by go_num, out ++ [(⟨xk, xhad, xhas, xold, xnew⟩ : C)], by simp; omega, S6.out, by rw [hM.out, hd.out]; exact map_app _ _ _⟩
            case measure => simp [intOf]; omega
        · by_cases hkN : k < lb.length
          · obtain ⟨b2, o2, z, hae, hz, e0, e1, e2, e3, e4⟩ := rdC (H2.out.below hS.out.below) hkN
            subst hae
            obtain ⟨zk, zhad, zhas, zold, znew⟩ := z
            dsimp only at e0 e1 e2 e3 e4
            have hb56 : (out.length + 1) * 56 ≤ 140737488355328 := by omega
            have hd := Lib.hid (rt_right (Nat.le_of_not_lt hiN) hz)
            have hz2 := Lib.hid hz
            clear hz
            have hiN' : la.length ≤ i := Nat.le_of_not_lt hiN
            have hi1 : decide (i < la.length) = false := by simp; omega
            have hi2 : decide (la.length ≤ i) = true := by simp; omega
            have hk1 : decide (k < lb.length) = true := by simp; omega
            have hk2 : decide (lb.length ≤ k) = false := by simp; omega
            have xe0 := xt_cell e0
            have xe1 := xt_cell e1
            have xe2 := xt_cell e2
            have xe3 := xt_cell e3
            have xe4 := xt_cell e4
            gi_wp2
            refine xtIn_region rfl hm (by kernel_rfl) ?_
            repeat (gi_big_quiet_step (fail))
            refine wpQuietIn_nil ?_
            intro _ hw'
            obtain ⟨m, rfl⟩ := hw'
            have hbm := xt_below wr m
            generalize wx wr m = w3 at hbm ⊢
            clear xe0 xe1 xe2 xe3 xe4
            replace e0 := qcell e0 hbm
            replace e1 := qcell e1 hbm
            replace e2 := qcell e2 hbm
            replace e3 := qcell e3 hbm
            replace e4 := qcell e4 hbm
            replace hS := Lib.hid (hS.out.step hbm)
            clear hbm
            have xe0 := xt_cell e0
            have xe1 := xt_cell e1
            have xe2 := xt_cell e2
            have xe3 := xt_cell e3
            have xe4 := xt_cell e4
            gi_wp2
            refine xtIn_region rfl hm (by kernel_rfl) ?_
            repeat (gi_big_quiet_step (fail))
            refine wpQuietIn_nil ?_
            intro _ hw'
            obtain ⟨m, rfl⟩ := hw'
            have hbm := xt_below w3 m
            generalize wx w3 m = w4 at hbm ⊢
            clear xe0 xe1 xe2 xe3 xe4
            replace e0 := qcell e0 hbm
            replace e1 := qcell e1 hbm
            replace e2 := qcell e2 hbm
            replace e3 := qcell e3 hbm
            replace e4 := qcell e4 hbm
            replace hS := Lib.hid (hS.out.step hbm)
            clear hbm
            gi_wp2_with (gi_at_builtin; refine appIn_sep elemC rfl (.tmp 95) (.tmp 100) rfl u8 out rfl (hS.out.alloc _) _ 1 1 [⟨zk, zhad, zhas, zold, znew⟩] rfl (rd_new CT w4 ⟨zk, zhad, zhas, zold, znew⟩ _ rfl 32) hb56 ?_; intro v2 W2 S5 hk5)
            have S6 := Lib.hid S5
            clear S5 hk5
            go_roundw
            case rel => exact ⟨i, k + 1, n + 1, by omega, by omega, by omega, rfl, by go_num, by go_num, out ++ [(⟨zk, zhad, zhas, zold, znew⟩ : C)], by simp; omega, S6.out, by rw [hM.out, hd.out]; exact map_app _ _ _⟩
            case measure => simp [intOf]; omega
          · have hd := Lib.hid (rt_end (la := la) (lb := lb) (Nat.le_of_not_lt hiN) (Nat.le_of_not_lt hkN))
            have hiN' : la.length ≤ i := Nat.le_of_not_lt hiN
            have hkN' : lb.length ≤ k := Nat.le_of_not_lt hkN
            have hfin := Lib.hid ((show runAll allOne (sidesL C.k C.k la lb) = some out by rw [hM.out, hd.out]; simp))
            obtain ⟨a8, c8, e8, _, _, _⟩ := Sep.rdv hS.out (.head _)
            subst e8
            have hmx : out.length ≤ 4194304 := by omega
            have S0 := Lib.hid ((Sep.up1 (hS.out.none_ CT)).up1)
            have hi1 : decide (i < la.length) = false := by simp; omega
            have hi2 : decide (la.length ≤ i) = true := by simp; omega
            have hk1 : decide (k < lb.length) = false := by simp; omega
            have hk2 : decide (lb.length ≤ k) = true := by simp; omega
            rcases Nat.lt_or_ge n (la.length + lb.length) with hnN | hnN
            all_goals gi_wp2
            all_goals first | exact (undef_noC (by assumption)).elim | skip
            all_goals
              gi_loopw [12, 13, 14] (fun v t13 _ wr => ∃ n : Nat, n ≤ out.length ∧ t13 = .int .i64 n ∧ ∃ o2 : List C, o2.length ≤ n ∧ Hid (Sep w wr [row CT v o2, row CT (.slice a8 out.length c8) out]) ∧ Hid (o2 ++ (out.drop n).flatMap keepC = out.flatMap keepC)) (fun _ t13 _ _ => out.length - (intOf t13).toNat)
              case atStart => exact ⟨0, Nat.zero_le _, rfl, [], Nat.le_refl _, S0.out, rfl⟩
              case round =>
                obtain ⟨n2, hn2, rfl, o2, ho2, hS2, hM2⟩ := hrel
                by_cases hlt : n2 < out.length
                · obtain ⟨a9, c9, e9, _, _, hrd⟩ := Sep.rdv hS2.out (.tail _ (.head _))
                  cases e9
                  obtain ⟨b, o, x, hae, hx, d0, d1, d2, d3, d4⟩ := rdC hrd hlt
                  subst hae
                  have hdr := Lib.hid (show out.drop n2 = x :: out.drop (n2 + 1) from drop_at hx)
                  have hb56 : (o2.length + 1) * 56 ≤ 140737488355328 := by omega
                  clear hrd hx
                  cases hid1 : x.idle
                  · have hk1 := Lib.hid (show keepC x = [x] by unfold keepC; rw [hid1]; rfl)
                    have HI := Lib.hid (idle2_of x false hid1)
                    clear hid1
                    obtain ⟨xk, xhad, xhas, xold, xnew⟩ := x
                    dsimp only at d0 d1 d2 d3 d4
                    gi_wp2_with (first | (gi_at_call 90; refine (callsIn_wide.2 (HI.out _)).mono ?_; rintro e w4 ⟨rfl, hw4⟩; replace hS2 := Lib.hid (hS2.out.step hw4); have f0 := qcell d0 hw4; have f1 := qcell d1 hw4; have f2 := qcell d2 hw4; have f3 := qcell d3 hw4; have f4 := qcell d4 hw4) | (gi_at_builtin; refine appIn_sep elemC rfl (.tmp 174) (.tmp 179) rfl u12 o2 rfl (hS2.out.alloc _) _ 1 1 [⟨xk, xhad, xhas, xold, xnew⟩] rfl (rd_new CT w4 ⟨xk, xhad, xhas, xold, xnew⟩ _ rfl 32) hb56 ?_; intro v2 W2 S5 hk5))
                    have S6 := Lib.hid S5
                    clear S5 hk5 f0 f1 f2 f3 f4
                    go_roundw
                    case rel => exact ⟨n2 + 1, by omega, by go_num, o2 ++ [(⟨xk, xhad, xhas, xold, xnew⟩ : C)], by simp; omega, S6.out, Lib.hid (by rw [← hM2.out, hdr.out, List.flatMap_cons, hk1.out]; simp)⟩
                    case measure => simp [intOf]; omega
                  · have hk1 := Lib.hid (show keepC x = [] by unfold keepC; rw [hid1]; rfl)
                    have HI := Lib.hid (idle2_of x true hid1)
                    clear hid1
                    obtain ⟨xk, xhad, xhas, xold, xnew⟩ := x
                    dsimp only at d0 d1 d2 d3 d4
                    gi_wp2_with (gi_at_call 90; refine (callsIn_wide.2 (HI.out _)).mono ?_; rintro e w4 ⟨rfl, hw4⟩; replace hS2 := Lib.hid (hS2.out.step hw4))
                    clear hw4
                    go_roundw
                    case rel => exact ⟨n2 + 1, by omega, by go_num, o2, by omega, hS2.out, Lib.hid (by rw [← hM2.out, hdr.out, List.flatMap_cons, hk1.out]; simp)⟩
                    case measure => simp [intOf]; omega
                · have hok := Lib.hid (show composeL la lb = (o2, none) by rw [compose_ok hR.out.1 hR.out.2 hfin.out, ← hM2.out, List.drop_of_length_le (by omega)]; simp)
                  gi_wp2
                  refine bodyPost_ret (v := .tuple #[u12, .int .i64 0]) (by simp [results, Tryd.results36, go_sem]) rfl ⟨u12, ?_, ?_⟩
                  · rw [hok.out]; rfl
                  · rw [hok.out]; exact hS2.out.first
    · have hans := Lib.hid (answer_order (f := composeOne) (ka := C.k) (kb := C.k) (a := la) (b := lb) (fun h => hR2 h.2))
      gi_wp2_with (first | (gi_at_call 83; clear t1; refine ((callsIn_wide.2 (refRisesC_yes a1 c1 la _ H1.out hR1))).mono ?_; rintro e w1 ⟨rfl, hw1⟩) | (gi_at_call 83; clear t2; refine ((callsIn_wide.2 (refRisesC_no a2 c2 lb _ (H2.out.below hw1) hR2))).mono ?_; rintro e w2 ⟨rfl, hw2⟩))
      refine bodyPost_ret (v := .tuple #[.slice none 0 0, .int .i64 12]) (by simp [results, Tryd.results36, go_sem]) rfl ⟨.slice none 0 0, ?_, ?_⟩
      · rw [show composeL la lb = _ from hans.out]; rfl
      · rw [show composeL la lb = _ from hans.out]; exact (((Sep.nil w).step hw1).step hw2).none_ CT
  · by_cases hR2 : Rises (lb.map C.k)
    · have hans := Lib.hid (answer_order (f := composeOne) (ka := C.k) (kb := C.k) (a := la) (b := lb) (fun h => hR1 h.1))
      gi_wp2_with (first | (gi_at_call 83; clear t1; refine ((callsIn_wide.2 (refRisesC_no a1 c1 la _ H1.out hR1))).mono ?_; rintro e w1 ⟨rfl, hw1⟩) | (gi_at_call 83; clear t2; refine ((callsIn_wide.2 (refRisesC_yes a2 c2 lb _ (H2.out.below hw1) hR2))).mono ?_; rintro e w2 ⟨rfl, hw2⟩))
      refine bodyPost_ret (v := .tuple #[.slice none 0 0, .int .i64 12]) (by simp [results, Tryd.results36, go_sem]) rfl ⟨.slice none 0 0, ?_, ?_⟩
      · rw [show composeL la lb = _ from hans.out]; rfl
      · rw [show composeL la lb = _ from hans.out]; exact (((Sep.nil w).step hw1).step hw2).none_ CT
    · have hans := Lib.hid (answer_order (f := composeOne) (ka := C.k) (kb := C.k) (a := la) (b := lb) (fun h => hR1 h.1))
      gi_wp2_with (first | (gi_at_call 83; clear t1; refine ((callsIn_wide.2 (refRisesC_no a1 c1 la _ H1.out hR1))).mono ?_; rintro e w1 ⟨rfl, hw1⟩) | (gi_at_call 83; clear t2; refine ((callsIn_wide.2 (refRisesC_no a2 c2 lb _ (H2.out.below hw1) hR2))).mono ?_; rintro e w2 ⟨rfl, hw2⟩))
      refine bodyPost_ret (v := .tuple #[.slice none 0 0, .int .i64 12]) (by simp [results, Tryd.results36, go_sem]) rfl ⟨.slice none 0 0, ?_, ?_⟩
      · rw [show composeL la lb = _ from hans.out]; rfl
      · rw [show composeL la lb = _ from hans.out]; exact (((Sep.nil w).step hw1).step hw2).none_ CT
end Go.Proofs.YtdkailccfcijiaaDoor
