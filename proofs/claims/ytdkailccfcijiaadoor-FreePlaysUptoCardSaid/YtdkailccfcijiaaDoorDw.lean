/- Compose, walked: what it answers, over lists of fewer than 4194304 elements in all. -/
import Derived.Test.YtdkailccfcijiaaDoorDt
import Derived.Test.YtdkailccfcijiaaDoorDk
import Derived.Laws.Tables
namespace Go.Proofs.YtdkailccfcijiaaDoor
open Go.RowKit Go.Shelf
set_option linter.unusedVariables false
set_option linter.unusedSimpArgs false
set_option maxRecDepth 100000
attribute [local simp] wide_fn wide_fn_round
attribute [local go_sem] wide_fn wide_fn_round
attribute [local go_sem] Oper.semAt_some

/-- A block turned whole. -/
theorem blk_row {w0 w : World} {L : List Chunk} {g : Nat} {t : TypeId} {cs cells : List Value} (S : Sep w0 w (blk g t cs :: L)) : Sep w0 (w.setRow g cells.toArray) (blk g t cells :: L) := by
  have h : w.heap[g]? = some (.cells cs.toArray t (0, 0)) := S.hd
  refine S.turn (d := blk g t cells) ⟨rfl, rfl, rfl, by simp [World.setRow], fun k _ hn => ?_⟩ ?_ (fun i hi => .inl hi)
  · have hn2 : ¬ g = k := fun e => hn (show k = g from e.symm)
    simp [World.setRow, Array.getElem?_modify, hn2]
  · show (w.setRow g cells.toArray).heap[g]? = _
    simp [World.setRow, Array.getElem?_modify, h]
/-- A store of a whole struct into a block, inside a fence. -/
theorem storeIn_blk {F : Fence} {n : Nat} {P : Program} {w0 w : World} {L : List Chunk} {ops : Array Oper} {rest : List Oper} {o : Oper} {a : Act} {Q : Exit → Act → World → Prop} {g : Nat} {t : TypeId} {cs : List Value} (hgd : o.guard = none) (ty : TypeId) (x y : Operand)
    (ho : o.op = .store ty x y) (cells : List Value) (hi : (P.info? ty).map (·.size) = some cells.length) (hx : a.eval x = .pointer (some ⟨g, 0, none⟩)) (hy : a.eval y = .agg cells.toArray) (S : Sep w0 w (blk g t cs :: L)) (hlen : cs.length = cells.length)
    (h1 : cells.toArray.all (·.oneCell') = true) (h : ∀ w', Sep w0 w' (blk g t cells :: L) → wpListIn F n P ops Q rest (a.put o.dst undef) w') : wpListIn F n P ops Q (o :: rest) a w := by
  refine wpListIn_plain hgd fun K hK' => ?_
  have hrun := run_storeVar_row (P := P) w g t ty cs.toArray cells.toArray S.hd (by simpa using hi) (by simpa using hlen) h1
  unfold Oper.wpIn
  refine ⟨?_, ?_⟩
  · simp [Oper.about, ho, resolve, Target.leads, Sem.run_pure]
  · rw [Oper.semAt_plain F _ _ (by rw [ho]; intro c hc'; cases hc')]
    unfold execOp
    simp only [ho, hx, hy, Instr.storeAt, Instr.sureAddr, Sem.run_bind, Sem.run_pure, Result.andThen_ok, hrun]
    exact hK' _ _ (h _ (blk_row S))

set_option maxHeartbeats 4000000 in
theorem compose (E : Nat → Addr) (a1 a2 : Option Addr) (c1 c2 : Nat) (la lb : List C) (w : World) (hE : Errs [0, 1] E w) (h1 : Rd CT w a1 la.length la) (h2 : Rd CT w a2 lb.length lb)
    (hb1 : c1 ≤ 9223372036854775807) (hb2 : c2 ≤ 9223372036854775807) (hn1 : la.length ≤ c1) (hn2 : lb.length ≤ c2) (hlen : la.length + lb.length ≤ 4194304) :
    Calls Tryd.prog 34 #[.slice a1 la.length c1, .slice a2 lb.length c2] w fun e w' => ∃ v, e = .returned (.tuple #[v, errV E (composeL la lb).2]) ∧ Sep w w' [row CT v (composeL la lb).1] := by
  refine (callsIn_wide (n := 5)).1 ?_
  have HE := Lib.hid hE
  have H1 := Lib.hid h1
  have H2 := Lib.hid h2
  clear h1 h2 hE
  have hm : Tryd.prog.follows .mixedOrders = true := by kernel_rfl
  have t1 : True := trivial
  have t2 : True := trivial
  refine callsIn_of_wp_marks Tryd.func34 rfl trivial ?_ rfl
  simp only [Tryd.ntmps34, List.size_toArray, List.length_cons, List.length_nil, Nat.reduceAdd, Nat.reduceSub, Array.replicate_succ, Array.replicate_zero, List.push_toArray, List.append_toArray, List.nil_append, List.cons_append]
  have S0 := Lib.hid (((Sep.nil w).box 23 [.slice none 0 0]).box 35 [.nilIface])
  by_cases hR1 : Rises (la.map C.k)
  · by_cases hR2 : Rises (lb.map C.k)
    · gi_wp2_with (first | (gi_at_call 80; clear t1; refine ((callsIn_wide.2 (risesC_yes a1 c1 la _ (H1.out.below S0.out.below) hR1))).mono ?_; rintro e w1 ⟨rfl, hw1⟩) | (gi_at_call 80; clear t2; refine ((callsIn_wide.2 (risesC_yes a2 c2 lb _ ((H2.out.below S0.out.below).below hw1) hR2))).mono ?_; rintro e w2 ⟨rfl, hw2⟩) | (gi_at_call 89; refine (callsIn_wide.2 (sidesCC0 _ _ _ _ _ _ _)).mono ?_; rintro e w3 ⟨rfl, rfl⟩))
      have S1 := Lib.hid (((((S0.out.step hw1).step hw2).boxAt 23 [.slice none 0 0] _ rfl).boxAt 23 [.slice a1 la.length c1] (w2.heap.size + 1) (by simp)).boxAt 23 [.slice a2 lb.length c2] (w2.heap.size + 1 + 1) (by simp))
      have hsz : w.heap.size ≤ w2.heap.size := Nat.le_trans (S0.out.below.size) (Nat.le_trans hw1.size hw2.size)
      simp only [World.size_alloc] at S1
      generalize hg : w2.heap.size = g at S1 hsz ⊢
      have hW0 : ∃ W0, W0 = (((w2.alloc (Obj.cells #[Value.slice none 0 0] 23)).alloc (Obj.cells #[Value.slice a1 la.length c1] 23)).alloc (Obj.cells #[Value.slice a2 lb.length c2] 23)) := ⟨_, rfl⟩
      obtain ⟨W0, hW0⟩ := hW0
      rw [← hW0]
      have hsz0 : w.heap.size ≤ W0.heap.size := by rw [hW0]; simp; omega
      have S2 : Hid (Sep w W0 _) := Lib.hid (by rw [hW0]; exact S1.out)
      clear S1 S0 hw1 hw2 hW0
      refine wpIn_rangeFunc_ownG (α := Side la lb) rfl (by decide) (gf := 118) (lb := #[.pointer (some ⟨g + 1, 0, none⟩), .pointer (some ⟨g + 1 + 1, 0, none⟩)]) rfl trivial (enters_of Tryd.func118 (by kernel_rfl) rfl)
        (encs := Side.encs 5 5 a1 a2) (Kp := Kq (Kab w (g + 1) (g + 1 + 1))) (S := fun xs => xs.map Side.val = sidesL C.k C.k la lb) (Sp := fun pre => pre.map Side.val <+: sidesL C.k C.k la lb) (N := la.length + lb.length) (w0 := W0)
        ?seq Kq.trans ?kb (qrefl _) (fun _ => rfl)
        (fun pre W => ∃ v out, runAll composeOne (pre.map Side.val) = some out ∧ Sep w W [row CT v out, blk (g + 1 + 1) 23 [.slice a2 lb.length c2], blk (g + 1) 23 [.slice a1 la.length c1], blk g 23 [v], blk (w.heap.size + 1) 35 [.nilIface], blk w.heap.size 23 [.slice none 0 0]])
        (fun c pre W => c = .ret ∧ runAll composeOne (pre.map Side.val) = none ∧ Sep w W [blk (w.heap.size + 1) 35 [errV E (some 1)], blk w.heap.size 23 [.slice none 0 0]])
        ?hI ?hIx ?h0 (fun x => { tmps := #[.slice a1 la.length c1, .slice a2 lb.length c2, undef, undef, .pointer (some ⟨w.heap.size, 0, none⟩), .pointer (some ⟨w.heap.size + 1, 0, none⟩), .pointer (some ⟨g, 0, none⟩), ptr 5 a1 x.1.1, ptr 5 a2 x.1.2, undef, .slice a1 la.length c1, .bool true, .bool false, .bool false, .slice a2 lb.length c2, .bool true, .bool false, .bool false, undef, .slice a1 la.length c1, .slice a2 lb.length c2, .func (.func 118) #[] #[.pointer (some ⟨g + 1, 0, none⟩), .pointer (some ⟨g + 1 + 1, 0, none⟩)], ptr 5 a1 x.1.1, ptr 5 a2 x.1.2, undef, undef, undef, undef, undef, undef, undef, undef, undef, undef, undef, undef, undef, undef, undef, undef, undef, undef, undef, undef, undef, undef, undef, undef, undef, undef, undef, undef, undef, undef, undef, undef, undef, undef, undef, undef, undef, undef, undef, undef, undef, undef, undef, undef, undef, undef, undef, undef, undef, undef, undef, undef, undef, undef, undef, undef, undef, undef, undef, undef, undef, undef, undef], defers := [] }) ?assign ?body ?done ?stop
      case seq =>
        intro l J Jx W hW hJ hJx hY h0
        exact sidesCC1 (g + 1) (g + 1 + 1) a1 a2 c1 c2 _ _ la lb (Kab w (g + 1) (g + 1 + 1)) (.inr (.inl rfl)) (.inr (.inr rfl)) (fun b o e => (H1.out.lt b o e).imp id .inl) (fun b o e => (H2.out.lt b o e).imp id .inl) l J Jx W
          (kab_lt (S2.out.step hW) (.tail _ (.head _)) (.head _)) hb1 hb2 hn1 hn2 (blk_mem (S2.out.step hW) (.tail _ (.head _)) 0 rfl) (blk_mem (S2.out.step hW) (.head _) 0 rfl) (H1.out.below (S2.out.step hW).below) (H2.out.below (S2.out.step hW).below)
          (fun pre A B h hg => hJ pre A B none h hg (fun r e => by cases e)) hY h0
      case kb => exact fun W l o o' hl _ _ _ => kq_put S2.out (.tail _ (.head _)) (.head _) l o' hl
      case hI =>
        rintro s A B r ⟨v, out, hr, S⟩ hg hrow
        exact ⟨v, out, hr, S.record (by intro c hc; simp at hc; rcases hc with rfl | rfl | rfl | rfl | rfl | rfl <;> first | exact row_cells _ _ _ | exact blk_cells _ _ _) hg (fun k e => ⟨by have := (hrow k e).1; omega, (hrow k e).2⟩)⟩
      case hIx =>
        rintro c s A B r ⟨hc, hr, S⟩ hg hrow
        exact ⟨hc, hr, S.record (by intro c hc; simp at hc; rcases hc with rfl | rfl <;> exact blk_cells _ _ _) hg (fun k e => ⟨by have := (hrow k e).1; omega, (hrow k e).2⟩)⟩
      case h0 => exact ⟨_, [], rfl, S2.out.none_ CT⟩
      case assign =>
        intro l x W K hK
        simp only [Side.encs]
        gi_wp2
        exact hK
      case body =>
        rintro l pre x W ⟨v, out, hr, S⟩ hN
        have hol : out.length ≤ 4194304 := by
          have := runAll_length composeOne_len hr
          simp at this
          omega
        have hb1' : (out.length + 1) * 56 ≤ 140737488355328 := by omega
        have T0 := Lib.hid ((Sep.nil W).boxAt 32 [.string ⟨#[]⟩, .bool false, .bool false, .string ⟨#[]⟩, .string ⟨#[]⟩] W.heap.size rfl)
        have hgW : g < W.heap.size := (S.lie (blk g 23 [v]) (.tail _ (.tail _ (.tail _ (.head _)))) g rfl).2
        have hcg := blk_mem S (g := g) (t := 23) (cs := [v]) (.tail _ (.tail _ (.tail _ (.head _)))) 0 rfl
        rcases x.ways with ⟨i, y, hy, hx1, hv⟩ | ⟨k, z, hz, hx1, hv⟩ | ⟨i, k, y, z, hy, hz, hx1, hv⟩
        · obtain ⟨b, o, y', hae, hy', d0, d1, d2, d3, d4⟩ := rdC (H1.out.below S.below) (i := i) (List.getElem?_eq_some_iff.1 hy).1
          rw [hy] at hy'
          cases hy'
          subst hae
          obtain ⟨xk, xhad, xhas, xold, xnew⟩ := y
          dsimp only at d0 d1 d2 d3 d4
          simp only [hx1, ptr, Option.map]
          have hx2 := Lib.hid (And.intro hx1 hv)
          have hr2 := Lib.hid hr
          have S4 := Lib.hid S
          have e0 := qcell d0 T0.out.below
          have e1 := qcell d1 T0.out.below
          have e2 := qcell d2 T0.out.below
          have e3 := qcell d3 T0.out.below
          have e4 := qcell d4 T0.out.below
          have f0 := blk_free T0.out 0
          have f1 := blk_free T0.out 1
          have f2 := blk_free T0.out 2
          have f3 := blk_free T0.out 3
          have f4 := blk_free T0.out 4
          have z0 := blk_cell T0.out 0 rfl
          have z1 := blk_cell T0.out 1 rfl
          have z2 := blk_cell T0.out 2 rfl
          have z3 := blk_cell T0.out 3 rfl
          have z4 := blk_cell T0.out 4 rfl
          clear hr S hy
          have Tf := Lib.hid ((Sep.nil W).boxAt 32 [.string xk, .bool xhad, .bool xhas, .string xold, .string xnew] W.heap.size rfl)
          cases hidle : C.idle ⟨xk, xhad, xhas, xold, xnew⟩
          · have hI := Lib.hid hidle
            clear hidle
            gi_wp2_with (first | (gi_at_call 88; refine ((callsIn_wide.2 (idle1_of ⟨xk, xhad, xhas, xold, xnew⟩ false hI.out _)).inRound l).mono ?_; rintro e w3 ⟨rfl, hw3⟩; replace Tf := Lib.hid (Tf.out.step hw3); clear f0 f1 f2 f3 f4 z0 z1 z2 z3 z4; clear hw3; have k0 := blk_cell Tf.out 0 rfl; have k1 := blk_cell Tf.out 1 rfl; have k2 := blk_cell Tf.out 2 rfl; have k3 := blk_cell Tf.out 3 rfl; have k4 := blk_cell Tf.out 4 rfl; have hgF := qcell hcg Tf.out.below) | (gi_at_builtin; refine appIn_sep elemC rfl (.tmp 82) (.tmp 84) rfl v out rfl ((S4.out.step Tf.out.below).alloc _) _ 1 1 [⟨xk, xhad, xhas, xold, xnew⟩] rfl (rd_new CT _ ⟨xk, xhad, xhas, xold, xnew⟩ _ rfl 32) hb1' ?_; intro v2 W2 S5 hk5; obtain ⟨g', n', c', rfl⟩ := row_succ S5; have hf2 := blk_free (Sep.up3 S5) 0; have hc2 := blk_mem S5 (g := g) (t := 23) (cs := [v]) (.tail _ (.tail _ (.tail _ (.head _)))) 0 rfl))
            exact round_put (x := x) W0.heap.size S4.out (qalloc Tf.out.below _) hk5 S5 hr2.out (by rw [hx2.out.2]; show some (keepC ⟨xk, xhad, xhas, xold, xnew⟩) = _; unfold keepC; rw [hI.out]; rfl)
          · have hI := Lib.hid hidle
            clear hidle
            gi_wp2_with (gi_at_call 88; refine ((callsIn_wide.2 (idle1_of ⟨xk, xhad, xhas, xold, xnew⟩ true hI.out _)).inRound l).mono ?_; rintro e w3 ⟨rfl, hw3⟩; replace Tf := Lib.hid (Tf.out.step hw3); clear f0 f1 f2 f3 f4 z0 z1 z2 z3 z4; clear hw3)
            exact round_skip (x := x) W0.heap.size S4.out Tf.out.below hr2.out (by rw [hx2.out.2]; show some (keepC ⟨xk, xhad, xhas, xold, xnew⟩) = _; unfold keepC; rw [hI.out]; rfl)
        · obtain ⟨b, o, y', hae, hy', d0, d1, d2, d3, d4⟩ := rdC (H2.out.below S.below) (i := k) (List.getElem?_eq_some_iff.1 hz).1
          rw [hz] at hy'
          cases hy'
          subst hae
          obtain ⟨zk, zhad, zhas, zold, znew⟩ := z
          dsimp only at d0 d1 d2 d3 d4
          simp only [hx1, ptr, Option.map]
          have hx2 := Lib.hid (And.intro hx1 hv)
          have hr2 := Lib.hid hr
          have S4 := Lib.hid S
          have e0 := qcell d0 T0.out.below
          have e1 := qcell d1 T0.out.below
          have e2 := qcell d2 T0.out.below
          have e3 := qcell d3 T0.out.below
          have e4 := qcell d4 T0.out.below
          have f0 := blk_free T0.out 0
          have f1 := blk_free T0.out 1
          have f2 := blk_free T0.out 2
          have f3 := blk_free T0.out 3
          have f4 := blk_free T0.out 4
          have z0 := blk_cell T0.out 0 rfl
          have z1 := blk_cell T0.out 1 rfl
          have z2 := blk_cell T0.out 2 rfl
          have z3 := blk_cell T0.out 3 rfl
          have z4 := blk_cell T0.out 4 rfl
          clear hr S hz
          have Tf := Lib.hid ((Sep.nil W).boxAt 32 [.string zk, .bool zhad, .bool zhas, .string zold, .string znew] W.heap.size rfl)
          cases hidle : C.idle ⟨zk, zhad, zhas, zold, znew⟩
          · have hI := Lib.hid hidle
            clear hidle
            gi_wp2_with (first | (gi_at_call 88; refine ((callsIn_wide.2 (idle1_of ⟨zk, zhad, zhas, zold, znew⟩ false hI.out _)).inRound l).mono ?_; rintro e w3 ⟨rfl, hw3⟩; replace Tf := Lib.hid (Tf.out.step hw3); clear f0 f1 f2 f3 f4 z0 z1 z2 z3 z4; clear hw3; have k0 := blk_cell Tf.out 0 rfl; have k1 := blk_cell Tf.out 1 rfl; have k2 := blk_cell Tf.out 2 rfl; have k3 := blk_cell Tf.out 3 rfl; have k4 := blk_cell Tf.out 4 rfl; have hgF := qcell hcg Tf.out.below) | (gi_at_builtin; refine appIn_sep elemC rfl (.tmp 82) (.tmp 84) rfl v out rfl ((S4.out.step Tf.out.below).alloc _) _ 1 1 [⟨zk, zhad, zhas, zold, znew⟩] rfl (rd_new CT _ ⟨zk, zhad, zhas, zold, znew⟩ _ rfl 32) hb1' ?_; intro v2 W2 S5 hk5; obtain ⟨g', n', c', rfl⟩ := row_succ S5; have hf2 := blk_free (Sep.up3 S5) 0; have hc2 := blk_mem S5 (g := g) (t := 23) (cs := [v]) (.tail _ (.tail _ (.tail _ (.head _)))) 0 rfl))
            exact round_put (x := x) W0.heap.size S4.out (qalloc Tf.out.below _) hk5 S5 hr2.out (by rw [hx2.out.2]; show some (keepC ⟨zk, zhad, zhas, zold, znew⟩) = _; unfold keepC; rw [hI.out]; rfl)
          · have hI := Lib.hid hidle
            clear hidle
            gi_wp2_with (gi_at_call 88; refine ((callsIn_wide.2 (idle1_of ⟨zk, zhad, zhas, zold, znew⟩ true hI.out _)).inRound l).mono ?_; rintro e w3 ⟨rfl, hw3⟩; replace Tf := Lib.hid (Tf.out.step hw3); clear f0 f1 f2 f3 f4 z0 z1 z2 z3 z4; clear hw3)
            exact round_skip (x := x) W0.heap.size S4.out Tf.out.below hr2.out (by rw [hx2.out.2]; show some (keepC ⟨zk, zhad, zhas, zold, znew⟩) = _; unfold keepC; rw [hI.out]; rfl)
        · obtain ⟨b, o, y', hae, hy', d0, d1, d2, d3, d4⟩ := rdC (H1.out.below S.below) (i := i) (List.getElem?_eq_some_iff.1 hy).1
          rw [hy] at hy'
          cases hy'
          subst hae
          obtain ⟨xk, xhad, xhas, xold, xnew⟩ := y
          obtain ⟨b2, o2, z', hae, hz', e0, e1, e2, e3, e4⟩ := rdC (H2.out.below S.below) (i := k) (List.getElem?_eq_some_iff.1 hz).1
          rw [hz] at hz'
          cases hz'
          subst hae
          obtain ⟨zk, zhad, zhas, zold, znew⟩ := z
          dsimp only at d0 d1 d2 d3 d4 e0 e1 e2 e3 e4
          simp only [hx1, ptr, Option.map]
          have hx2 := Lib.hid (And.intro hx1 hv)
          have hr2 := Lib.hid hr
          have S4 := Lib.hid S
          have bK : b < W.heap.size := World.block_lt_of_cell? W (a := ⟨b, _, none⟩) d0
          have b2K : b2 < W.heap.size := World.block_lt_of_cell? W (a := ⟨b2, _, none⟩) e0
          replace d0 := qcell d0 T0.out.below
          replace d1 := qcell d1 T0.out.below
          replace d2 := qcell d2 T0.out.below
          replace d3 := qcell d3 T0.out.below
          replace d4 := qcell d4 T0.out.below
          replace e0 := qcell e0 T0.out.below
          replace e1 := qcell e1 T0.out.below
          replace e2 := qcell e2 T0.out.below
          replace e3 := qcell e3 T0.out.below
          replace e4 := qcell e4 T0.out.below
          clear hr S hy hz hx1 hv
          have hlt1 := World.block_lt_of_cell? w (a := ⟨1, 0, none⟩) (HE.out.cell 1 (by decide))
          cases hb1 : (xhas == zhad)
          · have hB1 := Lib.hid hb1
            have xd2 := xt_cell d2
            have xd4 := xt_cell d4
            have xe1 := xt_cell e1
            have xe3 := xt_cell e3
            gi_wp2
            generalize W.alloc (.cells #[.string ⟨#[]⟩, .bool false, .bool false, .string ⟨#[]⟩, .string ⟨#[]⟩] 32) = WC at T0 d0 d1 d2 d3 d4 e0 e1 e2 e3 e4 xd2 xd4 xe1 xe3 ⊢
            refine xtR_region hm (by kernel_rfl) (by kernel_rfl) ?_
            repeat (gi_big_quiet_step (fail))
            refine wpQuietIn_nil ?_
            intro _ hw'
            obtain ⟨m, rfl⟩ := hw'
            have hbm := xt_below WC m
            generalize wx WC m = W9 at hbm ⊢
            clear xd2 xd4 xe1 xe3
            have hb9 := Lib.hid (qbelow T0.out.below hbm)
            have hE9 := ((HE.out.below S4.out.below).below hb9.out).cell 1 (by decide)
            have S9 := (S4.out.step hb9.out).tl.tl.tl.tl
            have f4 := blk_free (Sep.up1 S9) 0
            have f5 := blk_free S9 0
            have k4 := blk_cell (Sep.up1 S9) 0 (u := .slice none 0 0) rfl
            have k5 := blk_cell S9 0 (u := .nilIface) rfl
            have q1 : ∀ u, (W9.setCell ⟨w.heap.size, 0, none⟩ u).cell? ⟨1, 0, none⟩ = some (.iface 232 (.pointer (some (E 1)))) := fun u => (World.cell?_setCell_far _ _ _ _ (by simp; omega)).trans hE9
            clear S9
            gi_wp2
            gi_region_elder_o
            all_goals gi_wp2
            all_goals
              have fin := lost_put (x := x) W0.heap.size S4.out hb9.out (.slice none 0 0) (errV E (some 1)) hr2.out (by rw [hx2.out.2]; simp only [composeOne, hB1.out]; rfl)
              first | exact ⟨fin.1.1, rfl, fin.1.2⟩ | exact ⟨fin.2.1, rfl, fin.2.2⟩
          · cases hb2 : (xnew.toList == zold.toList)
            · have hB1 := Lib.hid hb1
              have hB2 := Lib.hid hb2
              have xd2 := xt_cell d2
              have xd4 := xt_cell d4
              have xe1 := xt_cell e1
              have xe3 := xt_cell e3
              gi_wp2
              generalize W.alloc (.cells #[.string ⟨#[]⟩, .bool false, .bool false, .string ⟨#[]⟩, .string ⟨#[]⟩] 32) = WC at T0 d0 d1 d2 d3 d4 e0 e1 e2 e3 e4 xd2 xd4 xe1 xe3 ⊢
              refine xtR_region hm (by kernel_rfl) (by kernel_rfl) ?_
              repeat (gi_big_quiet_step (fail))
              refine wpQuietIn_nil ?_
              intro _ hw'
              obtain ⟨m, rfl⟩ := hw'
              have hbm := xt_below WC m
              generalize wx WC m = W9 at hbm ⊢
              clear xd2 xd4 xe1 xe3
              have hb9 := Lib.hid (qbelow T0.out.below hbm)
              have hE9 := ((HE.out.below S4.out.below).below hb9.out).cell 1 (by decide)
              have S9 := (S4.out.step hb9.out).tl.tl.tl.tl
              have f4 := blk_free (Sep.up1 S9) 0
              have f5 := blk_free S9 0
              have k4 := blk_cell (Sep.up1 S9) 0 (u := .slice none 0 0) rfl
              have k5 := blk_cell S9 0 (u := .nilIface) rfl
              have q1 : ∀ u, (W9.setCell ⟨w.heap.size, 0, none⟩ u).cell? ⟨1, 0, none⟩ = some (.iface 232 (.pointer (some (E 1)))) := fun u => (World.cell?_setCell_far _ _ _ _ (by simp; omega)).trans hE9
              clear S9
              gi_wp2
              gi_region_elder_o
              all_goals gi_wp2
              all_goals
                have fin := lost_put (x := x) W0.heap.size S4.out hb9.out (.slice none 0 0) (errV E (some 1)) hr2.out (by rw [hx2.out.2]; simp only [composeOne, hB1.out, hB2.out]; rfl)
                first | exact ⟨fin.1.1, rfl, fin.1.2⟩ | exact ⟨fin.2.1, rfl, fin.2.2⟩
            · have hB1 := Lib.hid hb1
              have hB2 := Lib.hid hb2
              have xd2 := xt_cell d2
              have xd4 := xt_cell d4
              have xe1 := xt_cell e1
              have xe3 := xt_cell e3
              gi_wp2
              generalize W.alloc (.cells #[.string ⟨#[]⟩, .bool false, .bool false, .string ⟨#[]⟩, .string ⟨#[]⟩] 32) = WC at T0 d0 d1 d2 d3 d4 e0 e1 e2 e3 e4 xd2 xd4 xe1 xe3 ⊢
              refine xtR_region hm (by kernel_rfl) (by kernel_rfl) ?_
              repeat (gi_big_quiet_step (fail))
              refine wpQuietIn_nil ?_
              intro _ hw'
              obtain ⟨m, rfl⟩ := hw'
              have hbm := xt_below WC m
              generalize wx WC m = W9 at hbm ⊢
              clear xd2 xd4 xe1 xe3
              have hb9 := Lib.hid (qbelow T0.out.below hbm)
              replace d0 := qcell d0 hbm
              replace d1 := qcell d1 hbm
              replace d2 := qcell d2 hbm
              replace d3 := qcell d3 hbm
              replace d4 := qcell d4 hbm
              replace e0 := qcell e0 hbm
              replace e1 := qcell e1 hbm
              replace e2 := qcell e2 hbm
              replace e3 := qcell e3 hbm
              replace e4 := qcell e4 hbm
              have T9 := Lib.hid (T0.out.step hbm)
              clear hbm
              gi_wp2
              have xd0 := kt_cell (K := fun k => k ≠ W.heap.size) (w := W9.drew) d0 (by show b ≠ W.heap.size; exact Nat.ne_of_lt bK)
              have xd1 := kt_cell (K := fun k => k ≠ W.heap.size) (w := W9.drew) d1 (by show b ≠ W.heap.size; exact Nat.ne_of_lt bK)
              have xe2 := kt_cell (K := fun k => k ≠ W.heap.size) (w := W9.drew) e2 (by show b2 ≠ W.heap.size; exact Nat.ne_of_lt b2K)
              have xd3 := kt_cell (K := fun k => k ≠ W.heap.size) (w := W9.drew) d3 (by show b ≠ W.heap.size; exact Nat.ne_of_lt bK)
              have xe4 := kt_cell (K := fun k => k ≠ W.heap.size) (w := W9.drew) e4 (by show b2 ≠ W.heap.size; exact Nat.ne_of_lt b2K)
              refine mixed_region (fun k => k ≠ W.heap.size) [0, 1, 2, 3, 4, 5, 6, 7, 8, 9, 10, 11, 12, 13, 14, 15, 16, 17, 18, 19, 20] [] _ _ _ hm (by kernel_rfl) (by kernel_rfl) (Eq.refl _) rfl (Eq.refl _) rfl rfl ?_
              simp only [List.filterMap_cons, List.filterMap_nil, List.getElem?_cons_succ, List.getElem?_cons_zero]
              change wpQuietIn _ _ _ _ _ _ (_ :: _ :: _ :: _ :: _ :: _ :: _ :: _ :: _ :: _ :: _ :: _ :: _ :: _ :: _ :: _ :: _ :: _ :: _ :: _ :: _ :: []) _
              gi_big_quiet_want
              gi_big_quiet_op
              go_big_quiet_on
              repeat (gi_big_quiet_step (fail))
              refine wpQuietIn_nil ?_
              clear xd0 xd1 xe2 xd3 xe4
              have Tz := Lib.hid T9.out.drew
              simp only [wpWrites, Act.put, List.setIfInBounds_toArray, List.set_cons_succ, List.set_cons_zero]
              refine storeIn_blk rfl 32 (.tmp 9) (.tmp 44) rfl [.string xk, .bool xhad, .bool zhas, .string xold, .string znew] (by kernel_rfl) rfl rfl Tz.out rfl (by simp [Value.oneCell']) ?_
              intro WS TS
              have Tf := Lib.hid TS
              clear TS Tz
              have k0 := blk_cell Tf.out 0 rfl
              have k1 := blk_cell Tf.out 1 rfl
              have k2 := blk_cell Tf.out 2 rfl
              have k3 := blk_cell Tf.out 3 rfl
              have k4 := blk_cell Tf.out 4 rfl
              have hgF := qcell hcg Tf.out.below
              cases hidle : C.idle ⟨xk, xhad, zhas, xold, znew⟩
              · have hI := Lib.hid hidle
                clear hidle
                gi_wp2_with (first | (gi_at_call 88; refine ((callsIn_wide.2 (idle1_of ⟨xk, xhad, zhas, xold, znew⟩ false hI.out _)).inRound l).mono ?_; rintro e w3 ⟨rfl, hw3⟩; replace Tf := Lib.hid (Tf.out.step hw3); clear k0 k1 k2 k3 k4 hgF; clear hw3; have k0 := blk_cell Tf.out 0 rfl; have k1 := blk_cell Tf.out 1 rfl; have k2 := blk_cell Tf.out 2 rfl; have k3 := blk_cell Tf.out 3 rfl; have k4 := blk_cell Tf.out 4 rfl; have hgF := qcell hcg Tf.out.below) | (gi_at_builtin; refine appIn_sep elemC rfl (.tmp 82) (.tmp 84) rfl v out rfl ((S4.out.step Tf.out.below).alloc _) _ 1 1 [⟨xk, xhad, zhas, xold, znew⟩] rfl (rd_new CT _ ⟨xk, xhad, zhas, xold, znew⟩ _ rfl 32) hb1' ?_; intro v2 W2 S5 hk5; obtain ⟨g', n', c', rfl⟩ := row_succ S5; have hf2 := blk_free (Sep.up3 S5) 0; have hc2 := blk_mem S5 (g := g) (t := 23) (cs := [v]) (.tail _ (.tail _ (.tail _ (.head _)))) 0 rfl))
                exact round_put (x := x) W0.heap.size S4.out (qalloc Tf.out.below _) hk5 S5 hr2.out (by rw [hx2.out.2]; simp only [composeOne, hB1.out, hB2.out, if_true]; show some (keepC ⟨xk, xhad, zhas, xold, znew⟩) = _; unfold keepC; rw [hI.out]; rfl)
              · have hI := Lib.hid hidle
                clear hidle
                gi_wp2_with (gi_at_call 88; refine ((callsIn_wide.2 (idle1_of ⟨xk, xhad, zhas, xold, znew⟩ true hI.out _)).inRound l).mono ?_; rintro e w3 ⟨rfl, hw3⟩; replace Tf := Lib.hid (Tf.out.step hw3); clear k0 k1 k2 k3 k4 hgF; clear hw3)
                exact round_skip (x := x) W0.heap.size S4.out Tf.out.below hr2.out (by rw [hx2.out.2]; simp only [composeOne, hB1.out, hB2.out, if_true]; show some (keepC ⟨xk, xhad, zhas, xold, znew⟩) = _; unfold keepC; rw [hI.out]; rfl)
      case done =>
        rintro D ys W hD hys ⟨v, out, hr, S⟩ hK
        have hcg := blk_mem S (g := g) (t := 23) (cs := [v]) (.tail _ (.tail _ (.tail _ (.head _)))) 0 rfl
        have f4 := blk_free (Sep.up5 S) 0
        have f5 := blk_free (Sep.up4 S) 0
        have k4 := blk_cell (Sep.up5 S) 0 (u := .slice none 0 0) rfl
        have k5 := blk_cell (Sep.up4 S) 0 (u := .nilIface) rfl
        have hans := Lib.hid (answer_ok ⟨hR1, hR2⟩ (hys ▸ hr))
        have S4 := Lib.hid S
        obtain ⟨va, vn, vc, rfl⟩ : ∃ a n c, v = .slice a n c := by
          rcases Row.form S.hd with ⟨rfl, _⟩ | ⟨_, c, rfl, _⟩
          · exact ⟨_, _, _, rfl⟩
          · exact ⟨_, _, _, rfl⟩
        clear S hr hys
        gi_wp2
        have hKf := (KeepsOthers.setCell (W.setCell ⟨w.heap.size, 0, none⟩ (.slice va vn vc)) ⟨w.heap.size + 1, 0, none⟩ .nilIface).same D _ ((KeepsOthers.setCell W ⟨w.heap.size, 0, none⟩ (.slice va vn vc)).same D _ hK rfl) rfl
        have SF := (blk_set (Sep.up5 (blk_set (Sep.up5 S4.out) 0 (.slice va vn vc))) 0 .nilIface).record (by intro c hc; simp at hc; rcases hc with rfl | rfl | rfl | rfl | rfl | rfl <;> first | exact row_cells _ _ _ | exact blk_cells _ _ _) (grownBy_putObj' _ D (.deferred none)) (fun k e => by cases e; exact ⟨by omega, _, hKf, rfl⟩)
        have r4 := blk_cell (Sep.up1 SF) 0 (u := .slice va vn vc) rfl
        have r5 := blk_cell SF 0 (u := .nilIface) rfl
        refine ⟨by simp, .inl ⟨_, _, rfl, run_takeDeferred hKf, .tuple #[.slice va vn vc, .nilIface], by simp [results, Tryd.results34, go_sem, r4, r5], .slice va vn vc, ?_, ?_⟩⟩
        · show _ = Ending.returned (.tuple #[_, errV E (answer C.k C.k composeOne la lb).2])
          rw [hans.out]
          rfl
        · show Sep w _ [row CT _ (answer C.k C.k composeOne la lb).1]
          rw [hans.out]
          exact SF.tl.tl.first
      case stop =>
        rintro D c pre W hD hpre ⟨rfl, hr, S⟩ hK
        have hans := Lib.hid (answer_lost ⟨hR1, hR2⟩ (runAll_prefix hr hpre))
        have SF := S.record (by intro c hc; simp at hc; rcases hc with rfl | rfl <;> exact blk_cells _ _ _) (grownBy_putObj' _ D (.deferred none)) (fun k e => by cases e; exact ⟨by omega, _, hK, rfl⟩)
        have r4 := blk_cell (Sep.up1 SF) 0 (u := .slice none 0 0) rfl
        have r5 := blk_cell SF 0 (u := errV E (some 1)) rfl
        gi_wp2
        refine ⟨by simp, .inl ⟨_, _, rfl, run_takeDeferred hK, .tuple #[.slice none 0 0, errV E (some 1)], by simp [results, Tryd.results34, go_sem, r4, r5], .slice none 0 0, ?_, ?_⟩⟩
        · show _ = Ending.returned (.tuple #[_, errV E (answer C.k C.k composeOne la lb).2])
          rw [hans.out]
        · show Sep w _ [row CT _ (answer C.k C.k composeOne la lb).1]
          rw [hans.out]
          exact SF.tl.tl.none_ CT
    · gi_wp2_with (first | (gi_at_call 80; clear t1; refine ((callsIn_wide.2 (risesC_yes a1 c1 la _ (H1.out.below S0.out.below) hR1))).mono ?_; rintro e w1 ⟨rfl, hw1⟩) | (gi_at_call 80; clear t2; refine ((callsIn_wide.2 (risesC_no a2 c2 lb _ ((H2.out.below S0.out.below).below hw1) hR2))).mono ?_; rintro e w2 ⟨rfl, hw2⟩))
      have hans := Lib.hid (answer_order (f := composeOne) (ka := C.k) (kb := C.k) (a := la) (b := lb) (fun h => hR2 h.2))
      have S9 := (S0.out.step hw1).step hw2
      simp only [World.size_alloc] at S9
      have hE9 := (HE.out.below S9.below).cell 0 (by decide)
      have hlt1 : 0 < w.heap.size := World.block_lt_of_cell? w (a := ⟨0, 0, none⟩) (HE.out.cell 0 (by decide))
      generalize w2 = W9 at S9 hE9 ⊢
      have f4 := blk_free (Sep.up1 S9) 0
      have f5 := blk_free S9 0
      have k4 := blk_cell (Sep.up1 S9) 0 (u := .slice none 0 0) rfl
      have k5 := blk_cell S9 0 (u := .nilIface) rfl
      have q1 : ∀ u, (W9.setCell ⟨w.heap.size, 0, none⟩ u).cell? ⟨0, 0, none⟩ = some (.iface 232 (.pointer (some (E 0)))) := fun u => (World.cell?_setCell_far _ _ _ _ (by show w.heap.size ≠ 0; omega)).trans hE9
      have S8 := Lib.hid S9
      clear S9
      gi_region
      all_goals gi_wp2
      all_goals
        first
        | (have SF := (two_put S8.out (.slice none 0 0) (errV E (some 0))).1
           have r4 := blk_cell (Sep.up1 SF) 0 (u := .slice none 0 0) rfl
           have r5 := blk_cell SF 0 (u := errV E (some 0)) rfl
           have r6 := blk_cell (blk_set (Sep.up1 S8.out) 0 (.slice none 0 0)) 0 (u := .slice none 0 0) rfl
           have r7 := blk_cell (blk_set S8.out 0 (errV E (some 0))) 0 (u := errV E (some 0)) rfl
           exact ⟨.tuple #[.slice none 0 0, errV E (some 0)], by simp only [errV] at r5 r7 ⊢; simp [results, Tryd.results34, go_sem, r4, r5, r6, r7], .slice none 0 0, (by show _ = Ending.returned (.tuple #[_, errV E (answer C.k C.k composeOne la lb).2]); rw [hans.out]), (by show Sep w _ [row CT _ (answer C.k C.k composeOne la lb).1]; rw [hans.out]; exact SF.drew.tl.tl.none_ CT)⟩)
        | (have SF := (two_put S8.out (.slice none 0 0) (errV E (some 0))).2
           have r4 := blk_cell (Sep.up1 SF) 0 (u := .slice none 0 0) rfl
           have r5 := blk_cell SF 0 (u := errV E (some 0)) rfl
           have r6 := blk_cell (blk_set (Sep.up1 S8.out) 0 (.slice none 0 0)) 0 (u := .slice none 0 0) rfl
           have r7 := blk_cell (blk_set S8.out 0 (errV E (some 0))) 0 (u := errV E (some 0)) rfl
           exact ⟨.tuple #[.slice none 0 0, errV E (some 0)], by simp only [errV] at r5 r7 ⊢; simp [results, Tryd.results34, go_sem, r4, r5, r6, r7], .slice none 0 0, (by show _ = Ending.returned (.tuple #[_, errV E (answer C.k C.k composeOne la lb).2]); rw [hans.out]), (by show Sep w _ [row CT _ (answer C.k C.k composeOne la lb).1]; rw [hans.out]; exact SF.drew.tl.tl.none_ CT)⟩)
  · gi_wp2_with (first | (gi_at_call 80; refine ((callsIn_wide.2 (risesC_no a1 c1 la _ (H1.out.below S0.out.below) hR1))).mono ?_; rintro e w1 ⟨rfl, hw1⟩))
    have hans := Lib.hid (answer_order (f := composeOne) (ka := C.k) (kb := C.k) (a := la) (b := lb) (fun h => hR1 h.1))
    have S9 := S0.out.step hw1
    simp only [World.size_alloc] at S9
    have hE9 := (HE.out.below S9.below).cell 0 (by decide)
    have hlt1 : 0 < w.heap.size := World.block_lt_of_cell? w (a := ⟨0, 0, none⟩) (HE.out.cell 0 (by decide))
    generalize w1 = W9 at S9 hE9 ⊢
    have f4 := blk_free (Sep.up1 S9) 0
    have f5 := blk_free S9 0
    have k4 := blk_cell (Sep.up1 S9) 0 (u := .slice none 0 0) rfl
    have k5 := blk_cell S9 0 (u := .nilIface) rfl
    have q1 : ∀ u, (W9.setCell ⟨w.heap.size, 0, none⟩ u).cell? ⟨0, 0, none⟩ = some (.iface 232 (.pointer (some (E 0)))) := fun u => (World.cell?_setCell_far _ _ _ _ (by show w.heap.size ≠ 0; omega)).trans hE9
    have S8 := Lib.hid S9
    clear S9
    gi_region
    all_goals gi_wp2
    all_goals
      first
      | (have SF := (two_put S8.out (.slice none 0 0) (errV E (some 0))).1
         have r4 := blk_cell (Sep.up1 SF) 0 (u := .slice none 0 0) rfl
         have r5 := blk_cell SF 0 (u := errV E (some 0)) rfl
         have r6 := blk_cell (blk_set (Sep.up1 S8.out) 0 (.slice none 0 0)) 0 (u := .slice none 0 0) rfl
         have r7 := blk_cell (blk_set S8.out 0 (errV E (some 0))) 0 (u := errV E (some 0)) rfl
         exact ⟨.tuple #[.slice none 0 0, errV E (some 0)], by simp only [errV] at r5 r7 ⊢; simp [results, Tryd.results34, go_sem, r4, r5, r6, r7], .slice none 0 0, (by show _ = Ending.returned (.tuple #[_, errV E (answer C.k C.k composeOne la lb).2]); rw [hans.out]), (by show Sep w _ [row CT _ (answer C.k C.k composeOne la lb).1]; rw [hans.out]; exact SF.drew.tl.tl.none_ CT)⟩)
      | (have SF := (two_put S8.out (.slice none 0 0) (errV E (some 0))).2
         have r4 := blk_cell (Sep.up1 SF) 0 (u := .slice none 0 0) rfl
         have r5 := blk_cell SF 0 (u := errV E (some 0)) rfl
         have r6 := blk_cell (blk_set (Sep.up1 S8.out) 0 (.slice none 0 0)) 0 (u := .slice none 0 0) rfl
         have r7 := blk_cell (blk_set S8.out 0 (errV E (some 0))) 0 (u := errV E (some 0)) rfl
         exact ⟨.tuple #[.slice none 0 0, errV E (some 0)], by simp only [errV] at r5 r7 ⊢; simp [results, Tryd.results34, go_sem, r4, r5, r6, r7], .slice none 0 0, (by show _ = Ending.returned (.tuple #[_, errV E (answer C.k C.k composeOne la lb).2]); rw [hans.out]), (by show Sep w _ [row CT _ (answer C.k C.k composeOne la lb).1]; rw [hans.out]; exact SF.drew.tl.tl.none_ CT)⟩)
end Go.Proofs.YtdkailccfcijiaaDoor
