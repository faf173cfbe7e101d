/- Lists, walked: what it answers, over lists of fewer than 4194304 elements in all. -/
import Derived.Test.YtdkailccfcijiaaDoorDl
import Derived.Test.YtdkailccfcijiaaDoorRm
import Derived.Test.YtdkailccfcijiaaDoorDj
namespace Go.Proofs.YtdkailccfcijiaaDoor
open Go.RowKit Go.Shelf
set_option linter.unusedVariables false
set_option linter.unusedSimpArgs false
set_option maxRecDepth 100000
attribute [local simp] wide_fn wide_fn_round
attribute [local go_sem] wide_fn wide_fn_round
attribute [local go_sem] Oper.semAt_some

theorem idle1_of (c : C) (b : Bool) (h : c.idle = b) (w : World) : Calls Tryd.prog 88 #[.agg #[.string c.k, .bool c.had, .bool c.has, .string c.old, .string c.new]] w fun e w' => e = .returned (.bool b) ∧ Below w.heap.size w w' := h ▸ idle1 c w
set_option maxHeartbeats 4000000 in
theorem lists (E : Nat → Addr) (a1 a2 : Option Addr) (c1 c2 : Nat) (la lb : List P) (w : World) (hE : Errs [0, 1] E w) (h1 : Rd PT w a1 la.length la) (h2 : Rd PT w a2 lb.length lb)
    (hb1 : c1 ≤ 9223372036854775807) (hb2 : c2 ≤ 9223372036854775807) (hn1 : la.length ≤ c1) (hn2 : lb.length ≤ c2) (hlen : la.length + lb.length ≤ 4194304) :
    Calls Tryd.prog 30 #[.slice a1 la.length c1, .slice a2 lb.length c2] w fun e w' => ∃ v, e = .returned (.tuple #[v, errV E (listsL la lb).2]) ∧ Sep w w' [row CT v (listsL la lb).1] := by
  refine (callsIn_wide (n := 5)).1 ?_
  have HE := Lib.hid hE
  have H1 := Lib.hid h1
  have H2 := Lib.hid h2
  clear h1 h2 hE
  have hm : Tryd.prog.follows .mixedOrders = true := by kernel_rfl
  refine callsIn_of_wp_marks Tryd.func30 rfl trivial ?_ rfl
  simp only [Tryd.ntmps30, List.size_toArray, List.length_cons, List.length_nil, Nat.reduceAdd, Nat.reduceSub, Array.replicate_succ, Array.replicate_zero, List.push_toArray, List.append_toArray, List.nil_append, List.cons_append]
  by_cases hR1 : Rises (la.map P.k)
  · by_cases hR2 : Rises (lb.map P.k)
    · have t1 : True := trivial
      have t2 : True := trivial
      gi_wp2_with (first | (gi_at_call 79; clear t1; refine ((callsIn_wide.2 (risesP_yes a1 c1 la _ H1.out hR1))).mono ?_; rintro e w1 ⟨rfl, hw1⟩) | (gi_at_call 79; clear t2; refine ((callsIn_wide.2 (risesP_yes a2 c2 lb _ (H2.out.below hw1) hR2))).mono ?_; rintro e w2 ⟨rfl, hw2⟩) | (gi_at_call 87; refine (callsIn_wide.2 (sidesPP0 _ _ _ _ _ _ _)).mono ?_; rintro e w3 ⟨rfl, rfl⟩))
      have S1 := Lib.hid ((((((Sep.nil w).step hw1).step hw2).boxAt 23 [.slice none 0 0] _ rfl).boxAt 22 [.slice a1 la.length c1] (w2.heap.size + 1) (by simp)).boxAt 22 [.slice a2 lb.length c2] (w2.heap.size + 1 + 1) (by simp))
      have hsz : w.heap.size ≤ w2.heap.size := Nat.le_trans hw1.size hw2.size
      generalize hg : w2.heap.size = g at S1 hsz ⊢
      have hW0 : ∃ W0, W0 = (((w2.alloc (Obj.cells #[Value.slice none 0 0] 23)).alloc (Obj.cells #[Value.slice a1 la.length c1] 22)).alloc (Obj.cells #[Value.slice a2 lb.length c2] 22)) := ⟨_, rfl⟩
      obtain ⟨W0, hW0⟩ := hW0
      rw [← hW0]
      have hsz0 : w.heap.size ≤ W0.heap.size := by rw [hW0]; simp; omega
      have S2 : Hid (Sep w W0 _) := Lib.hid (by rw [hW0]; exact S1.out)
      clear S1 hw1 hw2 hW0
      refine wpIn_rangeFunc_ownG (α := Side la lb) rfl (by decide) (gf := 117) (lb := #[.pointer (some ⟨g + 1, 0, none⟩), .pointer (some ⟨g + 1 + 1, 0, none⟩)]) rfl trivial (enters_of Tryd.func117 (by kernel_rfl) rfl)
        (encs := Side.encs 2 2 a1 a2) (Kp := Kq (Kab w (g + 1) (g + 1 + 1))) (S := fun xs => xs.map Side.val = sidesL P.k P.k la lb) (Sp := fun pre => pre.map Side.val <+: sidesL P.k P.k la lb) (N := la.length + lb.length) (w0 := W0)
        ?seq Kq.trans ?kb (qrefl _) (fun _ => rfl)
        (fun pre W => ∃ v out, runAll (fun x y => some (keepC (listsOne x y))) (pre.map Side.val) = some out ∧ Sep w W [row CT v out, blk (g + 1 + 1) 22 [.slice a2 lb.length c2], blk (g + 1) 22 [.slice a1 la.length c1], blk g 23 [v]])
        (fun _ _ _ => False)
        ?hI (fun _ _ _ _ _ hs _ _ => hs) ?h0 (fun x => { tmps := #[.slice a1 la.length c1, .slice a2 lb.length c2, undef, undef, .slice none 0 0, .nilIface, .pointer (some ⟨g, 0, none⟩), ptr 2 a1 x.1.1, ptr 2 a2 x.1.2, undef, .slice a1 la.length c1, .bool true, .bool false, .bool false, .slice a2 lb.length c2, .bool true, .bool false, .bool false, undef, .slice a1 la.length c1, .slice a2 lb.length c2, .func (.func 117) #[] #[.pointer (some ⟨g + 1, 0, none⟩), .pointer (some ⟨g + 1 + 1, 0, none⟩)], ptr 2 a1 x.1.1, ptr 2 a2 x.1.2, undef, undef, undef, undef, undef, undef, undef, undef, undef, undef, undef, undef, undef, undef, undef, undef, undef, undef, undef, undef, undef, undef, undef, undef, undef, undef, undef, undef, undef, undef, undef, undef, undef, undef], defers := [] }) ?assign ?body ?done ?stop
      case seq =>
        intro l J Jx W hW hJ hJx hY h0
        exact sidesPP1 (g + 1) (g + 1 + 1) a1 a2 c1 c2 _ _ la lb (Kab w (g + 1) (g + 1 + 1)) (.inr (.inl rfl)) (.inr (.inr rfl)) (fun b o e => (H1.out.lt b o e).imp id .inl) (fun b o e => (H2.out.lt b o e).imp id .inl) l J Jx W
          (kab_lt (S2.out.step hW) (.tail _ (.head _)) (.head _)) hb1 hb2 hn1 hn2 (blk_mem (S2.out.step hW) (.tail _ (.head _)) 0 rfl) (blk_mem (S2.out.step hW) (.head _) 0 rfl) (H1.out.below (S2.out.step hW).below) (H2.out.below (S2.out.step hW).below)
          (fun pre A B h hg => hJ pre A B none h hg (fun r e => by cases e)) hY h0
      case kb => exact fun W l o o' hl _ _ _ => kq_put S2.out (.tail _ (.head _)) (.head _) l o' hl
      case hI =>
        rintro s A B r ⟨v, out, hr, S⟩ hg hrow
        exact ⟨v, out, hr, S.record (by intro c hc; simp at hc; rcases hc with rfl | rfl | rfl | rfl <;> first | exact row_cells _ _ _ | exact blk_cells _ _ _) hg (fun k e => ⟨by have := (hrow k e).1; omega, (hrow k e).2⟩)⟩
      case h0 => exact ⟨_, [], rfl, S2.out.none_ CT⟩
      case assign =>
        intro l x W K hK
        simp only [Side.encs]
        gi_wp2
        exact hK
      case body =>
        rintro l pre x W ⟨v, out, hr, S⟩ hN
        have hol : out.length ≤ 4194304 := by
          have := runAll_length (fun x y r h => by cases h; exact keepC_len _) hr
          simp at this
          omega
        have hb1' : (out.length + 1) * 56 ≤ 140737488355328 := by omega
        have T0 := Lib.hid ((Sep.nil W).boxAt 32 [.string ⟨#[]⟩, .bool false, .bool false, .string ⟨#[]⟩, .string ⟨#[]⟩] W.heap.size rfl)
        have hgW : g < W.heap.size := (S.lie (blk g 23 [v]) (.tail _ (.tail _ (.tail _ (.head _)))) g rfl).2
        have hcg := blk_mem S (g := g) (t := 23) (cs := [v]) (.tail _ (.tail _ (.tail _ (.head _)))) 0 rfl
        rcases x.ways with ⟨i, y, hy, hx1, hv⟩ | ⟨k, z, hz, hx1, hv⟩ | ⟨i, k, y, z, hy, hz, hx1, hv⟩
        · obtain ⟨b, o, y', hae, hy', d0, d1⟩ := rdP (H1.out.below S.below) (i := i) (List.getElem?_eq_some_iff.1 hy).1
          rw [hy] at hy'
          cases hy'
          subst hae
          simp only [hx1, ptr, Option.map]
          have hx2 := Lib.hid (And.intro hx1 hv)
          have hr2 := Lib.hid hr
          have S4 := Lib.hid S
          have bK : b < W.heap.size := World.block_lt_of_cell? W (a := ⟨b, _, none⟩) d0
          have e0 := qcell d0 T0.out.below
          have e1 := qcell d1 T0.out.below
          clear hr S hy
          gi_wp2
          generalize W.alloc (.cells #[.string ⟨#[]⟩, .bool false, .bool false, .string ⟨#[]⟩, .string ⟨#[]⟩] 32) = WC at T0 e0 e1 ⊢
          have x0 := kt_cell (K := fun k => k ≠ W.heap.size) (w := WC.drew) e0 (by show b ≠ W.heap.size; exact Nat.ne_of_lt bK)
          have x1 := kt_cell (K := fun k => k ≠ W.heap.size) (w := WC.drew) e1 (by show b ≠ W.heap.size; exact Nat.ne_of_lt bK)
          refine mixed_region (fun k => k ≠ W.heap.size) [0, 1, 2, 3, 4, 5, 6, 7] [8, 9, 10, 11, 12] _ _ _ hm (by kernel_rfl) (by kernel_rfl) (Eq.refl _) rfl (Eq.refl _) rfl rfl ?_
          simp only [List.filterMap_cons, List.filterMap_nil, List.getElem?_cons_succ, List.getElem?_cons_zero]
          change wpQuietIn _ _ _ _ _ _ (_ :: _ :: _ :: _ :: _ :: _ :: _ :: _ :: []) _
          gi_big_quiet_want
          gi_big_quiet_op
          go_big_quiet_on
          repeat (gi_big_quiet_step (fail))
          refine wpQuietIn_nil ?_
          clear x0 x1
          have T0z := Lib.hid T0.out.drew
          have f0 := blk_free T0z.out 0
          have z0 := blk_cell T0z.out 0 rfl
          refine ⟨.pointer (some ⟨W.heap.size, 0, none⟩), _, rfl, rfl, .inl (by simp [execOp, go_sem]), Kq.refl _ _, ?_⟩
          refine ⟨undef, (WC.drew).setCell ⟨W.heap.size, 0, none⟩ (.string y.k), rfl, rfl, (by unfold gives; simp [execOp, go_sem, f0, z0]), Kq.setCell (fun h => h rfl) _, ?_⟩
          clear f0 z0
          replace T0z := Lib.hid (blk_set T0z.out 0 (.string y.k))
          generalize (WC.drew).setCell ⟨W.heap.size, 0, none⟩ (.string y.k) = WD at T0z ⊢
          have f0 := blk_free T0z.out 1
          have z0 := blk_cell T0z.out 1 rfl
          refine ⟨.pointer (some ⟨W.heap.size, 1, none⟩), _, rfl, rfl, .inl (by simp [execOp, go_sem]), Kq.refl _ _, ?_⟩
          refine ⟨undef, (WD).setCell ⟨W.heap.size, 1, none⟩ (.bool true), rfl, rfl, (by unfold gives; simp [execOp, go_sem, f0, z0]), Kq.setCell (fun h => h rfl) _, ?_⟩
          clear f0 z0
          replace T0z := Lib.hid (blk_set T0z.out 1 (.bool true))
          generalize (WD).setCell ⟨W.heap.size, 1, none⟩ (.bool true) = WE at T0z ⊢
          have f0 := blk_free T0z.out 3
          have z0 := blk_cell T0z.out 3 rfl
          refine ⟨.pointer (some ⟨W.heap.size, 3, none⟩), _, rfl, rfl, .inl (by simp [execOp, go_sem]), Kq.refl _ _, ?_⟩
          simp only [wpWrites, Act.put, List.setIfInBounds_toArray, List.set_cons_succ, List.set_cons_zero]
          have Tf := Lib.hid (blk_set T0z.out 3 (.string y.v))
          have k0 := blk_cell Tf.out 0 rfl
          have k1 := blk_cell Tf.out 1 rfl
          have k2 := blk_cell Tf.out 2 rfl
          have k3 := blk_cell Tf.out 3 rfl
          have k4 := blk_cell Tf.out 4 rfl
          have hgF := qcell hcg Tf.out.below
          gi_wp2_with (first | (gi_at_call 88; refine ((callsIn_wide.2 (idle1_of ⟨y.k, true, false, y.v, ⟨#[]⟩⟩ false rfl _)).inRound l).mono ?_; rintro e w3 ⟨rfl, hw3⟩; replace Tf := Lib.hid (Tf.out.step hw3); clear k0 k1 k2 k3 k4 hgF hw3; have k0 := blk_cell Tf.out 0 rfl; have k1 := blk_cell Tf.out 1 rfl; have k2 := blk_cell Tf.out 2 rfl; have k3 := blk_cell Tf.out 3 rfl; have k4 := blk_cell Tf.out 4 rfl; have hgF := qcell hcg Tf.out.below) | (gi_at_builtin; refine appIn_sep elemC rfl (.tmp 53) (.tmp 55) rfl v out rfl ((S4.out.step Tf.out.below).alloc _) _ 1 1 [⟨y.k, true, false, y.v, ⟨#[]⟩⟩] rfl (rd_new CT _ ⟨y.k, true, false, y.v, ⟨#[]⟩⟩ _ rfl 32) hb1' ?_; intro v2 W2 S5 hk5; obtain ⟨g', n', c', rfl⟩ := row_succ S5; have hf2 := blk_free (Sep.up3 S5) 0; have hc2 := blk_mem S5 (g := g) (t := 23) (cs := [v]) (.tail _ (.tail _ (.tail _ (.head _)))) 0 rfl))
          exact round_put (x := x) W0.heap.size S4.out (qalloc Tf.out.below _) hk5 S5 hr2.out (by rw [hx2.out.2]; rfl)
        · obtain ⟨b, o, z', hae, hz', d0, d1⟩ := rdP (H2.out.below S.below) (i := k) (List.getElem?_eq_some_iff.1 hz).1
          rw [hz] at hz'
          cases hz'
          subst hae
          simp only [hx1, ptr, Option.map]
          have hx2 := Lib.hid (And.intro hx1 hv)
          have hr2 := Lib.hid hr
          have S4 := Lib.hid S
          have bK : b < W.heap.size := World.block_lt_of_cell? W (a := ⟨b, _, none⟩) d0
          have e0 := qcell d0 T0.out.below
          have e1 := qcell d1 T0.out.below
          clear hr S hz
          gi_wp2
          generalize W.alloc (.cells #[.string ⟨#[]⟩, .bool false, .bool false, .string ⟨#[]⟩, .string ⟨#[]⟩] 32) = WC at T0 e0 e1 ⊢
          have x0 := kt_cell (K := fun k => k ≠ W.heap.size) (w := WC.drew) e0 (by show b ≠ W.heap.size; exact Nat.ne_of_lt bK)
          have x1 := kt_cell (K := fun k => k ≠ W.heap.size) (w := WC.drew) e1 (by show b ≠ W.heap.size; exact Nat.ne_of_lt bK)
          refine mixed_region (fun k => k ≠ W.heap.size) [0, 1, 2, 3, 4, 5, 6, 7] [8, 9, 10, 11, 12] _ _ _ hm (by kernel_rfl) (by kernel_rfl) (Eq.refl _) rfl (Eq.refl _) rfl rfl ?_
          simp only [List.filterMap_cons, List.filterMap_nil, List.getElem?_cons_succ, List.getElem?_cons_zero]
          change wpQuietIn _ _ _ _ _ _ (_ :: _ :: _ :: _ :: _ :: _ :: _ :: _ :: []) _
          gi_big_quiet_want
          gi_big_quiet_op
          go_big_quiet_on
          repeat (gi_big_quiet_step (fail))
          refine wpQuietIn_nil ?_
          clear x0 x1
          have T0z := Lib.hid T0.out.drew
          have f0 := blk_free T0z.out 0
          have z0 := blk_cell T0z.out 0 rfl
          refine ⟨.pointer (some ⟨W.heap.size, 0, none⟩), _, rfl, rfl, .inl (by simp [execOp, go_sem]), Kq.refl _ _, ?_⟩
          refine ⟨undef, (WC.drew).setCell ⟨W.heap.size, 0, none⟩ (.string z.k), rfl, rfl, (by unfold gives; simp [execOp, go_sem, f0, z0]), Kq.setCell (fun h => h rfl) _, ?_⟩
          clear f0 z0
          replace T0z := Lib.hid (blk_set T0z.out 0 (.string z.k))
          generalize (WC.drew).setCell ⟨W.heap.size, 0, none⟩ (.string z.k) = WD at T0z ⊢
          have f0 := blk_free T0z.out 2
          have z0 := blk_cell T0z.out 2 rfl
          refine ⟨.pointer (some ⟨W.heap.size, 2, none⟩), _, rfl, rfl, .inl (by simp [execOp, go_sem]), Kq.refl _ _, ?_⟩
          refine ⟨undef, (WD).setCell ⟨W.heap.size, 2, none⟩ (.bool true), rfl, rfl, (by unfold gives; simp [execOp, go_sem, f0, z0]), Kq.setCell (fun h => h rfl) _, ?_⟩
          clear f0 z0
          replace T0z := Lib.hid (blk_set T0z.out 2 (.bool true))
          generalize (WD).setCell ⟨W.heap.size, 2, none⟩ (.bool true) = WE at T0z ⊢
          have f0 := blk_free T0z.out 4
          have z0 := blk_cell T0z.out 4 rfl
          refine ⟨.pointer (some ⟨W.heap.size, 4, none⟩), _, rfl, rfl, .inl (by simp [execOp, go_sem]), Kq.refl _ _, ?_⟩
          simp only [wpWrites, Act.put, List.setIfInBounds_toArray, List.set_cons_succ, List.set_cons_zero]
          have Tf := Lib.hid (blk_set T0z.out 4 (.string z.v))
          have k0 := blk_cell Tf.out 0 rfl
          have k1 := blk_cell Tf.out 1 rfl
          have k2 := blk_cell Tf.out 2 rfl
          have k3 := blk_cell Tf.out 3 rfl
          have k4 := blk_cell Tf.out 4 rfl
          have hgF := qcell hcg Tf.out.below
          gi_wp2_with (first | (gi_at_call 88; refine ((callsIn_wide.2 (idle1_of ⟨z.k, false, true, ⟨#[]⟩, z.v⟩ false rfl _)).inRound l).mono ?_; rintro e w3 ⟨rfl, hw3⟩; replace Tf := Lib.hid (Tf.out.step hw3); clear k0 k1 k2 k3 k4 hgF hw3; have k0 := blk_cell Tf.out 0 rfl; have k1 := blk_cell Tf.out 1 rfl; have k2 := blk_cell Tf.out 2 rfl; have k3 := blk_cell Tf.out 3 rfl; have k4 := blk_cell Tf.out 4 rfl; have hgF := qcell hcg Tf.out.below) | (gi_at_builtin; refine appIn_sep elemC rfl (.tmp 53) (.tmp 55) rfl v out rfl ((S4.out.step Tf.out.below).alloc _) _ 1 1 [⟨z.k, false, true, ⟨#[]⟩, z.v⟩] rfl (rd_new CT _ ⟨z.k, false, true, ⟨#[]⟩, z.v⟩ _ rfl 32) hb1' ?_; intro v2 W2 S5 hk5; obtain ⟨g', n', c', rfl⟩ := row_succ S5; have hf2 := blk_free (Sep.up3 S5) 0; have hc2 := blk_mem S5 (g := g) (t := 23) (cs := [v]) (.tail _ (.tail _ (.tail _ (.head _)))) 0 rfl))
          exact round_put (x := x) W0.heap.size S4.out (qalloc Tf.out.below _) hk5 S5 hr2.out (by rw [hx2.out.2]; rfl)
        · obtain ⟨b, o, y', hae, hy', d0, d1⟩ := rdP (H1.out.below S.below) (i := i) (List.getElem?_eq_some_iff.1 hy).1
          rw [hy] at hy'
          cases hy'
          subst hae
          obtain ⟨b', o', z', hae, hz', d2, d3⟩ := rdP (H2.out.below S.below) (i := k) (List.getElem?_eq_some_iff.1 hz).1
          rw [hz] at hz'
          cases hz'
          subst hae
          simp only [hx1, ptr, Option.map]
          have hx2 := Lib.hid (And.intro hx1 hv)
          have hr2 := Lib.hid hr
          have S4 := Lib.hid S
          have bK : b < W.heap.size := World.block_lt_of_cell? W (a := ⟨b, _, none⟩) d0
          have b'K : b' < W.heap.size := World.block_lt_of_cell? W (a := ⟨b', _, none⟩) d2
          have e0 := qcell d0 T0.out.below
          have e1 := qcell d1 T0.out.below
          clear hr S hy hz
          gi_wp2
          generalize W.alloc (.cells #[.string ⟨#[]⟩, .bool false, .bool false, .string ⟨#[]⟩, .string ⟨#[]⟩] 32) = WC at T0 e0 e1 ⊢
          have x0 := kt_cell (K := fun k => k ≠ W.heap.size) (w := WC.drew) e0 (by show b ≠ W.heap.size; exact Nat.ne_of_lt bK)
          have x1 := kt_cell (K := fun k => k ≠ W.heap.size) (w := WC.drew) e1 (by show b ≠ W.heap.size; exact Nat.ne_of_lt bK)
          refine mixed_region (fun k => k ≠ W.heap.size) [0, 1, 2, 3, 4, 5, 6, 7] [8, 9, 10, 11, 12] _ _ _ hm (by kernel_rfl) (by kernel_rfl) (Eq.refl _) rfl (Eq.refl _) rfl rfl ?_
          simp only [List.filterMap_cons, List.filterMap_nil, List.getElem?_cons_succ, List.getElem?_cons_zero]
          change wpQuietIn _ _ _ _ _ _ (_ :: _ :: _ :: _ :: _ :: _ :: _ :: _ :: []) _
          gi_big_quiet_want
          gi_big_quiet_op
          go_big_quiet_on
          repeat (gi_big_quiet_step (fail))
          refine wpQuietIn_nil ?_
          clear x0 x1
          have T0z := Lib.hid T0.out.drew
          have f0 := blk_free T0z.out 0
          have z0 := blk_cell T0z.out 0 rfl
          refine ⟨.pointer (some ⟨W.heap.size, 0, none⟩), _, rfl, rfl, .inl (by simp [execOp, go_sem]), Kq.refl _ _, ?_⟩
          refine ⟨undef, (WC.drew).setCell ⟨W.heap.size, 0, none⟩ (.string y.k), rfl, rfl, (by unfold gives; simp [execOp, go_sem, f0, z0]), Kq.setCell (fun h => h rfl) _, ?_⟩
          clear f0 z0
          replace T0z := Lib.hid (blk_set T0z.out 0 (.string y.k))
          generalize (WC.drew).setCell ⟨W.heap.size, 0, none⟩ (.string y.k) = WD at T0z ⊢
          have f0 := blk_free T0z.out 1
          have z0 := blk_cell T0z.out 1 rfl
          refine ⟨.pointer (some ⟨W.heap.size, 1, none⟩), _, rfl, rfl, .inl (by simp [execOp, go_sem]), Kq.refl _ _, ?_⟩
          refine ⟨undef, (WD).setCell ⟨W.heap.size, 1, none⟩ (.bool true), rfl, rfl, (by unfold gives; simp [execOp, go_sem, f0, z0]), Kq.setCell (fun h => h rfl) _, ?_⟩
          clear f0 z0
          replace T0z := Lib.hid (blk_set T0z.out 1 (.bool true))
          generalize (WD).setCell ⟨W.heap.size, 1, none⟩ (.bool true) = WE at T0z ⊢
          have f0 := blk_free T0z.out 3
          have z0 := blk_cell T0z.out 3 rfl
          refine ⟨.pointer (some ⟨W.heap.size, 3, none⟩), _, rfl, rfl, .inl (by simp [execOp, go_sem]), Kq.refl _ _, ?_⟩
          simp only [wpWrites, Act.put, List.setIfInBounds_toArray, List.set_cons_succ, List.set_cons_zero]
          have Tf := Lib.hid (blk_set T0z.out 3 (.string y.v))
          gi_wp2
          generalize WE.setCell ⟨W.heap.size, 3, none⟩ (.string y.v) = WF at Tf ⊢
          clear f0 z0
          have e2 := qcell d2 Tf.out.below
          have e3 := qcell d3 Tf.out.below
          have x0 := kt_cell (K := fun k => k ≠ W.heap.size) (w := WF.drew) e2 (by show b' ≠ W.heap.size; exact Nat.ne_of_lt b'K)
          have x1 := kt_cell (K := fun k => k ≠ W.heap.size) (w := WF.drew) e3 (by show b' ≠ W.heap.size; exact Nat.ne_of_lt b'K)
          refine mixed_region (fun k => k ≠ W.heap.size) [0, 1, 2, 3, 4, 5, 6, 7] [8, 9, 10, 11, 12] _ _ _ hm (by kernel_rfl) (by kernel_rfl) (Eq.refl _) rfl (Eq.refl _) rfl rfl ?_
          simp only [List.filterMap_cons, List.filterMap_nil, List.getElem?_cons_succ, List.getElem?_cons_zero]
          change wpQuietIn _ _ _ _ _ _ (_ :: _ :: _ :: _ :: _ :: _ :: _ :: _ :: []) _
          gi_big_quiet_want
          gi_big_quiet_op
          go_big_quiet_on
          repeat (gi_big_quiet_step (fail))
          refine wpQuietIn_nil ?_
          clear x0 x1
          have Tfz := Lib.hid Tf.out.drew
          have f0 := blk_free Tfz.out 0
          have z0 := blk_cell Tfz.out 0 rfl
          refine ⟨.pointer (some ⟨W.heap.size, 0, none⟩), _, rfl, rfl, .inl (by simp [execOp, go_sem]), Kq.refl _ _, ?_⟩
          refine ⟨undef, (WF.drew).setCell ⟨W.heap.size, 0, none⟩ (.string z.k), rfl, rfl, (by unfold gives; simp [execOp, go_sem, f0, z0]), Kq.setCell (fun h => h rfl) _, ?_⟩
          clear f0 z0
          replace Tfz := Lib.hid (blk_set Tfz.out 0 (.string z.k))
          generalize (WF.drew).setCell ⟨W.heap.size, 0, none⟩ (.string z.k) = WG at Tfz ⊢
          have f0 := blk_free Tfz.out 2
          have z0 := blk_cell Tfz.out 2 rfl
          refine ⟨.pointer (some ⟨W.heap.size, 2, none⟩), _, rfl, rfl, .inl (by simp [execOp, go_sem]), Kq.refl _ _, ?_⟩
          refine ⟨undef, (WG).setCell ⟨W.heap.size, 2, none⟩ (.bool true), rfl, rfl, (by unfold gives; simp [execOp, go_sem, f0, z0]), Kq.setCell (fun h => h rfl) _, ?_⟩
          clear f0 z0
          replace Tfz := Lib.hid (blk_set Tfz.out 2 (.bool true))
          generalize (WG).setCell ⟨W.heap.size, 2, none⟩ (.bool true) = WH at Tfz ⊢
          have f0 := blk_free Tfz.out 4
          have z0 := blk_cell Tfz.out 4 rfl
          refine ⟨.pointer (some ⟨W.heap.size, 4, none⟩), _, rfl, rfl, .inl (by simp [execOp, go_sem]), Kq.refl _ _, ?_⟩
          simp only [wpWrites, Act.put, List.setIfInBounds_toArray, List.set_cons_succ, List.set_cons_zero]
          have Th := Lib.hid (blk_set Tfz.out 4 (.string z.v))
          cases hidle : C.idle ⟨z.k, true, true, y.v, z.v⟩
          · have hI := Lib.hid hidle
            clear hidle
            have k0 := blk_cell Th.out 0 rfl
            have k1 := blk_cell Th.out 1 rfl
            have k2 := blk_cell Th.out 2 rfl
            have k3 := blk_cell Th.out 3 rfl
            have k4 := blk_cell Th.out 4 rfl
            have hgF := qcell hcg Th.out.below
            gi_wp2_with (first | (gi_at_call 88; refine ((callsIn_wide.2 (idle1_of ⟨z.k, true, true, y.v, z.v⟩ false hI.out _)).inRound l).mono ?_; rintro e w3 ⟨rfl, hw3⟩; replace Th := Lib.hid (Th.out.step hw3); clear k0 k1 k2 k3 k4 hgF hw3; have k0 := blk_cell Th.out 0 rfl; have k1 := blk_cell Th.out 1 rfl; have k2 := blk_cell Th.out 2 rfl; have k3 := blk_cell Th.out 3 rfl; have k4 := blk_cell Th.out 4 rfl; have hgF := qcell hcg Th.out.below) | (gi_at_builtin; refine appIn_sep elemC rfl (.tmp 53) (.tmp 55) rfl v out rfl ((S4.out.step Th.out.below).alloc _) _ 1 1 [⟨z.k, true, true, y.v, z.v⟩] rfl (rd_new CT _ ⟨z.k, true, true, y.v, z.v⟩ _ rfl 32) hb1' ?_; intro v2 W2 S5 hk5; obtain ⟨g', n', c', rfl⟩ := row_succ S5; have hf2 := blk_free (Sep.up3 S5) 0; have hc2 := blk_mem S5 (g := g) (t := 23) (cs := [v]) (.tail _ (.tail _ (.tail _ (.head _)))) 0 rfl))
            exact round_put (x := x) W0.heap.size S4.out (qalloc Th.out.below _) hk5 S5 hr2.out (by rw [hx2.out.2]; show some (keepC ⟨z.k, true, true, y.v, z.v⟩) = _; unfold keepC; rw [hI.out]; rfl)
          · have hI := Lib.hid hidle
            clear hidle
            have k0 := blk_cell Th.out 0 rfl
            have k1 := blk_cell Th.out 1 rfl
            have k2 := blk_cell Th.out 2 rfl
            have k3 := blk_cell Th.out 3 rfl
            have k4 := blk_cell Th.out 4 rfl
            have hgF := qcell hcg Th.out.below
            gi_wp2_with (gi_at_call 88; refine ((callsIn_wide.2 (idle1_of ⟨z.k, true, true, y.v, z.v⟩ true hI.out _)).inRound l).mono ?_; rintro e w3 ⟨rfl, hw3⟩; replace Th := Lib.hid (Th.out.step hw3); clear k0 k1 k2 k3 k4 hgF hw3)
            exact round_skip (x := x) W0.heap.size S4.out Th.out.below hr2.out (by rw [hx2.out.2]; show some (keepC ⟨z.k, true, true, y.v, z.v⟩) = _; unfold keepC; rw [hI.out]; rfl)
      case done =>
        rintro D ys W hD hys ⟨v, out, hr, S⟩ hK
        have hcg := blk_mem S (g := g) (t := 23) (cs := [v]) (.tail _ (.tail _ (.tail _ (.head _)))) 0 rfl
        have hans := Lib.hid (answer_ok ⟨hR1, hR2⟩ (hys ▸ hr))
        have S4 := Lib.hid S
        obtain ⟨va, vn, vc, rfl⟩ : ∃ a n c, v = .slice a n c := by
          rcases Row.form S.hd with ⟨rfl, _⟩ | ⟨_, c, rfl, _⟩
          · exact ⟨_, _, _, rfl⟩
          · exact ⟨_, _, _, rfl⟩
        clear S hr hys
        gi_wp2
        have SF := S4.out.record (by intro c hc; simp at hc; rcases hc with rfl | rfl | rfl | rfl <;> first | exact row_cells _ _ _ | exact blk_cells _ _ _) (grownBy_putObj' _ D (.deferred none)) (fun k e => by cases e; exact ⟨by omega, _, hK, rfl⟩)
        refine ⟨by simp, .inl ⟨_, _, rfl, run_takeDeferred hK, .tuple #[.slice va vn vc, .nilIface], by simp [results, Tryd.results30, go_sem], .slice va vn vc, ?_, ?_⟩⟩
        · show _ = Ending.returned (.tuple #[_, errV E (answer P.k P.k (fun x y => some (keepC (listsOne x y))) la lb).2])
          rw [hans.out]
          rfl
        · show Sep w _ [row CT _ (answer P.k P.k (fun x y => some (keepC (listsOne x y))) la lb).1]
          rw [hans.out]
          exact SF.first
      case stop =>
        rintro D c pre W _ _ h _
        exact h.elim
    · have t1 : True := trivial
      have t2 : True := trivial
      gi_wp2_with (first | (gi_at_call 79; clear t1; refine ((callsIn_wide.2 (risesP_yes a1 c1 la _ H1.out hR1))).mono ?_; rintro e w1 ⟨rfl, hw1⟩) | (gi_at_call 79; clear t2; refine ((callsIn_wide.2 (risesP_no a2 c2 lb _ (H2.out.below hw1) hR2))).mono ?_; rintro e w2 ⟨rfl, hw2⟩))
      have hans := Lib.hid (answer_order (f := fun x y => some (keepC (listsOne x y))) (ka := P.k) (kb := P.k) (a := la) (b := lb) (fun h => hR2 h.2))
      have hb := qbelow hw1 hw2
      have q1 := (HE.out.below hb).cell 0 (by decide)
      generalize w2 = W9 at hb q1 ⊢
      gi_region
      all_goals gi_wp2
      all_goals exact ⟨.tuple #[.slice none 0 0, errV E (some 0)], by simp only [errV]; simp [results, Tryd.results30, go_sem], .slice none 0 0, (by show _ = Ending.returned (.tuple #[_, errV E (answer P.k P.k (fun x y => some (keepC (listsOne x y))) la lb).2]); rw [hans.out]), (by show Sep w _ [row CT _ (answer P.k P.k (fun x y => some (keepC (listsOne x y))) la lb).1]; rw [hans.out]; exact ((Sep.nil w).step hb).drew.none_ CT)⟩
  · gi_wp2_with (first | (gi_at_call 79; refine ((callsIn_wide.2 (risesP_no a1 c1 la _ H1.out hR1))).mono ?_; rintro e w1 ⟨rfl, hw1⟩))
    have hans := Lib.hid (answer_order (f := fun x y => some (keepC (listsOne x y))) (ka := P.k) (kb := P.k) (a := la) (b := lb) (fun h => hR1 h.1))
    have q1 := (HE.out.below hw1).cell 0 (by decide)
    generalize w1 = W9 at hw1 q1 ⊢
    gi_region
    all_goals gi_wp2
    all_goals exact ⟨.tuple #[.slice none 0 0, errV E (some 0)], by simp only [errV]; simp [results, Tryd.results30, go_sem], .slice none 0 0, (by show _ = Ending.returned (.tuple #[_, errV E (answer P.k P.k (fun x y => some (keepC (listsOne x y))) la lb).2]); rw [hans.out]), (by show Sep w _ [row CT _ (answer P.k P.k (fun x y => some (keepC (listsOne x y))) la lb).1]; rw [hans.out]; exact ((Sep.nil w).step hw1).drew.none_ CT)⟩
end Go.Proofs.YtdkailccfcijiaaDoor
