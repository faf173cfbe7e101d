/- The free map copied: Copy. No condition but the sizes. -/
import Derived.Test.YtdkailccfcijiaaDoorFd
import Derived.Laws.CopyRow
namespace Go.Proofs.YtdkailccfcijiaaDoor
open Go.RowKit Go.Shelf
set_option linter.unusedVariables false
set_option linter.unusedSimpArgs false
set_option maxRecDepth 100000

theorem fm_turn {w0 w : World} {L : List Chunk} {p g pages : Nat} {zs ws : List Nat} (S : Sep w0 w (fm p g pages zs :: L)) (hl : zs.length = ws.length) : Sep w0 (w.setRow g (ws.map wordV).toArray) (fm p g pages ws :: L) := by
  have h : (fm p g pages zs).is w := S.hd
  have hne : ¬ g = p := fun e => h.1 e.symm
  refine S.turn (d := fm p g pages ws) ⟨rfl, rfl, rfl, by simp [World.setRow], fun k _ hn => ?_⟩ ⟨h.1, ?_, ?_⟩ (fun i hi => .inl hi)
  · have : ¬ g = k := fun e => hn (.inr e.symm)
    simp [World.setRow, Array.getElem?_modify, this]
  · have h2 := h.2.1
    rw [hl] at h2
    show (w.setRow g _).heap[p]? = _
    simp [World.setRow, Array.getElem?_modify, hne, h2]
  · show (w.setRow g _).heap[g]? = _
    simp [World.setRow, Array.getElem?_modify, h.2.2]
theorem add_plain0 {b : Nat} (n : Nat) : (⟨b, 0, none⟩ : Addr).add n = ⟨b, n, none⟩ := by
  unfold Addr.add
  split
  · rename_i h; subst h; rfl
  · simp
theorem size54 : (Tryd.prog.info? 54).map (·.size) = some 1 := by kernel_rfl
/-- copy(c.set, m.set). -/
theorem copyIn_fm {F : Fence} {m : Nat} {w0 w : World} {L : List Chunk} {ops : Array Oper} {rest : List Oper} {o : Oper} {a : Act} {Q : Exit → Act → World → Prop} {p g p2 g2 pages pages2 n : Nat} {zs ws : List Nat} (hgd : o.guard = none) (d s : Operand)
    (ho : o.op = .call { callee := .builtin .copy, args := #[d, s], argTypes := #[151, 151] }) (hd : a.eval d = .slice (some ⟨g, 0, none⟩) n n) (hs : a.eval s = .slice (some ⟨g2, 0, none⟩) n n)
    (S : Sep w0 w (fm p g pages zs :: fm p2 g2 pages2 ws :: L)) (hz : zs.length = n) (hw : ws.length = n)
    (h : ∀ w', Sep w0 w' (fm p g pages ws :: fm p2 g2 pages2 ws :: L) → wpListIn F m Tryd.prog ops Q rest (a.put o.dst (.int .i64 n)) w') : wpListIn F m Tryd.prog ops Q (o :: rest) a w := by
  refine wpListIn_plain hgd fun K hK' => ?_
  have h1 : (fm p g pages zs).is w := S.hd
  have hrun := run_copy_row (P := Tryd.prog) w 151 151 o.type 54 g 0 n n ⟨g2, 0, none⟩ n n (zs.map wordV).toArray 54 (ws.map wordV) Tryd.underlying151 size54 h1.2.2 (by simp [hw]) (fun j v hv => by
      obtain ⟨x, hx, rfl⟩ : ∃ x, ws[j]? = some x ∧ wordV x = v := by simpa using hv
      rw [add_plain0]
      exact fm_word (Sep.up1 S) hx) (by simp [hw, hz]) (fun v hv => by
      obtain ⟨x, _, rfl⟩ := List.mem_map.1 hv
      rfl)
  have e : ((zs.map wordV).toArray.toList.take 0 ++ ws.map wordV ++ (zs.map wordV).toArray.toList.drop (0 + (ws.map wordV).length)).toArray = (ws.map wordV).toArray := by
    simp [hw, hz]
  rw [e] at hrun
  have hlen : (ws.map wordV).length = n := by simp [hw]
  rw [hlen] at hrun
  unfold Oper.wpIn
  refine ⟨?_, ?_⟩
  · simp [Oper.about, ho, resolve, Target.leads, Sem.run_pure]
  · rw [Oper.semAt_plain F _ _ (by rw [ho]; intro c hc'; cases hc')]
    simp [execOp, ho, resolve, invoke, builtin, hd, hs, hrun, Result.andThen]
    exact hK' _ _ (h _ (fm_turn S (hz.trans hw.symm)))
theorem quiet_mono {m : Nat} {P : Program} {ops : Array Oper} {C' : World → Prop} : ∀ (k : List Oper) (a : Act) (Q1 Q2 : Act → Prop), (∀ a, Q1 a → Q2 a) → wpQuietIn Fnone m P ops C' Q1 k a → wpQuietIn Fnone m P ops C' Q2 k a := by
  intro k
  induction k with
  | nil => intro a Q1 Q2 hq h; exact hq _ h
  | cons o k ih =>
    intro a Q1 Q2 hq h
    refine ⟨h.1, ?_⟩
    have h2 := h.2
    split
    · rename_i hw
      rw [if_pos hw] at h2
      exact Oper.quietIn_mono (fun a h => ih a Q1 Q2 hq h) h2
    · rename_i hw
      rw [if_neg hw] at h2
      exact ih _ Q1 Q2 hq h2
/-- A drawn region: reads, then words are made, then the rest in one order. -/
theorem made_words_region {F : Fence} {m : Nat} {id : Nat} {Q : Exit → Act → World → Prop} {a : Act} {w : World} {l : List Oper} (r n : Nat) (hn : n ≤ 16777216) (hm : Tryd.prog.follows .mixedOrders = true) (hd : (l.all Oper.noDefer) = true) (hB : Region.madeB .any l.toArray r = true)
    (h : wpQuietIn Fnone m Tryd.prog l.toArray (fun w' => ∃ k, w' = wx w k) (fun a' => ∃ oB x y kl kc, l[r]? = some oB ∧ oB.guard = none ∧ oB.op = .makeSlice 151 x y ∧ a'.eval x = .int kl (n : Int) ∧ a'.eval y = .int kc (n : Int) ∧
      wpListIn F m Tryd.prog l.toArray Q (l.drop (r + 1)) (a'.put oB.dst (.slice (some ⟨w.drew.heap.size, 0, none⟩) n n)) (w.drew.alloc (.cells (zeroWords n) 54))) (l.take r) a) : (Code.region id l.toArray true).wpIn F m Tryd.prog Q a w := by
  refine made_region r hm hd hB (quiet_mono _ _ _ _ ?_ h)
  rintro a' ⟨oB, x, y, kl, kc, h1, h2, h3, h4, h5, h6⟩
  refine ⟨oB, _, _, h1, h2, by simp [Oper.about, h3], ?_, qalloc (qrefl _) _, h6⟩
  unfold execOp
  simp only [h3, h4, h5, Sem.run_bind, Sem.run_pure, run_words w.drew kl kc n hn, Result.andThen_ok]
  rfl
set_option maxHeartbeats 4000000 in
theorem copy61 {w0 w : World} {L : List Chunk} {p g pages : Nat} {ws : List Nat} (S : Sep w0 w (fm p g pages ws :: L)) (hok : FmOk pages ws) :
    Calls Tryd.prog 61 #[.pointer (some ⟨p, 0, none⟩)] w fun e w' => ∃ p2 g2, e = .returned (.pointer (some ⟨p2, 0, none⟩)) ∧ Sep w0 w' (fm p2 g2 pages ws :: fm p g pages ws :: L) := by
  have HS := Lib.hid S
  have c0 := fm_cell0 S
  have c1 := fm_cell1 S
  have hlen : ws.length ≤ 16384 := by have h1 := hok.len; have h2 := hok.hi; omega
  have hmo : Tryd.prog.follows .mixedOrders = true := by kernel_rfl
  clear S hok
  generalize hn : ws.length = n at c1 hlen
  have HN := Lib.hid hn
  clear hn
  refine (callsIn_wide (n := 3)).1 ?_
  refine callsIn_of_wp Tryd.func61 rfl trivial ?_ rfl
  simp only [Tryd.ntmps61, List.size_toArray, List.length_cons, List.length_nil, Nat.reduceAdd, Nat.reduceSub, Array.replicate_succ, Array.replicate_zero, List.push_toArray, List.append_toArray, List.nil_append, List.cons_append]
  have x0 := xt_cell c0
  have x1 := xt_cell c1
  gi_wp2
  refine made_words_region 9 n (by omega) hmo (by kernel_rfl) (by kernel_rfl) ?_
  simp only [List.take_succ_cons, List.take_zero, List.drop_succ_cons, List.drop_zero]
  repeat (gi_big_quiet_step (fail))
  refine wpQuietIn_nil ?_
  refine ⟨_, _, _, _, _, rfl, rfl, rfl, rfl, rfl, ?_⟩
  simp only [Act.put, List.setIfInBounds_toArray, List.set_cons_succ, List.set_cons_zero]
  have hs := Lib.hid (fm_new HS.out pages n).drew
  gi_upto_region 2 with fail
  generalize ((w.alloc (.cells (zeroWords n) 54)).alloc (.cells #[.int .i64 pages, .slice (some ⟨w.heap.size, 0, none⟩) n n] 153)).drew = W1 at hs ⊢
  clear c0 c1 x0 x1
  have HD := Lib.hid hs.out.drew
  have d1 := fm_cell1 HD.out
  have d2 := fm_cell1 (Sep.up1 HD.out)
  rw [List.length_replicate] at d1
  rw [HN.out] at d2
  have x1 := kt_cell (K := fun _ => True) d1 trivial
  have x2 := kt_cell (K := fun _ => True) d2 trivial
  clear d1 d2
  refine mixed_region (fun _ => True) [0, 1, 2, 3, 4, 5, 6, 7] [] _ _ _ hmo (by kernel_rfl) (by kernel_rfl) (Eq.refl _) rfl (Eq.refl _) rfl rfl ?_
  simp only [List.filterMap_cons, List.filterMap_nil, List.getElem?_cons_succ, List.getElem?_cons_zero]
  change wpQuietIn _ _ _ _ _ _ (_ :: _ :: _ :: _ :: _ :: _ :: _ :: _ :: []) _
  gi_big_quiet_want
  gi_big_quiet_op
  go_big_quiet_on
  repeat (gi_big_quiet_step (fail))
  refine wpQuietIn_nil ?_
  simp only [wpWrites, Act.put, List.setIfInBounds_toArray, List.set_cons_succ, List.set_cons_zero]
  refine copyIn_fm rfl (.tmp 19) (.tmp 23) rfl rfl rfl HD.out (by simp) HN.out ?_
  intro w4 S4
  have HF := Lib.hid S4
  clear S4 x1 x2
  gi_wp2
  refine bodyPost_ret (v := .pointer (some ⟨w.heap.size + 1, 0, none⟩)) (by simp [results, Tryd.results61, go_sem]) rfl ⟨w.heap.size + 1, w.heap.size, rfl, HF.out⟩
end Go.Proofs.YtdkailccfcijiaaDoor
