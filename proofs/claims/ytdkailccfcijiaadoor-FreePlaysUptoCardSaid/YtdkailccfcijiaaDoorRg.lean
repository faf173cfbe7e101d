/- A region that draws its order: reads, then one operation that makes memory, then operations in one forced order: one walk serves every order, in a round too. No condition. -/
import Derived.StillTail
import Derived.Sort.BigQuietIn
import Derived.Test.YtdkailccfcijiaaDoorDh
namespace Go.Proofs.YtdkailccfcijiaaDoor
open Go.RowKit Go.Shelf
set_option linter.unusedVariables false
set_option linter.unusedSimpArgs false

/-- No function may be called. -/
def Fnone : Fence := { fn := fun _ => False }
section
variable {P : Program} {ops : Array Oper} {md : Region.Mode} {C' : World → Prop}
/-- What an operation gives, in a world: a value, or nothing. -/
def gives (P : Program) (a : Act) (o : Oper) (w : World) (v : Value) (w' : World) : Prop := (execOp a.eval o).run P w = .ok (.value v) w' ∨ ((execOp a.eval o).run P w = .ok .skip w' ∧ v = undef)
/-- In whatever world of the class: no call, and the value v, the world as it was. -/
def Calm (P : Program) (ops : Array Oper) (C' : World → Prop) (o : Oper) (v : Value) (a : Act) : Prop :=
  (∀ w, C' w → o.about P w a.eval = none) ∧ ((Region.wanted o (yielded ops a.tmps) = true ∧ ∀ w, C' w → gives P a o w v w) ∨ (Region.wanted o (yielded ops a.tmps) = false ∧ v = undef))
def headOp (P : Program) (ops : Array Oper) (i : Nat) (K : Act → World → Prop) (a : Act) (w : World) : Prop :=
  ∃ o, ops[i]? = some o ∧ o.about P w a.eval = none ∧ ((Region.wanted o (yielded ops a.tmps) = true ∧ ∃ v w', gives P a o w v w' ∧ K (a.put o.dst v) w') ∨ (Region.wanted o (yielded ops a.tmps) = false ∧ K (a.put o.dst undef) w))
theorem headOp.mono {i : Nat} {K K' : Act → World → Prop} {a : Act} {w : World} (hk : ∀ a w, K a w → K' a w) (h : headOp P ops i K a w) : headOp P ops i K' a w := by
  obtain ⟨o, ho, ha, h⟩ := h
  refine ⟨o, ho, ha, ?_⟩
  rcases h with ⟨hw, v, w', hg, h⟩ | ⟨hw, h⟩
  · exact .inl ⟨hw, v, w', hg, hk _ _ h⟩
  · exact .inr ⟨hw, hk _ _ h⟩
theorem headOp.wpOpIn {F : Fence} {n : Nat} {Q : Exit → Act → World → Prop} {i : Nat} {K : Act → World → Prop} {a : Act} {w : World} (hd : ∀ o ∈ ops, Oper.noDefer o = true) (h : headOp P ops i K a w) : wpOpIn F n P ops Q i K a w := by
  obtain ⟨o, ho, ha, h⟩ := h
  have hdo := hd o (Array.mem_of_getElem? ho)
  unfold Go.wpOpIn
  simp only [ho]
  have hab : ∀ f, o.about P w a.eval = some f → F.fn f := fun f hf => by rw [ha] at hf; cases hf
  rcases h with ⟨hw, v, w', hg, h⟩ | ⟨hw, h⟩
  · simp only [hw, if_true]
    unfold Oper.wpIn
    refine ⟨hab, ?_⟩
    rw [Oper.semAt_eq _ _ _ (fun c e => by simp [Oper.noDefer, e] at hdo)]
    rcases hg with hg | ⟨hg, rfl⟩
    · rw [hg, Oper.uponIn_value]; exact h
    · rw [hg, Oper.uponIn_skip]; exact h
  · simp only [hw, Bool.false_eq_true, if_false]
    exact ⟨hab, h⟩
theorem Calm.headOp {i : Nat} {o : Oper} {v : Value} {a : Act} {w : World} {K : Act → World → Prop} (ho : ops[i]? = some o) (hy : Calm P ops C' o v a) (hw : C' w) (h : K (a.put o.dst v) w) : headOp P ops i K a w := by
  refine ⟨o, ho, hy.1 w hw, ?_⟩
  rcases hy.2 with ⟨h1, h2⟩ | ⟨h1, rfl⟩
  · exact .inl ⟨h1, v, w, h2 w hw, h⟩
  · exact .inr ⟨h1, h⟩
theorem Calm.same {o : Oper} {v : Value} {a a' : Act} (hy : Calm P ops C' o v a) (he : execOp a'.eval o = execOp a.eval o) (hw : Region.wanted o (yielded ops a'.tmps) = Region.wanted o (yielded ops a.tmps)) (hb : ∀ w, o.about P w a'.eval = o.about P w a.eval) : Calm P ops C' o v a' := by
  unfold Calm gives at *
  rw [he, hw]
  exact ⟨fun w hc => by rw [hb w]; exact hy.1 w hc, hy.2⟩
theorem headOp_put {j : Nat} {oi oj : Oper} {v : Value} (hj : ops[j]? = some oj) (hap : oi.apart ops oj = true) (hsi : ∀ cs b, oi.op ≠ .select cs b) (hsj : ∀ cs b, oj.op ≠ .select cs b) {K : Act → World → Prop} {a : Act} {w : World}
    (hy : Calm P ops C' oi v a) (h : headOp P ops j K (a.put oi.dst v) w) : headOp P ops j (fun a' w' => Calm P ops C' oi v a' ∧ K (a'.put oi.dst v) w') a w := by
  obtain ⟨h1, h2, h3⟩ := Oper.apart_spec hap
  have keep : ∀ (a : Act), Calm P ops C' oi v a → ∀ u, Calm P ops C' oi v (a.put oj.dst u) := fun a hy u =>
    hy.same (execOp_put oi hsi a oj.dst u h3) (wanted_put oi a oj.dst u h3) (fun w => about_put oi w a oj.dst u h3)
  obtain ⟨o, ho, ha, h⟩ := h
  have : o = oj := Option.some.inj (ho.symm.trans hj)
  subst this
  rw [about_put o w a oi.dst v h1] at ha
  rw [wanted_put o a oi.dst v h1] at h
  refine ⟨o, ho, ha, ?_⟩
  rcases h with ⟨hw, u, w', hg, h⟩ | ⟨hw, h⟩
  · refine .inl ⟨hw, u, w', ?_, keep a hy u, by rw [← Act.put_comm a v u h2]; exact h⟩
    unfold gives at *
    rwa [execOp_put o hsj a oi.dst v h1] at hg
  · exact .inr ⟨hw, keep a hy _, by rw [← Act.put_comm a v undef h2]; exact h⟩

/-- The head, whatever order; each world of it lies in the class. -/
def headAny (P : Program) (md : Region.Mode) (ops : Array Oper) (C' : World → Prop) (n : Nat) (L : Array Bool → Act → World → Prop) : Nat → Array Bool → Act → World → Prop
  | 0, listed, a, w => C' w ∧ L listed a w
  | f + 1, listed, a, w => C' w ∧ Region.ready md ops listed ≠ [] ∧ ∀ i ∈ Region.ready md ops listed, i < n ∧ headOp P ops i (headAny P md ops C' n L f (listed.setIfInBounds i true)) a w
theorem headAny.here {n : Nat} {L : Array Bool → Act → World → Prop} {f : Nat} {listed : Array Bool} {a : Act} {w : World} (h : headAny P md ops C' n L f listed a w) : C' w := by
  cases f with
  | zero => exact h.1
  | succ f => exact h.1
theorem headAny.wpAnyIn {F : Fence} {m : Nat} {Q : Exit → Act → World → Prop} (hd : ∀ o ∈ ops, Oper.noDefer o = true) {n g : Nat} {L : Array Bool → Act → World → Prop} (hL : ∀ listed a w, L listed a w → wpAnyIn F m P md ops Q g listed a w) :
    ∀ (f : Nat) (listed : Array Bool) (a : Act) (w : World), headAny P md ops C' n L f listed a w → wpAnyIn F m P md ops Q (f + g) listed a w
  | 0, listed, a, w, h => by rw [Nat.zero_add]; exact hL _ _ _ h.2
  | f + 1, listed, a, w, h => by
    rw [show f + 1 + g = (f + g) + 1 by omega]
    exact ⟨fun h0 => absurd h0 h.2.1, fun i hi => headOp.wpOpIn hd ((h.2.2 i hi).2.mono fun a' w' h' => headAny.wpAnyIn hd hL f _ a' w' h')⟩
theorem headAny_first {n i : Nat} {oi : Oper} {v : Value} {L : Array Bool → Act → World → Prop} (hi : ops[i]? = some oi) (hsel : ∀ (j : Nat) (o : Oper) cs b, ops[j]? = some o → o.op ≠ .select cs b)
    (hs : Region.sinkB md ops n = true) (hc : Region.chainB md ops n = true) (hn : n < ops.size) (hin : i < n) (hdone : ∀ listed a w, L listed a w → ∀ j ∈ Region.ready md ops listed, n ≤ j) :
    ∀ (f : Nat) (listed : Array Bool) (a : Act) (w : World), HeadInv md ops n listed →
      (∀ j oj, ops[j]? = some oj → j ≠ i → listed.getD j true = false → (∀ e ∈ oj.after, Region.binds md e = true → e.on ≠ i) → oi.apart ops oj = true) →
      i ∈ Region.ready md ops listed → Calm P ops C' oi v a → C' w →
      headAny P md ops C' n L f (listed.setIfInBounds i true) (a.put oi.dst v) w → headAny P md ops C' n L (f + 1) listed a w := by
  intro f
  induction f with
  | zero =>
    intro listed a w inv _ hr hy hw H
    have hun := (mem_ready.1 hr).1
    refine ⟨hw, fun h => (by rw [h] at hr; cases hr), fun j hj => ?_⟩
    have hjn : j < n := Nat.lt_of_not_le fun h => tail_waits hs hc hn inv _ i rfl hin hun j h hj
    refine ⟨hjn, ?_⟩
    by_cases hji : j = i
    · subst hji; exact hy.headOp hi hw H
    · have := hdone _ _ _ H.2 j (ready_mono hj hji)
      omega
  | succ f ih =>
    intro listed a w inv hfree hr hy hw H
    have hun := (mem_ready.1 hr).1
    refine ⟨hw, fun h => (by rw [h] at hr; cases hr), fun j hj => ?_⟩
    have hjn : j < n := Nat.lt_of_not_le fun h => tail_waits hs hc hn inv _ i rfl hin hun j h hj
    refine ⟨hjn, ?_⟩
    by_cases hji : j = i
    · subst hji; exact hy.headOp hi hw H
    · have h1 := (H.2.2 j (ready_mono hj hji)).2
      obtain ⟨hjun, oj, hoj, hall⟩ := mem_ready.1 hj
      have hnot : ∀ e ∈ oj.after, Region.binds md e = true → e.on ≠ i := fun e he hb heq => by
        have h1 := hall e he hb
        rw [heq, getD_both hun] at h1
        cases h1
      have h2 := headOp_put hoj (hfree j oj hoj hji hjun hnot) (fun cs b => hsel i oi cs b hi) (fun cs b => hsel j oj cs b hoj) hy h1
      have hfree' : ∀ k ok, ops[k]? = some ok → k ≠ i → (listed.setIfInBounds j true).getD k true = false → (∀ e ∈ ok.after, Region.binds md e = true → e.on ≠ i) → oi.apart ops ok = true := fun k ok hk hki hun hno => by
        refine hfree k ok hk hki ?_ hno
        by_cases hjk : j = k
        · subst hjk; exact hjun
        · rw [getD_set_ne true hjk] at hun; exact hun
      refine h2.mono fun a' w' h3 => ?_
      have h4 : headAny P md ops C' n L f ((listed.setIfInBounds j true).setIfInBounds i true) (a'.put oi.dst v) w' := by
        rw [Array.setIfInBounds_comm _ _ hji]
        exact h3.2
      exact ih (listed.setIfInBounds j true) a' w' (inv.set hj hjn) hfree' (ready_mono hr (Ne.symm hji)) h3.1 h4.here h4
/-- What a walk that only reads shows of one operation. -/
theorem calm_of_quiet {m : Nat} {i : Nat} {o : Oper} {rest : List Oper} {Q : Act → Prop} {a : Act} (hi : ops[i]? = some o) (h : wpQuietIn Fnone m P ops C' Q (o :: rest) a) : ∃ v, Calm P ops C' o v a ∧ wpQuietIn Fnone m P ops C' Q rest (a.put o.dst v) := by
  obtain ⟨ha, h⟩ := h
  have hab : ∀ w, C' w → o.about P w a.eval = none := fun w hw => by
    cases hf : o.about P w a.eval with
    | none => rfl
    | some f => exact (ha w hw f hf).elim
  by_cases hw : Region.wanted o (yielded ops a.tmps) = true
  · rw [if_pos hw] at h
    obtain ⟨v, h1, h2⟩ := h
    refine ⟨v, ⟨hab, .inl ⟨hw, fun w hc => ?_⟩⟩, h2⟩
    have h3 := h1 w hc
    unfold Oper.quietAtIn at h3
    unfold gives
    generalize (execOp a.eval o).run P w = r at *
    cases r with
    | halt x w' => simp only [Oper.quietUponIn] at h3
    | ok x w' =>
      cases x <;> simp only [Oper.quietUponIn] at h3
      case value u => obtain ⟨rfl, rfl⟩ := h3; exact .inl rfl
      case skip => obtain ⟨rfl, rfl⟩ := h3; exact .inr ⟨rfl, rfl⟩
      case enter f args => exact h3.2.2.1.elim
  · rw [if_neg hw] at h
    exact ⟨undef, ⟨hab, .inr ⟨by simpa using hw, rfl⟩⟩, h⟩

/-- The reads in the text's order, each free of what has not come; behind them one order alone. -/
def Region.readsB (md : Region.Mode) (ops : Array Oper) (g : Nat) : Nat → Nat → Array Bool → Bool
  | 0, k, listed => Region.seqB md ops g k listed
  | f + 1, k, listed => (Region.ready md ops listed).contains k && Region.free md ops listed k && Region.readsB md ops g f (k + 1) (listed.setIfInBounds k true)
def Region.madeB (md : Region.Mode) (ops : Array Oper) (r : Nat) : Bool :=
  Region.noSelect ops && decide (r + 1 < ops.size) && Region.sinkB md ops (r + 1) && Region.chainB md ops (r + 1) && Region.readsB md ops (ops.size - r) r 0 (Array.replicate ops.size false)
theorem seq_list {F : Fence} {m : Nat} {Q : Exit → Act → World → Prop} (hd : ∀ o ∈ ops, Oper.noDefer o = true) : ∀ (l : List Oper) (k : Nat) (listed : Array Bool) (a : Act) (w : World), (∀ j, l[j]? = ops[k + j]?) →
    Region.seqB md ops l.length k listed = true → wpListIn F m P ops Q l a w → wpAnyIn F m P md ops Q l.length listed a w
  | [], _, _, _, _, _, hB, h => ⟨by simpa [Region.seqB] using hB, h⟩
  | o :: l, k, listed, a, w, hl, hB, h => by
    have h0 : ops[k]? = some o := by simpa using (hl 0).symm
    simp only [List.length_cons, Region.seqB, Bool.and_eq_true, decide_eq_true_eq] at hB
    refine ⟨fun h1 => (by rw [hB.1] at h1; cases h1), fun i hi => ?_⟩
    rw [hB.1] at hi
    have hik : i = k := by simpa using hi
    subst hik
    have hstep : ∀ a' w', wpListIn F m P ops Q l a' w' → wpAnyIn F m P md ops Q l.length (listed.setIfInBounds i true) a' w' :=
      fun a' w' h' => seq_list hd l (i + 1) _ a' w' (fun j => by have := hl (j + 1); simpa [Nat.add_assoc, Nat.add_comm 1 j] using this) hB.2 h'
    unfold wpOpIn
    simp only [h0]
    unfold wpListIn at h
    split
    · rename_i hw
      rw [if_pos hw] at h
      exact Oper.wpIn_mono hstep h
    · rename_i hw
      rw [if_neg hw] at h
      exact ⟨h.1, hstep _ _ h.2⟩
theorem reads_lex {m g r : Nat} {w : World} {oB : Oper} {L : Array Bool → Act → World → Prop} {Lq : Act → Prop} (hsel : Region.noSelect ops = true) (hs : Region.sinkB md ops (r + 1) = true) (hc : Region.chainB md ops (r + 1) = true) (hn : r + 1 < ops.size) (hB0 : ops[r]? = some oB)
    (hdone : ∀ listed a w, L listed a w → ∀ j ∈ Region.ready md ops listed, r + 1 ≤ j)
    (hw : C' w) (hlast : ∀ listed a, HeadInv md ops (r + 1) listed → Region.seqB md ops g r listed = true → Lq a → headAny P md ops C' (r + 1) L 1 listed a w) :
    ∀ (l : List Oper) (k : Nat) (listed : Array Bool) (a : Act), (∀ j, j < l.length → l[j]? = ops[k + j]?) → k + l.length = r → HeadInv md ops (r + 1) listed →
    Region.readsB md ops g l.length k listed = true → wpQuietIn Fnone m P ops C' Lq l a → headAny P md ops C' (r + 1) L (l.length + 1) listed a w
  | [], k, listed, a, _, hk, inv, hB, h => by
    have : k = r := by simpa using hk
    subst this
    exact hlast listed a inv (by simpa [Region.readsB] using hB) h
  | o :: l, k, listed, a, hl, hk, inv, hB, h => by
    have h0 : ops[k]? = some o := by simpa using (hl 0 (by simp)).symm
    simp only [List.length_cons, Region.readsB, Bool.and_eq_true] at hB
    obtain ⟨⟨hr, hf⟩, hB'⟩ := hB
    have hkn : k < r + 1 := by simp only [List.length_cons] at hk; omega
    have hr' : k ∈ Region.ready md ops listed := by simpa using hr
    obtain ⟨v, hy, hK⟩ := calm_of_quiet h0 h
    exact headAny_first h0 (Region.noSelect_spec hsel) hs hc hn hkn hdone (l.length + 1) listed a w inv (Region.free_spec h0 hf) hr' hy hw
      (reads_lex hsel hs hc hn hB0 hdone hw hlast l (k + 1) _ _ (fun j hj => by have := hl (j + 1) (by simp; omega); simpa [Nat.add_assoc, Nat.add_comm 1 j] using this) (by simp only [List.length_cons] at hk; omega) (inv.set hr' hkn) hB' hK)
end
/-- THE LAW: r reads; the operation of number r, which makes memory; the rest in one order. -/
theorem made_region {F : Fence} {m : Nat} {P : Program} {id : Nat} {Q : Exit → Act → World → Prop} {a : Act} {w : World} {l : List Oper} (r : Nat) (hm : P.follows .mixedOrders = true) (hd : (l.all Oper.noDefer) = true) (hB : Region.madeB .any l.toArray r = true)
    (h : wpQuietIn Fnone m P l.toArray (fun w' => ∃ k, w' = wx w k) (fun a' => ∃ oB u w1, l[r]? = some oB ∧ oB.guard = none ∧ oB.about P w.drew a'.eval = none ∧ (execOp a'.eval oB).run P w.drew = .ok (.value u) w1 ∧ Below w.drew.heap.size w.drew w1 ∧
      wpListIn F m P l.toArray Q (l.drop (r + 1)) (a'.put oB.dst u) w1) (l.take r) a) : (Code.region id l.toArray true).wpIn F m P Q a w := by
  have hd2 : ∀ o ∈ l.toArray, Oper.noDefer o = true := fun o ho => List.all_eq_true.1 hd o (by simpa using ho)
  simp only [Region.madeB, Bool.and_eq_true, decide_eq_true_eq] at hB
  obtain ⟨⟨⟨⟨hsel, hn⟩, hs⟩, hc⟩, hlex⟩ := hB
  have hn' : r + 1 < l.length := by simpa using hn
  have htl : (l.take r).length = r := by simp; omega
  have hdl : (l.drop (r + 1)).length = l.toArray.size - (r + 1) := by simp
  have inv0 : HeadInv .any l.toArray (r + 1) (Array.replicate l.toArray.size false) :=
    ⟨by simp, fun j oj _ hl => (by rw [getD_replicate_false] at hl; cases hl), fun t _ ht => getD_in (by simpa using ht) (getD_replicate_false _ _)⟩
  have hgr : l.toArray.size - r = (l.toArray.size - (r + 1)) + 1 := by simp; omega
  refine wpIn_region_any hm ?_
  obtain ⟨oB0, hoB0⟩ : ∃ oB, l.toArray[r]? = some oB := ⟨_, Array.getElem?_eq_getElem (by simp; omega)⟩
  -- what stands behind the head
  have H := reads_lex (P := P) (md := .any) (m := m) (w := w.drew) (g := l.toArray.size - r) (r := r) (C' := fun w' => ∃ k, w' = wx w k)
    (L := fun listed a' w' => Region.seqB .any l.toArray (l.toArray.size - (r + 1)) (r + 1) listed = true ∧ wpListIn F m P l.toArray Q (l.drop (r + 1)) a' w')
    (Lq := fun a' => ∃ oB u w1, l[r]? = some oB ∧ oB.guard = none ∧ oB.about P w.drew a'.eval = none ∧ (execOp a'.eval oB).run P w.drew = .ok (.value u) w1 ∧ Below w.drew.heap.size w.drew w1 ∧ wpListIn F m P l.toArray Q (l.drop (r + 1)) (a'.put oB.dst u) w1)
    hsel hs hc hn hoB0 (fun listed a' w' hL => seqB_ready hL.1) ⟨⟨w.drew, qdrew (qrefl w)⟩, rfl⟩ ?last (l.take r) 0 _ a (fun j hj => by
      have hj' : j < r := by rw [htl] at hj; exact hj
      simp [hj']) (by simpa using htl) inv0 (by rw [htl]; exact hlex) h
  case last =>
    rintro listed a' inv hseq ⟨oB, u, w1, h1, h2, h3, h4, h5, h6⟩
    rw [hgr] at hseq
    simp only [Region.seqB, Bool.and_eq_true, decide_eq_true_eq] at hseq
    refine ⟨⟨⟨w.drew, qdrew (qrefl w)⟩, rfl⟩, by rw [hseq.1]; simp, fun i hi => ?_⟩
    rw [hseq.1] at hi
    have hir : i = r := by simpa using hi
    subst hir
    refine ⟨by omega, oB, by simpa using h1, h3, .inl ⟨by simp [Region.wanted, h2], u, w1, .inl h4, ⟨⟨w1, qbelow (qdrew (qrefl w)) h5⟩, rfl⟩, hseq.2, h6⟩⟩
  have H2 := headAny.wpAnyIn (F := F) (m := m) (Q := Q) hd2 (g := l.toArray.size - (r + 1)) (fun listed a' w' hL => by
    have := seq_list (F := F) (m := m) (md := .any) (Q := Q) hd2 (l.drop (r + 1)) (r + 1) listed a' w' (fun j => by simp [List.getElem?_drop]) (by rw [hdl]; exact hL.1) hL.2
    rwa [hdl] at this) _ _ _ _ H
  rw [htl, show r + 1 + (l.toArray.size - (r + 1)) = l.toArray.size by omega] at H2
  exact H2

/-- The same, where the operation of number r makes a slice of one element. -/
theorem made_slice {F : Fence} {m : Nat} {P : Program} {id : Nat} {Q : Exit → Act → World → Prop} {a : Act} {w : World} {l : List Oper} (r : Nat) (hm : P.follows .mixedOrders = true) (hd : (l.all Oper.noDefer) = true) (hB : Region.madeB .any l.toArray r = true)
    (h : wpQuietIn Fnone m P l.toArray (fun w' => ∃ k, w' = wx w k) (fun a' => ∃ oB t x u w1, l[r]? = some oB ∧ oB.guard = none ∧ oB.op = .buildSlice t 1 #[(0, x)] ∧ (Instr.buildSlice t 1 #[(0, a'.eval x)]).run P w.drew = .ok u w1 ∧ Below w.drew.heap.size w.drew w1 ∧
      wpListIn F m P l.toArray Q (l.drop (r + 1)) (a'.put oB.dst u) w1) (l.take r) a) : (Code.region id l.toArray true).wpIn F m P Q a w := by
  refine made_region r hm hd hB ?_
  have hmono : ∀ (k : List Oper) (a : Act) (Q1 Q2 : Act → Prop), (∀ a, Q1 a → Q2 a) → wpQuietIn Fnone m P l.toArray (fun w' => ∃ k, w' = wx w k) Q1 k a → wpQuietIn Fnone m P l.toArray (fun w' => ∃ k, w' = wx w k) Q2 k a := by
    intro k
    induction k with
    | nil => intro a Q1 Q2 hq h; exact hq _ h
    | cons o k ih =>
      intro a Q1 Q2 hq h
      refine ⟨h.1, ?_⟩
      have h2 := h.2
      split
      · rename_i hw
        rw [if_pos hw] at h2
        exact Oper.quietIn_mono (fun a h => ih a Q1 Q2 hq h) h2
      · rename_i hw
        rw [if_neg hw] at h2
        exact ih _ Q1 Q2 hq h2
  refine hmono _ _ _ _ ?_ h
  rintro a' ⟨oB, t, x, u, w1, h1, h2, h3, h4, h5, h6⟩
  refine ⟨oB, u, w1, h1, h2, by simp [Oper.about, h3], ?_, h5, h6⟩
  simp only [execOp, h3, List.map_toArray, List.map_cons, List.map_nil, Sem.run_bind, h4, Result.andThen_ok, Sem.run_pure]
end Go.Proofs.YtdkailccfcijiaaDoor
