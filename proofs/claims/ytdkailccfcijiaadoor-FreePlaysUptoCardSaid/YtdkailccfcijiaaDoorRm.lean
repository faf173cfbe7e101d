/- A region that draws its order: reads of memory that is kept, and operations that write elsewhere, in one order among themselves: one walk serves every order, in a round too. No condition. -/
import Derived.Test.YtdkailccfcijiaaDoorRg
namespace Go.Proofs.YtdkailccfcijiaaDoor
open Go.RowKit Go.Shelf
set_option linter.unusedVariables false
set_option linter.unusedSimpArgs false

/-- The worlds that agree with w on the blocks of K. -/
structure Kt (K : Nat → Prop) (w : World) where
  to : World
  same : Kq K w to
def kx (K : Nat → Prop) (w : World) (k : Kt K w) : World := k.to
instance (K : Nat → Prop) (w : World) : Nonempty (Kt K w) := ⟨⟨w, fun _ _ => rfl⟩⟩
theorem kt_cell {K : Nat → Prop} {w : World} {a : Addr} {v : Value} (h : w.cell? a = some v) (ha : K a.block) (k : Kt K w) : (kx K w k).cell? a = some v := k.same.cell ha h
theorem Kq.refl (K : Nat → Prop) (w : World) : Kq K w w := fun _ _ => rfl
theorem Kq.setCell {K : Nat → Prop} {w : World} {p : Addr} (h : ¬ K p.block) (u : Value) : Kq K w (w.setCell p u) := fun k hk => Below.heap_setCell w p u k (fun e => h (e ▸ hk))

section
variable {P : Program} {ops : Array Oper} {md : Region.Mode} {C' : World → Prop}
def Region.writesB (md : Region.Mode) (ops : Array Oper) (n : Nat) : List Nat → Array Bool → Bool
  | j :: js, listed => decide (j < n) && decide (Region.ready md ops listed = [j]) && Region.writesB md ops n js (listed.setIfInBounds j true)
  | [], listed => Region.seqB md ops 1 n listed
def Region.mixedB (md : Region.Mode) (ops : Array Oper) (n : Nat) (js : List Nat) : List Nat → Array Bool → Bool
  | i :: rs, listed => decide (i < n) && (Region.ready md ops listed).contains i && Region.free md ops listed i && Region.mixedB md ops n js rs (listed.setIfInBounds i true)
  | [], listed => Region.writesB md ops n js listed
/-- The writers, one behind the other; the last one is walked. -/
def wpWrites (F : Fence) (m : Nat) (P : Program) (ops : Array Oper) (Q : Exit → Act → World → Prop) (K : Nat → Prop) (oL : Oper) : List Oper → Act → World → Prop
  | [], a, w => wpListIn F m P ops Q [oL] a w
  | o :: os, a, w => ∃ v w', o.guard = none ∧ o.about P w a.eval = none ∧ gives P a o w v w' ∧ Kq K w w' ∧ wpWrites F m P ops Q K oL os (a.put o.dst v) w'
theorem mixed_writes {F : Fence} {m : Nat} {Q : Exit → Act → World → Prop} {K : Nat → Prop} {w0 : World} {n : Nat} {oL : Oper} (hL : ops[n]? = some oL) : ∀ (js : List Nat) (os : List Oper) (listed : Array Bool) (a : Act) (w : World), os.length = js.length → (∀ (j i : Nat), js[j]? = some i → os[j]? = ops[i]?) →
    Region.writesB md ops n js listed = true → Kq K w0 w → wpWrites F m P ops Q K oL os a w →
    headAny P md ops (fun w' => ∃ k, w' = kx K w0 k) n (fun listed a w => Region.seqB md ops 1 n listed = true ∧ ∃ o, ops[n]? = some o ∧ wpListIn F m P ops Q [o] a w) js.length listed a w
  | [], [], listed, a, w, _, _, hB, hk, h => ⟨⟨⟨w, hk⟩, rfl⟩, by simpa [Region.writesB] using hB, oL, hL, h⟩
  | [], o :: os, _, _, _, hl, _, _, _, _ => by simp at hl
  | j :: js, [], _, _, _, hl, _, _, _, _ => by simp at hl
  | j :: js, o :: os, listed, a, w, hl, hat, hB, hk, h => by
    have h1 : ops[j]? = some o := by simpa using (hat 0 j (by simp)).symm
    simp only [Region.writesB, Bool.and_eq_true, decide_eq_true_eq] at hB
    obtain ⟨⟨hj, hr⟩, hB⟩ := hB
    obtain ⟨v, w', h2, h3, h4, h5, h6⟩ := h
    refine ⟨⟨⟨w, hk⟩, rfl⟩, by rw [hr]; simp, fun i hi => ?_⟩
    rw [hr] at hi
    have hij : i = j := by simpa using hi
    subst hij
    exact ⟨hj, o, h1, h3, .inl ⟨by simp [Region.wanted, h2], v, w', h4, mixed_writes hL js os _ _ w' (by simpa using hl) (fun j' i' hj' => by simpa using hat (j' + 1) i' (by simpa using hj')) hB (hk.trans h5) h6⟩⟩
theorem mixed_reads {F : Fence} {m : Nat} {Q : Exit → Act → World → Prop} {K : Nat → Prop} {w : World} {n : Nat} {js : List Nat} {os : List Oper} {oL : Oper} (hoL : ops[n]? = some oL) (hjl : os.length = js.length) (hjat : ∀ (j i : Nat), js[j]? = some i → os[j]? = ops[i]?) (hsel : Region.noSelect ops = true) (hs : Region.sinkB md ops n = true) (hc : Region.chainB md ops n = true) (hn : n < ops.size) :
    ∀ (rs : List Nat) (l : List Oper) (listed : Array Bool) (a : Act), l.length = rs.length → (∀ (j i : Nat), rs[j]? = some i → l[j]? = ops[i]?) → HeadInv md ops n listed → Region.mixedB md ops n js rs listed = true →
    wpQuietIn Fnone m P ops (fun w' => ∃ k, w' = kx K w k) (fun a' => wpWrites F m P ops Q K oL os a' w) l a →
    headAny P md ops (fun w' => ∃ k, w' = kx K w k) n (fun listed a w => Region.seqB md ops 1 n listed = true ∧ ∃ o, ops[n]? = some o ∧ wpListIn F m P ops Q [o] a w) (rs.length + js.length) listed a w
  | [], [], listed, a, _, _, inv, hB, h => by
    rw [List.length_nil, Nat.zero_add]
    exact mixed_writes hoL js os listed a w hjl hjat (by simpa [Region.mixedB] using hB) (Kq.refl K w) h
  | [], o :: l, _, _, hl, _, _, _, _ => by simp at hl
  | i :: rs, [], _, _, hl, _, _, _, _ => by simp at hl
  | i :: rs, o :: l, listed, a, hl, hat, inv, hB, h => by
    have h0 : ops[i]? = some o := by simpa using (hat 0 i (by simp)).symm
    simp only [Region.mixedB, Bool.and_eq_true, decide_eq_true_eq] at hB
    obtain ⟨⟨⟨hin, hr⟩, hf⟩, hB'⟩ := hB
    have hr' : i ∈ Region.ready md ops listed := by simpa using hr
    obtain ⟨v, hy, hK⟩ := calm_of_quiet h0 h
    rw [List.length_cons, show rs.length + 1 + js.length = (rs.length + js.length) + 1 by omega]
    exact headAny_first h0 (Region.noSelect_spec hsel) hs hc hn hin (fun listed' a' w' hL => seqB_ready hL.1) (rs.length + js.length) listed a w inv (Region.free_spec h0 hf) hr' hy ⟨⟨w, Kq.refl K w⟩, rfl⟩
      (mixed_reads hoL hjl hjat hsel hs hc hn rs l _ _ (by simpa using hl) (fun j i' hj => by simpa using hat (j + 1) i' (by simpa using hj)) (inv.set hr' hin) hB' hK)
end
/-- THE LAW: rs: the reads, in an order; js: the writers but the last one, which stands last in the text. l: the reads' operations. -/
theorem mixed_region {F : Fence} {m : Nat} {P : Program} {id : Nat} {Q : Exit → Act → World → Prop} {a : Act} {w : World} {ops : List Oper} (K : Nat → Prop) (rs js : List Nat) (l os : List Oper) (oL : Oper) (hm : P.follows .mixedOrders = true) (hd : (ops.all Oper.noDefer) = true)
    (hB : (Region.noSelect ops.toArray && decide (0 < ops.length) && decide (rs.length + js.length + 1 = ops.length) && Region.sinkB .any ops.toArray (ops.length - 1) && Region.chainB .any ops.toArray (ops.length - 1) && Region.mixedB .any ops.toArray (ops.length - 1) js rs (Array.replicate ops.length false)) = true)
    (hl : l = rs.filterMap fun i => ops[i]?) (hlen : l.length = rs.length) (hos : os = js.filterMap fun i => ops[i]?) (hosl : os.length = js.length) (hoL : ops[ops.length - 1]? = some oL)
    (h : wpQuietIn Fnone m P ops.toArray (fun w' => ∃ k, w' = kx K w.drew k) (fun a' => wpWrites F m P ops.toArray Q K oL os a' w.drew) l a) : (Code.region id ops.toArray true).wpIn F m P Q a w := by
  have hd2 : ∀ o ∈ ops.toArray, Oper.noDefer o = true := fun o ho => List.all_eq_true.1 hd o (by simpa using ho)
  simp only [Bool.and_eq_true, decide_eq_true_eq] at hB
  obtain ⟨⟨⟨⟨⟨hsel, hpos⟩, hcount⟩, hs⟩, hc⟩, hmx⟩ := hB
  have inv0 : HeadInv .any ops.toArray (ops.length - 1) (Array.replicate ops.length false) :=
    ⟨by simp, fun j oj _ hl => (by rw [getD_replicate_false] at hl; cases hl), fun t _ ht => getD_in (by simpa using ht) (getD_replicate_false _ _)⟩
  have hat : ∀ (rs : List Nat) (l : List Oper), l = rs.filterMap (fun i => ops[i]?) → l.length = rs.length → ∀ (j i : Nat), rs[j]? = some i → l[j]? = ops.toArray[i]? := by
    intro rs
    induction rs with
    | nil => intro l _ _ j i hj; simp at hj
    | cons i0 rs ih =>
      intro l hl hlen j i hj
      cases ho : ops[i0]? with
      | none =>
        rw [List.filterMap_cons_none ho] at hl
        have h1 := List.length_filterMap_le (fun i => ops[i]?) rs
        have h2 : l.length = rs.length + 1 := hlen
        have h3 : l.length = (List.filterMap (fun i => ops[i]?) rs).length := by rw [hl]
        omega
      | some o =>
        rw [List.filterMap_cons_some ho] at hl
        subst hl
        cases j with
        | zero => simp at hj; subst hj; simp [ho]
        | succ j => simpa using ih _ rfl (by simpa using hlen) j i (by simpa using hj)
  refine wpIn_region_any hm ?_
  have H := mixed_reads (P := P) (md := .any) (F := F) (m := m) (Q := Q) (w := w.drew) (n := ops.length - 1) (js := js) (os := os) (oL := oL) (by simpa using hoL) hosl (hat js os hos hosl) hsel hs hc (by simp; omega) rs l _ a hlen (hat rs l hl hlen) inv0 hmx h
  have H2 := headAny.wpAnyIn (F := F) (m := m) (Q := Q) hd2 (g := 1) (fun listed a' w' hL => by
    obtain ⟨hq, o, ho, hw⟩ := hL
    have hlast : ∀ j, [o][j]? = ops.toArray[ops.length - 1 + j]? := by
      intro j
      cases j with
      | zero => simpa using ho.symm
      | succ j =>
        have : ops.toArray[ops.length - 1 + (j + 1)]? = none := Array.getElem?_eq_none (by simp; omega)
        rw [this]
        rfl
    exact seq_list (F := F) (m := m) (md := .any) (Q := Q) hd2 [o] (ops.length - 1) listed a' w' hlast hq hw) _ _ _ _ H
  rw [show rs.length + js.length + 1 = ops.toArray.size by simp; exact hcount] at H2
  simpa using H2
end Go.Proofs.YtdkailccfcijiaaDoor
