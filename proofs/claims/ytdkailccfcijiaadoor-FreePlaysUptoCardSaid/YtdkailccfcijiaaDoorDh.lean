/- Two lists side by side: the plain word; words of walks inside a fence. No condition. -/
import Derived.Test.YtdkailccfcijiaaDoorDg
import Derived.RangeFuncNested
import Derived.RangeFuncBound
import Derived.RangeFuncCalls
import Derived.RangeFuncLeaves
import Derived.Shelf.Abstract
import Derived.Shelf.RegionOpen
import Derived.OwnWalkIn
import Derived.TacticsInMore
import Derived.LoopNIn
import Derived.LoopIn
import Derived.Sort.BigQuietIn
namespace Go.Proofs.YtdkailccfcijiaaDoor
open Go.RowKit Go.Shelf
set_option linter.unusedVariables false
set_option linter.unusedSimpArgs false
set_option maxRecDepth 100000

/-! ### side by side -/
section
variable {α β : Type} (ka : α → ByteArray) (kb : β → ByteArray)
def lessK (x y : ByteArray) : Bool := Op.bytesLess x.toList y.toList
def sidesL : List α → List β → List (Option α × Option β)
  | [], [] => []
  | x :: a, [] => (some x, none) :: sidesL a []
  | [], y :: b => (none, some y) :: sidesL [] b
  | x :: a, y :: b => if lessK (ka x) (kb y) then (some x, none) :: sidesL a (y :: b) else if lessK (kb y) (ka x) then (none, some y) :: sidesL (x :: a) b else (some x, some y) :: sidesL a b
termination_by a b => a.length + b.length

variable {ka kb} {l1 : List α} {l2 : List β} {i k : Nat} {x : α} {y : β}
theorem drop_at {γ : Type} {l : List γ} {i : Nat} {x : γ} (h : l[i]? = some x) : l.drop i = x :: l.drop (i + 1) := by
  obtain ⟨h1, h2⟩ := List.getElem?_eq_some_iff.1 h
  rw [List.drop_eq_getElem_cons h1, h2]
theorem sides_left (hx : l1[i]? = some x) (hk : l2.length ≤ k) : sidesL ka kb (l1.drop i) (l2.drop k) = (some x, none) :: sidesL ka kb (l1.drop (i + 1)) (l2.drop k) := by
  rw [drop_at hx, List.drop_of_length_le hk, sidesL]
theorem sides_right (hi : l1.length ≤ i) (hy : l2[k]? = some y) : sidesL ka kb (l1.drop i) (l2.drop k) = (none, some y) :: sidesL ka kb (l1.drop i) (l2.drop (k + 1)) := by
  rw [drop_at hy, List.drop_of_length_le hi, sidesL]
theorem sides_lt (hx : l1[i]? = some x) (hy : l2[k]? = some y) (h : Op.bytesLess (ka x).toList (kb y).toList = true) : sidesL ka kb (l1.drop i) (l2.drop k) = (some x, none) :: sidesL ka kb (l1.drop (i + 1)) (l2.drop k) := by
  rw [drop_at hx, drop_at hy, sidesL, if_pos (show lessK _ _ = true from h)]
theorem sides_gt (hx : l1[i]? = some x) (hy : l2[k]? = some y) (h : Op.bytesLess (kb y).toList (ka x).toList = true) : sidesL ka kb (l1.drop i) (l2.drop k) = (none, some y) :: sidesL ka kb (l1.drop i) (l2.drop (k + 1)) := by
  rw [drop_at hx, drop_at hy, sidesL, if_neg (by unfold lessK; rw [bl_asymm h]; decide), if_pos (show lessK _ _ = true from h)]
theorem sides_eq (hx : l1[i]? = some x) (hy : l2[k]? = some y) (h1 : Op.bytesLess (ka x).toList (kb y).toList = false) (h2 : Op.bytesLess (kb y).toList (ka x).toList = false) : sidesL ka kb (l1.drop i) (l2.drop k) = (some x, some y) :: sidesL ka kb (l1.drop (i + 1)) (l2.drop (k + 1)) := by
  rw [drop_at hx, drop_at hy, sidesL, if_neg (by unfold lessK; rw [h1]; decide), if_neg (by unfold lessK; rw [h2]; decide)]
theorem sides_end (hi : l1.length ≤ i) (hk : l2.length ≤ k) : sidesL ka kb (l1.drop i) (l2.drop k) = [] := by
  rw [List.drop_of_length_le hi, List.drop_of_length_le hk, sidesL]
end

/-- Which elements come: their numbers. -/
def Side {α β : Type} (l1 : List α) (l2 : List β) : Type := { x : Option Nat × Option Nat // (∀ i, x.1 = some i → i < l1.length) ∧ (∀ k, x.2 = some k → k < l2.length) ∧ ¬ (x.1 = none ∧ x.2 = none) }
def Side.val {α β : Type} {l1 : List α} {l2 : List β} (x : Side l1 l2) : Option α × Option β := (x.1.1.bind fun i => l1[i]?, x.1.2.bind fun k => l2[k]?)
def ptr (sz : Nat) (a : Option Addr) : Option Nat → Value
  | none => .pointer none
  | some i => .pointer (a.map fun p => ⟨p.block, p.off + i * sz, none⟩)
def Side.encs {α β : Type} {l1 : List α} {l2 : List β} (s1 s2 : Nat) (a1 a2 : Option Addr) (x : Side l1 l2) : Array Value := #[ptr s1 a1 x.1.1, ptr s2 a2 x.1.2]
def Side.left {α β : Type} {l1 : List α} {l2 : List β} (i : Nat) (h : i < l1.length) : Side l1 l2 := ⟨(some i, none), (fun _ e => by cases e; exact h), (fun _ e => by cases e), (fun h => by cases h.1)⟩
def Side.right {α β : Type} {l1 : List α} {l2 : List β} (k : Nat) (h : k < l2.length) : Side l1 l2 := ⟨(none, some k), (fun _ e => by cases e), (fun _ e => by cases e; exact h), (fun h => by cases h.2)⟩
def Side.both {α β : Type} {l1 : List α} {l2 : List β} (i k : Nat) (h : i < l1.length) (h2 : k < l2.length) : Side l1 l2 := ⟨(some i, some k), (fun _ e => by cases e; exact h), (fun _ e => by cases e; exact h2), (fun h => by cases h.1)⟩

theorem side_step {α β : Type} {l1 : List α} {l2 : List β} {pre : List (Side l1 l2)} {M T R : List (Option α × Option β)} (hS : pre.map Side.val ++ M = R) (s : Side l1 l2) {v : Option α × Option β} (hv : s.val = v) (hd : M = v :: T) :
    (pre ++ [s]).map Side.val ++ T = R ∧ (pre ++ [s]).map Side.val <+: R := by
  subst hd hv
  have h : (pre ++ [s]).map Side.val ++ T = R := by rw [List.map_append, List.append_assoc, ← hS]; rfl
  exact ⟨h, ⟨T, h⟩⟩

/-! ### what a round keeps -/
def Kq (K : Nat → Prop) (W W' : World) : Prop := ∀ k, K k → W'.heap[k]? = W.heap[k]?
section
variable {K : Nat → Prop} {A B C' : World}
theorem Kq.trans (h : Kq K A B) (k : Kq K B C') : Kq K A C' := fun i hi => (k i hi).trans (h i hi)
theorem Kq.cell (h : Kq K A B) {p : Addr} {v : Value} (hp : K p.block) (hc : A.cell? p = some v) : B.cell? p = some v := (World.cell?_of_block (w := A) (h p.block hp)).trans hc
theorem Kq.lt (h : Kq K A B) (hK : ∀ k, K k → k < A.heap.size) {k : Nat} (hk : K k) : k < B.heap.size := by
  have h1 := h k hk
  rw [Array.getElem?_eq_getElem (hK k hk)] at h1
  exact (Array.getElem?_eq_some_iff.1 h1).1
theorem Kq.of_below (h : Below A.heap.size A B) (hK : ∀ k, K k → k < A.heap.size) : Kq K A B := fun i hi => h.block i (hK i hi)
theorem Rd.kept {α : Type} {T : Ty α} {a : Option Addr} {n : Nat} {l : List α} (h : Rd T A a n l) (k : Kq K A B) (hK : ∀ b o, a = some ⟨b, o, none⟩ → n = 0 ∨ K b) : Rd T B a n l :=
  ⟨h.1, h.2.1, fun i x hx => by
    obtain ⟨b, o, e, hc⟩ := h.2.2 i x hx
    rcases hK b o e with h0 | hb
    · have h1 := (List.getElem?_eq_some_iff.1 hx).1
      have h2 := h.1
      omega
    · exact ⟨b, o, e, fun j u hu => k.cell hb (hc j u hu)⟩⟩
theorem Rd.lt {α : Type} {T : Ty α} {a : Option Addr} {n : Nat} {l : List α} (h : Rd T A a n l) : ∀ b o, a = some ⟨b, o, none⟩ → n = 0 ∨ b < A.heap.size := by
  intro b o e
  rcases Nat.eq_zero_or_pos n with h0 | h0
  · exact .inl h0
  · obtain ⟨b', o', x, e', hx, hc⟩ := h.get 0 h0
    rw [e] at e'
    cases e'
    obtain ⟨u, hu⟩ : ∃ u, (T.enc x)[0]? = some u := ⟨_, List.getElem?_eq_getElem (by rw [T.len]; exact T.pos)⟩
    exact .inr (World.block_lt_of_cell? A (a := ⟨b, o + 0 * T.sz + 0, none⟩) (hc 0 u hu))
end
theorem grown_of_below {A B : World} (h : Below A.heap.size A B) : A.grownBy B none := ⟨h.os, h.tape, h.output, h.size, fun k hk _ => h.block k hk⟩

/-! ### drawn regions inside a fence -/
theorem wide_fn (f : FuncId) : Fence.wide.fn f = True := rfl
theorem wide_fn_round (l : Nat) (f : FuncId) : (Fence.wide.inRound l).fn f = True := rfl
theorem xtIn_call {F : Fence} {r : Nat} {P : Program} {f : FuncId} {args : Array Value} {w : World} {k : Xt w} {v : Value} (h : Calls P f args (wx w k) fun e w' => e = .returned v ∧ Below (wx w k).heap.size (wx w k) w') :
    CallsIn Fence.wide r P f args (wx w k) fun e w' => e = .returned v ∧ ∃ m, w' = wx w m := callsIn_wide.2 (xt_call h)
theorem xtIn_region {F : Fence} {r : Nat} {P : Program} {id : Nat} {Q : Exit → Act → World → Prop} {a : Act} {w : World} {l : List Oper} (hro : F.round = none) (hm : P.follows .mixedOrders = true) (hB : Region.lexB .any l.toArray = true)
    (h : wpQuietIn F r P l.toArray (fun w' => ∃ n, w' = wx w n) (fun a' => ∀ w', (∃ n, w' = wx w n) → Q .normal a' w') l a) : (Code.region id l.toArray true).wpIn F r P Q a w :=
  wpIn_region_quiet (C := fun w' => ∃ n, w' = wx w n) hro hm hB ⟨⟨{ w with drawn := w.drawn + 1 }, ⟨rfl, rfl, rfl, Nat.le_refl _, fun _ _ => rfl⟩⟩, rfl⟩ (by simpa using h)

/-! ### the same in a round, where no operation is put off -/
def Oper.noDefer (o : Oper) : Bool := match o.op with | .defer _ => false | _ => true
section
variable {F : Fence} {n : Nat} {P : Program} {ops : Array Oper} {md : Region.Mode} {C' : World → Prop}
theorem quietR_op {o : Oper} {a : Act} {K : Act → Prop} {K' : Act → World → Prop} {Q' : Exit → Act → World → Prop} {w : World} (hd : Oper.noDefer o = true) (hw : C' w) (h : ∀ a w', C' w' → K a → K' a w')
    (ha : o.askedIn F P a C') (hh : o.quietIn F n P a C' K) : o.wpIn F n P a w K' Q' := by
  obtain ⟨v, h1, h2⟩ := hh
  have h3 := h1 w hw
  unfold Oper.quietAtIn at h3
  unfold Oper.wpIn
  refine ⟨ha w hw, ?_⟩
  rw [Oper.semAt_eq _ _ _ (fun c e => by simp [Oper.noDefer, e] at hd)]
  generalize (execOp a.eval o).run P w = r at *
  cases r with
  | halt x w' => simp only [Oper.quietUponIn] at h3
  | ok x w' =>
    cases x <;> simp only [Oper.quietUponIn] at h3 <;> simp only [Oper.uponIn]
    case value u => obtain ⟨rfl, rfl⟩ := h3; exact h _ _ hw h2
    case skip => obtain ⟨rfl, rfl⟩ := h3; exact h _ _ hw h2
    case enter f args => obtain ⟨rfl, hd, hc⟩ := h3; exact ⟨hd, hc.mono fun e w'' ⟨he, hw''⟩ => by subst he; exact h _ _ hw'' h2⟩
theorem quietR_at {i : Nat} {a : Act} {K : Act → Prop} {K' : Act → World → Prop} {Q' : Exit → Act → World → Prop} {w : World} (hd : ∀ o ∈ ops, Oper.noDefer o = true) (hC : C' w) (h : ∀ a w', C' w' → K a → K' a w')
    (hh : qOpIn F n P ops C' i K a) : wpOpIn F n P ops Q' i K' a w := by
  unfold qOpIn at hh
  unfold wpOpIn
  split
  · rename_i ho; simp only [ho] at hh; exact h _ _ hC hh
  · rename_i o ho
    simp only [ho] at hh
    obtain ⟨ha, hh⟩ := hh
    split
    · rename_i hw; simp only [hw, if_true] at hh; exact quietR_op (hd o (Array.mem_of_getElem? ho)) hC h ha hh
    · rename_i hw; simp only [hw] at hh; exact ⟨ha w hC, h _ _ hC hh⟩
theorem quietR_any {Q : Act → Prop} {Q' : Exit → Act → World → Prop} (hd : ∀ o ∈ ops, Oper.noDefer o = true) (hQ : ∀ a w, C' w → Q a → Q' .normal a w) : ∀ (fuel : Nat) (listed : Array Bool) (a : Act) (w : World), C' w →
    wpAnyQIn F n P md ops C' Q fuel listed a → wpAnyIn F n P md ops Q' fuel listed a w
  | 0, _, _, _, hw, h => ⟨h.1, hQ _ _ hw h.2⟩
  | fuel + 1, _, _, _, hw, h => ⟨fun h0 => hQ _ _ hw (h.1 h0), fun i hi => quietR_at hd hw (fun a' w' hw' => quietR_any hd hQ fuel _ a' w' hw') (h.2 i hi)⟩
theorem xtR_region {id : Nat} {Q : Exit → Act → World → Prop} {a : Act} {w : World} {l : List Oper} (hm : P.follows .mixedOrders = true) (hd : (l.all Oper.noDefer) = true) (hB : Region.lexB .any l.toArray = true)
    (h : wpQuietIn F n P l.toArray (fun w' => ∃ k, w' = wx w k) (fun a' => ∀ w', (∃ k, w' = wx w k) → Q .normal a' w') l a) : (Code.region id l.toArray true).wpIn F n P Q a w := by
  have hB2 := hB
  simp only [Region.lexB, Bool.and_eq_true] at hB2
  refine wpIn_region_any hm (quietR_any (C' := fun w' => ∃ k, w' = wx w k) (Q := fun a' => ∀ w', (∃ k, w' = wx w k) → Q .normal a' w') (fun o ho => List.all_eq_true.1 hd o (by simpa using ho)) (fun _ w' hw' h => h w' hw') _ _ _ _
    ⟨⟨{ w with drawn := w.drawn + 1 }, ⟨rfl, rfl, rfl, Nat.le_refl _, fun _ _ => rfl⟩⟩, rfl⟩ ?_)
  have := wpAnyQIn_lex (F := F) (n := n) (C := fun w' => ∃ k, w' = wx w k) (md := .any) hB2.1 l 0 (Array.replicate l.length false) a (by simp) (by simpa using hB2.2) h
  simpa using this
end

/-! ### pieces of cells stay where a record turns -/
def Chunk.cells (c : Chunk) : Prop := ∀ W, c.is W → ∀ k, c.blk k → ∃ o : Obj, W.heap[k]? = some o ∧ o.isCells = true
theorem row_cells {α : Type} (T : Ty α) (v : Value) (l : List α) : (row T v l).cells := by
  intro W h k hk
  have h1 : Row T W v l := h
  rcases h1.2 with ⟨h2, _⟩ | ⟨g, cap, cur, rfl, hb, hh, _⟩
  · have hk2 : v.ownBlock = some k := hk
    rw [h2] at hk2
    cases hk2
  · have : g = k := by
      have h3 : (Value.slice (some ⟨g, 0, none⟩) l.length cap).ownBlock = some k := hk
      simpa [Value.ownBlock] using h3
    subst this
    exact ⟨_, hh, rfl⟩
theorem blk_cells (g : Nat) (t : TypeId) (cs : List Value) : (blk g t cs).cells := by
  intro W h k hk
  have : k = g := hk
  subst this
  exact ⟨_, h, rfl⟩
theorem Sep.record {w0 A B : World} {L : List Chunk} {r : Option Nat} (S : Sep w0 A L) (hL : ∀ c ∈ L, c.cells) (hg : A.grownBy B r) (hr : ∀ k, r = some k → w0.heap.size ≤ k ∧ ∃ o : Obj, A.heap[k]? = some o ∧ o.isCells = false) : Sep w0 B L := by
  have hblk : ∀ k, k < A.heap.size → r ≠ some k → B.heap[k]? = A.heap[k]? := fun k hk hn => hg.block k hk (fun e => hn e.symm)
  refine ⟨⟨hg.os.trans S.below.os, hg.tape.trans S.below.tape, hg.output.trans S.below.output, Nat.le_trans S.below.size hg.size, fun k hk => ?_⟩, fun c hc => ?_, fun c hc k hk => ?_, S.apart⟩
  · refine (hblk k (Nat.lt_of_lt_of_le hk S.below.size) (fun e => ?_)).trans (S.below.block k hk)
    have := (hr k e).1
    omega
  · refine c.keep (fun k hk => hblk k (S.lie c hc k hk).2 (fun e => ?_)) (S.is c hc)
    obtain ⟨_, o, h1, h2⟩ := hr k e
    obtain ⟨o', h3, h4⟩ := hL c hc A (S.is c hc) k hk
    rw [h1] at h3
    cases h3
    rw [h2] at h4
    cases h4
  · exact ⟨(S.lie c hc k hk).1, Nat.lt_of_lt_of_le (S.lie c hc k hk).2 hg.size⟩

/-! ### a block at a number that is told; what two moments of one invariant keep -/
theorem Sep.boxAt {w0 w : World} {L : List Chunk} (S : Sep w0 w L) (t : TypeId) (cs : List Value) (g : Nat) (hg : w.heap.size = g) : Sep w0 (w.alloc (.cells cs.toArray t)) (blk g t cs :: L) := by
  subst hg
  exact S.box t cs
/-- The blocks of before, and two boxes. -/
def Kab (w : World) (bA bB : Nat) (k : Nat) : Prop := k < w.heap.size ∨ k = bA ∨ k = bB
theorem kq_of_sep {w A B : World} {L M : List Chunk} {bA bB : Nat} {tA tB : TypeId} {vA vB : List Value} (S : Sep w A L) (S' : Sep w B M) (hA : blk bA tA vA ∈ L) (hB : blk bB tB vB ∈ L) (hA' : blk bA tA vA ∈ M) (hB' : blk bB tB vB ∈ M) : Kq (Kab w bA bB) A B := by
  rintro k (hk | rfl | rfl)
  · exact (S'.below.block k hk).trans (S.below.block k hk).symm
  · exact (show B.heap[k]? = _ from S'.is _ hA').trans (show A.heap[k]? = _ from S.is _ hA).symm
  · exact (show B.heap[k]? = _ from S'.is _ hB').trans (show A.heap[k]? = _ from S.is _ hB).symm
theorem kab_lt {w A : World} {L : List Chunk} {bA bB : Nat} {tA tB : TypeId} {vA vB : List Value} (S : Sep w A L) (hA : blk bA tA vA ∈ L) (hB : blk bB tB vB ∈ L) : ∀ k, Kab w bA bB k → k < A.heap.size := by
  rintro k (hk | rfl | rfl)
  · exact Nat.lt_of_lt_of_le hk S.below.size
  · exact (S.lie _ hA _ rfl).2
  · exact (S.lie _ hB _ rfl).2
theorem keepsOthers_of_kp {A B : World} {Q : Nat → Prop} (h : Kp A B Q) (hc : ∀ k, Q k → ∀ o : Obj, A.heap[k]? = some o → o.isCells = true) : KeepsOthers A B :=
  ⟨h.size, fun k o hk ho => (h.block k (Array.getElem?_eq_some_iff.1 hk).1 (fun hq => by rw [hc k hq o hk] at ho; cases ho)).trans hk⟩
theorem keepsOthers_of_below {A B : World} (h : Below A.heap.size A B) : KeepsOthers A B :=
  ⟨h.size, fun k o hk ho => (h.block k (Array.getElem?_eq_some_iff.1 hk).1).trans hk⟩
theorem keepsOthers_app {α : Type} {T : Ty α} {w0 A B : World} {L : List Chunk} {v : Value} {l : List α} (S : Sep w0 A (row T v l :: L)) (h : Kp A B (fun k => v.ownBlock = some k)) : KeepsOthers A B :=
  keepsOthers_of_kp h (fun k hk o ho => by
    obtain ⟨o', h1, h2⟩ := row_cells T v l A S.hd k hk
    rw [ho] at h1
    cases h1
    exact h2)
end Go.Proofs.YtdkailccfcijiaaDoor
