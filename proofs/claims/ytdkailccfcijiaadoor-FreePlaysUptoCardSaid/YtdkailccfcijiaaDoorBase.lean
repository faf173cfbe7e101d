/- Words of this claim's walks: worlds that only grow, rows of memory that are read, rows that a call owns, pieces of memory that lie apart. No condition. -/
import Derived.Test.YtdkailccfcijiaaDoorProg
import Derived.WalkKit
import Derived.WalkLawsBesides
import Derived.WalkSpells
import Derived.Outline
import Derived.Deep.RegionHeld3
import Derived.BigQuiet
import Derived.Lib.Hide
import Derived.Maps.AppendAt
import Derived.Laws.AppendOwnNone
namespace Go.Proofs.YtdkailccfcijiaaDoor
open Go.RowKit
set_option linter.unusedVariables false
set_option linter.unusedSimpArgs false

/-! ### 1. Worlds that only grow -/
theorem qcell {w w' : World} {a : Addr} {v : Value} (h : w.cell? a = some v) (hb : Below w.heap.size w w') : w'.cell? a = some v := (hb.cell (World.block_lt_of_cell? w a h)).trans h
theorem qbelow {w w1 w2 : World} (h : Below w.heap.size w w1) (k : Below w1.heap.size w1 w2) : Below w.heap.size w w2 :=
  h.trans ⟨k.os, k.tape, k.output, k.size, fun i hi => k.block i (Nat.lt_of_lt_of_le hi h.size)⟩
theorem qlow {w0 w1 w2 : World} (h : Below w0.heap.size w0 w1) (k : Below w1.heap.size w1 w2) : Below w0.heap.size w0 w2 := qbelow h k
theorem qrefl (w : World) : Below w.heap.size w w := Below.refl _ _
theorem qalloc {w W : World} (h : Below w.heap.size w W) (o : Obj) : Below w.heap.size w (W.alloc o) := h.alloc h.size o
theorem qdrew {w W : World} (h : Below w.heap.size w W) : Below w.heap.size w W.drew := h.drew
theorem qdrewN {w W : World} (h : Below w.heap.size w W) (n : Nat) : Below w.heap.size w (W.drewN n) := ⟨h.os, h.tape, h.output, h.size, h.block⟩
theorem qset {w W : World} (h : Below w.heap.size w W) {p : Addr} (hp : w.heap.size ≤ p.block) (u : Value) : Below w.heap.size w (W.setCell p u) := h.setCell hp u

/-- What a world may become while nothing that it holds is turned. -/
structure Xt (w : World) where
  to : World
  below : Below w.heap.size w to
instance (w : World) : Nonempty (Xt w) := ⟨⟨w, Below.refl _ _⟩⟩
def wx (w : World) (k : Xt w) : World := k.to
theorem xt_below (w : World) (k : Xt w) : Below w.heap.size w (wx w k) := k.below
theorem xt_cell {w : World} {a : Addr} {v : Value} (h : w.cell? a = some v) (k : Xt w) : (wx w k).cell? a = some v := qcell h k.below
theorem xt_call {P : Program} {f : FuncId} {args : Array Value} {w : World} {k : Xt w} {v : Value} (h : Calls P f args (wx w k) fun e w' => e = .returned v ∧ Below (wx w k).heap.size (wx w k) w') :
    Calls P f args (wx w k) fun e w' => e = .returned v ∧ ∃ m, w' = wx w m :=
  h.mono fun _ w' ⟨he, hb⟩ => ⟨he, ⟨w', qbelow k.below hb⟩, rfl⟩
theorem xt_region {P : Program} {id : Nat} {Q : Exit → Act → World → Prop} {a : Act} {w : World} {l : List Oper} (hm : P.follows .mixedOrders = true) (hB : Region.lexB .any l.toArray = true)
    (h : wpQuiet P l.toArray (fun w' => ∃ n, w' = wx w n) (fun a' => ∀ w', (∃ n, w' = wx w n) → Q .normal a' w') l a) : (Code.region id l.toArray true).wp P Q a w :=
  wp_region_quiet (C := fun w' => ∃ n, w' = wx w n) hm hB ⟨⟨{ w with drawn := w.drawn + 1 }, ⟨rfl, rfl, rfl, Nat.le_refl _, fun _ _ => rfl⟩⟩, rfl⟩ (by simpa using h)

/-- All but the blocks of S is as it was, and what is new. -/
structure Kp (w w' : World) (S : Nat → Prop) : Prop where
  os : w'.os = w.os
  tape : w'.tape = w.tape
  output : w'.output = w.output
  size : w.heap.size ≤ w'.heap.size
  block : ∀ k, k < w.heap.size → ¬ S k → w'.heap[k]? = w.heap[k]?
theorem Kp.refl (w : World) (S : Nat → Prop) : Kp w w S := ⟨rfl, rfl, rfl, Nat.le_refl _, fun _ _ _ => rfl⟩
theorem Kp.of_below {w w' : World} (h : Below w.heap.size w w') (S : Nat → Prop) : Kp w w' S := ⟨h.os, h.tape, h.output, h.size, fun k hk _ => h.block k hk⟩
theorem Kp.below {w w' : World} (h : Kp w w' (fun _ => False)) : Below w.heap.size w w' := ⟨h.os, h.tape, h.output, h.size, fun k hk => h.block k hk id⟩
theorem Kp.of_grown {w w' : World} {row : Option Nat} (h : w.grownBy w' row) : Kp w w' (fun k => row = some k) := ⟨h.os, h.tape, h.output, h.size, fun k hk hn => h.block k hk (fun e => hn e.symm)⟩
theorem Kp.trans {a b c : World} {S T : Nat → Prop} (h : Kp a b S) (k : Kp b c T) (hs : ∀ i, T i → S i ∨ a.heap.size ≤ i) : Kp a c S :=
  ⟨k.os.trans h.os, k.tape.trans h.tape, k.output.trans h.output, Nat.le_trans h.size k.size, fun i hi hn =>
    (k.block i (Nat.lt_of_lt_of_le hi h.size) (fun ht => (hs i ht).elim hn (fun h2 => by omega))).trans (h.block i hi hn)⟩
theorem Kp.mono {w w' : World} {S T : Nat → Prop} (h : Kp w w' S) (hs : ∀ i, S i → T i ∨ w.heap.size ≤ i) : Kp w w' T :=
  ⟨h.os, h.tape, h.output, h.size, fun i hi hn => h.block i hi (fun ht => (hs i ht).elim hn (fun h2 => by omega))⟩
theorem Kp.then_below {a b c : World} {S : Nat → Prop} (h : Kp a b S) (k : Below b.heap.size b c) : Kp a c S := h.trans (Kp.of_below k (fun _ => False)) (fun _ h => h.elim)
theorem Kp.setCell (w : World) (p : Addr) (u : Value) : Kp w (w.setCell p u) (fun k => k = p.block) :=
  ⟨rfl, rfl, rfl, by simp [World.setCell], fun k _ hn => Below.heap_setCell w p u k hn⟩
theorem Kp.cell {w w' : World} {S : Nat → Prop} (h : Kp w w' S) {a : Addr} {v : Value} (hc : w.cell? a = some v) (hn : ¬ S a.block) : w'.cell? a = some v :=
  (World.cell?_of_block (w := w) (h.block a.block (World.block_lt_of_cell? w a hc) hn)).trans hc

/-! ### 2. Pieces of memory that lie apart -/
/-- A piece of memory: its blocks, and what is said of them. -/
structure Chunk where
  blk : Nat → Prop
  is : World → Prop
  keep : ∀ {w w' : World}, (∀ k, blk k → w'.heap[k]? = w.heap[k]?) → is w → is w'

/-- From w0 on the pieces L were made; they lie apart; nothing that w0 held has turned. -/
structure Sep (w0 w : World) (L : List Chunk) : Prop where
  below : Below w0.heap.size w0 w
  is : ∀ c ∈ L, c.is w
  lie : ∀ c ∈ L, ∀ k, c.blk k → w0.heap.size ≤ k ∧ k < w.heap.size
  apart : L.Pairwise fun c d => ∀ k, c.blk k → ¬ d.blk k

section
variable {w0 w w' : World} {L L1 L2 : List Chunk} {c d : Chunk}
theorem Sep.nil (w : World) : Sep w w [] := ⟨Below.refl _ _, (fun _ h => by cases h), (fun _ h => by cases h), List.Pairwise.nil⟩
theorem Sep.step (h : Sep w0 w L) (k : Below w.heap.size w w') : Sep w0 w' L :=
  ⟨qbelow h.below k, fun c hc => c.keep (fun i hi => k.block i (h.lie c hc i hi).2) (h.is c hc), fun c hc i hi => ⟨(h.lie c hc i hi).1, Nat.lt_of_lt_of_le (h.lie c hc i hi).2 k.size⟩, h.apart⟩
theorem Sep.alloc (h : Sep w0 w L) (o : Obj) : Sep w0 (w.alloc o) L := h.step (qalloc (qrefl w) o)
theorem Sep.drew (h : Sep w0 w L) : Sep w0 w.drew L := h.step (qdrew (qrefl w))
theorem Sep.push (h : Sep w0 w L) (k : Below w.heap.size w w') (hc : c.is w') (hr : ∀ i, c.blk i → w.heap.size ≤ i ∧ i < w'.heap.size) : Sep w0 w' (c :: L) := by
  have h2 := h.step k
  refine ⟨h2.below, fun d hd => ?_, fun d hd i hi => ?_, List.pairwise_cons.2 ⟨fun d hd i hi hdi => ?_, h2.apart⟩⟩
  · rcases List.mem_cons.1 hd with rfl | hd
    · exact hc
    · exact h2.is d hd
  · rcases List.mem_cons.1 hd with rfl | hd
    · exact ⟨Nat.le_trans h.below.size (hr i hi).1, (hr i hi).2⟩
    · exact h2.lie d hd i hi
  · have h3 := (h.lie d hd i hdi).2
    have h4 := (hr i hi).1
    omega
theorem Sep.turn (h : Sep w0 w (c :: L)) (k : Kp w w' c.blk) (hd : d.is w') (hr : ∀ i, d.blk i → c.blk i ∨ (w.heap.size ≤ i ∧ i < w'.heap.size)) : Sep w0 w' (d :: L) := by
  have ha := List.pairwise_cons.1 h.apart
  have hlie := fun i (hi : c.blk i) => h.lie c List.mem_cons_self i hi
  have hL : ∀ x ∈ L, ∀ i, x.blk i → w0.heap.size ≤ i ∧ i < w.heap.size := fun x hx => h.lie x (List.mem_cons_of_mem _ hx)
  have hb : Below w0.heap.size w0 w' := ⟨k.os.trans h.below.os, k.tape.trans h.below.tape, k.output.trans h.below.output, Nat.le_trans h.below.size k.size, fun i hi =>
    (k.block i (Nat.lt_of_lt_of_le hi h.below.size) (fun hc => by have := (hlie i hc).1; omega)).trans (h.below.block i hi)⟩
  refine ⟨hb, fun x hx => ?_, fun x hx i hi => ?_, List.pairwise_cons.2 ⟨fun x hx i hi hxi => ?_, ha.2⟩⟩
  · rcases List.mem_cons.1 hx with rfl | hx
    · exact hd
    · exact x.keep (fun i hi => k.block i (hL x hx i hi).2 (fun hc => ha.1 x hx i hc hi)) (h.is x (List.mem_cons_of_mem _ hx))
  · rcases List.mem_cons.1 hx with rfl | hx
    · rcases hr i hi with h1 | h1
      · exact ⟨(hlie i h1).1, Nat.lt_of_lt_of_le (hlie i h1).2 k.size⟩
      · exact ⟨Nat.le_trans h.below.size h1.1, h1.2⟩
    · exact ⟨(hL x hx i hi).1, Nat.lt_of_lt_of_le (hL x hx i hi).2 k.size⟩
  · rcases hr i hi with h1 | h1
    · exact ha.1 x hx i h1 hxi
    · have := (hL x hx i hxi).2; omega
theorem Sep.hd (h : Sep w0 w (c :: L)) : c.is w := h.is c List.mem_cons_self
theorem Sep.tl (h : Sep w0 w (c :: L)) : Sep w0 w L := ⟨h.below, fun d hd => h.is d (List.mem_cons_of_mem _ hd), fun d hd => h.lie d (List.mem_cons_of_mem _ hd), (List.pairwise_cons.1 h.apart).2⟩
theorem Sep.perm (h : Sep w0 w L1) (hp : L1.Perm L2) : Sep w0 w L2 :=
  ⟨h.below, fun c hc => h.is c (hp.mem_iff.2 hc), fun c hc => h.lie c (hp.mem_iff.2 hc), h.apart.perm hp (fun {x y} hxy k hy hx => hxy k hx hy)⟩
/-- The piece of number n comes to the front. -/
theorem Sep.up (L1 : List Chunk) {L2 : List Chunk} (h : Sep w0 w (L1 ++ c :: L2)) : Sep w0 w (c :: (L1 ++ L2)) := h.perm List.perm_middle
theorem Sep.up1 {a b : Chunk} (h : Sep w0 w (a :: b :: L)) : Sep w0 w (b :: a :: L) := h.perm (List.Perm.swap ..)
theorem Sep.up2 {a b c : Chunk} (h : Sep w0 w (a :: b :: c :: L)) : Sep w0 w (c :: a :: b :: L) := Sep.up [a, b] h
theorem Sep.up3 {a b c d : Chunk} (h : Sep w0 w (a :: b :: c :: d :: L)) : Sep w0 w (d :: a :: b :: c :: L) := Sep.up [a, b, c] h
theorem Sep.up4 {a b c d e : Chunk} (h : Sep w0 w (a :: b :: c :: d :: e :: L)) : Sep w0 w (e :: a :: b :: c :: d :: L) := Sep.up [a, b, c, d] h
theorem Sep.up5 {a b c d e f : Chunk} (h : Sep w0 w (a :: b :: c :: d :: e :: f :: L)) : Sep w0 w (f :: a :: b :: c :: d :: e :: L) := Sep.up [a, b, c, d, e] h
/-- What was made in a call, from the caller's side: the caller's own pieces stay. -/
theorem Sep.call (h : Sep w0 w L) (k : Sep w w' L1) : Sep w0 w' (L1 ++ L) := by
  refine ⟨qbelow h.below k.below, fun c hc => ?_, fun c hc i hi => ?_, ?_⟩
  · rcases List.mem_append.1 hc with hc | hc
    · exact k.is c hc
    · exact (h.step k.below).is c hc
  · rcases List.mem_append.1 hc with hc | hc
    · exact ⟨Nat.le_trans h.below.size (k.lie c hc i hi).1, (k.lie c hc i hi).2⟩
    · exact (h.step k.below).lie c hc i hi
  · refine List.pairwise_append.2 ⟨k.apart, h.apart, fun c hc d hd i hi hdi => ?_⟩
    have h1 := (k.lie c hc i hi).1
    have h2 := (h.lie d hd i hdi).2
    omega
theorem Sep.drop1 {a b : Chunk} (h : Sep w0 w (a :: b :: L)) : Sep w0 w (a :: L) := (Sep.up1 h).tl
end

/-! ### 3. Rows of elements -/
structure Ty (α : Type) where
  e : Nat
  sz : Nat
  enc : α → List Value
  len : ∀ x, (enc x).length = sz
  one : ∀ x u, u ∈ enc x → u.oneCell' = true
  pos : 0 < sz

section
variable {α : Type} (T : Ty α)
def Ty.flat (l : List α) : List Value := l.flatMap T.enc
theorem Ty.flat_nil : T.flat [] = [] := rfl
theorem Ty.flat_append (l r : List α) : T.flat (l ++ r) = T.flat l ++ T.flat r := by simp [Ty.flat]
theorem Ty.flat_len (l : List α) : (T.flat l).length = l.length * T.sz := by
  induction l with
  | nil => simp [Ty.flat]
  | cons x l ih =>
    have : T.flat (x :: l) = T.enc x ++ T.flat l := by simp [Ty.flat]
    rw [this, List.length_append, ih, T.len, List.length_cons, Nat.add_mul, Nat.one_mul, Nat.add_comm]
theorem Ty.flat_get {l : List α} {i : Nat} {x : α} (h : l[i]? = some x) (j : Nat) (hj : j < T.sz) : (T.flat l)[i * T.sz + j]? = (T.enc x)[j]? := by
  induction l generalizing i with
  | nil => simp at h
  | cons y l ih =>
    have e : T.flat (y :: l) = T.enc y ++ T.flat l := by simp [Ty.flat]
    rw [e]
    cases i with
    | zero =>
      obtain rfl : y = x := by simpa using h
      rw [Nat.zero_mul, Nat.zero_add, List.getElem?_append_left (by rw [T.len]; exact hj)]
    | succ i =>
      rw [List.getElem?_append_right (by rw [T.len, Nat.succ_mul]; omega), T.len]
      have : (i + 1) * T.sz + j - T.sz = i * T.sz + j := by rw [Nat.succ_mul]; omega
      rw [this]
      exact ih (by simpa using h)
theorem Ty.flat_one (l : List α) : ∀ u ∈ T.flat l, u.oneCell' = true := by
  intro u hu
  obtain ⟨x, _, hx⟩ := List.mem_flatMap.1 hu
  exact T.one x u hx
theorem Ty.flat_take (l : List α) (n : Nat) : (T.flat l).take (n * T.sz) = T.flat (l.take n) := by
  induction l generalizing n with
  | nil => simp [Ty.flat]
  | cons y l ih =>
    have e : T.flat (y :: l) = T.enc y ++ T.flat l := by simp [Ty.flat]
    cases n with
    | zero => simp [Ty.flat]
    | succ n =>
      have e2 : T.flat ((y :: l).take (n + 1)) = T.enc y ++ T.flat (l.take n) := by simp [Ty.flat]
      rw [e, e2, List.take_append, T.len, List.take_of_length_le (by rw [T.len, Nat.succ_mul]; omega), Nat.succ_mul, Nat.add_sub_cancel, ih]

/-- The slice at a, of n elements, reads as l. -/
def Rd (w : World) (a : Option Addr) (n : Nat) (l : List α) : Prop :=
  l.length = n ∧ n ≤ 9223372036854775807 ∧ ∀ i x, l[i]? = some x → ∃ b o, a = some ⟨b, o, none⟩ ∧ ∀ j u, (T.enc x)[j]? = some u → w.cell? ⟨b, o + i * T.sz + j, none⟩ = some u
variable {T} {w w' : World} {a : Option Addr} {n : Nat} {l r : List α} {v : Value}
theorem Rd.below (h : Rd T w a n l) (k : Below w.heap.size w w') : Rd T w' a n l :=
  ⟨h.1, h.2.1, fun i x hx => let ⟨b, o, e, hc⟩ := h.2.2 i x hx; ⟨b, o, e, fun j u hu => qcell (hc j u hu) k⟩⟩
theorem Rd.nil (T : Ty α) (w : World) (a : Option Addr) : Rd T w a 0 ([] : List α) := ⟨rfl, Nat.zero_le _, fun i x hx => by simp at hx⟩
theorem Rd.get (h : Rd T w a n l) (i : Nat) (hi : i < n) : ∃ b o x, a = some ⟨b, o, none⟩ ∧ l[i]? = some x ∧ ∀ j u, (T.enc x)[j]? = some u → w.cell? ⟨b, o + i * T.sz + j, none⟩ = some u := by
  have hx : l[i]? = some (l[i]'(by rw [h.1]; exact hi)) := List.getElem?_eq_getElem _
  obtain ⟨b, o, e, hc⟩ := h.2.2 i _ hx
  exact ⟨b, o, _, e, hx, hc⟩
theorem Rd.take (h : Rd T w a n l) (m : Nat) (hm : m ≤ n) : Rd T w a m (l.take m) :=
  ⟨by rw [List.length_take, h.1]; omega, by have := h.2.1; omega, fun i x hx => h.2.2 i x (by
    rw [List.getElem?_take] at hx
    split at hx
    · exact hx
    · cases hx)⟩

/-- The slice value v, of l's length, owns a row of its own that holds l. -/
def Row (T : Ty α) (w : World) (v : Value) (l : List α) : Prop := w.ownsRow 0 T.e T.sz v l.length (T.flat l)
theorem Row.move (h : Row T w v l) (hm : ∀ k, v.ownBlock = some k → w'.heap[k]? = w.heap[k]?) : Row T w' v l := by
  obtain ⟨h1, h2⟩ := h
  refine ⟨h1, ?_⟩
  rcases h2 with h2 | ⟨g, cap, cur, rfl, hg, hh, r⟩
  · exact .inl h2
  · exact .inr ⟨g, cap, cur, rfl, hg, (hm g (by simp [Value.ownBlock])).trans hh, r⟩
def row (T : Ty α) (v : Value) (l : List α) : Chunk where
  blk k := v.ownBlock = some k
  is w := Row T w v l
  keep hm h := h.move hm
theorem Row.nil (T : Ty α) (w : World) : Row T w (.slice none 0 0) [] := World.ownsRow_nil w 0 T.e T.sz
theorem Row.lt (h : Row T w v l) : ∀ k, v.ownBlock = some k → k < w.heap.size := fun k hk => (World.ownsRow.lt h k hk).2
theorem Row.form (h : Row T w v l) : (v = .slice none 0 0 ∧ l = []) ∨ ∃ g c, v = .slice (some ⟨g, 0, none⟩) l.length c ∧ l.length ≤ c ∧ c ≤ maxLen ∧ g < w.heap.size := by
  rcases h.2 with ⟨h1, h2⟩ | ⟨g, cap, cur, h1, _, hh, h3, h4, _⟩
  · exact .inl ⟨h1, List.eq_nil_of_length_eq_zero h2⟩
  · exact .inr ⟨g, cap, h1, h3, h4, (Array.getElem?_eq_some_iff.1 hh).1⟩
theorem Row.rd (h : Row T w v l) : ∃ a c, v = .slice a l.length c ∧ l.length ≤ c ∧ Rd T w a l.length l := by
  rcases h.2 with ⟨h1, h2⟩ | ⟨g, cap, cur, h1, _, hh, h3, h4, h5, h6⟩
  · obtain rfl := List.eq_nil_of_length_eq_zero h2
    exact ⟨none, 0, h1, Nat.zero_le _, Rd.nil T w none⟩
  · refine ⟨_, cap, h1, h3, rfl, by simp only [maxLen] at h4; omega, fun i x hx => ⟨g, 0, rfl, fun j u hu => ?_⟩⟩
    have hj : j < T.sz := by
      rw [← T.len x]
      exact (List.getElem?_eq_some_iff.1 hu).1
    have hf := T.flat_get hx j hj
    rw [hu, ← h6, List.getElem?_take] at hf
    split at hf
    · simp only [World.cell?, hh, Option.isSome_none, Nat.zero_add]
      rw [← Array.getElem?_toList]
      exact hf
    · cases hf
theorem Row.rd' {c : Nat} (h : Row T w (.slice a n c) l) : Rd T w a n l ∧ n ≤ c := by
  obtain ⟨a', c', e, hle, hr⟩ := h.rd
  cases e
  exact ⟨hr, hle⟩
/-- Cut at its end a row is a row. -/
theorem Row.take {c : Nat} (h : Row T w (.slice a n c) l) (m : Nat) (hm : m ≤ n) : Row T w (.slice a m c) (l.take m) := by
  have hl : l.length = n := by
    obtain ⟨a', c', e, hle, hr⟩ := h.rd
    cases e
    rfl
  have hlm : (l.take m).length = m := by rw [List.length_take]; omega
  unfold Row
  rw [hlm]
  refine ⟨by rw [T.flat_len, hlm], ?_⟩
  rcases h.2 with ⟨h1, h2⟩ | ⟨g, cap, cur, h1, hb, hh, h3, h4, h5, h6⟩
  · cases h1
    exact .inl ⟨by rw [Nat.le_zero.1 hm], Nat.le_zero.1 hm⟩
  · cases h1
    refine .inr ⟨g, _, cur, rfl, hb, hh, by omega, h4, h5, ?_⟩
    rw [← T.flat_take, ← h6, List.take_take, Nat.min_eq_left]
    exact Nat.mul_le_mul_right _ (by omega)
end

/-! ### 4. append to a row of the call's own, from whatever can be read -/
section
variable {α : Type} {T : Ty α} {P : Program} {w : World}
theorem src_cells {ad : Addr} {m : Nat} {r : List α} (hs : Rd T w (some ad) m r) : ∀ j u, (T.flat r)[j]? = some u → w.cell? (ad.add j) = some u := by
  intro j u hu
  have hj : j < r.length * T.sz := by rw [← T.flat_len]; exact (List.getElem?_eq_some_iff.1 hu).1
  have hi : j / T.sz < r.length := by rw [Nat.div_lt_iff_lt_mul T.pos]; exact hj
  have hx : r[j / T.sz]? = some r[j / T.sz] := List.getElem?_eq_getElem hi
  obtain ⟨b, o, e, hc⟩ := hs.2.2 _ _ hx
  cases e
  have hm : j % T.sz < T.sz := Nat.mod_lt _ T.pos
  have hjj : j / T.sz * T.sz + j % T.sz = j := by rw [Nat.mul_comm]; exact Nat.div_add_mod j T.sz
  have := T.flat_get hx (j % T.sz) hm
  rw [hjj, hu] at this
  have h2 := hc _ _ this.symm
  have ha : (⟨b, o, none⟩ : Addr).add j = ⟨b, o + j, none⟩ := by unfold Addr.add; split <;> simp_all
  rw [ha]
  rw [Nat.add_assoc, hjj] at h2
  exact h2
theorem run_app (t ty : TypeId) (i : TypeInfo) (z : Value) (bytes : Nat) (ht : P.underlying t = some (.slice T.e)) (hi : P.info? T.e = some i) (hz : i.zero = some z)
    (hsize : i.size = T.sz) (hby : i.bytes = bytes) (hzs : z.cells.size = T.sz) {v : Value} {l : List α} (hr : Row T w v l) {b : Option Addr} {m c : Nat} {r : List α} (hs : Rd T w b m r)
    (hbytes : (l.length + m) * bytes ≤ 140737488355328) (hb0 : 0 < bytes) :
    ∃ v' w', (Builtin.append_ #[t, t] ty #[v, .slice b m c]).run P w = .ok v' w' ∧ Row T w' v' (l ++ r) ∧ Kp w w' (fun k => v.ownBlock = some k) ∧ (v'.ownBlock = v.ownBlock ∨ v'.ownBlock = some w.heap.size) := by
  have hle : l.length + m ≤ maxLen := by
    have := Nat.le_trans (Nat.le_mul_of_pos_right (l.length + m) hb0) hbytes
    simp only [maxLen]; omega
  cases b with
  | none =>
    have hm : m = 0 := by
      rcases Nat.eq_zero_or_pos m with h | h
      · exact h
      · obtain ⟨_, _, _, e, _⟩ := hs.get 0 h
        cases e
    subst hm
    obtain rfl : r = [] := List.eq_nil_of_length_eq_zero hs.1
    obtain ⟨a', c', e, hle', _⟩ := hr.rd
    refine ⟨v, w, ?_, by rw [List.append_nil]; exact hr, Kp.refl _ _, .inl rfl⟩
    subst e
    simp [Builtin.append_, run_underlying ht, sizeOf, typeInfo, hi, Builtin.lenOf, Builtin.firstCells, loadCells, loadCellsFrom, hle']
    cases a' <;> simp [storeCells]
  | some ad =>
    have hn : ∀ j u, (T.flat r)[j]? = some u → w.cell? (ad.add j) = some u := src_cells hs
    obtain ⟨v', w', h1, h2, h3, _, h5⟩ := run_append_own_at (P := P) w 0 t ty T.e i z T.sz bytes ht hi hz hsize hby hzs T.pos v l.length (T.flat l) hr ad m c (T.flat r) (by rw [T.flat_len, hs.1]) hn (T.flat_one r) hle hbytes (Nat.zero_le _)
    refine ⟨v', w', h1, ?_, Kp.of_grown h3, h5⟩
    unfold Row
    rw [List.length_append, hs.1, T.flat_append]
    exact h2

/-- The same, told apart: there was room, and the row has grown where it lies; or a new row was made, and nothing has turned. -/
theorem run_app2 (t ty : TypeId) (i : TypeInfo) (z : Value) (bytes : Nat) (ht : P.underlying t = some (.slice T.e)) (hi : P.info? T.e = some i) (hz : i.zero = some z)
    (hsize : i.size = T.sz) (hby : i.bytes = bytes) (hzs : z.cells.size = T.sz) {v : Value} {l : List α} (hr : Row T w v l) {b : Option Addr} {m c : Nat} {r : List α} (hs : Rd T w b m r)
    (hbytes : (l.length + m) * bytes ≤ 140737488355328) (hb0 : 0 < bytes) :
    ∃ v' w', (Builtin.append_ #[t, t] ty #[v, .slice b m c]).run P w = .ok v' w' ∧ Row T w' v' (l ++ r) ∧ Kp w w' (fun k => v.ownBlock = some k) ∧ (v'.ownBlock = v.ownBlock ∨ v'.ownBlock = some w.heap.size) ∧
      ((∃ g c, v = .slice (some ⟨g, 0, none⟩) l.length c ∧ v' = .slice (some ⟨g, 0, none⟩) (l.length + m) c) ∨ (v' = v ∧ w' = w ∧ m = 0) ∨ (Below w.heap.size w w' ∧ v'.ownBlock = some w.heap.size)) := by
  obtain ⟨v', w', h1, h2, h3, h4⟩ := run_app (ty := ty) t i z bytes ht hi hz hsize hby hzs hr hs (c := c) hbytes hb0
  refine ⟨v', w', h1, h2, h3, h4, ?_⟩
  have hle : l.length + m ≤ maxLen := by
    have := Nat.le_trans (Nat.le_mul_of_pos_right (l.length + m) hb0) hbytes
    simp only [maxLen]; omega
  have hle2 : l.length + m ≤ 9223372036854775807 := by simp only [maxLen] at hle; omega
  rcases h4 with h4 | h4
  · rcases hr.2 with ⟨rfl, hl0⟩ | ⟨g, cap, cur, rfl, _, hg, hnc, hcm, hcs, htake⟩
    · -- none before, none behind
      rcases h2.2 with ⟨rfl, hl1⟩ | ⟨g', cap', cur', rfl, _⟩
      · have hm : m = 0 := by have := hs.1; rw [List.length_append] at hl1; omega
        subst hm
        refine .inr (.inl ⟨rfl, ?_, rfl⟩)
        cases b with
        | none =>
          simp [Builtin.append_, run_underlying ht, sizeOf, typeInfo, hi, Builtin.lenOf, Builtin.firstCells, loadCells, loadCellsFrom] at h1
          exact h1.symm
        | some ad =>
          simp [Builtin.append_, run_underlying ht, sizeOf, typeInfo, hi, Builtin.lenOf, Builtin.firstCells, loadCells, loadCellsFrom] at h1
          exact h1.symm
      · simp [Value.ownBlock] at h4
    · rcases h2.2 with ⟨rfl, _⟩ | ⟨g', cap', cur', rfl, _, hg', _⟩
      · simp [Value.ownBlock] at h4
      · obtain rfl : g' = g := by simpa [Value.ownBlock] using h4
        refine .inl ⟨g', cap, rfl, ?_⟩
        cases b with
        | none =>
          have hm : m = 0 := by
            rcases Nat.eq_zero_or_pos m with h | h
            · exact h
            · obtain ⟨_, _, _, e, _⟩ := hs.get 0 h
              cases e
          subst hm
          simp [Builtin.append_, run_underlying ht, sizeOf, typeInfo, hi, Builtin.lenOf, Builtin.firstCells, loadCells, loadCellsFrom, hnc, storeCells] at h1
          simp [h1]
        | some ad =>
          have hn : ∀ j u, (T.flat r)[j]? = some u → w.cell? (ad.add j) = some u := src_cells hs
          by_cases hroom : l.length + m ≤ cap
          · have hfit : l.length * i.size + (T.flat r).length ≤ cur.size := by rw [T.flat_len, hs.1, hsize, hcs, ← Nat.add_mul]; exact Nat.mul_le_mul_right _ hroom
            have hrun := run_append_room (P := P) w t ty T.e i ht hi g' l.length cap cur hg ad m c (T.flat r) (by rw [T.flat_len, hs.1, hsize]) hn (T.flat_one r) hroom hfit
            rw [hrun] at h1
            injection h1 with h1 _
            rw [List.length_append, hs.1] at h1 ⊢
            exact h1.symm
          · have holds : ∀ j u, (T.flat l)[j]? = some u → w.cell? ((⟨g', 0, none⟩ : Addr).add j) = some u := World.ownsRow.cells hr rfl
            have hrun := run_append_grow (P := P) w t ty T.e i z ht hi hz ⟨g', 0, none⟩ l.length cap (T.flat l) (by rw [T.flat_len, hsize]) holds ad m c (T.flat r) (by rw [T.flat_len, hs.1, hsize]) hn (by omega) (by omega) (by rw [hby]; exact growslice_fits (by omega) hbytes)
            rw [hrun] at h1
            injection h1 with h1 _
            injection h1 with h1 _ _
            injection h1 with h1
            injection h1 with h1 _ _
            have := (Array.getElem?_eq_some_iff.1 hg).1
            omega
  · refine .inr (.inr ⟨?_, h4⟩)
    cases b with
    | none =>
      exfalso
      have hm : m = 0 := by
        rcases Nat.eq_zero_or_pos m with h | h
        · exact h
        · obtain ⟨_, _, _, e, _⟩ := hs.get 0 h
          cases e
      subst hm
      have hr2 : r = [] := List.eq_nil_of_length_eq_zero hs.1
      subst hr2
      rcases hr.2 with ⟨rfl, hl0⟩ | ⟨g, cap, cur, rfl, _, hg, hnc, hcm, hcs, htake⟩
      · simp [Builtin.append_, run_underlying ht, sizeOf, typeInfo, hi, Builtin.lenOf, Builtin.firstCells, loadCells, loadCellsFrom] at h1
        rw [← h1.1] at h4
        simp [Value.ownBlock] at h4
      · simp [Builtin.append_, run_underlying ht, sizeOf, typeInfo, hi, Builtin.lenOf, Builtin.firstCells, loadCells, loadCellsFrom, hnc, storeCells] at h1
        rw [← h1.1] at h4
        have := (Array.getElem?_eq_some_iff.1 hg).1
        simp [Value.ownBlock] at h4
        omega
    | some ad =>
      have hn : ∀ j u, (T.flat r)[j]? = some u → w.cell? (ad.add j) = some u := src_cells hs
      rcases hr.2 with ⟨rfl, hl0⟩ | ⟨g, cap, cur, rfl, _, hg, hnc, hcm, hcs, htake⟩
      · by_cases hm : m = 0
        · subst hm
          simp [Builtin.append_, run_underlying ht, sizeOf, typeInfo, hi, Builtin.lenOf, Builtin.firstCells, loadCells, loadCellsFrom] at h1
          rw [← h1.1] at h4
          simp [Value.ownBlock] at h4
        · have hrun := run_append_nil (P := P) w t ty T.e i z ht hi hz ad m c (T.flat r) (by rw [T.flat_len, hs.1, hsize]) hn (by omega) (by omega) (by have hb := hbytes; rw [hl0, Nat.zero_add] at hb; rw [hby]; omega)
          rw [hrun] at h1
          injection h1 with _ h1
          rw [← h1]
          exact ⟨rfl, rfl, rfl, by simp, fun k hk => Below.heap_alloc w.drew _ k hk⟩
      · by_cases hroom : l.length + m ≤ cap
        · exfalso
          have hfit : l.length * i.size + (T.flat r).length ≤ cur.size := by rw [T.flat_len, hs.1, hsize, hcs, ← Nat.add_mul]; exact Nat.mul_le_mul_right _ hroom
          have hrun := run_append_room (P := P) w t ty T.e i ht hi g l.length cap cur hg ad m c (T.flat r) (by rw [T.flat_len, hs.1, hsize]) hn (T.flat_one r) hroom hfit
          rw [hrun] at h1
          injection h1 with h1 _
          rw [← h1] at h4
          have := (Array.getElem?_eq_some_iff.1 hg).1
          simp [Value.ownBlock] at h4
          omega
        · have holds : ∀ j u, (T.flat l)[j]? = some u → w.cell? ((⟨g, 0, none⟩ : Addr).add j) = some u := World.ownsRow.cells hr rfl
          have hrun := run_append_grow (P := P) w t ty T.e i z ht hi hz ⟨g, 0, none⟩ l.length cap (T.flat l) (by rw [T.flat_len, hsize]) holds ad m c (T.flat r) (by rw [T.flat_len, hs.1, hsize]) hn (by omega) (by omega) (by rw [hby]; exact growslice_fits (by omega) hbytes)
          rw [hrun] at h1
          injection h1 with _ h1
          rw [← h1]
          exact ⟨rfl, rfl, rfl, by simp, fun k hk => Below.heap_alloc w.drew _ k hk⟩

/-- AT THE OPERATION. -/
theorem app {ops : Array Oper} {rest : List Oper} {o : Oper} {a : Act} {Q : Exit → Act → World → Prop} (hgd : o.guard = none) (s x : Operand) (t : TypeId)
    (ho : o.op = .call { callee := .builtin .append, args := #[s, x], argTypes := #[t, t] })
    (i : TypeInfo) (z : Value) (bytes : Nat) (ht : P.underlying t = some (.slice T.e)) (hi : P.info? T.e = some i) (hz : i.zero = some z)
    (hsize : i.size = T.sz) (hby : i.bytes = bytes) (hzs : z.cells.size = T.sz) (v : Value) (l : List α) (hs : a.eval s = v) (hr : Row T w v l) (b : Option Addr) (m c : Nat) (r : List α) (hx : a.eval x = .slice b m c) (hrd : Rd T w b m r)
    (hbytes : (l.length + m) * bytes ≤ 140737488355328) (hb0 : 0 < bytes)
    (h : ∀ v' w', Row T w' v' (l ++ r) → Kp w w' (fun k => v.ownBlock = some k) → (v'.ownBlock = v.ownBlock ∨ v'.ownBlock = some w.heap.size) → wpList P ops Q rest (a.put o.dst v') w') :
    wpList P ops Q (o :: rest) a w := by
  refine wpList_plain hgd fun K hK => ?_
  obtain ⟨v', w', h1, h2, h3, h4⟩ := run_app (P := P) (w := w) t o.type i z bytes ht hi hz hsize hby hzs hr hrd (c := c) hbytes hb0
  unfold Oper.wp execOp
  simp only [ho, resolve, invoke, builtin, Sem.run_bind, Sem.run_pure, Result.andThen_ok, List.map_toArray, List.map_cons, List.map_nil, hs, hx, h1]
  exact hK _ _ (h v' w' h2 h3 h4)
end
theorem row_blk_turn {α : Type} {T : Ty α} {w w' : World} {v v' : Value} {l l' : List α} (h : v'.ownBlock = v.ownBlock ∨ v'.ownBlock = some w.heap.size) (hr : Row T w' v' l') :
    ∀ i, (row T v' l').blk i → (row T v l).blk i ∨ (w.heap.size ≤ i ∧ i < w'.heap.size) := by
  intro i hi
  rcases h with h | h
  · exact .inl (h.symm.trans hi)
  · have : w.heap.size = i := Option.some.inj (h.symm.trans hi)
    exact .inr ⟨by omega, hr.lt i hi⟩

/-! ### 5. The same, of pieces that lie apart -/
/-- What the walk must know of an element's type: t is the slice's type. -/
structure Elem {α : Type} (P : Program) (T : Ty α) (t : TypeId) (bytes : Nat) : Prop where
  ht : P.underlying t = some (.slice T.e)
  hi : ∃ z, z.cells.size = T.sz ∧ (P.info? T.e).map (fun i => (i.zero, i.size, i.bytes)) = some (some z, T.sz, bytes)
  pos : 0 < bytes
theorem row_new {α : Type} {T : Ty α} {w0 w : World} {L : List Chunk} {v : Value} {l : List α} (S : Sep w0 w (row T v l :: L)) : Row T w v l := S.hd
theorem row_rd {α : Type} {T : Ty α} {w0 w : World} {L : List Chunk} {v : Value} {l : List α} (S : Sep w0 w (row T v l :: L)) : ∃ a c, v = .slice a l.length c ∧ l.length ≤ c ∧ Rd T w a l.length l := S.hd.rd
theorem app_sep {α : Type} {T : Ty α} {P : Program} {w0 w : World} {L : List Chunk} {ops : Array Oper} {rest : List Oper} {o : Oper} {a : Act} {Q : Exit → Act → World → Prop} {t : TypeId} {bytes : Nat} (E : Elem P T t bytes) (hgd : o.guard = none) (s x : Operand)
    (ho : o.op = .call { callee := .builtin .append, args := #[s, x], argTypes := #[t, t] })
    (v : Value) (l : List α) (hs : a.eval s = v) (S : Sep w0 w (row T v l :: L)) (b : Option Addr) (m c : Nat) (r : List α) (hx : a.eval x = .slice b m c) (hrd : Rd T w b m r)
    (hbytes : (l.length + m) * bytes ≤ 140737488355328)
    (h : ∀ v' w', Sep w0 w' (row T v' (l ++ r) :: L) → Kp w w' (fun k => v.ownBlock = some k) → wpList P ops Q rest (a.put o.dst v') w') :
    wpList P ops Q (o :: rest) a w := by
  obtain ⟨z, hz, hinfo⟩ := E.hi
  obtain ⟨i, hi, hzz⟩ := Option.map_eq_some_iff.1 hinfo
  simp only [Prod.mk.injEq] at hzz
  refine app hgd s x t ho i z bytes E.ht hi hzz.1 hzz.2.1 hzz.2.2 hz v l hs S.hd b m c r hx hrd hbytes E.pos fun v' w' h1 h2 h3 => ?_
  exact h v' w' (S.turn (d := row T v' (l ++ r)) h2 h1 (row_blk_turn (l := l) h3 h1)) h2
/-- A new row out of nothing. -/
theorem Sep.none_ {α : Type} (T : Ty α) {w0 w : World} {L : List Chunk} (S : Sep w0 w L) : Sep w0 w (row T (.slice none 0 0) [] :: L) :=
  S.push (qrefl w) (Row.nil T w) (fun i hi => by simp [row, Value.ownBlock] at hi)

/-- append, told apart (see run_app2). -/
theorem app2 {α : Type} {T : Ty α} {P : Program} {w : World} {ops : Array Oper} {rest : List Oper} {o : Oper} {a : Act} {Q : Exit → Act → World → Prop} {t : TypeId} {bytes : Nat} (E : Elem P T t bytes) (hgd : o.guard = none) (s x : Operand)
    (ho : o.op = .call { callee := .builtin .append, args := #[s, x], argTypes := #[t, t] })
    (v : Value) (l : List α) (hs : a.eval s = v) (hr : Row T w v l) (b : Option Addr) (m c : Nat) (r : List α) (hx : a.eval x = .slice b m c) (hrd : Rd T w b m r)
    (hbytes : (l.length + m) * bytes ≤ 140737488355328)
    (h : ∀ v' w', Row T w' v' (l ++ r) → Kp w w' (fun k => v.ownBlock = some k) → (v'.ownBlock = v.ownBlock ∨ v'.ownBlock = some w.heap.size) →
      ((∃ g c, v = .slice (some ⟨g, 0, none⟩) l.length c ∧ v' = .slice (some ⟨g, 0, none⟩) (l.length + m) c) ∨ (v' = v ∧ w' = w ∧ m = 0) ∨ (Below w.heap.size w w' ∧ v'.ownBlock = some w.heap.size)) → wpList P ops Q rest (a.put o.dst v') w') :
    wpList P ops Q (o :: rest) a w := by
  refine wpList_plain hgd fun K hK => ?_
  obtain ⟨z, hz, hinfo⟩ := E.hi
  obtain ⟨i, hi, hzz⟩ := Option.map_eq_some_iff.1 hinfo
  simp only [Prod.mk.injEq] at hzz
  obtain ⟨v', w', h1, h2, h3, h4, h5⟩ := run_app2 (P := P) (w := w) t o.type i z bytes E.ht hi hzz.1 hzz.2.1 hzz.2.2 hz hr hrd (c := c) hbytes E.pos
  unfold Oper.wp execOp
  simp only [ho, resolve, invoke, builtin, Sem.run_bind, Sem.run_pure, Result.andThen_ok, List.map_toArray, List.map_cons, List.map_nil, hs, hx, h1]
  exact hK _ _ (h v' w' h2 h3 h4 h5)
/-- A block that has just been made reads as the one element that it holds. -/
theorem rd_new {α : Type} (T : Ty α) (w : World) (x : α) (cs : Array Value) (h : cs.toList = T.enc x) (t : TypeId) : Rd T (w.alloc (.cells cs t)) (some ⟨w.heap.size, 0, none⟩) 1 [x] := by
  refine ⟨rfl, by decide, fun i y hy => ⟨w.heap.size, 0, rfl, fun j u hu => ?_⟩⟩
  cases i with
  | zero =>
    obtain rfl : x = y := by simpa using hy
    have hh : (w.alloc (.cells cs t)).heap[w.heap.size]? = some (.cells cs t (0, 0)) := heap_alloc_new w _
    simp only [World.cell?, hh, Option.isSome_none, Nat.zero_add, Nat.zero_mul]
    rw [← Array.getElem?_toList, h]
    exact hu
  | succ i => simp at hy

/-! ### 5a. Several rows of one type -/
section
variable {α : Type} (T : Ty α)
def rowsOf (vs : List Value) (ls : List (List α)) : List Chunk := List.zipWith (row T) vs ls
/-- All but the row of number i. -/
def rowsBut (i : Nat) (vs : List Value) (ls : List (List α)) : List Chunk := rowsOf T (vs.take i) (ls.take i) ++ rowsOf T (vs.drop (i + 1)) (ls.drop (i + 1))
variable {T} {w0 w : World} {M : List Chunk} {vs : List Value} {ls : List (List α)} {i : Nat} {v : Value} {l l' : List α}
theorem rowsOf_at (hv : vs[i]? = some v) (hl : ls[i]? = some l) : rowsOf T vs ls = rowsOf T (vs.take i) (ls.take i) ++ row T v l :: rowsOf T (vs.drop (i + 1)) (ls.drop (i + 1)) := by
  induction i generalizing vs ls with
  | zero =>
    cases vs with
    | nil => simp at hv
    | cons a vs =>
      cases ls with
      | nil => simp at hl
      | cons b ls =>
        simp at hv hl
        subst hv hl
        simp [rowsOf]
  | succ i ih =>
    cases vs with
    | nil => simp at hv
    | cons a vs =>
      cases ls with
      | nil => simp at hl
      | cons b ls =>
        have := ih (vs := vs) (ls := ls) (by simpa using hv) (by simpa using hl)
        simp only [rowsOf, List.zipWith_cons_cons, List.take_succ_cons, List.drop_succ_cons, List.cons_append] at this ⊢
        rw [this]
theorem rowsBut_set : rowsBut T i vs (ls.set i l') = rowsBut T i vs ls := by
  unfold rowsBut
  rw [List.take_set_of_le (Nat.le_refl _), List.drop_set_of_lt (by omega)]
theorem rows_up (S : Sep w0 w (rowsOf T vs ls ++ M)) (hv : vs[i]? = some v) (hl : ls[i]? = some l) : Sep w0 w (row T v l :: (rowsBut T i vs ls ++ M)) := by
  rw [rowsOf_at hv hl, List.append_assoc, List.cons_append] at S
  have := Sep.up _ S
  unfold rowsBut
  rwa [List.append_assoc]
theorem rows_down (S : Sep w0 w (row T v l :: (rowsBut T i vs ls ++ M))) (hv : vs[i]? = some v) (hl : i < ls.length) : Sep w0 w (rowsOf T vs (ls.set i l) ++ M) := by
  rw [rowsOf_at hv (show (ls.set i l)[i]? = some l by simp [hl]), List.take_set_of_le (Nat.le_refl _), List.drop_set_of_lt (by omega), List.append_assoc, List.cons_append]
  unfold rowsBut at S
  rw [List.append_assoc] at S
  exact S.perm List.perm_middle.symm
theorem rows_down' (S : Sep w0 w (row T v l :: (rowsBut T i vs ls ++ M))) (hv : vs[i]? = some v) (hl : ls[i]? = some l) : Sep w0 w (rowsOf T vs ls ++ M) := by
  have h := rows_down S hv (List.getElem?_eq_some_iff.1 hl).1
  rwa [show ls.set i l = ls by
    apply List.ext_getElem?
    intro j
    rw [List.getElem?_set]
    split
    · rename_i e; subst e; obtain ⟨h1, h2⟩ := List.getElem?_eq_some_iff.1 hl; simp [h1, h2]
    · rfl] at h
theorem rows_row (S : Sep w0 w (rowsOf T vs ls ++ M)) (hv : vs[i]? = some v) (hl : ls[i]? = some l) : Row T w v l := (rows_up S hv hl).hd
theorem sep_drop {L1 L2 : List Chunk} (S : Sep w0 w (L1 ++ L2)) : Sep w0 w L2 :=
  ⟨S.below, fun c hc => S.is c (List.mem_append_right _ hc), fun c hc => S.lie c (List.mem_append_right _ hc), (List.pairwise_append.1 S.apart).2.1⟩
end

/-! ### 5b. A store into a row -/
section
variable {α : Type} {T : Ty α} {w0 w : World} {L : List Chunk} {g cap n : Nat} {l : List α}
theorem Ty.flat_set (T : Ty α) {l : List α} {i j : Nat} {x x' : α} {u : Value} (hi : l[i]? = some x) (hj : j < T.sz) (he : T.enc x' = (T.enc x).set j u) : T.flat (l.set i x') = (T.flat l).set (i * T.sz + j) u := by
  induction l generalizing i with
  | nil => simp at hi
  | cons y l ih =>
    have e : ∀ z r, T.flat (z :: r) = T.enc z ++ T.flat r := fun z r => by simp [Ty.flat]
    cases i with
    | zero =>
      obtain rfl : y = x := by simpa using hi
      rw [List.set_cons_zero, e, e, he, Nat.zero_mul, Nat.zero_add, List.set_append_left _ _ (by rw [T.len]; exact hj)]
    | succ i =>
      rw [List.set_cons_succ, e, e, ih (by simpa using hi), List.set_append_right _ _ (by rw [T.len, Nat.succ_mul]; omega), T.len]
      congr 2
      rw [Nat.succ_mul]; omega
theorem row_cell (S : Sep w0 w (row T (.slice (some ⟨g, 0, none⟩) n cap) l :: L)) {i j : Nat} {x : α} {u : Value} (hi : l[i]? = some x) (hu : (T.enc x)[j]? = some u) : w.cell? ⟨g, i * T.sz + j, none⟩ = some u := by
  obtain ⟨hr, _⟩ := Row.rd' S.hd
  obtain ⟨b, o, e, hc⟩ := hr.2.2 i x hi
  cases e
  have := hc j u hu
  rwa [Nat.zero_add] at this
theorem row_len (S : Sep w0 w (row T (.slice (some ⟨g, 0, none⟩) n cap) l :: L)) : l.length = n := (Row.rd' S.hd).1.1
theorem row_free (S : Sep w0 w (row T (.slice (some ⟨g, 0, none⟩) n cap) l :: L)) (j : Nat) : w.frozen? ⟨g, j, none⟩ = false := by
  have h : Row T w (.slice (some ⟨g, 0, none⟩) n cap) l := S.hd
  rcases h.2 with ⟨h1, _⟩ | ⟨g', cap', cur, h1, _, hh, _⟩
  · cases h1
  · cases h1
    simp [World.frozen?, hh]
theorem row_set (S : Sep w0 w (row T (.slice (some ⟨g, 0, none⟩) n cap) l :: L)) {i j : Nat} {x x' : α} {u : Value} (hi : l[i]? = some x) (hj : j < T.sz) (he : T.enc x' = (T.enc x).set j u) :
    Sep w0 (w.setCell ⟨g, i * T.sz + j, none⟩ u) (row T (.slice (some ⟨g, 0, none⟩) n cap) (l.set i x') :: L) := by
  have h : Row T w (.slice (some ⟨g, 0, none⟩) n cap) l := S.hd
  refine S.turn (d := row T (.slice (some ⟨g, 0, none⟩) n cap) (l.set i x')) ((Kp.setCell w ⟨g, i * T.sz + j, none⟩ u).mono (fun k hk => .inl (by rw [show k = g from hk]; rfl))) ?_ (fun k hk => .inl hk)
  show Row T _ _ _
  have hn := row_len S
  unfold Row at h ⊢
  rw [List.length_set, T.flat_set hi hj he]
  rw [hn] at h ⊢
  refine ⟨by rw [List.length_set]; exact h.1, ?_⟩
  rcases h.2 with ⟨h1, _⟩ | ⟨g', cap', cur, h1, hb, hh, h3, h4, h5, h6⟩
  · cases h1
  · cases h1
    refine .inr ⟨g, cap, cur.setIfInBounds (i * T.sz + j) u, rfl, hb, ?_, h3, h4, by simpa using h5, ?_⟩
    · simp [World.setCell, Array.getElem?_modify, hh]
    · rw [Array.toList_setIfInBounds, List.take_set, h6]
end

/-! ### 6. A block whose cells are known -/
def blk (g : Nat) (t : TypeId) (cs : List Value) : Chunk where
  blk k := k = g
  is w := w.heap[g]? = some (.cells cs.toArray t (0, 0))
  keep hm h := (hm g rfl).trans h
section
variable {w0 w : World} {L : List Chunk} {g : Nat} {t : TypeId} {cs : List Value}
theorem Sep.box (S : Sep w0 w L) (t : TypeId) (cs : List Value) : Sep w0 (w.alloc (.cells cs.toArray t)) (blk w.heap.size t cs :: L) :=
  S.push (qalloc (qrefl w) _) (heap_alloc_new w _) (fun i hi => by
    have : i = w.heap.size := hi
    subst this
    exact ⟨Nat.le_refl _, by simp⟩)
theorem blk_cell (S : Sep w0 w (blk g t cs :: L)) (j : Nat) {u : Value} (hu : cs[j]? = some u) : w.cell? ⟨g, j, none⟩ = some u := by
  have h : w.heap[g]? = some (.cells cs.toArray t (0, 0)) := S.hd
  simp [World.cell?, h, hu]
theorem blk_free (S : Sep w0 w (blk g t cs :: L)) (j : Nat) : w.frozen? ⟨g, j, none⟩ = false := by
  have h : w.heap[g]? = some (.cells cs.toArray t (0, 0)) := S.hd
  simp [World.frozen?, h]
theorem blk_set (S : Sep w0 w (blk g t cs :: L)) (j : Nat) (u : Value) : Sep w0 (w.setCell ⟨g, j, none⟩ u) (blk g t (cs.set j u) :: L) := by
  have h : w.heap[g]? = some (.cells cs.toArray t (0, 0)) := S.hd
  refine S.turn (d := blk g t (cs.set j u)) (Kp.setCell w ⟨g, j, none⟩ u) ?_ (fun i hi => .inl hi)
  show (w.setCell ⟨g, j, none⟩ u).heap[g]? = _
  simp [World.setCell, Array.getElem?_modify, h]
theorem blk_mem {X : List Chunk} (S : Sep w0 w X) (h : blk g t cs ∈ X) (j : Nat) {u : Value} (hu : cs[j]? = some u) : w.cell? ⟨g, j, none⟩ = some u := by
  have h : w.heap[g]? = some (.cells cs.toArray t (0, 0)) := S.is _ h
  simp [World.cell?, h, hu]
theorem blk_lt (S : Sep w0 w (blk g t cs :: L)) : w0.heap.size ≤ g ∧ g < w.heap.size := S.lie _ List.mem_cons_self g rfl
end
end Go.Proofs.YtdkailccfcijiaaDoor
