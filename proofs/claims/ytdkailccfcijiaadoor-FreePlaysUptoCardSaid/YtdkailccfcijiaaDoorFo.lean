/- Pages given out and given back: plain laws; contracts. Conditions: the laid errors and the library's table. The document's rising list of taken pages: plain laws of numbers. -/
import Derived.Test.YtdkailccfcijiaaDoorFn
namespace Go.Proofs.YtdkailccfcijiaaDoor
open Go.RowKit Go.Shelf
set_option linter.unusedVariables false
set_option linter.unusedSimpArgs false
set_option maxRecDepth 100000

/-- What Take has given out. -/
theorem takeR_say {N : Nat} : ∀ (n : Nat) {ws : List Nat}, FmInv N ws → n ≤ freeN ws →
    (∀ i, tk (takeR n ws).2 i = (tk ws i || decide (i ∈ (takeR n ws).1))) ∧ (takeR n ws).1.Nodup ∧ ∀ x ∈ (takeR n ws).1, 2 ≤ x ∧ x < N ∧ tk ws x = false
  | 0, ws, _, _ => ⟨fun i => by simp [takeR], List.nodup_nil, fun x hx => by cases hx⟩
  | n + 1, ws, h, hn => by
    obtain ⟨h1, h2, h3, h4⟩ := next_at h (by omega)
    have h5 := free_next h (by omega)
    obtain ⟨k1, k2, k3⟩ := takeR_say n (inv_set h h4) (by omega)
    refine ⟨fun i => ?_, ?_, fun x hx => ?_⟩
    · rw [takeR]
      show tk (takeR n (setW ws (nextF ws))).2 i = _
      rw [k1, tk_set h4]
      simp only [List.mem_cons, Bool.or_assoc]
      congr 1
      rw [← Bool.decide_or, decide_eq_decide]
      constructor
      · rintro (h | h)
        · exact .inl h.symm
        · exact .inr h
      · rintro (h | h)
        · exact .inl h.symm
        · exact .inr h
    · rw [takeR]
      refine List.nodup_cons.2 ⟨fun hm => ?_, k2⟩
      have := (k3 _ hm).2.2
      rw [tk_set h4] at this
      simp at this
    · rw [takeR] at hx
      rcases List.mem_cons.1 hx with rfl | hx
      · exact ⟨h2, h3, h1.1⟩
      · obtain ⟨a, b, c⟩ := k3 x hx
        rw [tk_set h4] at c
        simp at c
        exact ⟨a, b, c.1⟩
/-- What a map says when the pages l have been given back. -/
structure Gone (N : Nat) (ws : List Nat) (l : List Nat) (vs : List Nat) : Prop where
  inv : FmInv N vs
  say : ∀ i, i < N → tk vs i = (tk ws i && !decide (i ∈ l))
theorem Gone.start {N : Nat} {ws : List Nat} (h : FmInv N ws) : Gone N ws [] ws := ⟨h, fun i _ => by simp⟩
theorem Gone.step {N : Nat} {ws l vs : List Nat} {x : Nat} (h : Gone N ws l vs) (hx : x ∉ l) (h2 : 2 ≤ x) (hN : x < N) (ht : tk ws x = true) : clearR N vs (x : Int) = (none, clrW vs x) ∧ Gone N ws (l ++ [x]) (clrW vs x) := by
  have ht2 : tk vs x = true := by rw [h.say x hN, ht]; simp [hx]
  have hlt : x / 64 < vs.length := by rw [h.inv.ok.len]; omega
  constructor
  · unfold clearR treeB
    rw [if_pos (by simp; omega), Int.toNat_natCast, ht2]
    simp
  · refine ⟨inv_clr h.inv h2 hN, fun i hi => ?_⟩
    rw [tk_clr hlt h.inv.ok.word, h.say i hi, Bool.and_assoc]
    congr 1
    rw [← Bool.not_or, ← Bool.decide_or]
    congr 1
    rw [decide_eq_decide, List.mem_append, List.mem_singleton]
    constructor
    · rintro (h | h)
      · exact .inl h
      · exact .inr h.symm
    · rintro (h | h)
      · exact .inl h
      · exact .inr h.symm
/-- What is to be given back: of pages that are free in ws, taken in wt. -/
structure Given (N : Nat) (ws wt : List Nat) (c : List Nat) : Prop where
  inv : FmInv N wt
  old : FmInv N ws
  say : ∀ i, tk wt i = (tk ws i || decide (i ∈ c))
  nodup : c.Nodup
  free : ∀ x ∈ c, 2 ≤ x ∧ x < N ∧ tk ws x = false
theorem given_take {N n : Nat} {ws : List Nat} (h : FmInv N ws) (hn : n ≤ freeN ws) : Given N ws (takeR n ws).2 (takeR n ws).1 := by
  obtain ⟨a, b, c⟩ := takeR_say n h hn
  exact ⟨inv_take n h hn, h, a, b, c⟩
theorem take_step {l : List Nat} {r x : Nat} (hx : l[r]? = some x) : l.take (r + 1) = l.take r ++ [x] := by rw [List.take_add_one, hx]; rfl
theorem nodup_take {l : List Nat} {r x : Nat} (hn : l.Nodup) (hx : l[r]? = some x) : x ∉ l.take r := by
  obtain ⟨hr, he⟩ := List.getElem?_eq_some_iff.1 hx
  intro hm
  obtain ⟨j, hj, he2⟩ := List.getElem_of_mem hm
  rw [List.length_take] at hj
  rw [List.getElem_take] at he2
  have := (List.getElem_inj (h₀ := by omega) (h₁ := hr) hn).1 (he2.trans he.symm)
  omega
theorem Given.step {N : Nat} {ws wt c d vs : List Nat} {r x : Nat} (h : Given N ws wt c) (hd : d.Nodup) (hdc : ∀ y, y ∈ d ↔ y ∈ c) (hx : d[r]? = some x) (hg : Gone N wt (d.take r) vs) :
    clearR N vs (x : Int) = (none, clrW vs x) ∧ Gone N wt (d.take (r + 1)) (clrW vs x) := by
  have hm := (hdc x).1 (List.mem_of_getElem? hx)
  obtain ⟨a, b, e⟩ := h.free x hm
  rw [take_step hx]
  exact hg.step (nodup_take hd hx) a b (by rw [h.say, e]; simp [hm])
theorem Given.back {N : Nat} {ws wt c d vs : List Nat} {r : Nat} (h : Given N ws wt c) (hdc : ∀ y, y ∈ d ↔ y ∈ c) (hr : d.length ≤ r) (hg : Gone N wt (d.take r) vs) : vs = ws := by
  refine words_ext hg.inv h.old fun i hi => ?_
  rw [hg.say i hi, h.say, List.take_of_length_le hr]
  by_cases hm : i ∈ c
  · rw [show decide (i ∈ d) = true by simpa using (hdc i).2 hm, (h.free i hm).2.2]; simp
  · rw [show decide (i ∈ d) = false by simpa using fun hq => hm ((hdc i).1 hq)]; simp [hm]
theorem rev_at {l : List Nat} {r : Nat} (hr : r < l.length) : l.reverse[r]? = l[l.length - 1 - r]? := by
  rw [List.getElem?_reverse hr]
section
variable {E : Nat → Addr} {w0 w : World} {L : List Chunk} {p g pages : Nat} {ws ws' : List Nat}
theorem clear_at (hE : Errs all13 E w0) (S : Sep w0 w (fm p g pages ws :: L)) (hok : FmOk pages ws) {n : Int} (hM : clearR pages ws n = (none, ws')) :
    Calls Tryd.prog 70 #[.pointer (some ⟨p, 0, none⟩), .int .i64 n] w fun e w' => e = .returned .nilIface ∧ Sep w0 w' (fm p g pages ws' :: L) := by
  have := clear70 (hE.below S.below) S hok n
  rw [hM] at this
  exact this
theorem take_at (hT : TabAt13 w0) (S : Sep w0 w (fm p g pages ws :: L)) (hok : FmOk pages ws) {n : Nat} {l ws' : List Nat} (hn : n ≤ freeN ws) (h : takeR n ws = (l, ws')) :
    Calls Tryd.prog 68 #[.pointer (some ⟨p, 0, none⟩), .int .i64 n] w fun e w' => ∃ v, e = .returned (.tuple #[v, .nilIface]) ∧ Sep w0 w' (row IT v (ints l) :: fm p g pages ws' :: L) := by
  have := take68_ok hT S hok n hn
  rw [h] at this
  exact this
end
theorem pickB (k : Int) (n : Nat) (w : World) (h1 : 1 ≤ n) (h2 : n ≤ 4294967296) : Calls Tryd.prog 67 #[.int .i64 k, .int .i64 n] w fun e w' => e = .returned (.int .i64 (pickN k n : Nat)) ∧ Below w.heap.size w w' :=
  (pick67 k n w h1 h2).mono fun e w' ⟨he, hw⟩ => ⟨he, by rw [← hw]; exact qrefl w⟩
theorem rdv_form {α : Type} {T : Ty α} {w : World} {v : Value} {l : List α} (h : RdV T w v l) : ∃ a n c, v = .slice a n c ∧ Rd T w a n l ∧ n = l.length := by
  obtain ⟨a, c, e, _, _, hr⟩ := h
  exact ⟨a, _, c, e, hr, rfl⟩
theorem rd_of {α : Type} {T : Ty α} {w0 w : World} {L : List Chunk} {a : Option Addr} {n c : Nat} {l : List α} (S : Sep w0 w L) (h : row T (.slice a n c) l ∈ L) : Rd T w a n l := (Row.rd' (S.is _ h)).1
theorem row_at {w0 w : World} {L : List Chunk} {b o n c k : Nat} {l : List Int} {x : Int} (S : Sep w0 w L) (h : row IT (.slice (some ⟨b, o, none⟩) n c) l ∈ L) (hx : l[k]? = some x) : w.cell? ⟨b, o + k, none⟩ = some (.int .i64 x) := by
  have hr := rd_of S h
  have hk : k < n := by
    have := (List.getElem?_eq_some_iff.1 hx).1
    rw [hr.1] at this
    exact this
  obtain ⟨b', o', x', e, hx', hc⟩ := rdI hr hk
  cases e
  rw [hx] at hx'
  cases hx'
  exact hc
theorem rev_nodup {l : List Nat} (h : l.Nodup) : l.reverse.Nodup := by
  unfold List.Nodup at h ⊢
  rw [List.pairwise_reverse]
  exact h.imp fun hab e => hab e.symm
theorem ints_append (a b : List Nat) : ints (a ++ b) = ints a ++ ints b := by simp [ints]
theorem ints_len (a : List Nat) : (ints a).length = a.length := by simp [ints]
theorem ints_at {a : List Nat} {k x : Nat} (h : a[k]? = some x) : (ints a)[k]? = some (x : Int) := by simp [ints, h]

def RiseN (l : List Nat) : Prop := l.Pairwise (· < ·)
theorem rise_ext : ∀ {a b : List Nat}, RiseN a → RiseN b → (∀ x, x ∈ a ↔ x ∈ b) → a = b
  | [], [], _, _, _ => rfl
  | [], y :: b, _, _, h => by have := (h y).2 List.mem_cons_self; cases this
  | x :: a, [], _, _, h => by have := (h x).1 List.mem_cons_self; cases this
  | x :: a, y :: b, ha, hb, h => by
    obtain ⟨ha1, ha2⟩ := List.pairwise_cons.1 ha
    obtain ⟨hb1, hb2⟩ := List.pairwise_cons.1 hb
    have hxy : x = y := by
      rcases List.mem_cons.1 ((h x).1 List.mem_cons_self) with h1 | h1
      · exact h1
      · rcases List.mem_cons.1 ((h y).2 List.mem_cons_self) with h2 | h2
        · exact h2.symm
        · have := hb1 x h1
          have := ha1 y h2
          omega
    subst hxy
    congr 1
    refine rise_ext ha2 hb2 fun z => ?_
    constructor
    · intro hz
      rcases List.mem_cons.1 ((h z).1 (List.mem_cons_of_mem _ hz)) with h1 | h1
      · have := ha1 z hz; omega
      · exact h1
    · intro hz
      rcases List.mem_cons.1 ((h z).2 (List.mem_cons_of_mem _ hz)) with h1 | h1
      · have := hb1 z hz; omega
      · exact h1
theorem rise_range (n : Nat) : RiseN (List.range n) := List.pairwise_lt_range
theorem rise_filter {l : List Nat} (h : RiseN l) (p : Nat → Bool) : RiseN (l.filter p) := h.filter p
/-- The taken ones of the tree's pages, rising. -/
def refT (N : Nat) (ws : List Nat) : List Nat := (List.range N).filter fun i => decide (2 ≤ i) && tk ws i
theorem refT_rise (N : Nat) (ws : List Nat) : RiseN (refT N ws) := rise_filter (rise_range N) _
theorem refT_mem {N : Nat} {ws : List Nat} {i : Nat} : i ∈ refT N ws ↔ i < N ∧ 2 ≤ i ∧ tk ws i = true := by
  simp [refT, List.mem_filter, List.mem_range]
theorem refT_of {N : Nat} {ws l : List Nat} (hl : RiseN l) (h : ∀ i, i ∈ l ↔ i < N ∧ 2 ≤ i ∧ tk ws i = true) : l = refT N ws :=
  rise_ext hl (refT_rise N ws) fun x => (h x).trans refT_mem.symm
theorem filter_split (p : Nat → Bool) : ∀ (l : List Nat), (l.filter p).length + (l.filter fun i => !p i).length = l.length
  | [] => rfl
  | x :: l => by
    have := filter_split p l
    rw [List.filter_cons, List.filter_cons]
    cases p x <;> simp <;> omega
theorem refT_len {N : Nat} {ws : List Nat} (h : FmInv N ws) : (refT N ws).length + 2 + freeN ws = N := by
  have h1 := bk_count h
  have h2 : cntF (bk N ws) = ((List.range N).filter fun i => !tk ws i).length := by
    unfold cntF bk
    rw [List.filter_map, List.length_map]
    rfl
  have h3 := filter_split (fun i => tk ws i) (List.range N)
  have h4 : ((List.range N).filter fun i => tk ws i) = 0 :: 1 :: refT N ws := by
    have hlo := h.ok.lo
    refine rise_ext (rise_filter (rise_range N) _) ?_ fun x => ?_
    · refine List.pairwise_cons.2 ⟨fun y hy => ?_, List.pairwise_cons.2 ⟨fun y hy => ?_, refT_rise N ws⟩⟩
      · rcases List.mem_cons.1 hy with rfl | hy
        · decide
        · have := (refT_mem.1 hy).2.1; omega
      · have := (refT_mem.1 hy).2.1; omega
    · rw [List.mem_filter, List.mem_range, List.mem_cons, List.mem_cons, refT_mem]
      constructor
      · rintro ⟨a, b⟩
        by_cases h0 : x = 0
        · exact .inl h0
        · by_cases h1 : x = 1
          · exact .inr (.inl h1)
          · exact .inr (.inr ⟨a, by omega, b⟩)
      · rintro (rfl | rfl | ⟨a, _, b⟩)
        · exact ⟨by omega, h.low 0 (by decide)⟩
        · exact ⟨by omega, h.low 1 (by decide)⟩
        · exact ⟨a, b⟩
  rw [h4] at h3
  simp only [List.length_cons, List.length_range] at h3
  omega
/-- Mark's list: what is below, the page, what is above. -/
def insT (id : Nat) (l : List Nat) : List Nat := l.filter (fun x => decide (x < id)) ++ id :: l.filter (fun x => decide (id < x))
theorem insT_rise {id : Nat} {l : List Nat} (h : RiseN l) : RiseN (insT id l) := by
  refine List.pairwise_append.2 ⟨rise_filter h _, List.pairwise_cons.2 ⟨fun y hy => ?_, rise_filter h _⟩, fun x hx y hy => ?_⟩
  · simpa using (List.mem_filter.1 hy).2
  · have h1 : x < id := by simpa using (List.mem_filter.1 hx).2
    rcases List.mem_cons.1 hy with rfl | hy
    · exact h1
    · have h2 : id < y := by simpa using (List.mem_filter.1 hy).2
      omega
theorem insT_mem {id x : Nat} {l : List Nat} : x ∈ insT id l ↔ x = id ∨ (x ∈ l ∧ x ≠ id) := by
  unfold insT
  rw [List.mem_append, List.mem_cons, List.mem_filter, List.mem_filter]
  simp only [decide_eq_true_eq]
  constructor
  · rintro (⟨a, b⟩ | a | ⟨a, b⟩)
    · exact .inr ⟨a, by omega⟩
    · exact .inl a
    · exact .inr ⟨a, by omega⟩
  · rintro (a | ⟨a, b⟩)
    · exact .inr (.inl a)
    · rcases Nat.lt_or_gt_of_ne b with h | h
      · exact .inl ⟨a, h⟩
      · exact .inr (.inr ⟨a, h⟩)
theorem refT_set {N : Nat} {ws : List Nat} (h : FmInv N ws) {id : Nat} (h2 : 2 ≤ id) (hN : id < N) : insT id (refT N ws) = refT N (setW ws id) := by
  have hlt : id / 64 < ws.length := by rw [h.ok.len]; omega
  refine refT_of (insT_rise (refT_rise N ws)) fun i => ?_
  rw [insT_mem, refT_mem, tk_set hlt, Bool.or_eq_true, decide_eq_true_eq]
  constructor
  · rintro (rfl | ⟨⟨a, b, c⟩, _⟩)
    · exact ⟨hN, h2, .inr rfl⟩
    · exact ⟨a, b, .inl c⟩
  · rintro ⟨a, b, c⟩
    by_cases he : i = id
    · exact .inl he
    · refine .inr ⟨⟨a, b, ?_⟩, he⟩
      rcases c with c | c
      · exact c
      · exact absurd c.symm he
theorem refT_clr {N : Nat} {ws : List Nat} (h : FmInv N ws) {id : Nat} (hN : id < N) : ((refT N ws).filter fun x => !decide (x = id)) = refT N (clrW ws id) := by
  have hlt : id / 64 < ws.length := by rw [h.ok.len]; omega
  refine refT_of (rise_filter (refT_rise N ws) _) fun i => ?_
  rw [List.mem_filter, refT_mem, tk_clr hlt h.ok.word, Bool.and_eq_true]
  simp only [Bool.not_eq_true', decide_eq_false_iff_not]
  constructor
  · rintro ⟨⟨a, b, c⟩, d⟩
    exact ⟨a, b, c, fun e => d e.symm⟩
  · rintro ⟨a, b, c, d⟩
    exact ⟨⟨a, b, c⟩, fun e => d e.symm⟩
/-- The free ones, rising. -/
def freeL (N : Nat) (ws : List Nat) : List Nat := (List.range N).filter fun i => !tk ws i
theorem freeL_mem {N : Nat} {ws : List Nat} {i : Nat} : i ∈ freeL N ws ↔ i < N ∧ tk ws i = false := by
  simp [freeL, List.mem_filter, List.mem_range]
theorem freeL_next {N : Nat} {ws : List Nat} (h : FmInv N ws) (hf : 0 < freeN ws) : freeL N ws = nextF ws :: freeL N (setW ws (nextF ws)) := by
  obtain ⟨h1, h2, h3, h4⟩ := next_at h hf
  refine rise_ext (rise_filter (rise_range N) _) (List.pairwise_cons.2 ⟨fun y hy => ?_, rise_filter (rise_range N) _⟩) fun x => ?_
  · obtain ⟨a, b⟩ := freeL_mem.1 hy
    rw [tk_set h4] at b
    simp only [Bool.or_eq_false_iff, decide_eq_false_iff_not] at b
    rcases Nat.lt_trichotomy (nextF ws) y with h | h | h
    · exact h
    · exact absurd h b.2
    · have := h1.2 y h; rw [b.1] at this; cases this
  · rw [List.mem_cons, freeL_mem, freeL_mem, tk_set h4, Bool.or_eq_false_iff, decide_eq_false_iff_not]
    constructor
    · rintro ⟨a, b⟩
      by_cases he : x = nextF ws
      · exact .inl he
      · exact .inr ⟨a, b, fun e => he e.symm⟩
    · rintro (rfl | ⟨a, b, _⟩)
      · exact ⟨h3, h1.1⟩
      · exact ⟨a, b⟩
theorem takeR_low {N : Nat} : ∀ (n : Nat) {ws : List Nat}, FmInv N ws → n ≤ freeN ws → (takeR n ws).1 = (freeL N ws).take n
  | 0, _, _, _ => rfl
  | n + 1, ws, h, hn => by
    obtain ⟨_, _, _, h4⟩ := next_at h (by omega)
    have h5 := free_next h (by omega)
    rw [freeL_next h (by omega), List.take_succ_cons, takeR, takeR_low n (inv_set h h4) (by omega)]
/-- Behind the page id: what was given out, where the search stands in the list. -/
def outT (ws : List Nat) (id : Nat) : List Nat := (List.range id).filter fun i => !tk ws i
theorem outT_succ (ws : List Nat) (id : Nat) : outT ws (id + 1) = if tk ws id then outT ws id else outT ws id ++ [id] := by
  unfold outT
  rw [List.range_succ, List.filter_append]
  cases h : tk ws id <;> simp [h]
theorem outT_le {N id : Nat} (ws : List Nat) (h : id ≤ N) : freeL N ws = outT ws id ++ ((List.range (N - id)).map (id + ·)).filter fun i => !tk ws i := by
  unfold freeL outT
  obtain ⟨d, rfl⟩ := Nat.exists_eq_add_of_le h
  rw [List.range_add, List.filter_append, Nat.add_sub_cancel_left]
theorem freeL_len {N : Nat} {ws : List Nat} (h : FmInv N ws) : (freeL N ws).length = freeN ws := by
  rw [← bk_count h]
  unfold cntF bk freeL
  rw [List.filter_map, List.length_map]
  rfl
/-- The search has given enough. -/
theorem outT_done {N n id : Nat} {ws : List Nat} (h : FmInv N ws) (hn : n ≤ freeN ws) (hid : id ≤ N) (hl : (outT ws id).length = n) : outT ws id = (takeR n ws).1 := by
  rw [takeR_low n h hn, outT_le ws hid, ← hl, List.take_left' rfl]
/-- How many of the list lie below id. -/
def lowT (T : List Nat) (id : Nat) : List Nat := T.filter fun x => decide (x < id)
theorem lowT_succ {N : Nat} {ws : List Nat} {id : Nat} (h2 : 2 ≤ id) (hN : id < N) : lowT (refT N ws) (id + 1) = if tk ws id then lowT (refT N ws) id ++ [id] else lowT (refT N ws) id := by
  refine rise_ext (rise_filter (refT_rise N ws) _) ?_ fun x => ?_
  · split
    · refine List.pairwise_append.2 ⟨rise_filter (refT_rise N ws) _, List.pairwise_singleton _ _, fun x hx y hy => ?_⟩
      have h1 : x < id := by simpa [lowT] using (List.mem_filter.1 hx).2
      obtain rfl : y = id := by simpa using hy
      exact h1
    · exact rise_filter (refT_rise N ws) _
  · split
    · rename_i ht
      simp only [lowT, List.mem_append, List.mem_filter, decide_eq_true_eq, List.mem_singleton]
      constructor
      · rintro ⟨a, b⟩
        by_cases he : x = id
        · exact .inr he
        · exact .inl ⟨a, by omega⟩
      · rintro (⟨a, b⟩ | rfl)
        · exact ⟨a, by omega⟩
        · exact ⟨refT_mem.2 ⟨hN, h2, ht⟩, by omega⟩
    · rename_i ht
      simp only [lowT, List.mem_filter, decide_eq_true_eq]
      constructor
      · rintro ⟨a, b⟩
        refine ⟨a, ?_⟩
        rcases Nat.lt_or_ge x id with h | h
        · exact h
        · obtain rfl : x = id := by omega
          exact absurd (refT_mem.1 a).2.2 ht
      · rintro ⟨a, b⟩
        exact ⟨a, by omega⟩
theorem low_high (l : List Nat) (h : RiseN l) (id : Nat) : l = lowT l id ++ l.filter fun x => !decide (x < id) := by
  refine rise_ext h (List.pairwise_append.2 ⟨rise_filter h _, rise_filter h _, fun x hx y hy => ?_⟩) fun x => ?_
  · have h1 : x < id := by simpa [lowT] using (List.mem_filter.1 hx).2
    have h2 : ¬ y < id := by simpa using (List.mem_filter.1 hy).2
    omega
  · simp only [lowT, List.mem_append, List.mem_filter, decide_eq_true_eq, Bool.not_eq_true', decide_eq_false_iff_not]
    constructor
    · intro a
      by_cases hx : x < id
      · exact .inl ⟨a, hx⟩
      · exact .inr ⟨a, hx⟩
    · rintro (⟨a, _⟩ | ⟨a, _⟩) <;> exact a
/-- What stands at the search's place is id just where id is taken. -/
theorem low_at {N : Nat} {ws : List Nat} {id : Nat} (h2 : 2 ≤ id) (hN : id < N) : (tk ws id = true → (refT N ws)[(lowT (refT N ws) id).length]? = some id) ∧ (∀ x, (refT N ws)[(lowT (refT N ws) id).length]? = some x → tk ws id = false → x ≠ id) := by
  constructor
  · intro ht
    have hs := lowT_succ (N := N) (ws := ws) h2 hN
    rw [if_pos ht] at hs
    have hl := low_high (refT N ws) (refT_rise N ws) (id + 1)
    rw [hs] at hl
    generalize lowT (refT N ws) id = lo at hl
    rw [hl, List.append_assoc, List.getElem?_append_right (Nat.le_refl _), Nat.sub_self]
    rfl
  · intro x hx ht he
    subst he
    have := (refT_mem.1 (List.mem_of_getElem? hx)).2.2
    rw [ht] at this
    cases this
/-- The pages from 2 to below id. -/
def upTo (id : Nat) : List Nat := (List.range id).filter fun i => decide (2 ≤ i)
theorem upTo_succ {id : Nat} (h : 2 ≤ id) : upTo (id + 1) = upTo id ++ [id] := by
  unfold upTo
  rw [List.range_succ, List.filter_append]
  simp [h]
/-- Take's list. -/
theorem take_all {N n id : Nat} {ws : List Nat} (h : FmInv N ws) (hn : n ≤ freeN ws) (hid : id ≤ N) (hl : (outT ws id).length = n) : upTo id ++ (refT N ws).drop (lowT (refT N ws) id).length = refT N (takeR n ws).2 := by
  obtain ⟨hs, _, _⟩ := takeR_say n h hn
  have ho := outT_done h hn hid hl
  have hd : (refT N ws).drop (lowT (refT N ws) id).length = (refT N ws).filter fun x => !decide (x < id) := by
    have := low_high (refT N ws) (refT_rise N ws) id
    conv => lhs; rw [this]
    rw [List.drop_left' ?_]
    generalize hq : lowT (refT N ws) id = lo at this ⊢
    rw [← this, hq]
  rw [hd]
  refine refT_of (List.pairwise_append.2 ⟨rise_filter (rise_range id) _, rise_filter (refT_rise N ws) _, fun x hx y hy => ?_⟩) fun i => ?_
  · have h1 : x < id := by simpa [upTo] using (List.mem_range.1 (List.mem_filter.1 hx).1)
    have h2 : ¬ y < id := by simpa using (List.mem_filter.1 hy).2
    omega
  · rw [List.mem_append, hs, ← ho, Bool.or_eq_true, decide_eq_true_eq]
    simp only [upTo, outT, List.mem_filter, List.mem_range, decide_eq_true_eq, Bool.not_eq_true', decide_eq_false_iff_not]
    rw [refT_mem]
    constructor
    · rintro (⟨a, b⟩ | ⟨⟨a, b, c⟩, d⟩)
      · refine ⟨by omega, b, ?_⟩
        cases ht : tk ws i
        · exact .inr ⟨a, rfl⟩
        · exact .inl rfl
      · exact ⟨a, b, .inl c⟩
    · rintro ⟨a, b, c⟩
      rcases Nat.lt_or_ge i id with h | h
      · exact .inl ⟨h, b⟩
      · rcases c with c | ⟨c, _⟩
        · exact .inr ⟨⟨a, b, c⟩, by omega⟩
        · omega
end Go.Proofs.YtdkailccfcijiaaDoor
