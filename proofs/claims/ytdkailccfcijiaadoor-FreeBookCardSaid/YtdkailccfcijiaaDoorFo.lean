/- Pages given out and given back: plain laws; contracts. Conditions: the laid errors and the library's table. -/
import Derived.Test.YtdkailccfcijiaaDoorFn
namespace Go.Proofs.YtdkailccfcijiaaDoor
open Go.RowKit Go.Shelf
set_option linter.unusedVariables false
set_option linter.unusedSimpArgs false
set_option maxRecDepth 100000

/-- What Take has given out. -/
theorem takeR_say {N : Nat} : ∀ (n : Nat) {ws : List Nat}, FmInv N ws → n ≤ freeN ws →
    (∀ i, tk (takeR n ws).2 i = (tk ws i || decide (i ∈ (takeR n ws).1))) ∧ (takeR n ws).1.Nodup ∧ ∀ x ∈ (takeR n ws).1, 2 ≤ x ∧ x < N ∧ tk ws x = false
  | 0, ws, _, _ => ⟨fun i => by simp [takeR], List.nodup_nil, fun x hx => by cases hx⟩
  | n + 1, ws, h, hn => by
    obtain ⟨h1, h2, h3, h4⟩ := next_at h (by omega)
    have h5 := free_next h (by omega)
    obtain ⟨k1, k2, k3⟩ := takeR_say n (inv_set h h4) (by omega)
    refine ⟨fun i => ?_, ?_, fun x hx => ?_⟩
    · rw [takeR]
      show tk (takeR n (setW ws (nextF ws))).2 i = _
      rw [k1, tk_set h4]
      simp only [List.mem_cons, Bool.or_assoc]
      congr 1
      rw [← Bool.decide_or, decide_eq_decide]
      constructor
      · rintro (h | h)
        · exact .inl h.symm
        · exact .inr h
      · rintro (h | h)
        · exact .inl h.symm
        · exact .inr h
    · rw [takeR]
      refine List.nodup_cons.2 ⟨fun hm => ?_, k2⟩
      have := (k3 _ hm).2.2
      rw [tk_set h4] at this
      simp at this
    · rw [takeR] at hx
      rcases List.mem_cons.1 hx with rfl | hx
      · exact ⟨h2, h3, h1.1⟩
      · obtain ⟨a, b, c⟩ := k3 x hx
        rw [tk_set h4] at c
        simp at c
        exact ⟨a, b, c.1⟩
/-- What a map says when the pages l have been given back. -/
structure Gone (N : Nat) (ws : List Nat) (l : List Nat) (vs : List Nat) : Prop where
  inv : FmInv N vs
  say : ∀ i, i < N → tk vs i = (tk ws i && !decide (i ∈ l))
theorem Gone.start {N : Nat} {ws : List Nat} (h : FmInv N ws) : Gone N ws [] ws := ⟨h, fun i _ => by simp⟩
theorem Gone.step {N : Nat} {ws l vs : List Nat} {x : Nat} (h : Gone N ws l vs) (hx : x ∉ l) (h2 : 2 ≤ x) (hN : x < N) (ht : tk ws x = true) : clearR N vs (x : Int) = (none, clrW vs x) ∧ Gone N ws (l ++ [x]) (clrW vs x) := by
  have ht2 : tk vs x = true := by rw [h.say x hN, ht]; simp [hx]
  have hlt : x / 64 < vs.length := by rw [h.inv.ok.len]; omega
  constructor
  · unfold clearR treeB
    rw [if_pos (by simp; omega), Int.toNat_natCast, ht2]
    simp
  · refine ⟨inv_clr h.inv h2 hN, fun i hi => ?_⟩
    rw [tk_clr hlt h.inv.ok.word, h.say i hi, Bool.and_assoc]
    congr 1
    rw [← Bool.not_or, ← Bool.decide_or]
    congr 1
    rw [decide_eq_decide, List.mem_append, List.mem_singleton]
    constructor
    · rintro (h | h)
      · exact .inl h
      · exact .inr h.symm
    · rintro (h | h)
      · exact .inl h
      · exact .inr h.symm
/-- What is to be given back: of pages that are free in ws, taken in wt. -/
structure Given (N : Nat) (ws wt : List Nat) (c : List Nat) : Prop where
  inv : FmInv N wt
  old : FmInv N ws
  say : ∀ i, tk wt i = (tk ws i || decide (i ∈ c))
  nodup : c.Nodup
  free : ∀ x ∈ c, 2 ≤ x ∧ x < N ∧ tk ws x = false
theorem given_take {N n : Nat} {ws : List Nat} (h : FmInv N ws) (hn : n ≤ freeN ws) : Given N ws (takeR n ws).2 (takeR n ws).1 := by
  obtain ⟨a, b, c⟩ := takeR_say n h hn
  exact ⟨inv_take n h hn, h, a, b, c⟩
theorem take_step {l : List Nat} {r x : Nat} (hx : l[r]? = some x) : l.take (r + 1) = l.take r ++ [x] := by rw [List.take_add_one, hx]; rfl
theorem nodup_take {l : List Nat} {r x : Nat} (hn : l.Nodup) (hx : l[r]? = some x) : x ∉ l.take r := by
  obtain ⟨hr, he⟩ := List.getElem?_eq_some_iff.1 hx
  intro hm
  obtain ⟨j, hj, he2⟩ := List.getElem_of_mem hm
  rw [List.length_take] at hj
  rw [List.getElem_take] at he2
  have := (List.getElem_inj (h₀ := by omega) (h₁ := hr) hn).1 (he2.trans he.symm)
  omega
theorem Given.step {N : Nat} {ws wt c d vs : List Nat} {r x : Nat} (h : Given N ws wt c) (hd : d.Nodup) (hdc : ∀ y, y ∈ d ↔ y ∈ c) (hx : d[r]? = some x) (hg : Gone N wt (d.take r) vs) :
    clearR N vs (x : Int) = (none, clrW vs x) ∧ Gone N wt (d.take (r + 1)) (clrW vs x) := by
  have hm := (hdc x).1 (List.mem_of_getElem? hx)
  obtain ⟨a, b, e⟩ := h.free x hm
  rw [take_step hx]
  exact hg.step (nodup_take hd hx) a b (by rw [h.say, e]; simp [hm])
theorem Given.back {N : Nat} {ws wt c d vs : List Nat} {r : Nat} (h : Given N ws wt c) (hdc : ∀ y, y ∈ d ↔ y ∈ c) (hr : d.length ≤ r) (hg : Gone N wt (d.take r) vs) : vs = ws := by
  refine words_ext hg.inv h.old fun i hi => ?_
  rw [hg.say i hi, h.say, List.take_of_length_le hr]
  by_cases hm : i ∈ c
  · rw [show decide (i ∈ d) = true by simpa using (hdc i).2 hm, (h.free i hm).2.2]; simp
  · rw [show decide (i ∈ d) = false by simpa using fun hq => hm ((hdc i).1 hq)]; simp [hm]
theorem rev_at {l : List Nat} {r : Nat} (hr : r < l.length) : l.reverse[r]? = l[l.length - 1 - r]? := by
  rw [List.getElem?_reverse hr]
section
variable {E : Nat → Addr} {w0 w : World} {L : List Chunk} {p g pages : Nat} {ws ws' : List Nat}
theorem clear_at (hE : Errs all13 E w0) (S : Sep w0 w (fm p g pages ws :: L)) (hok : FmOk pages ws) {n : Int} (hM : clearR pages ws n = (none, ws')) :
    Calls Tryd.prog 70 #[.pointer (some ⟨p, 0, none⟩), .int .i64 n] w fun e w' => e = .returned .nilIface ∧ Sep w0 w' (fm p g pages ws' :: L) := by
  have := clear70 (hE.below S.below) S hok n
  rw [hM] at this
  exact this
theorem take_at (hT : TabAt13 w0) (S : Sep w0 w (fm p g pages ws :: L)) (hok : FmOk pages ws) {n : Nat} {l ws' : List Nat} (hn : n ≤ freeN ws) (h : takeR n ws = (l, ws')) :
    Calls Tryd.prog 68 #[.pointer (some ⟨p, 0, none⟩), .int .i64 n] w fun e w' => ∃ v, e = .returned (.tuple #[v, .nilIface]) ∧ Sep w0 w' (row IT v (ints l) :: fm p g pages ws' :: L) := by
  have := take68_ok hT S hok n hn
  rw [h] at this
  exact this
end
theorem pickB (k : Int) (n : Nat) (w : World) (h1 : 1 ≤ n) (h2 : n ≤ 4294967296) : Calls Tryd.prog 67 #[.int .i64 k, .int .i64 n] w fun e w' => e = .returned (.int .i64 (pickN k n : Nat)) ∧ Below w.heap.size w w' :=
  (pick67 k n w h1 h2).mono fun e w' ⟨he, hw⟩ => ⟨he, by rw [← hw]; exact qrefl w⟩
theorem rdv_form {α : Type} {T : Ty α} {w : World} {v : Value} {l : List α} (h : RdV T w v l) : ∃ a n c, v = .slice a n c ∧ Rd T w a n l ∧ n = l.length := by
  obtain ⟨a, c, e, _, _, hr⟩ := h
  exact ⟨a, _, c, e, hr, rfl⟩
theorem rd_of {α : Type} {T : Ty α} {w0 w : World} {L : List Chunk} {a : Option Addr} {n c : Nat} {l : List α} (S : Sep w0 w L) (h : row T (.slice a n c) l ∈ L) : Rd T w a n l := (Row.rd' (S.is _ h)).1
theorem row_at {w0 w : World} {L : List Chunk} {b o n c k : Nat} {l : List Int} {x : Int} (S : Sep w0 w L) (h : row IT (.slice (some ⟨b, o, none⟩) n c) l ∈ L) (hx : l[k]? = some x) : w.cell? ⟨b, o + k, none⟩ = some (.int .i64 x) := by
  have hr := rd_of S h
  have hk : k < n := by
    have := (List.getElem?_eq_some_iff.1 hx).1
    rw [hr.1] at this
    exact this
  obtain ⟨b', o', x', e, hx', hc⟩ := rdI hr hk
  cases e
  rw [hx] at hx'
  cases hx'
  exact hc
theorem rev_nodup {l : List Nat} (h : l.Nodup) : l.reverse.Nodup := by
  unfold List.Nodup at h ⊢
  rw [List.pairwise_reverse]
  exact h.imp fun hab e => hab e.symm
theorem ints_append (a b : List Nat) : ints (a ++ b) = ints a ++ ints b := by simp [ints]
theorem ints_len (a : List Nat) : (ints a).length = a.length := by simp [ints]
theorem ints_at {a : List Nat} {k x : Nat} (h : a[k]? = some x) : (ints a)[k]? = some (x : Int) := by simp [ints, h]
end Go.Proofs.YtdkailccfcijiaaDoor
