/- What the rows' readings give: lists of pairs and of changes that are read, their bulk; the errors that are laid. -/
import Derived.Test.YtdkailccfcijiaaDoorRows
import Derived.Test.YtdkailccfcijiaaDoorDr
import Derived.Deep.Slices
import Derived.Lib.SmallJoins
import Derived.ChangeArms
import Derived.ChangeSame
import Derived.ChangeVars
import Derived.RowKitTokens
import Derived.LaidLaws
import Derived.Stop.ErrReads
import Derived.WideShapes
namespace Go.Proofs.YtdkailccfcijiaaDoor
open Go.RowKit Go.ChangeShapes Go.WideShapes
set_option linter.unusedVariables false
set_option linter.unusedSimpArgs false
set_option maxRecDepth 100000

theorem bulk_part {H : Type} {d : DataW H} {l : List (DataW H)} (h : d ∈ l) : Rows.uptoBulk d ≤ Rows.uptoBulkAll l := by
  induction l with
  | nil => cases h
  | cons x r ih =>
    simp only [Rows.uptoBulkAll]
    rcases List.mem_cons.1 h with rfl | h
    · omega
    · have := ih h; omega
theorem bulk_pos {H : Type} (d : DataW H) : 1 ≤ Rows.uptoBulk d := by
  cases d with
  | lit l => cases l <;> simp [Rows.uptoBulk]
  | nil => simp [Rows.uptoBulk]
  | ptr d => simp [Rows.uptoBulk]
  | slice elems spare => simp [Rows.uptoBulk]
  | agg parts => simp [Rows.uptoBulk]
  | iface t d => simp [Rows.uptoBulk]
  | map entries => simp [Rows.uptoBulk]
  | held h => simp [Rows.uptoBulk]
theorem bulk_len {H : Type} (l : List (DataW H)) : l.length ≤ Rows.uptoBulkAll l := by
  induction l with
  | nil => simp [Rows.uptoBulkAll]
  | cons x r ih => have := bulk_pos x; simp only [Rows.uptoBulkAll, List.length_cons]; omega

instance : Inhabited P := ⟨⟨⟨#[]⟩, ⟨#[]⟩⟩⟩
instance : Inhabited C := ⟨⟨⟨#[]⟩, false, false, ⟨#[]⟩, ⟨#[]⟩⟩⟩
theorem cells28 : Tryd.prog.cellsOf 28 = 2 := by kernel_rfl
theorem cells32 : Tryd.prog.cellsOf 32 = 5 := by kernel_rfl
theorem cells9 : Tryd.prog.cellsOf 9 = 1 := by kernel_rfl
theorem cells4 : Tryd.prog.cellsOf 4 = 1 := by kernel_rfl

section
variable {H : Type} {enc : TypeId × Value → H} {w : World} {base : Nat} {spare : Nat → Bool} {held : Bool}
/-- An address whose cells are read is a plain one. -/
theorem plain_addr {a : Addr} {v : Value} (h : w.cell? a = some v) : a.spot = none := by
  cases ha : a.spot with
  | none => rfl
  | some s =>
    unfold World.cell? at h
    split at h
    · simp [ha] at h
    · cases h
theorem add_plain {b o : Nat} (n : Nat) : (⟨b, o, none⟩ : Addr).add n = ⟨b, o + n, none⟩ := by
  unfold Addr.add
  split
  · rename_i h; subst h; rfl
  · rfl
theorem openP {n : Nat} {v : Value} {y : DataW H × List MemPlace} {B : Nat} (h : DataW.trod enc Tryd.prog w base spare held n 22 [v] = some y) (hB : Rows.uptoBulk y.1 ≤ B) :
    ∃ (a : Option Addr) (c : Nat) (l : List P), v = .slice a l.length c ∧ RdV PT w (.slice a l.length c) l ∧ l.length ≤ B ∧ ∀ p ∈ l, p.k.size ≤ B ∧ p.v.size ≤ B := by
  rcases Deep.open_slice Tryd.underlying22 h with ⟨hv, hy⟩ | ⟨a, len, cap, m, n', D, Pl, hv, hb, hl, hm, hmm, hy, hx⟩
  · exact ⟨none, 0, [], by simpa using hv, RdV.nil PT w, Nat.zero_le _, fun p hp => by cases hp⟩
  · have hle : len ≤ m := by rw [hmm]; split <;> omega
    have hel : ∀ i, i < len → ∃ p : P, w.cell? (a.add (i * 2)) = some (.string p.k) ∧ w.cell? ((a.add (i * 2)).add 1) = some (.string p.v) ∧ D i = .agg [.lit (.string p.k.data.toList), .lit (.string p.v.data.toList)] := by
      intro i hi
      obtain ⟨cs', h1, h2⟩ := hx i (by omega)
      rw [cells28] at h1
      obtain ⟨_, hlen, hc⟩ := World.cells?_some h1
      obtain ⟨y0, y1, n2, e1, _, h3, h4⟩ := trod_struct2 Tryd.underlying28 h2
      match cs', hlen with
      | [c0, c1], _ =>
        obtain ⟨s0, e2, e3, _⟩ := DataW.trod_string Tryd.underlying9 (by simpa [cells9] using h3)
        obtain ⟨s1, e4, e5, _⟩ := DataW.trod_string Tryd.underlying9 (by simpa [cells9] using h4)
        have k0 : w.cell? (a.add (i * 2)) = _ := hc 0 (by omega)
        have k1 := hc 1 (by omega)
        simp only [List.cons.injEq, and_true] at e2 e4
        subst e2 e4
        simp only [Prod.mk.injEq] at e1
        refine ⟨⟨s0, s1⟩, by simpa using k0, by simpa using k1, ?_⟩
        rw [e1.1, e3, e5]
    obtain ⟨f, hf⟩ := Deep.choose_lt hel
    have hbk : Rows.uptoBulkAll ((List.range len).map D) ≤ B := by
      rw [hy] at hB
      simp only [Rows.uptoBulk] at hB
      omega
    have hlB : len ≤ B := by
      have := bulk_len ((List.range len).map D)
      simp at this
      omega
    have hat : ∀ i x, ((List.range len).map f)[i]? = some x → i < len ∧ x = f i := by
      intro i x hx
      rw [List.getElem?_map, Option.map_eq_some_iff] at hx
      obtain ⟨j, hj, rfl⟩ := hx
      have hlt : i < len := by have := (List.getElem?_eq_some_iff.1 hj).1; simpa using this
      rw [List.getElem?_range hlt] at hj
      cases hj
      exact ⟨hlt, rfl⟩
    refine ⟨some a, cap, (List.range len).map f, by simpa using hv, ⟨some a, cap, rfl, by simpa using hl, by simp only [maxLen] at hm; exact hm, by simp, by simp only [List.length_map, List.length_range, maxLen] at hm ⊢; omega, ?_⟩, by simpa using hlB, ?_⟩
    · intro i x hx
      obtain ⟨hi, rfl⟩ := hat i x hx
      obtain ⟨k0, k1, _⟩ := hf i hi
      obtain ⟨b, o, sp⟩ := a
      have hsp : sp = none := by
        obtain ⟨z0, _, _⟩ := hf 0 (by omega)
        have := plain_addr z0
        simpa [Addr.add] using this
      subst hsp
      rw [add_plain] at k0 k1
      rw [add_plain] at k1
      refine ⟨b, o, rfl, fun j u hu => ?_⟩
      match j, hu with
      | 0, hu => cases hu; exact k0
      | 1, hu => cases hu; exact k1
    · intro p hp
      obtain ⟨i, hi, rfl⟩ := List.mem_map.1 hp
      have hi' := List.mem_range.1 hi
      obtain ⟨_, _, k2⟩ := hf i hi'
      have := bulk_part (List.mem_map_of_mem (f := D) hi)
      rw [k2] at this
      simp only [Rows.uptoBulk, Rows.uptoBulkAll] at this
      have e0 : (f i).k.size = (f i).k.data.toList.length := rfl
      have e1 : (f i).v.size = (f i).v.data.toList.length := rfl
      omega
theorem openC {n : Nat} {v : Value} {y : DataW H × List MemPlace} {B : Nat} (h : DataW.trod enc Tryd.prog w base spare held n 23 [v] = some y) (hB : Rows.uptoBulk y.1 ≤ B) :
    ∃ (a : Option Addr) (c : Nat) (l : List C), v = .slice a l.length c ∧ RdV CT w (.slice a l.length c) l ∧ l.length ≤ B ∧ ∀ p ∈ l, p.k.size ≤ B ∧ p.old.size ≤ B ∧ p.new.size ≤ B := by
  rcases Deep.open_slice Tryd.underlying23 h with ⟨hv, hy⟩ | ⟨a, len, cap, m, n', D, Pl, hv, hb, hl, hm, hmm, hy, hx⟩
  · exact ⟨none, 0, [], by simpa using hv, RdV.nil CT w, Nat.zero_le _, fun p hp => by cases hp⟩
  · have hle : len ≤ m := by rw [hmm]; split <;> omega
    have hel : ∀ i, i < len → ∃ p : C, (w.cell? (a.add (i * 5)) = some (.string p.k) ∧ w.cell? ((a.add (i * 5)).add 1) = some (.bool p.had) ∧ w.cell? ((a.add (i * 5)).add 2) = some (.bool p.has) ∧ w.cell? ((a.add (i * 5)).add 3) = some (.string p.old) ∧ w.cell? ((a.add (i * 5)).add 4) = some (.string p.new)) ∧
        D i = .agg [.lit (.string p.k.data.toList), .lit (.bool p.had), .lit (.bool p.has), .lit (.string p.old.data.toList), .lit (.string p.new.data.toList)] := by
      intro i hi
      obtain ⟨cs', h1, h2⟩ := hx i (by omega)
      rw [cells32] at h1
      obtain ⟨_, hlen, hc⟩ := World.cells?_some h1
      obtain ⟨xs, n2, _, e1, _, hxl, hfs⟩ := DataW.trod_struct Tryd.underlying32 h2
      match cs', hlen, xs, hxl with
      | [c0, c1, c2, c3, c4], _, [y0, y1, y2, y3, y4], _ =>
        obtain ⟨s0, e2, f2, _⟩ := DataW.trod_string (x := y0) Tryd.underlying9 (by simpa [cells9] using hfs 0 _ rfl)
        obtain ⟨s1, e3, f3⟩ := DataW.trod_bool (x := y1) Tryd.underlying4 (by simpa [cells4] using hfs 1 _ rfl)
        obtain ⟨s2, e4, f4⟩ := DataW.trod_bool (x := y2) Tryd.underlying4 (by simpa [cells4] using hfs 2 _ rfl)
        obtain ⟨s3, e5, f5, _⟩ := DataW.trod_string (x := y3) Tryd.underlying9 (by simpa [cells9] using hfs 3 _ rfl)
        obtain ⟨s4, e6, f6, _⟩ := DataW.trod_string (x := y4) Tryd.underlying9 (by simpa [cells9] using hfs 4 _ rfl)
        have k0 : w.cell? (a.add (i * 5)) = _ := hc 0 (by omega)
        have k1 := hc 1 (by omega)
        have k2 := hc 2 (by omega)
        have k3 := hc 3 (by omega)
        have k4 := hc 4 (by omega)
        simp only [List.cons.injEq, and_true] at e2 e3 e4 e5 e6
        subst e2 e3 e4 e5 e6
        simp only [Prod.mk.injEq] at e1
        refine ⟨⟨s0, s1, s2, s3, s4⟩, ⟨by simpa using k0, by simpa using k1, by simpa using k2, by simpa using k3, by simpa using k4⟩, ?_⟩
        rw [e1.1, f2, f3, f4, f5, f6]
        rfl
    obtain ⟨f, hf⟩ := Deep.choose_lt hel
    have hbk : Rows.uptoBulkAll ((List.range len).map D) ≤ B := by
      rw [hy] at hB
      simp only [Rows.uptoBulk] at hB
      omega
    have hlB : len ≤ B := by
      have := bulk_len ((List.range len).map D)
      simp at this
      omega
    have hat : ∀ i x, ((List.range len).map f)[i]? = some x → i < len ∧ x = f i := by
      intro i x hx
      rw [List.getElem?_map, Option.map_eq_some_iff] at hx
      obtain ⟨j, hj, rfl⟩ := hx
      have hlt : i < len := by have := (List.getElem?_eq_some_iff.1 hj).1; simpa using this
      rw [List.getElem?_range hlt] at hj
      cases hj
      exact ⟨hlt, rfl⟩
    refine ⟨some a, cap, (List.range len).map f, by simpa using hv, ⟨some a, cap, rfl, by simpa using hl, by simp only [maxLen] at hm; exact hm, by simp, by simp only [List.length_map, List.length_range, maxLen] at hm ⊢; omega, ?_⟩, by simpa using hlB, ?_⟩
    · intro i x hx
      obtain ⟨hi, rfl⟩ := hat i x hx
      obtain ⟨⟨k0, k1, k2, k3, k4⟩, _⟩ := hf i hi
      obtain ⟨b, o, sp⟩ := a
      have hsp : sp = none := by
        obtain ⟨⟨z0, _⟩, _⟩ := hf 0 (by omega)
        have := plain_addr z0
        simpa [Addr.add] using this
      subst hsp
      simp only [add_plain] at k0 k1 k2 k3 k4
      refine ⟨b, o, rfl, fun j u hu => ?_⟩
      match j, hu with
      | 0, hu => cases hu; exact k0
      | 1, hu => cases hu; exact k1
      | 2, hu => cases hu; exact k2
      | 3, hu => cases hu; exact k3
      | 4, hu => cases hu; exact k4
    · intro p hp
      obtain ⟨i, hi, rfl⟩ := List.mem_map.1 hp
      have hi' := List.mem_range.1 hi
      obtain ⟨_, k2⟩ := hf i hi'
      have := bulk_part (List.mem_map_of_mem (f := D) hi)
      rw [k2] at this
      simp only [Rows.uptoBulk, Rows.uptoBulkAll] at this
      have e0 : (f i).k.size = (f i).k.data.toList.length := rfl
      have e1 : (f i).old.size = (f i).old.data.toList.length := rfl
      have e2 : (f i).new.size = (f i).new.data.toList.length := rfl
      omega
end

/-! ### the errors that are laid -/
def errText (x : String × Nat × List UInt8) : String × DataW Unit := (x.1, .iface "*errors.errorString" (.ptr (.agg [.lit (.string x.2.2)])))
theorem star249 : "*" ++ "errors.errorString" = "*errors.errorString" := by decide
theorem row232 (u : TypeId) (h : Tryd.prog.typeName? 3 u = some "*errors.errorString") : u = 232 :=
  typeName_ptr_named (nm := "errors.errorString") (by rw [star249]; kernel_rfl) (by kernel_rfl) (by decide) u (by rw [star249]; exact h)
theorem cells249 : Tryd.prog.cellsOf 249 = 1 := by kernel_rfl
theorem laid_walk {W : World} : ∀ (ts : List (String × Nat × List UInt8)) (ps : List MemPlace), (∀ x ∈ ts, Tryd.prog.globalNamed x.1 = some x.2.1 ∧ (Tryd.prog.globals[x.2.1]?).map (·.type) = some 35) →
    DataW.LaidVars Tryd.prog W (ts.map errText) ps →
    (∀ b off, MemPlace.cell b off ∈ ps → (∃ c t, W.heap[b]? = some (.cells c t (0, 0))) ∧ ∀ u v, W.cell? ⟨b, off, none⟩ = some (.iface u v) → Value.okWide Tryd.prog W .any 0 u v) →
    ∃ qs : List Addr, qs.length = ts.length ∧ (∀ (i : Nat) (x : String × Nat × List UInt8) (a : Addr), ts[i]? = some x → qs[i]? = some a → W.cell? ⟨x.2.1, 0, none⟩ = some (.iface 232 (.pointer (some a))) ∧ a.spot = none ∧ ∃ c t, W.heap[a.block]? = some (.cells c t (0, 0))) ∧
      (qs.map fun a => MemPlace.cell a.block a.off).Sublist ps
  | [], ps, _, _, _ => ⟨[], rfl, fun i x a h => by simp at h, List.nil_sublist _⟩
  | x :: ts, ps, hx, h, hr => by
    obtain ⟨g, t, cs, f, p, q, hg, ht, hv, hd, hrest, rfl⟩ := h
    obtain ⟨hg2, ht2⟩ := hx x List.mem_cons_self
    obtain rfl := Option.some.inj (hg2.symm.trans hg)
    obtain rfl := Option.some.inj (ht2.symm.trans ht)
    obtain ⟨l⟩ := cs
    have ok : ∀ u v, l = [.iface u v] → Value.okWide Tryd.prog W .any 0 u v := fun u v e => by
      subst e
      exact (hr x.2.1 0 (by simp [MemPlace.row])).2 u v (by simpa using World.var?_cell hg hv 0)
    obtain ⟨a, s, e1, hc, _, _, rfl⟩ := errorString_of_trod Tryd.underlying35 row232 Tryd.underlying232 Tryd.underlying249 rfl rfl Tryd.underlying9 cells249 cells9 hd ok
    obtain rfl : l = [.iface 232 (.pointer (some a))] := e1
    obtain ⟨qs, hl, hat, hsub⟩ := laid_walk ts q (fun y hy => hx y (List.mem_cons_of_mem _ hy)) hrest (fun b off hm => hr b off (List.mem_append_right _ hm))
    have hpl : MemPlace.row a 1 = [MemPlace.cell a.block a.off] := by simp [MemPlace.row]
    refine ⟨a :: qs, by simp [hl], fun i y b hy hb => ?_, ?_⟩
    · cases i with
      | zero =>
        simp only [List.getElem?_cons_zero, Option.some.injEq] at hy hb
        subst hy hb
        exact ⟨by simpa using World.var?_cell hg hv 0, plain_addr hc, (hr a.block a.off (by rw [hpl]; simp)).1⟩
      | succ i => exact hat i y b (by simpa using hy) (by simpa using hb)
    · rw [hpl, List.map_cons, List.append_assoc]
      exact (List.Sublist.cons_cons _ hsub).trans (List.sublist_append_right _ _)
/-- Each error's place in the order of the variables. -/
def placeOf (pos : List Nat) (qs : List Addr) (g : Nat) : Addr := qs.getD (pos.getD g 0) ⟨0, 0, none⟩
theorem errs_of_laid {W : World} (ts : List (String × Nat × List UInt8)) (h : laidMet Tryd.prog (ts.map errText) W) (hx : ∀ x ∈ ts, Tryd.prog.globalNamed x.1 = some x.2.1 ∧ (Tryd.prog.globals[x.2.1]?).map (·.type) = some 35)
    (S : List Nat) (pos : List Nat) (hp : ∀ g ∈ S, (ts[pos.getD g 0]?).map (·.2.1) = some g) : ∃ E, Errs S E W := by
  obtain ⟨ps, hL, hnd, hr⟩ := h
  obtain ⟨qs, hl, hat, hsub⟩ := laid_walk ts ps hx hL hr
  have hn := hsub.nodup hnd
  have key : ∀ g ∈ S, ∃ x a, ts[pos.getD g 0]? = some x ∧ x.2.1 = g ∧ qs[pos.getD g 0]? = some a ∧ placeOf pos qs g = a := by
    intro g hg
    obtain ⟨x, h1, h2⟩ := Option.map_eq_some_iff.1 (hp g hg)
    have hlt := (List.getElem?_eq_some_iff.1 h1).1
    have ha : qs[pos.getD g 0]? = some (qs[pos.getD g 0]'(by omega)) := List.getElem?_eq_getElem _
    exact ⟨x, _, h1, h2, ha, by unfold placeOf; rw [List.getD_eq_getElem?_getD, ha]; rfl⟩
  refine ⟨placeOf pos qs, fun g hg => ?_, fun g hg => ?_, fun g k hg hk e => ?_⟩
  · obtain ⟨x, a, h1, h2, h3, h4⟩ := key g hg
    have := (hat _ x a h1 h3).1
    rw [h2] at this
    rw [h4]
    exact this
  · obtain ⟨x, a, h1, h2, h3, h4⟩ := key g hg
    rw [h4]
    exact (hat _ x a h1 h3).2.2
  · obtain ⟨x, a, h1, h2, h3, h4⟩ := key g hg
    obtain ⟨x', a', h1', h2', h3', h4'⟩ := key k hk
    rw [h4, h4'] at e
    subst e
    have hi := List.getElem?_eq_some_iff.1 h3
    have hi' := List.getElem?_eq_some_iff.1 h3'
    obtain ⟨u1, u2⟩ := hi
    obtain ⟨v1, v2⟩ := hi'
    have hne : pos.getD g 0 = pos.getD k 0 := by
      refine (List.getElem_inj (xs := qs.map fun a => MemPlace.cell a.block a.off) (h₀ := by simpa using u1) (h₁ := by simpa using v1) hn).1 ?_
      rw [List.getElem_map, List.getElem_map, u2, v2]
    rw [hne, h1'] at h1
    cases h1
    exact h2.symm.trans h2'
end Go.Proofs.YtdkailccfcijiaaDoor
