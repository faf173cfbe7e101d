/- Lists that were answered lie apart: 'apart', 'apartPairs' answer true over rows that lie apart. Conditions: fewer than 100 lists, none longer than 8388608. -/
import Derived.Test.YtdkailccfcijiaaDoorDe
import Derived.RegionTactic
import Derived.BigRegion
namespace Go.Proofs.YtdkailccfcijiaaDoor
open Go.RowKit
set_option linter.unusedVariables false
set_option linter.unusedSimpArgs false
set_option maxRecDepth 100000

def mkP (i : Nat) : P := ⟨strOfNums [109, (i : Int)], ⟨#[]⟩⟩
def mkC (i : Nat) : C := ⟨strOfNums [109, (i : Int)], false, false, ⟨#[]⟩, ⟨#[]⟩⟩
def moreP : P := ⟨⟨#[109, 111, 114, 101]⟩, ⟨#[]⟩⟩
def moreC : C := ⟨⟨#[109, 111, 114, 101]⟩, false, false, ⟨#[]⟩, ⟨#[]⟩⟩
/-- Two bytes as a text. -/
theorem two_bytes (W : World) (i : Nat) (b : Nat) (h0 : W.cell? ⟨b, 0, none⟩ = some (.int .u8 109)) (h1 : W.cell? ⟨b, 1, none⟩ = some (.int .u8 (i : Int))) :
    (convert 139 9 (.slice (some ⟨b, 0, none⟩) 2 2)).run Tryd.prog W = .ok (.string (strOfNums [109, (i : Int)])) W :=
  run_convert_bytes_arg W 139 5 Tryd.underlying139 Tryd.underlying5 b 0 2 2 [109, (i : Int)] rfl (fun j hj => by
    match j, hj with
    | 0, _ => simpa using h0
    | 1, _ => simpa using h1) 9 Tryd.underlying9
theorem rowP_put {w0 w : World} {L : List Chunk} {g n cap i : Nat} {l : List P} {x : P} (S : Sep w0 w (row PT (.slice (some ⟨g, 0, none⟩) n cap) l :: L)) (hi : l[i]? = some x) (y : P) :
    Sep w0 ((w.setCell ⟨g, i * 2, none⟩ (.string y.k)).setCell ⟨g, i * 2 + 1, none⟩ (.string y.v)) (row PT (.slice (some ⟨g, 0, none⟩) n cap) (l.set i y) :: L) := by
  have hlt := (List.getElem?_eq_some_iff.1 hi).1
  have S1 := row_set S (i := i) (j := 0) (x' := ⟨y.k, x.v⟩) (u := .string y.k) hi (by decide) rfl
  have S2 := row_set S1 (i := i) (j := 1) (x := ⟨y.k, x.v⟩) (x' := y) (u := .string y.v) (by simp [hlt]) (by decide) rfl
  rw [List.set_set] at S2
  exact S2
theorem rowC_put {w0 w : World} {L : List Chunk} {g n cap i : Nat} {l : List C} {x : C} (S : Sep w0 w (row CT (.slice (some ⟨g, 0, none⟩) n cap) l :: L)) (hi : l[i]? = some x) (y : C) :
    Sep w0 (((((w.setCell ⟨g, i * 5, none⟩ (.string y.k)).setCell ⟨g, i * 5 + 1, none⟩ (.bool y.had)).setCell ⟨g, i * 5 + 2, none⟩ (.bool y.has)).setCell ⟨g, i * 5 + 3, none⟩ (.string y.old)).setCell ⟨g, i * 5 + 4, none⟩ (.string y.new)) (row CT (.slice (some ⟨g, 0, none⟩) n cap) (l.set i y) :: L) := by
  have hlt := (List.getElem?_eq_some_iff.1 hi).1
  have S1 := row_set S (i := i) (j := 0) (x' := ⟨y.k, x.had, x.has, x.old, x.new⟩) (u := .string y.k) hi (by decide) rfl
  have S2 := row_set S1 (i := i) (j := 1) (x := ⟨y.k, x.had, x.has, x.old, x.new⟩) (x' := ⟨y.k, y.had, x.has, x.old, x.new⟩) (u := .bool y.had) (by simp [hlt]) (by decide) rfl
  have S3 := row_set S2 (i := i) (j := 2) (x := ⟨y.k, y.had, x.has, x.old, x.new⟩) (x' := ⟨y.k, y.had, y.has, x.old, x.new⟩) (u := .bool y.has) (by simp [hlt]) (by decide) rfl
  have S4 := row_set S3 (i := i) (j := 3) (x := ⟨y.k, y.had, y.has, x.old, x.new⟩) (x' := ⟨y.k, y.had, y.has, y.old, x.new⟩) (u := .string y.old) (by simp [hlt]) (by decide) rfl
  have S5 := row_set S4 (i := i) (j := 4) (x := ⟨y.k, y.had, y.has, y.old, x.new⟩) (x' := y) (u := .string y.new) (by simp [hlt]) (by decide) rfl
  simp only [List.set_set] at S5
  exact S5

/-- A slice of the row of number i is grown: where it lies, or elsewhere; the rows live on. -/
def More {α : Type} (T : Ty α) (w0 w : World) (vs : List Value) (ls : List (List α)) (i : Nat) (M : List Chunk) (u v : Value) (l lm : List α) : Prop :=
  (∃ g c, v = .slice (some ⟨g, 0, none⟩) l.length c ∧ u = .slice (some ⟨g, 0, none⟩) lm.length c ∧ l.length ≤ lm.length ∧ lm.take l.length = l ∧ Sep w0 w (row T u lm :: (rowsBut T i vs ls ++ M))) ∨
  Sep w0 w (row T u lm :: (rowsOf T vs ls ++ M))
section
variable {α : Type} {T : Ty α} {w0 w w' : World} {vs : List Value} {ls : List (List α)} {i : Nat} {M : List Chunk} {u v v' : Value} {l lm r : List α}
theorem More.start (S : Sep w0 w (rowsOf T vs ls ++ M)) (hv : vs[i]? = some v) (hl : ls[i]? = some l) : More T w0 w vs ls i M v v l l := by
  rcases Row.form (rows_row S hv hl) with ⟨rfl, rfl⟩ | ⟨g, c, rfl, _⟩
  · exact .inr (S.none_ T)
  · exact .inl ⟨g, c, rfl, rfl, Nat.le_refl _, List.take_length, rows_up S hv hl⟩
theorem More.step (h : More T w0 w vs ls i M u v l lm) (k : Below w.heap.size w w') : More T w0 w' vs ls i M u v l lm := by
  rcases h with ⟨g, c, h1, h2, h3, h4, h5⟩ | h
  · exact .inl ⟨g, c, h1, h2, h3, h4, h5.step k⟩
  · exact .inr (h.step k)
theorem More.hd (h : More T w0 w vs ls i M u v l lm) : Row T w u lm := by
  rcases h with ⟨g, c, h1, h2, h3, h4, h5⟩ | h
  · exact h5.hd
  · exact h.hd
theorem More.end_ (h : More T w0 w vs ls i M u v l lm) (hv : vs[i]? = some v) (hl : ls[i]? = some l) : Sep w0 w (rowsOf T vs ls ++ M) := by
  rcases h with ⟨g, c, rfl, rfl, h3, h4, h5⟩ | h
  · have h6 := Row.take h5.hd l.length h3
    rw [h4] at h6
    exact rows_down' (h5.turn (d := row T (.slice (some ⟨g, 0, none⟩) l.length c) l) (Kp.refl _ _) h6 (fun i hi => .inl hi)) hv hl
  · exact h.tl
theorem More.app {m : Nat} (h : More T w0 w vs ls i M u v l lm) (hv : vs[i]? = some v) (hl : ls[i]? = some l) (hr : r.length = m) (hm : m ≠ 0) (h1 : Row T w' v' (lm ++ r)) (h2 : Kp w w' (fun k => u.ownBlock = some k)) (h3 : v'.ownBlock = u.ownBlock ∨ v'.ownBlock = some w.heap.size)
    (h4 : (∃ g c, u = .slice (some ⟨g, 0, none⟩) lm.length c ∧ v' = .slice (some ⟨g, 0, none⟩) (lm.length + m) c) ∨ (v' = u ∧ w' = w ∧ m = 0) ∨ (Below w.heap.size w w' ∧ v'.ownBlock = some w.heap.size)) : More T w0 w' vs ls i M v' v l (lm ++ r) := by
  rcases h4 with ⟨g, c, e1, e2⟩ | ⟨_, _, h⟩ | ⟨hb, hn⟩
  · rcases h with ⟨g', c', f1, f2, f3, f4, f5⟩ | h
    · rw [e1] at f2
      injection f2 with f2 _ f2c
      injection f2 with f2
      injection f2 with f2 _ _
      subst f2 f2c
      refine .inl ⟨g, c, f1, by rw [e2, List.length_append, hr], by rw [List.length_append]; omega, by rw [List.take_append_of_le_length f3, f4], ?_⟩
      exact f5.turn (d := row T v' (lm ++ r)) h2 h1 (row_blk_turn (l := lm) h3 h1)
    · exact .inr (h.turn (d := row T v' (lm ++ r)) h2 h1 (row_blk_turn (l := lm) h3 h1))
  · exact absurd h hm
  · refine .inr ((h.end_ hv hl).push hb h1 (fun k hk => ?_))
    have : w.heap.size = k := Option.some.inj (hn.symm.trans hk)
    exact ⟨by omega, Row.lt h1 k hk⟩
end

/-- Up to row i all is marked. -/
structure MkP (i : Nat) (ls0 ls : List (List P)) : Prop where
  len : ls.length = ls0.length
  lens : ∀ (j : Nat) (l : List P), ls[j]? = some l → ∃ l0 : List P, ls0[j]? = some l0 ∧ l.length = l0.length
  mark : ∀ (j : Nat) (l : List P), j < i → ls[j]? = some l → ∀ (k : Nat) (x : P), l[k]? = some x → x = mkP j
theorem MkP.zero (ls : List (List P)) : MkP 0 ls ls := ⟨rfl, fun j l h => ⟨l, h, rfl⟩, fun j l h => by omega⟩
theorem MkP.step {i : Nat} {ls0 ls : List (List P)} {l l' : List P} (h : MkP i ls0 ls) (hl : ls[i]? = some l) (hlen : l'.length = l.length) (hm : ∀ (k : Nat) (x : P), l'[k]? = some x → x = mkP i) : MkP (i + 1) ls0 (ls.set i l') := by
  have hlt := (List.getElem?_eq_some_iff.1 hl).1
  refine ⟨by rw [List.length_set, h.len], fun j x hx => ?_, fun j x hj hx k y hy => ?_⟩
  · by_cases e : i = j
    · subst e
      obtain rfl : l' = x := by simpa [hlt] using hx
      obtain ⟨l0, h1, h2⟩ := h.lens i l hl
      exact ⟨l0, h1, hlen.trans h2⟩
    · rw [List.getElem?_set_ne e] at hx
      exact h.lens j x hx
  · by_cases e : i = j
    · subst e
      obtain rfl : l' = x := by simpa [hlt] using hx
      exact hm k y hy
    · rw [List.getElem?_set_ne e] at hx
      exact h.mark j x (by omega) hx k y hy

set_option maxHeartbeats 1600000 in
theorem apartPairs (w0 w : World) (L : List Chunk) (q m : Nat) (vs : List Value) (ls : List (List P)) (hv : vs.length = m) (hls : ls.length = m) (hm : m < 100) (hn : ∀ l ∈ ls, l.length ≤ 8388608)
    (S : Sep w0 w (rowsOf PT vs ls ++ blk q 22 vs :: L)) :
    Calls Tryd.prog 27 #[.slice (some ⟨q, 0, none⟩) m m] w fun e w' => e = .returned (.bool true) ∧ Sep w0 w' L := by
  have HS := Lib.hid S
  have HV := Lib.hid hv
  have HL := Lib.hid hls
  have HN := Lib.hid hn
  clear S hv hls hn
  go_enter Tryd.func27, Tryd.ntmps27
  go_wp2
  go_loopw [3] (fun t3 wr => ∃ i : Nat, i ≤ m ∧ t3 = .int .i64 i ∧ ∃ l1 : List (List P), Hid (MkP i ls l1) ∧ Hid (Sep w0 wr (rowsOf PT vs l1 ++ blk q 22 vs :: L))) (fun t3 _ => m - (intOf t3).toNat)
  case atStart => exact ⟨0, Nat.zero_le _, rfl, ls, MkP.zero ls, HS.out⟩
  case round =>
    obtain ⟨i, hi, rfl, l1, hM, hS⟩ := hrel
    by_cases hlt : i < m
    · obtain ⟨v, hvi⟩ : ∃ v, vs[i]? = some v := ⟨_, List.getElem?_eq_getElem (by rw [HV.out]; exact hlt)⟩
      obtain ⟨li, hli⟩ : ∃ li, l1[i]? = some li := ⟨_, List.getElem?_eq_getElem (by rw [hM.out.len, HL.out]; exact hlt)⟩
      obtain ⟨l0, hl0, hlen0⟩ := hM.out.lens i li hli
      have hnl : li.length ≤ 8388608 := by rw [hlen0]; exact HN.out l0 (List.mem_of_getElem? hl0)
      have HVI := Lib.hid hvi
      have HLI := Lib.hid hli
      clear hvi hli hl0 hlen0
      obtain ⟨a, n, c, hve, hneq, hform⟩ : ∃ a n c, v = .slice a n c ∧ Hid (n = li.length) ∧ (n = 0 ∨ ∃ g, a = some ⟨g, 0, none⟩) := by
        rcases Row.form (rows_row hS.out HVI.out HLI.out) with ⟨rfl, h⟩ | ⟨g, c, rfl, _⟩
        · exact ⟨none, 0, 0, rfl, by rw [h]; rfl, .inl rfl⟩
        · exact ⟨_, _, c, rfl, rfl, .inr ⟨g, rfl⟩⟩
      subst hve
      have hnn : n ≤ 8388608 := by rw [hneq.out]; exact hnl
      clear hnl
      go_wp2
      go_loopw [4] (fun t4 wr => ∃ k : Nat, k ≤ n ∧ t4 = .int .i64 k ∧ ∃ lk : List P, Hid (lk.length = n ∧ ∀ (j : Nat) (x : P), j < k → lk[j]? = some x → x = mkP i) ∧ Hid (Sep w0 wr (row PT (.slice a n c) lk :: (rowsBut PT i vs l1 ++ blk q 22 vs :: L)))) (fun t4 _ => n - (intOf t4).toNat)
      case atStart => exact ⟨0, Nat.zero_le _, rfl, li, ⟨hneq.out.symm, fun j x hj => by omega⟩, rows_up hS.out HVI.out HLI.out⟩
      case round =>
        obtain ⟨k, hk, rfl, lk, hlk, hSk⟩ := hrel
        have cq := blk_mem hSk.out (g := q) (t := 22) (cs := vs) (by simp) i HVI.out
        by_cases hkn : k < n
        · obtain ⟨g, rfl⟩ : ∃ g, a = some ⟨g, 0, none⟩ := by
            rcases hform with h | h
            · omega
            · exact h
          obtain ⟨x, hx⟩ : ∃ x, lk[k]? = some x := ⟨_, List.getElem?_eq_getElem (by rw [hlk.out.1]; exact hkn)⟩
          have x0 := row_cell hSk.out (j := 0) hx (u := .string x.k) rfl
          have f0 := row_free hSk.out (k * 2)
          simp only [show PT.sz = 2 from rfl, Nat.add_zero] at x0
          have y0 : ∀ o, (wr.alloc o).cell? ⟨g, k * 2, none⟩ = some (.string x.k) := fun o => qcell x0 (qalloc (qrefl _) o)
          have z0 : ∀ o, (wr.alloc o).frozen? ⟨g, k * 2, none⟩ = false := fun o => row_free (hSk.out.alloc o) (k * 2)
          have x1 := row_cell hSk.out (j := 1) hx (u := .string x.v) rfl
          have f1 := row_free hSk.out (k * 2 + 1)
          simp only [show PT.sz = 2 from rfl, Nat.add_zero] at x1
          have y1 : ∀ o, (wr.alloc o).cell? ⟨g, k * 2 + 1, none⟩ = some (.string x.v) := fun o => qcell x1 (qalloc (qrefl _) o)
          have z1 : ∀ o, (wr.alloc o).frozen? ⟨g, k * 2 + 1, none⟩ = false := fun o => row_free (hSk.out.alloc o) (k * 2 + 1)
          have HX := Lib.hid hx
          have gq : ∀ o, (wr.alloc o).cell? ⟨q, i, none⟩ = some (.slice (some ⟨g, 0, none⟩) n c) := fun o => qcell cq (qalloc (qrefl _) o)
          have hbb := ((Sep.nil wr).box 5 [Value.int IntKind.u8 109, Value.int IntKind.u8 (i : Int)]).drew
          have hcv := two_bytes (wr.alloc (Obj.cells #[Value.int IntKind.u8 109, Value.int IntKind.u8 (i : Int)] 5)).drew i wr.heap.size (blk_cell hbb 0 rfl) (blk_cell hbb 1 rfl)
          clear hx hform hbb
          go_wp2
          go_region
          have hput := rowP_put (hSk.out.alloc (Obj.cells #[Value.int IntKind.u8 109, Value.int IntKind.u8 (i : Int)] 5)) HX.out (mkP i)
          have hput2 := Lib.hid hput.drew
          have hlen2 : Hid ((lk.set k (mkP i)).length = n ∧ ∀ (j : Nat) (x : P), j < k + 1 → (lk.set k (mkP i))[j]? = some x → x = mkP i) := by
            refine ⟨by rw [List.length_set, hlk.out.1], fun j y hj hy => ?_⟩
            by_cases e : k = j
            · subst e
              have : k < lk.length := by rw [hlk.out.1]; exact hkn
              simpa [this] using hy.symm
            · rw [List.getElem?_set_ne e] at hy
              exact hlk.out.2 j y (by omega) hy
          clear hput hcv
          go_wp2
          go_roundw
          case rel => exact ⟨k + 1, by omega, by go_num, _, hlen2, hput2.out⟩
          case measure => simp [intOf]; omega
        · have hm2 : MkP (i + 1) ls (l1.set i lk) := hM.out.step HLI.out (by rw [hlk.out.1, hneq.out]) (fun j x hx => hlk.out.2 j x (by have := (List.getElem?_eq_some_iff.1 hx).1; rw [hlk.out.1] at this; omega) hx)
          have HM2 := Lib.hid hm2
          have hS2 := Lib.hid (rows_down hSk.out HVI.out (by rw [hM.out.len, HL.out]; exact hlt))
          clear hm2
          go_wp2
          go_roundw
          case rel => exact ⟨i + 1, by omega, by go_num, _, HM2.out, hS2.out⟩
          case measure => simp [intOf]; omega
    · obtain rfl : m = i := by omega
      go_wp2
      go_loopw [5, 6] (fun t5 t6 wr => ∃ i gr : Nat, i ≤ m ∧ t6 = .int .i64 i ∧ t5 = .int .i64 gr ∧ 64 * i ≤ gr ∧ gr ≤ i * 16777216 ∧ Hid (Sep w0 wr (rowsOf PT vs l1 ++ blk q 22 vs :: L))) (fun _ t6 _ => m - (intOf t6).toNat)
      case atStart => exact ⟨0, 0, Nat.zero_le _, rfl, rfl, by omega, by omega, hS.out⟩
      case round =>
        obtain ⟨i, gr, hi, rfl, rfl, hg1, hg2, hSi⟩ := hrel
        by_cases hlt2 : i < m
        · obtain ⟨v, hvi⟩ : ∃ v, vs[i]? = some v := ⟨_, List.getElem?_eq_getElem (by rw [HV.out]; exact hlt2)⟩
          obtain ⟨li, hli⟩ : ∃ li, l1[i]? = some li := ⟨_, List.getElem?_eq_getElem (by rw [hM.out.len, HL.out]; exact hlt2)⟩
          obtain ⟨l0, hl0, hlen0⟩ := hM.out.lens i li hli
          have hnl : li.length ≤ 8388608 := by rw [hlen0]; exact HN.out l0 (List.mem_of_getElem? hl0)
          have cq := blk_mem hSi.out (g := q) (t := 22) (cs := vs) (by simp) i hvi
          have HVI := Lib.hid hvi
          have HLI := Lib.hid hli
          have hMo := Lib.hid (More.start hSi.out hvi hli)
          clear hvi hli hl0 hlen0
          go_wp2
          go_loopw [7, 8] (fun t7 t8 wr => ∃ k : Nat, k ≤ 64 ∧ t8 = .int .i64 k ∧ ∃ lm : List P, Hid (lm.length = li.length + k) ∧ Hid (More PT w0 wr vs l1 i (blk q 22 vs :: L) t7 v li lm)) (fun _ t8 _ => 64 - (intOf t8).toNat)
          case atStart => exact ⟨0, Nat.zero_le _, rfl, li, rfl, hMo.out⟩
          case round =>
            obtain ⟨k, hk, rfl, lm, hlm, hMk⟩ := hrel
            by_cases hk64 : k < 64
            · have hb : (lm.length + 1) * 32 ≤ 140737488355328 := by rw [hlm.out]; omega
              go_wp2_with (at_builtin; refine app2 elemP rfl (.tmp 51) (.tmp 53) rfl u7 lm rfl (hMk.out.step (qalloc (qrefl wr) _)).hd _ 1 1 [moreP] rfl (rd_new PT wr moreP _ rfl 28) hb ?_; intro u2 w2 r1 r2 r3 r4)
              have hM2 := Lib.hid (More.app (hMk.out.step (qalloc (qrefl wr) _)) HVI.out HLI.out (r := [moreP]) (m := 1) rfl (by decide) r1 r2 r3 r4)
              have hl2 := Lib.hid (show (lm ++ [moreP]).length = li.length + (k + 1) by rw [List.length_append, hlm.out]; rfl)
              clear r1 r2 r3 r4 hb
              go_wp2
              go_roundw
              case rel => exact ⟨k + 1, by omega, by go_num, _, hl2.out, hM2.out⟩
              case measure => simp [intOf]; omega
            · obtain rfl : k = 64 := by omega
              obtain ⟨a2, c2, rfl, _, _⟩ := hMk.out.hd.rd
              have hn2 : lm.length ≤ 8388672 := by rw [hlm.out]; omega
              have hn3 : 64 ≤ lm.length := by rw [hlm.out]; omega
              have hSe := Lib.hid (hMk.out.end_ HVI.out HLI.out)
              go_wp2
              go_roundw
              case rel => exact ⟨i + 1, gr + lm.length, by omega, by go_num, by go_num, by omega, by omega, hSe.out⟩
              case measure => simp [intOf]; omega
        · obtain rfl : m = i := by omega
          go_wp2
          go_loopw [9] (fun t9 wr => ∃ i : Nat, i ≤ m ∧ t9 = .int .i64 i ∧ Hid (Sep w0 wr (rowsOf PT vs l1 ++ blk q 22 vs :: L))) (fun t9 _ => m - (intOf t9).toNat)
          case atStart => exact ⟨0, Nat.zero_le _, rfl, hSi.out⟩
          case round =>
            obtain ⟨i, hi, rfl, hSj⟩ := hrel
            by_cases hlt3 : i < m
            · obtain ⟨v, hvi⟩ : ∃ v, vs[i]? = some v := ⟨_, List.getElem?_eq_getElem (by rw [HV.out]; exact hlt3)⟩
              obtain ⟨li, hli⟩ : ∃ li, l1[i]? = some li := ⟨_, List.getElem?_eq_getElem (by rw [hM.out.len, HL.out]; exact hlt3)⟩
              obtain ⟨l0, hl0, hlen0⟩ := hM.out.lens i li hli
              have hnl : li.length ≤ 8388608 := by rw [hlen0]; exact HN.out l0 (List.mem_of_getElem? hl0)
              obtain ⟨a, n, c, hve, hneq, hform⟩ : ∃ a n c, v = .slice a n c ∧ Hid (n = li.length) ∧ (n = 0 ∨ ∃ g, a = some ⟨g, 0, none⟩) := by
                rcases Row.form (rows_row hSj.out hvi hli) with ⟨rfl, h⟩ | ⟨g, c, rfl, _⟩
                · exact ⟨none, 0, 0, rfl, by rw [h]; rfl, .inl rfl⟩
                · exact ⟨_, _, c, rfl, rfl, .inr ⟨g, rfl⟩⟩
              subst hve
              have hnn : n ≤ 8388608 := by rw [hneq.out]; exact hnl
              have HVI := Lib.hid hvi
              have HLI := Lib.hid hli
              clear hnl hl0 hlen0 hvi hli
              go_wp2
              go_loopw [10] (fun t10 wr => ∃ k : Nat, k ≤ n ∧ t10 = .int .i64 k ∧ Hid (Sep w0 wr (rowsOf PT vs l1 ++ blk q 22 vs :: L))) (fun t10 _ => n - (intOf t10).toNat)
              case atStart => exact ⟨0, Nat.zero_le _, rfl, hSj.out⟩
              case round =>
                obtain ⟨k, hk, rfl, hSk⟩ := hrel
                have cq := blk_mem hSk.out (g := q) (t := 22) (cs := vs) (by simp) i HVI.out
                by_cases hkn : k < n
                · obtain ⟨g, rfl⟩ : ∃ g, a = some ⟨g, 0, none⟩ := by
                    rcases hform with h | h
                    · omega
                    · exact h
                  obtain ⟨x, hx⟩ : ∃ x, li[k]? = some x := ⟨_, List.getElem?_eq_getElem (by rw [← hneq.out]; exact hkn)⟩
                  obtain rfl := hM.out.mark i li hlt3 HLI.out k x hx
                  have hrw := rows_up hSk.out HVI.out HLI.out
                  have x0 := row_cell hrw (j := 0) hx (u := .string (strOfNums [109, (i : Int)])) rfl
                  simp only [show PT.sz = 2 from rfl, Nat.add_zero] at x0
                  have y0 : ∀ o, (wr.alloc o).cell? ⟨g, k * 2, none⟩ = some (.string (strOfNums [109, (i : Int)])) := fun o => qcell x0 (qalloc (qrefl _) o)
                  have x1 := row_cell hrw (j := 1) hx (u := .string ⟨#[]⟩) rfl
                  simp only [show PT.sz = 2 from rfl, Nat.add_zero] at x1
                  have y1 : ∀ o, (wr.alloc o).cell? ⟨g, k * 2 + 1, none⟩ = some (.string ⟨#[]⟩) := fun o => qcell x1 (qalloc (qrefl _) o)
                  have gq : ∀ o, (wr.alloc o).cell? ⟨q, i, none⟩ = some (.slice (some ⟨g, 0, none⟩) n c) := fun o => qcell cq (qalloc (qrefl _) o)
                  have hbb := ((Sep.nil wr).box 5 [Value.int IntKind.u8 109, Value.int IntKind.u8 (i : Int)]).drew
                  have hcv := two_bytes (wr.alloc (Obj.cells #[Value.int IntKind.u8 109, Value.int IntKind.u8 (i : Int)] 5)).drew i wr.heap.size (blk_cell hbb 0 rfl) (blk_cell hbb 1 rfl)
                  clear hx hform hbb hrw
                  go_wp2
                  go_region
                  have hS2 := Lib.hid (hSk.out.alloc (Obj.cells #[Value.int IntKind.u8 109, Value.int IntKind.u8 (i : Int)] 5)).drew
                  clear hcv
                  go_wp2
                  go_roundw
                  case rel => exact ⟨k + 1, by omega, by go_num, hS2.out⟩
                  case measure => simp [intOf]; omega
                · go_wp2
                  go_roundw
                  case rel => exact ⟨i + 1, by omega, by go_num, hSk.out⟩
                  case measure => simp [intOf]; omega
            · obtain rfl : m = i := by omega
              have hge : (64 : Int) * (m : Int) ≤ (gr : Int) := by omega
              go_wp2
              go_ret
              exact ⟨rfl, (sep_drop hSj.out).tl⟩

/-- Up to row i all is marked. -/
structure MkC (i : Nat) (ls0 ls : List (List C)) : Prop where
  len : ls.length = ls0.length
  lens : ∀ (j : Nat) (l : List C), ls[j]? = some l → ∃ l0 : List C, ls0[j]? = some l0 ∧ l.length = l0.length
  mark : ∀ (j : Nat) (l : List C), j < i → ls[j]? = some l → ∀ (k : Nat) (x : C), l[k]? = some x → x = mkC j
theorem MkC.zero (ls : List (List C)) : MkC 0 ls ls := ⟨rfl, fun j l h => ⟨l, h, rfl⟩, fun j l h => by omega⟩
theorem MkC.step {i : Nat} {ls0 ls : List (List C)} {l l' : List C} (h : MkC i ls0 ls) (hl : ls[i]? = some l) (hlen : l'.length = l.length) (hm : ∀ (k : Nat) (x : C), l'[k]? = some x → x = mkC i) : MkC (i + 1) ls0 (ls.set i l') := by
  have hlt := (List.getElem?_eq_some_iff.1 hl).1
  refine ⟨by rw [List.length_set, h.len], fun j x hx => ?_, fun j x hj hx k y hy => ?_⟩
  · by_cases e : i = j
    · subst e
      obtain rfl : l' = x := by simpa [hlt] using hx
      obtain ⟨l0, h1, h2⟩ := h.lens i l hl
      exact ⟨l0, h1, hlen.trans h2⟩
    · rw [List.getElem?_set_ne e] at hx
      exact h.lens j x hx
  · by_cases e : i = j
    · subst e
      obtain rfl : l' = x := by simpa [hlt] using hx
      exact hm k y hy
    · rw [List.getElem?_set_ne e] at hx
      exact h.mark j x (by omega) hx k y hy

set_option maxHeartbeats 1600000 in
theorem apart (w0 w : World) (L : List Chunk) (q m : Nat) (vs : List Value) (ls : List (List C)) (hv : vs.length = m) (hls : ls.length = m) (hm : m < 100) (hn : ∀ l ∈ ls, l.length ≤ 8388608)
    (S : Sep w0 w (rowsOf CT vs ls ++ blk q 23 vs :: L)) :
    Calls Tryd.prog 33 #[.slice (some ⟨q, 0, none⟩) m m] w fun e w' => e = .returned (.bool true) ∧ Sep w0 w' L := by
  have HS := Lib.hid S
  have HV := Lib.hid hv
  have HL := Lib.hid hls
  have HN := Lib.hid hn
  clear S hv hls hn
  go_enter Tryd.func33, Tryd.ntmps33
  go_wp2
  go_loopw [3] (fun t3 wr => ∃ i : Nat, i ≤ m ∧ t3 = .int .i64 i ∧ ∃ l1 : List (List C), Hid (MkC i ls l1) ∧ Hid (Sep w0 wr (rowsOf CT vs l1 ++ blk q 23 vs :: L))) (fun t3 _ => m - (intOf t3).toNat)
  case atStart => exact ⟨0, Nat.zero_le _, rfl, ls, MkC.zero ls, HS.out⟩
  case round =>
    obtain ⟨i, hi, rfl, l1, hM, hS⟩ := hrel
    by_cases hlt : i < m
    · obtain ⟨v, hvi⟩ : ∃ v, vs[i]? = some v := ⟨_, List.getElem?_eq_getElem (by rw [HV.out]; exact hlt)⟩
      obtain ⟨li, hli⟩ : ∃ li, l1[i]? = some li := ⟨_, List.getElem?_eq_getElem (by rw [hM.out.len, HL.out]; exact hlt)⟩
      obtain ⟨l0, hl0, hlen0⟩ := hM.out.lens i li hli
      have hnl : li.length ≤ 8388608 := by rw [hlen0]; exact HN.out l0 (List.mem_of_getElem? hl0)
      have HVI := Lib.hid hvi
      have HLI := Lib.hid hli
      clear hvi hli hl0 hlen0
      obtain ⟨a, n, c, hve, hneq, hform⟩ : ∃ a n c, v = .slice a n c ∧ Hid (n = li.length) ∧ (n = 0 ∨ ∃ g, a = some ⟨g, 0, none⟩) := by
        rcases Row.form (rows_row hS.out HVI.out HLI.out) with ⟨rfl, h⟩ | ⟨g, c, rfl, _⟩
        · exact ⟨none, 0, 0, rfl, by rw [h]; rfl, .inl rfl⟩
        · exact ⟨_, _, c, rfl, rfl, .inr ⟨g, rfl⟩⟩
      subst hve
      have hnn : n ≤ 8388608 := by rw [hneq.out]; exact hnl
      clear hnl
      go_wp2
      go_loopw [4] (fun t4 wr => ∃ k : Nat, k ≤ n ∧ t4 = .int .i64 k ∧ ∃ lk : List C, Hid (lk.length = n ∧ ∀ (j : Nat) (x : C), j < k → lk[j]? = some x → x = mkC i) ∧ Hid (Sep w0 wr (row CT (.slice a n c) lk :: (rowsBut CT i vs l1 ++ blk q 23 vs :: L)))) (fun t4 _ => n - (intOf t4).toNat)
      case atStart => exact ⟨0, Nat.zero_le _, rfl, li, ⟨hneq.out.symm, fun j x hj => by omega⟩, rows_up hS.out HVI.out HLI.out⟩
      case round =>
        obtain ⟨k, hk, rfl, lk, hlk, hSk⟩ := hrel
        have cq := blk_mem hSk.out (g := q) (t := 23) (cs := vs) (by simp) i HVI.out
        by_cases hkn : k < n
        · obtain ⟨g, rfl⟩ : ∃ g, a = some ⟨g, 0, none⟩ := by
            rcases hform with h | h
            · omega
            · exact h
          obtain ⟨x, hx⟩ : ∃ x, lk[k]? = some x := ⟨_, List.getElem?_eq_getElem (by rw [hlk.out.1]; exact hkn)⟩
          have x0 := row_cell hSk.out (j := 0) hx (u := .string x.k) rfl
          have f0 := row_free hSk.out (k * 5)
          simp only [show CT.sz = 5 from rfl, Nat.add_zero] at x0
          have y0 : ∀ o, (wr.alloc o).cell? ⟨g, k * 5, none⟩ = some (.string x.k) := fun o => qcell x0 (qalloc (qrefl _) o)
          have z0 : ∀ o, (wr.alloc o).frozen? ⟨g, k * 5, none⟩ = false := fun o => row_free (hSk.out.alloc o) (k * 5)
          have x1 := row_cell hSk.out (j := 1) hx (u := .bool x.had) rfl
          have f1 := row_free hSk.out (k * 5 + 1)
          simp only [show CT.sz = 5 from rfl, Nat.add_zero] at x1
          have y1 : ∀ o, (wr.alloc o).cell? ⟨g, k * 5 + 1, none⟩ = some (.bool x.had) := fun o => qcell x1 (qalloc (qrefl _) o)
          have z1 : ∀ o, (wr.alloc o).frozen? ⟨g, k * 5 + 1, none⟩ = false := fun o => row_free (hSk.out.alloc o) (k * 5 + 1)
          have x2 := row_cell hSk.out (j := 2) hx (u := .bool x.has) rfl
          have f2 := row_free hSk.out (k * 5 + 2)
          simp only [show CT.sz = 5 from rfl, Nat.add_zero] at x2
          have y2 : ∀ o, (wr.alloc o).cell? ⟨g, k * 5 + 2, none⟩ = some (.bool x.has) := fun o => qcell x2 (qalloc (qrefl _) o)
          have z2 : ∀ o, (wr.alloc o).frozen? ⟨g, k * 5 + 2, none⟩ = false := fun o => row_free (hSk.out.alloc o) (k * 5 + 2)
          have x3 := row_cell hSk.out (j := 3) hx (u := .string x.old) rfl
          have f3 := row_free hSk.out (k * 5 + 3)
          simp only [show CT.sz = 5 from rfl, Nat.add_zero] at x3
          have y3 : ∀ o, (wr.alloc o).cell? ⟨g, k * 5 + 3, none⟩ = some (.string x.old) := fun o => qcell x3 (qalloc (qrefl _) o)
          have z3 : ∀ o, (wr.alloc o).frozen? ⟨g, k * 5 + 3, none⟩ = false := fun o => row_free (hSk.out.alloc o) (k * 5 + 3)
          have x4 := row_cell hSk.out (j := 4) hx (u := .string x.new) rfl
          have f4 := row_free hSk.out (k * 5 + 4)
          simp only [show CT.sz = 5 from rfl, Nat.add_zero] at x4
          have y4 : ∀ o, (wr.alloc o).cell? ⟨g, k * 5 + 4, none⟩ = some (.string x.new) := fun o => qcell x4 (qalloc (qrefl _) o)
          have z4 : ∀ o, (wr.alloc o).frozen? ⟨g, k * 5 + 4, none⟩ = false := fun o => row_free (hSk.out.alloc o) (k * 5 + 4)
          have HX := Lib.hid hx
          have gq : ∀ o, (wr.alloc o).cell? ⟨q, i, none⟩ = some (.slice (some ⟨g, 0, none⟩) n c) := fun o => qcell cq (qalloc (qrefl _) o)
          have hbb := ((Sep.nil wr).box 5 [Value.int IntKind.u8 109, Value.int IntKind.u8 (i : Int)]).drew
          have hcv := two_bytes (wr.alloc (Obj.cells #[Value.int IntKind.u8 109, Value.int IntKind.u8 (i : Int)] 5)).drew i wr.heap.size (blk_cell hbb 0 rfl) (blk_cell hbb 1 rfl)
          clear hx hform hbb
          go_wp2
          go_region
          have hput := rowC_put (hSk.out.alloc (Obj.cells #[Value.int IntKind.u8 109, Value.int IntKind.u8 (i : Int)] 5)) HX.out (mkC i)
          have hput2 := Lib.hid hput.drew
          have hlen2 : Hid ((lk.set k (mkC i)).length = n ∧ ∀ (j : Nat) (x : C), j < k + 1 → (lk.set k (mkC i))[j]? = some x → x = mkC i) := by
            refine ⟨by rw [List.length_set, hlk.out.1], fun j y hj hy => ?_⟩
            by_cases e : k = j
            · subst e
              have : k < lk.length := by rw [hlk.out.1]; exact hkn
              simpa [this] using hy.symm
            · rw [List.getElem?_set_ne e] at hy
              exact hlk.out.2 j y (by omega) hy
          clear hput hcv
          go_wp2
          go_roundw
          case rel => exact ⟨k + 1, by omega, by go_num, _, hlen2, hput2.out⟩
          case measure => simp [intOf]; omega
        · have hm2 : MkC (i + 1) ls (l1.set i lk) := hM.out.step HLI.out (by rw [hlk.out.1, hneq.out]) (fun j x hx => hlk.out.2 j x (by have := (List.getElem?_eq_some_iff.1 hx).1; rw [hlk.out.1] at this; omega) hx)
          have HM2 := Lib.hid hm2
          have hS2 := Lib.hid (rows_down hSk.out HVI.out (by rw [hM.out.len, HL.out]; exact hlt))
          clear hm2
          go_wp2
          go_roundw
          case rel => exact ⟨i + 1, by omega, by go_num, _, HM2.out, hS2.out⟩
          case measure => simp [intOf]; omega
    · obtain rfl : m = i := by omega
      go_wp2
      go_loopw [5, 6] (fun t5 t6 wr => ∃ i gr : Nat, i ≤ m ∧ t6 = .int .i64 i ∧ t5 = .int .i64 gr ∧ 64 * i ≤ gr ∧ gr ≤ i * 16777216 ∧ Hid (Sep w0 wr (rowsOf CT vs l1 ++ blk q 23 vs :: L))) (fun _ t6 _ => m - (intOf t6).toNat)
      case atStart => exact ⟨0, 0, Nat.zero_le _, rfl, rfl, by omega, by omega, hS.out⟩
      case round =>
        obtain ⟨i, gr, hi, rfl, rfl, hg1, hg2, hSi⟩ := hrel
        by_cases hlt2 : i < m
        · obtain ⟨v, hvi⟩ : ∃ v, vs[i]? = some v := ⟨_, List.getElem?_eq_getElem (by rw [HV.out]; exact hlt2)⟩
          obtain ⟨li, hli⟩ : ∃ li, l1[i]? = some li := ⟨_, List.getElem?_eq_getElem (by rw [hM.out.len, HL.out]; exact hlt2)⟩
          obtain ⟨l0, hl0, hlen0⟩ := hM.out.lens i li hli
          have hnl : li.length ≤ 8388608 := by rw [hlen0]; exact HN.out l0 (List.mem_of_getElem? hl0)
          have cq := blk_mem hSi.out (g := q) (t := 23) (cs := vs) (by simp) i hvi
          have HVI := Lib.hid hvi
          have HLI := Lib.hid hli
          have hMo := Lib.hid (More.start hSi.out hvi hli)
          clear hvi hli hl0 hlen0
          go_wp2
          go_loopw [7, 8] (fun t7 t8 wr => ∃ k : Nat, k ≤ 64 ∧ t8 = .int .i64 k ∧ ∃ lm : List C, Hid (lm.length = li.length + k) ∧ Hid (More CT w0 wr vs l1 i (blk q 23 vs :: L) t7 v li lm)) (fun _ t8 _ => 64 - (intOf t8).toNat)
          case atStart => exact ⟨0, Nat.zero_le _, rfl, li, rfl, hMo.out⟩
          case round =>
            obtain ⟨k, hk, rfl, lm, hlm, hMk⟩ := hrel
            by_cases hk64 : k < 64
            · have hb : (lm.length + 1) * 56 ≤ 140737488355328 := by rw [hlm.out]; omega
              go_wp2_with (at_builtin; refine app2 elemC rfl (.tmp 51) (.tmp 53) rfl u7 lm rfl (hMk.out.step (qalloc (qrefl wr) _)).hd _ 1 1 [moreC] rfl (rd_new CT wr moreC _ rfl 32) hb ?_; intro u2 w2 r1 r2 r3 r4)
              have hM2 := Lib.hid (More.app (hMk.out.step (qalloc (qrefl wr) _)) HVI.out HLI.out (r := [moreC]) (m := 1) rfl (by decide) r1 r2 r3 r4)
              have hl2 := Lib.hid (show (lm ++ [moreC]).length = li.length + (k + 1) by rw [List.length_append, hlm.out]; rfl)
              clear r1 r2 r3 r4 hb
              go_wp2
              go_roundw
              case rel => exact ⟨k + 1, by omega, by go_num, _, hl2.out, hM2.out⟩
              case measure => simp [intOf]; omega
            · obtain rfl : k = 64 := by omega
              obtain ⟨a2, c2, rfl, _, _⟩ := hMk.out.hd.rd
              have hn2 : lm.length ≤ 8388672 := by rw [hlm.out]; omega
              have hn3 : 64 ≤ lm.length := by rw [hlm.out]; omega
              have hSe := Lib.hid (hMk.out.end_ HVI.out HLI.out)
              go_wp2
              go_roundw
              case rel => exact ⟨i + 1, gr + lm.length, by omega, by go_num, by go_num, by omega, by omega, hSe.out⟩
              case measure => simp [intOf]; omega
        · obtain rfl : m = i := by omega
          go_wp2
          go_loopw [9] (fun t9 wr => ∃ i : Nat, i ≤ m ∧ t9 = .int .i64 i ∧ Hid (Sep w0 wr (rowsOf CT vs l1 ++ blk q 23 vs :: L))) (fun t9 _ => m - (intOf t9).toNat)
          case atStart => exact ⟨0, Nat.zero_le _, rfl, hSi.out⟩
          case round =>
            obtain ⟨i, hi, rfl, hSj⟩ := hrel
            by_cases hlt3 : i < m
            · obtain ⟨v, hvi⟩ : ∃ v, vs[i]? = some v := ⟨_, List.getElem?_eq_getElem (by rw [HV.out]; exact hlt3)⟩
              obtain ⟨li, hli⟩ : ∃ li, l1[i]? = some li := ⟨_, List.getElem?_eq_getElem (by rw [hM.out.len, HL.out]; exact hlt3)⟩
              obtain ⟨l0, hl0, hlen0⟩ := hM.out.lens i li hli
              have hnl : li.length ≤ 8388608 := by rw [hlen0]; exact HN.out l0 (List.mem_of_getElem? hl0)
              obtain ⟨a, n, c, hve, hneq, hform⟩ : ∃ a n c, v = .slice a n c ∧ Hid (n = li.length) ∧ (n = 0 ∨ ∃ g, a = some ⟨g, 0, none⟩) := by
                rcases Row.form (rows_row hSj.out hvi hli) with ⟨rfl, h⟩ | ⟨g, c, rfl, _⟩
                · exact ⟨none, 0, 0, rfl, by rw [h]; rfl, .inl rfl⟩
                · exact ⟨_, _, c, rfl, rfl, .inr ⟨g, rfl⟩⟩
              subst hve
              have hnn : n ≤ 8388608 := by rw [hneq.out]; exact hnl
              have HVI := Lib.hid hvi
              have HLI := Lib.hid hli
              clear hnl hl0 hlen0 hvi hli
              go_wp2
              go_loopw [10] (fun t10 wr => ∃ k : Nat, k ≤ n ∧ t10 = .int .i64 k ∧ Hid (Sep w0 wr (rowsOf CT vs l1 ++ blk q 23 vs :: L))) (fun t10 _ => n - (intOf t10).toNat)
              case atStart => exact ⟨0, Nat.zero_le _, rfl, hSj.out⟩
              case round =>
                obtain ⟨k, hk, rfl, hSk⟩ := hrel
                have cq := blk_mem hSk.out (g := q) (t := 23) (cs := vs) (by simp) i HVI.out
                by_cases hkn : k < n
                · obtain ⟨g, rfl⟩ : ∃ g, a = some ⟨g, 0, none⟩ := by
                    rcases hform with h | h
                    · omega
                    · exact h
                  obtain ⟨x, hx⟩ : ∃ x, li[k]? = some x := ⟨_, List.getElem?_eq_getElem (by rw [← hneq.out]; exact hkn)⟩
                  obtain rfl := hM.out.mark i li hlt3 HLI.out k x hx
                  have hrw := rows_up hSk.out HVI.out HLI.out
                  have x0 := row_cell hrw (j := 0) hx (u := .string (strOfNums [109, (i : Int)])) rfl
                  simp only [show CT.sz = 5 from rfl, Nat.add_zero] at x0
                  have y0 : ∀ o, (wr.alloc o).cell? ⟨g, k * 5, none⟩ = some (.string (strOfNums [109, (i : Int)])) := fun o => qcell x0 (qalloc (qrefl _) o)
                  have x1 := row_cell hrw (j := 1) hx (u := .bool false) rfl
                  simp only [show CT.sz = 5 from rfl, Nat.add_zero] at x1
                  have y1 : ∀ o, (wr.alloc o).cell? ⟨g, k * 5 + 1, none⟩ = some (.bool false) := fun o => qcell x1 (qalloc (qrefl _) o)
                  have x2 := row_cell hrw (j := 2) hx (u := .bool false) rfl
                  simp only [show CT.sz = 5 from rfl, Nat.add_zero] at x2
                  have y2 : ∀ o, (wr.alloc o).cell? ⟨g, k * 5 + 2, none⟩ = some (.bool false) := fun o => qcell x2 (qalloc (qrefl _) o)
                  have x3 := row_cell hrw (j := 3) hx (u := .string ⟨#[]⟩) rfl
                  simp only [show CT.sz = 5 from rfl, Nat.add_zero] at x3
                  have y3 : ∀ o, (wr.alloc o).cell? ⟨g, k * 5 + 3, none⟩ = some (.string ⟨#[]⟩) := fun o => qcell x3 (qalloc (qrefl _) o)
                  have x4 := row_cell hrw (j := 4) hx (u := .string ⟨#[]⟩) rfl
                  simp only [show CT.sz = 5 from rfl, Nat.add_zero] at x4
                  have y4 : ∀ o, (wr.alloc o).cell? ⟨g, k * 5 + 4, none⟩ = some (.string ⟨#[]⟩) := fun o => qcell x4 (qalloc (qrefl _) o)
                  have gq : ∀ o, (wr.alloc o).cell? ⟨q, i, none⟩ = some (.slice (some ⟨g, 0, none⟩) n c) := fun o => qcell cq (qalloc (qrefl _) o)
                  have hbb := ((Sep.nil wr).box 5 [Value.int IntKind.u8 109, Value.int IntKind.u8 (i : Int)]).drew
                  have hcv := two_bytes (wr.alloc (Obj.cells #[Value.int IntKind.u8 109, Value.int IntKind.u8 (i : Int)] 5)).drew i wr.heap.size (blk_cell hbb 0 rfl) (blk_cell hbb 1 rfl)
                  clear hx hform hbb hrw
                  go_wp2
                  go_region
                  have hS2 := Lib.hid (hSk.out.alloc (Obj.cells #[Value.int IntKind.u8 109, Value.int IntKind.u8 (i : Int)] 5)).drew
                  clear hcv
                  go_wp2
                  go_roundw
                  case rel => exact ⟨k + 1, by omega, by go_num, hS2.out⟩
                  case measure => simp [intOf]; omega
                · go_wp2
                  go_roundw
                  case rel => exact ⟨i + 1, by omega, by go_num, hSk.out⟩
                  case measure => simp [intOf]; omega
            · obtain rfl : m = i := by omega
              have hge : (64 : Int) * (m : Int) ≤ (gr : Int) := by omega
              go_wp2
              go_ret
              exact ⟨rfl, (sep_drop hSj.out).tl⟩
end Go.Proofs.YtdkailccfcijiaaDoor
