/- Lists that were answered and kept: apart; a list written over: spoil. No condition but the sizes. -/
import Derived.Test.YtdkailccfcijiaaDoorFo
namespace Go.Proofs.YtdkailccfcijiaaDoor
open Go.RowKit Go.Shelf
set_option linter.unusedVariables false
set_option linter.unusedSimpArgs false
set_option maxRecDepth 100000

/-- A slice as it lies in a row of slices. -/
structure Sl where
  a : Option Addr
  n : Nat
  c : Nat
def Sl.val (s : Sl) : Value := .slice s.a s.n s.c
def KT : Ty Sl := ⟨86, 1, fun s => [s.val], fun _ => rfl, fun _ u h => by simp at h; subst h; rfl, by decide⟩
theorem elemK : Elem Tryd.prog KT 98 24 := ⟨Tryd.underlying98, ⟨.slice none 0 0, rfl, by kernel_rfl⟩, by decide⟩
theorem sl_cell {w0 w : World} {L : List Chunk} {q m cap i : Nat} {ss : List Sl} {a : Option Addr} {n c : Nat} (S : Sep w0 w L) (h : row KT (.slice (some ⟨q, 0, none⟩) m cap) ss ∈ L) (hs : ss[i]? = some ⟨a, n, c⟩) : w.cell? ⟨q, i, none⟩ = some (.slice a n c) := by
  have hr := rd_of S h
  obtain ⟨b, o, e, hc⟩ := hr.2.2 i _ hs
  cases e
  have := hc 0 _ rfl
  simpa [KT, Sl.val] using this
def mkI (i : Nat) : Int := -10 - (i : Int)
def moreI : Int := -2
/-- Up to row i all is marked. -/
structure MkI (i : Nat) (ls0 ls : List (List Int)) : Prop where
  len : ls.length = ls0.length
  lens : ∀ (j : Nat) (l : List Int), ls[j]? = some l → ∃ l0 : List Int, ls0[j]? = some l0 ∧ l.length = l0.length
  mark : ∀ (j : Nat) (l : List Int), j < i → ls[j]? = some l → ∀ (k : Nat) (x : Int), l[k]? = some x → x = mkI j
theorem MkI.zero (ls : List (List Int)) : MkI 0 ls ls := ⟨rfl, fun j l h => ⟨l, h, rfl⟩, fun j l h => by omega⟩
theorem MkI.step {i : Nat} {ls0 ls : List (List Int)} {l l' : List Int} (h : MkI i ls0 ls) (hl : ls[i]? = some l) (hlen : l'.length = l.length) (hm : ∀ (k : Nat) (x : Int), l'[k]? = some x → x = mkI i) : MkI (i + 1) ls0 (ls.set i l') := by
  have hlt := (List.getElem?_eq_some_iff.1 hl).1
  refine ⟨by rw [List.length_set, h.len], fun j x hx => ?_, fun j x hj hx k y hy => ?_⟩
  · by_cases e : i = j
    · subst e
      obtain rfl : l' = x := by simpa [hlt] using hx
      obtain ⟨l0, h1, h2⟩ := h.lens i l hl
      exact ⟨l0, h1, hlen.trans h2⟩
    · rw [List.getElem?_set_ne e] at hx
      exact h.lens j x hx
  · by_cases e : i = j
    · subst e
      obtain rfl : l' = x := by simpa [hlt] using hx
      exact hm k y hy
    · rw [List.getElem?_set_ne e] at hx
      exact h.mark j x (by omega) hx k y hy

set_option maxHeartbeats 1600000 in
theorem apart65 (w0 w : World) (L : List Chunk) (q m cap : Nat) (ss : List Sl) (ls : List (List Int)) (hv : ss.length = m) (hls : ls.length = m) (hm : m ≤ 2097152) (hn : ∀ l ∈ ls, l.length ≤ 8388608)
    (S : Sep w0 w (rowsOf IT (ss.map Sl.val) ls ++ row KT (.slice (some ⟨q, 0, none⟩) m cap) ss :: L)) :
    Calls Tryd.prog 65 #[.slice (some ⟨q, 0, none⟩) m cap] w fun e w' => e = .returned (.bool true) ∧ Sep w0 w' L := by
  have HS := Lib.hid S
  have HV := Lib.hid hv
  have HL := Lib.hid hls
  have HN := Lib.hid hn
  clear S hv hls hn
  go_enter Tryd.func65, Tryd.ntmps65
  go_wp2
  go_loopw [3] (fun t3 wr => ∃ i : Nat, i ≤ m ∧ t3 = .int .i64 i ∧ ∃ l1 : List (List Int), Hid (MkI i ls l1) ∧ Hid (Sep w0 wr (rowsOf IT (ss.map Sl.val) l1 ++ row KT (.slice (some ⟨q, 0, none⟩) m cap) ss :: L))) (fun t3 _ => m - (intOf t3).toNat)
  case atStart => exact ⟨0, Nat.zero_le _, rfl, ls, MkI.zero ls, HS.out⟩
  case round =>
    obtain ⟨i, hi, rfl, l1, hM, hS⟩ := hrel
    by_cases hlt : i < m
    · obtain ⟨⟨a, n, c⟩, hsi⟩ : ∃ s, ss[i]? = some s := ⟨_, List.getElem?_eq_getElem (by rw [HV.out]; exact hlt)⟩
      have hvi : (ss.map Sl.val)[i]? = some (.slice a n c) := by rw [List.getElem?_map, hsi]; rfl
      obtain ⟨li, hli⟩ : ∃ li, l1[i]? = some li := ⟨_, List.getElem?_eq_getElem (by rw [hM.out.len, HL.out]; exact hlt)⟩
      obtain ⟨l0, hl0, hlen0⟩ := hM.out.lens i li hli
      have hnl : li.length ≤ 8388608 := by rw [hlen0]; exact HN.out l0 (List.mem_of_getElem? hl0)
      have HVI := Lib.hid hvi
      have HLI := Lib.hid hli
      have HSI := Lib.hid hsi
      clear hvi hli hl0 hlen0 hsi
      obtain ⟨hneq, hform⟩ : Hid (n = li.length) ∧ (n = 0 ∨ ∃ g, a = some ⟨g, 0, none⟩) := by
        rcases Row.form (rows_row hS.out HVI.out HLI.out) with ⟨e, h⟩ | ⟨g, c', e, _⟩
        · injection e with e1 e2 e3
          exact ⟨by rw [h]; exact e2, .inl e2⟩
        · injection e with e1 e2 e3
          exact ⟨e2, .inr ⟨g, e1⟩⟩
      have hnn : n ≤ 8388608 := by rw [hneq.out]; exact hnl
      clear hnl
      go_wp2
      go_loopw [4] (fun t4 wr => ∃ k : Nat, k ≤ n ∧ t4 = .int .i64 k ∧ ∃ lk : List Int, Hid (lk.length = n ∧ ∀ (j : Nat) (x : Int), j < k → lk[j]? = some x → x = mkI i) ∧ Hid (Sep w0 wr (row IT (.slice a n c) lk :: (rowsBut IT i (ss.map Sl.val) l1 ++ row KT (.slice (some ⟨q, 0, none⟩) m cap) ss :: L)))) (fun t4 _ => n - (intOf t4).toNat)
      case atStart => exact ⟨0, Nat.zero_le _, rfl, li, ⟨hneq.out.symm, fun j x hj => by omega⟩, rows_up hS.out HVI.out HLI.out⟩
      case round =>
        obtain ⟨k, hk, rfl, lk, hlk, hSk⟩ := hrel
        have cq := sl_cell (q := q) (m := m) (cap := cap) (ss := ss) hSk.out (by simp) HSI.out
        by_cases hkn : k < n
        · obtain ⟨g, rfl⟩ : ∃ g, a = some ⟨g, 0, none⟩ := by
            rcases hform with h | h
            · omega
            · exact h
          obtain ⟨x, hx⟩ : ∃ x, lk[k]? = some x := ⟨_, List.getElem?_eq_getElem (by rw [hlk.out.1]; exact hkn)⟩
          have x0 := row_cell hSk.out (j := 0) hx (u := .int .i64 x) rfl
          have f0 := row_free hSk.out k
          simp only [show IT.sz = 1 from rfl, Nat.add_zero, Nat.mul_one] at x0
          have hput := row_set hSk.out (x' := mkI i) (u := .int .i64 (mkI i)) hx (j := 0) (by decide) rfl
          simp only [show IT.sz = 1 from rfl, Nat.add_zero, Nat.mul_one] at hput
          have hput2 := Lib.hid hput
          clear hx hform
          have hlen2 : Hid ((lk.set k (mkI i)).length = n ∧ ∀ (j : Nat) (x : Int), j < k + 1 → (lk.set k (mkI i))[j]? = some x → x = mkI i) := by
            refine ⟨by rw [List.length_set, hlk.out.1], fun j y hj hy => ?_⟩
            by_cases e : k = j
            · subst e
              have : k < lk.length := by rw [hlk.out.1]; exact hkn
              simpa [this] using hy.symm
            · rw [List.getElem?_set_ne e] at hy
              exact hlk.out.2 j y (by omega) hy
          clear hput
          have hmk : (-10 : Int) - (i : Int) = mkI i := rfl
          go_wp2
          go_roundw
          case rel => exact ⟨k + 1, by omega, by go_num, _, hlen2, hput2.out⟩
          case measure => simp [intOf]; omega
        · have hm2 : MkI (i + 1) ls (l1.set i lk) := hM.out.step HLI.out (by rw [hlk.out.1, hneq.out]) (fun j x hx => hlk.out.2 j x (by have := (List.getElem?_eq_some_iff.1 hx).1; rw [hlk.out.1] at this; omega) hx)
          have HM2 := Lib.hid hm2
          have hS2 := Lib.hid (rows_down hSk.out HVI.out (by rw [hM.out.len, HL.out]; exact hlt))
          clear hm2
          go_wp2
          go_roundw
          case rel => exact ⟨i + 1, by omega, by go_num, _, HM2.out, hS2.out⟩
          case measure => simp [intOf]; omega
    · obtain rfl : m = i := by omega
      go_wp2
      go_loopw [5, 6] (fun t5 t6 wr => ∃ i gr : Nat, i ≤ m ∧ t6 = .int .i64 i ∧ t5 = .int .i64 gr ∧ 64 * i ≤ gr ∧ gr ≤ i * 16777216 ∧ Hid (Sep w0 wr (rowsOf IT (ss.map Sl.val) l1 ++ row KT (.slice (some ⟨q, 0, none⟩) m cap) ss :: L))) (fun _ t6 _ => m - (intOf t6).toNat)
      case atStart => exact ⟨0, 0, Nat.zero_le _, rfl, rfl, by omega, by omega, hS.out⟩
      case round =>
        obtain ⟨i, gr, hi, rfl, rfl, hg1, hg2, hSi⟩ := hrel
        by_cases hlt2 : i < m
        · obtain ⟨⟨a, n, c⟩, hsi⟩ : ∃ s, ss[i]? = some s := ⟨_, List.getElem?_eq_getElem (by rw [HV.out]; exact hlt2)⟩
          have hvi : (ss.map Sl.val)[i]? = some (.slice a n c) := by rw [List.getElem?_map, hsi]; rfl
          obtain ⟨li, hli⟩ : ∃ li, l1[i]? = some li := ⟨_, List.getElem?_eq_getElem (by rw [hM.out.len, HL.out]; exact hlt2)⟩
          obtain ⟨l0, hl0, hlen0⟩ := hM.out.lens i li hli
          have hnl : li.length ≤ 8388608 := by rw [hlen0]; exact HN.out l0 (List.mem_of_getElem? hl0)
          have cq := sl_cell (q := q) (m := m) (cap := cap) (ss := ss) hSi.out (by simp) hsi
          have HVI := Lib.hid hvi
          have HLI := Lib.hid hli
          have hMo := Lib.hid (More.start hSi.out hvi hli)
          clear hvi hli hl0 hlen0 hsi
          go_wp2
          go_loopw [7, 8] (fun t7 t8 wr => ∃ k : Nat, k ≤ 64 ∧ t8 = .int .i64 k ∧ ∃ lm : List Int, Hid (lm.length = li.length + k) ∧ Hid (More IT w0 wr (ss.map Sl.val) l1 i (row KT (.slice (some ⟨q, 0, none⟩) m cap) ss :: L) t7 (.slice a n c) li lm)) (fun _ t8 _ => 64 - (intOf t8).toNat)
          case atStart => exact ⟨0, Nat.zero_le _, rfl, li, rfl, hMo.out⟩
          case round =>
            obtain ⟨k, hk, rfl, lm, hlm, hMk⟩ := hrel
            by_cases hk64 : k < 64
            · have hb : (lm.length + 1) * 8 ≤ 140737488355328 := by rw [hlm.out]; omega
              go_wp2_with (at_builtin; refine app2 elemI rfl (.tmp 48) (.tmp 49) rfl u7 lm rfl (hMk.out.step (qalloc (qrefl wr) _)).hd _ 1 1 [moreI] rfl (rd_new IT wr moreI _ rfl 3) hb ?_; intro u2 w2 r1 r2 r3 r4)
              have hM2 := Lib.hid (More.app (hMk.out.step (qalloc (qrefl wr) _)) HVI.out HLI.out (r := [moreI]) (m := 1) rfl (by decide) r1 r2 r3 r4)
              have hl2 := Lib.hid (show (lm ++ [moreI]).length = li.length + (k + 1) by rw [List.length_append, hlm.out]; rfl)
              clear r1 r2 r3 r4 hb
              go_wp2
              go_roundw
              case rel => exact ⟨k + 1, by omega, by go_num, _, hl2.out, hM2.out⟩
              case measure => simp [intOf]; omega
            · obtain rfl : k = 64 := by omega
              obtain ⟨a2, c2, rfl, _, _⟩ := hMk.out.hd.rd
              have hn2 : lm.length ≤ 8388672 := by rw [hlm.out]; omega
              have hn3 : 64 ≤ lm.length := by rw [hlm.out]; omega
              have hSe := Lib.hid (hMk.out.end_ HVI.out HLI.out)
              go_wp2
              go_roundw
              case rel => exact ⟨i + 1, gr + lm.length, by omega, by go_num, by go_num, by omega, by omega, hSe.out⟩
              case measure => simp [intOf]; omega
        · obtain rfl : m = i := by omega
          go_wp2
          go_loopw [9] (fun t9 wr => ∃ i : Nat, i ≤ m ∧ t9 = .int .i64 i ∧ Hid (Sep w0 wr (rowsOf IT (ss.map Sl.val) l1 ++ row KT (.slice (some ⟨q, 0, none⟩) m cap) ss :: L))) (fun t9 _ => m - (intOf t9).toNat)
          case atStart => exact ⟨0, Nat.zero_le _, rfl, hSi.out⟩
          case round =>
            obtain ⟨i, hi, rfl, hSj⟩ := hrel
            by_cases hlt3 : i < m
            · obtain ⟨⟨a, n, c⟩, hsi⟩ : ∃ s, ss[i]? = some s := ⟨_, List.getElem?_eq_getElem (by rw [HV.out]; exact hlt3)⟩
              have hvi : (ss.map Sl.val)[i]? = some (.slice a n c) := by rw [List.getElem?_map, hsi]; rfl
              obtain ⟨li, hli⟩ : ∃ li, l1[i]? = some li := ⟨_, List.getElem?_eq_getElem (by rw [hM.out.len, HL.out]; exact hlt3)⟩
              obtain ⟨l0, hl0, hlen0⟩ := hM.out.lens i li hli
              have hnl : li.length ≤ 8388608 := by rw [hlen0]; exact HN.out l0 (List.mem_of_getElem? hl0)
              have HSI := Lib.hid hsi
              obtain ⟨hneq, hform⟩ : Hid (n = li.length) ∧ (n = 0 ∨ ∃ g, a = some ⟨g, 0, none⟩) := by
                rcases Row.form (rows_row hSj.out hvi hli) with ⟨e, h⟩ | ⟨g, c', e, _⟩
                · injection e with e1 e2 e3
                  exact ⟨by rw [h]; exact e2, .inl e2⟩
                · injection e with e1 e2 e3
                  exact ⟨e2, .inr ⟨g, e1⟩⟩
              have hnn : n ≤ 8388608 := by rw [hneq.out]; exact hnl
              have HVI := Lib.hid hvi
              have HLI := Lib.hid hli
              clear hnl hl0 hlen0 hvi hli hsi
              go_wp2
              go_loopw [10] (fun t10 wr => ∃ k : Nat, k ≤ n ∧ t10 = .int .i64 k ∧ Hid (Sep w0 wr (rowsOf IT (ss.map Sl.val) l1 ++ row KT (.slice (some ⟨q, 0, none⟩) m cap) ss :: L))) (fun t10 _ => n - (intOf t10).toNat)
              case atStart => exact ⟨0, Nat.zero_le _, rfl, hSj.out⟩
              case round =>
                obtain ⟨k, hk, rfl, hSk⟩ := hrel
                have cq := sl_cell (q := q) (m := m) (cap := cap) (ss := ss) hSk.out (by simp) HSI.out
                by_cases hkn : k < n
                · obtain ⟨g, rfl⟩ : ∃ g, a = some ⟨g, 0, none⟩ := by
                    rcases hform with h | h
                    · omega
                    · exact h
                  obtain ⟨x, hx⟩ : ∃ x, li[k]? = some x := ⟨_, List.getElem?_eq_getElem (by rw [← hneq.out]; exact hkn)⟩
                  obtain rfl := hM.out.mark i li hlt3 HLI.out k x hx
                  have hrw := rows_up hSk.out HVI.out HLI.out
                  have x0 := row_cell hrw (j := 0) hx (u := .int .i64 (mkI i)) rfl
                  simp only [show IT.sz = 1 from rfl, Nat.add_zero, Nat.mul_one] at x0
                  have hmk : (-10 : Int) - (i : Int) = mkI i := rfl
                  have hz : (mkI i != mkI i) = false := by simp
                  clear hx hform hrw
                  go_wp2
                  go_roundw
                  case rel => exact ⟨k + 1, by omega, by go_num, hSk.out⟩
                  case measure => simp [intOf]; omega
                · go_wp2
                  go_roundw
                  case rel => exact ⟨i + 1, by omega, by go_num, hSk.out⟩
                  case measure => simp [intOf]; omega
            · obtain rfl : m = i := by omega
              have hge : (64 : Int) * (m : Int) ≤ (gr : Int) := by omega
              go_wp2
              go_ret
              exact ⟨rfl, (sep_drop hSj.out).tl⟩

set_option maxHeartbeats 4000000 in
theorem spoil60 {w0 w : World} {L : List Chunk} {v : Value} {l : List Int} (S : Sep w0 w (row IT v l :: L)) (hl : l.length ≤ 8388608) :
    Calls Tryd.prog 60 #[v] w fun e w' => e = .returned (.bool true) ∧ Sep w0 w' L := by
  obtain ⟨a, n, c, rfl, hr, hn⟩ := rdv_form (T := IT) (Sep.rdv S (.head _))
  have hnb : n ≤ 8388608 := by omega
  have hform : n = 0 ∨ ∃ g, a = some ⟨g, 0, none⟩ := by
    rcases Row.form S.hd with ⟨e, _⟩ | ⟨g, c', e, _⟩
    · injection e with e1 e2 e3
      exact .inl e2
    · injection e with e1 e2 e3
      exact .inr ⟨g, e1⟩
  have HS : Hid (∃ lk : List Int, lk.length = n ∧ Sep w0 w (row IT (.slice a n c) lk :: L)) := Lib.hid ⟨l, hn.symm, S⟩
  clear S hl hr hn
  go_enter Tryd.func60, Tryd.ntmps60
  go_wp2
  go_loopw [3] (fun t wr => ∃ k : Nat, k ≤ n ∧ t = .int .i64 k ∧ Hid (∃ lk : List Int, lk.length = n ∧ Sep w0 wr (row IT (.slice a n c) lk :: L))) (fun t _ => n - (intOf t).toNat)
  case atStart => exact ⟨0, Nat.zero_le _, rfl, HS.out⟩
  case round =>
    obtain ⟨k, hk, rfl, hS⟩ := hrel
    clear HS
    obtain ⟨lk, hlk, hS1⟩ := hS.out
    have HLK := Lib.hid hlk
    have TQ := Lib.hid hS1
    clear hS hlk hS1
    by_cases hlt : k < n
    · obtain ⟨g, rfl⟩ : ∃ g, a = some ⟨g, 0, none⟩ := by
        rcases hform with h | h
        · omega
        · exact h
      obtain ⟨x, hx⟩ : ∃ x, lk[k]? = some x := ⟨_, List.getElem?_eq_getElem (by rw [HLK.out]; exact hlt)⟩
      have x0 := row_cell TQ.out (j := 0) hx (u := .int .i64 x) rfl
      have f0 := row_free TQ.out k
      have hput := row_set TQ.out (x' := -1) (u := .int .i64 (-1)) hx (j := 0) (by decide) rfl
      simp only [show IT.sz = 1 from rfl, Nat.add_zero, Nat.mul_one] at x0 hput
      have HP := Lib.hid hput
      clear hx hput hform
      go_wp2
      go_roundw
      case rel => exact ⟨k + 1, by omega, by go_num, ⟨_, by rw [List.length_set]; exact HLK.out, HP.out⟩⟩
      case measure => simp [intOf]; omega
    · obtain rfl : n = k := by omega
      go_wp2
      go_loopw [4, 5] (fun t4 t5 wr => ∃ k : Nat, k ≤ 64 ∧ t5 = .int .i64 k ∧ Hid (∃ lm : List Int, lm.length = n + k ∧ Sep w0 wr (row IT t4 lm :: L))) (fun _ t5 _ => 64 - (intOf t5).toNat)
      case atStart => exact ⟨0, Nat.zero_le _, rfl, ⟨lk, HLK.out, TQ.out⟩⟩
      case round =>
        obtain ⟨k, hk, rfl, hS⟩ := hrel
        clear TQ
        obtain ⟨lm, hlm, hS1⟩ := hS.out
        have HLM := Lib.hid hlm
        have TQ := Lib.hid hS1
        clear hS hlm hS1
        by_cases hlt2 : k < 64
        · have hb : (lm.length + 1) * 8 ≤ 140737488355328 := by rw [HLM.out]; omega
          go_wp2_with (at_builtin; refine app_sep elemI rfl (.tmp 20) (.tmp 21) rfl u4 lm rfl (TQ.out.alloc _) _ 1 1 [moreI] rfl (rd_new IT wr moreI _ rfl 3) hb ?_; intro u2 w2 Sq hkp; replace TQ := Lib.hid Sq; clear Sq hkp hb)
          go_roundw
          case rel => exact ⟨k + 1, by omega, by go_num, ⟨_, by rw [List.length_append, HLM.out]; rfl, TQ.out⟩⟩
          case measure => simp [intOf]; omega
        · obtain rfl : 64 = k := by omega
          obtain ⟨a2, n2, c2, rfl, _, hn2⟩ := rdv_form (T := IT) (Sep.rdv TQ.out (.head _))
          have hz : ((n2 : Int) == (n : Int) + 64) = true := by rw [hn2, HLM.out]; simp
          clear hn2
          go_wp2
          go_ret
          exact ⟨rfl, TQ.out.tl⟩
end Go.Proofs.YtdkailccfcijiaaDoor
