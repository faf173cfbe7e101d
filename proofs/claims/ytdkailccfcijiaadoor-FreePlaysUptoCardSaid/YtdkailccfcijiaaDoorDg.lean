/- Every second change turned; changes turned round. Conditions: the lengths of what is read. -/
import Derived.Test.YtdkailccfcijiaaDoorDf
namespace Go.Proofs.YtdkailccfcijiaaDoor
open Go.RowKit
set_option linter.unusedVariables false
set_option linter.unusedSimpArgs false
set_option maxRecDepth 100000

theorem secondTo_same {α : Type} (f : α → α) {l : List α} {m : Nat} {x : α} (hm : m % 2 = 0) (hx : l[m]? = some x) (hf : f x = x) : secondTo f (m + 2) l = secondTo f m l := by
  rw [← secondTo_step f hm hx, hf]
  apply List.ext_getElem?
  intro i
  rw [List.getElem?_set]
  split
  · rename_i h
    subst h
    have := (List.getElem?_eq_some_iff.1 hx).1
    rw [secondTo_at f hx]
    simp [secondTo_length, this]
  · rfl

theorem otherwise (w0 w : World) (L : List Chunk) (v : Value) (l : List C) (S : Sep w0 w (row CT v l :: L)) (hs : ∀ p ∈ l, p.new.size ≤ 4194304) (hn : l.length ≤ 9223372036854775000) :
    Calls Tryd.prog 28 #[v] w fun e w' => e = .returned v ∧ Sep w0 w' (row CT v (second C.turn l) :: L) := by
  rcases Row.form S.hd with ⟨rfl, rfl⟩ | ⟨g, c, rfl, hc, _, _⟩
  · have HS := Lib.hid S
    clear S hs
    go_enter Tryd.func28, Tryd.ntmps28
    go_wp2
    go_loop [3] (fun i => i = .int .i64 0) (fun _ => 0)
    case atStart => rfl
    case round =>
      subst hrel
      go_wp2
      go_ret
      exact ⟨rfl, HS.out⟩
  · have hs0 := Lib.hid (show Sep w0 w (row CT (.slice (some ⟨g, 0, none⟩) l.length c) (secondTo C.turn 0 l) :: L) by rw [secondTo_zero]; exact S)
    have HZ := Lib.hid hs
    clear S hs
    go_enter Tryd.func28, Tryd.ntmps28
    go_wp2
    go_loopw [3] (fun i wr => ∃ m : Nat, m % 2 = 0 ∧ m ≤ l.length + 1 ∧ i = .int .i64 m ∧ Hid (Sep w0 wr (row CT (.slice (some ⟨g, 0, none⟩) l.length c) (secondTo C.turn m l) :: L))) (fun i _ => l.length + 1 - (intOf i).toNat)
    case atStart => exact ⟨0, rfl, by omega, rfl, hs0.out⟩
    case round =>
      obtain ⟨m, hm, hle, rfl, hS⟩ := hrel
      by_cases hlt : m < l.length
      · obtain ⟨x, hx⟩ : ∃ x, l[m]? = some x := ⟨_, List.getElem?_eq_getElem hlt⟩
        have x2 := row_cell hS.out (j := 2) (secondTo_at C.turn hx) (u := .bool x.has) rfl
        have x4 := row_cell hS.out (j := 4) (secondTo_at C.turn hx) (u := .string x.new) rfl
        have f4 := row_free hS.out (m * 5 + 4)
        have hz := HZ.out x (List.mem_of_getElem? hx)
        have hz2 : x.new.size + 1 ≤ 9223372036854775807 := by omega
        have hm2 := Lib.hid hm
        have hx2 := Lib.hid hx
        simp only [show CT.sz = 5 from rfl] at x2 x4
        clear hm hx
        obtain ⟨xk, xhad, xhas, xold, xnew⟩ := x
        dsimp only at x2 x4 hz hz2
        cases xhas with
        | true =>
          have h2 := row_set hS.out (j := 4) (x' := C.turn ⟨xk, xhad, true, xold, xnew⟩) (u := .string (xnew ++ zz)) (secondTo_at C.turn hx2.out) (by decide) rfl
          rw [secondTo_step C.turn hm2.out hx2.out] at h2
          have h3 := Lib.hid h2
          clear h2
          go_wp2
          go_roundw
          case rel => exact ⟨m + 2, by have := hm2.out; omega, by omega, by go_num, h3.out⟩
          case measure => simp [intOf]; omega
        | false =>
          have h2 := hS.out
          rw [← secondTo_same C.turn hm2.out hx2.out rfl] at h2
          have h3 := Lib.hid h2
          clear h2
          go_wp2
          go_roundw
          case rel => exact ⟨m + 2, by have := hm2.out; omega, by omega, by go_num, h3.out⟩
          case measure => simp [intOf]; omega
      · have h2 := hS.out
        rw [secondTo_all _ _ _ (by omega)] at h2
        have h3 := Lib.hid h2
        have hm2 := Lib.hid hm
        clear h2 hm
        go_wp2
        go_ret
        exact ⟨rfl, h3.out⟩

/-! ### changes turned round -/
theorem rd_new2 {α : Type} (T : Ty α) (w : World) (x : α) (cs : Array Value) (h : cs.toList = T.enc x) (t : TypeId) (g : Nat) (hg : w.heap.size = g) : Rd T (w.alloc (.cells cs t)) (some ⟨g, 0, none⟩) 1 [x] := by
  subst hg
  exact rd_new T w x cs h t
def C.back (c : C) : C := ⟨c.k, c.has, c.had, c.new, c.old⟩
theorem refInvert (a : Option Addr) (c n : Nat) (l : List C) (w : World) (h : Rd CT w a n l) (hn : n ≤ 8388608) :
    Calls Tryd.prog 37 #[.slice a n c] w fun e w' => ∃ v, e = .returned v ∧ Sep w w' [row CT v (l.map C.back)] := by
  have H := Lib.hid h
  have hl := Lib.hid h.1
  clear h
  go_enter Tryd.func37, Tryd.ntmps37
  go_wp2
  go_loopw [3, 4] (fun v i wr => ∃ k : Nat, k ≤ n ∧ i = .int .i64 k ∧ Hid (Sep w wr [row CT v ((l.take k).map C.back)])) (fun _ i _ => n - (intOf i).toNat)
  case atStart => exact ⟨0, by omega, rfl, by simp; exact (Sep.nil w).none_ CT⟩
  case round =>
    obtain ⟨k, hk, rfl, hS⟩ := hrel
    by_cases hlt : k < n
    · obtain ⟨b, o, x, rfl, hx, c0, c1, c2, c3, c4⟩ := rdC (H.out.below hS.out.below) hlt
      have hx2 := Lib.hid hx
      have hb : (((l.take k).map C.back).length + 1) * 56 ≤ 140737488355328 := by simp; omega
      clear hx
      go_wp2_with (at_builtin; (refine app_sep elemC rfl (.tmp 16) (.tmp 28) rfl _ ((l.take k).map C.back) rfl ((hS.out.alloc _).alloc _) _ 1 1 [C.back x] rfl (rd_new2 CT (wr.alloc (.cells #[.string x.k, .bool x.had, .bool x.has, .string x.old, .string x.new] 32)) (C.back x) _ rfl 32 _ (by simp)) hb ?_); intro v' w1 S _)
      go_roundw
      case rel => exact ⟨k + 1, by omega, by go_num, by show Sep w w1 _; rw [List.take_add_one, hx2.out]; simpa using S⟩
      case measure => simp [intOf]; omega
    · have h2 := hS.out
      rw [List.take_of_length_le (by rw [hl.out]; omega)] at h2
      have h3 := Lib.hid h2
      clear h2
      go_wp2
      go_ret
      exact ⟨_, rfl, h3.out⟩

/-- make([]T, 0, n). -/
theorem mk_sep {α : Type} {T : Ty α} {P : Program} {w0 w : World} {L : List Chunk} {ops : Array Oper} {rest : List Oper} {o : Oper} {a : Act} {Q : Exit → Act → World → Prop} {t : TypeId} {bytes : Nat} (E : Elem P T t bytes) (hgd : o.guard = none) (l c : Operand)
    (ho : o.op = Op.makeSlice t l c) (kl kc : IntKind) (n : Nat) (hl : a.eval l = .int kl 0) (hc : a.eval c = .int kc (n : Int)) (hb : bytes * n ≤ 281474976710656) (hm : n ≤ maxLen) (S : Sep w0 w L)
    (h : ∀ v' w', Sep w0 w' (row T v' [] :: L) → wpList P ops Q rest (a.put o.dst v') w') : wpList P ops Q (o :: rest) a w := by
  obtain ⟨z, hz, hinfo⟩ := E.hi
  obtain ⟨i, hi, hzz⟩ := Option.map_eq_some_iff.1 hinfo
  simp only [Prod.mk.injEq] at hzz
  refine wpList_make_own w hgd l c t ho 0 T.e i z T.sz E.ht hi hzz.1 hzz.2.1 kl kc n n hl hc rfl (by rw [hzz.2.2]; exact hb) hm (Nat.zero_le _) fun w' h1 h2 => ?_
  have hr : Row T w' (.slice (some ⟨w.heap.size, 0, none⟩) 0 n) [] := h1
  refine h _ w' (S.push ⟨h2.os, h2.tape, h2.output, h2.size, fun k hk => h2.block k hk (fun e => by cases e)⟩ hr (fun k hk => ?_))
  have h3 := Row.lt hr k hk
  have : w.heap.size = k := Option.some.inj hk
  exact ⟨by omega, h3⟩
theorem invert (a : Option Addr) (c n : Nat) (l : List C) (w : World) (h : Rd CT w a n l) (hn : n ≤ 8388608) :
    Calls Tryd.prog 35 #[.slice a n c] w fun e w' => ∃ v, e = .returned v ∧ Sep w w' [row CT v (l.map C.back)] := by
  have H := Lib.hid h
  have hl := Lib.hid h.1
  have hmx : n ≤ maxLen := by simp [maxLen]; omega
  have hbb : 56 * n ≤ 281474976710656 := by omega
  clear h
  go_enter Tryd.func35, Tryd.ntmps35
  go_wp2_with (at_make; go_loud (refine mk_sep elemC rfl _ _ rfl .i64 .i64 n rfl rfl hbb hmx (Sep.nil w) ?_); intro v' w1 S)
  have hS0 := Lib.hid S
  clear S
  go_wp2
  go_loopw [3, 11] (fun v i wr => ∃ k : Nat, k ≤ n ∧ i = .int .i64 k ∧ Hid (Sep w wr [row CT v ((l.take k).map C.back)])) (fun _ i _ => n - (intOf i).toNat)
  case atStart => exact ⟨0, by omega, rfl, by simp; exact hS0.out⟩
  case round =>
    obtain ⟨k, hk, rfl, hS⟩ := hrel
    by_cases hlt : k < n
    · obtain ⟨b, o, x, rfl, hx, c0, c1, c2, c3, c4⟩ := rdC (H.out.below hS.out.below) hlt
      have hx2 := Lib.hid hx
      have hb : (((l.take k).map C.back).length + 1) * 56 ≤ 140737488355328 := by simp; omega
      clear hx
      go_wp2_with (at_builtin; refine app_sep elemC rfl (.tmp 15) (.tmp 27) rfl _ ((l.take k).map C.back) rfl ((hS.out.alloc _).alloc _) _ 1 1 [C.back x] rfl (rd_new2 CT (wr.alloc (.cells #[.string x.k, .bool x.had, .bool x.has, .string x.old, .string x.new] 32)) (C.back x) _ rfl 32 _ (by simp)) hb ?_; intro v' w1 S _)
      go_roundw
      case rel => exact ⟨k + 1, by omega, by go_num, by show Sep w w1 _; rw [List.take_add_one, hx2.out]; simpa using S⟩
      case measure => simp [intOf]; omega
    · have h2 := hS.out
      rw [List.take_of_length_le (by rw [hl.out]; omega)] at h2
      have h3 := Lib.hid h2
      clear h2
      go_wp2
      go_ret
      exact ⟨_, rfl, h3.out⟩
end Go.Proofs.YtdkailccfcijiaaDoor
