/- The free map gives out pages: Take. No condition but the sizes, the laid errors and the library's table. -/
import Derived.Test.YtdkailccfcijiaaDoorFe
import Derived.Test.YtdkailccfcijiaaDoorPu
namespace Go.Proofs.YtdkailccfcijiaaDoor
open Go.RowKit Go.Shelf
set_option linter.unusedVariables false
set_option linter.unusedSimpArgs false
set_option maxRecDepth 100000

def IT : Ty Int := ⟨3, 1, fun x => [.int .i64 x], fun _ => rfl, fun _ u h => by simp at h; subst h; rfl, by decide⟩
theorem elemI : Elem Tryd.prog IT 86 8 := ⟨Tryd.underlying86, ⟨.int .i64 0, rfl, by kernel_rfl⟩, by decide⟩
theorem take68_no {E : Nat → Addr} {w0 w : World} {L : List Chunk} {p g pages : Nat} {ws : List Nat} (hE : Errs all13 E w) (S : Sep w0 w (fm p g pages ws :: L)) (hok : FmOk pages ws) (n : Int) (hn : n < 0) :
    Calls Tryd.prog 68 #[.pointer (some ⟨p, 0, none⟩), .int .i64 n] w fun e w' => e = .returned (.tuple #[.slice none 0 0, errV E (some 2)]) ∧ Below w.heap.size w w' := by
  have c2 := hE.cell 2 (by decide)
  clear hE S hok
  go_enter Tryd.func68, Tryd.ntmps68
  go_wp2
  go_region
  all_goals (go_wp2; go_ret2; exact ⟨rfl, qdrew (qrefl _)⟩)
theorem take68_full {E : Nat → Addr} {w0 w : World} {L : List Chunk} {p g pages : Nat} {ws : List Nat} (hE : Errs all13 E w) (S : Sep w0 w (fm p g pages ws :: L)) (hok : FmOk pages ws) (n : Int) (h0 : 0 ≤ n) (hn : (freeN ws : Int) < n) :
    Calls Tryd.prog 68 #[.pointer (some ⟨p, 0, none⟩), .int .i64 n] w fun e w' => e = .returned (.tuple #[.slice none 0 0, errV E (some 7)]) ∧ Below w.heap.size w w' := by
  have HF := Lib.hid (free63 S hok)
  have HE := Lib.hid hE
  clear hE S hok
  go_enter Tryd.func68, Tryd.ntmps68
  go_wp2_with fail
  refine HF.out.mono ?_
  rintro e w1 ⟨rfl, hw1⟩
  have c7 := (HE.out.below hw1).cell 7 (by decide)
  go_wp2
  go_region
  all_goals (go_wp2; go_ret2; exact ⟨rfl, qdrew hw1⟩)
theorem mkIn_sep {α : Type} {T : Ty α} {F : Fence} {m : Nat} {P : Program} {w0 w : World} {L : List Chunk} {ops : Array Oper} {rest : List Oper} {o : Oper} {a : Act} {Q : Exit → Act → World → Prop} {t : TypeId} {bytes : Nat} (E : Elem P T t bytes) (hgd : o.guard = none) (l c : Operand)
    (ho : o.op = Op.makeSlice t l c) (kl kc : IntKind) (n : Nat) (hl : a.eval l = .int kl 0) (hc : a.eval c = .int kc (n : Int)) (hb : bytes * n ≤ 281474976710656) (hm : n ≤ maxLen) (S : Sep w0 w L)
    (h : ∀ v' w', Sep w0 w' (row T v' [] :: L) → wpListIn F m P ops Q rest (a.put o.dst v') w') : wpListIn F m P ops Q (o :: rest) a w := by
  obtain ⟨z, hz, hinfo⟩ := E.hi
  obtain ⟨i, hi, hzz⟩ := Option.map_eq_some_iff.1 hinfo
  simp only [Prod.mk.injEq] at hzz
  refine wpListIn_make_own w hgd l c t ho 0 T.e i z T.sz E.ht hi hzz.1 hzz.2.1 kl kc n n hl hc rfl (by rw [hzz.2.2]; exact hb) hm (Nat.zero_le _) fun w' h1 h2 => ?_
  have hr : Row T w' (.slice (some ⟨w.heap.size, 0, none⟩) 0 n) [] := h1
  refine h _ w' (S.push ⟨h2.os, h2.tape, h2.output, h2.size, fun k hk => h2.block k hk (fun e => by cases e)⟩ hr (fun k hk => ?_))
  have h3 := Row.lt hr k hk
  have : w.heap.size = k := Option.some.inj hk
  exact ⟨by omega, h3⟩
def lenV : Value → Nat
  | .slice _ n _ => n
  | _ => 0
def ints (l : List Nat) : List Int := l.map fun (x : Nat) => (x : Int)
/-- What a round of Take knows. -/
structure TakeAt (pages n : Nat) (ws0 : List Nat) (i : Nat) (out ws : List Nat) : Prop where
  ok : FmOk pages ws
  full : ∀ j, j < 64 * i → tk ws j = true
  len : out.length ≤ n
  left : n - out.length ≤ freeN ws
  all : out ++ (takeR (n - out.length) ws).1 = (takeR n ws0).1 ∧ (takeR (n - out.length) ws).2 = (takeR n ws0).2
theorem TakeAt.start {pages n : Nat} {ws : List Nat} (h : FmOk pages ws) (hn : n ≤ freeN ws) : TakeAt pages n ws 0 [] ws :=
  ⟨h, fun j hj => by omega, Nat.zero_le _, by simpa using hn, by simp⟩
theorem TakeAt.done {pages n i : Nat} {ws0 ws out : List Nat} (h : TakeAt pages n ws0 i out ws) (hl : n ≤ out.length) : out = (takeR n ws0).1 ∧ ws = (takeR n ws0).2 := by
  have h1 := h.all
  rw [show n - out.length = 0 by omega] at h1
  simpa [takeR] using h1
/-- The word of number i stands: there is a free page from there on. -/
theorem TakeAt.word {pages n i : Nat} {ws0 ws out : List Nat} (h : TakeAt pages n ws0 i out ws) (hl : out.length < n) : i < ws.length := by
  obtain ⟨j, hj, hn⟩ := next_exists h.ok (show 0 < freeN ws by have := h.left; omega)
  rcases Nat.lt_or_ge j (64 * i) with h1 | h1
  · have := h.full j h1
    rw [hn.1] at this
    cases this
  · omega
theorem TakeAt.skip {pages n i : Nat} {ws0 ws out : List Nat} (h : TakeAt pages n ws0 i out ws) (hx : ws[i]? = some 18446744073709551615) : TakeAt pages n ws0 (i + 1) out ws := by
  refine ⟨h.ok, fun j hj => ?_, h.len, h.left, h.all⟩
  rcases Nat.lt_or_ge j (64 * i) with h1 | h1
  · exact h.full j h1
  · unfold tk
    rw [show j / 64 = i by omega, List.getD_eq_getElem?_getD, hx]
    exact full_word rfl (by omega)
theorem TakeAt.put {pages n i x : Nat} {ws0 ws out : List Nat} (h : TakeAt pages n ws0 i out ws) (hl : out.length < n) (hx : ws[i]? = some x) (hw : x < 18446744073709551616) (hne : x ≠ 18446744073709551615) :
    TakeAt pages n ws0 i (out ++ [64 * i + Lib.ctz 64 (18446744073709551615 - x)]) (ws.set i (x ||| 2 ^ Lib.ctz 64 (18446744073709551615 - x))) := by
  obtain ⟨h1, h2, h3⟩ := low_bit hw hne
  generalize Lib.ctz 64 (18446744073709551615 - x) = q at h1 h2 h3 ⊢
  have hi : i < ws.length := (List.getElem?_eq_some_iff.1 hx).1
  have hd : (64 * i + q) / 64 = i := by omega
  have hm : (64 * i + q) % 64 = q := by omega
  have hg : ws.getD i 0 = x := by rw [List.getD_eq_getElem?_getD, hx]; rfl
  have hnx : IsNext ws (64 * i + q) := by
    refine ⟨by unfold tk; rw [hd, hm, hg]; exact h2, fun j hj => ?_⟩
    rcases Nat.lt_or_ge j (64 * i) with hlt | hge
    · exact h.full j hlt
    · unfold tk
      rw [show j / 64 = i by omega, hg]
      exact h3 _ (by omega)
  have hs : setW ws (64 * i + q) = ws.set i (x ||| 2 ^ q) := by unfold setW; rw [hd, hm, hg]
  have hnf := nextF_is hnx
  have hfs := freeN_set h.ok (i := 64 * i + q) (by omega) hnx.1
  have hall := h.all
  obtain ⟨k, hk⟩ : ∃ k, n - out.length = k + 1 := ⟨n - out.length - 1, by omega⟩
  rw [hk, takeR, hnf, hs] at hall
  rw [← hs]
  have hleft := h.left
  refine ⟨ok_set h.ok _, fun j hj => by rw [tk_set (by omega), h.full j hj]; rfl, by simp; omega, by rw [List.length_append, List.length_singleton]; omega, ?_⟩
  rw [List.length_append, List.length_singleton, show n - (out.length + 1) = k by omega, hs]
  exact ⟨by rw [← hall.1, List.append_assoc]; rfl, hall.2⟩
end Go.Proofs.YtdkailccfcijiaaDoor
