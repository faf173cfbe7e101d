/- What the readings of the map's laws give: a script; the library's table; the witness. No condition. -/
import Derived.Test.YtdkailccfcijiaaDoorRc
import Derived.Test.YtdkailccfcijiaaDoorFm
import Derived.Deep.Strs
namespace Go.Proofs.YtdkailccfcijiaaDoor
open Go.ChangeShapes Go.WideShapes Go.ChangeAt Go.RowKit
set_option linter.unusedVariables false
set_option linter.unusedSimpArgs false
set_option maxRecDepth 100000

instance : Inhabited St := ⟨⟨0, 0, 0⟩⟩
theorem cells84 : Tryd.prog.cellsOf 84 = 3 := by kernel_rfl
theorem cells3 : Tryd.prog.cellsOf 3 = 1 := by kernel_rfl
section
variable {H : Type} {enc : TypeId × Value → H} {w : World} {base : Nat} {spare : Nat → Bool} {held : Bool}
theorem openS {n : Nat} {v : Value} {y : DataW H × List MemPlace} (h : DataW.trod enc Tryd.prog w base spare held n 73 [v] = some y) :
    ∃ (a : Option Addr) (c : Nat) (l : List St), v = .slice a l.length c ∧ Rd ST w a l.length l ∧ (∀ B, Rows.uptoBulk y.1 ≤ B → l.length ≤ B) := by
  rcases Deep.open_slice Tryd.underlying73 h with ⟨hv, hy⟩ | ⟨a, len, cap, m, n', D, Pl, hv, hb, hl, hm, hmm, hy, hx⟩
  · exact ⟨none, 0, [], by simpa using hv, Rd.nil ST w none, fun B _ => Nat.zero_le _⟩
  · have hle : len ≤ m := by rw [hmm]; split <;> omega
    have hel : ∀ i, i < len → ∃ p : St, w.cell? (a.add (i * 3)) = some (.int .i64 p.kind) ∧ w.cell? ((a.add (i * 3)).add 1) = some (.int .i64 p.on) ∧ w.cell? ((a.add (i * 3)).add 2) = some (.int .i64 p.n) := by
      intro i hi
      obtain ⟨cs', h1, h2⟩ := hx i (by omega)
      rw [cells84] at h1
      obtain ⟨_, hlen, hc⟩ := World.cells?_some h1
      obtain ⟨y0, y1, y2, n2, e1, _, h3, h4, h5⟩ := Deep.trod_struct3 Tryd.underlying84 h2
      match cs', hlen with
      | [c0, c1, c2], _ =>
        obtain ⟨s0, e2, e3, _⟩ := DataW.trod_int Tryd.underlying3 (by simpa [cells3] using h3)
        obtain ⟨s1, e4, e5, _⟩ := DataW.trod_int Tryd.underlying3 (by simpa [cells3] using h4)
        obtain ⟨s2, e6, e7, _⟩ := DataW.trod_int Tryd.underlying3 (by simpa [cells3] using h5)
        have k0 : w.cell? (a.add (i * 3)) = _ := hc 0 (by omega)
        have k1 := hc 1 (by omega)
        have k2 := hc 2 (by omega)
        simp only [List.cons.injEq, and_true] at e2 e4 e6
        subst e2 e4 e6
        exact ⟨⟨s0, s1, s2⟩, by simpa using k0, by simpa using k1, by simpa using k2⟩
    obtain ⟨f, hf⟩ := Deep.choose_lt hel
    have hat : ∀ i x, ((List.range len).map f)[i]? = some x → i < len ∧ x = f i := by
      intro i x hx
      rw [List.getElem?_map, Option.map_eq_some_iff] at hx
      obtain ⟨j, hj, rfl⟩ := hx
      have hlt : i < len := by have := (List.getElem?_eq_some_iff.1 hj).1; simpa using this
      rw [List.getElem?_range hlt] at hj
      cases hj
      exact ⟨hlt, rfl⟩
    refine ⟨some a, cap, (List.range len).map f, by simpa using hv, ⟨by simp, by simp only [List.length_map, List.length_range, maxLen] at hm ⊢; omega, ?_⟩, fun B hB => ?_⟩
    · intro i x hx
      obtain ⟨hi, rfl⟩ := hat i x hx
      obtain ⟨k0, k1, k2⟩ := hf i hi
      obtain ⟨b, o, sp⟩ := a
      have hsp : sp = none := by
        obtain ⟨z0, _⟩ := hf 0 (by omega)
        have := plain_addr z0
        simpa [Addr.add] using this
      subst hsp
      simp only [add_plain] at k0 k1 k2
      refine ⟨b, o, rfl, fun j u hu => ?_⟩
      match j, hu with
      | 0, hu => cases hu; exact k0
      | 1, hu => cases hu; exact k1
      | 2, hu => cases hu; exact k2
    · rw [hy] at hB
      simp only [Rows.uptoBulk] at hB
      have := bulk_len ((List.range len).map D)
      simp at this
      simp
      omega
end
theorem readable75 : Tryd.prog.readableRec 75 = true := by kernel_rfl
theorem lt75 : 75 < Tryd.prog.types.size := of_decide_eq_true (by kernel_rfl)
theorem args_againT {t : TypeId} (hr : Tryd.prog.readableRec t = true) (hlt : t < Tryd.prog.types.size) {H : Type} {enc : TypeId × Value → H} {W W' : World} {v0 : Value} {d0 : DataW H} {p0 before : List MemPlace} {ts : List TypeId} {vars : List String} {ds gs : List (DataW H)} {vs : List Value}
    (hW : DataW.Whole enc Tryd.prog ts vars false W vs ds gs before) (h0 : DataW.Trod enc Tryd.prog W 0 (fun _ => true) true t v0 d0 p0) (hb : Below W.heap.size W W') (hp : ∀ p ∈ p0, p ∈ before) {sp : Nat → Bool} (hsp : ∀ p ∈ before, sp p.block = true) :
    DataW.Trod enc Tryd.prog W' 0 sp true t v0 d0 p0 :=
  WideElems.Trod_stays laidOut hr hlt h0 (fun p hp0 => by
    have hl := hW.lt p (hp p hp0)
    cases p with
    | cell b o =>
      show W'.cell? ⟨b, o, none⟩ = W.cell? ⟨b, o, none⟩
      exact World.cell?_of_block (hb.block b hl)
    | map b => exact hb.block b hl) (fun p hp0 => hsp p (hp p hp0))
theorem cells75 : Tryd.prog.cellsOf 75 = 3 := by kernel_rfl
/-- The argument of a law over a script. -/
theorem open_script {H : Type} {enc : TypeId × Value → H} {W : World} {base : Nat} {v0 : Value} {d0 : DataW H} {p0 : List MemPlace} (hv : Value.okWide Tryd.prog W .any base 75 v0) (h : DataW.Trod enc Tryd.prog W 0 (fun _ => true) true 75 v0 d0 p0) :
    ∃ (aS : Option Addr) (cS : Nat) (X : List St) (pg ot : Int), v0 = .agg #[.int .i64 pg, .int .i64 ot, .slice aS X.length cS] ∧ Rd ST W aS X.length X ∧ (Rows.uptoBulk d0 ≤ 1048576 → X.length ≤ 1048576) := by
  obtain ⟨v0, v1, v2, y0, y1, y2, n, rfl, rfl, _, h0, h1, h2⟩ := Joins.open_agg3 Tryd.underlying75 (by kernel_rfl) cells75 hv h
  obtain ⟨s0, e0, _, _⟩ := DataW.trod_int Tryd.underlying3 h0
  obtain ⟨s1, e1, _, _⟩ := DataW.trod_int Tryd.underlying3 h1
  obtain ⟨aS, cS, X, rfl, hX, hB⟩ := openS h2
  simp only [List.cons.injEq, and_true] at e0 e1
  subst e0 e1
  refine ⟨aS, cS, X, s0, s1, rfl, hX, fun hb => hB _ ?_⟩
  simp only [Rows.uptoBulk, Rows.uptoBulkAll] at hb
  omega

theorem readable106 : Tryd.prog.readableRec 106 = true := by kernel_rfl
theorem lt106 : 106 < Tryd.prog.types.size := of_decide_eq_true (by kernel_rfl)
theorem cells106 : Tryd.prog.cellsOf 106 = 5 := by kernel_rfl
/-- The argument of a law over a script and two numbers. -/
theorem open_two_script {H : Type} {enc : TypeId × Value → H} {W : World} {base : Nat} {v0 : Value} {d0 : DataW H} {p0 : List MemPlace} (hv : Value.okWide Tryd.prog W .any base 106 v0) (h : DataW.Trod enc Tryd.prog W 0 (fun _ => true) true 106 v0 d0 p0) :
    ∃ (aS : Option Addr) (cS : Nat) (X : List St) (pg ot nn kk : Int), v0 = .agg #[.int .i64 pg, .int .i64 ot, .slice aS X.length cS, .int .i64 nn, .int .i64 kk] ∧ Rd ST W aS X.length X ∧ True := by
  obtain ⟨cs, rfl, hsz⟩ := okWide_struct Tryd.underlying106 hv
  rw [cells106] at hsz
  obtain ⟨l⟩ := cs
  match l, hsz with
  | [a, b, c, d, e], _ =>
    obtain ⟨fuel, hf⟩ := h
    obtain ⟨y0, y1, y2, n, _, _, h0, h1, h2⟩ := Deep.trod_struct3 Tryd.underlying106 hf
    obtain ⟨s3, e3, _, _⟩ := DataW.trod_int Tryd.underlying3 (by simpa [cells3, Value.cells] using h1)
    obtain ⟨s4, e4, _, _⟩ := DataW.trod_int Tryd.underlying3 (by simpa [cells3, Value.cells] using h2)
    obtain ⟨z0, z1, z2, m, _, _, k0, k1, k2⟩ := Deep.trod_struct3 Tryd.underlying75 h0
    obtain ⟨s0, e0, _, _⟩ := DataW.trod_int Tryd.underlying3 (by simpa [cells3, cells75, Value.cells] using k0)
    obtain ⟨s1, e1, _, _⟩ := DataW.trod_int Tryd.underlying3 (by simpa [cells3, cells75, Value.cells] using k1)
    have k2' : DataW.trod enc Tryd.prog W 0 (fun _ => true) true m 73 [c] = some z2 := by simpa [show Tryd.prog.cellsOf 73 = 1 by kernel_rfl, cells75, Value.cells] using k2
    obtain ⟨aS, cS, X, rfl, hX, _⟩ := openS k2'
    simp only [List.cons.injEq, and_true] at e0 e1 e3 e4
    subst e0 e1 e3 e4
    exact ⟨aS, cS, X, s0, s1, s3, s4, rfl, hX, trivial⟩
abbrev wit2 : Value := .agg #[.int .i64 0, .int .i64 0, .slice none 0 0, .int .i64 0, .int .i64 0]

/-! ### the library's table -/
theorem laid_tail {W : World} {x : String × DataW Unit} {ts : List (String × DataW Unit)} (h : laidMet Tryd.prog (x :: ts) W) : laidMet Tryd.prog ts W := by
  obtain ⟨ps, ⟨g, t, cs, f, p, q, hg, ht, hv, hd, hrest, rfl⟩, hnd, hr⟩ := h
  exact ⟨q, hrest, (List.nodup_append.1 hnd).2.1, fun b off hm => hr b off (List.mem_append_right _ hm)⟩
theorem cells5 : Tryd.prog.cellsOf 5 = 1 := by kernel_rfl
theorem table_of_laid {W : World} {ts : List (String × DataW Unit)} (h : laidMet Tryd.prog (("math/bits.deBruijn64tab", .agg (Lib.deBruijn64tab.map fun (x : Nat) => .lit (.int .u8 (x : Int)))) :: ts) W) : TabAt13 W := by
  obtain ⟨ps, ⟨g, t, cs, f, p, q, hg, ht, hv, hd, hrest, rfl⟩, hnd, hr⟩ := h
  obtain rfl := Option.some.inj ((show Tryd.prog.globalNamed "math/bits.deBruijn64tab" = some 13 by kernel_rfl).symm.trans hg)
  obtain rfl := Option.some.inj ((show (Tryd.prog.globals[13]?).map (·.type) = some 181 by kernel_rfl).symm.trans ht)
  obtain ⟨xs, m, _, ex, hlen, hl, hel⟩ := DataW.trod_array Tryd.underlying181 hd
  rw [show Tryd.prog.cellsOf 181 = 64 by kernel_rfl] at hlen
  have e3 := DataW.agg.inj (Prod.mk.inj ex).1
  intro j hj
  have hj64 : j < 64 := hj
  have k := hel j hj64
  rw [cells5, Nat.mul_one] at k
  have hx : xs[j]? = some xs[j] := List.getElem?_eq_getElem (by omega)
  rw [hx] at k
  obtain ⟨z, a, b, _⟩ := DataW.trod_int Tryd.underlying5 k
  have h1 : (xs.map (·.1))[j]? = some (.lit (.int .u8 z)) := by rw [List.getElem?_map, hx, Option.map_some, b]
  rw [← e3] at h1
  have h2 : (Lib.deBruijn64tab.map fun (x : Nat) => (DataW.lit (.int .u8 (x : Int)) : DataW Unit))[j]? = some (.lit (.int .u8 ((Lib.deBruijn64tab.getD j 0 : Nat) : Int))) := by
    rw [List.getElem?_map, List.getD_eq_getElem?_getD, List.getElem?_eq_getElem hj]
    rfl
  rw [h2] at h1
  have h3 : (((Lib.deBruijn64tab.getD j 0 : Nat) : Int)) = z := by
    injection h1 with h1; injection h1 with h1; injection h1 with _ h1
  have h4 : cs.toList[j]? = some (.int .u8 z) := by
    have := congrArg (fun l : List Value => l[0]?) a
    simpa [List.getElem?_take, List.getElem?_drop] using this
  rw [h3]
  have := World.var?_cell hg hv j
  rw [← Array.getElem?_toList, h4] at this
  exact this
/-- The witness: the table is laid too. -/
noncomputable def laidWorldT (os : Os) : World :=
  { laidWorld os with heap := (laidWorld os).heap.modify 13 fun
      | .cells _ t frozen => .cells (Lib.deBruijn64tab.map fun (x : Nat) => Value.int .u8 (x : Int)).toArray t frozen
      | o => o }
abbrev witS : Value := .agg #[.int .i64 0, .int .i64 0, .slice none 0 0]
end Go.Proofs.YtdkailccfcijiaaDoor
