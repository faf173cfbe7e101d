/- What the reading of three states gives; the witness. No condition. -/
import Derived.Test.YtdkailccfcijiaaDoorRc
namespace Go.Proofs.YtdkailccfcijiaaDoor
open Go.ChangeShapes Go.WideShapes Go.ChangeAt Go.RowKit
set_option linter.unusedVariables false
set_option linter.unusedSimpArgs false
set_option maxRecDepth 100000

theorem readable71 : Tryd.prog.readableRec 71 = true := by kernel_rfl
theorem lt71 : 71 < Tryd.prog.types.size := of_decide_eq_true (by kernel_rfl)
theorem args_again71 {H : Type} {enc : TypeId × Value → H} {W W' : World} {v0 : Value} {d0 : DataW H} {p0 before : List MemPlace} {ts : List TypeId} {vars : List String} {ds gs : List (DataW H)} {vs : List Value}
    (hW : DataW.Whole enc Tryd.prog ts vars false W vs ds gs before) (h0 : DataW.Trod enc Tryd.prog W 0 (fun _ => true) true 71 v0 d0 p0) (hb : Below W.heap.size W W') (hp : ∀ p ∈ p0, p ∈ before) {sp : Nat → Bool} (hsp : ∀ p ∈ before, sp p.block = true) :
    DataW.Trod enc Tryd.prog W' 0 sp true 71 v0 d0 p0 :=
  WideElems.Trod_stays laidOut readable71 lt71 h0 (fun p hp0 => by
    have hl := hW.lt p (hp p hp0)
    cases p with
    | cell b o =>
      show W'.cell? ⟨b, o, none⟩ = W.cell? ⟨b, o, none⟩
      exact World.cell?_of_block (hb.block b hl)
    | map b => exact hb.block b hl) (fun p hp0 => hsp p (hp p hp0))
theorem cells71 : Tryd.prog.cellsOf 71 = 3 := by kernel_rfl
/-- The argument of a law over three states. -/
theorem open_three {H : Type} {enc : TypeId × Value → H} {W : World} {base : Nat} {v0 : Value} {d0 : DataW H} {p0 : List MemPlace} (hv : Value.okWide Tryd.prog W .any base 71 v0) (h : DataW.Trod enc Tryd.prog W 0 (fun _ => true) true 71 v0 d0 p0) (hB : Rows.uptoBulk d0 ≤ 1048576) :
    ∃ (aA : Option Addr) (cA : Nat) (A : List P) (aB : Option Addr) (cB : Nat) (B : List P) (aD : Option Addr) (cD : Nat) (D : List P),
      v0 = .agg #[.slice aA A.length cA, .slice aB B.length cB, .slice aD D.length cD] ∧
      RdV PT W (.slice aA A.length cA) A ∧ A.length ≤ 1048576 ∧ RdV PT W (.slice aB B.length cB) B ∧ B.length ≤ 1048576 ∧ RdV PT W (.slice aD D.length cD) D ∧ D.length ≤ 1048576 := by
  obtain ⟨v0, v1, v2, y0, y1, y2, n, rfl, rfl, _, h0, h1, h2⟩ := Joins.open_agg3 Tryd.underlying71 (by kernel_rfl) cells71 hv h
  simp only [Rows.uptoBulk, Rows.uptoBulkAll] at hB
  obtain ⟨aA, cA, A, rfl, hA1, hA2, hA3⟩ := openP (B := 1048576) h0 (by omega)
  obtain ⟨aB, cB, B, rfl, hB1, hB2, hB3⟩ := openP (B := 1048576) h1 (by omega)
  obtain ⟨aD, cD, D, rfl, hD1, hD2, hD3⟩ := openP (B := 1048576) h2 (by omega)
  exact ⟨aA, cA, A, aB, cB, B, aD, cD, D, rfl, hA1, hA2, hB1, hB2, hD1, hD2⟩
abbrev wit3 : Value := .agg #[.slice none 0 0, .slice none 0 0, .slice none 0 0]
end Go.Proofs.YtdkailccfcijiaaDoor
