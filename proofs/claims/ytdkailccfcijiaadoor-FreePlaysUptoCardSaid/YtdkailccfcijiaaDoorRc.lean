/- Words that the rows of the Diff laws share: the witness's world; the arguments read again. No condition. -/
import Derived.Test.YtdkailccfcijiaaDoorRb
import Derived.ProofKit
import Derived.OpenShut
import Derived.Deep.DeepHandedRow
import Derived.Deep.Frames
import Derived.WideKeyArgs
namespace Go.Proofs.YtdkailccfcijiaaDoor
open Go.ChangeShapes Go.WideShapes Go.ChangeAt Go.RowKit
set_option linter.unusedVariables false
set_option linter.unusedSimpArgs false
set_option maxRecDepth 100000

theorem own : ownKnob Tryd.prog.godebug = none := by kernel_rfl
/-- What a call that turns nothing leaves: the row's word. -/
theorem post_below {H : Type} {enc : TypeId × Value → H} {P : Program} {f : Func} {s : ChangeSpec} {apart fresh handsOn again : Bool} {W W' : World} {args : Array Value} {v : Value} {ds gs : List (DataW H)} {before pa pv : List MemPlace}
    (hW : DataW.Whole enc P f.params.toList s.vars apart W args.toList ds gs before)
    (hres : ∀ (b : Nat) (sp : Nat → Bool) (hd : Bool), DataW.TrodAll enc P W' b sp hd f.resultTypes.toList (v.resultList f.resultTypes.size) (s.fn H (ds ++ gs)).results [])
    (hargs : ∀ sp : Nat → Bool, (∀ p ∈ before, sp p.block = true) → DataW.TrodAll enc P W' 0 sp true f.params.toList args.toList (s.fn H (ds ++ gs)).args pa)
    (hvars : ∀ sp : Nat → Bool, (∀ p ∈ before, sp p.block = true) → DataW.TrodVars enc P W' sp s.vars (s.fn H (ds ++ gs)).vars pv)
    (hps : before = pa ++ pv) (hk : Below W.heap.size W W')
    (hok : ∀ (j : Nat) (t : TypeId) (r : Value), f.resultTypes[j]? = some t → (v.resultList f.resultTypes.size)[j]? = some r → Value.okWide P W' .any 0 t r) :
    s.post enc P f apart fresh handsOn again W args v W' := by
  have hlt := fun p hp => hW.lt p hp
  have hold : ∀ p ∈ before, (fun b => decide (b < W.heap.size)) p.block = true := fun p hp => by simpa using hlt p hp
  refine ⟨ds, gs, before, [], pa, pv, hW, hres _ _ _, hargs _ hold, hvars _ hold, hk.frame _, fun _ => ?_⟩
  obtain ⟨_, _, _, _, _, hz, hn⟩ := hW
  refine ⟨hok, _, _, ([] ++ pa) ++ pv, ⟨[] ++ pa, pv, trodAll_append (hargs _ (fun _ _ => rfl)) (hres _ _ _), hvars _ (fun _ _ => rfl), rfl, ?_, ?_⟩, ?_⟩
  · intro b off hp
    have hm : MemPlace.cell b off ∈ before := by rw [hps]; simpa using hp
    rw [← hz b off hm]
    have := hk.block b (hlt _ hm)
    unfold World.frozen?
    rw [this]
  · intro ha
    have := hn ha
    rw [hps] at this
    simpa using this
  · intro p hp _
    rw [hps]
    simpa using hp
theorem laidOut : laidOutB Tryd.prog = true := by kernel_rfl
theorem readable25 : Tryd.prog.readableRec 25 = true := by kernel_rfl
theorem lt25 : 25 < Tryd.prog.types.size := of_decide_eq_true (by kernel_rfl)
theorem args_again {H : Type} {enc : TypeId × Value → H} {W W' : World} {v0 : Value} {d0 : DataW H} {p0 before : List MemPlace} {ts : List TypeId} {vars : List String} {ds gs : List (DataW H)} {vs : List Value}
    (hW : DataW.Whole enc Tryd.prog ts vars false W vs ds gs before) (h0 : DataW.Trod enc Tryd.prog W 0 (fun _ => true) true 25 v0 d0 p0) (hb : Below W.heap.size W W') (hp : ∀ p ∈ p0, p ∈ before) {sp : Nat → Bool} (hsp : ∀ p ∈ before, sp p.block = true) :
    DataW.Trod enc Tryd.prog W' 0 sp true 25 v0 d0 p0 :=
  WideElems.Trod_stays laidOut readable25 lt25 h0 (fun p hp0 => by
    have hl := hW.lt p (hp p hp0)
    cases p with
    | cell b o =>
      show W'.cell? ⟨b, o, none⟩ = W.cell? ⟨b, o, none⟩
      exact World.cell?_of_block (hb.block b hl)
    | map b => exact hb.block b hl) (fun p hp0 => hsp p (hp p hp0))
theorem cells25 : Tryd.prog.cellsOf 25 = 4 := by kernel_rfl
/-- The argument of a law over two states and two lists of changes. -/
theorem open_two {H : Type} {enc : TypeId × Value → H} {W : World} {base : Nat} {v0 : Value} {d0 : DataW H} {p0 : List MemPlace} (hv : Value.okWide Tryd.prog W .any base 25 v0) (h : DataW.Trod enc Tryd.prog W 0 (fun _ => true) true 25 v0 d0 p0) (hB : Rows.uptoBulk d0 ≤ 1048576) :
    ∃ (aA : Option Addr) (cA : Nat) (A : List P) (aB : Option Addr) (cB : Nat) (B : List P) (aL : Option Addr) (cL : Nat) (L : List C) (aM : Option Addr) (cM : Nat) (M : List C),
      v0 = .agg #[.slice aA A.length cA, .slice aB B.length cB, .slice aL L.length cL, .slice aM M.length cM] ∧
      RdV PT W (.slice aA A.length cA) A ∧ A.length ≤ 1048576 ∧ (∀ p ∈ A, p.k.size ≤ 1048576 ∧ p.v.size ≤ 1048576) ∧
      RdV PT W (.slice aB B.length cB) B ∧ B.length ≤ 1048576 ∧ (∀ p ∈ B, p.k.size ≤ 1048576 ∧ p.v.size ≤ 1048576) ∧
      RdV CT W (.slice aL L.length cL) L ∧ L.length ≤ 1048576 ∧ (∀ p ∈ L, p.k.size ≤ 1048576 ∧ p.old.size ≤ 1048576 ∧ p.new.size ≤ 1048576) ∧
      RdV CT W (.slice aM M.length cM) M ∧ M.length ≤ 1048576 ∧ (∀ p ∈ M, p.k.size ≤ 1048576 ∧ p.old.size ≤ 1048576 ∧ p.new.size ≤ 1048576) := by
  obtain ⟨v0, v1, v2, v3, y0, y1, y2, y3, n, rfl, rfl, _, h0, h1, h2, h3⟩ := Joins.open_agg4 Tryd.underlying25 (by kernel_rfl) cells25 hv h
  simp only [Rows.uptoBulk, Rows.uptoBulkAll] at hB
  obtain ⟨aA, cA, A, rfl, hA1, hA2, hA3⟩ := openP (B := 1048576) h0 (by omega)
  obtain ⟨aB, cB, B, rfl, hB1, hB2, hB3⟩ := openP (B := 1048576) h1 (by omega)
  obtain ⟨aL, cL, L, rfl, hL1, hL2, hL3⟩ := openC (B := 1048576) h2 (by omega)
  obtain ⟨aM, cM, M, rfl, hM1, hM2, hM3⟩ := openC (B := 1048576) h3 (by omega)
  exact ⟨aA, cA, A, aB, cB, B, aL, cL, L, aM, cM, M, rfl, hA1, hA2, hA3, hB1, hB2, hB3, hL1, hL2, hL3, hM1, hM2, hM3⟩

/-! ### the witness -/
def errObjs : Array Obj := #[.cells #[.string ⟨#[110, 111, 116, 32, 105, 110, 32, 111, 114, 100, 101, 114]⟩] 249, .cells #[.string ⟨#[110, 111, 116, 32, 116, 104, 101, 114, 101]⟩] 249, .cells #[.string ⟨#[97, 32, 110, 117, 109, 98, 101, 114, 32, 111, 114, 32, 97, 110, 32, 97, 114, 103, 117, 109, 101, 110, 116, 32, 105, 115, 32, 111, 117, 116, 32, 111, 102, 32, 105, 116, 115, 32, 112, 108, 97, 99, 101]⟩] 249, .cells #[.string ⟨#[97, 32, 116, 101, 120, 116, 32, 111, 114, 32, 98, 121, 116, 101, 115, 32, 116, 104, 97, 116, 32, 99, 97, 110, 110, 111, 116, 32, 98, 101, 32, 114, 101, 97, 100]⟩] 249, .cells #[.string ⟨#[97, 98, 111, 118, 101, 32, 97, 32, 108, 105, 109, 105, 116]⟩] 249, .cells #[.string ⟨#[115, 111, 109, 101, 116, 104, 105, 110, 103, 32, 105, 115, 32, 109, 105, 115, 115, 105, 110, 103]⟩] 249, .cells #[.string ⟨#[116, 104, 101, 114, 101, 32, 116, 119, 105, 99, 101]⟩] 249, .cells #[.string ⟨#[110, 111, 32, 114, 111, 111, 109, 32, 111, 110, 32, 116, 104, 101, 32, 100, 101, 118, 105, 99, 101]⟩] 249, .cells #[.string ⟨#[111, 102, 32, 97, 110, 111, 116, 104, 101, 114, 32, 107, 105, 110, 100]⟩] 249, .cells #[.string ⟨#[116, 104, 101, 32, 112, 111, 119, 101, 114, 32, 104, 97, 115, 32, 102, 97, 105, 108, 101, 100]⟩] 249, .cells #[.string ⟨#[110, 111, 116, 32, 97, 32, 115, 116, 111, 114, 101]⟩] 249, .cells #[.string ⟨#[110, 111, 116, 32, 110, 111, 119]⟩] 249, .cells #[.string ⟨#[110, 111, 32, 102, 117, 114, 116, 104, 101, 114, 32, 116, 114, 97, 110, 115, 97, 99, 116, 105, 111, 110, 32, 104, 97, 115, 32, 97, 32, 110, 117, 109, 98, 101, 114]⟩] 249]
noncomputable def low : Nat := (World.holding Tryd.prog default ⟨#[], #[], []⟩).heap.size
/-- The settled world, the thirteen errors laid as the program lays them. -/
noncomputable def laidWorld (os : Os) : World :=
  let w0 := World.holding Tryd.prog os ⟨errObjs, #[], []⟩
  { w0 with heap := (List.range 13).foldl (fun h g => h.modify g fun
      | .cells _ t frozen => .cells #[.iface 232 (.pointer (some ⟨low + g, 0, none⟩))] t frozen
      | o => o) w0.heap }
abbrev wit : Value := .agg #[.slice none 0 0, .slice none 0 0, .slice none 0 0, .slice none 0 0]
end Go.Proofs.YtdkailccfcijiaaDoor
