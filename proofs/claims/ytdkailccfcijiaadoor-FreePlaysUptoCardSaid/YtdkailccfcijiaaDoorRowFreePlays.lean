/- The row and the card of FreePlays, second form: out of the walk. No condition. -/
import Derived.Test.YtdkailccfcijiaaDoorCards
import Derived.Test.YtdkailccfcijiaaDoorTie
import Derived.Test.YtdkailccfcijiaaDoorRf
import Derived.Test.YtdkailccfcijiaaDoorGa
namespace Go.Proofs.YtdkailccfcijiaaDoor.freePlays
open Go.ChangeShapes Go.WideShapes Go.ChangeAt Go.RowKit
set_option linter.unusedVariables false
set_option linter.unusedSimpArgs false
set_option maxRecDepth 100000

def texts : List (String × Nat × List UInt8) := [("copse/api.ErrArg", 2, [97, 32, 110, 117, 109, 98, 101, 114, 32, 111, 114, 32, 97, 110, 32, 97, 114, 103, 117, 109, 101, 110, 116, 32, 105, 115, 32, 111, 117, 116, 32, 111, 102, 32, 105, 116, 115, 32, 112, 108, 97, 99, 101]), ("copse/api.ErrText", 3, [97, 32, 116, 101, 120, 116, 32, 111, 114, 32, 98, 121, 116, 101, 115, 32, 116, 104, 97, 116, 32, 99, 97, 110, 110, 111, 116, 32, 98, 101, 32, 114, 101, 97, 100]), ("copse/api.ErrMany", 4, [97, 98, 111, 118, 101, 32, 97, 32, 108, 105, 109, 105, 116]), ("copse/api.ErrShort", 5, [115, 111, 109, 101, 116, 104, 105, 110, 103, 32, 105, 115, 32, 109, 105, 115, 115, 105, 110, 103]), ("copse/api.ErrTwice", 6, [116, 104, 101, 114, 101, 32, 116, 119, 105, 99, 101]), ("copse/api.ErrLost", 1, [110, 111, 116, 32, 116, 104, 101, 114, 101]), ("copse/api.ErrFull", 7, [110, 111, 32, 114, 111, 111, 109, 32, 111, 110, 32, 116, 104, 101, 32, 100, 101, 118, 105, 99, 101]), ("copse/api.ErrDead", 9, [116, 104, 101, 32, 112, 111, 119, 101, 114, 32, 104, 97, 115, 32, 102, 97, 105, 108, 101, 100]), ("copse/api.ErrCorrupt", 10, [110, 111, 116, 32, 97, 32, 115, 116, 111, 114, 101]), ("copse/api.ErrStatus", 11, [110, 111, 116, 32, 110, 111, 119]), ("copse/api.ErrTxid", 12, [110, 111, 32, 102, 117, 114, 116, 104, 101, 114, 32, 116, 114, 97, 110, 115, 97, 99, 116, 105, 111, 110, 32, 104, 97, 115, 32, 97, 32, 110, 117, 109, 98, 101, 114]), ("copse/api.ErrOrder", 0, [110, 111, 116, 32, 105, 110, 32, 111, 114, 100, 101, 114]), ("copse/api.ErrKind", 8, [111, 102, 32, 97, 110, 111, 116, 104, 101, 114, 32, 107, 105, 110, 100])]
theorem named : ∀ x ∈ texts, Tryd.prog.globalNamed x.1 = some x.2.1 ∧ (Tryd.prog.globals[x.2.1]?).map (·.type) = some 35 := by
  intro x hx
  simp only [texts, List.mem_cons, List.not_mem_nil, or_false] at hx
  rcases hx with rfl | rfl | rfl | rfl | rfl | rfl | rfl | rfl | rfl | rfl | rfl | rfl | rfl <;> exact ⟨by kernel_rfl, by kernel_rfl⟩
theorem places : ∀ g ∈ (all13 : List Nat), (texts[([11, 5, 0, 1, 2, 3, 4, 6, 12, 7, 8, 9, 10] : List Nat).getD g 0]?).map (·.2.1) = some g := by decide
theorem laid2 {W : World} (h : laidMetH Tryd.prog Rows.freePlaysUptoRow.laid W) : laidMet Tryd.prog (("math/bits.deBruijn64tab", .agg (Lib.deBruijn64tab.map fun (x : Nat) => .lit (.int .u8 (x : Int)))) :: texts.map errText) W := h
theorem errs {W : World} (h : laidMetH Tryd.prog Rows.freePlaysUptoRow.laid W) : ∃ E, Errs all13 E W :=
  errs_of_laid texts (laid_tail (laid2 h)) named all13 _ places

theorem contract (H : Type) (enc : TypeId × Value → H) (W : World) (base : Nat) (args : Array Value) (ds gs : List (DataW H)) (before : List MemPlace)
    (hval : ∀ (j : Nat) t v, Tryd.f12.params[j]? = some t → args[j]? = some v → Value.okWide Tryd.prog W .any base t v)
    (hW : DataW.Whole enc Tryd.prog Tryd.f12.params.toList Rows.freePlaysSpec.vars false W args.toList ds gs before) (hcond : Rows.uptoSmall H (ds ++ gs) = true) (hL : laidMetH Tryd.prog Rows.freePlaysUptoRow.laid W) :
    Calls Tryd.prog 12 args W fun e W' => ∃ v, e = .returned v ∧ Rows.freePlaysSpec.post enc Tryd.prog Tryd.f12 false true false false W args v W' := by
  have hW' := hW
  obtain ⟨p, q, hA0, hV, rfl, hfz, hnd⟩ := hW
  have hA : DataW.TrodAll enc Tryd.prog W 0 (fun _ => true) true Tryd.f12.params.toList args.toList ds p := hA0
  rw [Tryd.params12] at hA hval
  obtain ⟨v0, vs0, d0, ds0, p0, q0, hargs, rfl, rfl, h0, r0⟩ := trodAll_cons hA
  obtain ⟨rfl, rfl, rfl⟩ := trodAll_nil r0
  obtain rfl : args = #[v0] := by cases args; simp_all
  obtain ⟨rfl, rfl⟩ := trodVars_none hV
  clear hA0
  simp only [List.append_nil] at hW' hcond
  have hB : Rows.uptoBulk d0 ≤ 1048576 := by
    have := of_decide_eq_true hcond
    simpa [Rows.uptoBulkAll] using this
  obtain ⟨aS, cS, X, pg, ot, rfl, hX, hXB⟩ := open_script (hval 0 75 v0 rfl rfl) h0
  obtain ⟨E, hE⟩ := errs hL
  have hT := table_of_laid (laid2 hL)
  refine (YtdkailccfcijiaaDoor.freePlays E W _ _ _ _ _ _ hE hT hX (hXB hB)).mono fun e W' ⟨he, hb⟩ => ?_
  subst he
  exact ⟨_, rfl, post_below (pa := p0 ++ []) (pv := []) hW' (fun _ _ _ => trodAll_cons_mk (shut_bool Tryd.underlying4 _) trodAll_mk0)
    (fun sp hsp => trodAll_cons_mk (args_againT readable75 lt75 hW' h0 hb (fun p hp => by simpa using hp) hsp) trodAll_mk0) (fun _ _ => rfl) (by simp) hb (ok_one (by kernel_rfl) rfl (okWide_bool_mk Tryd.underlying4 _))⟩

theorem laid_met (os : Os) : laidMet Tryd.prog Rows.freePlaysUptoRow.laid ((laidWorldT os).forCall (fun _ _ => 0) ⟨#[], #[witS], []⟩).memory :=
  laidMet_of_run' 8 (by kernel_rfl) (by kernel_rfl)
theorem reads (os : Os) {H : Type} (enc : TypeId × Value → H) : ∃ ds places, DataW.whole enc Tryd.prog ((laidWorldT os).forCall (fun _ _ => 0) ⟨#[], #[witS], []⟩).memory Tryd.f12.params.toList Rows.freePlaysSpec.vars false #[witS].toList 8 = some (ds, [], places) ∧ Rows.uptoSmall H (ds ++ []) = true :=
  ⟨[.agg [.lit (.int .i64 0), .lit (.int .i64 0), .nil]], [], by kernel_rfl, by kernel_rfl⟩

theorem lifted (os : Os) (started : os.Started) (H : Type) (enc : TypeId × Value → H) (F : Stop.Interp) :
    ReturnsInHanded {} Tryd.checked os 12 .any ((Rows.OpenSpec.upto Rows.freePlaysSpec).preRow enc Tryd.prog Tryd.f12 Rows.freePlaysUptoRow.domain false Rows.freePlaysUptoRow.laid) (((Rows.OpenSpec.upto Rows.freePlaysSpec).at F).post enc Tryd.prog Tryd.f12 false true false false) := by
  obtain ⟨ds, places, hx, hsm⟩ := reads os enc
  refine returnsInHanded_of_row (C := Tryd.checked) (s := Rows.OpenSpec.upto Rows.freePlaysSpec) own started (by kernel_rfl) Tryd.func12
    (witness_row_at (enc := enc) (C := Tryd.checked) false (laidWorldT os) #[witS] rfl (by kernel_rfl) (by kernel_rfl) (by kernel_rfl)
      (OpenSpec.preRow_of_cond 8 hx (by kernel_rfl) (fun k hk => by cases hk; exact hsm) (by kernel_rfl) (laid_met os))) ?_
  intro W base args ds gs before hval hW _ hcond _ hL _ _
  exact contract H enc W base args ds gs before hval hW (hcond _ rfl) hL
theorem said : Rows.FreePlaysUptoSaid :=
  OpenClaim.holds_of_cond 12 Tryd.f12 rfl rfl rfl rfl rfl rfl rfl ⟨rfl, rfl, rfl, rfl, rfl⟩ rfl rfl rfl rfl rfl (by kernel_rfl) Tryd.func12 (by kernel_rfl)
    (of_decide_eq_true (by kernel_rfl)) (by unfold Func.isWrapper; first | (rw [if_pos (by decide +kernel)]; kernel_rfl) | (rw [if_neg (by decide +kernel)]; exact ⟨rfl, rfl⟩))
    (fun os started H enc _ F => by rw [OpenClaim.pre_eq_preRow]; exact lifted os started H enc F)
theorem plain (f : FuncId) (fn : Func) (hf : Tryd.pinned.checked.prog.funcNamed "copse/copselaw9.FreePlays" = some f) (hfn : Tryd.pinned.checked.prog.funcs[f]? = some fn) :
    true = Tryd.pinned.checked.prog.looks [] ∧ ∀ (j : Nat) t, fn.params[j]? = some t → Tryd.pinned.checked.prog.wantsStandIn t = false := by
  obtain rfl : f = 12 := Option.some.inj ((show Tryd.prog.funcNamed "copse/copselaw9.FreePlays" = some 12 by kernel_rfl).symm.trans hf) |>.symm
  obtain rfl : fn = Tryd.f12 := (Option.some.inj (Tryd.func12.symm.trans hfn)).symm
  refine ⟨by kernel_rfl, fun j t ht => ?_⟩
  rw [Tryd.params12] at ht
  obtain rfl : t = 75 := by simpa using Array.mem_of_getElem? ht
  exact (show Tryd.prog.wantsStandIn 75 = false by kernel_rfl)
theorem cardUpto : Rows.FreePlaysUptoCardSaid :=
  Claim7.holds_tied_plain_at .later [] _ _ _ _ said (fun _ h => by cases h) (by kernel_rfl) (fun _ h => by cases h) freePlaysUpto_row_tie rfl ⟨rfl, rfl⟩ (by kernel_rfl) rfl plain (by kernel_rfl)
end Go.Proofs.YtdkailccfcijiaaDoor.freePlays
