/- The law IdiomNames answers true for every input and leaves its argument as it was; no condition but the row's own. -/
import Derived.Test.YtlfkighdmheniaaDoorZJ
import Derived.Test.YtlfkighdmheniaaDoorZW
import Derived.Test.YtlfkighdmheniaaDoorCards
import Derived.Test.YtlfkighdmheniaaDoorTie
set_option linter.unusedSimpArgs false
set_option linter.unusedVariables false
set_option linter.unnecessarySimpa false
/- The law IdiomNames answers true for every input and leaves its argument as it was; no condition but the row's own. -/
namespace Go.Proofs.YtlfkighdmheniaaDoor
open Go.RowKit Go.ChangeShapes Go.WideShapes
set_option maxRecDepth 100000
def idiomNames_reads (H : Type) : List (DataW H) × List (DataW H) × List MemPlace := ([exLit H], [], [])
theorem idiomNames_contract (H : Type) (enc : TypeId × Value → H) (W : World) (base : Nat) (args : Array Value) (ds gs : List (DataW H)) (before : List MemPlace)
    (hval : ∀ (j : Nat) t v, Tryd.f8.params[j]? = some t → args[j]? = some v → Value.okWide Tryd.prog W .any base t v)
    (hW : DataW.Whole enc Tryd.prog Tryd.f8.params.toList Rows.idiomNamesSpec.vars false W args.toList ds gs before) (hG : GbIs W) :
    Calls Tryd.prog 8 args W fun e W' => ∃ v, e = .returned v ∧ Rows.idiomNamesSpec.post enc Tryd.prog Tryd.f8 false true false false W args v W' := by
  have hW' := hW
  obtain ⟨p, q, hA0, hV, rfl, _, _⟩ := hW
  have hA : DataW.TrodAll enc Tryd.prog W 0 (fun _ => true) true Tryd.f8.params.toList args.toList ds p := hA0
  rw [Tryd.params8] at hA hval
  obtain ⟨v0, d0, rfl, rfl, h0⟩ := trodAll_one hA
  obtain ⟨x, _, _, hx⟩ := arg_ex (hval 0 25 v0 rfl rfl) h0
  have hargs : ArgL W [exA x] [v0] := .cons hx (.nil W)
  refine (lawnames_af x (fun _ => False) W _ (hok_of hG) hargs.shp hargs.mem).mono ?_
  rintro e W' ⟨v, rfl, hv, hx⟩
  obtain rfl : v = .bool true := by simpa [Shp] using hv.1
  exact ⟨_, rfl, post_true (by kernel_rfl) (by kernel_rfl) rfl (tb := 4) (by kernel_rfl) Tryd.underlying4 hW' (fun h => by subst h; rfl) hx⟩
theorem idiomNames_lifted (os : Os) (started : os.Started) (H : Type) (enc : TypeId × Value → H) (F : Stop.Interp) :
    ReturnsInHanded {} Tryd.checked os 8 .any ((OpenSpec.ofChange Rows.idiomNamesSpec).preRow enc Tryd.prog Tryd.f8 Rows.idiomNamesRow.domain false Rows.idiomNamesRow.laid) (((OpenSpec.ofChange Rows.idiomNamesSpec).at F).post enc Tryd.prog Tryd.f8 false true false false) := by
  refine returnsInHanded_of_row (C := Tryd.checked) (s := OpenSpec.ofChange Rows.idiomNamesSpec) (by kernel_rfl) started (by kernel_rfl) Tryd.func8
    (witness_laid (enc := enc) (C := Tryd.checked) (laid := Rows.idiomNamesRow.laid) #[.agg #[.int .i64 0, .int .u32 0, .int .i64 0, .int .i64 0, .slice none 0 0]]
      (World.shaped_of_ZipB (by kernel_rfl) (by kernel_rfl)) (by kernel_rfl)
      (OpenSpec.preRow_of_cond 9 (x := idiomNames_reads H) (by kernel_rfl) (by kernel_rfl) (fun k hk => by cases hk) (by kernel_rfl) (laidMet_laidAll _ (by kernel_rfl) (by kernel_rfl)))) ?_
  intro W base args ds gs before hval hW _ hcond _ hL _ _
  exact idiomNames_contract H enc W base args ds gs before hval hW (gb_of (by kernel_rfl) hL)
theorem idiomNames_said : Rows.IdiomNamesSaid :=
  OpenClaim.holds_of_cond 8 Tryd.f8 rfl rfl rfl rfl rfl rfl rfl ⟨rfl, rfl, rfl, rfl, rfl⟩ rfl rfl rfl rfl rfl (by kernel_rfl) Tryd.func8 (by kernel_rfl)
    (of_decide_eq_true (by kernel_rfl)) (by unfold Func.isWrapper; first | (rw [if_pos (by decide +kernel)]; kernel_rfl) | (rw [if_neg (by decide +kernel)]; exact ⟨rfl, rfl⟩))
    (fun os started H enc _ F => by rw [OpenClaim.pre_eq_preRow]; exact idiomNames_lifted os started H enc F)
theorem idiomNames_plain (f : FuncId) (fn : Func) (hf : Tryd.pinned.checked.prog.funcNamed Rows.idiomNamesRow.func = some f) (hfn : Tryd.pinned.checked.prog.funcs[f]? = some fn) :
    false = Tryd.pinned.checked.prog.looks [] ∧ ∀ (j : Nat) t, fn.params[j]? = some t → Tryd.pinned.checked.prog.wantsStandIn t = false := by
  obtain rfl : f = 8 := Option.some.inj ((show Tryd.prog.funcNamed Rows.idiomNamesRow.func = some 8 by kernel_rfl).symm.trans hf) |>.symm
  obtain rfl : fn = Tryd.f8 := (Option.some.inj (Tryd.func8.symm.trans hfn)).symm
  refine ⟨by kernel_rfl, fun j t ht => ?_⟩
  have h : (Tryd.f8.params.all fun t => !Tryd.prog.wantsStandIn t) = true := by kernel_rfl
  have := Array.all_eq_true'.1 h t (Array.mem_of_getElem? ht)
  show Tryd.prog.wantsStandIn t = false
  simpa using this
theorem idiomNames_holds : Rows.IdiomNamesCardSaid :=
  Claim7.holds_tied_plain_at .later [] _ _ _ _ idiomNames_said (fun _ h => by cases h) (by kernel_rfl) (fun _ h => by cases h) idiomNames_row_tie rfl ⟨rfl, rfl⟩ (by kernel_rfl) rfl idiomNames_plain (by kernel_rfl)
end Go.Proofs.YtlfkighdmheniaaDoor
