/- The law IlCheckExpr answers true for every input and leaves its argument as it was; no condition but the row's own. -/
import Derived.Test.YtfndoocgpmgalaaDoorZP
import Derived.Test.YtfndoocgpmgalaaDoorWg
import Derived.Test.YtfndoocgpmgalaaDoorCards
import Derived.Test.YtfndoocgpmgalaaDoorTie
set_option linter.unusedSimpArgs false
set_option linter.unusedVariables false
set_option linter.unnecessarySimpa false
/- The law IlCheckExpr answers true for every input and leaves its argument as it was; no condition but the row's own. -/
namespace Go.Proofs.YtfndoocgpmgalaaDoor
open Go.RowKit Go.ChangeShapes Go.WideShapes
set_option maxRecDepth 100000
def ilCheckExpr_reads (H : Type) : List (DataW H) × List (DataW H) × List MemPlace := ([exLit H], [], [])
theorem ilCheckExpr_contract (H : Type) (enc : TypeId × Value → H) (W : World) (base : Nat) (args : Array Value) (ds gs : List (DataW H)) (before : List MemPlace)
    (hval : ∀ (j : Nat) t v, Tryd.f3.params[j]? = some t → args[j]? = some v → Value.okWide Tryd.prog W .any base t v)
    (hW : DataW.Whole enc Tryd.prog Tryd.f3.params.toList Rows.ilCheckExprSpec.vars false W args.toList ds gs before) (hG : GbIs W) :
    Calls Tryd.prog 3 args W fun e W' => ∃ v, e = .returned v ∧ Rows.ilCheckExprSpec.post enc Tryd.prog Tryd.f3 false true false false W args v W' := by
  have hW' := hW
  obtain ⟨p, q, hA0, hV, rfl, _, _⟩ := hW
  have hA : DataW.TrodAll enc Tryd.prog W 0 (fun _ => true) true Tryd.f3.params.toList args.toList ds p := hA0
  rw [Tryd.params3] at hA hval
  obtain ⟨v0, d0, rfl, rfl, h0⟩ := trodAll_one hA
  obtain ⟨x, _, _, hx⟩ := arg_ex (hval 0 25 v0 rfl rfl) h0
  have hargs : ArgL W [exA x] [v0] := .cons hx (.nil W)
  refine (lawcheck19_af x (fun _ => False) W _ (hok_of hG) hargs.shp hargs.mem).mono ?_
  rintro e W' ⟨v, rfl, hv, hx⟩
  obtain rfl : v = .bool true := by simpa [Shp] using hv.1
  exact ⟨_, rfl, post_true (by kernel_rfl) (by kernel_rfl) rfl (tb := 4) (by kernel_rfl) Tryd.underlying4 hW' (fun h => by subst h; rfl) hx⟩
theorem ilCheckExpr_lifted (os : Os) (started : os.Started) (H : Type) (enc : TypeId × Value → H) (F : Stop.Interp) :
    ReturnsInHanded {} Tryd.checked os 3 .any ((OpenSpec.ofChange Rows.ilCheckExprSpec).preRow enc Tryd.prog Tryd.f3 Rows.ilCheckExprRow.domain false Rows.ilCheckExprRow.laid) (((OpenSpec.ofChange Rows.ilCheckExprSpec).at F).post enc Tryd.prog Tryd.f3 false true false false) := by
  refine returnsInHanded_of_row (C := Tryd.checked) (s := OpenSpec.ofChange Rows.ilCheckExprSpec) (by kernel_rfl) started (by kernel_rfl) Tryd.func3
    (witness_laid (enc := enc) (C := Tryd.checked) (laid := Rows.ilCheckExprRow.laid) #[.agg #[.int .i64 0, .int .u32 0, .int .i64 0, .int .i64 0, .slice none 0 0]]
      (World.shaped_of_ZipB (by kernel_rfl) (by kernel_rfl)) (by kernel_rfl)
      (OpenSpec.preRow_of_cond 9 (x := ilCheckExpr_reads H) (by kernel_rfl) (by kernel_rfl) (fun k hk => by cases hk) (by kernel_rfl) (laidMet_laidAll _ (by kernel_rfl) (by kernel_rfl)))) ?_
  intro W base args ds gs before hval hW _ hcond _ hL _ _
  exact ilCheckExpr_contract H enc W base args ds gs before hval hW (gb_ofB (by kernel_rfl) hL)
theorem ilCheckExpr_said : Rows.IlCheckExprSaid :=
  OpenClaim.holds_of_cond 3 Tryd.f3 rfl rfl rfl rfl rfl rfl rfl ⟨rfl, rfl, rfl, rfl, rfl⟩ rfl rfl rfl rfl rfl (by kernel_rfl) Tryd.func3 (by kernel_rfl)
    (of_decide_eq_true (by kernel_rfl)) (by unfold Func.isWrapper; first | (rw [if_pos (by decide +kernel)]; kernel_rfl) | (rw [if_neg (by decide +kernel)]; exact ⟨rfl, rfl⟩))
    (fun os started H enc _ F => by rw [OpenClaim.pre_eq_preRow]; exact ilCheckExpr_lifted os started H enc F)
theorem ilCheckExpr_plain (f : FuncId) (fn : Func) (hf : Tryd.pinned.checked.prog.funcNamed Rows.ilCheckExprRow.func = some f) (hfn : Tryd.pinned.checked.prog.funcs[f]? = some fn) :
    false = Tryd.pinned.checked.prog.looks [] ∧ ∀ (j : Nat) t, fn.params[j]? = some t → Tryd.pinned.checked.prog.wantsStandIn t = false := by
  obtain rfl : f = 3 := Option.some.inj ((show Tryd.prog.funcNamed Rows.ilCheckExprRow.func = some 3 by kernel_rfl).symm.trans hf) |>.symm
  obtain rfl : fn = Tryd.f3 := (Option.some.inj (Tryd.func3.symm.trans hfn)).symm
  refine ⟨by kernel_rfl, fun j t ht => ?_⟩
  have h : (Tryd.f3.params.all fun t => !Tryd.prog.wantsStandIn t) = true := by kernel_rfl
  have := Array.all_eq_true'.1 h t (Array.mem_of_getElem? ht)
  show Tryd.prog.wantsStandIn t = false
  simpa using this
theorem ilCheckExpr_holds : Rows.IlCheckExprCardSaid :=
  Claim7.holds_tied_plain_at .later [] _ _ _ _ ilCheckExpr_said (fun _ h => by cases h) (by kernel_rfl) (fun _ h => by cases h) ilCheckExpr_row_tie rfl ⟨rfl, rfl⟩ (by kernel_rfl) rfl ilCheckExpr_plain (by kernel_rfl)
end Go.Proofs.YtfndoocgpmgalaaDoor
