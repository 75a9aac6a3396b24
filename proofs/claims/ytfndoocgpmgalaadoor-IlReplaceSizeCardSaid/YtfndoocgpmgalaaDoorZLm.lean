/- The law IlReplaceSize answers true for every input and leaves its arguments as they were; no condition but the row's own. -/
import Derived.Test.YtfndoocgpmgalaaDoorZP
import Derived.Test.YtfndoocgpmgalaaDoorWg
import Derived.Test.YtfndoocgpmgalaaDoorCards
import Derived.Test.YtfndoocgpmgalaaDoorTie
set_option linter.unusedSimpArgs false
set_option linter.unusedVariables false
set_option linter.unnecessarySimpa false
/- The law IlReplaceSize answers true for every input and leaves its arguments as they were; no condition but the row's own. -/
namespace Go.Proofs.YtfndoocgpmgalaaDoor
open Go.RowKit Go.ChangeShapes Go.WideShapes
set_option maxRecDepth 100000
def ilReplaceSize_reads (H : Type) : List (DataW H) × List (DataW H) × List MemPlace := ([exLit H, .lit (.int .i64 0), exLit H], [], [])
theorem ilReplaceSize_contract (H : Type) (enc : TypeId × Value → H) (W : World) (base : Nat) (args : Array Value) (ds gs : List (DataW H)) (before : List MemPlace)
    (hval : ∀ (j : Nat) t v, Tryd.f5.params[j]? = some t → args[j]? = some v → Value.okWide Tryd.prog W .any base t v)
    (hW : DataW.Whole enc Tryd.prog Tryd.f5.params.toList Rows.ilReplaceSizeSpec.vars false W args.toList ds gs before) (hG : GbIs W) :
    Calls Tryd.prog 5 args W fun e W' => ∃ v, e = .returned v ∧ Rows.ilReplaceSizeSpec.post enc Tryd.prog Tryd.f5 false true false false W args v W' := by
  have hW' := hW
  obtain ⟨p, q, hA0, hV, rfl, _, _⟩ := hW
  have hA : DataW.TrodAll enc Tryd.prog W 0 (fun _ => true) true Tryd.f5.params.toList args.toList ds p := hA0
  rw [Tryd.params5] at hA hval
  obtain ⟨v0, v1, v2, d0, d1, d2, p0, p1, p2, rfl, rfl, rfl, h0, h1, h2⟩ := trodAll_three hA
  obtain ⟨x, xf, _, hx⟩ := arg_ex (hval 0 25 v0 rfl rfl) h0
  obtain ⟨n, rfl, rfl, rfl, wn⟩ := open_int Tryd.underlying3 (hval 1 3 v1 rfl rfl) h1
  obtain ⟨y, yf, _, hy⟩ := arg_ex (hval 2 25 v2 rfl rfl) h2
  have hargs : ArgL W [exA x, aI .i64 n, exA y] [v0, .int .i64 n, v2] := .cons hx (.cons (arg_v rfl) (.cons hy (.nil W)))
  refine (lawrsize19_af x y n (fun _ => False) W _ (hok_of hG) hargs.shp hargs.mem).mono ?_
  rintro e W' ⟨v, rfl, hv, hx⟩
  obtain rfl : v = .bool true := by simpa [Shp] using hv.1
  exact ⟨_, rfl, post_true (by kernel_rfl) (by kernel_rfl) rfl (tb := 4) (by kernel_rfl) Tryd.underlying4 hW' (fun h => by subst h; rfl) hx⟩
theorem ilReplaceSize_lifted (os : Os) (started : os.Started) (H : Type) (enc : TypeId × Value → H) (F : Stop.Interp) :
    ReturnsInHanded {} Tryd.checked os 5 .any ((OpenSpec.ofChange Rows.ilReplaceSizeSpec).preRow enc Tryd.prog Tryd.f5 Rows.ilReplaceSizeRow.domain false Rows.ilReplaceSizeRow.laid) (((OpenSpec.ofChange Rows.ilReplaceSizeSpec).at F).post enc Tryd.prog Tryd.f5 false true false false) := by
  refine returnsInHanded_of_row (C := Tryd.checked) (s := OpenSpec.ofChange Rows.ilReplaceSizeSpec) (by kernel_rfl) started (by kernel_rfl) Tryd.func5
    (witness_laid (enc := enc) (C := Tryd.checked) (laid := Rows.ilReplaceSizeRow.laid) #[.agg #[.int .i64 0, .int .u32 0, .int .i64 0, .int .i64 0, .slice none 0 0], .int .i64 0, .agg #[.int .i64 0, .int .u32 0, .int .i64 0, .int .i64 0, .slice none 0 0]]
      (World.shaped_of_ZipB (by kernel_rfl) (by kernel_rfl)) (by kernel_rfl)
      (OpenSpec.preRow_of_cond 9 (x := ilReplaceSize_reads H) (by kernel_rfl) (by kernel_rfl) (fun k hk => by cases hk) (by kernel_rfl) (laidMet_laidAll _ (by kernel_rfl) (by kernel_rfl)))) ?_
  intro W base args ds gs before hval hW _ hcond _ hL _ _
  exact ilReplaceSize_contract H enc W base args ds gs before hval hW (gb_ofB (by kernel_rfl) hL)
theorem ilReplaceSize_said : Rows.IlReplaceSizeSaid :=
  OpenClaim.holds_of_cond 5 Tryd.f5 rfl rfl rfl rfl rfl rfl rfl ⟨rfl, rfl, rfl, rfl, rfl⟩ rfl rfl rfl rfl rfl (by kernel_rfl) Tryd.func5 (by kernel_rfl)
    (of_decide_eq_true (by kernel_rfl)) (by unfold Func.isWrapper; first | (rw [if_pos (by decide +kernel)]; kernel_rfl) | (rw [if_neg (by decide +kernel)]; exact ⟨rfl, rfl⟩))
    (fun os started H enc _ F => by rw [OpenClaim.pre_eq_preRow]; exact ilReplaceSize_lifted os started H enc F)
theorem ilReplaceSize_plain (f : FuncId) (fn : Func) (hf : Tryd.pinned.checked.prog.funcNamed Rows.ilReplaceSizeRow.func = some f) (hfn : Tryd.pinned.checked.prog.funcs[f]? = some fn) :
    false = Tryd.pinned.checked.prog.looks [] ∧ ∀ (j : Nat) t, fn.params[j]? = some t → Tryd.pinned.checked.prog.wantsStandIn t = false := by
  obtain rfl : f = 5 := Option.some.inj ((show Tryd.prog.funcNamed Rows.ilReplaceSizeRow.func = some 5 by kernel_rfl).symm.trans hf) |>.symm
  obtain rfl : fn = Tryd.f5 := (Option.some.inj (Tryd.func5.symm.trans hfn)).symm
  refine ⟨by kernel_rfl, fun j t ht => ?_⟩
  have h : (Tryd.f5.params.all fun t => !Tryd.prog.wantsStandIn t) = true := by kernel_rfl
  have := Array.all_eq_true'.1 h t (Array.mem_of_getElem? ht)
  show Tryd.prog.wantsStandIn t = false
  simpa using this
theorem ilReplaceSize_holds : Rows.IlReplaceSizeCardSaid :=
  Claim7.holds_tied_plain_at .later [] _ _ _ _ ilReplaceSize_said (fun _ h => by cases h) (by kernel_rfl) (fun _ h => by cases h) ilReplaceSize_row_tie rfl ⟨rfl, rfl⟩ (by kernel_rfl) rfl ilReplaceSize_plain (by kernel_rfl)
end Go.Proofs.YtfndoocgpmgalaaDoor
