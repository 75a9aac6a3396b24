/- The law SimplifyGraph answers true for every input and leaves its argument as it was; no condition but the row's own. -/
import Derived.Test.YtlidimmfpfockaaGreatDoorZR
import Derived.Test.YtlidimmfpfockaaGreatDoorZY
import Derived.Test.YtlidimmfpfockaaGreatDoorLxj
import Derived.Test.YtlidimmfpfockaaGreatDoorCards
import Derived.Test.YtlidimmfpfockaaGreatDoorTie
set_option linter.unusedSimpArgs false
set_option linter.unusedVariables false
set_option linter.unnecessarySimpa false
/- The law SimplifyGraph answers true for every input and leaves its argument as it was; no condition but the row's own. -/
namespace Go.Proofs.YtlidimmfpfockaaGreatDoor
open Go.RowKit Go.ChangeShapes Go.WideShapes
set_option maxRecDepth 100000
def simplifyGraph_reads (H : Type) : List (DataW H) × List (DataW H) × List MemPlace := ([grLit H], [], [])
theorem simplifyGraph_contract (H : Type) (enc : TypeId × Value → H) (W : World) (base : Nat) (args : Array Value) (ds gs : List (DataW H)) (before : List MemPlace)
    (hval : ∀ (j : Nat) t v, Tryz.f9.params[j]? = some t → args[j]? = some v → Value.okWide Tryz.prog W .any base t v)
    (hW : DataW.Whole enc Tryz.prog Tryz.f9.params.toList Rows.simplifyGraphSpec.vars false W args.toList ds gs before) (hG : GbIs W) :
    Calls Tryz.prog 9 args W fun e W' => ∃ v, e = .returned v ∧ Rows.simplifyGraphSpec.post enc Tryz.prog Tryz.f9 false true false false W args v W' := by
  have hW' := hW
  obtain ⟨p, q, hA0, hV, rfl, _, _⟩ := hW
  have hA : DataW.TrodAll enc Tryz.prog W 0 (fun _ => true) true Tryz.f9.params.toList args.toList ds p := hA0
  rw [Tryz.params9] at hA hval
  obtain ⟨v0, d0, rfl, rfl, h0⟩ := trodAll_one hA
  obtain ⟨x, xf, hx⟩ := arg_grF (hval 0 33 v0 rfl rfl) h0
  have hargs : ArgL W [grV x] [v0] := .cons hx (.nil W)
  refine (lawgraph22_af x xf (fun _ => False) W _ (hok_of hG) hargs.shp hargs.mem).mono ?_
  rintro e W' ⟨v, rfl, hv, hx⟩
  obtain rfl : v = .bool true := by simpa [Shp] using hv.1
  exact ⟨_, rfl, post_true (by kernel_rfl) (by kernel_rfl) rfl (tb := 4) (by kernel_rfl) Tryz.underlying4 hW' (fun h => by subst h; rfl) hx⟩
theorem simplifyGraph_lifted (os : Os) (started : os.Started) (H : Type) (enc : TypeId × Value → H) (F : Stop.Interp) :
    ReturnsInHanded {} Tryz.checked os 9 .any ((OpenSpec.ofChange Rows.simplifyGraphSpec).preRow enc Tryz.prog Tryz.f9 Rows.simplifyGraphRow.domain false Rows.simplifyGraphRow.laid) (((OpenSpec.ofChange Rows.simplifyGraphSpec).at F).post enc Tryz.prog Tryz.f9 false true false false) := by
  refine returnsInHanded_of_row (C := Tryz.checked) (s := OpenSpec.ofChange Rows.simplifyGraphSpec) (by kernel_rfl) started (by kernel_rfl) Tryz.func9
    (witness_laid (enc := enc) (C := Tryz.checked) (laid := Rows.simplifyGraphRow.laid) #[.agg #[.int .u32 0, .slice none 0 0]]
      (World.shaped_of_ZipB (by kernel_rfl) (by kernel_rfl)) (by kernel_rfl)
      (OpenSpec.preRow_of_cond 9 (x := simplifyGraph_reads H) (by kernel_rfl) (by kernel_rfl) (fun k hk => by cases hk) (by kernel_rfl) (laidMet_laidAll _ (by kernel_rfl) (by kernel_rfl)))) ?_
  intro W base args ds gs before hval hW _ hcond _ hL _ _
  exact simplifyGraph_contract H enc W base args ds gs before hval hW (gb_ofC (by kernel_rfl) (by kernel_rfl) hL)
theorem simplifyGraph_said : Rows.SimplifyGraphSaid :=
  OpenClaim.holds_of_cond 9 Tryz.f9 rfl rfl rfl rfl rfl rfl rfl ⟨rfl, rfl, rfl, rfl, rfl⟩ rfl rfl rfl rfl rfl (by kernel_rfl) Tryz.func9 simplifyGraph_joined
    (of_decide_eq_true (by kernel_rfl)) (by unfold Func.isWrapper; first | (rw [if_pos (by decide +kernel)]; kernel_rfl) | (rw [if_neg (by decide +kernel)]; exact ⟨rfl, rfl⟩))
    (fun os started H enc _ F => by rw [OpenClaim.pre_eq_preRow]; exact simplifyGraph_lifted os started H enc F)
theorem simplifyGraph_plain (f : FuncId) (fn : Func) (hf : Tryz.pinned.checked.prog.funcNamed Rows.simplifyGraphRow.func = some f) (hfn : Tryz.pinned.checked.prog.funcs[f]? = some fn) :
    false = Tryz.pinned.checked.prog.looks [] ∧ ∀ (j : Nat) t, fn.params[j]? = some t → Tryz.pinned.checked.prog.wantsStandIn t = false := by
  obtain rfl : f = 9 := Option.some.inj ((show Tryz.prog.funcNamed Rows.simplifyGraphRow.func = some 9 by kernel_rfl).symm.trans hf) |>.symm
  obtain rfl : fn = Tryz.f9 := (Option.some.inj (Tryz.func9.symm.trans hfn)).symm
  refine ⟨by kernel_rfl, fun j t ht => ?_⟩
  have h : (Tryz.f9.params.all fun t => !Tryz.prog.wantsStandIn t) = true := by kernel_rfl
  have := Array.all_eq_true'.1 h t (Array.mem_of_getElem? ht)
  show Tryz.prog.wantsStandIn t = false
  simpa using this
theorem simplifyGraph_holds : Rows.SimplifyGraphCardSaid :=
  Claim7.holds_tied_plain_at .later [] _ _ _ _ simplifyGraph_said (fun _ h => by cases h) (by as_aux_lemma => kernel_rfl) (fun _ h => by cases h) simplifyGraph_row_tie rfl ⟨rfl, rfl⟩ (by as_aux_lemma => kernel_rfl) rfl simplifyGraph_plain (by as_aux_lemma => kernel_rfl)
end Go.Proofs.YtlidimmfpfockaaGreatDoor
