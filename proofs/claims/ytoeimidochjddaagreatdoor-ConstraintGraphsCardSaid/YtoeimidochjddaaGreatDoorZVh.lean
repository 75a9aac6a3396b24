/- The law ConstraintGraphs answers true for every input and leaves its argument as it was; no condition but the row's own. -/
import Derived.Test.YtoeimidochjddaaGreatDoorZV
import Derived.Test.YtoeimidochjddaaGreatDoorZZ
import Derived.Test.YtoeimidochjddaaGreatDoorZY
import Derived.Test.YtoeimidochjddaaGreatDoorVhj
import Derived.Test.YtoeimidochjddaaGreatDoorCards
import Derived.Test.YtoeimidochjddaaGreatDoorTie
set_option linter.unusedSimpArgs false
set_option linter.unusedVariables false
set_option linter.unnecessarySimpa false
/- The law ConstraintGraphs answers true for every input and leaves its argument as it was; no condition but the row's own. -/
namespace Go.Proofs.YtoeimidochjddaaGreatDoor
open Go.RowKit Go.ChangeShapes Go.WideShapes
set_option maxRecDepth 100000
def constraintGraphs_reads (H : Type) : List (DataW H) × List (DataW H) × List MemPlace := ([.agg [.agg [.lit (.int .u32 0), .nil], .nil, .nil]], [], [])
theorem constraintGraphs_contract (H : Type) (enc : TypeId × Value → H) (W : World) (base : Nat) (args : Array Value) (ds gs : List (DataW H)) (before : List MemPlace)
    (hval : ∀ (j : Nat) t v, Tryz.f3.params[j]? = some t → args[j]? = some v → Value.okWide Tryz.prog W .any base t v)
    (hW : DataW.Whole enc Tryz.prog Tryz.f3.params.toList Rows.constraintGraphsSpec.vars false W args.toList ds gs before)
    (hsz0 : (DataW.weightsEach Tryz.prog (Tryz.f3.params.toList ++ (OpenSpec.ofChange Rows.constraintGraphsSpec).bare.plain.varTypes Tryz.prog) (ds ++ gs)).all (· ≤ reachBytes) = true) (hG : GbIs W) :
    Calls Tryz.prog 3 args W fun e W' => ∃ v, e = .returned v ∧ Rows.constraintGraphsSpec.post enc Tryz.prog Tryz.f3 false true false false W args v W' := by
  have hW' := hW
  obtain ⟨p, q, hA0, hV, rfl, _, _⟩ := hW
  have hA : DataW.TrodAll enc Tryz.prog W 0 (fun _ => true) true Tryz.f3.params.toList args.toList ds p := hA0
  rw [Tryz.params3] at hA hval
  obtain ⟨v0, d0, rfl, rfl, h0⟩ := trodAll_one hA
  have hz : ∀ n ∈ DataW.weights Tryz.prog 29 d0, n ≤ reachBytes := fun n hn => by
    have := List.all_eq_true.1 hsz0 n (DataW.weights_mem_each (j := 0) (t := 29) (d := d0) (by rw [Tryz.params3]; rfl) rfl n hn)
    simpa using this
  obtain ⟨x, hfx, hx⟩ := arg_ssa (hval 0 29 v0 rfl rfl) h0 hz
  have hargs : ArgL W [ssV x] [v0] := .cons hx (.nil W)
  refine (lawgraphs32_af x hfx (fun _ => False) W _ (hok_of hG) hargs.shp hargs.mem).mono ?_
  rintro e W' ⟨v, rfl, hv, hx⟩
  obtain rfl : v = .bool true := by simpa [Shp] using hv.1
  exact ⟨_, rfl, post_true (by kernel_rfl) (by kernel_rfl) rfl (tb := 4) (by kernel_rfl) Tryz.underlying4 hW' (fun h => by subst h; rfl) hx⟩
theorem constraintGraphs_lifted (os : Os) (started : os.Started) (H : Type) (enc : TypeId × Value → H) (F : Stop.Interp) :
    ReturnsInHanded {} Tryz.checked os 3 .any ((OpenSpec.ofChange Rows.constraintGraphsSpec).preRow enc Tryz.prog Tryz.f3 Rows.constraintGraphsRow.domain false Rows.constraintGraphsRow.laid) (((OpenSpec.ofChange Rows.constraintGraphsSpec).at F).post enc Tryz.prog Tryz.f3 false true false false) := by
  refine returnsInHanded_of_row (C := Tryz.checked) (s := OpenSpec.ofChange Rows.constraintGraphsSpec) (by kernel_rfl) started (by kernel_rfl) Tryz.func3
    (witness_laid (enc := enc) (C := Tryz.checked) (laid := Rows.constraintGraphsRow.laid) #[.agg #[.int .u32 0, .slice none 0 0, .slice none 0 0, .slice none 0 0]]
      (World.shaped_of_ZipB (by kernel_rfl) (by kernel_rfl)) (by kernel_rfl)
      (OpenSpec.preRow_of_cond 9 (x := constraintGraphs_reads H) (by kernel_rfl) (by kernel_rfl) (fun k hk => by cases hk) (by kernel_rfl) (laidMet_laidAll _ (by kernel_rfl) (by kernel_rfl)))) ?_
  intro W base args ds gs before hval hW _ hcond hsz hL _ _
  exact constraintGraphs_contract H enc W base args ds gs before hval hW hsz (gb_ofC (by kernel_rfl) (by kernel_rfl) hL)
theorem constraintGraphs_said : Rows.ConstraintGraphsSaid :=
  OpenClaim.holds_of_cond 3 Tryz.f3 rfl rfl rfl rfl rfl rfl rfl ⟨rfl, rfl, rfl, rfl, rfl⟩ rfl rfl rfl rfl rfl (by kernel_rfl) Tryz.func3 constraintGraphs_joined
    (of_decide_eq_true (by kernel_rfl)) (by unfold Func.isWrapper; first | (rw [if_pos (by decide +kernel)]; kernel_rfl) | (rw [if_neg (by decide +kernel)]; exact ⟨rfl, rfl⟩))
    (fun os started H enc _ F => by rw [OpenClaim.pre_eq_preRow]; exact constraintGraphs_lifted os started H enc F)
theorem constraintGraphs_plain (f : FuncId) (fn : Func) (hf : Tryz.pinned.checked.prog.funcNamed Rows.constraintGraphsRow.func = some f) (hfn : Tryz.pinned.checked.prog.funcs[f]? = some fn) :
    false = Tryz.pinned.checked.prog.looks [] ∧ ∀ (j : Nat) t, fn.params[j]? = some t → Tryz.pinned.checked.prog.wantsStandIn t = false := by
  obtain rfl : f = 3 := Option.some.inj ((show Tryz.prog.funcNamed Rows.constraintGraphsRow.func = some 3 by kernel_rfl).symm.trans hf) |>.symm
  obtain rfl : fn = Tryz.f3 := (Option.some.inj (Tryz.func3.symm.trans hfn)).symm
  refine ⟨by kernel_rfl, fun j t ht => ?_⟩
  have h : (Tryz.f3.params.all fun t => !Tryz.prog.wantsStandIn t) = true := by kernel_rfl
  have := Array.all_eq_true'.1 h t (Array.mem_of_getElem? ht)
  show Tryz.prog.wantsStandIn t = false
  simpa using this
theorem constraintGraphs_holds : Rows.ConstraintGraphsCardSaid :=
  Claim7.holds_tied_plain_at .later [] _ _ _ _ constraintGraphs_said (fun _ h => by cases h) (by as_aux_lemma => kernel_rfl) (fun _ h => by cases h) constraintGraphs_row_tie rfl ⟨rfl, rfl⟩ (by as_aux_lemma => kernel_rfl) rfl constraintGraphs_plain (by as_aux_lemma => kernel_rfl)
end Go.Proofs.YtoeimidochjddaaGreatDoor
