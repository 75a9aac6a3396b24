/- The law ConstraintComplete answers true for every input and leaves its argument as it was; no condition but the row's own. -/
import Derived.Test.YtoeimidochjddaaDoorZV
import Derived.Test.YtoeimidochjddaaDoorZZ
import Derived.Test.YtoeimidochjddaaDoorZY
import Derived.Test.YtoeimidochjddaaDoorVgj
import Derived.Test.YtoeimidochjddaaDoorCards
import Derived.Test.YtoeimidochjddaaDoorTie
set_option linter.unusedSimpArgs false
set_option linter.unusedVariables false
set_option linter.unnecessarySimpa false
/- The law ConstraintComplete answers true for every input and leaves its argument as it was; no condition but the row's own. -/
namespace Go.Proofs.YtoeimidochjddaaDoor
open Go.RowKit Go.ChangeShapes Go.WideShapes
set_option maxRecDepth 100000
def constraintComplete_reads (H : Type) : List (DataW H) × List (DataW H) × List MemPlace := ([.agg [.agg [.lit (.int .u32 0), .nil], .nil, .nil]], [], [])
theorem constraintComplete_contract (H : Type) (enc : TypeId × Value → H) (W : World) (base : Nat) (args : Array Value) (ds gs : List (DataW H)) (before : List MemPlace)
    (hval : ∀ (j : Nat) t v, Tryd.f3.params[j]? = some t → args[j]? = some v → Value.okWide Tryd.prog W .any base t v)
    (hW : DataW.Whole enc Tryd.prog Tryd.f3.params.toList Rows.constraintCompleteSpec.vars false W args.toList ds gs before)
    (hsz0 : (DataW.weightsEach Tryd.prog (Tryd.f3.params.toList ++ (OpenSpec.ofChange Rows.constraintCompleteSpec).bare.plain.varTypes Tryd.prog) (ds ++ gs)).all (· ≤ reachBytes) = true) (hG : GbIs W) :
    Calls Tryd.prog 3 args W fun e W' => ∃ v, e = .returned v ∧ Rows.constraintCompleteSpec.post enc Tryd.prog Tryd.f3 false true false false W args v W' := by
  have hW' := hW
  obtain ⟨p, q, hA0, hV, rfl, _, _⟩ := hW
  have hA : DataW.TrodAll enc Tryd.prog W 0 (fun _ => true) true Tryd.f3.params.toList args.toList ds p := hA0
  rw [Tryd.params3] at hA hval
  obtain ⟨v0, d0, rfl, rfl, h0⟩ := trodAll_one hA
  have hz : ∀ n ∈ DataW.weights Tryd.prog 29 d0, n ≤ reachBytes := fun n hn => by
    have := List.all_eq_true.1 hsz0 n (DataW.weights_mem_each (j := 0) (t := 29) (d := d0) (by rw [Tryd.params3]; rfl) rfl n hn)
    simpa using this
  obtain ⟨x, hfx, hx⟩ := arg_ssa (hval 0 29 v0 rfl rfl) h0 hz
  have hargs : ArgL W [ssV x] [v0] := .cons hx (.nil W)
  refine (lawcomplete32_af x hfx (fun _ => False) W _ (hok_of hG) hargs.shp hargs.mem).mono ?_
  rintro e W' ⟨v, rfl, hv, hx⟩
  obtain rfl : v = .bool true := by simpa [Shp] using hv.1
  exact ⟨_, rfl, post_true (by kernel_rfl) (by kernel_rfl) rfl (tb := 4) (by kernel_rfl) Tryd.underlying4 hW' (fun h => by subst h; rfl) hx⟩
theorem constraintComplete_lifted (os : Os) (started : os.Started) (H : Type) (enc : TypeId × Value → H) (F : Stop.Interp) :
    ReturnsInHanded {} Tryd.checked os 3 .any ((OpenSpec.ofChange Rows.constraintCompleteSpec).preRow enc Tryd.prog Tryd.f3 Rows.constraintCompleteRow.domain false Rows.constraintCompleteRow.laid) (((OpenSpec.ofChange Rows.constraintCompleteSpec).at F).post enc Tryd.prog Tryd.f3 false true false false) := by
  refine returnsInHanded_of_row (C := Tryd.checked) (s := OpenSpec.ofChange Rows.constraintCompleteSpec) (by kernel_rfl) started (by kernel_rfl) Tryd.func3
    (witness_laid (enc := enc) (C := Tryd.checked) (laid := Rows.constraintCompleteRow.laid) #[.agg #[.int .u32 0, .slice none 0 0, .slice none 0 0, .slice none 0 0]]
      (World.shaped_of_ZipB (by kernel_rfl) (by kernel_rfl)) (by kernel_rfl)
      (OpenSpec.preRow_of_cond 9 (x := constraintComplete_reads H) (by kernel_rfl) (by kernel_rfl) (fun k hk => by cases hk) (by kernel_rfl) (laidMet_laidAll _ (by kernel_rfl) (by kernel_rfl)))) ?_
  intro W base args ds gs before hval hW _ hcond hsz hL _ _
  exact constraintComplete_contract H enc W base args ds gs before hval hW hsz (gb_ofC (by kernel_rfl) (by kernel_rfl) hL)
theorem constraintComplete_said : Rows.ConstraintCompleteSaid :=
  OpenClaim.holds_of_cond 3 Tryd.f3 rfl rfl rfl rfl rfl rfl rfl ⟨rfl, rfl, rfl, rfl, rfl⟩ rfl rfl rfl rfl rfl (by kernel_rfl) Tryd.func3 constraintComplete_joined
    (of_decide_eq_true (by kernel_rfl)) (by unfold Func.isWrapper; first | (rw [if_pos (by decide +kernel)]; kernel_rfl) | (rw [if_neg (by decide +kernel)]; exact ⟨rfl, rfl⟩))
    (fun os started H enc _ F => by rw [OpenClaim.pre_eq_preRow]; exact constraintComplete_lifted os started H enc F)
theorem constraintComplete_plain (f : FuncId) (fn : Func) (hf : Tryd.pinned.checked.prog.funcNamed Rows.constraintCompleteRow.func = some f) (hfn : Tryd.pinned.checked.prog.funcs[f]? = some fn) :
    false = Tryd.pinned.checked.prog.looks [] ∧ ∀ (j : Nat) t, fn.params[j]? = some t → Tryd.pinned.checked.prog.wantsStandIn t = false := by
  obtain rfl : f = 3 := Option.some.inj ((show Tryd.prog.funcNamed Rows.constraintCompleteRow.func = some 3 by kernel_rfl).symm.trans hf) |>.symm
  obtain rfl : fn = Tryd.f3 := (Option.some.inj (Tryd.func3.symm.trans hfn)).symm
  refine ⟨by kernel_rfl, fun j t ht => ?_⟩
  have h : (Tryd.f3.params.all fun t => !Tryd.prog.wantsStandIn t) = true := by kernel_rfl
  have := Array.all_eq_true'.1 h t (Array.mem_of_getElem? ht)
  show Tryd.prog.wantsStandIn t = false
  simpa using this
theorem constraintComplete_holds : Rows.ConstraintCompleteCardSaid :=
  Claim7.holds_tied_plain_at .later [] _ _ _ _ constraintComplete_said (fun _ h => by cases h) (by as_aux_lemma => kernel_rfl) (fun _ h => by cases h) constraintComplete_row_tie rfl ⟨rfl, rfl⟩ (by as_aux_lemma => kernel_rfl) rfl constraintComplete_plain (by as_aux_lemma => kernel_rfl)
end Go.Proofs.YtoeimidochjddaaDoor
