/- The law FlagfuseGraphs answers true for every input and leaves its argument as it was; for arguments of at most 1048576 values and letters. -/
import Derived.Test.YtlidimmfpfockaaGreatDoorZQ
import Derived.Test.YtlidimmfpfockaaGreatDoorZY
import Derived.Test.YtlidimmfpfockaaGreatDoorVbj
import Derived.Test.YtlidimmfpfockaaGreatDoorCards
import Derived.Test.YtlidimmfpfockaaGreatDoorTie
set_option linter.unusedSimpArgs false
set_option linter.unusedVariables false
set_option linter.unnecessarySimpa false
/- The law FlagfuseGraphs answers true for every input and leaves its argument as it was; for arguments of at most 1048576 values and letters. -/
namespace Go.Proofs.YtlidimmfpfockaaGreatDoor
open Go.RowKit Go.ChangeShapes Go.WideShapes
set_option maxRecDepth 100000
def flagfuseGraphs_reads (H : Type) : List (DataW H) × List (DataW H) × List MemPlace := ([grLit H], [], [])
theorem flagfuseGraphs_contract (H : Type) (enc : TypeId × Value → H) (W : World) (base : Nat) (args : Array Value) (ds gs : List (DataW H)) (before : List MemPlace)
    (hval : ∀ (j : Nat) t v, Tryz.f10.params[j]? = some t → args[j]? = some v → Value.okWide Tryz.prog W .any base t v)
    (hW : DataW.Whole enc Tryz.prog Tryz.f10.params.toList Rows.flagfuseGraphsSpec.vars false W args.toList ds gs before) (hB : Rows.uptoSmall H (ds ++ gs) = true) (hG : GbIs W) :
    Calls Tryz.prog 10 args W fun e W' => ∃ v, e = .returned v ∧ Rows.flagfuseGraphsSpec.post enc Tryz.prog Tryz.f10 false true false false W args v W' := by
  have hW' := hW
  obtain ⟨p, q, hA0, hV, rfl, _, _⟩ := hW
  have hA : DataW.TrodAll enc Tryz.prog W 0 (fun _ => true) true Tryz.f10.params.toList args.toList ds p := hA0
  rw [Tryz.params10] at hA hval
  obtain ⟨v0, d0, rfl, rfl, h0⟩ := trodAll_one hA
  obtain ⟨g, hw, hx⟩ := arg_grw (hval 0 33 v0 rfl rfl) h0
  have hcs : ∀ b ∈ g.b, ∀ s ∈ b.s, s.cs.length ≤ 2000000 := fun b hb s hs => by
    have h1 := wt_gr hb hs
    have h2 : Rows.uptoBulk d0 ≤ 1048576 := by
      simp [Rows.uptoSmall, Rows.uptoBulkAll] at hB
      omega
    omega
  have hargs : ArgL W [grV g] [v0] := .cons hx (.nil W)
  refine (lawgraphs23_af g hcs (fun _ => False) W _ (hok_of hG) hargs.shp hargs.mem).mono ?_
  rintro e W' ⟨v, rfl, hv, hx⟩
  obtain rfl : v = .bool true := by simpa [Shp] using hv.1
  exact ⟨_, rfl, post_true (by kernel_rfl) (by kernel_rfl) rfl (tb := 4) (by kernel_rfl) Tryz.underlying4 hW' (fun h => by subst h; rfl) hx⟩
theorem flagfuseGraphs_lifted (os : Os) (started : os.Started) (H : Type) (enc : TypeId × Value → H) (F : Stop.Interp) :
    ReturnsInHanded {} Tryz.checked os 10 .any ((Rows.OpenSpec.upto Rows.flagfuseGraphsSpec).preRow enc Tryz.prog Tryz.f10 Rows.flagfuseGraphsUptoRow.domain false Rows.flagfuseGraphsUptoRow.laid) (((Rows.OpenSpec.upto Rows.flagfuseGraphsSpec).at F).post enc Tryz.prog Tryz.f10 false true false false) := by
  refine returnsInHanded_of_row (C := Tryz.checked) (s := Rows.OpenSpec.upto Rows.flagfuseGraphsSpec) (by kernel_rfl) started (by kernel_rfl) Tryz.func10
    (witness_laid (enc := enc) (C := Tryz.checked) (laid := Rows.flagfuseGraphsUptoRow.laid) #[.agg #[.int .u32 0, .slice none 0 0]]
      (World.shaped_of_ZipB (by kernel_rfl) (by kernel_rfl)) (by kernel_rfl)
      (OpenSpec.preRow_of_cond 9 (x := flagfuseGraphs_reads H) (by kernel_rfl) (by kernel_rfl) (fun k hk => by cases hk; kernel_rfl) (by kernel_rfl) (laidMet_laidAll _ (by kernel_rfl) (by kernel_rfl)))) ?_
  intro W base args ds gs before hval hW _ hcond _ hL _ _
  exact flagfuseGraphs_contract H enc W base args ds gs before hval hW (hcond _ rfl) (gb_ofC (by kernel_rfl) (by kernel_rfl) hL)
theorem flagfuseGraphs_said : Rows.FlagfuseGraphsUptoSaid :=
  OpenClaim.holds_of_cond 10 Tryz.f10 rfl rfl rfl rfl rfl rfl rfl ⟨rfl, rfl, rfl, rfl, rfl⟩ rfl rfl rfl rfl rfl (by kernel_rfl) Tryz.func10 flagfuseGraphsUpto_joined
    (of_decide_eq_true (by kernel_rfl)) (by unfold Func.isWrapper; first | (rw [if_pos (by decide +kernel)]; kernel_rfl) | (rw [if_neg (by decide +kernel)]; exact ⟨rfl, rfl⟩))
    (fun os started H enc _ F => by rw [OpenClaim.pre_eq_preRow]; exact flagfuseGraphs_lifted os started H enc F)
theorem flagfuseGraphs_plain (f : FuncId) (fn : Func) (hf : Tryz.pinned.checked.prog.funcNamed Rows.flagfuseGraphsUptoRow.func = some f) (hfn : Tryz.pinned.checked.prog.funcs[f]? = some fn) :
    false = Tryz.pinned.checked.prog.looks [] ∧ ∀ (j : Nat) t, fn.params[j]? = some t → Tryz.pinned.checked.prog.wantsStandIn t = false := by
  obtain rfl : f = 10 := Option.some.inj ((show Tryz.prog.funcNamed Rows.flagfuseGraphsUptoRow.func = some 10 by kernel_rfl).symm.trans hf) |>.symm
  obtain rfl : fn = Tryz.f10 := (Option.some.inj (Tryz.func10.symm.trans hfn)).symm
  refine ⟨by kernel_rfl, fun j t ht => ?_⟩
  have h : (Tryz.f10.params.all fun t => !Tryz.prog.wantsStandIn t) = true := by kernel_rfl
  have := Array.all_eq_true'.1 h t (Array.mem_of_getElem? ht)
  show Tryz.prog.wantsStandIn t = false
  simpa using this
theorem flagfuseGraphsUpto_holds : Rows.FlagfuseGraphsUptoCardSaid :=
  Claim7.holds_tied_plain_at .later [] _ _ _ _ flagfuseGraphs_said (fun _ h => by cases h) (by as_aux_lemma => kernel_rfl) (fun _ h => by cases h) flagfuseGraphsUpto_row_tie rfl ⟨rfl, rfl⟩ (by as_aux_lemma => kernel_rfl) rfl flagfuseGraphs_plain (by as_aux_lemma => kernel_rfl)
end Go.Proofs.YtlidimmfpfockaaGreatDoor
