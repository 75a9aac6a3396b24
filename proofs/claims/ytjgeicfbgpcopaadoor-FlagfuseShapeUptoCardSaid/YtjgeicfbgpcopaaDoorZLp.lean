/- The law FlagfuseShape answers true for every input and leaves its argument as it was; for arguments of at most 1048576 values and letters. -/
import Derived.Test.YtjgeicfbgpcopaaDoorZO
import Derived.Test.YtjgeicfbgpcopaaDoorZY
import Derived.Test.YtjgeicfbgpcopaaDoorLpj
import Derived.Test.YtjgeicfbgpcopaaDoorCards
import Derived.Test.YtjgeicfbgpcopaaDoorTie
set_option linter.unusedSimpArgs false
set_option linter.unusedVariables false
set_option linter.unnecessarySimpa false
/- The law FlagfuseShape answers true for every input and leaves its argument as it was; for arguments of at most 1048576 values and letters. -/
namespace Go.Proofs.YtjgeicfbgpcopaaDoor
open Go.RowKit Go.ChangeShapes Go.WideShapes
set_option maxRecDepth 100000
def flagfuseShape_reads (H : Type) : List (DataW H) × List (DataW H) × List MemPlace := ([blLit H], [], [])
theorem flagfuseShape_contract (H : Type) (enc : TypeId × Value → H) (W : World) (base : Nat) (args : Array Value) (ds gs : List (DataW H)) (before : List MemPlace)
    (hval : ∀ (j : Nat) t v, Tryd.f3.params[j]? = some t → args[j]? = some v → Value.okWide Tryd.prog W .any base t v)
    (hW : DataW.Whole enc Tryd.prog Tryd.f3.params.toList Rows.flagfuseShapeSpec.vars false W args.toList ds gs before) (hB : Rows.uptoSmall H (ds ++ gs) = true) (hG : GbIs W) :
    Calls Tryd.prog 3 args W fun e W' => ∃ v, e = .returned v ∧ Rows.flagfuseShapeSpec.post enc Tryd.prog Tryd.f3 false true false false W args v W' := by
  have hW' := hW
  obtain ⟨p, q, hA0, hV, rfl, _, _⟩ := hW
  have hA : DataW.TrodAll enc Tryd.prog W 0 (fun _ => true) true Tryd.f3.params.toList args.toList ds p := hA0
  rw [Tryd.params3] at hA hval
  obtain ⟨v0, d0, rfl, rfl, h0⟩ := trodAll_one hA
  obtain ⟨b, hw, hx⟩ := arg_bl (hval 0 25 v0 rfl rfl) h0
  have hcs : ∀ s ∈ b.s, s.cs.length ≤ 2000000 := fun s hs => by
    have h1 := wt_bl hs
    have h2 : Rows.uptoBulk d0 ≤ 1048576 := by
      simp [Rows.uptoSmall, Rows.uptoBulkAll] at hB
      omega
    omega
  have hargs : ArgL W [blV b] [v0] := .cons hx (.nil W)
  refine (lawshape23_af b hcs (fun _ => False) W _ (hok_of hG) hargs.shp hargs.mem).mono ?_
  rintro e W' ⟨v, rfl, hv, hx⟩
  obtain rfl : v = .bool true := by simpa [Shp] using hv.1
  exact ⟨_, rfl, post_true (by kernel_rfl) (by kernel_rfl) rfl (tb := 4) (by kernel_rfl) Tryd.underlying4 hW' (fun h => by subst h; rfl) hx⟩
theorem flagfuseShape_lifted (os : Os) (started : os.Started) (H : Type) (enc : TypeId × Value → H) (F : Stop.Interp) :
    ReturnsInHanded {} Tryd.checked os 3 .any ((Rows.OpenSpec.upto Rows.flagfuseShapeSpec).preRow enc Tryd.prog Tryd.f3 Rows.flagfuseShapeUptoRow.domain false Rows.flagfuseShapeUptoRow.laid) (((Rows.OpenSpec.upto Rows.flagfuseShapeSpec).at F).post enc Tryd.prog Tryd.f3 false true false false) := by
  refine returnsInHanded_of_row (C := Tryd.checked) (s := Rows.OpenSpec.upto Rows.flagfuseShapeSpec) (by kernel_rfl) started (by kernel_rfl) Tryd.func3
    (witness_laid (enc := enc) (C := Tryd.checked) (laid := Rows.flagfuseShapeUptoRow.laid) #[.agg #[.int .u32 0, .slice none 0 0]]
      (World.shaped_of_ZipB (by kernel_rfl) (by kernel_rfl)) (by kernel_rfl)
      (OpenSpec.preRow_of_cond 9 (x := flagfuseShape_reads H) (by kernel_rfl) (by kernel_rfl) (fun k hk => by cases hk; kernel_rfl) (by kernel_rfl) (laidMet_laidAll _ (by kernel_rfl) (by kernel_rfl)))) ?_
  intro W base args ds gs before hval hW _ hcond _ hL _ _
  exact flagfuseShape_contract H enc W base args ds gs before hval hW (hcond _ rfl) (gb_ofB (by kernel_rfl) hL)
theorem flagfuseShape_said : Rows.FlagfuseShapeUptoSaid :=
  OpenClaim.holds_of_cond 3 Tryd.f3 rfl rfl rfl rfl rfl rfl rfl ⟨rfl, rfl, rfl, rfl, rfl⟩ rfl rfl rfl rfl rfl (by kernel_rfl) Tryd.func3 flagfuseShapeUpto_joined
    (of_decide_eq_true (by kernel_rfl)) (by unfold Func.isWrapper; first | (rw [if_pos (by decide +kernel)]; kernel_rfl) | (rw [if_neg (by decide +kernel)]; exact ⟨rfl, rfl⟩))
    (fun os started H enc _ F => by rw [OpenClaim.pre_eq_preRow]; exact flagfuseShape_lifted os started H enc F)
theorem flagfuseShape_plain (f : FuncId) (fn : Func) (hf : Tryd.pinned.checked.prog.funcNamed Rows.flagfuseShapeUptoRow.func = some f) (hfn : Tryd.pinned.checked.prog.funcs[f]? = some fn) :
    false = Tryd.pinned.checked.prog.looks [] ∧ ∀ (j : Nat) t, fn.params[j]? = some t → Tryd.pinned.checked.prog.wantsStandIn t = false := by
  obtain rfl : f = 3 := Option.some.inj ((show Tryd.prog.funcNamed Rows.flagfuseShapeUptoRow.func = some 3 by kernel_rfl).symm.trans hf) |>.symm
  obtain rfl : fn = Tryd.f3 := (Option.some.inj (Tryd.func3.symm.trans hfn)).symm
  refine ⟨by kernel_rfl, fun j t ht => ?_⟩
  have h : (Tryd.f3.params.all fun t => !Tryd.prog.wantsStandIn t) = true := by kernel_rfl
  have := Array.all_eq_true'.1 h t (Array.mem_of_getElem? ht)
  show Tryd.prog.wantsStandIn t = false
  simpa using this
theorem flagfuseShapeUpto_holds : Rows.FlagfuseShapeUptoCardSaid :=
  Claim7.holds_tied_plain_at .later [] _ _ _ _ flagfuseShape_said (fun _ h => by cases h) (by kernel_rfl) (fun _ h => by cases h) flagfuseShapeUpto_row_tie rfl ⟨rfl, rfl⟩ (by kernel_rfl) rfl flagfuseShape_plain (by kernel_rfl)
end Go.Proofs.YtjgeicfbgpcopaaDoor
