/- The law LoopsSplits answers true for every input and leaves its argument as it was; no condition but the row's own. -/
import Derived.Test.YtagkfkhagjlmpaaGreatZU
import Derived.Test.YtagkfkhagjlmpaaGreatZY
import Derived.Test.YtagkfkhagjlmpaaGreatVpj
set_option linter.unusedSimpArgs false
set_option linter.unusedVariables false
set_option linter.unnecessarySimpa false
/- The law LoopsSplits answers true for every input and leaves its argument as it was; no condition but the row's own. -/
namespace Go.Proofs.YtagkfkhagjlmpaaGreat
open Go.RowKit Go.ChangeShapes Go.WideShapes
set_option maxRecDepth 100000
def loopsSplits_reads (H : Type) : List (DataW H) × List (DataW H) × List MemPlace := ([grLit H], [], [])
theorem loopsSplits_contract (H : Type) (enc : TypeId × Value → H) (W : World) (base : Nat) (args : Array Value) (ds gs : List (DataW H)) (before : List MemPlace)
    (hval : ∀ (j : Nat) t v, Tryz.f3.params[j]? = some t → args[j]? = some v → Value.okWide Tryz.prog W .any base t v)
    (hW : DataW.Whole enc Tryz.prog Tryz.f3.params.toList Rows.loopsSplitsSpec.vars false W args.toList ds gs before) :
    Calls Tryz.prog 3 args W fun e W' => ∃ v, e = .returned v ∧ Rows.loopsSplitsSpec.post enc Tryz.prog Tryz.f3 false true false false W args v W' := by
  have hW' := hW
  obtain ⟨p, q, hA0, hV, rfl, _, _⟩ := hW
  have hA : DataW.TrodAll enc Tryz.prog W 0 (fun _ => true) true Tryz.f3.params.toList args.toList ds p := hA0
  rw [Tryz.params3] at hA hval
  obtain ⟨v0, d0, rfl, rfl, h0⟩ := trodAll_one hA
  obtain ⟨g, hx⟩ := arg_gr (hval 0 25 v0 rfl rfl) h0
  have hargs : ArgL W [grV g] [v0] := .cons hx (.nil W)
  refine (lawsplits35_af g (fun _ => False) W _ (hok_nil W) hargs.shp hargs.mem).mono ?_
  rintro e W' ⟨v, rfl, hv, hx⟩
  obtain rfl : v = .bool true := by simpa [Shp] using hv.1
  exact ⟨_, rfl, post_true (by kernel_rfl) (by kernel_rfl) rfl (tb := 4) (by kernel_rfl) Tryz.underlying4 hW' (fun h => by subst h; rfl) hx⟩
theorem loopsSplits_lifted (os : Os) (started : os.Started) (H : Type) (enc : TypeId × Value → H) (F : Stop.Interp) :
    ReturnsInHanded {} Tryz.checked os 3 .any ((OpenSpec.ofChange Rows.loopsSplitsSpec).preRow enc Tryz.prog Tryz.f3 Rows.loopsSplitsRow.domain false Rows.loopsSplitsRow.laid) (((OpenSpec.ofChange Rows.loopsSplitsSpec).at F).post enc Tryz.prog Tryz.f3 false true false false) := by
  refine returnsInHanded_of_row (C := Tryz.checked) (s := OpenSpec.ofChange Rows.loopsSplitsSpec) (by kernel_rfl) started (by kernel_rfl) Tryz.func3
    (witness_laid (enc := enc) (C := Tryz.checked) (laid := Rows.loopsSplitsRow.laid) #[.agg #[.int .u32 0, .slice none 0 0]]
      (World.shaped_of_ZipB (by kernel_rfl) (by kernel_rfl)) (by kernel_rfl)
      (OpenSpec.preRow_of_cond 9 (x := loopsSplits_reads H) (by kernel_rfl) (by kernel_rfl) (fun k hk => by cases hk) (by kernel_rfl) (laidMet_laidAll _ (by kernel_rfl) (by kernel_rfl)))) ?_
  intro W base args ds gs before hval hW _ hcond hsz hL hS _
  exact loopsSplits_contract H enc W base args ds gs before hval hW
theorem loopsSplits_said : Rows.LoopsSplitsSaid :=
  OpenClaim.holds_of_cond 3 Tryz.f3 rfl rfl rfl rfl rfl rfl rfl ⟨rfl, rfl, rfl, rfl, rfl⟩ rfl rfl rfl rfl rfl (by kernel_rfl) Tryz.func3 loopsSplits_joined
    (of_decide_eq_true (by kernel_rfl)) (by unfold Func.isWrapper; first | (rw [if_pos (by decide +kernel)]; kernel_rfl) | (rw [if_neg (by decide +kernel)]; exact ⟨rfl, rfl⟩))
    (fun os started H enc _ F => by rw [OpenClaim.pre_eq_preRow]; exact loopsSplits_lifted os started H enc F)
theorem loopsSplits_holds : Rows.LoopsSplitsSaid := loopsSplits_said
end Go.Proofs.YtagkfkhagjlmpaaGreat
