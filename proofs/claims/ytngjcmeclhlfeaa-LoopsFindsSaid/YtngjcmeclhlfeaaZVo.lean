/- The law LoopsFinds answers true for every input and leaves its argument as it was; no condition but the row's own. -/
import Derived.Test.YtngjcmeclhlfeaaZR
import Derived.Test.YtngjcmeclhlfeaaZY
import Derived.Test.YtngjcmeclhlfeaaVoj
set_option linter.unusedSimpArgs false
set_option linter.unusedVariables false
set_option linter.unnecessarySimpa false
/- The law LoopsFinds answers true for every input and leaves its argument as it was; no condition but the row's own. -/
namespace Go.Proofs.Ytngjcmeclhlfeaa
open Go.RowKit Go.ChangeShapes Go.WideShapes
set_option maxRecDepth 100000
def loopsFinds_reads (H : Type) : List (DataW H) × List (DataW H) × List MemPlace := ([grLit H], [], [])
theorem loopsFinds_contract (H : Type) (enc : TypeId × Value → H) (W : World) (base : Nat) (args : Array Value) (ds gs : List (DataW H)) (before : List MemPlace)
    (hval : ∀ (j : Nat) t v, Try.f4.params[j]? = some t → args[j]? = some v → Value.okWide Try.prog W .any base t v)
    (hW : DataW.Whole enc Try.prog Try.f4.params.toList Rows.loopsFindsSpec.vars false W args.toList ds gs before) :
    Calls Try.prog 4 args W fun e W' => ∃ v, e = .returned v ∧ Rows.loopsFindsSpec.post enc Try.prog Try.f4 false true false false W args v W' := by
  have hW' := hW
  obtain ⟨p, q, hA0, hV, rfl, _, _⟩ := hW
  have hA : DataW.TrodAll enc Try.prog W 0 (fun _ => true) true Try.f4.params.toList args.toList ds p := hA0
  rw [Try.params4] at hA hval
  obtain ⟨v0, d0, rfl, rfl, h0⟩ := trodAll_one hA
  obtain ⟨g, hx⟩ := arg_gr (hval 0 25 v0 rfl rfl) h0
  have hargs : ArgL W [grV g] [v0] := .cons hx (.nil W)
  refine (lawfinds35_af g (fun _ => False) W _ (hok_nil W) hargs.shp hargs.mem).mono ?_
  rintro e W' ⟨v, rfl, hv, hx⟩
  obtain rfl : v = .bool true := by simpa [Shp] using hv.1
  exact ⟨_, rfl, post_true (by kernel_rfl) (by kernel_rfl) rfl (tb := 4) (by kernel_rfl) Try.underlying4 hW' (fun h => by subst h; rfl) hx⟩
theorem loopsFinds_lifted (os : Os) (started : os.Started) (H : Type) (enc : TypeId × Value → H) (F : Stop.Interp) :
    ReturnsInHanded {} Try.checked os 4 .any ((OpenSpec.ofChange Rows.loopsFindsSpec).preRow enc Try.prog Try.f4 Rows.loopsFindsRow.domain false Rows.loopsFindsRow.laid) (((OpenSpec.ofChange Rows.loopsFindsSpec).at F).post enc Try.prog Try.f4 false true false false) := by
  refine returnsInHanded_of_row (C := Try.checked) (s := OpenSpec.ofChange Rows.loopsFindsSpec) (by kernel_rfl) started (by kernel_rfl) Try.func4
    (witness_laid (enc := enc) (C := Try.checked) (laid := Rows.loopsFindsRow.laid) #[.agg #[.int .u32 0, .slice none 0 0]]
      (World.shaped_of_ZipB (by kernel_rfl) (by kernel_rfl)) (by kernel_rfl)
      (OpenSpec.preRow_of_cond 9 (x := loopsFinds_reads H) (by kernel_rfl) (by kernel_rfl) (fun k hk => by cases hk) (by kernel_rfl) (laidMet_laidAll _ (by kernel_rfl) (by kernel_rfl)))) ?_
  intro W base args ds gs before hval hW _ hcond hsz hL hS _
  exact loopsFinds_contract H enc W base args ds gs before hval hW
theorem loopsFinds_said : Rows.LoopsFindsSaid :=
  OpenClaim.holds_of_cond 4 Try.f4 rfl rfl rfl rfl rfl rfl rfl ⟨rfl, rfl, rfl, rfl, rfl⟩ rfl rfl rfl rfl rfl (by kernel_rfl) Try.func4 loopsFinds_joined
    (of_decide_eq_true (by kernel_rfl)) (by unfold Func.isWrapper; first | (rw [if_pos (by decide +kernel)]; kernel_rfl) | (rw [if_neg (by decide +kernel)]; exact ⟨rfl, rfl⟩))
    (fun os started H enc _ F => by rw [OpenClaim.pre_eq_preRow]; exact loopsFinds_lifted os started H enc F)
theorem loopsFinds_holds : Rows.LoopsFindsSaid := loopsFinds_said
end Go.Proofs.Ytngjcmeclhlfeaa
