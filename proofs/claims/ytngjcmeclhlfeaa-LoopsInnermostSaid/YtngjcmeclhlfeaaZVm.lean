/- The law LoopsInnermost answers true for every input and leaves its arguments as they were; no condition but the row's own. -/
import Derived.Test.YtngjcmeclhlfeaaZY
import Derived.Test.YtngjcmeclhlfeaaVmj
set_option linter.unusedSimpArgs false
set_option linter.unusedVariables false
set_option linter.unnecessarySimpa false
/- The law LoopsInnermost answers true for every input and leaves its arguments as they were; no condition but the row's own. -/
namespace Go.Proofs.Ytngjcmeclhlfeaa
open Go.RowKit Go.ChangeShapes Go.WideShapes
set_option maxRecDepth 100000
def loopsInnermost_reads (H : Type) : List (DataW H) × List (DataW H) × List MemPlace := ([.nil, .lit (.int .i64 0)], [], [])
theorem loopsInnermost_contract (H : Type) (enc : TypeId × Value → H) (W : World) (base : Nat) (args : Array Value) (ds gs : List (DataW H)) (before : List MemPlace)
    (hval : ∀ (j : Nat) t v, Try.f5.params[j]? = some t → args[j]? = some v → Value.okWide Try.prog W .any base t v)
    (hW : DataW.Whole enc Try.prog Try.f5.params.toList Rows.loopsInnermostSpec.vars false W args.toList ds gs before) :
    Calls Try.prog 5 args W fun e W' => ∃ v, e = .returned v ∧ Rows.loopsInnermostSpec.post enc Try.prog Try.f5 false true false false W args v W' := by
  have hW' := hW
  obtain ⟨p, q, hA0, hV, rfl, _, _⟩ := hW
  have hA : DataW.TrodAll enc Try.prog W 0 (fun _ => true) true Try.f5.params.toList args.toList ds p := hA0
  rw [Try.params5] at hA hval
  obtain ⟨v0, v1, d0, d1, p0, p1, rfl, rfl, rfl, h0, h1⟩ := trodAll_two hA
  obtain ⟨L, hx⟩ := arg_lps (hval 0 31 v0 rfl rfl) h0
  obtain ⟨n, rfl, rfl, rfl, _⟩ := open_int Try.underlying3 (hval 1 3 v1 rfl rfl) h1
  have hargs : ArgL W [.d (.sl 4 (lps L)), aI .i64 n] [v0, .int .i64 n] := .cons hx (.cons (arg_v rfl) (.nil W))
  refine (lawinner35_af L n (fun _ => False) W _ (hok_nil W) hargs.shp hargs.mem).mono ?_
  rintro e W' ⟨v, rfl, hv, hx⟩
  obtain rfl : v = .bool true := by simpa [Shp] using hv.1
  exact ⟨_, rfl, post_true (by kernel_rfl) (by kernel_rfl) rfl (tb := 4) (by kernel_rfl) Try.underlying4 hW' (fun h => by subst h; rfl) hx⟩
theorem loopsInnermost_lifted (os : Os) (started : os.Started) (H : Type) (enc : TypeId × Value → H) (F : Stop.Interp) :
    ReturnsInHanded {} Try.checked os 5 .any ((OpenSpec.ofChange Rows.loopsInnermostSpec).preRow enc Try.prog Try.f5 Rows.loopsInnermostRow.domain false Rows.loopsInnermostRow.laid) (((OpenSpec.ofChange Rows.loopsInnermostSpec).at F).post enc Try.prog Try.f5 false true false false) := by
  refine returnsInHanded_of_row (C := Try.checked) (s := OpenSpec.ofChange Rows.loopsInnermostSpec) (by kernel_rfl) started (by kernel_rfl) Try.func5
    (witness_laid (enc := enc) (C := Try.checked) (laid := Rows.loopsInnermostRow.laid) #[.slice none 0 0, .int .i64 0]
      (World.shaped_of_ZipB (by kernel_rfl) (by kernel_rfl)) (by kernel_rfl)
      (OpenSpec.preRow_of_cond 9 (x := loopsInnermost_reads H) (by kernel_rfl) (by kernel_rfl) (fun k hk => by cases hk) (by kernel_rfl) (laidMet_laidAll _ (by kernel_rfl) (by kernel_rfl)))) ?_
  intro W base args ds gs before hval hW _ hcond hsz hL hS _
  exact loopsInnermost_contract H enc W base args ds gs before hval hW
theorem loopsInnermost_said : Rows.LoopsInnermostSaid :=
  OpenClaim.holds_of_cond 5 Try.f5 rfl rfl rfl rfl rfl rfl rfl ⟨rfl, rfl, rfl, rfl, rfl⟩ rfl rfl rfl rfl rfl (by kernel_rfl) Try.func5 loopsInnermost_joined
    (of_decide_eq_true (by kernel_rfl)) (by unfold Func.isWrapper; first | (rw [if_pos (by decide +kernel)]; kernel_rfl) | (rw [if_neg (by decide +kernel)]; exact ⟨rfl, rfl⟩))
    (fun os started H enc _ F => by rw [OpenClaim.pre_eq_preRow]; exact loopsInnermost_lifted os started H enc F)
theorem loopsInnermost_holds : Rows.LoopsInnermostSaid := loopsInnermost_said
end Go.Proofs.Ytngjcmeclhlfeaa
