import Derived.Test.YtinkdalcmnnocaaGreatZX
import Derived.Test.YtinkdalcmnnocaaGreatZW
import Derived.Test.YtinkdalcmnnocaaGreatVtj
set_option linter.all false
namespace Go.Proofs.YtinkdalcmnnocaaGreat
open Go.RowKit Go.ChangeShapes Go.WideShapes
set_option maxRecDepth 100000
def constpropInput_reads (H : Type) : List (DataW H) × List (DataW H) × List MemPlace := ([.lit (.int .u32 0), .lit (.int .u8 0)], [], [])
theorem constpropInput_contract (H : Type) (enc : TypeId × Value → H) (W : World) (base : Nat) (args : Array Value) (ds gs : List (DataW H)) (before : List MemPlace)
 (hval : ∀ (j : Nat) t v, Tryz.f4.params[j]? = some t → args[j]? = some v → Value.okWide Tryz.prog W .any base t v)
 (hW : DataW.Whole enc Tryz.prog Tryz.f4.params.toList Rows.constpropInputSpec.vars false W args.toList ds gs before) :
 Calls Tryz.prog 4 args W fun e W' => ∃ v, e = .returned v ∧ Rows.constpropInputSpec.post enc Tryz.prog Tryz.f4 false true false false W args v W' := by
 have hW' := hW
 obtain ⟨p, q, hA0, hV, rfl, _, _⟩ := hW
 have hA : DataW.TrodAll enc Tryz.prog W 0 (fun _ => true) true Tryz.f4.params.toList args.toList ds p := hA0
 rw [Tryz.params4] at hA hval
 obtain ⟨v0, v1, d0, d1, p0, p1, rfl, rfl, rfl, h0, h1⟩ := trodAll_two hA
 obtain ⟨a, rfl, rfl, rfl, wa⟩ := open_int Tryz.underlying25 (hval 0 25 v0 rfl rfl) h0
 obtain ⟨b, rfl, rfl, rfl, wb⟩ := open_int Tryz.underlying5 (hval 1 5 v1 rfl rfl) h1
 have hargs : ArgL W [aI .u32 a, aI .u8 b] [.int .u32 a, .int .u8 b] := .cons (arg_v rfl) (.cons (arg_v rfl) (.nil W))
 refine (lawinput27_af a b (u32_r32d wa) (u8_r8 wb) (fun _ => False) W _ (hok_nil W) hargs.shp hargs.mem).mono ?_
 rintro e W' ⟨v, rfl, hv, hx⟩
 obtain rfl : v = .bool true := by simpa [Shp] using hv.1
 exact ⟨_, rfl, post_true (by kernel_rfl) (by kernel_rfl) rfl (tb := 4) (by kernel_rfl) Tryz.underlying4 hW' (fun h => by subst h; rfl) hx⟩
theorem constpropInput_lifted (os : Os) (started : os.Started) (H : Type) (enc : TypeId × Value → H) (F : Stop.Interp) :
 ReturnsInHanded {} Tryz.checked os 4 .any ((OpenSpec.ofChange Rows.constpropInputSpec).preRow enc Tryz.prog Tryz.f4 Rows.constpropInputRow.domain false Rows.constpropInputRow.laid) (((OpenSpec.ofChange Rows.constpropInputSpec).at F).post enc Tryz.prog Tryz.f4 false true false false) := by
 refine returnsInHanded_of_row (C := Tryz.checked) (s := OpenSpec.ofChange Rows.constpropInputSpec) (by kernel_rfl) started (by kernel_rfl) Tryz.func4
  (witness_laid (enc := enc) (C := Tryz.checked) (laid := Rows.constpropInputRow.laid) #[.int .u32 0, .int .u8 0]
   (World.shaped_of_ZipB (by kernel_rfl) (by kernel_rfl)) (by kernel_rfl)
   (OpenSpec.preRow_of_cond 9 (x := constpropInput_reads H) (by kernel_rfl) (by kernel_rfl) (fun k hk => by cases hk) (by kernel_rfl) (laidMet_laidAll _ (by kernel_rfl) (by kernel_rfl)))) ?_
 intro W base args ds gs before hval hW _ hcond hsz hL hS _
 exact constpropInput_contract H enc W base args ds gs before hval hW
theorem constpropInput_said : Rows.ConstpropInputSaid :=
 OpenClaim.holds_of_cond 4 Tryz.f4 rfl rfl rfl rfl rfl rfl rfl ⟨rfl, rfl, rfl, rfl, rfl⟩ rfl rfl rfl rfl rfl (by kernel_rfl) Tryz.func4 constpropInput_joined
  (of_decide_eq_true (by kernel_rfl)) (by unfold Func.isWrapper; first | (rw [if_pos (by decide +kernel)]; kernel_rfl) | (rw [if_neg (by decide +kernel)]; exact ⟨rfl, rfl⟩))
  (fun os started H enc _ F => by rw [OpenClaim.pre_eq_preRow]; exact constpropInput_lifted os started H enc F)
theorem constpropInput_holds : Rows.ConstpropInputSaid := constpropInput_said
end Go.Proofs.YtinkdalcmnnocaaGreat
