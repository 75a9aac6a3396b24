import Derived.Test.YtinkdalcmnnocaaGreatZX
import Derived.Test.YtinkdalcmnnocaaGreatZW
import Derived.Test.YtinkdalcmnnocaaGreatVsj
set_option linter.all false
namespace Go.Proofs.YtinkdalcmnnocaaGreat
open Go.RowKit Go.ChangeShapes Go.WideShapes
set_option maxRecDepth 100000
def constpropMore_reads (H : Type) : List (DataW H) × List (DataW H) × List MemPlace := ([.nil], [], [])
theorem constpropMore_contract (H : Type) (enc : TypeId × Value → H) (W : World) (base : Nat) (args : Array Value) (ds gs : List (DataW H)) (before : List MemPlace)
 (hval : ∀ (j : Nat) t v, Tryz.f3.params[j]? = some t → args[j]? = some v → Value.okWide Tryz.prog W .any base t v)
 (hW : DataW.Whole enc Tryz.prog Tryz.f3.params.toList Rows.constpropMoreSpec.vars false W args.toList ds gs before) :
 Calls Tryz.prog 3 args W fun e W' => ∃ v, e = .returned v ∧ Rows.constpropMoreSpec.post enc Tryz.prog Tryz.f3 false true false false W args v W' := by
 have hW' := hW
 obtain ⟨p, q, hA0, hV, rfl, _, _⟩ := hW
 have hA : DataW.TrodAll enc Tryz.prog W 0 (fun _ => true) true Tryz.f3.params.toList args.toList ds p := hA0
 rw [Tryz.params3] at hA hval
 obtain ⟨v0, d0, rfl, rfl, h0⟩ := trodAll_one hA
 obtain ⟨V, hVr, hV1, hV2⟩ := arg_u32d (hval 0 22 v0 rfl rfl) h0
 have hargs : ArgL W [.d (.sl 1 (u32d V))] [v0] := .cons ⟨hV1, hV2⟩ (.nil W)
 refine (lawmore27_af V hVr (fun _ => False) W _ (hok_nil W) hargs.shp hargs.mem).mono ?_
 rintro e W' ⟨v, rfl, hv, hx⟩
 obtain rfl : v = .bool true := by simpa [Shp] using hv.1
 exact ⟨_, rfl, post_true (by kernel_rfl) (by kernel_rfl) rfl (tb := 4) (by kernel_rfl) Tryz.underlying4 hW' (fun h => by subst h; rfl) hx⟩
theorem constpropMore_lifted (os : Os) (started : os.Started) (H : Type) (enc : TypeId × Value → H) (F : Stop.Interp) :
 ReturnsInHanded {} Tryz.checked os 3 .any ((OpenSpec.ofChange Rows.constpropMoreSpec).preRow enc Tryz.prog Tryz.f3 Rows.constpropMoreRow.domain false Rows.constpropMoreRow.laid) (((OpenSpec.ofChange Rows.constpropMoreSpec).at F).post enc Tryz.prog Tryz.f3 false true false false) := by
 refine returnsInHanded_of_row (C := Tryz.checked) (s := OpenSpec.ofChange Rows.constpropMoreSpec) (by kernel_rfl) started (by kernel_rfl) Tryz.func3
  (witness_laid (enc := enc) (C := Tryz.checked) (laid := Rows.constpropMoreRow.laid) #[.slice none 0 0]
   (World.shaped_of_ZipB (by kernel_rfl) (by kernel_rfl)) (by kernel_rfl)
   (OpenSpec.preRow_of_cond 9 (x := constpropMore_reads H) (by kernel_rfl) (by kernel_rfl) (fun k hk => by cases hk) (by kernel_rfl) (laidMet_laidAll _ (by kernel_rfl) (by kernel_rfl)))) ?_
 intro W base args ds gs before hval hW _ hcond hsz hL hS _
 exact constpropMore_contract H enc W base args ds gs before hval hW
theorem constpropMore_said : Rows.ConstpropMoreSaid :=
 OpenClaim.holds_of_cond 3 Tryz.f3 rfl rfl rfl rfl rfl rfl rfl ⟨rfl, rfl, rfl, rfl, rfl⟩ rfl rfl rfl rfl rfl (by kernel_rfl) Tryz.func3 constpropMore_joined
  (of_decide_eq_true (by kernel_rfl)) (by unfold Func.isWrapper; first | (rw [if_pos (by decide +kernel)]; kernel_rfl) | (rw [if_neg (by decide +kernel)]; exact ⟨rfl, rfl⟩))
  (fun os started H enc _ F => by rw [OpenClaim.pre_eq_preRow]; exact constpropMore_lifted os started H enc F)
theorem constpropMore_holds : Rows.ConstpropMoreSaid := constpropMore_said
end Go.Proofs.YtinkdalcmnnocaaGreat
