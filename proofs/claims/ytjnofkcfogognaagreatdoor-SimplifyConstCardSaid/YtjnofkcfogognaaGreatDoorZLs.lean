/- The law SimplifyConst answers true for every input and leaves its arguments as they were; no condition but the row's own. -/
import Derived.Test.YtjnofkcfogognaaGreatDoorZU
import Derived.Test.YtjnofkcfogognaaGreatDoorZY
import Derived.Test.YtjnofkcfogognaaGreatDoorLsj
import Derived.Test.YtjnofkcfogognaaGreatDoorCards
import Derived.Test.YtjnofkcfogognaaGreatDoorTie
set_option linter.unusedSimpArgs false
set_option linter.unusedVariables false
set_option linter.unnecessarySimpa false
/- The law SimplifyConst answers true for every input and leaves its arguments as they were; no condition but the row's own. -/
namespace Go.Proofs.YtjnofkcfogognaaGreatDoor
open Go.RowKit Go.ChangeShapes Go.WideShapes
set_option maxRecDepth 100000
def simplifyConst_reads (H : Type) : List (DataW H) × List (DataW H) × List MemPlace := ([exLit H, .nil, .lit (.int .u8 0)], [], [])
theorem simplifyConst_contract (H : Type) (enc : TypeId × Value → H) (W : World) (base : Nat) (args : Array Value) (ds gs : List (DataW H)) (before : List MemPlace)
    (hval : ∀ (j : Nat) t v, Tryz.f9.params[j]? = some t → args[j]? = some v → Value.okWide Tryz.prog W .any base t v)
    (hW : DataW.Whole enc Tryz.prog Tryz.f9.params.toList Rows.simplifyConstSpec.vars false W args.toList ds gs before) (hG : GbIs W) :
    Calls Tryz.prog 9 args W fun e W' => ∃ v, e = .returned v ∧ Rows.simplifyConstSpec.post enc Tryz.prog Tryz.f9 false true false false W args v W' := by
  have hW' := hW
  obtain ⟨p, q, hA0, hV, rfl, _, _⟩ := hW
  have hA : DataW.TrodAll enc Tryz.prog W 0 (fun _ => true) true Tryz.f9.params.toList args.toList ds p := hA0
  rw [Tryz.params9] at hA hval
  obtain ⟨v0, v1, v2, d0, d1, d2, p0, p1, p2, rfl, rfl, rfl, h0, h1, h2⟩ := trodAll_three hA
  obtain ⟨x, xf, _, hx⟩ := arg_ex (hval 0 38 v0 rfl rfl) h0
  obtain ⟨V, hVr, hV1, hV2⟩ := arg_u32s (hval 1 42 v1 rfl rfl) h1
  obtain ⟨b, rfl, rfl, rfl, wb⟩ := open_int Tryz.underlying5 (hval 2 5 v2 rfl rfl) h2
  have hargs : ArgL W [exA x, .d (.sl 1 (u32s V)), aI .u8 b] [v0, v1, .int .u8 b] := .cons hx (.cons ⟨hV1, hV2⟩ (.cons (arg_v rfl) (.nil W)))
  refine (const22_af x V b (okN_of_fits x xf) hVr (fun _ => False) W _ (hok_of hG) hargs.shp hargs.mem).mono ?_
  rintro e W' ⟨v, rfl, hv, hx⟩
  obtain rfl : v = .bool true := by simpa [Shp] using hv.1
  exact ⟨_, rfl, post_true (by kernel_rfl) (by kernel_rfl) rfl (tb := 4) (by kernel_rfl) Tryz.underlying4 hW' (fun h => by subst h; rfl) hx⟩
theorem simplifyConst_lifted (os : Os) (started : os.Started) (H : Type) (enc : TypeId × Value → H) (F : Stop.Interp) :
    ReturnsInHanded {} Tryz.checked os 9 .any ((OpenSpec.ofChange Rows.simplifyConstSpec).preRow enc Tryz.prog Tryz.f9 Rows.simplifyConstRow.domain false Rows.simplifyConstRow.laid) (((OpenSpec.ofChange Rows.simplifyConstSpec).at F).post enc Tryz.prog Tryz.f9 false true false false) := by
  refine returnsInHanded_of_row (C := Tryz.checked) (s := OpenSpec.ofChange Rows.simplifyConstSpec) (by kernel_rfl) started (by kernel_rfl) Tryz.func9
    (witness_laid (enc := enc) (C := Tryz.checked) (laid := Rows.simplifyConstRow.laid) #[.agg #[.int .i64 0, .int .u32 0, .int .i64 0, .int .i64 0, .slice none 0 0], .slice none 0 0, .int .u8 0]
      (World.shaped_of_ZipB (by kernel_rfl) (by kernel_rfl)) (by kernel_rfl)
      (OpenSpec.preRow_of_cond 9 (x := simplifyConst_reads H) (by kernel_rfl) (by kernel_rfl) (fun k hk => by cases hk) (by kernel_rfl) (laidMet_laidAll _ (by kernel_rfl) (by kernel_rfl)))) ?_
  intro W base args ds gs before hval hW _ hcond _ hL _ _
  exact simplifyConst_contract H enc W base args ds gs before hval hW (gb_ofC (by kernel_rfl) (by kernel_rfl) hL)
theorem simplifyConst_said : Rows.SimplifyConstSaid :=
  OpenClaim.holds_of_cond 9 Tryz.f9 rfl rfl rfl rfl rfl rfl rfl ⟨rfl, rfl, rfl, rfl, rfl⟩ rfl rfl rfl rfl rfl (by kernel_rfl) Tryz.func9 simplifyConst_joined
    (of_decide_eq_true (by kernel_rfl)) (by unfold Func.isWrapper; first | (rw [if_pos (by decide +kernel)]; kernel_rfl) | (rw [if_neg (by decide +kernel)]; exact ⟨rfl, rfl⟩))
    (fun os started H enc _ F => by rw [OpenClaim.pre_eq_preRow]; exact simplifyConst_lifted os started H enc F)
theorem simplifyConst_plain (f : FuncId) (fn : Func) (hf : Tryz.pinned.checked.prog.funcNamed Rows.simplifyConstRow.func = some f) (hfn : Tryz.pinned.checked.prog.funcs[f]? = some fn) :
    false = Tryz.pinned.checked.prog.looks [] ∧ ∀ (j : Nat) t, fn.params[j]? = some t → Tryz.pinned.checked.prog.wantsStandIn t = false := by
  obtain rfl : f = 9 := Option.some.inj ((show Tryz.prog.funcNamed Rows.simplifyConstRow.func = some 9 by kernel_rfl).symm.trans hf) |>.symm
  obtain rfl : fn = Tryz.f9 := (Option.some.inj (Tryz.func9.symm.trans hfn)).symm
  refine ⟨by kernel_rfl, fun j t ht => ?_⟩
  have h : (Tryz.f9.params.all fun t => !Tryz.prog.wantsStandIn t) = true := by kernel_rfl
  have := Array.all_eq_true'.1 h t (Array.mem_of_getElem? ht)
  show Tryz.prog.wantsStandIn t = false
  simpa using this
theorem simplifyConst_holds : Rows.SimplifyConstCardSaid :=
  Claim7.holds_tied_plain_at .later [] _ _ _ _ simplifyConst_said (fun _ h => by cases h) (by as_aux_lemma => kernel_rfl) (fun _ h => by cases h) simplifyConst_row_tie rfl ⟨rfl, rfl⟩ (by as_aux_lemma => kernel_rfl) rfl simplifyConst_plain (by as_aux_lemma => kernel_rfl)
end Go.Proofs.YtjnofkcfogognaaGreatDoor
