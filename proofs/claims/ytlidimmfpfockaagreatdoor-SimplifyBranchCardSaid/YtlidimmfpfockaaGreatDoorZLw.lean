/- The law SimplifyBranch answers true for every input and leaves its arguments as they were; no condition but the row's own. -/
import Derived.Test.YtlidimmfpfockaaGreatDoorZR
import Derived.Test.YtlidimmfpfockaaGreatDoorZY
import Derived.Test.YtlidimmfpfockaaGreatDoorLwj
import Derived.Test.YtlidimmfpfockaaGreatDoorCards
import Derived.Test.YtlidimmfpfockaaGreatDoorTie
set_option linter.unusedSimpArgs false
set_option linter.unusedVariables false
set_option linter.unnecessarySimpa false
/- The law SimplifyBranch answers true for every input and leaves its arguments as they were; no condition but the row's own. -/
namespace Go.Proofs.YtlidimmfpfockaaGreatDoor
open Go.RowKit Go.ChangeShapes Go.WideShapes
set_option maxRecDepth 100000
def simplifyBranch_reads (H : Type) : List (DataW H) × List (DataW H) × List MemPlace := ([exLit H, .lit (.int .i64 0), .lit (.int .i64 0), .nil, .lit (.int .u8 0)], [], [])
theorem simplifyBranch_contract (H : Type) (enc : TypeId × Value → H) (W : World) (base : Nat) (args : Array Value) (ds gs : List (DataW H)) (before : List MemPlace)
    (hval : ∀ (j : Nat) t v, Tryz.f7.params[j]? = some t → args[j]? = some v → Value.okWide Tryz.prog W .any base t v)
    (hW : DataW.Whole enc Tryz.prog Tryz.f7.params.toList Rows.simplifyBranchSpec.vars false W args.toList ds gs before) (hG : GbIs W) :
    Calls Tryz.prog 7 args W fun e W' => ∃ v, e = .returned v ∧ Rows.simplifyBranchSpec.post enc Tryz.prog Tryz.f7 false true false false W args v W' := by
  have hW' := hW
  obtain ⟨p, q, hA0, hV, rfl, _, _⟩ := hW
  have hA : DataW.TrodAll enc Tryz.prog W 0 (fun _ => true) true Tryz.f7.params.toList args.toList ds p := hA0
  rw [Tryz.params7] at hA hval
  obtain ⟨v0, v1, v2, v3, v4, d0, d1, d2, d3, d4, p0, p1, p2, p3, p4, rfl, rfl, h0, h1, h2, h3, h4⟩ := trodAll_five hA
  obtain ⟨x, xf, _, hx⟩ := arg_ex (hval 0 38 v0 rfl rfl) h0
  obtain ⟨n, rfl, rfl, rfl, wn⟩ := open_int Tryz.underlying3 (hval 1 3 v1 rfl rfl) h1
  obtain ⟨l, rfl, rfl, rfl, wl⟩ := open_int Tryz.underlying3 (hval 2 3 v2 rfl rfl) h2
  obtain ⟨V, hVr, hV1, hV2⟩ := arg_u32s (hval 3 48 v3 rfl rfl) h3
  obtain ⟨b, rfl, rfl, rfl, wb⟩ := open_int Tryz.underlying5 (hval 4 5 v4 rfl rfl) h4
  have hargs : ArgL W [exA x, aI .i64 n, aI .i64 l, .d (.sl 1 (u32s V)), aI .u8 b] [v0, .int .i64 n, .int .i64 l, v3, .int .u8 b] := .cons hx (.cons (arg_v rfl) (.cons (arg_v rfl) (.cons ⟨hV1, hV2⟩ (.cons (arg_v rfl) (.nil W)))))
  refine (branch22_af x n l V b (okN_of_fits x xf) (i64_ok wn) (i64_ok wl) hVr (fun _ => False) W _ (hok_of hG) hargs.shp hargs.mem).mono ?_
  rintro e W' ⟨v, rfl, hv, hx⟩
  obtain rfl : v = .bool true := by simpa [Shp] using hv.1
  exact ⟨_, rfl, post_true (by kernel_rfl) (by kernel_rfl) rfl (tb := 4) (by kernel_rfl) Tryz.underlying4 hW' (fun h => by subst h; rfl) hx⟩
theorem simplifyBranch_lifted (os : Os) (started : os.Started) (H : Type) (enc : TypeId × Value → H) (F : Stop.Interp) :
    ReturnsInHanded {} Tryz.checked os 7 .any ((OpenSpec.ofChange Rows.simplifyBranchSpec).preRow enc Tryz.prog Tryz.f7 Rows.simplifyBranchRow.domain false Rows.simplifyBranchRow.laid) (((OpenSpec.ofChange Rows.simplifyBranchSpec).at F).post enc Tryz.prog Tryz.f7 false true false false) := by
  refine returnsInHanded_of_row (C := Tryz.checked) (s := OpenSpec.ofChange Rows.simplifyBranchSpec) (by kernel_rfl) started (by kernel_rfl) Tryz.func7
    (witness_laid (enc := enc) (C := Tryz.checked) (laid := Rows.simplifyBranchRow.laid) #[.agg #[.int .i64 0, .int .u32 0, .int .i64 0, .int .i64 0, .slice none 0 0], .int .i64 0, .int .i64 0, .slice none 0 0, .int .u8 0]
      (World.shaped_of_ZipB (by kernel_rfl) (by kernel_rfl)) (by kernel_rfl)
      (OpenSpec.preRow_of_cond 9 (x := simplifyBranch_reads H) (by kernel_rfl) (by kernel_rfl) (fun k hk => by cases hk) (by kernel_rfl) (laidMet_laidAll _ (by kernel_rfl) (by kernel_rfl)))) ?_
  intro W base args ds gs before hval hW _ hcond _ hL _ _
  exact simplifyBranch_contract H enc W base args ds gs before hval hW (gb_ofC (by kernel_rfl) (by kernel_rfl) hL)
theorem simplifyBranch_said : Rows.SimplifyBranchSaid :=
  OpenClaim.holds_of_cond 7 Tryz.f7 rfl rfl rfl rfl rfl rfl rfl ⟨rfl, rfl, rfl, rfl, rfl⟩ rfl rfl rfl rfl rfl (by kernel_rfl) Tryz.func7 simplifyBranch_joined
    (of_decide_eq_true (by kernel_rfl)) (by unfold Func.isWrapper; first | (rw [if_pos (by decide +kernel)]; kernel_rfl) | (rw [if_neg (by decide +kernel)]; exact ⟨rfl, rfl⟩))
    (fun os started H enc _ F => by rw [OpenClaim.pre_eq_preRow]; exact simplifyBranch_lifted os started H enc F)
theorem simplifyBranch_plain (f : FuncId) (fn : Func) (hf : Tryz.pinned.checked.prog.funcNamed Rows.simplifyBranchRow.func = some f) (hfn : Tryz.pinned.checked.prog.funcs[f]? = some fn) :
    false = Tryz.pinned.checked.prog.looks [] ∧ ∀ (j : Nat) t, fn.params[j]? = some t → Tryz.pinned.checked.prog.wantsStandIn t = false := by
  obtain rfl : f = 7 := Option.some.inj ((show Tryz.prog.funcNamed Rows.simplifyBranchRow.func = some 7 by kernel_rfl).symm.trans hf) |>.symm
  obtain rfl : fn = Tryz.f7 := (Option.some.inj (Tryz.func7.symm.trans hfn)).symm
  refine ⟨by kernel_rfl, fun j t ht => ?_⟩
  have h : (Tryz.f7.params.all fun t => !Tryz.prog.wantsStandIn t) = true := by kernel_rfl
  have := Array.all_eq_true'.1 h t (Array.mem_of_getElem? ht)
  show Tryz.prog.wantsStandIn t = false
  simpa using this
theorem simplifyBranch_holds : Rows.SimplifyBranchCardSaid :=
  Claim7.holds_tied_plain_at .later [] _ _ _ _ simplifyBranch_said (fun _ h => by cases h) (by as_aux_lemma => kernel_rfl) (fun _ h => by cases h) simplifyBranch_row_tie rfl ⟨rfl, rfl⟩ (by as_aux_lemma => kernel_rfl) rfl simplifyBranch_plain (by as_aux_lemma => kernel_rfl)
end Go.Proofs.YtlidimmfpfockaaGreatDoor
