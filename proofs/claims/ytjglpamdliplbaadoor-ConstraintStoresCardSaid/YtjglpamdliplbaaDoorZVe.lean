/- The law ConstraintStores answers true for every input; no condition but the row's own. -/
import Derived.Test.YtjglpamdliplbaaDoorZT
import Derived.Test.YtjglpamdliplbaaDoorZY
import Derived.Test.YtjglpamdliplbaaDoorVej
import Derived.Test.YtjglpamdliplbaaDoorCards
import Derived.Test.YtjglpamdliplbaaDoorTie
set_option linter.unusedSimpArgs false
set_option linter.unusedVariables false
set_option linter.unnecessarySimpa false
/- The law ConstraintStores answers true for every input; no condition but the row's own. -/
namespace Go.Proofs.YtjglpamdliplbaaDoor
open Go.RowKit Go.ChangeShapes Go.WideShapes
set_option maxRecDepth 100000
def constraintStores_reads (H : Type) : List (DataW H) × List (DataW H) × List MemPlace := ([.lit (.int .i64 0), .lit (.int .i64 0), .lit (.int .u32 0), .lit (.int .i64 0), .lit (.int .i64 0)], [], [])
theorem constraintStores_contract (H : Type) (enc : TypeId × Value → H) (W : World) (base : Nat) (args : Array Value) (ds gs : List (DataW H)) (before : List MemPlace)
    (hval : ∀ (j : Nat) t v, Tryd.f4.params[j]? = some t → args[j]? = some v → Value.okWide Tryd.prog W .any base t v)
    (hW : DataW.Whole enc Tryd.prog Tryd.f4.params.toList Rows.constraintStoresSpec.vars false W args.toList ds gs before) (hG : GbIs W) :
    Calls Tryd.prog 4 args W fun e W' => ∃ v, e = .returned v ∧ Rows.constraintStoresSpec.post enc Tryd.prog Tryd.f4 false true false false W args v W' := by
  have hW' := hW
  obtain ⟨p, q, hA0, hV, rfl, _, _⟩ := hW
  have hA : DataW.TrodAll enc Tryd.prog W 0 (fun _ => true) true Tryd.f4.params.toList args.toList ds p := hA0
  rw [Tryd.params4] at hA hval
  obtain ⟨v0, v1, v2, v3, v4, d0, d1, d2, d3, d4, p0, p1, p2, p3, p4, rfl, rfl, h0, h1, h2, h3, h4⟩ := trodAll_five hA
  obtain ⟨n0, rfl, rfl, rfl, w0⟩ := open_int Tryd.underlying3 (hval 0 3 v0 rfl rfl) h0
  obtain ⟨n1, rfl, rfl, rfl, w1⟩ := open_int Tryd.underlying3 (hval 1 3 v1 rfl rfl) h1
  obtain ⟨n2, rfl, rfl, rfl, w2⟩ := open_int Tryd.underlying22 (hval 2 22 v2 rfl rfl) h2
  obtain ⟨n3, rfl, rfl, rfl, w3⟩ := open_int Tryd.underlying3 (hval 3 3 v3 rfl rfl) h3
  obtain ⟨n4, rfl, rfl, rfl, w4⟩ := open_int Tryd.underlying3 (hval 4 3 v4 rfl rfl) h4
  have hargs : ArgL W [aI .i64 n0, aI .i64 n1, aI .u32 n2, aI .i64 n3, aI .i64 n4] [.int .i64 n0, .int .i64 n1, .int .u32 n2, .int .i64 n3, .int .i64 n4] := .cons (arg_v rfl) (.cons (arg_v rfl) (.cons (arg_v rfl) (.cons (arg_v rfl) (.cons (arg_v rfl) (.nil W)))))
  refine (lawstores32_af n0 n1 n2 n3 n4 (u32_r32 w2) (fun _ => False) W _ (hok_of hG) hargs.shp hargs.mem).mono ?_
  rintro e W' ⟨v, rfl, hv, hx⟩
  obtain rfl : v = .bool true := by simpa [Shp] using hv.1
  exact ⟨_, rfl, post_true (by kernel_rfl) (by kernel_rfl) rfl (tb := 4) (by kernel_rfl) Tryd.underlying4 hW' (fun h => by subst h; rfl) hx⟩
theorem constraintStores_lifted (os : Os) (started : os.Started) (H : Type) (enc : TypeId × Value → H) (F : Stop.Interp) :
    ReturnsInHanded {} Tryd.checked os 4 .any ((OpenSpec.ofChange Rows.constraintStoresSpec).preRow enc Tryd.prog Tryd.f4 Rows.constraintStoresRow.domain false Rows.constraintStoresRow.laid) (((OpenSpec.ofChange Rows.constraintStoresSpec).at F).post enc Tryd.prog Tryd.f4 false true false false) := by
  refine returnsInHanded_of_row (C := Tryd.checked) (s := OpenSpec.ofChange Rows.constraintStoresSpec) (by kernel_rfl) started (by kernel_rfl) Tryd.func4
    (witness_laid (enc := enc) (C := Tryd.checked) (laid := Rows.constraintStoresRow.laid) #[.int .i64 0, .int .i64 0, .int .u32 0, .int .i64 0, .int .i64 0]
      (World.shaped_of_ZipB (by kernel_rfl) (by kernel_rfl)) (by kernel_rfl)
      (OpenSpec.preRow_of_cond 9 (x := constraintStores_reads H) (by kernel_rfl) (by kernel_rfl) (fun k hk => by cases hk) (by kernel_rfl) (laidMet_laidAll _ (by kernel_rfl) (by kernel_rfl)))) ?_
  intro W base args ds gs before hval hW _ hcond _ hL _ _
  exact constraintStores_contract H enc W base args ds gs before hval hW (gb_ofC (by kernel_rfl) (by kernel_rfl) hL)
theorem constraintStores_said : Rows.ConstraintStoresSaid :=
  OpenClaim.holds_of_cond 4 Tryd.f4 rfl rfl rfl rfl rfl rfl rfl ⟨rfl, rfl, rfl, rfl, rfl⟩ rfl rfl rfl rfl rfl (by kernel_rfl) Tryd.func4 constraintStores_joined
    (of_decide_eq_true (by kernel_rfl)) (by unfold Func.isWrapper; first | (rw [if_pos (by decide +kernel)]; kernel_rfl) | (rw [if_neg (by decide +kernel)]; exact ⟨rfl, rfl⟩))
    (fun os started H enc _ F => by rw [OpenClaim.pre_eq_preRow]; exact constraintStores_lifted os started H enc F)
theorem constraintStores_plain (f : FuncId) (fn : Func) (hf : Tryd.pinned.checked.prog.funcNamed Rows.constraintStoresRow.func = some f) (hfn : Tryd.pinned.checked.prog.funcs[f]? = some fn) :
    false = Tryd.pinned.checked.prog.looks [] ∧ ∀ (j : Nat) t, fn.params[j]? = some t → Tryd.pinned.checked.prog.wantsStandIn t = false := by
  obtain rfl : f = 4 := Option.some.inj ((show Tryd.prog.funcNamed Rows.constraintStoresRow.func = some 4 by kernel_rfl).symm.trans hf) |>.symm
  obtain rfl : fn = Tryd.f4 := (Option.some.inj (Tryd.func4.symm.trans hfn)).symm
  refine ⟨by kernel_rfl, fun j t ht => ?_⟩
  have h : (Tryd.f4.params.all fun t => !Tryd.prog.wantsStandIn t) = true := by kernel_rfl
  have := Array.all_eq_true'.1 h t (Array.mem_of_getElem? ht)
  show Tryd.prog.wantsStandIn t = false
  simpa using this
theorem constraintStores_holds : Rows.ConstraintStoresCardSaid :=
  Claim7.holds_tied_plain_at .later [] _ _ _ _ constraintStores_said (fun _ h => by cases h) (by as_aux_lemma => kernel_rfl) (fun _ h => by cases h) constraintStores_row_tie rfl ⟨rfl, rfl⟩ (by as_aux_lemma => kernel_rfl) rfl constraintStores_plain (by as_aux_lemma => kernel_rfl)
end Go.Proofs.YtjglpamdliplbaaDoor
