/- The law FlagfuseValues answers true for every input and leaves its arguments as they were; no condition but the row's own. -/
import Derived.Test.YtlfkighdmheniaaDoorEd
import Derived.Test.YtlfkighdmheniaaDoorWc
import Derived.Test.YtlfkighdmheniaaDoorCards
import Derived.Test.YtlfkighdmheniaaDoorTie
namespace Go.Proofs.YtlfkighdmheniaaDoor
open Go.RowKit Go.ChangeShapes Go.WideShapes
set_option maxRecDepth 100000
def flagfuseValues_reads (H : Type) : List (DataW H) × List (DataW H) × List MemPlace := ([.lit (.int .i64 0), .lit (.int .u32 0), .lit (.int .u32 0)], [], [])
theorem u32_wf {n : Int} (h : (Lit.int .u32 n).wf = true) : 0 ≤ n ∧ n < 4294967296 := by
  simp only [Lit.wf, Bool.and_eq_true, decide_eq_true_eq] at h
  have h1 : IntKind.u32.min = 0 := rfl
  have h2 : IntKind.u32.max = 4294967295 := rfl
  omega
theorem flagfuseValues_contract (H : Type) (enc : TypeId × Value → H) (W : World) (base : Nat) (args : Array Value) (ds gs : List (DataW H)) (before : List MemPlace)
    (hval : ∀ (j : Nat) t v, Tryd.f9.params[j]? = some t → args[j]? = some v → Value.okWide Tryd.prog W .any base t v)
    (hW : DataW.Whole enc Tryd.prog Tryd.f9.params.toList Rows.flagfuseValuesSpec.vars false W args.toList ds gs before) :
    Calls Tryd.prog 9 args W fun e W' => ∃ v, e = .returned v ∧ Rows.flagfuseValuesSpec.post enc Tryd.prog Tryd.f9 false true false false W args v W' := by
  have hW' := hW
  obtain ⟨p, q, hA0, hV, rfl, _, _⟩ := hW
  have hA : DataW.TrodAll enc Tryd.prog W 0 (fun _ => true) true Tryd.f9.params.toList args.toList ds p := hA0
  rw [Tryd.params9] at hA hval
  obtain ⟨v0, v1, v2, d0, d1, d2, p0, p1, p2, rfl, rfl, rfl, h0, h1, h2⟩ := trodAll_three hA
  obtain ⟨x, rfl, rfl, rfl, wx⟩ := open_int Tryd.underlying3 (hval 0 3 v0 rfl rfl) h0
  obtain ⟨a, rfl, rfl, rfl, wa⟩ := open_int Tryd.underlying22 (hval 1 22 v1 rfl rfl) h1
  obtain ⟨b, rfl, rfl, rfl, wb⟩ := open_int Tryd.underlying22 (hval 2 22 v2 rfl rfl) h2
  have hargs : ArgL W [aI .i64 x, aI .u32 a, aI .u32 b] [.int .i64 x, .int .u32 a, .int .u32 b] := .cons (arg_v rfl) (.cons (arg_v rfl) (.cons (arg_v rfl) (.nil W)))
  refine (ffv_af x a b (u32_wf wa) (u32_wf wb) (fun _ => False) W _ (fun _ h => h.elim) hargs.shp hargs.mem).mono ?_
  rintro e W' ⟨v, rfl, hv, hx⟩
  obtain rfl : v = .bool true := by simpa [Shp] using hv.1
  exact ⟨_, rfl, post_true (by kernel_rfl) (by kernel_rfl) rfl (tb := 4) (by kernel_rfl) Tryd.underlying4 hW' (fun h => by subst h; rfl) hx⟩
theorem flagfuseValues_lifted (os : Os) (started : os.Started) (H : Type) (enc : TypeId × Value → H) (F : Stop.Interp) :
    ReturnsInHanded {} Tryd.checked os 9 .any ((OpenSpec.ofChange Rows.flagfuseValuesSpec).preRow enc Tryd.prog Tryd.f9 Rows.flagfuseValuesRow.domain false Rows.flagfuseValuesRow.laid) (((OpenSpec.ofChange Rows.flagfuseValuesSpec).at F).post enc Tryd.prog Tryd.f9 false true false false) := by
  refine returnsInHanded_of_row (C := Tryd.checked) (s := OpenSpec.ofChange Rows.flagfuseValuesSpec) (by kernel_rfl) started (by kernel_rfl) Tryd.func9
    (witness_laid (enc := enc) (C := Tryd.checked) (laid := Rows.flagfuseValuesRow.laid) #[.int .i64 0, .int .u32 0, .int .u32 0]
      (World.shaped_of_ZipB (by kernel_rfl) (by kernel_rfl)) (by kernel_rfl)
      (OpenSpec.preRow_of_cond 9 (x := flagfuseValues_reads H) (by kernel_rfl) (by kernel_rfl) (fun k hk => by cases hk) (by kernel_rfl) (laidMet_laidAll _ (by kernel_rfl) (by kernel_rfl)))) ?_
  intro W base args ds gs before hval hW _ hcond _ hL _ _
  exact flagfuseValues_contract H enc W base args ds gs before hval hW
theorem flagfuseValues_said : Rows.FlagfuseValuesSaid :=
  OpenClaim.holds_of_cond 9 Tryd.f9 rfl rfl rfl rfl rfl rfl rfl ⟨rfl, rfl, rfl, rfl, rfl⟩ rfl rfl rfl rfl rfl (by kernel_rfl) Tryd.func9 (by kernel_rfl)
    (of_decide_eq_true (by kernel_rfl)) (by unfold Func.isWrapper; first | (rw [if_pos (by decide +kernel)]; kernel_rfl) | (rw [if_neg (by decide +kernel)]; exact ⟨rfl, rfl⟩))
    (fun os started H enc _ F => by rw [OpenClaim.pre_eq_preRow]; exact flagfuseValues_lifted os started H enc F)
theorem flagfuseValues_plain (f : FuncId) (fn : Func) (hf : Tryd.pinned.checked.prog.funcNamed Rows.flagfuseValuesRow.func = some f) (hfn : Tryd.pinned.checked.prog.funcs[f]? = some fn) :
    false = Tryd.pinned.checked.prog.looks [] ∧ ∀ (j : Nat) t, fn.params[j]? = some t → Tryd.pinned.checked.prog.wantsStandIn t = false := by
  obtain rfl : f = 9 := Option.some.inj ((show Tryd.prog.funcNamed Rows.flagfuseValuesRow.func = some 9 by kernel_rfl).symm.trans hf) |>.symm
  obtain rfl : fn = Tryd.f9 := (Option.some.inj (Tryd.func9.symm.trans hfn)).symm
  refine ⟨by kernel_rfl, fun j t ht => ?_⟩
  have h : (Tryd.f9.params.all fun t => !Tryd.prog.wantsStandIn t) = true := by kernel_rfl
  have := Array.all_eq_true'.1 h t (Array.mem_of_getElem? ht)
  show Tryd.prog.wantsStandIn t = false
  simpa using this
theorem flagfuseValues_holds : Rows.FlagfuseValuesCardSaid :=
  Claim7.holds_tied_plain_at .later [] _ _ _ _ flagfuseValues_said (fun _ h => by cases h) (by kernel_rfl) (fun _ h => by cases h) flagfuseValues_row_tie rfl ⟨rfl, rfl⟩ (by kernel_rfl) rfl flagfuseValues_plain (by kernel_rfl)
end Go.Proofs.YtlfkighdmheniaaDoor
