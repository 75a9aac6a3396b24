/- The law FlagfuseConditions answers true for every input and leaves its arguments as they were; no condition but the row's own. -/
import Derived.Test.YtlfkighdmheniaaDoorDc
import Derived.Test.YtlfkighdmheniaaDoorWc
import Derived.Test.YtlfkighdmheniaaDoorCards
import Derived.Test.YtlfkighdmheniaaDoorTie
namespace Go.Proofs.YtlfkighdmheniaaDoor
open Go.RowKit Go.ChangeShapes Go.WideShapes
set_option maxRecDepth 100000
def flagfuseConditions_reads (H : Type) : List (DataW H) × List (DataW H) × List MemPlace := ([.lit (.int .i64 0), exLit H, exLit H, exLit H], [], [])
theorem flagfuseConditions_contract (H : Type) (enc : TypeId × Value → H) (W : World) (base : Nat) (args : Array Value) (ds gs : List (DataW H)) (before : List MemPlace)
    (hval : ∀ (j : Nat) t v, Tryd.f3.params[j]? = some t → args[j]? = some v → Value.okWide Tryd.prog W .any base t v)
    (hW : DataW.Whole enc Tryd.prog Tryd.f3.params.toList Rows.flagfuseConditionsSpec.vars false W args.toList ds gs before) :
    Calls Tryd.prog 3 args W fun e W' => ∃ v, e = .returned v ∧ Rows.flagfuseConditionsSpec.post enc Tryd.prog Tryd.f3 false true false false W args v W' := by
  have hW' := hW
  obtain ⟨p, q, hA0, hV, rfl, _, _⟩ := hW
  have hA : DataW.TrodAll enc Tryd.prog W 0 (fun _ => true) true Tryd.f3.params.toList args.toList ds p := hA0
  rw [Tryd.params3] at hA hval
  obtain ⟨v0, v1, v2, v3, d0, d1, d2, d3, p0, p1, p2, p3, rfl, rfl, rfl, h0, h1, h2, h3⟩ := trodAll_four hA
  obtain ⟨x, rfl, rfl, rfl, wx⟩ := open_int Tryd.underlying3 (hval 0 3 v0 rfl rfl) h0
  obtain ⟨a, _, _, ha⟩ := arg_ex (hval 1 25 v1 rfl rfl) h1
  obtain ⟨b, _, _, hb⟩ := arg_ex (hval 2 25 v2 rfl rfl) h2
  obtain ⟨e, _, _, he⟩ := arg_ex (hval 3 25 v3 rfl rfl) h3
  have hargs : ArgL W [aI .i64 x, exA a, exA b, exA e] [.int .i64 x, v1, v2, v3] := .cons (arg_v rfl) (.cons ha (.cons hb (.cons he (.nil W))))
  refine (ff_af x a b e (fun _ => False) W _ (fun _ h => h.elim) hargs.shp hargs.mem).mono ?_
  rintro e W' ⟨v, rfl, hv, hx⟩
  obtain rfl : v = .bool true := by simpa [Shp] using hv.1
  exact ⟨_, rfl, post_true (by kernel_rfl) (by kernel_rfl) rfl (tb := 4) (by kernel_rfl) Tryd.underlying4 hW' (fun h => by subst h; rfl) hx⟩
theorem flagfuseConditions_lifted (os : Os) (started : os.Started) (H : Type) (enc : TypeId × Value → H) (F : Stop.Interp) :
    ReturnsInHanded {} Tryd.checked os 3 .any ((OpenSpec.ofChange Rows.flagfuseConditionsSpec).preRow enc Tryd.prog Tryd.f3 Rows.flagfuseConditionsRow.domain false Rows.flagfuseConditionsRow.laid) (((OpenSpec.ofChange Rows.flagfuseConditionsSpec).at F).post enc Tryd.prog Tryd.f3 false true false false) := by
  refine returnsInHanded_of_row (C := Tryd.checked) (s := OpenSpec.ofChange Rows.flagfuseConditionsSpec) (by kernel_rfl) started (by kernel_rfl) Tryd.func3
    (witness_laid (enc := enc) (C := Tryd.checked) (laid := Rows.flagfuseConditionsRow.laid) #[.int .i64 0, .agg #[.int .i64 0, .int .u32 0, .int .i64 0, .int .i64 0, .slice none 0 0], .agg #[.int .i64 0, .int .u32 0, .int .i64 0, .int .i64 0, .slice none 0 0], .agg #[.int .i64 0, .int .u32 0, .int .i64 0, .int .i64 0, .slice none 0 0]]
      (World.shaped_of_ZipB (by kernel_rfl) (by kernel_rfl)) (by kernel_rfl)
      (OpenSpec.preRow_of_cond 9 (x := flagfuseConditions_reads H) (by kernel_rfl) (by kernel_rfl) (fun k hk => by cases hk) (by kernel_rfl) (laidMet_laidAll _ (by kernel_rfl) (by kernel_rfl)))) ?_
  intro W base args ds gs before hval hW _ hcond _ hL _ _
  exact flagfuseConditions_contract H enc W base args ds gs before hval hW
theorem flagfuseConditions_said : Rows.FlagfuseConditionsSaid :=
  OpenClaim.holds_of_cond 3 Tryd.f3 rfl rfl rfl rfl rfl rfl rfl ⟨rfl, rfl, rfl, rfl, rfl⟩ rfl rfl rfl rfl rfl (by kernel_rfl) Tryd.func3 (by kernel_rfl)
    (of_decide_eq_true (by kernel_rfl)) (by unfold Func.isWrapper; first | (rw [if_pos (by decide +kernel)]; kernel_rfl) | (rw [if_neg (by decide +kernel)]; exact ⟨rfl, rfl⟩))
    (fun os started H enc _ F => by rw [OpenClaim.pre_eq_preRow]; exact flagfuseConditions_lifted os started H enc F)
theorem flagfuseConditions_plain (f : FuncId) (fn : Func) (hf : Tryd.pinned.checked.prog.funcNamed Rows.flagfuseConditionsRow.func = some f) (hfn : Tryd.pinned.checked.prog.funcs[f]? = some fn) :
    false = Tryd.pinned.checked.prog.looks [] ∧ ∀ (j : Nat) t, fn.params[j]? = some t → Tryd.pinned.checked.prog.wantsStandIn t = false := by
  obtain rfl : f = 3 := Option.some.inj ((show Tryd.prog.funcNamed Rows.flagfuseConditionsRow.func = some 3 by kernel_rfl).symm.trans hf) |>.symm
  obtain rfl : fn = Tryd.f3 := (Option.some.inj (Tryd.func3.symm.trans hfn)).symm
  refine ⟨by kernel_rfl, fun j t ht => ?_⟩
  have h : (Tryd.f3.params.all fun t => !Tryd.prog.wantsStandIn t) = true := by kernel_rfl
  have := Array.all_eq_true'.1 h t (Array.mem_of_getElem? ht)
  show Tryd.prog.wantsStandIn t = false
  simpa using this
theorem flagfuseConditions_holds : Rows.FlagfuseConditionsCardSaid :=
  Claim7.holds_tied_plain_at .later [] _ _ _ _ flagfuseConditions_said (fun _ h => by cases h) (by kernel_rfl) (fun _ h => by cases h) flagfuseConditions_row_tie rfl ⟨rfl, rfl⟩ (by kernel_rfl) rfl flagfuseConditions_plain (by kernel_rfl)
end Go.Proofs.YtlfkighdmheniaaDoor
