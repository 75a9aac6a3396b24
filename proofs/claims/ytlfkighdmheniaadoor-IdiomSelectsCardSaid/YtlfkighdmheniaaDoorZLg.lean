/- The law IdiomSelects answers true for every input and leaves its arguments as they were; no condition but the row's own. -/
import Derived.Carry
import Derived.Test.YtlfkighdmheniaaDoorZK
import Derived.Test.YtlfkighdmheniaaDoorZX
import Derived.Test.YtlfkighdmheniaaDoorCards
import Derived.Test.YtlfkighdmheniaaDoorTie
set_option linter.unusedSimpArgs false
set_option linter.unusedVariables false
set_option linter.unnecessarySimpa false
/- The law IdiomSelects answers true for every input and leaves its arguments as they were; no condition but the row's own. -/
namespace Go.Proofs.YtlfkighdmheniaaDoor
open Go.RowKit Go.ChangeShapes Go.WideShapes
set_option maxRecDepth 100000
def idiomSelects_reads (H : Type) : List (DataW H) × List (DataW H) × List MemPlace := ([exLit H, exLit H, .nil, .lit (.int .u8 0)], [], [])
theorem idiomSelects_contract (H : Type) (enc : TypeId × Value → H) (W : World) (base : Nat) (args : Array Value) (ds gs : List (DataW H)) (before : List MemPlace)
    (hval : ∀ (j : Nat) t v, Tryd.f7.params[j]? = some t → args[j]? = some v → Value.okWide Tryd.prog W .any base t v)
    (hW : DataW.Whole enc Tryd.prog Tryd.f7.params.toList Rows.idiomSelectsSpec.vars false W args.toList ds gs before) (hG : GbIs W) :
    Calls Tryd.prog 7 args W fun e W' => ∃ v, e = .returned v ∧ Rows.idiomSelectsSpec.post enc Tryd.prog Tryd.f7 false true false false W args v W' := by
  have hW' := hW
  obtain ⟨p, q, hA0, hV, rfl, _, _⟩ := hW
  have hA : DataW.TrodAll enc Tryd.prog W 0 (fun _ => true) true Tryd.f7.params.toList args.toList ds p := hA0
  rw [Tryd.params7] at hA hval
  obtain ⟨v0, v1, v2, v3, d0, d1, d2, d3, p0, p1, p2, p3, rfl, rfl, rfl, h0, h1, h2, h3⟩ := trodAll_four hA
  obtain ⟨x, xf, _, hx⟩ := arg_ex (hval 0 25 v0 rfl rfl) h0
  obtain ⟨y, yf, _, hy⟩ := arg_ex (hval 1 25 v1 rfl rfl) h1
  obtain ⟨V, hVr, hV1, hV2⟩ := arg_u32s (hval 2 33 v2 rfl rfl) h2
  obtain ⟨b, rfl, rfl, rfl, wb⟩ := open_int Tryd.underlying5 (hval 3 5 v3 rfl rfl) h3
  have hargs : ArgL W [exA x, exA y, .d (.sl 1 (u32s V)), aI .u8 b] [v0, v1, v2, .int .u8 b] := .cons hx (.cons hy (.cons ⟨hV1, hV2⟩ (.cons (arg_v rfl) (.nil W))))
  refine (lawselects_af x y V b (okN_of_fits x xf) (okN_of_fits y yf) hVr (fun _ => False) W _ (hok_of hG) hargs.shp hargs.mem).mono ?_
  rintro e W' ⟨v, rfl, hv, hx⟩
  obtain rfl : v = .bool true := by simpa [Shp] using hv.1
  exact ⟨_, rfl, post_true (by kernel_rfl) (by kernel_rfl) rfl (tb := 4) (by kernel_rfl) Tryd.underlying4 hW' (fun h => by subst h; rfl) hx⟩
theorem idiomSelects_lifted (os : Os) (started : os.Started) (H : Type) (enc : TypeId × Value → H) (F : Stop.Interp) :
    ReturnsInHanded {} Tryd.checked os 7 .any ((OpenSpec.ofChange Rows.idiomSelectsSpec).preRow enc Tryd.prog Tryd.f7 Rows.idiomSelectsRow.domain false Rows.idiomSelectsRow.laid) (((OpenSpec.ofChange Rows.idiomSelectsSpec).at F).post enc Tryd.prog Tryd.f7 false true false false) := by
  refine returnsInHanded_of_row (C := Tryd.checked) (s := OpenSpec.ofChange Rows.idiomSelectsSpec) (by kernel_rfl) started (by kernel_rfl) Tryd.func7
    (witness_laid (enc := enc) (C := Tryd.checked) (laid := Rows.idiomSelectsRow.laid) #[.agg #[.int .i64 0, .int .u32 0, .int .i64 0, .int .i64 0, .slice none 0 0], .agg #[.int .i64 0, .int .u32 0, .int .i64 0, .int .i64 0, .slice none 0 0], .slice none 0 0, .int .u8 0]
      (World.shaped_of_ZipB (by kernel_rfl) (by kernel_rfl)) (by kernel_rfl)
      (OpenSpec.preRow_of_cond 9 (x := idiomSelects_reads H) (by kernel_rfl) (by kernel_rfl) (fun k hk => by cases hk) (by kernel_rfl) (laidMet_laidAll _ (by kernel_rfl) (by kernel_rfl)))) ?_
  intro W base args ds gs before hval hW _ hcond _ hL _ _
  exact idiomSelects_contract H enc W base args ds gs before hval hW (gb_of (by kernel_rfl) hL)
theorem idiomSelects_said : Rows.IdiomSelectsSaid :=
  OpenClaim.holds_of_cond 7 Tryd.f7 rfl rfl rfl rfl rfl rfl rfl ⟨rfl, rfl, rfl, rfl, rfl⟩ rfl rfl rfl rfl rfl (by kernel_rfl) Tryd.func7 (by kernel_rfl)
    (of_decide_eq_true (by kernel_rfl)) (by unfold Func.isWrapper; first | (rw [if_pos (by decide +kernel)]; kernel_rfl) | (rw [if_neg (by decide +kernel)]; exact ⟨rfl, rfl⟩))
    (fun os started H enc _ F => by rw [OpenClaim.pre_eq_preRow]; exact idiomSelects_lifted os started H enc F)
theorem idiomSelects_plain (f : FuncId) (fn : Func) (hf : Tryd.pinned.checked.prog.funcNamed Rows.idiomSelectsRow.func = some f) (hfn : Tryd.pinned.checked.prog.funcs[f]? = some fn) :
    false = Tryd.pinned.checked.prog.looks [] ∧ ∀ (j : Nat) t, fn.params[j]? = some t → Tryd.pinned.checked.prog.wantsStandIn t = false := by
  obtain rfl : f = 7 := Option.some.inj ((show Tryd.prog.funcNamed Rows.idiomSelectsRow.func = some 7 by kernel_rfl).symm.trans hf) |>.symm
  obtain rfl : fn = Tryd.f7 := (Option.some.inj (Tryd.func7.symm.trans hfn)).symm
  refine ⟨by kernel_rfl, fun j t ht => ?_⟩
  have h : (Tryd.f7.params.all fun t => !Tryd.prog.wantsStandIn t) = true := by kernel_rfl
  have := Array.all_eq_true'.1 h t (Array.mem_of_getElem? ht)
  show Tryd.prog.wantsStandIn t = false
  simpa using this
theorem idiomSelects_holds : Rows.IdiomSelectsCardSaid :=
  Claim7.holds_tied_plain_at .later [] _ _ _ _ idiomSelects_said (fun _ h => by cases h) (by kernel_rfl) (fun _ h => by cases h) idiomSelects_row_tie rfl ⟨rfl, rfl⟩ (by kernel_rfl) rfl idiomSelects_plain (by kernel_rfl)
end Go.Proofs.YtlfkighdmheniaaDoor
