/- The law IlReplace answers true for every input and leaves its arguments as they were; no condition but the row's own. -/
import Derived.Test.YtfndoocgpmgalaaGreatDoorZP
import Derived.Test.YtfndoocgpmgalaaGreatDoorZY
import Derived.Test.YtfndoocgpmgalaaGreatDoorCards
import Derived.Test.YtfndoocgpmgalaaGreatDoorTie
set_option linter.unusedSimpArgs false
set_option linter.unusedVariables false
set_option linter.unnecessarySimpa false
/- The law IlReplace answers true for every input and leaves its arguments as they were; no condition but the row's own. -/
namespace Go.Proofs.YtfndoocgpmgalaaGreatDoor
open Go.RowKit Go.ChangeShapes Go.WideShapes
set_option maxRecDepth 100000
def ilReplace_reads (H : Type) : List (DataW H) × List (DataW H) × List MemPlace := ([exLit H, .lit (.int .i64 0), exLit H, .lit (.int .u32 0)], [], [])
theorem ilReplace_contract (H : Type) (enc : TypeId × Value → H) (W : World) (base : Nat) (args : Array Value) (ds gs : List (DataW H)) (before : List MemPlace)
    (hval : ∀ (j : Nat) t v, Tryz.f3.params[j]? = some t → args[j]? = some v → Value.okWide Tryz.prog W .any base t v)
    (hW : DataW.Whole enc Tryz.prog Tryz.f3.params.toList Rows.ilReplaceSpec.vars false W args.toList ds gs before) (hG : GbIs W) :
    Calls Tryz.prog 3 args W fun e W' => ∃ v, e = .returned v ∧ Rows.ilReplaceSpec.post enc Tryz.prog Tryz.f3 false true false false W args v W' := by
  have hW' := hW
  obtain ⟨p, q, hA0, hV, rfl, _, _⟩ := hW
  have hA : DataW.TrodAll enc Tryz.prog W 0 (fun _ => true) true Tryz.f3.params.toList args.toList ds p := hA0
  rw [Tryz.params3] at hA hval
  obtain ⟨v0, v1, v2, v3, d0, d1, d2, d3, p0, p1, p2, p3, rfl, rfl, rfl, h0, h1, h2, h3⟩ := trodAll_four hA
  obtain ⟨x, xf, _, hx⟩ := arg_ex (hval 0 25 v0 rfl rfl) h0
  obtain ⟨n, rfl, rfl, rfl, wn⟩ := open_int Tryz.underlying3 (hval 1 3 v1 rfl rfl) h1
  obtain ⟨y, yf, _, hy⟩ := arg_ex (hval 2 25 v2 rfl rfl) h2
  obtain ⟨s, rfl, rfl, rfl, ws⟩ := open_int Tryz.underlying22 (hval 3 22 v3 rfl rfl) h3
  have hargs : ArgL W [exA x, aI .i64 n, exA y, aI .u32 s] [v0, .int .i64 n, v2, .int .u32 s] := .cons hx (.cons (arg_v rfl) (.cons hy (.cons (arg_v rfl) (.nil W))))
  refine (lawrepl19_af x y n s (u32_r32 ws) (okN_of_fits x xf) (okN_of_fits y yf) (fun _ => False) W _ (hok_of hG) hargs.shp hargs.mem).mono ?_
  rintro e W' ⟨v, rfl, hv, hx⟩
  obtain rfl : v = .bool true := by simpa [Shp] using hv.1
  exact ⟨_, rfl, post_true (by kernel_rfl) (by kernel_rfl) rfl (tb := 4) (by kernel_rfl) Tryz.underlying4 hW' (fun h => by subst h; rfl) hx⟩
theorem ilReplace_lifted (os : Os) (started : os.Started) (H : Type) (enc : TypeId × Value → H) (F : Stop.Interp) :
    ReturnsInHanded {} Tryz.checked os 3 .any ((OpenSpec.ofChange Rows.ilReplaceSpec).preRow enc Tryz.prog Tryz.f3 Rows.ilReplaceRow.domain false Rows.ilReplaceRow.laid) (((OpenSpec.ofChange Rows.ilReplaceSpec).at F).post enc Tryz.prog Tryz.f3 false true false false) := by
  refine returnsInHanded_of_row (C := Tryz.checked) (s := OpenSpec.ofChange Rows.ilReplaceSpec) (by kernel_rfl) started (by kernel_rfl) Tryz.func3
    (witness_laid (enc := enc) (C := Tryz.checked) (laid := Rows.ilReplaceRow.laid) #[.agg #[.int .i64 0, .int .u32 0, .int .i64 0, .int .i64 0, .slice none 0 0], .int .i64 0, .agg #[.int .i64 0, .int .u32 0, .int .i64 0, .int .i64 0, .slice none 0 0], .int .u32 0]
      (World.shaped_of_ZipB (by kernel_rfl) (by kernel_rfl)) (by kernel_rfl)
      (OpenSpec.preRow_of_cond 9 (x := ilReplace_reads H) (by kernel_rfl) (by kernel_rfl) (fun k hk => by cases hk) (by kernel_rfl) (laidMet_laidAll _ (by kernel_rfl) (by kernel_rfl)))) ?_
  intro W base args ds gs before hval hW _ hcond _ hL _ _
  exact ilReplace_contract H enc W base args ds gs before hval hW (gb_ofB (by kernel_rfl) hL)
theorem ilReplace_said : Rows.IlReplaceSaid :=
  OpenClaim.holds_of_cond 3 Tryz.f3 rfl rfl rfl rfl rfl rfl rfl ⟨rfl, rfl, rfl, rfl, rfl⟩ rfl rfl rfl rfl rfl (by kernel_rfl) Tryz.func3 (by kernel_rfl)
    (of_decide_eq_true (by kernel_rfl)) (by unfold Func.isWrapper; first | (rw [if_pos (by decide +kernel)]; kernel_rfl) | (rw [if_neg (by decide +kernel)]; exact ⟨rfl, rfl⟩))
    (fun os started H enc _ F => by rw [OpenClaim.pre_eq_preRow]; exact ilReplace_lifted os started H enc F)
theorem ilReplace_plain (f : FuncId) (fn : Func) (hf : Tryz.pinned.checked.prog.funcNamed Rows.ilReplaceRow.func = some f) (hfn : Tryz.pinned.checked.prog.funcs[f]? = some fn) :
    false = Tryz.pinned.checked.prog.looks [] ∧ ∀ (j : Nat) t, fn.params[j]? = some t → Tryz.pinned.checked.prog.wantsStandIn t = false := by
  obtain rfl : f = 3 := Option.some.inj ((show Tryz.prog.funcNamed Rows.ilReplaceRow.func = some 3 by kernel_rfl).symm.trans hf) |>.symm
  obtain rfl : fn = Tryz.f3 := (Option.some.inj (Tryz.func3.symm.trans hfn)).symm
  refine ⟨by kernel_rfl, fun j t ht => ?_⟩
  have h : (Tryz.f3.params.all fun t => !Tryz.prog.wantsStandIn t) = true := by kernel_rfl
  have := Array.all_eq_true'.1 h t (Array.mem_of_getElem? ht)
  show Tryz.prog.wantsStandIn t = false
  simpa using this
theorem ilReplace_holds : Rows.IlReplaceCardSaid :=
  Claim7.holds_tied_plain_at .later [] _ _ _ _ ilReplace_said (fun _ h => by cases h) (by kernel_rfl) (fun _ h => by cases h) ilReplace_row_tie rfl ⟨rfl, rfl⟩ (by kernel_rfl) rfl ilReplace_plain (by kernel_rfl)
end Go.Proofs.YtfndoocgpmgalaaGreatDoor
