/- The law IlConstructors answers true for every input and leaves its arguments as they were; no condition but the row's own. -/
import Derived.Test.YtfndoocgpmgalaaGreatDoorZP
import Derived.Test.YtfndoocgpmgalaaGreatDoorZY
import Derived.Test.YtfndoocgpmgalaaGreatDoorCards
import Derived.Test.YtfndoocgpmgalaaGreatDoorTie
set_option linter.unusedSimpArgs false
set_option linter.unusedVariables false
set_option linter.unnecessarySimpa false
/- The law IlConstructors answers true for every input and leaves its arguments as they were; no condition but the row's own. -/
namespace Go.Proofs.YtfndoocgpmgalaaGreatDoor
open Go.RowKit Go.ChangeShapes Go.WideShapes
set_option maxRecDepth 100000
def ilConstructors_reads (H : Type) : List (DataW H) × List (DataW H) × List MemPlace := ([.lit (.int .i64 0), .lit (.int .u32 0), .lit (.int .i64 0), .lit (.int .i64 0), exLit H, exLit H], [], [])
theorem ilConstructors_contract (H : Type) (enc : TypeId × Value → H) (W : World) (base : Nat) (args : Array Value) (ds gs : List (DataW H)) (before : List MemPlace)
    (hval : ∀ (j : Nat) t v, Tryz.f5.params[j]? = some t → args[j]? = some v → Value.okWide Tryz.prog W .any base t v)
    (hW : DataW.Whole enc Tryz.prog Tryz.f5.params.toList Rows.ilConstructorsSpec.vars false W args.toList ds gs before) (hG : GbIs W) :
    Calls Tryz.prog 5 args W fun e W' => ∃ v, e = .returned v ∧ Rows.ilConstructorsSpec.post enc Tryz.prog Tryz.f5 false true false false W args v W' := by
  have hW' := hW
  obtain ⟨p, q, hA0, hV, rfl, _, _⟩ := hW
  have hA : DataW.TrodAll enc Tryz.prog W 0 (fun _ => true) true Tryz.f5.params.toList args.toList ds p := hA0
  rw [Tryz.params5] at hA hval
  obtain ⟨v0, v1, v2, v3, v4, v5, d0, d1, d2, d3, d4, d5, p0, p1, p2, p3, p4, p5, rfl, rfl, h0, h1, h2, h3, h4, h5⟩ := trodAll_six hA
  obtain ⟨o, rfl, rfl, rfl, _⟩ := open_int Tryz.underlying3 (hval 0 3 v0 rfl rfl) h0
  obtain ⟨n, rfl, rfl, rfl, _⟩ := open_int Tryz.underlying22 (hval 1 22 v1 rfl rfl) h1
  obtain ⟨u, rfl, rfl, rfl, _⟩ := open_int Tryz.underlying3 (hval 2 3 v2 rfl rfl) h2
  obtain ⟨wd, rfl, rfl, rfl, _⟩ := open_int Tryz.underlying3 (hval 3 3 v3 rfl rfl) h3
  obtain ⟨x, xf, _, hx⟩ := arg_ex (hval 4 25 v4 rfl rfl) h4
  obtain ⟨y, yf, _, hy⟩ := arg_ex (hval 5 25 v5 rfl rfl) h5
  have hargs : ArgL W [aI .i64 o, aI .u32 n, aI .i64 u, aI .i64 wd, exA x, exA y] [.int .i64 o, .int .u32 n, .int .i64 u, .int .i64 wd, v4, v5] := .cons (arg_v rfl) (.cons (arg_v rfl) (.cons (arg_v rfl) (.cons (arg_v rfl) (.cons hx (.cons hy (.nil W))))))
  refine (lawcons19_af o n u wd x y (fun _ => False) W _ (hok_of hG) hargs.shp hargs.mem).mono ?_
  rintro e W' ⟨v, rfl, hv, hx⟩
  obtain rfl : v = .bool true := by simpa [Shp] using hv.1
  exact ⟨_, rfl, post_true (by kernel_rfl) (by kernel_rfl) rfl (tb := 4) (by kernel_rfl) Tryz.underlying4 hW' (fun h => by subst h; rfl) hx⟩
theorem ilConstructors_lifted (os : Os) (started : os.Started) (H : Type) (enc : TypeId × Value → H) (F : Stop.Interp) :
    ReturnsInHanded {} Tryz.checked os 5 .any ((OpenSpec.ofChange Rows.ilConstructorsSpec).preRow enc Tryz.prog Tryz.f5 Rows.ilConstructorsRow.domain false Rows.ilConstructorsRow.laid) (((OpenSpec.ofChange Rows.ilConstructorsSpec).at F).post enc Tryz.prog Tryz.f5 false true false false) := by
  refine returnsInHanded_of_row (C := Tryz.checked) (s := OpenSpec.ofChange Rows.ilConstructorsSpec) (by kernel_rfl) started (by kernel_rfl) Tryz.func5
    (witness_laid (enc := enc) (C := Tryz.checked) (laid := Rows.ilConstructorsRow.laid) #[.int .i64 0, .int .u32 0, .int .i64 0, .int .i64 0, .agg #[.int .i64 0, .int .u32 0, .int .i64 0, .int .i64 0, .slice none 0 0], .agg #[.int .i64 0, .int .u32 0, .int .i64 0, .int .i64 0, .slice none 0 0]]
      (World.shaped_of_ZipB (by kernel_rfl) (by kernel_rfl)) (by kernel_rfl)
      (OpenSpec.preRow_of_cond 9 (x := ilConstructors_reads H) (by kernel_rfl) (by kernel_rfl) (fun k hk => by cases hk) (by kernel_rfl) (laidMet_laidAll _ (by kernel_rfl) (by kernel_rfl)))) ?_
  intro W base args ds gs before hval hW _ hcond _ hL _ _
  exact ilConstructors_contract H enc W base args ds gs before hval hW (gb_ofB (by kernel_rfl) hL)
theorem ilConstructors_said : Rows.IlConstructorsSaid :=
  OpenClaim.holds_of_cond 5 Tryz.f5 rfl rfl rfl rfl rfl rfl rfl ⟨rfl, rfl, rfl, rfl, rfl⟩ rfl rfl rfl rfl rfl (by kernel_rfl) Tryz.func5 (by kernel_rfl)
    (of_decide_eq_true (by kernel_rfl)) (by unfold Func.isWrapper; first | (rw [if_pos (by decide +kernel)]; kernel_rfl) | (rw [if_neg (by decide +kernel)]; exact ⟨rfl, rfl⟩))
    (fun os started H enc _ F => by rw [OpenClaim.pre_eq_preRow]; exact ilConstructors_lifted os started H enc F)
theorem ilConstructors_plain (f : FuncId) (fn : Func) (hf : Tryz.pinned.checked.prog.funcNamed Rows.ilConstructorsRow.func = some f) (hfn : Tryz.pinned.checked.prog.funcs[f]? = some fn) :
    false = Tryz.pinned.checked.prog.looks [] ∧ ∀ (j : Nat) t, fn.params[j]? = some t → Tryz.pinned.checked.prog.wantsStandIn t = false := by
  obtain rfl : f = 5 := Option.some.inj ((show Tryz.prog.funcNamed Rows.ilConstructorsRow.func = some 5 by kernel_rfl).symm.trans hf) |>.symm
  obtain rfl : fn = Tryz.f5 := (Option.some.inj (Tryz.func5.symm.trans hfn)).symm
  refine ⟨by kernel_rfl, fun j t ht => ?_⟩
  have h : (Tryz.f5.params.all fun t => !Tryz.prog.wantsStandIn t) = true := by kernel_rfl
  have := Array.all_eq_true'.1 h t (Array.mem_of_getElem? ht)
  show Tryz.prog.wantsStandIn t = false
  simpa using this
theorem ilConstructors_holds : Rows.IlConstructorsCardSaid :=
  Claim7.holds_tied_plain_at .later [] _ _ _ _ ilConstructors_said (fun _ h => by cases h) (by kernel_rfl) (fun _ h => by cases h) ilConstructors_row_tie rfl ⟨rfl, rfl⟩ (by kernel_rfl) rfl ilConstructors_plain (by kernel_rfl)
end Go.Proofs.YtfndoocgpmgalaaGreatDoor
