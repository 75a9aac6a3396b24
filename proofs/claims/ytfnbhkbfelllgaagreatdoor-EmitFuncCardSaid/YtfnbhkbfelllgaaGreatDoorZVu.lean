import Derived.Test.YtfnbhkbfelllgaaGreatDoorZE
import Derived.Test.YtfnbhkbfelllgaaGreatDoorZY
import Derived.Test.YtfnbhkbfelllgaaGreatDoorVuj
import Derived.Test.YtfnbhkbfelllgaaGreatDoorCards
import Derived.Test.YtfnbhkbfelllgaaGreatDoorTie
set_option linter.all false
namespace Go.Proofs.YtfnbhkbfelllgaaGreatDoor
open Go.RowKit Go.ChangeShapes Go.WideShapes
set_option maxRecDepth 100000
def emitFunc_reads (H : Type) : List (DataW H) × List (DataW H) × List MemPlace := ([grLit H, ndLit H, .nil, .nil], [], [])
theorem emitFunc_contract (H : Type) (enc : TypeId × Value → H) (W : World) (base : Nat) (args : Array Value) (ds gs : List (DataW H)) (before : List MemPlace)
 (hval : ∀ (j : Nat) t v, Tryz.f3.params[j]? = some t → args[j]? = some v → Value.okWide Tryz.prog W .any base t v)
 (hW : DataW.Whole enc Tryz.prog Tryz.f3.params.toList Rows.emitFuncSpec.vars false W args.toList ds gs before) (hG : GbIs W) :
 Calls Tryz.prog 3 args W fun e W' => ∃ v, e = .returned v ∧ Rows.emitFuncSpec.post enc Tryz.prog Tryz.f3 false true false false W args v W' := by
 have hW' := hW
 obtain ⟨p, q, hA0, hV, rfl, _, _⟩ := hW
 have hA : DataW.TrodAll enc Tryz.prog W 0 (fun _ => true) true Tryz.f3.params.toList args.toList ds p := hA0
 rw [Tryz.params3] at hA hval
 obtain ⟨v0, v1, v2, v3, d0, d1, d2, d3, p0, p1, p2, p3, rfl, rfl, rfl, h0, h1, h2, h3⟩ := trodAll_four hA
 obtain ⟨g, hg⟩ := arg_gr (hval 0 25 v0 rfl rfl) h0
 obtain ⟨n, hlb, hn⟩ := arg_nd (hval 1 29 v1 rfl rfl) h1
 obtain ⟨L, _, hl⟩ := arg_strs (hval 2 30 v2 rfl rfl) h2
 obtain ⟨V, hV⟩ := arg_ats (hval 3 31 v3 rfl rfl) h3
 have hargs : ArgL W [grV g, ndA n, .d (.sl 1 (strs L)), .d (.sl 1 (u32L V))] [v0, v1, v2, v3] := .cons hg (.cons hn (.cons hl (.cons hV (.nil W))))
 refine (lawfunc46_af g n L V hlb (fun _ => False) W _ (hok_of hG) hargs.shp hargs.mem).mono ?_
 rintro e W' ⟨v, rfl, hv, hx⟩
 obtain rfl : v = .bool true := by simpa [Shp] using hv.1
 exact ⟨_, rfl, post_true (by kernel_rfl) (by kernel_rfl) rfl (tb := 4) (by kernel_rfl) Tryz.underlying4 hW' (fun h => by subst h; rfl) hx⟩
theorem emitFunc_lifted (os : Os) (started : os.Started) (H : Type) (enc : TypeId × Value → H) (F : Stop.Interp) :
 ReturnsInHanded {} Tryz.checked os 3 .any ((OpenSpec.ofChange Rows.emitFuncSpec).preRow enc Tryz.prog Tryz.f3 Rows.emitFuncRow.domain false Rows.emitFuncRow.laid) (((OpenSpec.ofChange Rows.emitFuncSpec).at F).post enc Tryz.prog Tryz.f3 false true false false) := by
 refine returnsInHanded_of_row (C := Tryz.checked) (s := OpenSpec.ofChange Rows.emitFuncSpec) (by kernel_rfl) started (by kernel_rfl) Tryz.func3
  (witness_laid (enc := enc) (C := Tryz.checked) (laid := Rows.emitFuncRow.laid) #[.agg #[.int .u32 0, .slice none 0 0], .agg #[.int .i64 0, .int .i64 0, .int .i64 0, .slice none 0 0, .slice none 0 0], .slice none 0 0, .slice none 0 0]
   (World.shaped_of_ZipB (by kernel_rfl) (by kernel_rfl)) (by kernel_rfl)
   (OpenSpec.preRow_of_cond 9 (x := emitFunc_reads H) (by kernel_rfl) (by kernel_rfl) (fun k hk => by cases hk) (by kernel_rfl) (laidMet_laidAll _ (by kernel_rfl) (by kernel_rfl)))) ?_
 intro W base args ds gs before hval hW _ hcond hsz hL hS _
 exact emitFunc_contract H enc W base args ds gs before hval hW (gb_ofE hS (by kernel_rfl) (by kernel_rfl) (by kernel_rfl) hL)
theorem emitFunc_said : Rows.EmitFuncSaid :=
 OpenClaim.holds_of_cond 3 Tryz.f3 rfl rfl rfl rfl rfl rfl rfl ⟨rfl, rfl, rfl, rfl, rfl⟩ rfl rfl rfl rfl rfl (by kernel_rfl) Tryz.func3 emitFunc_joined
  (of_decide_eq_true (by kernel_rfl)) (by unfold Func.isWrapper; first | (rw [if_pos (by decide +kernel)]; kernel_rfl) | (rw [if_neg (by decide +kernel)]; exact ⟨rfl, rfl⟩))
  (fun os started H enc _ F => by rw [OpenClaim.pre_eq_preRow]; exact emitFunc_lifted os started H enc F)
theorem emitFunc_plain (f : FuncId) (fn : Func) (hf : Tryz.pinned.checked.prog.funcNamed Rows.emitFuncRow.func = some f) (hfn : Tryz.pinned.checked.prog.funcs[f]? = some fn) :
 false = Tryz.pinned.checked.prog.looks [] ∧ ∀ (j : Nat) t, fn.params[j]? = some t → Tryz.pinned.checked.prog.wantsStandIn t = false := by
 obtain rfl : f = 3 := oSI ((show Tryz.prog.funcNamed Rows.emitFuncRow.func = some 3 by kernel_rfl).symm.trans hf) |>.symm
 obtain rfl : fn = Tryz.f3 := (oSI (Tryz.func3.symm.trans hfn)).symm
 refine ⟨by kernel_rfl, fun j t ht => ?_⟩
 have h : (Tryz.f3.params.all fun t => !Tryz.prog.wantsStandIn t) = true := by kernel_rfl
 have := Array.all_eq_true'.1 h t (Array.mem_of_getElem? ht)
 show Tryz.prog.wantsStandIn t = false
 simpa using this
theorem emitFunc_holds : Rows.EmitFuncCardSaid :=
 Claim7.holds_tied_plain_at .later [] _ _ _ _ emitFunc_said (fun _ h => by cases h) (by as_aux_lemma => kernel_rfl) (fun _ h => by cases h) emitFunc_row_tie rfl ⟨rfl, rfl⟩ (by as_aux_lemma => kernel_rfl) rfl emitFunc_plain (by as_aux_lemma => kernel_rfl)
end Go.Proofs.YtfnbhkbfelllgaaGreatDoor
