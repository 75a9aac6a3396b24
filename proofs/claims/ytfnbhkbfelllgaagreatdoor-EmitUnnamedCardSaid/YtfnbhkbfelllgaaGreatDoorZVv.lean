import Derived.Test.YtfnbhkbfelllgaaGreatDoorZG
import Derived.Test.YtfnbhkbfelllgaaGreatDoorZY
import Derived.Test.YtfnbhkbfelllgaaGreatDoorVvj
import Derived.Test.YtfnbhkbfelllgaaGreatDoorCards
import Derived.Test.YtfnbhkbfelllgaaGreatDoorTie
set_option linter.all false
namespace Go.Proofs.YtfnbhkbfelllgaaGreatDoor
open Go.RowKit Go.ChangeShapes Go.WideShapes
set_option maxRecDepth 100000
def emitUnnamed_reads (H:Type):List (DataW H)×List (DataW H)×List MemPlace:=([grLit H],[],[])
theorem emitUnnamed_contract (H:Type) (enc:TypeId×Value→H) (W:World) (base:Nat) (args:Array Value) (ds gs:List (DataW H)) (before:List MemPlace)
 (hval:∀ (j:Nat) t v,Tryz.f4.params[j]? = some t→args[j]? = some v→Value.okWide Tryz.prog W .any base t v)
 (hW:DataW.Whole enc Tryz.prog Tryz.f4.params.toList Rows.emitUnnamedSpec.vars false W args.toList ds gs before) (hG:GbIs W) :
 Calls Tryz.prog 4 args W fun e W'=>∃ v,e = .returned v∧Rows.emitUnnamedSpec.post enc Tryz.prog Tryz.f4 false true false false W args v W':=by
 have hW':=hW
 obtain⟨p,q,hA0,hV,rfl,_,_⟩:=hW
 have hA:DataW.TrodAll enc Tryz.prog W 0 (fun _=>true) true Tryz.f4.params.toList args.toList ds p:=hA0
 rw[Tryz.params4] at hA hval
 obtain⟨v0,d0,rfl,rfl,h0⟩:=trodAll_one hA
 obtain⟨g,hx⟩:=arg_gr (hval 0 25 v0 rfl rfl) h0
 have hargs:ArgL W [grV g] [v0]:=.cons hx (.nil W)
 refine (lawunnamed46_af g (fun _=>False) W _ (hok_of hG) hargs.shp hargs.mem).mono ?_
 rintro e W' ⟨v,rfl,hv,hx⟩
 obtain rfl:v = .bool true:=by simpa [Shp] using hv.1
 exact⟨_,rfl,post_true (by kernel_rfl) (by kernel_rfl) rfl (tb:=4) (by kernel_rfl) Tryz.underlying4 hW' (fun h=>by subst h; rfl) hx⟩
theorem emitUnnamed_lifted (os:Os) (started:os.Started) (H:Type) (enc:TypeId×Value→H) (F:Stop.Interp) :
 ReturnsInHanded {} Tryz.checked os 4 .any ((OpenSpec.ofChange Rows.emitUnnamedSpec).preRow enc Tryz.prog Tryz.f4 Rows.emitUnnamedRow.domain false Rows.emitUnnamedRow.laid) (((OpenSpec.ofChange Rows.emitUnnamedSpec).at F).post enc Tryz.prog Tryz.f4 false true false false):=by
 refine returnsInHanded_of_row (C:=Tryz.checked) (s:=OpenSpec.ofChange Rows.emitUnnamedSpec) (by kernel_rfl) started (by kernel_rfl) Tryz.func4
  (witness_laid (enc:=enc) (C:=Tryz.checked) (laid:=Rows.emitUnnamedRow.laid) #[.agg #[.int .u32 0,.slice none 0 0]]
   (World.shaped_of_ZipB (by kernel_rfl) (by kernel_rfl)) (by kernel_rfl)
   (OpenSpec.preRow_of_cond 9 (x:=emitUnnamed_reads H) (by kernel_rfl) (by kernel_rfl) (fun k hk=>by cases hk) (by kernel_rfl) (laidMet_laidAll _ (by kernel_rfl) (by kernel_rfl)))) ?_
 intro W base args ds gs before hval hW _ hcond hsz hL hS _
 exact emitUnnamed_contract H enc W base args ds gs before hval hW (gb_ofE hS (by kernel_rfl) (by kernel_rfl) (by kernel_rfl) hL)
theorem emitUnnamed_said:Rows.EmitUnnamedSaid:=
 OpenClaim.holds_of_cond 4 Tryz.f4 rfl rfl rfl rfl rfl rfl rfl ⟨rfl,rfl,rfl,rfl,rfl⟩ rfl rfl rfl rfl rfl (by kernel_rfl) Tryz.func4 emitUnnamed_joined
  (of_decide_eq_true (by kernel_rfl)) (by unfold Func.isWrapper; first | (rw[if_pos (by decide +kernel)]; kernel_rfl) | (rw[if_neg (by decide +kernel)]; exact⟨rfl,rfl⟩))
  (fun os started H enc _ F=>by rw[OpenClaim.pre_eq_preRow]; exact emitUnnamed_lifted os started H enc F)
theorem emitUnnamed_plain (f:FuncId) (fn:Func) (hf:Tryz.pinned.checked.prog.funcNamed Rows.emitUnnamedRow.func=some f) (hfn:Tryz.pinned.checked.prog.funcs[f]? = some fn) :
 false=Tryz.pinned.checked.prog.looks []∧∀ (j:Nat) t,fn.params[j]? = some t→Tryz.pinned.checked.prog.wantsStandIn t=false:=by
 obtain rfl:f=4:=oSI ((show Tryz.prog.funcNamed Rows.emitUnnamedRow.func=some 4 by kernel_rfl).symm.trans hf) |>.symm
 obtain rfl:fn=Tryz.f4:=(oSI (Tryz.func4.symm.trans hfn)).symm
 refine⟨by kernel_rfl,fun j t ht=>?_⟩
 have h:(Tryz.f4.params.all fun t=>!Tryz.prog.wantsStandIn t)=true:=by kernel_rfl
 have:=Array.all_eq_true'.1 h t (Array.mem_of_getElem? ht)
 show Tryz.prog.wantsStandIn t=false
 simpa using this
theorem emitUnnamed_holds:Rows.EmitUnnamedCardSaid:=
 Claim7.holds_tied_plain_at .later [] _ _ _ _ emitUnnamed_said (fun _ h=>by cases h) (by as_aux_lemma=>kernel_rfl) (fun _ h=>by cases h) emitUnnamed_row_tie rfl ⟨rfl,rfl⟩ (by as_aux_lemma=>kernel_rfl) rfl emitUnnamed_plain (by as_aux_lemma=>kernel_rfl)
end Go.Proofs.YtfnbhkbfelllgaaGreatDoor
