import Derived.Test.YtfnbhkbfelllgaaGreatDoorAp
import Derived.Test.YtfnbhkbfelllgaaGreatDoorBa
set_option linter.all false
namespace Go.Proofs.YtfnbhkbfelllgaaGreatDoor
open Go.RowKit
def aAny (P:Program) (n:Nat) (ops:List Oper) (k:AKont):Nat→Array Bool→AKont
 | 0,L=>fun e A=>Region.ready .any ops.toArray L=[]∧k e A
 | f + 1,L=>fun e A=>(Region.ready .any ops.toArray L=[]→k e A)∧∀ i∈Region.ready .any ops.toArray L,∃ o,ops[i]? = some o∧o.guard=none∧avop P n o (aAny P n ops k f (L.setIfInBounds i true)) e A
section
variable {P:Program} {n:Nat} {K:AKont} {e:AEnv} {A:AHeap} {C:Ctx}
theorem aAny_sound {ops:List Oper} {m:Nat} (hn:C.A.length=n) (hd:∀ o∈ops,∀ d',o.dst=some d'→d' < m):∀ (f:Nat) (L:Array Bool) (e:AEnv) (A:AHeap) (a:Act) (w:World),Fr m a→Sta C e A (envOf a) w→aAny P n ops K f L e A →
 wpAny P .any ops.toArray (fun ex a' w'=>ex = .normal∧Fr m a'∧Lift C K (envOf a') w') f L a w
 | 0,L,e,A,a,w,hf,hS,h=>⟨h.1,rfl,hf,e,A,h.2,hS⟩
 | f + 1, L, e, A, a, w, hf, hS, h => by
   refine⟨fun hr=>⟨rfl,hf,e,A,h.1 hr,hS⟩,fun i hi=>?_⟩
   obtain⟨o,ho,hg,hv⟩:=h.2 i hi
   unfold wpOp
   simp only[List.getElem?_toArray,ho]
   rw[if_pos (by simp[Region.wanted,hg])]
   exact .inl (vop_sound hf (hd o (gMO ho)) (fun a w hf' ⟨e',A',h',hS'⟩=>aAny_sound hn hd f _ e' A' a w hf' hS' h') (avop_sound hn hS hv))
theorem Sta.drew {ec:Env} {w:World} (h:Sta C e A ec w):Sta C e A ec w.drew:=by
 obtain⟨h0,ι,h1,h2,h3,h4⟩:=h
 obtain⟨r1,r2⟩:=rel_ext h1 (w':=w.drew) ((Ext.refl w).drew)
 exact⟨h0,ι,r1,h2.trans r2,h3,fun i=>Mem.keep r2.keepD _ _ (h4 i)⟩
theorem adraw_all {id:Nat} {ops:List Oper} (hm:P.follows .mixedOrders=true) (h:aAny P n ops K ops.length (Array.replicate ops.length false) e A):aDraw P n id ops.toArray K e A:=by
 intro C ec w hn hS m a hf hd he
 subst he
 refine wp_region_any hm ?_
 simpa using aAny_sound hn (fun o ho=>hd o (by simpa using ho)) ops.length _ e A a w.drew hf hS.drew h
end
end Go.Proofs.YtfnbhkbfelllgaaGreatDoor
