import Derived.Test.YtfnbhkbfelllgaaGreatDoorAk
import Derived.Test.YtfnbhkbfelllgaaGreatDoorVcL
set_option linter.all false
namespace Go.Proofs.YtfnbhkbfelllgaaGreatDoor
open Go.RowKit
section
variable {P:Program} {n:Nat}
theorem adraw2 {id:Nat} {l:List Oper} {k:AKont} {e:AEnv} {A:AHeap} (i:Nat) (late:List (Nat×Nat)) (hm:P.follows .mixedOrders=true) (hok:okD (l.take i)=true) (hlate:lateOf (l.take i)=late) (hT:okT (l.take i)=true) (hend:endOk (l.take i) (l.drop i)=true)
 (h:avd P A.length (l.take i) late (fun _ _=>True) (avops P n l.toArray (l.drop i) k) 0 (l.take i) ⟨e,A,[],[],[]⟩):aDraw P n id l.toArray k e A:=by
 rintro C ec w hn ⟨h0,ι,h1,h2,h3,h4⟩
 obtain⟨rs,h⟩:=avd_ex (l.take i) 0 _ h
 have hl:l.take i++l.drop i=l:=List.take_append_drop i l
 rw[← hl]
 refine draw2 (K1:=Lift C (avops P n l.toArray (l.drop i) k)) late (fun i=>spR (Zr C.H ι A w) (rs i)) hm hok hlate hend (fun ec w ⟨e,A,h,hS⟩=>by rw[hl]; exact avops_sound hn _ _ _ _ _ hS h) ?_
 refine avd_sound (T:=taintOf (l.take i) []) h1 h0 h2 (l.take i) 0 ι ⟨e,A,[],[],[]⟩ ⟨ec,[],[],[],[],[],[]⟩ (fun o ho=>List.all_eq_true.1 hT o ho) ⟨⟨fun _ _ h=>h,fun _ _=>rfl,fun b k hb hk=>?_,fun b b' c m m' g1 g2=>absurd g1 (Nat.not_le.2 g2),fun c hc=>absurd hc List.not_mem_nil,Nat.le_refl _⟩,h3,fun w' hx _ i=>old_mem hx (h4 i),fun t _=>h4 t,fun x hx=>absurd hx List.not_mem_nil,fun x hx=>absurd hx List.not_mem_nil,rfl,fun i x y hx=>by simp at hx⟩ h
 have:=(gSI.1 hk).1
 simp only at this
 omega
end
end Go.Proofs.YtfnbhkbfelllgaaGreatDoor
