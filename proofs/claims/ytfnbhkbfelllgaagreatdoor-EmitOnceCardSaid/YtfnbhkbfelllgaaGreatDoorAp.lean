import Derived.Test.YtfnbhkbfelllgaaGreatDoorAs
set_option linter.all false
namespace Go.Proofs.YtfnbhkbfelllgaaGreatDoor
open Go.RowKit
def fr:List (Nat×AV)→AEnv
 | []=>fun _=>.any
 | (k,v)::l=>fun i=>if i=k then v else fr l i
@[simp] theorem fr_nil (i:Nat):fr [] i = .any:=rfl
@[simp] theorem fr_cons (k:Nat) (v:AV) (l:List (Nat×AV)) (i:Nat):fr ((k,v)::l) i=if i=k then v else fr l i:=rfl
theorem fr_le {A:AHeap} {e:AEnv}:∀ {S:List (Nat×AV)},(∀ p∈S,e p.1=p.2)→∀ i,VLe A (e i) (fr S i)
 | [],_,i=>VLe.any _
 | (k, v) :: l, h, i => by
   rw[fr_cons]
   split
   ·rename_i hi
    rw[hi,h (k,v) (List.mem_cons_self ..)]
    exact VLe.refl _
   ·exact fr_le (fun p hp=>h p (List.mem_cons_of_mem _ hp)) i
@[simp] theorem clnE_app (m:Nat) (a b:List (List AV)):clnE m (a++b)=clnE m a++clnE m b:=by simp[clnE]
@[simp] theorem clnE_set (m:Nat) (a:List (List AV)) (i:Nat) (x:List AV):clnE m (a.set i x)=(clnE m a).set i (x.map (cln m)):=by simp[clnE,List.map_set]
section
variable {P:Program} {n:Nat} {K:AKont} {e:AEnv} {A:AHeap} {d:Option Nat}
theorem Sub.slots (S:List (Nat×AV)) (h:∀ p∈S,e p.1=p.2):Sub n e A (fr S) A:=Sub.env (fr_le h)
theorem ent_of (m:Nat) (hm:n≤m) {S:List (Nat×AV)} {H:AHeap} (hA:(A.take m).map (clnB m)=H) (hS:∀ p∈S,cln m (e p.1)=p.2):Sub n e A (fr S) H:=by
 subst hA
 exact (Sub.take m hm).trans (Sub.slots S hS)
theorem aLoop_st {α:Type} {body:AKont→AKont} (S:α→List (Nat×AV)) (B:α→AHeap) (I:α→Prop) (ν:α→Nat) (a:α) {e1:AEnv} {A1:AHeap} (hs:Sub n e A e1 A1) (m:Nat) (hm:n≤m)
 (hA:(A1.take m).map (clnB m)=B a) (hS:∀ p∈S a,cln m (e1 p.1)=p.2) (h0:I a)
 (h:∀ (a:α),I a→∀ K:AKont,(∀ (a':α) {e':AEnv} {A':AHeap} {e2:AEnv} {A2:AHeap},I a'→ν a' < ν a→Sub n e' A' e2 A2→∀ m:Nat,n≤m→(A2.take m).map (clnB m)=B a'→(∀ p∈S a',cln m (e2 p.1)=p.2)→K e' A')→body K (fr (S a)) (B a)):aLoop n body e A:=by
 refine aLoop_of (fun a e A=>I a∧e=fr (S a)∧A=B a) ν a (hs.trans (ent_of m hm hA hS)) ⟨h0,rfl,rfl⟩ ?_
 rintro a e A ⟨hI,rfl,rfl⟩ K hK
 refine h a hI K fun a' e' A' e2 A2 hI' hν hs' m hm hA' hS'=>?_
 exact hK a' e' A' _ _ (hs'.trans (ent_of m hm hA' hS')) ⟨hI',rfl,rfl⟩ hν
end
end Go.Proofs.YtfnbhkbfelllgaaGreatDoor
