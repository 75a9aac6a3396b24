import Derived.Test.YtfnbhkbfelllgaaGreatDoorAq
import Derived.Test.YtfnbhkbfelllgaaGreatDoorVcM
set_option linter.all false
namespace Go.Proofs.YtfnbhkbfelllgaaGreatDoor
open Go.RowKit
def stab1 (A:AHeap) (s:AV):AV→Prop
 | .ip _=>True
 | .ptr b ver _ _=>(∃ k,curB A b ver=some k)∧(match s with | .own b2 _ _ _=>¬ b=b2 | .d _=>True | _=>False)
 | _=>False
def stabL (A:AHeap) (e:AEnv) (s:AV) (m:Nat):Nat→List Oper→Prop
 | _,[]=>True
 | j, o :: os => (match o.op with
   | .load _ a=>m.testBit j=true∨stab1 A s (eva e a)
   | _=>True)∧stabL A e s m (j + 1) os
section
variable {P:Program} {n:Nat} {k:AKont} {e:AEnv} {A:AHeap}
section
variable (B:AHeap) (g:AEnv) (s:AV) (m j:Nat) (os:List Oper) (d:Option Nat) (op:Op) (ty:TypeId) (pos:String) (af:Array Edge) (gd:Option (Nat×Bool))
@[simp] theorem stabL_nil:stabL B g s m j []↔True:=Iff.rfl
@[simp] theorem stabL_load (t:TypeId) (a:Operand):stabL B g s m j (⟨d,.load t a,ty,pos,af,gd⟩::os)↔(m.testBit j=true∨stab1 B s (eva g a))∧stabL B g s m (j + 1) os:=Iff.rfl
end
end
end Go.Proofs.YtfnbhkbfelllgaaGreatDoor
