/- The abstract calculator: interfaces; a map copied. No program in sight. -/
import Derived.Test.YtagkfkhagjlmpaaGreatAB
set_option linter.unusedSimpArgs false
set_option linter.unusedVariables false
set_option linter.unnecessarySimpa false
namespace Go.Proofs.YtagkfkhagjlmpaaGreat
open Go.RowKit
section
variable {P : Program} {H : Nat → Prop} {ι ι' : Place} {A A' : AHeap} {w w' : World} {e : AEnv} {ec : Env} {C : Ctx} {n : Nat} {K : AKont}
def notIface : TypeDesc → Bool
  | .interface _ => false
  | _ => true
/-- The function behind a method of a type, where the receiver is handed on as it is. -/
def methA (P : Program) (t : TypeId) (name : String) : Option FuncId := match P.info? t with
  | some i => match i.methods.find? (·.name == name) with
    | some m => if m.path.toList = [] then (match m.func, P.underlying t with
      | some (f, true), some (.pointer _) => some f
      | some (f, false), some (.pointer _) => none
      | some (f, false), some _ => some f
      | _, _ => none) else none
    | none => none
  | none => none
end
end Go.Proofs.YtagkfkhagjlmpaaGreat
