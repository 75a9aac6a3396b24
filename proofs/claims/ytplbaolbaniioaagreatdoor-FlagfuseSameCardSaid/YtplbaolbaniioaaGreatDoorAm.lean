import Derived.Test.YtplbaolbaniioaaGreatDoorAl
import Derived.Test.YtplbaolbaniioaaGreatDoorAt
import Derived.Test.YtplbaolbaniioaaGreatDoorAx
import Derived.Test.YtplbaolbaniioaaGreatDoorAo
import Derived.Test.YtplbaolbaniioaaGreatDoorAy
import Derived.Test.YtplbaolbaniioaaGreatDoorAz
import Derived.Test.YtplbaolbaniioaaGreatDoorAA
import Derived.Test.YtplbaolbaniioaaGreatDoorAC
import Derived.Test.YtplbaolbaniioaaGreatDoorAr
import Derived.Laws.BytesArg
set_option linter.all false
namespace Go.Proofs.YtplbaolbaniioaaGreatDoor
open Go.RowKit
abbrev XF := FuncId → List AV → AHeap → Option (AV × AHeap)
def still : Op → Bool
 | .load .. | .lookup .. | .makeInterface .. | .typeAssert .. | .convert .. | .binOp .. | .move .. | .assign .. | .pick .. | .nilCheck .. | .unOp .. | .makeFunc .. | .fieldAddr .. | .field .. | .indexAddr .. | .index .. | .extract .. | .slice .. | .build .. => true
 | .call c => match c.callee with
   | .builtin .len | .builtin .cap | .builtin .min | .builtin .max => true
   | _ => false
 | _ => false
def chgP (ops : List Oper) (j : Nat) : Bool := match ops[j]? with
 | some o => !still o.op
 | none => false
def heapM (T : List (Nat × AHeap)) (m : Nat) : Option AHeap := (T.find? fun t => t.1 == m).map (·.2)
def mayP (ops : List Oper) (ms : List Nat) (m i : Nat) : Bool := !m.testBit i && (List.range ops.length).all fun j => !chgP ops j || ((if (ms.getD i 0).testBit j then m.testBit j else true) && (if m.testBit j then !(ms.getD j 0).testBit i else true))
def slotP (ms : List Nat) (ops : List Oper) (i : Nat) (o : Oper) : Bool := (List.range ops.length).all fun j => match ops[j]? with
 | some q => (match q.dst with
   | some d => (i == j || (match o.dst with | some d' => d != d' | none => true)) && (!(seen ops o).contains d || (decide (j < i) && (ms.getD i 0).testBit j))
   | none => true)
 | none => true
def fullP (ops : List Oper) : Nat := (List.range ops.length).foldl (fun m j => if chgP ops j then m ||| 2 ^ j else m) 0
section
variable {P : Program} {F : XF} {n : Nat}
section
variable {H : Nat → Prop} {ι : Place} {A : AHeap} {w : World}
end
section
variable {ops : List Oper} {ia r : Nat} {kl : Blk} {e0 : AEnv} {A0 : AHeap} {E : Nat → AEnv} {H : Nat → AHeap}
end
section
variable {ops : List Oper} {n0 : Nat} {F : XF}
theorem heapM_mem {T : List (Nat × AHeap)} {m : Nat} {A : AHeap} (h : heapM T m = some A) : (m, A) ∈ T := by
 unfold heapM at h
 simp only [Option.map_eq_some_iff] at h
 obtain ⟨t, h1, h2⟩ := h
 have h3 := List.mem_of_find?_eq_some h1
 have h4 := List.find?_some h1
 simp only [beq_iff_eq] at h4
 rw [← h4, ← h2]
 exact h3
structure MidP (ops : List Oper) (e0 e1 : AEnv) (T : List (Nat × AHeap)) (L : Array Bool) (e : AEnv) (A : AHeap) : Prop where
 sz : L.size = ops.length
 cl : Closed ops (Lst L)
 hp : ∃ m, heapM T m = some A ∧ ∀ j, m.testBit j = true ↔ (chgP ops j = true ∧ Lst L j)
 val : ∀ (j : Nat) (o : Oper) (t : Nat), Lst L j → ops[j]? = some o → o.dst = some t → e t = e1 t
 out : ∀ t, (∀ (j : Nat) (o : Oper), Lst L j → ops[j]? = some o → o.dst ≠ some t) → e t = e0 t
theorem chgP_lt {j : Nat} (h : chgP ops j = true) : j < ops.length := by
 unfold chgP at h
 split at h
 ·rename_i o ho; exact (gSI.1 ho).1
 ·cases h
end
end
end Go.Proofs.YtplbaolbaniioaaGreatDoor
