/- Texts that the claim leans on, laid one behind the other: Bb, Bc, Bd, Be, Bf, Bg. -/
import Derived.Test.YtccjeoghjioamaaGreatDoorBa
import Derived.Test.YtccjeoghjioamaaGreatDoorFacts
set_option linter.unusedSimpArgs false
set_option linter.unusedVariables false
set_option linter.unnecessarySimpa false
/- Contracts: il.Same. -/
namespace Go.Proofs.YtccjeoghjioamaaGreatDoor
open Go.RowKit
/-- Equality of expressions. -/
def sameB : Ex → Ex → Bool
  | .mk o n v w l, .mk o' n' v' w' l' => o == o' && n == n' && v == v' && w == w' && sames l l'
where sames : List Ex → List Ex → Bool
  | [], [] => true
  | a :: l, b :: l' => sameB a b && sames l l'
  | _, _ => false
end Go.Proofs.YtccjeoghjioamaaGreatDoor

/- Contracts: slices.Clone, il.own, il.Two, il.Const, il.Var. -/
namespace Go.Proofs.YtccjeoghjioamaaGreatDoor
open Go.RowKit
end Go.Proofs.YtccjeoghjioamaaGreatDoor

/- Contracts: il.Two, il.Const, il.Var; flagfuse's makers and conditions; the reference's makers. -/
namespace Go.Proofs.YtccjeoghjioamaaGreatDoor
open Go.RowKit
def eCon (n : Int) : Ex := .mk 1 n 0 0 []
def eVar (v : Int) : Ex := .mk 2 0 v 0 []
def eTwo (op : Int) (a b : Ex) : Ex := .mk op 0 0 0 [a, b]
def eOne (op : Int) (a : Ex) : Ex := .mk op 0 0 0 [a]
section
variable (op n v : Int) (a b : Ex)
@[simp] theorem eCon_op : (eCon n).op = 1 := rfl
@[simp] theorem eCon_n : (eCon n).n = n := rfl
@[simp] theorem eCon_v : (eCon n).v = 0 := rfl
@[simp] theorem eCon_wd : (eCon n).wd = 0 := rfl
@[simp] theorem eCon_l : (eCon n).l = [] := rfl
@[simp] theorem eVar_op : (eVar v).op = 2 := rfl
@[simp] theorem eVar_n : (eVar v).n = 0 := rfl
@[simp] theorem eVar_v : (eVar v).v = v := rfl
@[simp] theorem eVar_wd : (eVar v).wd = 0 := rfl
@[simp] theorem eVar_l : (eVar v).l = [] := rfl
@[simp] theorem eTwo_op : (eTwo op a b).op = op := rfl
@[simp] theorem eTwo_n : (eTwo op a b).n = 0 := rfl
@[simp] theorem eTwo_v : (eTwo op a b).v = 0 := rfl
@[simp] theorem eTwo_wd : (eTwo op a b).wd = 0 := rfl
@[simp] theorem eTwo_l : (eTwo op a b).l = [a, b] := rfl
@[simp] theorem eOne_op : (eOne op a).op = op := rfl
@[simp] theorem eOne_n : (eOne op a).n = 0 := rfl
@[simp] theorem eOne_v : (eOne op a).v = 0 := rfl
@[simp] theorem eOne_wd : (eOne op a).wd = 0 := rfl
@[simp] theorem eOne_l : (eOne op a).l = [a] := rfl
@[simp] theorem nodes_con : (eCon n).nodes = 1 := rfl
@[simp] theorem nodes_var : (eVar v).nodes = 1 := rfl
@[simp] theorem nodes_two : (eTwo op a b).nodes = a.nodes + b.nodes + 1 := by simp [eTwo, Ex.nodes, Ex.nodess]
@[simp] theorem nodes_one : (eOne op a).nodes = a.nodes + 1 := by simp [eOne, Ex.nodes, Ex.nodess]
end
end Go.Proofs.YtccjeoghjioamaaGreatDoor

/- Contracts: the conditions and the flag expressions (printed by gen_be.py). -/
namespace Go.Proofs.YtccjeoghjioamaaGreatDoor
open Go.RowKit
end Go.Proofs.YtccjeoghjioamaaGreatDoor

/- Contracts: the flag expressions, Recognize, size (printed by gen_be.py). -/
namespace Go.Proofs.YtccjeoghjioamaaGreatDoor
open Go.RowKit
end Go.Proofs.YtccjeoghjioamaaGreatDoor

/- Contracts: Recognize, of flagfuse and of the reference; the law's size. -/
namespace Go.Proofs.YtccjeoghjioamaaGreatDoor
open Go.RowKit
theorem nodess_take {l : List Ex} {i : Nat} {x : Ex} (h : l[i]? = some x) : Ex.nodess (l.take (i + 1)) = Ex.nodess (l.take i) + x.nodes := by
  have : ∀ (a b : List Ex), Ex.nodess (a ++ b) = Ex.nodess a + Ex.nodess b := by
    intro a b
    induction a with
    | nil => simp [Ex.nodess]
    | cons y a ih => simp [Ex.nodess, ih]; omega
  rw [List.take_add_one, h, this]
  simp [Ex.nodess]
theorem nodess_take_le : ∀ (l : List Ex) (i : Nat), Ex.nodess (l.take i) ≤ Ex.nodess l
  | [], i => by simp
  | x :: l, 0 => by simp [Ex.nodess]
  | x :: l, i + 1 => by have := nodess_take_le l i; simp [Ex.nodess]; omega
theorem nodes_eq (x : Ex) : x.nodes = Ex.nodess x.l + 1 := by cases x; rfl
end Go.Proofs.YtccjeoghjioamaaGreatDoor
