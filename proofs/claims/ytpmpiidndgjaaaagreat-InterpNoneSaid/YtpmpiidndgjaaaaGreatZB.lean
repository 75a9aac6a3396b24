/- Texts that the claim leans on, laid one behind the other: Bb, Bc, Bd. -/
import Derived.Test.YtpmpiidndgjaaaaGreatBa
import Derived.Test.YtpmpiidndgjaaaaGreatFacts
set_option linter.unusedSimpArgs false
set_option linter.unusedVariables false
set_option linter.unnecessarySimpa false
/- Contracts: il.Same. -/
namespace Go.Proofs.YtpmpiidndgjaaaaGreat
open Go.RowKit
/-- Two lists of one length whose members agree. -/
def all2 (r : Ex → Ex → Bool) : List Ex → List Ex → Bool
  | [], [] => true
  | a :: l, b :: l' => r a b && all2 r l l'
  | _, _ => false
theorem all2_len {r : Ex → Ex → Bool} : ∀ {l l' : List Ex}, l.length ≠ l'.length → all2 r l l' = false
  | [], [], h => absurd rfl h
  | [], _ :: _, _ => rfl
  | _ :: _, [], _ => rfl
  | a :: l, b :: l', h => by
    simp only [all2]
    rw [all2_len (by simpa using h)]
    simp
theorem all2_get {r : Ex → Ex → Bool} : ∀ {l l' : List Ex}, l.length = l'.length → (all2 r l l' = true ↔ ∀ (i : Nat) (a b : Ex), l[i]? = some a → l'[i]? = some b → r a b = true)
  | [], [], _ => by simp [all2]
  | a :: l, b :: l', h => by
    simp only [all2, Bool.and_eq_true, all2_get (show l.length = l'.length by simpa using h)]
    constructor
    · rintro ⟨h1, h2⟩ i x y hx hy
      cases i with
      | zero => simp at hx hy; subst hx hy; exact h1
      | succ i => exact h2 i x y (by simpa using hx) (by simpa using hy)
    · intro h
      exact ⟨h 0 a b rfl rfl, fun i x y hx hy => h (i + 1) x y (by simpa using hx) (by simpa using hy)⟩
  | [], _ :: _, h => by simp at h
  | _ :: _, [], h => by simp at h
/-- Equality of expressions. -/
def sameB : Ex → Ex → Bool
  | .mk o n v w l, .mk o' n' v' w' l' => o == o' && n == n' && v == v' && w == w' && sames l l'
where sames : List Ex → List Ex → Bool
  | [], [] => true
  | a :: l, b :: l' => sameB a b && sames l l'
  | _, _ => false
theorem sameB_eq (a b : Ex) : sameB a b = (a.op == b.op && a.n == b.n && a.v == b.v && a.wd == b.wd && all2 sameB a.l b.l) := by
  have h : ∀ l l', sameB.sames l l' = all2 sameB l l' := by
    intro l
    induction l with
    | nil => intro l'; cases l' <;> rfl
    | cons a l ih => intro l'; cases l' with
      | nil => rfl
      | cons b l' => simp only [sameB.sames, all2, ih]
  cases a; cases b
  simp only [sameB, h]
  rfl
theorem sameB_refl (a : Ex) : sameB a a = true := by
  induction a using Ex.ind with
  | h a ih =>
    rw [sameB_eq]
    have : all2 sameB a.l a.l = true := by
      have : ∀ l : List Ex, (∀ x ∈ l, sameB x x = true) → all2 sameB l l = true := by
        intro l
        induction l with
        | nil => intro _; rfl
        | cons x l ih => intro h; simp only [all2, h x (by simp), ih fun y hy => h y (by simp [hy]), Bool.and_self]
      exact this a.l ih
    simp [this]
end Go.Proofs.YtpmpiidndgjaaaaGreat

/- Contracts: slices.Clone, il.own, il.Two, il.Const, il.Var. -/
namespace Go.Proofs.YtpmpiidndgjaaaaGreat
open Go.RowKit
theorem bds_all {sz : Nat} : ∀ {xs : List (List D)}, BdS sz xs → ((dEls xs).all fun x => x.length == sz) = true
  | [], _ => rfl
  | x :: xs, h => by
    simp only [BdS] at h
    have := bds_all h.2.2
    simp [h.1] at this ⊢
    exact this
end Go.Proofs.YtpmpiidndgjaaaaGreat

/- Contracts: il.Two, il.Const, il.Var; flagfuse's makers and conditions; the reference's makers. -/
namespace Go.Proofs.YtpmpiidndgjaaaaGreat
open Go.RowKit
def eCon (n : Int) : Ex := .mk 1 n 0 0 []
def eVar (v : Int) : Ex := .mk 2 0 v 0 []
def eTwo (op : Int) (a b : Ex) : Ex := .mk op 0 0 0 [a, b]
def eOne (op : Int) (a : Ex) : Ex := .mk op 0 0 0 [a]
abbrev eNot (a : Ex) : Ex := eOne 16 a
section
variable (op n v : Int) (a b : Ex)
@[simp] theorem eCon_op : (eCon n).op = 1 := rfl
@[simp] theorem eCon_n : (eCon n).n = n := rfl
@[simp] theorem eCon_v : (eCon n).v = 0 := rfl
@[simp] theorem eCon_wd : (eCon n).wd = 0 := rfl
@[simp] theorem eCon_l : (eCon n).l = [] := rfl
@[simp] theorem eVar_op : (eVar v).op = 2 := rfl
@[simp] theorem eVar_n : (eVar v).n = 0 := rfl
@[simp] theorem eVar_v : (eVar v).v = v := rfl
@[simp] theorem eVar_wd : (eVar v).wd = 0 := rfl
@[simp] theorem eVar_l : (eVar v).l = [] := rfl
@[simp] theorem eTwo_op : (eTwo op a b).op = op := rfl
@[simp] theorem eTwo_n : (eTwo op a b).n = 0 := rfl
@[simp] theorem eTwo_v : (eTwo op a b).v = 0 := rfl
@[simp] theorem eTwo_wd : (eTwo op a b).wd = 0 := rfl
@[simp] theorem eTwo_l : (eTwo op a b).l = [a, b] := rfl
@[simp] theorem eOne_op : (eOne op a).op = op := rfl
@[simp] theorem eOne_n : (eOne op a).n = 0 := rfl
@[simp] theorem eOne_v : (eOne op a).v = 0 := rfl
@[simp] theorem eOne_wd : (eOne op a).wd = 0 := rfl
@[simp] theorem eOne_l : (eOne op a).l = [a] := rfl
@[simp] theorem nodes_con : (eCon n).nodes = 1 := rfl
@[simp] theorem nodes_var : (eVar v).nodes = 1 := rfl
@[simp] theorem nodes_two : (eTwo op a b).nodes = a.nodes + b.nodes + 1 := by simp [eTwo, Ex.nodes, Ex.nodess]
@[simp] theorem nodes_one : (eOne op a).nodes = a.nodes + 1 := by simp [eOne, Ex.nodes, Ex.nodess]
end
abbrev eMinus (a b : Ex) : Ex := eTwo 14 (eTwo 4 a b) (eCon 0)
abbrev eOver (a b : Ex) : Ex := eTwo 8 (eTwo 14 a b) (eMinus a b)
end Go.Proofs.YtpmpiidndgjaaaaGreat
