/- Texts that the claim leans on, laid one behind the other: Bb, Bc, Bd, Be, Bf, Bg. -/
import Derived.Test.YtoeimidochjddaaGreatDoorBa
import Derived.Test.YtoeimidochjddaaGreatDoorFacts
set_option linter.unusedSimpArgs false
set_option linter.unusedVariables false
set_option linter.unnecessarySimpa false
/- Contracts: il.Same. -/
namespace Go.Proofs.YtoeimidochjddaaGreatDoor
open Go.RowKit
/-- Equality of expressions. -/
def sameB : Ex → Ex → Bool
  | .mk o n v w l, .mk o' n' v' w' l' => o == o' && n == n' && v == v' && w == w' && sames l l'
where sames : List Ex → List Ex → Bool
  | [], [] => true
  | a :: l, b :: l' => sameB a b && sames l l'
  | _, _ => false
end Go.Proofs.YtoeimidochjddaaGreatDoor

/- Contracts: slices.Clone, il.own, il.Two, il.Const, il.Var. -/
namespace Go.Proofs.YtoeimidochjddaaGreatDoor
open Go.RowKit
theorem bds_all {sz : Nat} : ∀ {xs : List (List D)}, BdS sz xs → ((dEls xs).all fun x => x.length == sz) = true
  | [], _ => rfl
  | x :: xs, h => by
    simp only [BdS] at h
    have := bds_all h.2.2
    simp [h.1] at this ⊢
    exact this
theorem clone_ac (A : AHeap) (xs : List (List D)) (hl : xs.length ≤ 1000000000) :
    AC Tryz.prog 144 [.d (.sl 5 xs)] A fun r A' => r = .own A.length 1 0 xs.length ∧ A' = A ++ [⟨1, true, 42, 5, dEls xs⟩] := by
  refine AC.sub (R := fun r A' => (r = .own A.length 1 0 xs.length ∧ A' = A ++ [⟨1, true, 42, 5, dEls xs⟩]) ∨ (r = .d (.v (.slice none 0 0)) ∧ xs = [] ∧ A' = A)) (ac_of Tryz.func144 rfl (by kernel_rfl) (by simp [Tryz.ntmps144]) fun hb => ?_) ?_
  · have hall := bds_all hb.1.2
    clear hb
    simp [Tryz.f144]
    refine aRaw_app byt_40 ?_
    simp [hall]
    unfold maxLen
    omega
  · rintro r A' (⟨rfl, rfl⟩ | ⟨rfl, rfl, rfl⟩)
    · exact ⟨_, _, Sub.refl _ _ _, rfl, rfl⟩
    · refine ⟨_, _, (Sub.ghost 1 42 5).trans (Sub.env (e' := fun _ => .own A'.length 1 0 0) fun i => VLe.nil_own (k := ⟨1, true, 42, 5, []⟩) (by simp) rfl), ?_, ?_⟩ <;> simp
theorem own_af : ∀ (e : Ex), e.nodes ≤ 1000000000 → AF Tryz.prog 70 [exA e] (exA e) := by
  intro x
  induction x using Ex.ind with
  | h x ih =>
    intro hn
    have hlen := x.nodes_len
    have n1 : x.l.length ≤ maxLen := by unfold maxLen; omega
    refine af_of Tryz.func70 rfl (by kernel_rfl) (by simp [Tryz.ntmps70]) fun _ => ?_
    simp [Tryz.f70]
    refine aCall_ofc (clone_ac _ (Ex.ds x.l) (by simp; omega)) (by simp) ?_
    rintro _ _ ⟨rfl, rfl⟩
    simp
    refine aLoop_of (α := Nat) (fun i e A => i ≤ x.l.length ∧ A = [⟨0, true, 42, 5, [[aI .i64 x.op, aI .u32 x.n, aI .i64 x.v, aI .i64 x.wd, .own 2 1 0 x.l.length]]⟩, ⟨0, true, 42, 5, [[aI .i64 0, aI .u32 0, aI .i64 0, aI .i64 0, .d (.v (.slice none 0 0))]]⟩, ⟨1, true, 42, 5, dEls (Ex.ds x.l)⟩] ∧
      e 11 = aI .i64 i ∧ e 10 = aI .i64 x.l.length ∧ e 1 = .ptr 0 0 0 0 ∧ e 2 = .ptr 1 0 0 0) (fun i => x.l.length - i) 0 (Sub.refl _ _ _) ⟨by omega, by simp, by simp, by simp, by simp, by simp⟩ ?_
    rintro i e A ⟨hi, rfl, e11, e10, e1, e2⟩ K hK
    simp [e11, e10]
    refine aCond_split (fun hlt => ?_) (fun hge => ?_)
    · simp at hlt
      have hi1 := List.getElem?_eq_getElem hlt
      simp
      refine adraw [] (by kernel_rfl) (by kernel_rfl) (by kernel_rfl) (by kernel_rfl) ?_
      simp [e11, e1, hlt, hi1, Ex.d_eq]
      refine adC_of (ih _ (List.mem_of_getElem? hi1) (by have := Ex.nodes_mem (List.mem_of_getElem? hi1); omega)) (by simp) trivial (by simp) (by simp) ?_
      simp [hlt, Ex.d_eq, e11, succ_wrap hlt n1]
      exact hK (i + 1) _ _ _ _ (Sub.refl _ _ _) ⟨by omega, by simp; exact set_same (by simp [hlt, Ex.d_eq]), by simp, by simp [e10], by simp [e1], by simp [e2]⟩ (by omega)
    · simp at hge
      simp [e1, e2]
end Go.Proofs.YtoeimidochjddaaGreatDoor

/- Contracts: il.Two, il.Const, il.Var; flagfuse's makers and conditions; the reference's makers. -/
namespace Go.Proofs.YtoeimidochjddaaGreatDoor
open Go.RowKit
def eCon (n : Int) : Ex := .mk 1 n 0 0 []
def eVar (v : Int) : Ex := .mk 2 0 v 0 []
def eTwo (op : Int) (a b : Ex) : Ex := .mk op 0 0 0 [a, b]
def eOne (op : Int) (a : Ex) : Ex := .mk op 0 0 0 [a]
section
variable (op n v : Int) (a b : Ex)
@[simp] theorem eCon_op : (eCon n).op = 1 := rfl
@[simp] theorem eCon_n : (eCon n).n = n := rfl
@[simp] theorem eCon_v : (eCon n).v = 0 := rfl
@[simp] theorem eCon_wd : (eCon n).wd = 0 := rfl
@[simp] theorem eCon_l : (eCon n).l = [] := rfl
@[simp] theorem eVar_op : (eVar v).op = 2 := rfl
@[simp] theorem eVar_n : (eVar v).n = 0 := rfl
@[simp] theorem eVar_v : (eVar v).v = v := rfl
@[simp] theorem eVar_wd : (eVar v).wd = 0 := rfl
@[simp] theorem eVar_l : (eVar v).l = [] := rfl
@[simp] theorem eTwo_op : (eTwo op a b).op = op := rfl
@[simp] theorem eTwo_n : (eTwo op a b).n = 0 := rfl
@[simp] theorem eTwo_v : (eTwo op a b).v = 0 := rfl
@[simp] theorem eTwo_wd : (eTwo op a b).wd = 0 := rfl
@[simp] theorem eTwo_l : (eTwo op a b).l = [a, b] := rfl
@[simp] theorem eOne_op : (eOne op a).op = op := rfl
@[simp] theorem eOne_n : (eOne op a).n = 0 := rfl
@[simp] theorem eOne_v : (eOne op a).v = 0 := rfl
@[simp] theorem eOne_wd : (eOne op a).wd = 0 := rfl
@[simp] theorem eOne_l : (eOne op a).l = [a] := rfl
@[simp] theorem nodes_con : (eCon n).nodes = 1 := rfl
@[simp] theorem nodes_var : (eVar v).nodes = 1 := rfl
@[simp] theorem nodes_two : (eTwo op a b).nodes = a.nodes + b.nodes + 1 := by simp [eTwo, Ex.nodes, Ex.nodess]
@[simp] theorem nodes_one : (eOne op a).nodes = a.nodes + 1 := by simp [eOne, Ex.nodes, Ex.nodess]
end
theorem two_af (op : Int) (a b : Ex) (ha : a.nodes ≤ 1000000000) (hb : b.nodes ≤ 1000000000) : AF Tryz.prog 27 [aI .i64 op, exA a, exA b] (exA (eTwo op a b)) := by
  refine af_of Tryz.func27 rfl (by kernel_rfl) (by simp [Tryz.ntmps27]) fun _ => ?_
  simp [Tryz.f27]
  refine adraw [] (by kernel_rfl) (by kernel_rfl) (by kernel_rfl) (by kernel_rfl) ?_
  simp
  refine adC_of (own_af a ha) (by simp) trivial (by simp) (by simp) ?_
  simp
  refine adC_of (own_af b hb) (by simp) trivial (by simp) (by simp) ?_
  simp [Ex.d_eq]
theorem const_af (n : Int) : AF Tryz.prog 29 [aI .u32 n] (exA (eCon n)) := by
  refine af_of Tryz.func29 rfl (by kernel_rfl) (by simp [Tryz.ntmps29]) fun _ => ?_
  simp [Tryz.f29]
theorem var_af (v : Int) : AF Tryz.prog 28 [aI .i64 v] (exA (eVar v)) := by
  refine af_of Tryz.func28 rfl (by kernel_rfl) (by simp [Tryz.ntmps28]) fun _ => ?_
  simp [Tryz.f28]
end Go.Proofs.YtoeimidochjddaaGreatDoor

/- Contracts: the conditions and the flag expressions (printed by gen_be.py). -/
namespace Go.Proofs.YtoeimidochjddaaGreatDoor
open Go.RowKit
end Go.Proofs.YtoeimidochjddaaGreatDoor

/- Contracts: the flag expressions, Recognize, size (printed by gen_be.py). -/
namespace Go.Proofs.YtoeimidochjddaaGreatDoor
open Go.RowKit
end Go.Proofs.YtoeimidochjddaaGreatDoor

/- Contracts: Recognize, of flagfuse and of the reference; the law's size. -/
namespace Go.Proofs.YtoeimidochjddaaGreatDoor
open Go.RowKit
theorem nodess_take {l : List Ex} {i : Nat} {x : Ex} (h : l[i]? = some x) : Ex.nodess (l.take (i + 1)) = Ex.nodess (l.take i) + x.nodes := by
  have : ∀ (a b : List Ex), Ex.nodess (a ++ b) = Ex.nodess a + Ex.nodess b := by
    intro a b
    induction a with
    | nil => simp [Ex.nodess]
    | cons y a ih => simp [Ex.nodess, ih]; omega
  rw [List.take_add_one, h, this]
  simp [Ex.nodess]
theorem nodess_take_le : ∀ (l : List Ex) (i : Nat), Ex.nodess (l.take i) ≤ Ex.nodess l
  | [], i => by simp
  | x :: l, 0 => by simp [Ex.nodess]
  | x :: l, i + 1 => by have := nodess_take_le l i; simp [Ex.nodess]; omega
theorem nodes_eq (x : Ex) : x.nodes = Ex.nodess x.l + 1 := by cases x; rfl
end Go.Proofs.YtoeimidochjddaaGreatDoor
