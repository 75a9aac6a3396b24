/- Texts that the claim leans on, laid one behind the other: Bb, Bc, Bd, Be, Bf, Bg, Ca, Cb, Da, Db. -/
import Derived.Test.YtlidimmfpfockaaGreatDoorBa
import Derived.Test.YtlidimmfpfockaaGreatDoorFacts
import Derived.Lib.Join
import Derived.Test.YtlidimmfpfockaaGreatDoorSh
set_option linter.unusedSimpArgs false
set_option linter.unusedVariables false
set_option linter.unnecessarySimpa false
/- Contracts: il.Same. -/
namespace Go.Proofs.YtlidimmfpfockaaGreatDoor
open Go.RowKit
/-- Two lists of one length whose members agree. -/
def all2 (r : Ex → Ex → Bool) : List Ex → List Ex → Bool
  | [], [] => true
  | a :: l, b :: l' => r a b && all2 r l l'
  | _, _ => false
theorem all2_len {r : Ex → Ex → Bool} : ∀ {l l' : List Ex}, l.length ≠ l'.length → all2 r l l' = false
  | [], [], h => absurd rfl h
  | [], _ :: _, _ => rfl
  | _ :: _, [], _ => rfl
  | a :: l, b :: l', h => by
    simp only [all2]
    rw [all2_len (by simpa using h)]
    simp
theorem all2_get {r : Ex → Ex → Bool} : ∀ {l l' : List Ex}, l.length = l'.length → (all2 r l l' = true ↔ ∀ (i : Nat) (a b : Ex), l[i]? = some a → l'[i]? = some b → r a b = true)
  | [], [], _ => by simp [all2]
  | a :: l, b :: l', h => by
    simp only [all2, Bool.and_eq_true, all2_get (show l.length = l'.length by simpa using h)]
    constructor
    · rintro ⟨h1, h2⟩ i x y hx hy
      cases i with
      | zero => simp at hx hy; subst hx hy; exact h1
      | succ i => exact h2 i x y (by simpa using hx) (by simpa using hy)
    · intro h
      exact ⟨h 0 a b rfl rfl, fun i x y hx hy => h (i + 1) x y (by simpa using hx) (by simpa using hy)⟩
  | [], _ :: _, h => by simp at h
  | _ :: _, [], h => by simp at h
theorem equalFunc {f : Nat} {r : Ex → Ex → Bool} (l1 l2 : List Ex) (hf : okF Tryz.prog f = true) (hr : ∀ a ∈ l1, ∀ b ∈ l2, AF Tryz.prog f [exA a, exA b] (aB (r a b))) :
    AF Tryz.prog 72 [.d (.sl 5 (Ex.ds l1)), .d (.sl 5 (Ex.ds l2)), .fn f [] []] (aB (all2 r l1 l2)) := by
  refine af_of Tryz.func72 rfl (by kernel_rfl) (by simp [Tryz.ntmps72]) fun hb => ?_
  have n1 : l1.length ≤ maxLen := by simpa using hb.1.1
  clear hb
  simp [Tryz.f72]
  refine aCond_split (fun hne => ?_) (fun hlen => ?_)
  · simp
    rw [all2_len (by simp at hne; omega)]
  have hlen : l1.length = l2.length := by simp at hlen; omega
  simp
  refine aLoop_of (α := Nat) (fun i e A => i ≤ l1.length ∧ A = [] ∧ e 17 = aI .i64 i ∧ e 15 = .d (.sl 5 (Ex.ds l1)) ∧ e 16 = aI .i64 l1.length ∧ e 1 = .d (.sl 5 (Ex.ds l2)) ∧ e 2 = .fn f [] [] ∧
    ∀ (j : Nat) (a b : Ex), j < i → l1[j]? = some a → l2[j]? = some b → r a b = true) (fun i => l1.length - i) 0 (Sub.refl _ _ _) ⟨by omega, rfl, by simp, by simp, by simp, by simp, by simp, by intro j a b hj; omega⟩ ?_
  rintro i e A ⟨hi, rfl, e17, e15, e16, e1, e2, hall⟩ K hK
  simp [e17, e16]
  refine aCond_split (fun hlt => ?_) (fun hge => ?_)
  · simp at hlt
    have hi1 := List.getElem?_eq_getElem hlt
    have hi2 := List.getElem?_eq_getElem (show i < l2.length by omega)
    simp [e17, e15, e16, e1, e2, hi1, hi2, Ex.d_eq]
    refine aCall_of (hr _ (List.mem_of_getElem? hi1) _ (List.mem_of_getElem? hi2)) hf (by simp) ?_
    simp
    refine aCond_split (fun hf => ?_) (fun ht => ?_)
    · simp at hf
      simp
      cases h : all2 r l1 l2 with
      | false => rfl
      | true => rw [(all2_get hlen).1 h i _ _ hi1 hi2] at hf; cases hf
    · simp at ht
      simp [e17, succ_wrap hlt n1]
      refine hK (i + 1) _ _ _ _ (Sub.take 0 (Nat.le_refl _)) ⟨by omega, by simp, by simp, by simp [e15], by simp [e16], by simp [e1], by simp [e2], ?_⟩ (by omega)
      intro j a b hj ha hb
      rcases Nat.lt_or_ge j i with h | h
      · exact hall j a b h ha hb
      · obtain rfl : j = i := by omega
        rw [hi1] at ha
        rw [hi2] at hb
        simp only [Option.some.injEq] at ha hb
        subst ha hb
        exact ht
  · simp at hge
    simp
    refine (all2_get hlen).2 fun j a b ha hb => hall j a b ?_ ha hb
    have := (List.getElem?_eq_some_iff.1 ha).1
    omega
/-- Equality of expressions. -/
def sameB : Ex → Ex → Bool
  | .mk o n v w l, .mk o' n' v' w' l' => o == o' && n == n' && v == v' && w == w' && sames l l'
where sames : List Ex → List Ex → Bool
  | [], [] => true
  | a :: l, b :: l' => sameB a b && sames l l'
  | _, _ => false
theorem sameB_eq (a b : Ex) : sameB a b = (a.op == b.op && a.n == b.n && a.v == b.v && a.wd == b.wd && all2 sameB a.l b.l) := by
  have h : ∀ l l', sameB.sames l l' = all2 sameB l l' := by
    intro l
    induction l with
    | nil => intro l'; cases l' <;> rfl
    | cons a l ih => intro l'; cases l' with
      | nil => rfl
      | cons b l' => simp only [sameB.sames, all2, ih]
  cases a; cases b
  simp only [sameB, h]
  rfl
theorem same_af : ∀ (a b : Ex), AF Tryz.prog 18 [exA a, exA b] (aB (sameB a b)) := by
  intro a
  induction a using Ex.ind with
  | h a ih =>
    intro b
    rw [sameB_eq]
    refine af_of Tryz.func18 rfl (by kernel_rfl) (by simp [Tryz.ntmps18]) fun _ => ?_
    simp [Tryz.f18]
    refine aG_split (fun g1 => ?_) (fun g1 => by simp at g1; simp [g1])
    simp at g1
    simp [g1]
    refine aG_split (fun g2 => ?_) (fun g2 => by simp at g2; simp [g1, g2])
    simp at g2
    simp [g1, g2]
    refine aG_split (fun g3 => ?_) (fun g3 => by simp at g3; simp [g1, g2, g3])
    simp at g3
    simp [g1, g2, g3]
    refine aG_split (fun g4 => ?_) (fun g4 => by simp at g4; simp [g1, g2, g3, g4])
    simp at g4
    simp [g1, g2, g3, g4]
    refine aCall_of (equalFunc a.l b.l (r := sameB) (by simp) fun x hx y _ => ih x hx y) (by simp) (by simp) ?_
    simp
theorem refsame_af : ∀ (a b : Ex), AF Tryz.prog 22 [exA a, exA b] (aB (sameB a b)) := by
  intro a
  induction a using Ex.ind with
  | h a ih =>
    intro b
    rw [sameB_eq]
    refine af_of Tryz.func22 rfl (by kernel_rfl) (by simp [Tryz.ntmps22]) fun hb => ?_
    have n1 : a.l.length ≤ maxLen := by simpa using hb.1.2.2.2.2.1.1
    clear hb
    simp [Tryz.f22]
    refine aG_split (fun g1 => ?_) (fun g1 => by simp at g1; simp [g1])
    simp at g1
    simp [g1]
    refine aG_split (fun g2 => ?_) (fun g2 => by simp at g2; simp [g1, g2])
    simp at g2
    simp [g2]
    refine aG_split (fun g3 => ?_) (fun g3 => by simp at g3; simp [g1, g2, g3])
    simp at g3
    simp [g3]
    refine aG_split (fun g4 => ?_) (fun g4 => by simp at g4; simp [g1, g2, g3, g4])
    simp at g4
    simp [g4]
    refine aCond_split (fun g5 => ?_) (fun g5 => ?_)
    · simp at g5
      simp
      rw [all2_len (by omega)]
    have hlen : a.l.length = b.l.length := by simp at g5; omega
    simp
    refine aLoop_of (α := Nat) (fun i e A => i ≤ a.l.length ∧ A = [⟨0, true, 38, 5, [[aI .i64 a.op, aI .u32 a.n, aI .i64 a.v, aI .i64 a.wd, .d (.sl 5 (Ex.ds a.l))]]⟩, ⟨0, true, 38, 5, [[aI .i64 b.op, aI .u32 b.n, aI .i64 b.v, aI .i64 b.wd, .d (.sl 5 (Ex.ds b.l))]]⟩] ∧
      e 5 = aI .i64 i ∧ e 2 = .ptr 0 0 0 0 ∧ e 3 = .ptr 1 0 0 0 ∧
      ∀ (j : Nat) (x y : Ex), j < i → a.l[j]? = some x → b.l[j]? = some y → sameB x y = true) (fun i => a.l.length - i) 0 (Sub.refl _ _ _) ⟨by omega, by simp [g1, g2, g3, g4], by simp, by simp, by simp, by intro j a b hj; omega⟩ ?_
    rintro i e A ⟨hi, rfl, e5, e2, e3, hall⟩ K hK
    simp [e5, e2]
    refine aCond_split (fun hlt => ?_) (fun hge => ?_)
    · simp at hlt
      have hi1 := List.getElem?_eq_getElem hlt
      have hi2 := List.getElem?_eq_getElem (show i < b.l.length by omega)
      simp
      refine adraw [] (by kernel_rfl) (by kernel_rfl) (by kernel_rfl) (by kernel_rfl) ?_
      simp [e5, e2, e3, hi1, hi2, Ex.d_eq]
      refine adC_of (ih _ (List.mem_of_getElem? hi1) b.l[i]) (by simp) trivial (by simp) (by simp) ?_
      simp
      refine aCond_split (fun hf => ?_) (fun ht => ?_)
      · simp at hf
        simp
        cases h : all2 sameB a.l b.l with
        | false => rfl
        | true => rw [(all2_get hlen).1 h i _ _ hi1 hi2] at hf; cases hf
      · simp at ht
        simp [e5, succ_wrap hlt n1]
        refine hK (i + 1) _ _ _ _ (Sub.refl _ _ _) ⟨by omega, rfl, by simp, by simp [e2], by simp [e3], ?_⟩ (by omega)
        intro j x y hj hx hy
        rcases Nat.lt_or_ge j i with h | h
        · exact hall j x y h hx hy
        · obtain rfl : j = i := by omega
          rw [hi1] at hx
          rw [hi2] at hy
          simp only [Option.some.injEq] at hx hy
          subst hx hy
          exact ht
    · simp at hge
      simp
      refine (all2_get hlen).2 fun j x y ha hb => hall j x y ?_ ha hb
      have := (List.getElem?_eq_some_iff.1 ha).1
      omega
theorem sameB_refl (a : Ex) : sameB a a = true := by
  induction a using Ex.ind with
  | h a ih =>
    rw [sameB_eq]
    have : all2 sameB a.l a.l = true := by
      have : ∀ l : List Ex, (∀ x ∈ l, sameB x x = true) → all2 sameB l l = true := by
        intro l
        induction l with
        | nil => intro _; rfl
        | cons x l ih => intro h; simp only [all2, h x (by simp), ih fun y hy => h y (by simp [hy]), Bool.and_self]
      exact this a.l ih
    simp [this]
end Go.Proofs.YtlidimmfpfockaaGreatDoor

/- Contracts: slices.Clone, il.own, il.Two, il.Const, il.Var. -/
namespace Go.Proofs.YtlidimmfpfockaaGreatDoor
open Go.RowKit
theorem bds_all {sz : Nat} : ∀ {xs : List (List D)}, BdS sz xs → ((dEls xs).all fun x => x.length == sz) = true
  | [], _ => rfl
  | x :: xs, h => by
    simp only [BdS] at h
    have := bds_all h.2.2
    simp [h.1] at this ⊢
    exact this
theorem clone_ac (A : AHeap) (xs : List (List D)) (hl : xs.length ≤ 1000000000) :
    AC Tryz.prog 116 [.d (.sl 5 xs)] A fun r A' => r = .own A.length 1 0 xs.length ∧ A' = A ++ [⟨1, true, 38, 5, dEls xs⟩] := by
  refine AC.sub (R := fun r A' => (r = .own A.length 1 0 xs.length ∧ A' = A ++ [⟨1, true, 38, 5, dEls xs⟩]) ∨ (r = .d (.v (.slice none 0 0)) ∧ xs = [] ∧ A' = A)) (ac_of Tryz.func116 rfl (by kernel_rfl) (by simp [Tryz.ntmps116]) fun hb => ?_) ?_
  · have hall := bds_all hb.1.2
    clear hb
    simp [Tryz.f116]
    refine aRaw_app byt_23 ?_
    simp [hall]
    unfold maxLen
    omega
  · rintro r A' (⟨rfl, rfl⟩ | ⟨rfl, rfl, rfl⟩)
    · exact ⟨_, _, Sub.refl _ _ _, rfl, rfl⟩
    · refine ⟨_, _, (Sub.ghost 1 38 5).trans (Sub.env (e' := fun _ => .own A'.length 1 0 0) fun i => VLe.nil_own (k := ⟨1, true, 38, 5, []⟩) (by simp) rfl), ?_, ?_⟩ <;> simp
theorem own_af : ∀ (e : Ex), e.nodes ≤ 1000000000 → AF Tryz.prog 115 [exA e] (exA e) := by
  intro x
  induction x using Ex.ind with
  | h x ih =>
    intro hn
    have hlen := x.nodes_len
    have n1 : x.l.length ≤ maxLen := by unfold maxLen; omega
    refine af_of Tryz.func115 rfl (by kernel_rfl) (by simp [Tryz.ntmps115]) fun _ => ?_
    simp [Tryz.f115]
    refine aCall_ofc (clone_ac _ (Ex.ds x.l) (by simp; omega)) (by simp) ?_
    rintro _ _ ⟨rfl, rfl⟩
    simp
    refine aLoop_of (α := Nat) (fun i e A => i ≤ x.l.length ∧ A = [⟨0, true, 38, 5, [[aI .i64 x.op, aI .u32 x.n, aI .i64 x.v, aI .i64 x.wd, .own 2 1 0 x.l.length]]⟩, ⟨0, true, 38, 5, [[aI .i64 0, aI .u32 0, aI .i64 0, aI .i64 0, .d (.v (.slice none 0 0))]]⟩, ⟨1, true, 38, 5, dEls (Ex.ds x.l)⟩] ∧
      e 11 = aI .i64 i ∧ e 10 = aI .i64 x.l.length ∧ e 1 = .ptr 0 0 0 0 ∧ e 2 = .ptr 1 0 0 0) (fun i => x.l.length - i) 0 (Sub.refl _ _ _) ⟨by omega, by simp, by simp, by simp, by simp, by simp⟩ ?_
    rintro i e A ⟨hi, rfl, e11, e10, e1, e2⟩ K hK
    simp [e11, e10]
    refine aCond_split (fun hlt => ?_) (fun hge => ?_)
    · simp at hlt
      have hi1 := List.getElem?_eq_getElem hlt
      simp
      refine adraw [] (by kernel_rfl) (by kernel_rfl) (by kernel_rfl) (by kernel_rfl) ?_
      simp [e11, e1, hlt, hi1, Ex.d_eq]
      refine adC_of (ih _ (List.mem_of_getElem? hi1) (by have := Ex.nodes_mem (List.mem_of_getElem? hi1); omega)) (by simp) trivial (by simp) (by simp) ?_
      simp [hlt, Ex.d_eq, e11, succ_wrap hlt n1]
      exact hK (i + 1) _ _ _ _ (Sub.refl _ _ _) ⟨by omega, by simp; exact set_same (by simp [hlt, Ex.d_eq]), by simp, by simp [e10], by simp [e1], by simp [e2]⟩ (by omega)
    · simp at hge
      simp [e1, e2]
end Go.Proofs.YtlidimmfpfockaaGreatDoor

/- Contracts: il.Two, il.Const, il.Var; flagfuse's makers and conditions; the reference's makers. -/
namespace Go.Proofs.YtlidimmfpfockaaGreatDoor
open Go.RowKit
def eCon (n : Int) : Ex := .mk 1 n 0 0 []
def eVar (v : Int) : Ex := .mk 2 0 v 0 []
def eTwo (op : Int) (a b : Ex) : Ex := .mk op 0 0 0 [a, b]
def eOne (op : Int) (a : Ex) : Ex := .mk op 0 0 0 [a]
abbrev eNot (a : Ex) : Ex := eOne 16 a
section
variable (op n v : Int) (a b : Ex)
@[simp] theorem eCon_op : (eCon n).op = 1 := rfl
@[simp] theorem eCon_n : (eCon n).n = n := rfl
@[simp] theorem eCon_v : (eCon n).v = 0 := rfl
@[simp] theorem eCon_wd : (eCon n).wd = 0 := rfl
@[simp] theorem eCon_l : (eCon n).l = [] := rfl
@[simp] theorem eVar_op : (eVar v).op = 2 := rfl
@[simp] theorem eVar_n : (eVar v).n = 0 := rfl
@[simp] theorem eVar_v : (eVar v).v = v := rfl
@[simp] theorem eVar_wd : (eVar v).wd = 0 := rfl
@[simp] theorem eVar_l : (eVar v).l = [] := rfl
@[simp] theorem eTwo_op : (eTwo op a b).op = op := rfl
@[simp] theorem eTwo_n : (eTwo op a b).n = 0 := rfl
@[simp] theorem eTwo_v : (eTwo op a b).v = 0 := rfl
@[simp] theorem eTwo_wd : (eTwo op a b).wd = 0 := rfl
@[simp] theorem eTwo_l : (eTwo op a b).l = [a, b] := rfl
@[simp] theorem eOne_op : (eOne op a).op = op := rfl
@[simp] theorem eOne_n : (eOne op a).n = 0 := rfl
@[simp] theorem eOne_v : (eOne op a).v = 0 := rfl
@[simp] theorem eOne_wd : (eOne op a).wd = 0 := rfl
@[simp] theorem eOne_l : (eOne op a).l = [a] := rfl
@[simp] theorem nodes_con : (eCon n).nodes = 1 := rfl
@[simp] theorem nodes_var : (eVar v).nodes = 1 := rfl
@[simp] theorem nodes_two : (eTwo op a b).nodes = a.nodes + b.nodes + 1 := by simp [eTwo, Ex.nodes, Ex.nodess]
@[simp] theorem nodes_one : (eOne op a).nodes = a.nodes + 1 := by simp [eOne, Ex.nodes, Ex.nodess]
end
theorem two_af (op : Int) (a b : Ex) (ha : a.nodes ≤ 1000000000) (hb : b.nodes ≤ 1000000000) : AF Tryz.prog 49 [aI .i64 op, exA a, exA b] (exA (eTwo op a b)) := by
  refine af_of Tryz.func49 rfl (by kernel_rfl) (by simp [Tryz.ntmps49]) fun _ => ?_
  simp [Tryz.f49]
  refine adraw [] (by kernel_rfl) (by kernel_rfl) (by kernel_rfl) (by kernel_rfl) ?_
  simp
  refine adC_of (own_af a ha) (by simp) trivial (by simp) (by simp) ?_
  simp
  refine adC_of (own_af b hb) (by simp) trivial (by simp) (by simp) ?_
  simp [Ex.d_eq]
theorem const_af (n : Int) : AF Tryz.prog 51 [aI .u32 n] (exA (eCon n)) := by
  refine af_of Tryz.func51 rfl (by kernel_rfl) (by simp [Tryz.ntmps51]) fun _ => ?_
  simp [Tryz.f51]
theorem rcon_af (n : Int) : AF Tryz.prog 160 [aI .u32 n] (exA (eCon n)) := by
  refine af_of Tryz.func160 rfl (by kernel_rfl) (by simp [Tryz.ntmps160]) fun _ => ?_
  simp [Tryz.f160]
theorem var_af (v : Int) : AF Tryz.prog 50 [aI .i64 v] (exA (eVar v)) := by
  refine af_of Tryz.func50 rfl (by kernel_rfl) (by simp [Tryz.ntmps50]) fun _ => ?_
  simp [Tryz.f50]
theorem rvar_af (v : Int) : AF Tryz.prog 247 [aI .i64 v] (exA (eVar v)) := by
  refine af_of Tryz.func247 rfl (by kernel_rfl) (by simp [Tryz.ntmps247]) fun _ => ?_
  simp [Tryz.f247]
theorem not_af (a : Ex) : AF Tryz.prog 147 [exA a] (exA (eNot a)) := by
  refine af_of Tryz.func147 rfl (by kernel_rfl) (by simp [Tryz.ntmps147]) fun _ => ?_
  simp [Tryz.f147, Ex.d_eq]
theorem rnot_af (a : Ex) : AF Tryz.prog 204 [exA a] (exA (eNot a)) := by
  refine af_of Tryz.func204 rfl (by kernel_rfl) (by simp [Tryz.ntmps204]) fun _ => ?_
  simp [Tryz.f204, Ex.d_eq]
theorem rtwo_af (op : Int) (a b : Ex) : AF Tryz.prog 161 [aI .i64 op, exA a, exA b] (exA (eTwo op a b)) := by
  refine af_of Tryz.func161 rfl (by kernel_rfl) (by simp [Tryz.ntmps161]) fun _ => ?_
  simp [Tryz.f161, Ex.d_eq]
theorem less_af (a b : Ex) (ha : a.nodes ≤ 1000000000) (hb : b.nodes ≤ 1000000000) : AF Tryz.prog 146 [exA a, exA b] (exA (eTwo 14 a b)) := by
  refine af_of Tryz.func146 rfl (by kernel_rfl) (by simp [Tryz.ntmps146]) fun _ => ?_
  simp [Tryz.f146]
  refine aCall_of (two_af 14 a b ha hb) (by simp) (by simp) ?_
  simp
theorem below_af (a b : Ex) (ha : a.nodes ≤ 1000000000) (hb : b.nodes ≤ 1000000000) : AF Tryz.prog 148 [exA a, exA b] (exA (eTwo 15 a b)) := by
  refine af_of Tryz.func148 rfl (by kernel_rfl) (by simp [Tryz.ntmps148]) fun _ => ?_
  simp [Tryz.f148]
  refine aCall_of (two_af 15 a b ha hb) (by simp) (by simp) ?_
  simp
abbrev eMinus (a b : Ex) : Ex := eTwo 14 (eTwo 4 a b) (eCon 0)
abbrev eOver (a b : Ex) : Ex := eTwo 8 (eTwo 14 a b) (eMinus a b)
theorem minus_af (a b : Ex) (ha : a.nodes ≤ 100000000) (hb : b.nodes ≤ 100000000) : AF Tryz.prog 149 [exA a, exA b] (exA (eMinus a b)) := by
  refine af_of Tryz.func149 rfl (by kernel_rfl) (by simp [Tryz.ntmps149]) fun _ => ?_
  simp [Tryz.f149]
  refine aCall_of (two_af 4 a b (by omega) (by omega)) (by simp) (by simp) ?_
  simp
  refine aCall_of (const_af 0) (by simp) (by simp) ?_
  simp
  refine aCall_of (less_af (eTwo 4 a b) (eCon 0) (by simp; omega) (by simp)) (by simp) (by simp) ?_
  simp
theorem over_af (a b : Ex) (ha : a.nodes ≤ 100000000) (hb : b.nodes ≤ 100000000) : AF Tryz.prog 150 [exA a, exA b] (exA (eOver a b)) := by
  refine af_of Tryz.func150 rfl (by kernel_rfl) (by simp [Tryz.ntmps150]) fun _ => ?_
  simp [Tryz.f150]
  refine adraw [] (by kernel_rfl) (by kernel_rfl) (by kernel_rfl) (by kernel_rfl) ?_
  simp
  refine adC_of (less_af a b (by omega) (by omega)) (by simp) trivial (by simp) (by simp) ?_
  simp
  refine adC_of (minus_af a b ha hb) (by simp) trivial (by simp) (by simp) ?_
  simp
  refine adC_of (two_af 8 (eTwo 14 a b) (eMinus a b) (by simp; omega) (by simp; omega)) (by simp) trivial (by simp) (by simp) ?_
  simp
end Go.Proofs.YtlidimmfpfockaaGreatDoor

/- Contracts: the conditions and the flag expressions (printed by gen_be.py). -/
namespace Go.Proofs.YtlidimmfpfockaaGreatDoor
open Go.RowKit
theorem rover_af (a b : Ex) : AF Tryz.prog 162 [exA a, exA b] (exA (eOver a b)) := by
  refine af_of Tryz.func162 rfl (by kernel_rfl) (by simp [Tryz.ntmps162]) fun _ => ?_
  simp [Tryz.f162]
  refine adraw [] (by kernel_rfl) (by kernel_rfl) (by kernel_rfl) (by kernel_rfl) ?_
  simp
  refine adC_of (rtwo_af 14 a b) (by simp) trivial (by simp) (by simp) ?_
  simp
  refine adC_of (rtwo_af 4 a b) (by simp) trivial (by simp) (by simp) ?_
  simp
  refine adC_of (rcon_af 0) (by simp) trivial (by simp) (by simp) ?_
  simp
  refine adC_of (rtwo_af 14 (eTwo 4 a b) (eCon 0)) (by simp) trivial (by simp) (by simp) ?_
  simp
  refine adC_of (rtwo_af 8 (eTwo 14 a b) (eMinus a b)) (by simp) trivial (by simp) (by simp) ?_
  simp
/-- The comparison of a condition. -/
def condE (cc : Int) (a b : Ex) : Ex :=
  if cc = 0 then eCon 1 else
  if cc = 1 then eTwo 12 a b else
  if cc = 2 then eTwo 13 a b else
  if cc = 3 then eTwo 14 a b else
  if cc = 4 then eNot (eTwo 14 a b) else
  if cc = 5 then eNot (eTwo 14 b a) else
  if cc = 6 then eTwo 14 b a else
  if cc = 7 then eTwo 15 a b else
  if cc = 8 then eNot (eTwo 15 a b) else
  if cc = 9 then eNot (eTwo 15 b a) else
  if cc = 10 then eTwo 15 b a else
  if cc = 11 then eMinus a b else
  if cc = 12 then eNot (eMinus a b) else
  if cc = 13 then eOver a b else
  if cc = 14 then eNot (eOver a b) else
  eCon 0
theorem cond_af (cc : Int) (a b : Ex) (ha : a.nodes ≤ 100000000) (hb : b.nodes ≤ 100000000) : AF Tryz.prog 94 [aI .i64 cc, exA a, exA b] (exA (condE cc a b)) := by
  refine af_of Tryz.func94 rfl (by kernel_rfl) (by simp [Tryz.ntmps94]) fun _ => ?_
  obtain ⟨E, hE⟩ : ∃ E, condE cc a b = E := ⟨_, rfl⟩
  rw [hE]
  simp [Tryz.f94]
  refine aCond_split (fun h0 => ?_) (fun h0 => ?_)
  · simp at h0
    obtain rfl : E = eCon 1 := by rw [← hE, h0]; rfl
    simp
    refine aCall_of (const_af 1) (by simp) (by simp) ?_
    simp
  simp at h0
  simp
  refine aCond_split (fun h1 => ?_) (fun h1 => ?_)
  · simp at h1
    obtain rfl : E = eTwo 12 a b := by rw [← hE, h1]; rfl
    simp
    refine aCall_of (two_af 12 a b (by omega) (by omega)) (by simp) (by simp) ?_
    simp
  simp at h1
  simp
  refine aCond_split (fun h2 => ?_) (fun h2 => ?_)
  · simp at h2
    obtain rfl : E = eTwo 13 a b := by rw [← hE, h2]; rfl
    simp
    refine aCall_of (two_af 13 a b (by omega) (by omega)) (by simp) (by simp) ?_
    simp
  simp at h2
  simp
  refine aCond_split (fun h3 => ?_) (fun h3 => ?_)
  · simp at h3
    obtain rfl : E = eTwo 14 a b := by rw [← hE, h3]; rfl
    simp
    refine aCall_of (less_af a b (by omega) (by omega)) (by simp) (by simp) ?_
    simp
  simp at h3
  simp
  refine aCond_split (fun h4 => ?_) (fun h4 => ?_)
  · simp at h4
    obtain rfl : E = eNot (eTwo 14 a b) := by rw [← hE, h4]; rfl
    simp
    refine aCall_of (less_af a b (by omega) (by omega)) (by simp) (by simp) ?_
    simp
    refine aCall_of (not_af (eTwo 14 a b)) (by simp) (by simp) ?_
    simp
  simp at h4
  simp
  refine aCond_split (fun h5 => ?_) (fun h5 => ?_)
  · simp at h5
    obtain rfl : E = eNot (eTwo 14 b a) := by rw [← hE, h5]; rfl
    simp
    refine aCall_of (less_af b a (by omega) (by omega)) (by simp) (by simp) ?_
    simp
    refine aCall_of (not_af (eTwo 14 b a)) (by simp) (by simp) ?_
    simp
  simp at h5
  simp
  refine aCond_split (fun h6 => ?_) (fun h6 => ?_)
  · simp at h6
    obtain rfl : E = eTwo 14 b a := by rw [← hE, h6]; rfl
    simp
    refine aCall_of (less_af b a (by omega) (by omega)) (by simp) (by simp) ?_
    simp
  simp at h6
  simp
  refine aCond_split (fun h7 => ?_) (fun h7 => ?_)
  · simp at h7
    obtain rfl : E = eTwo 15 a b := by rw [← hE, h7]; rfl
    simp
    refine aCall_of (below_af a b (by omega) (by omega)) (by simp) (by simp) ?_
    simp
  simp at h7
  simp
  refine aCond_split (fun h8 => ?_) (fun h8 => ?_)
  · simp at h8
    obtain rfl : E = eNot (eTwo 15 a b) := by rw [← hE, h8]; rfl
    simp
    refine aCall_of (below_af a b (by omega) (by omega)) (by simp) (by simp) ?_
    simp
    refine aCall_of (not_af (eTwo 15 a b)) (by simp) (by simp) ?_
    simp
  simp at h8
  simp
  refine aCond_split (fun h9 => ?_) (fun h9 => ?_)
  · simp at h9
    obtain rfl : E = eNot (eTwo 15 b a) := by rw [← hE, h9]; rfl
    simp
    refine aCall_of (below_af b a (by omega) (by omega)) (by simp) (by simp) ?_
    simp
    refine aCall_of (not_af (eTwo 15 b a)) (by simp) (by simp) ?_
    simp
  simp at h9
  simp
  refine aCond_split (fun h10 => ?_) (fun h10 => ?_)
  · simp at h10
    obtain rfl : E = eTwo 15 b a := by rw [← hE, h10]; rfl
    simp
    refine aCall_of (below_af b a (by omega) (by omega)) (by simp) (by simp) ?_
    simp
  simp at h10
  simp
  refine aCond_split (fun h11 => ?_) (fun h11 => ?_)
  · simp at h11
    obtain rfl : E = eMinus a b := by rw [← hE, h11]; rfl
    simp
    refine aCall_of (minus_af a b (by omega) (by omega)) (by simp) (by simp) ?_
    simp
  simp at h11
  simp
  refine aCond_split (fun h12 => ?_) (fun h12 => ?_)
  · simp at h12
    obtain rfl : E = eNot (eMinus a b) := by rw [← hE, h12]; rfl
    simp
    refine aCall_of (minus_af a b (by omega) (by omega)) (by simp) (by simp) ?_
    simp
    refine aCall_of (not_af (eMinus a b)) (by simp) (by simp) ?_
    simp
  simp at h12
  simp
  refine aCond_split (fun h13 => ?_) (fun h13 => ?_)
  · simp at h13
    obtain rfl : E = eOver a b := by rw [← hE, h13]; rfl
    simp
    refine aCall_of (over_af a b (by omega) (by omega)) (by simp) (by simp) ?_
    simp
  simp at h13
  simp
  refine aCond_split (fun h14 => ?_) (fun h14 => ?_)
  · simp at h14
    obtain rfl : E = eNot (eOver a b) := by rw [← hE, h14]; rfl
    simp
    refine aCall_of (over_af a b (by omega) (by omega)) (by simp) (by simp) ?_
    simp
    refine aCall_of (not_af (eOver a b)) (by simp) (by simp) ?_
    simp
  simp at h14
  simp
  obtain rfl : E = eCon 0 := by rw [← hE]; simp [condE, h0, h1, h2, h3, h4, h5, h6, h7, h8, h9, h10, h11, h12, h13, h14]
  refine aCall_of (const_af 0) (by simp) (by simp) ?_
  simp
theorem rcond_af (cc : Int) (a b : Ex) : AF Tryz.prog 164 [aI .i64 cc, exA a, exA b] (exA (condE cc a b)) := by
  refine af_of Tryz.func164 rfl (by kernel_rfl) (by simp [Tryz.ntmps164]) fun _ => ?_
  obtain ⟨E, hE⟩ : ∃ E, condE cc a b = E := ⟨_, rfl⟩
  rw [hE]
  simp [Tryz.f164]
  refine aCond_split (fun h0 => ?_) (fun h0 => ?_)
  · simp at h0
    obtain rfl : E = eCon 1 := by rw [← hE, h0]; rfl
    simp
    refine aCall_of (rcon_af 1) (by simp) (by simp) ?_
    simp
  simp at h0
  simp
  refine aCond_split (fun h1 => ?_) (fun h1 => ?_)
  · simp at h1
    obtain rfl : E = eTwo 12 a b := by rw [← hE, h1]; rfl
    simp
    refine aCall_of (rtwo_af 12 a b) (by simp) (by simp) ?_
    simp
  simp at h1
  simp
  refine aCond_split (fun h2 => ?_) (fun h2 => ?_)
  · simp at h2
    obtain rfl : E = eTwo 13 a b := by rw [← hE, h2]; rfl
    simp
    refine aCall_of (rtwo_af 13 a b) (by simp) (by simp) ?_
    simp
  simp at h2
  simp
  refine aCond_split (fun h3 => ?_) (fun h3 => ?_)
  · simp at h3
    obtain rfl : E = eTwo 14 a b := by rw [← hE, h3]; rfl
    simp
    refine aCall_of (rtwo_af 14 a b) (by simp) (by simp) ?_
    simp
  simp at h3
  simp
  refine aCond_split (fun h4 => ?_) (fun h4 => ?_)
  · simp at h4
    obtain rfl : E = eNot (eTwo 14 a b) := by rw [← hE, h4]; rfl
    simp
    refine aCall_of (rtwo_af 14 a b) (by simp) (by simp) ?_
    simp
    refine aCall_of (rnot_af (eTwo 14 a b)) (by simp) (by simp) ?_
    simp
  simp at h4
  simp
  refine aCond_split (fun h5 => ?_) (fun h5 => ?_)
  · simp at h5
    obtain rfl : E = eNot (eTwo 14 b a) := by rw [← hE, h5]; rfl
    simp
    refine aCall_of (rtwo_af 14 b a) (by simp) (by simp) ?_
    simp
    refine aCall_of (rnot_af (eTwo 14 b a)) (by simp) (by simp) ?_
    simp
  simp at h5
  simp
  refine aCond_split (fun h6 => ?_) (fun h6 => ?_)
  · simp at h6
    obtain rfl : E = eTwo 14 b a := by rw [← hE, h6]; rfl
    simp
    refine aCall_of (rtwo_af 14 b a) (by simp) (by simp) ?_
    simp
  simp at h6
  simp
  refine aCond_split (fun h7 => ?_) (fun h7 => ?_)
  · simp at h7
    obtain rfl : E = eTwo 15 a b := by rw [← hE, h7]; rfl
    simp
    refine aCall_of (rtwo_af 15 a b) (by simp) (by simp) ?_
    simp
  simp at h7
  simp
  refine aCond_split (fun h8 => ?_) (fun h8 => ?_)
  · simp at h8
    obtain rfl : E = eNot (eTwo 15 a b) := by rw [← hE, h8]; rfl
    simp
    refine aCall_of (rtwo_af 15 a b) (by simp) (by simp) ?_
    simp
    refine aCall_of (rnot_af (eTwo 15 a b)) (by simp) (by simp) ?_
    simp
  simp at h8
  simp
  refine aCond_split (fun h9 => ?_) (fun h9 => ?_)
  · simp at h9
    obtain rfl : E = eNot (eTwo 15 b a) := by rw [← hE, h9]; rfl
    simp
    refine aCall_of (rtwo_af 15 b a) (by simp) (by simp) ?_
    simp
    refine aCall_of (rnot_af (eTwo 15 b a)) (by simp) (by simp) ?_
    simp
  simp at h9
  simp
  refine aCond_split (fun h10 => ?_) (fun h10 => ?_)
  · simp at h10
    obtain rfl : E = eTwo 15 b a := by rw [← hE, h10]; rfl
    simp
    refine aCall_of (rtwo_af 15 b a) (by simp) (by simp) ?_
    simp
  simp at h10
  simp
  refine aCond_split (fun h11 => ?_) (fun h11 => ?_)
  · simp at h11
    obtain rfl : E = eMinus a b := by rw [← hE, h11]; rfl
    simp
    refine aCall_of (rtwo_af 4 a b) (by simp) (by simp) ?_
    simp
    refine aCall_of (rcon_af 0) (by simp) (by simp) ?_
    simp
    refine aCall_of (rtwo_af 14 (eTwo 4 a b) (eCon 0)) (by simp) (by simp) ?_
    simp
  simp at h11
  simp
  refine aCond_split (fun h12 => ?_) (fun h12 => ?_)
  · simp at h12
    obtain rfl : E = eNot (eMinus a b) := by rw [← hE, h12]; rfl
    simp
    refine aCall_of (rtwo_af 4 a b) (by simp) (by simp) ?_
    simp
    refine aCall_of (rcon_af 0) (by simp) (by simp) ?_
    simp
    refine aCall_of (rtwo_af 14 (eTwo 4 a b) (eCon 0)) (by simp) (by simp) ?_
    simp
    refine aCall_of (rnot_af (eMinus a b)) (by simp) (by simp) ?_
    simp
  simp at h12
  simp
  refine aCond_split (fun h13 => ?_) (fun h13 => ?_)
  · simp at h13
    obtain rfl : E = eOver a b := by rw [← hE, h13]; rfl
    simp
    refine aCall_of (rover_af a b) (by simp) (by simp) ?_
    simp
  simp at h13
  simp
  refine aCond_split (fun h14 => ?_) (fun h14 => ?_)
  · simp at h14
    obtain rfl : E = eNot (eOver a b) := by rw [← hE, h14]; rfl
    simp
    refine aCall_of (rover_af a b) (by simp) (by simp) ?_
    simp
    refine aCall_of (rnot_af (eOver a b)) (by simp) (by simp) ?_
    simp
  simp at h14
  simp
  obtain rfl : E = eCon 0 := by rw [← hE]; simp [condE, h0, h1, h2, h3, h4, h5, h6, h7, h8, h9, h10, h11, h12, h13, h14]
  refine aCall_of (rcon_af 0) (by simp) (by simp) ?_
  simp
/-- The flag expression of a condition. -/
def flagE : Nat → Ex
  | 0 => eCon 1
  | 1 => eVar 8
  | 2 => eNot (eVar 8)
  | 3 => eTwo 8 (eVar 9) (eVar 11)
  | 4 => eNot (eTwo 8 (eVar 9) (eVar 11))
  | 5 => eTwo 7 (eVar 8) (eTwo 8 (eVar 9) (eVar 11))
  | 6 => eNot (eTwo 7 (eVar 8) (eTwo 8 (eVar 9) (eVar 11)))
  | 7 => eVar 10
  | 8 => eNot (eVar 10)
  | 9 => eTwo 7 (eVar 10) (eVar 8)
  | 10 => eNot (eTwo 7 (eVar 10) (eVar 8))
  | 11 => eVar 9
  | 12 => eNot (eVar 9)
  | 13 => eVar 11
  | 14 => eNot (eVar 11)
  | _ => eCon 0
end Go.Proofs.YtlidimmfpfockaaGreatDoor

/- Contracts: the flag expressions, Recognize, size (printed by gen_be.py). -/
namespace Go.Proofs.YtlidimmfpfockaaGreatDoor
open Go.RowKit
theorem flagExpr_af (k : Nat) (hk : k < 15) : AF Tryz.prog 151 [aI .i64 k] (exA (flagE k)) := by
  refine af_of Tryz.func151 rfl (by kernel_rfl) (by simp [Tryz.ntmps151]) fun _ => ?_
  obtain ⟨E, hE⟩ : ∃ E, flagE k = E := ⟨_, rfl⟩
  rw [hE]
  simp [Tryz.f151]
  refine aCall_of (var_af 8) (by simp) (by simp) ?_
  simp
  refine aCall_of (var_af 9) (by simp) (by simp) ?_
  simp
  refine aCall_of (var_af 10) (by simp) (by simp) ?_
  simp
  refine aCall_of (var_af 11) (by simp) (by simp) ?_
  simp
  refine aCall_of (two_af 8 (eVar 9) (eVar 11) (by simp) (by simp)) (by simp) (by simp) ?_
  simp
  refine adraw [] (by kernel_rfl) (by kernel_rfl) (by kernel_rfl) (by kernel_rfl) ?_
  simp
  refine adC_of (const_af 1) (by simp) trivial (by simp) (by simp) ?_
  simp
  refine adC_of (not_af (eVar 8)) (by simp) trivial (by simp) (by simp) ?_
  simp
  refine adC_of (not_af (eTwo 8 (eVar 9) (eVar 11))) (by simp) trivial (by simp) (by simp) ?_
  simp
  refine adC_of (two_af 7 (eVar 8) (eTwo 8 (eVar 9) (eVar 11)) (by simp) (by simp)) (by simp) trivial (by simp) (by simp) ?_
  simp
  refine adC_of (two_af 7 (eVar 8) (eTwo 8 (eVar 9) (eVar 11)) (by simp) (by simp)) (by simp) trivial (by simp) (by simp) ?_
  simp
  refine adC_of (not_af (eTwo 7 (eVar 8) (eTwo 8 (eVar 9) (eVar 11)))) (by simp) trivial (by simp) (by simp) ?_
  simp
  refine adC_of (not_af (eVar 10)) (by simp) trivial (by simp) (by simp) ?_
  simp
  refine adC_of (two_af 7 (eVar 10) (eVar 8) (by simp) (by simp)) (by simp) trivial (by simp) (by simp) ?_
  simp
  refine adC_of (two_af 7 (eVar 10) (eVar 8) (by simp) (by simp)) (by simp) trivial (by simp) (by simp) ?_
  simp
  refine adC_of (not_af (eTwo 7 (eVar 10) (eVar 8))) (by simp) trivial (by simp) (by simp) ?_
  simp
  refine adC_of (not_af (eVar 9)) (by simp) trivial (by simp) (by simp) ?_
  simp
  refine adC_of (not_af (eVar 11)) (by simp) trivial (by simp) (by simp) ?_
  simp
  subst hE
  have hk' : k = 0 ∨ k = 1 ∨ k = 2 ∨ k = 3 ∨ k = 4 ∨ k = 5 ∨ k = 6 ∨ k = 7 ∨ k = 8 ∨ k = 9 ∨ k = 10 ∨ k = 11 ∨ k = 12 ∨ k = 13 ∨ k = 14 := by omega
  clear hk
  rcases hk' with rfl | rfl | rfl | rfl | rfl | rfl | rfl | rfl | rfl | rfl | rfl | rfl | rfl | rfl | rfl <;> simp [flagE, Ex.d_eq]
theorem rflag_af (k : Nat) (hk : k < 15) : AF Tryz.prog 203 [aI .i64 k] (.tup [exA (flagE k), aB true]) := by
  refine af_of Tryz.func203 rfl (by kernel_rfl) (by simp [Tryz.ntmps203]) fun _ => ?_
  obtain ⟨E, hE⟩ : ∃ E, flagE k = E := ⟨_, rfl⟩
  rw [hE]
  simp [Tryz.f203]
  refine aCall_of (rvar_af 8) (by simp) (by simp) ?_
  simp
  refine aCall_of (rvar_af 9) (by simp) (by simp) ?_
  simp
  refine aCall_of (rvar_af 10) (by simp) (by simp) ?_
  simp
  refine aCall_of (rvar_af 11) (by simp) (by simp) ?_
  simp
  refine aCond_split (fun h => ?_) (fun h0 => ?_)
  · simp at h
    obtain rfl : k = 0 := by omega
    obtain rfl : E = eCon 1 := hE.symm
    simp
    refine aCall_of (rcon_af 1) (by simp) (by simp) ?_
    simp
  simp at h0
  simp
  refine aCond_split (fun h => ?_) (fun h1 => ?_)
  · simp at h
    obtain rfl : k = 1 := by omega
    obtain rfl : E = eVar 8 := hE.symm
    simp
  simp at h1
  simp
  refine aCond_split (fun h => ?_) (fun h2 => ?_)
  · simp at h
    obtain rfl : k = 2 := by omega
    obtain rfl : E = eNot (eVar 8) := hE.symm
    simp
    refine aCall_of (rnot_af (eVar 8)) (by simp) (by simp) ?_
    simp
  simp at h2
  simp
  refine aCond_split (fun h => ?_) (fun h3 => ?_)
  · simp at h
    obtain rfl : k = 3 := by omega
    obtain rfl : E = eTwo 8 (eVar 9) (eVar 11) := hE.symm
    simp
    refine aCall_of (rtwo_af 8 (eVar 9) (eVar 11)) (by simp) (by simp) ?_
    simp
  simp at h3
  simp
  refine aCond_split (fun h => ?_) (fun h4 => ?_)
  · simp at h
    obtain rfl : k = 4 := by omega
    obtain rfl : E = eNot (eTwo 8 (eVar 9) (eVar 11)) := hE.symm
    simp
    refine aCall_of (rtwo_af 8 (eVar 9) (eVar 11)) (by simp) (by simp) ?_
    simp
    refine aCall_of (rnot_af (eTwo 8 (eVar 9) (eVar 11))) (by simp) (by simp) ?_
    simp
  simp at h4
  simp
  refine aCond_split (fun h => ?_) (fun h5 => ?_)
  · simp at h
    obtain rfl : k = 5 := by omega
    obtain rfl : E = eTwo 7 (eVar 8) (eTwo 8 (eVar 9) (eVar 11)) := hE.symm
    simp
    refine adraw [] (by kernel_rfl) (by kernel_rfl) (by kernel_rfl) (by kernel_rfl) ?_
    simp
    refine adC_of (rtwo_af 8 (eVar 9) (eVar 11)) (by simp) trivial (by simp) (by simp) ?_
    simp
    refine adC_of (rtwo_af 7 (eVar 8) (eTwo 8 (eVar 9) (eVar 11))) (by simp) trivial (by simp) (by simp) ?_
    simp
  simp at h5
  simp
  refine aCond_split (fun h => ?_) (fun h6 => ?_)
  · simp at h
    obtain rfl : k = 6 := by omega
    obtain rfl : E = eNot (eTwo 7 (eVar 8) (eTwo 8 (eVar 9) (eVar 11))) := hE.symm
    simp
    refine adraw [] (by kernel_rfl) (by kernel_rfl) (by kernel_rfl) (by kernel_rfl) ?_
    simp
    refine adC_of (rtwo_af 8 (eVar 9) (eVar 11)) (by simp) trivial (by simp) (by simp) ?_
    simp
    refine adC_of (rtwo_af 7 (eVar 8) (eTwo 8 (eVar 9) (eVar 11))) (by simp) trivial (by simp) (by simp) ?_
    simp
    refine adC_of (rnot_af (eTwo 7 (eVar 8) (eTwo 8 (eVar 9) (eVar 11)))) (by simp) trivial (by simp) (by simp) ?_
    simp
  simp at h6
  simp
  refine aCond_split (fun h => ?_) (fun h7 => ?_)
  · simp at h
    obtain rfl : k = 7 := by omega
    obtain rfl : E = eVar 10 := hE.symm
    simp
  simp at h7
  simp
  refine aCond_split (fun h => ?_) (fun h8 => ?_)
  · simp at h
    obtain rfl : k = 8 := by omega
    obtain rfl : E = eNot (eVar 10) := hE.symm
    simp
    refine aCall_of (rnot_af (eVar 10)) (by simp) (by simp) ?_
    simp
  simp at h8
  simp
  refine aCond_split (fun h => ?_) (fun h9 => ?_)
  · simp at h
    obtain rfl : k = 9 := by omega
    obtain rfl : E = eTwo 7 (eVar 10) (eVar 8) := hE.symm
    simp
    refine aCall_of (rtwo_af 7 (eVar 10) (eVar 8)) (by simp) (by simp) ?_
    simp
  simp at h9
  simp
  refine aCond_split (fun h => ?_) (fun h10 => ?_)
  · simp at h
    obtain rfl : k = 10 := by omega
    obtain rfl : E = eNot (eTwo 7 (eVar 10) (eVar 8)) := hE.symm
    simp
    refine aCall_of (rtwo_af 7 (eVar 10) (eVar 8)) (by simp) (by simp) ?_
    simp
    refine aCall_of (rnot_af (eTwo 7 (eVar 10) (eVar 8))) (by simp) (by simp) ?_
    simp
  simp at h10
  simp
  refine aCond_split (fun h => ?_) (fun h11 => ?_)
  · simp at h
    obtain rfl : k = 11 := by omega
    obtain rfl : E = eVar 9 := hE.symm
    simp
  simp at h11
  simp
  refine aCond_split (fun h => ?_) (fun h12 => ?_)
  · simp at h
    obtain rfl : k = 12 := by omega
    obtain rfl : E = eNot (eVar 9) := hE.symm
    simp
    refine aCall_of (rnot_af (eVar 9)) (by simp) (by simp) ?_
    simp
  simp at h12
  simp
  refine aCond_split (fun h => ?_) (fun h13 => ?_)
  · simp at h
    obtain rfl : k = 13 := by omega
    obtain rfl : E = eVar 11 := hE.symm
    simp
  simp at h13
  simp
  refine aCond_split (fun h => ?_) (fun h14 => ?_)
  · simp at h
    obtain rfl : k = 14 := by omega
    obtain rfl : E = eNot (eVar 11) := hE.symm
    simp
    refine aCall_of (rnot_af (eVar 11)) (by simp) (by simp) ?_
    simp
  simp at h14
  simp
  omega
end Go.Proofs.YtlidimmfpfockaaGreatDoor

/- Contracts: Recognize, of flagfuse and of the reference; the law's size. -/
namespace Go.Proofs.YtlidimmfpfockaaGreatDoor
open Go.RowKit
/-- The condition that a flag expression is, if it is one. -/
def recN (e : Ex) : Option Nat := (List.range 15).find? fun k => sameB e (flagE k)
def recA (e : Ex) : AV := match recN e with
  | some k => .tup [aI .i64 k, aB true]
  | none => .tup [aI .i64 0, aB false]
theorem rec_some {e : Ex} {k : Nat} (hk : k < 15) (h : sameB e (flagE k) = true) (hl : ∀ j, j < k → sameB e (flagE j) = false) : recA e = .tup [aI .i64 k, aB true] := by
  have : recN e = some k := by
    unfold recN
    rw [List.find?_eq_some_iff_getElem]
    refine ⟨h, k, by simpa using hk, by simp, fun j hj => by simpa using hl j hj⟩
  unfold recA
  rw [this]
theorem rec_none {e : Ex} (hl : ∀ j, j < 15 → sameB e (flagE j) = false) : recA e = .tup [aI .i64 0, aB false] := by
  have : recN e = none := by
    unfold recN
    rw [List.find?_eq_none]
    intro k hk
    simpa using hl k (by simpa using hk)
  unfold recA
  rw [this]
theorem order_at {k : Nat} (h : k < 15) : (({ data := #[97, 98, 99, 100, 101, 102, 103, 104, 105, 106, 107, 108, 109, 110, 111] } : ByteArray)[k]?).map (fun b => AV.d (.v (.int .u8 b.toNat))) = some (aI .u8 (97 + k)) := by
  have : k = 0 ∨ k = 1 ∨ k = 2 ∨ k = 3 ∨ k = 4 ∨ k = 5 ∨ k = 6 ∨ k = 7 ∨ k = 8 ∨ k = 9 ∨ k = 10 ∨ k = 11 ∨ k = 12 ∨ k = 13 ∨ k = 14 := by omega
  rcases this with rfl | rfl | rfl | rfl | rfl | rfl | rfl | rfl | rfl | rfl | rfl | rfl | rfl | rfl | rfl <;> rfl
theorem rec_af (x : Ex) : AF Tryz.prog 95 [exA x] (recA x) := by
  refine af_of Tryz.func95 rfl (by kernel_rfl) (by simp [Tryz.ntmps95]) fun _ => ?_
  obtain ⟨R, hR⟩ : ∃ R, recA x = R := ⟨_, rfl⟩
  rw [hR]
  simp [Tryz.f95]
  refine aLoop_of (α := Nat) (fun i e A => i ≤ 15 ∧ A = [⟨0, true, 38, 5, [[aI .i64 x.op, aI .u32 x.n, aI .i64 x.v, aI .i64 x.wd, .d (.sl 5 (Ex.ds x.l))]]⟩] ∧ e 1 = .ptr 0 0 0 0 ∧ e 6 = aI .i64 i ∧
    ∀ j, j < i → sameB x (flagE j) = false) (fun i => 15 - i) 0 (Sub.refl _ _ _) ⟨by omega, by simp, by simp, by simp, by intro j hj; omega⟩ ?_
  rintro i e A ⟨hi, rfl, e1, e6, hall⟩ K hK
  simp [e6]
  refine aCond_split (fun hlt => ?_) (fun hge => ?_)
  · simp at hlt
    have hlt : i < 15 := by omega
    simp [e1, e6, order_at hlt]
    refine adraw [] (by kernel_rfl) (by kernel_rfl) (by kernel_rfl) (by kernel_rfl) ?_
    simp [e1]
    rw [u8w (n := 97 + (i : Int) - 97) (by omega), i64w (by omega), show (97 + (i : Int) - 97) = (i : Int) by omega]
    refine adC_of (flagExpr_af i hlt) (by simp) trivial (by simp) (by simp) ?_
    simp
    refine adC_of (same_af x (flagE i)) (by simp) trivial (by simp) (by simp) ?_
    simp
    refine aCond_split (fun hs => ?_) (fun hs => ?_)
    · rw [rec_some hlt hs hall] at hR
      subst hR
      simp
    · simp [e6, i64w (n := (i : Int) + 1) (by omega)]
      refine hK (i + 1) _ _ _ _ (Sub.refl _ _ _) ⟨by omega, rfl, by simp [e1], by simp, fun j hj => ?_⟩ (by omega)
      rcases Nat.lt_or_ge j i with h | h
      · exact hall j h
      · obtain rfl : j = i := by omega
        exact hs
  · simp at hge
    rw [rec_none fun j hj => hall j (by omega)] at hR
    subst hR
    simp
theorem rrec_af (x : Ex) : AF Tryz.prog 163 [exA x] (recA x) := by
  refine af_of Tryz.func163 rfl (by kernel_rfl) (by simp [Tryz.ntmps163]) fun _ => ?_
  obtain ⟨R, hR⟩ : ∃ R, recA x = R := ⟨_, rfl⟩
  rw [hR]
  simp [Tryz.f163]
  refine aLoop_of (α := Nat) (fun i e A => i ≤ 15 ∧ A = [⟨0, true, 38, 5, [[aI .i64 x.op, aI .u32 x.n, aI .i64 x.v, aI .i64 x.wd, .d (.sl 5 (Ex.ds x.l))]]⟩] ∧ e 1 = .ptr 0 0 0 0 ∧ e 4 = aI .i64 i ∧
    ∀ j, j < i → sameB x (flagE j) = false) (fun i => 15 - i) 0 (Sub.refl _ _ _) ⟨by omega, by simp, by simp, by simp, by intro j hj; omega⟩ ?_
  rintro i e A ⟨hi, rfl, e1, e4, hall⟩ K hK
  simp [e4]
  refine aCond_split (fun hlt => ?_) (fun hge => ?_)
  · simp at hlt
    have hlt : i < 15 := by omega
    simp [e1, e4]
    refine aCall_of (rflag_af i hlt) (by simp) (by simp) ?_
    simp [e1]
    refine aCall_of (refsame_af x (flagE i)) (by simp) (by simp) ?_
    simp
    refine aCond_split (fun hs => ?_) (fun hs => ?_)
    · rw [rec_some hlt hs hall] at hR
      subst hR
      simp [e4]
    · simp [e4, i64w (n := (i : Int) + 1) (by omega)]
      refine hK (i + 1) _ _ _ _ (Sub.take 1 (by omega)) ⟨by omega, by simp, by simp [e1], by simp, fun j hj => ?_⟩ (by omega)
      rcases Nat.lt_or_ge j i with h | h
      · exact hall j h
      · obtain rfl : j = i := by omega
        exact hs
  · simp at hge
    rw [rec_none fun j hj => hall j (by omega)] at hR
    subst hR
    simp
theorem nodess_take {l : List Ex} {i : Nat} {x : Ex} (h : l[i]? = some x) : Ex.nodess (l.take (i + 1)) = Ex.nodess (l.take i) + x.nodes := by
  have : ∀ (a b : List Ex), Ex.nodess (a ++ b) = Ex.nodess a + Ex.nodess b := by
    intro a b
    induction a with
    | nil => simp [Ex.nodess]
    | cons y a ih => simp [Ex.nodess, ih]; omega
  rw [List.take_add_one, h, this]
  simp [Ex.nodess]
theorem nodess_take_le : ∀ (l : List Ex) (i : Nat), Ex.nodess (l.take i) ≤ Ex.nodess l
  | [], i => by simp
  | x :: l, 0 => by simp [Ex.nodess]
  | x :: l, i + 1 => by have := nodess_take_le l i; simp [Ex.nodess]; omega
theorem nodes_eq (x : Ex) : x.nodes = Ex.nodess x.l + 1 := by cases x; rfl
/-- The law's size: what is left of so many. -/
theorem size_af : ∀ (x : Ex) (m : Nat), 1 ≤ m → m ≤ 1000000000 → AF Tryz.prog 93 [exA x, aI .i64 m] (aI .i64 (m - x.nodes : Nat)) := by
  intro x
  induction x using Ex.ind with
  | h x ih =>
    intro m h1 h2
    refine af_of Tryz.func93 rfl (by kernel_rfl) (by simp [Tryz.ntmps93]) fun hb => ?_
    have n1 : x.l.length ≤ maxLen := by simpa using hb.1.2.2.2.2.1.1
    clear hb
    simp [Tryz.f93, i64w (n := (m : Int) - 1) (by omega)]
    refine aLoop_of (α := Nat) (fun i e A => i ≤ x.l.length ∧ A = [⟨0, true, 38, 5, [[aI .i64 x.op, aI .u32 x.n, aI .i64 x.v, aI .i64 x.wd, .d (.sl 5 (Ex.ds x.l))]]⟩] ∧ e 2 = .ptr 0 0 0 0 ∧ e 5 = aI .i64 i ∧
      e 1 = aI .i64 (m - 1 - Ex.nodess (x.l.take i) : Nat)) (fun i => x.l.length - i) 0 (Sub.refl _ _ _) ⟨by omega, by simp, by simp, by simp, by simp [Ex.nodess]; omega⟩ ?_
    rintro i e A ⟨hi, rfl, e2, e5, e1⟩ K hK
    simp [e2, e5]
    refine aG_split (fun hlt => ?_) (fun hge => ?_)
    · simp at hlt
      have hi1 := List.getElem?_eq_getElem hlt
      simp [e1, hlt]
      refine aCond_split (fun hpos => ?_) (fun hz => ?_)
      · simp at hpos
        simp [e2, e5, e1, hi1, Ex.d_eq]
        refine aCall_of (ih _ (List.mem_of_getElem? hi1) (m - 1 - Ex.nodess (x.l.take i)) (by omega) (by omega)) (by simp) (by simp) ?_
        simp [e5, succ_wrap hlt n1]
        refine hK (i + 1) _ _ _ _ (Sub.refl _ _ _) ⟨by omega, rfl, by simp [e2], by simp, ?_⟩ (by omega)
        simp
        rw [nodess_take hi1]
        omega
      · simp at hz
        simp [e1]
        have h3 := nodess_take_le x.l i
        rw [nodes_eq]
        omega
    · simp at hge
      obtain rfl : i = x.l.length := by omega
      simp [e1]
      rw [nodes_eq]
      omega
end Go.Proofs.YtlidimmfpfockaaGreatDoor

/- Contracts: slices.IndexFunc, slices.ContainsFunc, at expressions; il.CheckExpr and what it calls. -/
namespace Go.Proofs.YtlidimmfpfockaaGreatDoor
open Go.RowKit
/-- A call that leaves the blocks as they were, but for garbage. -/
def Same0 (A : AHeap) (r0 : AV) (r : AV) (A' : AHeap) : Prop := r = r0 ∧ ∃ N, A' = A ++ N
/-- The garbage is dropped. -/
theorem AC.drop {P : Program} {f : FuncId} {args : List AV} {A : AHeap} {r0 : AV} (h : AC P f args A (Same0 A r0)) : AC P f args A fun r A' => r = cln A.length r0 ∧ A' = A.map (clnB A.length) :=
  h.sub fun r A' ⟨hr, N, hA⟩ => by
    subst hr hA
    exact ⟨_, _, Sub.take A.length (Nat.le_refl _), rfl, by simp⟩
/-- slices.IndexFunc, at expressions, with a predicate that changes nothing. -/
theorem indexFunc_ac {f : Nat} {fs cs : List AV} {p : Ex → Bool} (A : AHeap) (l : List Ex) (hf : okF Tryz.prog f = true) (hp : ∀ a ∈ l, ∀ N, AC Tryz.prog f (fs ++ [exA a] ++ cs) (A ++ N) (Same0 A (aB (p a)))) :
    AC Tryz.prog 153 [.d (.sl 5 (Ex.ds l)), .fn f fs cs] A (Same0 A (aI .i64 (match l.findIdx? p with | some i => (i : Int) | none => -1))) := by
  refine ac_of Tryz.func153 rfl (by kernel_rfl) (by simp [Tryz.ntmps153]) fun hb => ?_
  have n1 : l.length ≤ maxLen := by simpa using hb.1.1
  clear hb
  obtain ⟨R, hR⟩ : ∃ R : Int, (match l.findIdx? p with | some i => (i : Int) | none => -1) = R := ⟨_, rfl⟩
  rw [hR]
  simp [Tryz.f153]
  refine aLoop_of (α := Nat) (fun i e A' => i ≤ l.length ∧ (∃ N, A' = A ++ N) ∧ e 8 = aI .i64 i ∧ e 7 = aI .i64 l.length ∧ e 0 = .d (.sl 5 (Ex.ds l)) ∧ e 1 = .fn f fs cs ∧
    ∀ (j : Nat) (a : Ex), j < i → l[j]? = some a → p a = false) (fun i => l.length - i) 0 (Sub.refl _ _ _) ⟨by omega, ⟨[], by simp⟩, by simp, by simp, by simp, by simp, by intro j a hj; omega⟩ ?_
  rintro i e A' ⟨hi, ⟨N, rfl⟩, e8, e7, e0, e1, hall⟩ K hK
  simp [e8, e7]
  refine aCond_split (fun hlt => ?_) (fun hge => ?_)
  · simp at hlt
    have hi1 := List.getElem?_eq_getElem hlt
    simp [e0, e1, e8, hi1, Ex.d_eq]
    refine aCall_ofc (hp l[i] (List.mem_of_getElem? hi1) N) hf ?_
    rintro _ _ ⟨rfl, N', rfl⟩
    simp
    refine aCond_split (fun ht => ?_) (fun hf => ?_)
    · have : l.findIdx? p = some i := by
        rw [List.findIdx?_eq_some_iff_getElem]
        exact ⟨hlt, ht, fun j hj => by simpa using hall j _ hj (List.getElem?_eq_getElem (by omega))⟩
      rw [this] at hR
      subst hR
      simp [Same0]
    · simp [e8, succ_wrap hlt n1]
      refine hK (i + 1) _ _ _ _ (Sub.refl _ _ _) ⟨by omega, ⟨N', rfl⟩, by simp, by simp [e7], by simp [e0], by simp [e1], fun j a hj ha => ?_⟩ (by omega)
      rcases Nat.lt_or_ge j i with h | h
      · exact hall j a h ha
      · obtain rfl : j = i := by omega
        rw [hi1] at ha
        obtain rfl := Option.some.inj ha
        exact hf
  · simp at hge
    have : l.findIdx? p = none := by
      rw [List.findIdx?_eq_none_iff]
      intro x hx
      obtain ⟨j, hj⟩ := List.getElem?_of_mem hx
      exact hall j x (by have := (List.getElem?_eq_some_iff.1 hj).1; omega) hj
    rw [this] at hR
    subst hR
    simp [Same0]
theorem containsFunc_ac {f : Nat} {fs cs : List AV} {p : Ex → Bool} (A : AHeap) (l : List Ex) (hf : okF Tryz.prog f = true) (hp : ∀ a ∈ l, ∀ N, AC Tryz.prog f (fs ++ [exA a] ++ cs) (A ++ N) (Same0 A (aB (p a)))) :
    AC Tryz.prog 98 [.d (.sl 5 (Ex.ds l)), .fn f fs cs] A (Same0 A (aB (l.any p))) := by
  refine ac_of Tryz.func98 rfl (by kernel_rfl) (by simp [Tryz.ntmps98]) fun hb => ?_
  simp [Tryz.f98]
  refine aCall_ofc (indexFunc_ac A l hf hp) (by simp) ?_
  rintro _ _ ⟨rfl, N, rfl⟩
  simp [Same0]
  cases h : l.findIdx? p with
  | none =>
    rw [List.findIdx?_eq_none_iff] at h
    simpa using h
  | some i =>
    rw [List.findIdx?_eq_some_iff_getElem] at h
    obtain ⟨hi, hp, _⟩ := h
    simpa using ⟨_, List.getElem_mem hi, hp⟩
/-- Has an expression at most n levels? -/
def shalB : Nat → Ex → Bool
  | 0, _ => false
  | n + 1, e => e.l.all (shalB n)
theorem shallow1_ac {n : Nat} (hn : n ≤ 1000000000) (ih : ∀ e : Ex, AF Tryz.prog 122 [exA e, aI .i64 n] (aB (shalB n e))) (b0 b1 : Blk) (h1 : b1 = ⟨0, true, 3, 1, [[aI .i64 (n + 1 : Nat)]]⟩) (x : Ex) (N : AHeap) :
    AC Tryz.prog 169 [exA x, .ptr 1 0 0 0] ([b0, b1] ++ N) (Same0 [b0, b1] (aB (!shalB n x))) := by
  subst h1
  refine ac_of Tryz.func169 rfl (by kernel_rfl) (by simp [Tryz.ntmps169]) fun hb => ?_
  simp [Tryz.f169, i64w (n := (n : Int)) (by omega)]
  refine aCall_of (ih x) (by simp) (by simp) ?_
  simp [Same0]
theorem shallow_af : ∀ (n : Nat) (e : Ex), n ≤ 1000000000 → AF Tryz.prog 122 [exA e, aI .i64 n] (aB (shalB n e)) := by
  intro n
  induction n with
  | zero =>
    intro e _
    refine af_of Tryz.func122 rfl (by kernel_rfl) (by simp [Tryz.ntmps122]) fun hb => ?_
    simp [Tryz.f122, shalB]
  | succ n ih =>
    intro e hn
    refine af_of Tryz.func122 rfl (by kernel_rfl) (by simp [Tryz.ntmps122]) fun hb => ?_
    clear hb
    simp [Tryz.f122, show (1 : Int) ≤ (n : Int) + 1 by omega]
    refine aCall_ofc (containsFunc_ac _ e.l (p := fun x => !shalB n x) (by simp) fun x _ N => shallow1_ac (by omega) (fun e => ih e (by omega)) _ _ rfl x N).drop (by simp) ?_
    rintro _ _ ⟨rfl, rfl⟩
    simp
    rw [shalB, List.not_all_eq_any_not]
end Go.Proofs.YtlidimmfpfockaaGreatDoor

/- Contracts: il.formed, il.CheckExpr; the reference's CheckExpr. -/
namespace Go.Proofs.YtlidimmfpfockaaGreatDoor
open Go.RowKit
theorem variable_af (v : Int) : AF Tryz.prog 170 [aI .i64 v] (aB (decide (0 ≤ v) && decide (v < 65536))) := by
  refine af_of Tryz.func170 rfl (by kernel_rfl) (by simp [Tryz.ntmps170]) fun _ => ?_
  simp [Tryz.f170]
  refine aG_split (fun h => ?_) (fun h => ?_)
  · simp at h
    simp [h]
  · simp at h
    simp [show ¬ (0 : Int) ≤ v by omega]
theorem access_af (v : Int) : AF Tryz.prog 171 [aI .i64 v] (aB (decide (v = 1) || decide (v = 2) || decide (v = 4))) := by
  refine af_of Tryz.func171 rfl (by kernel_rfl) (by simp [Tryz.ntmps171]) fun _ => ?_
  by_cases h1 : v = 1
  · subst h1
    simp [Tryz.f171]
  by_cases h2 : v = 2
  · subst h2
    simp [Tryz.f171]
  simp [Tryz.f171, h1, h2]
/-- Is an expression well-formed but for its operands? -/
def okE (op n v w : Int) (k : Nat) : Bool :=
  if op = 1 then v == 0 && w == 0 && k == 0
  else if op = 2 then n == 0 && w == 0 && k == 0 && (decide (0 ≤ v) && decide (v < 65536))
  else if 3 ≤ op ∧ op ≤ 15 then n == 0 && v == 0 && w == 0 && k == 2
  else if op = 16 ∨ op = 17 then n == 0 && v == 0 && w == 0 && k == 1
  else if op = 18 then n == 0 && v == 0 && (w == 1 || w == 2 || w == 4) && k == 1
  else if op = 19 then n == 0 && v == 0 && (w == 1 || w == 2) && k == 1
  else false
/-- Is an expression well-formed, apart from its levels? -/
def formB : Ex → Bool
  | .mk op n v w l => okE op n v w l.length && forms l
where forms : List Ex → Bool
  | [] => true
  | e :: l => formB e && forms l
theorem formB_eq (e : Ex) : formB e = (okE e.op e.n e.v e.wd e.l.length && e.l.all formB) := by
  have h : ∀ l, formB.forms l = l.all formB := by
    intro l
    induction l with
    | nil => rfl
    | cons a l ih => simp only [formB.forms, ih, List.all_cons]
  cases e
  simp only [formB, h]
  rfl
theorem formed1_ac {x : Ex} (ih : AF Tryz.prog 123 [exA x] (aB (formB x))) (A N : AHeap) : AC Tryz.prog 172 [exA x] (A ++ N) (Same0 A (aB (!formB x))) := by
  refine ac_of Tryz.func172 rfl (by kernel_rfl) (by simp [Tryz.ntmps172]) fun _ => ?_
  simp [Tryz.f172]
  refine aCall_of ih (by simp) (by simp) ?_
  simp [Same0]
theorem formed_af : ∀ (e : Ex), AF Tryz.prog 123 [exA e] (aB (formB e)) := by
  intro x
  induction x using Ex.ind with
  | h x ih =>
    have hany : ∀ A : AHeap, AC Tryz.prog 98 [.d (.sl 5 (Ex.ds x.l)), .fn 172 [] []] A fun r A' => r = aB (x.l.any fun y => !formB y) ∧ A' = A.map (clnB A.length) := fun A =>
      (containsFunc_ac (fs := []) (cs := []) (p := fun y => !formB y) A x.l (by simp) fun y hy N => formed1_ac (ih y hy) A N).drop
    rw [formB_eq]
    refine af_of Tryz.func123 rfl (by kernel_rfl) (by simp [Tryz.ntmps123]) fun _ => ?_
    obtain ⟨R, hR⟩ : ∃ R, (okE x.op x.n x.v x.wd x.l.length && x.l.all formB) = R := ⟨_, rfl⟩
    rw [hR]
    have hlast : (x.l.any fun y => !formB y) = !(x.l.all formB) := by rw [List.not_all_eq_any_not]
    simp [Tryz.f123]
    by_cases h1 : x.op = 1
    · simp [h1]
      refine aG_split (fun g0 => ?_) (fun g0 => by simp at g0; rw [← hR]; simp [okE, h1, g0])
      simp at g0
      simp [g0]
      refine aG_split (fun g1 => ?_) (fun g1 => by simp at g1; rw [← hR]; simp [okE, h1, g0, g1])
      simp at g1
      simp [g1]
      refine aG_split (fun g2 => ?_) (fun g2 => by simp at g2; rw [← hR]; simp [okE, h1, g0, g1, g2])
      simp at g2
      simp [g2]
      refine aCall_ofc (by have h := hany; rw [g2] at h; exact h _) (by simp) ?_
      rintro _ _ ⟨rfl, rfl⟩
      simp
      rw [← hR]
      simp [okE, h1, g0, g1, g2]
    simp [h1]
    by_cases h2 : x.op = 2
    · simp [h2]
      refine aCall_of (variable_af x.v) (by simp) (by simp) ?_
      simp
      by_cases hv : 0 ≤ x.v ∧ x.v < 65536
      · simp [hv]
        refine aG_split (fun g0 => ?_) (fun g0 => by simp at g0; rw [← hR]; simp [okE, h1, h2, hv.1, hv.2, g0])
        simp at g0
        simp [g0]
        refine aG_split (fun g1 => ?_) (fun g1 => by simp at g1; rw [← hR]; simp [okE, h1, h2, hv.1, hv.2, g0, g1])
        simp at g1
        simp [g1]
        refine aG_split (fun g2 => ?_) (fun g2 => by simp at g2; rw [← hR]; simp [okE, h1, h2, hv.1, hv.2, g0, g1, g2])
        simp at g2
        simp [g2]
        refine aCall_ofc (by have h := hany; rw [g2] at h; exact h _) (by simp) ?_
        rintro _ _ ⟨rfl, rfl⟩
        simp
        rw [← hR]
        simp [okE, h1, h2, hv.1, hv.2, g0, g1, g2]
      · have hv' : (decide (0 ≤ x.v) && decide (x.v < 65536)) = false := by simp; omega
        simp [hv']
        rw [← hR]
        simp [okE, h1, h2, hv']
    simp [h2]
    by_cases h3 : 3 ≤ x.op ∧ x.op ≤ 15
    · simp [h3.1, h3.2]
      refine aG_split (fun g0 => ?_) (fun g0 => by simp at g0; rw [← hR]; simp [okE, h1, h2, h3.1, h3.2, g0])
      simp at g0
      simp [g0]
      refine aG_split (fun g1 => ?_) (fun g1 => by simp at g1; rw [← hR]; simp [okE, h1, h2, h3.1, h3.2, g0, g1])
      simp at g1
      simp [g1]
      refine aG_split (fun g2 => ?_) (fun g2 => by simp at g2; rw [← hR]; simp [okE, h1, h2, h3.1, h3.2, g0, g1, g2])
      simp at g2
      simp [g2]
      refine aG_split (fun g3 => ?_) (fun g3 => by simp at g3; have gk : ¬ x.l.length = 2 := (by omega); rw [← hR]; simp [okE, h1, h2, h3.1, h3.2, g0, g1, g2, gk, g3])
      simp at g3
      simp [g3]
      have gk : x.l.length = 2 := by omega
      refine aCall_ofc (hany _) (by simp) ?_
      rintro _ _ ⟨rfl, rfl⟩
      simp
      rw [← hR, hlast]
      simp [okE, h1, h2, h3.1, h3.2, g0, g1, g2, gk]
    have hno : ∀ (K1 K2 : AKont) (e : AEnv) (d : Option Nat) (A : AHeap), True := fun _ _ _ _ _ => trivial
    by_cases h3a : 3 ≤ x.op
    · have h3b : ¬ x.op ≤ 15 := fun h => h3 ⟨h3a, h⟩
      simp [h3a, h3b]
      by_cases h16 : x.op = 16
      · simp [h16]
        refine aG_split (fun g0 => ?_) (fun g0 => by simp at g0; rw [← hR]; simp [okE, h1, h2, h3a, h3b, h16, g0])
        simp at g0
        simp [g0]
        refine aG_split (fun g1 => ?_) (fun g1 => by simp at g1; rw [← hR]; simp [okE, h1, h2, h3a, h3b, h16, g0, g1])
        simp at g1
        simp [g1]
        refine aG_split (fun g2 => ?_) (fun g2 => by simp at g2; rw [← hR]; simp [okE, h1, h2, h3a, h3b, h16, g0, g1, g2])
        simp at g2
        simp [g2]
        refine aG_split (fun g3 => ?_) (fun g3 => by simp at g3; have gk : ¬ x.l.length = 1 := (by omega); rw [← hR]; simp [okE, h1, h2, h3a, h3b, h16, g0, g1, g2, gk, g3])
        simp at g3
        simp [g3]
        have gk : x.l.length = 1 := by omega
        refine aCall_ofc (hany _) (by simp) ?_
        rintro _ _ ⟨rfl, rfl⟩
        simp
        rw [← hR, hlast]
        simp [okE, h1, h2, h3a, h3b, h16, g0, g1, g2, gk]
      simp [h16]
      by_cases h17 : x.op = 17
      · simp [h17]
        refine aG_split (fun g0 => ?_) (fun g0 => by simp at g0; rw [← hR]; simp [okE, h1, h2, h3a, h3b, h16, h17, g0])
        simp at g0
        simp [g0]
        refine aG_split (fun g1 => ?_) (fun g1 => by simp at g1; rw [← hR]; simp [okE, h1, h2, h3a, h3b, h16, h17, g0, g1])
        simp at g1
        simp [g1]
        refine aG_split (fun g2 => ?_) (fun g2 => by simp at g2; rw [← hR]; simp [okE, h1, h2, h3a, h3b, h16, h17, g0, g1, g2])
        simp at g2
        simp [g2]
        refine aG_split (fun g3 => ?_) (fun g3 => by simp at g3; have gk : ¬ x.l.length = 1 := (by omega); rw [← hR]; simp [okE, h1, h2, h3a, h3b, h16, h17, g0, g1, g2, gk, g3])
        simp at g3
        simp [g3]
        have gk : x.l.length = 1 := by omega
        refine aCall_ofc (hany _) (by simp) ?_
        rintro _ _ ⟨rfl, rfl⟩
        simp
        rw [← hR, hlast]
        simp [okE, h1, h2, h3a, h3b, h16, h17, g0, g1, g2, gk]
      simp [h17]
      by_cases h18 : x.op = 18
      · simp [h18]
        refine aCall_of (access_af x.wd) (by simp) (by simp) ?_
        simp
        cases hw : (decide (x.wd = 1) || decide (x.wd = 2) || decide (x.wd = 4)) with
        | false =>
          simp [hw]
          rw [← hR]
          simp at hw
          simp [okE, h18, hw]
        | true =>
          have hw' : (x.wd == 1 || x.wd == 2 || x.wd == 4) = true := by simpa using hw
          simp [hw]
          refine aG_split (fun g0 => ?_) (fun g0 => by simp at g0; rw [← hR]; simp [okE, h18, hw', g0])
          simp at g0
          simp [g0]
          refine aG_split (fun g1 => ?_) (fun g1 => by simp at g1; rw [← hR]; simp [okE, h18, hw', g0, g1])
          simp at g1
          simp [g1]
          refine aG_split (fun g2 => ?_) (fun g2 => by simp at g2; have gk : ¬ x.l.length = 1 := (by omega); rw [← hR]; simp [okE, h18, hw', g0, g1, gk, g2])
          simp at g2
          simp [g2]
          have gk : x.l.length = 1 := by omega
          refine aCall_ofc (hany _) (by simp) ?_
          rintro _ _ ⟨rfl, rfl⟩
          simp
          rw [← hR, hlast]
          simp [okE, h18, hw', g0, g1, gk]
      simp [h18]
      by_cases h19 : x.op = 19
      · simp [h19]
        cases hw : (decide (x.wd = 1) || decide (x.wd = 2)) with
        | false =>
          simp at hw
          simp [hw]
          rw [← hR]
          simp [okE, h19, hw]
        | true =>
          have hw' : (x.wd == 1 || x.wd == 2) = true := by simpa using hw
          by_cases hw1 : x.wd = 1
          · simp [hw1]
            refine aG_split (fun g0 => ?_) (fun g0 => by simp at g0; rw [← hR]; simp [okE, h19, hw1, g0])
            simp at g0
            simp [g0]
            refine aG_split (fun g1 => ?_) (fun g1 => by simp at g1; rw [← hR]; simp [okE, h19, hw1, g0, g1])
            simp at g1
            simp [g1]
            refine aG_split (fun g2 => ?_) (fun g2 => by simp at g2; have gk : ¬ x.l.length = 1 := (by omega); rw [← hR]; simp [okE, h19, hw1, g0, g1, gk, g2])
            simp at g2
            simp [g2]
            have gk : x.l.length = 1 := by omega
            refine aCall_ofc (hany _) (by simp) ?_
            rintro _ _ ⟨rfl, rfl⟩
            simp
            rw [← hR, hlast]
            simp [okE, h19, hw1, g0, g1, gk]
          have hw2 : x.wd = 2 := by simp [hw1] at hw; exact hw
          simp [hw2]
          refine aG_split (fun g0 => ?_) (fun g0 => by simp at g0; rw [← hR]; simp [okE, h19, hw2, g0])
          simp at g0
          simp [g0]
          refine aG_split (fun g1 => ?_) (fun g1 => by simp at g1; rw [← hR]; simp [okE, h19, hw2, g0, g1])
          simp at g1
          simp [g1]
          refine aG_split (fun g2 => ?_) (fun g2 => by simp at g2; have gk : ¬ x.l.length = 1 := (by omega); rw [← hR]; simp [okE, h19, hw2, g0, g1, gk, g2])
          simp at g2
          simp [g2]
          have gk : x.l.length = 1 := by omega
          refine aCall_ofc (hany _) (by simp) ?_
          rintro _ _ ⟨rfl, rfl⟩
          simp
          rw [← hR, hlast]
          simp [okE, h19, hw2, g0, g1, gk]
      simp [h19]
      rw [← hR]
      simp [okE, h1, h2, h3a, h3b, h16, h17, h18, h19]
    · simp [h3a, show ¬ x.op = 16 by omega, show ¬ x.op = 17 by omega, show ¬ x.op = 18 by omega, show ¬ x.op = 19 by omega]
      rw [← hR]
      simp [okE, h1, h2, h3a, show ¬ x.op = 16 by omega, show ¬ x.op = 17 by omega, show ¬ x.op = 18 by omega, show ¬ x.op = 19 by omega]
theorem check_af (e : Ex) : AF Tryz.prog 54 [exA e] (aI .i64 (if shalB 64 e = true then (if formB e = true then 0 else 2) else 20)) := by
  refine af_of Tryz.func54 rfl (by kernel_rfl) (by simp [Tryz.ntmps54]) fun _ => ?_
  simp [Tryz.f54]
  refine aCall_of (shallow_af 64 e (by omega)) (by simp) (by simp) ?_
  simp
  cases h1 : shalB 64 e with
  | false => simp
  | true =>
    simp
    refine aCall_of (formed_af e) (by simp) (by simp) ?_
    simp
    cases h2 : formB e with
    | false => simp
    | true => simp
end Go.Proofs.YtlidimmfpfockaaGreatDoor

/- Contracts: strings.Join, strconv.Itoa, il's texts, as far as the examples need them. -/
namespace Go.Proofs.YtlidimmfpfockaaGreatDoor
open Go.RowKit
abbrev aS (s : ByteArray) : AV := .d (.v (.string s))
/-- Strings, as a slice's elements. -/
def strs (xs : List ByteArray) : List (List D) := xs.map fun x => [.v (.string x)]
@[simp] theorem strs_nil : strs [] = [] := rfl
@[simp] theorem strs_cons (x : ByteArray) (xs : List ByteArray) : strs (x :: xs) = [.v (.string x)] :: strs xs := rfl
/-- Strings, one after the other. -/
def cat (xs : List ByteArray) : ByteArray := ⟨(xs.flatMap fun x => x.data.toList).toArray⟩
theorem join_nil' (xs : List (List UInt8)) : Lib.join xs [] = xs.flatten := by
  induction xs with
  | nil => rfl
  | cons x xs ih =>
    cases xs with
    | nil => simp [Lib.join_one]
    | cons y ys =>
      rw [Lib.join_cons]
      simp [Lib.joinTail]
theorem sjoin_af (xs : List ByteArray) (hl : (xs.flatMap fun x => x.data.toList).length ≤ 1000000000) (hn : xs.length ≤ 1000000000) : AF Tryz.prog 130 [.d (.sl 1 (strs xs)), aS ⟨#[]⟩] (aS (cat xs)) := by
  intro H w vs hH hs hm
  simp only [ShpL] at hs
  obtain ⟨u1, l1, rfl, s1, u2, l2, rfl, s2, rfl⟩ := hs
  simp only [Shp] at s2
  subst s2
  have m1 := hm.get (i := 0) rfl rfl
  simp only [Mem, Rd] at m1
  obtain ⟨a, cap, rfl, h1, h2, h3⟩ := m1
  have hlen : (strs xs).length = xs.length := by simp [strs]
  have hfin : Lib.join (xs.map (·.data.toList)) [] = xs.flatMap fun x => x.data.toList := by rw [join_nil', List.flatMap_def]
  rw [hlen] at h1 ⊢
  rcases h3 with h3 | ⟨b, off, rfl, hb, hs⟩
  · have hx : xs = [] := by
      cases xs with
      | nil => rfl
      | cons x xs => simp at h3
    subst hx
    refine (Sh_strings_Join_none a cap ⟨#[]⟩ w).mono ?_
    rintro en w' ⟨rfl, rfl⟩
    exact ⟨_, rfl, ⟨by simp [Shp, cat], by simp [Mem, Rd, cat, Value.oneCell']⟩, Ext.refl _⟩
  · refine (Sh_strings_Join b off cap xs ⟨#[]⟩ w (fun j x hj => ?_) hb.1 (by omega) h1 (by simp only [List.toList_toArray]; rw [hfin]; omega)).mono ?_
    · have := hs.get (i := j) (x := [.v (.string x)]) (by simp [strs, hj])
      obtain ⟨u, g1, g2⟩ := this.2.get (j := 0) rfl
      simp only [Rd] at g2
      rw [g2.1] at g1
      simpa using g1
    · rintro en w' ⟨rfl, hw⟩
      refine ⟨_, rfl, ⟨?_, ?_⟩, hw⟩
      · simp only [Shp, List.toList_toArray]
        rw [hfin]
        rfl
      · simp only [Mem, Rd, List.toList_toArray]
        rw [hfin]
        exact ⟨rfl, rfl⟩
theorem itoa_af (i : Nat) (h : i < 100) : AF Tryz.prog 63 [aI .i64 i] (aS ⟨(Lib.decDigits i).toArray⟩) := by
  intro H w vs hH hs hm
  simp only [ShpL] at hs
  obtain ⟨u1, l1, rfl, s1, rfl⟩ := hs
  simp only [Shp] at s1
  subst s1
  refine (Sh_strconv_Itoa_small i h w).mono ?_
  rintro en w' ⟨rfl, rfl⟩
  exact ⟨_, rfl, ⟨by simp [Shp], by simp [Mem, Rd, Value.oneCell']⟩, Ext.refl _⟩
theorem iljoin_af (xs : List ByteArray) (hl : (xs.flatMap fun x => x.data.toList).length ≤ 1000000000) (hn : xs.length ≤ 1000000000) : AF Tryz.prog 60 [.d (.sl 1 (strs xs))] (aS (cat xs)) := by
  refine af_of Tryz.func60 rfl (by kernel_rfl) (by simp [Tryz.ntmps60]) fun _ => ?_
  simp [Tryz.f60]
  refine aCall_of (sjoin_af xs hl hn) (by simp) (by simp) ?_
  simp
end Go.Proofs.YtlidimmfpfockaaGreatDoor

/- Contracts: il.Print at the example's expression; the law's example; FlagfuseConditions. -/
namespace Go.Proofs.YtlidimmfpfockaaGreatDoor
open Go.RowKit
theorem varname_af (v : Nat) (h : v < 8) : AF Tryz.prog 61 [aI .i64 v] (aS (cat [⟨#[114]⟩, ⟨(Lib.decDigits v).toArray⟩])) := by
  refine af_of Tryz.func61 rfl (by kernel_rfl) (by simp [Tryz.ntmps61]) fun _ => ?_
  simp [Tryz.f61, show (v : Int) < 8 by omega]
  refine aCall_of (itoa_af v (by omega)) (by simp) (by simp) ?_
  simp
  refine aCall_ofs (iljoin_af [⟨#[114]⟩, ⟨(Lib.decDigits v).toArray⟩] ?_ (by simp)) (by simp) (by simp) (by simp) ?_
  · have : Lib.decDigits v = [UInt8.ofNat (48 + v)] := by rw [Lib.decDigits]; simp; omega
    simp [this]
  simp
theorem text_var (v : Nat) (h : v < 8) : AF Tryz.prog 62 [exA (eVar v)] (aS (cat [⟨#[114]⟩, ⟨(Lib.decDigits v).toArray⟩])) := by
  refine af_of Tryz.func62 rfl (by kernel_rfl) (by simp [Tryz.ntmps62]) fun _ => ?_
  simp [Tryz.f62]
  refine aCall_of (varname_af v h) (by simp) (by simp) ?_
  simp
theorem text_not {a : Ex} {s : ByteArray} (ha : AF Tryz.prog 62 [exA a] (aS s)) (hs : s.data.toList.length ≤ 100000000) : AF Tryz.prog 62 [exA (eNot a)] (aS (cat [⟨#[33]⟩, s])) := by
  refine af_of Tryz.func62 rfl (by kernel_rfl) (by simp [Tryz.ntmps62]) fun _ => ?_
  simp [Tryz.f62, Ex.d_eq]
  refine aCall_of ha (by simp) (by simp) ?_
  simp
  refine aCall_ofs (iljoin_af [⟨#[33]⟩, s] (by simp; simp at hs; omega) (by simp)) (by simp) (by simp) (by simp) ?_
  simp
theorem symbol_lt : AF Tryz.prog 131 [aI .i64 14] (aS ⟨#[60, 115]⟩) := by
  refine af_of Tryz.func131 rfl (by kernel_rfl) (by simp [Tryz.ntmps131]) fun _ => ?_
  simp [Tryz.f131]
theorem text_lt {a b : Ex} {s t : ByteArray} (ha : AF Tryz.prog 62 [exA a] (aS s)) (hb : AF Tryz.prog 62 [exA b] (aS t)) (hs : s.data.toList.length ≤ 100000000) (ht : t.data.toList.length ≤ 100000000) :
    AF Tryz.prog 62 [exA (eTwo 14 a b)] (aS (cat [⟨#[40]⟩, s, ⟨#[32]⟩, ⟨#[60, 115]⟩, ⟨#[32]⟩, t, ⟨#[41]⟩])) := by
  refine af_of Tryz.func62 rfl (by kernel_rfl) (by simp [Tryz.ntmps62]) fun _ => ?_
  simp [Tryz.f62, Ex.d_eq]
  refine adraw [] (by kernel_rfl) (by kernel_rfl) (by kernel_rfl) (by kernel_rfl) ?_
  simp [Ex.d_eq]
  refine adC_of ha (by simp) trivial (by simp) (by simp) ?_
  simp
  refine adC_of symbol_lt (by simp) trivial (by simp) (by simp) ?_
  simp [Ex.d_eq]
  refine adC_of hb (by simp) trivial (by simp) (by simp) ?_
  simp
  refine adC_ofs (iljoin_af [⟨#[40]⟩, s, ⟨#[32]⟩, ⟨#[60, 115]⟩, ⟨#[32]⟩, t, ⟨#[41]⟩] (by simp; simp at hs ht; omega) (by simp)) (by simp) trivial (by simp) (by simp) (by simp) ?_
  simp
theorem print_af {e : Ex} {s : ByteArray} (h1 : shalB 64 e = true) (h2 : formB e = true) (h : AF Tryz.prog 62 [exA e] (aS s)) : AF Tryz.prog 16 [exA e] (aS s) := by
  refine af_of Tryz.func16 rfl (by kernel_rfl) (by simp [Tryz.ntmps16]) fun _ => ?_
  simp [Tryz.f16]
  refine aCall_of (check_af e) (by simp) (by simp) ?_
  simp [h1, h2]
  refine aCall_of h (by simp) (by simp) ?_
  simp
theorem rec8 : recA (eVar 8) = .tup [aI .i64 (1 : Nat), aB true] :=
  rec_some (by omega) (by rfl) (fun j hj => by have : j = 0 := by omega
                                               subst this; rfl)
theorem ex23_af : AF Tryz.prog 34 [] (aB true) := by
  refine af_of Tryz.func34 rfl (by kernel_rfl) (by simp [Tryz.ntmps34]) fun _ => ?_
  simp [Tryz.f34]
  refine aCall_of (var_af 1) (by simp) (by simp) ?_
  simp
  refine aCall_of (var_af 2) (by simp) (by simp) ?_
  simp
  refine aCall_of (cond_af 5 (eVar 1) (eVar 2) (by simp) (by simp)) (by simp) (by simp) ?_
  simp
  refine aCall_of (var_af 8) (by simp) (by simp) ?_
  simp
  refine aCall_of (rec8 ▸ rec_af (eVar 8)) (by simp) (by simp) ?_
  simp
  have h5 : condE 5 (eVar 1) (eVar 2) = eNot (eTwo 14 (eVar 2) (eVar 1)) := rfl
  have h1 : AF Tryz.prog 62 [exA (eVar 1)] (aS ⟨#[114, 49]⟩) := by
    have := text_var 1 (by omega)
    rwa [show cat [⟨#[114]⟩, ⟨(Lib.decDigits 1).toArray⟩] = (⟨#[114, 49]⟩ : ByteArray) by decide +kernel] at this
  have h2 : AF Tryz.prog 62 [exA (eVar 2)] (aS ⟨#[114, 50]⟩) := by
    have := text_var 2 (by omega)
    rwa [show cat [⟨#[114]⟩, ⟨(Lib.decDigits 2).toArray⟩] = (⟨#[114, 50]⟩ : ByteArray) by decide +kernel] at this
  have h3 := text_not (text_lt h2 h1 (by simp) (by simp)) (by simp [cat])
  have h4 := print_af (e := condE 5 (eVar 1) (eVar 2)) (by rfl) (by rfl) (by rw [h5]; exact h3)
  refine aCall_of h4 (by simp) (by simp) ?_
  simp [cat]
end Go.Proofs.YtlidimmfpfockaaGreatDoor
