/- Texts that the claim leans on, laid one behind the other: Ga, Gb, Gc, Gd, Ge, Ha, Ja, Js, Hp, Jb, Jc, Jd, Je. -/
import Derived.Test.YtccjeoghjioamaaGreatDoorZD
import Derived.Test.YtccjeoghjioamaaGreatDoorAp
import Derived.Test.YtccjeoghjioamaaGreatDoorAn
import Derived.Test.YtccjeoghjioamaaGreatDoorZB
set_option linter.unusedSimpArgs false
set_option linter.unusedVariables false
set_option linter.unnecessarySimpa false
/- Contracts: the reference's makers of expressions. -/
namespace Go.Proofs.YtccjeoghjioamaaGreatDoor
open Go.RowKit
end Go.Proofs.YtccjeoghjioamaaGreatDoor

/- Contracts: the guards on an expression's size (law 19's Nodes and Small). -/
namespace Go.Proofs.YtccjeoghjioamaaGreatDoor
open Go.RowKit
end Go.Proofs.YtccjeoghjioamaaGreatDoor

/- Contracts: the reference's check of an expression. -/
namespace Go.Proofs.YtccjeoghjioamaaGreatDoor
open Go.RowKit
theorem rdeep_af : ∀ (k : Nat) (e : Ex), k ≤ 1000000 → AF Tryz.prog 61 [exA e, aI .i64 k] (aB (!shalB k e)) := by
  intro k
  induction k with
  | zero =>
    intro e _
    refine af_of Tryz.func61 rfl (by kernel_rfl) (by simp [Tryz.ntmps61]) fun _ => ?_
    simp [Tryz.f61, shalB]
  | succ k ih =>
    intro e hk
    refine af_of Tryz.func61 rfl (by kernel_rfl) (by simp [Tryz.ntmps61]) fun hb => ?_
    have n1 : e.l.length ≤ maxLen := by simpa using hb.1.2.2.2.2.1.1
    clear hb
    obtain ⟨R, hR⟩ : ∃ R, (!shalB (k + 1) e) = R := ⟨_, rfl⟩
    rw [hR]
    rw [shalB] at hR
    simp [Tryz.f61, show ¬ ((k : Int) + 1 < 1) by omega]
    refine aLoop_of (α := Nat) (fun i g A => i ≤ e.l.length ∧ A = [⟨0, true, 25, 5, [[aI .i64 e.op, aI .u32 e.n, aI .i64 e.v, aI .i64 e.wd, .d (.sl 5 (Ex.ds e.l))]]⟩] ∧ g 2 = .ptr 0 0 0 0 ∧ g 5 = aI .i64 i ∧ g 1 = aI .i64 (k + 1 : Nat) ∧
      ∀ x ∈ e.l.take i, shalB k x = true) (fun i => e.l.length - i) 0 (Sub.refl _ _ _) ⟨by omega, by simp, by simp, by simp, by simp, by simp⟩ ?_
    rintro i g A ⟨hi, rfl, g2, g5, g1, hall⟩ K hK
    rcases Nat.lt_or_ge i e.l.length with hlt | hge
    case inr =>
      obtain rfl : i = e.l.length := by omega
      have : e.l.all (shalB k) = true := by simpa using hall
      rw [this] at hR
      subst hR
      simp [g2, g5]
    obtain ⟨x, hx⟩ : ∃ x, e.l[i]? = some x := ⟨_, List.getElem?_eq_getElem hlt⟩
    have hx' := (List.getElem?_eq_some_iff.1 hx).2
    simp [g2, g5, g1, hlt, hx, hx', Ex.d_eq, i64w (n := (k : Int)) (by omega)]
    refine aCall_of (ih x (by omega)) (by simp) (by simp) ?_
    simp
    refine aCond_split (fun h => ?_) (fun h => ?_)
    · simp at h
      have : e.l.all (shalB k) = false := by
        rw [List.all_eq_false]
        exact ⟨x, List.mem_of_getElem? hx, by simp [h]⟩
      rw [this] at hR
      subst hR
      simp
    · simp at h
      simp [g5, succ_wrap hlt n1]
      refine hK (i + 1) _ _ _ _ (Sub.refl _ _ _) ⟨by omega, by simp [Ex.d_eq], by simp [g2], by simp, by simp [g1], fun y hy => ?_⟩ (by omega)
      rw [List.take_add_one, hx] at hy
      rcases List.mem_append.1 hy with hy | hy
      · exact hall y hy
      · obtain rfl : y = x := by simpa using hy
        exact h
end Go.Proofs.YtccjeoghjioamaaGreatDoor

/- Contracts: the reference's check of an expression (printed by gen_gd.py). -/
namespace Go.Proofs.YtccjeoghjioamaaGreatDoor
open Go.RowKit
theorem risvar_af (v : Int) : AF Tryz.prog 123 [aI .i64 v] (aB (decide (0 ≤ v) && decide (v < 65536))) := by
  refine af_of Tryz.func123 rfl (by kernel_rfl) (by simp [Tryz.ntmps123]) fun _ => ?_
  by_cases h : 0 ≤ v <;> simp [Tryz.f123, h]
theorem rformed_af : ∀ (e : Ex), AF Tryz.prog 62 [exA e] (aB (formB e)) := by
  intro x
  induction x using Ex.ind with
  | h x ih =>
    rw [formB_eq]
    refine af_of Tryz.func62 rfl (by kernel_rfl) (by simp [Tryz.ntmps62]) fun hb => ?_
    have n1 : x.l.length ≤ maxLen := by simpa using hb.1.2.2.2.2.1.1
    clear hb
    obtain ⟨R, hR⟩ : ∃ R, (okE x.op x.n x.v x.wd x.l.length && x.l.all formB) = R := ⟨_, rfl⟩
    rw [hR]
    simp [Tryz.f62]
    refine aLoop_of (α := Nat) (fun i g A => i ≤ x.l.length ∧ A = [⟨0, true, 25, 5, [[aI .i64 x.op, aI .u32 x.n, aI .i64 x.v, aI .i64 x.wd, .d (.sl 5 (Ex.ds x.l))]]⟩] ∧ g 1 = .ptr 0 0 0 0 ∧ g 3 = aI .i64 i ∧
      ∀ y ∈ x.l.take i, formB y = true) (fun i => x.l.length - i) 0 (Sub.refl _ _ _) ⟨by omega, by simp, by simp, by simp, by simp⟩ ?_
    rintro i g A ⟨hi, rfl, g1, g3, hall⟩ K hK
    rcases Nat.lt_or_ge i x.l.length with hlt | hge
    case inl =>
      obtain ⟨y, hy⟩ : ∃ y, x.l[i]? = some y := ⟨_, List.getElem?_eq_getElem hlt⟩
      have hy' := (List.getElem?_eq_some_iff.1 hy).2
      simp [g1, g3, hlt, hy, hy', Ex.d_eq]
      refine aCall_of (ih y (List.mem_of_getElem? hy)) (by simp) (by simp) ?_
      simp
      refine aCond_split (fun h => ?_) (fun h => ?_)
      · simp at h
        have : x.l.all formB = false := by
          rw [List.all_eq_false]
          exact ⟨y, List.mem_of_getElem? hy, by simp [h]⟩
        rw [this, Bool.and_false] at hR
        subst hR
        simp
      · simp at h
        simp [g3, succ_wrap hlt n1]
        refine hK (i + 1) _ _ _ _ (Sub.refl _ _ _) ⟨by omega, by simp [Ex.d_eq], by simp [g1], by simp, fun z hz => ?_⟩ (by omega)
        rw [List.take_add_one, hy] at hz
        rcases List.mem_append.1 hz with hz | hz
        · exact hall z hz
        · obtain rfl : z = y := by simpa using hz
          exact h
    obtain rfl : i = x.l.length := by omega
    have hl : x.l.all formB = true := by simpa using hall
    rw [hl, Bool.and_true] at hR
    clear hl hall hK ih
    subst hR
    simp [g1, g3]
    have q1 : ((x.l.length : Int) = 1) = (x.l.length = 1) := propext (by omega)
    have q2 : ((x.l.length : Int) = 2) = (x.l.length = 2) := propext (by omega)
    by_cases h1 : x.op = 1
    · simp [h1, g1]
      by_cases c0 : x.v = 0 <;> by_cases c1 : x.wd = 0 <;> by_cases c2 : x.l.length = 0 <;> simp [g1, okE, q1, q2, h1, c0, c1, c2]
    simp [h1]
    by_cases h2 : x.op = 2
    · simp [h2, g1]
      by_cases c0 : x.n = 0
      case neg => simp [g1, okE, h2, c0]
      by_cases c1 : x.wd = 0
      case neg => simp [g1, okE, h2, c0, c1]
      by_cases c2 : x.l.length = 0
      case neg => simp [g1, okE, h2, c0, c1, c2]
      simp [g1, h2, c0, c1, c2]
      refine aCall_of (risvar_af x.v) (by simp) (by simp) ?_
      simp [okE, h2, c0, c1, c2]
    simp [h2]
    by_cases h16 : x.op = 16
    · simp [h16, g1]
      by_cases c0 : x.n = 0 <;> by_cases c1 : x.v = 0 <;> by_cases c2 : x.wd = 0 <;> by_cases c3 : x.l.length = 1 <;> simp [g1, okE, q1, q2, h16, c0, c1, c2, c3]
    simp [h16]
    by_cases h17 : x.op = 17
    · simp [h17, g1]
      by_cases c0 : x.n = 0 <;> by_cases c1 : x.v = 0 <;> by_cases c2 : x.wd = 0 <;> by_cases c3 : x.l.length = 1 <;> simp [g1, okE, q1, q2, h17, c0, c1, c2, c3]
    simp [h17]
    by_cases h18 : x.op = 18
    · simp [h18, g1]
      by_cases c0 : x.n = 0
      case neg => simp [g1, okE, h18, c0]
      by_cases c1 : x.v = 0
      case neg => simp [g1, okE, h18, c0, c1]
      by_cases w1 : x.wd = 1
      · by_cases c2 : x.l.length = 1 <;> simp [g1, okE, q1, q2, h18, c0, c1, w1, c2]
      by_cases w2 : x.wd = 2
      · by_cases c2 : x.l.length = 1 <;> simp [g1, okE, q1, q2, h18, c0, c1, w2, c2]
      by_cases w4 : x.wd = 4
      · by_cases c2 : x.l.length = 1 <;> simp [g1, okE, q1, q2, h18, c0, c1, w4, c2]
      simp [g1, okE, h18, c0, c1, w1, w2, w4]
    simp [h18]
    by_cases h19 : x.op = 19
    · simp [h19, g1]
      by_cases c0 : x.n = 0
      case neg => simp [g1, okE, h19, c0]
      by_cases c1 : x.v = 0
      case neg => simp [g1, okE, h19, c0, c1]
      by_cases w1 : x.wd = 1
      · by_cases c2 : x.l.length = 1 <;> simp [g1, okE, q1, q2, h19, c0, c1, w1, c2]
      by_cases w2 : x.wd = 2
      · by_cases c2 : x.l.length = 1 <;> simp [g1, okE, q1, q2, h19, c0, c1, w2, c2]
      simp [g1, okE, h19, c0, c1, w1, w2]
    simp [h19, g1]
    by_cases ha : 3 ≤ x.op
    case neg => simp [g1, okE, h1, h2, h16, h17, h18, h19, ha]
    by_cases hb : x.op ≤ 15
    case neg => simp [g1, okE, h1, h2, h16, h17, h18, h19, ha, hb]
    by_cases c0 : x.n = 0 <;> by_cases c1 : x.v = 0 <;> by_cases c2 : x.wd = 0 <;> by_cases c3 : x.l.length = 2 <;> simp [g1, okE, q1, q2, h1, h2, h16, h17, h18, h19, ha, hb, c0, c1, c2, c3]
theorem rcheck_af (e : Ex) : AF Tryz.prog 24 [exA e] (aI .i64 (if shalB 64 e = true then (if formB e = true then 0 else 2) else 20)) := by
  refine af_of Tryz.func24 rfl (by kernel_rfl) (by simp [Tryz.ntmps24]) fun _ => ?_
  simp [Tryz.f24]
  refine aCall_of (rdeep_af 64 e (by omega)) (by simp) (by simp) ?_
  simp
  refine aCond_split (fun h => ?_) (fun h => ?_)
  · simp at h
    simp [h]
  · simp at h
    simp [h]
    refine aCall_of (rformed_af e) (by simp) (by simp) ?_
    simp
    refine aCond_split (fun h2 => ?_) (fun h2 => ?_)
    · simp at h2
      simp [h2]
    · simp at h2
      simp [h2]
end Go.Proofs.YtccjeoghjioamaaGreatDoor

/- Contracts: law 28's expressions; the reference's size. -/
namespace Go.Proofs.YtccjeoghjioamaaGreatDoor
open Go.RowKit
end Go.Proofs.YtccjeoghjioamaaGreatDoor

/- The idioms as plain functions on expression trees. No program in sight. -/
namespace Go.Proofs.YtccjeoghjioamaaGreatDoor
open Go.RowKit
namespace Ex
def x (e : Ex) : Ex := e.l.getD 0 (eCon 0)
def y (e : Ex) : Ex := e.l.getD 1 (eCon 0)
end Ex
section
variable (op n v w : Int) (a b : Ex) (l : List Ex)
@[simp] theorem x_two : (eTwo op a b).x = a := rfl
@[simp] theorem y_two : (eTwo op a b).y = b := rfl
@[simp] theorem x_one : (eOne op a).x = a := rfl
@[simp] theorem x_mk : (Ex.mk op n v w (a :: l)).x = a := rfl
@[simp] theorem y_mk : (Ex.mk op n v w (a :: b :: l)).y = b := rfl
end
/-- Well-formed expressions, by their operators. -/
theorem form_all {e : Ex} (h : formB e = true) : okE e.op e.n e.v e.wd e.l.length = true ∧ ∀ x ∈ e.l, formB x = true := by
  rw [formB_eq, Bool.and_eq_true, List.all_eq_true] at h
  exact h
theorem okE_var {n v w : Int} {k : Nat} : okE 2 n v w k = true ↔ n = 0 ∧ w = 0 ∧ k = 0 ∧ 0 ≤ v ∧ v < 65536 := by simp [okE, and_assoc]
theorem form_var {e : Ex} (h : formB e = true) (ho : e.op = 2) : e = eVar e.v ∧ 0 ≤ e.v ∧ e.v < 65536 := by
  have h1 := (form_all h).1
  rw [ho, okE_var] at h1
  obtain ⟨op, n, v, w, l⟩ := e
  simp only [Ex.op_mk, Ex.n_mk, Ex.v_mk, Ex.wd_mk, Ex.l_mk] at h1 ho
  obtain ⟨rfl, rfl, hl, h2, h3⟩ := h1
  subst ho
  match l, hl with
  | [], _ => exact ⟨rfl, h2, h3⟩
/-- 2^32 - 1. -/
abbrev all32 : Int := 4294967295
def isB (e : Ex) (n : Int) : Bool := decide (e.op = 1) && decide (e.n = n)
/-- Operators whose operands may be exchanged. -/
def comB (op : Int) : Bool := decide (op = 3) || decide (op = 5) || decide (op = 6) || decide (op = 7) || decide (op = 8)
def ordS (e : Ex) (op : Int) : List (Ex × Ex) := if e.op = op ∧ e.l.length = 2 then (e.x, e.y) :: (if comB op = true then [(e.y, e.x)] else []) else []
def byS (e : Ex) (op n : Int) : Option Ex := ((ordS e op).find? fun p => isB p.2 n).map (·.1)
/-- 1 << k. -/
def pw (k : Int) : Int := shlI .u32 1 k
def shS (e : Ex) (op : Int) : Option (Ex × Int) := if e.op = op ∧ e.y.op = 1 ∧ 1 ≤ e.y.n ∧ e.y.n ≤ 31 then some (e.x, e.y.n) else none
def mulS (e : Ex) : Ex × Int := match shS e 9 with
  | some (x, k) => (x, pw k)
  | none => if e.op = 5 then (if e.y.op = 1 then (e.x, e.y.n) else if e.x.op = 1 then (e.y, e.x.n) else (e, 1)) else (e, 1)
def sumS (e : Ex) (op : Int) : Option Ex :=
  if e.op = op ∧ (mulS e.x).1.op ≠ 1 ∧ sameB (mulS e.x).1 (mulS e.y).1 = true ∧ ¬ (op = 4 ∧ (mulS e.x).2 = (mulS e.y).2) then
    some (eTwo 5 (mulS e.x).1 (eCon (if op = 4 then IntKind.u32.wrap ((mulS e.x).2 - (mulS e.y).2) else IntKind.u32.wrap ((mulS e.x).2 + (mulS e.y).2)))) else none
def negS (e : Ex) : Option Ex := match byS e 3 1 with
  | some a => (byS a 8 all32).map (eOne 17)
  | none => none
def invS (e : Ex) : Option Ex := match (ordS e 3).find? (fun p => isB p.2 all32 && decide (p.1.op = 17)) with
  | some p => some (eTwo 8 p.1.x (eCon all32))
  | none => if e.op = 4 ∧ isB e.y 1 = true ∧ e.x.op = 17 then some (eTwo 8 e.x.x (eCon all32)) else none
def extS (e : Ex) (op : Int) : Option (Ex × Int) := match shS e op with
  | some (a, n) => if n = 24 ∧ (mulS a).2 = 16777216 then some ((mulS a).1, 1) else if n = 16 ∧ (mulS a).2 = 65536 then some ((mulS a).1, 2) else none
  | none => none
def sgnS (e : Ex) : Option Ex := (extS e 11).map fun p => .mk 19 0 0 p.2 [p.1]
def zerS (e : Ex) : Option Ex := (extS e 10).map fun p => eTwo 6 p.1 (eCon (if p.2 = 1 then 255 else 65535))
def hiS (e : Ex) (op : Int) : Option Ex := match shS e op with
  | some (x, k) => if k = 31 then some x else none
  | none => none
def nzS (e : Ex) : Option Ex := match hiS e 10 with
  | some a => ((ordS a 7).find? fun p => decide (p.2.op = 17) && sameB p.2.x p.1).map fun p => eTwo 13 p.1 (eCon 0)
  | none => none
def restS (e : Ex) : Option Ex := if e.op = 4 then (match shS (mulS e.y).1 10 with
  | some (x, k) => if (mulS e.y).2 = pw k ∧ sameB x e.x = true then some (eTwo 6 x (eCon (IntKind.u32.wrap (pw k - 1)))) else none
  | none => none) else none
def signS (e : Ex) : Option Ex := (hiS e 10).map fun x => eTwo 14 x (eCon 0)
def shfS (e : Ex) : Option Ex := (shS e 9).map fun p => eTwo 5 p.1 (eCon (pw p.2))
def absB (e : Ex) : Bool := decide (e.op = 4) && (match hiS e.y 11 with
  | some x => (ordS e.x 8).any fun p => sameB p.1 x && sameB p.2 e.y
  | none => false)
def selB (e : Ex) (g : Bool) : Bool := (ordS e 8).any fun p => (ordS p.2 6).any fun q =>
  decide (q.2.op = 17) && decide (q.2.x.op = 14) && ((ordS q.1 8).any fun r => sameB r.1 q.2.x.x && sameB r.2 q.2.x.y) && sameB p.1 (if g then q.2.x.x else q.2.x.y)
/-- An idiom by its number: what replaces the expression, if it matches. -/
def applyS (i : Nat) (e : Ex) : Option Ex := match i with
  | 0 => sumS e 3
  | 1 => sumS e 4
  | 2 => negS e
  | 3 => invS e
  | 4 => sgnS e
  | 5 => zerS e
  | 6 => nzS e
  | 7 => restS e
  | 8 => signS e
  | 9 => shfS e
  | 10 => if absB e then some e else none
  | 11 => if selB e false then some e else none
  | _ => if selB e true then some e else none
/-- The first idiom of those from i on, below n. -/
def firstS (e : Ex) : Nat → Nat → Option (Nat × Ex)
  | _, 0 => none
  | i, n + 1 => match applyS i e with
    | some x => some (i, x)
    | none => firstS e (i + 1) n
/-- The weight of an operator. -/
def wOp (op : Int) : Nat := if op = 3 ∨ op = 4 ∨ op = 9 ∨ op = 10 ∨ op = 11 then 2 else 1
mutual
def Ex.wt : Ex → Nat
  | .mk op _ _ _ l => wOp op + wts l
def wts : List Ex → Nat
  | [] => 0
  | e :: l => e.wt + wts l
end
@[simp] theorem wt_con (n : Int) : (eCon n).wt = 1 := rfl
/-- An expression rewritten, with so much fuel; has anything been replaced? -/
def rwF : Nat → Ex → Ex × Bool
  | 0, e => (e, false)
  | k + 1, e =>
    let e' : Ex := .mk e.op e.n e.v e.wd (e.l.map fun x => (rwF k x).1)
    match firstS e' 0 10 with
    | some (_, x) => ((rwF k x).1, true)
    | none => (e', e.l.any fun x => (rwF k x).2)
end Go.Proofs.YtccjeoghjioamaaGreatDoor

/- Graphs as plain data, and as abstract values; when they are well-formed. No program in sight. -/
namespace Go.Proofs.YtccjeoghjioamaaGreatDoor
open Go.RowKit
/-- A statement. -/
structure St where
  op : Int
  va : Int
  wd : Int
  nx : Int
  el : Int
  tg : Int
  e : List Ex
  cs : List Int
/-- A block. -/
structure Bl where
  ad : Int
  s : List St
/-- A graph. -/
structure Gr where
  ad : Int
  b : List Bl
/-- Numbers, as a slice's elements. -/
def i64s (l : List Int) : List (List D) := l.map fun n => [.v (.int .i64 n)]
@[simp] theorem i64s_nil : i64s [] = [] := rfl
@[simp] theorem i64s_cons (n : Int) (l : List Int) : i64s (n :: l) = [.v (.int .i64 n)] :: i64s l := rfl
@[simp] theorem i64s_len (l : List Int) : (i64s l).length = l.length := by simp [i64s]
@[simp] theorem i64s_get (l : List Int) (i : Nat) : (i64s l)[i]? = (l[i]?).map fun n => [.v (.int .i64 n)] := by simp [i64s]
@[simp] theorem i64s_at (l : List Int) (i : Nat) (h : i < (i64s l).length) : (i64s l)[i] = [.v (.int .i64 (l[i]'(by simpa using h)))] := by simp [i64s]
@[simp] theorem i64s_all (l : List Int) : (i64s l).take l.length = i64s l := by rw [List.take_of_length_le]; simp
@[simp] theorem i64s_app (l m : List Int) : i64s (l ++ m) = i64s l ++ i64s m := by simp [i64s]
def St.d (s : St) : List D := [.v (.int .i64 s.op), .v (.int .i64 s.va), .v (.int .i64 s.wd), .v (.int .i64 s.nx), .v (.int .i64 s.el), .v (.int .u32 s.tg), .sl 5 (Ex.ds s.e), .sl 1 (i64s s.cs)]
theorem St.d_eq (s : St) : St.d s = [.v (.int .i64 s.op), .v (.int .i64 s.va), .v (.int .i64 s.wd), .v (.int .i64 s.nx), .v (.int .i64 s.el), .v (.int .u32 s.tg), .sl 5 (Ex.ds s.e), .sl 1 (i64s s.cs)] := rfl
@[simp] theorem St.d_len (s : St) : (St.d s).length = 8 := rfl
/-- Statements, as a slice's elements. -/
def sts (l : List St) : List (List D) := l.map St.d
@[simp] theorem sts_nil : sts [] = [] := rfl
@[simp] theorem sts_cons (s : St) (l : List St) : sts (s :: l) = s.d :: sts l := rfl
@[simp] theorem sts_len (l : List St) : (sts l).length = l.length := by simp [sts]
@[simp] theorem sts_get (l : List St) (i : Nat) : (sts l)[i]? = (l[i]?).map St.d := by simp [sts]
@[simp] theorem sts_at (l : List St) (i : Nat) (h : i < (sts l).length) : (sts l)[i] = St.d (l[i]'(by simpa using h)) := by simp [sts]
@[simp] theorem sts_all (l : List St) : (sts l).take l.length = sts l := by rw [List.take_of_length_le]; simp
@[simp] theorem sts_app (l m : List St) : sts (l ++ m) = sts l ++ sts m := by simp [sts]
@[simp] theorem sts_take (l : List St) (n : Nat) : (sts l).take n = sts (l.take n) := by simp [sts]
def Bl.d (b : Bl) : List D := [.v (.int .u32 b.ad), .sl 8 (sts b.s)]
theorem Bl.d_eq (b : Bl) : Bl.d b = [.v (.int .u32 b.ad), .sl 8 (sts b.s)] := rfl
@[simp] theorem Bl.d_len (b : Bl) : (Bl.d b).length = 2 := rfl
/-- Blocks, as a slice's elements. -/
def bls' (l : List Bl) : List (List D) := l.map Bl.d
@[simp] theorem bls_nil : bls' [] = [] := rfl
@[simp] theorem bls_cons (b : Bl) (l : List Bl) : bls' (b :: l) = b.d :: bls' l := rfl
@[simp] theorem bls_len (l : List Bl) : (bls' l).length = l.length := by simp [bls']
@[simp] theorem bls_get (l : List Bl) (i : Nat) : (bls' l)[i]? = (l[i]?).map Bl.d := by simp [bls']
@[simp] theorem bls_at (l : List Bl) (i : Nat) (h : i < (bls' l).length) : (bls' l)[i] = Bl.d (l[i]'(by simpa using h)) := by simp [bls']
@[simp] theorem bls_all (l : List Bl) : (bls' l).take l.length = bls' l := by rw [List.take_of_length_le]; simp
@[simp] theorem bls_app (l m : List Bl) : bls' (l ++ m) = bls' l ++ bls' m := by simp [bls']
/-- A statement, by value. -/
@[simp] def stV (s : St) : AV := .agg [aI .i64 s.op, aI .i64 s.va, aI .i64 s.wd, aI .i64 s.nx, aI .i64 s.el, aI .u32 s.tg, .d (.sl 5 (Ex.ds s.e)), .d (.sl 1 (i64s s.cs))]
/-- A block, by value. -/
@[simp] def blV (b : Bl) : AV := .agg [aI .u32 b.ad, .d (.sl 8 (sts b.s))]
/-- A graph, by value. -/
@[simp] def grV (g : Gr) : AV := .agg [aI .u32 g.ad, .d (.sl 2 (bls' g.b))]
/-! ### the checks -/
/-- The error of an expression. -/
def exErr (e : Ex) : Int := if shalB 64 e = true then (if formB e = true then 0 else 2) else 20
def stN : List Bl → Nat
  | [] => 0
  | b :: l => b.s.length + stN l
end Go.Proofs.YtccjeoghjioamaaGreatDoor

/- Contracts: slices.IndexFunc, slices.ContainsFunc, slices.Clone, at statements and at numbers (printed by gen_slices.py). -/
namespace Go.Proofs.YtccjeoghjioamaaGreatDoor
open Go.RowKit
/-- slices.IndexFunc, with a predicate that changes nothing. -/
theorem index_in_ac {f : Nat} {fs cs : List AV} {p : Int → Bool} (A : AHeap) (l : List Int) (hf : okF Tryz.prog f = true) (hp : ∀ a ∈ l, ∀ N, AC Tryz.prog f (fs ++ [aI .i64 a] ++ cs) (A ++ N) (Same0 A (aB (p a)))) :
    AC Tryz.prog 56 [.d (.sl 1 (i64s l)), .fn f fs cs] A (Same0 A (aI .i64 (match l.findIdx? p with | some i => (i : Int) | none => -1))) := by
  refine ac_of Tryz.func56 rfl (by kernel_rfl) (by simp [Tryz.ntmps56]) fun hb => ?_
  have n1 : l.length ≤ maxLen := by simpa using hb.1.1
  clear hb
  obtain ⟨R, hR⟩ : ∃ R : Int, (match l.findIdx? p with | some i => (i : Int) | none => -1) = R := ⟨_, rfl⟩
  rw [hR]
  simp [Tryz.f56]
  refine aLoop_of (α := Nat) (fun i e A' => i ≤ l.length ∧ (∃ N, A' = A ++ N) ∧ e 8 = aI .i64 i ∧ e 7 = aI .i64 l.length ∧ e 0 = .d (.sl 1 (i64s l)) ∧ e 1 = .fn f fs cs ∧
    ∀ (j : Nat) (a : Int), j < i → l[j]? = some a → p a = false) (fun i => l.length - i) 0 (Sub.refl _ _ _) ⟨by omega, ⟨[], by simp⟩, by simp, by simp, by simp, by simp, by intro j a hj; omega⟩ ?_
  rintro i e A' ⟨hi, ⟨N, rfl⟩, e8, e7, e0, e1, hall⟩ K hK
  simp [e8, e7]
  refine aCond_split (fun hlt => ?_) (fun hge => ?_)
  · simp at hlt
    have hi1 := List.getElem?_eq_getElem hlt
    simp [e0, e1, e8, hi1]
    refine aCall_ofc (hp l[i] (List.mem_of_getElem? hi1) N) hf ?_
    rintro _ _ ⟨rfl, N', rfl⟩
    simp
    refine aCond_split (fun ht => ?_) (fun hf => ?_)
    · have : l.findIdx? p = some i := by
        rw [List.findIdx?_eq_some_iff_getElem]
        exact ⟨hlt, ht, fun j hj => by simpa using hall j _ hj (List.getElem?_eq_getElem (by omega))⟩
      rw [this] at hR
      subst hR
      simp [Same0]
    · simp [e8, succ_wrap hlt n1]
      refine hK (i + 1) _ _ _ _ (Sub.refl _ _ _) ⟨by omega, ⟨N', rfl⟩, by simp, by simp [e7], by simp [e0], by simp [e1], fun j a hj ha => ?_⟩ (by omega)
      rcases Nat.lt_or_ge j i with h | h
      · exact hall j a h ha
      · obtain rfl : j = i := by omega
        rw [hi1] at ha
        obtain rfl := Option.some.inj ha
        exact hf
  · simp at hge
    have : l.findIdx? p = none := by
      rw [List.findIdx?_eq_none_iff]
      intro x hx
      obtain ⟨j, hj⟩ := List.getElem?_of_mem hx
      exact hall j x (by have := (List.getElem?_eq_some_iff.1 hj).1; omega) hj
    rw [this] at hR
    subst hR
    simp [Same0]
theorem contains_in_ac {f : Nat} {fs cs : List AV} {p : Int → Bool} (A : AHeap) (l : List Int) (hf : okF Tryz.prog f = true) (hp : ∀ a ∈ l, ∀ N, AC Tryz.prog f (fs ++ [aI .i64 a] ++ cs) (A ++ N) (Same0 A (aB (p a)))) :
    AC Tryz.prog 20 [.d (.sl 1 (i64s l)), .fn f fs cs] A (Same0 A (aB (l.any p))) := by
  refine ac_of Tryz.func20 rfl (by kernel_rfl) (by simp [Tryz.ntmps20]) fun hb => ?_
  simp [Tryz.f20]
  refine aCall_ofc (index_in_ac A l hf hp) (by simp) ?_
  rintro _ _ ⟨rfl, N, rfl⟩
  simp [Same0]
  cases h : l.findIdx? p with
  | none =>
    rw [List.findIdx?_eq_none_iff] at h
    simpa using h
  | some i =>
    rw [List.findIdx?_eq_some_iff_getElem] at h
    obtain ⟨hi, hp, _⟩ := h
    simpa using ⟨_, List.getElem_mem hi, hp⟩
end Go.Proofs.YtccjeoghjioamaaGreatDoor

/- The plain laws of the rewriting: an idiom's replacement is well-formed and lighter; what is rewritten is normal. No program in sight. -/
namespace Go.Proofs.YtccjeoghjioamaaGreatDoor
open Go.RowKit
@[simp] theorem depth_con (n : Int) : (eCon n).depth = 1 := by simp [eCon, Ex.depth, Ex.depths]
/-- x is no greater than e, and well-formed. -/
structure Part (x e : Ex) : Prop where
  form : formB x = true
  wt : x.wt ≤ e.wt
  nodes : x.nodes ≤ e.nodes
  depth : x.depth ≤ e.depth
theorem Part.refl {e : Ex} (h : formB e = true) : Part e e := ⟨h, Nat.le_refl _, Nat.le_refl _, Nat.le_refl _⟩
theorem Part.trans {a b c : Ex} (h : Part a b) (g : Part b c) : Part a c := ⟨h.form, Nat.le_trans h.wt g.wt, Nat.le_trans h.nodes g.nodes, Nat.le_trans h.depth g.depth⟩
/-- A replacement: well-formed, lighter, no greater. -/
structure Less (x e : Ex) : Prop where
  form : formB x = true
  wt : x.wt < e.wt
  nodes : x.nodes ≤ e.nodes
  depth : x.depth ≤ e.depth
/-- No idiom is left. -/
inductive Nm : Ex → Prop where
  | mk {e : Ex} : firstS e 0 10 = none → (∀ x ∈ e.l, Nm x) → Nm e
theorem Nm.rw {e : Ex} (h : Nm e) : ∀ k, rwF k e = (e, false) := by
  induction h with
  | mk h1 _ ih =>
    rename_i e _
    intro k
    cases k with
    | zero => rfl
    | succ k =>
      have hm : (e.l.map fun x => (rwF k x).1) = e.l := by
        conv => rhs; rw [← List.map_id e.l]
        exact List.map_congr_left fun x hx => by rw [ih x hx k]; rfl
      have ha : (e.l.any fun x => (rwF k x).2) = false := by
        rw [List.any_eq_false]
        intro x hx
        rw [ih x hx k]
        simp
      simp only [rwF, hm, ha, Ex.eta, h1]
/-- What is rewritten: well-formed, no greater, normal; lighter if anything was replaced, the same if nothing was. -/
structure RwOk (e : Ex) (r : Ex × Bool) : Prop where
  form : formB r.1 = true
  wt : r.1.wt ≤ e.wt
  nodes : r.1.nodes ≤ e.nodes
  depth : r.1.depth ≤ e.depth
  yes : r.2 = true → r.1.wt < e.wt
  no : r.2 = false → r.1 = e
  nm : Nm r.1
end Go.Proofs.YtccjeoghjioamaaGreatDoor

/- Contracts: il.CheckGraph and what it calls. -/
namespace Go.Proofs.YtccjeoghjioamaaGreatDoor
open Go.RowKit
end Go.Proofs.YtccjeoghjioamaaGreatDoor

/- Contracts: il.Successors, il.shaped, il.CheckGraph. -/
namespace Go.Proofs.YtccjeoghjioamaaGreatDoor
open Go.RowKit
/-- The box of a graph, of a block. -/
abbrev gB (g : Gr) : Blk := ⟨0, true, 39, 2, [[aI .u32 g.ad, .d (.sl 2 (bls' g.b))]]⟩
/-- Sizes that a machine holds. -/
def GrFit (g : Gr) : Prop := g.b.length ≤ 1000000 ∧ ∀ b ∈ g.b, b.s.length ≤ 1000000 ∧ ∀ s ∈ b.s, s.e.length ≤ 1000000 ∧ s.cs.length ≤ 2000000
theorem stN_app : ∀ (l m : List Bl), stN (l ++ m) = stN l + stN m
  | [], m => by simp [stN]
  | b :: l, m => by simp only [List.cons_append, stN, stN_app l m]; omega
theorem stN_take {l : List Bl} {i : Nat} {b : Bl} (h : l[i]? = some b) : stN (l.take (i + 1)) = stN (l.take i) + b.s.length := by
  rw [List.take_add_one, h, stN_app]
  simp [stN]
end Go.Proofs.YtccjeoghjioamaaGreatDoor

/- Contracts: the reference's CheckGraph and what it calls. -/
namespace Go.Proofs.YtccjeoghjioamaaGreatDoor
open Go.RowKit
end Go.Proofs.YtccjeoghjioamaaGreatDoor

/- Contracts: the reference's CheckStmt, isClosed, CheckGraph. -/
namespace Go.Proofs.YtccjeoghjioamaaGreatDoor
open Go.RowKit
end Go.Proofs.YtccjeoghjioamaaGreatDoor
