/- Texts that the claim leans on, laid one behind the other: Hh, Hi, Hj, Hk, Hl. -/
import Derived.Test.YtjnofkcfogognaaGreatDoorZH
set_option linter.unusedSimpArgs false
set_option linter.unusedVariables false
set_option linter.unnecessarySimpa false
/- Contracts: the reference's idioms. -/
namespace Go.Proofs.YtjnofkcfogognaaGreatDoor
open Go.RowKit
/-- The reference's multiple. -/
abbrev mA (p : Ex × Int) : AV := .agg [aI .i64 p.1.op, aI .u32 p.1.n, aI .i64 p.1.v, aI .i64 p.1.wd, .d (.sl 5 (Ex.ds p.1.l)), aI .u32 p.2]
/-- A name and an expression. -/
abbrev nA (s : ByteArray) (x : Ex) : AV := .tup [aS s, exA x]
def nxS (l : List (Nat × Option Ex)) (e : Ex) : AV := match l with
  | [] => nA ⟨#[]⟩ e
  | (i, some x) :: _ => nA (nm i) x
  | (_, none) :: l => nxS l e
@[simp] theorem nxS_nil (e : Ex) : nxS [] e = nA ⟨#[]⟩ e := rfl
@[simp] theorem nxS_some (i : Nat) (x e : Ex) (l : List (Nat × Option Ex)) : nxS ((i, some x) :: l) e = nA (nm i) x := rfl
@[simp] theorem nxS_none (i : Nat) (e : Ex) (l : List (Nat × Option Ex)) : nxS ((i, none) :: l) e = nxS l e := rfl
end Go.Proofs.YtjnofkcfogognaaGreatDoor

/- Contracts: the reference's idioms, continued. -/
namespace Go.Proofs.YtjnofkcfogognaaGreatDoor
open Go.RowKit
theorem isB_op {e : Ex} {n : Int} (h : isB e n = true) : e.op = 1 := (isB_iff.1 h).1
theorem isB_not {e : Ex} {n : Int} (h : ¬ e.op = 1) : isB e n = false := by simp [isB, h]
theorem inv_by {e : Ex} (hf : formB e = true) (h3 : e.op = 3) : invS e = match byS e 3 all32 with
    | some x => if x.op = 17 then some (eTwo 8 x.x (eCon all32)) else none
    | none => none := by
  obtain ⟨a, b, rfl, ha, hb⟩ := form_two' hf h3 (by omega) (by omega)
  have ho : ordS (eTwo 3 a b) 3 = [(a, b), (b, a)] := by simp [ord_two, comB]
  unfold invS byS
  rw [ho]
  cases h1 : isB b all32
  · cases h2 : isB a all32
    · simp [h1, h2]
    · by_cases h4 : b.op = 17 <;> simp [h1, h2, h4]
  · have hb17 : ¬ b.op = 17 := by have := isB_op h1; omega
    by_cases h4 : a.op = 17
    · simp [h1, h4]
    · simp [h1, h4, hb17]
theorem inv_no {e : Ex} (h3 : ¬ e.op = 3) (h4 : ¬ e.op = 4) : invS e = none := by
  unfold invS
  rw [ord_not h3]
  simp [h4]
theorem neg_no {e : Ex} (h3 : ¬ e.op = 3) : negS e = none := by
  unfold negS byS
  rw [ord_not h3]
  rfl
end Go.Proofs.YtjnofkcfogognaaGreatDoor

/- Contracts: the reference's shifts and selections. -/
namespace Go.Proofs.YtjnofkcfogognaaGreatDoor
open Go.RowKit
theorem sh_two (op : Int) (a b : Ex) : shS (eTwo op a b) op = if b.op = 1 ∧ 1 ≤ b.n ∧ b.n ≤ 31 then some (a, b.n) else none := by simp [shS]
theorem hi_two (op : Int) (a b : Ex) : hiS (eTwo op a b) op = if isB b 31 = true then some a else none := by
  unfold hiS
  rw [sh_two]
  by_cases h1 : b.op = 1
  · by_cases h2 : b.n = 31
    · simp [isB, h1, h2]
    · by_cases h3 : 1 ≤ b.n ∧ b.n ≤ 31 <;> simp [isB, h1, h2, h3]
  · simp [isB, h1]
theorem hi_not {e : Ex} {op : Int} (h : ¬ e.op = op) : hiS e op = none := by simp [hiS, shS, h]
/-- The operands of (x ^ y) & -(x <s y). -/
def pairB (e x y : Ex) : Bool := decide (e.op = 8) && (sameB e.x x && sameB e.y y || sameB e.x y && sameB e.y x)
def selP1 (n o : Ex) : Option (Ex × Ex) := if n.op = 17 ∧ n.x.op = 14 ∧ pairB o n.x.x n.x.y = true then some (n.x.x, n.x.y) else none
def selP (e : Ex) : Option (Ex × Ex) := if e.op = 6 then (match selP1 e.x e.y with
  | some r => some r
  | none => selP1 e.y e.x) else none
end Go.Proofs.YtjnofkcfogognaaGreatDoor

/- The reference's first match is the program's: plain. No program in sight. -/
namespace Go.Proofs.YtjnofkcfogognaaGreatDoor
open Go.RowKit
theorem bool_comm2 (a b c d : Bool) : (a && b || c && d) = (c && d || a && b) := by cases a <;> cases b <;> cases c <;> cases d <;> rfl
/-- The pairs of an exclusive or. -/
theorem any_pair (z x y : Ex) (hf : formB z = true) : ((ordS z 8).any fun r => sameB r.1 x && sameB r.2 y) = pairB z x y := by
  unfold pairB
  by_cases h : z.op = 8
  · obtain ⟨p, q, rfl, _, _⟩ := form_two' hf h (by omega) (by omega)
    simp only [ord_two, comB]
    simp
    rw [Bool.and_comm (sameB q x) (sameB p y)]
  · rw [ord_not h]
    simp [h]
theorem selP_any (z w : Ex) (g : Bool) (hf : formB z = true) : ((ordS z 6).any fun q => decide (q.2.op = 17) && decide (q.2.x.op = 14) && ((ordS q.1 8).any fun r => sameB r.1 q.2.x.x && sameB r.2 q.2.x.y) && sameB w (if g then q.2.x.x else q.2.x.y)) =
    match selP z with
    | some (x, y) => sameB w (if g then x else y)
    | none => false := by
  by_cases h : z.op = 6
  case neg =>
    rw [ord_not h]
    simp [selP, h]
  obtain ⟨p, q, rfl, hp, hq⟩ := form_two' hf h (by omega) (by omega)
  have ho : ordS (eTwo 6 p q) 6 = [(p, q), (q, p)] := by simp [ord_two, comB]
  rw [ho]
  simp only [List.any_cons, List.any_nil, Bool.or_false, any_pair p _ _ hp, any_pair q _ _ hq]
  simp only [selP, if_true, x_two, y_two, eTwo_op]
  unfold selP1
  by_cases hp17 : p.op = 17
  · have hq0 : ∀ x y, pairB p x y = false := fun x y => by simp [pairB, hp17]
    simp only [hq0, hp17]
    cases h1 : decide (p.x.op = 14) <;> cases h2 : pairB q p.x.x p.x.y <;> simp_all
  · by_cases hq17 : q.op = 17
    · simp only [hp17, hq17]
      cases h1 : decide (q.x.op = 14) <;> cases h2 : pairB p q.x.x q.x.y <;> simp_all
    · simp [hp17, hq17]
/-- What the reference's selection answers. -/
def selN (e : Ex) : Option Nat := if absB e = true then some 10 else if selB e false = true then some 11 else if selB e true = true then some 12 else none
def selC (z w : Ex) (g : Bool) : Bool := match selP z with
  | some (x, y) => sameB w (if g then x else y)
  | none => false
theorem selB_two (a b : Ex) (g : Bool) (ha : formB a = true) (hb : formB b = true) : selB (eTwo 8 a b) g = (selC b a g || selC a b g) := by
  unfold selB
  have ho : ordS (eTwo 8 a b) 8 = [(a, b), (b, a)] := by simp [ord_two, comB]
  rw [ho]
  simp only [List.any_cons, List.any_nil, Bool.or_false]
  rw [selP_any b a g hb, selP_any a b g ha]
  rfl
theorem selB_not {e : Ex} {g : Bool} (h : ¬ e.op = 8) : selB e g = false := by
  unfold selB
  rw [ord_not h]
  rfl
theorem absB_not {e : Ex} (h : ¬ e.op = 4) : absB e = false := by simp [absB, h]
end Go.Proofs.YtjnofkcfogognaaGreatDoor

/- Contracts: the reference's selection, match, rewritten, Expr, Match. -/
namespace Go.Proofs.YtjnofkcfogognaaGreatDoor
open Go.RowKit
def selStr (e : Ex) : ByteArray := match selN e with
  | some i => nm i
  | none => ⟨#[]⟩
/-- What the reference's match answers. -/
def rmA (e : Ex) : AV := match firstS e 0 13 with
  | some (i, x) => nA (nm i) x
  | none => nA ⟨#[]⟩ e
theorem firstS_nxS (e : Ex) : nxS [(0, sumS e 3), (1, sumS e 4), (2, negS e), (3, invS e), (4, sgnS e), (5, zerS e), (6, nzS e), (7, restS e), (8, signS e), (9, shfS e), (10, if absB e then some e else none), (11, if selB e false then some e else none), (12, if selB e true then some e else none)] e = rmA e := by
  have h : ∀ (n i : Nat), nxS ((List.range' i n).map fun j => (j, applyS j e)) e = match firstS e i n with
      | some (i, x) => nA (nm i) x
      | none => nA ⟨#[]⟩ e := by
    intro n
    induction n with
    | zero => intro i; rfl
    | succ n ih =>
      intro i
      rw [List.range'_succ, List.map_cons, first_step]
      cases h : applyS i e with
      | some x => rfl
      | none => exact ih (i + 1)
  exact h 13 0
theorem apply_no {e : Ex} (h : e.op < 3 ∨ 15 < e.op) : ∀ i, applyS i e = none := by
  have h3 : ¬ e.op = 3 := by omega
  have h4 : ¬ e.op = 4 := by omega
  have h8 : ¬ e.op = 8 := by omega
  have h9 : ¬ e.op = 9 := by omega
  have h10 : ¬ e.op = 10 := by omega
  have h11 : ¬ e.op = 11 := by omega
  intro i
  match i with
  | 0 => simp [applyS, sumS, h3]
  | 1 => simp [applyS, sumS, h4]
  | 2 => exact neg_no h3
  | 3 => exact inv_no h3 h4
  | 4 => simp [applyS, sgnS, extS, shS, h11]
  | 5 => simp [applyS, zerS, extS, shS, h10]
  | 6 => simp [applyS, nzS, hi_not h10]
  | 7 => simp [applyS, restS, h4]
  | 8 => simp [applyS, signS, hi_not h10]
  | 9 => simp [applyS, shfS, shS, h9]
  | 10 => simp [applyS, absB_not h4]
  | 11 => simp [applyS, selB_not h8]
  | (n + 12) => simp [applyS, selB_not h8]
theorem first_no {e : Ex} (h : e.op < 3 ∨ 15 < e.op) : ∀ n i, firstS e i n = none
  | 0, _ => rfl
  | n + 1, i => by rw [first_step, apply_no h i]; exact first_no h n (i + 1)
end Go.Proofs.YtjnofkcfogognaaGreatDoor
