/- Texts that the claim leans on, laid one behind the other: Hb, Hc, Hn, Hd, He, Hf, Hg, Ho, Hh, Hi, Hj, Hk, Hl, Hq. -/
import Derived.Test.YtlidimmfpfockaaGreatDoorZG
import Derived.Test.YtlidimmfpfockaaGreatDoorAn
import Derived.Test.YtlidimmfpfockaaGreatDoorZB
set_option linter.unusedSimpArgs false
set_option linter.unusedVariables false
set_option linter.unnecessarySimpa false
/- Contracts: idiom's small functions: is, orders, by, shifts, multiple, product, high, extended. -/
namespace Go.Proofs.YtlidimmfpfockaaGreatDoor
open Go.RowKit
@[simp] theorem NLeE_dx (a : Ex) : NLeE [.v (.int .i64 a.op), .v (.int .u32 a.n), .v (.int .i64 a.v), .v (.int .i64 a.wd), .sl 5 (Ex.ds a.l)] a.d ↔ True := by
  rw [Ex.d_eq]
  simp
/-- The empty expression. -/
abbrev eNil : Ex := .mk 0 0 0 0 []
/-- An expression and whether there is one. -/
abbrev oA (e : Ex) (r : Option Ex) : AV := .tup [exA (r.getD e), aB r.isSome]
/-- What orders returns, as data. -/
def ordD (l : List (Ex × Ex)) : List (List D) := l.map fun p => Ex.d p.1 ++ Ex.d p.2
/-- The rows of orders. -/
theorem ord_cases (e : Ex) (op : Int) : ordS e op = [] ∨ (∃ a b, ordS e op = [(a, b)]) ∨ ∃ a b, ordS e op = [(a, b), (b, a)] := by
  unfold ordS
  split
  · split
    · exact .inr (.inr ⟨_, _, rfl⟩)
    · exact .inr (.inl ⟨_, _, rfl⟩)
  · exact .inl rfl
end Go.Proofs.YtlidimmfpfockaaGreatDoor

/- Contracts: idiom's matchers. -/
namespace Go.Proofs.YtlidimmfpfockaaGreatDoor
open Go.RowKit
theorem form_two' {e : Ex} {op : Int} (h : formB e = true) (ho : e.op = op) (h3 : 3 ≤ op) (h15 : op ≤ 15) : ∃ a b, e = eTwo op a b ∧ formB a = true ∧ formB b = true := by
  subst ho
  exact form_two h h3 h15
theorem form_one' {e : Ex} (h : formB e = true) (ho : e.op = 17) : ∃ a, e = eOne 17 a ∧ formB a = true := by
  obtain ⟨a, he, ha⟩ := form_one h (.inr ho)
  rw [ho] at he
  exact ⟨a, he, ha⟩
abbrev shA (r : Option (Ex × Int)) : AV := .tup [exA ((r.map (·.1)).getD eNil), aI .u32 ((r.map (·.2)).getD 0), aB r.isSome]
theorem pw24 : pw 24 = 16777216 := by decide +kernel
theorem pw16 : pw 16 = 65536 := by decide +kernel
theorem ord_two (op : Int) (a b : Ex) : ordS (eTwo op a b) op = (a, b) :: (if comB op = true then [(b, a)] else []) := by simp [ordS]
theorem ord_not {e : Ex} {op : Int} (h : ¬ e.op = op) : ordS e op = [] := by simp [ordS, h]
end Go.Proofs.YtlidimmfpfockaaGreatDoor

/- The printed texts of the chapter's example. -/
namespace Go.Proofs.YtlidimmfpfockaaGreatDoor
open Go.RowKit
theorem print1_af : AF Tryz.prog 17 [exA (eTwo 5 (eVar 1) (eCon 5))] (aS ⟨#[40, 114, 49, 32, 42, 32, 53, 41]⟩) := xres_af xnone_ok (lf := 100) (n := 30) (by kernel_rfl)
theorem print2_af : AF Tryz.prog 17 [exA (.mk 19 0 0 1 [eVar 1])] (aS ⟨#[115, 101, 120, 116, 49, 40, 114, 49, 41]⟩) := xres_af xnone_ok (lf := 100) (n := 30) (by kernel_rfl)
theorem print3_af : AF Tryz.prog 17 [exA (eTwo 6 (eVar 1) (eCon 7))] (aS ⟨#[40, 114, 49, 32, 38, 32, 55, 41]⟩) := xres_af xnone_ok (lf := 100) (n := 30) (by kernel_rfl)
theorem print4_af : AF Tryz.prog 17 [exA (eTwo 13 (eVar 1) (eCon 0))] (aS ⟨#[40, 114, 49, 32, 33, 61, 32, 48, 41]⟩) := xres_af xnone_ok (lf := 100) (n := 30) (by kernel_rfl)
end Go.Proofs.YtlidimmfpfockaaGreatDoor

/- Contracts: slices.ContainsFunc at pairs of expressions; idiom's matchers, continued. -/
namespace Go.Proofs.YtlidimmfpfockaaGreatDoor
open Go.RowKit
/-- A pair of expressions, by value. -/
@[simp] def rowA (p : Ex × Ex) : AV := .agg [aI .i64 p.1.op, aI .u32 p.1.n, aI .i64 p.1.v, aI .i64 p.1.wd, .d (.sl 5 (Ex.ds p.1.l)), aI .i64 p.2.op, aI .u32 p.2.n, aI .i64 p.2.v, aI .i64 p.2.wd, .d (.sl 5 (Ex.ds p.2.l))]
@[simp] theorem ordD_len (l : List (Ex × Ex)) : (ordD l).length = l.length := by simp [ordD]
@[simp] theorem ordD_get (l : List (Ex × Ex)) (i : Nat) : (ordD l)[i]? = (l[i]?).map fun p => Ex.d p.1 ++ Ex.d p.2 := by simp [ordD]
@[simp] theorem ordD_at (l : List (Ex × Ex)) (i : Nat) (h : i < (ordD l).length) : (ordD l)[i] = Ex.d (l[i]'(by simpa using h)).1 ++ Ex.d (l[i]'(by simpa using h)).2 := by simp [ordD]
end Go.Proofs.YtlidimmfpfockaaGreatDoor

/- Contracts: idiom's matchers of absolute values, minima and maxima. -/
namespace Go.Proofs.YtlidimmfpfockaaGreatDoor
open Go.RowKit
/-- A box of an expression. -/
abbrev exB (e : Ex) : Blk := ⟨0, true, 38, 5, [[aI .i64 e.op, aI .u32 e.n, aI .i64 e.v, aI .i64 e.wd, .d (.sl 5 (Ex.ds e.l))]]⟩
end Go.Proofs.YtlidimmfpfockaaGreatDoor

/- Contracts: idiom's apply, rewritten, own, Expr. -/
namespace Go.Proofs.YtlidimmfpfockaaGreatDoor
open Go.RowKit
/-- The box of the zero expression. -/
abbrev nilB : Blk := ⟨0, true, 38, 5, [[aI .i64 0, aI .u32 0, aI .i64 0, aI .i64 0, .d (.v (.slice none 0 0))]]⟩
/-- The expression's box, its operands written no more: data. -/
theorem sub_box (o n v w : Int) (M : List Ex) (e : AEnv) :
    Sub 0 e [⟨0, true, 38, 5, [[aI .i64 o, aI .u32 n, aI .i64 v, aI .i64 w, .own 2 1 0 M.length]]⟩, nilB, ⟨1, true, 38, 5, dEls (Ex.ds M)⟩] (fun i => cln 2 (e i)) [exB (.mk o n v w M), nilB] := by
  have g1 := Sub.frz (n := 0) [2] (e := e) (A := [⟨0, true, 38, 5, [[aI .i64 o, aI .u32 n, aI .i64 v, aI .i64 w, .own 2 1 0 M.length]]⟩, nilB, ⟨1, true, 38, 5, dEls (Ex.ds M)⟩])
  have hv : reiV true [⟨0, true, 38, 5, [[aI .i64 o, aI .u32 n, aI .i64 v, aI .i64 w, .own 2 1 0 M.length]]⟩, nilB, ⟨1, false, 38, 5, dEls (Ex.ds M)⟩] 9 (.own 2 1 0 M.length) = some (.d (.sl 5 (Ex.ds M))) := by simp
  have g2 := Sub.cell (n := 0) (e := e) (A := [⟨0, true, 38, 5, [[aI .i64 o, aI .u32 n, aI .i64 v, aI .i64 w, .own 2 1 0 M.length]]⟩, nilB, ⟨1, false, 38, 5, dEls (Ex.ds M)⟩]) (b := 0) (i := 0) (o := 4) rfl rfl rfl (VLe.rei hv)
  have g3 := Sub.take (n := 0) 2 (by omega) (e := e) (A := [exB (.mk o n v w M), nilB, ⟨1, false, 38, 5, dEls (Ex.ds M)⟩])
  simp at g3
  exact (g1.trans g2).trans g3
theorem first_step (e : Ex) (i n : Nat) : firstS e i (n + 1) = match applyS i e with
    | some x => some (i, x)
    | none => firstS e (i + 1) n := rfl
end Go.Proofs.YtlidimmfpfockaaGreatDoor

/- Contracts: idiom's Expr, Match, Names. -/
namespace Go.Proofs.YtlidimmfpfockaaGreatDoor
open Go.RowKit
def checkB (e : Ex) : Bool := shalB 64 e && formB e
/-- What idiom.Expr answers. -/
def exprS (e : Ex) : Ex × Bool := if checkB e = true then rwF e.wt e else (e, false)
theorem check28_af (e : Ex) : AF Tryz.prog 54 [exA e] (aI .i64 (if checkB e = true then 0 else if shalB 64 e = true then 2 else 20)) := by
  have h := check_af e
  unfold checkB
  cases h1 : shalB 64 e <;> cases h2 : formB e <;> simpa [h1, h2] using h
/-- The names of the table. -/
def nmL : List ByteArray := [⟨#[109, 117, 108, 45, 97, 100, 100]⟩, ⟨#[109, 117, 108, 45, 115, 117, 98]⟩, ⟨#[110, 101, 103, 97, 116, 105, 111, 110]⟩, ⟨#[99, 111, 109, 112, 108, 101, 109, 101, 110, 116]⟩, ⟨#[115, 105, 103, 110, 45, 101, 120, 116, 101, 110, 100]⟩, ⟨#[122, 101, 114, 111, 45, 101, 120, 116, 101, 110, 100]⟩, ⟨#[110, 111, 116, 45, 122, 101, 114, 111]⟩, ⟨#[114, 101, 109, 97, 105, 110, 100, 101, 114]⟩, ⟨#[115, 105, 103, 110]⟩, ⟨#[109, 117, 108, 45, 115, 104, 105, 102, 116]⟩, ⟨#[97, 98, 115, 111, 108, 117, 116, 101]⟩, ⟨#[109, 105, 110, 105, 109, 117, 109]⟩, ⟨#[109, 97, 120, 105, 109, 117, 109]⟩]
def nm (i : Nat) : ByteArray := nmL.getD i ⟨#[]⟩
def namesB : ByteArray := ⟨#[109, 117, 108, 45, 97, 100, 100, 32, 109, 117, 108, 45, 115, 117, 98, 32, 110, 101, 103, 97, 116, 105, 111, 110, 32, 99, 111, 109, 112, 108, 101, 109, 101, 110, 116, 32, 115, 105, 103, 110, 45, 101, 120, 116, 101, 110, 100, 32, 122, 101, 114, 111, 45, 101, 120, 116, 101, 110, 100, 32, 110, 111, 116, 45, 122, 101, 114, 111, 32, 114, 101, 109, 97, 105, 110, 100, 101, 114, 32, 115, 105, 103, 110, 32, 109, 117, 108, 45, 115, 104, 105, 102, 116, 32, 97, 98, 115, 111, 108, 117, 116, 101, 32, 109, 105, 110, 105, 109, 117, 109, 32, 109, 97, 120, 105, 109, 117, 109]⟩
/-- What idiom.Match answers. -/
def matchA (e : Ex) : AV := match (if checkB e = true then firstS e 0 13 else none) with
  | some (i, _) => .tup [aS (nm i), aB true]
  | none => .tup [aS ⟨#[]⟩, aB false]
end Go.Proofs.YtlidimmfpfockaaGreatDoor

/- Contracts: the chapter's example; the laws IdiomNames, IdiomFixed. -/
namespace Go.Proofs.YtlidimmfpfockaaGreatDoor
open Go.RowKit
abbrev e1 : Ex := eTwo 3 (eTwo 9 (eVar 1) (eCon 2)) (eVar 1)
abbrev e2 : Ex := eTwo 11 (eTwo 9 (eVar 1) (eCon 24)) (eCon 24)
abbrev e3 : Ex := eTwo 4 (eVar 1) (eTwo 9 (eTwo 10 (eVar 1) (eCon 3)) (eCon 3))
abbrev e4 : Ex := eTwo 10 (eTwo 7 (eVar 1) (eOne 17 (eVar 1))) (eCon 31)
theorem ex1_eq : exprS e1 = (eTwo 5 (eVar 1) (eCon 5), true) := by kernel_rfl
theorem ex2_eq : exprS e2 = (.mk 19 0 0 1 [eVar 1], true) := by kernel_rfl
theorem ex3_eq : exprS e3 = (eTwo 6 (eVar 1) (eCon 7), true) := by kernel_rfl
theorem ex4_eq : exprS e4 = (eTwo 13 (eVar 1) (eCon 0), true) := by kernel_rfl
theorem ex5_eq : exprS (eAbs (eVar 1)) = (eAbs (eVar 1), false) := by kernel_rfl
theorem ex6_eq : matchA (eAbs (eVar 1)) = .tup [aS (nm 10), aB true] := by kernel_rfl
end Go.Proofs.YtlidimmfpfockaaGreatDoor

/- Contracts: the reference's idioms. -/
namespace Go.Proofs.YtlidimmfpfockaaGreatDoor
open Go.RowKit
/-- The reference's multiple. -/
abbrev mA (p : Ex × Int) : AV := .agg [aI .i64 p.1.op, aI .u32 p.1.n, aI .i64 p.1.v, aI .i64 p.1.wd, .d (.sl 5 (Ex.ds p.1.l)), aI .u32 p.2]
/-- A name and an expression. -/
abbrev nA (s : ByteArray) (x : Ex) : AV := .tup [aS s, exA x]
def nxS (l : List (Nat × Option Ex)) (e : Ex) : AV := match l with
  | [] => nA ⟨#[]⟩ e
  | (i, some x) :: _ => nA (nm i) x
  | (_, none) :: l => nxS l e
@[simp] theorem nxS_nil (e : Ex) : nxS [] e = nA ⟨#[]⟩ e := rfl
@[simp] theorem nxS_some (i : Nat) (x e : Ex) (l : List (Nat × Option Ex)) : nxS ((i, some x) :: l) e = nA (nm i) x := rfl
@[simp] theorem nxS_none (i : Nat) (e : Ex) (l : List (Nat × Option Ex)) : nxS ((i, none) :: l) e = nxS l e := rfl
end Go.Proofs.YtlidimmfpfockaaGreatDoor

/- Contracts: the reference's idioms, continued. -/
namespace Go.Proofs.YtlidimmfpfockaaGreatDoor
open Go.RowKit
theorem isB_op {e : Ex} {n : Int} (h : isB e n = true) : e.op = 1 := (isB_iff.1 h).1
theorem isB_not {e : Ex} {n : Int} (h : ¬ e.op = 1) : isB e n = false := by simp [isB, h]
theorem inv_by {e : Ex} (hf : formB e = true) (h3 : e.op = 3) : invS e = match byS e 3 all32 with
    | some x => if x.op = 17 then some (eTwo 8 x.x (eCon all32)) else none
    | none => none := by
  obtain ⟨a, b, rfl, ha, hb⟩ := form_two' hf h3 (by omega) (by omega)
  have ho : ordS (eTwo 3 a b) 3 = [(a, b), (b, a)] := by simp [ord_two, comB]
  unfold invS byS
  rw [ho]
  cases h1 : isB b all32
  · cases h2 : isB a all32
    · simp [h1, h2]
    · by_cases h4 : b.op = 17 <;> simp [h1, h2, h4]
  · have hb17 : ¬ b.op = 17 := by have := isB_op h1; omega
    by_cases h4 : a.op = 17
    · simp [h1, h4]
    · simp [h1, h4, hb17]
theorem inv_no {e : Ex} (h3 : ¬ e.op = 3) (h4 : ¬ e.op = 4) : invS e = none := by
  unfold invS
  rw [ord_not h3]
  simp [h4]
theorem neg_no {e : Ex} (h3 : ¬ e.op = 3) : negS e = none := by
  unfold negS byS
  rw [ord_not h3]
  rfl
end Go.Proofs.YtlidimmfpfockaaGreatDoor

/- Contracts: the reference's shifts and selections. -/
namespace Go.Proofs.YtlidimmfpfockaaGreatDoor
open Go.RowKit
theorem sh_two (op : Int) (a b : Ex) : shS (eTwo op a b) op = if b.op = 1 ∧ 1 ≤ b.n ∧ b.n ≤ 31 then some (a, b.n) else none := by simp [shS]
theorem hi_two (op : Int) (a b : Ex) : hiS (eTwo op a b) op = if isB b 31 = true then some a else none := by
  unfold hiS
  rw [sh_two]
  by_cases h1 : b.op = 1
  · by_cases h2 : b.n = 31
    · simp [isB, h1, h2]
    · by_cases h3 : 1 ≤ b.n ∧ b.n ≤ 31 <;> simp [isB, h1, h2, h3]
  · simp [isB, h1]
theorem hi_not {e : Ex} {op : Int} (h : ¬ e.op = op) : hiS e op = none := by simp [hiS, shS, h]
/-- The operands of (x ^ y) & -(x <s y). -/
def pairB (e x y : Ex) : Bool := decide (e.op = 8) && (sameB e.x x && sameB e.y y || sameB e.x y && sameB e.y x)
def selP1 (n o : Ex) : Option (Ex × Ex) := if n.op = 17 ∧ n.x.op = 14 ∧ pairB o n.x.x n.x.y = true then some (n.x.x, n.x.y) else none
def selP (e : Ex) : Option (Ex × Ex) := if e.op = 6 then (match selP1 e.x e.y with
  | some r => some r
  | none => selP1 e.y e.x) else none
end Go.Proofs.YtlidimmfpfockaaGreatDoor

/- The reference's first match is the program's: plain. No program in sight. -/
namespace Go.Proofs.YtlidimmfpfockaaGreatDoor
open Go.RowKit
theorem bool_comm2 (a b c d : Bool) : (a && b || c && d) = (c && d || a && b) := by cases a <;> cases b <;> cases c <;> cases d <;> rfl
/-- The pairs of an exclusive or. -/
theorem any_pair (z x y : Ex) (hf : formB z = true) : ((ordS z 8).any fun r => sameB r.1 x && sameB r.2 y) = pairB z x y := by
  unfold pairB
  by_cases h : z.op = 8
  · obtain ⟨p, q, rfl, _, _⟩ := form_two' hf h (by omega) (by omega)
    simp only [ord_two, comB]
    simp
    rw [Bool.and_comm (sameB q x) (sameB p y)]
  · rw [ord_not h]
    simp [h]
theorem selP_any (z w : Ex) (g : Bool) (hf : formB z = true) : ((ordS z 6).any fun q => decide (q.2.op = 17) && decide (q.2.x.op = 14) && ((ordS q.1 8).any fun r => sameB r.1 q.2.x.x && sameB r.2 q.2.x.y) && sameB w (if g then q.2.x.x else q.2.x.y)) =
    match selP z with
    | some (x, y) => sameB w (if g then x else y)
    | none => false := by
  by_cases h : z.op = 6
  case neg =>
    rw [ord_not h]
    simp [selP, h]
  obtain ⟨p, q, rfl, hp, hq⟩ := form_two' hf h (by omega) (by omega)
  have ho : ordS (eTwo 6 p q) 6 = [(p, q), (q, p)] := by simp [ord_two, comB]
  rw [ho]
  simp only [List.any_cons, List.any_nil, Bool.or_false, any_pair p _ _ hp, any_pair q _ _ hq]
  simp only [selP, if_true, x_two, y_two, eTwo_op]
  unfold selP1
  by_cases hp17 : p.op = 17
  · have hq0 : ∀ x y, pairB p x y = false := fun x y => by simp [pairB, hp17]
    simp only [hq0, hp17]
    cases h1 : decide (p.x.op = 14) <;> cases h2 : pairB q p.x.x p.x.y <;> simp_all
  · by_cases hq17 : q.op = 17
    · simp only [hp17, hq17]
      cases h1 : decide (q.x.op = 14) <;> cases h2 : pairB p q.x.x q.x.y <;> simp_all
    · simp [hp17, hq17]
/-- What the reference's selection answers. -/
def selN (e : Ex) : Option Nat := if absB e = true then some 10 else if selB e false = true then some 11 else if selB e true = true then some 12 else none
def selC (z w : Ex) (g : Bool) : Bool := match selP z with
  | some (x, y) => sameB w (if g then x else y)
  | none => false
theorem selB_two (a b : Ex) (g : Bool) (ha : formB a = true) (hb : formB b = true) : selB (eTwo 8 a b) g = (selC b a g || selC a b g) := by
  unfold selB
  have ho : ordS (eTwo 8 a b) 8 = [(a, b), (b, a)] := by simp [ord_two, comB]
  rw [ho]
  simp only [List.any_cons, List.any_nil, Bool.or_false]
  rw [selP_any b a g hb, selP_any a b g ha]
  rfl
theorem selB_not {e : Ex} {g : Bool} (h : ¬ e.op = 8) : selB e g = false := by
  unfold selB
  rw [ord_not h]
  rfl
theorem absB_not {e : Ex} (h : ¬ e.op = 4) : absB e = false := by simp [absB, h]
end Go.Proofs.YtlidimmfpfockaaGreatDoor

/- Contracts: the reference's selection, match, rewritten, Expr, Match. -/
namespace Go.Proofs.YtlidimmfpfockaaGreatDoor
open Go.RowKit
def selStr (e : Ex) : ByteArray := match selN e with
  | some i => nm i
  | none => ⟨#[]⟩
/-- What the reference's match answers. -/
def rmA (e : Ex) : AV := match firstS e 0 13 with
  | some (i, x) => nA (nm i) x
  | none => nA ⟨#[]⟩ e
theorem firstS_nxS (e : Ex) : nxS [(0, sumS e 3), (1, sumS e 4), (2, negS e), (3, invS e), (4, sgnS e), (5, zerS e), (6, nzS e), (7, restS e), (8, signS e), (9, shfS e), (10, if absB e then some e else none), (11, if selB e false then some e else none), (12, if selB e true then some e else none)] e = rmA e := by
  have h : ∀ (n i : Nat), nxS ((List.range' i n).map fun j => (j, applyS j e)) e = match firstS e i n with
      | some (i, x) => nA (nm i) x
      | none => nA ⟨#[]⟩ e := by
    intro n
    induction n with
    | zero => intro i; rfl
    | succ n ih =>
      intro i
      rw [List.range'_succ, List.map_cons, first_step]
      cases h : applyS i e with
      | some x => rfl
      | none => exact ih (i + 1)
  exact h 13 0
theorem apply_no {e : Ex} (h : e.op < 3 ∨ 15 < e.op) : ∀ i, applyS i e = none := by
  have h3 : ¬ e.op = 3 := by omega
  have h4 : ¬ e.op = 4 := by omega
  have h8 : ¬ e.op = 8 := by omega
  have h9 : ¬ e.op = 9 := by omega
  have h10 : ¬ e.op = 10 := by omega
  have h11 : ¬ e.op = 11 := by omega
  intro i
  match i with
  | 0 => simp [applyS, sumS, h3]
  | 1 => simp [applyS, sumS, h4]
  | 2 => exact neg_no h3
  | 3 => exact inv_no h3 h4
  | 4 => simp [applyS, sgnS, extS, shS, h11]
  | 5 => simp [applyS, zerS, extS, shS, h10]
  | 6 => simp [applyS, nzS, hi_not h10]
  | 7 => simp [applyS, restS, h4]
  | 8 => simp [applyS, signS, hi_not h10]
  | 9 => simp [applyS, shfS, shS, h9]
  | 10 => simp [applyS, absB_not h4]
  | 11 => simp [applyS, selB_not h8]
  | (n + 12) => simp [applyS, selB_not h8]
theorem first_no {e : Ex} (h : e.op < 3 ∨ 15 < e.op) : ∀ n i, firstS e i n = none
  | 0, _ => rfl
  | n + 1, i => by rw [first_step, apply_no h i]; exact first_no h n (i + 1)
end Go.Proofs.YtlidimmfpfockaaGreatDoor

/- Contracts: the laws IdiomNames and IdiomFixed answer true. -/
namespace Go.Proofs.YtlidimmfpfockaaGreatDoor
open Go.RowKit
theorem small_nodes {e : Ex} {m : Int} (h : 0 ≤ nodI e m 3000) : e.nodes ≤ 3000 := by
  have := (nodI_le e m 3000 (by omega)).2
  omega
theorem exprS_ok {e : Ex} (hc : checkB e = true) : exprS e = rwF e.wt e ∧ RwOk e (rwF e.wt e) := by
  have hf : formB e = true := by simp only [checkB, Bool.and_eq_true] at hc; exact hc.2
  exact ⟨by simp [exprS, hc], rw_ok e.wt e hf (Nat.le_refl _)⟩
theorem rcheck28_af (e : Ex) : AF Tryz.prog 30 [exA e] (aI .i64 (if checkB e = true then 0 else if shalB 64 e = true then 2 else 20)) := by
  have h := rcheck_af e
  unfold checkB
  cases h1 : shalB 64 e <;> cases h2 : formB e <;> simpa [h1, h2] using h
theorem bytes_beq (t s : ByteArray) : (t.toList == s.toList) = decide (t = s) := by
  rw [ByteArray.toList_eq, ByteArray.toList_eq, Bool.eq_iff_iff]
  simp only [beq_iff_eq, decide_eq_true_eq]
  exact ⟨fun h => by cases t; cases s; simp only [ByteArray.mk.injEq]; exact Array.toList_inj.1 h, fun h => by rw [h]⟩
end Go.Proofs.YtlidimmfpfockaaGreatDoor
