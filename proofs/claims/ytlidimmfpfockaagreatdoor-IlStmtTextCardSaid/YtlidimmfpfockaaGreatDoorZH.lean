/- Texts that the claim leans on, laid one behind the other: Hb, Hc, Hn, Hd, He, Hf, Hg, Ho, Hh, Hi, Hj, Hk, Hl, Hq. -/
import Derived.Test.YtlidimmfpfockaaGreatDoorZG
import Derived.Test.YtlidimmfpfockaaGreatDoorAn
import Derived.Test.YtlidimmfpfockaaGreatDoorZB
set_option linter.unusedSimpArgs false
set_option linter.unusedVariables false
set_option linter.unnecessarySimpa false
/- Contracts: idiom's small functions: is, orders, by, shifts, multiple, product, high, extended. -/
namespace Go.Proofs.YtlidimmfpfockaaGreatDoor
open Go.RowKit
@[simp] theorem NLeE_dx (a : Ex) : NLeE [.v (.int .i64 a.op), .v (.int .u32 a.n), .v (.int .i64 a.v), .v (.int .i64 a.wd), .sl 5 (Ex.ds a.l)] a.d ↔ True := by
  rw [Ex.d_eq]
  simp
/-- The empty expression. -/
abbrev eNil : Ex := .mk 0 0 0 0 []
/-- An expression and whether there is one. -/
abbrev oA (e : Ex) (r : Option Ex) : AV := .tup [exA (r.getD e), aB r.isSome]
/-- What orders returns, as data. -/
def ordD (l : List (Ex × Ex)) : List (List D) := l.map fun p => Ex.d p.1 ++ Ex.d p.2
end Go.Proofs.YtlidimmfpfockaaGreatDoor

/- Contracts: idiom's matchers. -/
namespace Go.Proofs.YtlidimmfpfockaaGreatDoor
open Go.RowKit
theorem form_two' {e : Ex} {op : Int} (h : formB e = true) (ho : e.op = op) (h3 : 3 ≤ op) (h15 : op ≤ 15) : ∃ a b, e = eTwo op a b ∧ formB a = true ∧ formB b = true := by
  subst ho
  exact form_two h h3 h15
theorem form_one' {e : Ex} (h : formB e = true) (ho : e.op = 17) : ∃ a, e = eOne 17 a ∧ formB a = true := by
  obtain ⟨a, he, ha⟩ := form_one h (.inr ho)
  rw [ho] at he
  exact ⟨a, he, ha⟩
end Go.Proofs.YtlidimmfpfockaaGreatDoor

/- The printed texts of the chapter's example. -/
namespace Go.Proofs.YtlidimmfpfockaaGreatDoor
open Go.RowKit
end Go.Proofs.YtlidimmfpfockaaGreatDoor

/- Contracts: slices.ContainsFunc at pairs of expressions; idiom's matchers, continued. -/
namespace Go.Proofs.YtlidimmfpfockaaGreatDoor
open Go.RowKit
/-- A pair of expressions, by value. -/
@[simp] def rowA (p : Ex × Ex) : AV := .agg [aI .i64 p.1.op, aI .u32 p.1.n, aI .i64 p.1.v, aI .i64 p.1.wd, .d (.sl 5 (Ex.ds p.1.l)), aI .i64 p.2.op, aI .u32 p.2.n, aI .i64 p.2.v, aI .i64 p.2.wd, .d (.sl 5 (Ex.ds p.2.l))]
@[simp] theorem ordD_len (l : List (Ex × Ex)) : (ordD l).length = l.length := by simp [ordD]
@[simp] theorem ordD_get (l : List (Ex × Ex)) (i : Nat) : (ordD l)[i]? = (l[i]?).map fun p => Ex.d p.1 ++ Ex.d p.2 := by simp [ordD]
@[simp] theorem ordD_at (l : List (Ex × Ex)) (i : Nat) (h : i < (ordD l).length) : (ordD l)[i] = Ex.d (l[i]'(by simpa using h)).1 ++ Ex.d (l[i]'(by simpa using h)).2 := by simp [ordD]
end Go.Proofs.YtlidimmfpfockaaGreatDoor

/- Contracts: idiom's matchers of absolute values, minima and maxima. -/
namespace Go.Proofs.YtlidimmfpfockaaGreatDoor
open Go.RowKit
end Go.Proofs.YtlidimmfpfockaaGreatDoor

/- Contracts: idiom's apply, rewritten, own, Expr. -/
namespace Go.Proofs.YtlidimmfpfockaaGreatDoor
open Go.RowKit
end Go.Proofs.YtlidimmfpfockaaGreatDoor

/- Contracts: idiom's Expr, Match, Names. -/
namespace Go.Proofs.YtlidimmfpfockaaGreatDoor
open Go.RowKit
def checkB (e : Ex) : Bool := shalB 64 e && formB e
/-- The names of the table. -/
def nmL : List ByteArray := [⟨#[109, 117, 108, 45, 97, 100, 100]⟩, ⟨#[109, 117, 108, 45, 115, 117, 98]⟩, ⟨#[110, 101, 103, 97, 116, 105, 111, 110]⟩, ⟨#[99, 111, 109, 112, 108, 101, 109, 101, 110, 116]⟩, ⟨#[115, 105, 103, 110, 45, 101, 120, 116, 101, 110, 100]⟩, ⟨#[122, 101, 114, 111, 45, 101, 120, 116, 101, 110, 100]⟩, ⟨#[110, 111, 116, 45, 122, 101, 114, 111]⟩, ⟨#[114, 101, 109, 97, 105, 110, 100, 101, 114]⟩, ⟨#[115, 105, 103, 110]⟩, ⟨#[109, 117, 108, 45, 115, 104, 105, 102, 116]⟩, ⟨#[97, 98, 115, 111, 108, 117, 116, 101]⟩, ⟨#[109, 105, 110, 105, 109, 117, 109]⟩, ⟨#[109, 97, 120, 105, 109, 117, 109]⟩]
def nm (i : Nat) : ByteArray := nmL.getD i ⟨#[]⟩
end Go.Proofs.YtlidimmfpfockaaGreatDoor

/- Contracts: the chapter's example; the laws IdiomNames, IdiomFixed. -/
namespace Go.Proofs.YtlidimmfpfockaaGreatDoor
open Go.RowKit
abbrev e1 : Ex := eTwo 3 (eTwo 9 (eVar 1) (eCon 2)) (eVar 1)
abbrev e2 : Ex := eTwo 11 (eTwo 9 (eVar 1) (eCon 24)) (eCon 24)
abbrev e3 : Ex := eTwo 4 (eVar 1) (eTwo 9 (eTwo 10 (eVar 1) (eCon 3)) (eCon 3))
abbrev e4 : Ex := eTwo 10 (eTwo 7 (eVar 1) (eOne 17 (eVar 1))) (eCon 31)
end Go.Proofs.YtlidimmfpfockaaGreatDoor

/- Contracts: the reference's idioms. -/
namespace Go.Proofs.YtlidimmfpfockaaGreatDoor
open Go.RowKit
/-- A name and an expression. -/
abbrev nA (s : ByteArray) (x : Ex) : AV := .tup [aS s, exA x]
def nxS (l : List (Nat × Option Ex)) (e : Ex) : AV := match l with
  | [] => nA ⟨#[]⟩ e
  | (i, some x) :: _ => nA (nm i) x
  | (_, none) :: l => nxS l e
@[simp] theorem nxS_nil (e : Ex) : nxS [] e = nA ⟨#[]⟩ e := rfl
@[simp] theorem nxS_some (i : Nat) (x e : Ex) (l : List (Nat × Option Ex)) : nxS ((i, some x) :: l) e = nA (nm i) x := rfl
@[simp] theorem nxS_none (i : Nat) (e : Ex) (l : List (Nat × Option Ex)) : nxS ((i, none) :: l) e = nxS l e := rfl
end Go.Proofs.YtlidimmfpfockaaGreatDoor

/- Contracts: the reference's idioms, continued. -/
namespace Go.Proofs.YtlidimmfpfockaaGreatDoor
open Go.RowKit
end Go.Proofs.YtlidimmfpfockaaGreatDoor

/- Contracts: the reference's shifts and selections. -/
namespace Go.Proofs.YtlidimmfpfockaaGreatDoor
open Go.RowKit
end Go.Proofs.YtlidimmfpfockaaGreatDoor

/- The reference's first match is the program's: plain. No program in sight. -/
namespace Go.Proofs.YtlidimmfpfockaaGreatDoor
open Go.RowKit
end Go.Proofs.YtlidimmfpfockaaGreatDoor

/- Contracts: the reference's selection, match, rewritten, Expr, Match. -/
namespace Go.Proofs.YtlidimmfpfockaaGreatDoor
open Go.RowKit
end Go.Proofs.YtlidimmfpfockaaGreatDoor

/- Contracts: the laws IdiomNames and IdiomFixed answer true. -/
namespace Go.Proofs.YtlidimmfpfockaaGreatDoor
open Go.RowKit
theorem rcheck28_af (e : Ex) : AF Tryz.prog 30 [exA e] (aI .i64 (if checkB e = true then 0 else if shalB 64 e = true then 2 else 20)) := by
  have h := rcheck_af e
  unfold checkB
  cases h1 : shalB 64 e <;> cases h2 : formB e <;> simpa [h1, h2] using h
end Go.Proofs.YtlidimmfpfockaaGreatDoor
