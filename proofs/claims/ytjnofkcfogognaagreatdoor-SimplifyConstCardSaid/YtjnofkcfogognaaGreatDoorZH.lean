/- Texts that the claim leans on, laid one behind the other: Hb, Hc, Hd, He, Hf, Hg. -/
import Derived.Test.YtjnofkcfogognaaGreatDoorZG
import Derived.Test.YtjnofkcfogognaaGreatDoorAn
import Derived.Test.YtjnofkcfogognaaGreatDoorZD
set_option linter.unusedSimpArgs false
set_option linter.unusedVariables false
set_option linter.unnecessarySimpa false
/- Contracts: idiom's small functions: is, orders, by, shifts, multiple, product, high, extended. -/
namespace Go.Proofs.YtjnofkcfogognaaGreatDoor
open Go.RowKit
@[simp] theorem NLeE_dx (a : Ex) : NLeE [.v (.int .i64 a.op), .v (.int .u32 a.n), .v (.int .i64 a.v), .v (.int .i64 a.wd), .sl 5 (Ex.ds a.l)] a.d ↔ True := by
  rw [Ex.d_eq]
  simp
/-- The empty expression. -/
abbrev eNil : Ex := .mk 0 0 0 0 []
/-- An expression and whether there is one. -/
abbrev oA (e : Ex) (r : Option Ex) : AV := .tup [exA (r.getD e), aB r.isSome]
/-- What orders returns, as data. -/
def ordD (l : List (Ex × Ex)) : List (List D) := l.map fun p => Ex.d p.1 ++ Ex.d p.2
/-- The rows of orders. -/
theorem ord_cases (e : Ex) (op : Int) : ordS e op = [] ∨ (∃ a b, ordS e op = [(a, b)]) ∨ ∃ a b, ordS e op = [(a, b), (b, a)] := by
  unfold ordS
  split
  · split
    · exact .inr (.inr ⟨_, _, rfl⟩)
    · exact .inr (.inl ⟨_, _, rfl⟩)
  · exact .inl rfl
end Go.Proofs.YtjnofkcfogognaaGreatDoor

/- Contracts: idiom's matchers. -/
namespace Go.Proofs.YtjnofkcfogognaaGreatDoor
open Go.RowKit
theorem form_two' {e : Ex} {op : Int} (h : formB e = true) (ho : e.op = op) (h3 : 3 ≤ op) (h15 : op ≤ 15) : ∃ a b, e = eTwo op a b ∧ formB a = true ∧ formB b = true := by
  subst ho
  exact form_two h h3 h15
theorem form_one' {e : Ex} (h : formB e = true) (ho : e.op = 17) : ∃ a, e = eOne 17 a ∧ formB a = true := by
  obtain ⟨a, he, ha⟩ := form_one h (.inr ho)
  rw [ho] at he
  exact ⟨a, he, ha⟩
abbrev shA (r : Option (Ex × Int)) : AV := .tup [exA ((r.map (·.1)).getD eNil), aI .u32 ((r.map (·.2)).getD 0), aB r.isSome]
theorem pw24 : pw 24 = 16777216 := by decide +kernel
theorem pw16 : pw 16 = 65536 := by decide +kernel
theorem ord_two (op : Int) (a b : Ex) : ordS (eTwo op a b) op = (a, b) :: (if comB op = true then [(b, a)] else []) := by simp [ordS]
theorem ord_not {e : Ex} {op : Int} (h : ¬ e.op = op) : ordS e op = [] := by simp [ordS, h]
end Go.Proofs.YtjnofkcfogognaaGreatDoor

/- Contracts: slices.ContainsFunc at pairs of expressions; idiom's matchers, continued. -/
namespace Go.Proofs.YtjnofkcfogognaaGreatDoor
open Go.RowKit
/-- A pair of expressions, by value. -/
@[simp] def rowA (p : Ex × Ex) : AV := .agg [aI .i64 p.1.op, aI .u32 p.1.n, aI .i64 p.1.v, aI .i64 p.1.wd, .d (.sl 5 (Ex.ds p.1.l)), aI .i64 p.2.op, aI .u32 p.2.n, aI .i64 p.2.v, aI .i64 p.2.wd, .d (.sl 5 (Ex.ds p.2.l))]
@[simp] theorem ordD_len (l : List (Ex × Ex)) : (ordD l).length = l.length := by simp [ordD]
@[simp] theorem ordD_get (l : List (Ex × Ex)) (i : Nat) : (ordD l)[i]? = (l[i]?).map fun p => Ex.d p.1 ++ Ex.d p.2 := by simp [ordD]
@[simp] theorem ordD_at (l : List (Ex × Ex)) (i : Nat) (h : i < (ordD l).length) : (ordD l)[i] = Ex.d (l[i]'(by simpa using h)).1 ++ Ex.d (l[i]'(by simpa using h)).2 := by simp [ordD]
end Go.Proofs.YtjnofkcfogognaaGreatDoor

/- Contracts: idiom's matchers of absolute values, minima and maxima. -/
namespace Go.Proofs.YtjnofkcfogognaaGreatDoor
open Go.RowKit
/-- A box of an expression. -/
abbrev exB (e : Ex) : Blk := ⟨0, true, 38, 5, [[aI .i64 e.op, aI .u32 e.n, aI .i64 e.v, aI .i64 e.wd, .d (.sl 5 (Ex.ds e.l))]]⟩
end Go.Proofs.YtjnofkcfogognaaGreatDoor

/- Contracts: idiom's apply, rewritten, own, Expr. -/
namespace Go.Proofs.YtjnofkcfogognaaGreatDoor
open Go.RowKit
/-- The box of the zero expression. -/
abbrev nilB : Blk := ⟨0, true, 38, 5, [[aI .i64 0, aI .u32 0, aI .i64 0, aI .i64 0, .d (.v (.slice none 0 0))]]⟩
/-- The expression's box, its operands written no more: data. -/
theorem sub_box (o n v w : Int) (M : List Ex) (e : AEnv) :
    Sub 0 e [⟨0, true, 38, 5, [[aI .i64 o, aI .u32 n, aI .i64 v, aI .i64 w, .own 2 1 0 M.length]]⟩, nilB, ⟨1, true, 38, 5, dEls (Ex.ds M)⟩] (fun i => cln 2 (e i)) [exB (.mk o n v w M), nilB] := by
  have g1 := Sub.frz (n := 0) [2] (e := e) (A := [⟨0, true, 38, 5, [[aI .i64 o, aI .u32 n, aI .i64 v, aI .i64 w, .own 2 1 0 M.length]]⟩, nilB, ⟨1, true, 38, 5, dEls (Ex.ds M)⟩])
  have hv : reiV true [⟨0, true, 38, 5, [[aI .i64 o, aI .u32 n, aI .i64 v, aI .i64 w, .own 2 1 0 M.length]]⟩, nilB, ⟨1, false, 38, 5, dEls (Ex.ds M)⟩] 9 (.own 2 1 0 M.length) = some (.d (.sl 5 (Ex.ds M))) := by simp
  have g2 := Sub.cell (n := 0) (e := e) (A := [⟨0, true, 38, 5, [[aI .i64 o, aI .u32 n, aI .i64 v, aI .i64 w, .own 2 1 0 M.length]]⟩, nilB, ⟨1, false, 38, 5, dEls (Ex.ds M)⟩]) (b := 0) (i := 0) (o := 4) rfl rfl rfl (VLe.rei hv)
  have g3 := Sub.take (n := 0) 2 (by omega) (e := e) (A := [exB (.mk o n v w M), nilB, ⟨1, false, 38, 5, dEls (Ex.ds M)⟩])
  simp at g3
  exact (g1.trans g2).trans g3
theorem first_step (e : Ex) (i n : Nat) : firstS e i (n + 1) = match applyS i e with
    | some x => some (i, x)
    | none => firstS e (i + 1) n := rfl
end Go.Proofs.YtjnofkcfogognaaGreatDoor

/- Contracts: idiom's Expr, Match, Names. -/
namespace Go.Proofs.YtjnofkcfogognaaGreatDoor
open Go.RowKit
def checkB (e : Ex) : Bool := shalB 64 e && formB e
/-- What idiom.Expr answers. -/
def exprS (e : Ex) : Ex × Bool := if checkB e = true then rwF e.wt e else (e, false)
theorem check28_af (e : Ex) : AF Tryz.prog 62 [exA e] (aI .i64 (if checkB e = true then 0 else if shalB 64 e = true then 2 else 20)) := by
  have h := check_af e
  unfold checkB
  cases h1 : shalB 64 e <;> cases h2 : formB e <;> simpa [h1, h2] using h
/-- The names of the table. -/
def nmL : List ByteArray := [⟨#[109, 117, 108, 45, 97, 100, 100]⟩, ⟨#[109, 117, 108, 45, 115, 117, 98]⟩, ⟨#[110, 101, 103, 97, 116, 105, 111, 110]⟩, ⟨#[99, 111, 109, 112, 108, 101, 109, 101, 110, 116]⟩, ⟨#[115, 105, 103, 110, 45, 101, 120, 116, 101, 110, 100]⟩, ⟨#[122, 101, 114, 111, 45, 101, 120, 116, 101, 110, 100]⟩, ⟨#[110, 111, 116, 45, 122, 101, 114, 111]⟩, ⟨#[114, 101, 109, 97, 105, 110, 100, 101, 114]⟩, ⟨#[115, 105, 103, 110]⟩, ⟨#[109, 117, 108, 45, 115, 104, 105, 102, 116]⟩, ⟨#[97, 98, 115, 111, 108, 117, 116, 101]⟩, ⟨#[109, 105, 110, 105, 109, 117, 109]⟩, ⟨#[109, 97, 120, 105, 109, 117, 109]⟩]
def nm (i : Nat) : ByteArray := nmL.getD i ⟨#[]⟩
def namesB : ByteArray := ⟨#[109, 117, 108, 45, 97, 100, 100, 32, 109, 117, 108, 45, 115, 117, 98, 32, 110, 101, 103, 97, 116, 105, 111, 110, 32, 99, 111, 109, 112, 108, 101, 109, 101, 110, 116, 32, 115, 105, 103, 110, 45, 101, 120, 116, 101, 110, 100, 32, 122, 101, 114, 111, 45, 101, 120, 116, 101, 110, 100, 32, 110, 111, 116, 45, 122, 101, 114, 111, 32, 114, 101, 109, 97, 105, 110, 100, 101, 114, 32, 115, 105, 103, 110, 32, 109, 117, 108, 45, 115, 104, 105, 102, 116, 32, 97, 98, 115, 111, 108, 117, 116, 101, 32, 109, 105, 110, 105, 109, 117, 109, 32, 109, 97, 120, 105, 109, 117, 109]⟩
/-- What idiom.Match answers. -/
def matchA (e : Ex) : AV := match (if checkB e = true then firstS e 0 13 else none) with
  | some (i, _) => .tup [aS (nm i), aB true]
  | none => .tup [aS ⟨#[]⟩, aB false]
end Go.Proofs.YtjnofkcfogognaaGreatDoor
