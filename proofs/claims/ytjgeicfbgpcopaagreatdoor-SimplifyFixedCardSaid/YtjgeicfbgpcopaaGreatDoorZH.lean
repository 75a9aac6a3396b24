/- Texts that the claim leans on, laid one behind the other: Hb, Hc. -/
import Derived.Test.YtjgeicfbgpcopaaGreatDoorZG
import Derived.Test.YtjgeicfbgpcopaaGreatDoorAn
set_option linter.unusedSimpArgs false
set_option linter.unusedVariables false
set_option linter.unnecessarySimpa false
/- Contracts: idiom's small functions: is, orders, by, shifts, multiple, product, high, extended. -/
namespace Go.Proofs.YtjgeicfbgpcopaaGreatDoor
open Go.RowKit
@[simp] theorem NLeE_dx (a : Ex) : NLeE [.v (.int .i64 a.op), .v (.int .u32 a.n), .v (.int .i64 a.v), .v (.int .i64 a.wd), .sl 5 (Ex.ds a.l)] a.d ↔ True := by
  rw [Ex.d_eq]
  simp
/-- The empty expression. -/
abbrev eNil : Ex := .mk 0 0 0 0 []
/-- An expression and whether there is one. -/
abbrev oA (e : Ex) (r : Option Ex) : AV := .tup [exA (r.getD e), aB r.isSome]
/-- What orders returns, as data. -/
def ordD (l : List (Ex × Ex)) : List (List D) := l.map fun p => Ex.d p.1 ++ Ex.d p.2
/-- The rows of orders. -/
theorem ord_cases (e : Ex) (op : Int) : ordS e op = [] ∨ (∃ a b, ordS e op = [(a, b)]) ∨ ∃ a b, ordS e op = [(a, b), (b, a)] := by
  unfold ordS
  split
  · split
    · exact .inr (.inr ⟨_, _, rfl⟩)
    · exact .inr (.inl ⟨_, _, rfl⟩)
  · exact .inl rfl
end Go.Proofs.YtjgeicfbgpcopaaGreatDoor

/- Contracts: idiom's matchers. -/
namespace Go.Proofs.YtjgeicfbgpcopaaGreatDoor
open Go.RowKit
theorem form_two' {e : Ex} {op : Int} (h : formB e = true) (ho : e.op = op) (h3 : 3 ≤ op) (h15 : op ≤ 15) : ∃ a b, e = eTwo op a b ∧ formB a = true ∧ formB b = true := by
  subst ho
  exact form_two h h3 h15
theorem form_one' {e : Ex} (h : formB e = true) (ho : e.op = 17) : ∃ a, e = eOne 17 a ∧ formB a = true := by
  obtain ⟨a, he, ha⟩ := form_one h (.inr ho)
  rw [ho] at he
  exact ⟨a, he, ha⟩
abbrev shA (r : Option (Ex × Int)) : AV := .tup [exA ((r.map (·.1)).getD eNil), aI .u32 ((r.map (·.2)).getD 0), aB r.isSome]
theorem pw24 : pw 24 = 16777216 := by decide +kernel
theorem pw16 : pw 16 = 65536 := by decide +kernel
theorem ord_two (op : Int) (a b : Ex) : ordS (eTwo op a b) op = (a, b) :: (if comB op = true then [(b, a)] else []) := by simp [ordS]
theorem ord_not {e : Ex} {op : Int} (h : ¬ e.op = op) : ordS e op = [] := by simp [ordS, h]
end Go.Proofs.YtjgeicfbgpcopaaGreatDoor
