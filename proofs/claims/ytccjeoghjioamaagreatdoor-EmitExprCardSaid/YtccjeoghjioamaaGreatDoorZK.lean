/- Texts that the claim leans on, laid one behind the other: Ib, Ic. -/
import Derived.Test.YtccjeoghjioamaaGreatDoorZM
set_option linter.unusedSimpArgs false
set_option linter.unusedVariables false
set_option linter.unnecessarySimpa false
/- The values of expressions as plain numbers; what evaluates an idiom's replacement evaluates the idiom. No program in sight. -/
namespace Go.Proofs.YtccjeoghjioamaaGreatDoor
open Go.RowKit
def valR (V : List Int) (v : Int) : Int := if 0 ≤ v then V.getD v.toNat 0 else 0
/-- A number of 32 bits. -/
def R32 (x : Int) : Prop := 0 ≤ x ∧ x < 4294967296
inductive OkN : Ex → Prop where
  | mk {e : Ex} : R32 e.n → (∀ x ∈ e.l, OkN x) → OkN e
theorem OkN.n {e : Ex} (h : OkN e) : R32 e.n := by cases h; assumption
theorem OkN.l {e : Ex} (h : OkN e) : ∀ x ∈ e.l, OkN x := by cases h; assumption
end Go.Proofs.YtccjeoghjioamaaGreatDoor

/- What evaluates an idiom's replacement evaluates the idiom. No program in sight. -/
namespace Go.Proofs.YtccjeoghjioamaaGreatDoor
open Go.RowKit
section
variable (V : List Int) (L : Int → Int → Int × Int)
/-- Variables and loads yield numbers of 32 bits; a load's error comes with zero. -/
structure EvOk : Prop where
  hV : ∀ v, R32 (valR V v)
  hL : ∀ a w, R32 (L a w).1
  hZ : ∀ a w, (L a w).2 ≠ (0 : Int) → (L a w).1 = 0
end
end Go.Proofs.YtccjeoghjioamaaGreatDoor
