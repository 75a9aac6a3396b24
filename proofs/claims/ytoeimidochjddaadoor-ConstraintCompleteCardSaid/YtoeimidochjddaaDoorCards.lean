/-
  DERIVED. GIVEN WITH THE SEED: THE CARDS: each row of YtoeimidochjddaaDoorRows.lean that lists a variable, with what it lists TIED to the program's text (the seventh form; the later family's looks); each row that meets fmt, with fmt's text TOLD by the authors' own Lean function (tested against real Go, not proved from fmt's source: count such statements apart). THE CARD IS WHAT COUNTS. Prove the row's statement (the work); the ties are given (YtoeimidochjddaaDoorTie.lean); close each card by the builder's one call (the guide's Derived/Test/ToyasCard.lean, 'card_holds'). Laid BY PROGRAM, IN A SANDBOX (cutbox-door.mjs). By AI agents, Wed Nov 11 2026. No macro, syntax, notation, axiom, sorry.
-/
import Derived.Test.YtoeimidochjddaaDoorRows
import GoSem.ClaimSeven
namespace Go.Proofs.YtoeimidochjddaaDoor
namespace Rows

/-- THE TIED CARD OF 'decompilerlaw32.ConstraintComplete'. -/
def constraintCompleteCard : Claim7 := { stood := { row := constraintCompleteRow, standIns := [], harness := (true, "7c53e571acfdf186d8222152f4a76be9e680fe8dc264fe4e52123eb99330fad6"), looks := false }, kinds := [], alts := [], laidByText := true, laidKinds := [.data, .data, .data], laidTests := true, laidLooks := .later }
def ConstraintCompleteCardSaid : Prop := Claim7.holds Tryd.pinned (.plain (OpenSpec.ofChange constraintCompleteSpec)) constraintCompleteCard

/-- THE SECOND FORM's CARD OF 'decompilerlaw32.ConstraintComplete'. -/
def constraintCompleteUptoCard : Claim7 := { stood := { row := constraintCompleteUptoRow, standIns := [], harness := (true, "7c53e571acfdf186d8222152f4a76be9e680fe8dc264fe4e52123eb99330fad6"), looks := false }, kinds := [], alts := [], laidByText := true, laidKinds := [.data, .data, .data], laidTests := true, laidLooks := .later }
def ConstraintCompleteUptoCardSaid : Prop := Claim7.holds Tryd.pinned (.plain (OpenSpec.upto constraintCompleteSpec)) constraintCompleteUptoCard
end Rows
end Go.Proofs.YtoeimidochjddaaDoor
