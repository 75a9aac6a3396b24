/-
  DERIVED. GIVEN WITH THE SEED: THE CARDS: each row of YtjgeicfbgpcopaaDoorRows.lean that lists a variable, with what it lists TIED to the program's text (the seventh form; the later family's looks); each row that meets fmt, with fmt's text TOLD by the authors' own Lean function (tested against real Go, not proved from fmt's source: count such statements apart). THE CARD IS WHAT COUNTS. Prove the row's statement (the work); the ties are given (YtjgeicfbgpcopaaDoorTie.lean); close each card by the builder's one call (the guide's Derived/Test/ToyasCard.lean, 'card_holds'). Laid BY PROGRAM, IN A SANDBOX (cutbox-door.mjs). By AI agents, Wed Nov 11 2026. No macro, syntax, notation, axiom, sorry.
-/
import Derived.Test.YtjgeicfbgpcopaaDoorRows
import GoSem.ClaimSeven
namespace Go.Proofs.YtjgeicfbgpcopaaDoor
namespace Rows

/-- THE TIED CARD OF 'decompilerlaw23.FlagfuseShape'. -/
def flagfuseShapeCard : Claim7 := { stood := { row := flagfuseShapeRow, standIns := [], harness := (true, "208d03b995899031ec5b3200675c594d49aa0f045f4f2af00678efd9d03553c2"), looks := false }, kinds := [], alts := [], laidByText := true, laidKinds := [.data, .data, .data], laidTests := true, laidLooks := .later }
def FlagfuseShapeCardSaid : Prop := Claim7.holds Tryd.pinned (.plain (OpenSpec.ofChange flagfuseShapeSpec)) flagfuseShapeCard

/-- THE SECOND FORM's CARD OF 'decompilerlaw23.FlagfuseShape'. -/
def flagfuseShapeUptoCard : Claim7 := { stood := { row := flagfuseShapeUptoRow, standIns := [], harness := (true, "208d03b995899031ec5b3200675c594d49aa0f045f4f2af00678efd9d03553c2"), looks := false }, kinds := [], alts := [], laidByText := true, laidKinds := [.data, .data, .data], laidTests := true, laidLooks := .later }
def FlagfuseShapeUptoCardSaid : Prop := Claim7.holds Tryd.pinned (.plain (OpenSpec.upto flagfuseShapeSpec)) flagfuseShapeUptoCard
end Rows
end Go.Proofs.YtjgeicfbgpcopaaDoor
