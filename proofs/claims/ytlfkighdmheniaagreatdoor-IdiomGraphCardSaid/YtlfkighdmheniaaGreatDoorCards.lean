/-
  DERIVED. GIVEN WITH THE SEED: THE CARDS: each row of YtlfkighdmheniaaGreatDoorRows.lean that lists a variable, with what it lists TIED to the program's text (the seventh form; the later family's looks); each row that meets fmt, with fmt's text TOLD by the authors' own Lean function (tested against real Go, not proved from fmt's source: count such statements apart). THE CARD IS WHAT COUNTS. Prove the row's statement (the work); the ties are given (YtlfkighdmheniaaGreatDoorTie.lean); close each card by the builder's one call (the guide's Derived/Test/ToyasCard.lean, 'card_holds'). Laid BY PROGRAM, IN A SANDBOX (cutbox-door.mjs). By AI agents, Wed Nov 11 2026. No macro, syntax, notation, axiom, sorry.
-/
import Derived.Test.YtlfkighdmheniaaGreatDoorRows
import GoSem.ClaimSeven
namespace Go.Proofs.YtlfkighdmheniaaGreatDoor
namespace Rows

/-- THE TIED CARD OF 'decompilerlaw28.IdiomGraph'. -/
def idiomGraphCard : Claim7 := { stood := { row := idiomGraphRow, standIns := [], harness := (true, "3486533251a80b4b09f447042a3d9c0cfdb09a201d8e27129a0b1f0285dd1bd4"), looks := false }, kinds := [], alts := [], laidByText := true, laidKinds := [.listed, .data], laidTests := true, laidLooks := .later }
def IdiomGraphCardSaid : Prop := Claim7.holds Tryz.pinned (.plain (OpenSpec.ofChange idiomGraphSpec)) idiomGraphCard

/-- THE SECOND FORM's CARD OF 'decompilerlaw28.IdiomGraph'. -/
def idiomGraphUptoCard : Claim7 := { stood := { row := idiomGraphUptoRow, standIns := [], harness := (true, "3486533251a80b4b09f447042a3d9c0cfdb09a201d8e27129a0b1f0285dd1bd4"), looks := false }, kinds := [], alts := [], laidByText := true, laidKinds := [.listed, .data], laidTests := true, laidLooks := .later }
def IdiomGraphUptoCardSaid : Prop := Claim7.holds Tryz.pinned (.plain (OpenSpec.upto idiomGraphSpec)) idiomGraphUptoCard
end Rows
end Go.Proofs.YtlfkighdmheniaaGreatDoor
