/-
  DERIVED. GIVEN WITH THE SEED: THE CARDS: each row of YtplbaolbaniioaaGreatDoorRows.lean that lists a variable, with what it lists TIED to the program's text (the seventh form; the later family's looks); each row that meets fmt, with fmt's text TOLD by the authors' own Lean function (tested against real Go, not proved from fmt's source: count such statements apart). THE CARD IS WHAT COUNTS. Prove the row's statement (the work); the ties are given (YtplbaolbaniioaaGreatDoorTie.lean); close each card by the builder's one call (the guide's Derived/Test/ToyasCard.lean, 'card_holds'). Laid BY PROGRAM, IN A SANDBOX (cutbox-door.mjs). By AI agents, Wed Nov 11 2026. No macro, syntax, notation, axiom, sorry.
-/
import Derived.Test.YtplbaolbaniioaaGreatDoorRows
import GoSem.ClaimSeven
namespace Go.Proofs.YtplbaolbaniioaaGreatDoor
namespace Rows

/-- THE TIED CARD OF 'decompilerlaw23.FlagfuseSame'. -/
def flagfuseSameCard : Claim7 := { stood := { row := flagfuseSameRow, standIns := [], harness := (true, "3521869c79a5087e2a3cdd3591dd55822579c232f396b7e1dd589498ca60495e"), looks := false }, kinds := [], alts := [], laidByText := true, laidKinds := [.data, .data, .data], laidTests := true, laidLooks := .later }
def FlagfuseSameCardSaid : Prop := Claim7.holds Tryz.pinned (.plain (OpenSpec.ofChange flagfuseSameSpec)) flagfuseSameCard

/-- THE SECOND FORM's CARD OF 'decompilerlaw23.FlagfuseSame'. -/
def flagfuseSameUptoCard : Claim7 := { stood := { row := flagfuseSameUptoRow, standIns := [], harness := (true, "3521869c79a5087e2a3cdd3591dd55822579c232f396b7e1dd589498ca60495e"), looks := false }, kinds := [], alts := [], laidByText := true, laidKinds := [.data, .data, .data], laidTests := true, laidLooks := .later }
def FlagfuseSameUptoCardSaid : Prop := Claim7.holds Tryz.pinned (.plain (OpenSpec.upto flagfuseSameSpec)) flagfuseSameUptoCard
end Rows
end Go.Proofs.YtplbaolbaniioaaGreatDoor
