/-
  DERIVED. GIVEN WITH THE SEED: THE CARDS: each row of YtccjeoghjioamaaGreatDoorRows.lean that lists a variable, with what it lists TIED to the program's text (the seventh form; the later family's looks); each row that meets fmt, with fmt's text TOLD by the authors' own Lean function (tested against real Go, not proved from fmt's source: count such statements apart). THE CARD IS WHAT COUNTS. Prove the row's statement (the work); the ties are given (YtccjeoghjioamaaGreatDoorTie.lean); close each card by the builder's one call (the guide's Derived/Test/ToyasCard.lean, 'card_holds'). Laid BY PROGRAM, IN A SANDBOX (cutbox-door.mjs). By AI agents, Wed Nov 11 2026. No macro, syntax, notation, axiom, sorry.
-/
import Derived.Test.YtccjeoghjioamaaGreatDoorRows
import GoSem.ClaimSeven
namespace Go.Proofs.YtccjeoghjioamaaGreatDoor
namespace Rows

/-- THE TIED CARD OF 'decompilerlaw46.EmitExpr'. -/
def emitExprCard : Claim7 := { stood := { row := emitExprRow, standIns := [], harness := (true, "156c94a13d5a40c192870391ec0d0424ea84efd7df86c345886710cb2a4f860c"), looks := false }, kinds := [], alts := [], laidByText := true, laidKinds := [.data, .data, .data, .listed, .data], laidTests := true, laidLooks := .later }
def EmitExprCardSaid : Prop := Claim7.holds Tryz.pinned (.plain (OpenSpec.ofChange emitExprSpec)) emitExprCard

/-- THE TIED CARD OF 'decompilerlaw46.EmitNames'. -/
def emitNamesCard : Claim7 := { stood := { row := emitNamesRow, standIns := [], harness := (true, "156c94a13d5a40c192870391ec0d0424ea84efd7df86c345886710cb2a4f860c"), looks := false }, kinds := [], alts := [], laidByText := true, laidKinds := [.data, .data, .data, .listed, .data], laidTests := true, laidLooks := .later }
def EmitNamesCardSaid : Prop := Claim7.holds Tryz.pinned (.plain (OpenSpec.ofChange emitNamesSpec)) emitNamesCard

/-- THE TIED CARD OF 'decompilerlaw46.EmitFunc'. -/
def emitFuncCard : Claim7 := { stood := { row := emitFuncRow, standIns := [], harness := (true, "156c94a13d5a40c192870391ec0d0424ea84efd7df86c345886710cb2a4f860c"), looks := false }, kinds := [], alts := [], laidByText := true, laidKinds := [.data, .data, .data, .listed, .data], laidTests := true, laidLooks := .later }
def EmitFuncCardSaid : Prop := Claim7.holds Tryz.pinned (.plain (OpenSpec.ofChange emitFuncSpec)) emitFuncCard

/-- THE SECOND FORM's CARD OF 'decompilerlaw46.EmitExpr'. -/
def emitExprUptoCard : Claim7 := { stood := { row := emitExprUptoRow, standIns := [], harness := (true, "156c94a13d5a40c192870391ec0d0424ea84efd7df86c345886710cb2a4f860c"), looks := false }, kinds := [], alts := [], laidByText := true, laidKinds := [.data, .data, .data, .listed, .data], laidTests := true, laidLooks := .later }
def EmitExprUptoCardSaid : Prop := Claim7.holds Tryz.pinned (.plain (OpenSpec.upto emitExprSpec)) emitExprUptoCard

/-- THE SECOND FORM's CARD OF 'decompilerlaw46.EmitNames'. -/
def emitNamesUptoCard : Claim7 := { stood := { row := emitNamesUptoRow, standIns := [], harness := (true, "156c94a13d5a40c192870391ec0d0424ea84efd7df86c345886710cb2a4f860c"), looks := false }, kinds := [], alts := [], laidByText := true, laidKinds := [.data, .data, .data, .listed, .data], laidTests := true, laidLooks := .later }
def EmitNamesUptoCardSaid : Prop := Claim7.holds Tryz.pinned (.plain (OpenSpec.upto emitNamesSpec)) emitNamesUptoCard

/-- THE SECOND FORM's CARD OF 'decompilerlaw46.EmitFunc'. -/
def emitFuncUptoCard : Claim7 := { stood := { row := emitFuncUptoRow, standIns := [], harness := (true, "156c94a13d5a40c192870391ec0d0424ea84efd7df86c345886710cb2a4f860c"), looks := false }, kinds := [], alts := [], laidByText := true, laidKinds := [.data, .data, .data, .listed, .data], laidTests := true, laidLooks := .later }
def EmitFuncUptoCardSaid : Prop := Claim7.holds Tryz.pinned (.plain (OpenSpec.upto emitFuncSpec)) emitFuncUptoCard
end Rows
end Go.Proofs.YtccjeoghjioamaaGreatDoor
