/-
  DERIVED. GIVEN WITH THE SEED: THE CARDS: each row of YtfnbhkbfelllgaaGreatDoorRows.lean that lists a variable, with what it lists TIED to the program's text (the seventh form; the later family's looks); each row that meets fmt, with fmt's text TOLD by the authors' own Lean function (tested against real Go, not proved from fmt's source: count such statements apart). THE CARD IS WHAT COUNTS. Prove the row's statement (the work); the ties are given (YtfnbhkbfelllgaaGreatDoorTie.lean); close each card by the builder's one call (the guide's Derived/Test/ToyasCard.lean, 'card_holds'). Laid BY PROGRAM, IN A SANDBOX (cutbox-door.mjs). By AI agents, Wed Nov 11 2026. No macro, syntax, notation, axiom, sorry.
-/
import Derived.Test.YtfnbhkbfelllgaaGreatDoorRows
import GoSem.ClaimSeven
namespace Go.Proofs.YtfnbhkbfelllgaaGreatDoor
namespace Rows

/-- THE TIED CARD OF 'decompilerlaw46.EmitFunc'. -/
def emitFuncCard : Claim7 := { stood := { row := emitFuncRow, standIns := [], harness := (true, "7914e4b727160f35aa80cd08e197e91389401606cae62c878c43b21acb211b4d"), looks := false }, kinds := [], alts := [], laidByText := true, laidKinds := [.data, .data, .data, .listed, .data], laidTests := true, laidLooks := .later }
def EmitFuncCardSaid : Prop := Claim7.holds Tryz.pinned (.plain (OpenSpec.ofChange emitFuncSpec)) emitFuncCard

/-- THE TIED CARD OF 'decompilerlaw46.EmitUnnamed'. -/
def emitUnnamedCard : Claim7 := { stood := { row := emitUnnamedRow, standIns := [], harness := (true, "7914e4b727160f35aa80cd08e197e91389401606cae62c878c43b21acb211b4d"), looks := false }, kinds := [], alts := [], laidByText := true, laidKinds := [.data, .data, .data, .listed, .data], laidTests := true, laidLooks := .later }
def EmitUnnamedCardSaid : Prop := Claim7.holds Tryz.pinned (.plain (OpenSpec.ofChange emitUnnamedSpec)) emitUnnamedCard

/-- THE TIED CARD OF 'decompilerlaw46.EmitOnce'. -/
def emitOnceCard : Claim7 := { stood := { row := emitOnceRow, standIns := [], harness := (true, "7914e4b727160f35aa80cd08e197e91389401606cae62c878c43b21acb211b4d"), looks := false }, kinds := [], alts := [], laidByText := true, laidKinds := [.data, .data, .data, .listed, .data], laidTests := true, laidLooks := .later }
def EmitOnceCardSaid : Prop := Claim7.holds Tryz.pinned (.plain (OpenSpec.ofChange emitOnceSpec)) emitOnceCard

/-- THE SECOND FORM's CARD OF 'decompilerlaw46.EmitFunc'. -/
def emitFuncUptoCard : Claim7 := { stood := { row := emitFuncUptoRow, standIns := [], harness := (true, "7914e4b727160f35aa80cd08e197e91389401606cae62c878c43b21acb211b4d"), looks := false }, kinds := [], alts := [], laidByText := true, laidKinds := [.data, .data, .data, .listed, .data], laidTests := true, laidLooks := .later }
def EmitFuncUptoCardSaid : Prop := Claim7.holds Tryz.pinned (.plain (OpenSpec.upto emitFuncSpec)) emitFuncUptoCard

/-- THE SECOND FORM's CARD OF 'decompilerlaw46.EmitUnnamed'. -/
def emitUnnamedUptoCard : Claim7 := { stood := { row := emitUnnamedUptoRow, standIns := [], harness := (true, "7914e4b727160f35aa80cd08e197e91389401606cae62c878c43b21acb211b4d"), looks := false }, kinds := [], alts := [], laidByText := true, laidKinds := [.data, .data, .data, .listed, .data], laidTests := true, laidLooks := .later }
def EmitUnnamedUptoCardSaid : Prop := Claim7.holds Tryz.pinned (.plain (OpenSpec.upto emitUnnamedSpec)) emitUnnamedUptoCard

/-- THE SECOND FORM's CARD OF 'decompilerlaw46.EmitOnce'. -/
def emitOnceUptoCard : Claim7 := { stood := { row := emitOnceUptoRow, standIns := [], harness := (true, "7914e4b727160f35aa80cd08e197e91389401606cae62c878c43b21acb211b4d"), looks := false }, kinds := [], alts := [], laidByText := true, laidKinds := [.data, .data, .data, .listed, .data], laidTests := true, laidLooks := .later }
def EmitOnceUptoCardSaid : Prop := Claim7.holds Tryz.pinned (.plain (OpenSpec.upto emitOnceSpec)) emitOnceUptoCard
end Rows
end Go.Proofs.YtfnbhkbfelllgaaGreatDoor
