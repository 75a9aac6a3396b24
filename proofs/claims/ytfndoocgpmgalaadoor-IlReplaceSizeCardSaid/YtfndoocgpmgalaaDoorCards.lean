/-
  DERIVED. GIVEN WITH THE SEED: THE CARDS: each row of YtfndoocgpmgalaaDoorRows.lean that lists a variable, with what it lists TIED to the program's text (the seventh form; the later family's looks); each row that meets fmt, with fmt's text TOLD by the authors' own Lean function (tested against real Go, not proved from fmt's source: count such statements apart). THE CARD IS WHAT COUNTS. Prove the row's statement (the work); the ties are given (YtfndoocgpmgalaaDoorTie.lean); close each card by the builder's one call (the guide's Derived/Test/ToyasCard.lean, 'card_holds'). Laid BY PROGRAM, IN A SANDBOX (cutbox-door.mjs). By AI agents, Wed Nov 11 2026. No macro, syntax, notation, axiom, sorry.
-/
import Derived.Test.YtfndoocgpmgalaaDoorRows
import GoSem.ClaimSeven
namespace Go.Proofs.YtfndoocgpmgalaaDoor
namespace Rows

/-- THE TIED CARD OF 'decompilerlaw19.IlCheckExpr'. -/
def ilCheckExprCard : Claim7 := { stood := { row := ilCheckExprRow, standIns := [], harness := (true, "8c7598e2d21c58e6e8b5705da06141c13b9eb1eb8247b6738dc6c048606b9d37"), looks := false }, kinds := [], alts := [], laidByText := true, laidKinds := [.data, .data, .data], laidTests := true, laidLooks := .later }
def IlCheckExprCardSaid : Prop := Claim7.holds Tryd.pinned (.plain (OpenSpec.ofChange ilCheckExprSpec)) ilCheckExprCard

/-- THE TIED CARD OF 'decompilerlaw23.FlagfuseShape'. -/
def flagfuseShapeCard : Claim7 := { stood := { row := flagfuseShapeRow, standIns := [], harness := (true, "8c7598e2d21c58e6e8b5705da06141c13b9eb1eb8247b6738dc6c048606b9d37"), looks := false }, kinds := [], alts := [], laidByText := true, laidKinds := [.data, .data, .data], laidTests := true, laidLooks := .later }
def FlagfuseShapeCardSaid : Prop := Claim7.holds Tryd.pinned (.plain (OpenSpec.ofChange flagfuseShapeSpec)) flagfuseShapeCard

/-- THE TIED CARD OF 'decompilerlaw19.IlReplaceSize'. -/
def ilReplaceSizeCard : Claim7 := { stood := { row := ilReplaceSizeRow, standIns := [], harness := (true, "8c7598e2d21c58e6e8b5705da06141c13b9eb1eb8247b6738dc6c048606b9d37"), looks := false }, kinds := [], alts := [], laidByText := true, laidKinds := [.data, .data, .data], laidTests := true, laidLooks := .later }
def IlReplaceSizeCardSaid : Prop := Claim7.holds Tryd.pinned (.plain (OpenSpec.ofChange ilReplaceSizeSpec)) ilReplaceSizeCard

/-- THE SECOND FORM's CARD OF 'decompilerlaw19.IlCheckExpr'. -/
def ilCheckExprUptoCard : Claim7 := { stood := { row := ilCheckExprUptoRow, standIns := [], harness := (true, "8c7598e2d21c58e6e8b5705da06141c13b9eb1eb8247b6738dc6c048606b9d37"), looks := false }, kinds := [], alts := [], laidByText := true, laidKinds := [.data, .data, .data], laidTests := true, laidLooks := .later }
def IlCheckExprUptoCardSaid : Prop := Claim7.holds Tryd.pinned (.plain (OpenSpec.upto ilCheckExprSpec)) ilCheckExprUptoCard

/-- THE SECOND FORM's CARD OF 'decompilerlaw23.FlagfuseShape'. -/
def flagfuseShapeUptoCard : Claim7 := { stood := { row := flagfuseShapeUptoRow, standIns := [], harness := (true, "8c7598e2d21c58e6e8b5705da06141c13b9eb1eb8247b6738dc6c048606b9d37"), looks := false }, kinds := [], alts := [], laidByText := true, laidKinds := [.data, .data, .data], laidTests := true, laidLooks := .later }
def FlagfuseShapeUptoCardSaid : Prop := Claim7.holds Tryd.pinned (.plain (OpenSpec.upto flagfuseShapeSpec)) flagfuseShapeUptoCard

/-- THE SECOND FORM's CARD OF 'decompilerlaw19.IlReplaceSize'. -/
def ilReplaceSizeUptoCard : Claim7 := { stood := { row := ilReplaceSizeUptoRow, standIns := [], harness := (true, "8c7598e2d21c58e6e8b5705da06141c13b9eb1eb8247b6738dc6c048606b9d37"), looks := false }, kinds := [], alts := [], laidByText := true, laidKinds := [.data, .data, .data], laidTests := true, laidLooks := .later }
def IlReplaceSizeUptoCardSaid : Prop := Claim7.holds Tryd.pinned (.plain (OpenSpec.upto ilReplaceSizeSpec)) ilReplaceSizeUptoCard
end Rows
end Go.Proofs.YtfndoocgpmgalaaDoor
