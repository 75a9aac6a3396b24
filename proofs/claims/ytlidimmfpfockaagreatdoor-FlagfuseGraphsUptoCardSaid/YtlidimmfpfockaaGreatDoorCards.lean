/-
  DERIVED. GIVEN WITH THE SEED: THE CARDS: each row of YtlidimmfpfockaaGreatDoorRows.lean that lists a variable, with what it lists TIED to the program's text (the seventh form; the later family's looks); each row that meets fmt, with fmt's text TOLD by the authors' own Lean function (tested against real Go, not proved from fmt's source: count such statements apart). THE CARD IS WHAT COUNTS. Prove the row's statement (the work); the ties are given (YtlidimmfpfockaaGreatDoorTie.lean); close each card by the builder's one call (the guide's Derived/Test/ToyasCard.lean, 'card_holds'). Laid BY PROGRAM, IN A SANDBOX (cutbox-door.mjs). By AI agents, Wed Nov 11 2026. No macro, syntax, notation, axiom, sorry.
-/
import Derived.Test.YtlidimmfpfockaaGreatDoorRows
import GoSem.ClaimSeven
namespace Go.Proofs.YtlidimmfpfockaaGreatDoor
namespace Rows

/-- THE TIED CARD OF 'decompilerlaw19.IlStmtText'. -/
def ilStmtTextCard : Claim7 := { stood := { row := ilStmtTextRow, standIns := [], harness := (true, "da978215627b643c0860adaa3d12f66e1ca1ffce34e36554977aa07521e98221"), looks := false }, kinds := [], alts := [], laidByText := true, laidKinds := [.data, .data, .data], laidTests := true, laidLooks := .later }
def IlStmtTextCardSaid : Prop := Claim7.holds Tryz.pinned (.plain (OpenSpec.ofChange ilStmtTextSpec)) ilStmtTextCard

/-- THE TIED CARD OF 'decompilerlaw19.IlText'. -/
def ilTextCard : Claim7 := { stood := { row := ilTextRow, standIns := [], harness := (true, "da978215627b643c0860adaa3d12f66e1ca1ffce34e36554977aa07521e98221"), looks := false }, kinds := [], alts := [], laidByText := true, laidKinds := [.data, .data, .data], laidTests := true, laidLooks := .later }
def IlTextCardSaid : Prop := Claim7.holds Tryz.pinned (.plain (OpenSpec.ofChange ilTextSpec)) ilTextCard

/-- THE TIED CARD OF 'decompilerlaw22.SimplifyExact'. -/
def simplifyExactCard : Claim7 := { stood := { row := simplifyExactRow, standIns := [], harness := (true, "da978215627b643c0860adaa3d12f66e1ca1ffce34e36554977aa07521e98221"), looks := false }, kinds := [], alts := [], laidByText := true, laidKinds := [.data, .data, .data], laidTests := true, laidLooks := .later }
def SimplifyExactCardSaid : Prop := Claim7.holds Tryz.pinned (.plain (OpenSpec.ofChange simplifyExactSpec)) simplifyExactCard

/-- THE TIED CARD OF 'decompilerlaw22.SimplifyStmt'. -/
def simplifyStmtCard : Claim7 := { stood := { row := simplifyStmtRow, standIns := [], harness := (true, "da978215627b643c0860adaa3d12f66e1ca1ffce34e36554977aa07521e98221"), looks := false }, kinds := [], alts := [], laidByText := true, laidKinds := [.data, .data, .data], laidTests := true, laidLooks := .later }
def SimplifyStmtCardSaid : Prop := Claim7.holds Tryz.pinned (.plain (OpenSpec.ofChange simplifyStmtSpec)) simplifyStmtCard

/-- THE TIED CARD OF 'decompilerlaw22.SimplifyBranch'. -/
def simplifyBranchCard : Claim7 := { stood := { row := simplifyBranchRow, standIns := [], harness := (true, "da978215627b643c0860adaa3d12f66e1ca1ffce34e36554977aa07521e98221"), looks := false }, kinds := [], alts := [], laidByText := true, laidKinds := [.data, .data, .data], laidTests := true, laidLooks := .later }
def SimplifyBranchCardSaid : Prop := Claim7.holds Tryz.pinned (.plain (OpenSpec.ofChange simplifyBranchSpec)) simplifyBranchCard

/-- THE TIED CARD OF 'decompilerlaw23.FlagfuseBlocks'. -/
def flagfuseBlocksCard : Claim7 := { stood := { row := flagfuseBlocksRow, standIns := [], harness := (true, "da978215627b643c0860adaa3d12f66e1ca1ffce34e36554977aa07521e98221"), looks := false }, kinds := [], alts := [], laidByText := true, laidKinds := [.data, .data, .data], laidTests := true, laidLooks := .later }
def FlagfuseBlocksCardSaid : Prop := Claim7.holds Tryz.pinned (.plain (OpenSpec.ofChange flagfuseBlocksSpec)) flagfuseBlocksCard

/-- THE TIED CARD OF 'decompilerlaw22.SimplifyGraph'. -/
def simplifyGraphCard : Claim7 := { stood := { row := simplifyGraphRow, standIns := [], harness := (true, "da978215627b643c0860adaa3d12f66e1ca1ffce34e36554977aa07521e98221"), looks := false }, kinds := [], alts := [], laidByText := true, laidKinds := [.data, .data, .data], laidTests := true, laidLooks := .later }
def SimplifyGraphCardSaid : Prop := Claim7.holds Tryz.pinned (.plain (OpenSpec.ofChange simplifyGraphSpec)) simplifyGraphCard

/-- THE TIED CARD OF 'decompilerlaw23.FlagfuseGraphs'. -/
def flagfuseGraphsCard : Claim7 := { stood := { row := flagfuseGraphsRow, standIns := [], harness := (true, "da978215627b643c0860adaa3d12f66e1ca1ffce34e36554977aa07521e98221"), looks := false }, kinds := [], alts := [], laidByText := true, laidKinds := [.data, .data, .data], laidTests := true, laidLooks := .later }
def FlagfuseGraphsCardSaid : Prop := Claim7.holds Tryz.pinned (.plain (OpenSpec.ofChange flagfuseGraphsSpec)) flagfuseGraphsCard

/-- THE SECOND FORM's CARD OF 'decompilerlaw19.IlStmtText'. -/
def ilStmtTextUptoCard : Claim7 := { stood := { row := ilStmtTextUptoRow, standIns := [], harness := (true, "da978215627b643c0860adaa3d12f66e1ca1ffce34e36554977aa07521e98221"), looks := false }, kinds := [], alts := [], laidByText := true, laidKinds := [.data, .data, .data], laidTests := true, laidLooks := .later }
def IlStmtTextUptoCardSaid : Prop := Claim7.holds Tryz.pinned (.plain (OpenSpec.upto ilStmtTextSpec)) ilStmtTextUptoCard

/-- THE SECOND FORM's CARD OF 'decompilerlaw19.IlText'. -/
def ilTextUptoCard : Claim7 := { stood := { row := ilTextUptoRow, standIns := [], harness := (true, "da978215627b643c0860adaa3d12f66e1ca1ffce34e36554977aa07521e98221"), looks := false }, kinds := [], alts := [], laidByText := true, laidKinds := [.data, .data, .data], laidTests := true, laidLooks := .later }
def IlTextUptoCardSaid : Prop := Claim7.holds Tryz.pinned (.plain (OpenSpec.upto ilTextSpec)) ilTextUptoCard

/-- THE SECOND FORM's CARD OF 'decompilerlaw22.SimplifyExact'. -/
def simplifyExactUptoCard : Claim7 := { stood := { row := simplifyExactUptoRow, standIns := [], harness := (true, "da978215627b643c0860adaa3d12f66e1ca1ffce34e36554977aa07521e98221"), looks := false }, kinds := [], alts := [], laidByText := true, laidKinds := [.data, .data, .data], laidTests := true, laidLooks := .later }
def SimplifyExactUptoCardSaid : Prop := Claim7.holds Tryz.pinned (.plain (OpenSpec.upto simplifyExactSpec)) simplifyExactUptoCard

/-- THE SECOND FORM's CARD OF 'decompilerlaw22.SimplifyStmt'. -/
def simplifyStmtUptoCard : Claim7 := { stood := { row := simplifyStmtUptoRow, standIns := [], harness := (true, "da978215627b643c0860adaa3d12f66e1ca1ffce34e36554977aa07521e98221"), looks := false }, kinds := [], alts := [], laidByText := true, laidKinds := [.data, .data, .data], laidTests := true, laidLooks := .later }
def SimplifyStmtUptoCardSaid : Prop := Claim7.holds Tryz.pinned (.plain (OpenSpec.upto simplifyStmtSpec)) simplifyStmtUptoCard

/-- THE SECOND FORM's CARD OF 'decompilerlaw22.SimplifyBranch'. -/
def simplifyBranchUptoCard : Claim7 := { stood := { row := simplifyBranchUptoRow, standIns := [], harness := (true, "da978215627b643c0860adaa3d12f66e1ca1ffce34e36554977aa07521e98221"), looks := false }, kinds := [], alts := [], laidByText := true, laidKinds := [.data, .data, .data], laidTests := true, laidLooks := .later }
def SimplifyBranchUptoCardSaid : Prop := Claim7.holds Tryz.pinned (.plain (OpenSpec.upto simplifyBranchSpec)) simplifyBranchUptoCard

/-- THE SECOND FORM's CARD OF 'decompilerlaw23.FlagfuseBlocks'. -/
def flagfuseBlocksUptoCard : Claim7 := { stood := { row := flagfuseBlocksUptoRow, standIns := [], harness := (true, "da978215627b643c0860adaa3d12f66e1ca1ffce34e36554977aa07521e98221"), looks := false }, kinds := [], alts := [], laidByText := true, laidKinds := [.data, .data, .data], laidTests := true, laidLooks := .later }
def FlagfuseBlocksUptoCardSaid : Prop := Claim7.holds Tryz.pinned (.plain (OpenSpec.upto flagfuseBlocksSpec)) flagfuseBlocksUptoCard

/-- THE SECOND FORM's CARD OF 'decompilerlaw22.SimplifyGraph'. -/
def simplifyGraphUptoCard : Claim7 := { stood := { row := simplifyGraphUptoRow, standIns := [], harness := (true, "da978215627b643c0860adaa3d12f66e1ca1ffce34e36554977aa07521e98221"), looks := false }, kinds := [], alts := [], laidByText := true, laidKinds := [.data, .data, .data], laidTests := true, laidLooks := .later }
def SimplifyGraphUptoCardSaid : Prop := Claim7.holds Tryz.pinned (.plain (OpenSpec.upto simplifyGraphSpec)) simplifyGraphUptoCard

/-- THE SECOND FORM's CARD OF 'decompilerlaw23.FlagfuseGraphs'. -/
def flagfuseGraphsUptoCard : Claim7 := { stood := { row := flagfuseGraphsUptoRow, standIns := [], harness := (true, "da978215627b643c0860adaa3d12f66e1ca1ffce34e36554977aa07521e98221"), looks := false }, kinds := [], alts := [], laidByText := true, laidKinds := [.data, .data, .data], laidTests := true, laidLooks := .later }
def FlagfuseGraphsUptoCardSaid : Prop := Claim7.holds Tryz.pinned (.plain (OpenSpec.upto flagfuseGraphsSpec)) flagfuseGraphsUptoCard
end Rows
end Go.Proofs.YtlidimmfpfockaaGreatDoor
