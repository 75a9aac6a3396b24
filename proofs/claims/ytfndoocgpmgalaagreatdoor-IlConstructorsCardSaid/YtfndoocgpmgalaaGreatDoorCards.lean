/-
  DERIVED. GIVEN WITH THE SEED: THE CARDS: each row of YtfndoocgpmgalaaGreatDoorRows.lean that lists a variable, with what it lists TIED to the program's text (the seventh form; the later family's looks); each row that meets fmt, with fmt's text TOLD by the authors' own Lean function (tested against real Go, not proved from fmt's source: count such statements apart). THE CARD IS WHAT COUNTS. Prove the row's statement (the work); the ties are given (YtfndoocgpmgalaaGreatDoorTie.lean); close each card by the builder's one call (the guide's Derived/Test/ToyasCard.lean, 'card_holds'). Laid BY PROGRAM, IN A SANDBOX (cutbox-door.mjs). By AI agents, Wed Nov 11 2026. No macro, syntax, notation, axiom, sorry.
-/
import Derived.Test.YtfndoocgpmgalaaGreatDoorRows
import GoSem.ClaimSeven
namespace Go.Proofs.YtfndoocgpmgalaaGreatDoor
namespace Rows

/-- THE TIED CARD OF 'decompilerlaw19.IlReplace'. -/
def ilReplaceCard : Claim7 := { stood := { row := ilReplaceRow, standIns := [], harness := (true, "637e85270547bb87df2a963ee237a01bffd718e34a0c4d7435e124ecfec248f4"), looks := false }, kinds := [], alts := [], laidByText := true, laidKinds := [.data, .data, .data], laidTests := true, laidLooks := .later }
def IlReplaceCardSaid : Prop := Claim7.holds Tryz.pinned (.plain (OpenSpec.ofChange ilReplaceSpec)) ilReplaceCard

/-- THE TIED CARD OF 'decompilerlaw19.IlCheckGraph'. -/
def ilCheckGraphCard : Claim7 := { stood := { row := ilCheckGraphRow, standIns := [], harness := (true, "637e85270547bb87df2a963ee237a01bffd718e34a0c4d7435e124ecfec248f4"), looks := false }, kinds := [], alts := [], laidByText := true, laidKinds := [.data, .data, .data], laidTests := true, laidLooks := .later }
def IlCheckGraphCardSaid : Prop := Claim7.holds Tryz.pinned (.plain (OpenSpec.ofChange ilCheckGraphSpec)) ilCheckGraphCard

/-- THE TIED CARD OF 'decompilerlaw19.IlConstructors'. -/
def ilConstructorsCard : Claim7 := { stood := { row := ilConstructorsRow, standIns := [], harness := (true, "637e85270547bb87df2a963ee237a01bffd718e34a0c4d7435e124ecfec248f4"), looks := false }, kinds := [], alts := [], laidByText := true, laidKinds := [.data, .data, .data], laidTests := true, laidLooks := .later }
def IlConstructorsCardSaid : Prop := Claim7.holds Tryz.pinned (.plain (OpenSpec.ofChange ilConstructorsSpec)) ilConstructorsCard

/-- THE TIED CARD OF 'decompilerlaw19.IlStmtText'. -/
def ilStmtTextCard : Claim7 := { stood := { row := ilStmtTextRow, standIns := [], harness := (true, "637e85270547bb87df2a963ee237a01bffd718e34a0c4d7435e124ecfec248f4"), looks := false }, kinds := [], alts := [], laidByText := true, laidKinds := [.data, .data, .data], laidTests := true, laidLooks := .later }
def IlStmtTextCardSaid : Prop := Claim7.holds Tryz.pinned (.plain (OpenSpec.ofChange ilStmtTextSpec)) ilStmtTextCard

/-- THE TIED CARD OF 'decompilerlaw19.IlSuccessors'. -/
def ilSuccessorsCard : Claim7 := { stood := { row := ilSuccessorsRow, standIns := [], harness := (true, "637e85270547bb87df2a963ee237a01bffd718e34a0c4d7435e124ecfec248f4"), looks := false }, kinds := [], alts := [], laidByText := true, laidKinds := [.data, .data, .data], laidTests := true, laidLooks := .later }
def IlSuccessorsCardSaid : Prop := Claim7.holds Tryz.pinned (.plain (OpenSpec.ofChange ilSuccessorsSpec)) ilSuccessorsCard

/-- THE TIED CARD OF 'decompilerlaw19.IlMeasures'. -/
def ilMeasuresCard : Claim7 := { stood := { row := ilMeasuresRow, standIns := [], harness := (true, "637e85270547bb87df2a963ee237a01bffd718e34a0c4d7435e124ecfec248f4"), looks := false }, kinds := [], alts := [], laidByText := true, laidKinds := [.data, .data, .data], laidTests := true, laidLooks := .later }
def IlMeasuresCardSaid : Prop := Claim7.holds Tryz.pinned (.plain (OpenSpec.ofChange ilMeasuresSpec)) ilMeasuresCard

/-- THE TIED CARD OF 'decompilerlaw19.IlText'. -/
def ilTextCard : Claim7 := { stood := { row := ilTextRow, standIns := [], harness := (true, "637e85270547bb87df2a963ee237a01bffd718e34a0c4d7435e124ecfec248f4"), looks := false }, kinds := [], alts := [], laidByText := true, laidKinds := [.data, .data, .data], laidTests := true, laidLooks := .later }
def IlTextCardSaid : Prop := Claim7.holds Tryz.pinned (.plain (OpenSpec.ofChange ilTextSpec)) ilTextCard

/-- THE TIED CARD OF 'decompilerlaw23.FlagfuseBlocks'. -/
def flagfuseBlocksCard : Claim7 := { stood := { row := flagfuseBlocksRow, standIns := [], harness := (true, "637e85270547bb87df2a963ee237a01bffd718e34a0c4d7435e124ecfec248f4"), looks := false }, kinds := [], alts := [], laidByText := true, laidKinds := [.data, .data, .data], laidTests := true, laidLooks := .later }
def FlagfuseBlocksCardSaid : Prop := Claim7.holds Tryz.pinned (.plain (OpenSpec.ofChange flagfuseBlocksSpec)) flagfuseBlocksCard

/-- THE TIED CARD OF 'decompilerlaw23.FlagfuseGraphs'. -/
def flagfuseGraphsCard : Claim7 := { stood := { row := flagfuseGraphsRow, standIns := [], harness := (true, "637e85270547bb87df2a963ee237a01bffd718e34a0c4d7435e124ecfec248f4"), looks := false }, kinds := [], alts := [], laidByText := true, laidKinds := [.data, .data, .data], laidTests := true, laidLooks := .later }
def FlagfuseGraphsCardSaid : Prop := Claim7.holds Tryz.pinned (.plain (OpenSpec.ofChange flagfuseGraphsSpec)) flagfuseGraphsCard

/-- THE SECOND FORM's CARD OF 'decompilerlaw19.IlReplace'. -/
def ilReplaceUptoCard : Claim7 := { stood := { row := ilReplaceUptoRow, standIns := [], harness := (true, "637e85270547bb87df2a963ee237a01bffd718e34a0c4d7435e124ecfec248f4"), looks := false }, kinds := [], alts := [], laidByText := true, laidKinds := [.data, .data, .data], laidTests := true, laidLooks := .later }
def IlReplaceUptoCardSaid : Prop := Claim7.holds Tryz.pinned (.plain (OpenSpec.upto ilReplaceSpec)) ilReplaceUptoCard

/-- THE SECOND FORM's CARD OF 'decompilerlaw19.IlCheckGraph'. -/
def ilCheckGraphUptoCard : Claim7 := { stood := { row := ilCheckGraphUptoRow, standIns := [], harness := (true, "637e85270547bb87df2a963ee237a01bffd718e34a0c4d7435e124ecfec248f4"), looks := false }, kinds := [], alts := [], laidByText := true, laidKinds := [.data, .data, .data], laidTests := true, laidLooks := .later }
def IlCheckGraphUptoCardSaid : Prop := Claim7.holds Tryz.pinned (.plain (OpenSpec.upto ilCheckGraphSpec)) ilCheckGraphUptoCard

/-- THE SECOND FORM's CARD OF 'decompilerlaw19.IlConstructors'. -/
def ilConstructorsUptoCard : Claim7 := { stood := { row := ilConstructorsUptoRow, standIns := [], harness := (true, "637e85270547bb87df2a963ee237a01bffd718e34a0c4d7435e124ecfec248f4"), looks := false }, kinds := [], alts := [], laidByText := true, laidKinds := [.data, .data, .data], laidTests := true, laidLooks := .later }
def IlConstructorsUptoCardSaid : Prop := Claim7.holds Tryz.pinned (.plain (OpenSpec.upto ilConstructorsSpec)) ilConstructorsUptoCard

/-- THE SECOND FORM's CARD OF 'decompilerlaw19.IlStmtText'. -/
def ilStmtTextUptoCard : Claim7 := { stood := { row := ilStmtTextUptoRow, standIns := [], harness := (true, "637e85270547bb87df2a963ee237a01bffd718e34a0c4d7435e124ecfec248f4"), looks := false }, kinds := [], alts := [], laidByText := true, laidKinds := [.data, .data, .data], laidTests := true, laidLooks := .later }
def IlStmtTextUptoCardSaid : Prop := Claim7.holds Tryz.pinned (.plain (OpenSpec.upto ilStmtTextSpec)) ilStmtTextUptoCard

/-- THE SECOND FORM's CARD OF 'decompilerlaw19.IlSuccessors'. -/
def ilSuccessorsUptoCard : Claim7 := { stood := { row := ilSuccessorsUptoRow, standIns := [], harness := (true, "637e85270547bb87df2a963ee237a01bffd718e34a0c4d7435e124ecfec248f4"), looks := false }, kinds := [], alts := [], laidByText := true, laidKinds := [.data, .data, .data], laidTests := true, laidLooks := .later }
def IlSuccessorsUptoCardSaid : Prop := Claim7.holds Tryz.pinned (.plain (OpenSpec.upto ilSuccessorsSpec)) ilSuccessorsUptoCard

/-- THE SECOND FORM's CARD OF 'decompilerlaw19.IlMeasures'. -/
def ilMeasuresUptoCard : Claim7 := { stood := { row := ilMeasuresUptoRow, standIns := [], harness := (true, "637e85270547bb87df2a963ee237a01bffd718e34a0c4d7435e124ecfec248f4"), looks := false }, kinds := [], alts := [], laidByText := true, laidKinds := [.data, .data, .data], laidTests := true, laidLooks := .later }
def IlMeasuresUptoCardSaid : Prop := Claim7.holds Tryz.pinned (.plain (OpenSpec.upto ilMeasuresSpec)) ilMeasuresUptoCard

/-- THE SECOND FORM's CARD OF 'decompilerlaw19.IlText'. -/
def ilTextUptoCard : Claim7 := { stood := { row := ilTextUptoRow, standIns := [], harness := (true, "637e85270547bb87df2a963ee237a01bffd718e34a0c4d7435e124ecfec248f4"), looks := false }, kinds := [], alts := [], laidByText := true, laidKinds := [.data, .data, .data], laidTests := true, laidLooks := .later }
def IlTextUptoCardSaid : Prop := Claim7.holds Tryz.pinned (.plain (OpenSpec.upto ilTextSpec)) ilTextUptoCard

/-- THE SECOND FORM's CARD OF 'decompilerlaw23.FlagfuseBlocks'. -/
def flagfuseBlocksUptoCard : Claim7 := { stood := { row := flagfuseBlocksUptoRow, standIns := [], harness := (true, "637e85270547bb87df2a963ee237a01bffd718e34a0c4d7435e124ecfec248f4"), looks := false }, kinds := [], alts := [], laidByText := true, laidKinds := [.data, .data, .data], laidTests := true, laidLooks := .later }
def FlagfuseBlocksUptoCardSaid : Prop := Claim7.holds Tryz.pinned (.plain (OpenSpec.upto flagfuseBlocksSpec)) flagfuseBlocksUptoCard

/-- THE SECOND FORM's CARD OF 'decompilerlaw23.FlagfuseGraphs'. -/
def flagfuseGraphsUptoCard : Claim7 := { stood := { row := flagfuseGraphsUptoRow, standIns := [], harness := (true, "637e85270547bb87df2a963ee237a01bffd718e34a0c4d7435e124ecfec248f4"), looks := false }, kinds := [], alts := [], laidByText := true, laidKinds := [.data, .data, .data], laidTests := true, laidLooks := .later }
def FlagfuseGraphsUptoCardSaid : Prop := Claim7.holds Tryz.pinned (.plain (OpenSpec.upto flagfuseGraphsSpec)) flagfuseGraphsUptoCard
end Rows
end Go.Proofs.YtfndoocgpmgalaaGreatDoor
