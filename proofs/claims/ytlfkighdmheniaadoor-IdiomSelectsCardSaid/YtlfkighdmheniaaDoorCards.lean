/-
  DERIVED. GIVEN WITH THE SEED: THE CARDS: each row of YtlfkighdmheniaaDoorRows.lean that lists a variable, with what it lists TIED to the program's text (the seventh form; the later family's looks); each row that meets fmt, with fmt's text TOLD by the authors' own Lean function (tested against real Go, not proved from fmt's source: count such statements apart). THE CARD IS WHAT COUNTS. Prove the row's statement (the work); the ties are given (YtlfkighdmheniaaDoorTie.lean); close each card by the builder's one call (the guide's Derived/Test/ToyasCard.lean, 'card_holds'). Laid BY PROGRAM, IN A SANDBOX (cutbox-door.mjs). By AI agents, Wed Nov 11 2026. No macro, syntax, notation, axiom, sorry.
-/
import Derived.Test.YtlfkighdmheniaaDoorRows
import GoSem.ClaimSeven
namespace Go.Proofs.YtlfkighdmheniaaDoor
namespace Rows

/-- THE TIED CARD OF 'decompilerlaw23.FlagfuseConditions'. -/
def flagfuseConditionsCard : Claim7 := { stood := { row := flagfuseConditionsRow, standIns := [], harness := (true, "857ccedf912b8f202ffa31c46a7f713c11b390b18475a0485da532adf60d9226"), looks := false }, kinds := [], alts := [], laidByText := true, laidKinds := [.data, .data, .data], laidTests := true, laidLooks := .later }
def FlagfuseConditionsCardSaid : Prop := Claim7.holds Tryd.pinned (.plain (OpenSpec.ofChange flagfuseConditionsSpec)) flagfuseConditionsCard

/-- THE TIED CARD OF 'decompilerlaw28.IdiomSame'. -/
def idiomSameCard : Claim7 := { stood := { row := idiomSameRow, standIns := [], harness := (true, "857ccedf912b8f202ffa31c46a7f713c11b390b18475a0485da532adf60d9226"), looks := false }, kinds := [], alts := [], laidByText := true, laidKinds := [.listed, .data], laidTests := true, laidLooks := .later }
def IdiomSameCardSaid : Prop := Claim7.holds Tryd.pinned (.plain (OpenSpec.ofChange idiomSameSpec)) idiomSameCard

/-- THE TIED CARD OF 'decompilerlaw28.IdiomExact'. -/
def idiomExactCard : Claim7 := { stood := { row := idiomExactRow, standIns := [], harness := (true, "857ccedf912b8f202ffa31c46a7f713c11b390b18475a0485da532adf60d9226"), looks := false }, kinds := [], alts := [], laidByText := true, laidKinds := [.listed, .data], laidTests := true, laidLooks := .later }
def IdiomExactCardSaid : Prop := Claim7.holds Tryd.pinned (.plain (OpenSpec.ofChange idiomExactSpec)) idiomExactCard

/-- THE TIED CARD OF 'decompilerlaw28.IdiomFixed'. -/
def idiomFixedCard : Claim7 := { stood := { row := idiomFixedRow, standIns := [], harness := (true, "857ccedf912b8f202ffa31c46a7f713c11b390b18475a0485da532adf60d9226"), looks := false }, kinds := [], alts := [], laidByText := true, laidKinds := [.listed, .data], laidTests := true, laidLooks := .later }
def IdiomFixedCardSaid : Prop := Claim7.holds Tryd.pinned (.plain (OpenSpec.ofChange idiomFixedSpec)) idiomFixedCard

/-- THE TIED CARD OF 'decompilerlaw28.IdiomSelects'. -/
def idiomSelectsCard : Claim7 := { stood := { row := idiomSelectsRow, standIns := [], harness := (true, "857ccedf912b8f202ffa31c46a7f713c11b390b18475a0485da532adf60d9226"), looks := false }, kinds := [], alts := [], laidByText := true, laidKinds := [.listed, .data], laidTests := true, laidLooks := .later }
def IdiomSelectsCardSaid : Prop := Claim7.holds Tryd.pinned (.plain (OpenSpec.ofChange idiomSelectsSpec)) idiomSelectsCard

/-- THE TIED CARD OF 'decompilerlaw28.IdiomNames'. -/
def idiomNamesCard : Claim7 := { stood := { row := idiomNamesRow, standIns := [], harness := (true, "857ccedf912b8f202ffa31c46a7f713c11b390b18475a0485da532adf60d9226"), looks := false }, kinds := [], alts := [], laidByText := true, laidKinds := [.listed, .data], laidTests := true, laidLooks := .later }
def IdiomNamesCardSaid : Prop := Claim7.holds Tryd.pinned (.plain (OpenSpec.ofChange idiomNamesSpec)) idiomNamesCard

/-- THE TIED CARD OF 'decompilerlaw23.FlagfuseValues'. -/
def flagfuseValuesCard : Claim7 := { stood := { row := flagfuseValuesRow, standIns := [], harness := (true, "857ccedf912b8f202ffa31c46a7f713c11b390b18475a0485da532adf60d9226"), looks := false }, kinds := [], alts := [], laidByText := true, laidKinds := [.data, .data, .data], laidTests := true, laidLooks := .later }
def FlagfuseValuesCardSaid : Prop := Claim7.holds Tryd.pinned (.plain (OpenSpec.ofChange flagfuseValuesSpec)) flagfuseValuesCard

/-- THE SECOND FORM's CARD OF 'decompilerlaw23.FlagfuseConditions'. -/
def flagfuseConditionsUptoCard : Claim7 := { stood := { row := flagfuseConditionsUptoRow, standIns := [], harness := (true, "857ccedf912b8f202ffa31c46a7f713c11b390b18475a0485da532adf60d9226"), looks := false }, kinds := [], alts := [], laidByText := true, laidKinds := [.data, .data, .data], laidTests := true, laidLooks := .later }
def FlagfuseConditionsUptoCardSaid : Prop := Claim7.holds Tryd.pinned (.plain (OpenSpec.upto flagfuseConditionsSpec)) flagfuseConditionsUptoCard

/-- THE SECOND FORM's CARD OF 'decompilerlaw28.IdiomSame'. -/
def idiomSameUptoCard : Claim7 := { stood := { row := idiomSameUptoRow, standIns := [], harness := (true, "857ccedf912b8f202ffa31c46a7f713c11b390b18475a0485da532adf60d9226"), looks := false }, kinds := [], alts := [], laidByText := true, laidKinds := [.listed, .data], laidTests := true, laidLooks := .later }
def IdiomSameUptoCardSaid : Prop := Claim7.holds Tryd.pinned (.plain (OpenSpec.upto idiomSameSpec)) idiomSameUptoCard

/-- THE SECOND FORM's CARD OF 'decompilerlaw28.IdiomExact'. -/
def idiomExactUptoCard : Claim7 := { stood := { row := idiomExactUptoRow, standIns := [], harness := (true, "857ccedf912b8f202ffa31c46a7f713c11b390b18475a0485da532adf60d9226"), looks := false }, kinds := [], alts := [], laidByText := true, laidKinds := [.listed, .data], laidTests := true, laidLooks := .later }
def IdiomExactUptoCardSaid : Prop := Claim7.holds Tryd.pinned (.plain (OpenSpec.upto idiomExactSpec)) idiomExactUptoCard

/-- THE SECOND FORM's CARD OF 'decompilerlaw28.IdiomFixed'. -/
def idiomFixedUptoCard : Claim7 := { stood := { row := idiomFixedUptoRow, standIns := [], harness := (true, "857ccedf912b8f202ffa31c46a7f713c11b390b18475a0485da532adf60d9226"), looks := false }, kinds := [], alts := [], laidByText := true, laidKinds := [.listed, .data], laidTests := true, laidLooks := .later }
def IdiomFixedUptoCardSaid : Prop := Claim7.holds Tryd.pinned (.plain (OpenSpec.upto idiomFixedSpec)) idiomFixedUptoCard

/-- THE SECOND FORM's CARD OF 'decompilerlaw28.IdiomSelects'. -/
def idiomSelectsUptoCard : Claim7 := { stood := { row := idiomSelectsUptoRow, standIns := [], harness := (true, "857ccedf912b8f202ffa31c46a7f713c11b390b18475a0485da532adf60d9226"), looks := false }, kinds := [], alts := [], laidByText := true, laidKinds := [.listed, .data], laidTests := true, laidLooks := .later }
def IdiomSelectsUptoCardSaid : Prop := Claim7.holds Tryd.pinned (.plain (OpenSpec.upto idiomSelectsSpec)) idiomSelectsUptoCard

/-- THE SECOND FORM's CARD OF 'decompilerlaw28.IdiomNames'. -/
def idiomNamesUptoCard : Claim7 := { stood := { row := idiomNamesUptoRow, standIns := [], harness := (true, "857ccedf912b8f202ffa31c46a7f713c11b390b18475a0485da532adf60d9226"), looks := false }, kinds := [], alts := [], laidByText := true, laidKinds := [.listed, .data], laidTests := true, laidLooks := .later }
def IdiomNamesUptoCardSaid : Prop := Claim7.holds Tryd.pinned (.plain (OpenSpec.upto idiomNamesSpec)) idiomNamesUptoCard

/-- THE SECOND FORM's CARD OF 'decompilerlaw23.FlagfuseValues'. -/
def flagfuseValuesUptoCard : Claim7 := { stood := { row := flagfuseValuesUptoRow, standIns := [], harness := (true, "857ccedf912b8f202ffa31c46a7f713c11b390b18475a0485da532adf60d9226"), looks := false }, kinds := [], alts := [], laidByText := true, laidKinds := [.data, .data, .data], laidTests := true, laidLooks := .later }
def FlagfuseValuesUptoCardSaid : Prop := Claim7.holds Tryd.pinned (.plain (OpenSpec.upto flagfuseValuesSpec)) flagfuseValuesUptoCard
end Rows
end Go.Proofs.YtlfkighdmheniaaDoor
