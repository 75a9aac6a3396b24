/-
  DERIVED. GIVEN WITH THE SEED: THE CARDS: each row of YtjglpamdliplbaaDoorRows.lean that lists a variable, with what it lists TIED to the program's text (the seventh form; the later family's looks); each row that meets fmt, with fmt's text TOLD by the authors' own Lean function (tested against real Go, not proved from fmt's source: count such statements apart). THE CARD IS WHAT COUNTS. Prove the row's statement (the work); the ties are given (YtjglpamdliplbaaDoorTie.lean); close each card by the builder's one call (the guide's Derived/Test/ToyasCard.lean, 'card_holds'). Laid BY PROGRAM, IN A SANDBOX (cutbox-door.mjs). By AI agents, Wed Nov 11 2026. No macro, syntax, notation, axiom, sorry.
-/
import Derived.Test.YtjglpamdliplbaaDoorRows
import GoSem.ClaimSeven
namespace Go.Proofs.YtjglpamdliplbaaDoor
namespace Rows

/-- THE TIED CARD OF 'decompilerlaw32.ConstraintStmts'. -/
def constraintStmtsCard : Claim7 := { stood := { row := constraintStmtsRow, standIns := [], harness := (true, "94f2f7044073f4a7a5e9d50bb29ce18fa72bfeda5564864cd6be1e198173eefc"), looks := false }, kinds := [], alts := [], laidByText := true, laidKinds := [.data, .data, .data], laidTests := true, laidLooks := .later }
def ConstraintStmtsCardSaid : Prop := Claim7.holds Tryd.pinned (.plain (OpenSpec.ofChange constraintStmtsSpec)) constraintStmtsCard

/-- THE TIED CARD OF 'decompilerlaw32.ConstraintStores'. -/
def constraintStoresCard : Claim7 := { stood := { row := constraintStoresRow, standIns := [], harness := (true, "94f2f7044073f4a7a5e9d50bb29ce18fa72bfeda5564864cd6be1e198173eefc"), looks := false }, kinds := [], alts := [], laidByText := true, laidKinds := [.data, .data, .data], laidTests := true, laidLooks := .later }
def ConstraintStoresCardSaid : Prop := Claim7.holds Tryd.pinned (.plain (OpenSpec.ofChange constraintStoresSpec)) constraintStoresCard

/-- THE TIED CARD OF 'decompilerlaw32.ConstraintComplete'. -/
def constraintCompleteCard : Claim7 := { stood := { row := constraintCompleteRow, standIns := [], harness := (true, "94f2f7044073f4a7a5e9d50bb29ce18fa72bfeda5564864cd6be1e198173eefc"), looks := false }, kinds := [], alts := [], laidByText := true, laidKinds := [.data, .data, .data], laidTests := true, laidLooks := .later }
def ConstraintCompleteCardSaid : Prop := Claim7.holds Tryd.pinned (.plain (OpenSpec.ofChange constraintCompleteSpec)) constraintCompleteCard

/-- THE TIED CARD OF 'decompilerlaw32.ConstraintVars'. -/
def constraintVarsCard : Claim7 := { stood := { row := constraintVarsRow, standIns := [], harness := (true, "94f2f7044073f4a7a5e9d50bb29ce18fa72bfeda5564864cd6be1e198173eefc"), looks := false }, kinds := [], alts := [], laidByText := true, laidKinds := [.data, .data, .data], laidTests := true, laidLooks := .later }
def ConstraintVarsCardSaid : Prop := Claim7.holds Tryd.pinned (.plain (OpenSpec.ofChange constraintVarsSpec)) constraintVarsCard

/-- THE SECOND FORM's CARD OF 'decompilerlaw32.ConstraintStmts'. -/
def constraintStmtsUptoCard : Claim7 := { stood := { row := constraintStmtsUptoRow, standIns := [], harness := (true, "94f2f7044073f4a7a5e9d50bb29ce18fa72bfeda5564864cd6be1e198173eefc"), looks := false }, kinds := [], alts := [], laidByText := true, laidKinds := [.data, .data, .data], laidTests := true, laidLooks := .later }
def ConstraintStmtsUptoCardSaid : Prop := Claim7.holds Tryd.pinned (.plain (OpenSpec.upto constraintStmtsSpec)) constraintStmtsUptoCard

/-- THE SECOND FORM's CARD OF 'decompilerlaw32.ConstraintStores'. -/
def constraintStoresUptoCard : Claim7 := { stood := { row := constraintStoresUptoRow, standIns := [], harness := (true, "94f2f7044073f4a7a5e9d50bb29ce18fa72bfeda5564864cd6be1e198173eefc"), looks := false }, kinds := [], alts := [], laidByText := true, laidKinds := [.data, .data, .data], laidTests := true, laidLooks := .later }
def ConstraintStoresUptoCardSaid : Prop := Claim7.holds Tryd.pinned (.plain (OpenSpec.upto constraintStoresSpec)) constraintStoresUptoCard

/-- THE SECOND FORM's CARD OF 'decompilerlaw32.ConstraintComplete'. -/
def constraintCompleteUptoCard : Claim7 := { stood := { row := constraintCompleteUptoRow, standIns := [], harness := (true, "94f2f7044073f4a7a5e9d50bb29ce18fa72bfeda5564864cd6be1e198173eefc"), looks := false }, kinds := [], alts := [], laidByText := true, laidKinds := [.data, .data, .data], laidTests := true, laidLooks := .later }
def ConstraintCompleteUptoCardSaid : Prop := Claim7.holds Tryd.pinned (.plain (OpenSpec.upto constraintCompleteSpec)) constraintCompleteUptoCard

/-- THE SECOND FORM's CARD OF 'decompilerlaw32.ConstraintVars'. -/
def constraintVarsUptoCard : Claim7 := { stood := { row := constraintVarsUptoRow, standIns := [], harness := (true, "94f2f7044073f4a7a5e9d50bb29ce18fa72bfeda5564864cd6be1e198173eefc"), looks := false }, kinds := [], alts := [], laidByText := true, laidKinds := [.data, .data, .data], laidTests := true, laidLooks := .later }
def ConstraintVarsUptoCardSaid : Prop := Claim7.holds Tryd.pinned (.plain (OpenSpec.upto constraintVarsSpec)) constraintVarsUptoCard
end Rows
end Go.Proofs.YtjglpamdliplbaaDoor
