/-
  NARROWER THAN 'FOR EVERY INPUT', by the rows' own cells (each row's printed sentence says how): IlReplace: loops, laid · IlCheckGraph: loops, laid · IlConstructors: loops, laid · IlStmtText: loops, laid · IlSuccessors: loops, laid · IlMeasures: loops, laid · IlText: loops, laid · FlagfuseBlocks: loops, laid · FlagfuseGraphs: loops, laid.
  DERIVED. THE GIVEN ROWS OF THIS SEAT. 9 by the template 'for every input the law returns true; each argument reads behind the call as it read before'; 0 by the template 'total and deterministic' (their statements: YtfndoocgpmgalaaGreatDoorTotals.lean).
  GIVEN WITH THE SEED: the statements are not yours to turn. If you find one false, say at which input.
  Laid BY PROGRAM, IN A SANDBOX (cutbox-rows.mjs): the forced cells as the released guide's own fill.sh prints them over the translation 7f7db0ee7447bb83… (all of the seat's roots in one cut). By AI agents, Wed Nov 11 2026. No macro, syntax, notation, axiom, sorry.
-/
import Derived.Test.YtfndoocgpmgalaaGreatDoorChecked
import GoSem.Claim
import GoSem.ClaimJoined
import GoSem.ClaimMapViews
import Derived.JoinedTies
import Derived.KernelRfl
namespace Go.Proofs.YtfndoocgpmgalaaGreatDoor
/- THE CELL 'sum', in the pinned program and in every row, IS THE sha256 OF THE DUMP (.gsa) THAT YtfndoocgpmgalaaGreatDoorProg.lean LOADS. Nothing in Lean hashes anything: it is a label: what it is worth is what the hold of that sum in a sandbox is worth. -/
noncomputable def Tryz.pinned : Pinned := { name := "ytfndoocgpmgalaagreatdoor", sum := "7f7db0ee7447bb83de8d3baa674be4ffa9c584593a795619ef4f01bdb5fb79ae", checked := Tryz.checked }
namespace Rows
def none {H : Type} : Left H := { results := [], args := [] }

/- WHAT THE LISTED PACKAGE-LEVEL VARIABLES READ AS WHEN THE CALL BEGINS. Each datum BY PROGRAM (the guide's laid-datum.mjs) off the statement by which the dump's own 'gosem.cut.vars' lays the variable. In a bare row this is a premise. The card (YtfndoocgpmgalaaGreatDoorCards.lean) ties it to the program's text. -/
def laid_math_bits_deBruijn32tab {H : Type} : DataW H := .agg [.lit (.int .u8 0), .lit (.int .u8 1), .lit (.int .u8 28), .lit (.int .u8 2), .lit (.int .u8 29), .lit (.int .u8 14), .lit (.int .u8 24), .lit (.int .u8 3), .lit (.int .u8 30), .lit (.int .u8 22), .lit (.int .u8 20), .lit (.int .u8 15), .lit (.int .u8 25), .lit (.int .u8 17), .lit (.int .u8 4), .lit (.int .u8 8), .lit (.int .u8 31), .lit (.int .u8 27), .lit (.int .u8 13), .lit (.int .u8 23), .lit (.int .u8 21), .lit (.int .u8 19), .lit (.int .u8 16), .lit (.int .u8 7), .lit (.int .u8 26), .lit (.int .u8 12), .lit (.int .u8 18), .lit (.int .u8 6), .lit (.int .u8 11), .lit (.int .u8 5), .lit (.int .u8 10), .lit (.int .u8 9)]
def laid_math_bits_deBruijn64tab {H : Type} : DataW H := .agg [.lit (.int .u8 0), .lit (.int .u8 1), .lit (.int .u8 56), .lit (.int .u8 2), .lit (.int .u8 57), .lit (.int .u8 49), .lit (.int .u8 28), .lit (.int .u8 3), .lit (.int .u8 61), .lit (.int .u8 58), .lit (.int .u8 42), .lit (.int .u8 50), .lit (.int .u8 38), .lit (.int .u8 29), .lit (.int .u8 17), .lit (.int .u8 4), .lit (.int .u8 62), .lit (.int .u8 47), .lit (.int .u8 59), .lit (.int .u8 36), .lit (.int .u8 45), .lit (.int .u8 43), .lit (.int .u8 51), .lit (.int .u8 22), .lit (.int .u8 53), .lit (.int .u8 39), .lit (.int .u8 33), .lit (.int .u8 30), .lit (.int .u8 24), .lit (.int .u8 18), .lit (.int .u8 12), .lit (.int .u8 5), .lit (.int .u8 63), .lit (.int .u8 55), .lit (.int .u8 48), .lit (.int .u8 27), .lit (.int .u8 60), .lit (.int .u8 41), .lit (.int .u8 37), .lit (.int .u8 16), .lit (.int .u8 46), .lit (.int .u8 35), .lit (.int .u8 44), .lit (.int .u8 21), .lit (.int .u8 52), .lit (.int .u8 32), .lit (.int .u8 23), .lit (.int .u8 11), .lit (.int .u8 54), .lit (.int .u8 26), .lit (.int .u8 40), .lit (.int .u8 15), .lit (.int .u8 34), .lit (.int .u8 20), .lit (.int .u8 31), .lit (.int .u8 10), .lit (.int .u8 25), .lit (.int .u8 14), .lit (.int .u8 19), .lit (.int .u8 9), .lit (.int .u8 13), .lit (.int .u8 8), .lit (.int .u8 7), .lit (.int .u8 6)]
def laid_internal_strconv_uint64pow10 {H : Type} : DataW H := .agg [.lit (.int .u64 1), .lit (.int .u64 10), .lit (.int .u64 100), .lit (.int .u64 1000), .lit (.int .u64 10000), .lit (.int .u64 100000), .lit (.int .u64 1000000), .lit (.int .u64 10000000), .lit (.int .u64 100000000), .lit (.int .u64 1000000000), .lit (.int .u64 10000000000), .lit (.int .u64 100000000000), .lit (.int .u64 1000000000000), .lit (.int .u64 10000000000000), .lit (.int .u64 100000000000000), .lit (.int .u64 1000000000000000), .lit (.int .u64 10000000000000000), .lit (.int .u64 100000000000000000), .lit (.int .u64 1000000000000000000), .lit (.int .u64 10000000000000000000)]

/-- 'decompilerlaw19.IlReplace': WHATEVER THE INPUT: true; the input reads as it did. -/
def ilReplaceSpec : ChangeSpec := { name := "ilReplace", fn := fun _ => fun
  | [d1, d2, d3, d4] => { results := [.lit (.bool true)], args := [d1, d2, d3, d4] }
  | _ => none }
def ilReplaceRow : OpenClaim := { program := "ytfndoocgpmgalaagreatdoor", sum := "7f7db0ee7447bb83de8d3baa674be4ffa9c584593a795619ef4f01bdb5fb79ae", func := "decompiler/decompilerlaw19.IlReplace", spec := "ilReplace", inPlace := ["internal/abi.NoEscape", "internal/bytealg.MakeNoZero"], unfollowed := true, recurses := true, named := ["internal/strconv.uint64pow10", "math/bits.deBruijn32tab", "math/bits.deBruijn64tab"], loops := true, apart := false, laid := [("math/bits.deBruijn32tab", laid_math_bits_deBruijn32tab), ("math/bits.deBruijn64tab", laid_math_bits_deBruijn64tab), ("internal/strconv.uint64pow10", laid_internal_strconv_uint64pow10)] }
def IlReplaceSaid : Prop := ilReplaceRow.holds Tryz.pinned (OpenSpec.ofChange ilReplaceSpec)

/-- ITS FALSE NEIGHBOUR: 'it returns false'. Refute it at one input. -/
def ilReplaceWrong : ChangeSpec := { name := "ilReplace", fn := fun _ => fun
  | [d1, d2, d3, d4] => { results := [.lit (.bool false)], args := [d1, d2, d3, d4] }
  | _ => none }
def IlReplaceWrongFalsely : Prop := ilReplaceRow.holds Tryz.pinned (OpenSpec.ofChange ilReplaceWrong)

/-- 'decompilerlaw19.IlCheckGraph': WHATEVER THE INPUT: true; the input reads as it did. -/
def ilCheckGraphSpec : ChangeSpec := { name := "ilCheckGraph", fn := fun _ => fun
  | [d] => { results := [.lit (.bool true)], args := [d] }
  | _ => none }
def ilCheckGraphRow : OpenClaim := { program := "ytfndoocgpmgalaagreatdoor", sum := "7f7db0ee7447bb83de8d3baa674be4ffa9c584593a795619ef4f01bdb5fb79ae", func := "decompiler/decompilerlaw19.IlCheckGraph", spec := "ilCheckGraph", inPlace := ["internal/abi.NoEscape", "internal/bytealg.MakeNoZero"], unfollowed := true, recurses := true, named := ["internal/strconv.uint64pow10", "math/bits.deBruijn32tab", "math/bits.deBruijn64tab"], loops := true, apart := false, laid := [("math/bits.deBruijn32tab", laid_math_bits_deBruijn32tab), ("math/bits.deBruijn64tab", laid_math_bits_deBruijn64tab), ("internal/strconv.uint64pow10", laid_internal_strconv_uint64pow10)] }
def IlCheckGraphSaid : Prop := ilCheckGraphRow.holds Tryz.pinned (OpenSpec.ofChange ilCheckGraphSpec)

/-- ITS FALSE NEIGHBOUR: 'it returns false'. Refute it at one input. -/
def ilCheckGraphWrong : ChangeSpec := { name := "ilCheckGraph", fn := fun _ => fun
  | [d] => { results := [.lit (.bool false)], args := [d] }
  | _ => none }
def IlCheckGraphWrongFalsely : Prop := ilCheckGraphRow.holds Tryz.pinned (OpenSpec.ofChange ilCheckGraphWrong)

/-- 'decompilerlaw19.IlConstructors': WHATEVER THE INPUT: true; the input reads as it did. -/
def ilConstructorsSpec : ChangeSpec := { name := "ilConstructors", fn := fun _ => fun
  | [d1, d2, d3, d4, d5, d6] => { results := [.lit (.bool true)], args := [d1, d2, d3, d4, d5, d6] }
  | _ => none }
def ilConstructorsRow : OpenClaim := { program := "ytfndoocgpmgalaagreatdoor", sum := "7f7db0ee7447bb83de8d3baa674be4ffa9c584593a795619ef4f01bdb5fb79ae", func := "decompiler/decompilerlaw19.IlConstructors", spec := "ilConstructors", inPlace := ["internal/abi.NoEscape", "internal/bytealg.MakeNoZero"], unfollowed := true, recurses := true, named := ["internal/strconv.uint64pow10", "math/bits.deBruijn32tab", "math/bits.deBruijn64tab"], loops := true, apart := false, laid := [("math/bits.deBruijn32tab", laid_math_bits_deBruijn32tab), ("math/bits.deBruijn64tab", laid_math_bits_deBruijn64tab), ("internal/strconv.uint64pow10", laid_internal_strconv_uint64pow10)] }
def IlConstructorsSaid : Prop := ilConstructorsRow.holds Tryz.pinned (OpenSpec.ofChange ilConstructorsSpec)

/-- ITS FALSE NEIGHBOUR: 'it returns false'. Refute it at one input. -/
def ilConstructorsWrong : ChangeSpec := { name := "ilConstructors", fn := fun _ => fun
  | [d1, d2, d3, d4, d5, d6] => { results := [.lit (.bool false)], args := [d1, d2, d3, d4, d5, d6] }
  | _ => none }
def IlConstructorsWrongFalsely : Prop := ilConstructorsRow.holds Tryz.pinned (OpenSpec.ofChange ilConstructorsWrong)

/-- 'decompilerlaw19.IlStmtText': WHATEVER THE INPUT: true; the input reads as it did. -/
def ilStmtTextSpec : ChangeSpec := { name := "ilStmtText", fn := fun _ => fun
  | [d] => { results := [.lit (.bool true)], args := [d] }
  | _ => none }
def ilStmtTextRow : OpenClaim := { program := "ytfndoocgpmgalaagreatdoor", sum := "7f7db0ee7447bb83de8d3baa674be4ffa9c584593a795619ef4f01bdb5fb79ae", func := "decompiler/decompilerlaw19.IlStmtText", spec := "ilStmtText", inPlace := ["internal/abi.NoEscape", "internal/bytealg.MakeNoZero"], unfollowed := true, recurses := true, named := ["internal/strconv.uint64pow10", "math/bits.deBruijn32tab", "math/bits.deBruijn64tab"], loops := true, apart := false, laid := [("math/bits.deBruijn32tab", laid_math_bits_deBruijn32tab), ("math/bits.deBruijn64tab", laid_math_bits_deBruijn64tab), ("internal/strconv.uint64pow10", laid_internal_strconv_uint64pow10)] }
def IlStmtTextSaid : Prop := ilStmtTextRow.holds Tryz.pinned (OpenSpec.ofChange ilStmtTextSpec)

/-- ITS FALSE NEIGHBOUR: 'it returns false'. Refute it at one input. -/
def ilStmtTextWrong : ChangeSpec := { name := "ilStmtText", fn := fun _ => fun
  | [d] => { results := [.lit (.bool false)], args := [d] }
  | _ => none }
def IlStmtTextWrongFalsely : Prop := ilStmtTextRow.holds Tryz.pinned (OpenSpec.ofChange ilStmtTextWrong)

/-- 'decompilerlaw19.IlSuccessors': WHATEVER THE INPUT: true; the input reads as it did. -/
def ilSuccessorsSpec : ChangeSpec := { name := "ilSuccessors", fn := fun _ => fun
  | [d] => { results := [.lit (.bool true)], args := [d] }
  | _ => none }
def ilSuccessorsRow : OpenClaim := { program := "ytfndoocgpmgalaagreatdoor", sum := "7f7db0ee7447bb83de8d3baa674be4ffa9c584593a795619ef4f01bdb5fb79ae", func := "decompiler/decompilerlaw19.IlSuccessors", spec := "ilSuccessors", inPlace := ["internal/abi.NoEscape", "internal/bytealg.MakeNoZero"], unfollowed := true, recurses := true, named := ["internal/strconv.uint64pow10", "math/bits.deBruijn32tab", "math/bits.deBruijn64tab"], loops := true, apart := false, laid := [("math/bits.deBruijn32tab", laid_math_bits_deBruijn32tab), ("math/bits.deBruijn64tab", laid_math_bits_deBruijn64tab), ("internal/strconv.uint64pow10", laid_internal_strconv_uint64pow10)] }
def IlSuccessorsSaid : Prop := ilSuccessorsRow.holds Tryz.pinned (OpenSpec.ofChange ilSuccessorsSpec)

/-- ITS FALSE NEIGHBOUR: 'it returns false'. Refute it at one input. -/
def ilSuccessorsWrong : ChangeSpec := { name := "ilSuccessors", fn := fun _ => fun
  | [d] => { results := [.lit (.bool false)], args := [d] }
  | _ => none }
def IlSuccessorsWrongFalsely : Prop := ilSuccessorsRow.holds Tryz.pinned (OpenSpec.ofChange ilSuccessorsWrong)

/-- 'decompilerlaw19.IlMeasures': WHATEVER THE INPUT: true; the input reads as it did. -/
def ilMeasuresSpec : ChangeSpec := { name := "ilMeasures", fn := fun _ => fun
  | [d1, d2] => { results := [.lit (.bool true)], args := [d1, d2] }
  | _ => none }
def ilMeasuresRow : OpenClaim := { program := "ytfndoocgpmgalaagreatdoor", sum := "7f7db0ee7447bb83de8d3baa674be4ffa9c584593a795619ef4f01bdb5fb79ae", func := "decompiler/decompilerlaw19.IlMeasures", spec := "ilMeasures", inPlace := ["internal/abi.NoEscape", "internal/bytealg.MakeNoZero"], unfollowed := true, recurses := true, named := ["internal/strconv.uint64pow10", "math/bits.deBruijn32tab", "math/bits.deBruijn64tab"], loops := true, apart := false, laid := [("math/bits.deBruijn32tab", laid_math_bits_deBruijn32tab), ("math/bits.deBruijn64tab", laid_math_bits_deBruijn64tab), ("internal/strconv.uint64pow10", laid_internal_strconv_uint64pow10)] }
def IlMeasuresSaid : Prop := ilMeasuresRow.holds Tryz.pinned (OpenSpec.ofChange ilMeasuresSpec)

/-- ITS FALSE NEIGHBOUR: 'it returns false'. Refute it at one input. -/
def ilMeasuresWrong : ChangeSpec := { name := "ilMeasures", fn := fun _ => fun
  | [d1, d2] => { results := [.lit (.bool false)], args := [d1, d2] }
  | _ => none }
def IlMeasuresWrongFalsely : Prop := ilMeasuresRow.holds Tryz.pinned (OpenSpec.ofChange ilMeasuresWrong)

/-- 'decompilerlaw19.IlText': WHATEVER THE INPUT: true; the input reads as it did. -/
def ilTextSpec : ChangeSpec := { name := "ilText", fn := fun _ => fun
  | [d1, d2] => { results := [.lit (.bool true)], args := [d1, d2] }
  | _ => none }
def ilTextRow : OpenClaim := { program := "ytfndoocgpmgalaagreatdoor", sum := "7f7db0ee7447bb83de8d3baa674be4ffa9c584593a795619ef4f01bdb5fb79ae", func := "decompiler/decompilerlaw19.IlText", spec := "ilText", inPlace := ["internal/abi.NoEscape", "internal/bytealg.MakeNoZero"], unfollowed := true, recurses := true, named := ["internal/strconv.uint64pow10", "math/bits.deBruijn32tab", "math/bits.deBruijn64tab"], loops := true, apart := false, laid := [("math/bits.deBruijn32tab", laid_math_bits_deBruijn32tab), ("math/bits.deBruijn64tab", laid_math_bits_deBruijn64tab), ("internal/strconv.uint64pow10", laid_internal_strconv_uint64pow10)] }
def IlTextSaid : Prop := ilTextRow.holds Tryz.pinned (OpenSpec.ofChange ilTextSpec)

/-- ITS FALSE NEIGHBOUR: 'it returns false'. Refute it at one input. -/
def ilTextWrong : ChangeSpec := { name := "ilText", fn := fun _ => fun
  | [d1, d2] => { results := [.lit (.bool false)], args := [d1, d2] }
  | _ => none }
def IlTextWrongFalsely : Prop := ilTextRow.holds Tryz.pinned (OpenSpec.ofChange ilTextWrong)

/-- 'decompilerlaw23.FlagfuseBlocks': WHATEVER THE INPUT: true; the input reads as it did. -/
def flagfuseBlocksSpec : ChangeSpec := { name := "flagfuseBlocks", fn := fun _ => fun
  | [d] => { results := [.lit (.bool true)], args := [d] }
  | _ => none }
def flagfuseBlocksRow : OpenClaim := { program := "ytfndoocgpmgalaagreatdoor", sum := "7f7db0ee7447bb83de8d3baa674be4ffa9c584593a795619ef4f01bdb5fb79ae", func := "decompiler/decompilerlaw23.FlagfuseBlocks", spec := "flagfuseBlocks", inPlace := ["internal/abi.NoEscape", "internal/bytealg.MakeNoZero"], unfollowed := true, recurses := true, named := ["internal/strconv.uint64pow10", "math/bits.deBruijn32tab", "math/bits.deBruijn64tab"], loops := true, apart := false, laid := [("math/bits.deBruijn32tab", laid_math_bits_deBruijn32tab), ("math/bits.deBruijn64tab", laid_math_bits_deBruijn64tab), ("internal/strconv.uint64pow10", laid_internal_strconv_uint64pow10)] }
def FlagfuseBlocksSaid : Prop := flagfuseBlocksRow.holds Tryz.pinned (OpenSpec.ofChange flagfuseBlocksSpec)

/-- ITS FALSE NEIGHBOUR: 'it returns false'. Refute it at one input. -/
def flagfuseBlocksWrong : ChangeSpec := { name := "flagfuseBlocks", fn := fun _ => fun
  | [d] => { results := [.lit (.bool false)], args := [d] }
  | _ => none }
def FlagfuseBlocksWrongFalsely : Prop := flagfuseBlocksRow.holds Tryz.pinned (OpenSpec.ofChange flagfuseBlocksWrong)

/-- 'decompilerlaw23.FlagfuseGraphs': WHATEVER THE INPUT: true; the input reads as it did. -/
def flagfuseGraphsSpec : ChangeSpec := { name := "flagfuseGraphs", fn := fun _ => fun
  | [d] => { results := [.lit (.bool true)], args := [d] }
  | _ => none }
def flagfuseGraphsRow : OpenClaim := { program := "ytfndoocgpmgalaagreatdoor", sum := "7f7db0ee7447bb83de8d3baa674be4ffa9c584593a795619ef4f01bdb5fb79ae", func := "decompiler/decompilerlaw23.FlagfuseGraphs", spec := "flagfuseGraphs", inPlace := ["internal/abi.NoEscape", "internal/bytealg.MakeNoZero"], unfollowed := true, recurses := true, named := ["internal/strconv.uint64pow10", "math/bits.deBruijn32tab", "math/bits.deBruijn64tab"], loops := true, apart := false, laid := [("math/bits.deBruijn32tab", laid_math_bits_deBruijn32tab), ("math/bits.deBruijn64tab", laid_math_bits_deBruijn64tab), ("internal/strconv.uint64pow10", laid_internal_strconv_uint64pow10)] }
def FlagfuseGraphsSaid : Prop := flagfuseGraphsRow.holds Tryz.pinned (OpenSpec.ofChange flagfuseGraphsSpec)

/-- ITS FALSE NEIGHBOUR: 'it returns false'. Refute it at one input. -/
def flagfuseGraphsWrong : ChangeSpec := { name := "flagfuseGraphs", fn := fun _ => fun
  | [d] => { results := [.lit (.bool false)], args := [d] }
  | _ => none }
def FlagfuseGraphsWrongFalsely : Prop := flagfuseGraphsRow.holds Tryz.pinned (OpenSpec.ofChange flagfuseGraphsWrong)

/- THE SECOND FORM. 'bulk': how many values and letters a reading holds, each counted each time it is reached (what is shared counts as often as it is met; a slice's spare places count too). A statement '..UptoSaid' is the law's where the arguments, and the package variables that the reading takes, are together of bulk at most 1048576: NARROWER than '..Said'. Prove '..Said' where nothing that the law and all that it calls make is longer than what came in: it says more and counts as full. Else prove '..UptoSaid'. A law counts once. -/
mutual
def uptoBulk {H : Type} : DataW H → Nat
  | .lit (.string bytes) => bytes.length + 1
  | .lit _ => 1
  | .nil => 1
  | .ptr d => uptoBulk d + 1
  | .slice elems spare => uptoBulkAll elems + uptoBulkAll spare + 1
  | .agg parts => uptoBulkAll parts + 1
  | .iface _ d => uptoBulk d + 1
  | .map entries => uptoBulkEntries entries + 1
  | .held _ => 1
def uptoBulkAll {H : Type} : List (DataW H) → Nat
  | [] => 0
  | d :: r => uptoBulk d + uptoBulkAll r
def uptoBulkEntries {H : Type} : List (Lit × DataW H) → Nat
  | [] => 0
  | x :: r => uptoBulkEntry x + uptoBulkEntries r
def uptoBulkEntry {H : Type} : Lit × DataW H → Nat
  | (.string bytes, d) => bytes.length + uptoBulk d + 1
  | (_, d) => uptoBulk d + 1
 end
def uptoSmall : (H : Type) → List (DataW H) → Bool := fun _ ds => decide (uptoBulkAll ds ≤ 1048576)
def OpenSpec.upto (s : _root_.Go.ChangeSpec) : _root_.Go.OpenSpec := { _root_.Go.OpenSpec.ofChange s with cond := some uptoSmall }

/-- 'decompilerlaw19.IlReplace', WHERE WHAT IT READS IS OF BULK AT MOST 1048576: true; the input reads as it did. -/
def ilReplaceUptoRow : OpenClaim := { program := "ytfndoocgpmgalaagreatdoor", sum := "7f7db0ee7447bb83de8d3baa674be4ffa9c584593a795619ef4f01bdb5fb79ae", func := "decompiler/decompilerlaw19.IlReplace", spec := "ilReplace", inPlace := ["internal/abi.NoEscape", "internal/bytealg.MakeNoZero"], unfollowed := true, recurses := true, named := ["internal/strconv.uint64pow10", "math/bits.deBruijn32tab", "math/bits.deBruijn64tab"], loops := true, apart := false, laid := [("math/bits.deBruijn32tab", laid_math_bits_deBruijn32tab), ("math/bits.deBruijn64tab", laid_math_bits_deBruijn64tab), ("internal/strconv.uint64pow10", laid_internal_strconv_uint64pow10)], narrowed := true }
def IlReplaceUptoSaid : Prop := ilReplaceUptoRow.holds Tryz.pinned (OpenSpec.upto ilReplaceSpec)

/-- 'decompilerlaw19.IlCheckGraph', WHERE WHAT IT READS IS OF BULK AT MOST 1048576: true; the input reads as it did. -/
def ilCheckGraphUptoRow : OpenClaim := { program := "ytfndoocgpmgalaagreatdoor", sum := "7f7db0ee7447bb83de8d3baa674be4ffa9c584593a795619ef4f01bdb5fb79ae", func := "decompiler/decompilerlaw19.IlCheckGraph", spec := "ilCheckGraph", inPlace := ["internal/abi.NoEscape", "internal/bytealg.MakeNoZero"], unfollowed := true, recurses := true, named := ["internal/strconv.uint64pow10", "math/bits.deBruijn32tab", "math/bits.deBruijn64tab"], loops := true, apart := false, laid := [("math/bits.deBruijn32tab", laid_math_bits_deBruijn32tab), ("math/bits.deBruijn64tab", laid_math_bits_deBruijn64tab), ("internal/strconv.uint64pow10", laid_internal_strconv_uint64pow10)], narrowed := true }
def IlCheckGraphUptoSaid : Prop := ilCheckGraphUptoRow.holds Tryz.pinned (OpenSpec.upto ilCheckGraphSpec)

/-- 'decompilerlaw19.IlConstructors', WHERE WHAT IT READS IS OF BULK AT MOST 1048576: true; the input reads as it did. -/
def ilConstructorsUptoRow : OpenClaim := { program := "ytfndoocgpmgalaagreatdoor", sum := "7f7db0ee7447bb83de8d3baa674be4ffa9c584593a795619ef4f01bdb5fb79ae", func := "decompiler/decompilerlaw19.IlConstructors", spec := "ilConstructors", inPlace := ["internal/abi.NoEscape", "internal/bytealg.MakeNoZero"], unfollowed := true, recurses := true, named := ["internal/strconv.uint64pow10", "math/bits.deBruijn32tab", "math/bits.deBruijn64tab"], loops := true, apart := false, laid := [("math/bits.deBruijn32tab", laid_math_bits_deBruijn32tab), ("math/bits.deBruijn64tab", laid_math_bits_deBruijn64tab), ("internal/strconv.uint64pow10", laid_internal_strconv_uint64pow10)], narrowed := true }
def IlConstructorsUptoSaid : Prop := ilConstructorsUptoRow.holds Tryz.pinned (OpenSpec.upto ilConstructorsSpec)

/-- 'decompilerlaw19.IlStmtText', WHERE WHAT IT READS IS OF BULK AT MOST 1048576: true; the input reads as it did. -/
def ilStmtTextUptoRow : OpenClaim := { program := "ytfndoocgpmgalaagreatdoor", sum := "7f7db0ee7447bb83de8d3baa674be4ffa9c584593a795619ef4f01bdb5fb79ae", func := "decompiler/decompilerlaw19.IlStmtText", spec := "ilStmtText", inPlace := ["internal/abi.NoEscape", "internal/bytealg.MakeNoZero"], unfollowed := true, recurses := true, named := ["internal/strconv.uint64pow10", "math/bits.deBruijn32tab", "math/bits.deBruijn64tab"], loops := true, apart := false, laid := [("math/bits.deBruijn32tab", laid_math_bits_deBruijn32tab), ("math/bits.deBruijn64tab", laid_math_bits_deBruijn64tab), ("internal/strconv.uint64pow10", laid_internal_strconv_uint64pow10)], narrowed := true }
def IlStmtTextUptoSaid : Prop := ilStmtTextUptoRow.holds Tryz.pinned (OpenSpec.upto ilStmtTextSpec)

/-- 'decompilerlaw19.IlSuccessors', WHERE WHAT IT READS IS OF BULK AT MOST 1048576: true; the input reads as it did. -/
def ilSuccessorsUptoRow : OpenClaim := { program := "ytfndoocgpmgalaagreatdoor", sum := "7f7db0ee7447bb83de8d3baa674be4ffa9c584593a795619ef4f01bdb5fb79ae", func := "decompiler/decompilerlaw19.IlSuccessors", spec := "ilSuccessors", inPlace := ["internal/abi.NoEscape", "internal/bytealg.MakeNoZero"], unfollowed := true, recurses := true, named := ["internal/strconv.uint64pow10", "math/bits.deBruijn32tab", "math/bits.deBruijn64tab"], loops := true, apart := false, laid := [("math/bits.deBruijn32tab", laid_math_bits_deBruijn32tab), ("math/bits.deBruijn64tab", laid_math_bits_deBruijn64tab), ("internal/strconv.uint64pow10", laid_internal_strconv_uint64pow10)], narrowed := true }
def IlSuccessorsUptoSaid : Prop := ilSuccessorsUptoRow.holds Tryz.pinned (OpenSpec.upto ilSuccessorsSpec)

/-- 'decompilerlaw19.IlMeasures', WHERE WHAT IT READS IS OF BULK AT MOST 1048576: true; the input reads as it did. -/
def ilMeasuresUptoRow : OpenClaim := { program := "ytfndoocgpmgalaagreatdoor", sum := "7f7db0ee7447bb83de8d3baa674be4ffa9c584593a795619ef4f01bdb5fb79ae", func := "decompiler/decompilerlaw19.IlMeasures", spec := "ilMeasures", inPlace := ["internal/abi.NoEscape", "internal/bytealg.MakeNoZero"], unfollowed := true, recurses := true, named := ["internal/strconv.uint64pow10", "math/bits.deBruijn32tab", "math/bits.deBruijn64tab"], loops := true, apart := false, laid := [("math/bits.deBruijn32tab", laid_math_bits_deBruijn32tab), ("math/bits.deBruijn64tab", laid_math_bits_deBruijn64tab), ("internal/strconv.uint64pow10", laid_internal_strconv_uint64pow10)], narrowed := true }
def IlMeasuresUptoSaid : Prop := ilMeasuresUptoRow.holds Tryz.pinned (OpenSpec.upto ilMeasuresSpec)

/-- 'decompilerlaw19.IlText', WHERE WHAT IT READS IS OF BULK AT MOST 1048576: true; the input reads as it did. -/
def ilTextUptoRow : OpenClaim := { program := "ytfndoocgpmgalaagreatdoor", sum := "7f7db0ee7447bb83de8d3baa674be4ffa9c584593a795619ef4f01bdb5fb79ae", func := "decompiler/decompilerlaw19.IlText", spec := "ilText", inPlace := ["internal/abi.NoEscape", "internal/bytealg.MakeNoZero"], unfollowed := true, recurses := true, named := ["internal/strconv.uint64pow10", "math/bits.deBruijn32tab", "math/bits.deBruijn64tab"], loops := true, apart := false, laid := [("math/bits.deBruijn32tab", laid_math_bits_deBruijn32tab), ("math/bits.deBruijn64tab", laid_math_bits_deBruijn64tab), ("internal/strconv.uint64pow10", laid_internal_strconv_uint64pow10)], narrowed := true }
def IlTextUptoSaid : Prop := ilTextUptoRow.holds Tryz.pinned (OpenSpec.upto ilTextSpec)

/-- 'decompilerlaw23.FlagfuseBlocks', WHERE WHAT IT READS IS OF BULK AT MOST 1048576: true; the input reads as it did. -/
def flagfuseBlocksUptoRow : OpenClaim := { program := "ytfndoocgpmgalaagreatdoor", sum := "7f7db0ee7447bb83de8d3baa674be4ffa9c584593a795619ef4f01bdb5fb79ae", func := "decompiler/decompilerlaw23.FlagfuseBlocks", spec := "flagfuseBlocks", inPlace := ["internal/abi.NoEscape", "internal/bytealg.MakeNoZero"], unfollowed := true, recurses := true, named := ["internal/strconv.uint64pow10", "math/bits.deBruijn32tab", "math/bits.deBruijn64tab"], loops := true, apart := false, laid := [("math/bits.deBruijn32tab", laid_math_bits_deBruijn32tab), ("math/bits.deBruijn64tab", laid_math_bits_deBruijn64tab), ("internal/strconv.uint64pow10", laid_internal_strconv_uint64pow10)], narrowed := true }
def FlagfuseBlocksUptoSaid : Prop := flagfuseBlocksUptoRow.holds Tryz.pinned (OpenSpec.upto flagfuseBlocksSpec)

/-- 'decompilerlaw23.FlagfuseGraphs', WHERE WHAT IT READS IS OF BULK AT MOST 1048576: true; the input reads as it did. -/
def flagfuseGraphsUptoRow : OpenClaim := { program := "ytfndoocgpmgalaagreatdoor", sum := "7f7db0ee7447bb83de8d3baa674be4ffa9c584593a795619ef4f01bdb5fb79ae", func := "decompiler/decompilerlaw23.FlagfuseGraphs", spec := "flagfuseGraphs", inPlace := ["internal/abi.NoEscape", "internal/bytealg.MakeNoZero"], unfollowed := true, recurses := true, named := ["internal/strconv.uint64pow10", "math/bits.deBruijn32tab", "math/bits.deBruijn64tab"], loops := true, apart := false, laid := [("math/bits.deBruijn32tab", laid_math_bits_deBruijn32tab), ("math/bits.deBruijn64tab", laid_math_bits_deBruijn64tab), ("internal/strconv.uint64pow10", laid_internal_strconv_uint64pow10)], narrowed := true }
def FlagfuseGraphsUptoSaid : Prop := flagfuseGraphsUptoRow.holds Tryz.pinned (OpenSpec.upto flagfuseGraphsSpec)

end Rows
end Go.Proofs.YtfndoocgpmgalaaGreatDoor
