/-
  NARROWER THAN 'FOR EVERY INPUT', by the rows' own cells (each row's printed sentence says how): IlStmtText: loops, laid · IlText: loops, laid · SimplifyExact: loops, laid · SimplifyStmt: loops, laid · SimplifyBranch: loops, laid · FlagfuseBlocks: loops, laid · SimplifyGraph: loops, laid · FlagfuseGraphs: loops, laid.
  DERIVED. THE GIVEN ROWS OF THIS SEAT. 8 by the template 'for every input the law returns true; each argument reads behind the call as it read before'; 0 by the template 'total and deterministic' (their statements: YtlidimmfpfockaaGreatDoorTotals.lean).
  GIVEN WITH THE SEED: the statements are not yours to turn. If you find one false, say at which input.
  Laid BY PROGRAM, IN A SANDBOX (cutbox-rows.mjs): the forced cells as the released guide's own fill.sh prints them over the translation 51513fce56d26939… (all of the seat's roots in one cut). By AI agents, Wed Nov 11 2026. No macro, syntax, notation, axiom, sorry.
-/
import Derived.Test.YtlidimmfpfockaaGreatDoorChecked
import GoSem.Claim
import GoSem.ClaimJoined
import GoSem.ClaimMapViews
import Derived.JoinedTies
import Derived.KernelRfl
namespace Go.Proofs.YtlidimmfpfockaaGreatDoor
/- THE CELL 'sum', in the pinned program and in every row, IS THE sha256 OF THE DUMP (.gsa) THAT YtlidimmfpfockaaGreatDoorProg.lean LOADS. Nothing in Lean hashes anything: it is a label: what it is worth is what the hold of that sum in a sandbox is worth. -/
noncomputable def Tryz.pinned : Pinned := { name := "ytlidimmfpfockaagreatdoor", sum := "51513fce56d26939b4f25e482269298e9790311e01a8c4f64480443acc2c2724", checked := Tryz.checked }
namespace Rows
def none {H : Type} : Left H := { results := [], args := [] }

/- WHAT THE LISTED PACKAGE-LEVEL VARIABLES READ AS WHEN THE CALL BEGINS. Each datum BY PROGRAM (the guide's laid-datum.mjs) off the statement by which the dump's own 'gosem.cut.vars' lays the variable. In a bare row this is a premise. The card (YtlidimmfpfockaaGreatDoorCards.lean) ties it to the program's text. -/
def laid_math_bits_deBruijn32tab {H : Type} : DataW H := .agg [.lit (.int .u8 0), .lit (.int .u8 1), .lit (.int .u8 28), .lit (.int .u8 2), .lit (.int .u8 29), .lit (.int .u8 14), .lit (.int .u8 24), .lit (.int .u8 3), .lit (.int .u8 30), .lit (.int .u8 22), .lit (.int .u8 20), .lit (.int .u8 15), .lit (.int .u8 25), .lit (.int .u8 17), .lit (.int .u8 4), .lit (.int .u8 8), .lit (.int .u8 31), .lit (.int .u8 27), .lit (.int .u8 13), .lit (.int .u8 23), .lit (.int .u8 21), .lit (.int .u8 19), .lit (.int .u8 16), .lit (.int .u8 7), .lit (.int .u8 26), .lit (.int .u8 12), .lit (.int .u8 18), .lit (.int .u8 6), .lit (.int .u8 11), .lit (.int .u8 5), .lit (.int .u8 10), .lit (.int .u8 9)]
def laid_math_bits_deBruijn64tab {H : Type} : DataW H := .agg [.lit (.int .u8 0), .lit (.int .u8 1), .lit (.int .u8 56), .lit (.int .u8 2), .lit (.int .u8 57), .lit (.int .u8 49), .lit (.int .u8 28), .lit (.int .u8 3), .lit (.int .u8 61), .lit (.int .u8 58), .lit (.int .u8 42), .lit (.int .u8 50), .lit (.int .u8 38), .lit (.int .u8 29), .lit (.int .u8 17), .lit (.int .u8 4), .lit (.int .u8 62), .lit (.int .u8 47), .lit (.int .u8 59), .lit (.int .u8 36), .lit (.int .u8 45), .lit (.int .u8 43), .lit (.int .u8 51), .lit (.int .u8 22), .lit (.int .u8 53), .lit (.int .u8 39), .lit (.int .u8 33), .lit (.int .u8 30), .lit (.int .u8 24), .lit (.int .u8 18), .lit (.int .u8 12), .lit (.int .u8 5), .lit (.int .u8 63), .lit (.int .u8 55), .lit (.int .u8 48), .lit (.int .u8 27), .lit (.int .u8 60), .lit (.int .u8 41), .lit (.int .u8 37), .lit (.int .u8 16), .lit (.int .u8 46), .lit (.int .u8 35), .lit (.int .u8 44), .lit (.int .u8 21), .lit (.int .u8 52), .lit (.int .u8 32), .lit (.int .u8 23), .lit (.int .u8 11), .lit (.int .u8 54), .lit (.int .u8 26), .lit (.int .u8 40), .lit (.int .u8 15), .lit (.int .u8 34), .lit (.int .u8 20), .lit (.int .u8 31), .lit (.int .u8 10), .lit (.int .u8 25), .lit (.int .u8 14), .lit (.int .u8 19), .lit (.int .u8 9), .lit (.int .u8 13), .lit (.int .u8 8), .lit (.int .u8 7), .lit (.int .u8 6)]
def laid_internal_strconv_uint64pow10 {H : Type} : DataW H := .agg [.lit (.int .u64 1), .lit (.int .u64 10), .lit (.int .u64 100), .lit (.int .u64 1000), .lit (.int .u64 10000), .lit (.int .u64 100000), .lit (.int .u64 1000000), .lit (.int .u64 10000000), .lit (.int .u64 100000000), .lit (.int .u64 1000000000), .lit (.int .u64 10000000000), .lit (.int .u64 100000000000), .lit (.int .u64 1000000000000), .lit (.int .u64 10000000000000), .lit (.int .u64 100000000000000), .lit (.int .u64 1000000000000000), .lit (.int .u64 10000000000000000), .lit (.int .u64 100000000000000000), .lit (.int .u64 1000000000000000000), .lit (.int .u64 10000000000000000000)]

/-- 'decompilerlaw19.IlStmtText': WHATEVER THE INPUT: true; the input reads as it did. -/
def ilStmtTextSpec : ChangeSpec := { name := "ilStmtText", fn := fun _ => fun
  | [d] => { results := [.lit (.bool true)], args := [d] }
  | _ => none }
def ilStmtTextRow : OpenClaim := { program := "ytlidimmfpfockaagreatdoor", sum := "51513fce56d26939b4f25e482269298e9790311e01a8c4f64480443acc2c2724", func := "decompiler/decompilerlaw19.IlStmtText", spec := "ilStmtText", inPlace := ["internal/abi.NoEscape", "internal/bytealg.MakeNoZero"], unfollowed := true, recurses := true, named := ["internal/strconv.uint64pow10", "math/bits.deBruijn32tab", "math/bits.deBruijn64tab"], loops := true, apart := false, laid := [("math/bits.deBruijn32tab", laid_math_bits_deBruijn32tab), ("math/bits.deBruijn64tab", laid_math_bits_deBruijn64tab), ("internal/strconv.uint64pow10", laid_internal_strconv_uint64pow10)] }
def IlStmtTextSaid : Prop := ilStmtTextRow.holds Tryz.pinned (OpenSpec.ofChange ilStmtTextSpec)

/-- ITS FALSE NEIGHBOUR: 'it returns false'. Refute it at one input. -/
def ilStmtTextWrong : ChangeSpec := { name := "ilStmtText", fn := fun _ => fun
  | [d] => { results := [.lit (.bool false)], args := [d] }
  | _ => none }
def IlStmtTextWrongFalsely : Prop := ilStmtTextRow.holds Tryz.pinned (OpenSpec.ofChange ilStmtTextWrong)

/-- 'decompilerlaw19.IlText': WHATEVER THE INPUT: true; the input reads as it did. -/
def ilTextSpec : ChangeSpec := { name := "ilText", fn := fun _ => fun
  | [d1, d2] => { results := [.lit (.bool true)], args := [d1, d2] }
  | _ => none }
def ilTextRow : OpenClaim := { program := "ytlidimmfpfockaagreatdoor", sum := "51513fce56d26939b4f25e482269298e9790311e01a8c4f64480443acc2c2724", func := "decompiler/decompilerlaw19.IlText", spec := "ilText", inPlace := ["internal/abi.NoEscape", "internal/bytealg.MakeNoZero"], unfollowed := true, recurses := true, named := ["internal/strconv.uint64pow10", "math/bits.deBruijn32tab", "math/bits.deBruijn64tab"], loops := true, apart := false, laid := [("math/bits.deBruijn32tab", laid_math_bits_deBruijn32tab), ("math/bits.deBruijn64tab", laid_math_bits_deBruijn64tab), ("internal/strconv.uint64pow10", laid_internal_strconv_uint64pow10)] }
def IlTextSaid : Prop := ilTextRow.holds Tryz.pinned (OpenSpec.ofChange ilTextSpec)

/-- ITS FALSE NEIGHBOUR: 'it returns false'. Refute it at one input. -/
def ilTextWrong : ChangeSpec := { name := "ilText", fn := fun _ => fun
  | [d1, d2] => { results := [.lit (.bool false)], args := [d1, d2] }
  | _ => none }
def IlTextWrongFalsely : Prop := ilTextRow.holds Tryz.pinned (OpenSpec.ofChange ilTextWrong)

/-- 'decompilerlaw22.SimplifyExact': WHATEVER THE INPUT: true; the input reads as it did. -/
def simplifyExactSpec : ChangeSpec := { name := "simplifyExact", fn := fun _ => fun
  | [d] => { results := [.lit (.bool true)], args := [d] }
  | _ => none }
def simplifyExactRow : OpenClaim := { program := "ytlidimmfpfockaagreatdoor", sum := "51513fce56d26939b4f25e482269298e9790311e01a8c4f64480443acc2c2724", func := "decompiler/decompilerlaw22.SimplifyExact", spec := "simplifyExact", inPlace := ["internal/abi.NoEscape", "internal/bytealg.MakeNoZero"], unfollowed := true, recurses := true, named := ["internal/strconv.uint64pow10", "math/bits.deBruijn32tab", "math/bits.deBruijn64tab"], loops := true, apart := false, laid := [("math/bits.deBruijn32tab", laid_math_bits_deBruijn32tab), ("math/bits.deBruijn64tab", laid_math_bits_deBruijn64tab), ("internal/strconv.uint64pow10", laid_internal_strconv_uint64pow10)] }
def SimplifyExactSaid : Prop := simplifyExactRow.holds Tryz.pinned (OpenSpec.ofChange simplifyExactSpec)

/-- ITS FALSE NEIGHBOUR: 'it returns false'. Refute it at one input. -/
def simplifyExactWrong : ChangeSpec := { name := "simplifyExact", fn := fun _ => fun
  | [d] => { results := [.lit (.bool false)], args := [d] }
  | _ => none }
def SimplifyExactWrongFalsely : Prop := simplifyExactRow.holds Tryz.pinned (OpenSpec.ofChange simplifyExactWrong)

/-- 'decompilerlaw22.SimplifyStmt': WHATEVER THE INPUT: true; the input reads as it did. -/
def simplifyStmtSpec : ChangeSpec := { name := "simplifyStmt", fn := fun _ => fun
  | [d] => { results := [.lit (.bool true)], args := [d] }
  | _ => none }
def simplifyStmtRow : OpenClaim := { program := "ytlidimmfpfockaagreatdoor", sum := "51513fce56d26939b4f25e482269298e9790311e01a8c4f64480443acc2c2724", func := "decompiler/decompilerlaw22.SimplifyStmt", spec := "simplifyStmt", inPlace := ["internal/abi.NoEscape", "internal/bytealg.MakeNoZero"], unfollowed := true, recurses := true, named := ["internal/strconv.uint64pow10", "math/bits.deBruijn32tab", "math/bits.deBruijn64tab"], loops := true, apart := false, laid := [("math/bits.deBruijn32tab", laid_math_bits_deBruijn32tab), ("math/bits.deBruijn64tab", laid_math_bits_deBruijn64tab), ("internal/strconv.uint64pow10", laid_internal_strconv_uint64pow10)] }
def SimplifyStmtSaid : Prop := simplifyStmtRow.holds Tryz.pinned (OpenSpec.ofChange simplifyStmtSpec)

/-- ITS FALSE NEIGHBOUR: 'it returns false'. Refute it at one input. -/
def simplifyStmtWrong : ChangeSpec := { name := "simplifyStmt", fn := fun _ => fun
  | [d] => { results := [.lit (.bool false)], args := [d] }
  | _ => none }
def SimplifyStmtWrongFalsely : Prop := simplifyStmtRow.holds Tryz.pinned (OpenSpec.ofChange simplifyStmtWrong)

/-- 'decompilerlaw22.SimplifyBranch': WHATEVER THE INPUT: true; the input reads as it did. -/
def simplifyBranchSpec : ChangeSpec := { name := "simplifyBranch", fn := fun _ => fun
  | [d1, d2, d3, d4, d5] => { results := [.lit (.bool true)], args := [d1, d2, d3, d4, d5] }
  | _ => none }
def simplifyBranchRow : OpenClaim := { program := "ytlidimmfpfockaagreatdoor", sum := "51513fce56d26939b4f25e482269298e9790311e01a8c4f64480443acc2c2724", func := "decompiler/decompilerlaw22.SimplifyBranch", spec := "simplifyBranch", inPlace := ["internal/abi.NoEscape", "internal/bytealg.MakeNoZero"], unfollowed := true, recurses := true, named := ["internal/strconv.uint64pow10", "math/bits.deBruijn32tab", "math/bits.deBruijn64tab"], loops := true, apart := false, laid := [("math/bits.deBruijn32tab", laid_math_bits_deBruijn32tab), ("math/bits.deBruijn64tab", laid_math_bits_deBruijn64tab), ("internal/strconv.uint64pow10", laid_internal_strconv_uint64pow10)] }
def SimplifyBranchSaid : Prop := simplifyBranchRow.holds Tryz.pinned (OpenSpec.ofChange simplifyBranchSpec)

/-- ITS FALSE NEIGHBOUR: 'it returns false'. Refute it at one input. -/
def simplifyBranchWrong : ChangeSpec := { name := "simplifyBranch", fn := fun _ => fun
  | [d1, d2, d3, d4, d5] => { results := [.lit (.bool false)], args := [d1, d2, d3, d4, d5] }
  | _ => none }
def SimplifyBranchWrongFalsely : Prop := simplifyBranchRow.holds Tryz.pinned (OpenSpec.ofChange simplifyBranchWrong)

/-- 'decompilerlaw23.FlagfuseBlocks': WHATEVER THE INPUT: true; the input reads as it did. -/
def flagfuseBlocksSpec : ChangeSpec := { name := "flagfuseBlocks", fn := fun _ => fun
  | [d] => { results := [.lit (.bool true)], args := [d] }
  | _ => none }
def flagfuseBlocksRow : OpenClaim := { program := "ytlidimmfpfockaagreatdoor", sum := "51513fce56d26939b4f25e482269298e9790311e01a8c4f64480443acc2c2724", func := "decompiler/decompilerlaw23.FlagfuseBlocks", spec := "flagfuseBlocks", inPlace := ["internal/abi.NoEscape", "internal/bytealg.MakeNoZero"], unfollowed := true, recurses := true, named := ["internal/strconv.uint64pow10", "math/bits.deBruijn32tab", "math/bits.deBruijn64tab"], loops := true, apart := false, laid := [("math/bits.deBruijn32tab", laid_math_bits_deBruijn32tab), ("math/bits.deBruijn64tab", laid_math_bits_deBruijn64tab), ("internal/strconv.uint64pow10", laid_internal_strconv_uint64pow10)] }
def FlagfuseBlocksSaid : Prop := flagfuseBlocksRow.holds Tryz.pinned (OpenSpec.ofChange flagfuseBlocksSpec)

/-- ITS FALSE NEIGHBOUR: 'it returns false'. Refute it at one input. -/
def flagfuseBlocksWrong : ChangeSpec := { name := "flagfuseBlocks", fn := fun _ => fun
  | [d] => { results := [.lit (.bool false)], args := [d] }
  | _ => none }
def FlagfuseBlocksWrongFalsely : Prop := flagfuseBlocksRow.holds Tryz.pinned (OpenSpec.ofChange flagfuseBlocksWrong)

/-- 'decompilerlaw22.SimplifyGraph': WHATEVER THE INPUT: true; the input reads as it did. -/
def simplifyGraphSpec : ChangeSpec := { name := "simplifyGraph", fn := fun _ => fun
  | [d] => { results := [.lit (.bool true)], args := [d] }
  | _ => none }
def simplifyGraphRow : OpenClaim := { program := "ytlidimmfpfockaagreatdoor", sum := "51513fce56d26939b4f25e482269298e9790311e01a8c4f64480443acc2c2724", func := "decompiler/decompilerlaw22.SimplifyGraph", spec := "simplifyGraph", inPlace := ["internal/abi.NoEscape", "internal/bytealg.MakeNoZero"], unfollowed := true, recurses := true, named := ["internal/strconv.uint64pow10", "math/bits.deBruijn32tab", "math/bits.deBruijn64tab"], loops := true, apart := false, laid := [("math/bits.deBruijn32tab", laid_math_bits_deBruijn32tab), ("math/bits.deBruijn64tab", laid_math_bits_deBruijn64tab), ("internal/strconv.uint64pow10", laid_internal_strconv_uint64pow10)] }
def SimplifyGraphSaid : Prop := simplifyGraphRow.holds Tryz.pinned (OpenSpec.ofChange simplifyGraphSpec)

/-- ITS FALSE NEIGHBOUR: 'it returns false'. Refute it at one input. -/
def simplifyGraphWrong : ChangeSpec := { name := "simplifyGraph", fn := fun _ => fun
  | [d] => { results := [.lit (.bool false)], args := [d] }
  | _ => none }
def SimplifyGraphWrongFalsely : Prop := simplifyGraphRow.holds Tryz.pinned (OpenSpec.ofChange simplifyGraphWrong)

/-- 'decompilerlaw23.FlagfuseGraphs': WHATEVER THE INPUT: true; the input reads as it did. -/
def flagfuseGraphsSpec : ChangeSpec := { name := "flagfuseGraphs", fn := fun _ => fun
  | [d] => { results := [.lit (.bool true)], args := [d] }
  | _ => none }
def flagfuseGraphsRow : OpenClaim := { program := "ytlidimmfpfockaagreatdoor", sum := "51513fce56d26939b4f25e482269298e9790311e01a8c4f64480443acc2c2724", func := "decompiler/decompilerlaw23.FlagfuseGraphs", spec := "flagfuseGraphs", inPlace := ["internal/abi.NoEscape", "internal/bytealg.MakeNoZero"], unfollowed := true, recurses := true, named := ["internal/strconv.uint64pow10", "math/bits.deBruijn32tab", "math/bits.deBruijn64tab"], loops := true, apart := false, laid := [("math/bits.deBruijn32tab", laid_math_bits_deBruijn32tab), ("math/bits.deBruijn64tab", laid_math_bits_deBruijn64tab), ("internal/strconv.uint64pow10", laid_internal_strconv_uint64pow10)] }
def FlagfuseGraphsSaid : Prop := flagfuseGraphsRow.holds Tryz.pinned (OpenSpec.ofChange flagfuseGraphsSpec)

/-- ITS FALSE NEIGHBOUR: 'it returns false'. Refute it at one input. -/
def flagfuseGraphsWrong : ChangeSpec := { name := "flagfuseGraphs", fn := fun _ => fun
  | [d] => { results := [.lit (.bool false)], args := [d] }
  | _ => none }
def FlagfuseGraphsWrongFalsely : Prop := flagfuseGraphsRow.holds Tryz.pinned (OpenSpec.ofChange flagfuseGraphsWrong)

/- THE SECOND FORM. 'bulk': how many values and letters a reading holds, each counted each time it is reached (what is shared counts as often as it is met; a slice's spare places count too). A statement '..UptoSaid' is the law's where the arguments, and the package variables that the reading takes, are together of bulk at most 1048576: NARROWER than '..Said'. Prove '..Said' where nothing that the law and all that it calls make is longer than what came in: it says more and counts as full. Else prove '..UptoSaid'. A law counts once. -/
mutual
def uptoBulk {H : Type} : DataW H → Nat
  | .lit (.string bytes) => bytes.length + 1
  | .lit _ => 1
  | .nil => 1
  | .ptr d => uptoBulk d + 1
  | .slice elems spare => uptoBulkAll elems + uptoBulkAll spare + 1
  | .agg parts => uptoBulkAll parts + 1
  | .iface _ d => uptoBulk d + 1
  | .map entries => uptoBulkEntries entries + 1
  | .held _ => 1
def uptoBulkAll {H : Type} : List (DataW H) → Nat
  | [] => 0
  | d :: r => uptoBulk d + uptoBulkAll r
def uptoBulkEntries {H : Type} : List (Lit × DataW H) → Nat
  | [] => 0
  | x :: r => uptoBulkEntry x + uptoBulkEntries r
def uptoBulkEntry {H : Type} : Lit × DataW H → Nat
  | (.string bytes, d) => bytes.length + uptoBulk d + 1
  | (_, d) => uptoBulk d + 1
 end
def uptoSmall : (H : Type) → List (DataW H) → Bool := fun _ ds => decide (uptoBulkAll ds ≤ 1048576)
def OpenSpec.upto (s : _root_.Go.ChangeSpec) : _root_.Go.OpenSpec := { _root_.Go.OpenSpec.ofChange s with cond := some uptoSmall }

/-- 'decompilerlaw19.IlStmtText', WHERE WHAT IT READS IS OF BULK AT MOST 1048576: true; the input reads as it did. -/
def ilStmtTextUptoRow : OpenClaim := { program := "ytlidimmfpfockaagreatdoor", sum := "51513fce56d26939b4f25e482269298e9790311e01a8c4f64480443acc2c2724", func := "decompiler/decompilerlaw19.IlStmtText", spec := "ilStmtText", inPlace := ["internal/abi.NoEscape", "internal/bytealg.MakeNoZero"], unfollowed := true, recurses := true, named := ["internal/strconv.uint64pow10", "math/bits.deBruijn32tab", "math/bits.deBruijn64tab"], loops := true, apart := false, laid := [("math/bits.deBruijn32tab", laid_math_bits_deBruijn32tab), ("math/bits.deBruijn64tab", laid_math_bits_deBruijn64tab), ("internal/strconv.uint64pow10", laid_internal_strconv_uint64pow10)], narrowed := true }
def IlStmtTextUptoSaid : Prop := ilStmtTextUptoRow.holds Tryz.pinned (OpenSpec.upto ilStmtTextSpec)

/-- 'decompilerlaw19.IlText', WHERE WHAT IT READS IS OF BULK AT MOST 1048576: true; the input reads as it did. -/
def ilTextUptoRow : OpenClaim := { program := "ytlidimmfpfockaagreatdoor", sum := "51513fce56d26939b4f25e482269298e9790311e01a8c4f64480443acc2c2724", func := "decompiler/decompilerlaw19.IlText", spec := "ilText", inPlace := ["internal/abi.NoEscape", "internal/bytealg.MakeNoZero"], unfollowed := true, recurses := true, named := ["internal/strconv.uint64pow10", "math/bits.deBruijn32tab", "math/bits.deBruijn64tab"], loops := true, apart := false, laid := [("math/bits.deBruijn32tab", laid_math_bits_deBruijn32tab), ("math/bits.deBruijn64tab", laid_math_bits_deBruijn64tab), ("internal/strconv.uint64pow10", laid_internal_strconv_uint64pow10)], narrowed := true }
def IlTextUptoSaid : Prop := ilTextUptoRow.holds Tryz.pinned (OpenSpec.upto ilTextSpec)

/-- 'decompilerlaw22.SimplifyExact', WHERE WHAT IT READS IS OF BULK AT MOST 1048576: true; the input reads as it did. -/
def simplifyExactUptoRow : OpenClaim := { program := "ytlidimmfpfockaagreatdoor", sum := "51513fce56d26939b4f25e482269298e9790311e01a8c4f64480443acc2c2724", func := "decompiler/decompilerlaw22.SimplifyExact", spec := "simplifyExact", inPlace := ["internal/abi.NoEscape", "internal/bytealg.MakeNoZero"], unfollowed := true, recurses := true, named := ["internal/strconv.uint64pow10", "math/bits.deBruijn32tab", "math/bits.deBruijn64tab"], loops := true, apart := false, laid := [("math/bits.deBruijn32tab", laid_math_bits_deBruijn32tab), ("math/bits.deBruijn64tab", laid_math_bits_deBruijn64tab), ("internal/strconv.uint64pow10", laid_internal_strconv_uint64pow10)], narrowed := true }
def SimplifyExactUptoSaid : Prop := simplifyExactUptoRow.holds Tryz.pinned (OpenSpec.upto simplifyExactSpec)

/-- 'decompilerlaw22.SimplifyStmt', WHERE WHAT IT READS IS OF BULK AT MOST 1048576: true; the input reads as it did. -/
def simplifyStmtUptoRow : OpenClaim := { program := "ytlidimmfpfockaagreatdoor", sum := "51513fce56d26939b4f25e482269298e9790311e01a8c4f64480443acc2c2724", func := "decompiler/decompilerlaw22.SimplifyStmt", spec := "simplifyStmt", inPlace := ["internal/abi.NoEscape", "internal/bytealg.MakeNoZero"], unfollowed := true, recurses := true, named := ["internal/strconv.uint64pow10", "math/bits.deBruijn32tab", "math/bits.deBruijn64tab"], loops := true, apart := false, laid := [("math/bits.deBruijn32tab", laid_math_bits_deBruijn32tab), ("math/bits.deBruijn64tab", laid_math_bits_deBruijn64tab), ("internal/strconv.uint64pow10", laid_internal_strconv_uint64pow10)], narrowed := true }
def SimplifyStmtUptoSaid : Prop := simplifyStmtUptoRow.holds Tryz.pinned (OpenSpec.upto simplifyStmtSpec)

/-- 'decompilerlaw22.SimplifyBranch', WHERE WHAT IT READS IS OF BULK AT MOST 1048576: true; the input reads as it did. -/
def simplifyBranchUptoRow : OpenClaim := { program := "ytlidimmfpfockaagreatdoor", sum := "51513fce56d26939b4f25e482269298e9790311e01a8c4f64480443acc2c2724", func := "decompiler/decompilerlaw22.SimplifyBranch", spec := "simplifyBranch", inPlace := ["internal/abi.NoEscape", "internal/bytealg.MakeNoZero"], unfollowed := true, recurses := true, named := ["internal/strconv.uint64pow10", "math/bits.deBruijn32tab", "math/bits.deBruijn64tab"], loops := true, apart := false, laid := [("math/bits.deBruijn32tab", laid_math_bits_deBruijn32tab), ("math/bits.deBruijn64tab", laid_math_bits_deBruijn64tab), ("internal/strconv.uint64pow10", laid_internal_strconv_uint64pow10)], narrowed := true }
def SimplifyBranchUptoSaid : Prop := simplifyBranchUptoRow.holds Tryz.pinned (OpenSpec.upto simplifyBranchSpec)

/-- 'decompilerlaw23.FlagfuseBlocks', WHERE WHAT IT READS IS OF BULK AT MOST 1048576: true; the input reads as it did. -/
def flagfuseBlocksUptoRow : OpenClaim := { program := "ytlidimmfpfockaagreatdoor", sum := "51513fce56d26939b4f25e482269298e9790311e01a8c4f64480443acc2c2724", func := "decompiler/decompilerlaw23.FlagfuseBlocks", spec := "flagfuseBlocks", inPlace := ["internal/abi.NoEscape", "internal/bytealg.MakeNoZero"], unfollowed := true, recurses := true, named := ["internal/strconv.uint64pow10", "math/bits.deBruijn32tab", "math/bits.deBruijn64tab"], loops := true, apart := false, laid := [("math/bits.deBruijn32tab", laid_math_bits_deBruijn32tab), ("math/bits.deBruijn64tab", laid_math_bits_deBruijn64tab), ("internal/strconv.uint64pow10", laid_internal_strconv_uint64pow10)], narrowed := true }
def FlagfuseBlocksUptoSaid : Prop := flagfuseBlocksUptoRow.holds Tryz.pinned (OpenSpec.upto flagfuseBlocksSpec)

/-- 'decompilerlaw22.SimplifyGraph', WHERE WHAT IT READS IS OF BULK AT MOST 1048576: true; the input reads as it did. -/
def simplifyGraphUptoRow : OpenClaim := { program := "ytlidimmfpfockaagreatdoor", sum := "51513fce56d26939b4f25e482269298e9790311e01a8c4f64480443acc2c2724", func := "decompiler/decompilerlaw22.SimplifyGraph", spec := "simplifyGraph", inPlace := ["internal/abi.NoEscape", "internal/bytealg.MakeNoZero"], unfollowed := true, recurses := true, named := ["internal/strconv.uint64pow10", "math/bits.deBruijn32tab", "math/bits.deBruijn64tab"], loops := true, apart := false, laid := [("math/bits.deBruijn32tab", laid_math_bits_deBruijn32tab), ("math/bits.deBruijn64tab", laid_math_bits_deBruijn64tab), ("internal/strconv.uint64pow10", laid_internal_strconv_uint64pow10)], narrowed := true }
def SimplifyGraphUptoSaid : Prop := simplifyGraphUptoRow.holds Tryz.pinned (OpenSpec.upto simplifyGraphSpec)

/-- 'decompilerlaw23.FlagfuseGraphs', WHERE WHAT IT READS IS OF BULK AT MOST 1048576: true; the input reads as it did. -/
def flagfuseGraphsUptoRow : OpenClaim := { program := "ytlidimmfpfockaagreatdoor", sum := "51513fce56d26939b4f25e482269298e9790311e01a8c4f64480443acc2c2724", func := "decompiler/decompilerlaw23.FlagfuseGraphs", spec := "flagfuseGraphs", inPlace := ["internal/abi.NoEscape", "internal/bytealg.MakeNoZero"], unfollowed := true, recurses := true, named := ["internal/strconv.uint64pow10", "math/bits.deBruijn32tab", "math/bits.deBruijn64tab"], loops := true, apart := false, laid := [("math/bits.deBruijn32tab", laid_math_bits_deBruijn32tab), ("math/bits.deBruijn64tab", laid_math_bits_deBruijn64tab), ("internal/strconv.uint64pow10", laid_internal_strconv_uint64pow10)], narrowed := true }
def FlagfuseGraphsUptoSaid : Prop := flagfuseGraphsUptoRow.holds Tryz.pinned (OpenSpec.upto flagfuseGraphsSpec)

end Rows
end Go.Proofs.YtlidimmfpfockaaGreatDoor
