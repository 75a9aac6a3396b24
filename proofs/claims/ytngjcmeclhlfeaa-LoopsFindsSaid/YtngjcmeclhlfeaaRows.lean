/-
  NARROWER THAN 'FOR EVERY INPUT', by the rows' own cells (each row's printed sentence says how): LoopsEdges: loops · LoopsFinds: loops · LoopsNest: loops.
  DERIVED. THE GIVEN ROWS OF THIS SEAT. 4 by the template 'for every input the law returns true; each argument reads behind the call as it read before'; 0 by the template 'total and deterministic' (their statements: YtngjcmeclhlfeaaTotals.lean).
  GIVEN WITH THE SEED: the statements are not yours to turn. If you find one false, say at which input.
  Laid BY PROGRAM, IN A SANDBOX (cutbox-rows.mjs): the forced cells as the released guide's own fill.sh prints them over the translation 2d206e47f76706ba… (all of the seat's roots in one cut). By AI agents, Wed Nov 11 2026. No macro, syntax, notation, axiom, sorry.
-/
import Derived.Test.YtngjcmeclhlfeaaChecked
import GoSem.Claim
import GoSem.ClaimJoined
import GoSem.ClaimMapViews
import Derived.JoinedTies
import Derived.KernelRfl
namespace Go.Proofs.Ytngjcmeclhlfeaa
/- THE CELL 'sum', in the pinned program and in every row, IS THE sha256 OF THE DUMP (.gsa) THAT YtngjcmeclhlfeaaProg.lean LOADS. Nothing in Lean hashes anything: it is a label: what it is worth is what the hold of that sum in a sandbox is worth. -/
noncomputable def Try.pinned : Pinned := { name := "ytngjcmeclhlfeaa", sum := "2d206e47f76706baae56b19fcd0c6bd1db62a24a0f405a2781dbe3bbffb5bd31", checked := Try.checked }
namespace Rows
def none {H : Type} : Left H := { results := [], args := [] }

/-- 'decompilerlaw35.LoopsEdges': WHATEVER THE INPUT: true; the input reads as it did. -/
def loopsEdgesSpec : ChangeSpec := { name := "loopsEdges", fn := fun _ => fun
  | [d] => { results := [.lit (.bool true)], args := [d] }
  | _ => none }
def loopsEdgesRow : OpenClaim := { program := "ytngjcmeclhlfeaa", sum := "2d206e47f76706baae56b19fcd0c6bd1db62a24a0f405a2781dbe3bbffb5bd31", func := "decompiler/decompilerlaw35.LoopsEdges", spec := "loopsEdges", inPlace := ["maps.clone"], unfollowed := true, recurses := true, loops := true, apart := false }
def LoopsEdgesSaid : Prop := loopsEdgesRow.holds Try.pinned (OpenSpec.ofChange loopsEdgesSpec)

/-- ITS FALSE NEIGHBOUR: 'it returns false'. Refute it at one input. -/
def loopsEdgesWrong : ChangeSpec := { name := "loopsEdges", fn := fun _ => fun
  | [d] => { results := [.lit (.bool false)], args := [d] }
  | _ => none }
def LoopsEdgesWrongFalsely : Prop := loopsEdgesRow.holds Try.pinned (OpenSpec.ofChange loopsEdgesWrong)

/-- 'decompilerlaw35.LoopsFinds': WHATEVER THE INPUT: true; the input reads as it did. -/
def loopsFindsSpec : ChangeSpec := { name := "loopsFinds", fn := fun _ => fun
  | [d] => { results := [.lit (.bool true)], args := [d] }
  | _ => none }
def loopsFindsRow : OpenClaim := { program := "ytngjcmeclhlfeaa", sum := "2d206e47f76706baae56b19fcd0c6bd1db62a24a0f405a2781dbe3bbffb5bd31", func := "decompiler/decompilerlaw35.LoopsFinds", spec := "loopsFinds", inPlace := ["maps.clone"], unfollowed := true, recurses := true, loops := true, apart := false }
def LoopsFindsSaid : Prop := loopsFindsRow.holds Try.pinned (OpenSpec.ofChange loopsFindsSpec)

/-- ITS FALSE NEIGHBOUR: 'it returns false'. Refute it at one input. -/
def loopsFindsWrong : ChangeSpec := { name := "loopsFinds", fn := fun _ => fun
  | [d] => { results := [.lit (.bool false)], args := [d] }
  | _ => none }
def LoopsFindsWrongFalsely : Prop := loopsFindsRow.holds Try.pinned (OpenSpec.ofChange loopsFindsWrong)

/-- 'decompilerlaw35.LoopsInnermost': WHATEVER THE INPUT: true; the input reads as it did. -/
def loopsInnermostSpec : ChangeSpec := { name := "loopsInnermost", fn := fun _ => fun
  | [d1, d2] => { results := [.lit (.bool true)], args := [d1, d2] }
  | _ => none }
def loopsInnermostRow : OpenClaim := { program := "ytngjcmeclhlfeaa", sum := "2d206e47f76706baae56b19fcd0c6bd1db62a24a0f405a2781dbe3bbffb5bd31", func := "decompiler/decompilerlaw35.LoopsInnermost", spec := "loopsInnermost", inPlace := ["maps.clone"], unfollowed := true, recurses := true, apart := false }
def LoopsInnermostSaid : Prop := loopsInnermostRow.holds Try.pinned (OpenSpec.ofChange loopsInnermostSpec)

/-- ITS FALSE NEIGHBOUR: 'it returns false'. Refute it at one input. -/
def loopsInnermostWrong : ChangeSpec := { name := "loopsInnermost", fn := fun _ => fun
  | [d1, d2] => { results := [.lit (.bool false)], args := [d1, d2] }
  | _ => none }
def LoopsInnermostWrongFalsely : Prop := loopsInnermostRow.holds Try.pinned (OpenSpec.ofChange loopsInnermostWrong)

/-- 'decompilerlaw35.LoopsNest': WHATEVER THE INPUT: true; the input reads as it did. -/
def loopsNestSpec : ChangeSpec := { name := "loopsNest", fn := fun _ => fun
  | [d] => { results := [.lit (.bool true)], args := [d] }
  | _ => none }
def loopsNestRow : OpenClaim := { program := "ytngjcmeclhlfeaa", sum := "2d206e47f76706baae56b19fcd0c6bd1db62a24a0f405a2781dbe3bbffb5bd31", func := "decompiler/decompilerlaw35.LoopsNest", spec := "loopsNest", inPlace := ["maps.clone"], unfollowed := true, recurses := true, loops := true, apart := false }
def LoopsNestSaid : Prop := loopsNestRow.holds Try.pinned (OpenSpec.ofChange loopsNestSpec)

/-- ITS FALSE NEIGHBOUR: 'it returns false'. Refute it at one input. -/
def loopsNestWrong : ChangeSpec := { name := "loopsNest", fn := fun _ => fun
  | [d] => { results := [.lit (.bool false)], args := [d] }
  | _ => none }
def LoopsNestWrongFalsely : Prop := loopsNestRow.holds Try.pinned (OpenSpec.ofChange loopsNestWrong)

/- THE SECOND FORM. 'bulk': how many values and letters a reading holds, each counted each time it is reached (what is shared counts as often as it is met; a slice's spare places count too). A statement '..UptoSaid' is the law's where the arguments, and the package variables that the reading takes, are together of bulk at most 1048576: NARROWER than '..Said'. Prove '..Said' where nothing that the law and all that it calls make is longer than what came in: it says more and counts as full. Else prove '..UptoSaid'. A law counts once. -/
mutual
def uptoBulk {H : Type} : DataW H → Nat
  | .lit (.string bytes) => bytes.length + 1
  | .lit _ => 1
  | .nil => 1
  | .ptr d => uptoBulk d + 1
  | .slice elems spare => uptoBulkAll elems + uptoBulkAll spare + 1
  | .agg parts => uptoBulkAll parts + 1
  | .iface _ d => uptoBulk d + 1
  | .map entries => uptoBulkEntries entries + 1
  | .held _ => 1
def uptoBulkAll {H : Type} : List (DataW H) → Nat
  | [] => 0
  | d :: r => uptoBulk d + uptoBulkAll r
def uptoBulkEntries {H : Type} : List (Lit × DataW H) → Nat
  | [] => 0
  | x :: r => uptoBulkEntry x + uptoBulkEntries r
def uptoBulkEntry {H : Type} : Lit × DataW H → Nat
  | (.string bytes, d) => bytes.length + uptoBulk d + 1
  | (_, d) => uptoBulk d + 1
 end
def uptoSmall : (H : Type) → List (DataW H) → Bool := fun _ ds => decide (uptoBulkAll ds ≤ 1048576)
def OpenSpec.upto (s : _root_.Go.ChangeSpec) : _root_.Go.OpenSpec := { _root_.Go.OpenSpec.ofChange s with cond := some uptoSmall }

/-- 'decompilerlaw35.LoopsEdges', WHERE WHAT IT READS IS OF BULK AT MOST 1048576: true; the input reads as it did. -/
def loopsEdgesUptoRow : OpenClaim := { program := "ytngjcmeclhlfeaa", sum := "2d206e47f76706baae56b19fcd0c6bd1db62a24a0f405a2781dbe3bbffb5bd31", func := "decompiler/decompilerlaw35.LoopsEdges", spec := "loopsEdges", inPlace := ["maps.clone"], unfollowed := true, recurses := true, loops := true, apart := false, narrowed := true }
def LoopsEdgesUptoSaid : Prop := loopsEdgesUptoRow.holds Try.pinned (OpenSpec.upto loopsEdgesSpec)

/-- 'decompilerlaw35.LoopsFinds', WHERE WHAT IT READS IS OF BULK AT MOST 1048576: true; the input reads as it did. -/
def loopsFindsUptoRow : OpenClaim := { program := "ytngjcmeclhlfeaa", sum := "2d206e47f76706baae56b19fcd0c6bd1db62a24a0f405a2781dbe3bbffb5bd31", func := "decompiler/decompilerlaw35.LoopsFinds", spec := "loopsFinds", inPlace := ["maps.clone"], unfollowed := true, recurses := true, loops := true, apart := false, narrowed := true }
def LoopsFindsUptoSaid : Prop := loopsFindsUptoRow.holds Try.pinned (OpenSpec.upto loopsFindsSpec)

/-- 'decompilerlaw35.LoopsInnermost', WHERE WHAT IT READS IS OF BULK AT MOST 1048576: true; the input reads as it did. -/
def loopsInnermostUptoRow : OpenClaim := { program := "ytngjcmeclhlfeaa", sum := "2d206e47f76706baae56b19fcd0c6bd1db62a24a0f405a2781dbe3bbffb5bd31", func := "decompiler/decompilerlaw35.LoopsInnermost", spec := "loopsInnermost", inPlace := ["maps.clone"], unfollowed := true, recurses := true, apart := false, narrowed := true }
def LoopsInnermostUptoSaid : Prop := loopsInnermostUptoRow.holds Try.pinned (OpenSpec.upto loopsInnermostSpec)

/-- 'decompilerlaw35.LoopsNest', WHERE WHAT IT READS IS OF BULK AT MOST 1048576: true; the input reads as it did. -/
def loopsNestUptoRow : OpenClaim := { program := "ytngjcmeclhlfeaa", sum := "2d206e47f76706baae56b19fcd0c6bd1db62a24a0f405a2781dbe3bbffb5bd31", func := "decompiler/decompilerlaw35.LoopsNest", spec := "loopsNest", inPlace := ["maps.clone"], unfollowed := true, recurses := true, loops := true, apart := false, narrowed := true }
def LoopsNestUptoSaid : Prop := loopsNestUptoRow.holds Try.pinned (OpenSpec.upto loopsNestSpec)

end Rows
end Go.Proofs.Ytngjcmeclhlfeaa
