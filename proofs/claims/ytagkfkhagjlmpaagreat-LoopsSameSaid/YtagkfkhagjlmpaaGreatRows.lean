/-
  NARROWER THAN 'FOR EVERY INPUT', by the rows' own cells (each row's printed sentence says how): LoopsSplits: loops · LoopsSame: loops.
  DERIVED. THE GIVEN ROWS OF THIS SEAT. 2 by the template 'for every input the law returns true; each argument reads behind the call as it read before'; 0 by the template 'total and deterministic' (their statements: YtagkfkhagjlmpaaGreatTotals.lean).
  GIVEN WITH THE SEED: the statements are not yours to turn. If you find one false, say at which input.
  Laid BY PROGRAM, IN A SANDBOX (cutbox-rows.mjs): the forced cells as the released guide's own fill.sh prints them over the translation be28805bf2c82cce… (all of the seat's roots in one cut). By AI agents, Wed Nov 11 2026. No macro, syntax, notation, axiom, sorry.
-/
import Derived.Test.YtagkfkhagjlmpaaGreatChecked
import GoSem.Claim
import GoSem.ClaimJoined
import GoSem.ClaimMapViews
import Derived.JoinedTies
import Derived.KernelRfl
namespace Go.Proofs.YtagkfkhagjlmpaaGreat
/- THE CELL 'sum', in the pinned program and in every row, IS THE sha256 OF THE DUMP (.gsa) THAT YtagkfkhagjlmpaaGreatProg.lean LOADS. Nothing in Lean hashes anything: it is a label: what it is worth is what the hold of that sum in a sandbox is worth. -/
noncomputable def Tryz.pinned : Pinned := { name := "ytagkfkhagjlmpaagreat", sum := "be28805bf2c82ccecf05327a6257748250fa60266820151ef14154dfeaaa945d", checked := Tryz.checked }
namespace Rows
def none {H : Type} : Left H := { results := [], args := [] }

/-- 'decompilerlaw35.LoopsSplits': WHATEVER THE INPUT: true; the input reads as it did. -/
def loopsSplitsSpec : ChangeSpec := { name := "loopsSplits", fn := fun _ => fun
  | [d] => { results := [.lit (.bool true)], args := [d] }
  | _ => none }
def loopsSplitsRow : OpenClaim := { program := "ytagkfkhagjlmpaagreat", sum := "be28805bf2c82ccecf05327a6257748250fa60266820151ef14154dfeaaa945d", func := "decompiler/decompilerlaw35.LoopsSplits", spec := "loopsSplits", inPlace := ["maps.clone"], unfollowed := true, recurses := true, loops := true, apart := false }
def LoopsSplitsSaid : Prop := loopsSplitsRow.holds Tryz.pinned (OpenSpec.ofChange loopsSplitsSpec)

/-- ITS FALSE NEIGHBOUR: 'it returns false'. Refute it at one input. -/
def loopsSplitsWrong : ChangeSpec := { name := "loopsSplits", fn := fun _ => fun
  | [d] => { results := [.lit (.bool false)], args := [d] }
  | _ => none }
def LoopsSplitsWrongFalsely : Prop := loopsSplitsRow.holds Tryz.pinned (OpenSpec.ofChange loopsSplitsWrong)

/-- 'decompilerlaw35.LoopsSame': WHATEVER THE INPUT: true; the input reads as it did. -/
def loopsSameSpec : ChangeSpec := { name := "loopsSame", fn := fun _ => fun
  | [d1, d2, d3, d4] => { results := [.lit (.bool true)], args := [d1, d2, d3, d4] }
  | _ => none }
def loopsSameRow : OpenClaim := { program := "ytagkfkhagjlmpaagreat", sum := "be28805bf2c82ccecf05327a6257748250fa60266820151ef14154dfeaaa945d", func := "decompiler/decompilerlaw35.LoopsSame", spec := "loopsSame", inPlace := ["maps.clone"], unfollowed := true, recurses := true, loops := true, apart := false }
def LoopsSameSaid : Prop := loopsSameRow.holds Tryz.pinned (OpenSpec.ofChange loopsSameSpec)

/-- ITS FALSE NEIGHBOUR: 'it returns false'. Refute it at one input. -/
def loopsSameWrong : ChangeSpec := { name := "loopsSame", fn := fun _ => fun
  | [d1, d2, d3, d4] => { results := [.lit (.bool false)], args := [d1, d2, d3, d4] }
  | _ => none }
def LoopsSameWrongFalsely : Prop := loopsSameRow.holds Tryz.pinned (OpenSpec.ofChange loopsSameWrong)

/- THE SECOND FORM. 'bulk': how many values and letters a reading holds, each counted each time it is reached (what is shared counts as often as it is met; a slice's spare places count too). A statement '..UptoSaid' is the law's where the arguments, and the package variables that the reading takes, are together of bulk at most 1048576: NARROWER than '..Said'. Prove '..Said' where nothing that the law and all that it calls make is longer than what came in: it says more and counts as full. Else prove '..UptoSaid'. A law counts once. -/
mutual
def uptoBulk {H : Type} : DataW H → Nat
  | .lit (.string bytes) => bytes.length + 1
  | .lit _ => 1
  | .nil => 1
  | .ptr d => uptoBulk d + 1
  | .slice elems spare => uptoBulkAll elems + uptoBulkAll spare + 1
  | .agg parts => uptoBulkAll parts + 1
  | .iface _ d => uptoBulk d + 1
  | .map entries => uptoBulkEntries entries + 1
  | .held _ => 1
def uptoBulkAll {H : Type} : List (DataW H) → Nat
  | [] => 0
  | d :: r => uptoBulk d + uptoBulkAll r
def uptoBulkEntries {H : Type} : List (Lit × DataW H) → Nat
  | [] => 0
  | x :: r => uptoBulkEntry x + uptoBulkEntries r
def uptoBulkEntry {H : Type} : Lit × DataW H → Nat
  | (.string bytes, d) => bytes.length + uptoBulk d + 1
  | (_, d) => uptoBulk d + 1
 end
def uptoSmall : (H : Type) → List (DataW H) → Bool := fun _ ds => decide (uptoBulkAll ds ≤ 1048576)
def OpenSpec.upto (s : _root_.Go.ChangeSpec) : _root_.Go.OpenSpec := { _root_.Go.OpenSpec.ofChange s with cond := some uptoSmall }

/-- 'decompilerlaw35.LoopsSplits', WHERE WHAT IT READS IS OF BULK AT MOST 1048576: true; the input reads as it did. -/
def loopsSplitsUptoRow : OpenClaim := { program := "ytagkfkhagjlmpaagreat", sum := "be28805bf2c82ccecf05327a6257748250fa60266820151ef14154dfeaaa945d", func := "decompiler/decompilerlaw35.LoopsSplits", spec := "loopsSplits", inPlace := ["maps.clone"], unfollowed := true, recurses := true, loops := true, apart := false, narrowed := true }
def LoopsSplitsUptoSaid : Prop := loopsSplitsUptoRow.holds Tryz.pinned (OpenSpec.upto loopsSplitsSpec)

/-- 'decompilerlaw35.LoopsSame', WHERE WHAT IT READS IS OF BULK AT MOST 1048576: true; the input reads as it did. -/
def loopsSameUptoRow : OpenClaim := { program := "ytagkfkhagjlmpaagreat", sum := "be28805bf2c82ccecf05327a6257748250fa60266820151ef14154dfeaaa945d", func := "decompiler/decompilerlaw35.LoopsSame", spec := "loopsSame", inPlace := ["maps.clone"], unfollowed := true, recurses := true, loops := true, apart := false, narrowed := true }
def LoopsSameUptoSaid : Prop := loopsSameUptoRow.holds Tryz.pinned (OpenSpec.upto loopsSameSpec)

end Rows
end Go.Proofs.YtagkfkhagjlmpaaGreat
