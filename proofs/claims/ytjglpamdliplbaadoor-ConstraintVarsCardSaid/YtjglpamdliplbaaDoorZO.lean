/- Texts that the claim leans on, laid one behind the other: Oa, Ob, Oc, Od, Oe, Of. -/
import Derived.Test.YtjglpamdliplbaaDoorZB
import Derived.Test.YtjglpamdliplbaaDoorZP
import Derived.Test.YtjglpamdliplbaaDoorZM
import Derived.Test.YtjglpamdliplbaaDoorZD
import Derived.Test.YtjglpamdliplbaaDoorAr
import Derived.Test.YtjglpamdliplbaaDoorAv
set_option linter.unusedSimpArgs false
set_option linter.unusedVariables false
set_option linter.unnecessarySimpa false
/- The rewriting of blocks by flagfuse as plain functions. No program in sight. -/
namespace Go.Proofs.YtjglpamdliplbaaDoor
open Go.RowKit
end Go.Proofs.YtjglpamdliplbaaDoor

/- Contracts: slices.Contains at numbers; flagfuse's own, free, flags, logic. -/
namespace Go.Proofs.YtjglpamdliplbaaDoor
open Go.RowKit
/-- An expression's cells. -/
@[simp] def exCf (e : Ex) : List AV := [aI .i64 e.op, aI .u32 e.n, aI .i64 e.v, aI .i64 e.wd, .d (.sl 5 (Ex.ds e.l))]
/-- A pair of expressions; four. -/
@[simp] def prA (a b : Ex) : AV := .agg (exCf a ++ exCf b)
@[simp] def fourA (a b c d : Ex) : AV := .agg (exCf a ++ exCf b ++ exCf c ++ exCf d)
end Go.Proofs.YtjglpamdliplbaaDoor

/- Contracts: flagfuse's assigned, comparison. -/
namespace Go.Proofs.YtjglpamdliplbaaDoor
open Go.RowKit
end Go.Proofs.YtjglpamdliplbaaDoor

/- Contracts: flagfuse's ends, replace, rewrite. -/
namespace Go.Proofs.YtjglpamdliplbaaDoor
open Go.RowKit
end Go.Proofs.YtjglpamdliplbaaDoor

/- Contract: flagfuse.Block. -/
namespace Go.Proofs.YtjglpamdliplbaaDoor
open Go.RowKit
end Go.Proofs.YtjglpamdliplbaaDoor

/- Contracts: law 23's large; the reference's comparisons of statements and blocks that are the same. -/
namespace Go.Proofs.YtjglpamdliplbaaDoor
open Go.RowKit
end Go.Proofs.YtjglpamdliplbaaDoor
