/- Texts that the claim leans on, laid one behind the other: Wu. -/
import Derived.Test.YtpmpiidndgjaaaaGreatZW
import Derived.LaidSub
import Derived.MakeChecks
import Derived.Lib.LaidTab
import Derived.Shelf.Vars
import Derived.ChangeMaps5
set_option linter.unusedSimpArgs false
set_option linter.unusedVariables false
set_option linter.unnecessarySimpa false
/- The tables of the seats that lean on no table but on the number MaxLen; a string as an argument. -/
namespace Go.Proofs.YtpmpiidndgjaaaaGreat
open Go.RowKit Go.ChangeShapes Go.WideShapes
theorem gb_ofN {l : List (String × DataW Unit)} {W : World} (hS : W.ShapedOpen Tryz.prog) (_ : l = l) (h : laidMetH Tryz.prog l W) : GbIs W := by
  refine ⟨fun p hp => by simp [GB] at hp, fun g hg => ?_⟩
  simp only [GBI, List.mem_cons, List.not_mem_nil, or_false] at hg
  subst hg
  obtain ⟨m, hm⟩ := Go.Proofs.cell_of_shapedOpen_int (P := Tryz.prog) (w := W) (g := 0) (zero := #[.int .i64 0]) (t := 3) hS (of_decide_eq_true (by kernel_rfl)) (by kernel_rfl) rfl (by kernel_rfl) (by kernel_rfl) Tryz.underlying3
  exact ⟨World.block_lt_of_cell? _ _ hm, m, hm⟩
theorem hok_of {W : World} (h : GbIs W) : HOk (fun _ => False) (fun _ => none) [] W := HOk.nil (fun _ h => h.elim) h
end Go.Proofs.YtpmpiidndgjaaaaGreat
