/- Texts that the claim leans on, laid one behind the other: Mv. -/
import Derived.Test.YtpmpiidndgjaaaaGreatZD
import Derived.Test.YtpmpiidndgjaaaaGreatAn
set_option linter.unusedSimpArgs false
set_option linter.unusedVariables false
set_option linter.unnecessarySimpa false
/- Contracts of the library: strings.Fields, strings.Contains. -/
namespace Go.Proofs.YtpmpiidndgjaaaaGreat
open Go.RowKit
/-- strings.Contains; internal/bytealg.MaxLen holds some number. -/
theorem gb_maxlen : 0 ∈ GBI := by simp [GBI]
theorem scontains_af (s sub : ByteArray) (hs : s.size < 4294967281) : AF Tryz.prog 47 [aS s, aS sub] (aB (Lib.contains s.data.toList sub.data.toList)) := by
  intro H w vs hH hs' _
  simp only [ShpL] at hs'
  obtain ⟨u1, l1, rfl, s1, u2, l2, rfl, s2, rfl⟩ := hs'
  simp only [Shp] at s1 s2
  subst s1 s2
  obtain ⟨m, hm⟩ := (hH.2.1.2 _ gb_maxlen).2
  refine (Sh_strings_Contains s sub m w hs hm).mono ?_
  rintro en w' ⟨rfl, rfl⟩
  exact ⟨_, rfl, ⟨by simp [Shp], by simp [Mem, Rd, Value.oneCell']⟩, Ext.refl _⟩
end Go.Proofs.YtpmpiidndgjaaaaGreat
