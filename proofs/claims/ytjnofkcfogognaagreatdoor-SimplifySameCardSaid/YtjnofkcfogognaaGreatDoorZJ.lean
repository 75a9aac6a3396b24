/- Texts that the claim leans on, laid one behind the other: Hn, Ho, Hq. -/
import Derived.Test.YtjnofkcfogognaaGreatDoorZD
import Derived.Test.YtjnofkcfogognaaGreatDoorZG
import Derived.Test.YtjnofkcfogognaaGreatDoorAn
import Derived.Test.YtjnofkcfogognaaGreatDoorZH
import Derived.Test.YtjnofkcfogognaaGreatDoorZI
set_option linter.unusedSimpArgs false
set_option linter.unusedVariables false
set_option linter.unnecessarySimpa false
/- The printed texts of the chapter's example. -/
namespace Go.Proofs.YtjnofkcfogognaaGreatDoor
open Go.RowKit
theorem print1_af : AF Tryz.prog 21 [exA (eTwo 5 (eVar 1) (eCon 5))] (aS ⟨#[40, 114, 49, 32, 42, 32, 53, 41]⟩) := xres_af xnone_ok (lf := 100) (n := 30) (by kernel_rfl)
theorem print2_af : AF Tryz.prog 21 [exA (.mk 19 0 0 1 [eVar 1])] (aS ⟨#[115, 101, 120, 116, 49, 40, 114, 49, 41]⟩) := xres_af xnone_ok (lf := 100) (n := 30) (by kernel_rfl)
theorem print3_af : AF Tryz.prog 21 [exA (eTwo 6 (eVar 1) (eCon 7))] (aS ⟨#[40, 114, 49, 32, 38, 32, 55, 41]⟩) := xres_af xnone_ok (lf := 100) (n := 30) (by kernel_rfl)
theorem print4_af : AF Tryz.prog 21 [exA (eTwo 13 (eVar 1) (eCon 0))] (aS ⟨#[40, 114, 49, 32, 33, 61, 32, 48, 41]⟩) := xres_af xnone_ok (lf := 100) (n := 30) (by kernel_rfl)
end Go.Proofs.YtjnofkcfogognaaGreatDoor

/- Contracts: the chapter's example; the laws IdiomNames, IdiomFixed. -/
namespace Go.Proofs.YtjnofkcfogognaaGreatDoor
open Go.RowKit
abbrev e1 : Ex := eTwo 3 (eTwo 9 (eVar 1) (eCon 2)) (eVar 1)
abbrev e2 : Ex := eTwo 11 (eTwo 9 (eVar 1) (eCon 24)) (eCon 24)
abbrev e3 : Ex := eTwo 4 (eVar 1) (eTwo 9 (eTwo 10 (eVar 1) (eCon 3)) (eCon 3))
abbrev e4 : Ex := eTwo 10 (eTwo 7 (eVar 1) (eOne 17 (eVar 1))) (eCon 31)
theorem ex1_eq : exprS e1 = (eTwo 5 (eVar 1) (eCon 5), true) := by kernel_rfl
theorem ex2_eq : exprS e2 = (.mk 19 0 0 1 [eVar 1], true) := by kernel_rfl
theorem ex3_eq : exprS e3 = (eTwo 6 (eVar 1) (eCon 7), true) := by kernel_rfl
theorem ex4_eq : exprS e4 = (eTwo 13 (eVar 1) (eCon 0), true) := by kernel_rfl
theorem ex5_eq : exprS (eAbs (eVar 1)) = (eAbs (eVar 1), false) := by kernel_rfl
theorem ex6_eq : matchA (eAbs (eVar 1)) = .tup [aS (nm 10), aB true] := by kernel_rfl
end Go.Proofs.YtjnofkcfogognaaGreatDoor

/- Contracts: the laws IdiomNames and IdiomFixed answer true. -/
namespace Go.Proofs.YtjnofkcfogognaaGreatDoor
open Go.RowKit
theorem small_nodes {e : Ex} {m : Int} (h : 0 ≤ nodI e m 3000) : e.nodes ≤ 3000 := by
  have := (nodI_le e m 3000 (by omega)).2
  omega
theorem exprS_ok {e : Ex} (hc : checkB e = true) : exprS e = rwF e.wt e ∧ RwOk e (rwF e.wt e) := by
  have hf : formB e = true := by simp only [checkB, Bool.and_eq_true] at hc; exact hc.2
  exact ⟨by simp [exprS, hc], rw_ok e.wt e hf (Nat.le_refl _)⟩
theorem rcheck28_af (e : Ex) : AF Tryz.prog 33 [exA e] (aI .i64 (if checkB e = true then 0 else if shalB 64 e = true then 2 else 20)) := by
  have h := rcheck_af e
  unfold checkB
  cases h1 : shalB 64 e <;> cases h2 : formB e <;> simpa [h1, h2] using h
theorem bytes_beq (t s : ByteArray) : (t.toList == s.toList) = decide (t = s) := by
  rw [ByteArray.toList_eq, ByteArray.toList_eq, Bool.eq_iff_iff]
  simp only [beq_iff_eq, decide_eq_true_eq]
  exact ⟨fun h => by cases t; cases s; simp only [ByteArray.mk.injEq]; exact Array.toList_inj.1 h, fun h => by rw [h]⟩
end Go.Proofs.YtjnofkcfogognaaGreatDoor
