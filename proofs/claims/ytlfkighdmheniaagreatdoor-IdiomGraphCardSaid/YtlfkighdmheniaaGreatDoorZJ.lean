/- Texts that the claim leans on, laid one behind the other: Hn, Ho, Hq, Hr. -/
import Derived.Test.YtlfkighdmheniaaGreatDoorZD
import Derived.Test.YtlfkighdmheniaaGreatDoorZG
import Derived.Test.YtlfkighdmheniaaGreatDoorAn
import Derived.Test.YtlfkighdmheniaaGreatDoorZH
import Derived.Test.YtlfkighdmheniaaGreatDoorZI
set_option linter.unusedSimpArgs false
set_option linter.unusedVariables false
set_option linter.unnecessarySimpa false
/- The printed texts of the chapter's example. -/
namespace Go.Proofs.YtlfkighdmheniaaGreatDoor
open Go.RowKit
theorem print1_af : AF Tryz.prog 17 [exA (eTwo 5 (eVar 1) (eCon 5))] (aS ⟨#[40, 114, 49, 32, 42, 32, 53, 41]⟩) := xres_af xnone_ok (lf := 100) (n := 30) (by kernel_rfl)
theorem print2_af : AF Tryz.prog 17 [exA (.mk 19 0 0 1 [eVar 1])] (aS ⟨#[115, 101, 120, 116, 49, 40, 114, 49, 41]⟩) := xres_af xnone_ok (lf := 100) (n := 30) (by kernel_rfl)
theorem print3_af : AF Tryz.prog 17 [exA (eTwo 6 (eVar 1) (eCon 7))] (aS ⟨#[40, 114, 49, 32, 38, 32, 55, 41]⟩) := xres_af xnone_ok (lf := 100) (n := 30) (by kernel_rfl)
theorem print4_af : AF Tryz.prog 17 [exA (eTwo 13 (eVar 1) (eCon 0))] (aS ⟨#[40, 114, 49, 32, 33, 61, 32, 48, 41]⟩) := xres_af xnone_ok (lf := 100) (n := 30) (by kernel_rfl)
end Go.Proofs.YtlfkighdmheniaaGreatDoor

/- Contracts: the chapter's example; the laws IdiomNames, IdiomFixed. -/
namespace Go.Proofs.YtlfkighdmheniaaGreatDoor
open Go.RowKit
theorem exx_af (e r : Ex) (b : Bool) (hn : e.nodes ≤ 1000000) (h : exprS e = (r, b)) : AF Tryz.prog 11 [exA e] (.tup [exA r, aB b]) := by
  have := expr_af e hn
  rw [h] at this
  exact this
abbrev e1 : Ex := eTwo 3 (eTwo 9 (eVar 1) (eCon 2)) (eVar 1)
abbrev e2 : Ex := eTwo 11 (eTwo 9 (eVar 1) (eCon 24)) (eCon 24)
abbrev e3 : Ex := eTwo 4 (eVar 1) (eTwo 9 (eTwo 10 (eVar 1) (eCon 3)) (eCon 3))
abbrev e4 : Ex := eTwo 10 (eTwo 7 (eVar 1) (eOne 17 (eVar 1))) (eCon 31)
theorem ex1_eq : exprS e1 = (eTwo 5 (eVar 1) (eCon 5), true) := by kernel_rfl
theorem ex2_eq : exprS e2 = (.mk 19 0 0 1 [eVar 1], true) := by kernel_rfl
theorem ex3_eq : exprS e3 = (eTwo 6 (eVar 1) (eCon 7), true) := by kernel_rfl
theorem ex4_eq : exprS e4 = (eTwo 13 (eVar 1) (eCon 0), true) := by kernel_rfl
theorem ex5_eq : exprS (eAbs (eVar 1)) = (eAbs (eVar 1), false) := by kernel_rfl
theorem ex6_eq : matchA (eAbs (eVar 1)) = .tup [aS (nm 10), aB true] := by kernel_rfl
theorem ex28_af : AF Tryz.prog 5 [] (aB true) := by
  refine af_of Tryz.func5 rfl (by kernel_rfl) (by simp [Tryz.ntmps5]) fun _ => ?_; simp [Tryz.f5, Ex.d_eq]
  refine aCall_of (r19var_af 1) (by simp) (by simp [Ex.d_eq]) ?_; simp [Ex.d_eq]
  refine adraw [] (by kernel_rfl) (by kernel_rfl) (by kernel_rfl) (by kernel_rfl) ?_; simp [Ex.d_eq]
  refine adC_of (l28shift_af 9 (eVar 1) 2) (by simp) trivial (by simp) (by simp [Ex.d_eq]) ?_; simp [Ex.d_eq]
  refine adC_of (r19two_af 3 (eTwo 9 (eVar 1) (eCon 2)) (eVar 1)) (by simp) trivial (by simp) (by simp [Ex.d_eq]) ?_; simp [Ex.d_eq]
  refine adC_of (exx_af e1 _ _ (by simp) ex1_eq) (by simp) trivial (by simp) (by simp [Ex.d_eq]) ?_; simp [Ex.d_eq]
  refine aCall_of (l28shift_af 9 (eVar 1) 24) (by simp) (by simp [Ex.d_eq]) ?_; simp [Ex.d_eq]
  refine aCall_of (l28shift_af 11 (eTwo 9 (eVar 1) (eCon 24)) 24) (by simp) (by simp [Ex.d_eq]) ?_; simp [Ex.d_eq]
  refine aCall_of (exx_af e2 _ _ (by simp) ex2_eq) (by simp) (by simp [Ex.d_eq]) ?_; simp [Ex.d_eq]
  refine adraw [] (by kernel_rfl) (by kernel_rfl) (by kernel_rfl) (by kernel_rfl) ?_; simp [Ex.d_eq]
  refine adC_of (l28shift_af 10 (eVar 1) 3) (by simp) trivial (by simp) (by simp [Ex.d_eq]) ?_; simp [Ex.d_eq]
  refine adC_of (l28shift_af 9 (eTwo 10 (eVar 1) (eCon 3)) 3) (by simp) trivial (by simp) (by simp [Ex.d_eq]) ?_; simp [Ex.d_eq]
  refine adC_of (r19two_af 4 (eVar 1) (eTwo 9 (eTwo 10 (eVar 1) (eCon 3)) (eCon 3))) (by simp) trivial (by simp) (by simp [Ex.d_eq]) ?_; simp [Ex.d_eq]
  refine adC_of (exx_af e3 _ _ (by simp) ex3_eq) (by simp) trivial (by simp) (by simp [Ex.d_eq]) ?_; simp [Ex.d_eq]
  refine adraw [] (by kernel_rfl) (by kernel_rfl) (by kernel_rfl) (by kernel_rfl) ?_; simp [Ex.d_eq]
  refine adC_of (r19one_af 17 (eVar 1)) (by simp) trivial (by simp) (by simp [Ex.d_eq]) ?_; simp [Ex.d_eq]
  refine adC_of (r19two_af 7 (eVar 1) (eOne 17 (eVar 1))) (by simp) trivial (by simp) (by simp [Ex.d_eq]) ?_; simp [Ex.d_eq]
  refine adC_of (l28shift_af 10 (eTwo 7 (eVar 1) (eOne 17 (eVar 1))) 31) (by simp) trivial (by simp) (by simp [Ex.d_eq]) ?_; simp [Ex.d_eq]
  refine adC_of (exx_af e4 _ _ (by simp) ex4_eq) (by simp) trivial (by simp) (by simp [Ex.d_eq]) ?_; simp [Ex.d_eq]
  refine aCall_of (l28abs_af (eVar 1)) (by simp) (by simp [Ex.d_eq]) ?_; simp [Ex.d_eq]
  have m := match_af (eAbs (eVar 1)) (by simp [eAbs])
  rw [ex6_eq] at m
  refine aCall_of m (by simp) (by simp [eAbs, Ex.d_eq]) ?_; simp [Ex.d_eq]
  refine aCall_of (l28abs_af (eVar 1)) (by simp) (by simp [Ex.d_eq]) ?_; simp [Ex.d_eq]
  refine aCall_of (exx_af (eAbs (eVar 1)) _ _ (by simp [eAbs]) ex5_eq) (by simp) (by simp [eAbs, Ex.d_eq]) ?_; simp [Ex.d_eq]
  refine adraw [] (by kernel_rfl) (by kernel_rfl) (by kernel_rfl) (by kernel_rfl) ?_; simp [Ex.d_eq]
  refine adC_of print1_af (by simp) trivial (by simp) (by simp [Ex.d_eq]) ?_; simp [Ex.d_eq]
  refine adC_of print2_af (by simp) trivial (by simp) (by simp [Ex.d_eq]) ?_; simp [Ex.d_eq]
  refine adC_of print3_af (by simp) trivial (by simp) (by simp [Ex.d_eq]) ?_; simp [Ex.d_eq]
  refine adC_of print4_af (by simp) trivial (by simp) (by simp [Ex.d_eq]) ?_; simp [Ex.d_eq]
  simp [nm, nmL]
  refine adC_of (l28abs_af (eVar 1)) (by simp) trivial (by simp) (by simp [Ex.d_eq]) ?_; simp [Ex.d_eq]
  refine adC_of (refsame_af (eAbs (eVar 1)) (eAbs (eVar 1))) (by simp) trivial (by simp) (by simp [eAbs, Ex.d_eq]) ?_; simp [sameB_refl, Ex.d_eq]
  refine adC_of names_af (by simp) trivial (by simp) (by simp [Ex.d_eq]) ?_; simp [Ex.d_eq]
  simp [strs, nmL]
end Go.Proofs.YtlfkighdmheniaaGreatDoor

/- Contracts: the laws IdiomNames and IdiomFixed answer true. -/
namespace Go.Proofs.YtlfkighdmheniaaGreatDoor
open Go.RowKit
theorem small_nodes {e : Ex} {m : Int} (h : 0 ≤ nodI e m 3000) : e.nodes ≤ 3000 := by
  have := (nodI_le e m 3000 (by omega)).2
  omega
theorem exprS_ok {e : Ex} (hc : checkB e = true) : exprS e = rwF e.wt e ∧ RwOk e (rwF e.wt e) := by
  have hf : formB e = true := by simp only [checkB, Bool.and_eq_true] at hc; exact hc.2
  exact ⟨by simp [exprS, hc], rw_ok e.wt e hf (Nat.le_refl _)⟩
theorem rcheck28_af (e : Ex) : AF Tryz.prog 31 [exA e] (aI .i64 (if checkB e = true then 0 else if shalB 64 e = true then 2 else 20)) := by
  have h := rcheck_af e
  unfold checkB
  cases h1 : shalB 64 e <;> cases h2 : formB e <;> simpa [h1, h2] using h
theorem bytes_beq (t s : ByteArray) : (t.toList == s.toList) = decide (t = s) := by
  rw [ByteArray.toList_eq, ByteArray.toList_eq, Bool.eq_iff_iff]
  simp only [beq_iff_eq, decide_eq_true_eq]
  exact ⟨fun h => by cases t; cases s; simp only [ByteArray.mk.injEq]; exact Array.toList_inj.1 h, fun h => by rw [h]⟩
end Go.Proofs.YtlfkighdmheniaaGreatDoor

/- Contracts: the reference's Expr and Match; the law IdiomExact answers true. -/
namespace Go.Proofs.YtlfkighdmheniaaGreatDoor
open Go.RowKit
theorem rexpr_af (e : Ex) (hn : e.nodes ≤ 1000000) : AF Tryz.prog 24 [exA e] (.tup [exA (exprS e).1, aB (exprS e).2]) := by
  refine af_of Tryz.func24 rfl (by kernel_rfl) (by simp [Tryz.ntmps24]) fun _ => ?_; simp [Tryz.f24]
  refine aCall_of (rcheck28_af e) (by simp) (by simp) ?_; simp
  unfold exprS
  cases hc : checkB e
  · by_cases h1 : shalB 64 e = true
    · simp [h1]
    · simp [h1]
  · simp
    have hf : formB e = true := by simp only [checkB, Bool.and_eq_true] at hc; exact hc.2
    refine aCall_of (rrewritten_af e.wt e hf (Nat.le_refl _) hn) (by simp) (by simp) ?_; simp
end Go.Proofs.YtlfkighdmheniaaGreatDoor
