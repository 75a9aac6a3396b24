/- Texts that the claim leans on, laid one behind the other: Hn, Ho, Hq. -/
import Derived.Test.YtlfkighdmheniaaDoorZD
import Derived.Test.YtlfkighdmheniaaDoorZG
import Derived.Test.YtlfkighdmheniaaDoorAn
import Derived.Test.YtlfkighdmheniaaDoorZH
import Derived.Test.YtlfkighdmheniaaDoorZI
set_option linter.unusedSimpArgs false
set_option linter.unusedVariables false
set_option linter.unnecessarySimpa false
/- The printed texts of the chapter's example. -/
namespace Go.Proofs.YtlfkighdmheniaaDoor
open Go.RowKit
theorem print1_af : AF Tryd.prog 55 [exA (eTwo 5 (eVar 1) (eCon 5))] (aS ⟨#[40, 114, 49, 32, 42, 32, 53, 41]⟩) := xres_af xnone_ok (lf := 100) (n := 30) (by kernel_rfl)
theorem print2_af : AF Tryd.prog 55 [exA (.mk 19 0 0 1 [eVar 1])] (aS ⟨#[115, 101, 120, 116, 49, 40, 114, 49, 41]⟩) := xres_af xnone_ok (lf := 100) (n := 30) (by kernel_rfl)
theorem print3_af : AF Tryd.prog 55 [exA (eTwo 6 (eVar 1) (eCon 7))] (aS ⟨#[40, 114, 49, 32, 38, 32, 55, 41]⟩) := xres_af xnone_ok (lf := 100) (n := 30) (by kernel_rfl)
theorem print4_af : AF Tryd.prog 55 [exA (eTwo 13 (eVar 1) (eCon 0))] (aS ⟨#[40, 114, 49, 32, 33, 61, 32, 48, 41]⟩) := xres_af xnone_ok (lf := 100) (n := 30) (by kernel_rfl)
end Go.Proofs.YtlfkighdmheniaaDoor

/- Contracts: the chapter's example; the laws IdiomNames, IdiomFixed. -/
namespace Go.Proofs.YtlfkighdmheniaaDoor
open Go.RowKit
theorem exx_af (e r : Ex) (b : Bool) (hn : e.nodes ≤ 1000000) (h : exprS e = (r, b)) : AF Tryd.prog 20 [exA e] (.tup [exA r, aB b]) := by
  have := expr_af e hn
  rw [h] at this
  exact this
abbrev e1 : Ex := eTwo 3 (eTwo 9 (eVar 1) (eCon 2)) (eVar 1)
abbrev e2 : Ex := eTwo 11 (eTwo 9 (eVar 1) (eCon 24)) (eCon 24)
abbrev e3 : Ex := eTwo 4 (eVar 1) (eTwo 9 (eTwo 10 (eVar 1) (eCon 3)) (eCon 3))
abbrev e4 : Ex := eTwo 10 (eTwo 7 (eVar 1) (eOne 17 (eVar 1))) (eCon 31)
theorem ex1_eq : exprS e1 = (eTwo 5 (eVar 1) (eCon 5), true) := by kernel_rfl
theorem ex2_eq : exprS e2 = (.mk 19 0 0 1 [eVar 1], true) := by kernel_rfl
theorem ex3_eq : exprS e3 = (eTwo 6 (eVar 1) (eCon 7), true) := by kernel_rfl
theorem ex4_eq : exprS e4 = (eTwo 13 (eVar 1) (eCon 0), true) := by kernel_rfl
theorem ex5_eq : exprS (eAbs (eVar 1)) = (eAbs (eVar 1), false) := by kernel_rfl
theorem ex6_eq : matchA (eAbs (eVar 1)) = .tup [aS (nm 10), aB true] := by kernel_rfl
theorem ex28_af : AF Tryd.prog 18 [] (aB true) := by
  refine af_of Tryd.func18 rfl (by kernel_rfl) (by simp [Tryd.ntmps18]) fun _ => ?_; simp [Tryd.f18, Ex.d_eq]
  refine aCall_of (r19var_af 1) (by simp) (by simp [Ex.d_eq]) ?_; simp [Ex.d_eq]
  refine adraw [] (by kernel_rfl) (by kernel_rfl) (by kernel_rfl) (by kernel_rfl) ?_; simp [Ex.d_eq]
  refine adC_of (l28shift_af 9 (eVar 1) 2) (by simp) trivial (by simp) (by simp [Ex.d_eq]) ?_; simp [Ex.d_eq]
  refine adC_of (r19two_af 3 (eTwo 9 (eVar 1) (eCon 2)) (eVar 1)) (by simp) trivial (by simp) (by simp [Ex.d_eq]) ?_; simp [Ex.d_eq]
  refine adC_of (exx_af e1 _ _ (by simp) ex1_eq) (by simp) trivial (by simp) (by simp [Ex.d_eq]) ?_; simp [Ex.d_eq]
  refine aCall_of (l28shift_af 9 (eVar 1) 24) (by simp) (by simp [Ex.d_eq]) ?_; simp [Ex.d_eq]
  refine aCall_of (l28shift_af 11 (eTwo 9 (eVar 1) (eCon 24)) 24) (by simp) (by simp [Ex.d_eq]) ?_; simp [Ex.d_eq]
  refine aCall_of (exx_af e2 _ _ (by simp) ex2_eq) (by simp) (by simp [Ex.d_eq]) ?_; simp [Ex.d_eq]
  refine adraw [] (by kernel_rfl) (by kernel_rfl) (by kernel_rfl) (by kernel_rfl) ?_; simp [Ex.d_eq]
  refine adC_of (l28shift_af 10 (eVar 1) 3) (by simp) trivial (by simp) (by simp [Ex.d_eq]) ?_; simp [Ex.d_eq]
  refine adC_of (l28shift_af 9 (eTwo 10 (eVar 1) (eCon 3)) 3) (by simp) trivial (by simp) (by simp [Ex.d_eq]) ?_; simp [Ex.d_eq]
  refine adC_of (r19two_af 4 (eVar 1) (eTwo 9 (eTwo 10 (eVar 1) (eCon 3)) (eCon 3))) (by simp) trivial (by simp) (by simp [Ex.d_eq]) ?_; simp [Ex.d_eq]
  refine adC_of (exx_af e3 _ _ (by simp) ex3_eq) (by simp) trivial (by simp) (by simp [Ex.d_eq]) ?_; simp [Ex.d_eq]
  refine adraw [] (by kernel_rfl) (by kernel_rfl) (by kernel_rfl) (by kernel_rfl) ?_; simp [Ex.d_eq]
  refine adC_of (r19one_af 17 (eVar 1)) (by simp) trivial (by simp) (by simp [Ex.d_eq]) ?_; simp [Ex.d_eq]
  refine adC_of (r19two_af 7 (eVar 1) (eOne 17 (eVar 1))) (by simp) trivial (by simp) (by simp [Ex.d_eq]) ?_; simp [Ex.d_eq]
  refine adC_of (l28shift_af 10 (eTwo 7 (eVar 1) (eOne 17 (eVar 1))) 31) (by simp) trivial (by simp) (by simp [Ex.d_eq]) ?_; simp [Ex.d_eq]
  refine adC_of (exx_af e4 _ _ (by simp) ex4_eq) (by simp) trivial (by simp) (by simp [Ex.d_eq]) ?_; simp [Ex.d_eq]
  refine aCall_of (l28abs_af (eVar 1)) (by simp) (by simp [Ex.d_eq]) ?_; simp [Ex.d_eq]
  have m := match_af (eAbs (eVar 1)) (by simp [eAbs])
  rw [ex6_eq] at m
  refine aCall_of m (by simp) (by simp [eAbs, Ex.d_eq]) ?_; simp [Ex.d_eq]
  refine aCall_of (l28abs_af (eVar 1)) (by simp) (by simp [Ex.d_eq]) ?_; simp [Ex.d_eq]
  refine aCall_of (exx_af (eAbs (eVar 1)) _ _ (by simp [eAbs]) ex5_eq) (by simp) (by simp [eAbs, Ex.d_eq]) ?_; simp [Ex.d_eq]
  refine adraw [] (by kernel_rfl) (by kernel_rfl) (by kernel_rfl) (by kernel_rfl) ?_; simp [Ex.d_eq]
  refine adC_of print1_af (by simp) trivial (by simp) (by simp [Ex.d_eq]) ?_; simp [Ex.d_eq]
  refine adC_of print2_af (by simp) trivial (by simp) (by simp [Ex.d_eq]) ?_; simp [Ex.d_eq]
  refine adC_of print3_af (by simp) trivial (by simp) (by simp [Ex.d_eq]) ?_; simp [Ex.d_eq]
  refine adC_of print4_af (by simp) trivial (by simp) (by simp [Ex.d_eq]) ?_; simp [Ex.d_eq]
  simp [nm, nmL]
  refine adC_of (l28abs_af (eVar 1)) (by simp) trivial (by simp) (by simp [Ex.d_eq]) ?_; simp [Ex.d_eq]
  refine adC_of (refsame_af (eAbs (eVar 1)) (eAbs (eVar 1))) (by simp) trivial (by simp) (by simp [eAbs, Ex.d_eq]) ?_; simp [sameB_refl, Ex.d_eq]
  refine adC_of names_af (by simp) trivial (by simp) (by simp [Ex.d_eq]) ?_; simp [Ex.d_eq]
  simp [strs, nmL]
end Go.Proofs.YtlfkighdmheniaaDoor

/- Contracts: the laws IdiomNames and IdiomFixed answer true. -/
namespace Go.Proofs.YtlfkighdmheniaaDoor
open Go.RowKit
theorem small_nodes {e : Ex} {m : Int} (h : 0 ≤ nodI e m 3000) : e.nodes ≤ 3000 := by
  have := (nodI_le e m 3000 (by omega)).2
  omega
theorem exprS_ok {e : Ex} (hc : checkB e = true) : exprS e = rwF e.wt e ∧ RwOk e (rwF e.wt e) := by
  have hf : formB e = true := by simp only [checkB, Bool.and_eq_true] at hc; exact hc.2
  exact ⟨by simp [exprS, hc], rw_ok e.wt e hf (Nat.le_refl _)⟩
theorem rcheck28_af (e : Ex) : AF Tryd.prog 25 [exA e] (aI .i64 (if checkB e = true then 0 else if shalB 64 e = true then 2 else 20)) := by
  have h := rcheck_af e
  unfold checkB
  cases h1 : shalB 64 e <;> cases h2 : formB e <;> simpa [h1, h2] using h
theorem fixed_af (e : Ex) : AF Tryd.prog 6 [exA e] (aB true) := by
  refine af_of Tryd.func6 rfl (by kernel_rfl) (by simp [Tryd.ntmps6]) fun _ => ?_; simp [Tryd.f6]
  refine aCall_of (small_af e 70 (by omega) (by omega)) (by simp) (by simp) ?_; simp
  by_cases hs : 0 ≤ nodI e 70 3000
  case neg =>
    simp [hs]
    refine aCall_of ex28_af (by simp) (by simp) ?_; simp
  have hn := small_nodes hs
  simp [hs]
  refine aCall_of (rcheck28_af e) (by simp) (by simp) ?_; simp
  cases hc : checkB e
  · by_cases h1 : shalB 64 e = true
    · simp [h1]
      refine aCall_of ex28_af (by simp) (by simp) ?_; simp
    · simp [h1]
      refine aCall_of ex28_af (by simp) (by simp) ?_; simp
  obtain ⟨he, hok⟩ := exprS_ok hc
  have hc2 := hc
  simp only [checkB, Bool.and_eq_true] at hc2
  obtain ⟨r, hr⟩ : ∃ r, rwF e.wt e = r := ⟨_, rfl⟩
  rw [hr] at he hok
  have hcr : checkB r.1 = true := by
    simp only [checkB, Bool.and_eq_true]
    refine ⟨?_, hok.form⟩
    rw [shal_iff] at hc2 ⊢
    have := hok.depth
    omega
  have he2 : exprS r.1 = (r.1, false) := by
    rw [(exprS_ok hcr).1]
    exact hok.nm.rw _
  have hrn := hok.nodes
  simp
  refine aCall_of (by have := expr_af e (by omega); rw [he] at this; exact this) (by simp) (by simp) ?_; simp
  refine aCall_of (by have := expr_af r.1 (by omega); rw [he2] at this; exact this) (by simp) (by simp) ?_; simp
  refine adraw [] (by kernel_rfl) (by kernel_rfl) (by kernel_rfl) (by kernel_rfl) ?_; simp [Ex.d_eq]
  refine adC_of (rcheck28_af r.1) (by simp) trivial (by simp) (by simp [Ex.d_eq]) ?_; simp [hcr]
  refine adC_of (r19size_af r.1 (by omega)) (by simp) trivial (by simp) (by simp [Ex.d_eq]) ?_; simp
  refine adC_of (r19size_af e (by omega)) (by simp) trivial (by simp) (by simp [Ex.d_eq]) ?_; simp [show r.1.nodes ≤ e.nodes from hrn]
  have hsame : sameB r.1 e = !r.2 := by
    cases h2 : r.2
    · have := hok.no h2
      rw [this, sameB_refl]
      rfl
    · have h3 := hok.yes h2
      exact sameB_false.2 fun h => by rw [h] at h3; omega
  have c := refsame_af r.1 e
  rw [hsame] at c
  refine adC_of c (by simp) trivial (by simp) (by simp [Ex.d_eq]) ?_; simp
  have c2 := refsame_af r.1 r.1
  rw [sameB_refl] at c2
  refine adC_of c2 (by simp) trivial (by simp) (by simp [Ex.d_eq]) ?_; simp
  refine adC_of ex28_af (by simp) trivial (by simp) (by simp) ?_; simp
theorem bytes_beq (t s : ByteArray) : (t.toList == s.toList) = decide (t = s) := by
  rw [ByteArray.toList_eq, ByteArray.toList_eq, Bool.eq_iff_iff]
  simp only [beq_iff_eq, decide_eq_true_eq]
  exact ⟨fun h => by cases t; cases s; simp only [ByteArray.mk.injEq]; exact Array.toList_inj.1 h, fun h => by rw [h]⟩
theorem lawnames_af (e : Ex) : AF Tryd.prog 8 [exA e] (aB true) := by
  refine af_of Tryd.func8 rfl (by kernel_rfl) (by simp [Tryd.ntmps8]) fun _ => ?_; simp [Tryd.f8]
  refine aCall_of (small_af e 10 (by omega) (by omega)) (by simp) (by simp) ?_; simp
  by_cases hs : 0 ≤ nodI e 10 3000
  case neg =>
    simp [hs]
    refine aCall_of ex28_af (by simp) (by simp) ?_; simp
  have hn := small_nodes hs
  simp [hs]
  refine aCall_of names_af (by simp) (by simp) ?_; simp
  refine aCall_of rnames_af (by simp) (by simp) ?_; simp
  obtain ⟨s, b, hm, hb, hsb⟩ : ∃ s b, matchA e = .tup [aS s, aB b] ∧ (nmL.any fun t => decide (t = s)) = b ∧ (b = false → s = ⟨#[]⟩) := by
    unfold matchA
    split
    · rename_i i x h
      obtain ⟨_, hi, _⟩ : True ∧ i < 13 ∧ True := by
        split at h
        · obtain ⟨_, hi, _⟩ := first_some h
          exact ⟨trivial, by omega, trivial⟩
        · cases h
      refine ⟨_, _, rfl, ?_, fun h => by cases h⟩
      have : nm i ∈ nmL := by
        unfold nm
        rw [List.getD_eq_getElem?_getD, List.getElem?_eq_getElem (show i < nmL.length from hi)]
        exact List.getElem_mem _
      exact List.any_eq_true.2 ⟨_, this, by simp⟩
    · exact ⟨_, _, rfl, by decide +kernel, fun _ => rfl⟩
  have c := match_af e (by omega)
  rw [hm] at c
  refine aCall_of c (by simp) (by simp) ?_; simp
  have hlen : nmL.length = 13 := rfl
  simp [strs, hlen]
  rw [show (List.map (fun x => [D.v (Value.string x)]) nmL) = strs nmL from rfl]
  refine aLoop_of (α := Nat) (fun i g A => i ≤ 13 ∧ A = [] ∧ g 3 = .d (.sl 1 (strs nmL)) ∧ g 4 = .d (.sl 1 (strs nmL)) ∧ g 5 = aS s ∧ g 6 = aB b ∧ g 8 = aI .i64 i ∧ g 7 = aB ((nmL.take i).any fun t => decide (t = s))) (fun i => 13 - i) 0 (Sub.take 0 (Nat.le_refl _))
    ⟨by omega, by simp, by simp, by simp, by simp, by simp, by simp, by simp⟩ ?_
  rintro i g A ⟨hi, rfl, g3, g4, g5, g6, g8, g7⟩ K hK
  rcases Nat.lt_or_ge i 13 with hlt | hge
  case inr =>
    obtain rfl : i = 13 := by omega
    rw [show nmL.take 13 = nmL from rfl, hb] at g7
    cases b
    · have := hsb rfl
      subst this
      simp [g3, g4, g5, g6, g7, g8, strs, hlen]
      refine aCall_of ex28_af (by simp) (by simp) ?_; simp
    · simp [g3, g4, g5, g6, g7, g8, strs, hlen]
      refine aCall_of ex28_af (by simp) (by simp) ?_; simp
  obtain ⟨t, ht⟩ : ∃ t, nmL[i]? = some t := ⟨_, List.getElem?_eq_getElem (show i < nmL.length from hlt)⟩
  have ht2 := (List.getElem?_eq_some_iff.1 ht).2
  have hany : (nmL.take (i + 1)).any (fun t => decide (t = s)) = ((nmL.take i).any (fun t => decide (t = s)) || decide (t = s)) := by
    rw [List.take_add_one, ht, List.any_append]
    simp
  simp [g3, g4, g8, strs, hlen, ht, ht2, show (i : Int) < 13 by omega, hlt]
  refine adraw [] (by kernel_rfl) (by kernel_rfl) (by kernel_rfl) (by kernel_rfl) ?_; simp [Ex.d_eq]
  simp [g3, g4, g8, strs, hlen, ht, ht2, hlt]
  cases hC : (nmL.take i).any fun t => decide (t = s)
  · simp [g3, g4, g5, g7, hC, g8, strs, hlen, ht, ht2, hlt, i64w (n := (i : Int) + 1) (by omega)]
    exact hK (i + 1) _ _ _ _ (Sub.refl _ _ _) ⟨by omega, rfl, by simp [g3, strs], by simp [g4, strs], by simp [g5], by simp [g6], by simp, by simp [hany, hC, bytes_beq]⟩ (by omega)
  · simp [g3, g4, g5, g7, hC, g8, strs, hlen, ht, ht2, hlt, i64w (n := (i : Int) + 1) (by omega)]
    exact hK (i + 1) _ _ _ _ (Sub.refl _ _ _) ⟨by omega, rfl, by simp [g3, strs], by simp [g4, strs], by simp [g5], by simp [g6], by simp, by simp [hany, hC, bytes_beq]⟩ (by omega)
end Go.Proofs.YtlfkighdmheniaaDoor
