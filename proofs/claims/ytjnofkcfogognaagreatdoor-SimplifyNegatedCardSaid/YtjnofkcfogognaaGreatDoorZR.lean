/- Texts that the claim leans on, laid one behind the other: Pa. -/
import Derived.Test.YtjnofkcfogognaaGreatDoorZU
set_option linter.unusedSimpArgs false
set_option linter.unusedVariables false
set_option linter.unnecessarySimpa false
/- Contract: the law SimplifyNegated answers true. -/
namespace Go.Proofs.YtjnofkcfogognaaGreatDoor
open Go.RowKit
theorem small_depth {e : Ex} {m : Int} (h : 0 ≤ nodI e m 3000) : (e.depth : Int) ≤ m := by
  have := (nodI_le e m 3000 (by omega)).2
  omega
theorem form_not {e : Ex} (h : formB e = true) : formB (eOne 16 e) = true := by
  simp [eOne, formB, formB.forms, h, okE]
theorem shal_of {e : Ex} (h : (e.depth : Int) ≤ 64) : shalB 64 e = true := by
  rw [shal_iff]
  omega
/-- What is true of the simplified negation. -/
theorem neg22_ev {e : Ex} (V : List Int) (hV : ∀ n ∈ V, R32 n) (seed : Int) (hn : OkN e) (hd : e.depth ≤ 63) (hf : formB e = true) :
    formB (sExpr (eOne 16 e)) = true ∧ OkN (sExpr (eOne 16 e)) ∧ (sExpr (eOne 16 e)).depth ≤ e.depth + 1 ∧ (sExpr (eOne 16 e)).nodes ≤ e.nodes + 1 ∧
    evR V (ld22R seed) (sExpr (eOne 16 e)) = if (evR V (ld22R seed) e).2 ≠ 0 then (0, (evR V (ld22R seed) e).2) else (if (evR V (ld22R seed) e).1 = 0 then 1 else 0, 0) := by
  have f1 := form_not hf
  have d1 : (eOne 16 e).depth = e.depth + 1 := depth_one' 16 0 e
  have n1 : (eOne 16 e).nodes = e.nodes + 1 := nodes_one' 16 0 e
  have s1 : shalB 64 (eOne 16 e) = true := shal_of (by omega)
  have ok := sexpr_ok s1 f1
  refine ⟨ok.form, sexpr_okN s1 f1 (okN_one hn), by have := ok.depth; omega, by have := ok.nodes; omega, ?_⟩
  rw [sexpr_ev V hV seed (okN_one hn) s1 f1, ev_not]
theorem negated22_af (e : Ex) (V : List Int) (seed : Int) (hn : OkN e) (hV : ∀ n ∈ V, R32 n) : AF Tryz.prog 8 [exA e, .d (.sl 1 (u32s V)), aI .u8 seed] (aB true) := by
  have hEv := evOk_mem2 V hV (mem22 seed) zer16
  have hL := fun a w ha hw => load2_af (B := mem22 seed) (C := zer16) (by simp [mem22]) (by simp [zer16]) a w ha hw
  have c1 := r20expr_af hEv hL e hn
  have hc := rcheck_af e
  refine af_of Tryz.func8 rfl (by kernel_rfl) (by simp [Tryz.ntmps8]) fun _ => ?_; simp [Tryz.f8, Ex.d_eq]
  refine aCall_of (small_af e 10 (by omega) (by omega)) (by simp) (by simp [Ex.d_eq]) ?_; simp [Ex.d_eq]
  by_cases hs : 0 ≤ nodI e 10 3000
  case neg =>
    simp [hs]
    refine aCall_of (l22ex_af) (by simp) (by simp [Ex.d_eq]) ?_; simp [Ex.d_eq]
  have hnd := small_n3 hs
  have hdp := small_depth hs
  simp [hs]
  by_cases hv : V.length ≤ 40
  case neg =>
    simp [show (40 : Int) < V.length by omega]
    refine aCall_of (l22ex_af) (by simp) (by simp [Ex.d_eq]) ?_; simp [Ex.d_eq]
  simp [show ¬ (40 : Int) < V.length by omega]
  by_cases h1 : shalB 64 e = true
  case neg =>
    rw [if_neg h1] at hc
    refine aCall_of (hc) (by simp) (by simp [Ex.d_eq]) ?_; simp [Ex.d_eq]
    refine aCall_of (l22ex_af) (by simp) (by simp [Ex.d_eq]) ?_; simp [Ex.d_eq]
  by_cases h2 : formB e = true
  case neg =>
    rw [if_pos h1, if_neg h2] at hc
    refine aCall_of (hc) (by simp) (by simp [Ex.d_eq]) ?_; simp [Ex.d_eq]
    refine aCall_of (l22ex_af) (by simp) (by simp [Ex.d_eq]) ?_; simp [Ex.d_eq]
  rw [if_pos h1, if_pos h2] at hc
  rw [if_pos (by simp [checkB, h1, h2])] at c1
  refine aCall_of (hc) (by simp) (by simp [Ex.d_eq]) ?_; simp [Ex.d_eq]
  obtain ⟨q1, q2, q3, q4, q5⟩ := neg22_ev V hV seed hn (by omega) h2
  have cx := smnegate_af e hn (by omega)
  obtain ⟨x, hx⟩ : ∃ x, sExpr (eOne 16 e) = x := ⟨_, rfl⟩
  rw [hx] at q1 q2 q3 q4 q5 cx
  obtain ⟨r1, r2, r3, r4, r5⟩ := neg22_ev V hV seed q2 (by omega) q1
  have cz := smnegate_af x q2 (by omega)
  obtain ⟨z, hz⟩ : ∃ z, sExpr (eOne 16 x) = z := ⟨_, rfl⟩
  rw [hz] at r1 r2 r3 r4 r5 cz
  have c2 := r20expr_af hEv hL x q2
  rw [if_pos (by simp only [checkB, shal_of (show (x.depth : Int) ≤ 64 by omega), q1, Bool.and_self])] at c2
  have c3 := r20expr_af hEv hL z r2
  rw [if_pos (by simp only [checkB, shal_of (show (z.depth : Int) ≤ 64 by omega), r1, Bool.and_self])] at c3
  rw [q5] at r5 c2
  rw [r5] at c3
  clear q5 r5 hx hz
  refine aCall_of (l22memory_af seed) (by simp) (by simp [Ex.d_eq]) ?_; simp [Ex.d_eq]
  refine aCall_of (cx) (by simp) (by simp [Ex.d_eq]) ?_; simp [Ex.d_eq]
  obtain ⟨n, hnn⟩ : ∃ n, (evR V (ld22R seed) e).1 = n := ⟨_, rfl⟩
  obtain ⟨f, hff⟩ : ∃ f, (evR V (ld22R seed) e).2 = f := ⟨_, rfl⟩
  rw [hnn, hff] at c1 c2 c3
  clear hnn hff
  by_cases hf : f = 0
  · subst hf
    by_cases h0 : n = 0
    · subst h0
      simp at c2 c3
      refine aCall_of (c1) (by simp) (by simp [Ex.d_eq]) ?_; simp [Ex.d_eq]
      refine aCall_of (c2) (by simp) (by simp [Ex.d_eq]) ?_; simp [Ex.d_eq]
      refine adraw [] (by kernel_rfl) (by kernel_rfl) (by kernel_rfl) (by kernel_rfl) ?_; simp [Ex.d_eq]
      refine adC_of (cz) (by simp) trivial (by simp) (by simp [Ex.d_eq]) ?_; simp [Ex.d_eq]
      refine adC_of (c3) (by simp) trivial (by simp) (by simp [Ex.d_eq]) ?_; simp [Ex.d_eq]
      refine aCall_of (l22ex_af) (by simp) (by simp [Ex.d_eq]) ?_; simp [Ex.d_eq]
    · simp [h0] at c2 c3
      refine aCall_of (c1) (by simp) (by simp [Ex.d_eq]) ?_; simp [Ex.d_eq]
      refine aCall_of (c2) (by simp) (by simp [Ex.d_eq]) ?_; simp [Ex.d_eq]
      refine adraw [] (by kernel_rfl) (by kernel_rfl) (by kernel_rfl) (by kernel_rfl) ?_; simp [Ex.d_eq]
      refine adC_of (cz) (by simp) trivial (by simp) (by simp [Ex.d_eq]) ?_; simp [Ex.d_eq]
      refine adC_of (c3) (by simp) trivial (by simp) (by simp [Ex.d_eq]) ?_; simp [Ex.d_eq]
      simp [h0]
      refine aCall_of (l22ex_af) (by simp) (by simp [Ex.d_eq]) ?_; simp [Ex.d_eq]
  · simp [hf] at c2 c3
    refine aCall_of (c1) (by simp) (by simp [Ex.d_eq]) ?_; simp [Ex.d_eq]
    refine aCall_of (c2) (by simp) (by simp [Ex.d_eq]) ?_; simp [Ex.d_eq]
    refine adraw [] (by kernel_rfl) (by kernel_rfl) (by kernel_rfl) (by kernel_rfl) ?_; simp [Ex.d_eq]
    refine adC_of (cz) (by simp) trivial (by simp) (by simp [Ex.d_eq]) ?_; simp [Ex.d_eq]
    refine adC_of (c3) (by simp) trivial (by simp) (by simp [Ex.d_eq]) ?_; simp [Ex.d_eq]
    simp [hf]
    refine aCall_of (l22ex_af) (by simp) (by simp [Ex.d_eq]) ?_; simp [Ex.d_eq]
end Go.Proofs.YtjnofkcfogognaaGreatDoor
