/- Contracts: the flag expressions, Recognize, size (printed by gen_be.py). -/
import Derived.Test.YtlfkighdmheniaaDoorBe
namespace Go.Proofs.YtlfkighdmheniaaDoor
open Go.RowKit
theorem flagExpr_af (k : Nat) (hk : k < 15) : AF Tryd.prog 38 [aI .i64 k] (exA (flagE k)) := by
  refine af_of Tryd.func38 rfl (by kernel_rfl) (by simp [Tryd.ntmps38]) fun _ => ?_
  obtain ⟨E, hE⟩ : ∃ E, flagE k = E := ⟨_, rfl⟩
  rw [hE]
  simp [Tryd.f38]
  refine aCall_of (var_af 8) (by simp) (by simp) ?_
  simp
  refine aCall_of (var_af 9) (by simp) (by simp) ?_
  simp
  refine aCall_of (var_af 10) (by simp) (by simp) ?_
  simp
  refine aCall_of (var_af 11) (by simp) (by simp) ?_
  simp
  refine aCall_of (two_af 8 (eVar 9) (eVar 11) (by simp) (by simp)) (by simp) (by simp) ?_
  simp
  refine adraw [] (by kernel_rfl) (by kernel_rfl) (by kernel_rfl) (by kernel_rfl) ?_
  simp
  refine adC_of (const_af 1) (by simp) trivial (by simp) (by simp) ?_
  simp
  refine adC_of (not_af (eVar 8)) (by simp) trivial (by simp) (by simp) ?_
  simp
  refine adC_of (not_af (eTwo 8 (eVar 9) (eVar 11))) (by simp) trivial (by simp) (by simp) ?_
  simp
  refine adC_of (two_af 7 (eVar 8) (eTwo 8 (eVar 9) (eVar 11)) (by simp) (by simp)) (by simp) trivial (by simp) (by simp) ?_
  simp
  refine adC_of (two_af 7 (eVar 8) (eTwo 8 (eVar 9) (eVar 11)) (by simp) (by simp)) (by simp) trivial (by simp) (by simp) ?_
  simp
  refine adC_of (not_af (eTwo 7 (eVar 8) (eTwo 8 (eVar 9) (eVar 11)))) (by simp) trivial (by simp) (by simp) ?_
  simp
  refine adC_of (not_af (eVar 10)) (by simp) trivial (by simp) (by simp) ?_
  simp
  refine adC_of (two_af 7 (eVar 10) (eVar 8) (by simp) (by simp)) (by simp) trivial (by simp) (by simp) ?_
  simp
  refine adC_of (two_af 7 (eVar 10) (eVar 8) (by simp) (by simp)) (by simp) trivial (by simp) (by simp) ?_
  simp
  refine adC_of (not_af (eTwo 7 (eVar 10) (eVar 8))) (by simp) trivial (by simp) (by simp) ?_
  simp
  refine adC_of (not_af (eVar 9)) (by simp) trivial (by simp) (by simp) ?_
  simp
  refine adC_of (not_af (eVar 11)) (by simp) trivial (by simp) (by simp) ?_
  simp
  subst hE
  have hk' : k = 0 ∨ k = 1 ∨ k = 2 ∨ k = 3 ∨ k = 4 ∨ k = 5 ∨ k = 6 ∨ k = 7 ∨ k = 8 ∨ k = 9 ∨ k = 10 ∨ k = 11 ∨ k = 12 ∨ k = 13 ∨ k = 14 := by omega
  clear hk
  rcases hk' with rfl | rfl | rfl | rfl | rfl | rfl | rfl | rfl | rfl | rfl | rfl | rfl | rfl | rfl | rfl <;> simp [flagE, Ex.d_eq]
theorem rflag_af (k : Nat) (hk : k < 15) : AF Tryd.prog 39 [aI .i64 k] (.tup [exA (flagE k), aB true]) := by
  refine af_of Tryd.func39 rfl (by kernel_rfl) (by simp [Tryd.ntmps39]) fun _ => ?_
  obtain ⟨E, hE⟩ : ∃ E, flagE k = E := ⟨_, rfl⟩
  rw [hE]
  simp [Tryd.f39]
  refine aCall_of (rvar_af 8) (by simp) (by simp) ?_
  simp
  refine aCall_of (rvar_af 9) (by simp) (by simp) ?_
  simp
  refine aCall_of (rvar_af 10) (by simp) (by simp) ?_
  simp
  refine aCall_of (rvar_af 11) (by simp) (by simp) ?_
  simp
  refine aCond_split (fun h => ?_) (fun h0 => ?_)
  · simp at h
    obtain rfl : k = 0 := by omega
    obtain rfl : E = eCon 1 := hE.symm
    simp
    refine aCall_of (rcon_af 1) (by simp) (by simp) ?_
    simp
  simp at h0
  simp
  refine aCond_split (fun h => ?_) (fun h1 => ?_)
  · simp at h
    obtain rfl : k = 1 := by omega
    obtain rfl : E = eVar 8 := hE.symm
    simp
  simp at h1
  simp
  refine aCond_split (fun h => ?_) (fun h2 => ?_)
  · simp at h
    obtain rfl : k = 2 := by omega
    obtain rfl : E = eNot (eVar 8) := hE.symm
    simp
    refine aCall_of (rnot_af (eVar 8)) (by simp) (by simp) ?_
    simp
  simp at h2
  simp
  refine aCond_split (fun h => ?_) (fun h3 => ?_)
  · simp at h
    obtain rfl : k = 3 := by omega
    obtain rfl : E = eTwo 8 (eVar 9) (eVar 11) := hE.symm
    simp
    refine aCall_of (rtwo_af 8 (eVar 9) (eVar 11)) (by simp) (by simp) ?_
    simp
  simp at h3
  simp
  refine aCond_split (fun h => ?_) (fun h4 => ?_)
  · simp at h
    obtain rfl : k = 4 := by omega
    obtain rfl : E = eNot (eTwo 8 (eVar 9) (eVar 11)) := hE.symm
    simp
    refine aCall_of (rtwo_af 8 (eVar 9) (eVar 11)) (by simp) (by simp) ?_
    simp
    refine aCall_of (rnot_af (eTwo 8 (eVar 9) (eVar 11))) (by simp) (by simp) ?_
    simp
  simp at h4
  simp
  refine aCond_split (fun h => ?_) (fun h5 => ?_)
  · simp at h
    obtain rfl : k = 5 := by omega
    obtain rfl : E = eTwo 7 (eVar 8) (eTwo 8 (eVar 9) (eVar 11)) := hE.symm
    simp
    refine adraw [] (by kernel_rfl) (by kernel_rfl) (by kernel_rfl) (by kernel_rfl) ?_
    simp
    refine adC_of (rtwo_af 8 (eVar 9) (eVar 11)) (by simp) trivial (by simp) (by simp) ?_
    simp
    refine adC_of (rtwo_af 7 (eVar 8) (eTwo 8 (eVar 9) (eVar 11))) (by simp) trivial (by simp) (by simp) ?_
    simp
  simp at h5
  simp
  refine aCond_split (fun h => ?_) (fun h6 => ?_)
  · simp at h
    obtain rfl : k = 6 := by omega
    obtain rfl : E = eNot (eTwo 7 (eVar 8) (eTwo 8 (eVar 9) (eVar 11))) := hE.symm
    simp
    refine adraw [] (by kernel_rfl) (by kernel_rfl) (by kernel_rfl) (by kernel_rfl) ?_
    simp
    refine adC_of (rtwo_af 8 (eVar 9) (eVar 11)) (by simp) trivial (by simp) (by simp) ?_
    simp
    refine adC_of (rtwo_af 7 (eVar 8) (eTwo 8 (eVar 9) (eVar 11))) (by simp) trivial (by simp) (by simp) ?_
    simp
    refine adC_of (rnot_af (eTwo 7 (eVar 8) (eTwo 8 (eVar 9) (eVar 11)))) (by simp) trivial (by simp) (by simp) ?_
    simp
  simp at h6
  simp
  refine aCond_split (fun h => ?_) (fun h7 => ?_)
  · simp at h
    obtain rfl : k = 7 := by omega
    obtain rfl : E = eVar 10 := hE.symm
    simp
  simp at h7
  simp
  refine aCond_split (fun h => ?_) (fun h8 => ?_)
  · simp at h
    obtain rfl : k = 8 := by omega
    obtain rfl : E = eNot (eVar 10) := hE.symm
    simp
    refine aCall_of (rnot_af (eVar 10)) (by simp) (by simp) ?_
    simp
  simp at h8
  simp
  refine aCond_split (fun h => ?_) (fun h9 => ?_)
  · simp at h
    obtain rfl : k = 9 := by omega
    obtain rfl : E = eTwo 7 (eVar 10) (eVar 8) := hE.symm
    simp
    refine aCall_of (rtwo_af 7 (eVar 10) (eVar 8)) (by simp) (by simp) ?_
    simp
  simp at h9
  simp
  refine aCond_split (fun h => ?_) (fun h10 => ?_)
  · simp at h
    obtain rfl : k = 10 := by omega
    obtain rfl : E = eNot (eTwo 7 (eVar 10) (eVar 8)) := hE.symm
    simp
    refine aCall_of (rtwo_af 7 (eVar 10) (eVar 8)) (by simp) (by simp) ?_
    simp
    refine aCall_of (rnot_af (eTwo 7 (eVar 10) (eVar 8))) (by simp) (by simp) ?_
    simp
  simp at h10
  simp
  refine aCond_split (fun h => ?_) (fun h11 => ?_)
  · simp at h
    obtain rfl : k = 11 := by omega
    obtain rfl : E = eVar 9 := hE.symm
    simp
  simp at h11
  simp
  refine aCond_split (fun h => ?_) (fun h12 => ?_)
  · simp at h
    obtain rfl : k = 12 := by omega
    obtain rfl : E = eNot (eVar 9) := hE.symm
    simp
    refine aCall_of (rnot_af (eVar 9)) (by simp) (by simp) ?_
    simp
  simp at h12
  simp
  refine aCond_split (fun h => ?_) (fun h13 => ?_)
  · simp at h
    obtain rfl : k = 13 := by omega
    obtain rfl : E = eVar 11 := hE.symm
    simp
  simp at h13
  simp
  refine aCond_split (fun h => ?_) (fun h14 => ?_)
  · simp at h
    obtain rfl : k = 14 := by omega
    obtain rfl : E = eNot (eVar 11) := hE.symm
    simp
    refine aCall_of (rnot_af (eVar 11)) (by simp) (by simp) ?_
    simp
  simp at h14
  simp
  omega
end Go.Proofs.YtlfkighdmheniaaDoor
