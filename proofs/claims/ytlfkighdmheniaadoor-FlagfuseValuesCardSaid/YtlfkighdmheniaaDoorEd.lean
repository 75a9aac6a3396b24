/- Contracts: ileval.Expr at a comparison of constants; the law FlagfuseValues. -/
import Derived.Test.YtlfkighdmheniaaDoorEc
namespace Go.Proofs.YtlfkighdmheniaaDoor
open Go.RowKit
theorem iexpr_af {e : Ex} {x : Int} (h : Ev e x) (h1 : shalB 64 e = true) (h2 : formB e = true) : AF Tryd.prog 32 [exA e, .agg [.d (.v (.slice none 0 0))], noMem] (.tup [aU x, aI .i64 0]) := by
  refine af_of Tryd.func32 rfl (by kernel_rfl) (by simp [Tryd.ntmps32]) fun _ => ?_
  simp [Tryd.f32]
  refine aCall_of (check_af e) (by simp) (by simp) ?_
  simp [h1, h2]
  refine aCall_of (ieval_af h) (by simp) (by simp) ?_
  simp
theorem cond_ok (cc a b : Int) : shalB 64 (condE cc (eCon a) (eCon b)) = true ∧ formB (condE cc (eCon a) (eCon b)) = true := by
  by_cases hcc : 0 ≤ cc ∧ cc < 15
  · obtain ⟨k, rfl⟩ : ∃ k : Nat, cc = k := ⟨cc.toNat, by omega⟩
    have hk : k < 15 := by omega
    match k, hk with
    | 0, _ | 1, _ | 2, _ | 3, _ | 4, _ | 5, _ | 6, _ | 7, _ | 8, _ | 9, _ | 10, _ | 11, _ | 12, _ | 13, _ | 14, _ => exact ⟨rfl, rfl⟩
    | k + 15, h => omega
  · have e1 : condE cc (eCon a) (eCon b) = eCon 0 := by
      unfold condE
      repeat rw [if_neg (by omega)]
    rw [e1]
    exact ⟨rfl, rfl⟩
theorem ffv_af (cc a b : Int) (ha : 0 ≤ a ∧ a < 4294967296) (hb : 0 ≤ b ∧ b < 4294967296) : AF Tryd.prog 9 [aI .i64 cc, aU a, aU b] (aB true) := by
  refine af_of Tryd.func9 rfl (by kernel_rfl) (by simp [Tryd.ntmps9]) fun _ => ?_
  simp [Tryd.f9]
  refine aCall_of (bsub_af a b) (by simp) (by simp) ?_
  simp
  refine aCall_of (const_af a) (by simp) (by simp) ?_
  simp
  refine aCall_of (const_af b) (by simp) (by simp) ?_
  simp
  refine aCall_of (cond_af cc (eCon a) (eCon b) (by simp) (by simp)) (by simp) (by simp) ?_
  simp
  have hv := cond_val ha hb cc
  obtain ⟨q, hq⟩ : ∃ q, holdsI cc (decide (IntKind.u32.wrap (a - b) = 0)) (sgn (IntKind.u32.wrap (a - b))) (decide (a < b)) (sgn (andI .u32 (xorI .u32 a b) (xorI .u32 a (IntKind.u32.wrap (a - b))))) = q := ⟨_, rfl⟩
  have hh := bholds_af cc (decide (IntKind.u32.wrap (a - b) = 0)) (sgn (IntKind.u32.wrap (a - b))) (decide (a < b)) (sgn (andI .u32 (xorI .u32 a b) (xorI .u32 a (IntKind.u32.wrap (a - b)))))
  rw [hq] at hv hh
  refine aCall_of (iexpr_af hv (cond_ok cc a b).1 (cond_ok cc a b).2) (by simp) (by simp) ?_
  simp
  refine aCall_of hh (by simp) (by simp) ?_
  cases q
  · simp [num]
    refine aCall_of ex23_af (by simp) (by simp) ?_
    simp
  · simp [num]
    refine aCall_of ex23_af (by simp) (by simp) ?_
    simp
end Go.Proofs.YtlfkighdmheniaaDoor
