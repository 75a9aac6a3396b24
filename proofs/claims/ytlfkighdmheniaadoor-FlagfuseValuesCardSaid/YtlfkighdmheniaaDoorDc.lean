/- Contract: the law FlagfuseConditions answers true. -/
import Derived.Test.YtlfkighdmheniaaDoorDb
namespace Go.Proofs.YtlfkighdmheniaaDoor
open Go.RowKit
theorem sameB_refl (a : Ex) : sameB a a = true := by
  induction a using Ex.ind with
  | h a ih =>
    rw [sameB_eq]
    have : all2 sameB a.l a.l = true := by
      have : ∀ l : List Ex, (∀ x ∈ l, sameB x x = true) → all2 sameB l l = true := by
        intro l
        induction l with
        | nil => intro _; rfl
        | cons x l ih => intro h; simp only [all2, h x (by simp), ih fun y hy => h y (by simp [hy]), Bool.and_self]
      exact this a.l ih
    simp [this]
theorem ff_af (cc : Int) (a b e : Ex) : AF Tryd.prog 3 [aI .i64 cc, exA a, exA b, exA e] (aB true) := by
  refine af_of Tryd.func3 rfl (by kernel_rfl) (by simp [Tryd.ntmps3]) fun _ => ?_
  simp [Tryd.f3]
  refine aCall_of (size_af a 1000 (by omega) (by omega)) (by simp) (by simp) ?_
  by_cases ha : a.nodes < 1000
  case neg =>
    simp [show 1000 - a.nodes = 0 by omega]
    refine aCall_of ex23_af (by simp) (by simp) ?_
    simp
  simp [show ¬ (1000 - a.nodes = 0) by omega]
  refine aCall_of (size_af b 1000 (by omega) (by omega)) (by simp) (by simp) ?_
  by_cases hb : b.nodes < 1000
  case neg =>
    simp [show 1000 - b.nodes = 0 by omega]
    refine aCall_of ex23_af (by simp) (by simp) ?_
    simp
  simp [show ¬ (1000 - b.nodes = 0) by omega]
  refine aCall_of (size_af e 1000 (by omega) (by omega)) (by simp) (by simp) ?_
  by_cases he : e.nodes < 1000
  case neg =>
    simp [show 1000 - e.nodes = 0 by omega]
    refine aCall_of ex23_af (by simp) (by simp) ?_
    simp
  simp [show ¬ (1000 - e.nodes = 0) by omega]
  obtain ⟨x, y, hr⟩ : ∃ (x : Int) (y : Bool), recA e = .tup [aI .i64 x, aB y] := by
    unfold recA
    split
    · exact ⟨_, _, rfl⟩
    · exact ⟨_, _, rfl⟩
  refine aCall_of (hr ▸ rec_af e) (by simp) (by simp) ?_
  simp
  refine aCall_of (hr ▸ rrec_af e) (by simp) (by simp) ?_
  simp
  refine adraw [] (by kernel_rfl) (by kernel_rfl) (by kernel_rfl) (by kernel_rfl) ?_
  simp
  refine adC_of (cond_af cc a b (by omega) (by omega)) (by simp) trivial (by simp) (by simp) ?_
  simp
  refine adC_of (rcond_af cc a b) (by simp) trivial (by simp) (by simp) ?_
  simp
  refine adC_of (refsame_af (condE cc a b) (condE cc a b)) (by simp) trivial (by simp) (by simp) ?_
  simp [sameB_refl]
  refine adC_of ex23_af (by simp) trivial (by simp) (by simp) ?_
  simp
end Go.Proofs.YtlfkighdmheniaaDoor
