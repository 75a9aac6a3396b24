/- Contracts: 32-bit arithmetic with flags. -/
import Derived.Test.YtlfkighdmheniaaDoorDc
namespace Go.Proofs.YtlfkighdmheniaaDoor
open Go.RowKit
abbrev aU (x : Int) : AV := aI .u32 x
/-- The sign bit. -/
def sgn (x : Int) : Bool := !decide (andI .u32 x 2147483648 = 0)
@[simp] def flagsA (x y : Int) : AV := .agg [aB (decide (IntKind.u32.wrap (x - y) = 0)), aB (sgn (IntKind.u32.wrap (x - y))), aB (decide (x < y)), aB (sgn (andI .u32 (xorI .u32 x y) (xorI .u32 x (IntKind.u32.wrap (x - y)))))]
theorem zn_af (x : Int) : AF Tryd.prog 68 [aU x] (.agg [aB (decide (x = 0)), aB (sgn x), aB false, aB false]) := by
  refine af_of Tryd.func68 rfl (by kernel_rfl) (by simp [Tryd.ntmps68]) fun _ => ?_
  simp [Tryd.f68, sgn]
theorem bsub_af (x y : Int) : AF Tryd.prog 31 [aU x, aU y] (.tup [aU (IntKind.u32.wrap (x - y)), flagsA x y]) := by
  refine af_of Tryd.func31 rfl (by kernel_rfl) (by simp [Tryd.ntmps31]) fun _ => ?_
  simp [Tryd.f31]
  refine aCall_of (zn_af (IntKind.u32.wrap (x - y))) (by simp) (by simp) ?_
  simp
  refine adraw [] (by kernel_rfl) (by kernel_rfl) (by kernel_rfl) (by kernel_rfl) ?_
  simp [sgn]
def shI (y : Int) : Int := andI .u32 y 31
theorem bshl_af (x y : Int) : AF Tryd.prog 151 [aU x, aU y] (aU (shlI .u32 x (shI y))) := by
  refine af_of Tryd.func151 rfl (by kernel_rfl) (by simp [Tryd.ntmps151]) fun _ => ?_
  simp [Tryd.f151, shI]
theorem bshr_af (x y : Int) : AF Tryd.prog 152 [aU x, aU y] (aU (shrI .u32 x (shI y))) := by
  refine af_of Tryd.func152 rfl (by kernel_rfl) (by simp [Tryd.ntmps152]) fun _ => ?_
  simp [Tryd.f152, shI]
theorem bsar_af (x y : Int) : AF Tryd.prog 153 [aU x, aU y] (aU (IntKind.u32.wrap (shrI .i32 (IntKind.i32.wrap x) (shI y)))) := by
  refine af_of Tryd.func153 rfl (by kernel_rfl) (by simp [Tryd.ntmps153]) fun _ => ?_
  simp [Tryd.f153, shI]
theorem btruth_af (b : Bool) : AF Tryd.prog 154 [aB b] (aU (if b then 1 else 0)) := by
  refine af_of Tryd.func154 rfl (by kernel_rfl) (by simp [Tryd.ntmps154]) fun _ => ?_
  simp [Tryd.f154]
  cases b <;> simp
/-- What an operator of two operands computes. -/
def appL (x y : Int) : List Int := [IntKind.u32.wrap (x + y), IntKind.u32.wrap (x - y), IntKind.u32.wrap (x * y), andI .u32 x y, orI .u32 x y, xorI .u32 x y, shlI .u32 x (shI y), shrI .u32 x (shI y), IntKind.u32.wrap (shrI .i32 (IntKind.i32.wrap x) (shI y)),
  if x = y then 1 else 0, if x = y then 0 else 1, if IntKind.i32.wrap x < IntKind.i32.wrap y then 1 else 0, if x < y then 1 else 0]
def appI (op : Nat) (x y : Int) : Int := (appL x y).getD (op - 3) 0
theorem bapply_af (op : Nat) (x y : Int) (h : 3 ≤ op ∧ op ≤ 15) : AF Tryd.prog 104 [aI .i64 op, aU x, aU y] (.tup [aU (appI op x y), aI .i64 0]) := by
  refine af_of Tryd.func104 rfl (by kernel_rfl) (by simp [Tryd.ntmps104]) fun _ => ?_
  simp [Tryd.f104, show ¬ ((op : Int) < 3) by omega, show ¬ (15 < (op : Int)) by omega]
  refine aCall_of (bshl_af x y) (by simp) (by simp) ?_
  simp
  refine aCall_of (bshr_af x y) (by simp) (by simp) ?_
  simp
  refine aCall_of (bsar_af x y) (by simp) (by simp) ?_
  simp
  refine aCall_of (btruth_af (decide (x = y))) (by simp) (by simp) ?_
  simp
  refine aCall_of (btruth_af (!decide (x = y))) (by simp) (by simp) ?_
  simp
  refine aCall_of (btruth_af (decide (IntKind.i32.wrap x < IntKind.i32.wrap y))) (by simp) (by simp) ?_
  simp
  refine aCall_of (btruth_af (decide (x < y))) (by simp) (by simp) ?_
  simp
  obtain rfl | rfl | rfl | rfl | rfl | rfl | rfl | rfl | rfl | rfl | rfl | rfl | rfl : op = 3 ∨ op = 4 ∨ op = 5 ∨ op = 6 ∨ op = 7 ∨ op = 8 ∨ op = 9 ∨ op = 10 ∨ op = 11 ∨ op = 12 ∨ op = 13 ∨ op = 14 ∨ op = 15 := by omega
  all_goals simp [appI, appL]
/-- Whether a condition holds for flags. -/
def holdsL (z n c v : Bool) : List Bool := [true, z, !z, n != v, !(n != v), z || (n != v), !z && !(n != v), c, !c, c || z, !c && !z, n, !n, v, !v]
def holdsI (cc : Int) (z n c v : Bool) : Bool := if 0 ≤ cc then (holdsL z n c v).getD cc.toNat false else false
theorem bholds_neg (cc : Int) (z n c v : Bool) (h : cc < 0) : AF Tryd.prog 34 [aI .i64 cc, .agg [aB z, aB n, aB c, aB v]] (aB false) := by
  refine af_of Tryd.func34 rfl (by kernel_rfl) (by simp [Tryd.ntmps34]) fun _ => ?_
  cases z <;> cases n <;> cases c <;> cases v <;> simp [Tryd.f34, show ¬ 0 ≤ cc by omega]
theorem bholds_big (cc : Int) (z n c v : Bool) (h : 15 ≤ cc) : AF Tryd.prog 34 [aI .i64 cc, .agg [aB z, aB n, aB c, aB v]] (aB false) := by
  refine af_of Tryd.func34 rfl (by kernel_rfl) (by simp [Tryd.ntmps34]) fun _ => ?_
  cases z <;> cases n <;> cases c <;> cases v <;> simp [Tryd.f34, show 0 ≤ cc by omega, show ¬ cc < 15 by omega]
theorem get_bools (l : List Bool) (k : Nat) (h : k < l.length) : (l.map aB)[k]? = some (aB (l.getD k false)) := by
  rw [List.getElem?_map, List.getElem?_eq_getElem h]
  simp [List.getD, List.getElem?_eq_getElem h]
theorem aSet_of {r : Option AV} {v : AV} {e : AEnv} {d : Option Nat} {K : AKont} {A : AHeap} (h : r = some v) (hk : K (aupd e d v) A) : aSet r e d K A := ⟨v, h, hk⟩
theorem bholds_in (k : Nat) (z n c v : Bool) (h : k < 15) : AF Tryd.prog 34 [aI .i64 k, .agg [aB z, aB n, aB c, aB v]] (aB ((holdsL z n c v).getD k false)) := by
  refine af_of Tryd.func34 rfl (by kernel_rfl) (by simp [Tryd.ntmps34]) fun _ => ?_
  obtain ⟨R, hR⟩ : ∃ R, (holdsL z n c v).getD k false = R := ⟨_, rfl⟩
  have hg := get_bools (holdsL z n c v) k h
  rw [hR] at hg ⊢
  clear hR
  cases z <;> cases n <;> cases c <;> cases v <;> (simp [Tryd.f34, show (k : Int) < 15 by omega]; refine aSet_of hg ?_; simp)
theorem bholds_af (cc : Int) (z n c v : Bool) : AF Tryd.prog 34 [aI .i64 cc, .agg [aB z, aB n, aB c, aB v]] (aB (holdsI cc z n c v)) := by
  by_cases h : cc < 0
  · rw [show holdsI cc z n c v = false by simp [holdsI, show ¬ 0 ≤ cc by omega]]
    exact bholds_neg cc z n c v h
  · obtain ⟨k, rfl⟩ : ∃ k : Nat, cc = k := ⟨cc.toNat, by omega⟩
    by_cases h2 : k < 15
    · rw [show holdsI k z n c v = (holdsL z n c v).getD k false by simp [holdsI]]
      exact bholds_in k z n c v h2
    · rw [show holdsI k z n c v = false by
        have : (holdsL z n c v)[k]? = none := List.getElem?_eq_none (by simp [holdsL]; omega)
        simp [holdsI, this]]
      exact bholds_big k z n c v (by omega)
end Go.Proofs.YtlfkighdmheniaaDoor
