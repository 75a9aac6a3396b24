/- Texts that the claim leans on, laid one behind the other: Ib, Ic, Id, Ia, Ie, If, Ig. -/
import Derived.Test.YtlidimmfpfockaaGreatDoorZG
import Derived.Test.YtlidimmfpfockaaGreatDoorZH
import Derived.Test.YtlidimmfpfockaaGreatDoorAo
set_option linter.unusedSimpArgs false
set_option linter.unusedVariables false
set_option linter.unnecessarySimpa false
/- The values of expressions as plain numbers; what evaluates an idiom's replacement evaluates the idiom. No program in sight. -/
namespace Go.Proofs.YtlidimmfpfockaaGreatDoor
open Go.RowKit
theorem u32e (n : Int) : IntKind.u32.wrap n = n % 4294967296 := by simp [IntKind.wrap, IntKind.signed, IntKind.bits]
/-- The number as a signed one; and back. -/
def sg (x : Int) : Int := if 2147483648 ≤ x then x - 4294967296 else x
def us (x : Int) : Int := if x < 0 then x + 4294967296 else x
/-- How far a shift goes. -/
def sa (y : Int) : Nat := (y % 32).toNat
def rShl (x y : Int) : Int := (x * 2 ^ sa y) % 4294967296
def rShr (x y : Int) : Int := x / 2 ^ sa y
def rSar (x y : Int) : Int := us (sg x / 2 ^ sa y)
def rTr (x w : Int) : Int := if w = 1 then x % 256 else if w = 2 then x % 65536 else x
def rEx (x w : Int) : Int := if w = 1 ∧ 128 ≤ rTr x w then rTr x w + 4294967040 else if w = 2 ∧ 32768 ≤ rTr x w then rTr x w + 4294901760 else rTr x w
/-- An operator with two operands. -/
def apR (op x y : Int) : Int :=
  if op = 3 then (x + y) % 4294967296 else if op = 4 then (x - y) % 4294967296 else if op = 5 then (x * y) % 4294967296 else
  if op = 6 then andI .u32 x y else if op = 7 then orI .u32 x y else if op = 8 then xorI .u32 x y else
  if op = 9 then rShl x y else if op = 10 then rShr x y else if op = 11 then rSar x y else
  if op = 12 then (if x = y then 1 else 0) else if op = 13 then (if x = y then 0 else 1) else if op = 14 then (if sg x < sg y then 1 else 0) else (if x < y then 1 else 0)
def valR (V : List Int) (v : Int) : Int := if 0 ≤ v then V.getD v.toNat 0 else 0
/-- An expression's value and error. -/
def evR (V : List Int) (L : Int → Int → Int × Int) : Ex → Int × Int
  | .mk op n v _ [] => if op = 1 then (n, 0) else (valR V v, 0)
  | .mk op _ _ w [a] => if (evR V L a).2 ≠ 0 then (0, (evR V L a).2) else
    if op = 16 then (if (evR V L a).1 = 0 then 1 else 0, 0) else if op = 17 then ((-(evR V L a).1) % 4294967296, 0) else if op = 18 then L (evR V L a).1 w else (rEx (evR V L a).1 w, 0)
  | .mk op _ _ _ [a, b] => if (evR V L a).2 ≠ 0 then (0, (evR V L a).2) else if (evR V L b).2 ≠ 0 then (0, (evR V L b).2) else (apR op (evR V L a).1 (evR V L b).1, 0)
  | _ => (0, 0)
/-- A number of 32 bits. -/
def R32 (x : Int) : Prop := 0 ≤ x ∧ x < 4294967296
inductive OkN : Ex → Prop where
  | mk {e : Ex} : R32 e.n → (∀ x ∈ e.l, OkN x) → OkN e
theorem OkN.n {e : Ex} (h : OkN e) : R32 e.n := by cases h; assumption
theorem OkN.l {e : Ex} (h : OkN e) : ∀ x ∈ e.l, OkN x := by cases h; assumption
theorem okN_con {n : Int} (h : R32 n) : OkN (eCon n) := .mk h (by simp)
theorem r32_0 : R32 0 := ⟨by omega, by omega⟩
theorem okN_two {op : Int} {a b : Ex} (ha : OkN a) (hb : OkN b) : OkN (eTwo op a b) := .mk r32_0 (by simp; exact ⟨ha, hb⟩)
theorem okN_one {op : Int} {a : Ex} (ha : OkN a) : OkN (eOne op a) := .mk r32_0 (by simpa using ha)
theorem okN_x {e : Ex} (h : OkN e) (hf : formB e = true) (h3 : 3 ≤ e.op) (h15 : e.op ≤ 15) : OkN e.x ∧ OkN e.y := by
  obtain ⟨he, _, _⟩ := two_parts hf h3 h15
  have hl : e.l = [e.x, e.y] := by
    have := congrArg Ex.l he
    simpa using this
  exact ⟨h.l _ (by rw [hl]; simp), h.l _ (by rw [hl]; simp)⟩
theorem okN_x1 {e : Ex} (h : OkN e) (hf : formB e = true) (ho : e.op = 17) : OkN e.x := by
  obtain ⟨he, _⟩ := one_part hf (.inr ho)
  have hl : e.l = [e.x] := by
    have := congrArg Ex.l he
    simpa using this
  exact h.l _ (by rw [hl]; simp)
theorem r32_mod (n : Int) : R32 (n % 4294967296) := ⟨Int.emod_nonneg _ (by omega), Int.emod_lt_of_pos _ (by omega)⟩
end Go.Proofs.YtlidimmfpfockaaGreatDoor

/- What evaluates an idiom's replacement evaluates the idiom. No program in sight. -/
namespace Go.Proofs.YtlidimmfpfockaaGreatDoor
open Go.RowKit
theorem ofInt_nat {x : Int} (h : R32 x) : ((BitVec.ofInt 32 x).toNat : Int) = x := by
  have := h.1
  have := h.2
  rw [BitVec.toNat_ofInt]
  simp
  omega
theorem bits_r32 (x : BitVec 32) : IntKind.u32.wrap (x.toNat : Int) = x.toNat := by
  have := x.isLt
  rw [u32e]
  omega
theorem andI_eq (a b : Int) : andI .u32 a b = ((BitVec.ofInt 32 a &&& BitVec.ofInt 32 b).toNat : Int) := bits_r32 _
theorem orI_eq (a b : Int) : orI .u32 a b = ((BitVec.ofInt 32 a ||| BitVec.ofInt 32 b).toNat : Int) := bits_r32 _
theorem xorI_eq (a b : Int) : xorI .u32 a b = ((BitVec.ofInt 32 a ^^^ BitVec.ofInt 32 b).toNat : Int) := bits_r32 _
theorem bits_in (x : BitVec 32) : R32 (x.toNat : Int) := by have := x.isLt; exact ⟨by omega, by omega⟩
theorem xorI_comm (a b : Int) : xorI .u32 a b = xorI .u32 b a := by rw [xorI_eq, xorI_eq, BitVec.xor_comm]
theorem mask_eq {a : Int} (h : R32 a) (k : Nat) (hk : k ≤ 31) : andI .u32 a (2 ^ k - 1) = a % 2 ^ k := by
  obtain ⟨n, rfl⟩ : ∃ n : Nat, a = n := ⟨a.toNat, by have := h.1; omega⟩
  have hn : n < 2 ^ 32 := by have := h.2; omega
  have hp : (2 : Nat) ^ k ≤ 2 ^ 31 := Nat.pow_le_pow_right (by omega) hk
  have h1 : (2 : Nat) ^ k - 1 < 2 ^ 32 := by omega
  have hpos : 0 < (2 : Nat) ^ k := Nat.pos_of_ne_zero (by simp)
  have e1 : (2 : Int) ^ k - 1 = ((2 ^ k - 1 : Nat) : Int) := by
    rw [Int.natCast_sub hpos]
    simp
  rw [andI_eq, e1, BitVec.toNat_and]
  have f : ∀ m : Nat, m < 2 ^ 32 → (BitVec.ofInt 32 (m : Int)).toNat = m := fun m hm => by
    rw [BitVec.toNat_ofInt]
    simp
    omega
  rw [f n hn, f _ h1, Nat.and_two_pow_sub_one_eq_mod]
  simp
section
variable (V : List Int) (L : Int → Int → Int × Int)
theorem ev_con (n : Int) : evR V L (eCon n) = (n, 0) := rfl
theorem ev_two (op : Int) (a b : Ex) : evR V L (eTwo op a b) = if (evR V L a).2 ≠ 0 then (0, (evR V L a).2) else if (evR V L b).2 ≠ 0 then (0, (evR V L b).2) else (apR op (evR V L a).1 (evR V L b).1, 0) := rfl
theorem ev_neg (a : Ex) : evR V L (eOne 17 a) = if (evR V L a).2 ≠ 0 then (0, (evR V L a).2) else ((-(evR V L a).1) % 4294967296, 0) := rfl
/-- Variables and loads yield numbers of 32 bits; a load's error comes with zero. -/
structure EvOk : Prop where
  hV : ∀ v, R32 (valR V v)
  hL : ∀ a w, R32 (L a w).1
  hZ : ∀ a w, (L a w).2 ≠ (0 : Int) → (L a w).1 = 0
theorem ite_r32 {p : Prop} [Decidable p] {a b : Int} (ha : R32 a) (hb : R32 b) : R32 (if p then a else b) := by
  split
  · exact ha
  · exact hb
theorem r32_1 : R32 1 := ⟨by omega, by omega⟩
theorem rShr_r32 {x : Int} (y : Int) (hx : R32 x) : R32 (rShr x y) := by
  unfold rShr
  refine ⟨Int.ediv_nonneg hx.1 (Int.le_of_lt (Int.pow_pos (by omega))), ?_⟩
  have := Int.ediv_le_self (2 ^ sa y) hx.1
  have := hx.2
  omega
theorem rSar_r32 {x : Int} (y : Int) (hx : R32 x) : R32 (rSar x y) := by
  unfold rSar
  have hs : -2147483648 ≤ sg x ∧ sg x < 2147483648 := by
    have := hx.1
    have := hx.2
    unfold sg
    split <;> omega
  have hp : (0 : Int) < 2 ^ sa y := Int.pow_pos (by omega)
  have h1 : -2147483648 ≤ sg x / 2 ^ sa y ∧ sg x / 2 ^ sa y < 2147483648 := by
    rcases Int.lt_or_le (sg x) 0 with h | h
    · have h2 := Int.ediv_neg_of_neg_of_pos h hp
      have h3 : sg x ≤ sg x / 2 ^ sa y := by
        rw [Int.le_ediv_iff_mul_le hp]
        have := Int.mul_le_mul_of_nonpos_left (Int.le_of_lt h) (show (1 : Int) ≤ 2 ^ sa y by omega)
        omega
      omega
    · have := Int.ediv_nonneg h (Int.le_of_lt hp)
      have := Int.ediv_le_self (2 ^ sa y) h
      omega
  unfold us
  split <;> exact ⟨by omega, by omega⟩
theorem apR_r32 {op x y : Int} (hx : R32 x) (hy : R32 y) : R32 (apR op x y) := by
  unfold apR
  exact ite_r32 (r32_mod _) (ite_r32 (r32_mod _) (ite_r32 (r32_mod _) (ite_r32 (by rw [andI_eq]; exact bits_in _) (ite_r32 (by rw [orI_eq]; exact bits_in _) (ite_r32 (by rw [xorI_eq]; exact bits_in _)
    (ite_r32 (r32_mod _) (ite_r32 (rShr_r32 y hx) (ite_r32 (rSar_r32 y hx) (ite_r32 (ite_r32 r32_1 r32_0) (ite_r32 (ite_r32 r32_0 r32_1) (ite_r32 (ite_r32 r32_1 r32_0) (ite_r32 r32_1 r32_0))))))))))))
theorem rEx_r32 {x w : Int} (hx : R32 x) : R32 (rEx x w) := by
  have h1 := hx.1
  have h2 := hx.2
  unfold rEx rTr
  refine ⟨?_, ?_⟩ <;> split <;> (try split) <;> (try split) <;> (try split) <;> omega
theorem ev_ok (h : EvOk V L) : ∀ e, OkN e → formB e = true → R32 (evR V L e).1 ∧ ((evR V L e).2 ≠ 0 → (evR V L e).1 = 0) := by
  intro e
  induction e using Ex.ind with
  | h e ih =>
    intro hn hf
    have hop := form_op hf
    by_cases h1 : e.op = 1
    · rw [form_con hf h1]
      exact ⟨hn.n, fun h => absurd rfl h⟩
    by_cases h2 : e.op = 2
    · rw [(form_var hf h2).1]
      exact ⟨h.hV _, fun h => absurd rfl h⟩
    by_cases h15 : e.op ≤ 15
    · obtain ⟨he, hx, hy⟩ := two_parts hf (by omega) h15
      have hl : e.l = [e.x, e.y] := by
        have := congrArg Ex.l he
        simpa using this
      obtain ⟨nx, ny⟩ := okN_x hn hf (by omega) h15
      have ix := ih e.x (by rw [hl]; simp) nx hx
      have iy := ih e.y (by rw [hl]; simp) ny hy
      rw [he, ev_two]
      split
      · exact ⟨r32_0, fun _ => rfl⟩
      · split
        · exact ⟨r32_0, fun _ => rfl⟩
        · exact ⟨apR_r32 ix.1 iy.1, fun h => absurd rfl h⟩
    · have hone : ∃ a w, e = .mk e.op 0 0 w [a] ∧ formB a = true := by
        rcases (show e.op = 16 ∨ e.op = 17 ∨ e.op = 18 ∨ e.op = 19 by omega) with ho | ho | ho | ho
        · obtain ⟨a, he, ha⟩ := form_one hf (.inl ho); exact ⟨a, 0, he, ha⟩
        · obtain ⟨a, he, ha⟩ := form_one hf (.inr ho); exact ⟨a, 0, he, ha⟩
        · obtain ⟨a, he, ha, _⟩ := form_wide hf (.inl ho); exact ⟨a, _, he, ha⟩
        · obtain ⟨a, he, ha, _⟩ := form_wide hf (.inr ho); exact ⟨a, _, he, ha⟩
      obtain ⟨a, w, he, ha⟩ := hone
      have hl : e.l = [a] := by
        have := congrArg Ex.l he
        simpa using this
      have ia := ih a (by rw [hl]; simp) (hn.l a (by rw [hl]; simp)) ha
      rw [he]
      simp only [evR]
      split
      · exact ⟨r32_0, fun _ => rfl⟩
      · split
        · refine ⟨?_, fun h => absurd rfl h⟩
          simp only
          split <;> exact ⟨by decide, by decide⟩
        · split
          · exact ⟨r32_mod _, fun h => absurd rfl h⟩
          · split
            · exact ⟨h.hL _ _, h.hZ _ _⟩
            · exact ⟨rEx_r32 ia.1, fun h => absurd rfl h⟩
end
end Go.Proofs.YtlidimmfpfockaaGreatDoor

/- Each idiom's replacement has the idiom's value. No program in sight. -/
namespace Go.Proofs.YtlidimmfpfockaaGreatDoor
open Go.RowKit
section
variable {V : List Int} {L : Int → Int → Int × Int}
end
end Go.Proofs.YtlidimmfpfockaaGreatDoor

/- Contracts: the reference's arithmetic of layer 1. -/
namespace Go.Proofs.YtlidimmfpfockaaGreatDoor
open Go.RowKit
theorem r01neg_af (x : Int) : AF Tryz.prog 246 [aI .u32 x] (aB (decide (2147483648 ≤ x))) := by
  refine af_of Tryz.func246 rfl (by kernel_rfl) (by simp [Tryz.ntmps246]) fun _ => ?_; simp [Tryz.f246, Ex.d_eq]
theorem r01num_af (b : Bool) : AF Tryz.prog 201 [aB b] (aI .u32 (if b then 1 else 0)) := by
  refine af_of Tryz.func201 rfl (by kernel_rfl) (by simp [Tryz.ntmps201]) fun _ => ?_; simp [Tryz.f201, Ex.d_eq]
  cases b <;> simp
section
variable {x y : Int} (hx : 0 ≤ x ∧ x < 4294967296) (hy : 0 ≤ y ∧ y < 4294967296)
include hx hy
omit hx in
theorem sa_le : (sa y : Int) = y % 32 ∧ y.tmod 32 = y % 32 := by
  refine ⟨?_, Int.tmod_eq_emod_of_nonneg hy.1⟩
  unfold sa
  omega
theorem r01shl_af : AF Tryz.prog 198 [aI .u32 x, aI .u32 y] (aI .u32 (rShl x y)) := by
  obtain ⟨h1, h2⟩ := sa_le hy
  unfold rShl
  obtain ⟨m, hm⟩ : ∃ m, sa y = m := ⟨_, rfl⟩
  rw [hm] at h1 ⊢
  refine af_of Tryz.func198 rfl (by kernel_rfl) (by simp [Tryz.ntmps198]) fun _ => ?_; simp [Tryz.f198, Ex.d_eq]
  refine aLoop_of (α := Nat) (fun k e A => k ≤ m ∧ A = [] ∧ e 0 = aI .u32 ((x * 2 ^ k) % 4294967296) ∧ e 1 = aI .u32 y ∧ e 5 = aI .u32 k) (fun k => m - k) 0 (Sub.refl _ _ _)
    ⟨by omega, by simp, by simp; omega, by simp, by simp⟩ ?_
  rintro k e A ⟨hk, rfl, e0, e1, e5⟩ K hK
  rcases Nat.lt_or_ge k m with hlt | hge
  case inr =>
    obtain rfl : k = m := by omega
    simp [e0, e1, e5, h2, show ¬ (k : Int) < y % 32 by omega]
  simp [e0, e1, e5, h2, show (k : Int) < y % 32 by omega, u32w (n := (k : Int) + 1) (by omega), u32e]
  refine hK (k + 1) _ _ _ _ (Sub.refl _ _ _) ⟨by omega, rfl, ?_, by simp [e1], by simp⟩ (by omega)
  simp
  rw [Int.pow_succ, ← Int.mul_assoc]
  omega
theorem r01shr_af : AF Tryz.prog 199 [aI .u32 x, aI .u32 y] (aI .u32 (rShr x y)) := by
  obtain ⟨h1, h2⟩ := sa_le hy
  unfold rShr
  obtain ⟨m, hm⟩ : ∃ m, sa y = m := ⟨_, rfl⟩
  rw [hm] at h1 ⊢
  have hr : ∀ k : Nat, 0 ≤ x / 2 ^ k ∧ x / 2 ^ k ≤ x := fun k => ⟨Int.ediv_nonneg hx.1 (by exact Int.le_of_lt (Int.pow_pos (by omega))), Int.ediv_le_self _ hx.1⟩
  refine af_of Tryz.func199 rfl (by kernel_rfl) (by simp [Tryz.ntmps199]) fun _ => ?_; simp [Tryz.f199, Ex.d_eq]
  refine aLoop_of (α := Nat) (fun k e A => k ≤ m ∧ A = [] ∧ e 0 = aI .u32 (x / 2 ^ k) ∧ e 1 = aI .u32 y ∧ e 5 = aI .u32 k) (fun k => m - k) 0 (Sub.refl _ _ _)
    ⟨by omega, by simp, by simp, by simp, by simp⟩ ?_
  rintro k e A ⟨hk, rfl, e0, e1, e5⟩ K hK
  rcases Nat.lt_or_ge k m with hlt | hge
  case inr =>
    obtain rfl : k = m := by omega
    simp [e0, e1, e5, h2, show ¬ (k : Int) < y % 32 by omega]
  have := hr k
  simp [e0, e1, e5, h2, show (k : Int) < y % 32 by omega, u32w (n := (k : Int) + 1) (by omega)]
  refine hK (k + 1) _ _ _ _ (Sub.refl _ _ _) ⟨by omega, rfl, ?_, by simp [e1], by simp⟩ (by omega)
  simp
  rw [Int.tdiv_eq_ediv_of_nonneg this.1, u32w (by omega), Int.pow_succ, Int.ediv_ediv_of_nonneg (Int.le_of_lt (Int.pow_pos (by omega)))]
theorem r01sar_af : AF Tryz.prog 200 [aI .u32 x, aI .u32 y] (aI .u32 (rSar x y)) := by
  obtain ⟨h1, h2⟩ := sa_le hy
  unfold rSar
  obtain ⟨m, hm⟩ : ∃ m, sa y = m := ⟨_, rfl⟩
  rw [hm] at h1 ⊢
  have hs : -2147483648 ≤ sg x ∧ sg x < 2147483648 ∧ (sg x < 0 ↔ 2147483648 ≤ x) := by unfold sg; split <;> omega
  have hq : ∀ k : Nat, (0 ≤ sg x → 0 ≤ sg x / 2 ^ k ∧ sg x / 2 ^ k < 2147483648) ∧ (sg x < 0 → -2147483648 ≤ sg x / 2 ^ k ∧ sg x / 2 ^ k < 0) := fun k => by
    have hp : (0 : Int) < 2 ^ k := Int.pow_pos (by omega)
    refine ⟨fun h => ⟨Int.ediv_nonneg h (Int.le_of_lt hp), ?_⟩, fun h => ⟨?_, Int.ediv_neg_of_neg_of_pos h hp⟩⟩
    · have := Int.ediv_le_self (2 ^ k) h
      omega
    · have : sg x ≤ sg x / 2 ^ k := by
        have h3 : (1 : Int) ≤ 2 ^ k := by omega
        rw [Int.le_ediv_iff_mul_le hp]
        have := Int.mul_le_mul_of_nonpos_left (Int.le_of_lt h) h3
        omega
      omega
  refine af_of Tryz.func200 rfl (by kernel_rfl) (by simp [Tryz.ntmps200]) fun _ => ?_; simp [Tryz.f200, Ex.d_eq]
  refine aCall_of (r01neg_af x) (by simp) (by simp [Ex.d_eq]) ?_; simp [Ex.d_eq]
  have fin : ∀ top : Int, top = (if 2147483648 ≤ x then 2147483648 else 0) → ∀ k : Nat, (us (sg x / 2 ^ k) / 2 + top) % 4294967296 = us (sg x / 2 ^ (k + 1)) := fun top ht k => by
    rw [Int.pow_succ, ← Int.ediv_ediv_of_nonneg (Int.le_of_lt (Int.pow_pos (by omega)))]
    obtain ⟨q1, q2⟩ := hq k
    generalize sg x / 2 ^ k = q at *
    unfold us
    split at ht <;> split <;> split <;> omega
  have loop : ∀ top : Int, top = (if 2147483648 ≤ x then 2147483648 else 0) → ∀ k : Nat, IntKind.u32.wrap (IntKind.u32.wrap ((us (sg x / 2 ^ k)).tdiv 2) + top) = us (sg x / 2 ^ (k + 1)) := fun top ht k => by
    have hu : 0 ≤ us (sg x / 2 ^ k) ∧ us (sg x / 2 ^ k) < 4294967296 := by
      obtain ⟨q1, q2⟩ := hq k
      unfold us
      split <;> omega
    rw [Int.tdiv_eq_ediv_of_nonneg hu.1, u32w (n := us (sg x / 2 ^ k) / 2) (by omega), u32e, fin top ht k]
  have x0 : us (sg x) = x := by unfold us sg; split <;> split <;> omega
  by_cases hn : 2147483648 ≤ x
  · simp [hn]
    refine aLoop_of (α := Nat) (fun k e A => k ≤ m ∧ A = [] ∧ e 0 = aI .u32 (us (sg x / 2 ^ k)) ∧ e 1 = aI .u32 y ∧ e 5 = aI .u32 2147483648 ∧ e 6 = aI .u32 k) (fun k => m - k) 0 (Sub.refl _ _ _)
      ⟨by omega, by simp, by simp [x0], by simp, by simp, by simp⟩ ?_
    rintro k e A ⟨hk, rfl, e0, e1, e5, e6⟩ K hK
    rcases Nat.lt_or_ge k m with hlt | hge
    case inr =>
      obtain rfl : k = m := by omega
      simp [e0, e1, e6, h2, show ¬ (k : Int) < y % 32 by omega]
    simp [e0, e1, e5, e6, h2, show (k : Int) < y % 32 by omega, u32w (n := (k : Int) + 1) (by omega), loop 2147483648 (by rw [if_pos hn])]
    exact hK (k + 1) _ _ _ _ (Sub.refl _ _ _) ⟨by omega, rfl, by simp, by simp [e1], by simp [e5], by simp⟩ (by omega)
  · simp [hn]
    refine aLoop_of (α := Nat) (fun k e A => k ≤ m ∧ A = [] ∧ e 0 = aI .u32 (us (sg x / 2 ^ k)) ∧ e 1 = aI .u32 y ∧ e 5 = aI .u32 0 ∧ e 6 = aI .u32 k) (fun k => m - k) 0 (Sub.refl _ _ _)
      ⟨by omega, by simp, by simp [x0], by simp, by simp, by simp⟩ ?_
    rintro k e A ⟨hk, rfl, e0, e1, e5, e6⟩ K hK
    rcases Nat.lt_or_ge k m with hlt | hge
    case inr =>
      obtain rfl : k = m := by omega
      simp [e0, e1, e6, h2, show ¬ (k : Int) < y % 32 by omega]
    have l0 := loop 0 (by rw [if_neg hn])
    simp only [Int.add_zero] at l0
    simp [e0, e1, e5, e6, h2, show (k : Int) < y % 32 by omega, u32w (n := (k : Int) + 1) (by omega), l0]
    exact hK (k + 1) _ _ _ _ (Sub.refl _ _ _) ⟨by omega, rfl, by simp, by simp [e1], by simp [e5], by simp⟩ (by omega)
omit hy in
theorem r01trunc_af (w : Int) : AF Tryz.prog 197 [aI .u32 x, aI .i64 w] (aI .u32 (rTr x w)) := by
  unfold rTr
  refine af_of Tryz.func197 rfl (by kernel_rfl) (by simp [Tryz.ntmps197]) fun _ => ?_; simp [Tryz.f197, Ex.d_eq]
  by_cases h1 : w = 1
  · simp [h1, Int.tmod_eq_emod_of_nonneg hx.1]
  · by_cases h2 : w = 2
    · simp [h2, Int.tmod_eq_emod_of_nonneg hx.1]
    · simp [h1, h2]
omit hy in
theorem r01ext_af (w : Int) : AF Tryz.prog 144 [aI .u32 x, aI .i64 w] (aI .u32 (rEx x w)) := by
  refine af_of Tryz.func144 rfl (by kernel_rfl) (by simp [Tryz.ntmps144]) fun _ => ?_; simp [Tryz.f144, Ex.d_eq]
  refine aCall_of (r01trunc_af hx w) (by simp) (by simp [Ex.d_eq]) ?_; simp [Ex.d_eq]
  unfold rEx
  have ht : 0 ≤ rTr x w ∧ rTr x w < 4294967296 ∧ (w = 1 → rTr x w < 256) ∧ (w = 2 → rTr x w < 65536) := by unfold rTr; split <;> (try split) <;> omega
  generalize rTr x w = t at *
  by_cases h1 : w = 1
  · by_cases h3 : 128 ≤ t
    · simp [h1, h3, u32e]
      omega
    · simp [h1, h3]
  · by_cases h2 : w = 2
    · by_cases h3 : 32768 ≤ t
      · simp [h2, h3, u32e]
        omega
      · simp [h2, h3]
    · simp [h1, h2]
omit hx hy in
theorem i32wm' (n : Int) : IntKind.i32.wrap n = if 2147483648 ≤ n % 4294967296 then n % 4294967296 - 4294967296 else n % 4294967296 := by simp [IntKind.wrap, IntKind.signed, IntKind.bits]
omit hx hy in
theorem i32_sg (x : Int) (hx : 0 ≤ x ∧ x < 4294967296) : IntKind.i32.wrap x = sg x := by
  rw [i32wm']
  unfold sg
  split <;> split <;> omega
theorem r01apply_af (op : Int) (ho : 3 ≤ op ∧ op ≤ 15) : AF Tryz.prog 145 [aI .i64 op, aI .u32 x, aI .u32 y] (.tup [aI .u32 (apR op x y), aI .i64 0]) := by
  rcases (show op = 3 ∨ op = 4 ∨ op = 5 ∨ op = 6 ∨ op = 7 ∨ op = 8 ∨ op = 9 ∨ op = 10 ∨ op = 11 ∨ op = 12 ∨ op = 13 ∨ op = 14 ∨ op = 15 by omega) with rfl | rfl | rfl | rfl | rfl | rfl | rfl | rfl | rfl | rfl | rfl | rfl | rfl
  · refine af_of Tryz.func145 rfl (by kernel_rfl) (by simp [Tryz.ntmps145]) fun _ => ?_; simp [Tryz.f145, Ex.d_eq]
    simp [apR, u32e]
  · refine af_of Tryz.func145 rfl (by kernel_rfl) (by simp [Tryz.ntmps145]) fun _ => ?_; simp [Tryz.f145, Ex.d_eq]
    simp [apR, u32e]
  · refine af_of Tryz.func145 rfl (by kernel_rfl) (by simp [Tryz.ntmps145]) fun _ => ?_; simp [Tryz.f145, Ex.d_eq]
    simp [apR, u32e]
  · refine af_of Tryz.func145 rfl (by kernel_rfl) (by simp [Tryz.ntmps145]) fun _ => ?_; simp [Tryz.f145, Ex.d_eq]
    simp [apR]
  · refine af_of Tryz.func145 rfl (by kernel_rfl) (by simp [Tryz.ntmps145]) fun _ => ?_; simp [Tryz.f145, Ex.d_eq]
    simp [apR]
  · refine af_of Tryz.func145 rfl (by kernel_rfl) (by simp [Tryz.ntmps145]) fun _ => ?_; simp [Tryz.f145, Ex.d_eq]
    simp [apR]
  · refine af_of Tryz.func145 rfl (by kernel_rfl) (by simp [Tryz.ntmps145]) fun _ => ?_; simp [Tryz.f145, Ex.d_eq]
    refine aCall_of (r01shl_af hx hy) (by simp) (by simp [Ex.d_eq]) ?_; simp [Ex.d_eq]
    simp [apR]
  · refine af_of Tryz.func145 rfl (by kernel_rfl) (by simp [Tryz.ntmps145]) fun _ => ?_; simp [Tryz.f145, Ex.d_eq]
    refine aCall_of (r01shr_af hx hy) (by simp) (by simp [Ex.d_eq]) ?_; simp [Ex.d_eq]
    simp [apR]
  · refine af_of Tryz.func145 rfl (by kernel_rfl) (by simp [Tryz.ntmps145]) fun _ => ?_; simp [Tryz.f145, Ex.d_eq]
    refine aCall_of (r01sar_af hx hy) (by simp) (by simp [Ex.d_eq]) ?_; simp [Ex.d_eq]
    simp [apR]
  · refine af_of Tryz.func145 rfl (by kernel_rfl) (by simp [Tryz.ntmps145]) fun _ => ?_; simp [Tryz.f145, Ex.d_eq]
    refine aCall_of (r01num_af (decide (x = y))) (by simp) (by simp [Ex.d_eq]) ?_; simp [Ex.d_eq]
    simp [apR]
  · refine af_of Tryz.func145 rfl (by kernel_rfl) (by simp [Tryz.ntmps145]) fun _ => ?_; simp [Tryz.f145, Ex.d_eq]
    refine aCall_of (r01num_af (!decide (x = y))) (by simp) (by simp [Ex.d_eq]) ?_; simp [Ex.d_eq]
    simp [apR]
  · refine af_of Tryz.func145 rfl (by kernel_rfl) (by simp [Tryz.ntmps145]) fun _ => ?_; simp [Tryz.f145, Ex.d_eq]
    simp [i32_sg x hx, i32_sg y hy]
    refine aCall_of (r01num_af (decide (sg x < sg y))) (by simp) (by simp [Ex.d_eq]) ?_; simp [Ex.d_eq]
    simp [apR]
  · refine af_of Tryz.func145 rfl (by kernel_rfl) (by simp [Tryz.ntmps145]) fun _ => ?_; simp [Tryz.f145, Ex.d_eq]
    refine aCall_of (r01num_af (decide (x < y))) (by simp) (by simp [Ex.d_eq]) ?_; simp [Ex.d_eq]
    simp [apR]
end
end Go.Proofs.YtlidimmfpfockaaGreatDoor

/- Contracts: the reference's evaluation of expressions (layer 20). -/
namespace Go.Proofs.YtlidimmfpfockaaGreatDoor
open Go.RowKit
def u32s (V : List Int) : List (List D) := V.map fun n => [.v (.int .u32 n)]
@[simp] theorem u32s_len (V : List Int) : (u32s V).length = V.length := by simp [u32s]
@[simp] theorem u32s_get (V : List Int) (i : Nat) : (u32s V)[i]? = (V[i]?).map fun n => [.v (.int .u32 n)] := by simp [u32s]
@[simp] theorem u32s_at (V : List Int) (i : Nat) (h : i < (u32s V).length) : (u32s V)[i] = [.v (.int .u32 (V[i]'(by simpa using h)))] := by simp [u32s]
/-- The state; a memory that was made. -/
@[simp] def stA (V : List Int) : AV := .agg [.d (.sl 1 (u32s V))]
@[simp] def memA (S C : List (List D)) : AV := .agg [aB true, .d (.sl 5 S), .d (.sl 2 C)]
theorem r20value_af (V : List Int) (v : Int) : AF Tryz.prog 142 [stA V, aI .i64 v] (aI .u32 (valR V v)) := by
  refine af_of Tryz.func142 rfl (by kernel_rfl) (by simp [Tryz.ntmps142]) fun _ => ?_; simp [Tryz.f142, Ex.d_eq]
  unfold valR
  by_cases h : 0 ≤ v
  · obtain ⟨n, rfl⟩ : ∃ n : Nat, v = n := ⟨v.toNat, by omega⟩
    by_cases h2 : n < V.length
    · simp [show ¬ ((n : Int) < 0) by omega, show ¬ ((V.length : Int) ≤ n) by omega, h2, List.getD_eq_getElem?_getD]
    · simp [show ¬ ((n : Int) < 0) by omega, show ((V.length : Int) ≤ n) by omega, h2, List.getD_eq_getElem?_getD, List.getElem?_eq_none (show V.length ≤ n by omega)]
  · simp [h, show v < 0 by omega]
section
variable {V : List Int} {Lf : Int → Int → Int × Int} {S C : List (List D)} (hEv : EvOk V Lf)
  (hL : ∀ a w, R32 a → (w = 1 ∨ w = 2 ∨ w = 4) → AF Tryz.prog 143 [memA S C, aI .u32 a, aI .i64 w] (.tup [aI .u32 (Lf a w).1, aI .i64 (Lf a w).2]))
include hEv hL
theorem r20eval_af : ∀ e : Ex, OkN e → formB e = true → AF Tryz.prog 92 [exA e, stA V, memA S C] (.tup [aI .u32 (evR V Lf e).1, aI .i64 (evR V Lf e).2]) := by
  intro e
  induction e using Ex.ind with
  | h e ih =>
  intro hn hf
  have hop := form_op hf
  by_cases h1 : e.op = 1
  · rw [form_con hf h1]
    refine af_of Tryz.func92 rfl (by kernel_rfl) (by simp [Tryz.ntmps92]) fun _ => ?_; simp [Tryz.f92, Ex.d_eq]
    simp [ev_con]
  by_cases h2 : e.op = 2
  · rw [(form_var hf h2).1]
    refine af_of Tryz.func92 rfl (by kernel_rfl) (by simp [Tryz.ntmps92]) fun _ => ?_; simp [Tryz.f92, Ex.d_eq]
    refine aCall_of (r20value_af V e.v) (by simp) (by simp [Ex.d_eq]) ?_; simp [Ex.d_eq]
    simp [evR, eVar]
  by_cases h15 : e.op ≤ 15
  · obtain ⟨op, ho⟩ : ∃ op, e.op = op := ⟨_, rfl⟩
    rw [ho] at h1 h2 h15
    obtain ⟨nx, ny⟩ := okN_x hn hf (by omega) (by omega)
    obtain ⟨a, b, rfl, ha, hb⟩ := form_two' hf ho (by omega) h15
    simp only [x_two, y_two] at nx ny
    have ia := ih a (by simp) nx ha
    have ib := ih b (by simp) ny hb
    have ra := (ev_ok V Lf hEv a nx ha).1
    have rb := (ev_ok V Lf hEv b ny hb).1
    rw [ev_two]
    refine af_of Tryz.func92 rfl (by kernel_rfl) (by simp [Tryz.ntmps92]) fun _ => ?_; simp [Tryz.f92, Ex.d_eq]
    simp [h1, h2]
    refine adraw [] (by kernel_rfl) (by kernel_rfl) (by kernel_rfl) (by kernel_rfl) ?_; simp [Ex.d_eq]
    refine adC_of ia (by simp) trivial (by simp) (by simp [Ex.d_eq]) ?_; simp [Ex.d_eq]
    by_cases fa : (evR V Lf a).2 = 0
    case neg => simp [fa]
    simp [fa, show ¬ op = 16 by omega, show ¬ op = 17 by omega, show ¬ op = 18 by omega, show ¬ op = 19 by omega, Ex.d_eq]
    refine adraw [] (by kernel_rfl) (by kernel_rfl) (by kernel_rfl) (by kernel_rfl) ?_; simp [Ex.d_eq]
    refine adC_of ib (by simp) trivial (by simp) (by simp [Ex.d_eq]) ?_; simp [Ex.d_eq]
    by_cases fb : (evR V Lf b).2 = 0
    case neg => simp [fb]
    simp [fb]
    refine aCall_of (r01apply_af ra rb op (by omega)) (by simp) (by simp [Ex.d_eq]) ?_; simp [Ex.d_eq]
  · obtain ⟨op, ho⟩ : ∃ op, e.op = op := ⟨_, rfl⟩
    rw [ho] at h1 h2 h15 hop
    have hone : ∃ a w, e = .mk op 0 0 w [a] ∧ formB a = true ∧ (op = 18 → w = 1 ∨ w = 2 ∨ w = 4) := by
      rcases (show e.op = 16 ∨ e.op = 17 ∨ e.op = 18 ∨ e.op = 19 by omega) with h | h | h | h
      · obtain ⟨a, he, ha⟩ := form_one hf (.inl h); rw [ho] at he; exact ⟨a, 0, he, ha, by omega⟩
      · obtain ⟨a, he, ha⟩ := form_one hf (.inr h); rw [ho] at he; exact ⟨a, 0, he, ha, by omega⟩
      · obtain ⟨a, he, ha, hw⟩ := form_wide hf (.inl h); rw [ho] at he; exact ⟨a, _, he, ha, by omega⟩
      · obtain ⟨a, he, ha, hw⟩ := form_wide hf (.inr h); rw [ho] at he; exact ⟨a, _, he, ha, by omega⟩
    obtain ⟨a, w, rfl, ha, hw⟩ := hone
    have na := hn.l a (by simp)
    have ia := ih a (by simp) na ha
    have ra := (ev_ok V Lf hEv a na ha).1
    simp only [evR]
    refine af_of Tryz.func92 rfl (by kernel_rfl) (by simp [Tryz.ntmps92]) fun _ => ?_; simp [Tryz.f92, Ex.d_eq]
    simp [h1, h2]
    refine adraw [] (by kernel_rfl) (by kernel_rfl) (by kernel_rfl) (by kernel_rfl) ?_; simp [Ex.d_eq]
    refine adC_of ia (by simp) trivial (by simp) (by simp [Ex.d_eq]) ?_; simp [Ex.d_eq]
    by_cases fa : (evR V Lf a).2 = 0
    case neg => simp [fa]
    simp [fa]
    by_cases h16 : op = 16
    · simp [h16]
      by_cases hz : (evR V Lf a).1 = 0 <;> simp [hz]
    by_cases h17 : op = 17
    · simp [h17, u32e]
    by_cases h18 : op = 18
    · simp [h18]
      refine aCall_of (hL (evR V Lf a).1 w ra (hw h18)) (by simp) (by simp [Ex.d_eq]) ?_; simp [Ex.d_eq]
    · simp [h16, h17, h18, show op = 19 by omega]
      refine aCall_of (r01ext_af ra w) (by simp) (by simp [Ex.d_eq]) ?_; simp [Ex.d_eq]
      try simp [show op = 19 by omega]
theorem r20expr_af (e : Ex) (hn : OkN e) : AF Tryz.prog 32 [exA e, stA V, memA S C] (if checkB e = true then .tup [aI .u32 (evR V Lf e).1, aI .i64 (evR V Lf e).2] else .tup [aI .u32 0, aI .i64 (if shalB 64 e = true then 2 else 20)]) := by
  refine af_of Tryz.func32 rfl (by kernel_rfl) (by simp [Tryz.ntmps32]) fun _ => ?_; simp [Tryz.f32, Ex.d_eq]
  refine aCall_of (rcheck28_af e) (by simp) (by simp [Ex.d_eq]) ?_; simp [Ex.d_eq]
  cases hc : checkB e
  · by_cases h1 : shalB 64 e = true <;> simp [h1]
  · have hf : formB e = true := by simp only [checkB, Bool.and_eq_true] at hc; exact hc.2
    simp
    refine aCall_of (r20eval_af hEv hL e hn hf) (by simp) (by simp [Ex.d_eq]) ?_; simp [Ex.d_eq]
end
end Go.Proofs.YtlidimmfpfockaaGreatDoor

/- Contracts: the law's memory; the reference's loads from it (layers 5 and 9). -/
namespace Go.Proofs.YtlidimmfpfockaaGreatDoor
open Go.RowKit
def u8s (B : List Int) : List (List D) := B.map fun n => [.v (.int .u8 n)]
@[simp] theorem u8s_len (B : List Int) : (u8s B).length = B.length := by simp [u8s]
@[simp] theorem u8s_get (B : List Int) (i : Nat) : (u8s B)[i]? = (B[i]?).map fun n => [.v (.int .u8 n)] := by simp [u8s]
@[simp] theorem u8s_at (B : List Int) (i : Nat) (h : i < (u8s B).length) : (u8s B)[i] = [.v (.int .u8 (B[i]'(by simpa using h)))] := by simp [u8s]
def dataN : ByteArray := ⟨#[100, 97, 116, 97]⟩
/-- The law's section. -/
@[simp] def secD (B : List Int) : List (List D) := [[.v (.string dataN), .v (.int .u32 8192), .sl 1 (u8s B), .v (.bool false), .v (.bool false)]]
@[simp] def secA (B : List Int) : AV := .agg [aS dataN, aI .u32 8192, .d (.sl 1 (u8s B)), aB false, aB false]
section
variable {B : List Int} (hB : B.length = 32)
include hB
omit hB in
theorem r09width_af (w : Int) : AF Tryz.prog 194 [aI .i64 w] (aB (decide (w = 1) || decide (w = 2) || decide (w = 4))) := by
  refine af_of Tryz.func194 rfl (by kernel_rfl) (by simp [Tryz.ntmps194]) fun _ => ?_; simp [Tryz.f194, Ex.d_eq]
  by_cases h1 : w = 1
  · simp [h1]
  · by_cases h2 : w = 2
    · simp [h2]
    · simp [h1, h2]
end
end Go.Proofs.YtlidimmfpfockaaGreatDoor

/- Contracts: the reference's new memory; the law's memory. -/
namespace Go.Proofs.YtlidimmfpfockaaGreatDoor
open Go.RowKit
theorem aenv0_map (l : List AV) : l = (List.range l.length).map (aenv0 l) := by
  refine List.ext_getElem? fun i => ?_
  rcases Nat.lt_or_ge i l.length with h | h
  · simp [h, aenv0, List.getD_eq_getElem?_getD]
  · rw [List.getElem?_eq_none h, List.getElem?_eq_none (by simpa using h)]
/-- A call with blocks that are written no more. -/
theorem aCall_frz {P : Program} {g : FuncId} {fs args cs args' : List AV} {A : AHeap} {r : AV} {d : Option Nat} {e : AEnv} {K : AKont} (Bs : List Nat) (h : AF P g args' r) (hok : okF P g = true)
    (hr : argO (omap (reiV true (frz Bs A) 9) (fs ++ args ++ cs)) args') (hk : K (aupd e d r) (frz Bs A)) : aCall P (.fn g fs cs) args A d e K :=
  ⟨g, fs, cs, rfl, hok, AC.pre (e' := aenv0 (fs ++ args ++ cs)) (Sub.frz Bs) (aenv0_map _) ((AF.ac h hr).mono fun r' A' ⟨e1, e2⟩ => by rw [e1, e2]; exact hk)⟩
theorem r05name_af : AF Tryz.prog 243 [aS dataN] (aB true) := xtrue_af xnone_ok (lf := 100) (n := 10) (by kernel_rfl)
section
variable {B : List Int} (hB : B.length = 32)
include hB
end
end Go.Proofs.YtlidimmfpfockaaGreatDoor
