/- Texts that the claim leans on, laid one behind the other: Ib, Ic, Id, Ia, Ie, If, Ig. -/
import Derived.Test.YtlidimmfpfockaaGreatDoorZG
import Derived.Test.YtlidimmfpfockaaGreatDoorZH
import Derived.Test.YtlidimmfpfockaaGreatDoorAo
set_option linter.unusedSimpArgs false
set_option linter.unusedVariables false
set_option linter.unnecessarySimpa false
/- The values of expressions as plain numbers; what evaluates an idiom's replacement evaluates the idiom. No program in sight. -/
namespace Go.Proofs.YtlidimmfpfockaaGreatDoor
open Go.RowKit
theorem u32e (n : Int) : IntKind.u32.wrap n = n % 4294967296 := by simp [IntKind.wrap, IntKind.signed, IntKind.bits]
/-- The number as a signed one; and back. -/
def sg (x : Int) : Int := if 2147483648 ≤ x then x - 4294967296 else x
def us (x : Int) : Int := if x < 0 then x + 4294967296 else x
/-- How far a shift goes. -/
def sa (y : Int) : Nat := (y % 32).toNat
def rShl (x y : Int) : Int := (x * 2 ^ sa y) % 4294967296
def rShr (x y : Int) : Int := x / 2 ^ sa y
def rSar (x y : Int) : Int := us (sg x / 2 ^ sa y)
def rTr (x w : Int) : Int := if w = 1 then x % 256 else if w = 2 then x % 65536 else x
def rEx (x w : Int) : Int := if w = 1 ∧ 128 ≤ rTr x w then rTr x w + 4294967040 else if w = 2 ∧ 32768 ≤ rTr x w then rTr x w + 4294901760 else rTr x w
/-- An operator with two operands. -/
def apR (op x y : Int) : Int :=
  if op = 3 then (x + y) % 4294967296 else if op = 4 then (x - y) % 4294967296 else if op = 5 then (x * y) % 4294967296 else
  if op = 6 then andI .u32 x y else if op = 7 then orI .u32 x y else if op = 8 then xorI .u32 x y else
  if op = 9 then rShl x y else if op = 10 then rShr x y else if op = 11 then rSar x y else
  if op = 12 then (if x = y then 1 else 0) else if op = 13 then (if x = y then 0 else 1) else if op = 14 then (if sg x < sg y then 1 else 0) else (if x < y then 1 else 0)
def valR (V : List Int) (v : Int) : Int := if 0 ≤ v then V.getD v.toNat 0 else 0
/-- An expression's value and error. -/
def evR (V : List Int) (L : Int → Int → Int × Int) : Ex → Int × Int
  | .mk op n v _ [] => if op = 1 then (n, 0) else (valR V v, 0)
  | .mk op _ _ w [a] => if (evR V L a).2 ≠ 0 then (0, (evR V L a).2) else
    if op = 16 then (if (evR V L a).1 = 0 then 1 else 0, 0) else if op = 17 then ((-(evR V L a).1) % 4294967296, 0) else if op = 18 then L (evR V L a).1 w else (rEx (evR V L a).1 w, 0)
  | .mk op _ _ _ [a, b] => if (evR V L a).2 ≠ 0 then (0, (evR V L a).2) else if (evR V L b).2 ≠ 0 then (0, (evR V L b).2) else (apR op (evR V L a).1 (evR V L b).1, 0)
  | _ => (0, 0)
/-- A number of 32 bits. -/
def R32 (x : Int) : Prop := 0 ≤ x ∧ x < 4294967296
inductive OkN : Ex → Prop where
  | mk {e : Ex} : R32 e.n → (∀ x ∈ e.l, OkN x) → OkN e
theorem OkN.n {e : Ex} (h : OkN e) : R32 e.n := by cases h; assumption
theorem OkN.l {e : Ex} (h : OkN e) : ∀ x ∈ e.l, OkN x := by cases h; assumption
theorem okN_con {n : Int} (h : R32 n) : OkN (eCon n) := .mk h (by simp)
theorem r32_0 : R32 0 := ⟨by omega, by omega⟩
theorem okN_two {op : Int} {a b : Ex} (ha : OkN a) (hb : OkN b) : OkN (eTwo op a b) := .mk r32_0 (by simp; exact ⟨ha, hb⟩)
theorem okN_one {op : Int} {a : Ex} (ha : OkN a) : OkN (eOne op a) := .mk r32_0 (by simpa using ha)
theorem okN_x {e : Ex} (h : OkN e) (hf : formB e = true) (h3 : 3 ≤ e.op) (h15 : e.op ≤ 15) : OkN e.x ∧ OkN e.y := by
  obtain ⟨he, _, _⟩ := two_parts hf h3 h15
  have hl : e.l = [e.x, e.y] := by
    have := congrArg Ex.l he
    simpa using this
  exact ⟨h.l _ (by rw [hl]; simp), h.l _ (by rw [hl]; simp)⟩
theorem okN_x1 {e : Ex} (h : OkN e) (hf : formB e = true) (ho : e.op = 17) : OkN e.x := by
  obtain ⟨he, _⟩ := one_part hf (.inr ho)
  have hl : e.l = [e.x] := by
    have := congrArg Ex.l he
    simpa using this
  exact h.l _ (by rw [hl]; simp)
theorem r32_mod (n : Int) : R32 (n % 4294967296) := ⟨Int.emod_nonneg _ (by omega), Int.emod_lt_of_pos _ (by omega)⟩
theorem r32_wrap (n : Int) : R32 (IntKind.u32.wrap n) := by rw [u32e]; exact r32_mod n
theorem pw_eq {k : Int} (h : 1 ≤ k ∧ k ≤ 31) : pw k = 2 ^ k.toNat := by
  obtain ⟨m, rfl⟩ : ∃ m : Nat, k = m := ⟨k.toNat, by omega⟩
  have hm : m < 32 := by omega
  have : ∀ m : Nat, m < 32 → pw (m : Int) = (2 : Int) ^ m := by decide +kernel
  simpa using this m hm
theorem pw_r32 {k : Int} (h : 1 ≤ k ∧ k ≤ 31) : R32 (pw k) := r32_wrap _
theorem mul_okN {e : Ex} (h : OkN e) (hf : formB e = true) : OkN (mulS e).1 ∧ R32 (mulS e).2 := by
  unfold mulS
  split
  · rename_i x k hs
    obtain ⟨h1, _, h3, h4, rfl, _⟩ := sh_some hs
    exact ⟨(okN_x h hf (by omega) (by omega)).1, pw_r32 ⟨h3, h4⟩⟩
  · split
    · rename_i ho
      obtain ⟨h1, h2⟩ := okN_x h hf (by omega) (by omega)
      split
      · exact ⟨h1, h2.n⟩
      · split
        · exact ⟨h2, h1.n⟩
        · exact ⟨h, ⟨by simp, by simp⟩⟩
    · exact ⟨h, ⟨by simp, by simp⟩⟩
theorem ord_okN {e : Ex} {op : Int} (h : OkN e) (hf : formB e = true) (h3 : 3 ≤ op) (h15 : op ≤ 15) {p : Ex × Ex} (hp : p ∈ ordS e op) : OkN p.1 ∧ OkN p.2 := by
  unfold ordS at hp
  split at hp
  case isFalse => cases hp
  rename_i hc
  obtain ⟨h1, h2⟩ := okN_x h hf (by omega) (by omega)
  rcases List.mem_cons.1 hp with rfl | hp
  · exact ⟨h1, h2⟩
  · split at hp
    · simp at hp
      subst hp
      exact ⟨h2, h1⟩
    · cases hp
theorem by_okN {e x : Ex} {op n : Int} (h : OkN e) (hf : formB e = true) (h3 : 3 ≤ op) (h15 : op ≤ 15) (hb : byS e op n = some x) : OkN x := by
  unfold byS at hb
  simp only [Option.map_eq_some_iff] at hb
  obtain ⟨p, hp, rfl⟩ := hb
  exact (ord_okN h hf h3 h15 (List.mem_of_find?_eq_some hp)).1
theorem sh_okN {e x : Ex} {op k : Int} (h : OkN e) (hf : formB e = true) (h3 : 3 ≤ op) (h15 : op ≤ 15) (hs : shS e op = some (x, k)) : OkN x := by
  obtain ⟨h1, _, _, _, rfl, _⟩ := sh_some hs
  exact (okN_x h hf (by omega) (by omega)).1
theorem ext_okN {e x : Ex} {op w : Int} (h : OkN e) (hf : formB e = true) (h3 : op = 10 ∨ op = 11) (hs : extS e op = some (x, w)) : OkN x := by
  unfold extS at hs
  split at hs
  case h_2 => cases hs
  rename_i a n ha
  have ha' := sh_okN h hf (by omega) (by omega) ha
  have hm := (mul_okN ha' (sh_part hf (by omega) (by omega) ha).1).1
  split at hs
  · simp only [Option.some.injEq, Prod.mk.injEq] at hs
    obtain ⟨rfl, rfl⟩ := hs
    exact hm
  · split at hs
    · simp only [Option.some.injEq, Prod.mk.injEq] at hs
      obtain ⟨rfl, rfl⟩ := hs
      exact hm
    · cases hs
theorem apply_okN {e x : Ex} (hn : OkN e) (hf : formB e = true) : ∀ i, i < 10 → applyS i e = some x → OkN x := by
  intro i hi h
  have hsum : ∀ op, (op = 3 ∨ op = 4) → sumS e op = some x → OkN x := fun op ho h => by
    unfold sumS at h
    split at h
    case isFalse => cases h
    rename_i hc
    simp only [Option.some.injEq] at h
    subst h
    obtain ⟨_, hx, hy⟩ := two_parts hf (by omega) (by omega)
    refine okN_two (mul_okN (okN_x hn hf (by omega) (by omega)).1 hx).1 (okN_con ?_)
    split <;> exact r32_wrap _
  match i, hi, h with
  | 0, _, h => exact hsum 3 (.inl rfl) h
  | 1, _, h => exact hsum 4 (.inr rfl) h
  | 2, _, h =>
    simp only [applyS, negS] at h
    split at h
    case h_2 => cases h
    rename_i a ha
    simp only [Option.map_eq_some_iff] at h
    obtain ⟨b, hb, rfl⟩ := h
    exact okN_one (by_okN (by_okN hn hf (by omega) (by omega) ha) (by_mem hf (by omega) (by omega) ha).1 (by omega) (by omega) hb)
  | 3, _, h =>
    simp only [applyS, invS] at h
    split at h
    · rename_i p hp
      simp only [Option.some.injEq] at h
      subst h
      have hq := List.find?_some hp
      simp only [Bool.and_eq_true, decide_eq_true_eq] at hq
      have hm := List.mem_of_find?_eq_some hp
      exact okN_two (okN_x1 (ord_okN hn hf (by omega) (by omega) hm).1 (ord_mem hf (by omega) (by omega) hm).1 hq.2) (okN_con ⟨by decide, by decide⟩)
    · split at h
      case isFalse => cases h
      rename_i hc
      simp only [Option.some.injEq] at h
      subst h
      exact okN_two (okN_x1 (okN_x hn hf (by omega) (by omega)).1 (two_parts hf (by omega) (by omega)).2.1 hc.2.2) (okN_con ⟨by decide, by decide⟩)
  | 4, _, h =>
    simp only [applyS, sgnS, Option.map_eq_some_iff, Prod.exists] at h
    obtain ⟨y, w, hy, rfl⟩ := h
    exact .mk r32_0 (by simpa using ext_okN hn hf (.inr rfl) hy)
  | 5, _, h =>
    simp only [applyS, zerS, Option.map_eq_some_iff, Prod.exists] at h
    obtain ⟨y, w, hy, rfl⟩ := h
    refine okN_two (ext_okN hn hf (.inl rfl) hy) (okN_con ?_)
    split <;> exact ⟨by decide, by decide⟩
  | 6, _, h =>
    simp only [applyS, nzS] at h
    split at h
    case h_2 => cases h
    rename_i a ha
    simp only [Option.map_eq_some_iff] at h
    obtain ⟨p, hp, rfl⟩ := h
    have hs := hi_some ha
    exact okN_two (ord_okN (sh_okN hn hf (by omega) (by omega) hs) (sh_part hf (by omega) (by omega) hs).1 (by omega) (by omega) (List.mem_of_find?_eq_some hp)).1 (okN_con r32_0)
  | 7, _, h =>
    simp only [applyS, restS] at h
    split at h
    case isFalse => cases h
    rename_i ho
    split at h
    case h_2 => cases h
    rename_i y k hy
    split at h
    case isFalse => cases h
    simp only [Option.some.injEq] at h
    subst h
    obtain ⟨_, hx', hy'⟩ := two_parts hf (by omega) (by omega)
    exact okN_two (sh_okN (mul_okN (okN_x hn hf (by omega) (by omega)).2 hy').1 (mul_part hy').form (by omega) (by omega) hy) (okN_con (r32_wrap _))
  | 8, _, h =>
    simp only [applyS, signS, Option.map_eq_some_iff] at h
    obtain ⟨y, hy, rfl⟩ := h
    exact okN_two (sh_okN hn hf (by omega) (by omega) (hi_some hy)) (okN_con r32_0)
  | 9, _, h =>
    simp only [applyS, shfS, Option.map_eq_some_iff, Prod.exists] at h
    obtain ⟨y, k, hy, rfl⟩ := h
    obtain ⟨_, _, h3, h4, _⟩ := sh_some hy
    exact okN_two (sh_okN hn hf (by omega) (by omega) hy) (okN_con (pw_r32 ⟨h3, h4⟩))
end Go.Proofs.YtlidimmfpfockaaGreatDoor

/- What evaluates an idiom's replacement evaluates the idiom. No program in sight. -/
namespace Go.Proofs.YtlidimmfpfockaaGreatDoor
open Go.RowKit
theorem ofInt_nat {x : Int} (h : R32 x) : ((BitVec.ofInt 32 x).toNat : Int) = x := by
  have := h.1
  have := h.2
  rw [BitVec.toNat_ofInt]
  simp
  omega
theorem bits_r32 (x : BitVec 32) : IntKind.u32.wrap (x.toNat : Int) = x.toNat := by
  have := x.isLt
  rw [u32e]
  omega
theorem andI_eq (a b : Int) : andI .u32 a b = ((BitVec.ofInt 32 a &&& BitVec.ofInt 32 b).toNat : Int) := bits_r32 _
theorem orI_eq (a b : Int) : orI .u32 a b = ((BitVec.ofInt 32 a ||| BitVec.ofInt 32 b).toNat : Int) := bits_r32 _
theorem xorI_eq (a b : Int) : xorI .u32 a b = ((BitVec.ofInt 32 a ^^^ BitVec.ofInt 32 b).toNat : Int) := bits_r32 _
theorem bits_in (x : BitVec 32) : R32 (x.toNat : Int) := by have := x.isLt; exact ⟨by omega, by omega⟩
theorem xorI_comm (a b : Int) : xorI .u32 a b = xorI .u32 b a := by rw [xorI_eq, xorI_eq, BitVec.xor_comm]
theorem xorI_all {a : Int} (h : R32 a) : xorI .u32 a 4294967295 = 4294967295 - a := by
  rw [xorI_eq, show BitVec.ofInt 32 4294967295 = BitVec.allOnes 32 from rfl, BitVec.xor_allOnes, BitVec.toNat_not]
  have := ofInt_nat h
  have := (BitVec.ofInt 32 a).isLt
  omega
theorem mask_eq {a : Int} (h : R32 a) (k : Nat) (hk : k ≤ 31) : andI .u32 a (2 ^ k - 1) = a % 2 ^ k := by
  obtain ⟨n, rfl⟩ : ∃ n : Nat, a = n := ⟨a.toNat, by have := h.1; omega⟩
  have hn : n < 2 ^ 32 := by have := h.2; omega
  have hp : (2 : Nat) ^ k ≤ 2 ^ 31 := Nat.pow_le_pow_right (by omega) hk
  have h1 : (2 : Nat) ^ k - 1 < 2 ^ 32 := by omega
  have hpos : 0 < (2 : Nat) ^ k := Nat.pos_of_ne_zero (by simp)
  have e1 : (2 : Int) ^ k - 1 = ((2 ^ k - 1 : Nat) : Int) := by
    rw [Int.natCast_sub hpos]
    simp
  rw [andI_eq, e1, BitVec.toNat_and]
  have f : ∀ m : Nat, m < 2 ^ 32 → (BitVec.ofInt 32 (m : Int)).toNat = m := fun m hm => by
    rw [BitVec.toNat_ofInt]
    simp
    omega
  rw [f n hn, f _ h1, Nat.and_two_pow_sub_one_eq_mod]
  simp
section
variable (V : List Int) (L : Int → Int → Int × Int)
theorem ev_con (n : Int) : evR V L (eCon n) = (n, 0) := rfl
theorem ev_two (op : Int) (a b : Ex) : evR V L (eTwo op a b) = if (evR V L a).2 ≠ 0 then (0, (evR V L a).2) else if (evR V L b).2 ≠ 0 then (0, (evR V L b).2) else (apR op (evR V L a).1 (evR V L b).1, 0) := rfl
theorem ev_neg (a : Ex) : evR V L (eOne 17 a) = if (evR V L a).2 ≠ 0 then (0, (evR V L a).2) else ((-(evR V L a).1) % 4294967296, 0) := rfl
/-- Variables and loads yield numbers of 32 bits; a load's error comes with zero. -/
structure EvOk : Prop where
  hV : ∀ v, R32 (valR V v)
  hL : ∀ a w, R32 (L a w).1
  hZ : ∀ a w, (L a w).2 ≠ (0 : Int) → (L a w).1 = 0
theorem ite_r32 {p : Prop} [Decidable p] {a b : Int} (ha : R32 a) (hb : R32 b) : R32 (if p then a else b) := by
  split
  · exact ha
  · exact hb
theorem r32_1 : R32 1 := ⟨by omega, by omega⟩
theorem rShr_r32 {x : Int} (y : Int) (hx : R32 x) : R32 (rShr x y) := by
  unfold rShr
  refine ⟨Int.ediv_nonneg hx.1 (Int.le_of_lt (Int.pow_pos (by omega))), ?_⟩
  have := Int.ediv_le_self (2 ^ sa y) hx.1
  have := hx.2
  omega
theorem rSar_r32 {x : Int} (y : Int) (hx : R32 x) : R32 (rSar x y) := by
  unfold rSar
  have hs : -2147483648 ≤ sg x ∧ sg x < 2147483648 := by
    have := hx.1
    have := hx.2
    unfold sg
    split <;> omega
  have hp : (0 : Int) < 2 ^ sa y := Int.pow_pos (by omega)
  have h1 : -2147483648 ≤ sg x / 2 ^ sa y ∧ sg x / 2 ^ sa y < 2147483648 := by
    rcases Int.lt_or_le (sg x) 0 with h | h
    · have h2 := Int.ediv_neg_of_neg_of_pos h hp
      have h3 : sg x ≤ sg x / 2 ^ sa y := by
        rw [Int.le_ediv_iff_mul_le hp]
        have := Int.mul_le_mul_of_nonpos_left (Int.le_of_lt h) (show (1 : Int) ≤ 2 ^ sa y by omega)
        omega
      omega
    · have := Int.ediv_nonneg h (Int.le_of_lt hp)
      have := Int.ediv_le_self (2 ^ sa y) h
      omega
  unfold us
  split <;> exact ⟨by omega, by omega⟩
theorem apR_r32 {op x y : Int} (hx : R32 x) (hy : R32 y) : R32 (apR op x y) := by
  unfold apR
  exact ite_r32 (r32_mod _) (ite_r32 (r32_mod _) (ite_r32 (r32_mod _) (ite_r32 (by rw [andI_eq]; exact bits_in _) (ite_r32 (by rw [orI_eq]; exact bits_in _) (ite_r32 (by rw [xorI_eq]; exact bits_in _)
    (ite_r32 (r32_mod _) (ite_r32 (rShr_r32 y hx) (ite_r32 (rSar_r32 y hx) (ite_r32 (ite_r32 r32_1 r32_0) (ite_r32 (ite_r32 r32_0 r32_1) (ite_r32 (ite_r32 r32_1 r32_0) (ite_r32 r32_1 r32_0))))))))))))
theorem rEx_r32 {x w : Int} (hx : R32 x) : R32 (rEx x w) := by
  have h1 := hx.1
  have h2 := hx.2
  unfold rEx rTr
  refine ⟨?_, ?_⟩ <;> split <;> (try split) <;> (try split) <;> (try split) <;> omega
theorem ev_ok (h : EvOk V L) : ∀ e, OkN e → formB e = true → R32 (evR V L e).1 ∧ ((evR V L e).2 ≠ 0 → (evR V L e).1 = 0) := by
  intro e
  induction e using Ex.ind with
  | h e ih =>
    intro hn hf
    have hop := form_op hf
    by_cases h1 : e.op = 1
    · rw [form_con hf h1]
      exact ⟨hn.n, fun h => absurd rfl h⟩
    by_cases h2 : e.op = 2
    · rw [(form_var hf h2).1]
      exact ⟨h.hV _, fun h => absurd rfl h⟩
    by_cases h15 : e.op ≤ 15
    · obtain ⟨he, hx, hy⟩ := two_parts hf (by omega) h15
      have hl : e.l = [e.x, e.y] := by
        have := congrArg Ex.l he
        simpa using this
      obtain ⟨nx, ny⟩ := okN_x hn hf (by omega) h15
      have ix := ih e.x (by rw [hl]; simp) nx hx
      have iy := ih e.y (by rw [hl]; simp) ny hy
      rw [he, ev_two]
      split
      · exact ⟨r32_0, fun _ => rfl⟩
      · split
        · exact ⟨r32_0, fun _ => rfl⟩
        · exact ⟨apR_r32 ix.1 iy.1, fun h => absurd rfl h⟩
    · have hone : ∃ a w, e = .mk e.op 0 0 w [a] ∧ formB a = true := by
        rcases (show e.op = 16 ∨ e.op = 17 ∨ e.op = 18 ∨ e.op = 19 by omega) with ho | ho | ho | ho
        · obtain ⟨a, he, ha⟩ := form_one hf (.inl ho); exact ⟨a, 0, he, ha⟩
        · obtain ⟨a, he, ha⟩ := form_one hf (.inr ho); exact ⟨a, 0, he, ha⟩
        · obtain ⟨a, he, ha, _⟩ := form_wide hf (.inl ho); exact ⟨a, _, he, ha⟩
        · obtain ⟨a, he, ha, _⟩ := form_wide hf (.inr ho); exact ⟨a, _, he, ha⟩
      obtain ⟨a, w, he, ha⟩ := hone
      have hl : e.l = [a] := by
        have := congrArg Ex.l he
        simpa using this
      have ia := ih a (by rw [hl]; simp) (hn.l a (by rw [hl]; simp)) ha
      rw [he]
      simp only [evR]
      split
      · exact ⟨r32_0, fun _ => rfl⟩
      · split
        · refine ⟨?_, fun h => absurd rfl h⟩
          simp only
          split <;> exact ⟨by decide, by decide⟩
        · split
          · exact ⟨r32_mod _, fun h => absurd rfl h⟩
          · split
            · exact ⟨h.hL _ _, h.hZ _ _⟩
            · exact ⟨rEx_r32 ia.1, fun h => absurd rfl h⟩
end
end Go.Proofs.YtlidimmfpfockaaGreatDoor

/- Each idiom's replacement has the idiom's value. No program in sight. -/
namespace Go.Proofs.YtlidimmfpfockaaGreatDoor
open Go.RowKit
section
variable {V : List Int} {L : Int → Int → Int × Int}
/-- A value with an error is zero. -/
theorem ev_err (h : EvOk V L) {e : Ex} (hn : OkN e) (hf : formB e = true) (he : (evR V L e).2 ≠ 0) : evR V L e = (0, (evR V L e).2) := by
  have := (ev_ok V L h e hn hf).2 he
  rw [← this]
theorem sh_eq {e x : Ex} {op k : Int} (hf : formB e = true) (h3 : 3 ≤ op) (h15 : op ≤ 15) (h : shS e op = some (x, k)) : e = eTwo op x (eCon k) ∧ 1 ≤ k ∧ k ≤ 31 := by
  obtain ⟨h1, h2, h4, h5, rfl, h6⟩ := sh_some h
  obtain ⟨he, _, hy⟩ := two_parts hf (by omega) (by omega)
  have := form_con hy h2
  rw [h6] at this
  rw [this, h1] at he
  exact ⟨he, h4, h5⟩
theorem sa_k {k : Int} (h : 0 ≤ k ∧ k ≤ 31) : sa k = k.toNat := by unfold sa; omega
theorem mul_comm' (a b : Int) : (a * b) % 4294967296 = (b * a) % 4294967296 := by rw [Int.mul_comm]
theorem mul_ev (h : EvOk V L) {e : Ex} (hn : OkN e) (hf : formB e = true) :
    evR V L e = if (evR V L (mulS e).1).2 ≠ 0 then (0, (evR V L (mulS e).1).2) else (((evR V L (mulS e).1).1 * (mulS e).2) % 4294967296, 0) := by
  have self : evR V L e = if (evR V L e).2 ≠ 0 then (0, (evR V L e).2) else (((evR V L e).1 * 1) % 4294967296, 0) := by
    split
    · exact ev_err h hn hf ‹_›
    · rename_i h0
      have := (ev_ok V L h e hn hf).1
      rw [Int.mul_one, Int.emod_eq_of_lt this.1 this.2]
      simp at h0
      rw [← h0]
  unfold mulS
  split
  · rename_i x k hs
    obtain ⟨he, h1, h2⟩ := sh_eq hf (by omega) (by omega) hs
    rw [he, ev_two, ev_con]
    simp only [ne_eq, not_true_eq_false, if_false]
    have : apR 9 (evR V L x).1 k = ((evR V L x).1 * pw k) % 4294967296 := by
      rw [pw_eq ⟨h1, h2⟩]
      simp [apR, rShl, sa_k (show 0 ≤ k ∧ k ≤ 31 by omega)]
    rw [this]
  · split
    · rename_i ho
      obtain ⟨he, hx, hy⟩ := two_parts hf (by omega) (by omega)
      split
      · rename_i hy1
        have hc := form_con hy hy1
        have : evR V L e = evR V L (eTwo 5 e.x (eCon e.y.n)) := by rw [← hc, ← ho, ← he]
        rw [this, ev_two, ev_con]
        simp [apR]
      · split
        · rename_i hx1
          have hc := form_con hx hx1
          have : evR V L e = evR V L (eTwo 5 (eCon e.x.n) e.y) := by rw [← hc, ← ho, ← he]
          rw [this, ev_two, ev_con]
          simp only [ne_eq, not_true_eq_false, if_false]
          have : apR 5 e.x.n (evR V L e.y).1 = ((evR V L e.y).1 * e.x.n) % 4294967296 := by simp [apR]; exact mul_comm' _ _
          rw [this]
        · exact self
    · exact self
theorem by_ev {e x : Ex} {op n : Int} (hf : formB e = true) (ho : op = 3 ∨ op = 8) (hb : byS e op n = some x) : evR V L e = if (evR V L x).2 ≠ 0 then (0, (evR V L x).2) else (apR op (evR V L x).1 n, 0) := by
  have hop : e.op = op := (by_mem hf (by omega) (by omega) hb).2.2.2.2
  obtain ⟨a, b, rfl, ha, hb'⟩ := form_two' hf hop (by omega) (by omega)
  have hc : comB op = true := by rcases ho with rfl | rfl <;> rfl
  have hcom : ∀ p q : Int, apR op p q = apR op q p := fun p q => by
    rcases ho with rfl | rfl
    · simp [apR, Int.add_comm]
    · simp [apR, xorI_comm]
  unfold byS at hb
  rw [show ordS (eTwo op a b) op = [(a, b), (b, a)] by simp [ordS, hc]] at hb
  cases h1 : isB b n
  · cases h2 : isB a n
    · simp [h1, h2] at hb
    · simp [h1, h2] at hb
      subst hb
      obtain ⟨o1, n1⟩ := isB_iff.1 h2
      have := form_con ha o1
      rw [n1] at this
      rw [this, ev_two, ev_con]
      simp only [ne_eq, not_true_eq_false, if_false]
      rw [hcom]
  · simp [h1] at hb
    subst hb
    obtain ⟨o1, n1⟩ := isB_iff.1 h1
    have := form_con hb' o1
    rw [n1] at this
    rw [this, ev_two, ev_con]
    simp
theorem addmul (v c d : Int) : (v * ((c + d) % 4294967296)) % 4294967296 = (v * c + v * d) % 4294967296 := by
  rw [← Int.mul_add, Int.mul_emod v ((c + d) % 4294967296), Int.emod_emod, ← Int.mul_emod]
theorem submul (v c d : Int) : (v * ((c - d) % 4294967296)) % 4294967296 = (v * c - v * d) % 4294967296 := by
  rw [← Int.mul_sub, Int.mul_emod v ((c - d) % 4294967296), Int.emod_emod, ← Int.mul_emod]
theorem sum_ev (h : EvOk V L) {e x : Ex} {op : Int} (hn : OkN e) (hf : formB e = true) (ho : op = 3 ∨ op = 4) (hs : sumS e op = some x) : evR V L x = evR V L e := by
  have hop : e.op = op := by
    unfold sumS at hs
    split at hs
    · rename_i hc; exact hc.1
    · cases hs
  obtain ⟨nx, ny⟩ := okN_x hn hf (by omega) (by omega)
  obtain ⟨a, b, rfl, ha, hb⟩ := form_two' hf hop (by omega) (by omega)
  simp only [x_two, y_two] at nx ny
  have ex := mul_ev h nx ha
  have ey := mul_ev h ny hb
  unfold sumS at hs
  simp only [x_two, y_two, eTwo_op] at hs
  obtain ⟨X, c, hX⟩ : ∃ X c, mulS a = (X, c) := ⟨_, _, rfl⟩
  obtain ⟨Y, d, hY⟩ : ∃ Y d, mulS b = (Y, d) := ⟨_, _, rfl⟩
  rw [hX, hY] at hs
  rw [hX] at ex
  rw [hY] at ey
  simp only at hs ex ey
  split at hs
  case isFalse => cases hs
  rename_i hc
  simp only [Option.some.injEq] at hs
  subst hs
  obtain rfl := sameB_iff.1 hc.2.2.1
  rw [ev_two, ev_two, ev_con]
  by_cases h0 : (evR V L X).2 = 0
  · simp only [h0, ne_eq, not_true_eq_false, if_false] at ex ey ⊢
    rw [ex, ey]
    simp only [not_true_eq_false, if_false, Prod.mk.injEq, and_true]
    rcases ho with rfl | rfl
    · simp [apR, u32e, addmul]
    · simp [apR, u32e, submul]
  · simp only [ne_eq, h0, not_false_eq_true, if_true] at ex ⊢
    rw [ex]
    simp [h0]
theorem neg_ev (h : EvOk V L) {e x : Ex} (hn : OkN e) (hf : formB e = true) (hs : negS e = some x) : evR V L x = evR V L e := by
  unfold negS at hs
  split at hs
  case h_2 => cases hs
  rename_i a ha
  simp only [Option.map_eq_some_iff] at hs
  obtain ⟨b, hb, rfl⟩ := hs
  have fa := (by_mem hf (by omega) (by omega) ha).1
  have na := by_okN hn hf (by omega) (by omega) ha
  have fb := (by_mem fa (by omega) (by omega) hb).1
  have nb := by_okN na fa (by omega) (by omega) hb
  have r := (ev_ok V L h b nb fb).1
  rw [by_ev hf (.inl rfl) ha, by_ev fa (.inr rfl) hb, ev_neg]
  by_cases hX : (evR V L b).2 = 0
  · simp only [hX, ne_eq, not_true_eq_false, if_false, Prod.mk.injEq, and_true]
    have h1 := r.1
    have h2 := r.2
    simp [apR, all32, xorI_all r]
    omega
  · simp [hX]
theorem inv_ev (h : EvOk V L) {e x : Ex} (hn : OkN e) (hf : formB e = true) (hs : invS e = some x) : evR V L x = evR V L e := by
  have key : ∀ c : Ex, OkN c → formB c = true → ∀ e' : Ex, (evR V L e' = if (evR V L c).2 ≠ 0 then (0, (evR V L c).2) else (((-(evR V L c).1) % 4294967296 - 1) % 4294967296, 0)) → evR V L (eTwo 8 c (eCon all32)) = evR V L e' := fun c nc fc e' he' => by
    rw [he', ev_two, ev_con]
    have r := (ev_ok V L h c nc fc).1
    have h1 := r.1
    have h2 := r.2
    by_cases hX : (evR V L c).2 = 0
    · simp [hX, apR, all32, xorI_all r]
      omega
    · simp [hX]
  have hop : e.op = 3 ∨ e.op = 4 := by
    unfold invS at hs
    split at hs
    · rename_i p hp
      exact .inl (ord_mem hf (by omega) (by omega) (List.mem_of_find?_eq_some hp)).2.2.1
    · split at hs
      · rename_i hc; exact .inr hc.1
      · cases hs
  obtain ⟨nx, ny⟩ := okN_x hn hf (by omega) (by omega)
  rcases hop with hop | hop
  · obtain ⟨a, b, rfl, ha, hb⟩ := form_two' hf hop (by omega) (by omega)
    simp only [x_two, y_two] at nx ny
    unfold invS at hs
    rw [show ordS (eTwo 3 a b) 3 = [(a, b), (b, a)] by simp [ordS, comB]] at hs
    have two : ∀ p q : Ex, OkN p → formB p = true → isB q all32 = true → formB q = true → p.op = 17 → ∃ c, p = eOne 17 c ∧ q = eCon all32 ∧ OkN c ∧ formB c = true := fun p q np fp hq fq h17 => by
      have nc := okN_x1 np fp h17
      obtain ⟨c, rfl, fc⟩ := form_one' fp h17
      obtain ⟨o1, n1⟩ := isB_iff.1 hq
      have := form_con fq o1
      rw [n1] at this
      exact ⟨c, rfl, this, nc, fc⟩
    by_cases h1 : isB b all32 = true ∧ a.op = 17
    · obtain ⟨c, rfl, rfl, nc, fc⟩ := two a b nx ha h1.1 hb h1.2
      simp [isB] at hs
      subst hs
      refine key c nc fc _ ?_
      rw [ev_two, ev_neg, ev_con]
      by_cases hX : (evR V L c).2 = 0
      · simp [hX, apR, all32]
        omega
      · simp [hX]
    · by_cases h2 : isB a all32 = true ∧ b.op = 17
      · obtain ⟨c, rfl, rfl, nc, fc⟩ := two b a ny hb h2.1 ha h2.2
        simp [isB] at hs
        subst hs
        refine key c nc fc _ ?_
        rw [ev_two, ev_neg, ev_con]
        by_cases hX : (evR V L c).2 = 0
        · simp [hX, apR, all32]
          omega
        · simp [hX]
      · exfalso
        simp at h1 h2
        cases i1 : isB b all32 <;> cases i2 : isB a all32 <;> simp_all
  · have h3 : ¬ e.op = 3 := by omega
    obtain ⟨a, b, rfl, ha, hb⟩ := form_two' hf hop (by omega) (by omega)
    simp only [x_two, y_two] at nx ny
    unfold invS at hs
    rw [show ordS (eTwo 4 a b) 3 = [] by simp [ordS]] at hs
    simp only [List.find?_nil, y_two, x_two, eTwo_op] at hs
    split at hs
    case isFalse => cases hs
    rename_i hc
    simp only [Option.some.injEq] at hs
    subst hs
    have nc := okN_x1 nx ha hc.2.2
    obtain ⟨c, rfl, fc⟩ := form_one' ha hc.2.2
    obtain ⟨o1, n1⟩ := isB_iff.1 hc.2.1
    have := form_con hb o1
    rw [n1] at this
    subst this
    refine key c nc fc _ ?_
    rw [ev_two, ev_neg, ev_con]
    by_cases hX : (evR V L c).2 = 0
    · simp [hX, apR]
    · simp [hX]
theorem ext_ev (h : EvOk V L) {e x : Ex} {op w : Int} (hn : OkN e) (hf : formB e = true) (ho : op = 10 ∨ op = 11) (hs : extS e op = some (x, w)) :
    OkN x ∧ formB x = true ∧ (w = 1 ∨ w = 2) ∧ evR V L e = if (evR V L x).2 ≠ 0 then (0, (evR V L x).2) else
      (apR op (((evR V L x).1 * (if w = 1 then 16777216 else 65536)) % 4294967296) (if w = 1 then 24 else 16), 0) := by
  have nx := ext_okN hn hf ho hs
  obtain ⟨fx, _, _, _, hw⟩ := ext_some hf ho hs
  refine ⟨nx, fx, hw, ?_⟩
  unfold extS at hs
  split at hs
  case h_2 => cases hs
  rename_i a n ha
  obtain ⟨he, _, _⟩ := sh_eq hf (by omega) (by omega) ha
  have na := sh_okN hn hf (by omega) (by omega) ha
  have fa := (sh_part hf (by omega) (by omega) ha).1
  have ea := mul_ev h na fa
  rw [he, ev_two, ev_con, ea]
  split at hs
  · rename_i hc
    simp only [Option.some.injEq, Prod.mk.injEq] at hs
    obtain ⟨rfl, rfl⟩ := hs
    rw [hc.1, hc.2]
    by_cases hX : (evR V L (mulS a).1).2 = 0 <;> simp [hX]
  · split at hs
    · rename_i hc
      simp only [Option.some.injEq, Prod.mk.injEq] at hs
      obtain ⟨rfl, rfl⟩ := hs
      rw [hc.1, hc.2]
      by_cases hX : (evR V L (mulS a).1).2 = 0 <;> simp [hX]
    · cases hs
theorem sext_val {v w : Int} (hv : R32 v) (hw : w = 1 ∨ w = 2) : apR 11 ((v * (if w = 1 then 16777216 else 65536)) % 4294967296) (if w = 1 then 24 else 16) = rEx v w := by
  have h1 := hv.1
  have h2 := hv.2
  rcases hw with rfl | rfl
  · simp only [if_true]
    have : sa 24 = 24 := rfl
    simp only [apR, rSar, this, rEx, rTr, us, sg]
    simp
    split <;> split <;> split <;> omega
  · simp only [show ((2 : Int) = 1) = False by simp, if_false]
    have : sa 16 = 16 := rfl
    simp only [apR, rSar, this, rEx, rTr, us, sg]
    simp
    split <;> split <;> split <;> omega
theorem zext_val {v w : Int} (hv : R32 v) (hw : w = 1 ∨ w = 2) : apR 10 ((v * (if w = 1 then 16777216 else 65536)) % 4294967296) (if w = 1 then 24 else 16) = andI .u32 v (if w = 1 then 255 else 65535) := by
  have h1 := hv.1
  have h2 := hv.2
  have m8 := mask_eq hv 8 (by omega)
  have m16 := mask_eq hv 16 (by omega)
  rcases hw with rfl | rfl
  · simp only [if_true]
    have : sa 24 = 24 := rfl
    simp at m8
    simp [apR, rShr, this, m8]
    omega
  · simp only [show ((2 : Int) = 1) = False by simp, if_false]
    have : sa 16 = 16 := rfl
    simp at m16
    simp [apR, rShr, this, m16]
    omega
theorem or_neg {v : Int} (hv : R32 v) : orI .u32 v ((-v) % 4294967296) / 2147483648 = if v = 0 then 0 else 1 := by
  have h1 := hv.1
  have h2 := hv.2
  rw [orI_eq, BitVec.toNat_or]
  have a := ofInt_nat hv
  have b := ofInt_nat (r32_mod (-v))
  have l := (BitVec.ofInt 32 v ||| BitVec.ofInt 32 ((-v) % 4294967296)).isLt
  rw [BitVec.toNat_or] at l
  have o1 := @Nat.left_le_or (BitVec.ofInt 32 v).toNat (BitVec.ofInt 32 ((-v) % 4294967296)).toNat
  have o2 := @Nat.right_le_or (BitVec.ofInt 32 v).toNat (BitVec.ofInt 32 ((-v) % 4294967296)).toNat
  by_cases h0 : v = 0
  · subst h0
    simp
  · rw [if_neg h0]
    generalize (BitVec.ofInt 32 v).toNat = p at *
    generalize (BitVec.ofInt 32 ((-v) % 4294967296)).toNat = q at *
    generalize p ||| q = r at *
    omega
theorem orI_comm (a b : Int) : orI .u32 a b = orI .u32 b a := by rw [orI_eq, orI_eq, BitVec.or_comm]
theorem nz_ev (h : EvOk V L) {e x : Ex} (hn : OkN e) (hf : formB e = true) (hs : nzS e = some x) : evR V L x = evR V L e := by
  unfold nzS at hs
  split at hs
  case h_2 => cases hs
  rename_i a ha
  have hsh := hi_some ha
  obtain ⟨he, _, _⟩ := sh_eq hf (by omega) (by omega) hsh
  have na := sh_okN hn hf (by omega) (by omega) hsh
  have fa := (sh_part hf (by omega) (by omega) hsh).1
  simp only [Option.map_eq_some_iff] at hs
  obtain ⟨p, hp, rfl⟩ := hs
  have hq := List.find?_some hp
  simp only [Bool.and_eq_true, decide_eq_true_eq] at hq
  have hm := List.mem_of_find?_eq_some hp
  obtain ⟨n1, n2⟩ := ord_okN na fa (by omega) (by omega) hm
  obtain ⟨f1, f2, hop, _⟩ := ord_mem fa (by omega) (by omega) hm
  obtain ⟨c, hc, _⟩ := form_one' f2 hq.1
  have hcx : c = p.1 := by
    have := sameB_iff.1 hq.2
    rw [hc] at this
    exact this
  subst hcx
  have ea : evR V L a = if (evR V L p.1).2 ≠ 0 then (0, (evR V L p.1).2) else (orI .u32 (evR V L p.1).1 ((-(evR V L p.1).1) % 4294967296), 0) := by
    obtain ⟨q, r, rfl, _, _⟩ := form_two' fa hop (by omega) (by omega)
    rw [show ordS (eTwo 7 q r) 7 = [(q, r), (r, q)] by simp [ordS, comB]] at hm
    simp only [List.mem_cons, List.not_mem_nil, or_false] at hm
    rcases hm with rfl | rfl
    · simp only at hc ⊢
      rw [ev_two, hc, ev_neg]
      by_cases hX : (evR V L q).2 = 0 <;> simp [hX, apR]
    · simp only at hc ⊢
      rw [ev_two, hc, ev_neg]
      by_cases hX : (evR V L r).2 = 0 <;> simp [hX, apR, orI_comm]
  have r := (ev_ok V L h p.1 n1 f1).1
  rw [he, ev_two, ev_two, ev_con, ev_con, ea]
  by_cases hX : (evR V L p.1).2 = 0
  · have s31 : sa 31 = 31 := rfl
    have := or_neg r
    simp [hX, apR, rShr, s31, this]
  · simp [hX]
theorem rest_ev (h : EvOk V L) {e x : Ex} (hn : OkN e) (hf : formB e = true) (hs : restS e = some x) : evR V L x = evR V L e := by
  have hop : e.op = 4 := by
    unfold restS at hs
    split at hs
    · assumption
    · cases hs
  obtain ⟨nx, ny⟩ := okN_x hn hf (by omega) (by omega)
  obtain ⟨a, b, rfl, ha, hb⟩ := form_two' hf hop (by omega) (by omega)
  simp only [x_two, y_two] at nx ny
  have eb := mul_ev h ny hb
  have nb := (mul_okN ny hb).1
  have fb := (mul_part hb).form
  unfold restS at hs
  rw [if_pos (show (eTwo 4 a b).op = 4 from rfl)] at hs
  split at hs
  case h_2 => cases hs
  rename_i z k hz
  split at hs
  case isFalse => cases hs
  rename_i hc
  simp only [Option.some.injEq] at hs
  subst hs
  have hz' : shS (mulS b).1 10 = some (z, k) := hz
  have hc' : (mulS b).2 = pw k ∧ sameB z a = true := hc
  clear hz hc
  obtain ⟨Y, c, hY⟩ : ∃ Y c, mulS b = (Y, c) := ⟨_, _, rfl⟩
  rw [hY] at hz' hc' eb nb fb
  simp only at hz' hc' eb nb fb
  have hz := hz'
  have hc := hc'
  obtain ⟨hYe, k1, k2⟩ := sh_eq fb (by omega) (by omega) hz
  obtain rfl := sameB_iff.1 hc.2
  have r := (ev_ok V L h z nx ha).1
  have hcv := hc.1
  subst hcv
  rw [ev_two, ev_two, ev_con, eb, hYe, ev_two, ev_con]
  by_cases hX : (evR V L z).2 = 0
  · obtain ⟨v, hv⟩ : ∃ v, (evR V L z).1 = v := ⟨_, rfl⟩
    rw [hv] at r ⊢
    have h1 := r.1
    have h2 := r.2
    have hk : sa k = k.toNat := sa_k (by omega)
    have hP : (2 : Int) ^ k.toNat ≤ 2147483648 := by
      have : (2 : Nat) ^ k.toNat ≤ 2 ^ 31 := Nat.pow_le_pow_right (by omega) (by omega)
      have e : ((2 ^ k.toNat : Nat) : Int) = (2 : Int) ^ k.toNat := by simp
      omega
    have hP1 : (1 : Int) ≤ 2 ^ k.toNat := by
      have : (0 : Int) < 2 ^ k.toNat := Int.pow_pos (by omega)
      omega
    have hm := mask_eq r k.toNat (by omega)
    have hd := Int.emod_def v (2 ^ k.toNat)
    have hq0 := Int.ediv_nonneg h1 (show (0 : Int) ≤ 2 ^ k.toNat by omega)
    have hq1 := Int.emod_nonneg v (show (2 : Int) ^ k.toNat ≠ 0 by omega)
    rw [Int.mul_comm] at hd
    have ht : 0 ≤ v / 2 ^ k.toNat * 2 ^ k.toNat := Int.mul_nonneg hq0 (by omega)
    simp only [hX, ne_eq, not_true_eq_false, if_false, apR, u32e, pw_eq ⟨k1, k2⟩, rShr, hk]
    simp
    rw [Int.emod_eq_of_lt (show (0 : Int) ≤ 2 ^ k.toNat - 1 by omega) (by omega), hm]
    generalize v / 2 ^ k.toNat * 2 ^ k.toNat = t at *
    omega
  · simp [hX]
theorem sign_ev (h : EvOk V L) {e x : Ex} (hn : OkN e) (hf : formB e = true) (hs : signS e = some x) : evR V L x = evR V L e := by
  simp only [signS, Option.map_eq_some_iff] at hs
  obtain ⟨a, ha, rfl⟩ := hs
  have hsh := hi_some ha
  obtain ⟨he, _, _⟩ := sh_eq hf (by omega) (by omega) hsh
  have r := (ev_ok V L h a (sh_okN hn hf (by omega) (by omega) hsh) (sh_part hf (by omega) (by omega) hsh).1).1
  rw [he, ev_two, ev_two, ev_con, ev_con]
  by_cases hX : (evR V L a).2 = 0
  · have s31 : sa 31 = 31 := rfl
    have h1 := r.1
    have h2 := r.2
    simp [hX, apR, rShr, s31, sg]
    split <;> split <;> omega
  · simp [hX]
theorem shf_ev {e x : Ex} (hf : formB e = true) (hs : shfS e = some x) : evR V L x = evR V L e := by
  simp only [shfS, Option.map_eq_some_iff, Prod.exists] at hs
  obtain ⟨a, k, ha, rfl⟩ := hs
  obtain ⟨he, k1, k2⟩ := sh_eq hf (by omega) (by omega) ha
  rw [he, ev_two, ev_two, ev_con, ev_con]
  by_cases hX : (evR V L a).2 = 0
  · simp [hX, apR, rShl, sa_k (show 0 ≤ k ∧ k ≤ 31 by omega), pw_eq ⟨k1, k2⟩]
  · simp [hX]
theorem apply_ev (h : EvOk V L) {e x : Ex} (hn : OkN e) (hf : formB e = true) : ∀ i, i < 10 → applyS i e = some x → evR V L x = evR V L e := by
  intro i hi hs
  match i, hi, hs with
  | 0, _, hs => exact sum_ev h hn hf (.inl rfl) hs
  | 1, _, hs => exact sum_ev h hn hf (.inr rfl) hs
  | 2, _, hs => exact neg_ev h hn hf hs
  | 3, _, hs => exact inv_ev h hn hf hs
  | 4, _, hs =>
    simp only [applyS, sgnS, Option.map_eq_some_iff, Prod.exists] at hs
    obtain ⟨y, w, hy, rfl⟩ := hs
    obtain ⟨ny, fy, hw, he⟩ := ext_ev h hn hf (.inr rfl) hy
    rw [he]
    simp only [evR]
    by_cases hX : (evR V L y).2 = 0
    · simp only [hX, ne_eq, not_true_eq_false, if_false]
      rw [sext_val (ev_ok V L h y ny fy).1 hw]
      simp
    · simp [hX]
  | 5, _, hs =>
    simp only [applyS, zerS, Option.map_eq_some_iff, Prod.exists] at hs
    obtain ⟨y, w, hy, rfl⟩ := hs
    obtain ⟨ny, fy, hw, he⟩ := ext_ev h hn hf (.inl rfl) hy
    rw [he, ev_two, ev_con]
    by_cases hX : (evR V L y).2 = 0
    · simp only [hX, ne_eq, not_true_eq_false, if_false]
      rw [zext_val (ev_ok V L h y ny fy).1 hw]
      simp [apR]
    · simp [hX]
  | 6, _, hs => exact nz_ev h hn hf hs
  | 7, _, hs => exact rest_ev h hn hf hs
  | 8, _, hs => exact sign_ev h hn hf hs
  | 9, _, hs => exact shf_ev hf hs
/-- The operands' values make the value. -/
theorem ev_map (e : Ex) (f : Ex → Ex) (hf : ∀ x ∈ e.l, evR V L (f x) = evR V L x) : evR V L (.mk e.op e.n e.v e.wd (e.l.map f)) = evR V L e := by
  obtain ⟨op, n, v, w, l⟩ := e
  match l, hf with
  | [], _ => rfl
  | [a], hf => simp [evR, hf a (by simp)]
  | [a, b], hf => simp [evR, hf a (by simp), hf b (by simp)]
  | a :: b :: c :: l, _ => rfl
/-- THE REWRITTEN EXPRESSION HAS THE VALUE AND THE ERROR OF THE ORIGINAL ONE. -/
theorem rw_ev (h : EvOk V L) : ∀ (k : Nat) (e : Ex), formB e = true → OkN e → e.wt ≤ k → evR V L (rwF k e).1 = evR V L e ∧ OkN (rwF k e).1 := by
  intro k
  induction k with
  | zero => intro e _ _ h; have := wt_pos e; omega
  | succ k ih =>
    intro e hf hn hk
    have hch : ∀ x ∈ e.l, (evR V L (rwF k x).1 = evR V L x ∧ OkN (rwF k x).1) ∧ RwOk x (rwF k x) := fun x hx =>
      ⟨ih x ((form_all hf).2 x hx) (hn.l x hx) (by have := wt_mem hx; omega), rw_ok k x ((form_all hf).2 x hx) (by have := wt_mem hx; omega)⟩
    have hform := form_map (f := fun x => (rwF k x).1) hf fun x hx => (hch x hx).2.form
    have hmeas := map_meas (f := fun x => (rwF k x).1) e.l fun x hx => ⟨(hch x hx).2.wt, (hch x hx).2.nodes, (hch x hx).2.depth⟩
    have hw : (Ex.mk e.op e.n e.v e.wd (e.l.map fun x => (rwF k x).1)).wt ≤ e.wt := by rw [wt_mk, wt_eq e]; omega
    have hval := ev_map (V := V) (L := L) e (fun x => (rwF k x).1) fun x hx => (hch x hx).1.1
    have hok : OkN (.mk e.op e.n e.v e.wd (e.l.map fun x => (rwF k x).1)) := .mk hn.n fun y hy => by
      simp only [Ex.l_mk] at hy
      obtain ⟨z, hz, rfl⟩ := List.mem_map.1 hy
      exact (hch z hz).1.2
    simp only [rwF]
    split
    · rename_i i x hx
      obtain ⟨_, h2, h3, _⟩ := first_some hx
      have hl := apply_less hform i (by omega) h3
      have hr := ih x hl.form (apply_okN hok hform i (by omega) h3) (by have := hl.wt; omega)
      exact ⟨by rw [hr.1, apply_ev h hok hform i (by omega) h3, hval], hr.2⟩
    · exact ⟨hval, hok⟩
end
end Go.Proofs.YtlidimmfpfockaaGreatDoor

/- Contracts: the reference's arithmetic of layer 1. -/
namespace Go.Proofs.YtlidimmfpfockaaGreatDoor
open Go.RowKit
theorem r01neg_af (x : Int) : AF Tryz.prog 246 [aI .u32 x] (aB (decide (2147483648 ≤ x))) := by
  refine af_of Tryz.func246 rfl (by kernel_rfl) (by simp [Tryz.ntmps246]) fun _ => ?_; simp [Tryz.f246, Ex.d_eq]
theorem r01num_af (b : Bool) : AF Tryz.prog 201 [aB b] (aI .u32 (if b then 1 else 0)) := by
  refine af_of Tryz.func201 rfl (by kernel_rfl) (by simp [Tryz.ntmps201]) fun _ => ?_; simp [Tryz.f201, Ex.d_eq]
  cases b <;> simp
section
variable {x y : Int} (hx : 0 ≤ x ∧ x < 4294967296) (hy : 0 ≤ y ∧ y < 4294967296)
include hx hy
omit hx in
theorem sa_le : (sa y : Int) = y % 32 ∧ y.tmod 32 = y % 32 := by
  refine ⟨?_, Int.tmod_eq_emod_of_nonneg hy.1⟩
  unfold sa
  omega
theorem r01shl_af : AF Tryz.prog 198 [aI .u32 x, aI .u32 y] (aI .u32 (rShl x y)) := by
  obtain ⟨h1, h2⟩ := sa_le hy
  unfold rShl
  obtain ⟨m, hm⟩ : ∃ m, sa y = m := ⟨_, rfl⟩
  rw [hm] at h1 ⊢
  refine af_of Tryz.func198 rfl (by kernel_rfl) (by simp [Tryz.ntmps198]) fun _ => ?_; simp [Tryz.f198, Ex.d_eq]
  refine aLoop_of (α := Nat) (fun k e A => k ≤ m ∧ A = [] ∧ e 0 = aI .u32 ((x * 2 ^ k) % 4294967296) ∧ e 1 = aI .u32 y ∧ e 5 = aI .u32 k) (fun k => m - k) 0 (Sub.refl _ _ _)
    ⟨by omega, by simp, by simp; omega, by simp, by simp⟩ ?_
  rintro k e A ⟨hk, rfl, e0, e1, e5⟩ K hK
  rcases Nat.lt_or_ge k m with hlt | hge
  case inr =>
    obtain rfl : k = m := by omega
    simp [e0, e1, e5, h2, show ¬ (k : Int) < y % 32 by omega]
  simp [e0, e1, e5, h2, show (k : Int) < y % 32 by omega, u32w (n := (k : Int) + 1) (by omega), u32e]
  refine hK (k + 1) _ _ _ _ (Sub.refl _ _ _) ⟨by omega, rfl, ?_, by simp [e1], by simp⟩ (by omega)
  simp
  rw [Int.pow_succ, ← Int.mul_assoc]
  omega
theorem r01shr_af : AF Tryz.prog 199 [aI .u32 x, aI .u32 y] (aI .u32 (rShr x y)) := by
  obtain ⟨h1, h2⟩ := sa_le hy
  unfold rShr
  obtain ⟨m, hm⟩ : ∃ m, sa y = m := ⟨_, rfl⟩
  rw [hm] at h1 ⊢
  have hr : ∀ k : Nat, 0 ≤ x / 2 ^ k ∧ x / 2 ^ k ≤ x := fun k => ⟨Int.ediv_nonneg hx.1 (by exact Int.le_of_lt (Int.pow_pos (by omega))), Int.ediv_le_self _ hx.1⟩
  refine af_of Tryz.func199 rfl (by kernel_rfl) (by simp [Tryz.ntmps199]) fun _ => ?_; simp [Tryz.f199, Ex.d_eq]
  refine aLoop_of (α := Nat) (fun k e A => k ≤ m ∧ A = [] ∧ e 0 = aI .u32 (x / 2 ^ k) ∧ e 1 = aI .u32 y ∧ e 5 = aI .u32 k) (fun k => m - k) 0 (Sub.refl _ _ _)
    ⟨by omega, by simp, by simp, by simp, by simp⟩ ?_
  rintro k e A ⟨hk, rfl, e0, e1, e5⟩ K hK
  rcases Nat.lt_or_ge k m with hlt | hge
  case inr =>
    obtain rfl : k = m := by omega
    simp [e0, e1, e5, h2, show ¬ (k : Int) < y % 32 by omega]
  have := hr k
  simp [e0, e1, e5, h2, show (k : Int) < y % 32 by omega, u32w (n := (k : Int) + 1) (by omega)]
  refine hK (k + 1) _ _ _ _ (Sub.refl _ _ _) ⟨by omega, rfl, ?_, by simp [e1], by simp⟩ (by omega)
  simp
  rw [Int.tdiv_eq_ediv_of_nonneg this.1, u32w (by omega), Int.pow_succ, Int.ediv_ediv_of_nonneg (Int.le_of_lt (Int.pow_pos (by omega)))]
theorem r01sar_af : AF Tryz.prog 200 [aI .u32 x, aI .u32 y] (aI .u32 (rSar x y)) := by
  obtain ⟨h1, h2⟩ := sa_le hy
  unfold rSar
  obtain ⟨m, hm⟩ : ∃ m, sa y = m := ⟨_, rfl⟩
  rw [hm] at h1 ⊢
  have hs : -2147483648 ≤ sg x ∧ sg x < 2147483648 ∧ (sg x < 0 ↔ 2147483648 ≤ x) := by unfold sg; split <;> omega
  have hq : ∀ k : Nat, (0 ≤ sg x → 0 ≤ sg x / 2 ^ k ∧ sg x / 2 ^ k < 2147483648) ∧ (sg x < 0 → -2147483648 ≤ sg x / 2 ^ k ∧ sg x / 2 ^ k < 0) := fun k => by
    have hp : (0 : Int) < 2 ^ k := Int.pow_pos (by omega)
    refine ⟨fun h => ⟨Int.ediv_nonneg h (Int.le_of_lt hp), ?_⟩, fun h => ⟨?_, Int.ediv_neg_of_neg_of_pos h hp⟩⟩
    · have := Int.ediv_le_self (2 ^ k) h
      omega
    · have : sg x ≤ sg x / 2 ^ k := by
        have h3 : (1 : Int) ≤ 2 ^ k := by omega
        rw [Int.le_ediv_iff_mul_le hp]
        have := Int.mul_le_mul_of_nonpos_left (Int.le_of_lt h) h3
        omega
      omega
  refine af_of Tryz.func200 rfl (by kernel_rfl) (by simp [Tryz.ntmps200]) fun _ => ?_; simp [Tryz.f200, Ex.d_eq]
  refine aCall_of (r01neg_af x) (by simp) (by simp [Ex.d_eq]) ?_; simp [Ex.d_eq]
  have fin : ∀ top : Int, top = (if 2147483648 ≤ x then 2147483648 else 0) → ∀ k : Nat, (us (sg x / 2 ^ k) / 2 + top) % 4294967296 = us (sg x / 2 ^ (k + 1)) := fun top ht k => by
    rw [Int.pow_succ, ← Int.ediv_ediv_of_nonneg (Int.le_of_lt (Int.pow_pos (by omega)))]
    obtain ⟨q1, q2⟩ := hq k
    generalize sg x / 2 ^ k = q at *
    unfold us
    split at ht <;> split <;> split <;> omega
  have loop : ∀ top : Int, top = (if 2147483648 ≤ x then 2147483648 else 0) → ∀ k : Nat, IntKind.u32.wrap (IntKind.u32.wrap ((us (sg x / 2 ^ k)).tdiv 2) + top) = us (sg x / 2 ^ (k + 1)) := fun top ht k => by
    have hu : 0 ≤ us (sg x / 2 ^ k) ∧ us (sg x / 2 ^ k) < 4294967296 := by
      obtain ⟨q1, q2⟩ := hq k
      unfold us
      split <;> omega
    rw [Int.tdiv_eq_ediv_of_nonneg hu.1, u32w (n := us (sg x / 2 ^ k) / 2) (by omega), u32e, fin top ht k]
  have x0 : us (sg x) = x := by unfold us sg; split <;> split <;> omega
  by_cases hn : 2147483648 ≤ x
  · simp [hn]
    refine aLoop_of (α := Nat) (fun k e A => k ≤ m ∧ A = [] ∧ e 0 = aI .u32 (us (sg x / 2 ^ k)) ∧ e 1 = aI .u32 y ∧ e 5 = aI .u32 2147483648 ∧ e 6 = aI .u32 k) (fun k => m - k) 0 (Sub.refl _ _ _)
      ⟨by omega, by simp, by simp [x0], by simp, by simp, by simp⟩ ?_
    rintro k e A ⟨hk, rfl, e0, e1, e5, e6⟩ K hK
    rcases Nat.lt_or_ge k m with hlt | hge
    case inr =>
      obtain rfl : k = m := by omega
      simp [e0, e1, e6, h2, show ¬ (k : Int) < y % 32 by omega]
    simp [e0, e1, e5, e6, h2, show (k : Int) < y % 32 by omega, u32w (n := (k : Int) + 1) (by omega), loop 2147483648 (by rw [if_pos hn])]
    exact hK (k + 1) _ _ _ _ (Sub.refl _ _ _) ⟨by omega, rfl, by simp, by simp [e1], by simp [e5], by simp⟩ (by omega)
  · simp [hn]
    refine aLoop_of (α := Nat) (fun k e A => k ≤ m ∧ A = [] ∧ e 0 = aI .u32 (us (sg x / 2 ^ k)) ∧ e 1 = aI .u32 y ∧ e 5 = aI .u32 0 ∧ e 6 = aI .u32 k) (fun k => m - k) 0 (Sub.refl _ _ _)
      ⟨by omega, by simp, by simp [x0], by simp, by simp, by simp⟩ ?_
    rintro k e A ⟨hk, rfl, e0, e1, e5, e6⟩ K hK
    rcases Nat.lt_or_ge k m with hlt | hge
    case inr =>
      obtain rfl : k = m := by omega
      simp [e0, e1, e6, h2, show ¬ (k : Int) < y % 32 by omega]
    have l0 := loop 0 (by rw [if_neg hn])
    simp only [Int.add_zero] at l0
    simp [e0, e1, e5, e6, h2, show (k : Int) < y % 32 by omega, u32w (n := (k : Int) + 1) (by omega), l0]
    exact hK (k + 1) _ _ _ _ (Sub.refl _ _ _) ⟨by omega, rfl, by simp, by simp [e1], by simp [e5], by simp⟩ (by omega)
omit hy in
theorem r01trunc_af (w : Int) : AF Tryz.prog 197 [aI .u32 x, aI .i64 w] (aI .u32 (rTr x w)) := by
  unfold rTr
  refine af_of Tryz.func197 rfl (by kernel_rfl) (by simp [Tryz.ntmps197]) fun _ => ?_; simp [Tryz.f197, Ex.d_eq]
  by_cases h1 : w = 1
  · simp [h1, Int.tmod_eq_emod_of_nonneg hx.1]
  · by_cases h2 : w = 2
    · simp [h2, Int.tmod_eq_emod_of_nonneg hx.1]
    · simp [h1, h2]
omit hy in
theorem r01ext_af (w : Int) : AF Tryz.prog 144 [aI .u32 x, aI .i64 w] (aI .u32 (rEx x w)) := by
  refine af_of Tryz.func144 rfl (by kernel_rfl) (by simp [Tryz.ntmps144]) fun _ => ?_; simp [Tryz.f144, Ex.d_eq]
  refine aCall_of (r01trunc_af hx w) (by simp) (by simp [Ex.d_eq]) ?_; simp [Ex.d_eq]
  unfold rEx
  have ht : 0 ≤ rTr x w ∧ rTr x w < 4294967296 ∧ (w = 1 → rTr x w < 256) ∧ (w = 2 → rTr x w < 65536) := by unfold rTr; split <;> (try split) <;> omega
  generalize rTr x w = t at *
  by_cases h1 : w = 1
  · by_cases h3 : 128 ≤ t
    · simp [h1, h3, u32e]
      omega
    · simp [h1, h3]
  · by_cases h2 : w = 2
    · by_cases h3 : 32768 ≤ t
      · simp [h2, h3, u32e]
        omega
      · simp [h2, h3]
    · simp [h1, h2]
omit hx hy in
theorem i32wm' (n : Int) : IntKind.i32.wrap n = if 2147483648 ≤ n % 4294967296 then n % 4294967296 - 4294967296 else n % 4294967296 := by simp [IntKind.wrap, IntKind.signed, IntKind.bits]
omit hx hy in
theorem i32_sg (x : Int) (hx : 0 ≤ x ∧ x < 4294967296) : IntKind.i32.wrap x = sg x := by
  rw [i32wm']
  unfold sg
  split <;> split <;> omega
theorem r01apply_af (op : Int) (ho : 3 ≤ op ∧ op ≤ 15) : AF Tryz.prog 145 [aI .i64 op, aI .u32 x, aI .u32 y] (.tup [aI .u32 (apR op x y), aI .i64 0]) := by
  rcases (show op = 3 ∨ op = 4 ∨ op = 5 ∨ op = 6 ∨ op = 7 ∨ op = 8 ∨ op = 9 ∨ op = 10 ∨ op = 11 ∨ op = 12 ∨ op = 13 ∨ op = 14 ∨ op = 15 by omega) with rfl | rfl | rfl | rfl | rfl | rfl | rfl | rfl | rfl | rfl | rfl | rfl | rfl
  · refine af_of Tryz.func145 rfl (by kernel_rfl) (by simp [Tryz.ntmps145]) fun _ => ?_; simp [Tryz.f145, Ex.d_eq]
    simp [apR, u32e]
  · refine af_of Tryz.func145 rfl (by kernel_rfl) (by simp [Tryz.ntmps145]) fun _ => ?_; simp [Tryz.f145, Ex.d_eq]
    simp [apR, u32e]
  · refine af_of Tryz.func145 rfl (by kernel_rfl) (by simp [Tryz.ntmps145]) fun _ => ?_; simp [Tryz.f145, Ex.d_eq]
    simp [apR, u32e]
  · refine af_of Tryz.func145 rfl (by kernel_rfl) (by simp [Tryz.ntmps145]) fun _ => ?_; simp [Tryz.f145, Ex.d_eq]
    simp [apR]
  · refine af_of Tryz.func145 rfl (by kernel_rfl) (by simp [Tryz.ntmps145]) fun _ => ?_; simp [Tryz.f145, Ex.d_eq]
    simp [apR]
  · refine af_of Tryz.func145 rfl (by kernel_rfl) (by simp [Tryz.ntmps145]) fun _ => ?_; simp [Tryz.f145, Ex.d_eq]
    simp [apR]
  · refine af_of Tryz.func145 rfl (by kernel_rfl) (by simp [Tryz.ntmps145]) fun _ => ?_; simp [Tryz.f145, Ex.d_eq]
    refine aCall_of (r01shl_af hx hy) (by simp) (by simp [Ex.d_eq]) ?_; simp [Ex.d_eq]
    simp [apR]
  · refine af_of Tryz.func145 rfl (by kernel_rfl) (by simp [Tryz.ntmps145]) fun _ => ?_; simp [Tryz.f145, Ex.d_eq]
    refine aCall_of (r01shr_af hx hy) (by simp) (by simp [Ex.d_eq]) ?_; simp [Ex.d_eq]
    simp [apR]
  · refine af_of Tryz.func145 rfl (by kernel_rfl) (by simp [Tryz.ntmps145]) fun _ => ?_; simp [Tryz.f145, Ex.d_eq]
    refine aCall_of (r01sar_af hx hy) (by simp) (by simp [Ex.d_eq]) ?_; simp [Ex.d_eq]
    simp [apR]
  · refine af_of Tryz.func145 rfl (by kernel_rfl) (by simp [Tryz.ntmps145]) fun _ => ?_; simp [Tryz.f145, Ex.d_eq]
    refine aCall_of (r01num_af (decide (x = y))) (by simp) (by simp [Ex.d_eq]) ?_; simp [Ex.d_eq]
    simp [apR]
  · refine af_of Tryz.func145 rfl (by kernel_rfl) (by simp [Tryz.ntmps145]) fun _ => ?_; simp [Tryz.f145, Ex.d_eq]
    refine aCall_of (r01num_af (!decide (x = y))) (by simp) (by simp [Ex.d_eq]) ?_; simp [Ex.d_eq]
    simp [apR]
  · refine af_of Tryz.func145 rfl (by kernel_rfl) (by simp [Tryz.ntmps145]) fun _ => ?_; simp [Tryz.f145, Ex.d_eq]
    simp [i32_sg x hx, i32_sg y hy]
    refine aCall_of (r01num_af (decide (sg x < sg y))) (by simp) (by simp [Ex.d_eq]) ?_; simp [Ex.d_eq]
    simp [apR]
  · refine af_of Tryz.func145 rfl (by kernel_rfl) (by simp [Tryz.ntmps145]) fun _ => ?_; simp [Tryz.f145, Ex.d_eq]
    refine aCall_of (r01num_af (decide (x < y))) (by simp) (by simp [Ex.d_eq]) ?_; simp [Ex.d_eq]
    simp [apR]
end
end Go.Proofs.YtlidimmfpfockaaGreatDoor

/- Contracts: the reference's evaluation of expressions (layer 20). -/
namespace Go.Proofs.YtlidimmfpfockaaGreatDoor
open Go.RowKit
def u32s (V : List Int) : List (List D) := V.map fun n => [.v (.int .u32 n)]
@[simp] theorem u32s_len (V : List Int) : (u32s V).length = V.length := by simp [u32s]
@[simp] theorem u32s_get (V : List Int) (i : Nat) : (u32s V)[i]? = (V[i]?).map fun n => [.v (.int .u32 n)] := by simp [u32s]
@[simp] theorem u32s_at (V : List Int) (i : Nat) (h : i < (u32s V).length) : (u32s V)[i] = [.v (.int .u32 (V[i]'(by simpa using h)))] := by simp [u32s]
/-- The state; a memory that was made. -/
@[simp] def stA (V : List Int) : AV := .agg [.d (.sl 1 (u32s V))]
@[simp] def memA (S C : List (List D)) : AV := .agg [aB true, .d (.sl 5 S), .d (.sl 2 C)]
theorem r20value_af (V : List Int) (v : Int) : AF Tryz.prog 142 [stA V, aI .i64 v] (aI .u32 (valR V v)) := by
  refine af_of Tryz.func142 rfl (by kernel_rfl) (by simp [Tryz.ntmps142]) fun _ => ?_; simp [Tryz.f142, Ex.d_eq]
  unfold valR
  by_cases h : 0 ≤ v
  · obtain ⟨n, rfl⟩ : ∃ n : Nat, v = n := ⟨v.toNat, by omega⟩
    by_cases h2 : n < V.length
    · simp [show ¬ ((n : Int) < 0) by omega, show ¬ ((V.length : Int) ≤ n) by omega, h2, List.getD_eq_getElem?_getD]
    · simp [show ¬ ((n : Int) < 0) by omega, show ((V.length : Int) ≤ n) by omega, h2, List.getD_eq_getElem?_getD, List.getElem?_eq_none (show V.length ≤ n by omega)]
  · simp [h, show v < 0 by omega]
section
variable {V : List Int} {Lf : Int → Int → Int × Int} {S C : List (List D)} (hEv : EvOk V Lf)
  (hL : ∀ a w, R32 a → (w = 1 ∨ w = 2 ∨ w = 4) → AF Tryz.prog 143 [memA S C, aI .u32 a, aI .i64 w] (.tup [aI .u32 (Lf a w).1, aI .i64 (Lf a w).2]))
include hEv hL
theorem r20eval_af : ∀ e : Ex, OkN e → formB e = true → AF Tryz.prog 92 [exA e, stA V, memA S C] (.tup [aI .u32 (evR V Lf e).1, aI .i64 (evR V Lf e).2]) := by
  intro e
  induction e using Ex.ind with
  | h e ih =>
  intro hn hf
  have hop := form_op hf
  by_cases h1 : e.op = 1
  · rw [form_con hf h1]
    refine af_of Tryz.func92 rfl (by kernel_rfl) (by simp [Tryz.ntmps92]) fun _ => ?_; simp [Tryz.f92, Ex.d_eq]
    simp [ev_con]
  by_cases h2 : e.op = 2
  · rw [(form_var hf h2).1]
    refine af_of Tryz.func92 rfl (by kernel_rfl) (by simp [Tryz.ntmps92]) fun _ => ?_; simp [Tryz.f92, Ex.d_eq]
    refine aCall_of (r20value_af V e.v) (by simp) (by simp [Ex.d_eq]) ?_; simp [Ex.d_eq]
    simp [evR, eVar]
  by_cases h15 : e.op ≤ 15
  · obtain ⟨op, ho⟩ : ∃ op, e.op = op := ⟨_, rfl⟩
    rw [ho] at h1 h2 h15
    obtain ⟨nx, ny⟩ := okN_x hn hf (by omega) (by omega)
    obtain ⟨a, b, rfl, ha, hb⟩ := form_two' hf ho (by omega) h15
    simp only [x_two, y_two] at nx ny
    have ia := ih a (by simp) nx ha
    have ib := ih b (by simp) ny hb
    have ra := (ev_ok V Lf hEv a nx ha).1
    have rb := (ev_ok V Lf hEv b ny hb).1
    rw [ev_two]
    refine af_of Tryz.func92 rfl (by kernel_rfl) (by simp [Tryz.ntmps92]) fun _ => ?_; simp [Tryz.f92, Ex.d_eq]
    simp [h1, h2]
    refine adraw [] (by kernel_rfl) (by kernel_rfl) (by kernel_rfl) (by kernel_rfl) ?_; simp [Ex.d_eq]
    refine adC_of ia (by simp) trivial (by simp) (by simp [Ex.d_eq]) ?_; simp [Ex.d_eq]
    by_cases fa : (evR V Lf a).2 = 0
    case neg => simp [fa]
    simp [fa, show ¬ op = 16 by omega, show ¬ op = 17 by omega, show ¬ op = 18 by omega, show ¬ op = 19 by omega, Ex.d_eq]
    refine adraw [] (by kernel_rfl) (by kernel_rfl) (by kernel_rfl) (by kernel_rfl) ?_; simp [Ex.d_eq]
    refine adC_of ib (by simp) trivial (by simp) (by simp [Ex.d_eq]) ?_; simp [Ex.d_eq]
    by_cases fb : (evR V Lf b).2 = 0
    case neg => simp [fb]
    simp [fb]
    refine aCall_of (r01apply_af ra rb op (by omega)) (by simp) (by simp [Ex.d_eq]) ?_; simp [Ex.d_eq]
  · obtain ⟨op, ho⟩ : ∃ op, e.op = op := ⟨_, rfl⟩
    rw [ho] at h1 h2 h15 hop
    have hone : ∃ a w, e = .mk op 0 0 w [a] ∧ formB a = true ∧ (op = 18 → w = 1 ∨ w = 2 ∨ w = 4) := by
      rcases (show e.op = 16 ∨ e.op = 17 ∨ e.op = 18 ∨ e.op = 19 by omega) with h | h | h | h
      · obtain ⟨a, he, ha⟩ := form_one hf (.inl h); rw [ho] at he; exact ⟨a, 0, he, ha, by omega⟩
      · obtain ⟨a, he, ha⟩ := form_one hf (.inr h); rw [ho] at he; exact ⟨a, 0, he, ha, by omega⟩
      · obtain ⟨a, he, ha, hw⟩ := form_wide hf (.inl h); rw [ho] at he; exact ⟨a, _, he, ha, by omega⟩
      · obtain ⟨a, he, ha, hw⟩ := form_wide hf (.inr h); rw [ho] at he; exact ⟨a, _, he, ha, by omega⟩
    obtain ⟨a, w, rfl, ha, hw⟩ := hone
    have na := hn.l a (by simp)
    have ia := ih a (by simp) na ha
    have ra := (ev_ok V Lf hEv a na ha).1
    simp only [evR]
    refine af_of Tryz.func92 rfl (by kernel_rfl) (by simp [Tryz.ntmps92]) fun _ => ?_; simp [Tryz.f92, Ex.d_eq]
    simp [h1, h2]
    refine adraw [] (by kernel_rfl) (by kernel_rfl) (by kernel_rfl) (by kernel_rfl) ?_; simp [Ex.d_eq]
    refine adC_of ia (by simp) trivial (by simp) (by simp [Ex.d_eq]) ?_; simp [Ex.d_eq]
    by_cases fa : (evR V Lf a).2 = 0
    case neg => simp [fa]
    simp [fa]
    by_cases h16 : op = 16
    · simp [h16]
      by_cases hz : (evR V Lf a).1 = 0 <;> simp [hz]
    by_cases h17 : op = 17
    · simp [h17, u32e]
    by_cases h18 : op = 18
    · simp [h18]
      refine aCall_of (hL (evR V Lf a).1 w ra (hw h18)) (by simp) (by simp [Ex.d_eq]) ?_; simp [Ex.d_eq]
    · simp [h16, h17, h18, show op = 19 by omega]
      refine aCall_of (r01ext_af ra w) (by simp) (by simp [Ex.d_eq]) ?_; simp [Ex.d_eq]
      try simp [show op = 19 by omega]
theorem r20expr_af (e : Ex) (hn : OkN e) : AF Tryz.prog 32 [exA e, stA V, memA S C] (if checkB e = true then .tup [aI .u32 (evR V Lf e).1, aI .i64 (evR V Lf e).2] else .tup [aI .u32 0, aI .i64 (if shalB 64 e = true then 2 else 20)]) := by
  refine af_of Tryz.func32 rfl (by kernel_rfl) (by simp [Tryz.ntmps32]) fun _ => ?_; simp [Tryz.f32, Ex.d_eq]
  refine aCall_of (rcheck28_af e) (by simp) (by simp [Ex.d_eq]) ?_; simp [Ex.d_eq]
  cases hc : checkB e
  · by_cases h1 : shalB 64 e = true <;> simp [h1]
  · have hf : formB e = true := by simp only [checkB, Bool.and_eq_true] at hc; exact hc.2
    simp
    refine aCall_of (r20eval_af hEv hL e hn hf) (by simp) (by simp [Ex.d_eq]) ?_; simp [Ex.d_eq]
end
end Go.Proofs.YtlidimmfpfockaaGreatDoor

/- Contracts: the law's memory; the reference's loads from it (layers 5 and 9). -/
namespace Go.Proofs.YtlidimmfpfockaaGreatDoor
open Go.RowKit
def u8s (B : List Int) : List (List D) := B.map fun n => [.v (.int .u8 n)]
@[simp] theorem u8s_len (B : List Int) : (u8s B).length = B.length := by simp [u8s]
@[simp] theorem u8s_get (B : List Int) (i : Nat) : (u8s B)[i]? = (B[i]?).map fun n => [.v (.int .u8 n)] := by simp [u8s]
@[simp] theorem u8s_at (B : List Int) (i : Nat) (h : i < (u8s B).length) : (u8s B)[i] = [.v (.int .u8 (B[i]'(by simpa using h)))] := by simp [u8s]
def dataN : ByteArray := ⟨#[100, 97, 116, 97]⟩
/-- The law's section. -/
@[simp] def secD (B : List Int) : List (List D) := [[.v (.string dataN), .v (.int .u32 8192), .sl 1 (u8s B), .v (.bool false), .v (.bool false)]]
@[simp] def secA (B : List Int) : AV := .agg [aS dataN, aI .u32 8192, .d (.sl 1 (u8s B)), aB false, aB false]
/-- Where an address lies: 1: on the stack; 0: in the section. -/
def regI (a : Int) : Int := if 978944 ≤ a ∧ a < 983040 then 1 else if 8192 ≤ a ∧ a < 8224 then 0 else -1
def rstI (a : Int) : Int := if 978944 ≤ a ∧ a < 983040 then 983040 - a else if 8192 ≤ a ∧ a < 8224 then 8224 - a else 0
def byI (B : List Int) (a : Int) : Int := if 8192 ≤ a ∧ a < 8224 then B.getD (a - 8192).toNat 0 else 0
/-- So many bytes from the top down, the lowest last. -/
def ldI (B : List Int) (a : Int) : Nat → Int → Int
  | 0, n => n
  | k + 1, n => ldI B a k ((256 * n + byI B ((a + k) % 4294967296)) % 4294967296)
def ldR (B : List Int) (a w : Int) : Int × Int := if rstI a < w then (0, 11) else (ldI B a w.toNat 0, 0)
section
variable {B : List Int} (hB : B.length = 32)
include hB
theorem r05end_af : AF Tryz.prog 192 [secA B] (aI .i64 8224) := by
  refine af_of Tryz.func192 rfl (by kernel_rfl) (by simp [Tryz.ntmps192]) fun _ => ?_; simp [Tryz.f192, Ex.d_eq]
  simp [hB]
theorem r05find_af (a : Int) (ha : R32 a) : AF Tryz.prog 266 [.d (.sl 5 (secD B)), aI .u32 a] (aI .i64 (if 8192 ≤ a ∧ a < 8224 then 0 else -1)) := by
  have h1 := ha.1
  have h2 := ha.2
  refine af_of Tryz.func266 rfl (by kernel_rfl) (by simp [Tryz.ntmps266]) fun _ => ?_; simp [Tryz.f266, Ex.d_eq]
  refine aLoop_iter 2 ?_; simp [Ex.d_eq]
  by_cases h3 : 8192 ≤ a
  · simp [h3]
    refine aCall_of (r05end_af hB) (by simp) (by simp [Ex.d_eq]) ?_; simp [Ex.d_eq]
    simp [i64w (n := a) (by omega)]
    by_cases h4 : a < 8224
    · simp [h4]
    · simp [h4]
  · simp [h3]
theorem r09region_af (a : Int) (ha : R32 a) : AF Tryz.prog 244 [memA (secD B) [], aI .u32 a] (aI .i64 (regI a)) := by
  unfold regI
  refine af_of Tryz.func244 rfl (by kernel_rfl) (by simp [Tryz.ntmps244]) fun _ => ?_; simp [Tryz.f244, Ex.d_eq]
  by_cases h1 : 978944 ≤ a
  · by_cases h2 : a < 983040
    · simp [h1, h2]
    · simp [h1, h2]
      refine aCall_of (r05find_af hB a ha) (by simp) (by simp [Ex.d_eq]) ?_; simp [Ex.d_eq]
      try simp [show ¬ a < 8224 by omega]
  · simp [h1]
    refine aCall_of (r05find_af hB a ha) (by simp) (by simp [Ex.d_eq]) ?_; simp [Ex.d_eq]
theorem r09rest_af (a : Int) (ha : R32 a) : AF Tryz.prog 195 [memA (secD B) [], aI .u32 a] (aI .i64 (rstI a)) := by
  have h1 := ha.1
  have h2 := ha.2
  refine af_of Tryz.func195 rfl (by kernel_rfl) (by simp [Tryz.ntmps195]) fun _ => ?_; simp [Tryz.f195, Ex.d_eq]
  refine aCall_of (r09region_af hB a ha) (by simp) (by simp [Ex.d_eq]) ?_; simp [Ex.d_eq]
  unfold regI rstI
  by_cases hs : 978944 ≤ a ∧ a < 983040
  · simp [hs, u32e]
    rw [Int.emod_eq_of_lt (by omega) (by omega)]
    simp [i64w (n := 983040 - a) (by omega)]
  · by_cases hd : 8192 ≤ a ∧ a < 8224
    · have e1 : (a - 8192) % 4294967296 = a - 8192 := Int.emod_eq_of_lt (by omega) (by omega)
      simp [hs, hd]
      refine adraw [] (by kernel_rfl) (by kernel_rfl) (by kernel_rfl) (by kernel_rfl) ?_; simp [Ex.d_eq]
      simp [hB, u32e, e1, i64w (n := a - 8192) (by omega), i64w (n := 32 - (a - 8192)) (by omega)]
      try omega
    · simp [hs, hd]
theorem r09initial_af (a : Int) (ha : R32 a) : AF Tryz.prog 245 [memA (secD B) [], aI .u32 a] (aI .u8 (byI B a)) := by
  have h1 := ha.1
  have h2 := ha.2
  refine af_of Tryz.func245 rfl (by kernel_rfl) (by simp [Tryz.ntmps245]) fun _ => ?_; simp [Tryz.f245, Ex.d_eq]
  refine aCall_of (r09region_af hB a ha) (by simp) (by simp [Ex.d_eq]) ?_; simp [Ex.d_eq]
  unfold regI byI
  by_cases hs : 978944 ≤ a ∧ a < 983040
  · simp [hs, show ¬ (8192 ≤ a ∧ a < 8224) by omega]
  · by_cases hd : 8192 ≤ a ∧ a < 8224
    · obtain ⟨j, hj⟩ : ∃ j : Nat, a = 8192 + j := ⟨(a - 8192).toNat, by omega⟩
      subst hj
      have e1 : ((8192 : Int) + j - 8192) % 4294967296 = j := by omega
      have hjl : j < B.length := by omega
      have hg : B[j]? = some B[j] := List.getElem?_eq_getElem hjl
      simp [hs, hd]
      refine adraw [] (by kernel_rfl) (by kernel_rfl) (by kernel_rfl) (by kernel_rfl) ?_; simp [Ex.d_eq]
      simp [hB, u32e, e1, hjl, hg, i64w (n := (j : Int)) (by omega), List.getD_eq_getElem?_getD]
      rw [show ((8192 : Int) + j - 8192).toNat = j by omega, hg]
      rfl
    · simp [hs, hd]
theorem r09present_af (a : Int) (ha : R32 a) : AF Tryz.prog 196 [memA (secD B) [], aI .u32 a] (aI .u8 (byI B a)) := by
  refine af_of Tryz.func196 rfl (by kernel_rfl) (by simp [Tryz.ntmps196]) fun _ => ?_; simp [Tryz.f196, Ex.d_eq]
  refine aLoop_iter 1 ?_; simp [Ex.d_eq]
  refine aCall_of (r09initial_af hB a ha) (by simp) (by simp [Ex.d_eq]) ?_; simp [Ex.d_eq]
omit hB in
theorem r09width_af (w : Int) : AF Tryz.prog 194 [aI .i64 w] (aB (decide (w = 1) || decide (w = 2) || decide (w = 4))) := by
  refine af_of Tryz.func194 rfl (by kernel_rfl) (by simp [Tryz.ntmps194]) fun _ => ?_; simp [Tryz.f194, Ex.d_eq]
  by_cases h1 : w = 1
  · simp [h1]
  · by_cases h2 : w = 2
    · simp [h2]
    · simp [h1, h2]
theorem r09load_af (a w : Int) (ha : R32 a) (hw : w = 1 ∨ w = 2 ∨ w = 4) : AF Tryz.prog 143 [memA (secD B) [], aI .u32 a, aI .i64 w] (.tup [aI .u32 (ldR B a w).1, aI .i64 (ldR B a w).2]) := by
  have h1 := ha.1
  have h2 := ha.2
  refine af_of Tryz.func143 rfl (by kernel_rfl) (by simp [Tryz.ntmps143]) fun _ => ?_; simp [Tryz.f143, Ex.d_eq]
  have c := r09width_af w
  rw [show (decide (w = 1) || decide (w = 2) || decide (w = 4)) = true by rcases hw with rfl | rfl | rfl <;> rfl] at c
  refine aCall_of c (by simp) (by simp [Ex.d_eq]) ?_; simp [Ex.d_eq]
  refine aCall_of (r09rest_af hB a ha) (by simp) (by simp [Ex.d_eq]) ?_; simp [Ex.d_eq]
  unfold ldR
  by_cases hr : rstI a < w
  · simp [hr]
  have hwn : 0 ≤ w ∧ w ≤ 4 := by omega
  obtain ⟨m, hm⟩ : ∃ m : Nat, w = m := ⟨w.toNat, by omega⟩
  subst hm
  simp [hr, i64w (n := (m : Int) - 1) (by omega)]
  obtain ⟨R, hR⟩ : ∃ R, ldI B a m 0 = R := ⟨_, rfl⟩
  rw [hR]
  refine aLoop_of (α := Nat) (fun k e A => k ≤ 4 ∧ A = [⟨0, true, 56, 3, [[aB true, .d (.sl 5 (secD B)), .d (.sl 2 [])]]⟩] ∧ e 3 = .ptr 0 0 0 0 ∧ e 1 = aI .u32 a ∧ e 9 = aI .i64 ((k : Int) - 1) ∧ ∃ n, e 8 = aI .u32 n ∧ ldI B a k n = R) id m (Sub.refl _ _ _)
    ⟨by omega, by simp, by simp, by simp, by simp, 0, by simp, hR⟩ ?_
  rintro k e A ⟨hk, rfl, e3, e1, e9, n, e8, hn⟩ K hK
  cases k with
  | zero =>
    simp only [ldI] at hn
    subst hn
    simp [e9, e8]
  | succ k =>
    rw [ldI] at hn
    have p1 := r09present_af hB ((a + k) % 4294967296) (r32_mod _)
    simp [e9, e8, e3, e1, u32e, show (0 : Int) ≤ k by omega]
    refine aCall_of p1 (by simp) (by simp [Ex.d_eq]) ?_; simp [Ex.d_eq]
    simp [e9, e8, u32e, i64w (n := (k : Int) - 1) (by omega)]
    exact hK k _ _ _ _ (Sub.refl _ _ _) ⟨by omega, rfl, by simp [e3], by simp [e1], by simp, (256 * n + byI B ((a + k) % 4294967296)) % 4294967296, by simp, hn⟩ (by simp)
end
end Go.Proofs.YtlidimmfpfockaaGreatDoor

/- Contracts: the reference's new memory; the law's memory. -/
namespace Go.Proofs.YtlidimmfpfockaaGreatDoor
open Go.RowKit
theorem aenv0_map (l : List AV) : l = (List.range l.length).map (aenv0 l) := by
  refine List.ext_getElem? fun i => ?_
  rcases Nat.lt_or_ge i l.length with h | h
  · simp [h, aenv0, List.getD_eq_getElem?_getD]
  · rw [List.getElem?_eq_none h, List.getElem?_eq_none (by simpa using h)]
/-- A call with blocks that are written no more. -/
theorem aCall_frz {P : Program} {g : FuncId} {fs args cs args' : List AV} {A : AHeap} {r : AV} {d : Option Nat} {e : AEnv} {K : AKont} (Bs : List Nat) (h : AF P g args' r) (hok : okF P g = true)
    (hr : argO (omap (reiV true (frz Bs A) 9) (fs ++ args ++ cs)) args') (hk : K (aupd e d r) (frz Bs A)) : aCall P (.fn g fs cs) args A d e K :=
  ⟨g, fs, cs, rfl, hok, AC.pre (e' := aenv0 (fs ++ args ++ cs)) (Sub.frz Bs) (aenv0_map _) ((AF.ac h hr).mono fun r' A' ⟨e1, e2⟩ => by rw [e1, e2]; exact hk)⟩
theorem r05name_af : AF Tryz.prog 243 [aS dataN] (aB true) := xtrue_af xnone_ok (lf := 100) (n := 10) (by kernel_rfl)
section
variable {B : List Int} (hB : B.length = 32)
include hB
theorem r05one_af : AF Tryz.prog 191 [.d (.sl 5 (secD B)), aI .i64 0] (aI .i64 0) := by
  refine af_of Tryz.func191 rfl (by kernel_rfl) (by simp [Tryz.ntmps191]) fun _ => ?_; simp [Tryz.f191, Ex.d_eq]
  simp [hB]
  refine aCall_of r05name_af (by simp) (by simp [Ex.d_eq]) ?_; simp [Ex.d_eq]
  refine aLoop_iter 1 ?_; simp [Ex.d_eq]
  simp [hB]
  refine aCall_of (r05end_af hB) (by simp) (by simp [Ex.d_eq]) ?_; simp [Ex.d_eq]
theorem r05check_af : AF Tryz.prog 140 [.d (.sl 5 (secD B))] (aI .i64 0) := by
  refine af_of Tryz.func140 rfl (by kernel_rfl) (by simp [Tryz.ntmps140]) fun _ => ?_; simp [Tryz.f140, Ex.d_eq]
  refine aLoop_iter 2 ?_; simp [Ex.d_eq]
  refine aCall_of (r05one_af hB) (by simp) (by simp [Ex.d_eq]) ?_; simp [Ex.d_eq]
  refine aLoop_iter 2 ?_; simp [Ex.d_eq]
  refine aLoop_iter 1 ?_; simp [Ex.d_eq]
theorem r05copy_af : AF Tryz.prog 193 [secA B] (secA B) := by
  refine af_of Tryz.func193 rfl (by kernel_rfl) (by simp [Tryz.ntmps193]) fun _ => ?_; simp [Tryz.f193, Ex.d_eq]
  refine aRaw_app byt_91 ?_
  simp [hB]
  have hall : ∀ x ∈ dEls (u8s B), x.length = 1 := fun x hx => by
    simp only [dEls, u8s, List.map_map, List.mem_map, Function.comp] at hx
    obtain ⟨n, _, rfl⟩ := hx
    rfl
  rw [if_pos hall]
  simp [hB, maxLen]
  rw [List.take_of_length_le (by simp [hB])]
  simp
theorem r05copies_af : AF Tryz.prog 141 [.d (.sl 5 (secD B))] (.d (.sl 5 (secD B))) := by
  refine af_of Tryz.func141 rfl (by kernel_rfl) (by simp [Tryz.ntmps141]) fun _ => ?_; simp [Tryz.f141, Ex.d_eq]
  refine aLoop_iter 2 ?_; simp [Ex.d_eq]
  refine aCall_of (r05copy_af hB) (by simp) (by simp [Ex.d_eq]) ?_; simp [Ex.d_eq]
  refine aRaw_app byt_53 ?_
  simp [maxLen]
theorem r09new_af : AF Tryz.prog 91 [.d (.sl 5 (secD B))] (.tup [memA (secD B) [], aI .i64 0]) := by
  refine af_of Tryz.func91 rfl (by kernel_rfl) (by simp [Tryz.ntmps91]) fun _ => ?_; simp [Tryz.f91, Ex.d_eq]
  refine aCall_of (r05check_af hB) (by simp) (by simp [Ex.d_eq]) ?_; simp [Ex.d_eq]
  refine aCall_of (r05copies_af hB) (by simp) (by simp [Ex.d_eq]) ?_; simp [Ex.d_eq]
end
/-- The bytes of the law's memory. -/
def memL (seed : Int) (n : Nat) : List Int := (List.range n).map fun i : Nat => IntKind.u8.wrap (IntKind.u8.wrap (IntKind.u8.wrap (i : Int) * seed) + 200)
end Go.Proofs.YtlidimmfpfockaaGreatDoor
