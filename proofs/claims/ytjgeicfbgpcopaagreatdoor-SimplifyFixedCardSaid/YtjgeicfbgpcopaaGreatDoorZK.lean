/- Texts that the claim leans on, laid one behind the other: Ib, Ic, Id. -/
import Derived.Test.YtjgeicfbgpcopaaGreatDoorZG
import Derived.Test.YtjgeicfbgpcopaaGreatDoorZH
set_option linter.unusedSimpArgs false
set_option linter.unusedVariables false
set_option linter.unnecessarySimpa false
/- The values of expressions as plain numbers; what evaluates an idiom's replacement evaluates the idiom. No program in sight. -/
namespace Go.Proofs.YtjgeicfbgpcopaaGreatDoor
open Go.RowKit
theorem u32e (n : Int) : IntKind.u32.wrap n = n % 4294967296 := by simp [IntKind.wrap, IntKind.signed, IntKind.bits]
/-- The number as a signed one; and back. -/
def sg (x : Int) : Int := if 2147483648 ≤ x then x - 4294967296 else x
def us (x : Int) : Int := if x < 0 then x + 4294967296 else x
/-- How far a shift goes. -/
def sa (y : Int) : Nat := (y % 32).toNat
def rShl (x y : Int) : Int := (x * 2 ^ sa y) % 4294967296
def rShr (x y : Int) : Int := x / 2 ^ sa y
def rSar (x y : Int) : Int := us (sg x / 2 ^ sa y)
def rTr (x w : Int) : Int := if w = 1 then x % 256 else if w = 2 then x % 65536 else x
def rEx (x w : Int) : Int := if w = 1 ∧ 128 ≤ rTr x w then rTr x w + 4294967040 else if w = 2 ∧ 32768 ≤ rTr x w then rTr x w + 4294901760 else rTr x w
/-- An operator with two operands. -/
def apR (op x y : Int) : Int :=
  if op = 3 then (x + y) % 4294967296 else if op = 4 then (x - y) % 4294967296 else if op = 5 then (x * y) % 4294967296 else
  if op = 6 then andI .u32 x y else if op = 7 then orI .u32 x y else if op = 8 then xorI .u32 x y else
  if op = 9 then rShl x y else if op = 10 then rShr x y else if op = 11 then rSar x y else
  if op = 12 then (if x = y then 1 else 0) else if op = 13 then (if x = y then 0 else 1) else if op = 14 then (if sg x < sg y then 1 else 0) else (if x < y then 1 else 0)
def valR (V : List Int) (v : Int) : Int := if 0 ≤ v then V.getD v.toNat 0 else 0
/-- An expression's value and error. -/
def evR (V : List Int) (L : Int → Int → Int × Int) : Ex → Int × Int
  | .mk op n v _ [] => if op = 1 then (n, 0) else (valR V v, 0)
  | .mk op _ _ w [a] => if (evR V L a).2 ≠ 0 then (0, (evR V L a).2) else
    if op = 16 then (if (evR V L a).1 = 0 then 1 else 0, 0) else if op = 17 then ((-(evR V L a).1) % 4294967296, 0) else if op = 18 then L (evR V L a).1 w else (rEx (evR V L a).1 w, 0)
  | .mk op _ _ _ [a, b] => if (evR V L a).2 ≠ 0 then (0, (evR V L a).2) else if (evR V L b).2 ≠ 0 then (0, (evR V L b).2) else (apR op (evR V L a).1 (evR V L b).1, 0)
  | _ => (0, 0)
/-- A number of 32 bits. -/
def R32 (x : Int) : Prop := 0 ≤ x ∧ x < 4294967296
inductive OkN : Ex → Prop where
  | mk {e : Ex} : R32 e.n → (∀ x ∈ e.l, OkN x) → OkN e
theorem OkN.n {e : Ex} (h : OkN e) : R32 e.n := by cases h; assumption
theorem OkN.l {e : Ex} (h : OkN e) : ∀ x ∈ e.l, OkN x := by cases h; assumption
theorem okN_con {n : Int} (h : R32 n) : OkN (eCon n) := .mk h (by simp)
theorem r32_0 : R32 0 := ⟨by omega, by omega⟩
theorem okN_two {op : Int} {a b : Ex} (ha : OkN a) (hb : OkN b) : OkN (eTwo op a b) := .mk r32_0 (by simp; exact ⟨ha, hb⟩)
theorem okN_one {op : Int} {a : Ex} (ha : OkN a) : OkN (eOne op a) := .mk r32_0 (by simpa using ha)
theorem okN_x {e : Ex} (h : OkN e) (hf : formB e = true) (h3 : 3 ≤ e.op) (h15 : e.op ≤ 15) : OkN e.x ∧ OkN e.y := by
  obtain ⟨he, _, _⟩ := two_parts hf h3 h15
  have hl : e.l = [e.x, e.y] := by
    have := congrArg Ex.l he
    simpa using this
  exact ⟨h.l _ (by rw [hl]; simp), h.l _ (by rw [hl]; simp)⟩
theorem okN_x1 {e : Ex} (h : OkN e) (hf : formB e = true) (ho : e.op = 17) : OkN e.x := by
  obtain ⟨he, _⟩ := one_part hf (.inr ho)
  have hl : e.l = [e.x] := by
    have := congrArg Ex.l he
    simpa using this
  exact h.l _ (by rw [hl]; simp)
theorem r32_mod (n : Int) : R32 (n % 4294967296) := ⟨Int.emod_nonneg _ (by omega), Int.emod_lt_of_pos _ (by omega)⟩
theorem r32_wrap (n : Int) : R32 (IntKind.u32.wrap n) := by rw [u32e]; exact r32_mod n
theorem pw_eq {k : Int} (h : 1 ≤ k ∧ k ≤ 31) : pw k = 2 ^ k.toNat := by
  obtain ⟨m, rfl⟩ : ∃ m : Nat, k = m := ⟨k.toNat, by omega⟩
  have hm : m < 32 := by omega
  have : ∀ m : Nat, m < 32 → pw (m : Int) = (2 : Int) ^ m := by decide +kernel
  simpa using this m hm
theorem pw_r32 {k : Int} (h : 1 ≤ k ∧ k ≤ 31) : R32 (pw k) := r32_wrap _
theorem mul_okN {e : Ex} (h : OkN e) (hf : formB e = true) : OkN (mulS e).1 ∧ R32 (mulS e).2 := by
  unfold mulS
  split
  · rename_i x k hs
    obtain ⟨h1, _, h3, h4, rfl, _⟩ := sh_some hs
    exact ⟨(okN_x h hf (by omega) (by omega)).1, pw_r32 ⟨h3, h4⟩⟩
  · split
    · rename_i ho
      obtain ⟨h1, h2⟩ := okN_x h hf (by omega) (by omega)
      split
      · exact ⟨h1, h2.n⟩
      · split
        · exact ⟨h2, h1.n⟩
        · exact ⟨h, ⟨by simp, by simp⟩⟩
    · exact ⟨h, ⟨by simp, by simp⟩⟩
theorem ord_okN {e : Ex} {op : Int} (h : OkN e) (hf : formB e = true) (h3 : 3 ≤ op) (h15 : op ≤ 15) {p : Ex × Ex} (hp : p ∈ ordS e op) : OkN p.1 ∧ OkN p.2 := by
  unfold ordS at hp
  split at hp
  case isFalse => cases hp
  rename_i hc
  obtain ⟨h1, h2⟩ := okN_x h hf (by omega) (by omega)
  rcases List.mem_cons.1 hp with rfl | hp
  · exact ⟨h1, h2⟩
  · split at hp
    · simp at hp
      subst hp
      exact ⟨h2, h1⟩
    · cases hp
theorem by_okN {e x : Ex} {op n : Int} (h : OkN e) (hf : formB e = true) (h3 : 3 ≤ op) (h15 : op ≤ 15) (hb : byS e op n = some x) : OkN x := by
  unfold byS at hb
  simp only [Option.map_eq_some_iff] at hb
  obtain ⟨p, hp, rfl⟩ := hb
  exact (ord_okN h hf h3 h15 (List.mem_of_find?_eq_some hp)).1
theorem sh_okN {e x : Ex} {op k : Int} (h : OkN e) (hf : formB e = true) (h3 : 3 ≤ op) (h15 : op ≤ 15) (hs : shS e op = some (x, k)) : OkN x := by
  obtain ⟨h1, _, _, _, rfl, _⟩ := sh_some hs
  exact (okN_x h hf (by omega) (by omega)).1
theorem ext_okN {e x : Ex} {op w : Int} (h : OkN e) (hf : formB e = true) (h3 : op = 10 ∨ op = 11) (hs : extS e op = some (x, w)) : OkN x := by
  unfold extS at hs
  split at hs
  case h_2 => cases hs
  rename_i a n ha
  have ha' := sh_okN h hf (by omega) (by omega) ha
  have hm := (mul_okN ha' (sh_part hf (by omega) (by omega) ha).1).1
  split at hs
  · simp only [Option.some.injEq, Prod.mk.injEq] at hs
    obtain ⟨rfl, rfl⟩ := hs
    exact hm
  · split at hs
    · simp only [Option.some.injEq, Prod.mk.injEq] at hs
      obtain ⟨rfl, rfl⟩ := hs
      exact hm
    · cases hs
theorem apply_okN {e x : Ex} (hn : OkN e) (hf : formB e = true) : ∀ i, i < 10 → applyS i e = some x → OkN x := by
  intro i hi h
  have hsum : ∀ op, (op = 3 ∨ op = 4) → sumS e op = some x → OkN x := fun op ho h => by
    unfold sumS at h
    split at h
    case isFalse => cases h
    rename_i hc
    simp only [Option.some.injEq] at h
    subst h
    obtain ⟨_, hx, hy⟩ := two_parts hf (by omega) (by omega)
    refine okN_two (mul_okN (okN_x hn hf (by omega) (by omega)).1 hx).1 (okN_con ?_)
    split <;> exact r32_wrap _
  match i, hi, h with
  | 0, _, h => exact hsum 3 (.inl rfl) h
  | 1, _, h => exact hsum 4 (.inr rfl) h
  | 2, _, h =>
    simp only [applyS, negS] at h
    split at h
    case h_2 => cases h
    rename_i a ha
    simp only [Option.map_eq_some_iff] at h
    obtain ⟨b, hb, rfl⟩ := h
    exact okN_one (by_okN (by_okN hn hf (by omega) (by omega) ha) (by_mem hf (by omega) (by omega) ha).1 (by omega) (by omega) hb)
  | 3, _, h =>
    simp only [applyS, invS] at h
    split at h
    · rename_i p hp
      simp only [Option.some.injEq] at h
      subst h
      have hq := List.find?_some hp
      simp only [Bool.and_eq_true, decide_eq_true_eq] at hq
      have hm := List.mem_of_find?_eq_some hp
      exact okN_two (okN_x1 (ord_okN hn hf (by omega) (by omega) hm).1 (ord_mem hf (by omega) (by omega) hm).1 hq.2) (okN_con ⟨by decide, by decide⟩)
    · split at h
      case isFalse => cases h
      rename_i hc
      simp only [Option.some.injEq] at h
      subst h
      exact okN_two (okN_x1 (okN_x hn hf (by omega) (by omega)).1 (two_parts hf (by omega) (by omega)).2.1 hc.2.2) (okN_con ⟨by decide, by decide⟩)
  | 4, _, h =>
    simp only [applyS, sgnS, Option.map_eq_some_iff, Prod.exists] at h
    obtain ⟨y, w, hy, rfl⟩ := h
    exact .mk r32_0 (by simpa using ext_okN hn hf (.inr rfl) hy)
  | 5, _, h =>
    simp only [applyS, zerS, Option.map_eq_some_iff, Prod.exists] at h
    obtain ⟨y, w, hy, rfl⟩ := h
    refine okN_two (ext_okN hn hf (.inl rfl) hy) (okN_con ?_)
    split <;> exact ⟨by decide, by decide⟩
  | 6, _, h =>
    simp only [applyS, nzS] at h
    split at h
    case h_2 => cases h
    rename_i a ha
    simp only [Option.map_eq_some_iff] at h
    obtain ⟨p, hp, rfl⟩ := h
    have hs := hi_some ha
    exact okN_two (ord_okN (sh_okN hn hf (by omega) (by omega) hs) (sh_part hf (by omega) (by omega) hs).1 (by omega) (by omega) (List.mem_of_find?_eq_some hp)).1 (okN_con r32_0)
  | 7, _, h =>
    simp only [applyS, restS] at h
    split at h
    case isFalse => cases h
    rename_i ho
    split at h
    case h_2 => cases h
    rename_i y k hy
    split at h
    case isFalse => cases h
    simp only [Option.some.injEq] at h
    subst h
    obtain ⟨_, hx', hy'⟩ := two_parts hf (by omega) (by omega)
    exact okN_two (sh_okN (mul_okN (okN_x hn hf (by omega) (by omega)).2 hy').1 (mul_part hy').form (by omega) (by omega) hy) (okN_con (r32_wrap _))
  | 8, _, h =>
    simp only [applyS, signS, Option.map_eq_some_iff] at h
    obtain ⟨y, hy, rfl⟩ := h
    exact okN_two (sh_okN hn hf (by omega) (by omega) (hi_some hy)) (okN_con r32_0)
  | 9, _, h =>
    simp only [applyS, shfS, Option.map_eq_some_iff, Prod.exists] at h
    obtain ⟨y, k, hy, rfl⟩ := h
    obtain ⟨_, _, h3, h4, _⟩ := sh_some hy
    exact okN_two (sh_okN hn hf (by omega) (by omega) hy) (okN_con (pw_r32 ⟨h3, h4⟩))
end Go.Proofs.YtjgeicfbgpcopaaGreatDoor

/- What evaluates an idiom's replacement evaluates the idiom. No program in sight. -/
namespace Go.Proofs.YtjgeicfbgpcopaaGreatDoor
open Go.RowKit
theorem ofInt_nat {x : Int} (h : R32 x) : ((BitVec.ofInt 32 x).toNat : Int) = x := by
  have := h.1
  have := h.2
  rw [BitVec.toNat_ofInt]
  simp
  omega
theorem bits_r32 (x : BitVec 32) : IntKind.u32.wrap (x.toNat : Int) = x.toNat := by
  have := x.isLt
  rw [u32e]
  omega
theorem andI_eq (a b : Int) : andI .u32 a b = ((BitVec.ofInt 32 a &&& BitVec.ofInt 32 b).toNat : Int) := bits_r32 _
theorem orI_eq (a b : Int) : orI .u32 a b = ((BitVec.ofInt 32 a ||| BitVec.ofInt 32 b).toNat : Int) := bits_r32 _
theorem xorI_eq (a b : Int) : xorI .u32 a b = ((BitVec.ofInt 32 a ^^^ BitVec.ofInt 32 b).toNat : Int) := bits_r32 _
theorem bits_in (x : BitVec 32) : R32 (x.toNat : Int) := by have := x.isLt; exact ⟨by omega, by omega⟩
theorem xorI_comm (a b : Int) : xorI .u32 a b = xorI .u32 b a := by rw [xorI_eq, xorI_eq, BitVec.xor_comm]
theorem xorI_all {a : Int} (h : R32 a) : xorI .u32 a 4294967295 = 4294967295 - a := by
  rw [xorI_eq, show BitVec.ofInt 32 4294967295 = BitVec.allOnes 32 from rfl, BitVec.xor_allOnes, BitVec.toNat_not]
  have := ofInt_nat h
  have := (BitVec.ofInt 32 a).isLt
  omega
theorem mask_eq {a : Int} (h : R32 a) (k : Nat) (hk : k ≤ 31) : andI .u32 a (2 ^ k - 1) = a % 2 ^ k := by
  obtain ⟨n, rfl⟩ : ∃ n : Nat, a = n := ⟨a.toNat, by have := h.1; omega⟩
  have hn : n < 2 ^ 32 := by have := h.2; omega
  have hp : (2 : Nat) ^ k ≤ 2 ^ 31 := Nat.pow_le_pow_right (by omega) hk
  have h1 : (2 : Nat) ^ k - 1 < 2 ^ 32 := by omega
  have hpos : 0 < (2 : Nat) ^ k := Nat.pos_of_ne_zero (by simp)
  have e1 : (2 : Int) ^ k - 1 = ((2 ^ k - 1 : Nat) : Int) := by
    rw [Int.natCast_sub hpos]
    simp
  rw [andI_eq, e1, BitVec.toNat_and]
  have f : ∀ m : Nat, m < 2 ^ 32 → (BitVec.ofInt 32 (m : Int)).toNat = m := fun m hm => by
    rw [BitVec.toNat_ofInt]
    simp
    omega
  rw [f n hn, f _ h1, Nat.and_two_pow_sub_one_eq_mod]
  simp
section
variable (V : List Int) (L : Int → Int → Int × Int)
theorem ev_con (n : Int) : evR V L (eCon n) = (n, 0) := rfl
theorem ev_two (op : Int) (a b : Ex) : evR V L (eTwo op a b) = if (evR V L a).2 ≠ 0 then (0, (evR V L a).2) else if (evR V L b).2 ≠ 0 then (0, (evR V L b).2) else (apR op (evR V L a).1 (evR V L b).1, 0) := rfl
theorem ev_neg (a : Ex) : evR V L (eOne 17 a) = if (evR V L a).2 ≠ 0 then (0, (evR V L a).2) else ((-(evR V L a).1) % 4294967296, 0) := rfl
/-- Variables and loads yield numbers of 32 bits; a load's error comes with zero. -/
structure EvOk : Prop where
  hV : ∀ v, R32 (valR V v)
  hL : ∀ a w, R32 (L a w).1
  hZ : ∀ a w, (L a w).2 ≠ (0 : Int) → (L a w).1 = 0
theorem ite_r32 {p : Prop} [Decidable p] {a b : Int} (ha : R32 a) (hb : R32 b) : R32 (if p then a else b) := by
  split
  · exact ha
  · exact hb
theorem r32_1 : R32 1 := ⟨by omega, by omega⟩
theorem rShr_r32 {x : Int} (y : Int) (hx : R32 x) : R32 (rShr x y) := by
  unfold rShr
  refine ⟨Int.ediv_nonneg hx.1 (Int.le_of_lt (Int.pow_pos (by omega))), ?_⟩
  have := Int.ediv_le_self (2 ^ sa y) hx.1
  have := hx.2
  omega
theorem rSar_r32 {x : Int} (y : Int) (hx : R32 x) : R32 (rSar x y) := by
  unfold rSar
  have hs : -2147483648 ≤ sg x ∧ sg x < 2147483648 := by
    have := hx.1
    have := hx.2
    unfold sg
    split <;> omega
  have hp : (0 : Int) < 2 ^ sa y := Int.pow_pos (by omega)
  have h1 : -2147483648 ≤ sg x / 2 ^ sa y ∧ sg x / 2 ^ sa y < 2147483648 := by
    rcases Int.lt_or_le (sg x) 0 with h | h
    · have h2 := Int.ediv_neg_of_neg_of_pos h hp
      have h3 : sg x ≤ sg x / 2 ^ sa y := by
        rw [Int.le_ediv_iff_mul_le hp]
        have := Int.mul_le_mul_of_nonpos_left (Int.le_of_lt h) (show (1 : Int) ≤ 2 ^ sa y by omega)
        omega
      omega
    · have := Int.ediv_nonneg h (Int.le_of_lt hp)
      have := Int.ediv_le_self (2 ^ sa y) h
      omega
  unfold us
  split <;> exact ⟨by omega, by omega⟩
theorem apR_r32 {op x y : Int} (hx : R32 x) (hy : R32 y) : R32 (apR op x y) := by
  unfold apR
  exact ite_r32 (r32_mod _) (ite_r32 (r32_mod _) (ite_r32 (r32_mod _) (ite_r32 (by rw [andI_eq]; exact bits_in _) (ite_r32 (by rw [orI_eq]; exact bits_in _) (ite_r32 (by rw [xorI_eq]; exact bits_in _)
    (ite_r32 (r32_mod _) (ite_r32 (rShr_r32 y hx) (ite_r32 (rSar_r32 y hx) (ite_r32 (ite_r32 r32_1 r32_0) (ite_r32 (ite_r32 r32_0 r32_1) (ite_r32 (ite_r32 r32_1 r32_0) (ite_r32 r32_1 r32_0))))))))))))
theorem rEx_r32 {x w : Int} (hx : R32 x) : R32 (rEx x w) := by
  have h1 := hx.1
  have h2 := hx.2
  unfold rEx rTr
  refine ⟨?_, ?_⟩ <;> split <;> (try split) <;> (try split) <;> (try split) <;> omega
theorem ev_ok (h : EvOk V L) : ∀ e, OkN e → formB e = true → R32 (evR V L e).1 ∧ ((evR V L e).2 ≠ 0 → (evR V L e).1 = 0) := by
  intro e
  induction e using Ex.ind with
  | h e ih =>
    intro hn hf
    have hop := form_op hf
    by_cases h1 : e.op = 1
    · rw [form_con hf h1]
      exact ⟨hn.n, fun h => absurd rfl h⟩
    by_cases h2 : e.op = 2
    · rw [(form_var hf h2).1]
      exact ⟨h.hV _, fun h => absurd rfl h⟩
    by_cases h15 : e.op ≤ 15
    · obtain ⟨he, hx, hy⟩ := two_parts hf (by omega) h15
      have hl : e.l = [e.x, e.y] := by
        have := congrArg Ex.l he
        simpa using this
      obtain ⟨nx, ny⟩ := okN_x hn hf (by omega) h15
      have ix := ih e.x (by rw [hl]; simp) nx hx
      have iy := ih e.y (by rw [hl]; simp) ny hy
      rw [he, ev_two]
      split
      · exact ⟨r32_0, fun _ => rfl⟩
      · split
        · exact ⟨r32_0, fun _ => rfl⟩
        · exact ⟨apR_r32 ix.1 iy.1, fun h => absurd rfl h⟩
    · have hone : ∃ a w, e = .mk e.op 0 0 w [a] ∧ formB a = true := by
        rcases (show e.op = 16 ∨ e.op = 17 ∨ e.op = 18 ∨ e.op = 19 by omega) with ho | ho | ho | ho
        · obtain ⟨a, he, ha⟩ := form_one hf (.inl ho); exact ⟨a, 0, he, ha⟩
        · obtain ⟨a, he, ha⟩ := form_one hf (.inr ho); exact ⟨a, 0, he, ha⟩
        · obtain ⟨a, he, ha, _⟩ := form_wide hf (.inl ho); exact ⟨a, _, he, ha⟩
        · obtain ⟨a, he, ha, _⟩ := form_wide hf (.inr ho); exact ⟨a, _, he, ha⟩
      obtain ⟨a, w, he, ha⟩ := hone
      have hl : e.l = [a] := by
        have := congrArg Ex.l he
        simpa using this
      have ia := ih a (by rw [hl]; simp) (hn.l a (by rw [hl]; simp)) ha
      rw [he]
      simp only [evR]
      split
      · exact ⟨r32_0, fun _ => rfl⟩
      · split
        · refine ⟨?_, fun h => absurd rfl h⟩
          simp only
          split <;> exact ⟨by decide, by decide⟩
        · split
          · exact ⟨r32_mod _, fun h => absurd rfl h⟩
          · split
            · exact ⟨h.hL _ _, h.hZ _ _⟩
            · exact ⟨rEx_r32 ia.1, fun h => absurd rfl h⟩
end
end Go.Proofs.YtjgeicfbgpcopaaGreatDoor

/- Each idiom's replacement has the idiom's value. No program in sight. -/
namespace Go.Proofs.YtjgeicfbgpcopaaGreatDoor
open Go.RowKit
section
variable {V : List Int} {L : Int → Int → Int × Int}
/-- A value with an error is zero. -/
theorem ev_err (h : EvOk V L) {e : Ex} (hn : OkN e) (hf : formB e = true) (he : (evR V L e).2 ≠ 0) : evR V L e = (0, (evR V L e).2) := by
  have := (ev_ok V L h e hn hf).2 he
  rw [← this]
theorem sh_eq {e x : Ex} {op k : Int} (hf : formB e = true) (h3 : 3 ≤ op) (h15 : op ≤ 15) (h : shS e op = some (x, k)) : e = eTwo op x (eCon k) ∧ 1 ≤ k ∧ k ≤ 31 := by
  obtain ⟨h1, h2, h4, h5, rfl, h6⟩ := sh_some h
  obtain ⟨he, _, hy⟩ := two_parts hf (by omega) (by omega)
  have := form_con hy h2
  rw [h6] at this
  rw [this, h1] at he
  exact ⟨he, h4, h5⟩
theorem sa_k {k : Int} (h : 0 ≤ k ∧ k ≤ 31) : sa k = k.toNat := by unfold sa; omega
theorem mul_comm' (a b : Int) : (a * b) % 4294967296 = (b * a) % 4294967296 := by rw [Int.mul_comm]
theorem mul_ev (h : EvOk V L) {e : Ex} (hn : OkN e) (hf : formB e = true) :
    evR V L e = if (evR V L (mulS e).1).2 ≠ 0 then (0, (evR V L (mulS e).1).2) else (((evR V L (mulS e).1).1 * (mulS e).2) % 4294967296, 0) := by
  have self : evR V L e = if (evR V L e).2 ≠ 0 then (0, (evR V L e).2) else (((evR V L e).1 * 1) % 4294967296, 0) := by
    split
    · exact ev_err h hn hf ‹_›
    · rename_i h0
      have := (ev_ok V L h e hn hf).1
      rw [Int.mul_one, Int.emod_eq_of_lt this.1 this.2]
      simp at h0
      rw [← h0]
  unfold mulS
  split
  · rename_i x k hs
    obtain ⟨he, h1, h2⟩ := sh_eq hf (by omega) (by omega) hs
    rw [he, ev_two, ev_con]
    simp only [ne_eq, not_true_eq_false, if_false]
    have : apR 9 (evR V L x).1 k = ((evR V L x).1 * pw k) % 4294967296 := by
      rw [pw_eq ⟨h1, h2⟩]
      simp [apR, rShl, sa_k (show 0 ≤ k ∧ k ≤ 31 by omega)]
    rw [this]
  · split
    · rename_i ho
      obtain ⟨he, hx, hy⟩ := two_parts hf (by omega) (by omega)
      split
      · rename_i hy1
        have hc := form_con hy hy1
        have : evR V L e = evR V L (eTwo 5 e.x (eCon e.y.n)) := by rw [← hc, ← ho, ← he]
        rw [this, ev_two, ev_con]
        simp [apR]
      · split
        · rename_i hx1
          have hc := form_con hx hx1
          have : evR V L e = evR V L (eTwo 5 (eCon e.x.n) e.y) := by rw [← hc, ← ho, ← he]
          rw [this, ev_two, ev_con]
          simp only [ne_eq, not_true_eq_false, if_false]
          have : apR 5 e.x.n (evR V L e.y).1 = ((evR V L e.y).1 * e.x.n) % 4294967296 := by simp [apR]; exact mul_comm' _ _
          rw [this]
        · exact self
    · exact self
theorem by_ev {e x : Ex} {op n : Int} (hf : formB e = true) (ho : op = 3 ∨ op = 8) (hb : byS e op n = some x) : evR V L e = if (evR V L x).2 ≠ 0 then (0, (evR V L x).2) else (apR op (evR V L x).1 n, 0) := by
  have hop : e.op = op := (by_mem hf (by omega) (by omega) hb).2.2.2.2
  obtain ⟨a, b, rfl, ha, hb'⟩ := form_two' hf hop (by omega) (by omega)
  have hc : comB op = true := by rcases ho with rfl | rfl <;> rfl
  have hcom : ∀ p q : Int, apR op p q = apR op q p := fun p q => by
    rcases ho with rfl | rfl
    · simp [apR, Int.add_comm]
    · simp [apR, xorI_comm]
  unfold byS at hb
  rw [show ordS (eTwo op a b) op = [(a, b), (b, a)] by simp [ordS, hc]] at hb
  cases h1 : isB b n
  · cases h2 : isB a n
    · simp [h1, h2] at hb
    · simp [h1, h2] at hb
      subst hb
      obtain ⟨o1, n1⟩ := isB_iff.1 h2
      have := form_con ha o1
      rw [n1] at this
      rw [this, ev_two, ev_con]
      simp only [ne_eq, not_true_eq_false, if_false]
      rw [hcom]
  · simp [h1] at hb
    subst hb
    obtain ⟨o1, n1⟩ := isB_iff.1 h1
    have := form_con hb' o1
    rw [n1] at this
    rw [this, ev_two, ev_con]
    simp
theorem addmul (v c d : Int) : (v * ((c + d) % 4294967296)) % 4294967296 = (v * c + v * d) % 4294967296 := by
  rw [← Int.mul_add, Int.mul_emod v ((c + d) % 4294967296), Int.emod_emod, ← Int.mul_emod]
theorem submul (v c d : Int) : (v * ((c - d) % 4294967296)) % 4294967296 = (v * c - v * d) % 4294967296 := by
  rw [← Int.mul_sub, Int.mul_emod v ((c - d) % 4294967296), Int.emod_emod, ← Int.mul_emod]
theorem sum_ev (h : EvOk V L) {e x : Ex} {op : Int} (hn : OkN e) (hf : formB e = true) (ho : op = 3 ∨ op = 4) (hs : sumS e op = some x) : evR V L x = evR V L e := by
  have hop : e.op = op := by
    unfold sumS at hs
    split at hs
    · rename_i hc; exact hc.1
    · cases hs
  obtain ⟨nx, ny⟩ := okN_x hn hf (by omega) (by omega)
  obtain ⟨a, b, rfl, ha, hb⟩ := form_two' hf hop (by omega) (by omega)
  simp only [x_two, y_two] at nx ny
  have ex := mul_ev h nx ha
  have ey := mul_ev h ny hb
  unfold sumS at hs
  simp only [x_two, y_two, eTwo_op] at hs
  obtain ⟨X, c, hX⟩ : ∃ X c, mulS a = (X, c) := ⟨_, _, rfl⟩
  obtain ⟨Y, d, hY⟩ : ∃ Y d, mulS b = (Y, d) := ⟨_, _, rfl⟩
  rw [hX, hY] at hs
  rw [hX] at ex
  rw [hY] at ey
  simp only at hs ex ey
  split at hs
  case isFalse => cases hs
  rename_i hc
  simp only [Option.some.injEq] at hs
  subst hs
  obtain rfl := sameB_iff.1 hc.2.2.1
  rw [ev_two, ev_two, ev_con]
  by_cases h0 : (evR V L X).2 = 0
  · simp only [h0, ne_eq, not_true_eq_false, if_false] at ex ey ⊢
    rw [ex, ey]
    simp only [not_true_eq_false, if_false, Prod.mk.injEq, and_true]
    rcases ho with rfl | rfl
    · simp [apR, u32e, addmul]
    · simp [apR, u32e, submul]
  · simp only [ne_eq, h0, not_false_eq_true, if_true] at ex ⊢
    rw [ex]
    simp [h0]
theorem neg_ev (h : EvOk V L) {e x : Ex} (hn : OkN e) (hf : formB e = true) (hs : negS e = some x) : evR V L x = evR V L e := by
  unfold negS at hs
  split at hs
  case h_2 => cases hs
  rename_i a ha
  simp only [Option.map_eq_some_iff] at hs
  obtain ⟨b, hb, rfl⟩ := hs
  have fa := (by_mem hf (by omega) (by omega) ha).1
  have na := by_okN hn hf (by omega) (by omega) ha
  have fb := (by_mem fa (by omega) (by omega) hb).1
  have nb := by_okN na fa (by omega) (by omega) hb
  have r := (ev_ok V L h b nb fb).1
  rw [by_ev hf (.inl rfl) ha, by_ev fa (.inr rfl) hb, ev_neg]
  by_cases hX : (evR V L b).2 = 0
  · simp only [hX, ne_eq, not_true_eq_false, if_false, Prod.mk.injEq, and_true]
    have h1 := r.1
    have h2 := r.2
    simp [apR, all32, xorI_all r]
    omega
  · simp [hX]
theorem inv_ev (h : EvOk V L) {e x : Ex} (hn : OkN e) (hf : formB e = true) (hs : invS e = some x) : evR V L x = evR V L e := by
  have key : ∀ c : Ex, OkN c → formB c = true → ∀ e' : Ex, (evR V L e' = if (evR V L c).2 ≠ 0 then (0, (evR V L c).2) else (((-(evR V L c).1) % 4294967296 - 1) % 4294967296, 0)) → evR V L (eTwo 8 c (eCon all32)) = evR V L e' := fun c nc fc e' he' => by
    rw [he', ev_two, ev_con]
    have r := (ev_ok V L h c nc fc).1
    have h1 := r.1
    have h2 := r.2
    by_cases hX : (evR V L c).2 = 0
    · simp [hX, apR, all32, xorI_all r]
      omega
    · simp [hX]
  have hop : e.op = 3 ∨ e.op = 4 := by
    unfold invS at hs
    split at hs
    · rename_i p hp
      exact .inl (ord_mem hf (by omega) (by omega) (List.mem_of_find?_eq_some hp)).2.2.1
    · split at hs
      · rename_i hc; exact .inr hc.1
      · cases hs
  obtain ⟨nx, ny⟩ := okN_x hn hf (by omega) (by omega)
  rcases hop with hop | hop
  · obtain ⟨a, b, rfl, ha, hb⟩ := form_two' hf hop (by omega) (by omega)
    simp only [x_two, y_two] at nx ny
    unfold invS at hs
    rw [show ordS (eTwo 3 a b) 3 = [(a, b), (b, a)] by simp [ordS, comB]] at hs
    have two : ∀ p q : Ex, OkN p → formB p = true → isB q all32 = true → formB q = true → p.op = 17 → ∃ c, p = eOne 17 c ∧ q = eCon all32 ∧ OkN c ∧ formB c = true := fun p q np fp hq fq h17 => by
      have nc := okN_x1 np fp h17
      obtain ⟨c, rfl, fc⟩ := form_one' fp h17
      obtain ⟨o1, n1⟩ := isB_iff.1 hq
      have := form_con fq o1
      rw [n1] at this
      exact ⟨c, rfl, this, nc, fc⟩
    by_cases h1 : isB b all32 = true ∧ a.op = 17
    · obtain ⟨c, rfl, rfl, nc, fc⟩ := two a b nx ha h1.1 hb h1.2
      simp [isB] at hs
      subst hs
      refine key c nc fc _ ?_
      rw [ev_two, ev_neg, ev_con]
      by_cases hX : (evR V L c).2 = 0
      · simp [hX, apR, all32]
        omega
      · simp [hX]
    · by_cases h2 : isB a all32 = true ∧ b.op = 17
      · obtain ⟨c, rfl, rfl, nc, fc⟩ := two b a ny hb h2.1 ha h2.2
        simp [isB] at hs
        subst hs
        refine key c nc fc _ ?_
        rw [ev_two, ev_neg, ev_con]
        by_cases hX : (evR V L c).2 = 0
        · simp [hX, apR, all32]
          omega
        · simp [hX]
      · exfalso
        simp at h1 h2
        cases i1 : isB b all32 <;> cases i2 : isB a all32 <;> simp_all
  · have h3 : ¬ e.op = 3 := by omega
    obtain ⟨a, b, rfl, ha, hb⟩ := form_two' hf hop (by omega) (by omega)
    simp only [x_two, y_two] at nx ny
    unfold invS at hs
    rw [show ordS (eTwo 4 a b) 3 = [] by simp [ordS]] at hs
    simp only [List.find?_nil, y_two, x_two, eTwo_op] at hs
    split at hs
    case isFalse => cases hs
    rename_i hc
    simp only [Option.some.injEq] at hs
    subst hs
    have nc := okN_x1 nx ha hc.2.2
    obtain ⟨c, rfl, fc⟩ := form_one' ha hc.2.2
    obtain ⟨o1, n1⟩ := isB_iff.1 hc.2.1
    have := form_con hb o1
    rw [n1] at this
    subst this
    refine key c nc fc _ ?_
    rw [ev_two, ev_neg, ev_con]
    by_cases hX : (evR V L c).2 = 0
    · simp [hX, apR]
    · simp [hX]
theorem ext_ev (h : EvOk V L) {e x : Ex} {op w : Int} (hn : OkN e) (hf : formB e = true) (ho : op = 10 ∨ op = 11) (hs : extS e op = some (x, w)) :
    OkN x ∧ formB x = true ∧ (w = 1 ∨ w = 2) ∧ evR V L e = if (evR V L x).2 ≠ 0 then (0, (evR V L x).2) else
      (apR op (((evR V L x).1 * (if w = 1 then 16777216 else 65536)) % 4294967296) (if w = 1 then 24 else 16), 0) := by
  have nx := ext_okN hn hf ho hs
  obtain ⟨fx, _, _, _, hw⟩ := ext_some hf ho hs
  refine ⟨nx, fx, hw, ?_⟩
  unfold extS at hs
  split at hs
  case h_2 => cases hs
  rename_i a n ha
  obtain ⟨he, _, _⟩ := sh_eq hf (by omega) (by omega) ha
  have na := sh_okN hn hf (by omega) (by omega) ha
  have fa := (sh_part hf (by omega) (by omega) ha).1
  have ea := mul_ev h na fa
  rw [he, ev_two, ev_con, ea]
  split at hs
  · rename_i hc
    simp only [Option.some.injEq, Prod.mk.injEq] at hs
    obtain ⟨rfl, rfl⟩ := hs
    rw [hc.1, hc.2]
    by_cases hX : (evR V L (mulS a).1).2 = 0 <;> simp [hX]
  · split at hs
    · rename_i hc
      simp only [Option.some.injEq, Prod.mk.injEq] at hs
      obtain ⟨rfl, rfl⟩ := hs
      rw [hc.1, hc.2]
      by_cases hX : (evR V L (mulS a).1).2 = 0 <;> simp [hX]
    · cases hs
theorem sext_val {v w : Int} (hv : R32 v) (hw : w = 1 ∨ w = 2) : apR 11 ((v * (if w = 1 then 16777216 else 65536)) % 4294967296) (if w = 1 then 24 else 16) = rEx v w := by
  have h1 := hv.1
  have h2 := hv.2
  rcases hw with rfl | rfl
  · simp only [if_true]
    have : sa 24 = 24 := rfl
    simp only [apR, rSar, this, rEx, rTr, us, sg]
    simp
    split <;> split <;> split <;> omega
  · simp only [show ((2 : Int) = 1) = False by simp, if_false]
    have : sa 16 = 16 := rfl
    simp only [apR, rSar, this, rEx, rTr, us, sg]
    simp
    split <;> split <;> split <;> omega
theorem zext_val {v w : Int} (hv : R32 v) (hw : w = 1 ∨ w = 2) : apR 10 ((v * (if w = 1 then 16777216 else 65536)) % 4294967296) (if w = 1 then 24 else 16) = andI .u32 v (if w = 1 then 255 else 65535) := by
  have h1 := hv.1
  have h2 := hv.2
  have m8 := mask_eq hv 8 (by omega)
  have m16 := mask_eq hv 16 (by omega)
  rcases hw with rfl | rfl
  · simp only [if_true]
    have : sa 24 = 24 := rfl
    simp at m8
    simp [apR, rShr, this, m8]
    omega
  · simp only [show ((2 : Int) = 1) = False by simp, if_false]
    have : sa 16 = 16 := rfl
    simp at m16
    simp [apR, rShr, this, m16]
    omega
theorem or_neg {v : Int} (hv : R32 v) : orI .u32 v ((-v) % 4294967296) / 2147483648 = if v = 0 then 0 else 1 := by
  have h1 := hv.1
  have h2 := hv.2
  rw [orI_eq, BitVec.toNat_or]
  have a := ofInt_nat hv
  have b := ofInt_nat (r32_mod (-v))
  have l := (BitVec.ofInt 32 v ||| BitVec.ofInt 32 ((-v) % 4294967296)).isLt
  rw [BitVec.toNat_or] at l
  have o1 := @Nat.left_le_or (BitVec.ofInt 32 v).toNat (BitVec.ofInt 32 ((-v) % 4294967296)).toNat
  have o2 := @Nat.right_le_or (BitVec.ofInt 32 v).toNat (BitVec.ofInt 32 ((-v) % 4294967296)).toNat
  by_cases h0 : v = 0
  · subst h0
    simp
  · rw [if_neg h0]
    generalize (BitVec.ofInt 32 v).toNat = p at *
    generalize (BitVec.ofInt 32 ((-v) % 4294967296)).toNat = q at *
    generalize p ||| q = r at *
    omega
theorem orI_comm (a b : Int) : orI .u32 a b = orI .u32 b a := by rw [orI_eq, orI_eq, BitVec.or_comm]
theorem nz_ev (h : EvOk V L) {e x : Ex} (hn : OkN e) (hf : formB e = true) (hs : nzS e = some x) : evR V L x = evR V L e := by
  unfold nzS at hs
  split at hs
  case h_2 => cases hs
  rename_i a ha
  have hsh := hi_some ha
  obtain ⟨he, _, _⟩ := sh_eq hf (by omega) (by omega) hsh
  have na := sh_okN hn hf (by omega) (by omega) hsh
  have fa := (sh_part hf (by omega) (by omega) hsh).1
  simp only [Option.map_eq_some_iff] at hs
  obtain ⟨p, hp, rfl⟩ := hs
  have hq := List.find?_some hp
  simp only [Bool.and_eq_true, decide_eq_true_eq] at hq
  have hm := List.mem_of_find?_eq_some hp
  obtain ⟨n1, n2⟩ := ord_okN na fa (by omega) (by omega) hm
  obtain ⟨f1, f2, hop, _⟩ := ord_mem fa (by omega) (by omega) hm
  obtain ⟨c, hc, _⟩ := form_one' f2 hq.1
  have hcx : c = p.1 := by
    have := sameB_iff.1 hq.2
    rw [hc] at this
    exact this
  subst hcx
  have ea : evR V L a = if (evR V L p.1).2 ≠ 0 then (0, (evR V L p.1).2) else (orI .u32 (evR V L p.1).1 ((-(evR V L p.1).1) % 4294967296), 0) := by
    obtain ⟨q, r, rfl, _, _⟩ := form_two' fa hop (by omega) (by omega)
    rw [show ordS (eTwo 7 q r) 7 = [(q, r), (r, q)] by simp [ordS, comB]] at hm
    simp only [List.mem_cons, List.not_mem_nil, or_false] at hm
    rcases hm with rfl | rfl
    · simp only at hc ⊢
      rw [ev_two, hc, ev_neg]
      by_cases hX : (evR V L q).2 = 0 <;> simp [hX, apR]
    · simp only at hc ⊢
      rw [ev_two, hc, ev_neg]
      by_cases hX : (evR V L r).2 = 0 <;> simp [hX, apR, orI_comm]
  have r := (ev_ok V L h p.1 n1 f1).1
  rw [he, ev_two, ev_two, ev_con, ev_con, ea]
  by_cases hX : (evR V L p.1).2 = 0
  · have s31 : sa 31 = 31 := rfl
    have := or_neg r
    simp [hX, apR, rShr, s31, this]
  · simp [hX]
theorem rest_ev (h : EvOk V L) {e x : Ex} (hn : OkN e) (hf : formB e = true) (hs : restS e = some x) : evR V L x = evR V L e := by
  have hop : e.op = 4 := by
    unfold restS at hs
    split at hs
    · assumption
    · cases hs
  obtain ⟨nx, ny⟩ := okN_x hn hf (by omega) (by omega)
  obtain ⟨a, b, rfl, ha, hb⟩ := form_two' hf hop (by omega) (by omega)
  simp only [x_two, y_two] at nx ny
  have eb := mul_ev h ny hb
  have nb := (mul_okN ny hb).1
  have fb := (mul_part hb).form
  unfold restS at hs
  rw [if_pos (show (eTwo 4 a b).op = 4 from rfl)] at hs
  split at hs
  case h_2 => cases hs
  rename_i z k hz
  split at hs
  case isFalse => cases hs
  rename_i hc
  simp only [Option.some.injEq] at hs
  subst hs
  have hz' : shS (mulS b).1 10 = some (z, k) := hz
  have hc' : (mulS b).2 = pw k ∧ sameB z a = true := hc
  clear hz hc
  obtain ⟨Y, c, hY⟩ : ∃ Y c, mulS b = (Y, c) := ⟨_, _, rfl⟩
  rw [hY] at hz' hc' eb nb fb
  simp only at hz' hc' eb nb fb
  have hz := hz'
  have hc := hc'
  obtain ⟨hYe, k1, k2⟩ := sh_eq fb (by omega) (by omega) hz
  obtain rfl := sameB_iff.1 hc.2
  have r := (ev_ok V L h z nx ha).1
  have hcv := hc.1
  subst hcv
  rw [ev_two, ev_two, ev_con, eb, hYe, ev_two, ev_con]
  by_cases hX : (evR V L z).2 = 0
  · obtain ⟨v, hv⟩ : ∃ v, (evR V L z).1 = v := ⟨_, rfl⟩
    rw [hv] at r ⊢
    have h1 := r.1
    have h2 := r.2
    have hk : sa k = k.toNat := sa_k (by omega)
    have hP : (2 : Int) ^ k.toNat ≤ 2147483648 := by
      have : (2 : Nat) ^ k.toNat ≤ 2 ^ 31 := Nat.pow_le_pow_right (by omega) (by omega)
      have e : ((2 ^ k.toNat : Nat) : Int) = (2 : Int) ^ k.toNat := by simp
      omega
    have hP1 : (1 : Int) ≤ 2 ^ k.toNat := by
      have : (0 : Int) < 2 ^ k.toNat := Int.pow_pos (by omega)
      omega
    have hm := mask_eq r k.toNat (by omega)
    have hd := Int.emod_def v (2 ^ k.toNat)
    have hq0 := Int.ediv_nonneg h1 (show (0 : Int) ≤ 2 ^ k.toNat by omega)
    have hq1 := Int.emod_nonneg v (show (2 : Int) ^ k.toNat ≠ 0 by omega)
    rw [Int.mul_comm] at hd
    have ht : 0 ≤ v / 2 ^ k.toNat * 2 ^ k.toNat := Int.mul_nonneg hq0 (by omega)
    simp only [hX, ne_eq, not_true_eq_false, if_false, apR, u32e, pw_eq ⟨k1, k2⟩, rShr, hk]
    simp
    rw [Int.emod_eq_of_lt (show (0 : Int) ≤ 2 ^ k.toNat - 1 by omega) (by omega), hm]
    generalize v / 2 ^ k.toNat * 2 ^ k.toNat = t at *
    omega
  · simp [hX]
theorem sign_ev (h : EvOk V L) {e x : Ex} (hn : OkN e) (hf : formB e = true) (hs : signS e = some x) : evR V L x = evR V L e := by
  simp only [signS, Option.map_eq_some_iff] at hs
  obtain ⟨a, ha, rfl⟩ := hs
  have hsh := hi_some ha
  obtain ⟨he, _, _⟩ := sh_eq hf (by omega) (by omega) hsh
  have r := (ev_ok V L h a (sh_okN hn hf (by omega) (by omega) hsh) (sh_part hf (by omega) (by omega) hsh).1).1
  rw [he, ev_two, ev_two, ev_con, ev_con]
  by_cases hX : (evR V L a).2 = 0
  · have s31 : sa 31 = 31 := rfl
    have h1 := r.1
    have h2 := r.2
    simp [hX, apR, rShr, s31, sg]
    split <;> split <;> omega
  · simp [hX]
theorem shf_ev {e x : Ex} (hf : formB e = true) (hs : shfS e = some x) : evR V L x = evR V L e := by
  simp only [shfS, Option.map_eq_some_iff, Prod.exists] at hs
  obtain ⟨a, k, ha, rfl⟩ := hs
  obtain ⟨he, k1, k2⟩ := sh_eq hf (by omega) (by omega) ha
  rw [he, ev_two, ev_two, ev_con, ev_con]
  by_cases hX : (evR V L a).2 = 0
  · simp [hX, apR, rShl, sa_k (show 0 ≤ k ∧ k ≤ 31 by omega), pw_eq ⟨k1, k2⟩]
  · simp [hX]
theorem apply_ev (h : EvOk V L) {e x : Ex} (hn : OkN e) (hf : formB e = true) : ∀ i, i < 10 → applyS i e = some x → evR V L x = evR V L e := by
  intro i hi hs
  match i, hi, hs with
  | 0, _, hs => exact sum_ev h hn hf (.inl rfl) hs
  | 1, _, hs => exact sum_ev h hn hf (.inr rfl) hs
  | 2, _, hs => exact neg_ev h hn hf hs
  | 3, _, hs => exact inv_ev h hn hf hs
  | 4, _, hs =>
    simp only [applyS, sgnS, Option.map_eq_some_iff, Prod.exists] at hs
    obtain ⟨y, w, hy, rfl⟩ := hs
    obtain ⟨ny, fy, hw, he⟩ := ext_ev h hn hf (.inr rfl) hy
    rw [he]
    simp only [evR]
    by_cases hX : (evR V L y).2 = 0
    · simp only [hX, ne_eq, not_true_eq_false, if_false]
      rw [sext_val (ev_ok V L h y ny fy).1 hw]
      simp
    · simp [hX]
  | 5, _, hs =>
    simp only [applyS, zerS, Option.map_eq_some_iff, Prod.exists] at hs
    obtain ⟨y, w, hy, rfl⟩ := hs
    obtain ⟨ny, fy, hw, he⟩ := ext_ev h hn hf (.inl rfl) hy
    rw [he, ev_two, ev_con]
    by_cases hX : (evR V L y).2 = 0
    · simp only [hX, ne_eq, not_true_eq_false, if_false]
      rw [zext_val (ev_ok V L h y ny fy).1 hw]
      simp [apR]
    · simp [hX]
  | 6, _, hs => exact nz_ev h hn hf hs
  | 7, _, hs => exact rest_ev h hn hf hs
  | 8, _, hs => exact sign_ev h hn hf hs
  | 9, _, hs => exact shf_ev hf hs
/-- The operands' values make the value. -/
theorem ev_map (e : Ex) (f : Ex → Ex) (hf : ∀ x ∈ e.l, evR V L (f x) = evR V L x) : evR V L (.mk e.op e.n e.v e.wd (e.l.map f)) = evR V L e := by
  obtain ⟨op, n, v, w, l⟩ := e
  match l, hf with
  | [], _ => rfl
  | [a], hf => simp [evR, hf a (by simp)]
  | [a, b], hf => simp [evR, hf a (by simp), hf b (by simp)]
  | a :: b :: c :: l, _ => rfl
/-- THE REWRITTEN EXPRESSION HAS THE VALUE AND THE ERROR OF THE ORIGINAL ONE. -/
theorem rw_ev (h : EvOk V L) : ∀ (k : Nat) (e : Ex), formB e = true → OkN e → e.wt ≤ k → evR V L (rwF k e).1 = evR V L e ∧ OkN (rwF k e).1 := by
  intro k
  induction k with
  | zero => intro e _ _ h; have := wt_pos e; omega
  | succ k ih =>
    intro e hf hn hk
    have hch : ∀ x ∈ e.l, (evR V L (rwF k x).1 = evR V L x ∧ OkN (rwF k x).1) ∧ RwOk x (rwF k x) := fun x hx =>
      ⟨ih x ((form_all hf).2 x hx) (hn.l x hx) (by have := wt_mem hx; omega), rw_ok k x ((form_all hf).2 x hx) (by have := wt_mem hx; omega)⟩
    have hform := form_map (f := fun x => (rwF k x).1) hf fun x hx => (hch x hx).2.form
    have hmeas := map_meas (f := fun x => (rwF k x).1) e.l fun x hx => ⟨(hch x hx).2.wt, (hch x hx).2.nodes, (hch x hx).2.depth⟩
    have hw : (Ex.mk e.op e.n e.v e.wd (e.l.map fun x => (rwF k x).1)).wt ≤ e.wt := by rw [wt_mk, wt_eq e]; omega
    have hval := ev_map (V := V) (L := L) e (fun x => (rwF k x).1) fun x hx => (hch x hx).1.1
    have hok : OkN (.mk e.op e.n e.v e.wd (e.l.map fun x => (rwF k x).1)) := .mk hn.n fun y hy => by
      simp only [Ex.l_mk] at hy
      obtain ⟨z, hz, rfl⟩ := List.mem_map.1 hy
      exact (hch z hz).1.2
    simp only [rwF]
    split
    · rename_i i x hx
      obtain ⟨_, h2, h3, _⟩ := first_some hx
      have hl := apply_less hform i (by omega) h3
      have hr := ih x hl.form (apply_okN hok hform i (by omega) h3) (by have := hl.wt; omega)
      exact ⟨by rw [hr.1, apply_ev h hok hform i (by omega) h3, hval], hr.2⟩
    · exact ⟨hval, hok⟩
end
end Go.Proofs.YtjgeicfbgpcopaaGreatDoor
