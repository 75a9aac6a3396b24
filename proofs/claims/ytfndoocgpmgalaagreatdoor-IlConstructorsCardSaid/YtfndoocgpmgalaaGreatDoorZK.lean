/- Texts that the claim leans on, laid one behind the other: Ib, Ic, Ia. -/
import Derived.Test.YtfndoocgpmgalaaGreatDoorZG
set_option linter.unusedSimpArgs false
set_option linter.unusedVariables false
set_option linter.unnecessarySimpa false
/- The values of expressions as plain numbers; what evaluates an idiom's replacement evaluates the idiom. No program in sight. -/
namespace Go.Proofs.YtfndoocgpmgalaaGreatDoor
open Go.RowKit
theorem u32e (n : Int) : IntKind.u32.wrap n = n % 4294967296 := by simp [IntKind.wrap, IntKind.signed, IntKind.bits]
/-- The number as a signed one; and back. -/
def sg (x : Int) : Int := if 2147483648 ≤ x then x - 4294967296 else x
def us (x : Int) : Int := if x < 0 then x + 4294967296 else x
/-- How far a shift goes. -/
def sa (y : Int) : Nat := (y % 32).toNat
def rShl (x y : Int) : Int := (x * 2 ^ sa y) % 4294967296
def rShr (x y : Int) : Int := x / 2 ^ sa y
def rSar (x y : Int) : Int := us (sg x / 2 ^ sa y)
def rTr (x w : Int) : Int := if w = 1 then x % 256 else if w = 2 then x % 65536 else x
def rEx (x w : Int) : Int := if w = 1 ∧ 128 ≤ rTr x w then rTr x w + 4294967040 else if w = 2 ∧ 32768 ≤ rTr x w then rTr x w + 4294901760 else rTr x w
/-- An operator with two operands. -/
def apR (op x y : Int) : Int :=
  if op = 3 then (x + y) % 4294967296 else if op = 4 then (x - y) % 4294967296 else if op = 5 then (x * y) % 4294967296 else
  if op = 6 then andI .u32 x y else if op = 7 then orI .u32 x y else if op = 8 then xorI .u32 x y else
  if op = 9 then rShl x y else if op = 10 then rShr x y else if op = 11 then rSar x y else
  if op = 12 then (if x = y then 1 else 0) else if op = 13 then (if x = y then 0 else 1) else if op = 14 then (if sg x < sg y then 1 else 0) else (if x < y then 1 else 0)
def valR (V : List Int) (v : Int) : Int := if 0 ≤ v then V.getD v.toNat 0 else 0
/-- An expression's value and error. -/
def evR (V : List Int) (L : Int → Int → Int × Int) : Ex → Int × Int
  | .mk op n v _ [] => if op = 1 then (n, 0) else (valR V v, 0)
  | .mk op _ _ w [a] => if (evR V L a).2 ≠ 0 then (0, (evR V L a).2) else
    if op = 16 then (if (evR V L a).1 = 0 then 1 else 0, 0) else if op = 17 then ((-(evR V L a).1) % 4294967296, 0) else if op = 18 then L (evR V L a).1 w else (rEx (evR V L a).1 w, 0)
  | .mk op _ _ _ [a, b] => if (evR V L a).2 ≠ 0 then (0, (evR V L a).2) else if (evR V L b).2 ≠ 0 then (0, (evR V L b).2) else (apR op (evR V L a).1 (evR V L b).1, 0)
  | _ => (0, 0)
/-- A number of 32 bits. -/
def R32 (x : Int) : Prop := 0 ≤ x ∧ x < 4294967296
inductive OkN : Ex → Prop where
  | mk {e : Ex} : R32 e.n → (∀ x ∈ e.l, OkN x) → OkN e
theorem OkN.n {e : Ex} (h : OkN e) : R32 e.n := by cases h; assumption
theorem OkN.l {e : Ex} (h : OkN e) : ∀ x ∈ e.l, OkN x := by cases h; assumption
theorem okN_con {n : Int} (h : R32 n) : OkN (eCon n) := .mk h (by simp)
theorem r32_0 : R32 0 := ⟨by omega, by omega⟩
theorem okN_two {op : Int} {a b : Ex} (ha : OkN a) (hb : OkN b) : OkN (eTwo op a b) := .mk r32_0 (by simp; exact ⟨ha, hb⟩)
theorem okN_one {op : Int} {a : Ex} (ha : OkN a) : OkN (eOne op a) := .mk r32_0 (by simpa using ha)
theorem okN_x {e : Ex} (h : OkN e) (hf : formB e = true) (h3 : 3 ≤ e.op) (h15 : e.op ≤ 15) : OkN e.x ∧ OkN e.y := by
  obtain ⟨he, _, _⟩ := two_parts hf h3 h15
  have hl : e.l = [e.x, e.y] := by
    have := congrArg Ex.l he
    simpa using this
  exact ⟨h.l _ (by rw [hl]; simp), h.l _ (by rw [hl]; simp)⟩
theorem okN_x1 {e : Ex} (h : OkN e) (hf : formB e = true) (ho : e.op = 17) : OkN e.x := by
  obtain ⟨he, _⟩ := one_part hf (.inr ho)
  have hl : e.l = [e.x] := by
    have := congrArg Ex.l he
    simpa using this
  exact h.l _ (by rw [hl]; simp)
theorem r32_mod (n : Int) : R32 (n % 4294967296) := ⟨Int.emod_nonneg _ (by omega), Int.emod_lt_of_pos _ (by omega)⟩
theorem r32_wrap (n : Int) : R32 (IntKind.u32.wrap n) := by rw [u32e]; exact r32_mod n
theorem pw_eq {k : Int} (h : 1 ≤ k ∧ k ≤ 31) : pw k = 2 ^ k.toNat := by
  obtain ⟨m, rfl⟩ : ∃ m : Nat, k = m := ⟨k.toNat, by omega⟩
  have hm : m < 32 := by omega
  have : ∀ m : Nat, m < 32 → pw (m : Int) = (2 : Int) ^ m := by decide +kernel
  simpa using this m hm
theorem pw_r32 {k : Int} (h : 1 ≤ k ∧ k ≤ 31) : R32 (pw k) := r32_wrap _
theorem mul_okN {e : Ex} (h : OkN e) (hf : formB e = true) : OkN (mulS e).1 ∧ R32 (mulS e).2 := by
  unfold mulS
  split
  · rename_i x k hs
    obtain ⟨h1, _, h3, h4, rfl, _⟩ := sh_some hs
    exact ⟨(okN_x h hf (by omega) (by omega)).1, pw_r32 ⟨h3, h4⟩⟩
  · split
    · rename_i ho
      obtain ⟨h1, h2⟩ := okN_x h hf (by omega) (by omega)
      split
      · exact ⟨h1, h2.n⟩
      · split
        · exact ⟨h2, h1.n⟩
        · exact ⟨h, ⟨by simp, by simp⟩⟩
    · exact ⟨h, ⟨by simp, by simp⟩⟩
theorem ord_okN {e : Ex} {op : Int} (h : OkN e) (hf : formB e = true) (h3 : 3 ≤ op) (h15 : op ≤ 15) {p : Ex × Ex} (hp : p ∈ ordS e op) : OkN p.1 ∧ OkN p.2 := by
  unfold ordS at hp
  split at hp
  case isFalse => cases hp
  rename_i hc
  obtain ⟨h1, h2⟩ := okN_x h hf (by omega) (by omega)
  rcases List.mem_cons.1 hp with rfl | hp
  · exact ⟨h1, h2⟩
  · split at hp
    · simp at hp
      subst hp
      exact ⟨h2, h1⟩
    · cases hp
theorem by_okN {e x : Ex} {op n : Int} (h : OkN e) (hf : formB e = true) (h3 : 3 ≤ op) (h15 : op ≤ 15) (hb : byS e op n = some x) : OkN x := by
  unfold byS at hb
  simp only [Option.map_eq_some_iff] at hb
  obtain ⟨p, hp, rfl⟩ := hb
  exact (ord_okN h hf h3 h15 (List.mem_of_find?_eq_some hp)).1
theorem sh_okN {e x : Ex} {op k : Int} (h : OkN e) (hf : formB e = true) (h3 : 3 ≤ op) (h15 : op ≤ 15) (hs : shS e op = some (x, k)) : OkN x := by
  obtain ⟨h1, _, _, _, rfl, _⟩ := sh_some hs
  exact (okN_x h hf (by omega) (by omega)).1
theorem ext_okN {e x : Ex} {op w : Int} (h : OkN e) (hf : formB e = true) (h3 : op = 10 ∨ op = 11) (hs : extS e op = some (x, w)) : OkN x := by
  unfold extS at hs
  split at hs
  case h_2 => cases hs
  rename_i a n ha
  have ha' := sh_okN h hf (by omega) (by omega) ha
  have hm := (mul_okN ha' (sh_part hf (by omega) (by omega) ha).1).1
  split at hs
  · simp only [Option.some.injEq, Prod.mk.injEq] at hs
    obtain ⟨rfl, rfl⟩ := hs
    exact hm
  · split at hs
    · simp only [Option.some.injEq, Prod.mk.injEq] at hs
      obtain ⟨rfl, rfl⟩ := hs
      exact hm
    · cases hs
theorem apply_okN {e x : Ex} (hn : OkN e) (hf : formB e = true) : ∀ i, i < 10 → applyS i e = some x → OkN x := by
  intro i hi h
  have hsum : ∀ op, (op = 3 ∨ op = 4) → sumS e op = some x → OkN x := fun op ho h => by
    unfold sumS at h
    split at h
    case isFalse => cases h
    rename_i hc
    simp only [Option.some.injEq] at h
    subst h
    obtain ⟨_, hx, hy⟩ := two_parts hf (by omega) (by omega)
    refine okN_two (mul_okN (okN_x hn hf (by omega) (by omega)).1 hx).1 (okN_con ?_)
    split <;> exact r32_wrap _
  match i, hi, h with
  | 0, _, h => exact hsum 3 (.inl rfl) h
  | 1, _, h => exact hsum 4 (.inr rfl) h
  | 2, _, h =>
    simp only [applyS, negS] at h
    split at h
    case h_2 => cases h
    rename_i a ha
    simp only [Option.map_eq_some_iff] at h
    obtain ⟨b, hb, rfl⟩ := h
    exact okN_one (by_okN (by_okN hn hf (by omega) (by omega) ha) (by_mem hf (by omega) (by omega) ha).1 (by omega) (by omega) hb)
  | 3, _, h =>
    simp only [applyS, invS] at h
    split at h
    · rename_i p hp
      simp only [Option.some.injEq] at h
      subst h
      have hq := List.find?_some hp
      simp only [Bool.and_eq_true, decide_eq_true_eq] at hq
      have hm := List.mem_of_find?_eq_some hp
      exact okN_two (okN_x1 (ord_okN hn hf (by omega) (by omega) hm).1 (ord_mem hf (by omega) (by omega) hm).1 hq.2) (okN_con ⟨by decide, by decide⟩)
    · split at h
      case isFalse => cases h
      rename_i hc
      simp only [Option.some.injEq] at h
      subst h
      exact okN_two (okN_x1 (okN_x hn hf (by omega) (by omega)).1 (two_parts hf (by omega) (by omega)).2.1 hc.2.2) (okN_con ⟨by decide, by decide⟩)
  | 4, _, h =>
    simp only [applyS, sgnS, Option.map_eq_some_iff, Prod.exists] at h
    obtain ⟨y, w, hy, rfl⟩ := h
    exact .mk r32_0 (by simpa using ext_okN hn hf (.inr rfl) hy)
  | 5, _, h =>
    simp only [applyS, zerS, Option.map_eq_some_iff, Prod.exists] at h
    obtain ⟨y, w, hy, rfl⟩ := h
    refine okN_two (ext_okN hn hf (.inl rfl) hy) (okN_con ?_)
    split <;> exact ⟨by decide, by decide⟩
  | 6, _, h =>
    simp only [applyS, nzS] at h
    split at h
    case h_2 => cases h
    rename_i a ha
    simp only [Option.map_eq_some_iff] at h
    obtain ⟨p, hp, rfl⟩ := h
    have hs := hi_some ha
    exact okN_two (ord_okN (sh_okN hn hf (by omega) (by omega) hs) (sh_part hf (by omega) (by omega) hs).1 (by omega) (by omega) (List.mem_of_find?_eq_some hp)).1 (okN_con r32_0)
  | 7, _, h =>
    simp only [applyS, restS] at h
    split at h
    case isFalse => cases h
    rename_i ho
    split at h
    case h_2 => cases h
    rename_i y k hy
    split at h
    case isFalse => cases h
    simp only [Option.some.injEq] at h
    subst h
    obtain ⟨_, hx', hy'⟩ := two_parts hf (by omega) (by omega)
    exact okN_two (sh_okN (mul_okN (okN_x hn hf (by omega) (by omega)).2 hy').1 (mul_part hy').form (by omega) (by omega) hy) (okN_con (r32_wrap _))
  | 8, _, h =>
    simp only [applyS, signS, Option.map_eq_some_iff] at h
    obtain ⟨y, hy, rfl⟩ := h
    exact okN_two (sh_okN hn hf (by omega) (by omega) (hi_some hy)) (okN_con r32_0)
  | 9, _, h =>
    simp only [applyS, shfS, Option.map_eq_some_iff, Prod.exists] at h
    obtain ⟨y, k, hy, rfl⟩ := h
    obtain ⟨_, _, h3, h4, _⟩ := sh_some hy
    exact okN_two (sh_okN hn hf (by omega) (by omega) hy) (okN_con (pw_r32 ⟨h3, h4⟩))
end Go.Proofs.YtfndoocgpmgalaaGreatDoor

/- What evaluates an idiom's replacement evaluates the idiom. No program in sight. -/
namespace Go.Proofs.YtfndoocgpmgalaaGreatDoor
open Go.RowKit
theorem ofInt_nat {x : Int} (h : R32 x) : ((BitVec.ofInt 32 x).toNat : Int) = x := by
  have := h.1
  have := h.2
  rw [BitVec.toNat_ofInt]
  simp
  omega
theorem bits_r32 (x : BitVec 32) : IntKind.u32.wrap (x.toNat : Int) = x.toNat := by
  have := x.isLt
  rw [u32e]
  omega
theorem andI_eq (a b : Int) : andI .u32 a b = ((BitVec.ofInt 32 a &&& BitVec.ofInt 32 b).toNat : Int) := bits_r32 _
theorem orI_eq (a b : Int) : orI .u32 a b = ((BitVec.ofInt 32 a ||| BitVec.ofInt 32 b).toNat : Int) := bits_r32 _
theorem xorI_eq (a b : Int) : xorI .u32 a b = ((BitVec.ofInt 32 a ^^^ BitVec.ofInt 32 b).toNat : Int) := bits_r32 _
theorem bits_in (x : BitVec 32) : R32 (x.toNat : Int) := by have := x.isLt; exact ⟨by omega, by omega⟩
theorem xorI_comm (a b : Int) : xorI .u32 a b = xorI .u32 b a := by rw [xorI_eq, xorI_eq, BitVec.xor_comm]
theorem xorI_all {a : Int} (h : R32 a) : xorI .u32 a 4294967295 = 4294967295 - a := by
  rw [xorI_eq, show BitVec.ofInt 32 4294967295 = BitVec.allOnes 32 from rfl, BitVec.xor_allOnes, BitVec.toNat_not]
  have := ofInt_nat h
  have := (BitVec.ofInt 32 a).isLt
  omega
theorem mask_eq {a : Int} (h : R32 a) (k : Nat) (hk : k ≤ 31) : andI .u32 a (2 ^ k - 1) = a % 2 ^ k := by
  obtain ⟨n, rfl⟩ : ∃ n : Nat, a = n := ⟨a.toNat, by have := h.1; omega⟩
  have hn : n < 2 ^ 32 := by have := h.2; omega
  have hp : (2 : Nat) ^ k ≤ 2 ^ 31 := Nat.pow_le_pow_right (by omega) hk
  have h1 : (2 : Nat) ^ k - 1 < 2 ^ 32 := by omega
  have hpos : 0 < (2 : Nat) ^ k := Nat.pos_of_ne_zero (by simp)
  have e1 : (2 : Int) ^ k - 1 = ((2 ^ k - 1 : Nat) : Int) := by
    rw [Int.natCast_sub hpos]
    simp
  rw [andI_eq, e1, BitVec.toNat_and]
  have f : ∀ m : Nat, m < 2 ^ 32 → (BitVec.ofInt 32 (m : Int)).toNat = m := fun m hm => by
    rw [BitVec.toNat_ofInt]
    simp
    omega
  rw [f n hn, f _ h1, Nat.and_two_pow_sub_one_eq_mod]
  simp
section
variable (V : List Int) (L : Int → Int → Int × Int)
theorem ev_con (n : Int) : evR V L (eCon n) = (n, 0) := rfl
theorem ev_two (op : Int) (a b : Ex) : evR V L (eTwo op a b) = if (evR V L a).2 ≠ 0 then (0, (evR V L a).2) else if (evR V L b).2 ≠ 0 then (0, (evR V L b).2) else (apR op (evR V L a).1 (evR V L b).1, 0) := rfl
theorem ev_neg (a : Ex) : evR V L (eOne 17 a) = if (evR V L a).2 ≠ 0 then (0, (evR V L a).2) else ((-(evR V L a).1) % 4294967296, 0) := rfl
/-- Variables and loads yield numbers of 32 bits; a load's error comes with zero. -/
structure EvOk : Prop where
  hV : ∀ v, R32 (valR V v)
  hL : ∀ a w, R32 (L a w).1
  hZ : ∀ a w, (L a w).2 ≠ (0 : Int) → (L a w).1 = 0
theorem ite_r32 {p : Prop} [Decidable p] {a b : Int} (ha : R32 a) (hb : R32 b) : R32 (if p then a else b) := by
  split
  · exact ha
  · exact hb
theorem r32_1 : R32 1 := ⟨by omega, by omega⟩
theorem rShr_r32 {x : Int} (y : Int) (hx : R32 x) : R32 (rShr x y) := by
  unfold rShr
  refine ⟨Int.ediv_nonneg hx.1 (Int.le_of_lt (Int.pow_pos (by omega))), ?_⟩
  have := Int.ediv_le_self (2 ^ sa y) hx.1
  have := hx.2
  omega
theorem rSar_r32 {x : Int} (y : Int) (hx : R32 x) : R32 (rSar x y) := by
  unfold rSar
  have hs : -2147483648 ≤ sg x ∧ sg x < 2147483648 := by
    have := hx.1
    have := hx.2
    unfold sg
    split <;> omega
  have hp : (0 : Int) < 2 ^ sa y := Int.pow_pos (by omega)
  have h1 : -2147483648 ≤ sg x / 2 ^ sa y ∧ sg x / 2 ^ sa y < 2147483648 := by
    rcases Int.lt_or_le (sg x) 0 with h | h
    · have h2 := Int.ediv_neg_of_neg_of_pos h hp
      have h3 : sg x ≤ sg x / 2 ^ sa y := by
        rw [Int.le_ediv_iff_mul_le hp]
        have := Int.mul_le_mul_of_nonpos_left (Int.le_of_lt h) (show (1 : Int) ≤ 2 ^ sa y by omega)
        omega
      omega
    · have := Int.ediv_nonneg h (Int.le_of_lt hp)
      have := Int.ediv_le_self (2 ^ sa y) h
      omega
  unfold us
  split <;> exact ⟨by omega, by omega⟩
theorem apR_r32 {op x y : Int} (hx : R32 x) (hy : R32 y) : R32 (apR op x y) := by
  unfold apR
  exact ite_r32 (r32_mod _) (ite_r32 (r32_mod _) (ite_r32 (r32_mod _) (ite_r32 (by rw [andI_eq]; exact bits_in _) (ite_r32 (by rw [orI_eq]; exact bits_in _) (ite_r32 (by rw [xorI_eq]; exact bits_in _)
    (ite_r32 (r32_mod _) (ite_r32 (rShr_r32 y hx) (ite_r32 (rSar_r32 y hx) (ite_r32 (ite_r32 r32_1 r32_0) (ite_r32 (ite_r32 r32_0 r32_1) (ite_r32 (ite_r32 r32_1 r32_0) (ite_r32 r32_1 r32_0))))))))))))
theorem rEx_r32 {x w : Int} (hx : R32 x) : R32 (rEx x w) := by
  have h1 := hx.1
  have h2 := hx.2
  unfold rEx rTr
  refine ⟨?_, ?_⟩ <;> split <;> (try split) <;> (try split) <;> (try split) <;> omega
theorem ev_ok (h : EvOk V L) : ∀ e, OkN e → formB e = true → R32 (evR V L e).1 ∧ ((evR V L e).2 ≠ 0 → (evR V L e).1 = 0) := by
  intro e
  induction e using Ex.ind with
  | h e ih =>
    intro hn hf
    have hop := form_op hf
    by_cases h1 : e.op = 1
    · rw [form_con hf h1]
      exact ⟨hn.n, fun h => absurd rfl h⟩
    by_cases h2 : e.op = 2
    · rw [(form_var hf h2).1]
      exact ⟨h.hV _, fun h => absurd rfl h⟩
    by_cases h15 : e.op ≤ 15
    · obtain ⟨he, hx, hy⟩ := two_parts hf (by omega) h15
      have hl : e.l = [e.x, e.y] := by
        have := congrArg Ex.l he
        simpa using this
      obtain ⟨nx, ny⟩ := okN_x hn hf (by omega) h15
      have ix := ih e.x (by rw [hl]; simp) nx hx
      have iy := ih e.y (by rw [hl]; simp) ny hy
      rw [he, ev_two]
      split
      · exact ⟨r32_0, fun _ => rfl⟩
      · split
        · exact ⟨r32_0, fun _ => rfl⟩
        · exact ⟨apR_r32 ix.1 iy.1, fun h => absurd rfl h⟩
    · have hone : ∃ a w, e = .mk e.op 0 0 w [a] ∧ formB a = true := by
        rcases (show e.op = 16 ∨ e.op = 17 ∨ e.op = 18 ∨ e.op = 19 by omega) with ho | ho | ho | ho
        · obtain ⟨a, he, ha⟩ := form_one hf (.inl ho); exact ⟨a, 0, he, ha⟩
        · obtain ⟨a, he, ha⟩ := form_one hf (.inr ho); exact ⟨a, 0, he, ha⟩
        · obtain ⟨a, he, ha, _⟩ := form_wide hf (.inl ho); exact ⟨a, _, he, ha⟩
        · obtain ⟨a, he, ha, _⟩ := form_wide hf (.inr ho); exact ⟨a, _, he, ha⟩
      obtain ⟨a, w, he, ha⟩ := hone
      have hl : e.l = [a] := by
        have := congrArg Ex.l he
        simpa using this
      have ia := ih a (by rw [hl]; simp) (hn.l a (by rw [hl]; simp)) ha
      rw [he]
      simp only [evR]
      split
      · exact ⟨r32_0, fun _ => rfl⟩
      · split
        · refine ⟨?_, fun h => absurd rfl h⟩
          simp only
          split <;> exact ⟨by decide, by decide⟩
        · split
          · exact ⟨r32_mod _, fun h => absurd rfl h⟩
          · split
            · exact ⟨h.hL _ _, h.hZ _ _⟩
            · exact ⟨rEx_r32 ia.1, fun h => absurd rfl h⟩
end
end Go.Proofs.YtfndoocgpmgalaaGreatDoor

/- Contracts: the reference's arithmetic of layer 1. -/
namespace Go.Proofs.YtfndoocgpmgalaaGreatDoor
open Go.RowKit
theorem r01neg_af (x : Int) : AF Tryz.prog 151 [aI .u32 x] (aB (decide (2147483648 ≤ x))) := by
  refine af_of Tryz.func151 rfl (by kernel_rfl) (by simp [Tryz.ntmps151]) fun _ => ?_; simp [Tryz.f151, Ex.d_eq]
theorem r01num_af (b : Bool) : AF Tryz.prog 112 [aB b] (aI .u32 (if b then 1 else 0)) := by
  refine af_of Tryz.func112 rfl (by kernel_rfl) (by simp [Tryz.ntmps112]) fun _ => ?_; simp [Tryz.f112, Ex.d_eq]
  cases b <;> simp
section
variable {x y : Int} (hx : 0 ≤ x ∧ x < 4294967296) (hy : 0 ≤ y ∧ y < 4294967296)
include hx hy
omit hx in
theorem sa_le : (sa y : Int) = y % 32 ∧ y.tmod 32 = y % 32 := by
  refine ⟨?_, Int.tmod_eq_emod_of_nonneg hy.1⟩
  unfold sa
  omega
theorem r01shl_af : AF Tryz.prog 109 [aI .u32 x, aI .u32 y] (aI .u32 (rShl x y)) := by
  obtain ⟨h1, h2⟩ := sa_le hy
  unfold rShl
  obtain ⟨m, hm⟩ : ∃ m, sa y = m := ⟨_, rfl⟩
  rw [hm] at h1 ⊢
  refine af_of Tryz.func109 rfl (by kernel_rfl) (by simp [Tryz.ntmps109]) fun _ => ?_; simp [Tryz.f109, Ex.d_eq]
  refine aLoop_of (α := Nat) (fun k e A => k ≤ m ∧ A = [] ∧ e 0 = aI .u32 ((x * 2 ^ k) % 4294967296) ∧ e 1 = aI .u32 y ∧ e 5 = aI .u32 k) (fun k => m - k) 0 (Sub.refl _ _ _)
    ⟨by omega, by simp, by simp; omega, by simp, by simp⟩ ?_
  rintro k e A ⟨hk, rfl, e0, e1, e5⟩ K hK
  rcases Nat.lt_or_ge k m with hlt | hge
  case inr =>
    obtain rfl : k = m := by omega
    simp [e0, e1, e5, h2, show ¬ (k : Int) < y % 32 by omega]
  simp [e0, e1, e5, h2, show (k : Int) < y % 32 by omega, u32w (n := (k : Int) + 1) (by omega), u32e]
  refine hK (k + 1) _ _ _ _ (Sub.refl _ _ _) ⟨by omega, rfl, ?_, by simp [e1], by simp⟩ (by omega)
  simp
  rw [Int.pow_succ, ← Int.mul_assoc]
  omega
theorem r01shr_af : AF Tryz.prog 110 [aI .u32 x, aI .u32 y] (aI .u32 (rShr x y)) := by
  obtain ⟨h1, h2⟩ := sa_le hy
  unfold rShr
  obtain ⟨m, hm⟩ : ∃ m, sa y = m := ⟨_, rfl⟩
  rw [hm] at h1 ⊢
  have hr : ∀ k : Nat, 0 ≤ x / 2 ^ k ∧ x / 2 ^ k ≤ x := fun k => ⟨Int.ediv_nonneg hx.1 (by exact Int.le_of_lt (Int.pow_pos (by omega))), Int.ediv_le_self _ hx.1⟩
  refine af_of Tryz.func110 rfl (by kernel_rfl) (by simp [Tryz.ntmps110]) fun _ => ?_; simp [Tryz.f110, Ex.d_eq]
  refine aLoop_of (α := Nat) (fun k e A => k ≤ m ∧ A = [] ∧ e 0 = aI .u32 (x / 2 ^ k) ∧ e 1 = aI .u32 y ∧ e 5 = aI .u32 k) (fun k => m - k) 0 (Sub.refl _ _ _)
    ⟨by omega, by simp, by simp, by simp, by simp⟩ ?_
  rintro k e A ⟨hk, rfl, e0, e1, e5⟩ K hK
  rcases Nat.lt_or_ge k m with hlt | hge
  case inr =>
    obtain rfl : k = m := by omega
    simp [e0, e1, e5, h2, show ¬ (k : Int) < y % 32 by omega]
  have := hr k
  simp [e0, e1, e5, h2, show (k : Int) < y % 32 by omega, u32w (n := (k : Int) + 1) (by omega)]
  refine hK (k + 1) _ _ _ _ (Sub.refl _ _ _) ⟨by omega, rfl, ?_, by simp [e1], by simp⟩ (by omega)
  simp
  rw [Int.tdiv_eq_ediv_of_nonneg this.1, u32w (by omega), Int.pow_succ, Int.ediv_ediv_of_nonneg (Int.le_of_lt (Int.pow_pos (by omega)))]
theorem r01sar_af : AF Tryz.prog 111 [aI .u32 x, aI .u32 y] (aI .u32 (rSar x y)) := by
  obtain ⟨h1, h2⟩ := sa_le hy
  unfold rSar
  obtain ⟨m, hm⟩ : ∃ m, sa y = m := ⟨_, rfl⟩
  rw [hm] at h1 ⊢
  have hs : -2147483648 ≤ sg x ∧ sg x < 2147483648 ∧ (sg x < 0 ↔ 2147483648 ≤ x) := by unfold sg; split <;> omega
  have hq : ∀ k : Nat, (0 ≤ sg x → 0 ≤ sg x / 2 ^ k ∧ sg x / 2 ^ k < 2147483648) ∧ (sg x < 0 → -2147483648 ≤ sg x / 2 ^ k ∧ sg x / 2 ^ k < 0) := fun k => by
    have hp : (0 : Int) < 2 ^ k := Int.pow_pos (by omega)
    refine ⟨fun h => ⟨Int.ediv_nonneg h (Int.le_of_lt hp), ?_⟩, fun h => ⟨?_, Int.ediv_neg_of_neg_of_pos h hp⟩⟩
    · have := Int.ediv_le_self (2 ^ k) h
      omega
    · have : sg x ≤ sg x / 2 ^ k := by
        have h3 : (1 : Int) ≤ 2 ^ k := by omega
        rw [Int.le_ediv_iff_mul_le hp]
        have := Int.mul_le_mul_of_nonpos_left (Int.le_of_lt h) h3
        omega
      omega
  refine af_of Tryz.func111 rfl (by kernel_rfl) (by simp [Tryz.ntmps111]) fun _ => ?_; simp [Tryz.f111, Ex.d_eq]
  refine aCall_of (r01neg_af x) (by simp) (by simp [Ex.d_eq]) ?_; simp [Ex.d_eq]
  have fin : ∀ top : Int, top = (if 2147483648 ≤ x then 2147483648 else 0) → ∀ k : Nat, (us (sg x / 2 ^ k) / 2 + top) % 4294967296 = us (sg x / 2 ^ (k + 1)) := fun top ht k => by
    rw [Int.pow_succ, ← Int.ediv_ediv_of_nonneg (Int.le_of_lt (Int.pow_pos (by omega)))]
    obtain ⟨q1, q2⟩ := hq k
    generalize sg x / 2 ^ k = q at *
    unfold us
    split at ht <;> split <;> split <;> omega
  have loop : ∀ top : Int, top = (if 2147483648 ≤ x then 2147483648 else 0) → ∀ k : Nat, IntKind.u32.wrap (IntKind.u32.wrap ((us (sg x / 2 ^ k)).tdiv 2) + top) = us (sg x / 2 ^ (k + 1)) := fun top ht k => by
    have hu : 0 ≤ us (sg x / 2 ^ k) ∧ us (sg x / 2 ^ k) < 4294967296 := by
      obtain ⟨q1, q2⟩ := hq k
      unfold us
      split <;> omega
    rw [Int.tdiv_eq_ediv_of_nonneg hu.1, u32w (n := us (sg x / 2 ^ k) / 2) (by omega), u32e, fin top ht k]
  have x0 : us (sg x) = x := by unfold us sg; split <;> split <;> omega
  by_cases hn : 2147483648 ≤ x
  · simp [hn]
    refine aLoop_of (α := Nat) (fun k e A => k ≤ m ∧ A = [] ∧ e 0 = aI .u32 (us (sg x / 2 ^ k)) ∧ e 1 = aI .u32 y ∧ e 5 = aI .u32 2147483648 ∧ e 6 = aI .u32 k) (fun k => m - k) 0 (Sub.refl _ _ _)
      ⟨by omega, by simp, by simp [x0], by simp, by simp, by simp⟩ ?_
    rintro k e A ⟨hk, rfl, e0, e1, e5, e6⟩ K hK
    rcases Nat.lt_or_ge k m with hlt | hge
    case inr =>
      obtain rfl : k = m := by omega
      simp [e0, e1, e6, h2, show ¬ (k : Int) < y % 32 by omega]
    simp [e0, e1, e5, e6, h2, show (k : Int) < y % 32 by omega, u32w (n := (k : Int) + 1) (by omega), loop 2147483648 (by rw [if_pos hn])]
    exact hK (k + 1) _ _ _ _ (Sub.refl _ _ _) ⟨by omega, rfl, by simp, by simp [e1], by simp [e5], by simp⟩ (by omega)
  · simp [hn]
    refine aLoop_of (α := Nat) (fun k e A => k ≤ m ∧ A = [] ∧ e 0 = aI .u32 (us (sg x / 2 ^ k)) ∧ e 1 = aI .u32 y ∧ e 5 = aI .u32 0 ∧ e 6 = aI .u32 k) (fun k => m - k) 0 (Sub.refl _ _ _)
      ⟨by omega, by simp, by simp [x0], by simp, by simp, by simp⟩ ?_
    rintro k e A ⟨hk, rfl, e0, e1, e5, e6⟩ K hK
    rcases Nat.lt_or_ge k m with hlt | hge
    case inr =>
      obtain rfl : k = m := by omega
      simp [e0, e1, e6, h2, show ¬ (k : Int) < y % 32 by omega]
    have l0 := loop 0 (by rw [if_neg hn])
    simp only [Int.add_zero] at l0
    simp [e0, e1, e5, e6, h2, show (k : Int) < y % 32 by omega, u32w (n := (k : Int) + 1) (by omega), l0]
    exact hK (k + 1) _ _ _ _ (Sub.refl _ _ _) ⟨by omega, rfl, by simp, by simp [e1], by simp [e5], by simp⟩ (by omega)
omit hy in
theorem r01trunc_af (w : Int) : AF Tryz.prog 108 [aI .u32 x, aI .i64 w] (aI .u32 (rTr x w)) := by
  unfold rTr
  refine af_of Tryz.func108 rfl (by kernel_rfl) (by simp [Tryz.ntmps108]) fun _ => ?_; simp [Tryz.f108, Ex.d_eq]
  by_cases h1 : w = 1
  · simp [h1, Int.tmod_eq_emod_of_nonneg hx.1]
  · by_cases h2 : w = 2
    · simp [h2, Int.tmod_eq_emod_of_nonneg hx.1]
    · simp [h1, h2]
omit hy in
theorem r01ext_af (w : Int) : AF Tryz.prog 57 [aI .u32 x, aI .i64 w] (aI .u32 (rEx x w)) := by
  refine af_of Tryz.func57 rfl (by kernel_rfl) (by simp [Tryz.ntmps57]) fun _ => ?_; simp [Tryz.f57, Ex.d_eq]
  refine aCall_of (r01trunc_af hx w) (by simp) (by simp [Ex.d_eq]) ?_; simp [Ex.d_eq]
  unfold rEx
  have ht : 0 ≤ rTr x w ∧ rTr x w < 4294967296 ∧ (w = 1 → rTr x w < 256) ∧ (w = 2 → rTr x w < 65536) := by unfold rTr; split <;> (try split) <;> omega
  generalize rTr x w = t at *
  by_cases h1 : w = 1
  · by_cases h3 : 128 ≤ t
    · simp [h1, h3, u32e]
      omega
    · simp [h1, h3]
  · by_cases h2 : w = 2
    · by_cases h3 : 32768 ≤ t
      · simp [h2, h3, u32e]
        omega
      · simp [h2, h3]
    · simp [h1, h2]
omit hx hy in
theorem i32wm' (n : Int) : IntKind.i32.wrap n = if 2147483648 ≤ n % 4294967296 then n % 4294967296 - 4294967296 else n % 4294967296 := by simp [IntKind.wrap, IntKind.signed, IntKind.bits]
omit hx hy in
theorem i32_sg (x : Int) (hx : 0 ≤ x ∧ x < 4294967296) : IntKind.i32.wrap x = sg x := by
  rw [i32wm']
  unfold sg
  split <;> split <;> omega
theorem r01apply_af (op : Int) (ho : 3 ≤ op ∧ op ≤ 15) : AF Tryz.prog 58 [aI .i64 op, aI .u32 x, aI .u32 y] (.tup [aI .u32 (apR op x y), aI .i64 0]) := by
  rcases (show op = 3 ∨ op = 4 ∨ op = 5 ∨ op = 6 ∨ op = 7 ∨ op = 8 ∨ op = 9 ∨ op = 10 ∨ op = 11 ∨ op = 12 ∨ op = 13 ∨ op = 14 ∨ op = 15 by omega) with rfl | rfl | rfl | rfl | rfl | rfl | rfl | rfl | rfl | rfl | rfl | rfl | rfl
  · refine af_of Tryz.func58 rfl (by kernel_rfl) (by simp [Tryz.ntmps58]) fun _ => ?_; simp [Tryz.f58, Ex.d_eq]
    simp [apR, u32e]
  · refine af_of Tryz.func58 rfl (by kernel_rfl) (by simp [Tryz.ntmps58]) fun _ => ?_; simp [Tryz.f58, Ex.d_eq]
    simp [apR, u32e]
  · refine af_of Tryz.func58 rfl (by kernel_rfl) (by simp [Tryz.ntmps58]) fun _ => ?_; simp [Tryz.f58, Ex.d_eq]
    simp [apR, u32e]
  · refine af_of Tryz.func58 rfl (by kernel_rfl) (by simp [Tryz.ntmps58]) fun _ => ?_; simp [Tryz.f58, Ex.d_eq]
    simp [apR]
  · refine af_of Tryz.func58 rfl (by kernel_rfl) (by simp [Tryz.ntmps58]) fun _ => ?_; simp [Tryz.f58, Ex.d_eq]
    simp [apR]
  · refine af_of Tryz.func58 rfl (by kernel_rfl) (by simp [Tryz.ntmps58]) fun _ => ?_; simp [Tryz.f58, Ex.d_eq]
    simp [apR]
  · refine af_of Tryz.func58 rfl (by kernel_rfl) (by simp [Tryz.ntmps58]) fun _ => ?_; simp [Tryz.f58, Ex.d_eq]
    refine aCall_of (r01shl_af hx hy) (by simp) (by simp [Ex.d_eq]) ?_; simp [Ex.d_eq]
    simp [apR]
  · refine af_of Tryz.func58 rfl (by kernel_rfl) (by simp [Tryz.ntmps58]) fun _ => ?_; simp [Tryz.f58, Ex.d_eq]
    refine aCall_of (r01shr_af hx hy) (by simp) (by simp [Ex.d_eq]) ?_; simp [Ex.d_eq]
    simp [apR]
  · refine af_of Tryz.func58 rfl (by kernel_rfl) (by simp [Tryz.ntmps58]) fun _ => ?_; simp [Tryz.f58, Ex.d_eq]
    refine aCall_of (r01sar_af hx hy) (by simp) (by simp [Ex.d_eq]) ?_; simp [Ex.d_eq]
    simp [apR]
  · refine af_of Tryz.func58 rfl (by kernel_rfl) (by simp [Tryz.ntmps58]) fun _ => ?_; simp [Tryz.f58, Ex.d_eq]
    refine aCall_of (r01num_af (decide (x = y))) (by simp) (by simp [Ex.d_eq]) ?_; simp [Ex.d_eq]
    simp [apR]
  · refine af_of Tryz.func58 rfl (by kernel_rfl) (by simp [Tryz.ntmps58]) fun _ => ?_; simp [Tryz.f58, Ex.d_eq]
    refine aCall_of (r01num_af (!decide (x = y))) (by simp) (by simp [Ex.d_eq]) ?_; simp [Ex.d_eq]
    simp [apR]
  · refine af_of Tryz.func58 rfl (by kernel_rfl) (by simp [Tryz.ntmps58]) fun _ => ?_; simp [Tryz.f58, Ex.d_eq]
    simp [i32_sg x hx, i32_sg y hy]
    refine aCall_of (r01num_af (decide (sg x < sg y))) (by simp) (by simp [Ex.d_eq]) ?_; simp [Ex.d_eq]
    simp [apR]
  · refine af_of Tryz.func58 rfl (by kernel_rfl) (by simp [Tryz.ntmps58]) fun _ => ?_; simp [Tryz.f58, Ex.d_eq]
    refine aCall_of (r01num_af (decide (x < y))) (by simp) (by simp [Ex.d_eq]) ?_; simp [Ex.d_eq]
    simp [apR]
end
end Go.Proofs.YtfndoocgpmgalaaGreatDoor
