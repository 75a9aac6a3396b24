/- The plain law of FlagfuseValues: the comparison's value is what the flags of the subtraction say. No program in sight. -/
import Derived.Test.YtlfkighdmheniaaDoorEb
namespace Go.Proofs.YtlfkighdmheniaaDoor
open Go.RowKit
theorem u32wm (n : Int) : IntKind.u32.wrap n = n % 4294967296 := by simp [IntKind.wrap, IntKind.signed, IntKind.bits]
theorem i32wm (n : Int) : IntKind.i32.wrap n = if 2147483648 ≤ n % 4294967296 then n % 4294967296 - 4294967296 else n % 4294967296 := by simp [IntKind.wrap, IntKind.signed, IntKind.bits]
abbrev bv (x : Int) : BitVec 32 := BitVec.ofInt 32 x
theorem bv_nat (x : BitVec 32) : bv (IntKind.u32.wrap (x.toNat : Int)) = x := by
  have := x.isLt
  rw [u32wm, show ((x.toNat : Int) % 4294967296) = x.toNat by omega]
  simp [bv]
theorem bv_and (a b : Int) : bv (andI .u32 a b) = bv a &&& bv b := bv_nat _
theorem bv_xor (a b : Int) : bv (xorI .u32 a b) = bv a ^^^ bv b := bv_nat _
theorem sgn_bv (x : Int) : sgn x = (bv x).msb := by
  unfold sgn
  have h : andI .u32 x 2147483648 = ((bv x &&& BitVec.twoPow 32 31).toNat : Int) := by
    show IntKind.u32.wrap ((bv x &&& BitVec.twoPow 32 31).toNat : Int) = _
    obtain ⟨m, hm⟩ : ∃ m : BitVec 32, bv x &&& BitVec.twoPow 32 31 = m := ⟨_, rfl⟩
    rw [hm, u32wm]
    have := m.isLt
    omega
  rw [h, BitVec.and_twoPow, BitVec.msb_eq_getLsbD_last]
  cases (bv x).getLsbD 31 <;> simp
theorem sgn_ge {x : Int} (h : 0 ≤ x ∧ x < 4294967296) : sgn x = decide (2147483648 ≤ x) := by
  rw [sgn_bv, BitVec.msb_eq_decide]
  simp only [bv, BitVec.toNat_ofInt]
  congr 1
  simp
  omega
theorem sgn_v (a b d : Int) : sgn (andI .u32 (xorI .u32 a b) (xorI .u32 a d)) = ((sgn a ^^ sgn b) && (sgn a ^^ sgn d)) := by
  simp only [sgn_bv, bv_and, bv_xor, BitVec.msb_and, BitVec.msb_xor]
theorem appI_eq (x y : Int) : appI 12 x y = if x = y then 1 else 0 := rfl
theorem appI_ne (x y : Int) : appI 13 x y = if x = y then 0 else 1 := rfl
theorem appI_lt (x y : Int) : appI 14 x y = if IntKind.i32.wrap x < IntKind.i32.wrap y then 1 else 0 := rfl
theorem appI_ltu (x y : Int) : appI 15 x y = if x < y then 1 else 0 := rfl
theorem appI_sub (x y : Int) : appI 4 x y = IntKind.u32.wrap (x - y) := rfl
theorem appI_xor (x y : Int) : appI 8 x y = xorI .u32 x y := rfl
/-- A bit as a number. -/
def num (b : Bool) : Int := if b then 1 else 0
theorem xor_num (a b : Bool) : xorI .u32 (num a) (num b) = num (a ^^ b) := by cases a <;> cases b <;> decide
theorem no_num (a : Bool) : appI 12 (num a) 0 = num (!a) := by cases a <;> rfl
section
variable {a b : Int} (ha : 0 ≤ a ∧ a < 4294967296) (hb : 0 ≤ b ∧ b < 4294967296)
include ha hb
theorem val_lt : appI 14 a b = num (sgn (IntKind.u32.wrap (a - b)) != sgn (andI .u32 (xorI .u32 a b) (xorI .u32 a (IntKind.u32.wrap (a - b))))) := by
  have hd : 0 ≤ IntKind.u32.wrap (a - b) ∧ IntKind.u32.wrap (a - b) < 4294967296 := by rw [u32wm]; omega
  rw [appI_lt, sgn_v, sgn_ge ha, sgn_ge hb, sgn_ge hd, i32wm, i32wm, u32wm]
  by_cases h1 : 2147483648 ≤ a <;> by_cases h2 : 2147483648 ≤ b <;> by_cases h3 : 2147483648 ≤ (a - b) % 4294967296 <;> simp [num, h1, h2, h3] <;> omega
omit ha hb in
theorem val_neg : appI 14 (IntKind.u32.wrap (a - b)) 0 = num (sgn (IntKind.u32.wrap (a - b))) := by
  have hd : 0 ≤ IntKind.u32.wrap (a - b) ∧ IntKind.u32.wrap (a - b) < 4294967296 := by rw [u32wm]; omega
  rw [appI_lt, sgn_ge hd, i32wm, i32wm, u32wm]
  by_cases h3 : 2147483648 ≤ (a - b) % 4294967296 <;> simp [num, h3] <;> omega
theorem val_z : decide (IntKind.u32.wrap (a - b) = 0) = decide (a = b) := by
  rw [u32wm]
  congr 1
  simp
  omega
/-- The comparison's value, for every condition. -/
theorem cond_val (cc : Int) : Ev (condE cc (eCon a) (eCon b)) (num (holdsI cc (decide (IntKind.u32.wrap (a - b) = 0)) (sgn (IntKind.u32.wrap (a - b))) (decide (a < b)) (sgn (andI .u32 (xorI .u32 a b) (xorI .u32 a (IntKind.u32.wrap (a - b)))))))  := by
  have hlt := val_lt ha hb
  have hneg := val_neg (a := a) (b := b)
  have hz := val_z ha hb
  obtain ⟨n, hn⟩ : ∃ n, sgn (IntKind.u32.wrap (a - b)) = n := ⟨_, rfl⟩
  obtain ⟨v, hv⟩ : ∃ v, sgn (andI .u32 (xorI .u32 a b) (xorI .u32 a (IntKind.u32.wrap (a - b)))) = v := ⟨_, rfl⟩
  rw [hz, hn, hv]
  rw [hn, hv] at hlt
  rw [hn] at hneg
  have E {x : Int} {op : Nat} (h3 : 3 ≤ op) (h15 : op ≤ 15) (h : appI op a b = x) : Ev (eTwo op (eCon a) (eCon b)) x := h ▸ Ev.two h3 h15 (.con a) (.con b)
  have Elt : Ev (eTwo 14 (eCon a) (eCon b)) (num (n != v)) := hlt ▸ Ev.two (op := 14) (by omega) (by omega) (.con a) (.con b)
  have Emin : Ev (eMinus (eCon a) (eCon b)) (num n) := hneg ▸ Ev.two (op := 14) (by omega) (by omega) (Ev.two (op := 4) (by omega) (by omega) (.con a) (.con b)) (.con 0)
  have Eno {e : Ex} {t : Bool} (h : Ev e (num t)) : Ev (eNot e) (num (!t)) := no_num t ▸ Ev.no h
  have Eov : Ev (eOver (eCon a) (eCon b)) (num v) := by
    have := Ev.two (op := 8) (by omega) (by omega) Elt Emin
    rw [appI_xor, xor_num] at this
    have e : ((n != v) ^^ n) = v := by cases n <;> cases v <;> rfl
    rwa [e] at this
  have Egt : Ev (eTwo 14 (eCon b) (eCon a)) (num (!decide (a = b) && !(n != v))) := by
    refine Ev.two (op := 14) (by omega) (by omega) (.con b) (.con a) |> (fun h => ?_)
    have e : appI 14 b a = num (!decide (a = b) && !(n != v)) := by
      have h1 : (n != v) = decide (IntKind.i32.wrap a < IntKind.i32.wrap b) := by
        rw [appI_lt] at hlt
        cases hnv : (n != v) <;> rw [hnv] at hlt <;> by_cases hl : IntKind.i32.wrap a < IntKind.i32.wrap b <;> simp [num, hl] at hlt ⊢
      rw [h1, appI_lt]
      have h2 : IntKind.i32.wrap a = IntKind.i32.wrap b ↔ a = b := by
        rw [i32wm, i32wm]
        omega
      by_cases hab : a = b
      · subst hab
        simp [num]
      · by_cases hl : IntKind.i32.wrap a < IntKind.i32.wrap b
        · simp [num, hab, hl]
          omega
        · have : IntKind.i32.wrap b < IntKind.i32.wrap a := by
            have := mt h2.1 hab
            omega
          simp [num, hab, hl, this]
    exact e ▸ h
  have Eltu : Ev (eTwo 15 (eCon a) (eCon b)) (num (decide (a < b))) := by
    have h := Ev.two (op := 15) (by omega) (by omega) (.con a) (.con b)
    have e : appI 15 a b = num (decide (a < b)) := by by_cases h : a < b <;> simp [appI_ltu, num, h]
    exact e ▸ h
  have Egtu : Ev (eTwo 15 (eCon b) (eCon a)) (num (!decide (a < b) && !decide (a = b))) := by
    have h := Ev.two (op := 15) (by omega) (by omega) (.con b) (.con a)
    have e : appI 15 b a = num (!decide (a < b) && !decide (a = b)) := by
      by_cases h : b < a
      · simp [appI_ltu, num, h, show ¬ a < b by omega, show ¬ a = b by omega]
      · by_cases h2 : a = b
        · simp [appI_ltu, num, h2]
        · simp [appI_ltu, num, h, h2, show a < b by omega]
    exact e ▸ h
  have Eeq : Ev (eTwo 12 (eCon a) (eCon b)) (num (decide (a = b))) := by
    have h := Ev.two (op := 12) (by omega) (by omega) (.con a) (.con b)
    have e : appI 12 a b = num (decide (a = b)) := by by_cases h : a = b <;> simp [appI_eq, num, h]
    exact e ▸ h
  have Ene : Ev (eTwo 13 (eCon a) (eCon b)) (num (!decide (a = b))) := by
    have h := Ev.two (op := 13) (by omega) (by omega) (.con a) (.con b)
    have e : appI 13 a b = num (!decide (a = b)) := by by_cases h : a = b <;> simp [appI_ne, num, h]
    exact e ▸ h
  obtain ⟨z, hz'⟩ : ∃ z, decide (a = b) = z := ⟨_, rfl⟩
  obtain ⟨c, hc'⟩ : ∃ c, decide (a < b) = c := ⟨_, rfl⟩
  rw [hz'] at Egt Egtu Eeq Ene ⊢
  rw [hc'] at Eltu Egtu ⊢
  by_cases hcc : 0 ≤ cc ∧ cc < 15
  · obtain ⟨k, rfl⟩ : ∃ k : Nat, cc = k := ⟨cc.toNat, by omega⟩
    have hk : k < 15 := by omega
    match k, hk with
    | 0, _ => exact Ev.con 1
    | 1, _ => exact Eeq
    | 2, _ => exact Ene
    | 3, _ => exact Elt
    | 4, _ => exact Eno Elt
    | 5, _ =>
      have := Eno Egt
      have e : (!(!z && !(n != v))) = (z || (n != v)) := by cases z <;> cases n <;> cases v <;> rfl
      rw [e] at this
      exact this
    | 6, _ => exact Egt
    | 7, _ => exact Eltu
    | 8, _ => exact Eno Eltu
    | 9, _ =>
      have := Eno Egtu
      have e : (!(!c && !z)) = (c || z) := by cases z <;> cases c <;> rfl
      rw [e] at this
      exact this
    | 10, _ => exact Egtu
    | 11, _ => exact Emin
    | 12, _ => exact Eno Emin
    | 13, _ => exact Eov
    | 14, _ => exact Eno Eov
    | k + 15, h => omega
  · have e1 : condE cc (eCon a) (eCon b) = eCon 0 := by
      unfold condE
      repeat rw [if_neg (by omega)]
    have e2 : holdsI cc z n c v = false := by
      unfold holdsI
      split
      · rw [List.getD, List.getElem?_eq_none (by simp [holdsL]; omega)]
        rfl
      · rfl
    rw [e1, e2]
    exact Ev.con 0
end
end Go.Proofs.YtlfkighdmheniaaDoor
