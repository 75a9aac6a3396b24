/- Texts that the claim leans on, laid one behind the other: Ea, Eb, Ec. -/
import Derived.Test.YtjnofkcfogognaaGreatDoorZD
set_option linter.unusedSimpArgs false
set_option linter.unusedVariables false
set_option linter.unnecessarySimpa false
/- Contracts: 32-bit arithmetic with flags. -/
namespace Go.Proofs.YtjnofkcfogognaaGreatDoor
open Go.RowKit
abbrev aU (x : Int) : AV := aI .u32 x
/-- The sign bit. -/
def sgn (x : Int) : Bool := !decide (andI .u32 x 2147483648 = 0)
@[simp] def flagsA (x y : Int) : AV := .agg [aB (decide (IntKind.u32.wrap (x - y) = 0)), aB (sgn (IntKind.u32.wrap (x - y))), aB (decide (x < y)), aB (sgn (andI .u32 (xorI .u32 x y) (xorI .u32 x (IntKind.u32.wrap (x - y)))))]
def shI (y : Int) : Int := andI .u32 y 31
theorem bshl_af (x y : Int) : AF Tryz.prog 281 [aU x, aU y] (aU (shlI .u32 x (shI y))) := by
  refine af_of Tryz.func281 rfl (by kernel_rfl) (by simp [Tryz.ntmps281]) fun _ => ?_
  simp [Tryz.f281, shI]
theorem bshr_af (x y : Int) : AF Tryz.prog 282 [aU x, aU y] (aU (shrI .u32 x (shI y))) := by
  refine af_of Tryz.func282 rfl (by kernel_rfl) (by simp [Tryz.ntmps282]) fun _ => ?_
  simp [Tryz.f282, shI]
theorem bsar_af (x y : Int) : AF Tryz.prog 283 [aU x, aU y] (aU (IntKind.u32.wrap (shrI .i32 (IntKind.i32.wrap x) (shI y)))) := by
  refine af_of Tryz.func283 rfl (by kernel_rfl) (by simp [Tryz.ntmps283]) fun _ => ?_
  simp [Tryz.f283, shI]
theorem btruth_af (b : Bool) : AF Tryz.prog 284 [aB b] (aU (if b then 1 else 0)) := by
  refine af_of Tryz.func284 rfl (by kernel_rfl) (by simp [Tryz.ntmps284]) fun _ => ?_
  simp [Tryz.f284]
  cases b <;> simp
/-- What an operator of two operands computes. -/
def appL (x y : Int) : List Int := [IntKind.u32.wrap (x + y), IntKind.u32.wrap (x - y), IntKind.u32.wrap (x * y), andI .u32 x y, orI .u32 x y, xorI .u32 x y, shlI .u32 x (shI y), shrI .u32 x (shI y), IntKind.u32.wrap (shrI .i32 (IntKind.i32.wrap x) (shI y)),
  if x = y then 1 else 0, if x = y then 0 else 1, if IntKind.i32.wrap x < IntKind.i32.wrap y then 1 else 0, if x < y then 1 else 0]
def appI (op : Nat) (x y : Int) : Int := (appL x y).getD (op - 3) 0
theorem bapply_af (op : Nat) (x y : Int) (h : 3 ≤ op ∧ op ≤ 15) : AF Tryz.prog 278 [aI .i64 op, aU x, aU y] (.tup [aU (appI op x y), aI .i64 0]) := by
  refine af_of Tryz.func278 rfl (by kernel_rfl) (by simp [Tryz.ntmps278]) fun _ => ?_
  simp [Tryz.f278, show ¬ ((op : Int) < 3) by omega, show ¬ (15 < (op : Int)) by omega]
  refine aCall_of (bshl_af x y) (by simp) (by simp) ?_
  simp
  refine aCall_of (bshr_af x y) (by simp) (by simp) ?_
  simp
  refine aCall_of (bsar_af x y) (by simp) (by simp) ?_
  simp
  refine aCall_of (btruth_af (decide (x = y))) (by simp) (by simp) ?_
  simp
  refine aCall_of (btruth_af (!decide (x = y))) (by simp) (by simp) ?_
  simp
  refine aCall_of (btruth_af (decide (IntKind.i32.wrap x < IntKind.i32.wrap y))) (by simp) (by simp) ?_
  simp
  refine aCall_of (btruth_af (decide (x < y))) (by simp) (by simp) ?_
  simp
  obtain rfl | rfl | rfl | rfl | rfl | rfl | rfl | rfl | rfl | rfl | rfl | rfl | rfl : op = 3 ∨ op = 4 ∨ op = 5 ∨ op = 6 ∨ op = 7 ∨ op = 8 ∨ op = 9 ∨ op = 10 ∨ op = 11 ∨ op = 12 ∨ op = 13 ∨ op = 14 ∨ op = 15 := by omega
  all_goals simp [appI, appL]
/-- Whether a condition holds for flags. -/
def holdsL (z n c v : Bool) : List Bool := [true, z, !z, n != v, !(n != v), z || (n != v), !z && !(n != v), c, !c, c || z, !c && !z, n, !n, v, !v]
def holdsI (cc : Int) (z n c v : Bool) : Bool := if 0 ≤ cc then (holdsL z n c v).getD cc.toNat false else false
theorem get_bools (l : List Bool) (k : Nat) (h : k < l.length) : (l.map aB)[k]? = some (aB (l.getD k false)) := by
  rw [List.getElem?_map, List.getElem?_eq_getElem h]
  simp [List.getD, List.getElem?_eq_getElem h]
theorem aSet_of {r : Option AV} {v : AV} {e : AEnv} {d : Option Nat} {K : AKont} {A : AHeap} (h : r = some v) (hk : K (aupd e d v) A) : aSet r e d K A := ⟨v, h, hk⟩
end Go.Proofs.YtjnofkcfogognaaGreatDoor

/- Contracts: ileval's value of an expression without variables and loads; the law FlagfuseValues' parts. -/
namespace Go.Proofs.YtjnofkcfogognaaGreatDoor
open Go.RowKit
/-- The value of an expression of constants. -/
inductive Ev : Ex → Int → Prop
  | con (n : Int) : Ev (eCon n) n
  | no {a : Ex} {x : Int} : Ev a x → Ev (eNot a) (appI 12 x 0)
  | two {op : Nat} {a b : Ex} {x y : Int} : 3 ≤ op → op ≤ 15 → Ev a x → Ev b y → Ev (eTwo op a b) (appI op x y)
abbrev noVars : AV := .fn 270 [.agg [.d (.v (.slice none 0 0))]] []
abbrev noMem : AV := .d (.v (.pointer none))
def ieB (e : Ex) : Blk := ⟨0, true, 38, 5, [[aI .i64 e.op, aI .u32 e.n, aI .i64 e.v, aI .i64 e.wd, .d (.sl 5 (Ex.ds e.l))]]⟩
theorem ieval_gen (e : Ex) (vs : List Int) (hl : e.l.length = vs.length) (h2 : vs.length ≤ 2)
    (hs : ∀ (i : Nat) (x : Ex) (v : Int), e.l[i]? = some x → vs[i]? = some v → AF Tryz.prog 269 [exA x, noVars, noMem] (.tup [aU v, aI .i64 0])) (R : Int)
    (hR : (e.op = 1 ∧ R = e.n) ∨ (e.op = 16 ∧ R = appI 12 (vs.getD 0 0) 0) ∨ ∃ o : Nat, e.op = o ∧ 3 ≤ o ∧ o ≤ 15 ∧ R = appI o (vs.getD 0 0) (vs.getD 1 0)) :
    AF Tryz.prog 269 [exA e, noVars, noMem] (.tup [aU R, aI .i64 0]) := by
  refine af_of Tryz.func269 rfl (by kernel_rfl) (by simp [Tryz.ntmps269]) fun _ => ?_
  obtain ⟨v0, h0⟩ : ∃ x, vs.getD 0 0 = x := ⟨_, rfl⟩
  obtain ⟨v1, h1⟩ : ∃ x, vs.getD 1 0 = x := ⟨_, rfl⟩
  rw [h0, h1] at hR
  simp [Tryz.f269]
  refine aLoop_of (α := Nat) (fun i g A => i ≤ vs.length ∧ A = [ieB e, ⟨0, true, 213, 2, [[aU (if 0 < i then v0 else 0), aU (if 1 < i then v1 else 0)]]⟩] ∧
    g 3 = .ptr 0 0 0 0 ∧ g 8 = .ptr 1 0 0 0 ∧ g 16 = aI .i64 i ∧ g 15 = aI .i64 vs.length ∧ g 14 = .d (.sl 5 (Ex.ds e.l)) ∧ g 1 = noVars ∧ g 2 = noMem) (fun i => vs.length - i) 0 (Sub.refl _ _ _)
    ⟨by omega, by simp [ieB], by simp, by simp, by simp, by simp [hl], by simp, by simp, by simp⟩ ?_
  rintro i g A ⟨hi, rfl, e3, e8, e16, e15, e14, e1, e2⟩ K hK
  simp [e16, e15]
  refine aCond_split (fun h => ?_) (fun h => ?_)
  · simp at h
    obtain ⟨x, hx⟩ : ∃ x, e.l[i]? = some x := ⟨_, List.getElem?_eq_getElem (by omega)⟩
    obtain ⟨v, hv⟩ : ∃ v, vs[i]? = some v := ⟨_, List.getElem?_eq_getElem (by omega)⟩
    have hx' := (List.getElem?_eq_some_iff.1 hx).2
    have hvd : vs.getD i 0 = v := by simp [List.getD, hv]
    simp [e3, e8, e16, e15, e14, e1, e2, hx, Ex.d_eq]
    refine aCall_of (hs i x v hx hv) (by simp) (by simp) ?_
    simp [e16]
    obtain rfl | rfl : i = 0 ∨ i = 1 := by omega
    · obtain rfl : v0 = v := h0.symm.trans hvd
      simp [e8, e16]
      refine hK 1 _ _ _ _ (Sub.take 2 (by omega)) ⟨by omega, by simp [ieB], by simp [e3], by simp [e8], by simp, by simp [e15], by simp [e14], by simp [e1], by simp [e2]⟩ (by omega)
    · obtain rfl : v1 = v := h1.symm.trans hvd
      simp [e8, e16]
      refine hK 2 _ _ _ _ (Sub.take 2 (by omega)) ⟨by omega, by simp [ieB], by simp [e3], by simp [e8], by simp, by simp [e15], by simp [e14], by simp [e1], by simp [e2]⟩ (by omega)
  · simp at h
    obtain rfl : i = vs.length := by omega
    have g0 : (if 0 < vs.length then v0 else 0) = v0 := by
      split
      · rfl
      · rw [← h0, List.getD, List.getElem?_eq_none (by omega)]; rfl
    have g1 : (if 1 < vs.length then v1 else 0) = v1 := by
      split
      · rfl
      · rw [← h1, List.getD, List.getElem?_eq_none (by omega)]; rfl
    simp [g0, g1]
    rcases hR with ⟨ho, rfl⟩ | ⟨ho, rfl⟩ | ⟨o, ho, h3, h15, rfl⟩
    · simp [e3, ieB, ho]
    · simp [e3, e8, ieB, ho]
      refine aCall_of (bapply_af 12 v0 0 (by omega)) (by simp) (by simp) ?_
      simp
    · simp [e3, e8, ieB, ho, show ¬ ((o : Int) = 1) by omega, show ¬ ((o : Int) = 2) by omega, show ¬ ((o : Int) = 16) by omega, show ¬ ((o : Int) = 17) by omega, show ¬ ((o : Int) = 18) by omega, show ¬ ((o : Int) = 19) by omega]
      refine aCall_of (bapply_af o v0 v1 ⟨h3, h15⟩) (by simp) (by simp) ?_
      simp
theorem ieval_af {e : Ex} {x : Int} (h : Ev e x) : AF Tryz.prog 269 [exA e, noVars, noMem] (.tup [aU x, aI .i64 0]) := by
  induction h with
  | con n => exact ieval_gen (eCon n) [] rfl (by simp) (by simp) n (.inl ⟨rfl, rfl⟩)
  | @no a x _ ih =>
    refine ieval_gen (eNot a) [x] rfl (by simp) ?_ _ (.inr (.inl ⟨rfl, rfl⟩))
    intro i y v hy hv
    cases i with
    | zero => cases hy; cases hv; exact ih
    | succ i => simp at hv
  | @two op a b x y h3 h15 _ _ iha ihb =>
    refine ieval_gen (eTwo op a b) [x, y] rfl (by simp) ?_ _ (.inr (.inr ⟨op, rfl, h3, h15, rfl⟩))
    intro i z v hz hv
    match i with
    | 0 => cases hz; cases hv; exact iha
    | 1 => cases hz; cases hv; exact ihb
    | i + 2 => simp at hv
end Go.Proofs.YtjnofkcfogognaaGreatDoor

/- The plain law of FlagfuseValues: the comparison's value is what the flags of the subtraction say. No program in sight. -/
namespace Go.Proofs.YtjnofkcfogognaaGreatDoor
open Go.RowKit
theorem u32wm (n : Int) : IntKind.u32.wrap n = n % 4294967296 := by simp [IntKind.wrap, IntKind.signed, IntKind.bits]
theorem i32wm (n : Int) : IntKind.i32.wrap n = if 2147483648 ≤ n % 4294967296 then n % 4294967296 - 4294967296 else n % 4294967296 := by simp [IntKind.wrap, IntKind.signed, IntKind.bits]
abbrev bv (x : Int) : BitVec 32 := BitVec.ofInt 32 x
theorem bv_nat (x : BitVec 32) : bv (IntKind.u32.wrap (x.toNat : Int)) = x := by
  have := x.isLt
  rw [u32wm, show ((x.toNat : Int) % 4294967296) = x.toNat by omega]
  simp [bv]
theorem bv_and (a b : Int) : bv (andI .u32 a b) = bv a &&& bv b := bv_nat _
theorem bv_xor (a b : Int) : bv (xorI .u32 a b) = bv a ^^^ bv b := bv_nat _
theorem sgn_bv (x : Int) : sgn x = (bv x).msb := by
  unfold sgn
  have h : andI .u32 x 2147483648 = ((bv x &&& BitVec.twoPow 32 31).toNat : Int) := by
    show IntKind.u32.wrap ((bv x &&& BitVec.twoPow 32 31).toNat : Int) = _
    obtain ⟨m, hm⟩ : ∃ m : BitVec 32, bv x &&& BitVec.twoPow 32 31 = m := ⟨_, rfl⟩
    rw [hm, u32wm]
    have := m.isLt
    omega
  rw [h, BitVec.and_twoPow, BitVec.msb_eq_getLsbD_last]
  cases (bv x).getLsbD 31 <;> simp
theorem sgn_ge {x : Int} (h : 0 ≤ x ∧ x < 4294967296) : sgn x = decide (2147483648 ≤ x) := by
  rw [sgn_bv, BitVec.msb_eq_decide]
  simp only [bv, BitVec.toNat_ofInt]
  congr 1
  simp
  omega
theorem sgn_v (a b d : Int) : sgn (andI .u32 (xorI .u32 a b) (xorI .u32 a d)) = ((sgn a ^^ sgn b) && (sgn a ^^ sgn d)) := by
  simp only [sgn_bv, bv_and, bv_xor, BitVec.msb_and, BitVec.msb_xor]
theorem appI_eq (x y : Int) : appI 12 x y = if x = y then 1 else 0 := rfl
theorem appI_ne (x y : Int) : appI 13 x y = if x = y then 0 else 1 := rfl
theorem appI_lt (x y : Int) : appI 14 x y = if IntKind.i32.wrap x < IntKind.i32.wrap y then 1 else 0 := rfl
theorem appI_ltu (x y : Int) : appI 15 x y = if x < y then 1 else 0 := rfl
theorem appI_sub (x y : Int) : appI 4 x y = IntKind.u32.wrap (x - y) := rfl
theorem appI_xor (x y : Int) : appI 8 x y = xorI .u32 x y := rfl
/-- A bit as a number. -/
def num (b : Bool) : Int := if b then 1 else 0
theorem xor_num (a b : Bool) : xorI .u32 (num a) (num b) = num (a ^^ b) := by cases a <;> cases b <;> decide
theorem no_num (a : Bool) : appI 12 (num a) 0 = num (!a) := by cases a <;> rfl
section
variable {a b : Int} (ha : 0 ≤ a ∧ a < 4294967296) (hb : 0 ≤ b ∧ b < 4294967296)
include ha hb
theorem val_lt : appI 14 a b = num (sgn (IntKind.u32.wrap (a - b)) != sgn (andI .u32 (xorI .u32 a b) (xorI .u32 a (IntKind.u32.wrap (a - b))))) := by
  have hd : 0 ≤ IntKind.u32.wrap (a - b) ∧ IntKind.u32.wrap (a - b) < 4294967296 := by rw [u32wm]; omega
  rw [appI_lt, sgn_v, sgn_ge ha, sgn_ge hb, sgn_ge hd, i32wm, i32wm, u32wm]
  by_cases h1 : 2147483648 ≤ a <;> by_cases h2 : 2147483648 ≤ b <;> by_cases h3 : 2147483648 ≤ (a - b) % 4294967296 <;> simp [num, h1, h2, h3] <;> omega
omit ha hb in
theorem val_neg : appI 14 (IntKind.u32.wrap (a - b)) 0 = num (sgn (IntKind.u32.wrap (a - b))) := by
  have hd : 0 ≤ IntKind.u32.wrap (a - b) ∧ IntKind.u32.wrap (a - b) < 4294967296 := by rw [u32wm]; omega
  rw [appI_lt, sgn_ge hd, i32wm, i32wm, u32wm]
  by_cases h3 : 2147483648 ≤ (a - b) % 4294967296 <;> simp [num, h3] <;> omega
theorem val_z : decide (IntKind.u32.wrap (a - b) = 0) = decide (a = b) := by
  rw [u32wm]
  congr 1
  simp
  omega
/-- The comparison's value, for every condition. -/
theorem cond_val (cc : Int) : Ev (condE cc (eCon a) (eCon b)) (num (holdsI cc (decide (IntKind.u32.wrap (a - b) = 0)) (sgn (IntKind.u32.wrap (a - b))) (decide (a < b)) (sgn (andI .u32 (xorI .u32 a b) (xorI .u32 a (IntKind.u32.wrap (a - b)))))))  := by
  have hlt := val_lt ha hb
  have hneg := val_neg (a := a) (b := b)
  have hz := val_z ha hb
  obtain ⟨n, hn⟩ : ∃ n, sgn (IntKind.u32.wrap (a - b)) = n := ⟨_, rfl⟩
  obtain ⟨v, hv⟩ : ∃ v, sgn (andI .u32 (xorI .u32 a b) (xorI .u32 a (IntKind.u32.wrap (a - b)))) = v := ⟨_, rfl⟩
  rw [hz, hn, hv]
  rw [hn, hv] at hlt
  rw [hn] at hneg
  have E {x : Int} {op : Nat} (h3 : 3 ≤ op) (h15 : op ≤ 15) (h : appI op a b = x) : Ev (eTwo op (eCon a) (eCon b)) x := h ▸ Ev.two h3 h15 (.con a) (.con b)
  have Elt : Ev (eTwo 14 (eCon a) (eCon b)) (num (n != v)) := hlt ▸ Ev.two (op := 14) (by omega) (by omega) (.con a) (.con b)
  have Emin : Ev (eMinus (eCon a) (eCon b)) (num n) := hneg ▸ Ev.two (op := 14) (by omega) (by omega) (Ev.two (op := 4) (by omega) (by omega) (.con a) (.con b)) (.con 0)
  have Eno {e : Ex} {t : Bool} (h : Ev e (num t)) : Ev (eNot e) (num (!t)) := no_num t ▸ Ev.no h
  have Eov : Ev (eOver (eCon a) (eCon b)) (num v) := by
    have := Ev.two (op := 8) (by omega) (by omega) Elt Emin
    rw [appI_xor, xor_num] at this
    have e : ((n != v) ^^ n) = v := by cases n <;> cases v <;> rfl
    rwa [e] at this
  have Egt : Ev (eTwo 14 (eCon b) (eCon a)) (num (!decide (a = b) && !(n != v))) := by
    refine Ev.two (op := 14) (by omega) (by omega) (.con b) (.con a) |> (fun h => ?_)
    have e : appI 14 b a = num (!decide (a = b) && !(n != v)) := by
      have h1 : (n != v) = decide (IntKind.i32.wrap a < IntKind.i32.wrap b) := by
        rw [appI_lt] at hlt
        cases hnv : (n != v) <;> rw [hnv] at hlt <;> by_cases hl : IntKind.i32.wrap a < IntKind.i32.wrap b <;> simp [num, hl] at hlt ⊢
      rw [h1, appI_lt]
      have h2 : IntKind.i32.wrap a = IntKind.i32.wrap b ↔ a = b := by
        rw [i32wm, i32wm]
        omega
      by_cases hab : a = b
      · subst hab
        simp [num]
      · by_cases hl : IntKind.i32.wrap a < IntKind.i32.wrap b
        · simp [num, hab, hl]
          omega
        · have : IntKind.i32.wrap b < IntKind.i32.wrap a := by
            have := mt h2.1 hab
            omega
          simp [num, hab, hl, this]
    exact e ▸ h
  have Eltu : Ev (eTwo 15 (eCon a) (eCon b)) (num (decide (a < b))) := by
    have h := Ev.two (op := 15) (by omega) (by omega) (.con a) (.con b)
    have e : appI 15 a b = num (decide (a < b)) := by by_cases h : a < b <;> simp [appI_ltu, num, h]
    exact e ▸ h
  have Egtu : Ev (eTwo 15 (eCon b) (eCon a)) (num (!decide (a < b) && !decide (a = b))) := by
    have h := Ev.two (op := 15) (by omega) (by omega) (.con b) (.con a)
    have e : appI 15 b a = num (!decide (a < b) && !decide (a = b)) := by
      by_cases h : b < a
      · simp [appI_ltu, num, h, show ¬ a < b by omega, show ¬ a = b by omega]
      · by_cases h2 : a = b
        · simp [appI_ltu, num, h2]
        · simp [appI_ltu, num, h, h2, show a < b by omega]
    exact e ▸ h
  have Eeq : Ev (eTwo 12 (eCon a) (eCon b)) (num (decide (a = b))) := by
    have h := Ev.two (op := 12) (by omega) (by omega) (.con a) (.con b)
    have e : appI 12 a b = num (decide (a = b)) := by by_cases h : a = b <;> simp [appI_eq, num, h]
    exact e ▸ h
  have Ene : Ev (eTwo 13 (eCon a) (eCon b)) (num (!decide (a = b))) := by
    have h := Ev.two (op := 13) (by omega) (by omega) (.con a) (.con b)
    have e : appI 13 a b = num (!decide (a = b)) := by by_cases h : a = b <;> simp [appI_ne, num, h]
    exact e ▸ h
  obtain ⟨z, hz'⟩ : ∃ z, decide (a = b) = z := ⟨_, rfl⟩
  obtain ⟨c, hc'⟩ : ∃ c, decide (a < b) = c := ⟨_, rfl⟩
  rw [hz'] at Egt Egtu Eeq Ene ⊢
  rw [hc'] at Eltu Egtu ⊢
  by_cases hcc : 0 ≤ cc ∧ cc < 15
  · obtain ⟨k, rfl⟩ : ∃ k : Nat, cc = k := ⟨cc.toNat, by omega⟩
    have hk : k < 15 := by omega
    match k, hk with
    | 0, _ => exact Ev.con 1
    | 1, _ => exact Eeq
    | 2, _ => exact Ene
    | 3, _ => exact Elt
    | 4, _ => exact Eno Elt
    | 5, _ =>
      have := Eno Egt
      have e : (!(!z && !(n != v))) = (z || (n != v)) := by cases z <;> cases n <;> cases v <;> rfl
      rw [e] at this
      exact this
    | 6, _ => exact Egt
    | 7, _ => exact Eltu
    | 8, _ => exact Eno Eltu
    | 9, _ =>
      have := Eno Egtu
      have e : (!(!c && !z)) = (c || z) := by cases z <;> cases c <;> rfl
      rw [e] at this
      exact this
    | 10, _ => exact Egtu
    | 11, _ => exact Emin
    | 12, _ => exact Eno Emin
    | 13, _ => exact Eov
    | 14, _ => exact Eno Eov
    | k + 15, h => omega
  · have e1 : condE cc (eCon a) (eCon b) = eCon 0 := by
      unfold condE
      repeat rw [if_neg (by omega)]
    have e2 : holdsI cc z n c v = false := by
      unfold holdsI
      split
      · rw [List.getD, List.getElem?_eq_none (by simp [holdsL]; omega)]
        rfl
      · rfl
    rw [e1, e2]
    exact Ev.con 0
end
end Go.Proofs.YtjnofkcfogognaaGreatDoor
