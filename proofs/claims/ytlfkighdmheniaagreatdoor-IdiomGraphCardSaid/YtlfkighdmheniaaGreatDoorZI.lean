/- Texts that the claim leans on, laid one behind the other: Hh, Hi, Hj, Hk, Hl, Hm. -/
import Derived.Test.YtlfkighdmheniaaGreatDoorZH
set_option linter.unusedSimpArgs false
set_option linter.unusedVariables false
set_option linter.unnecessarySimpa false
/- Contracts: the reference's idioms. -/
namespace Go.Proofs.YtlfkighdmheniaaGreatDoor
open Go.RowKit
/-- The reference's multiple. -/
abbrev mA (p : Ex × Int) : AV := .agg [aI .i64 p.1.op, aI .u32 p.1.n, aI .i64 p.1.v, aI .i64 p.1.wd, .d (.sl 5 (Ex.ds p.1.l)), aI .u32 p.2]
theorem rmultiple_af (e : Ex) (hf : formB e = true) : AF Tryz.prog 108 [exA e] (mA (mulS e)) := by
  by_cases h9 : e.op = 9
  · obtain ⟨a, b, rfl, ha, hb⟩ := form_two' hf h9 (by omega) (by omega)
    refine af_of Tryz.func108 rfl (by kernel_rfl) (by simp [Tryz.ntmps108]) fun _ => ?_; simp [Tryz.f108, Ex.d_eq]
    by_cases h1 : b.op = 1
    case neg => simp [h1, mulS, shS, Ex.d_eq]
    by_cases h2 : 1 ≤ b.n
    case neg => simp [h1, h2, mulS, shS, Ex.d_eq]
    by_cases h3 : b.n ≤ 31
    case neg => simp [h1, h2, h3, mulS, shS, Ex.d_eq]
    simp [h1, h2, h3]
    refine adraw [] (by kernel_rfl) (by kernel_rfl) (by kernel_rfl) (by kernel_rfl) ?_; simp [Ex.d_eq]
    simp [show 0 ≤ b.n by omega, mulS, shS, h1, h2, h3, pw]
  by_cases h5 : e.op = 5
  · obtain ⟨a, b, rfl, ha, hb⟩ := form_two' hf h5 (by omega) (by omega)
    refine af_of Tryz.func108 rfl (by kernel_rfl) (by simp [Tryz.ntmps108]) fun _ => ?_; simp [Tryz.f108, Ex.d_eq]
    by_cases h1 : b.op = 1
    · simp [h1]
      refine adraw [] (by kernel_rfl) (by kernel_rfl) (by kernel_rfl) (by kernel_rfl) ?_; simp [Ex.d_eq]
      simp [mulS, shS, h1]
    · simp [h1, Ex.d_eq]
      by_cases h2 : a.op = 1
      · simp [h2, Ex.d_eq]
        refine adraw [] (by kernel_rfl) (by kernel_rfl) (by kernel_rfl) (by kernel_rfl) ?_; simp [Ex.d_eq]
        simp [mulS, shS, h1, h2]
      · simp [h1, h2, mulS, shS, Ex.d_eq]
  · refine af_of Tryz.func108 rfl (by kernel_rfl) (by simp [Tryz.ntmps108]) fun _ => ?_; simp [Tryz.f108, Ex.d_eq]
    simp [h9, h5, mulS, shS]
theorem risconst_af (e : Ex) (n : Int) : AF Tryz.prog 111 [exA e, aI .u32 n] (aB (isB e n)) := by
  refine af_of Tryz.func111 rfl (by kernel_rfl) (by simp [Tryz.ntmps111]) fun _ => ?_; simp [Tryz.f111, Ex.d_eq]
  refine aG_split (fun g1 => ?_) (fun g1 => by simp at g1; simp [isB, g1])
  simp at g1
  simp [isB, g1]
theorem rproduct_af (x : Ex) (n : Int) : AF Tryz.prog 109 [exA x, aI .u32 n] (exA (eTwo 5 x (eCon n))) := by
  refine af_of Tryz.func109 rfl (by kernel_rfl) (by simp [Tryz.ntmps109]) fun _ => ?_; simp [Tryz.f109, Ex.d_eq]
  refine adraw [] (by kernel_rfl) (by kernel_rfl) (by kernel_rfl) (by kernel_rfl) ?_; simp [Ex.d_eq]
  refine adC_of (r19const_af n) (by simp) trivial (by simp) (by simp [Ex.d_eq]) ?_; simp [Ex.d_eq]
  refine adC_of (r19two_af 5 x (eCon n)) (by simp) trivial (by simp) (by simp [Ex.d_eq]) ?_; simp [Ex.d_eq]
theorem rother_af (e : Ex) (op n : Int) (hf : formB e = true) (ho : op = 3 ∨ op = 8) : AF Tryz.prog 110 [exA e, aI .i64 op, aI .u32 n] (oA e (byS e op n)) := by
  by_cases h : e.op = op
  case neg =>
    refine af_of Tryz.func110 rfl (by kernel_rfl) (by simp [Tryz.ntmps110]) fun _ => ?_; simp [Tryz.f110, Ex.d_eq]
    simp [h, byS, ord_not h]
  obtain ⟨a, b, rfl, ha, hb⟩ := form_two' hf h (by omega) (by omega)
  have hc : comB op = true := by rcases ho with rfl | rfl <;> rfl
  unfold byS
  rw [ord_two, hc]
  refine af_of Tryz.func110 rfl (by kernel_rfl) (by simp [Tryz.ntmps110]) fun _ => ?_; simp [Tryz.f110, Ex.d_eq]
  refine aCall_of (risconst_af b n) (by simp) (by simp [Ex.d_eq]) ?_; simp [Ex.d_eq]
  cases h1 : isB b n
  · simp [h1, Ex.d_eq]
    refine aCall_of (risconst_af a n) (by simp) (by simp [Ex.d_eq]) ?_; simp [Ex.d_eq]
    cases h2 : isB a n <;> simp [h1, h2, Ex.d_eq]
  · simp [h1, Ex.d_eq]
theorem risneg_af (e x : Ex) (hf : formB e = true) : AF Tryz.prog 112 [exA e, exA x] (aB (decide (e.op = 17) && sameB e.x x)) := by
  by_cases h : e.op = 17
  case neg =>
    refine af_of Tryz.func112 rfl (by kernel_rfl) (by simp [Tryz.ntmps112]) fun _ => ?_; simp [Tryz.f112, Ex.d_eq]
    refine adraw [] (by kernel_rfl) (by kernel_rfl) (by kernel_rfl) (by kernel_rfl) ?_; simp [Ex.d_eq]
    simp [h]
  obtain ⟨a, rfl, ha⟩ := form_one' hf h
  refine af_of Tryz.func112 rfl (by kernel_rfl) (by simp [Tryz.ntmps112]) fun _ => ?_; simp [Tryz.f112, Ex.d_eq]
  refine adraw [] (by kernel_rfl) (by kernel_rfl) (by kernel_rfl) (by kernel_rfl) ?_; simp [Ex.d_eq]
  refine adC_of (refsame_af a x) (by simp) trivial (by simp) (by simp [Ex.d_eq]) ?_; simp [Ex.d_eq]
/-- A name and an expression. -/
abbrev nA (s : ByteArray) (x : Ex) : AV := .tup [aS s, exA x]
def nxS (l : List (Nat × Option Ex)) (e : Ex) : AV := match l with
  | [] => nA ⟨#[]⟩ e
  | (i, some x) :: _ => nA (nm i) x
  | (_, none) :: l => nxS l e
@[simp] theorem nxS_nil (e : Ex) : nxS [] e = nA ⟨#[]⟩ e := rfl
@[simp] theorem nxS_some (i : Nat) (x e : Ex) (l : List (Nat × Option Ex)) : nxS ((i, some x) :: l) e = nA (nm i) x := rfl
@[simp] theorem nxS_none (i : Nat) (e : Ex) (l : List (Nat × Option Ex)) : nxS ((i, none) :: l) e = nxS l e := rfl
theorem rmultiples_af (op : Int) (a b : Ex) (ha : formB a = true) (hb : formB b = true) :
    AF Tryz.prog 97 [aI .i64 op, exA a, exA b] (nxS [(0, sumS (eTwo op a b) 3), (1, sumS (eTwo op a b) 4)] a) := by
  refine af_of Tryz.func97 rfl (by kernel_rfl) (by simp [Tryz.ntmps97]) fun _ => ?_; simp [Tryz.f97, Ex.d_eq]
  refine adraw [] (by kernel_rfl) (by kernel_rfl) (by kernel_rfl) (by kernel_rfl) ?_; simp [Ex.d_eq]
  refine adC_of (rmultiple_af a ha) (by simp) trivial (by simp) (by simp [Ex.d_eq]) ?_; simp [Ex.d_eq]
  refine adC_of (rmultiple_af b hb) (by simp) trivial (by simp) (by simp [Ex.d_eq]) ?_; simp [Ex.d_eq]
  unfold sumS
  by_cases h1 : (mulS a).1.op = 1
  · simp [h1]
    refine adraw [] (by kernel_rfl) (by kernel_rfl) (by kernel_rfl) (by kernel_rfl) ?_; simp [Ex.d_eq]
  simp [h1]
  refine aCall_of (refsame_af (mulS a).1 (mulS b).1) (by simp) (by simp [Ex.d_eq]) ?_; simp [Ex.d_eq]
  cases h2 : sameB (mulS a).1 (mulS b).1
  · simp
    refine adraw [] (by kernel_rfl) (by kernel_rfl) (by kernel_rfl) (by kernel_rfl) ?_; simp [Ex.d_eq]
  simp
  by_cases h3 : op = 3
  · simp [h3]
    refine aCall_of (rproduct_af (mulS a).1 (IntKind.u32.wrap ((mulS a).2 + (mulS b).2))) (by simp) (by simp [Ex.d_eq]) ?_; simp [Ex.d_eq]
    simp [nm, nmL]
  by_cases h4 : op = 4
  · by_cases h5 : (mulS a).2 = (mulS b).2
    · simp [h4, h5]
      refine adraw [] (by kernel_rfl) (by kernel_rfl) (by kernel_rfl) (by kernel_rfl) ?_; simp [Ex.d_eq]
    · simp [h4, h5]
      refine aCall_of (rproduct_af (mulS a).1 (IntKind.u32.wrap ((mulS a).2 - (mulS b).2))) (by simp) (by simp [Ex.d_eq]) ?_; simp [Ex.d_eq]
      simp [nm, nmL]
  · simp [h3, h4]
    refine adraw [] (by kernel_rfl) (by kernel_rfl) (by kernel_rfl) (by kernel_rfl) ?_; simp [Ex.d_eq]
end Go.Proofs.YtlfkighdmheniaaGreatDoor

/- Contracts: the reference's idioms, continued. -/
namespace Go.Proofs.YtlfkighdmheniaaGreatDoor
open Go.RowKit
theorem isB_op {e : Ex} {n : Int} (h : isB e n = true) : e.op = 1 := (isB_iff.1 h).1
theorem isB_not {e : Ex} {n : Int} (h : ¬ e.op = 1) : isB e n = false := by simp [isB, h]
theorem inv_by {e : Ex} (hf : formB e = true) (h3 : e.op = 3) : invS e = match byS e 3 all32 with
    | some x => if x.op = 17 then some (eTwo 8 x.x (eCon all32)) else none
    | none => none := by
  obtain ⟨a, b, rfl, ha, hb⟩ := form_two' hf h3 (by omega) (by omega)
  have ho : ordS (eTwo 3 a b) 3 = [(a, b), (b, a)] := by simp [ord_two, comB]
  unfold invS byS
  rw [ho]
  cases h1 : isB b all32
  · cases h2 : isB a all32
    · simp [h1, h2]
    · by_cases h4 : b.op = 17 <;> simp [h1, h2, h4]
  · have hb17 : ¬ b.op = 17 := by have := isB_op h1; omega
    by_cases h4 : a.op = 17
    · simp [h1, h4]
    · simp [h1, h4, hb17]
theorem inv_no {e : Ex} (h3 : ¬ e.op = 3) (h4 : ¬ e.op = 4) : invS e = none := by
  unfold invS
  rw [ord_not h3]
  simp [h4]
theorem neg_no {e : Ex} (h3 : ¬ e.op = 3) : negS e = none := by
  unfold negS byS
  rw [ord_not h3]
  rfl
theorem rnegation_af (e : Ex) (hf : formB e = true) : AF Tryz.prog 98 [exA e] (nxS [(2, negS e), (3, invS e)] e) := by
  by_cases h3 : e.op = 3
  · refine af_of Tryz.func98 rfl (by kernel_rfl) (by simp [Tryz.ntmps98]) fun _ => ?_; simp [Tryz.f98, Ex.d_eq]
    refine aCall_of (rother_af e 3 1 hf (.inl rfl)) (by simp) (by simp [Ex.d_eq]) ?_; simp [Ex.d_eq]
    rw [inv_by hf h3]
    unfold negS
    cases h1 : byS e 3 1 with
    | none =>
      simp [Ex.d_eq]
      refine aCall_of (rother_af e 3 4294967295 hf (.inl rfl)) (by simp) (by simp [Ex.d_eq]) ?_; simp [Ex.d_eq]
      cases h2 : byS e 3 4294967295 with
      | none =>
        simp [all32, h2, h3, Ex.d_eq]
        refine adraw [] (by kernel_rfl) (by kernel_rfl) (by kernel_rfl) (by kernel_rfl) ?_; simp [Ex.d_eq]
        exact h3.symm
      | some x =>
        have hx := (by_mem hf (by omega) (by omega) h2).1
        by_cases h17 : x.op = 17
        · obtain ⟨c, rfl, hc⟩ := form_one' hx h17
          simp [all32, h2, Ex.d_eq]
          refine adraw [] (by kernel_rfl) (by kernel_rfl) (by kernel_rfl) (by kernel_rfl) ?_; simp [Ex.d_eq]
          refine adC_of (r19const_af 4294967295) (by simp) trivial (by simp) (by simp [Ex.d_eq]) ?_; simp [Ex.d_eq]
          refine adC_of (r19two_af 8 c (eCon 4294967295)) (by simp) trivial (by simp) (by simp [Ex.d_eq]) ?_; simp [Ex.d_eq]
          simp [nm, nmL, Ex.d_eq]
        · simp [all32, h2, h17, Ex.d_eq]
          refine adraw [] (by kernel_rfl) (by kernel_rfl) (by kernel_rfl) (by kernel_rfl) ?_; simp [Ex.d_eq]
    | some a =>
      have ha := (by_mem hf (by omega) (by omega) h1).1
      simp [Ex.d_eq]
      refine aCall_of (rother_af a 8 4294967295 ha (.inr rfl)) (by simp) (by simp [Ex.d_eq]) ?_; simp [Ex.d_eq]
      cases h5 : byS a 8 4294967295 with
      | some y =>
        simp [all32, h5, Ex.d_eq]
        refine aCall_of (r19one_af 17 y) (by simp) (by simp [Ex.d_eq]) ?_; simp [Ex.d_eq]
        simp [nm, nmL, Ex.d_eq]
      | none =>
        simp [all32, h5, Ex.d_eq]
        refine aCall_of (rother_af e 3 4294967295 hf (.inl rfl)) (by simp) (by simp [Ex.d_eq]) ?_; simp [Ex.d_eq]
        cases h2 : byS e 3 4294967295 with
        | none =>
          simp [all32, h2, h3, Ex.d_eq]
          refine adraw [] (by kernel_rfl) (by kernel_rfl) (by kernel_rfl) (by kernel_rfl) ?_; simp [Ex.d_eq]
          exact h3.symm
        | some x =>
          have hx := (by_mem hf (by omega) (by omega) h2).1
          by_cases h17 : x.op = 17
          · obtain ⟨c, rfl, hc⟩ := form_one' hx h17
            simp [all32, h2, Ex.d_eq]
            refine adraw [] (by kernel_rfl) (by kernel_rfl) (by kernel_rfl) (by kernel_rfl) ?_; simp [Ex.d_eq]
            refine adC_of (r19const_af 4294967295) (by simp) trivial (by simp) (by simp [Ex.d_eq]) ?_; simp [Ex.d_eq]
            refine adC_of (r19two_af 8 c (eCon 4294967295)) (by simp) trivial (by simp) (by simp [Ex.d_eq]) ?_; simp [Ex.d_eq]
            simp [nm, nmL, Ex.d_eq]
          · simp [all32, h2, h17, Ex.d_eq]
            refine adraw [] (by kernel_rfl) (by kernel_rfl) (by kernel_rfl) (by kernel_rfl) ?_; simp [Ex.d_eq]
  by_cases h4 : e.op = 4
  · rw [neg_no h3]
    obtain ⟨a, b, rfl, ha, hb⟩ := form_two' hf h4 (by omega) (by omega)
    have ho : ∀ n, byS (eTwo 4 a b) 3 n = none := fun n => by unfold byS; rw [ord_not h3]; rfl
    refine af_of Tryz.func98 rfl (by kernel_rfl) (by simp [Tryz.ntmps98]) fun _ => ?_; simp [Tryz.f98, Ex.d_eq]
    refine aCall_of (rother_af (eTwo 4 a b) 3 1 hf (.inl rfl)) (by simp) (by simp [Ex.d_eq]) ?_; simp [Ex.d_eq]
    simp [ho, Ex.d_eq]
    refine aCall_of (rother_af (eTwo 4 a b) 3 4294967295 hf (.inl rfl)) (by simp) (by simp [Ex.d_eq]) ?_; simp [Ex.d_eq]
    simp [ho, Ex.d_eq]
    refine aCall_of (risconst_af b 1) (by simp) (by simp [Ex.d_eq]) ?_; simp [Ex.d_eq]
    unfold invS
    rw [ord_not h3]
    cases h1 : isB b 1
    · simp [h1, Ex.d_eq]
      refine adraw [] (by kernel_rfl) (by kernel_rfl) (by kernel_rfl) (by kernel_rfl) ?_; simp [Ex.d_eq]
    · simp [h1, Ex.d_eq]
      by_cases h17 : a.op = 17
      · obtain ⟨c, rfl, hc⟩ := form_one' ha h17
        simp [Ex.d_eq]
        refine adraw [] (by kernel_rfl) (by kernel_rfl) (by kernel_rfl) (by kernel_rfl) ?_; simp [Ex.d_eq]
        refine adC_of (r19const_af 4294967295) (by simp) trivial (by simp) (by simp [Ex.d_eq]) ?_; simp [Ex.d_eq]
        refine adC_of (r19two_af 8 c (eCon 4294967295)) (by simp) trivial (by simp) (by simp [Ex.d_eq]) ?_; simp [Ex.d_eq]
        simp [nm, nmL, Ex.d_eq]
      · simp [h17, Ex.d_eq]
        refine adraw [] (by kernel_rfl) (by kernel_rfl) (by kernel_rfl) (by kernel_rfl) ?_; simp [Ex.d_eq]
  · rw [neg_no h3, inv_no h3 h4]
    have ho : ∀ n, byS e 3 n = none := fun n => by unfold byS; rw [ord_not h3]; rfl
    refine af_of Tryz.func98 rfl (by kernel_rfl) (by simp [Tryz.ntmps98]) fun _ => ?_; simp [Tryz.f98, Ex.d_eq]
    refine aCall_of (rother_af e 3 1 hf (.inl rfl)) (by simp) (by simp [Ex.d_eq]) ?_; simp [Ex.d_eq]
    simp [ho, Ex.d_eq]
    refine aCall_of (rother_af e 3 4294967295 hf (.inl rfl)) (by simp) (by simp [Ex.d_eq]) ?_; simp [Ex.d_eq]
    simp [ho, h4, Ex.d_eq]
    refine adraw [] (by kernel_rfl) (by kernel_rfl) (by kernel_rfl) (by kernel_rfl) ?_; simp [Ex.d_eq]
theorem rextension_af (e : Ex) (hf : formB e = true) : AF Tryz.prog 99 [exA e] (nxS [(4, sgnS e), (5, zerS e)] e) := by
  have p24 : shlI .u32 1 24 = 16777216 := pw24
  have p16 : shlI .u32 1 16 = 65536 := pw16
  by_cases h11 : e.op = 11
  · obtain ⟨a, b, rfl, ha, hb⟩ := form_two' hf h11 (by omega) (by omega)
    refine af_of Tryz.func99 rfl (by kernel_rfl) (by simp [Tryz.ntmps99]) fun _ => ?_; simp [Tryz.f99, Ex.d_eq]
    have hz : zerS (eTwo 11 a b) = none := by simp [zerS, extS, shS]
    rw [hz]
    by_cases h1 : b.op = 1
    case neg =>
      simp [h1, sgnS, extS, shS, Ex.d_eq]
      refine adraw [] (by kernel_rfl) (by kernel_rfl) (by kernel_rfl) (by kernel_rfl) ?_; simp [Ex.d_eq]
    by_cases h24 : b.n = 24
    · simp [h1, h24, Ex.d_eq]
      refine aCall_of (rmultiple_af a ha) (by simp) (by simp [Ex.d_eq]) ?_; simp [Ex.d_eq]
      refine adraw [] (by kernel_rfl) (by kernel_rfl) (by kernel_rfl) (by kernel_rfl) ?_; simp [Ex.d_eq]
      simp [p24]
      by_cases hc : (mulS a).2 = 16777216
      · simp [hc, h24, Ex.d_eq]
        refine adraw [] (by kernel_rfl) (by kernel_rfl) (by kernel_rfl) (by kernel_rfl) ?_; simp [Ex.d_eq]
        simp [hc, h1, h24, sgnS, extS, shS, nm, nmL, Ex.d_eq]
      · simp [hc, Ex.d_eq]
        refine adraw [] (by kernel_rfl) (by kernel_rfl) (by kernel_rfl) (by kernel_rfl) ?_; simp [Ex.d_eq]
        simp [hc, h1, h24, sgnS, extS, shS, Ex.d_eq]
    by_cases h16 : b.n = 16
    · simp [h1, h16, Ex.d_eq]
      refine aCall_of (rmultiple_af a ha) (by simp) (by simp [Ex.d_eq]) ?_; simp [Ex.d_eq]
      refine adraw [] (by kernel_rfl) (by kernel_rfl) (by kernel_rfl) (by kernel_rfl) ?_; simp [Ex.d_eq]
      simp [p16]
      by_cases hc : (mulS a).2 = 65536
      · simp [hc, h16, Ex.d_eq]
        refine adraw [] (by kernel_rfl) (by kernel_rfl) (by kernel_rfl) (by kernel_rfl) ?_; simp [Ex.d_eq]
        simp [hc, h1, h16, sgnS, extS, shS, nm, nmL, Ex.d_eq]
      · simp [hc, Ex.d_eq]
        refine adraw [] (by kernel_rfl) (by kernel_rfl) (by kernel_rfl) (by kernel_rfl) ?_; simp [Ex.d_eq]
        simp [hc, h1, h16, sgnS, extS, shS, Ex.d_eq]
    simp [h1, h24, h16, Ex.d_eq]
    refine adraw [] (by kernel_rfl) (by kernel_rfl) (by kernel_rfl) (by kernel_rfl) ?_; simp [Ex.d_eq]
    by_cases hr : 1 ≤ b.n ∧ b.n ≤ 31 <;> simp [h1, h24, h16, hr, sgnS, extS, shS, Ex.d_eq]
  by_cases h10 : e.op = 10
  · obtain ⟨a, b, rfl, ha, hb⟩ := form_two' hf h10 (by omega) (by omega)
    refine af_of Tryz.func99 rfl (by kernel_rfl) (by simp [Tryz.ntmps99]) fun _ => ?_; simp [Tryz.f99, Ex.d_eq]
    have hz : sgnS (eTwo 10 a b) = none := by simp [sgnS, extS, shS]
    rw [hz]
    by_cases h1 : b.op = 1
    case neg =>
      simp [h1, zerS, extS, shS, Ex.d_eq]
      refine adraw [] (by kernel_rfl) (by kernel_rfl) (by kernel_rfl) (by kernel_rfl) ?_; simp [Ex.d_eq]
    by_cases h24 : b.n = 24
    · simp [h1, h24, Ex.d_eq]
      refine aCall_of (rmultiple_af a ha) (by simp) (by simp [Ex.d_eq]) ?_; simp [Ex.d_eq]
      refine adraw [] (by kernel_rfl) (by kernel_rfl) (by kernel_rfl) (by kernel_rfl) ?_; simp [Ex.d_eq]
      simp [p24]
      by_cases hc : (mulS a).2 = 16777216
      · simp [hc, h24, Ex.d_eq]
        refine adraw [] (by kernel_rfl) (by kernel_rfl) (by kernel_rfl) (by kernel_rfl) ?_; simp [Ex.d_eq]
        refine adC_of (r19const_af 255) (by simp) trivial (by simp) (by simp [Ex.d_eq]) ?_; simp [Ex.d_eq]
        refine adC_of (r19two_af 6 (mulS a).1 (eCon 255)) (by simp) trivial (by simp) (by simp [Ex.d_eq]) ?_; simp [Ex.d_eq]
        simp [hc, h1, h24, zerS, extS, shS, nm, nmL, Ex.d_eq]
      · simp [hc, Ex.d_eq]
        refine adraw [] (by kernel_rfl) (by kernel_rfl) (by kernel_rfl) (by kernel_rfl) ?_; simp [Ex.d_eq]
        simp [hc, h1, h24, zerS, extS, shS, Ex.d_eq]
    by_cases h16 : b.n = 16
    · simp [h1, h16, Ex.d_eq]
      refine aCall_of (rmultiple_af a ha) (by simp) (by simp [Ex.d_eq]) ?_; simp [Ex.d_eq]
      refine adraw [] (by kernel_rfl) (by kernel_rfl) (by kernel_rfl) (by kernel_rfl) ?_; simp [Ex.d_eq]
      simp [p16]
      by_cases hc : (mulS a).2 = 65536
      · simp [hc, h16, Ex.d_eq]
        refine adraw [] (by kernel_rfl) (by kernel_rfl) (by kernel_rfl) (by kernel_rfl) ?_; simp [Ex.d_eq]
        refine adC_of (r19const_af 65535) (by simp) trivial (by simp) (by simp [Ex.d_eq]) ?_; simp [Ex.d_eq]
        refine adC_of (r19two_af 6 (mulS a).1 (eCon 65535)) (by simp) trivial (by simp) (by simp [Ex.d_eq]) ?_; simp [Ex.d_eq]
        simp [hc, h1, h16, zerS, extS, shS, nm, nmL, Ex.d_eq]
      · simp [hc, Ex.d_eq]
        refine adraw [] (by kernel_rfl) (by kernel_rfl) (by kernel_rfl) (by kernel_rfl) ?_; simp [Ex.d_eq]
        simp [hc, h1, h16, zerS, extS, shS, Ex.d_eq]
    simp [h1, h24, h16, Ex.d_eq]
    refine adraw [] (by kernel_rfl) (by kernel_rfl) (by kernel_rfl) (by kernel_rfl) ?_; simp [Ex.d_eq]
    by_cases hr : 1 ≤ b.n ∧ b.n ≤ 31 <;> simp [h1, h24, h16, hr, zerS, extS, shS, Ex.d_eq]
  · have h1 : sgnS e = none := by simp [sgnS, extS, shS, h11]
    have h2 : zerS e = none := by simp [zerS, extS, shS, h10]
    rw [h1, h2]
    refine af_of Tryz.func99 rfl (by kernel_rfl) (by simp [Tryz.ntmps99]) fun _ => ?_; simp [Tryz.f99, Ex.d_eq]
    simp [h10, h11]
    refine adraw [] (by kernel_rfl) (by kernel_rfl) (by kernel_rfl) (by kernel_rfl) ?_; simp [Ex.d_eq]
end Go.Proofs.YtlfkighdmheniaaGreatDoor

/- Contracts: the reference's shifts and selections. -/
namespace Go.Proofs.YtlfkighdmheniaaGreatDoor
open Go.RowKit
theorem sh_two (op : Int) (a b : Ex) : shS (eTwo op a b) op = if b.op = 1 ∧ 1 ≤ b.n ∧ b.n ≤ 31 then some (a, b.n) else none := by simp [shS]
theorem hi_two (op : Int) (a b : Ex) : hiS (eTwo op a b) op = if isB b 31 = true then some a else none := by
  unfold hiS
  rw [sh_two]
  by_cases h1 : b.op = 1
  · by_cases h2 : b.n = 31
    · simp [isB, h1, h2]
    · by_cases h3 : 1 ≤ b.n ∧ b.n ≤ 31 <;> simp [isB, h1, h2, h3]
  · simp [isB, h1]
theorem hi_not {e : Ex} {op : Int} (h : ¬ e.op = op) : hiS e op = none := by simp [hiS, shS, h]
theorem rshifts_af (op : Int) (a b : Ex) (ha : formB a = true) (hb : formB b = true) :
    AF Tryz.prog 100 [exA (eTwo op a b)] (nxS [(6, nzS (eTwo op a b)), (7, restS (eTwo op a b)), (8, signS (eTwo op a b)), (9, shfS (eTwo op a b))] (eTwo op a b)) := by
  by_cases h10 : op = 10
  · subst h10
    have e7 : restS (eTwo 10 a b) = none := by simp [restS]
    have e9 : shfS (eTwo 10 a b) = none := by simp [shfS, shS]
    rw [e7, e9]
    refine af_of Tryz.func100 rfl (by kernel_rfl) (by simp [Tryz.ntmps100]) fun _ => ?_; simp [Tryz.f100, Ex.d_eq]
    refine adraw [(10, 5), (10, 7)] (by kernel_rfl) (by kernel_rfl) (by kernel_rfl) (by kernel_rfl) ?_; simp [Ex.d_eq]
    unfold nzS signS
    rw [hi_two]
    refine adraw [] (by kernel_rfl) (by kernel_rfl) (by kernel_rfl) (by kernel_rfl) ?_; simp [Ex.d_eq]
    refine adC_of (risconst_af b 31) (by simp) trivial (by simp) (by simp [Ex.d_eq]) ?_; simp [Ex.d_eq]
    cases h31 : isB b 31
    · simp [h31, Ex.d_eq]
      refine aCall_of (risconst_af b 31) (by simp) (by simp [Ex.d_eq]) ?_; simp [Ex.d_eq]
      simp [h31, Ex.d_eq]
      refine adraw [] (by kernel_rfl) (by kernel_rfl) (by kernel_rfl) (by kernel_rfl) ?_; simp [Ex.d_eq]
    simp [h31, Ex.d_eq]
    by_cases h7 : a.op = 7
    case neg =>
      simp [h7, ord_not h7, Ex.d_eq]
      refine aCall_of (risconst_af b 31) (by simp) (by simp [Ex.d_eq]) ?_; simp [Ex.d_eq]
      simp [h31, Ex.d_eq]
      refine adraw [] (by kernel_rfl) (by kernel_rfl) (by kernel_rfl) (by kernel_rfl) ?_; simp [Ex.d_eq]
      refine adC_of (r19const_af 0) (by simp) trivial (by simp) (by simp [Ex.d_eq]) ?_; simp [Ex.d_eq]
      refine adC_of (r19two_af 14 a (eCon 0)) (by simp) trivial (by simp) (by simp [Ex.d_eq]) ?_; simp [Ex.d_eq]
      try simp [nm, nmL, Ex.d_eq]
    obtain ⟨p, q, rfl, hp, hq⟩ := form_two' ha h7 (by omega) (by omega)
    have ho : ordS (eTwo 7 p q) 7 = [(p, q), (q, p)] := by simp [ord_two, comB]
    obtain ⟨N1, hN1⟩ : ∃ N, (decide (q.op = 17) && sameB q.x p) = N := ⟨_, rfl⟩
    obtain ⟨N2, hN2⟩ : ∃ N, (decide (p.op = 17) && sameB p.x q) = N := ⟨_, rfl⟩
    have c1 := risneg_af q p hq
    have c2 := risneg_af p q hp
    rw [hN1] at c1
    rw [hN2] at c2
    have hfind : (List.find? (fun p => decide (p.2.op = 17) && sameB p.2.x p.1) [(p, q), (q, p)]).map (fun p => eTwo 13 p.1 (eCon 0)) = if N1 then some (eTwo 13 p (eCon 0)) else if N2 then some (eTwo 13 q (eCon 0)) else none := by
      rw [List.find?_cons, List.find?_cons]
      simp only [hN1, hN2]
      cases N1 <;> cases N2 <;> rfl
    rw [ho]
    try simp only [if_true]
    rw [hfind]
    try simp [Ex.d_eq]
    refine adC_of c1 (by simp) trivial (by simp) (by simp [Ex.d_eq]) ?_; simp [Ex.d_eq]
    cases N1
    case true =>
      try simp [Ex.d_eq]
      refine adraw [] (by kernel_rfl) (by kernel_rfl) (by kernel_rfl) (by kernel_rfl) ?_; simp [Ex.d_eq]
      refine adC_of c1 (by simp) trivial (by simp) (by simp [Ex.d_eq]) ?_; simp [Ex.d_eq]
      refine adraw [] (by kernel_rfl) (by kernel_rfl) (by kernel_rfl) (by kernel_rfl) ?_; simp [Ex.d_eq]
      refine adC_of (r19const_af 0) (by simp) trivial (by simp) (by simp [Ex.d_eq]) ?_; simp [Ex.d_eq]
      refine adC_of (r19two_af 13 p (eCon 0)) (by simp) trivial (by simp) (by simp [Ex.d_eq]) ?_; simp [Ex.d_eq]
      try simp [nm, nmL, Ex.d_eq]
    try simp [Ex.d_eq]
    refine adC_of c2 (by simp) trivial (by simp) (by simp [Ex.d_eq]) ?_; simp [Ex.d_eq]
    cases N2
    case true =>
      try simp [Ex.d_eq]
      refine adraw [] (by kernel_rfl) (by kernel_rfl) (by kernel_rfl) (by kernel_rfl) ?_; simp [Ex.d_eq]
      refine adC_of c1 (by simp) trivial (by simp) (by simp [Ex.d_eq]) ?_; simp [Ex.d_eq]
      refine adraw [] (by kernel_rfl) (by kernel_rfl) (by kernel_rfl) (by kernel_rfl) ?_; simp [Ex.d_eq]
      refine adC_of (r19const_af 0) (by simp) trivial (by simp) (by simp [Ex.d_eq]) ?_; simp [Ex.d_eq]
      refine adC_of (r19two_af 13 q (eCon 0)) (by simp) trivial (by simp) (by simp [Ex.d_eq]) ?_; simp [Ex.d_eq]
      try simp [nm, nmL, Ex.d_eq]
    try simp [Ex.d_eq]
    refine aCall_of (risconst_af b 31) (by simp) (by simp [Ex.d_eq]) ?_; simp [Ex.d_eq]
    simp [h31, Ex.d_eq]
    refine adraw [] (by kernel_rfl) (by kernel_rfl) (by kernel_rfl) (by kernel_rfl) ?_; simp [Ex.d_eq]
    refine adC_of (r19const_af 0) (by simp) trivial (by simp) (by simp [Ex.d_eq]) ?_; simp [Ex.d_eq]
    refine adC_of (r19two_af 14 (eTwo 7 p q) (eCon 0)) (by simp) trivial (by simp) (by simp [Ex.d_eq]) ?_; simp [Ex.d_eq]
    try simp [nm, nmL, Ex.d_eq]
  have e6 : nzS (eTwo op a b) = none := by simp [nzS, hi_not (e := eTwo op a b) (op := 10) (by simpa using h10)]
  have e8 : signS (eTwo op a b) = none := by simp [signS, hi_not (e := eTwo op a b) (op := 10) (by simpa using h10)]
  rw [e6, e8]
  by_cases h4 : op = 4
  · subst h4
    have e9 : shfS (eTwo 4 a b) = none := by simp [shfS, shS]
    rw [e9]
    have hk := (mul_part hb).form
    unfold restS
    refine af_of Tryz.func100 rfl (by kernel_rfl) (by simp [Tryz.ntmps100]) fun _ => ?_; simp [Tryz.f100, Ex.d_eq]
    refine adraw [(10, 5), (10, 7)] (by kernel_rfl) (by kernel_rfl) (by kernel_rfl) (by kernel_rfl) ?_; simp [Ex.d_eq]
    refine adraw [] (by kernel_rfl) (by kernel_rfl) (by kernel_rfl) (by kernel_rfl) ?_; simp [Ex.d_eq]
    refine aCall_of (rmultiple_af b hb) (by simp) (by simp [Ex.d_eq]) ?_; simp [Ex.d_eq]
    refine adraw [] (by kernel_rfl) (by kernel_rfl) (by kernel_rfl) (by kernel_rfl) ?_; simp [Ex.d_eq]
    obtain ⟨K, C, hm⟩ : ∃ K C, mulS b = (K, C) := ⟨_, _, rfl⟩
    rw [hm] at hk
    try simp [hm]
    by_cases hK : K.op = 10
    case neg =>
      simp [hK, shS, Ex.d_eq]
      refine adraw [] (by kernel_rfl) (by kernel_rfl) (by kernel_rfl) (by kernel_rfl) ?_; simp [Ex.d_eq]
    obtain ⟨p, q, rfl, hp, hq⟩ := form_two' hk hK (by omega) (by omega)
    rw [sh_two]
    try simp [Ex.d_eq]
    refine adC_of (refsame_af p a) (by simp) trivial (by simp) (by simp [Ex.d_eq]) ?_; simp [Ex.d_eq]
    cases h1 : sameB p a
    case false =>
      simp [h1, Ex.d_eq]
      refine adraw [] (by kernel_rfl) (by kernel_rfl) (by kernel_rfl) (by kernel_rfl) ?_; simp [Ex.d_eq]
      all_goals (by_cases hc : q.op = 1 ∧ 1 ≤ q.n ∧ q.n ≤ 31 <;> simp [hc, h1, Ex.d_eq])
    obtain rfl := sameB_iff.1 h1
    by_cases h2 : q.op = 1
    case neg =>
      simp [h2, Ex.d_eq]
      refine adraw [] (by kernel_rfl) (by kernel_rfl) (by kernel_rfl) (by kernel_rfl) ?_; simp [Ex.d_eq]
    by_cases h3 : 1 ≤ q.n
    case neg =>
      simp [h2, h3, Ex.d_eq]
      refine adraw [] (by kernel_rfl) (by kernel_rfl) (by kernel_rfl) (by kernel_rfl) ?_; simp [Ex.d_eq]
    by_cases h4 : q.n ≤ 31
    case neg =>
      simp [h2, h3, h4, Ex.d_eq]
      refine adraw [] (by kernel_rfl) (by kernel_rfl) (by kernel_rfl) (by kernel_rfl) ?_; simp [Ex.d_eq]
    simp [h2, h3, h4, show 0 ≤ q.n by omega, Ex.d_eq]
    by_cases h5 : C = shlI .u32 1 q.n
    · simp [h5, pw, sameB_refl, Ex.d_eq]
      refine adraw [] (by kernel_rfl) (by kernel_rfl) (by kernel_rfl) (by kernel_rfl) ?_; simp [Ex.d_eq]
      refine adC_of (r19const_af (IntKind.u32.wrap (shlI .u32 1 q.n - 1))) (by simp) trivial (by simp) (by simp [Ex.d_eq]) ?_; simp [Ex.d_eq]
      refine adC_of (r19two_af 6 p (eCon (IntKind.u32.wrap (shlI .u32 1 q.n - 1)))) (by simp) trivial (by simp) (by simp [Ex.d_eq]) ?_; simp [Ex.d_eq]
      try simp [nm, nmL, Ex.d_eq]
    · simp [h5, pw, Ex.d_eq]
      refine adraw [] (by kernel_rfl) (by kernel_rfl) (by kernel_rfl) (by kernel_rfl) ?_; simp [Ex.d_eq]
  have e7 : restS (eTwo op a b) = none := by simp [restS, h4]
  rw [e7]
  unfold shfS
  by_cases h9 : op = 9
  · subst h9
    rw [sh_two]
    refine af_of Tryz.func100 rfl (by kernel_rfl) (by simp [Tryz.ntmps100]) fun _ => ?_; simp [Tryz.f100, Ex.d_eq]
    refine adraw [(10, 5), (10, 7)] (by kernel_rfl) (by kernel_rfl) (by kernel_rfl) (by kernel_rfl) ?_; simp [Ex.d_eq]
    refine adraw [] (by kernel_rfl) (by kernel_rfl) (by kernel_rfl) (by kernel_rfl) ?_; simp [Ex.d_eq]
    by_cases h2 : b.op = 1
    case neg =>
      simp [h2, Ex.d_eq]
      refine adraw [] (by kernel_rfl) (by kernel_rfl) (by kernel_rfl) (by kernel_rfl) ?_; simp [Ex.d_eq]
    by_cases h3 : 1 ≤ b.n
    case neg =>
      simp [h2, h3, Ex.d_eq]
      refine adraw [] (by kernel_rfl) (by kernel_rfl) (by kernel_rfl) (by kernel_rfl) ?_; simp [Ex.d_eq]
      exact h2.symm
    by_cases h5 : b.n ≤ 31
    case neg =>
      simp [h2, h3, h5, Ex.d_eq]
      refine adraw [] (by kernel_rfl) (by kernel_rfl) (by kernel_rfl) (by kernel_rfl) ?_; simp [Ex.d_eq]
      exact h2.symm
    simp [h2, h3, h5, show 0 ≤ b.n by omega, Ex.d_eq]
    refine aCall_of (rproduct_af a (shlI .u32 1 b.n)) (by simp) (by simp [Ex.d_eq]) ?_; simp [Ex.d_eq]
    try simp [nm, nmL, pw, Ex.d_eq]
  · have : shS (eTwo op a b) 9 = none := by simp [shS, h9]
    rw [this]
    refine af_of Tryz.func100 rfl (by kernel_rfl) (by simp [Tryz.ntmps100]) fun _ => ?_; simp [Tryz.f100, Ex.d_eq]
    refine adraw [(10, 5), (10, 7)] (by kernel_rfl) (by kernel_rfl) (by kernel_rfl) (by kernel_rfl) ?_; simp [Ex.d_eq]
    try simp [h10, h4, h9]
    refine adraw [] (by kernel_rfl) (by kernel_rfl) (by kernel_rfl) (by kernel_rfl) ?_; simp [Ex.d_eq]
    try simp [h10, h4, h9]
    refine adraw [] (by kernel_rfl) (by kernel_rfl) (by kernel_rfl) (by kernel_rfl) ?_; simp [Ex.d_eq]
theorem rpair_af (e : Ex) (x y : Ex) (hf : formB e = true) : AF Tryz.prog 113 [exA e, aI .i64 8, exA x, exA y] (aB (decide (e.op = 8) && (sameB e.x x && sameB e.y y || sameB e.x y && sameB e.y x))) := by
  by_cases h : e.op = 8
  case neg =>
    refine af_of Tryz.func113 rfl (by kernel_rfl) (by simp [Tryz.ntmps113]) fun _ => ?_; simp [Tryz.f113, Ex.d_eq]
    refine adraw [] (by kernel_rfl) (by kernel_rfl) (by kernel_rfl) (by kernel_rfl) ?_; simp [Ex.d_eq]
    simp [h]
  obtain ⟨p, q, rfl, hp, hq⟩ := form_two' hf h (by omega) (by omega)
  refine af_of Tryz.func113 rfl (by kernel_rfl) (by simp [Tryz.ntmps113]) fun _ => ?_; simp [Tryz.f113, Ex.d_eq]
  refine adraw [] (by kernel_rfl) (by kernel_rfl) (by kernel_rfl) (by kernel_rfl) ?_; simp [Ex.d_eq]
  refine adC_of (refsame_af p x) (by simp) trivial (by simp) (by simp [Ex.d_eq]) ?_; simp [Ex.d_eq]
  cases h1 : sameB p x
  · simp [h1, Ex.d_eq]
    refine adC_of (refsame_af p y) (by simp) trivial (by simp) (by simp [Ex.d_eq]) ?_; simp [Ex.d_eq]
    cases h2 : sameB p y
    · simp [h1, h2, Ex.d_eq]
    · simp [h1, h2, Ex.d_eq]
      refine adC_of (refsame_af q x) (by simp) trivial (by simp) (by simp [Ex.d_eq]) ?_; simp [Ex.d_eq]
      try simp [h1, h2, Ex.d_eq]
  · simp [h1, Ex.d_eq]
    refine adC_of (refsame_af q y) (by simp) trivial (by simp) (by simp [Ex.d_eq]) ?_; simp [Ex.d_eq]
    cases h3 : sameB q y
    · simp [h1, h3, Ex.d_eq]
      refine adC_of (refsame_af p y) (by simp) trivial (by simp) (by simp [Ex.d_eq]) ?_; simp [Ex.d_eq]
      cases h2 : sameB p y
      · simp [h1, h2, h3, Ex.d_eq]
      · simp [h1, h2, h3, Ex.d_eq]
        refine adC_of (refsame_af q x) (by simp) trivial (by simp) (by simp [Ex.d_eq]) ?_; simp [Ex.d_eq]
        try simp [h1, h2, h3, Ex.d_eq]
    · simp [h1, h3, Ex.d_eq]
/-- The operands of (x ^ y) & -(x <s y). -/
def pairB (e x y : Ex) : Bool := decide (e.op = 8) && (sameB e.x x && sameB e.y y || sameB e.x y && sameB e.y x)
def selP1 (n o : Ex) : Option (Ex × Ex) := if n.op = 17 ∧ n.x.op = 14 ∧ pairB o n.x.x n.x.y = true then some (n.x.x, n.x.y) else none
def selP (e : Ex) : Option (Ex × Ex) := if e.op = 6 then (match selP1 e.x e.y with
  | some r => some r
  | none => selP1 e.y e.x) else none
theorem rselected_af (e : Ex) (hf : formB e = true) : AF Tryz.prog 114 [exA e] (.tup [exA (((selP e).map (·.1)).getD e), exA (((selP e).map (·.2)).getD e), aB (selP e).isSome]) := by
  by_cases h : e.op = 6
  case neg =>
    refine af_of Tryz.func114 rfl (by kernel_rfl) (by simp [Tryz.ntmps114]) fun _ => ?_; simp [Tryz.f114, Ex.d_eq]
    simp [h]
    refine adraw [(2, 1)] (by kernel_rfl) (by kernel_rfl) (by kernel_rfl) (by kernel_rfl) ?_; simp [Ex.d_eq]
    simp [selP, h]
  obtain ⟨p, q, rfl, hp, hq⟩ := form_two' hf h (by omega) (by omega)
  refine af_of Tryz.func114 rfl (by kernel_rfl) (by simp [Tryz.ntmps114]) fun _ => ?_; simp [Tryz.f114, Ex.d_eq]
  refine aLoop_iter 3 ?_; simp [Ex.d_eq]
  refine adraw [] (by kernel_rfl) (by kernel_rfl) (by kernel_rfl) (by kernel_rfl) ?_; simp [Ex.d_eq]
  by_cases n1 : p.op = 17
  case neg =>
    have S1 : selP1 p q = none := by simp [selP1, n1]
    simp [n1, Ex.d_eq]
    refine adraw [] (by kernel_rfl) (by kernel_rfl) (by kernel_rfl) (by kernel_rfl) ?_; simp [Ex.d_eq]
    by_cases n2 : q.op = 17
    case neg =>
      have S2 : selP1 q p = none := by simp [selP1, n2]
      simp [n2, Ex.d_eq]
      refine adraw [(2, 1)] (by kernel_rfl) (by kernel_rfl) (by kernel_rfl) (by kernel_rfl) ?_; simp [Ex.d_eq]
      try simp [selP, S1, S2, Ex.d_eq]
      all_goals (first | (simp [n1, ul1, Ex.d_eq]; done) | (simp [n2, ul2, Ex.d_eq]; done) | (simp [n1, ul1, n2, ul2, Ex.d_eq]; done))
    obtain ⟨u2, e2, hu2⟩ := form_one' hq n2
    have ux2 : q.x = u2 := by rw [e2]; rfl
    have ul2 : q.l = [u2] := by rw [e2]; rfl
    by_cases w2 : u2.op = 14
    case neg =>
      have S2 : selP1 q p = none := by simp [selP1, ux2, w2]
      simp [n2, ul2, w2, Ex.d_eq]
      refine adraw [(2, 1)] (by kernel_rfl) (by kernel_rfl) (by kernel_rfl) (by kernel_rfl) ?_; simp [Ex.d_eq]
      try simp [selP, S1, S2, Ex.d_eq]
      all_goals (first | (simp [n1, ul1, Ex.d_eq]; done) | (simp [n2, ul2, Ex.d_eq]; done) | (simp [n1, ul1, n2, ul2, Ex.d_eq]; done))
    obtain ⟨x2, y2, rfl, hx2, hy2⟩ := form_two' hu2 w2 (by omega) (by omega)
    simp [n2, ul2, Ex.d_eq]
    refine adC_of (rpair_af p x2 y2 hp) (by simp) trivial (by simp) (by first | (simp [Ex.d_eq]; done) | (simp [n1, ul1, Ex.d_eq]; done)) ?_; simp [Ex.d_eq]
    cases hP2 : pairB p x2 y2
    case false =>
      have S2 : selP1 q p = none := by simp [selP1, ux2, hP2]
      unfold pairB at hP2
      simp [hP2, Ex.d_eq]
      refine adraw [(2, 1)] (by kernel_rfl) (by kernel_rfl) (by kernel_rfl) (by kernel_rfl) ?_; simp [Ex.d_eq]
      try simp [selP, S1, S2, Ex.d_eq]
      all_goals (first | (simp [n1, ul1, Ex.d_eq]; done) | (simp [n2, ul2, Ex.d_eq]; done) | (simp [n1, ul1, n2, ul2, Ex.d_eq]; done))
    have S2 : selP1 q p = some (x2, y2) := by simp [selP1, n2, ux2, hP2]
    unfold pairB at hP2
    simp [hP2, Ex.d_eq]
    refine adraw [(14, 8), (14, 11), (14, 13)] (by kernel_rfl) (by kernel_rfl) (by kernel_rfl) (by kernel_rfl) ?_; simp [Ex.d_eq]
    try simp [n2, ul2, selP, S1, S2, Ex.d_eq]
    all_goals (first | (simp [n1, ul1, Ex.d_eq]; done) | (simp [n2, ul2, Ex.d_eq]; done) | (simp [n1, ul1, n2, ul2, Ex.d_eq]; done))
  obtain ⟨u1, e1, hu1⟩ := form_one' hp n1
  have ux1 : p.x = u1 := by rw [e1]; rfl
  have ul1 : p.l = [u1] := by rw [e1]; rfl
  by_cases w1 : u1.op = 14
  case neg =>
    have S1 : selP1 p q = none := by simp [selP1, ux1, w1]
    simp [n1, ul1, w1, Ex.d_eq]
    refine adraw [] (by kernel_rfl) (by kernel_rfl) (by kernel_rfl) (by kernel_rfl) ?_; simp [Ex.d_eq]
    by_cases n2 : q.op = 17
    case neg =>
      have S2 : selP1 q p = none := by simp [selP1, n2]
      simp [n2, Ex.d_eq]
      refine adraw [(2, 1)] (by kernel_rfl) (by kernel_rfl) (by kernel_rfl) (by kernel_rfl) ?_; simp [Ex.d_eq]
      try simp [selP, S1, S2, Ex.d_eq]
      all_goals (first | (simp [n1, ul1, Ex.d_eq]; done) | (simp [n2, ul2, Ex.d_eq]; done) | (simp [n1, ul1, n2, ul2, Ex.d_eq]; done))
    obtain ⟨u2, e2, hu2⟩ := form_one' hq n2
    have ux2 : q.x = u2 := by rw [e2]; rfl
    have ul2 : q.l = [u2] := by rw [e2]; rfl
    by_cases w2 : u2.op = 14
    case neg =>
      have S2 : selP1 q p = none := by simp [selP1, ux2, w2]
      simp [n2, ul2, w2, Ex.d_eq]
      refine adraw [(2, 1)] (by kernel_rfl) (by kernel_rfl) (by kernel_rfl) (by kernel_rfl) ?_; simp [Ex.d_eq]
      try simp [selP, S1, S2, Ex.d_eq]
      all_goals (first | (simp [n1, ul1, Ex.d_eq]; done) | (simp [n2, ul2, Ex.d_eq]; done) | (simp [n1, ul1, n2, ul2, Ex.d_eq]; done))
    obtain ⟨x2, y2, rfl, hx2, hy2⟩ := form_two' hu2 w2 (by omega) (by omega)
    simp [n2, ul2, Ex.d_eq]
    refine adC_of (rpair_af p x2 y2 hp) (by simp) trivial (by simp) (by first | (simp [Ex.d_eq]; done) | (simp [n1, ul1, Ex.d_eq]; done)) ?_; simp [Ex.d_eq]
    cases hP2 : pairB p x2 y2
    case false =>
      have S2 : selP1 q p = none := by simp [selP1, ux2, hP2]
      unfold pairB at hP2
      simp [hP2, Ex.d_eq]
      refine adraw [(2, 1)] (by kernel_rfl) (by kernel_rfl) (by kernel_rfl) (by kernel_rfl) ?_; simp [Ex.d_eq]
      try simp [selP, S1, S2, Ex.d_eq]
      all_goals (first | (simp [n1, ul1, Ex.d_eq]; done) | (simp [n2, ul2, Ex.d_eq]; done) | (simp [n1, ul1, n2, ul2, Ex.d_eq]; done))
    have S2 : selP1 q p = some (x2, y2) := by simp [selP1, n2, ux2, hP2]
    unfold pairB at hP2
    simp [hP2, Ex.d_eq]
    refine adraw [(14, 8), (14, 11), (14, 13)] (by kernel_rfl) (by kernel_rfl) (by kernel_rfl) (by kernel_rfl) ?_; simp [Ex.d_eq]
    try simp [n2, ul2, selP, S1, S2, Ex.d_eq]
    all_goals (first | (simp [n1, ul1, Ex.d_eq]; done) | (simp [n2, ul2, Ex.d_eq]; done) | (simp [n1, ul1, n2, ul2, Ex.d_eq]; done))
  obtain ⟨x1, y1, rfl, hx1, hy1⟩ := form_two' hu1 w1 (by omega) (by omega)
  simp [n1, ul1, Ex.d_eq]
  refine adC_of (rpair_af q x1 y1 hq) (by simp) trivial (by simp) (by first | (simp [Ex.d_eq]; done) | (simp [n1, ul1, Ex.d_eq]; done)) ?_; simp [Ex.d_eq]
  cases hP1 : pairB q x1 y1
  case false =>
    have S1 : selP1 p q = none := by simp [selP1, ux1, hP1]
    unfold pairB at hP1
    simp [hP1, Ex.d_eq]
    refine adraw [] (by kernel_rfl) (by kernel_rfl) (by kernel_rfl) (by kernel_rfl) ?_; simp [Ex.d_eq]
    by_cases n2 : q.op = 17
    case neg =>
      have S2 : selP1 q p = none := by simp [selP1, n2]
      simp [n2, Ex.d_eq]
      refine adraw [(2, 1)] (by kernel_rfl) (by kernel_rfl) (by kernel_rfl) (by kernel_rfl) ?_; simp [Ex.d_eq]
      try simp [selP, S1, S2, Ex.d_eq]
      all_goals (first | (simp [n1, ul1, Ex.d_eq]; done) | (simp [n2, ul2, Ex.d_eq]; done) | (simp [n1, ul1, n2, ul2, Ex.d_eq]; done))
    obtain ⟨u2, e2, hu2⟩ := form_one' hq n2
    have ux2 : q.x = u2 := by rw [e2]; rfl
    have ul2 : q.l = [u2] := by rw [e2]; rfl
    by_cases w2 : u2.op = 14
    case neg =>
      have S2 : selP1 q p = none := by simp [selP1, ux2, w2]
      simp [n2, ul2, w2, Ex.d_eq]
      refine adraw [(2, 1)] (by kernel_rfl) (by kernel_rfl) (by kernel_rfl) (by kernel_rfl) ?_; simp [Ex.d_eq]
      try simp [selP, S1, S2, Ex.d_eq]
      all_goals (first | (simp [n1, ul1, Ex.d_eq]; done) | (simp [n2, ul2, Ex.d_eq]; done) | (simp [n1, ul1, n2, ul2, Ex.d_eq]; done))
    obtain ⟨x2, y2, rfl, hx2, hy2⟩ := form_two' hu2 w2 (by omega) (by omega)
    simp [n2, ul2, Ex.d_eq]
    refine adC_of (rpair_af p x2 y2 hp) (by simp) trivial (by simp) (by first | (simp [Ex.d_eq]; done) | (simp [n1, ul1, Ex.d_eq]; done)) ?_; simp [Ex.d_eq]
    cases hP2 : pairB p x2 y2
    case false =>
      have S2 : selP1 q p = none := by simp [selP1, ux2, hP2]
      unfold pairB at hP2
      simp [hP2, Ex.d_eq]
      refine adraw [(2, 1)] (by kernel_rfl) (by kernel_rfl) (by kernel_rfl) (by kernel_rfl) ?_; simp [Ex.d_eq]
      try simp [selP, S1, S2, Ex.d_eq]
      all_goals (first | (simp [n1, ul1, Ex.d_eq]; done) | (simp [n2, ul2, Ex.d_eq]; done) | (simp [n1, ul1, n2, ul2, Ex.d_eq]; done))
    have S2 : selP1 q p = some (x2, y2) := by simp [selP1, n2, ux2, hP2]
    unfold pairB at hP2
    simp [hP2, Ex.d_eq]
    refine adraw [(14, 8), (14, 11), (14, 13)] (by kernel_rfl) (by kernel_rfl) (by kernel_rfl) (by kernel_rfl) ?_; simp [Ex.d_eq]
    try simp [n2, ul2, selP, S1, S2, Ex.d_eq]
    all_goals (first | (simp [n1, ul1, Ex.d_eq]; done) | (simp [n2, ul2, Ex.d_eq]; done) | (simp [n1, ul1, n2, ul2, Ex.d_eq]; done))
  have S1 : selP1 p q = some (x1, y1) := by simp [selP1, n1, ux1, hP1]
  unfold pairB at hP1
  simp [hP1, Ex.d_eq]
  refine adraw [(14, 8), (14, 11), (14, 13)] (by kernel_rfl) (by kernel_rfl) (by kernel_rfl) (by kernel_rfl) ?_; simp [Ex.d_eq]
  try simp [n1, ul1, selP, S1, Ex.d_eq]
  all_goals (first | (simp [n1, ul1, Ex.d_eq]; done) | (simp [n2, ul2, Ex.d_eq]; done) | (simp [n1, ul1, n2, ul2, Ex.d_eq]; done))
end Go.Proofs.YtlfkighdmheniaaGreatDoor

/- The reference's first match is the program's: plain. No program in sight. -/
namespace Go.Proofs.YtlfkighdmheniaaGreatDoor
open Go.RowKit
theorem bool_comm2 (a b c d : Bool) : (a && b || c && d) = (c && d || a && b) := by cases a <;> cases b <;> cases c <;> cases d <;> rfl
/-- The pairs of an exclusive or. -/
theorem any_pair (z x y : Ex) (hf : formB z = true) : ((ordS z 8).any fun r => sameB r.1 x && sameB r.2 y) = pairB z x y := by
  unfold pairB
  by_cases h : z.op = 8
  · obtain ⟨p, q, rfl, _, _⟩ := form_two' hf h (by omega) (by omega)
    simp only [ord_two, comB]
    simp
    rw [Bool.and_comm (sameB q x) (sameB p y)]
  · rw [ord_not h]
    simp [h]
theorem selP_any (z w : Ex) (g : Bool) (hf : formB z = true) : ((ordS z 6).any fun q => decide (q.2.op = 17) && decide (q.2.x.op = 14) && ((ordS q.1 8).any fun r => sameB r.1 q.2.x.x && sameB r.2 q.2.x.y) && sameB w (if g then q.2.x.x else q.2.x.y)) =
    match selP z with
    | some (x, y) => sameB w (if g then x else y)
    | none => false := by
  by_cases h : z.op = 6
  case neg =>
    rw [ord_not h]
    simp [selP, h]
  obtain ⟨p, q, rfl, hp, hq⟩ := form_two' hf h (by omega) (by omega)
  have ho : ordS (eTwo 6 p q) 6 = [(p, q), (q, p)] := by simp [ord_two, comB]
  rw [ho]
  simp only [List.any_cons, List.any_nil, Bool.or_false, any_pair p _ _ hp, any_pair q _ _ hq]
  simp only [selP, if_true, x_two, y_two, eTwo_op]
  unfold selP1
  by_cases hp17 : p.op = 17
  · have hq0 : ∀ x y, pairB p x y = false := fun x y => by simp [pairB, hp17]
    simp only [hq0, hp17]
    cases h1 : decide (p.x.op = 14) <;> cases h2 : pairB q p.x.x p.x.y <;> simp_all
  · by_cases hq17 : q.op = 17
    · simp only [hp17, hq17]
      cases h1 : decide (q.x.op = 14) <;> cases h2 : pairB p q.x.x q.x.y <;> simp_all
    · simp [hp17, hq17]
/-- What the reference's selection answers. -/
def selN (e : Ex) : Option Nat := if absB e = true then some 10 else if selB e false = true then some 11 else if selB e true = true then some 12 else none
def selC (z w : Ex) (g : Bool) : Bool := match selP z with
  | some (x, y) => sameB w (if g then x else y)
  | none => false
theorem selB_two (a b : Ex) (g : Bool) (ha : formB a = true) (hb : formB b = true) : selB (eTwo 8 a b) g = (selC b a g || selC a b g) := by
  unfold selB
  have ho : ordS (eTwo 8 a b) 8 = [(a, b), (b, a)] := by simp [ord_two, comB]
  rw [ho]
  simp only [List.any_cons, List.any_nil, Bool.or_false]
  rw [selP_any b a g hb, selP_any a b g ha]
  rfl
theorem selB_not {e : Ex} {g : Bool} (h : ¬ e.op = 8) : selB e g = false := by
  unfold selB
  rw [ord_not h]
  rfl
theorem absB_not {e : Ex} (h : ¬ e.op = 4) : absB e = false := by simp [absB, h]
end Go.Proofs.YtlfkighdmheniaaGreatDoor

/- Contracts: the reference's selection, match, rewritten, Expr, Match. -/
namespace Go.Proofs.YtlfkighdmheniaaGreatDoor
open Go.RowKit
def selStr (e : Ex) : ByteArray := match selN e with
  | some i => nm i
  | none => ⟨#[]⟩
theorem rselection_af (op : Int) (a b : Ex) (ha : formB a = true) (hb : formB b = true) : AF Tryz.prog 101 [exA (eTwo op a b)] (aS (selStr (eTwo op a b))) := by
  by_cases h4 : op = 4
  · subst h4
    have hsel : selStr (eTwo 4 a b) = if absB (eTwo 4 a b) = true then nm 10 else ⟨#[]⟩ := by
      unfold selStr selN
      rw [selB_not (e := eTwo 4 a b) (g := false) (by simp), selB_not (e := eTwo 4 a b) (g := true) (by simp)]
      cases absB (eTwo 4 a b) <;> rfl
    rw [hsel]
    unfold absB
    by_cases h11 : b.op = 11
    case neg =>
      refine af_of Tryz.func101 rfl (by kernel_rfl) (by simp [Tryz.ntmps101]) fun _ => ?_; simp [Tryz.f101, Ex.d_eq]
      simp [h11, hi_not h11, Ex.d_eq]
      refine adraw [] (by kernel_rfl) (by kernel_rfl) (by kernel_rfl) (by kernel_rfl) ?_; simp [Ex.d_eq]
      simp [h11, hi_not h11, Ex.d_eq]
    obtain ⟨p, q, rfl, hp, hq⟩ := form_two' hb h11 (by omega) (by omega)
    simp only [y_two, x_two, hi_two, eTwo_op]
    obtain ⟨P, hP⟩ : ∃ P, pairB a p (eTwo 11 p q) = P := ⟨_, rfl⟩
    have hap := any_pair a p (eTwo 11 p q) ha
    rw [hP] at hap
    have c := rpair_af a p (eTwo 11 p q) ha
    rw [show (decide (a.op = 8) && (sameB a.x p && sameB a.y (eTwo 11 p q) || sameB a.x (eTwo 11 p q) && sameB a.y p)) = P from hP] at c
    cases h31 : isB q 31
    · refine af_of Tryz.func101 rfl (by kernel_rfl) (by simp [Tryz.ntmps101]) fun _ => ?_; simp [Tryz.f101, Ex.d_eq]
      refine adraw [] (by kernel_rfl) (by kernel_rfl) (by kernel_rfl) (by kernel_rfl) ?_; simp [Ex.d_eq]
      refine adC_of (risconst_af q 31) (by simp) trivial (by simp) (by simp [Ex.d_eq]) ?_; simp [Ex.d_eq]
      simp [h31, Ex.d_eq]
    simp only [if_true, hap]
    refine af_of Tryz.func101 rfl (by kernel_rfl) (by simp [Tryz.ntmps101]) fun _ => ?_; simp [Tryz.f101, Ex.d_eq]
    refine adraw [] (by kernel_rfl) (by kernel_rfl) (by kernel_rfl) (by kernel_rfl) ?_; simp [Ex.d_eq]
    refine adC_of (risconst_af q 31) (by simp) trivial (by simp) (by simp [Ex.d_eq]) ?_; simp [Ex.d_eq]
    simp [h31, Ex.d_eq]
    refine adC_of c (by simp) trivial (by simp) (by simp [Ex.d_eq]) ?_; simp [Ex.d_eq]
    cases P <;> simp [nm, nmL]
  by_cases h8 : op = 8
  · subst h8
    have hsel : selStr (eTwo 8 a b) = if (selC b a false || selC a b false) = true then nm 11 else if (selC b a true || selC a b true) = true then nm 12 else ⟨#[]⟩ := by
      unfold selStr selN
      rw [absB_not (e := eTwo 8 a b) (by simp), selB_two a b false ha hb, selB_two a b true ha hb]
      cases (selC b a false || selC a b false) <;> cases (selC b a true || selC a b true) <;> rfl
    rw [hsel]
    unfold selC
    cases hA : selP a with
    | none =>
      cases hB : selP b with
      | none =>
        refine af_of Tryz.func101 rfl (by kernel_rfl) (by simp [Tryz.ntmps101]) fun _ => ?_; simp [Tryz.f101, Ex.d_eq]
        refine aLoop_iter 3 ?_; simp [Ex.d_eq]
        refine aLoop_iter 3 ?_; simp [Ex.d_eq]
        refine aCall_of (rselected_af a ha) (by simp) (by simp [Ex.d_eq]) ?_; simp [Ex.d_eq]
        simp [hA, Ex.d_eq]
        refine adraw [] (by kernel_rfl) (by kernel_rfl) (by kernel_rfl) (by kernel_rfl) ?_; simp [Ex.d_eq]
        refine adraw [] (by kernel_rfl) (by kernel_rfl) (by kernel_rfl) (by kernel_rfl) ?_; simp [Ex.d_eq]
        refine aCall_of (rselected_af b hb) (by simp) (by simp [Ex.d_eq]) ?_; simp [Ex.d_eq]
        simp [hB, Ex.d_eq]
        refine adraw [] (by kernel_rfl) (by kernel_rfl) (by kernel_rfl) (by kernel_rfl) ?_; simp [Ex.d_eq]
        refine adraw [] (by kernel_rfl) (by kernel_rfl) (by kernel_rfl) (by kernel_rfl) ?_; simp [Ex.d_eq]
        refine aLoop_iter 3 ?_; simp [Ex.d_eq]
        refine aCall_of (rselected_af a ha) (by simp) (by simp [Ex.d_eq]) ?_; simp [Ex.d_eq]
        simp [hA, Ex.d_eq]
        refine adraw [] (by kernel_rfl) (by kernel_rfl) (by kernel_rfl) (by kernel_rfl) ?_; simp [Ex.d_eq]
        refine adraw [] (by kernel_rfl) (by kernel_rfl) (by kernel_rfl) (by kernel_rfl) ?_; simp [Ex.d_eq]
        refine aCall_of (rselected_af b hb) (by simp) (by simp [Ex.d_eq]) ?_; simp [Ex.d_eq]
        simp [hB, Ex.d_eq]
        refine adraw [] (by kernel_rfl) (by kernel_rfl) (by kernel_rfl) (by kernel_rfl) ?_; simp [Ex.d_eq]
        refine adraw [] (by kernel_rfl) (by kernel_rfl) (by kernel_rfl) (by kernel_rfl) ?_; simp [Ex.d_eq]
        all_goals try simp [nm, nmL]
      | some rb =>
        obtain ⟨xb, yb⟩ := rb
        refine af_of Tryz.func101 rfl (by kernel_rfl) (by simp [Tryz.ntmps101]) fun _ => ?_; simp [Tryz.f101, Ex.d_eq]
        refine aLoop_iter 3 ?_; simp [Ex.d_eq]
        refine aLoop_iter 3 ?_; simp [Ex.d_eq]
        refine aCall_of (rselected_af a ha) (by simp) (by simp [Ex.d_eq]) ?_; simp [Ex.d_eq]
        simp [hA, Ex.d_eq]
        refine adraw [] (by kernel_rfl) (by kernel_rfl) (by kernel_rfl) (by kernel_rfl) ?_; simp [Ex.d_eq]
        refine adraw [] (by kernel_rfl) (by kernel_rfl) (by kernel_rfl) (by kernel_rfl) ?_; simp [Ex.d_eq]
        refine aCall_of (rselected_af b hb) (by simp) (by simp [Ex.d_eq]) ?_; simp [Ex.d_eq]
        simp [hB, Ex.d_eq]
        refine adraw [] (by kernel_rfl) (by kernel_rfl) (by kernel_rfl) (by kernel_rfl) ?_; simp [Ex.d_eq]
        refine adC_of (refsame_af a yb) (by simp) trivial (by simp) (by simp [Ex.d_eq]) ?_; simp [Ex.d_eq]
        cases s1 : sameB a yb
        case true => simp [nm, nmL]
        simp [Ex.d_eq]
        refine adraw [] (by kernel_rfl) (by kernel_rfl) (by kernel_rfl) (by kernel_rfl) ?_; simp [Ex.d_eq]
        refine aLoop_iter 3 ?_; simp [Ex.d_eq]
        refine aCall_of (rselected_af a ha) (by simp) (by simp [Ex.d_eq]) ?_; simp [Ex.d_eq]
        simp [hA, Ex.d_eq]
        refine adraw [] (by kernel_rfl) (by kernel_rfl) (by kernel_rfl) (by kernel_rfl) ?_; simp [Ex.d_eq]
        refine adraw [] (by kernel_rfl) (by kernel_rfl) (by kernel_rfl) (by kernel_rfl) ?_; simp [Ex.d_eq]
        refine aCall_of (rselected_af b hb) (by simp) (by simp [Ex.d_eq]) ?_; simp [Ex.d_eq]
        simp [hB, Ex.d_eq]
        refine adraw [] (by kernel_rfl) (by kernel_rfl) (by kernel_rfl) (by kernel_rfl) ?_; simp [Ex.d_eq]
        refine adraw [] (by kernel_rfl) (by kernel_rfl) (by kernel_rfl) (by kernel_rfl) ?_; simp [Ex.d_eq]
        refine adC_of (refsame_af a xb) (by simp) trivial (by simp) (by simp [Ex.d_eq]) ?_; simp [Ex.d_eq]
        cases s3 : sameB a xb
        case true => simp [nm, nmL]
        simp [Ex.d_eq]
        all_goals try simp [nm, nmL]
    | some ra =>
      obtain ⟨xa, ya⟩ := ra
      cases hB : selP b with
      | none =>
        refine af_of Tryz.func101 rfl (by kernel_rfl) (by simp [Tryz.ntmps101]) fun _ => ?_; simp [Tryz.f101, Ex.d_eq]
        refine aLoop_iter 3 ?_; simp [Ex.d_eq]
        refine aLoop_iter 3 ?_; simp [Ex.d_eq]
        refine aCall_of (rselected_af a ha) (by simp) (by simp [Ex.d_eq]) ?_; simp [Ex.d_eq]
        simp [hA, Ex.d_eq]
        refine adraw [] (by kernel_rfl) (by kernel_rfl) (by kernel_rfl) (by kernel_rfl) ?_; simp [Ex.d_eq]
        refine adC_of (refsame_af b ya) (by simp) trivial (by simp) (by simp [Ex.d_eq]) ?_; simp [Ex.d_eq]
        cases s0 : sameB b ya
        case true => simp [nm, nmL]
        simp [Ex.d_eq]
        refine adraw [] (by kernel_rfl) (by kernel_rfl) (by kernel_rfl) (by kernel_rfl) ?_; simp [Ex.d_eq]
        refine aCall_of (rselected_af b hb) (by simp) (by simp [Ex.d_eq]) ?_; simp [Ex.d_eq]
        simp [hB, Ex.d_eq]
        refine adraw [] (by kernel_rfl) (by kernel_rfl) (by kernel_rfl) (by kernel_rfl) ?_; simp [Ex.d_eq]
        refine adraw [] (by kernel_rfl) (by kernel_rfl) (by kernel_rfl) (by kernel_rfl) ?_; simp [Ex.d_eq]
        refine aLoop_iter 3 ?_; simp [Ex.d_eq]
        refine aCall_of (rselected_af a ha) (by simp) (by simp [Ex.d_eq]) ?_; simp [Ex.d_eq]
        simp [hA, Ex.d_eq]
        refine adraw [] (by kernel_rfl) (by kernel_rfl) (by kernel_rfl) (by kernel_rfl) ?_; simp [Ex.d_eq]
        refine adraw [] (by kernel_rfl) (by kernel_rfl) (by kernel_rfl) (by kernel_rfl) ?_; simp [Ex.d_eq]
        refine adC_of (refsame_af b xa) (by simp) trivial (by simp) (by simp [Ex.d_eq]) ?_; simp [Ex.d_eq]
        cases s2 : sameB b xa
        case true => simp [nm, nmL]
        simp [Ex.d_eq]
        refine aCall_of (rselected_af b hb) (by simp) (by simp [Ex.d_eq]) ?_; simp [Ex.d_eq]
        simp [hB, Ex.d_eq]
        refine adraw [] (by kernel_rfl) (by kernel_rfl) (by kernel_rfl) (by kernel_rfl) ?_; simp [Ex.d_eq]
        refine adraw [] (by kernel_rfl) (by kernel_rfl) (by kernel_rfl) (by kernel_rfl) ?_; simp [Ex.d_eq]
        all_goals try simp [nm, nmL]
      | some rb =>
        obtain ⟨xb, yb⟩ := rb
        refine af_of Tryz.func101 rfl (by kernel_rfl) (by simp [Tryz.ntmps101]) fun _ => ?_; simp [Tryz.f101, Ex.d_eq]
        refine aLoop_iter 3 ?_; simp [Ex.d_eq]
        refine aLoop_iter 3 ?_; simp [Ex.d_eq]
        refine aCall_of (rselected_af a ha) (by simp) (by simp [Ex.d_eq]) ?_; simp [Ex.d_eq]
        simp [hA, Ex.d_eq]
        refine adraw [] (by kernel_rfl) (by kernel_rfl) (by kernel_rfl) (by kernel_rfl) ?_; simp [Ex.d_eq]
        refine adC_of (refsame_af b ya) (by simp) trivial (by simp) (by simp [Ex.d_eq]) ?_; simp [Ex.d_eq]
        cases s0 : sameB b ya
        case true => simp [nm, nmL]
        simp [Ex.d_eq]
        refine adraw [] (by kernel_rfl) (by kernel_rfl) (by kernel_rfl) (by kernel_rfl) ?_; simp [Ex.d_eq]
        refine aCall_of (rselected_af b hb) (by simp) (by simp [Ex.d_eq]) ?_; simp [Ex.d_eq]
        simp [hB, Ex.d_eq]
        refine adraw [] (by kernel_rfl) (by kernel_rfl) (by kernel_rfl) (by kernel_rfl) ?_; simp [Ex.d_eq]
        refine adC_of (refsame_af a yb) (by simp) trivial (by simp) (by simp [Ex.d_eq]) ?_; simp [Ex.d_eq]
        cases s1 : sameB a yb
        case true => simp [nm, nmL]
        simp [Ex.d_eq]
        refine adraw [] (by kernel_rfl) (by kernel_rfl) (by kernel_rfl) (by kernel_rfl) ?_; simp [Ex.d_eq]
        refine aLoop_iter 3 ?_; simp [Ex.d_eq]
        refine aCall_of (rselected_af a ha) (by simp) (by simp [Ex.d_eq]) ?_; simp [Ex.d_eq]
        simp [hA, Ex.d_eq]
        refine adraw [] (by kernel_rfl) (by kernel_rfl) (by kernel_rfl) (by kernel_rfl) ?_; simp [Ex.d_eq]
        refine adraw [] (by kernel_rfl) (by kernel_rfl) (by kernel_rfl) (by kernel_rfl) ?_; simp [Ex.d_eq]
        refine adC_of (refsame_af b xa) (by simp) trivial (by simp) (by simp [Ex.d_eq]) ?_; simp [Ex.d_eq]
        cases s2 : sameB b xa
        case true => simp [nm, nmL]
        simp [Ex.d_eq]
        refine aCall_of (rselected_af b hb) (by simp) (by simp [Ex.d_eq]) ?_; simp [Ex.d_eq]
        simp [hB, Ex.d_eq]
        refine adraw [] (by kernel_rfl) (by kernel_rfl) (by kernel_rfl) (by kernel_rfl) ?_; simp [Ex.d_eq]
        refine adraw [] (by kernel_rfl) (by kernel_rfl) (by kernel_rfl) (by kernel_rfl) ?_; simp [Ex.d_eq]
        refine adC_of (refsame_af a xb) (by simp) trivial (by simp) (by simp [Ex.d_eq]) ?_; simp [Ex.d_eq]
        cases s3 : sameB a xb
        case true => simp [nm, nmL]
        simp [Ex.d_eq]
        all_goals try simp [nm, nmL]
  · have hsel : selStr (eTwo op a b) = ⟨#[]⟩ := by
      unfold selStr selN
      rw [absB_not (e := eTwo op a b) (by simpa using h4), selB_not (e := eTwo op a b) (g := false) (by simpa using h8), selB_not (e := eTwo op a b) (g := true) (by simpa using h8)]
      rfl
    rw [hsel]
    refine af_of Tryz.func101 rfl (by kernel_rfl) (by simp [Tryz.ntmps101]) fun _ => ?_; simp [Tryz.f101, Ex.d_eq]
    simp [h4, h8]
/-- What the reference's match answers. -/
def rmA (e : Ex) : AV := match firstS e 0 13 with
  | some (i, x) => nA (nm i) x
  | none => nA ⟨#[]⟩ e
theorem firstS_nxS (e : Ex) : nxS [(0, sumS e 3), (1, sumS e 4), (2, negS e), (3, invS e), (4, sgnS e), (5, zerS e), (6, nzS e), (7, restS e), (8, signS e), (9, shfS e), (10, if absB e then some e else none), (11, if selB e false then some e else none), (12, if selB e true then some e else none)] e = rmA e := by
  have h : ∀ (n i : Nat), nxS ((List.range' i n).map fun j => (j, applyS j e)) e = match firstS e i n with
      | some (i, x) => nA (nm i) x
      | none => nA ⟨#[]⟩ e := by
    intro n
    induction n with
    | zero => intro i; rfl
    | succ n ih =>
      intro i
      rw [List.range'_succ, List.map_cons, first_step]
      cases h : applyS i e with
      | some x => rfl
      | none => exact ih (i + 1)
  exact h 13 0
theorem apply_no {e : Ex} (h : e.op < 3 ∨ 15 < e.op) : ∀ i, applyS i e = none := by
  have h3 : ¬ e.op = 3 := by omega
  have h4 : ¬ e.op = 4 := by omega
  have h8 : ¬ e.op = 8 := by omega
  have h9 : ¬ e.op = 9 := by omega
  have h10 : ¬ e.op = 10 := by omega
  have h11 : ¬ e.op = 11 := by omega
  intro i
  match i with
  | 0 => simp [applyS, sumS, h3]
  | 1 => simp [applyS, sumS, h4]
  | 2 => exact neg_no h3
  | 3 => exact inv_no h3 h4
  | 4 => simp [applyS, sgnS, extS, shS, h11]
  | 5 => simp [applyS, zerS, extS, shS, h10]
  | 6 => simp [applyS, nzS, hi_not h10]
  | 7 => simp [applyS, restS, h4]
  | 8 => simp [applyS, signS, hi_not h10]
  | 9 => simp [applyS, shfS, shS, h9]
  | 10 => simp [applyS, absB_not h4]
  | 11 => simp [applyS, selB_not h8]
  | (n + 12) => simp [applyS, selB_not h8]
theorem first_no {e : Ex} (h : e.op < 3 ∨ 15 < e.op) : ∀ n i, firstS e i n = none
  | 0, _ => rfl
  | n + 1, i => by rw [first_step, apply_no h i]; exact first_no h n (i + 1)
theorem rmatch_af (e : Ex) (hf : formB e = true) : AF Tryz.prog 74 [exA e] (rmA e) := by
  by_cases hop : 3 ≤ e.op ∧ e.op ≤ 15
  case neg =>
    have hlen : ¬ e.l.length = 2 := by
      have h1 := (form_all hf).1
      have h2 := form_op hf
      intro hl
      rw [hl] at h1
      rcases (show e.op = 1 ∨ e.op = 2 ∨ e.op = 16 ∨ e.op = 17 ∨ e.op = 18 ∨ e.op = 19 by omega) with h | h | h | h | h | h
      · rw [h, okE_con] at h1; omega
      · rw [h, okE_var] at h1; omega
      · rw [h, okE_one (.inl rfl)] at h1; omega
      · rw [h, okE_one (.inr rfl)] at h1; omega
      · rw [h, okE_load] at h1; omega
      · rw [h, okE_sext] at h1; omega
    unfold rmA
    rw [first_no (by omega)]
    refine af_of Tryz.func74 rfl (by kernel_rfl) (by simp [Tryz.ntmps74]) fun _ => ?_; simp [Tryz.f74, Ex.d_eq]
    simp [show ¬ (e.l.length : Int) = 2 by omega]
    refine adraw [] (by kernel_rfl) (by kernel_rfl) (by kernel_rfl) (by kernel_rfl) ?_; simp [Ex.d_eq]
  obtain ⟨op, ho⟩ : ∃ op, e.op = op := ⟨_, rfl⟩
  rw [ho] at hop
  obtain ⟨a, b, rfl, ha, hb⟩ := form_two' hf ho hop.1 hop.2
  rw [← firstS_nxS]
  have c0 := rmultiples_af op a b ha hb
  refine af_of Tryz.func74 rfl (by kernel_rfl) (by simp [Tryz.ntmps74]) fun _ => ?_; simp [Tryz.f74, Ex.d_eq]
  refine adraw [] (by kernel_rfl) (by kernel_rfl) (by kernel_rfl) (by kernel_rfl) ?_; simp [Ex.d_eq]
  have g0 := c0
  cases h0 : sumS (eTwo op a b) 3 with
  | some x =>
    simp only [h0, nxS_some, nxS_none] at g0
    refine adC_of g0 (by simp) trivial (by simp) (by simp [Ex.d_eq]) ?_; simp [Ex.d_eq]
    try simp [nm, nmL]
    refine adraw [] (by kernel_rfl) (by kernel_rfl) (by kernel_rfl) (by kernel_rfl) ?_; simp [Ex.d_eq]
    all_goals try simp [nm, nmL, Ex.d_eq]
  | none =>
  cases h1 : sumS (eTwo op a b) 4 with
  | some x =>
    simp only [h0, h1, nxS_some, nxS_none] at g0
    refine adC_of g0 (by simp) trivial (by simp) (by simp [Ex.d_eq]) ?_; simp [Ex.d_eq]
    try simp [nm, nmL]
    refine adraw [] (by kernel_rfl) (by kernel_rfl) (by kernel_rfl) (by kernel_rfl) ?_; simp [Ex.d_eq]
    all_goals try simp [nm, nmL, Ex.d_eq]
  | none =>
  simp only [h0, h1, nxS_some, nxS_none, nxS_nil] at g0
  refine adC_of g0 (by simp) trivial (by simp) (by simp [Ex.d_eq]) ?_; simp [Ex.d_eq]
  have g2 := rnegation_af (eTwo op a b) hf
  cases h2 : negS (eTwo op a b) with
  | some x =>
    simp only [h2, nxS_some, nxS_none] at g2
    refine aCall_of g2 (by simp) (by simp [Ex.d_eq]) ?_; simp [Ex.d_eq]
    try simp [nm, nmL]
    refine adraw [] (by kernel_rfl) (by kernel_rfl) (by kernel_rfl) (by kernel_rfl) ?_; simp [Ex.d_eq]
    all_goals try simp [nm, nmL, Ex.d_eq]
  | none =>
  cases h3 : invS (eTwo op a b) with
  | some x =>
    simp only [h2, h3, nxS_some, nxS_none] at g2
    refine aCall_of g2 (by simp) (by simp [Ex.d_eq]) ?_; simp [Ex.d_eq]
    try simp [nm, nmL]
    refine adraw [] (by kernel_rfl) (by kernel_rfl) (by kernel_rfl) (by kernel_rfl) ?_; simp [Ex.d_eq]
    all_goals try simp [nm, nmL, Ex.d_eq]
  | none =>
  simp only [h2, h3, nxS_some, nxS_none, nxS_nil] at g2
  refine aCall_of g2 (by simp) (by simp [Ex.d_eq]) ?_; simp [Ex.d_eq]
  have g4 := rextension_af (eTwo op a b) hf
  cases h4 : sgnS (eTwo op a b) with
  | some x =>
    simp only [h4, nxS_some, nxS_none] at g4
    refine aCall_of g4 (by simp) (by simp [Ex.d_eq]) ?_; simp [Ex.d_eq]
    try simp [nm, nmL]
    refine adraw [] (by kernel_rfl) (by kernel_rfl) (by kernel_rfl) (by kernel_rfl) ?_; simp [Ex.d_eq]
    all_goals try simp [nm, nmL, Ex.d_eq]
  | none =>
  cases h5 : zerS (eTwo op a b) with
  | some x =>
    simp only [h4, h5, nxS_some, nxS_none] at g4
    refine aCall_of g4 (by simp) (by simp [Ex.d_eq]) ?_; simp [Ex.d_eq]
    try simp [nm, nmL]
    refine adraw [] (by kernel_rfl) (by kernel_rfl) (by kernel_rfl) (by kernel_rfl) ?_; simp [Ex.d_eq]
    all_goals try simp [nm, nmL, Ex.d_eq]
  | none =>
  simp only [h4, h5, nxS_some, nxS_none, nxS_nil] at g4
  refine aCall_of g4 (by simp) (by simp [Ex.d_eq]) ?_; simp [Ex.d_eq]
  have g6 := rshifts_af op a b ha hb
  cases h6 : nzS (eTwo op a b) with
  | some x =>
    simp only [h6, nxS_some, nxS_none] at g6
    refine aCall_of g6 (by simp) (by simp [Ex.d_eq]) ?_; simp [Ex.d_eq]
    try simp [nm, nmL]
    refine adraw [] (by kernel_rfl) (by kernel_rfl) (by kernel_rfl) (by kernel_rfl) ?_; simp [Ex.d_eq]
    all_goals try simp [nm, nmL, Ex.d_eq]
  | none =>
  cases h7 : restS (eTwo op a b) with
  | some x =>
    simp only [h6, h7, nxS_some, nxS_none] at g6
    refine aCall_of g6 (by simp) (by simp [Ex.d_eq]) ?_; simp [Ex.d_eq]
    try simp [nm, nmL]
    refine adraw [] (by kernel_rfl) (by kernel_rfl) (by kernel_rfl) (by kernel_rfl) ?_; simp [Ex.d_eq]
    all_goals try simp [nm, nmL, Ex.d_eq]
  | none =>
  cases h8 : signS (eTwo op a b) with
  | some x =>
    simp only [h6, h7, h8, nxS_some, nxS_none] at g6
    refine aCall_of g6 (by simp) (by simp [Ex.d_eq]) ?_; simp [Ex.d_eq]
    try simp [nm, nmL]
    refine adraw [] (by kernel_rfl) (by kernel_rfl) (by kernel_rfl) (by kernel_rfl) ?_; simp [Ex.d_eq]
    all_goals try simp [nm, nmL, Ex.d_eq]
  | none =>
  cases h9 : shfS (eTwo op a b) with
  | some x =>
    simp only [h6, h7, h8, h9, nxS_some, nxS_none] at g6
    refine aCall_of g6 (by simp) (by simp [Ex.d_eq]) ?_; simp [Ex.d_eq]
    try simp [nm, nmL]
    refine adraw [] (by kernel_rfl) (by kernel_rfl) (by kernel_rfl) (by kernel_rfl) ?_; simp [Ex.d_eq]
    all_goals try simp [nm, nmL, Ex.d_eq]
  | none =>
  simp only [h6, h7, h8, h9, nxS_some, nxS_none, nxS_nil] at g6
  refine aCall_of g6 (by simp) (by simp [Ex.d_eq]) ?_; simp [Ex.d_eq]
  have gs := rselection_af op a b ha hb
  unfold selStr selN at gs
  cases habs : absB (eTwo op a b)
  case true =>
    simp only [habs, if_true] at gs
    refine aCall_of gs (by simp) (by simp [Ex.d_eq]) ?_; simp [Ex.d_eq]
    try simp [nm, nmL]
    refine adraw [] (by kernel_rfl) (by kernel_rfl) (by kernel_rfl) (by kernel_rfl) ?_; simp [Ex.d_eq]
    all_goals try simp [nm, nmL, Ex.d_eq]
  cases hmin : selB (eTwo op a b) false
  case true =>
    simp only [habs, hmin, if_true] at gs
    refine aCall_of gs (by simp) (by simp [Ex.d_eq]) ?_; simp [Ex.d_eq]
    try simp [nm, nmL]
    refine adraw [] (by kernel_rfl) (by kernel_rfl) (by kernel_rfl) (by kernel_rfl) ?_; simp [Ex.d_eq]
    all_goals try simp [nm, nmL, Ex.d_eq]
  cases hmax : selB (eTwo op a b) true
  case true =>
    simp only [habs, hmin, hmax, if_true] at gs
    refine aCall_of gs (by simp) (by simp [Ex.d_eq]) ?_; simp [Ex.d_eq]
    try simp [nm, nmL]
    refine adraw [] (by kernel_rfl) (by kernel_rfl) (by kernel_rfl) (by kernel_rfl) ?_; simp [Ex.d_eq]
    all_goals try simp [nm, nmL, Ex.d_eq]
  simp [habs, hmin, hmax] at gs
  refine aCall_of gs (by simp) (by simp [Ex.d_eq]) ?_; simp [Ex.d_eq]
  try simp [nm, nmL]
  refine adraw [] (by kernel_rfl) (by kernel_rfl) (by kernel_rfl) (by kernel_rfl) ?_; simp [Ex.d_eq]
  all_goals try simp [nm, nmL, Ex.d_eq]
end Go.Proofs.YtlfkighdmheniaaGreatDoor

/- Contracts: the reference's rewritten, Expr, Match. -/
namespace Go.Proofs.YtlfkighdmheniaaGreatDoor
open Go.RowKit
/-- The expression's box, its operands written no more: data; the blocks stay. -/
theorem sub_box2 (m : Nat) (o n v w : Int) (ver : Nat) (M : List Ex) :
    Sub m (aenv0 [.agg [aI .i64 o, aI .u32 n, aI .i64 v, aI .i64 w, .own 2 ver 0 M.length]]) [⟨0, true, 42, 5, [[aI .i64 o, aI .u32 n, aI .i64 v, aI .i64 w, .own 2 ver 0 M.length]]⟩, nilB, ⟨ver, true, 42, 5, dEls (Ex.ds M)⟩]
      (aupd (aenv0 [.agg [aI .i64 o, aI .u32 n, aI .i64 v, aI .i64 w, .own 2 ver 0 M.length]]) (some 0) (exA (.mk o n v w M))) [exB (.mk o n v w M), nilB, ⟨ver, false, 42, 5, dEls (Ex.ds M)⟩] := by
  have g1 := Sub.frz (n := m) [2] (e := aenv0 [.agg [aI .i64 o, aI .u32 n, aI .i64 v, aI .i64 w, .own 2 ver 0 M.length]]) (A := [⟨0, true, 42, 5, [[aI .i64 o, aI .u32 n, aI .i64 v, aI .i64 w, .own 2 ver 0 M.length]]⟩, nilB, ⟨ver, true, 42, 5, dEls (Ex.ds M)⟩])
  have hv : reiV true [⟨0, true, 42, 5, [[aI .i64 o, aI .u32 n, aI .i64 v, aI .i64 w, .own 2 ver 0 M.length]]⟩, nilB, ⟨ver, false, 42, 5, dEls (Ex.ds M)⟩] 9 (.own 2 ver 0 M.length) = some (.d (.sl 5 (Ex.ds M))) := by simp
  have hv2 : reiV true [⟨0, true, 42, 5, [[aI .i64 o, aI .u32 n, aI .i64 v, aI .i64 w, .own 2 ver 0 M.length]]⟩, nilB, ⟨ver, false, 42, 5, dEls (Ex.ds M)⟩] 9 (.agg [aI .i64 o, aI .u32 n, aI .i64 v, aI .i64 w, .own 2 ver 0 M.length]) = some (exA (.mk o n v w M)) := by simp
  have g0 := Sub.slot (n := m) (s := 0) (e := aenv0 [.agg [aI .i64 o, aI .u32 n, aI .i64 v, aI .i64 w, .own 2 ver 0 M.length]]) (VLe.rei hv2)
  have g2 := Sub.cell (n := m) (e := aupd (aenv0 [.agg [aI .i64 o, aI .u32 n, aI .i64 v, aI .i64 w, .own 2 ver 0 M.length]]) (some 0) (exA (.mk o n v w M))) (A := [⟨0, true, 42, 5, [[aI .i64 o, aI .u32 n, aI .i64 v, aI .i64 w, .own 2 ver 0 M.length]]⟩, nilB, ⟨ver, false, 42, 5, dEls (Ex.ds M)⟩]) (b := 0) (i := 0) (o := 4) rfl rfl rfl (VLe.rei hv)
  exact (g1.trans g0).trans g2
theorem aCall_box {g : FuncId} {r : AV} {d : Option Nat} {e : AEnv} {K : AKont} (hg : okF Tryz.prog g = true) (o n v w : Int) (ver : Nat) (M : List Ex) (h : AF Tryz.prog g [exA (.mk o n v w M)] r)
    (hk : K (aupd e d r) [exB (.mk o n v w M), nilB, ⟨ver, false, 42, 5, dEls (Ex.ds M)⟩]) :
    aCall Tryz.prog (.fn g [] []) [.agg [aI .i64 o, aI .u32 n, aI .i64 v, aI .i64 w, .own 2 ver 0 M.length]] [⟨0, true, 42, 5, [[aI .i64 o, aI .u32 n, aI .i64 v, aI .i64 w, .own 2 ver 0 M.length]]⟩, nilB, ⟨ver, true, 42, 5, dEls (Ex.ds M)⟩] d e K :=
  ⟨g, [], [], rfl, hg, AC.pre (sub_box2 _ o n v w ver M) (args' := [exA (.mk o n v w M)]) rfl ((AF.ac h (by simp)).mono fun r' A' ⟨e1, e2⟩ => by rw [e1, e2]; exact hk)⟩
theorem first_split (e : Ex) : ∀ (m i n : Nat), firstS e i (m + n) = match firstS e i m with
    | some r => some r
    | none => firstS e (i + m) n
  | 0, i, n => by simp [firstS]
  | m + 1, i, n => by
    rw [show m + 1 + n = (m + n) + 1 by omega, first_step, first_step]
    cases applyS i e with
    | some x => rfl
    | none =>
      simp only
      rw [first_split e m (i + 1) n, show i + 1 + m = i + (m + 1) by omega]
theorem nm_real : ∀ i, i < 10 → nm i ≠ ⟨#[]⟩ ∧ nm i ≠ nm 10 ∧ nm i ≠ nm 11 ∧ nm i ≠ nm 12 := by decide +kernel
theorem nm_ten : nm 10 = ⟨#[97, 98, 115, 111, 108, 117, 116, 101]⟩ ∧ nm 11 = ⟨#[109, 105, 110, 105, 109, 117, 109]⟩ ∧ nm 12 = ⟨#[109, 97, 120, 105, 109, 117, 109]⟩ := by decide +kernel
/-- The last three idioms replace nothing. -/
theorem first_last (e : Ex) : firstS e 10 3 = none ∨ firstS e 10 3 = some (10, e) ∨ firstS e 10 3 = some (11, e) ∨ firstS e 10 3 = some (12, e) := by
  simp only [firstS, applyS]
  cases absB e <;> cases selB e false <;> cases selB e true <;> simp
theorem rrewritten_af : ∀ (k : Nat) (x : Ex), formB x = true → x.wt ≤ k → x.nodes ≤ 1000000 → AF Tryz.prog 38 [exA x] (.tup [exA (rwF k x).1, aB (rwF k x).2]) := by
  intro k
  induction k with
  | zero => intro e _ h; have := wt_pos e; omega
  | succ k ih =>
    intro x hf hw hn
    have hlen := x.nodes_len
    have n1 : x.l.length ≤ maxLen := by unfold maxLen; omega
    have hch : ∀ y ∈ x.l, formB y = true ∧ y.wt ≤ k ∧ y.nodes ≤ 1000000 := fun y hy => ⟨(form_all hf).2 y hy, by have := wt_mem hy; omega, by have := Ex.nodes_mem hy; omega⟩
    refine af_of Tryz.func38 rfl (by kernel_rfl) (by simp [Tryz.ntmps38]) fun _ => ?_
    simp [Tryz.f38]
    refine aLoop_of (α := Nat) (fun i e A => i ≤ x.l.length ∧ A = [exB x, nilB, ⟨i, true, 42, 5, dEls (Ex.ds ((x.l.take i).map fun y => (rwF k y).1))⟩] ∧
      e 6 = aI .i64 i ∧ e 4 = .own 2 i 0 i ∧ e 1 = .ptr 0 0 0 0 ∧ e 2 = .ptr 1 0 0 0 ∧ e 5 = aB ((x.l.take i).any fun y => (rwF k y).2)) (fun i => x.l.length - i) 0 ((Sub.ghost 0 42 5).trans (Sub.slot (s := 4) (c := .own 2 0 0 0) ?_))
      ⟨by omega, by simp, by simp, by simp, by simp, by simp, by simp⟩ ?_
    · simp
      exact VLe.nil_own (k := ⟨0, true, 42, 5, []⟩) (by simp) rfl
    rintro i e A ⟨hi, rfl, e6, e4, e1, e2, e5⟩ K hK
    rcases Nat.lt_or_ge i x.l.length with hlt | hge
    case inl =>
      obtain ⟨y, hy⟩ : ∃ y, x.l[i]? = some y := ⟨_, List.getElem?_eq_getElem hlt⟩
      have hy2 := (List.getElem?_eq_some_iff.1 hy).2
      obtain ⟨y1, y2, y3⟩ := hch y (List.mem_of_getElem? hy)
      have hmin : min i x.l.length = i := by omega
      simp [e6, e4, e1, e5, hlt, hy, hy2, Ex.d_eq]
      refine aCall_of (ih y y1 y2 y3) (by simp) (by simp) ?_
      simp [e4, e5, Ex.d_eq, hmin]
      refine aRaw_app byt_36 ?_
      simp [e4, e5, Ex.d_eq, hmin]
      refine ⟨by unfold maxLen; omega, by omega, ?_⟩
      have hany : (x.l.take (i + 1)).any (fun y => (rwF k y).2) = ((x.l.take i).any (fun y => (rwF k y).2) || (rwF k y).2) := by
        rw [List.take_add_one, hy, List.any_append]
        simp
      have hels : dEls (Ex.ds (List.take (i + 1) (x.l.map fun y => (rwF k y).1))) = dEls (Ex.ds (List.take i (x.l.map fun y => (rwF k y).1))) ++ [[aI .i64 (rwF k y).1.op, aI .u32 (rwF k y).1.n, aI .i64 (rwF k y).1.v, aI .i64 (rwF k y).1.wd, .d (.sl 5 (Ex.ds (rwF k y).1.l))]] := by
        rw [List.take_add_one, List.getElem?_map, hy]
        simp [Ex.ds_map, dEls, Ex.d_eq]
      cases hC : (x.l.take i).any fun y => (rwF k y).2
      · simp [e6, succ_wrap hlt n1]
        refine hK (i + 1) _ _ _ _ (Sub.take 3 (Nat.zero_le _)) ⟨by omega, by rw [← hels]; simp, by simp, by simp, by simp [e1], by simp [e2], by simp [hany, hC]⟩ (by omega)
      · simp [e6, succ_wrap hlt n1]
        refine hK (i + 1) _ _ _ _ (Sub.take 3 (Nat.zero_le _)) ⟨by omega, by rw [← hels]; simp, by simp, by simp, by simp [e1], by simp [e2], by simp [hany, hC]⟩ (by omega)
    obtain rfl : i = x.l.length := by omega
    rw [List.take_length] at e5
    obtain ⟨M, hM⟩ : ∃ M, x.l.map (fun y => (rwF k y).1) = M := ⟨_, rfl⟩
    have hMl : x.l.length = M.length := by rw [← hM]; simp
    have hMf : formB (.mk x.op x.n x.v x.wd M) = true := by
      rw [← hM]
      exact form_map (f := fun y => (rwF k y).1) hf fun y hy => (rw_ok k y (hch y hy).1 (hch y hy).2.1).form
    have hmeas := map_meas (f := fun y => (rwF k y).1) x.l fun y hy => by
      have := rw_ok k y (hch y hy).1 (hch y hy).2.1
      exact ⟨this.wt, this.nodes, this.depth⟩
    have hMw : (Ex.mk x.op x.n x.v x.wd M).wt ≤ k + 1 := by rw [wt_mk, ← hM]; rw [wt_eq x] at hw; omega
    have hMn : (Ex.mk x.op x.n x.v x.wd M).nodes ≤ 1000000 := by rw [nodes_eq, ← hM]; rw [nodes_eq x] at hn; simp only [Ex.l_mk]; omega
    have hR : rwF (k + 1) x = match firstS (Ex.mk x.op x.n x.v x.wd M) 0 10 with
        | some (_, y) => ((rwF k y).1, true)
        | none => (Ex.mk x.op x.n x.v x.wd M, x.l.any fun y => (rwF k y).2) := by
      rw [← hM]
      rfl
    have hsp := first_split (Ex.mk x.op x.n x.v x.wd M) 10 0 3
    have hlast := first_last (Ex.mk x.op x.n x.v x.wd M)
    rw [hR]
    rw [List.take_length, hM]
    simp [e6, e4, e1, Ex.d_eq]
    rw [hMl]
    refine aCall_box (by simp) _ _ _ _ _ M (rmatch_af _ hMf) ?_
    unfold rmA
    rw [hsp]
    obtain ⟨F, hF⟩ : ∃ F, firstS (Ex.mk x.op x.n x.v x.wd M) 0 10 = F := ⟨_, rfl⟩
    rw [hF]
    obtain ⟨t10, t11, t12⟩ := nm_ten
    cases F with
    | some p =>
      obtain ⟨i, y⟩ := p
      obtain ⟨_, hi, hap, _⟩ := first_some hF
      have hl := apply_less hMf i (by omega) hap
      have hy := ih y hl.form (by have := hl.wt; omega) (by have := hl.nodes; omega)
      rcases (show i = 0 ∨ i = 1 ∨ i = 2 ∨ i = 3 ∨ i = 4 ∨ i = 5 ∨ i = 6 ∨ i = 7 ∨ i = 8 ∨ i = 9 by omega) with rfl | rfl | rfl | rfl | rfl | rfl | rfl | rfl | rfl | rfl <;>
      · simp [e1, e2, nm, nmL]
        refine aCall_of hy (by simp) (by simp) ?_
        simp [e2]
    | none =>
      rcases hlast with h | h | h | h
      · rw [h]
        simp [e1, e2, e5, Ex.d_eq]
      · rw [h]
        simp [e1, e2, e5, t10, Ex.d_eq]
      · rw [h]
        simp [e1, e2, e5, t11, Ex.d_eq]
      · rw [h]
        simp [e1, e2, e5, t12, Ex.d_eq]
end Go.Proofs.YtlfkighdmheniaaGreatDoor
