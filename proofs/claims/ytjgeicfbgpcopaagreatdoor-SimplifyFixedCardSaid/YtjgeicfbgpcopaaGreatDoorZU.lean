/- Texts that the claim leans on, laid one behind the other: Nl, Nm, Nn, No, Np. -/
import Derived.Test.YtjgeicfbgpcopaaGreatDoorZT
import Derived.Test.YtjgeicfbgpcopaaGreatDoorZP
import Derived.Test.YtjgeicfbgpcopaaGreatDoorZG
set_option linter.unusedSimpArgs false
set_option linter.unusedVariables false
set_option linter.unnecessarySimpa false
/- Contracts: simplify.binary (late), simplify.rule. -/
namespace Go.Proofs.YtjgeicfbgpcopaaGreatDoor
open Go.RowKit
/-- The rules for two operands that come after the signs. -/
def sLate (op : Int) (x y : Ex) : Option Ex := ((sSame op x y).or ((sTruth op x y).or ((sMove op x y).or (sBelow op x y))))
theorem below_no {op : Int} (x y : Ex) (h : op ≠ 15) : sBelow op x y = none := by simp [sBelow, h]
theorem smbinary0_af (op : Int) (x y : Ex) (hx : formB x = true) (sx : x.nodes ≤ 1000000000) (sy : y.nodes ≤ 1000000000) :
    ∃ j, AF Tryz.prog 207 [exA (eTwo op x y), aB false] (oA j (sLate op x y)) := by
  obtain ⟨j0, hj⟩ := smequal_af op x y sx
  have ht := smtruth_af op x y
  have hm := smmoved_af op x y hx sx
  unfold sLate
  cases hS : sSame op x y with
  | some r =>
    rw [hS] at hj
    refine ⟨eNil, ?_⟩
    refine af_of Tryz.func207 rfl (by kernel_rfl) (by simp [Tryz.ntmps207]) fun _ => ?_; simp [Tryz.f207, Ex.d_eq]
    refine adraw [(10, 5), (10, 7)] (by kernel_rfl) (by kernel_rfl) (by kernel_rfl) (by kernel_rfl) ?_; simp [Ex.d_eq]
    refine aCall_of (hj) (by simp) (by simp [Ex.d_eq]) ?_; simp [Ex.d_eq]
  | none =>
    rw [hS] at hj
    simp only [Option.none_or]
    cases hT : sTruth op x y with
    | some r =>
      rw [hT] at ht
      refine ⟨eNil, ?_⟩
      refine af_of Tryz.func207 rfl (by kernel_rfl) (by simp [Tryz.ntmps207]) fun _ => ?_; simp [Tryz.f207, Ex.d_eq]
      refine adraw [(10, 5), (10, 7)] (by kernel_rfl) (by kernel_rfl) (by kernel_rfl) (by kernel_rfl) ?_; simp [Ex.d_eq]
      refine aCall_of (hj) (by simp) (by simp [Ex.d_eq]) ?_; simp [Ex.d_eq]
      refine aCall_of (ht) (by simp) (by simp [Ex.d_eq]) ?_; simp [Ex.d_eq]
    | none =>
      rw [hT] at ht
      simp only [Option.none_or]
      cases hM : sMove op x y with
      | some r =>
        rw [hM] at hm
        refine ⟨eNil, ?_⟩
        refine af_of Tryz.func207 rfl (by kernel_rfl) (by simp [Tryz.ntmps207]) fun _ => ?_; simp [Tryz.f207, Ex.d_eq]
        refine adraw [(10, 5), (10, 7)] (by kernel_rfl) (by kernel_rfl) (by kernel_rfl) (by kernel_rfl) ?_; simp [Ex.d_eq]
        refine aCall_of (hj) (by simp) (by simp [Ex.d_eq]) ?_; simp [Ex.d_eq]
        refine aCall_of (ht) (by simp) (by simp [Ex.d_eq]) ?_; simp [Ex.d_eq]
        refine aCall_of (hm) (by simp) (by simp [Ex.d_eq]) ?_; simp [Ex.d_eq]
      | none =>
        rw [hM] at hm
        simp only [Option.none_or]
        by_cases h15 : op = 15
        · subst h15
          refine ⟨eNil, ?_⟩
          refine af_of Tryz.func207 rfl (by kernel_rfl) (by simp [Tryz.ntmps207]) fun _ => ?_; simp [Tryz.f207, Ex.d_eq]
          refine adraw [(10, 5), (10, 7)] (by kernel_rfl) (by kernel_rfl) (by kernel_rfl) (by kernel_rfl) ?_; simp [Ex.d_eq]
          refine aCall_of (hj) (by simp) (by simp [Ex.d_eq]) ?_; simp [Ex.d_eq]
          refine aCall_of (ht) (by simp) (by simp [Ex.d_eq]) ?_; simp [Ex.d_eq]
          refine aCall_of (hm) (by simp) (by simp [Ex.d_eq]) ?_; simp [Ex.d_eq]
          refine aCall_of (smbelow_af x y sx sy) (by simp) (by simp [Ex.d_eq]) ?_; simp [Ex.d_eq]
        · rw [below_no x y h15]
          refine ⟨eTwo op x y, ?_⟩
          refine af_of Tryz.func207 rfl (by kernel_rfl) (by simp [Tryz.ntmps207]) fun _ => ?_; simp [Tryz.f207, Ex.d_eq]
          refine adraw [(10, 5), (10, 7)] (by kernel_rfl) (by kernel_rfl) (by kernel_rfl) (by kernel_rfl) ?_; simp [Ex.d_eq]
          refine aCall_of (hj) (by simp) (by simp [Ex.d_eq]) ?_; simp [Ex.d_eq]
          refine aCall_of (ht) (by simp) (by simp [Ex.d_eq]) ?_; simp [Ex.d_eq]
          refine aCall_of (hm) (by simp) (by simp [Ex.d_eq]) ?_; simp [Ex.d_eq]
          simp [h15, Ex.d_eq]
theorem sTwo_eq (op : Int) (x y : Ex) : sTwo op x y = (sEarly op x y).or ((sSign op x y).or ((sLate op x y).or (sMask op x y))) := by
  simp only [sTwo, sLate, Option.or_assoc]
theorem signE_two {op : Int} (x y : Ex) (h3 : 3 ≤ op) (h15 : op ≤ 15) : sSignE (eTwo op x y) = sSign op x y := by
  unfold sSignE
  by_cases h : op = 3 ∨ op = 4
  · rw [if_pos (by simpa using h)]
    simp
  · rw [if_neg (by simpa using h), if_neg (by simp; omega)]
    unfold sSign
    rw [if_neg (by omega), if_neg (by omega), if_neg (by omega), if_neg (by omega)]
theorem extE_two {op : Int} (x y : Ex) (h15 : op ≤ 15) : sExtE (eTwo op x y) = sMask op x y := by
  unfold sExtE
  rw [if_neg (by simp; omega)]
  simp
theorem signE_no {e : Ex} (h : e.op ≠ 3 ∧ e.op ≠ 4 ∧ e.op ≠ 17) : sSignE e = none := by
  unfold sSignE
  rw [if_neg (by omega), if_neg (by omega)]
theorem extE_no {e : Ex} (h : e.op ≠ 6 ∧ e.op ≠ 19) : sExtE e = none := by
  unfold sExtE sMask
  rw [if_neg (by omega), if_neg (by intro hh; exact h.1 hh.1)]
theorem smrule_af (e : Ex) (hf : formB e = true) (hn : OkN e) (se : e.nodes ≤ 1000000000) : AF Tryz.prog 152 [exA e] (oA e (sRule e)) := by
  have hop := form_op hf
  have hc := smconstants_af e hf hn
  have hs := smsigns_af e hf se
  have hx := smextended_af e hf hn se
  unfold sRule
  cases hF : sFold e with
  | some r =>
    rw [hF] at hc
    simp only [Option.some_or]
    refine af_of Tryz.func152 rfl (by kernel_rfl) (by simp [Tryz.ntmps152]) fun _ => ?_; simp [Tryz.f152, Ex.d_eq]
    refine aCall_of (hc) (by simp) (by simp [Ex.d_eq]) ?_; simp [Ex.d_eq]
  | none =>
    rw [hF] at hc
    simp only [Option.none_or]
    by_cases h2 : e.op ≤ 2
    · have hR : sRest e = none := by
        unfold sRest
        rw [if_neg (by omega), if_neg (by omega), if_neg (by omega), if_neg (by omega)]
      rw [signE_no (by omega)] at hs
      rw [extE_no (by omega)] at hx
      rw [hR]
      refine af_of Tryz.func152 rfl (by kernel_rfl) (by simp [Tryz.ntmps152]) fun _ => ?_; simp [Tryz.f152, Ex.d_eq]
      refine aCall_of (hc) (by simp) (by simp [Ex.d_eq]) ?_; simp [Ex.d_eq]
      simp [show ¬ 3 ≤ e.op by omega]
      refine aCall_of (hs) (by simp) (by simp [Ex.d_eq]) ?_; simp [Ex.d_eq]
      simp [show ¬ e.op = 16 by omega]
      refine aCall_of (hx) (by simp) (by simp [Ex.d_eq]) ?_; simp [Ex.d_eq]
    by_cases h15 : e.op ≤ 15
    · obtain ⟨op, hoe⟩ : ∃ op, e.op = op := ⟨_, rfl⟩
      obtain ⟨x, y, he, hfx, hfy⟩ := form_two' hf hoe (by omega) (by omega)
      rw [hoe] at h2 h15 hop
      subst he
      clear hoe
      simp only [nodes_two] at se
      have ny : R32 y.n := (hn.l y (by simp)).n
      have hR : sRest (eTwo op x y) = sTwo op x y := by
        unfold sRest
        rw [if_neg (by simp; omega), if_neg (by simp; omega), if_neg (by simp; omega), if_pos (by simp; omega)]
        simp
      have h1 := smbinary1_af op x y (by omega) h15 hfx hfy ny (by omega) (by omega)
      obtain ⟨j, h0⟩ := smbinary0_af op x y hfx (by omega) (by omega)
      rw [signE_two x y (by omega) h15] at hs
      rw [extE_two x y h15] at hx
      rw [hR, sTwo_eq]
      cases hE : sEarly op x y with
      | some r =>
        rw [hE] at h1
        simp only [Option.some_or]
        refine af_of Tryz.func152 rfl (by kernel_rfl) (by simp [Tryz.ntmps152]) fun _ => ?_; simp [Tryz.f152, Ex.d_eq]
        refine aCall_of (hc) (by simp) (by simp [Ex.d_eq]) ?_; simp [Ex.d_eq]
        simp [show 3 ≤ op by omega, h15]
        refine aCall_of (h1) (by simp) (by simp [Ex.d_eq]) ?_; simp [Ex.d_eq]
      | none =>
        rw [hE] at h1
        simp only [Option.none_or]
        cases hS : sSign op x y with
        | some r =>
          rw [hS] at hs
          simp only [Option.some_or]
          refine af_of Tryz.func152 rfl (by kernel_rfl) (by simp [Tryz.ntmps152]) fun _ => ?_; simp [Tryz.f152, Ex.d_eq]
          refine aCall_of (hc) (by simp) (by simp [Ex.d_eq]) ?_; simp [Ex.d_eq]
          simp [show 3 ≤ op by omega, h15]
          refine aCall_of (h1) (by simp) (by simp [Ex.d_eq]) ?_; simp [Ex.d_eq]
          refine aCall_of (hs) (by simp) (by simp [Ex.d_eq]) ?_; simp [Ex.d_eq]
        | none =>
          rw [hS] at hs
          simp only [Option.none_or]
          cases hL : sLate op x y with
          | some r =>
            rw [hL] at h0
            simp only [Option.some_or]
            refine af_of Tryz.func152 rfl (by kernel_rfl) (by simp [Tryz.ntmps152]) fun _ => ?_; simp [Tryz.f152, Ex.d_eq]
            refine aCall_of (hc) (by simp) (by simp [Ex.d_eq]) ?_; simp [Ex.d_eq]
            simp [show 3 ≤ op by omega, h15]
            refine aCall_of (h1) (by simp) (by simp [Ex.d_eq]) ?_; simp [Ex.d_eq]
            refine aCall_of (hs) (by simp) (by simp [Ex.d_eq]) ?_; simp [Ex.d_eq]
            refine aCall_of (h0) (by simp) (by simp [Ex.d_eq]) ?_; simp [Ex.d_eq]
          | none =>
            rw [hL] at h0
            simp only [Option.none_or]
            refine af_of Tryz.func152 rfl (by kernel_rfl) (by simp [Tryz.ntmps152]) fun _ => ?_; simp [Tryz.f152, Ex.d_eq]
            refine aCall_of (hc) (by simp) (by simp [Ex.d_eq]) ?_; simp [Ex.d_eq]
            simp [show 3 ≤ op by omega, h15]
            refine aCall_of (h1) (by simp) (by simp [Ex.d_eq]) ?_; simp [Ex.d_eq]
            refine aCall_of (hs) (by simp) (by simp [Ex.d_eq]) ?_; simp [Ex.d_eq]
            refine aCall_of (h0) (by simp) (by simp [Ex.d_eq]) ?_; simp [Ex.d_eq]
            simp [show ¬ op = 16 by omega]
            refine aCall_of (hx) (by simp) (by simp [Ex.d_eq]) ?_; simp [Ex.d_eq]
    have h3 : ¬ e.op ≤ 15 := h15
    rcases (show e.op = 16 ∨ e.op = 17 ∨ e.op = 18 ∨ e.op = 19 by omega) with k | k | k | k
    · obtain ⟨x, he, hfx⟩ := form_one hf (.inl k)
      rw [k] at he
      subst he
      simp only [nodes_one] at se
      have hR : sRest (eOne 16 x) = sNot x := by simp [sRest]
      have hN := smnegated_af x hfx (by omega)
      rw [signE_no (by simp)] at hs
      rw [extE_no (by simp)] at hx
      rw [hR]
      cases hQ : sNot x with
      | some r =>
        rw [hQ] at hN
        refine af_of Tryz.func152 rfl (by kernel_rfl) (by simp [Tryz.ntmps152]) fun _ => ?_; simp [Tryz.f152, Ex.d_eq]
        refine aCall_of (hc) (by simp) (by simp [Ex.d_eq]) ?_; simp [Ex.d_eq]
        refine aCall_of (hs) (by simp) (by simp [Ex.d_eq]) ?_; simp [Ex.d_eq]
        refine aCall_of (hN) (by simp) (by simp [Ex.d_eq]) ?_; simp [Ex.d_eq]
      | none =>
        rw [hQ] at hN
        refine af_of Tryz.func152 rfl (by kernel_rfl) (by simp [Tryz.ntmps152]) fun _ => ?_; simp [Tryz.f152, Ex.d_eq]
        refine aCall_of (hc) (by simp) (by simp [Ex.d_eq]) ?_; simp [Ex.d_eq]
        refine aCall_of (hs) (by simp) (by simp [Ex.d_eq]) ?_; simp [Ex.d_eq]
        refine aCall_of (hN) (by simp) (by simp [Ex.d_eq]) ?_; simp [Ex.d_eq]
        refine aCall_of (hx) (by simp) (by simp [Ex.d_eq]) ?_; simp [Ex.d_eq]
    · obtain ⟨x, he, hfx⟩ := form_one hf (.inr k)
      rw [k] at he
      subst he
      have hR : sRest (eOne 17 x) = sNeg x := by simp [sRest]
      have hS : sSignE (eOne 17 x) = sNeg x := by simp [sSignE]
      rw [extE_no (by simp)] at hx
      rw [hS] at hs
      rw [hR]
      cases hQ : sNeg x with
      | some r =>
        rw [hQ] at hs
        refine af_of Tryz.func152 rfl (by kernel_rfl) (by simp [Tryz.ntmps152]) fun _ => ?_; simp [Tryz.f152, Ex.d_eq]
        refine aCall_of (hc) (by simp) (by simp [Ex.d_eq]) ?_; simp [Ex.d_eq]
        refine aCall_of (hs) (by simp) (by simp [Ex.d_eq]) ?_; simp [Ex.d_eq]
      | none =>
        rw [hQ] at hs
        refine af_of Tryz.func152 rfl (by kernel_rfl) (by simp [Tryz.ntmps152]) fun _ => ?_; simp [Tryz.f152, Ex.d_eq]
        refine aCall_of (hc) (by simp) (by simp [Ex.d_eq]) ?_; simp [Ex.d_eq]
        refine aCall_of (hs) (by simp) (by simp [Ex.d_eq]) ?_; simp [Ex.d_eq]
        refine aCall_of (hx) (by simp) (by simp [Ex.d_eq]) ?_; simp [Ex.d_eq]
    · have hR : sRest e = none := by simp [sRest, k]
      rw [signE_no (by omega)] at hs
      rw [extE_no (by omega)] at hx
      rw [hR]
      refine af_of Tryz.func152 rfl (by kernel_rfl) (by simp [Tryz.ntmps152]) fun _ => ?_; simp [Tryz.f152, Ex.d_eq]
      refine aCall_of (hc) (by simp) (by simp [Ex.d_eq]) ?_; simp [Ex.d_eq]
      simp [show 3 ≤ e.op by omega, show ¬ e.op ≤ 15 by omega]
      refine aCall_of (hs) (by simp) (by simp [Ex.d_eq]) ?_; simp [Ex.d_eq]
      simp [show ¬ e.op = 16 by omega]
      refine aCall_of (hx) (by simp) (by simp [Ex.d_eq]) ?_; simp [Ex.d_eq]
    · have hR : sRest e = sExt e.wd e.x := by simp [sRest, k]
      have hX : sExtE e = sExt e.wd e.x := by simp [sExtE, k]
      rw [signE_no (by omega)] at hs
      rw [hX] at hx
      rw [hR]
      refine af_of Tryz.func152 rfl (by kernel_rfl) (by simp [Tryz.ntmps152]) fun _ => ?_; simp [Tryz.f152, Ex.d_eq]
      refine aCall_of (hc) (by simp) (by simp [Ex.d_eq]) ?_; simp [Ex.d_eq]
      simp [show 3 ≤ e.op by omega, show ¬ e.op ≤ 15 by omega]
      refine aCall_of (hs) (by simp) (by simp [Ex.d_eq]) ?_; simp [Ex.d_eq]
      simp [show ¬ e.op = 16 by omega]
      refine aCall_of (hx) (by simp) (by simp [Ex.d_eq]) ?_; simp [Ex.d_eq]
end Go.Proofs.YtjgeicfbgpcopaaGreatDoor

/- Contracts: simplify.each, clone, simple, Expr, IsConst, Negated. -/
namespace Go.Proofs.YtjgeicfbgpcopaaGreatDoor
open Go.RowKit
set_option maxRecDepth 100000 in
theorem smeach_af (g : Nat) (F : Ex → Ex) (l : List Ex) (hlen : l.length ≤ 1000000) (hg : okF Tryz.prog g = true) (h : ∀ y ∈ l, AF Tryz.prog g [exA y] (exA (F y))) :
    AF Tryz.prog 105 [.d (.sl 5 (Ex.ds l)), .fn g [] []] (.d (.sl 5 (Ex.ds (l.map F)))) := by
  have n1 : l.length ≤ maxLen := by unfold maxLen; omega
  by_cases hl : l = []
  · subst hl
    refine af_of Tryz.func105 rfl (by kernel_rfl) (by simp [Tryz.ntmps105]) fun _ => ?_; simp [Tryz.f105, Ex.d_eq]
  refine af_of Tryz.func105 rfl (by kernel_rfl) (by simp [Tryz.ntmps105]) fun _ => ?_; simp [Tryz.f105, Ex.d_eq]
  simp [hl]
  refine aRaw_make (kl := .i64) (kc := .i64) (l := 0) (c := l.length) (z := [aI .i64 0, aI .u32 0, aI .i64 0, aI .i64 0, .d (.v (.slice none 0 0))]) byt_23 (by simp) (by simp) (by simp) (by omega) n1 (by omega) ?_
  simp
  refine aLoop_of (α := Nat) (fun i e A => i ≤ l.length ∧ (∃ N : AHeap, A = ⟨i, true, 44, 5, dEls (Ex.ds ((l.take i).map F))⟩ :: N) ∧
    e 16 = aI .i64 i ∧ e 15 = aI .i64 l.length ∧ e 14 = .d (.sl 5 (Ex.ds l)) ∧ e 5 = .own 0 i 0 i ∧ e 1 = .fn g [] []) (fun i => l.length - i) 0 (Sub.refl _ _ _)
    ⟨by omega, ⟨[], by simp⟩, by simp, by simp, by simp, by simp, by simp⟩ ?_
  rintro i e A ⟨hi, ⟨N, rfl⟩, e16, e15, e14, e5, e1⟩ K hK
  rcases Nat.lt_or_ge i l.length with hlt | hge
  case inr =>
    obtain rfl : i = l.length := by omega
    have ht : List.take l.length (Ex.ds (l.map F)) = Ex.ds (l.map F) := List.take_of_length_le (by simp)
    simp [e16, e15, e5, ht]
  obtain ⟨y, hy⟩ : ∃ y, l[i]? = some y := ⟨_, List.getElem?_eq_getElem hlt⟩
  have hy2 := (List.getElem?_eq_some_iff.1 hy).2
  have hmin : min i l.length = i := by omega
  simp [e16, e15, e14, e5, e1, hlt, hy, hy2, Ex.d_eq]
  refine aCall_of (h y (List.mem_of_getElem? hy)) hg (by simp [Ex.d_eq]) ?_
  simp [e5, Ex.d_eq, hmin]
  refine aRaw_app byt_23 ?_
  simp [e5, Ex.d_eq, hmin]
  refine ⟨by unfold maxLen; omega, by omega, ?_⟩
  have hels : dEls (Ex.ds (List.take (i + 1) (l.map F))) = dEls (Ex.ds (List.take i (l.map F))) ++ [[aI .i64 (F y).op, aI .u32 (F y).n, aI .i64 (F y).v, aI .i64 (F y).wd, .d (.sl 5 (Ex.ds (F y).l))]] := by
    rw [List.take_add_one, List.getElem?_map, hy]
    simp [Ex.ds_map, dEls, Ex.d_eq]
  simp [e16, succ_wrap hlt n1]
  refine hK (i + 1) _ _ _ _ (Sub.take 1 (by simp)) ⟨by omega, ⟨[], by rw [← hels]; simp⟩, by simp, by simp [e15], by simp [e14], by simp, by simp [e1]⟩ (by omega)
theorem smclone_af : ∀ (e : Ex), e.nodes ≤ 1000000 → AF Tryz.prog 97 [exA e] (exA e) := by
  intro x
  induction x using Ex.ind with
  | h x ih =>
    intro hn
    have hlen := x.nodes_len
    have he := smeach_af 97 id x.l (by omega) (by kernel_rfl) fun y hy => ih y hy (by have := Ex.nodes_mem hy; omega)
    rw [List.map_id] at he
    refine af_of Tryz.func97 rfl (by kernel_rfl) (by simp [Tryz.ntmps97]) fun _ => ?_; simp [Tryz.f97, Ex.d_eq]
    refine aCall_of (he) (by simp) (by simp [Ex.d_eq]) ?_; simp [Ex.d_eq]
end Go.Proofs.YtjgeicfbgpcopaaGreatDoor

/- Contracts: simplify.simple, Expr, IsConst, Negated. -/
namespace Go.Proofs.YtjgeicfbgpcopaaGreatDoor
open Go.RowKit
theorem ok_triv : EvOk [] (fun _ _ => (0, 0)) := ⟨fun v => by unfold valR; split <;> simp [r32_0], fun _ _ => r32_0, fun _ _ h => rfl⟩
theorem simp_okN {k : Nat} {e : Ex} (hf : formB e = true) (hn : OkN e) (hw : sw e ≤ k) : OkN (simpF k e) :=
  (simp_ev (V := []) (L := fun _ _ => (0, 0)) (E := 1) ok_triv (by omega) (fun _ _ => .inl rfl) (fun _ _ => ⟨fun _ => by simp, fun _ => by simp⟩) k e hf hn hw).2
theorem rule_okN {e r : Ex} (hf : formB e = true) (hn : OkN e) (hr : sRule e = some r) : OkN r :=
  (rule_ev (V := []) (L := fun _ _ => (0, 0)) (E := 1) ok_triv (by omega) (fun _ _ => .inl rfl) (fun _ _ => ⟨fun _ => by simp, fun _ => by simp⟩) hf hn hr).2
/-- The operands simplified. -/
theorem simp_map {k : Nat} {e : Ex} (hf : formB e = true) (hn : OkN e) (hw : sw e ≤ k + 1) : formB (.mk e.op e.n e.v e.wd (e.l.map (simpF k))) = true ∧ OkN (.mk e.op e.n e.v e.wd (e.l.map (simpF k))) ∧
    sw (.mk e.op e.n e.v e.wd (e.l.map (simpF k))) ≤ sw e ∧ (Ex.mk e.op e.n e.v e.wd (e.l.map (simpF k))).nodes ≤ e.nodes := by
  have hch : ∀ x ∈ e.l, SOk (simpF k x) x := fun x hx => simp_ok k x ((form_all hf).2 x hx) (by have := sw_mem hx; omega)
  refine ⟨form_map (f := simpF k) hf fun x hx => (hch x hx).form, .mk (by simpa using hn.n) ?_, sw_map (f := simpF k) hf fun x hx => ⟨(hch x hx).sw, (hch x hx).form, (hch x hx).con, (hch x hx).ncon⟩, ?_⟩
  · intro x hx
    simp only [Ex.l_mk, List.mem_map] at hx
    obtain ⟨y, hy, rfl⟩ := hx
    exact simp_okN ((form_all hf).2 y hy) (hn.l y hy) (by have := sw_mem hy; omega)
  · have hl : ∀ l : List Ex, (∀ x ∈ l, SOk (simpF k x) x) → Ex.nodess (l.map (simpF k)) ≤ Ex.nodess l := by
      intro l
      induction l with
      | nil => intro _; exact Nat.le_refl _
      | cons a l ihl =>
        intro h
        have h1 := (h a (by simp)).nodes
        have h2 := ihl fun x hx => h x (by simp [hx])
        simp only [List.map_cons, Ex.nodess]
        omega
    have := hl e.l hch
    obtain ⟨o, n, v, w, l⟩ := e
    simp only [Ex.nodes, Ex.op_mk, Ex.n_mk, Ex.v_mk, Ex.wd_mk, Ex.l_mk] at this ⊢
    omega
theorem simpF_succ (k : Nat) (e : Ex) : simpF (k + 1) e = match sRule (.mk e.op e.n e.v e.wd (e.l.map (simpF k))) with
    | some r => simpF k r
    | none => .mk e.op e.n e.v e.wd (e.l.map (simpF k)) := rfl
theorem smsimple_af : ∀ (k : Nat) (e : Ex), formB e = true → OkN e → sw e ≤ k → e.nodes ≤ 1000000 → AF Tryz.prog 98 [exA e] (exA (simpF k e)) := by
  intro k
  induction k using Nat.strongRecOn with
  | _ k ih =>
  intro e hf hn hw hs
  obtain ⟨R, hR⟩ : ∃ R, simpF k e = R := ⟨_, rfl⟩
  rw [hR]
  refine af_of Tryz.func98 rfl (by kernel_rfl) (by simp [Tryz.ntmps98]) fun _ => ?_; simp [Tryz.f98, Ex.d_eq]
  refine aLoop_of (α := Nat × Ex) (fun s g A => s.1 ≤ k ∧ formB s.2 = true ∧ OkN s.2 ∧ sw s.2 ≤ s.1 ∧ s.2.nodes ≤ 1000000 ∧ simpF s.1 s.2 = R ∧ (∃ N : AHeap, A = exC s.2 :: nilC :: N) ∧
    g 1 = .ptr 0 0 0 0 ∧ g 2 = .ptr 1 0 0 0) (fun s => s.1) (k, e) (Sub.refl _ _ _) ⟨Nat.le_refl _, hf, hn, hw, hs, hR, ⟨[], by simp⟩, by simp, by simp⟩ ?_
  rintro ⟨m, x⟩ g A ⟨hm, hfx, hnx, hwx, hsx, hRx, ⟨N, rfl⟩, e1, e2⟩ K hK
  simp only at hm hfx hnx hwx hsx hRx
  match m with
  | 0 => have := sw_pos x; omega
  | m + 1 =>
  obtain ⟨f1, f2, f3, f4⟩ := simp_map hfx hnx hwx
  have hlen := x.nodes_len
  have he := smeach_af 98 (simpF m) x.l (by omega) (by kernel_rfl) fun y hy => ih m (by omega) y ((form_all hfx).2 y hy) (hnx.l y hy) (by have := sw_mem hy; omega) (by have := Ex.nodes_mem hy; omega)
  rw [simpF_succ] at hRx
  obtain ⟨M, hM⟩ : ∃ M, x.l.map (simpF m) = M := ⟨_, rfl⟩
  rw [hM] at he f1 f2 f3 f4 hRx
  simp [e1]
  refine aCall_of (he) (by simp) (by simp [Ex.d_eq]) ?_; simp [Ex.d_eq]
  simp [e1]
  have hr := smrule_af (.mk x.op x.n x.v x.wd M) f1 f2 (by omega)
  cases hS : sRule (.mk x.op x.n x.v x.wd M) with
  | none =>
    rw [hS] at hRx hr
    simp only at hRx
    subst hRx
    refine aCall_of (hr) (by simp) (by simp [Ex.d_eq]) ?_; simp [Ex.d_eq]
    simp [e1, e2]
  | some r =>
    rw [hS] at hRx hr
    simp only at hRx
    have hl := srule_less f1 hS
    refine aCall_of (hr) (by simp) (by simp [Ex.d_eq]) ?_; simp [Ex.d_eq]
    simp [e1]
    refine hK (m, r) _ _ _ _ (Sub.refl _ _ _) ⟨by simp only; omega, hl.form, rule_okN f1 f2 hS, by have := hl.sw; simp only; omega, by have := hl.nodes; simp only; omega, hRx, ⟨_, by simp [Ex.d_eq]; rfl⟩, by simp [e1], by simp [e2]⟩ (by simp only; omega)
/-- What Expr answers. -/
def sExpr (e : Ex) : Ex := if shalB 64 e = true ∧ formB e = true then simpF (sw e) e else e
theorem smexpr_af (e : Ex) (hn : OkN e) (hs : e.nodes ≤ 1000000) : AF Tryz.prog 36 [exA e] (exA (sExpr e)) := by
  unfold sExpr
  by_cases h : shalB 64 e = true ∧ formB e = true
  · rw [if_pos h]
    refine af_of Tryz.func36 rfl (by kernel_rfl) (by simp [Tryz.ntmps36]) fun _ => ?_; simp [Tryz.f36, Ex.d_eq]
    refine aCall_of (check_af e) (by simp) (by simp [Ex.d_eq]) ?_; simp [Ex.d_eq]
    simp [h.1, h.2]
    refine aCall_of (smclone_af e hs) (by simp) (by simp [Ex.d_eq]) ?_; simp [Ex.d_eq]
    refine aCall_of (smsimple_af (sw e) e h.2 hn (Nat.le_refl _) hs) (by simp) (by simp [Ex.d_eq]) ?_; simp [Ex.d_eq]
  · rw [if_neg h]
    have hc := check_af e
    by_cases h1 : shalB 64 e = true
    · have h2 : formB e = false := by simpa [h1] using h
      rw [if_pos h1, if_neg (by simp [h2])] at hc
      refine af_of Tryz.func36 rfl (by kernel_rfl) (by simp [Tryz.ntmps36]) fun _ => ?_; simp [Tryz.f36, Ex.d_eq]
      refine aCall_of (hc) (by simp) (by simp [Ex.d_eq]) ?_; simp [Ex.d_eq]
      refine aCall_of (smclone_af e hs) (by simp) (by simp [Ex.d_eq]) ?_; simp [Ex.d_eq]
    · rw [if_neg h1] at hc
      refine af_of Tryz.func36 rfl (by kernel_rfl) (by simp [Tryz.ntmps36]) fun _ => ?_; simp [Tryz.f36, Ex.d_eq]
      refine aCall_of (hc) (by simp) (by simp [Ex.d_eq]) ?_; simp [Ex.d_eq]
      refine aCall_of (smclone_af e hs) (by simp) (by simp [Ex.d_eq]) ?_; simp [Ex.d_eq]
/-- What IsConst answers. -/
def sIs (e : Ex) : Bool := shalB 64 e && formB e && decide ((sExpr e).op = 1)
theorem smisconst_af (e : Ex) (hn : OkN e) (hs : e.nodes ≤ 1000000) : AF Tryz.prog 37 [exA e] (.tup [aI .u32 (if sIs e = true then (sExpr e).n else 0), aB (sIs e)]) := by
  have hc := check_af e
  unfold sIs
  by_cases h1 : shalB 64 e = true
  · by_cases h2 : formB e = true
    · rw [if_pos h1, if_pos h2] at hc
      refine af_of Tryz.func37 rfl (by kernel_rfl) (by simp [Tryz.ntmps37]) fun _ => ?_; simp [Tryz.f37, Ex.d_eq]
      refine aCall_of (hc) (by simp) (by simp [Ex.d_eq]) ?_; simp [Ex.d_eq]
      refine aCall_of (smexpr_af e hn hs) (by simp) (by simp [Ex.d_eq]) ?_; simp [Ex.d_eq]
      by_cases h3 : (sExpr e).op = 1 <;> simp [h1, h2, h3]
    · rw [if_pos h1, if_neg h2] at hc
      refine af_of Tryz.func37 rfl (by kernel_rfl) (by simp [Tryz.ntmps37]) fun _ => ?_; simp [Tryz.f37, Ex.d_eq]
      refine aCall_of (hc) (by simp) (by simp [Ex.d_eq]) ?_; simp [Ex.d_eq]
      simp [h1, h2]
  · rw [if_neg h1] at hc
    refine af_of Tryz.func37 rfl (by kernel_rfl) (by simp [Tryz.ntmps37]) fun _ => ?_; simp [Tryz.f37, Ex.d_eq]
    refine aCall_of (hc) (by simp) (by simp [Ex.d_eq]) ?_; simp [Ex.d_eq]
    simp [h1]
theorem smnegate_af (e : Ex) (hn : OkN e) (hs : e.nodes ≤ 999999) : AF Tryz.prog 40 [exA e] (exA (sExpr (eOne 16 e))) := by
  refine af_of Tryz.func40 rfl (by kernel_rfl) (by simp [Tryz.ntmps40]) fun _ => ?_; simp [Tryz.f40, Ex.d_eq]
  refine aCall_of (smone_af 16 e) (by simp) (by simp [Ex.d_eq]) ?_; simp [Ex.d_eq]
  refine aCall_of (smexpr_af (eOne 16 e) (okN_one hn) (by simp; omega)) (by simp) (by simp [Ex.d_eq]) ?_; simp [Ex.d_eq]
end Go.Proofs.YtjgeicfbgpcopaaGreatDoor

/- Contract: the example of layer 22 holds. -/
namespace Go.Proofs.YtjgeicfbgpcopaaGreatDoor
open Go.RowKit
theorem smeachI0_af : AF Tryz.prog 103 [.d (.sl 1 []), .fn 104 [] []] (.d (.sl 1 [])) := by
  refine af_of Tryz.func103 rfl (by kernel_rfl) (by simp [Tryz.ntmps103]) fun _ => ?_; simp [Tryz.f103, Ex.d_eq]
theorem printst22 : AF Tryz.prog 16 [stV ⟨7, 0, 0, 3, 4, 0, [eOne 16 (eVar 1)], []⟩] (aS ⟨#[98, 114, 97, 110, 99, 104, 32, 33, 114, 49, 44, 32, 51, 44, 32, 52]⟩) := xres_af orc19_ok (lf := 100) (n := 60) (by kernel_rfl)
theorem rprint22a : AF Tryz.prog 32 [exA (eTwo 12 (eVar 1) (eVar 2))] (aS ⟨#[40, 114, 49, 32, 61, 61, 32, 114, 50, 41]⟩) := xres_af xnone_ok (lf := 100) (n := 60) (by kernel_rfl)
theorem rprint22b : AF Tryz.prog 32 [exA (eTwo 13 (eVar 1) (eCon 4294967292))] (aS ⟨#[40, 114, 49, 32, 33, 61, 32, 48, 120, 102, 102, 102, 102, 102, 102, 102, 99, 41]⟩) := xres_af xnone_ok (lf := 100) (n := 60) (by kernel_rfl)
theorem rprintst22 : AF Tryz.prog 17 [stV ⟨7, 0, 0, 4, 3, 0, [eVar 1], []⟩] (aS ⟨#[98, 114, 97, 110, 99, 104, 32, 114, 49, 44, 32, 52, 44, 32, 51]⟩) := xres_af xnone_ok (lf := 100) (n := 60) (by kernel_rfl)
theorem okN_var (v : Int) : OkN (eVar v) := .mk r32_0 (by simp)
theorem okN_mk (o w : Int) {a : Ex} (h : OkN a) : OkN (.mk o 0 0 w [a]) := .mk r32_0 (by simpa using h)
theorem okN_num {n : Int} (h1 : 0 ≤ n) (h2 : n < 4294967296) : OkN (eCon n) := okN_con ⟨h1, h2⟩
abbrev ld22 : Ex := .mk 18 0 0 4 [eVar 1]
theorem ex22a : AF Tryz.prog 36 [exA (eTwo 4 (eTwo 3 (eVar 1) (eCon 5)) (eCon 5))] (exA (eVar 1)) := by
  have := smexpr_af (eTwo 4 (eTwo 3 (eVar 1) (eCon 5)) (eCon 5)) (okN_two (okN_two (okN_var 1) (okN_num (by omega) (by omega))) (okN_num (by omega) (by omega))) (by simp)
  rwa [show sExpr (eTwo 4 (eTwo 3 (eVar 1) (eCon 5)) (eCon 5)) = eVar 1 by kernel_rfl] at this
theorem ex22b : AF Tryz.prog 36 [exA (eTwo 6 ld22 ld22)] (exA ld22) := by
  have := smexpr_af (eTwo 6 ld22 ld22) (okN_two (okN_mk 18 4 (okN_var 1)) (okN_mk 18 4 (okN_var 1))) (by decide)
  rwa [show sExpr (eTwo 6 ld22 ld22) = ld22 by kernel_rfl] at this
theorem ex22c : AF Tryz.prog 36 [exA (eTwo 4 ld22 ld22)] (exA (eTwo 4 ld22 ld22)) := by
  have := smexpr_af (eTwo 4 ld22 ld22) (okN_two (okN_mk 18 4 (okN_var 1)) (okN_mk 18 4 (okN_var 1))) (by decide)
  rwa [show sExpr (eTwo 4 ld22 ld22) = eTwo 4 ld22 ld22 by kernel_rfl] at this
theorem ex22d : AF Tryz.prog 36 [exA (eTwo 12 (eTwo 4 (eVar 1) (eVar 2)) (eCon 0))] (exA (eTwo 12 (eVar 1) (eVar 2))) := by
  have := smexpr_af (eTwo 12 (eTwo 4 (eVar 1) (eVar 2)) (eCon 0)) (okN_two (okN_two (okN_var 1) (okN_var 2)) (okN_num (by omega) (by omega))) (by simp)
  rwa [show sExpr (eTwo 12 (eTwo 4 (eVar 1) (eVar 2)) (eCon 0)) = eTwo 12 (eVar 1) (eVar 2) by kernel_rfl] at this
theorem ex22e : AF Tryz.prog 36 [exA (eTwo 15 (eCon 0) (eTwo 3 (eVar 1) (eCon 4)))] (exA (eTwo 13 (eVar 1) (eCon 4294967292))) := by
  have := smexpr_af (eTwo 15 (eCon 0) (eTwo 3 (eVar 1) (eCon 4))) (okN_two (okN_num (by omega) (by omega)) (okN_two (okN_var 1) (okN_num (by omega) (by omega)))) (by simp)
  rwa [show sExpr (eTwo 15 (eCon 0) (eTwo 3 (eVar 1) (eCon 4))) = eTwo 13 (eVar 1) (eCon 4294967292) by kernel_rfl] at this
theorem ex22f : AF Tryz.prog 40 [exA (eOne 16 (eTwo 14 (eVar 1) (eVar 2)))] (exA (eTwo 14 (eVar 1) (eVar 2))) := by
  have := smnegate_af (eOne 16 (eTwo 14 (eVar 1) (eVar 2))) (okN_one (okN_two (okN_var 1) (okN_var 2))) (by simp)
  rwa [show sExpr (eOne 16 (eOne 16 (eTwo 14 (eVar 1) (eVar 2)))) = eTwo 14 (eVar 1) (eVar 2) by kernel_rfl] at this
theorem ex22g : AF Tryz.prog 37 [exA (eTwo 4 (eVar 1) (eVar 1))] (.tup [aI .u32 0, aB true]) := by
  have := smisconst_af (eTwo 4 (eVar 1) (eVar 1)) (okN_two (okN_var 1) (okN_var 1)) (by simp)
  rwa [show sIs (eTwo 4 (eVar 1) (eVar 1)) = true by kernel_rfl, if_pos rfl, show sExpr (eTwo 4 (eVar 1) (eVar 1)) = eCon 0 by kernel_rfl] at this
theorem ex22h : AF Tryz.prog 36 [exA (eOne 16 (eVar 1))] (exA (eOne 16 (eVar 1))) := by
  have := smexpr_af (eOne 16 (eVar 1)) (okN_one (okN_var 1)) (by simp)
  rwa [show sExpr (eOne 16 (eVar 1)) = eOne 16 (eVar 1) by kernel_rfl] at this
theorem stmt22 : AF Tryz.prog 46 [stV ⟨7, 0, 0, 3, 4, 0, [eOne 16 (eVar 1)], []⟩] (stV ⟨7, 0, 0, 4, 3, 0, [eVar 1], []⟩) := by
  have he := smeach_af 36 (fun _ => eOne 16 (eVar 1)) [eOne 16 (eVar 1)] (by simp) (by kernel_rfl) fun y hy => by
    simp only [List.mem_singleton] at hy
    subst hy
    exact ex22h
  refine af_of Tryz.func46 rfl (by kernel_rfl) (by simp [Tryz.ntmps46]) fun _ => ?_; simp [Tryz.f46, Ex.d_eq]
  refine aCall_of (smeachI0_af) (by simp) (by simp [Ex.d_eq]) ?_; simp [Ex.d_eq]
  refine aCall_of printst22 (by simp) (by simp [Ex.d_eq]) ?_; simp [Ex.d_eq]
  refine aCall_of (he) (by simp) (by simp [Ex.d_eq]) ?_; simp [Ex.d_eq]
  refine aLoop_iter 3 ?_; simp [Ex.d_eq]
theorem l22ex_af : AF Tryz.prog 33 [] (aB true) := by
  refine af_of Tryz.func33 rfl (by kernel_rfl) (by simp [Tryz.ntmps33]) fun _ => ?_; simp [Tryz.f33, Ex.d_eq]
  refine aCall_of (r19var_af 1) (by simp) (by simp [Ex.d_eq]) ?_; simp [Ex.d_eq]
  refine aCall_of (r19var_af 2) (by simp) (by simp [Ex.d_eq]) ?_; simp [Ex.d_eq]
  refine aCall_of (r19load_af 4 (eVar 1)) (by simp) (by simp [Ex.d_eq]) ?_; simp [Ex.d_eq]
  refine aCall_of (r19two_af 14 (eVar 1) (eVar 2)) (by simp) (by simp [Ex.d_eq]) ?_; simp [Ex.d_eq]
  refine aCall_of (r19one_af 16 (eVar 1)) (by simp) (by simp [Ex.d_eq]) ?_; simp [Ex.d_eq]
  refine aCall_ofz [4] stmt22 (by simp) (by simp [frz, Ex.d_eq]) ?_; simp [frz, Ex.d_eq]
  refine aCall_of (r19two_af 4 (eVar 1) (eVar 1)) (by simp) (by simp [Ex.d_eq]) ?_; simp [Ex.d_eq]
  refine aCall_of (ex22g) (by simp) (by simp [Ex.d_eq]) ?_; simp [Ex.d_eq]
  refine adraw [] (by kernel_rfl) (by kernel_rfl) (by kernel_rfl) (by kernel_rfl) ?_; simp [Ex.d_eq]
  refine adC_of (r19const_af 5) (by simp) trivial (by simp) (by simp [Ex.d_eq]) ?_; simp [Ex.d_eq]
  refine adC_of (r19two_af 3 (eVar 1) (eCon 5)) (by simp) trivial (by simp) (by simp [Ex.d_eq]) ?_; simp [Ex.d_eq]
  refine adC_of (r19const_af 5) (by simp) trivial (by simp) (by simp [Ex.d_eq]) ?_; simp [Ex.d_eq]
  refine adC_of (r19two_af 4 (eTwo 3 (eVar 1) (eCon 5)) (eCon 5)) (by simp) trivial (by simp) (by simp [Ex.d_eq]) ?_; simp [Ex.d_eq]
  refine adC_of (ex22a) (by simp) trivial (by simp) (by simp [Ex.d_eq]) ?_; simp [Ex.d_eq]
  have sm1 := refsame_af (eVar 1) (eVar 1)
  rw [sameB_refl] at sm1
  refine adC_of (sm1) (by simp) trivial (by simp) (by simp [Ex.d_eq]) ?_; simp [Ex.d_eq]
  refine adC_of (r19two_af 6 ld22 ld22) (by simp) trivial (by simp) (by simp [Ex.d_eq]) ?_; simp [Ex.d_eq]
  refine adC_of (ex22b) (by simp) trivial (by simp) (by simp [Ex.d_eq]) ?_; simp [Ex.d_eq]
  have sm2 := refsame_af ld22 ld22
  rw [sameB_refl] at sm2
  refine adC_of (sm2) (by simp) trivial (by simp) (by simp [Ex.d_eq]) ?_; simp [Ex.d_eq]
  refine adC_of (r19two_af 4 ld22 ld22) (by simp) trivial (by simp) (by simp [Ex.d_eq]) ?_; simp [Ex.d_eq]
  refine adC_of (ex22c) (by simp) trivial (by simp) (by simp [Ex.d_eq]) ?_; simp [Ex.d_eq]
  have sz := r19size_af (eTwo 4 ld22 ld22) (by decide)
  rw [show (eTwo 4 ld22 ld22).nodes = 5 by kernel_rfl] at sz
  refine adC_of (sz) (by simp) trivial (by simp) (by simp [Ex.d_eq]) ?_; simp [Ex.d_eq]
  refine adC_of (r19two_af 4 (eVar 1) (eVar 2)) (by simp) trivial (by simp) (by simp [Ex.d_eq]) ?_; simp [Ex.d_eq]
  refine adC_of (r19const_af 0) (by simp) trivial (by simp) (by simp [Ex.d_eq]) ?_; simp [Ex.d_eq]
  refine adC_of (r19two_af 12 (eTwo 4 (eVar 1) (eVar 2)) (eCon 0)) (by simp) trivial (by simp) (by simp [Ex.d_eq]) ?_; simp [Ex.d_eq]
  refine adC_of (ex22d) (by simp) trivial (by simp) (by simp [Ex.d_eq]) ?_; simp [Ex.d_eq]
  refine adC_of (rprint22a) (by simp) trivial (by simp) (by simp [Ex.d_eq]) ?_; simp [Ex.d_eq]
  refine adC_of (r19one_af 16 (eTwo 14 (eVar 1) (eVar 2))) (by simp) trivial (by simp) (by simp [Ex.d_eq]) ?_; simp [Ex.d_eq]
  refine adC_of (ex22f) (by simp) trivial (by simp) (by simp [Ex.d_eq]) ?_; simp [Ex.d_eq]
  have sm3 := refsame_af (eTwo 14 (eVar 1) (eVar 2)) (eTwo 14 (eVar 1) (eVar 2))
  rw [sameB_refl] at sm3
  refine adC_of (sm3) (by simp) trivial (by simp) (by simp [Ex.d_eq]) ?_; simp [Ex.d_eq]
  refine adC_of (rprintst22) (by simp) trivial (by simp) (by simp [Ex.d_eq]) ?_; simp [Ex.d_eq]
  refine adC_of (r19const_af 0) (by simp) trivial (by simp) (by simp [Ex.d_eq]) ?_; simp [Ex.d_eq]
  refine adC_of (r19const_af 4) (by simp) trivial (by simp) (by simp [Ex.d_eq]) ?_; simp [Ex.d_eq]
  refine adC_of (r19two_af 3 (eVar 1) (eCon 4)) (by simp) trivial (by simp) (by simp [Ex.d_eq]) ?_; simp [Ex.d_eq]
  refine adC_of (r19two_af 15 (eCon 0) (eTwo 3 (eVar 1) (eCon 4))) (by simp) trivial (by simp) (by simp [Ex.d_eq]) ?_; simp [Ex.d_eq]
  refine adC_of (ex22e) (by simp) trivial (by simp) (by simp [Ex.d_eq]) ?_; simp [Ex.d_eq]
  refine adC_of (rprint22b) (by simp) trivial (by simp) (by simp [Ex.d_eq]) ?_; simp [Ex.d_eq]
theorem depth_nodes : ∀ e : Ex, e.depth ≤ e.nodes := by
  intro e
  induction e using Ex.ind with
  | h e ih =>
    obtain ⟨o, n, v, w, l⟩ := e
    simp only [Ex.l_mk] at ih
    have : Ex.depths l ≤ Ex.nodess l := by
      induction l with
      | nil => simp [Ex.depths, Ex.nodess]
      | cons a l ihl =>
        have h1 := ih a (by simp)
        have h2 := ihl fun x hx => ih x (by simp [hx])
        simp only [Ex.depths, Ex.nodess]
        omega
    simp only [Ex.depth, Ex.nodes]
    omega
theorem levels_af : ∀ (e : Ex), e.nodes ≤ 1000000 → AF Tryz.prog 43 [exA e] (aI .i64 e.depth) := by
  intro x
  induction x using Ex.ind with
  | h x ih =>
    intro hn
    have hlen := x.nodes_len
    have n1 : x.l.length ≤ maxLen := by unfold maxLen; omega
    have hd : x.depth = Ex.depths x.l + 1 := by obtain ⟨o, n, v, w, l⟩ := x; simp [Ex.depth]
    have hdn : ∀ i, Ex.depths (x.l.take i) ≤ 1000000 := fun i => by
      have h1 : ∀ l : List Ex, Ex.depths l ≤ Ex.nodess l := by
        intro l
        induction l with
        | nil => simp [Ex.depths, Ex.nodess]
        | cons a l ih => have := depth_nodes a; simp only [Ex.depths, Ex.nodess]; omega
      have h2 : ∀ (l : List Ex) (i : Nat), Ex.nodess (l.take i) ≤ Ex.nodess l := by
        intro l
        induction l with
        | nil => intro i; simp
        | cons a l ih => intro i; cases i with
          | zero => simp [Ex.nodess]
          | succ i => have := ih i; simp only [List.take_succ_cons, Ex.nodess]; omega
      have := h1 (x.l.take i)
      have := h2 x.l i
      have h3 : x.nodes = Ex.nodess x.l + 1 := by obtain ⟨o, n, v, w, l⟩ := x; simp [Ex.nodes]
      omega
    refine af_of Tryz.func43 rfl (by kernel_rfl) (by simp [Tryz.ntmps43]) fun _ => ?_; simp [Tryz.f43, Ex.d_eq]
    refine aLoop_of (α := Nat) (fun i e A => i ≤ x.l.length ∧ A = [exC x] ∧ e 3 = aI .i64 (Ex.depths (x.l.take i)) ∧ e 4 = aI .i64 i ∧ e 1 = .ptr 0 0 0 0) (fun i => x.l.length - i) 0 (Sub.refl _ _ _)
      ⟨by omega, by simp, by simp [Ex.depths], by simp, by simp⟩ ?_
    rintro i e A ⟨hi, rfl, e3, e4, e1⟩ K hK
    rcases Nat.lt_or_ge i x.l.length with hlt | hge
    case inr =>
      obtain rfl : i = x.l.length := by omega
      have := hdn x.l.length
      rw [List.take_length] at this e3
      simp [e1, e3, e4, hd, i64w (n := (Ex.depths x.l : Int) + 1) (by omega)]
    obtain ⟨y, hy⟩ : ∃ y, x.l[i]? = some y := ⟨_, List.getElem?_eq_getElem hlt⟩
    have hy2 := (List.getElem?_eq_some_iff.1 hy).2
    have hmem := List.mem_of_getElem? hy
    simp [e1, e3, e4, hlt, hy, hy2, Ex.d_eq]
    refine aCall_of (ih y hmem (by have := Ex.nodes_mem hmem; omega)) (by simp) (by simp [Ex.d_eq]) ?_
    simp [e3]
    refine aRaw_max (k := .i64) (k' := .i64) (a := (Ex.depths (x.l.take i) : Int)) (b := (y.depth : Int)) (by simp [e3]) (by simp) ?_
    have hds : ∀ (l : List Ex) (i : Nat) (y : Ex), l[i]? = some y → Ex.depths (l.take (i + 1)) = max (Ex.depths (l.take i)) y.depth := by
      intro l
      induction l with
      | nil => intro i y h; simp at h
      | cons a l ihl =>
        intro i y h
        cases i with
        | zero =>
          simp only [List.getElem?_cons_zero, Option.some.injEq] at h
          subst h
          simp [Ex.depths]
        | succ i =>
          simp only [List.getElem?_cons_succ] at h
          have := ihl i y h
          simp only [List.take_succ_cons, Ex.depths] at this ⊢
          omega
    have hmax : (if (Ex.depths (x.l.take i) : Int) < (y.depth : Int) then (y.depth : Int) else (Ex.depths (x.l.take i) : Int)) = (Ex.depths (x.l.take (i + 1)) : Int) := by
      rw [hds _ _ _ hy]
      split <;> omega
    rw [hmax]
    simp [e4, succ_wrap hlt n1]
    exact hK (i + 1) _ _ _ _ (Sub.refl _ _ _) ⟨by omega, by simp, by simp, by simp, by simp [e1]⟩ (by omega)
end Go.Proofs.YtjgeicfbgpcopaaGreatDoor

/- Contract: the law SimplifyFixed answers true. -/
namespace Go.Proofs.YtjgeicfbgpcopaaGreatDoor
open Go.RowKit
theorem sexpr_ok {e : Ex} (hs : shalB 64 e = true) (hf : formB e = true) : SOk (sExpr e) e := by
  unfold sExpr
  rw [if_pos ⟨hs, hf⟩]
  exact simp_ok _ e hf (Nat.le_refl _)
theorem sexpr_okN {e : Ex} (hs : shalB 64 e = true) (hf : formB e = true) (hn : OkN e) : OkN (sExpr e) := by
  unfold sExpr
  rw [if_pos ⟨hs, hf⟩]
  exact simp_okN hf hn (Nat.le_refl _)
theorem sexpr_shal {e : Ex} (hs : shalB 64 e = true) (hf : formB e = true) : shalB 64 (sExpr e) = true := by
  have := (sexpr_ok hs hf).depth
  rw [shal_iff] at hs ⊢
  omega
theorem sexpr_eq {e : Ex} (hs : shalB 64 e = true) (hf : formB e = true) : sExpr e = simpF (sw e) e := by
  unfold sExpr
  rw [if_pos ⟨hs, hf⟩]
/-- What Expr answers stays. -/
theorem sexpr_again {e : Ex} (hs : shalB 64 e = true) (hf : formB e = true) : sExpr (sExpr e) = sExpr e := by
  rw [sexpr_eq (sexpr_shal hs hf) (sexpr_ok hs hf).form]
  exact norm_simp (sexpr_ok hs hf).norm _
theorem small_n3 {e : Ex} {m : Int} (h : 0 ≤ nodI e m 3000) : e.nodes ≤ 3000 := by
  have := (nodI_le e m 3000 (by omega)).2
  omega
theorem lawsmfixed_af (e : Ex) (hn : OkN e) : AF Tryz.prog 9 [exA e] (aB true) := by
  refine af_of Tryz.func9 rfl (by kernel_rfl) (by simp [Tryz.ntmps9]) fun _ => ?_; simp [Tryz.f9, Ex.d_eq]
  refine aCall_of (small_af e 70 (by omega) (by omega)) (by simp) (by simp [Ex.d_eq]) ?_; simp [Ex.d_eq]
  by_cases hs : 0 ≤ nodI e 70 3000
  case neg =>
    simp [hs]
    refine aCall_of (l22ex_af) (by simp) (by simp [Ex.d_eq]) ?_; simp [Ex.d_eq]
  have hsn := small_n3 hs
  simp [hs]
  have hc := rcheck_af e
  by_cases h1 : shalB 64 e = true
  case neg =>
    rw [if_neg h1] at hc
    refine aCall_of (hc) (by simp) (by simp [Ex.d_eq]) ?_; simp [Ex.d_eq]
    refine aCall_of (l22ex_af) (by simp) (by simp [Ex.d_eq]) ?_; simp [Ex.d_eq]
  by_cases h2 : formB e = true
  case neg =>
    rw [if_pos h1, if_neg h2] at hc
    refine aCall_of (hc) (by simp) (by simp [Ex.d_eq]) ?_; simp [Ex.d_eq]
    refine aCall_of (l22ex_af) (by simp) (by simp [Ex.d_eq]) ?_; simp [Ex.d_eq]
  rw [if_pos h1, if_pos h2] at hc
  refine aCall_of (hc) (by simp) (by simp [Ex.d_eq]) ?_; simp [Ex.d_eq]
  refine aCall_of (smexpr_af e hn (by omega)) (by simp) (by simp [Ex.d_eq]) ?_; simp [Ex.d_eq]
  obtain ⟨x, hx⟩ : ∃ x, sExpr e = x := ⟨_, rfl⟩
  have hok := sexpr_ok h1 h2
  have hxn := sexpr_okN h1 h2 hn
  have hxs := sexpr_shal h1 h2
  have hxx := sexpr_again h1 h2
  rw [hx] at hok hxn hxs hxx
  rw [hx]
  have o1 := hok.form
  have o2 := hok.nodes
  have o3 := hok.depth
  have cx := rcheck_af x
  rw [if_pos hxs, if_pos o1] at cx
  have ex := smexpr_af x hxn (by omega)
  rw [hxx] at ex
  have sx := refsame_af x x
  rw [sameB_refl] at sx
  refine adraw [] (by kernel_rfl) (by kernel_rfl) (by kernel_rfl) (by kernel_rfl) ?_; simp [Ex.d_eq]
  refine adC_of (cx) (by simp) trivial (by simp) (by simp [Ex.d_eq]) ?_; simp [Ex.d_eq]
  refine adC_of (r19size_af x (by omega)) (by simp) trivial (by simp) (by simp [Ex.d_eq]) ?_; simp [Ex.d_eq]
  refine adC_of (r19size_af e (by omega)) (by simp) trivial (by simp) (by simp [Ex.d_eq]) ?_; simp [Ex.d_eq]
  simp [o2]
  refine adC_of (levels_af x (by omega)) (by simp) trivial (by simp) (by simp [Ex.d_eq]) ?_; simp [Ex.d_eq]
  refine adC_of (levels_af e (by omega)) (by simp) trivial (by simp) (by simp [Ex.d_eq]) ?_; simp [Ex.d_eq]
  simp [o3]
  refine adC_of (ex) (by simp) trivial (by simp) (by simp [Ex.d_eq]) ?_; simp [Ex.d_eq]
  refine adC_of (sx) (by simp) trivial (by simp) (by simp [Ex.d_eq]) ?_; simp [Ex.d_eq]
  refine adC_of (l22ex_af) (by simp) trivial (by simp) (by simp [Ex.d_eq]) ?_; simp [Ex.d_eq]
end Go.Proofs.YtjgeicfbgpcopaaGreatDoor
