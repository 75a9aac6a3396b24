/- Texts that the claim leans on, laid one behind the other: Nl, Nm, Nn, No, Np, Nq, Nr, Ns. -/
import Derived.Test.YtjnofkcfogognaaGreatDoorZT
import Derived.Test.YtjnofkcfogognaaGreatDoorZP
import Derived.Test.YtjnofkcfogognaaGreatDoorZG
import Derived.Test.YtjnofkcfogognaaGreatDoorZK
set_option linter.unusedSimpArgs false
set_option linter.unusedVariables false
set_option linter.unnecessarySimpa false
/- Contracts: simplify.binary (late), simplify.rule. -/
namespace Go.Proofs.YtjnofkcfogognaaGreatDoor
open Go.RowKit
/-- The rules for two operands that come after the signs. -/
def sLate (op : Int) (x y : Ex) : Option Ex := ((sSame op x y).or ((sTruth op x y).or ((sMove op x y).or (sBelow op x y))))
theorem below_no {op : Int} (x y : Ex) (h : op ≠ 15) : sBelow op x y = none := by simp [sBelow, h]
theorem smbinary0_af (op : Int) (x y : Ex) (hx : formB x = true) (sx : x.nodes ≤ 1000000000) (sy : y.nodes ≤ 1000000000) :
    ∃ j, AF Tryz.prog 201 [exA (eTwo op x y), aB false] (oA j (sLate op x y)) := by
  obtain ⟨j0, hj⟩ := smequal_af op x y sx
  have ht := smtruth_af op x y
  have hm := smmoved_af op x y hx sx
  unfold sLate
  cases hS : sSame op x y with
  | some r =>
    rw [hS] at hj
    refine ⟨eNil, ?_⟩
    refine af_of Tryz.func201 rfl (by kernel_rfl) (by simp [Tryz.ntmps201]) fun _ => ?_; simp [Tryz.f201, Ex.d_eq]
    refine adraw [(10, 5), (10, 7)] (by kernel_rfl) (by kernel_rfl) (by kernel_rfl) (by kernel_rfl) ?_; simp [Ex.d_eq]
    refine aCall_of (hj) (by simp) (by simp [Ex.d_eq]) ?_; simp [Ex.d_eq]
  | none =>
    rw [hS] at hj
    simp only [Option.none_or]
    cases hT : sTruth op x y with
    | some r =>
      rw [hT] at ht
      refine ⟨eNil, ?_⟩
      refine af_of Tryz.func201 rfl (by kernel_rfl) (by simp [Tryz.ntmps201]) fun _ => ?_; simp [Tryz.f201, Ex.d_eq]
      refine adraw [(10, 5), (10, 7)] (by kernel_rfl) (by kernel_rfl) (by kernel_rfl) (by kernel_rfl) ?_; simp [Ex.d_eq]
      refine aCall_of (hj) (by simp) (by simp [Ex.d_eq]) ?_; simp [Ex.d_eq]
      refine aCall_of (ht) (by simp) (by simp [Ex.d_eq]) ?_; simp [Ex.d_eq]
    | none =>
      rw [hT] at ht
      simp only [Option.none_or]
      cases hM : sMove op x y with
      | some r =>
        rw [hM] at hm
        refine ⟨eNil, ?_⟩
        refine af_of Tryz.func201 rfl (by kernel_rfl) (by simp [Tryz.ntmps201]) fun _ => ?_; simp [Tryz.f201, Ex.d_eq]
        refine adraw [(10, 5), (10, 7)] (by kernel_rfl) (by kernel_rfl) (by kernel_rfl) (by kernel_rfl) ?_; simp [Ex.d_eq]
        refine aCall_of (hj) (by simp) (by simp [Ex.d_eq]) ?_; simp [Ex.d_eq]
        refine aCall_of (ht) (by simp) (by simp [Ex.d_eq]) ?_; simp [Ex.d_eq]
        refine aCall_of (hm) (by simp) (by simp [Ex.d_eq]) ?_; simp [Ex.d_eq]
      | none =>
        rw [hM] at hm
        simp only [Option.none_or]
        by_cases h15 : op = 15
        · subst h15
          refine ⟨eNil, ?_⟩
          refine af_of Tryz.func201 rfl (by kernel_rfl) (by simp [Tryz.ntmps201]) fun _ => ?_; simp [Tryz.f201, Ex.d_eq]
          refine adraw [(10, 5), (10, 7)] (by kernel_rfl) (by kernel_rfl) (by kernel_rfl) (by kernel_rfl) ?_; simp [Ex.d_eq]
          refine aCall_of (hj) (by simp) (by simp [Ex.d_eq]) ?_; simp [Ex.d_eq]
          refine aCall_of (ht) (by simp) (by simp [Ex.d_eq]) ?_; simp [Ex.d_eq]
          refine aCall_of (hm) (by simp) (by simp [Ex.d_eq]) ?_; simp [Ex.d_eq]
          refine aCall_of (smbelow_af x y sx sy) (by simp) (by simp [Ex.d_eq]) ?_; simp [Ex.d_eq]
        · rw [below_no x y h15]
          refine ⟨eTwo op x y, ?_⟩
          refine af_of Tryz.func201 rfl (by kernel_rfl) (by simp [Tryz.ntmps201]) fun _ => ?_; simp [Tryz.f201, Ex.d_eq]
          refine adraw [(10, 5), (10, 7)] (by kernel_rfl) (by kernel_rfl) (by kernel_rfl) (by kernel_rfl) ?_; simp [Ex.d_eq]
          refine aCall_of (hj) (by simp) (by simp [Ex.d_eq]) ?_; simp [Ex.d_eq]
          refine aCall_of (ht) (by simp) (by simp [Ex.d_eq]) ?_; simp [Ex.d_eq]
          refine aCall_of (hm) (by simp) (by simp [Ex.d_eq]) ?_; simp [Ex.d_eq]
          simp [h15, Ex.d_eq]
theorem sTwo_eq (op : Int) (x y : Ex) : sTwo op x y = (sEarly op x y).or ((sSign op x y).or ((sLate op x y).or (sMask op x y))) := by
  simp only [sTwo, sLate, Option.or_assoc]
theorem signE_two {op : Int} (x y : Ex) (h3 : 3 ≤ op) (h15 : op ≤ 15) : sSignE (eTwo op x y) = sSign op x y := by
  unfold sSignE
  by_cases h : op = 3 ∨ op = 4
  · rw [if_pos (by simpa using h)]
    simp
  · rw [if_neg (by simpa using h), if_neg (by simp; omega)]
    unfold sSign
    rw [if_neg (by omega), if_neg (by omega), if_neg (by omega), if_neg (by omega)]
theorem extE_two {op : Int} (x y : Ex) (h15 : op ≤ 15) : sExtE (eTwo op x y) = sMask op x y := by
  unfold sExtE
  rw [if_neg (by simp; omega)]
  simp
theorem signE_no {e : Ex} (h : e.op ≠ 3 ∧ e.op ≠ 4 ∧ e.op ≠ 17) : sSignE e = none := by
  unfold sSignE
  rw [if_neg (by omega), if_neg (by omega)]
theorem extE_no {e : Ex} (h : e.op ≠ 6 ∧ e.op ≠ 19) : sExtE e = none := by
  unfold sExtE sMask
  rw [if_neg (by omega), if_neg (by intro hh; exact h.1 hh.1)]
theorem smrule_af (e : Ex) (hf : formB e = true) (hn : OkN e) (se : e.nodes ≤ 1000000000) : AF Tryz.prog 152 [exA e] (oA e (sRule e)) := by
  have hop := form_op hf
  have hc := smconstants_af e hf hn
  have hs := smsigns_af e hf se
  have hx := smextended_af e hf hn se
  unfold sRule
  cases hF : sFold e with
  | some r =>
    rw [hF] at hc
    simp only [Option.some_or]
    refine af_of Tryz.func152 rfl (by kernel_rfl) (by simp [Tryz.ntmps152]) fun _ => ?_; simp [Tryz.f152, Ex.d_eq]
    refine aCall_of (hc) (by simp) (by simp [Ex.d_eq]) ?_; simp [Ex.d_eq]
  | none =>
    rw [hF] at hc
    simp only [Option.none_or]
    by_cases h2 : e.op ≤ 2
    · have hR : sRest e = none := by
        unfold sRest
        rw [if_neg (by omega), if_neg (by omega), if_neg (by omega), if_neg (by omega)]
      rw [signE_no (by omega)] at hs
      rw [extE_no (by omega)] at hx
      rw [hR]
      refine af_of Tryz.func152 rfl (by kernel_rfl) (by simp [Tryz.ntmps152]) fun _ => ?_; simp [Tryz.f152, Ex.d_eq]
      refine aCall_of (hc) (by simp) (by simp [Ex.d_eq]) ?_; simp [Ex.d_eq]
      simp [show ¬ 3 ≤ e.op by omega]
      refine aCall_of (hs) (by simp) (by simp [Ex.d_eq]) ?_; simp [Ex.d_eq]
      simp [show ¬ e.op = 16 by omega]
      refine aCall_of (hx) (by simp) (by simp [Ex.d_eq]) ?_; simp [Ex.d_eq]
    by_cases h15 : e.op ≤ 15
    · obtain ⟨op, hoe⟩ : ∃ op, e.op = op := ⟨_, rfl⟩
      obtain ⟨x, y, he, hfx, hfy⟩ := form_two' hf hoe (by omega) (by omega)
      rw [hoe] at h2 h15 hop
      subst he
      clear hoe
      simp only [nodes_two] at se
      have ny : R32 y.n := (hn.l y (by simp)).n
      have hR : sRest (eTwo op x y) = sTwo op x y := by
        unfold sRest
        rw [if_neg (by simp; omega), if_neg (by simp; omega), if_neg (by simp; omega), if_pos (by simp; omega)]
        simp
      have h1 := smbinary1_af op x y (by omega) h15 hfx hfy ny (by omega) (by omega)
      obtain ⟨j, h0⟩ := smbinary0_af op x y hfx (by omega) (by omega)
      rw [signE_two x y (by omega) h15] at hs
      rw [extE_two x y h15] at hx
      rw [hR, sTwo_eq]
      cases hE : sEarly op x y with
      | some r =>
        rw [hE] at h1
        simp only [Option.some_or]
        refine af_of Tryz.func152 rfl (by kernel_rfl) (by simp [Tryz.ntmps152]) fun _ => ?_; simp [Tryz.f152, Ex.d_eq]
        refine aCall_of (hc) (by simp) (by simp [Ex.d_eq]) ?_; simp [Ex.d_eq]
        simp [show 3 ≤ op by omega, h15]
        refine aCall_of (h1) (by simp) (by simp [Ex.d_eq]) ?_; simp [Ex.d_eq]
      | none =>
        rw [hE] at h1
        simp only [Option.none_or]
        cases hS : sSign op x y with
        | some r =>
          rw [hS] at hs
          simp only [Option.some_or]
          refine af_of Tryz.func152 rfl (by kernel_rfl) (by simp [Tryz.ntmps152]) fun _ => ?_; simp [Tryz.f152, Ex.d_eq]
          refine aCall_of (hc) (by simp) (by simp [Ex.d_eq]) ?_; simp [Ex.d_eq]
          simp [show 3 ≤ op by omega, h15]
          refine aCall_of (h1) (by simp) (by simp [Ex.d_eq]) ?_; simp [Ex.d_eq]
          refine aCall_of (hs) (by simp) (by simp [Ex.d_eq]) ?_; simp [Ex.d_eq]
        | none =>
          rw [hS] at hs
          simp only [Option.none_or]
          cases hL : sLate op x y with
          | some r =>
            rw [hL] at h0
            simp only [Option.some_or]
            refine af_of Tryz.func152 rfl (by kernel_rfl) (by simp [Tryz.ntmps152]) fun _ => ?_; simp [Tryz.f152, Ex.d_eq]
            refine aCall_of (hc) (by simp) (by simp [Ex.d_eq]) ?_; simp [Ex.d_eq]
            simp [show 3 ≤ op by omega, h15]
            refine aCall_of (h1) (by simp) (by simp [Ex.d_eq]) ?_; simp [Ex.d_eq]
            refine aCall_of (hs) (by simp) (by simp [Ex.d_eq]) ?_; simp [Ex.d_eq]
            refine aCall_of (h0) (by simp) (by simp [Ex.d_eq]) ?_; simp [Ex.d_eq]
          | none =>
            rw [hL] at h0
            simp only [Option.none_or]
            refine af_of Tryz.func152 rfl (by kernel_rfl) (by simp [Tryz.ntmps152]) fun _ => ?_; simp [Tryz.f152, Ex.d_eq]
            refine aCall_of (hc) (by simp) (by simp [Ex.d_eq]) ?_; simp [Ex.d_eq]
            simp [show 3 ≤ op by omega, h15]
            refine aCall_of (h1) (by simp) (by simp [Ex.d_eq]) ?_; simp [Ex.d_eq]
            refine aCall_of (hs) (by simp) (by simp [Ex.d_eq]) ?_; simp [Ex.d_eq]
            refine aCall_of (h0) (by simp) (by simp [Ex.d_eq]) ?_; simp [Ex.d_eq]
            simp [show ¬ op = 16 by omega]
            refine aCall_of (hx) (by simp) (by simp [Ex.d_eq]) ?_; simp [Ex.d_eq]
    have h3 : ¬ e.op ≤ 15 := h15
    rcases (show e.op = 16 ∨ e.op = 17 ∨ e.op = 18 ∨ e.op = 19 by omega) with k | k | k | k
    · obtain ⟨x, he, hfx⟩ := form_one hf (.inl k)
      rw [k] at he
      subst he
      simp only [nodes_one] at se
      have hR : sRest (eOne 16 x) = sNot x := by simp [sRest]
      have hN := smnegated_af x hfx (by omega)
      rw [signE_no (by simp)] at hs
      rw [extE_no (by simp)] at hx
      rw [hR]
      cases hQ : sNot x with
      | some r =>
        rw [hQ] at hN
        refine af_of Tryz.func152 rfl (by kernel_rfl) (by simp [Tryz.ntmps152]) fun _ => ?_; simp [Tryz.f152, Ex.d_eq]
        refine aCall_of (hc) (by simp) (by simp [Ex.d_eq]) ?_; simp [Ex.d_eq]
        refine aCall_of (hs) (by simp) (by simp [Ex.d_eq]) ?_; simp [Ex.d_eq]
        refine aCall_of (hN) (by simp) (by simp [Ex.d_eq]) ?_; simp [Ex.d_eq]
      | none =>
        rw [hQ] at hN
        refine af_of Tryz.func152 rfl (by kernel_rfl) (by simp [Tryz.ntmps152]) fun _ => ?_; simp [Tryz.f152, Ex.d_eq]
        refine aCall_of (hc) (by simp) (by simp [Ex.d_eq]) ?_; simp [Ex.d_eq]
        refine aCall_of (hs) (by simp) (by simp [Ex.d_eq]) ?_; simp [Ex.d_eq]
        refine aCall_of (hN) (by simp) (by simp [Ex.d_eq]) ?_; simp [Ex.d_eq]
        refine aCall_of (hx) (by simp) (by simp [Ex.d_eq]) ?_; simp [Ex.d_eq]
    · obtain ⟨x, he, hfx⟩ := form_one hf (.inr k)
      rw [k] at he
      subst he
      have hR : sRest (eOne 17 x) = sNeg x := by simp [sRest]
      have hS : sSignE (eOne 17 x) = sNeg x := by simp [sSignE]
      rw [extE_no (by simp)] at hx
      rw [hS] at hs
      rw [hR]
      cases hQ : sNeg x with
      | some r =>
        rw [hQ] at hs
        refine af_of Tryz.func152 rfl (by kernel_rfl) (by simp [Tryz.ntmps152]) fun _ => ?_; simp [Tryz.f152, Ex.d_eq]
        refine aCall_of (hc) (by simp) (by simp [Ex.d_eq]) ?_; simp [Ex.d_eq]
        refine aCall_of (hs) (by simp) (by simp [Ex.d_eq]) ?_; simp [Ex.d_eq]
      | none =>
        rw [hQ] at hs
        refine af_of Tryz.func152 rfl (by kernel_rfl) (by simp [Tryz.ntmps152]) fun _ => ?_; simp [Tryz.f152, Ex.d_eq]
        refine aCall_of (hc) (by simp) (by simp [Ex.d_eq]) ?_; simp [Ex.d_eq]
        refine aCall_of (hs) (by simp) (by simp [Ex.d_eq]) ?_; simp [Ex.d_eq]
        refine aCall_of (hx) (by simp) (by simp [Ex.d_eq]) ?_; simp [Ex.d_eq]
    · have hR : sRest e = none := by simp [sRest, k]
      rw [signE_no (by omega)] at hs
      rw [extE_no (by omega)] at hx
      rw [hR]
      refine af_of Tryz.func152 rfl (by kernel_rfl) (by simp [Tryz.ntmps152]) fun _ => ?_; simp [Tryz.f152, Ex.d_eq]
      refine aCall_of (hc) (by simp) (by simp [Ex.d_eq]) ?_; simp [Ex.d_eq]
      simp [show 3 ≤ e.op by omega, show ¬ e.op ≤ 15 by omega]
      refine aCall_of (hs) (by simp) (by simp [Ex.d_eq]) ?_; simp [Ex.d_eq]
      simp [show ¬ e.op = 16 by omega]
      refine aCall_of (hx) (by simp) (by simp [Ex.d_eq]) ?_; simp [Ex.d_eq]
    · have hR : sRest e = sExt e.wd e.x := by simp [sRest, k]
      have hX : sExtE e = sExt e.wd e.x := by simp [sExtE, k]
      rw [signE_no (by omega)] at hs
      rw [hX] at hx
      rw [hR]
      refine af_of Tryz.func152 rfl (by kernel_rfl) (by simp [Tryz.ntmps152]) fun _ => ?_; simp [Tryz.f152, Ex.d_eq]
      refine aCall_of (hc) (by simp) (by simp [Ex.d_eq]) ?_; simp [Ex.d_eq]
      simp [show 3 ≤ e.op by omega, show ¬ e.op ≤ 15 by omega]
      refine aCall_of (hs) (by simp) (by simp [Ex.d_eq]) ?_; simp [Ex.d_eq]
      simp [show ¬ e.op = 16 by omega]
      refine aCall_of (hx) (by simp) (by simp [Ex.d_eq]) ?_; simp [Ex.d_eq]
end Go.Proofs.YtjnofkcfogognaaGreatDoor

/- Contracts: simplify.each, clone, simple, Expr, IsConst, Negated. -/
namespace Go.Proofs.YtjnofkcfogognaaGreatDoor
open Go.RowKit
set_option maxRecDepth 100000 in
theorem smeach_af (g : Nat) (F : Ex → Ex) (l : List Ex) (hlen : l.length ≤ 1000000) (hg : okF Tryz.prog g = true) (h : ∀ y ∈ l, AF Tryz.prog g [exA y] (exA (F y))) :
    AF Tryz.prog 98 [.d (.sl 5 (Ex.ds l)), .fn g [] []] (.d (.sl 5 (Ex.ds (l.map F)))) := by
  have n1 : l.length ≤ maxLen := by unfold maxLen; omega
  by_cases hl : l = []
  · subst hl
    refine af_of Tryz.func98 rfl (by kernel_rfl) (by simp [Tryz.ntmps98]) fun _ => ?_; simp [Tryz.f98, Ex.d_eq]
  refine af_of Tryz.func98 rfl (by kernel_rfl) (by simp [Tryz.ntmps98]) fun _ => ?_; simp [Tryz.f98, Ex.d_eq]
  simp [hl]
  refine aRaw_make (kl := .i64) (kc := .i64) (l := 0) (c := l.length) (z := [aI .i64 0, aI .u32 0, aI .i64 0, aI .i64 0, .d (.v (.slice none 0 0))]) byt_23 (by simp) (by simp) (by simp) (by omega) n1 (by omega) ?_
  simp
  refine aLoop_of (α := Nat) (fun i e A => i ≤ l.length ∧ (∃ N : AHeap, A = ⟨i, true, 38, 5, dEls (Ex.ds ((l.take i).map F))⟩ :: N) ∧
    e 16 = aI .i64 i ∧ e 15 = aI .i64 l.length ∧ e 14 = .d (.sl 5 (Ex.ds l)) ∧ e 5 = .own 0 i 0 i ∧ e 1 = .fn g [] []) (fun i => l.length - i) 0 (Sub.refl _ _ _)
    ⟨by omega, ⟨[], by simp⟩, by simp, by simp, by simp, by simp, by simp⟩ ?_
  rintro i e A ⟨hi, ⟨N, rfl⟩, e16, e15, e14, e5, e1⟩ K hK
  rcases Nat.lt_or_ge i l.length with hlt | hge
  case inr =>
    obtain rfl : i = l.length := by omega
    have ht : List.take l.length (Ex.ds (l.map F)) = Ex.ds (l.map F) := List.take_of_length_le (by simp)
    simp [e16, e15, e5, ht]
  obtain ⟨y, hy⟩ : ∃ y, l[i]? = some y := ⟨_, List.getElem?_eq_getElem hlt⟩
  have hy2 := (List.getElem?_eq_some_iff.1 hy).2
  have hmin : min i l.length = i := by omega
  simp [e16, e15, e14, e5, e1, hlt, hy, hy2, Ex.d_eq]
  refine aCall_of (h y (List.mem_of_getElem? hy)) hg (by simp [Ex.d_eq]) ?_
  simp [e5, Ex.d_eq, hmin]
  refine aRaw_app byt_23 ?_
  simp [e5, Ex.d_eq, hmin]
  refine ⟨by unfold maxLen; omega, by omega, ?_⟩
  have hels : dEls (Ex.ds (List.take (i + 1) (l.map F))) = dEls (Ex.ds (List.take i (l.map F))) ++ [[aI .i64 (F y).op, aI .u32 (F y).n, aI .i64 (F y).v, aI .i64 (F y).wd, .d (.sl 5 (Ex.ds (F y).l))]] := by
    rw [List.take_add_one, List.getElem?_map, hy]
    simp [Ex.ds_map, dEls, Ex.d_eq]
  simp [e16, succ_wrap hlt n1]
  refine hK (i + 1) _ _ _ _ (Sub.take 1 (by simp)) ⟨by omega, ⟨[], by rw [← hels]; simp⟩, by simp, by simp [e15], by simp [e14], by simp, by simp [e1]⟩ (by omega)
theorem smclone_af : ∀ (e : Ex), e.nodes ≤ 1000000 → AF Tryz.prog 88 [exA e] (exA e) := by
  intro x
  induction x using Ex.ind with
  | h x ih =>
    intro hn
    have hlen := x.nodes_len
    have he := smeach_af 88 id x.l (by omega) (by kernel_rfl) fun y hy => ih y hy (by have := Ex.nodes_mem hy; omega)
    rw [List.map_id] at he
    refine af_of Tryz.func88 rfl (by kernel_rfl) (by simp [Tryz.ntmps88]) fun _ => ?_; simp [Tryz.f88, Ex.d_eq]
    refine aCall_of (he) (by simp) (by simp [Ex.d_eq]) ?_; simp [Ex.d_eq]
end Go.Proofs.YtjnofkcfogognaaGreatDoor

/- Contracts: simplify.simple, Expr, IsConst, Negated. -/
namespace Go.Proofs.YtjnofkcfogognaaGreatDoor
open Go.RowKit
theorem ok_triv : EvOk [] (fun _ _ => (0, 0)) := ⟨fun v => by unfold valR; split <;> simp [r32_0], fun _ _ => r32_0, fun _ _ h => rfl⟩
theorem simp_okN {k : Nat} {e : Ex} (hf : formB e = true) (hn : OkN e) (hw : sw e ≤ k) : OkN (simpF k e) :=
  (simp_ev (V := []) (L := fun _ _ => (0, 0)) (E := 1) ok_triv (by omega) (fun _ _ => .inl rfl) (fun _ _ => ⟨fun _ => by simp, fun _ => by simp⟩) k e hf hn hw).2
theorem rule_okN {e r : Ex} (hf : formB e = true) (hn : OkN e) (hr : sRule e = some r) : OkN r :=
  (rule_ev (V := []) (L := fun _ _ => (0, 0)) (E := 1) ok_triv (by omega) (fun _ _ => .inl rfl) (fun _ _ => ⟨fun _ => by simp, fun _ => by simp⟩) hf hn hr).2
/-- The operands simplified. -/
theorem simp_map {k : Nat} {e : Ex} (hf : formB e = true) (hn : OkN e) (hw : sw e ≤ k + 1) : formB (.mk e.op e.n e.v e.wd (e.l.map (simpF k))) = true ∧ OkN (.mk e.op e.n e.v e.wd (e.l.map (simpF k))) ∧
    sw (.mk e.op e.n e.v e.wd (e.l.map (simpF k))) ≤ sw e ∧ (Ex.mk e.op e.n e.v e.wd (e.l.map (simpF k))).nodes ≤ e.nodes := by
  have hch : ∀ x ∈ e.l, SOk (simpF k x) x := fun x hx => simp_ok k x ((form_all hf).2 x hx) (by have := sw_mem hx; omega)
  refine ⟨form_map (f := simpF k) hf fun x hx => (hch x hx).form, .mk (by simpa using hn.n) ?_, sw_map (f := simpF k) hf fun x hx => ⟨(hch x hx).sw, (hch x hx).form, (hch x hx).con, (hch x hx).ncon⟩, ?_⟩
  · intro x hx
    simp only [Ex.l_mk, List.mem_map] at hx
    obtain ⟨y, hy, rfl⟩ := hx
    exact simp_okN ((form_all hf).2 y hy) (hn.l y hy) (by have := sw_mem hy; omega)
  · have hl : ∀ l : List Ex, (∀ x ∈ l, SOk (simpF k x) x) → Ex.nodess (l.map (simpF k)) ≤ Ex.nodess l := by
      intro l
      induction l with
      | nil => intro _; exact Nat.le_refl _
      | cons a l ihl =>
        intro h
        have h1 := (h a (by simp)).nodes
        have h2 := ihl fun x hx => h x (by simp [hx])
        simp only [List.map_cons, Ex.nodess]
        omega
    have := hl e.l hch
    obtain ⟨o, n, v, w, l⟩ := e
    simp only [Ex.nodes, Ex.op_mk, Ex.n_mk, Ex.v_mk, Ex.wd_mk, Ex.l_mk] at this ⊢
    omega
theorem simpF_succ (k : Nat) (e : Ex) : simpF (k + 1) e = match sRule (.mk e.op e.n e.v e.wd (e.l.map (simpF k))) with
    | some r => simpF k r
    | none => .mk e.op e.n e.v e.wd (e.l.map (simpF k)) := rfl
theorem smsimple_af : ∀ (k : Nat) (e : Ex), formB e = true → OkN e → sw e ≤ k → e.nodes ≤ 1000000 → AF Tryz.prog 89 [exA e] (exA (simpF k e)) := by
  intro k
  induction k using Nat.strongRecOn with
  | _ k ih =>
  intro e hf hn hw hs
  obtain ⟨R, hR⟩ : ∃ R, simpF k e = R := ⟨_, rfl⟩
  rw [hR]
  refine af_of Tryz.func89 rfl (by kernel_rfl) (by simp [Tryz.ntmps89]) fun _ => ?_; simp [Tryz.f89, Ex.d_eq]
  refine aLoop_of (α := Nat × Ex) (fun s g A => s.1 ≤ k ∧ formB s.2 = true ∧ OkN s.2 ∧ sw s.2 ≤ s.1 ∧ s.2.nodes ≤ 1000000 ∧ simpF s.1 s.2 = R ∧ (∃ N : AHeap, A = exC s.2 :: nilC :: N) ∧
    g 1 = .ptr 0 0 0 0 ∧ g 2 = .ptr 1 0 0 0) (fun s => s.1) (k, e) (Sub.refl _ _ _) ⟨Nat.le_refl _, hf, hn, hw, hs, hR, ⟨[], by simp⟩, by simp, by simp⟩ ?_
  rintro ⟨m, x⟩ g A ⟨hm, hfx, hnx, hwx, hsx, hRx, ⟨N, rfl⟩, e1, e2⟩ K hK
  simp only at hm hfx hnx hwx hsx hRx
  match m with
  | 0 => have := sw_pos x; omega
  | m + 1 =>
  obtain ⟨f1, f2, f3, f4⟩ := simp_map hfx hnx hwx
  have hlen := x.nodes_len
  have he := smeach_af 89 (simpF m) x.l (by omega) (by kernel_rfl) fun y hy => ih m (by omega) y ((form_all hfx).2 y hy) (hnx.l y hy) (by have := sw_mem hy; omega) (by have := Ex.nodes_mem hy; omega)
  rw [simpF_succ] at hRx
  obtain ⟨M, hM⟩ : ∃ M, x.l.map (simpF m) = M := ⟨_, rfl⟩
  rw [hM] at he f1 f2 f3 f4 hRx
  simp [e1]
  refine aCall_of (he) (by simp) (by simp [Ex.d_eq]) ?_; simp [Ex.d_eq]
  simp [e1]
  have hr := smrule_af (.mk x.op x.n x.v x.wd M) f1 f2 (by omega)
  cases hS : sRule (.mk x.op x.n x.v x.wd M) with
  | none =>
    rw [hS] at hRx hr
    simp only at hRx
    subst hRx
    refine aCall_of (hr) (by simp) (by simp [Ex.d_eq]) ?_; simp [Ex.d_eq]
    simp [e1, e2]
  | some r =>
    rw [hS] at hRx hr
    simp only at hRx
    have hl := srule_less f1 hS
    refine aCall_of (hr) (by simp) (by simp [Ex.d_eq]) ?_; simp [Ex.d_eq]
    simp [e1]
    refine hK (m, r) _ _ _ _ (Sub.refl _ _ _) ⟨by simp only; omega, hl.form, rule_okN f1 f2 hS, by have := hl.sw; simp only; omega, by have := hl.nodes; simp only; omega, hRx, ⟨_, by simp [Ex.d_eq]; rfl⟩, by simp [e1], by simp [e2]⟩ (by simp only; omega)
/-- What Expr answers. -/
def sExpr (e : Ex) : Ex := if shalB 64 e = true ∧ formB e = true then simpF (sw e) e else e
theorem smexpr_af (e : Ex) (hn : OkN e) (hs : e.nodes ≤ 1000000) : AF Tryz.prog 26 [exA e] (exA (sExpr e)) := by
  unfold sExpr
  by_cases h : shalB 64 e = true ∧ formB e = true
  · rw [if_pos h]
    refine af_of Tryz.func26 rfl (by kernel_rfl) (by simp [Tryz.ntmps26]) fun _ => ?_; simp [Tryz.f26, Ex.d_eq]
    refine aCall_of (check_af e) (by simp) (by simp [Ex.d_eq]) ?_; simp [Ex.d_eq]
    simp [h.1, h.2]
    refine aCall_of (smclone_af e hs) (by simp) (by simp [Ex.d_eq]) ?_; simp [Ex.d_eq]
    refine aCall_of (smsimple_af (sw e) e h.2 hn (Nat.le_refl _) hs) (by simp) (by simp [Ex.d_eq]) ?_; simp [Ex.d_eq]
  · rw [if_neg h]
    have hc := check_af e
    by_cases h1 : shalB 64 e = true
    · have h2 : formB e = false := by simpa [h1] using h
      rw [if_pos h1, if_neg (by simp [h2])] at hc
      refine af_of Tryz.func26 rfl (by kernel_rfl) (by simp [Tryz.ntmps26]) fun _ => ?_; simp [Tryz.f26, Ex.d_eq]
      refine aCall_of (hc) (by simp) (by simp [Ex.d_eq]) ?_; simp [Ex.d_eq]
      refine aCall_of (smclone_af e hs) (by simp) (by simp [Ex.d_eq]) ?_; simp [Ex.d_eq]
    · rw [if_neg h1] at hc
      refine af_of Tryz.func26 rfl (by kernel_rfl) (by simp [Tryz.ntmps26]) fun _ => ?_; simp [Tryz.f26, Ex.d_eq]
      refine aCall_of (hc) (by simp) (by simp [Ex.d_eq]) ?_; simp [Ex.d_eq]
      refine aCall_of (smclone_af e hs) (by simp) (by simp [Ex.d_eq]) ?_; simp [Ex.d_eq]
/-- What IsConst answers. -/
def sIs (e : Ex) : Bool := shalB 64 e && formB e && decide ((sExpr e).op = 1)
theorem smisconst_af (e : Ex) (hn : OkN e) (hs : e.nodes ≤ 1000000) : AF Tryz.prog 27 [exA e] (.tup [aI .u32 (if sIs e = true then (sExpr e).n else 0), aB (sIs e)]) := by
  have hc := check_af e
  unfold sIs
  by_cases h1 : shalB 64 e = true
  · by_cases h2 : formB e = true
    · rw [if_pos h1, if_pos h2] at hc
      refine af_of Tryz.func27 rfl (by kernel_rfl) (by simp [Tryz.ntmps27]) fun _ => ?_; simp [Tryz.f27, Ex.d_eq]
      refine aCall_of (hc) (by simp) (by simp [Ex.d_eq]) ?_; simp [Ex.d_eq]
      refine aCall_of (smexpr_af e hn hs) (by simp) (by simp [Ex.d_eq]) ?_; simp [Ex.d_eq]
      by_cases h3 : (sExpr e).op = 1 <;> simp [h1, h2, h3]
    · rw [if_pos h1, if_neg h2] at hc
      refine af_of Tryz.func27 rfl (by kernel_rfl) (by simp [Tryz.ntmps27]) fun _ => ?_; simp [Tryz.f27, Ex.d_eq]
      refine aCall_of (hc) (by simp) (by simp [Ex.d_eq]) ?_; simp [Ex.d_eq]
      simp [h1, h2]
  · rw [if_neg h1] at hc
    refine af_of Tryz.func27 rfl (by kernel_rfl) (by simp [Tryz.ntmps27]) fun _ => ?_; simp [Tryz.f27, Ex.d_eq]
    refine aCall_of (hc) (by simp) (by simp [Ex.d_eq]) ?_; simp [Ex.d_eq]
    simp [h1]
theorem smnegate_af (e : Ex) (hn : OkN e) (hs : e.nodes ≤ 999999) : AF Tryz.prog 31 [exA e] (exA (sExpr (eOne 16 e))) := by
  refine af_of Tryz.func31 rfl (by kernel_rfl) (by simp [Tryz.ntmps31]) fun _ => ?_; simp [Tryz.f31, Ex.d_eq]
  refine aCall_of (smone_af 16 e) (by simp) (by simp [Ex.d_eq]) ?_; simp [Ex.d_eq]
  refine aCall_of (smexpr_af (eOne 16 e) (okN_one hn) (by simp; omega)) (by simp) (by simp [Ex.d_eq]) ?_; simp [Ex.d_eq]
end Go.Proofs.YtjnofkcfogognaaGreatDoor

/- Contract: the example of layer 22 holds. -/
namespace Go.Proofs.YtjnofkcfogognaaGreatDoor
open Go.RowKit
theorem smeachI0_af : AF Tryz.prog 96 [.d (.sl 1 []), .fn 97 [] []] (.d (.sl 1 [])) := by
  refine af_of Tryz.func96 rfl (by kernel_rfl) (by simp [Tryz.ntmps96]) fun _ => ?_; simp [Tryz.f96, Ex.d_eq]
theorem printst22 : AF Tryz.prog 17 [stV ⟨7, 0, 0, 3, 4, 0, [eOne 16 (eVar 1)], []⟩] (aS ⟨#[98, 114, 97, 110, 99, 104, 32, 33, 114, 49, 44, 32, 51, 44, 32, 52]⟩) := xres_af orc19_ok (lf := 100) (n := 60) (by kernel_rfl)
theorem rprint22a : AF Tryz.prog 21 [exA (eTwo 12 (eVar 1) (eVar 2))] (aS ⟨#[40, 114, 49, 32, 61, 61, 32, 114, 50, 41]⟩) := xres_af xnone_ok (lf := 100) (n := 60) (by kernel_rfl)
theorem rprint22b : AF Tryz.prog 21 [exA (eTwo 13 (eVar 1) (eCon 4294967292))] (aS ⟨#[40, 114, 49, 32, 33, 61, 32, 48, 120, 102, 102, 102, 102, 102, 102, 102, 99, 41]⟩) := xres_af xnone_ok (lf := 100) (n := 60) (by kernel_rfl)
theorem rprintst22 : AF Tryz.prog 18 [stV ⟨7, 0, 0, 4, 3, 0, [eVar 1], []⟩] (aS ⟨#[98, 114, 97, 110, 99, 104, 32, 114, 49, 44, 32, 52, 44, 32, 51]⟩) := xres_af xnone_ok (lf := 100) (n := 60) (by kernel_rfl)
theorem okN_var (v : Int) : OkN (eVar v) := .mk r32_0 (by simp)
theorem okN_mk (o w : Int) {a : Ex} (h : OkN a) : OkN (.mk o 0 0 w [a]) := .mk r32_0 (by simpa using h)
theorem okN_num {n : Int} (h1 : 0 ≤ n) (h2 : n < 4294967296) : OkN (eCon n) := okN_con ⟨h1, h2⟩
abbrev ld22 : Ex := .mk 18 0 0 4 [eVar 1]
theorem ex22a : AF Tryz.prog 26 [exA (eTwo 4 (eTwo 3 (eVar 1) (eCon 5)) (eCon 5))] (exA (eVar 1)) := by
  have := smexpr_af (eTwo 4 (eTwo 3 (eVar 1) (eCon 5)) (eCon 5)) (okN_two (okN_two (okN_var 1) (okN_num (by omega) (by omega))) (okN_num (by omega) (by omega))) (by simp)
  rwa [show sExpr (eTwo 4 (eTwo 3 (eVar 1) (eCon 5)) (eCon 5)) = eVar 1 by kernel_rfl] at this
theorem ex22b : AF Tryz.prog 26 [exA (eTwo 6 ld22 ld22)] (exA ld22) := by
  have := smexpr_af (eTwo 6 ld22 ld22) (okN_two (okN_mk 18 4 (okN_var 1)) (okN_mk 18 4 (okN_var 1))) (by decide)
  rwa [show sExpr (eTwo 6 ld22 ld22) = ld22 by kernel_rfl] at this
theorem ex22c : AF Tryz.prog 26 [exA (eTwo 4 ld22 ld22)] (exA (eTwo 4 ld22 ld22)) := by
  have := smexpr_af (eTwo 4 ld22 ld22) (okN_two (okN_mk 18 4 (okN_var 1)) (okN_mk 18 4 (okN_var 1))) (by decide)
  rwa [show sExpr (eTwo 4 ld22 ld22) = eTwo 4 ld22 ld22 by kernel_rfl] at this
theorem ex22d : AF Tryz.prog 26 [exA (eTwo 12 (eTwo 4 (eVar 1) (eVar 2)) (eCon 0))] (exA (eTwo 12 (eVar 1) (eVar 2))) := by
  have := smexpr_af (eTwo 12 (eTwo 4 (eVar 1) (eVar 2)) (eCon 0)) (okN_two (okN_two (okN_var 1) (okN_var 2)) (okN_num (by omega) (by omega))) (by simp)
  rwa [show sExpr (eTwo 12 (eTwo 4 (eVar 1) (eVar 2)) (eCon 0)) = eTwo 12 (eVar 1) (eVar 2) by kernel_rfl] at this
theorem ex22e : AF Tryz.prog 26 [exA (eTwo 15 (eCon 0) (eTwo 3 (eVar 1) (eCon 4)))] (exA (eTwo 13 (eVar 1) (eCon 4294967292))) := by
  have := smexpr_af (eTwo 15 (eCon 0) (eTwo 3 (eVar 1) (eCon 4))) (okN_two (okN_num (by omega) (by omega)) (okN_two (okN_var 1) (okN_num (by omega) (by omega)))) (by simp)
  rwa [show sExpr (eTwo 15 (eCon 0) (eTwo 3 (eVar 1) (eCon 4))) = eTwo 13 (eVar 1) (eCon 4294967292) by kernel_rfl] at this
theorem ex22f : AF Tryz.prog 31 [exA (eOne 16 (eTwo 14 (eVar 1) (eVar 2)))] (exA (eTwo 14 (eVar 1) (eVar 2))) := by
  have := smnegate_af (eOne 16 (eTwo 14 (eVar 1) (eVar 2))) (okN_one (okN_two (okN_var 1) (okN_var 2))) (by simp)
  rwa [show sExpr (eOne 16 (eOne 16 (eTwo 14 (eVar 1) (eVar 2)))) = eTwo 14 (eVar 1) (eVar 2) by kernel_rfl] at this
theorem ex22g : AF Tryz.prog 27 [exA (eTwo 4 (eVar 1) (eVar 1))] (.tup [aI .u32 0, aB true]) := by
  have := smisconst_af (eTwo 4 (eVar 1) (eVar 1)) (okN_two (okN_var 1) (okN_var 1)) (by simp)
  rwa [show sIs (eTwo 4 (eVar 1) (eVar 1)) = true by kernel_rfl, if_pos rfl, show sExpr (eTwo 4 (eVar 1) (eVar 1)) = eCon 0 by kernel_rfl] at this
theorem ex22h : AF Tryz.prog 26 [exA (eOne 16 (eVar 1))] (exA (eOne 16 (eVar 1))) := by
  have := smexpr_af (eOne 16 (eVar 1)) (okN_one (okN_var 1)) (by simp)
  rwa [show sExpr (eOne 16 (eVar 1)) = eOne 16 (eVar 1) by kernel_rfl] at this
theorem stmt22 : AF Tryz.prog 39 [stV ⟨7, 0, 0, 3, 4, 0, [eOne 16 (eVar 1)], []⟩] (stV ⟨7, 0, 0, 4, 3, 0, [eVar 1], []⟩) := by
  have he := smeach_af 26 (fun _ => eOne 16 (eVar 1)) [eOne 16 (eVar 1)] (by simp) (by kernel_rfl) fun y hy => by
    simp only [List.mem_singleton] at hy
    subst hy
    exact ex22h
  refine af_of Tryz.func39 rfl (by kernel_rfl) (by simp [Tryz.ntmps39]) fun _ => ?_; simp [Tryz.f39, Ex.d_eq]
  refine aCall_of (smeachI0_af) (by simp) (by simp [Ex.d_eq]) ?_; simp [Ex.d_eq]
  refine aCall_of printst22 (by simp) (by simp [Ex.d_eq]) ?_; simp [Ex.d_eq]
  refine aCall_of (he) (by simp) (by simp [Ex.d_eq]) ?_; simp [Ex.d_eq]
  refine aLoop_iter 3 ?_; simp [Ex.d_eq]
theorem l22ex_af : AF Tryz.prog 23 [] (aB true) := by
  refine af_of Tryz.func23 rfl (by kernel_rfl) (by simp [Tryz.ntmps23]) fun _ => ?_; simp [Tryz.f23, Ex.d_eq]
  refine aCall_of (r19var_af 1) (by simp) (by simp [Ex.d_eq]) ?_; simp [Ex.d_eq]
  refine aCall_of (r19var_af 2) (by simp) (by simp [Ex.d_eq]) ?_; simp [Ex.d_eq]
  refine aCall_of (r19load_af 4 (eVar 1)) (by simp) (by simp [Ex.d_eq]) ?_; simp [Ex.d_eq]
  refine aCall_of (r19two_af 14 (eVar 1) (eVar 2)) (by simp) (by simp [Ex.d_eq]) ?_; simp [Ex.d_eq]
  refine aCall_of (r19one_af 16 (eVar 1)) (by simp) (by simp [Ex.d_eq]) ?_; simp [Ex.d_eq]
  refine aCall_ofz [4] stmt22 (by simp) (by simp [frz, Ex.d_eq]) ?_; simp [frz, Ex.d_eq]
  refine aCall_of (r19two_af 4 (eVar 1) (eVar 1)) (by simp) (by simp [Ex.d_eq]) ?_; simp [Ex.d_eq]
  refine aCall_of (ex22g) (by simp) (by simp [Ex.d_eq]) ?_; simp [Ex.d_eq]
  refine adraw [] (by kernel_rfl) (by kernel_rfl) (by kernel_rfl) (by kernel_rfl) ?_; simp [Ex.d_eq]
  refine adC_of (r19const_af 5) (by simp) trivial (by simp) (by simp [Ex.d_eq]) ?_; simp [Ex.d_eq]
  refine adC_of (r19two_af 3 (eVar 1) (eCon 5)) (by simp) trivial (by simp) (by simp [Ex.d_eq]) ?_; simp [Ex.d_eq]
  refine adC_of (r19const_af 5) (by simp) trivial (by simp) (by simp [Ex.d_eq]) ?_; simp [Ex.d_eq]
  refine adC_of (r19two_af 4 (eTwo 3 (eVar 1) (eCon 5)) (eCon 5)) (by simp) trivial (by simp) (by simp [Ex.d_eq]) ?_; simp [Ex.d_eq]
  refine adC_of (ex22a) (by simp) trivial (by simp) (by simp [Ex.d_eq]) ?_; simp [Ex.d_eq]
  have sm1 := refsame_af (eVar 1) (eVar 1)
  rw [sameB_refl] at sm1
  refine adC_of (sm1) (by simp) trivial (by simp) (by simp [Ex.d_eq]) ?_; simp [Ex.d_eq]
  refine adC_of (r19two_af 6 ld22 ld22) (by simp) trivial (by simp) (by simp [Ex.d_eq]) ?_; simp [Ex.d_eq]
  refine adC_of (ex22b) (by simp) trivial (by simp) (by simp [Ex.d_eq]) ?_; simp [Ex.d_eq]
  have sm2 := refsame_af ld22 ld22
  rw [sameB_refl] at sm2
  refine adC_of (sm2) (by simp) trivial (by simp) (by simp [Ex.d_eq]) ?_; simp [Ex.d_eq]
  refine adC_of (r19two_af 4 ld22 ld22) (by simp) trivial (by simp) (by simp [Ex.d_eq]) ?_; simp [Ex.d_eq]
  refine adC_of (ex22c) (by simp) trivial (by simp) (by simp [Ex.d_eq]) ?_; simp [Ex.d_eq]
  have sz := r19size_af (eTwo 4 ld22 ld22) (by decide)
  rw [show (eTwo 4 ld22 ld22).nodes = 5 by kernel_rfl] at sz
  refine adC_of (sz) (by simp) trivial (by simp) (by simp [Ex.d_eq]) ?_; simp [Ex.d_eq]
  refine adC_of (r19two_af 4 (eVar 1) (eVar 2)) (by simp) trivial (by simp) (by simp [Ex.d_eq]) ?_; simp [Ex.d_eq]
  refine adC_of (r19const_af 0) (by simp) trivial (by simp) (by simp [Ex.d_eq]) ?_; simp [Ex.d_eq]
  refine adC_of (r19two_af 12 (eTwo 4 (eVar 1) (eVar 2)) (eCon 0)) (by simp) trivial (by simp) (by simp [Ex.d_eq]) ?_; simp [Ex.d_eq]
  refine adC_of (ex22d) (by simp) trivial (by simp) (by simp [Ex.d_eq]) ?_; simp [Ex.d_eq]
  refine adC_of (rprint22a) (by simp) trivial (by simp) (by simp [Ex.d_eq]) ?_; simp [Ex.d_eq]
  refine adC_of (r19one_af 16 (eTwo 14 (eVar 1) (eVar 2))) (by simp) trivial (by simp) (by simp [Ex.d_eq]) ?_; simp [Ex.d_eq]
  refine adC_of (ex22f) (by simp) trivial (by simp) (by simp [Ex.d_eq]) ?_; simp [Ex.d_eq]
  have sm3 := refsame_af (eTwo 14 (eVar 1) (eVar 2)) (eTwo 14 (eVar 1) (eVar 2))
  rw [sameB_refl] at sm3
  refine adC_of (sm3) (by simp) trivial (by simp) (by simp [Ex.d_eq]) ?_; simp [Ex.d_eq]
  refine adC_of (rprintst22) (by simp) trivial (by simp) (by simp [Ex.d_eq]) ?_; simp [Ex.d_eq]
  refine adC_of (r19const_af 0) (by simp) trivial (by simp) (by simp [Ex.d_eq]) ?_; simp [Ex.d_eq]
  refine adC_of (r19const_af 4) (by simp) trivial (by simp) (by simp [Ex.d_eq]) ?_; simp [Ex.d_eq]
  refine adC_of (r19two_af 3 (eVar 1) (eCon 4)) (by simp) trivial (by simp) (by simp [Ex.d_eq]) ?_; simp [Ex.d_eq]
  refine adC_of (r19two_af 15 (eCon 0) (eTwo 3 (eVar 1) (eCon 4))) (by simp) trivial (by simp) (by simp [Ex.d_eq]) ?_; simp [Ex.d_eq]
  refine adC_of (ex22e) (by simp) trivial (by simp) (by simp [Ex.d_eq]) ?_; simp [Ex.d_eq]
  refine adC_of (rprint22b) (by simp) trivial (by simp) (by simp [Ex.d_eq]) ?_; simp [Ex.d_eq]
theorem depth_nodes : ∀ e : Ex, e.depth ≤ e.nodes := by
  intro e
  induction e using Ex.ind with
  | h e ih =>
    obtain ⟨o, n, v, w, l⟩ := e
    simp only [Ex.l_mk] at ih
    have : Ex.depths l ≤ Ex.nodess l := by
      induction l with
      | nil => simp [Ex.depths, Ex.nodess]
      | cons a l ihl =>
        have h1 := ih a (by simp)
        have h2 := ihl fun x hx => ih x (by simp [hx])
        simp only [Ex.depths, Ex.nodess]
        omega
    simp only [Ex.depth, Ex.nodes]
    omega
theorem levels_af : ∀ (e : Ex), e.nodes ≤ 1000000 → AF Tryz.prog 35 [exA e] (aI .i64 e.depth) := by
  intro x
  induction x using Ex.ind with
  | h x ih =>
    intro hn
    have hlen := x.nodes_len
    have n1 : x.l.length ≤ maxLen := by unfold maxLen; omega
    have hd : x.depth = Ex.depths x.l + 1 := by obtain ⟨o, n, v, w, l⟩ := x; simp [Ex.depth]
    have hdn : ∀ i, Ex.depths (x.l.take i) ≤ 1000000 := fun i => by
      have h1 : ∀ l : List Ex, Ex.depths l ≤ Ex.nodess l := by
        intro l
        induction l with
        | nil => simp [Ex.depths, Ex.nodess]
        | cons a l ih => have := depth_nodes a; simp only [Ex.depths, Ex.nodess]; omega
      have h2 : ∀ (l : List Ex) (i : Nat), Ex.nodess (l.take i) ≤ Ex.nodess l := by
        intro l
        induction l with
        | nil => intro i; simp
        | cons a l ih => intro i; cases i with
          | zero => simp [Ex.nodess]
          | succ i => have := ih i; simp only [List.take_succ_cons, Ex.nodess]; omega
      have := h1 (x.l.take i)
      have := h2 x.l i
      have h3 : x.nodes = Ex.nodess x.l + 1 := by obtain ⟨o, n, v, w, l⟩ := x; simp [Ex.nodes]
      omega
    refine af_of Tryz.func35 rfl (by kernel_rfl) (by simp [Tryz.ntmps35]) fun _ => ?_; simp [Tryz.f35, Ex.d_eq]
    refine aLoop_of (α := Nat) (fun i e A => i ≤ x.l.length ∧ A = [exC x] ∧ e 3 = aI .i64 (Ex.depths (x.l.take i)) ∧ e 4 = aI .i64 i ∧ e 1 = .ptr 0 0 0 0) (fun i => x.l.length - i) 0 (Sub.refl _ _ _)
      ⟨by omega, by simp, by simp [Ex.depths], by simp, by simp⟩ ?_
    rintro i e A ⟨hi, rfl, e3, e4, e1⟩ K hK
    rcases Nat.lt_or_ge i x.l.length with hlt | hge
    case inr =>
      obtain rfl : i = x.l.length := by omega
      have := hdn x.l.length
      rw [List.take_length] at this e3
      simp [e1, e3, e4, hd, i64w (n := (Ex.depths x.l : Int) + 1) (by omega)]
    obtain ⟨y, hy⟩ : ∃ y, x.l[i]? = some y := ⟨_, List.getElem?_eq_getElem hlt⟩
    have hy2 := (List.getElem?_eq_some_iff.1 hy).2
    have hmem := List.mem_of_getElem? hy
    simp [e1, e3, e4, hlt, hy, hy2, Ex.d_eq]
    refine aCall_of (ih y hmem (by have := Ex.nodes_mem hmem; omega)) (by simp) (by simp [Ex.d_eq]) ?_
    simp [e3]
    refine aRaw_max (k := .i64) (k' := .i64) (a := (Ex.depths (x.l.take i) : Int)) (b := (y.depth : Int)) (by simp [e3]) (by simp) ?_
    have hds : ∀ (l : List Ex) (i : Nat) (y : Ex), l[i]? = some y → Ex.depths (l.take (i + 1)) = max (Ex.depths (l.take i)) y.depth := by
      intro l
      induction l with
      | nil => intro i y h; simp at h
      | cons a l ihl =>
        intro i y h
        cases i with
        | zero =>
          simp only [List.getElem?_cons_zero, Option.some.injEq] at h
          subst h
          simp [Ex.depths]
        | succ i =>
          simp only [List.getElem?_cons_succ] at h
          have := ihl i y h
          simp only [List.take_succ_cons, Ex.depths] at this ⊢
          omega
    have hmax : (if (Ex.depths (x.l.take i) : Int) < (y.depth : Int) then (y.depth : Int) else (Ex.depths (x.l.take i) : Int)) = (Ex.depths (x.l.take (i + 1)) : Int) := by
      rw [hds _ _ _ hy]
      split <;> omega
    rw [hmax]
    simp [e4, succ_wrap hlt n1]
    exact hK (i + 1) _ _ _ _ (Sub.refl _ _ _) ⟨by omega, by simp, by simp, by simp, by simp [e1]⟩ (by omega)
end Go.Proofs.YtjnofkcfogognaaGreatDoor

/- Contract: the law SimplifyFixed answers true. -/
namespace Go.Proofs.YtjnofkcfogognaaGreatDoor
open Go.RowKit
theorem sexpr_ok {e : Ex} (hs : shalB 64 e = true) (hf : formB e = true) : SOk (sExpr e) e := by
  unfold sExpr
  rw [if_pos ⟨hs, hf⟩]
  exact simp_ok _ e hf (Nat.le_refl _)
theorem sexpr_okN {e : Ex} (hs : shalB 64 e = true) (hf : formB e = true) (hn : OkN e) : OkN (sExpr e) := by
  unfold sExpr
  rw [if_pos ⟨hs, hf⟩]
  exact simp_okN hf hn (Nat.le_refl _)
theorem sexpr_shal {e : Ex} (hs : shalB 64 e = true) (hf : formB e = true) : shalB 64 (sExpr e) = true := by
  have := (sexpr_ok hs hf).depth
  rw [shal_iff] at hs ⊢
  omega
theorem sexpr_eq {e : Ex} (hs : shalB 64 e = true) (hf : formB e = true) : sExpr e = simpF (sw e) e := by
  unfold sExpr
  rw [if_pos ⟨hs, hf⟩]
/-- What Expr answers stays. -/
theorem sexpr_again {e : Ex} (hs : shalB 64 e = true) (hf : formB e = true) : sExpr (sExpr e) = sExpr e := by
  rw [sexpr_eq (sexpr_shal hs hf) (sexpr_ok hs hf).form]
  exact norm_simp (sexpr_ok hs hf).norm _
theorem small_n3 {e : Ex} {m : Int} (h : 0 ≤ nodI e m 3000) : e.nodes ≤ 3000 := by
  have := (nodI_le e m 3000 (by omega)).2
  omega
theorem lawsmfixed_af (e : Ex) (hn : OkN e) : AF Tryz.prog 7 [exA e] (aB true) := by
  refine af_of Tryz.func7 rfl (by kernel_rfl) (by simp [Tryz.ntmps7]) fun _ => ?_; simp [Tryz.f7, Ex.d_eq]
  refine aCall_of (small_af e 70 (by omega) (by omega)) (by simp) (by simp [Ex.d_eq]) ?_; simp [Ex.d_eq]
  by_cases hs : 0 ≤ nodI e 70 3000
  case neg =>
    simp [hs]
    refine aCall_of (l22ex_af) (by simp) (by simp [Ex.d_eq]) ?_; simp [Ex.d_eq]
  have hsn := small_n3 hs
  simp [hs]
  have hc := rcheck_af e
  by_cases h1 : shalB 64 e = true
  case neg =>
    rw [if_neg h1] at hc
    refine aCall_of (hc) (by simp) (by simp [Ex.d_eq]) ?_; simp [Ex.d_eq]
    refine aCall_of (l22ex_af) (by simp) (by simp [Ex.d_eq]) ?_; simp [Ex.d_eq]
  by_cases h2 : formB e = true
  case neg =>
    rw [if_pos h1, if_neg h2] at hc
    refine aCall_of (hc) (by simp) (by simp [Ex.d_eq]) ?_; simp [Ex.d_eq]
    refine aCall_of (l22ex_af) (by simp) (by simp [Ex.d_eq]) ?_; simp [Ex.d_eq]
  rw [if_pos h1, if_pos h2] at hc
  refine aCall_of (hc) (by simp) (by simp [Ex.d_eq]) ?_; simp [Ex.d_eq]
  refine aCall_of (smexpr_af e hn (by omega)) (by simp) (by simp [Ex.d_eq]) ?_; simp [Ex.d_eq]
  obtain ⟨x, hx⟩ : ∃ x, sExpr e = x := ⟨_, rfl⟩
  have hok := sexpr_ok h1 h2
  have hxn := sexpr_okN h1 h2 hn
  have hxs := sexpr_shal h1 h2
  have hxx := sexpr_again h1 h2
  rw [hx] at hok hxn hxs hxx
  rw [hx]
  have o1 := hok.form
  have o2 := hok.nodes
  have o3 := hok.depth
  have cx := rcheck_af x
  rw [if_pos hxs, if_pos o1] at cx
  have ex := smexpr_af x hxn (by omega)
  rw [hxx] at ex
  have sx := refsame_af x x
  rw [sameB_refl] at sx
  refine adraw [] (by kernel_rfl) (by kernel_rfl) (by kernel_rfl) (by kernel_rfl) ?_; simp [Ex.d_eq]
  refine adC_of (cx) (by simp) trivial (by simp) (by simp [Ex.d_eq]) ?_; simp [Ex.d_eq]
  refine adC_of (r19size_af x (by omega)) (by simp) trivial (by simp) (by simp [Ex.d_eq]) ?_; simp [Ex.d_eq]
  refine adC_of (r19size_af e (by omega)) (by simp) trivial (by simp) (by simp [Ex.d_eq]) ?_; simp [Ex.d_eq]
  simp [o2]
  refine adC_of (levels_af x (by omega)) (by simp) trivial (by simp) (by simp [Ex.d_eq]) ?_; simp [Ex.d_eq]
  refine adC_of (levels_af e (by omega)) (by simp) trivial (by simp) (by simp [Ex.d_eq]) ?_; simp [Ex.d_eq]
  simp [o3]
  refine adC_of (ex) (by simp) trivial (by simp) (by simp [Ex.d_eq]) ?_; simp [Ex.d_eq]
  refine adC_of (sx) (by simp) trivial (by simp) (by simp [Ex.d_eq]) ?_; simp [Ex.d_eq]
  refine adC_of (l22ex_af) (by simp) trivial (by simp) (by simp [Ex.d_eq]) ?_; simp [Ex.d_eq]
end Go.Proofs.YtjnofkcfogognaaGreatDoor

/- Contracts: law 22's memory; the reference's loads from it. -/
namespace Go.Proofs.YtjnofkcfogognaaGreatDoor
open Go.RowKit
def rodN : ByteArray := ⟨#[114, 111, 100, 97, 116, 97]⟩
@[simp] def srowD (nm : ByteArray) (ad : Int) (wr : Bool) (B : List Int) : List D := [.v (.string nm), .v (.int .u32 ad), .sl 1 (u8s B), .v (.bool wr), .v (.bool false)]
@[simp] def srowA (nm : ByteArray) (ad : Int) (wr : Bool) (B : List Int) : AV := .agg [aS nm, aI .u32 ad, .d (.sl 1 (u8s B)), aB wr, aB false]
/-- The two sections. -/
@[simp] def sec2 (B C : List Int) : List (List D) := [srowD dataN 8192 true B, srowD rodN 12288 false C]
def reg2 (a : Int) : Int := if 978944 ≤ a ∧ a < 983040 then 2 else if 8192 ≤ a ∧ a < 8224 then 0 else if 12288 ≤ a ∧ a < 12304 then 1 else -1
def rst2 (a : Int) : Int := if 978944 ≤ a ∧ a < 983040 then 983040 - a else if 8192 ≤ a ∧ a < 8224 then 8224 - a else if 12288 ≤ a ∧ a < 12304 then 12304 - a else 0
def by2 (B C : List Int) (a : Int) : Int := if 8192 ≤ a ∧ a < 8224 then B.getD (a - 8192).toNat 0 else if 12288 ≤ a ∧ a < 12304 then C.getD (a - 12288).toNat 0 else 0
/-- So many bytes from the top down, the lowest last. -/
def ld2 (f : Int → Int) (a : Int) : Nat → Int → Int
  | 0, n => n
  | k + 1, n => ld2 f a k ((256 * n + f ((a + k) % 4294967296)) % 4294967296)
def ldR2 (B C : List Int) (a w : Int) : Int × Int := if rst2 a < w then (0, 11) else (ld2 (by2 B C) a w.toNat 0, 0)
section
variable {B C : List Int} (hB : B.length = 32) (hC : C.length = 16)
theorem end2_af (nm : ByteArray) (ad : Int) (wr : Bool) (L : List Int) (h : 0 ≤ ad ∧ ad + L.length ≤ 100000) : AF Tryz.prog 190 [srowA nm ad wr L] (aI .i64 (ad + L.length)) := by
  refine af_of Tryz.func190 rfl (by kernel_rfl) (by simp [Tryz.ntmps190]) fun _ => ?_; simp [Tryz.f190, Ex.d_eq]
  simp [i64w (n := ad) (by omega), i64w (n := ad + L.length) (by omega), show ¬ 4294967295 < ad + L.length by omega]
include hB hC
theorem find2_af (a : Int) (ha : R32 a) : AF Tryz.prog 268 [.d (.sl 5 (sec2 B C)), aI .u32 a] (aI .i64 (if 8192 ≤ a ∧ a < 8224 then 0 else if 12288 ≤ a ∧ a < 12304 then 1 else -1)) := by
  have h1 := ha.1
  have h2 := ha.2
  have e0 := end2_af dataN 8192 true B (by omega)
  have e1 := end2_af rodN 12288 false C (by omega)
  rw [hB] at e0
  rw [hC] at e1
  simp at e0 e1
  refine af_of Tryz.func268 rfl (by kernel_rfl) (by simp [Tryz.ntmps268]) fun _ => ?_; simp [Tryz.f268, Ex.d_eq]
  refine aLoop_iter 3 ?_; simp [Ex.d_eq]
  by_cases h3 : 8192 ≤ a
  · simp [h3]
    refine aCall_of (e0) (by simp) (by simp [Ex.d_eq]) ?_; simp [Ex.d_eq]
    simp [i64w (n := a) (by omega)]
    by_cases h4 : a < 8224
    · simp [h4]
    · simp [h4]
      by_cases h5 : 12288 ≤ a
      · simp [h5]
        refine aCall_of (e1) (by simp) (by simp [Ex.d_eq]) ?_; simp [Ex.d_eq]
        simp [i64w (n := a) (by omega)]
        by_cases h6 : a < 12304 <;> simp [h6]
      · simp [h5]
  · simp [h3, show ¬ 12288 ≤ a by omega]
theorem region2_af (a : Int) (ha : R32 a) : AF Tryz.prog 232 [memA (sec2 B C) [], aI .u32 a] (aI .i64 (reg2 a)) := by
  unfold reg2
  refine af_of Tryz.func232 rfl (by kernel_rfl) (by simp [Tryz.ntmps232]) fun _ => ?_; simp [Tryz.f232, Ex.d_eq]
  by_cases h1 : 978944 ≤ a
  · by_cases h2 : a < 983040
    · simp [h1, h2]
    · simp [h1, h2]
      refine aCall_of (find2_af hB hC a ha) (by simp) (by simp [Ex.d_eq]) ?_; simp [Ex.d_eq]
  · simp [h1]
    refine aCall_of (find2_af hB hC a ha) (by simp) (by simp [Ex.d_eq]) ?_; simp [Ex.d_eq]
theorem rest2_af (a : Int) (ha : R32 a) : AF Tryz.prog 193 [memA (sec2 B C) [], aI .u32 a] (aI .i64 (rst2 a)) := by
  have h1 := ha.1
  have h2 := ha.2
  refine af_of Tryz.func193 rfl (by kernel_rfl) (by simp [Tryz.ntmps193]) fun _ => ?_; simp [Tryz.f193, Ex.d_eq]
  refine aCall_of (region2_af hB hC a ha) (by simp) (by simp [Ex.d_eq]) ?_; simp [Ex.d_eq]
  unfold reg2 rst2
  by_cases hs : 978944 ≤ a ∧ a < 983040
  · simp [hs, u32e]
    rw [Int.emod_eq_of_lt (by omega) (by omega)]
    simp [i64w (n := 983040 - a) (by omega)]
  · by_cases hd : 8192 ≤ a ∧ a < 8224
    · have e1 : (a - 8192) % 4294967296 = a - 8192 := Int.emod_eq_of_lt (by omega) (by omega)
      simp [hs, hd]
      refine adraw [] (by kernel_rfl) (by kernel_rfl) (by kernel_rfl) (by kernel_rfl) ?_; simp [Ex.d_eq]
      simp [hB, u32e, e1, i64w (n := a - 8192) (by omega), i64w (n := 32 - (a - 8192)) (by omega)]
      try omega
    · by_cases hr : 12288 ≤ a ∧ a < 12304
      · have e1 : (a - 12288) % 4294967296 = a - 12288 := Int.emod_eq_of_lt (by omega) (by omega)
        simp [hs, hd, hr]
        refine adraw [] (by kernel_rfl) (by kernel_rfl) (by kernel_rfl) (by kernel_rfl) ?_; simp [Ex.d_eq]
        simp [hC, u32e, e1, i64w (n := a - 12288) (by omega), i64w (n := 16 - (a - 12288)) (by omega)]
        try omega
      · simp [hs, hd, hr]
theorem initial2_af (a : Int) (ha : R32 a) : AF Tryz.prog 233 [memA (sec2 B C) [], aI .u32 a] (aI .u8 (by2 B C a)) := by
  have h1 := ha.1
  have h2 := ha.2
  refine af_of Tryz.func233 rfl (by kernel_rfl) (by simp [Tryz.ntmps233]) fun _ => ?_; simp [Tryz.f233, Ex.d_eq]
  refine aCall_of (region2_af hB hC a ha) (by simp) (by simp [Ex.d_eq]) ?_; simp [Ex.d_eq]
  unfold reg2 by2
  by_cases hs : 978944 ≤ a ∧ a < 983040
  · simp [hs, show ¬ (8192 ≤ a ∧ a < 8224) by omega, show ¬ (12288 ≤ a ∧ a < 12304) by omega]
  · by_cases hd : 8192 ≤ a ∧ a < 8224
    · obtain ⟨j, hj⟩ : ∃ j : Nat, a = 8192 + j := ⟨(a - 8192).toNat, by omega⟩
      subst hj
      have e1 : ((8192 : Int) + j - 8192) % 4294967296 = j := by omega
      have hjl : j < B.length := by omega
      have hg : B[j]? = some B[j] := List.getElem?_eq_getElem hjl
      simp [hs, hd]
      refine adraw [] (by kernel_rfl) (by kernel_rfl) (by kernel_rfl) (by kernel_rfl) ?_; simp [Ex.d_eq]
      simp [hB, u32e, e1, hjl, hg, i64w (n := (j : Int)) (by omega), List.getD_eq_getElem?_getD]
      rw [show ((8192 : Int) + j - 8192).toNat = j by omega, hg]
      rfl
    · by_cases hr : 12288 ≤ a ∧ a < 12304
      · obtain ⟨j, hj⟩ : ∃ j : Nat, a = 12288 + j := ⟨(a - 12288).toNat, by omega⟩
        subst hj
        have e1 : ((12288 : Int) + j - 12288) % 4294967296 = j := by omega
        have hjl : j < C.length := by omega
        have hg : C[j]? = some C[j] := List.getElem?_eq_getElem hjl
        simp [hs, hd, hr]
        refine adraw [] (by kernel_rfl) (by kernel_rfl) (by kernel_rfl) (by kernel_rfl) ?_; simp [Ex.d_eq]
        simp [hC, u32e, e1, hjl, hg, i64w (n := (j : Int)) (by omega), List.getD_eq_getElem?_getD]
        rw [show ((12288 : Int) + j - 12288).toNat = j by omega, hg]
        rfl
      · simp [hs, hd, hr]
theorem present2_af (a : Int) (ha : R32 a) : AF Tryz.prog 194 [memA (sec2 B C) [], aI .u32 a] (aI .u8 (by2 B C a)) := by
  refine af_of Tryz.func194 rfl (by kernel_rfl) (by simp [Tryz.ntmps194]) fun _ => ?_; simp [Tryz.f194, Ex.d_eq]
  refine aLoop_iter 1 ?_; simp [Ex.d_eq]
  refine aCall_of (initial2_af hB hC a ha) (by simp) (by simp [Ex.d_eq]) ?_; simp [Ex.d_eq]
theorem load2_af (a w : Int) (ha : R32 a) (hw : w = 1 ∨ w = 2 ∨ w = 4) : AF Tryz.prog 149 [memA (sec2 B C) [], aI .u32 a, aI .i64 w] (.tup [aI .u32 (ldR2 B C a w).1, aI .i64 (ldR2 B C a w).2]) := by
  have h1 := ha.1
  have h2 := ha.2
  refine af_of Tryz.func149 rfl (by kernel_rfl) (by simp [Tryz.ntmps149]) fun _ => ?_; simp [Tryz.f149, Ex.d_eq]
  have c := r09width_af w
  rw [show (decide (w = 1) || decide (w = 2) || decide (w = 4)) = true by rcases hw with rfl | rfl | rfl <;> rfl] at c
  refine aCall_of c (by simp) (by simp [Ex.d_eq]) ?_; simp [Ex.d_eq]
  refine aCall_of (rest2_af hB hC a ha) (by simp) (by simp [Ex.d_eq]) ?_; simp [Ex.d_eq]
  unfold ldR2
  by_cases hr : rst2 a < w
  · simp [hr]
  have hwn : 0 ≤ w ∧ w ≤ 4 := by omega
  obtain ⟨m, hm⟩ : ∃ m : Nat, w = m := ⟨w.toNat, by omega⟩
  subst hm
  simp [hr, i64w (n := (m : Int) - 1) (by omega)]
  obtain ⟨R, hR⟩ : ∃ R, ld2 (by2 B C) a m 0 = R := ⟨_, rfl⟩
  rw [hR]
  refine aLoop_of (α := Nat) (fun k e A => k ≤ 4 ∧ A = [⟨0, true, 48, 3, [[aB true, .d (.sl 5 (sec2 B C)), .d (.sl 2 [])]]⟩] ∧ e 3 = .ptr 0 0 0 0 ∧ e 1 = aI .u32 a ∧ e 9 = aI .i64 ((k : Int) - 1) ∧ ∃ n, e 8 = aI .u32 n ∧ ld2 (by2 B C) a k n = R) (fun k => k) m (Sub.refl _ _ _)
    ⟨by omega, by simp, by simp, by simp, by simp, 0, by simp, hR⟩ ?_
  rintro k e A ⟨hk, rfl, e3, e1, e9, n, e8, hn⟩ K hK
  cases k with
  | zero =>
    simp only [ld2] at hn
    subst hn
    simp [e9, e8]
  | succ k =>
    rw [ld2] at hn
    have p1 := present2_af hB hC ((a + k) % 4294967296) (r32_mod _)
    simp [e9, e8, e3, e1, u32e, show (0 : Int) ≤ k by omega]
    refine aCall_of p1 (by simp) (by simp [Ex.d_eq]) ?_; simp [Ex.d_eq]
    simp [e9, e8, u32e, i64w (n := (k : Int) - 1) (by omega)]
    exact hK k _ _ _ _ (Sub.refl _ _ _) ⟨by omega, rfl, by simp [e3], by simp [e1], by simp, (256 * n + by2 B C ((a + k) % 4294967296)) % 4294967296, by simp, hn⟩ (by simp)
end
end Go.Proofs.YtjnofkcfogognaaGreatDoor

/- Contracts: law 22's memory is made. -/
namespace Go.Proofs.YtjnofkcfogognaaGreatDoor
open Go.RowKit
theorem r05rod_af : AF Tryz.prog 231 [aS rodN] (aB true) := xtrue_af xnone_ok (lf := 100) (n := 10) (by kernel_rfl)
theorem copy2_af (nm : ByteArray) (ad : Int) (wr : Bool) (L : List Int) (h0 : 0 < L.length) (h1 : L.length ≤ 1000) : AF Tryz.prog 191 [srowA nm ad wr L] (srowA nm ad wr L) := by
  refine af_of Tryz.func191 rfl (by kernel_rfl) (by simp [Tryz.ntmps191]) fun _ => ?_; simp [Tryz.f191, Ex.d_eq]
  refine aRaw_app byt_87 ?_
  simp
  have hall : ∀ x ∈ dEls (u8s L), x.length = 1 := fun x hx => by
    simp only [dEls, u8s, List.map_map, List.mem_map, Function.comp] at hx
    obtain ⟨n, _, rfl⟩ := hx
    rfl
  rw [if_pos hall]
  simp [maxLen]
  rw [List.take_of_length_le (by simp)]
  refine ⟨by omega, by omega, ?_⟩
  simp
theorem one20_af {B C : List Int} (hB : B.length = 32) : AF Tryz.prog 189 [.d (.sl 5 (sec2 B C)), aI .i64 0] (aI .i64 0) := by
  have e0 := end2_af dataN 8192 true B (by omega)
  rw [hB] at e0
  simp at e0
  refine af_of Tryz.func189 rfl (by kernel_rfl) (by simp [Tryz.ntmps189]) fun _ => ?_; simp [Tryz.f189, Ex.d_eq]
  simp [hB]
  refine aCall_of r05name_af (by simp) (by simp [Ex.d_eq]) ?_; simp [Ex.d_eq]
  refine aLoop_iter 1 ?_; simp [Ex.d_eq]
  simp [hB]
  refine aCall_of (e0) (by simp) (by simp [Ex.d_eq]) ?_; simp [Ex.d_eq]
theorem one21_af {B C : List Int} (hC : C.length = 16) : AF Tryz.prog 189 [.d (.sl 5 (sec2 B C)), aI .i64 1] (aI .i64 0) := by
  have e1 := end2_af rodN 12288 false C (by omega)
  rw [hC] at e1
  simp at e1
  refine af_of Tryz.func189 rfl (by kernel_rfl) (by simp [Tryz.ntmps189]) fun _ => ?_; simp [Tryz.f189, Ex.d_eq]
  simp [hC]
  refine aCall_of r05rod_af (by simp) (by simp [Ex.d_eq]) ?_; simp [Ex.d_eq]
  refine aLoop_iter 2 ?_; simp [Ex.d_eq]
  refine adraw [] (by kernel_rfl) (by kernel_rfl) (by kernel_rfl) (by kernel_rfl) ?_; simp [Ex.d_eq]
  simp only [rodN] at e1
  simp [dataN, rodN, hC, i64w (n := 12304) (by omega)]
  refine aCall_of (e1) (by simp) (by simp [Ex.d_eq]) ?_; simp [Ex.d_eq]
section
variable {B C : List Int} (hB : B.length = 32) (hC : C.length = 16)
include hB hC
theorem check2_af : AF Tryz.prog 146 [.d (.sl 5 (sec2 B C))] (aI .i64 0) := by
  have e0 := end2_af dataN 8192 true B (by omega)
  rw [hB] at e0
  simp at e0
  refine af_of Tryz.func146 rfl (by kernel_rfl) (by simp [Tryz.ntmps146]) fun _ => ?_; simp [Tryz.f146, Ex.d_eq]
  refine aLoop_iter 3 ?_; simp [Ex.d_eq]
  refine aCall_of (one20_af (C := C) hB) (by simp) (by simp [Ex.d_eq]) ?_; simp [Ex.d_eq]
  refine aCall_of (one21_af (B := B) hC) (by simp) (by simp [Ex.d_eq]) ?_; simp [Ex.d_eq]
  refine aLoop_iter 3 ?_; simp [Ex.d_eq]
  refine aLoop_iter 1 ?_; simp [Ex.d_eq]
  refine aLoop_iter 2 ?_; simp [Ex.d_eq]
  refine adraw [] (by kernel_rfl) (by kernel_rfl) (by kernel_rfl) (by kernel_rfl) ?_; simp [Ex.d_eq]
  simp [hB, hC]
  refine adC_of (e0) (by simp) trivial (by simp) (by simp [Ex.d_eq]) ?_; simp [Ex.d_eq]
theorem copies2_af : AF Tryz.prog 147 [.d (.sl 5 (sec2 B C))] (.d (.sl 5 (sec2 B C))) := by
  refine af_of Tryz.func147 rfl (by kernel_rfl) (by simp [Tryz.ntmps147]) fun _ => ?_; simp [Tryz.f147, Ex.d_eq]
  refine aLoop_iter 3 ?_; simp [Ex.d_eq]
  refine aCall_of (copy2_af dataN 8192 true B (by omega) (by omega)) (by simp) (by simp [Ex.d_eq]) ?_; simp [Ex.d_eq]
  refine aRaw_app byt_45 ?_
  simp [maxLen]
  refine aCall_of (copy2_af rodN 12288 false C (by omega) (by omega)) (by simp) (by simp [Ex.d_eq]) ?_; simp [Ex.d_eq]
  refine aRaw_app byt_45 ?_
  simp [maxLen]
theorem new2_af : AF Tryz.prog 86 [.d (.sl 5 (sec2 B C))] (.tup [memA (sec2 B C) [], aI .i64 0]) := by
  refine af_of Tryz.func86 rfl (by kernel_rfl) (by simp [Tryz.ntmps86]) fun _ => ?_; simp [Tryz.f86, Ex.d_eq]
  refine aCall_of (check2_af hB hC) (by simp) (by simp [Ex.d_eq]) ?_; simp [Ex.d_eq]
  refine aCall_of (copies2_af hB hC) (by simp) (by simp [Ex.d_eq]) ?_; simp [Ex.d_eq]
end
/-- The bytes of the law's first section. -/
def mem22 (seed : Int) : List Int := (List.range 32).map fun i : Nat => IntKind.u8.wrap (IntKind.u8.wrap (IntKind.u8.wrap (i : Int) * seed) + 3)
def zer16 : List Int := List.replicate 16 0
theorem mk32 : mkA Tryz.prog 87 (aI .i64 32) (aI .i64 32) = some (5, .d (.v (.int .u8 0)), 32) := by kernel_rfl
theorem mk16 : mkA Tryz.prog 87 (aI .i64 16) (aI .i64 16) = some (5, .d (.v (.int .u8 0)), 16) := by kernel_rfl
set_option maxRecDepth 100000 in
theorem l22memory_af (seed : Int) : AF Tryz.prog 24 [aI .u8 seed] (memA (sec2 (mem22 seed) zer16) []) := by
  have hfin : (mem22 seed).length = 32 := by simp [mem22]
  have hz16 : zer16.length = 16 := by simp [zer16]
  have hzr : List.replicate 16 [AV.d (.v (.int .u8 0))] = dEls (u8s zer16) := by simp [dEls, u8s, zer16]
  obtain ⟨L0, hL0⟩ : ∃ L0 : List Int, L0 = List.replicate 32 0 := ⟨_, rfl⟩
  have hz : List.replicate 32 [AV.d (.v (.int .u8 0))] = dEls (u8s L0) := by rw [hL0]; simp [dEls, u8s]
  have hl0 : L0.length = 32 := by rw [hL0]; simp
  have m32 := mk32
  have m16 := mk16
  clear hL0
  refine af_of Tryz.func24 rfl (by kernel_rfl) (by simp [Tryz.ntmps24]) fun _ => ?_
  simp [Tryz.f24]
  refine adraw [] (by kernel_rfl) (by kernel_rfl) (by kernel_rfl) (by kernel_rfl) ?_
  simp [m32, m16, hz, hzr]
  refine aLoop_of (α := Nat) (fun i e A => i ≤ 32 ∧ (∃ L : List Int, A = [⟨0, true, 48, 3, [[aB false, .d (.v (.slice none 0 0)), .d (.v (.slice none 0 0))]]⟩, ⟨0, true, 5, 1, dEls (u8s L)⟩, ⟨0, true, 5, 1, dEls (u8s zer16)⟩] ∧ L.length = 32 ∧ ∀ j, j < i → L[j]? = (mem22 seed)[j]?) ∧
    e 3 = .own 1 0 0 32 ∧ e 4 = .own 2 0 0 16 ∧ e 5 = aI .i64 i ∧ e 0 = aI .u8 seed ∧ e 2 = .ptr 0 0 0 0) (fun i => 32 - i) 0 (Sub.refl _ _ _) ⟨by omega, ⟨L0, by simp, hl0, by intro j hj; omega⟩, by simp, by simp, by simp, by simp, by simp⟩ ?_
  rintro i e A ⟨hi, ⟨L, rfl, hL, hLj⟩, e3, e4, e5, e0, e2⟩ K hK
  rcases Nat.lt_or_ge i 32 with hlt | hge
  case inr =>
    obtain rfl : i = 32 := by omega
    obtain rfl : L = mem22 seed := by
      refine List.ext_getElem? fun j => ?_
      rcases Nat.lt_or_ge j 32 with hj | hj
      · exact hLj j hj
      · rw [List.getElem?_eq_none (by omega), List.getElem?_eq_none (by omega)]
    simp [e3, e4, e5, e2, e0]
    have ht : (u8s (mem22 seed)).take 32 = u8s (mem22 seed) := List.take_of_length_le (by simp [hfin])
    have ht2 : (u8s zer16).take 16 = u8s zer16 := List.take_of_length_le (by simp [hz16])
    refine aCall_frz [1, 2, 3] (new2_af hfin hz16) (by simp) (by simp [frz, hfin, hz16, dataN, rodN, ht, ht2]) ?_
    simp [frz, e2]
  have hset : ∀ v : Int, (dEls (u8s L)).set i [aI .u8 v] = dEls (u8s (L.set i v)) := fun v => by simp [dEls, u8s, List.map_set]
  have hm : (mem22 seed)[i]? = some (IntKind.u8.wrap (IntKind.u8.wrap (IntKind.u8.wrap (i : Int) * seed) + 3)) := by simp [mem22, hlt]
  have hli : i < L.length := by omega
  simp [e3, e4, e5, e2, e0, hL, hlt, hli, show (i : Int) < 32 by omega, hset, i64w (n := (i : Int) + 1) (by omega)]
  refine hK (i + 1) _ _ _ _ (Sub.refl _ _ _) ⟨by omega, ⟨L.set i (IntKind.u8.wrap (IntKind.u8.wrap (IntKind.u8.wrap (i : Int) * seed) + 3)), by simp, by simpa using hL, fun j hj => ?_⟩, by simp [e3], by simp [e4], by simp, by simp [e0], by simp [e2]⟩ (by omega)
  rw [List.getElem?_set]
  by_cases hij : i = j
  · subst hij
    simp [hli, hm]
  · rw [if_neg hij]
    exact hLj j (by omega)
end Go.Proofs.YtjnofkcfogognaaGreatDoor

/- Contracts: the laws SimplifySame and SimplifyConst answer true. -/
namespace Go.Proofs.YtjnofkcfogognaaGreatDoor
open Go.RowKit
theorem ld2_r32 (f : Int → Int) (a : Int) : ∀ (k : Nat) (n : Int), R32 n → R32 (ld2 f a k n)
  | 0, n, h => h
  | k + 1, n, h => by
    rw [ld2]
    exact ld2_r32 f a k _ (r32_mod _)
theorem evOk_mem2 (V : List Int) (hV : ∀ n ∈ V, R32 n) (B C : List Int) : EvOk V (ldR2 B C) where
  hV v := by
    unfold valR
    split
    · rw [List.getD_eq_getElem?_getD]
      cases h : V[v.toNat]? with
      | none => exact r32_0
      | some n => exact hV n (List.mem_of_getElem? h)
    · exact r32_0
  hL a w := by
    unfold ldR2
    split
    · exact r32_0
    · exact ld2_r32 _ a _ 0 r32_0
  hZ a w h := by
    unfold ldR2 at h ⊢
    split
    · rfl
    · rename_i hc
      rw [if_neg hc] at h
      exact absurd rfl h
theorem ldE_mem2 (B C : List Int) (a w : Int) : (ldR2 B C a w).2 = 0 ∨ (ldR2 B C a w).2 = 11 := by
  unfold ldR2
  split
  · exact .inr rfl
  · exact .inl rfl
theorem by2_lt {B C : List Int} (hB : ∀ n ∈ B, 0 ≤ n ∧ n < 256) (hC : ∀ n ∈ C, 0 ≤ n ∧ n < 256) (a : Int) : 0 ≤ by2 B C a ∧ by2 B C a < 256 := by
  unfold by2
  split
  · rw [List.getD_eq_getElem?_getD]
    cases h : B[(a - 8192).toNat]? with
    | none => simp
    | some n => exact hB n (List.mem_of_getElem? h)
  · split
    · rw [List.getD_eq_getElem?_getD]
      cases h : C[(a - 12288).toNat]? with
      | none => simp
      | some n => exact hC n (List.mem_of_getElem? h)
    · omega
theorem ldB_mem2 {B C : List Int} (hB : ∀ n ∈ B, 0 ≤ n ∧ n < 256) (hC : ∀ n ∈ C, 0 ≤ n ∧ n < 256) (a w : Int) : (w = 1 → (ldR2 B C a w).1 < 256) ∧ (w = 2 → (ldR2 B C a w).1 < 65536) := by
  have h := by2_lt hB hC
  refine ⟨?_, ?_⟩
  · rintro rfl
    unfold ldR2
    split
    · omega
    · have := h ((a + ((0 : Nat) : Int)) % 4294967296)
      simp only [show (1 : Int).toNat = 0 + 1 from rfl, ld2]
      omega
  · rintro rfl
    unfold ldR2
    split
    · omega
    · have h0 := h ((a + ((0 : Nat) : Int)) % 4294967296)
      have h1 := h ((a + ((1 : Nat) : Int)) % 4294967296)
      simp only [show (2 : Int).toNat = 0 + 1 + 1 from rfl, ld2]
      try simp only [Nat.zero_add] at h0 h1 ⊢
      omega
theorem mem22_lt (seed : Int) : ∀ n ∈ mem22 seed, 0 ≤ n ∧ n < 256 := by
  intro n hn
  simp only [mem22, List.mem_map] at hn
  obtain ⟨i, _, rfl⟩ := hn
  generalize IntKind.u8.wrap (IntKind.u8.wrap (i : Int) * seed) + 3 = m
  simp [IntKind.wrap, IntKind.signed, IntKind.bits]
  omega
theorem zer16_lt : ∀ n ∈ zer16, 0 ≤ n ∧ n < 256 := by
  intro n hn
  simp only [zer16, List.mem_replicate] at hn
  omega
abbrev ld22R (seed : Int) := ldR2 (mem22 seed) zer16
theorem sexpr_ev {e : Ex} (V : List Int) (hV : ∀ n ∈ V, R32 n) (seed : Int) (hn : OkN e) (hs : shalB 64 e = true) (hf : formB e = true) : evR V (ld22R seed) (sExpr e) = evR V (ld22R seed) e := by
  rw [sexpr_eq hs hf]
  exact (simp_ev (evOk_mem2 V hV (mem22 seed) zer16) (by omega) (ldE_mem2 _ _) (ldB_mem2 (mem22_lt seed) zer16_lt) _ e hf hn (Nat.le_refl _)).1
theorem same22_af (e : Ex) (V : List Int) (seed : Int) (hn : OkN e) (hV : ∀ n ∈ V, R32 n) : AF Tryz.prog 5 [exA e, .d (.sl 1 (u32s V)), aI .u8 seed] (aB true) := by
  have hEv := evOk_mem2 V hV (mem22 seed) zer16
  have hL := fun a w ha hw => load2_af (B := mem22 seed) (C := zer16) (by simp [mem22]) (by simp [zer16]) a w ha hw
  have c1 := r20expr_af hEv hL e hn
  have c2 : AF Tryz.prog 25 [exA (sExpr e), stA V, memA (sec2 (mem22 seed) zer16) []] (if checkB e = true then .tup [aI .u32 (evR V (ld22R seed) e).1, aI .i64 (evR V (ld22R seed) e).2] else .tup [aI .u32 0, aI .i64 (if shalB 64 e = true then 2 else 20)]) := by
    by_cases h : shalB 64 e = true ∧ formB e = true
    · have hc : checkB e = true := by simp [checkB, h.1, h.2]
      have hc2 : checkB (sExpr e) = true := by simp only [checkB, sexpr_shal h.1 h.2, (sexpr_ok h.1 h.2).form, Bool.and_self]
      have := r20expr_af hEv hL (sExpr e) (sexpr_okN h.1 h.2 hn)
      rw [if_pos hc2, sexpr_ev V hV seed hn h.1 h.2] at this
      rw [if_pos hc]
      exact this
    · have he : sExpr e = e := by unfold sExpr; rw [if_neg h]
      rw [he]
      exact c1
  obtain ⟨x, y, hR⟩ : ∃ x y, (if checkB e = true then AV.tup [aI .u32 (evR V (ld22R seed) e).1, aI .i64 (evR V (ld22R seed) e).2] else .tup [aI .u32 0, aI .i64 (if shalB 64 e = true then 2 else 20)]) = .tup [aI .u32 x, aI .i64 y] := by
    split <;> exact ⟨_, _, rfl⟩
  rw [hR] at c1 c2
  refine af_of Tryz.func5 rfl (by kernel_rfl) (by simp [Tryz.ntmps5]) fun _ => ?_; simp [Tryz.f5, Ex.d_eq]
  refine aCall_of (small_af e 10 (by omega) (by omega)) (by simp) (by simp [Ex.d_eq]) ?_; simp [Ex.d_eq]
  by_cases hs : 0 ≤ nodI e 10 3000
  case neg =>
    simp [hs]
    refine aCall_of (l22ex_af) (by simp) (by simp [Ex.d_eq]) ?_; simp [Ex.d_eq]
  have hnd := small_n3 hs
  simp [hs]
  by_cases hv : V.length ≤ 40
  case neg =>
    simp [show (40 : Int) < V.length by omega]
    refine aCall_of (l22ex_af) (by simp) (by simp [Ex.d_eq]) ?_; simp [Ex.d_eq]
  simp [show ¬ (40 : Int) < V.length by omega]
  refine aCall_of (l22memory_af seed) (by simp) (by simp [Ex.d_eq]) ?_; simp [Ex.d_eq]
  refine aCall_of (c1) (by simp) (by simp [Ex.d_eq]) ?_; simp [Ex.d_eq]
  refine adraw [] (by kernel_rfl) (by kernel_rfl) (by kernel_rfl) (by kernel_rfl) ?_; simp [Ex.d_eq]
  refine adC_of (smexpr_af e hn (by omega)) (by simp) trivial (by simp) (by simp [Ex.d_eq]) ?_; simp [Ex.d_eq]
  refine adC_of (c2) (by simp) trivial (by simp) (by simp [Ex.d_eq]) ?_; simp [Ex.d_eq]
  refine aCall_of (l22ex_af) (by simp) (by simp [Ex.d_eq]) ?_; simp [Ex.d_eq]
/-- A load occurs. -/
def hasLd : Ex → Bool
  | .mk o _ _ _ l => hasLds l || decide (o = 18)
where hasLds : List Ex → Bool
  | [] => false
  | e :: l => hasLd e || hasLds l
theorem hasLd_eq (e : Ex) : hasLd e = (e.l.any hasLd || decide (e.op = 18)) := by
  obtain ⟨o, n, v, w, l⟩ := e
  have : ∀ l : List Ex, hasLd.hasLds l = l.any hasLd := by
    intro l
    induction l with
    | nil => rfl
    | cons a l ih => simp only [hasLd.hasLds, ih, List.any_cons]
  simp only [hasLd, this, Ex.op_mk, Ex.l_mk]
  rfl
theorem loads22_af : ∀ (e : Ex), e.nodes ≤ 1000000 → AF Tryz.prog 37 [exA e] (aB (hasLd e)) := by
  intro x
  induction x using Ex.ind with
  | h x ih =>
    intro hn
    have hlen := x.nodes_len
    have n1 : x.l.length ≤ maxLen := by unfold maxLen; omega
    rw [hasLd_eq]
    refine af_of Tryz.func37 rfl (by kernel_rfl) (by simp [Tryz.ntmps37]) fun _ => ?_; simp [Tryz.f37, Ex.d_eq]
    refine aLoop_of (α := Nat) (fun i e A => i ≤ x.l.length ∧ A = [exC x] ∧ (x.l.take i).any hasLd = false ∧ e 3 = aI .i64 i ∧ e 1 = .ptr 0 0 0 0) (fun i => x.l.length - i) 0 (Sub.refl _ _ _)
      ⟨by omega, by simp, by simp, by simp, by simp⟩ ?_
    rintro i e A ⟨hi, rfl, hany, e3, e1⟩ K hK
    rcases Nat.lt_or_ge i x.l.length with hlt | hge
    case inr =>
      obtain rfl : i = x.l.length := by omega
      rw [List.take_length] at hany
      simp [e1, e3, hany]
    obtain ⟨y, hy⟩ : ∃ y, x.l[i]? = some y := ⟨_, List.getElem?_eq_getElem hlt⟩
    have hy2 := (List.getElem?_eq_some_iff.1 hy).2
    have hmem := List.mem_of_getElem? hy
    simp [e1, e3, hlt, hy, hy2, Ex.d_eq]
    refine aCall_of (ih y hmem (by have := Ex.nodes_mem hmem; omega)) (by simp) (by simp [Ex.d_eq]) ?_
    simp
    have hany' : (x.l.take (i + 1)).any hasLd = hasLd y := by
      rw [List.take_add_one, hy, List.any_append, hany]
      simp
    cases hs : hasLd y
    · simp [e3, succ_wrap hlt n1]
      exact hK (i + 1) _ _ _ _ (Sub.refl _ _ _) ⟨by omega, by simp, by rw [hany', hs], by simp, by simp [e1]⟩ (by omega)
    · have : x.l.any hasLd = true := List.any_eq_true.2 ⟨y, hmem, hs⟩
      simp [this]
/-- Without variables and loads all is constant. -/
theorem closed_of : ∀ e : Ex, occ e = [] → hasLd e = false → clB e = true := by
  intro e
  induction e using Ex.ind with
  | h e ih =>
    intro h1 h2
    rw [occ_eq] at h1
    rw [hasLd_eq] at h2
    rw [clB_eq]
    simp only [Bool.or_eq_false_iff, decide_eq_false_iff_not, List.append_eq_nil_iff] at h1 h2
    have hv : e.op ≠ 2 := by
      intro h
      rw [if_pos h] at h1
      exact absurd h1.1 (by simp)
    have hocc : ∀ l : List Ex, occ.occs l = [] → ∀ x ∈ l, occ x = [] := by
      intro l
      induction l with
      | nil => intro _ x hx; simp at hx
      | cons a l ihl =>
        intro h x hx
        simp only [occ.occs, List.append_eq_nil_iff] at h
        rcases List.mem_cons.1 hx with rfl | hx
        · exact h.1
        · exact ihl h.2 x hx
    simp only [Bool.and_eq_true, Bool.not_eq_true', decide_eq_false_iff_not, List.all_eq_true]
    refine ⟨⟨hv, h2.2⟩, fun x hx => ih x hx (hocc _ h1.2 x hx) ?_⟩
    have := List.any_eq_false.1 h2.1 x hx
    simpa using this
theorem const22_af (e : Ex) (V : List Int) (seed : Int) (hn : OkN e) (hV : ∀ n ∈ V, R32 n) : AF Tryz.prog 9 [exA e, .d (.sl 1 (u32s V)), aI .u8 seed] (aB true) := by
  have hEv := evOk_mem2 V hV (mem22 seed) zer16
  have hL := fun a w ha hw => load2_af (B := mem22 seed) (C := zer16) (by simp [mem22]) (by simp [zer16]) a w ha hw
  have c1 := r20expr_af hEv hL e hn
  have hc := rcheck_af e
  refine af_of Tryz.func9 rfl (by kernel_rfl) (by simp [Tryz.ntmps9]) fun _ => ?_; simp [Tryz.f9, Ex.d_eq]
  refine aCall_of (small_af e 10 (by omega) (by omega)) (by simp) (by simp [Ex.d_eq]) ?_; simp [Ex.d_eq]
  by_cases hs : 0 ≤ nodI e 10 3000
  case neg =>
    simp [hs]
    refine aCall_of (l22ex_af) (by simp) (by simp [Ex.d_eq]) ?_; simp [Ex.d_eq]
  have hnd := small_n3 hs
  simp [hs]
  by_cases hv : V.length ≤ 40
  case neg =>
    simp [show (40 : Int) < V.length by omega]
    refine aCall_of (l22ex_af) (by simp) (by simp [Ex.d_eq]) ?_; simp [Ex.d_eq]
  simp [show ¬ (40 : Int) < V.length by omega]
  by_cases h1 : shalB 64 e = true
  case neg =>
    rw [if_neg h1] at hc
    refine aCall_of (hc) (by simp) (by simp [Ex.d_eq]) ?_; simp [Ex.d_eq]
    refine aCall_of (l22ex_af) (by simp) (by simp [Ex.d_eq]) ?_; simp [Ex.d_eq]
  by_cases h2 : formB e = true
  case neg =>
    rw [if_pos h1, if_neg h2] at hc
    refine aCall_of (hc) (by simp) (by simp [Ex.d_eq]) ?_; simp [Ex.d_eq]
    refine aCall_of (l22ex_af) (by simp) (by simp [Ex.d_eq]) ?_; simp [Ex.d_eq]
  rw [if_pos h1, if_pos h2] at hc
  rw [if_pos (by simp [checkB, h1, h2])] at c1
  refine aCall_of (hc) (by simp) (by simp [Ex.d_eq]) ?_; simp [Ex.d_eq]
  have ci := smisconst_af e hn (by omega)
  have hev := sexpr_ev V hV seed hn h1 h2
  by_cases h3 : (sExpr e).op = 1
  · have hi : sIs e = true := by simp [sIs, h1, h2, h3]
    rw [if_pos hi, hi] at ci
    have hcon := form_con (sexpr_ok h1 h2).form h3
    rw [hcon, ev_con] at hev
    rw [← hev] at c1
    refine aCall_of (ci) (by simp) (by simp [Ex.d_eq]) ?_; simp [Ex.d_eq]
    refine adraw [] (by kernel_rfl) (by kernel_rfl) (by kernel_rfl) (by kernel_rfl) ?_; simp [Ex.d_eq]
    refine adC_of (l22memory_af seed) (by simp) trivial (by simp) (by simp [Ex.d_eq]) ?_; simp [Ex.d_eq]
    refine adC_of (c1) (by simp) trivial (by simp) (by simp [Ex.d_eq]) ?_; simp [Ex.d_eq]
    refine aCall_of (l22ex_af) (by simp) (by simp [Ex.d_eq]) ?_; simp [Ex.d_eq]
  · have hi : sIs e = false := by simp [sIs, h3]
    rw [if_neg (by simp [hi]), hi] at ci
    have hor : 0 < (varsR e).length ∨ hasLd e = true := by
      rcases Nat.eq_zero_or_pos (varsR e).length with h0 | h0
      · right
        cases hb : hasLd e
        · have hocc : occ e = [] := by
            refine List.eq_nil_iff_forall_not_mem.2 fun v hv' => ?_
            have := varsR_mem.2 hv'
            rw [List.length_eq_zero_iff.1 h0] at this
            simp at this
          have := simp_const (sw e) e h2 (Nat.le_refl _) (closed_of e hocc hb)
          rw [← sexpr_eq h1 h2] at this
          exact absurd this h3
        · rfl
      · exact .inl h0
    refine aCall_of (ci) (by simp) (by simp [Ex.d_eq]) ?_; simp [Ex.d_eq]
    refine adraw [] (by kernel_rfl) (by kernel_rfl) (by kernel_rfl) (by kernel_rfl) ?_; simp [Ex.d_eq]
    refine adC_of (l22memory_af seed) (by simp) trivial (by simp) (by simp [Ex.d_eq]) ?_; simp [Ex.d_eq]
    refine adC_of (c1) (by simp) trivial (by simp) (by simp [Ex.d_eq]) ?_; simp [Ex.d_eq]
    refine aCall_of (r19vars_af e (by omega)) (by simp) (by simp [Ex.d_eq]) ?_; simp [Ex.d_eq]
    rcases hor with h | h
    · simp [h]
      refine aCall_of (l22ex_af) (by simp) (by simp [Ex.d_eq]) ?_; simp [Ex.d_eq]
    · by_cases hp : 0 < (varsR e).length
      · simp [hp]
        refine aCall_of (l22ex_af) (by simp) (by simp [Ex.d_eq]) ?_; simp [Ex.d_eq]
      · simp [hp]
        refine aCall_of (loads22_af e (by omega)) (by simp) (by simp [Ex.d_eq]) ?_; simp [Ex.d_eq]
        simp [h]
        refine aCall_of (l22ex_af) (by simp) (by simp [Ex.d_eq]) ?_; simp [Ex.d_eq]
end Go.Proofs.YtjnofkcfogognaaGreatDoor
