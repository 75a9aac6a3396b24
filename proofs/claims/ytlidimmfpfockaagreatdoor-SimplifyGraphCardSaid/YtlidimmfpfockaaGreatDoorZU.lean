/- Texts that the claim leans on, laid one behind the other: Nl, Nm, Nn, Nt, Nu, Nv, Nw, No, Nx, Np, Nq, Nr, Ns. -/
import Derived.Test.YtlidimmfpfockaaGreatDoorZS
import Derived.Test.YtlidimmfpfockaaGreatDoorZG
import Derived.Test.YtlidimmfpfockaaGreatDoorZK
import Derived.Test.YtlidimmfpfockaaGreatDoorZP
import Derived.Test.YtlidimmfpfockaaGreatDoorAl
import Derived.Test.YtlidimmfpfockaaGreatDoorAu
set_option linter.unusedSimpArgs false
set_option linter.unusedVariables false
set_option linter.unnecessarySimpa false
/- Contracts: simplify.binary (late), simplify.rule. -/
namespace Go.Proofs.YtlidimmfpfockaaGreatDoor
open Go.RowKit
/-- The rules for two operands that come after the signs. -/
def sLate (op : Int) (x y : Ex) : Option Ex := ((sSame op x y).or ((sTruth op x y).or ((sMove op x y).or (sBelow op x y))))
theorem below_no {op : Int} (x y : Ex) (h : op ≠ 15) : sBelow op x y = none := by simp [sBelow, h]
theorem smbinary0_af (op : Int) (x y : Ex) (hx : formB x = true) (sx : x.nodes ≤ 1000000000) (sy : y.nodes ≤ 1000000000) :
    ∃ j, AF Tryz.prog 182 [exA (eTwo op x y), aB false] (oA j (sLate op x y)) := by
  obtain ⟨j0, hj⟩ := smequal_af op x y sx
  have ht := smtruth_af op x y
  have hm := smmoved_af op x y hx sx
  unfold sLate
  cases hS : sSame op x y with
  | some r =>
    rw [hS] at hj
    refine ⟨eNil, ?_⟩
    refine af_of Tryz.func182 rfl (by kernel_rfl) (by simp [Tryz.ntmps182]) fun _ => ?_; simp [Tryz.f182, Ex.d_eq]
    refine adraw [(10, 5), (10, 7)] (by kernel_rfl) (by kernel_rfl) (by kernel_rfl) (by kernel_rfl) ?_; simp [Ex.d_eq]
    refine aCall_of (hj) (by simp) (by simp [Ex.d_eq]) ?_; simp [Ex.d_eq]
  | none =>
    rw [hS] at hj
    simp only [Option.none_or]
    cases hT : sTruth op x y with
    | some r =>
      rw [hT] at ht
      refine ⟨eNil, ?_⟩
      refine af_of Tryz.func182 rfl (by kernel_rfl) (by simp [Tryz.ntmps182]) fun _ => ?_; simp [Tryz.f182, Ex.d_eq]
      refine adraw [(10, 5), (10, 7)] (by kernel_rfl) (by kernel_rfl) (by kernel_rfl) (by kernel_rfl) ?_; simp [Ex.d_eq]
      refine aCall_of (hj) (by simp) (by simp [Ex.d_eq]) ?_; simp [Ex.d_eq]
      refine aCall_of (ht) (by simp) (by simp [Ex.d_eq]) ?_; simp [Ex.d_eq]
    | none =>
      rw [hT] at ht
      simp only [Option.none_or]
      cases hM : sMove op x y with
      | some r =>
        rw [hM] at hm
        refine ⟨eNil, ?_⟩
        refine af_of Tryz.func182 rfl (by kernel_rfl) (by simp [Tryz.ntmps182]) fun _ => ?_; simp [Tryz.f182, Ex.d_eq]
        refine adraw [(10, 5), (10, 7)] (by kernel_rfl) (by kernel_rfl) (by kernel_rfl) (by kernel_rfl) ?_; simp [Ex.d_eq]
        refine aCall_of (hj) (by simp) (by simp [Ex.d_eq]) ?_; simp [Ex.d_eq]
        refine aCall_of (ht) (by simp) (by simp [Ex.d_eq]) ?_; simp [Ex.d_eq]
        refine aCall_of (hm) (by simp) (by simp [Ex.d_eq]) ?_; simp [Ex.d_eq]
      | none =>
        rw [hM] at hm
        simp only [Option.none_or]
        by_cases h15 : op = 15
        · subst h15
          refine ⟨eNil, ?_⟩
          refine af_of Tryz.func182 rfl (by kernel_rfl) (by simp [Tryz.ntmps182]) fun _ => ?_; simp [Tryz.f182, Ex.d_eq]
          refine adraw [(10, 5), (10, 7)] (by kernel_rfl) (by kernel_rfl) (by kernel_rfl) (by kernel_rfl) ?_; simp [Ex.d_eq]
          refine aCall_of (hj) (by simp) (by simp [Ex.d_eq]) ?_; simp [Ex.d_eq]
          refine aCall_of (ht) (by simp) (by simp [Ex.d_eq]) ?_; simp [Ex.d_eq]
          refine aCall_of (hm) (by simp) (by simp [Ex.d_eq]) ?_; simp [Ex.d_eq]
          refine aCall_of (smbelow_af x y sx sy) (by simp) (by simp [Ex.d_eq]) ?_; simp [Ex.d_eq]
        · rw [below_no x y h15]
          refine ⟨eTwo op x y, ?_⟩
          refine af_of Tryz.func182 rfl (by kernel_rfl) (by simp [Tryz.ntmps182]) fun _ => ?_; simp [Tryz.f182, Ex.d_eq]
          refine adraw [(10, 5), (10, 7)] (by kernel_rfl) (by kernel_rfl) (by kernel_rfl) (by kernel_rfl) ?_; simp [Ex.d_eq]
          refine aCall_of (hj) (by simp) (by simp [Ex.d_eq]) ?_; simp [Ex.d_eq]
          refine aCall_of (ht) (by simp) (by simp [Ex.d_eq]) ?_; simp [Ex.d_eq]
          refine aCall_of (hm) (by simp) (by simp [Ex.d_eq]) ?_; simp [Ex.d_eq]
          simp [h15, Ex.d_eq]
theorem sTwo_eq (op : Int) (x y : Ex) : sTwo op x y = (sEarly op x y).or ((sSign op x y).or ((sLate op x y).or (sMask op x y))) := by
  simp only [sTwo, sLate, Option.or_assoc]
theorem signE_two {op : Int} (x y : Ex) (h3 : 3 ≤ op) (h15 : op ≤ 15) : sSignE (eTwo op x y) = sSign op x y := by
  unfold sSignE
  by_cases h : op = 3 ∨ op = 4
  · rw [if_pos (by simpa using h)]
    simp
  · rw [if_neg (by simpa using h), if_neg (by simp; omega)]
    unfold sSign
    rw [if_neg (by omega), if_neg (by omega), if_neg (by omega), if_neg (by omega)]
theorem extE_two {op : Int} (x y : Ex) (h15 : op ≤ 15) : sExtE (eTwo op x y) = sMask op x y := by
  unfold sExtE
  rw [if_neg (by simp; omega)]
  simp
theorem signE_no {e : Ex} (h : e.op ≠ 3 ∧ e.op ≠ 4 ∧ e.op ≠ 17) : sSignE e = none := by
  unfold sSignE
  rw [if_neg (by omega), if_neg (by omega)]
theorem extE_no {e : Ex} (h : e.op ≠ 6 ∧ e.op ≠ 19) : sExtE e = none := by
  unfold sExtE sMask
  rw [if_neg (by omega), if_neg (by intro hh; exact h.1 hh.1)]
theorem smrule_af (e : Ex) (hf : formB e = true) (hn : OkN e) (se : e.nodes ≤ 1000000000) : AF Tryz.prog 138 [exA e] (oA e (sRule e)) := by
  have hop := form_op hf
  have hc := smconstants_af e hf hn
  have hs := smsigns_af e hf se
  have hx := smextended_af e hf hn se
  unfold sRule
  cases hF : sFold e with
  | some r =>
    rw [hF] at hc
    simp only [Option.some_or]
    refine af_of Tryz.func138 rfl (by kernel_rfl) (by simp [Tryz.ntmps138]) fun _ => ?_; simp [Tryz.f138, Ex.d_eq]
    refine aCall_of (hc) (by simp) (by simp [Ex.d_eq]) ?_; simp [Ex.d_eq]
  | none =>
    rw [hF] at hc
    simp only [Option.none_or]
    by_cases h2 : e.op ≤ 2
    · have hR : sRest e = none := by
        unfold sRest
        rw [if_neg (by omega), if_neg (by omega), if_neg (by omega), if_neg (by omega)]
      rw [signE_no (by omega)] at hs
      rw [extE_no (by omega)] at hx
      rw [hR]
      refine af_of Tryz.func138 rfl (by kernel_rfl) (by simp [Tryz.ntmps138]) fun _ => ?_; simp [Tryz.f138, Ex.d_eq]
      refine aCall_of (hc) (by simp) (by simp [Ex.d_eq]) ?_; simp [Ex.d_eq]
      simp [show ¬ 3 ≤ e.op by omega]
      refine aCall_of (hs) (by simp) (by simp [Ex.d_eq]) ?_; simp [Ex.d_eq]
      simp [show ¬ e.op = 16 by omega]
      refine aCall_of (hx) (by simp) (by simp [Ex.d_eq]) ?_; simp [Ex.d_eq]
    by_cases h15 : e.op ≤ 15
    · obtain ⟨op, hoe⟩ : ∃ op, e.op = op := ⟨_, rfl⟩
      obtain ⟨x, y, he, hfx, hfy⟩ := form_two' hf hoe (by omega) (by omega)
      rw [hoe] at h2 h15 hop
      subst he
      clear hoe
      simp only [nodes_two] at se
      have ny : R32 y.n := (hn.l y (by simp)).n
      have hR : sRest (eTwo op x y) = sTwo op x y := by
        unfold sRest
        rw [if_neg (by simp; omega), if_neg (by simp; omega), if_neg (by simp; omega), if_pos (by simp; omega)]
        simp
      have h1 := smbinary1_af op x y (by omega) h15 hfx hfy ny (by omega) (by omega)
      obtain ⟨j, h0⟩ := smbinary0_af op x y hfx (by omega) (by omega)
      rw [signE_two x y (by omega) h15] at hs
      rw [extE_two x y h15] at hx
      rw [hR, sTwo_eq]
      cases hE : sEarly op x y with
      | some r =>
        rw [hE] at h1
        simp only [Option.some_or]
        refine af_of Tryz.func138 rfl (by kernel_rfl) (by simp [Tryz.ntmps138]) fun _ => ?_; simp [Tryz.f138, Ex.d_eq]
        refine aCall_of (hc) (by simp) (by simp [Ex.d_eq]) ?_; simp [Ex.d_eq]
        simp [show 3 ≤ op by omega, h15]
        refine aCall_of (h1) (by simp) (by simp [Ex.d_eq]) ?_; simp [Ex.d_eq]
      | none =>
        rw [hE] at h1
        simp only [Option.none_or]
        cases hS : sSign op x y with
        | some r =>
          rw [hS] at hs
          simp only [Option.some_or]
          refine af_of Tryz.func138 rfl (by kernel_rfl) (by simp [Tryz.ntmps138]) fun _ => ?_; simp [Tryz.f138, Ex.d_eq]
          refine aCall_of (hc) (by simp) (by simp [Ex.d_eq]) ?_; simp [Ex.d_eq]
          simp [show 3 ≤ op by omega, h15]
          refine aCall_of (h1) (by simp) (by simp [Ex.d_eq]) ?_; simp [Ex.d_eq]
          refine aCall_of (hs) (by simp) (by simp [Ex.d_eq]) ?_; simp [Ex.d_eq]
        | none =>
          rw [hS] at hs
          simp only [Option.none_or]
          cases hL : sLate op x y with
          | some r =>
            rw [hL] at h0
            simp only [Option.some_or]
            refine af_of Tryz.func138 rfl (by kernel_rfl) (by simp [Tryz.ntmps138]) fun _ => ?_; simp [Tryz.f138, Ex.d_eq]
            refine aCall_of (hc) (by simp) (by simp [Ex.d_eq]) ?_; simp [Ex.d_eq]
            simp [show 3 ≤ op by omega, h15]
            refine aCall_of (h1) (by simp) (by simp [Ex.d_eq]) ?_; simp [Ex.d_eq]
            refine aCall_of (hs) (by simp) (by simp [Ex.d_eq]) ?_; simp [Ex.d_eq]
            refine aCall_of (h0) (by simp) (by simp [Ex.d_eq]) ?_; simp [Ex.d_eq]
          | none =>
            rw [hL] at h0
            simp only [Option.none_or]
            refine af_of Tryz.func138 rfl (by kernel_rfl) (by simp [Tryz.ntmps138]) fun _ => ?_; simp [Tryz.f138, Ex.d_eq]
            refine aCall_of (hc) (by simp) (by simp [Ex.d_eq]) ?_; simp [Ex.d_eq]
            simp [show 3 ≤ op by omega, h15]
            refine aCall_of (h1) (by simp) (by simp [Ex.d_eq]) ?_; simp [Ex.d_eq]
            refine aCall_of (hs) (by simp) (by simp [Ex.d_eq]) ?_; simp [Ex.d_eq]
            refine aCall_of (h0) (by simp) (by simp [Ex.d_eq]) ?_; simp [Ex.d_eq]
            simp [show ¬ op = 16 by omega]
            refine aCall_of (hx) (by simp) (by simp [Ex.d_eq]) ?_; simp [Ex.d_eq]
    have h3 : ¬ e.op ≤ 15 := h15
    rcases (show e.op = 16 ∨ e.op = 17 ∨ e.op = 18 ∨ e.op = 19 by omega) with k | k | k | k
    · obtain ⟨x, he, hfx⟩ := form_one hf (.inl k)
      rw [k] at he
      subst he
      simp only [nodes_one] at se
      have hR : sRest (eOne 16 x) = sNot x := by simp [sRest]
      have hN := smnegated_af x hfx (by omega)
      rw [signE_no (by simp)] at hs
      rw [extE_no (by simp)] at hx
      rw [hR]
      cases hQ : sNot x with
      | some r =>
        rw [hQ] at hN
        refine af_of Tryz.func138 rfl (by kernel_rfl) (by simp [Tryz.ntmps138]) fun _ => ?_; simp [Tryz.f138, Ex.d_eq]
        refine aCall_of (hc) (by simp) (by simp [Ex.d_eq]) ?_; simp [Ex.d_eq]
        refine aCall_of (hs) (by simp) (by simp [Ex.d_eq]) ?_; simp [Ex.d_eq]
        refine aCall_of (hN) (by simp) (by simp [Ex.d_eq]) ?_; simp [Ex.d_eq]
      | none =>
        rw [hQ] at hN
        refine af_of Tryz.func138 rfl (by kernel_rfl) (by simp [Tryz.ntmps138]) fun _ => ?_; simp [Tryz.f138, Ex.d_eq]
        refine aCall_of (hc) (by simp) (by simp [Ex.d_eq]) ?_; simp [Ex.d_eq]
        refine aCall_of (hs) (by simp) (by simp [Ex.d_eq]) ?_; simp [Ex.d_eq]
        refine aCall_of (hN) (by simp) (by simp [Ex.d_eq]) ?_; simp [Ex.d_eq]
        refine aCall_of (hx) (by simp) (by simp [Ex.d_eq]) ?_; simp [Ex.d_eq]
    · obtain ⟨x, he, hfx⟩ := form_one hf (.inr k)
      rw [k] at he
      subst he
      have hR : sRest (eOne 17 x) = sNeg x := by simp [sRest]
      have hS : sSignE (eOne 17 x) = sNeg x := by simp [sSignE]
      rw [extE_no (by simp)] at hx
      rw [hS] at hs
      rw [hR]
      cases hQ : sNeg x with
      | some r =>
        rw [hQ] at hs
        refine af_of Tryz.func138 rfl (by kernel_rfl) (by simp [Tryz.ntmps138]) fun _ => ?_; simp [Tryz.f138, Ex.d_eq]
        refine aCall_of (hc) (by simp) (by simp [Ex.d_eq]) ?_; simp [Ex.d_eq]
        refine aCall_of (hs) (by simp) (by simp [Ex.d_eq]) ?_; simp [Ex.d_eq]
      | none =>
        rw [hQ] at hs
        refine af_of Tryz.func138 rfl (by kernel_rfl) (by simp [Tryz.ntmps138]) fun _ => ?_; simp [Tryz.f138, Ex.d_eq]
        refine aCall_of (hc) (by simp) (by simp [Ex.d_eq]) ?_; simp [Ex.d_eq]
        refine aCall_of (hs) (by simp) (by simp [Ex.d_eq]) ?_; simp [Ex.d_eq]
        refine aCall_of (hx) (by simp) (by simp [Ex.d_eq]) ?_; simp [Ex.d_eq]
    · have hR : sRest e = none := by simp [sRest, k]
      rw [signE_no (by omega)] at hs
      rw [extE_no (by omega)] at hx
      rw [hR]
      refine af_of Tryz.func138 rfl (by kernel_rfl) (by simp [Tryz.ntmps138]) fun _ => ?_; simp [Tryz.f138, Ex.d_eq]
      refine aCall_of (hc) (by simp) (by simp [Ex.d_eq]) ?_; simp [Ex.d_eq]
      simp [show 3 ≤ e.op by omega, show ¬ e.op ≤ 15 by omega]
      refine aCall_of (hs) (by simp) (by simp [Ex.d_eq]) ?_; simp [Ex.d_eq]
      simp [show ¬ e.op = 16 by omega]
      refine aCall_of (hx) (by simp) (by simp [Ex.d_eq]) ?_; simp [Ex.d_eq]
    · have hR : sRest e = sExt e.wd e.x := by simp [sRest, k]
      have hX : sExtE e = sExt e.wd e.x := by simp [sExtE, k]
      rw [signE_no (by omega)] at hs
      rw [hX] at hx
      rw [hR]
      refine af_of Tryz.func138 rfl (by kernel_rfl) (by simp [Tryz.ntmps138]) fun _ => ?_; simp [Tryz.f138, Ex.d_eq]
      refine aCall_of (hc) (by simp) (by simp [Ex.d_eq]) ?_; simp [Ex.d_eq]
      simp [show 3 ≤ e.op by omega, show ¬ e.op ≤ 15 by omega]
      refine aCall_of (hs) (by simp) (by simp [Ex.d_eq]) ?_; simp [Ex.d_eq]
      simp [show ¬ e.op = 16 by omega]
      refine aCall_of (hx) (by simp) (by simp [Ex.d_eq]) ?_; simp [Ex.d_eq]
end Go.Proofs.YtlidimmfpfockaaGreatDoor

/- Contracts: simplify.each, clone, simple, Expr, IsConst, Negated. -/
namespace Go.Proofs.YtlidimmfpfockaaGreatDoor
open Go.RowKit
set_option maxRecDepth 100000 in
theorem smeach_af (g : Nat) (F : Ex → Ex) (l : List Ex) (hlen : l.length ≤ 1000000) (hg : okF Tryz.prog g = true) (h : ∀ y ∈ l, AF Tryz.prog g [exA y] (exA (F y))) :
    AF Tryz.prog 86 [.d (.sl 5 (Ex.ds l)), .fn g [] []] (.d (.sl 5 (Ex.ds (l.map F)))) := by
  have n1 : l.length ≤ maxLen := by unfold maxLen; omega
  by_cases hl : l = []
  · subst hl
    refine af_of Tryz.func86 rfl (by kernel_rfl) (by simp [Tryz.ntmps86]) fun _ => ?_; simp [Tryz.f86, Ex.d_eq]
  refine af_of Tryz.func86 rfl (by kernel_rfl) (by simp [Tryz.ntmps86]) fun _ => ?_; simp [Tryz.f86, Ex.d_eq]
  simp [hl]
  refine aRaw_make (kl := .i64) (kc := .i64) (l := 0) (c := l.length) (z := [aI .i64 0, aI .u32 0, aI .i64 0, aI .i64 0, .d (.v (.slice none 0 0))]) byt_23 (by simp) (by simp) (by simp) (by omega) n1 (by omega) ?_
  simp
  refine aLoop_of (α := Nat) (fun i e A => i ≤ l.length ∧ (∃ N : AHeap, A = ⟨i, true, 38, 5, dEls (Ex.ds ((l.take i).map F))⟩ :: N) ∧
    e 16 = aI .i64 i ∧ e 15 = aI .i64 l.length ∧ e 14 = .d (.sl 5 (Ex.ds l)) ∧ e 5 = .own 0 i 0 i ∧ e 1 = .fn g [] []) (fun i => l.length - i) 0 (Sub.refl _ _ _)
    ⟨by omega, ⟨[], by simp⟩, by simp, by simp, by simp, by simp, by simp⟩ ?_
  rintro i e A ⟨hi, ⟨N, rfl⟩, e16, e15, e14, e5, e1⟩ K hK
  rcases Nat.lt_or_ge i l.length with hlt | hge
  case inr =>
    obtain rfl : i = l.length := by omega
    have ht : List.take l.length (Ex.ds (l.map F)) = Ex.ds (l.map F) := List.take_of_length_le (by simp)
    simp [e16, e15, e5, ht]
  obtain ⟨y, hy⟩ : ∃ y, l[i]? = some y := ⟨_, List.getElem?_eq_getElem hlt⟩
  have hy2 := (List.getElem?_eq_some_iff.1 hy).2
  have hmin : min i l.length = i := by omega
  simp [e16, e15, e14, e5, e1, hlt, hy, hy2, Ex.d_eq]
  refine aCall_of (h y (List.mem_of_getElem? hy)) hg (by simp [Ex.d_eq]) ?_
  simp [e5, Ex.d_eq, hmin]
  refine aRaw_app byt_23 ?_
  simp [e5, Ex.d_eq, hmin]
  refine ⟨by unfold maxLen; omega, by omega, ?_⟩
  have hels : dEls (Ex.ds (List.take (i + 1) (l.map F))) = dEls (Ex.ds (List.take i (l.map F))) ++ [[aI .i64 (F y).op, aI .u32 (F y).n, aI .i64 (F y).v, aI .i64 (F y).wd, .d (.sl 5 (Ex.ds (F y).l))]] := by
    rw [List.take_add_one, List.getElem?_map, hy]
    simp [Ex.ds_map, dEls, Ex.d_eq]
  simp [e16, succ_wrap hlt n1]
  refine hK (i + 1) _ _ _ _ (Sub.take 1 (by simp)) ⟨by omega, ⟨[], by rw [← hels]; simp⟩, by simp, by simp [e15], by simp [e14], by simp, by simp [e1]⟩ (by omega)
theorem smclone_af : ∀ (e : Ex), e.nodes ≤ 1000000 → AF Tryz.prog 79 [exA e] (exA e) := by
  intro x
  induction x using Ex.ind with
  | h x ih =>
    intro hn
    have hlen := x.nodes_len
    have he := smeach_af 79 id x.l (by omega) (by kernel_rfl) fun y hy => ih y hy (by have := Ex.nodes_mem hy; omega)
    rw [List.map_id] at he
    refine af_of Tryz.func79 rfl (by kernel_rfl) (by simp [Tryz.ntmps79]) fun _ => ?_; simp [Tryz.f79, Ex.d_eq]
    refine aCall_of (he) (by simp) (by simp [Ex.d_eq]) ?_; simp [Ex.d_eq]
end Go.Proofs.YtlidimmfpfockaaGreatDoor

/- Contracts: simplify.simple, Expr, IsConst, Negated. -/
namespace Go.Proofs.YtlidimmfpfockaaGreatDoor
open Go.RowKit
theorem ok_triv : EvOk [] (fun _ _ => (0, 0)) := ⟨fun v => by unfold valR; split <;> simp [r32_0], fun _ _ => r32_0, fun _ _ h => rfl⟩
theorem simp_okN {k : Nat} {e : Ex} (hf : formB e = true) (hn : OkN e) (hw : sw e ≤ k) : OkN (simpF k e) :=
  (simp_ev (V := []) (L := fun _ _ => (0, 0)) (E := 1) ok_triv (by omega) (fun _ _ => .inl rfl) (fun _ _ => ⟨fun _ => by simp, fun _ => by simp⟩) k e hf hn hw).2
theorem rule_okN {e r : Ex} (hf : formB e = true) (hn : OkN e) (hr : sRule e = some r) : OkN r :=
  (rule_ev (V := []) (L := fun _ _ => (0, 0)) (E := 1) ok_triv (by omega) (fun _ _ => .inl rfl) (fun _ _ => ⟨fun _ => by simp, fun _ => by simp⟩) hf hn hr).2
/-- The operands simplified. -/
theorem simp_map {k : Nat} {e : Ex} (hf : formB e = true) (hn : OkN e) (hw : sw e ≤ k + 1) : formB (.mk e.op e.n e.v e.wd (e.l.map (simpF k))) = true ∧ OkN (.mk e.op e.n e.v e.wd (e.l.map (simpF k))) ∧
    sw (.mk e.op e.n e.v e.wd (e.l.map (simpF k))) ≤ sw e ∧ (Ex.mk e.op e.n e.v e.wd (e.l.map (simpF k))).nodes ≤ e.nodes := by
  have hch : ∀ x ∈ e.l, SOk (simpF k x) x := fun x hx => simp_ok k x ((form_all hf).2 x hx) (by have := sw_mem hx; omega)
  refine ⟨form_map (f := simpF k) hf fun x hx => (hch x hx).form, .mk (by simpa using hn.n) ?_, sw_map (f := simpF k) hf fun x hx => ⟨(hch x hx).sw, (hch x hx).form, (hch x hx).con, (hch x hx).ncon⟩, ?_⟩
  · intro x hx
    simp only [Ex.l_mk, List.mem_map] at hx
    obtain ⟨y, hy, rfl⟩ := hx
    exact simp_okN ((form_all hf).2 y hy) (hn.l y hy) (by have := sw_mem hy; omega)
  · have hl : ∀ l : List Ex, (∀ x ∈ l, SOk (simpF k x) x) → Ex.nodess (l.map (simpF k)) ≤ Ex.nodess l := by
      intro l
      induction l with
      | nil => intro _; exact Nat.le_refl _
      | cons a l ihl =>
        intro h
        have h1 := (h a (by simp)).nodes
        have h2 := ihl fun x hx => h x (by simp [hx])
        simp only [List.map_cons, Ex.nodess]
        omega
    have := hl e.l hch
    obtain ⟨o, n, v, w, l⟩ := e
    simp only [Ex.nodes, Ex.op_mk, Ex.n_mk, Ex.v_mk, Ex.wd_mk, Ex.l_mk] at this ⊢
    omega
theorem simpF_succ (k : Nat) (e : Ex) : simpF (k + 1) e = match sRule (.mk e.op e.n e.v e.wd (e.l.map (simpF k))) with
    | some r => simpF k r
    | none => .mk e.op e.n e.v e.wd (e.l.map (simpF k)) := rfl
theorem smsimple_af : ∀ (k : Nat) (e : Ex), formB e = true → OkN e → sw e ≤ k → e.nodes ≤ 1000000 → AF Tryz.prog 80 [exA e] (exA (simpF k e)) := by
  intro k
  induction k using Nat.strongRecOn with
  | _ k ih =>
  intro e hf hn hw hs
  obtain ⟨R, hR⟩ : ∃ R, simpF k e = R := ⟨_, rfl⟩
  rw [hR]
  refine af_of Tryz.func80 rfl (by kernel_rfl) (by simp [Tryz.ntmps80]) fun _ => ?_; simp [Tryz.f80, Ex.d_eq]
  refine aLoop_of (α := Nat × Ex) (fun s g A => s.1 ≤ k ∧ formB s.2 = true ∧ OkN s.2 ∧ sw s.2 ≤ s.1 ∧ s.2.nodes ≤ 1000000 ∧ simpF s.1 s.2 = R ∧ (∃ N : AHeap, A = exC s.2 :: nilC :: N) ∧
    g 1 = .ptr 0 0 0 0 ∧ g 2 = .ptr 1 0 0 0) (fun s => s.1) (k, e) (Sub.refl _ _ _) ⟨Nat.le_refl _, hf, hn, hw, hs, hR, ⟨[], by simp⟩, by simp, by simp⟩ ?_
  rintro ⟨m, x⟩ g A ⟨hm, hfx, hnx, hwx, hsx, hRx, ⟨N, rfl⟩, e1, e2⟩ K hK
  simp only at hm hfx hnx hwx hsx hRx
  match m with
  | 0 => have := sw_pos x; omega
  | m + 1 =>
  obtain ⟨f1, f2, f3, f4⟩ := simp_map hfx hnx hwx
  have hlen := x.nodes_len
  have he := smeach_af 80 (simpF m) x.l (by omega) (by kernel_rfl) fun y hy => ih m (by omega) y ((form_all hfx).2 y hy) (hnx.l y hy) (by have := sw_mem hy; omega) (by have := Ex.nodes_mem hy; omega)
  rw [simpF_succ] at hRx
  obtain ⟨M, hM⟩ : ∃ M, x.l.map (simpF m) = M := ⟨_, rfl⟩
  rw [hM] at he f1 f2 f3 f4 hRx
  simp [e1]
  refine aCall_of (he) (by simp) (by simp [Ex.d_eq]) ?_; simp [Ex.d_eq]
  simp [e1]
  have hr := smrule_af (.mk x.op x.n x.v x.wd M) f1 f2 (by omega)
  cases hS : sRule (.mk x.op x.n x.v x.wd M) with
  | none =>
    rw [hS] at hRx hr
    simp only at hRx
    subst hRx
    refine aCall_of (hr) (by simp) (by simp [Ex.d_eq]) ?_; simp [Ex.d_eq]
    simp [e1, e2]
  | some r =>
    rw [hS] at hRx hr
    simp only at hRx
    have hl := srule_less f1 hS
    refine aCall_of (hr) (by simp) (by simp [Ex.d_eq]) ?_; simp [Ex.d_eq]
    simp [e1]
    refine hK (m, r) _ _ _ _ (Sub.refl _ _ _) ⟨by simp only; omega, hl.form, rule_okN f1 f2 hS, by have := hl.sw; simp only; omega, by have := hl.nodes; simp only; omega, hRx, ⟨_, by simp [Ex.d_eq]; rfl⟩, by simp [e1], by simp [e2]⟩ (by simp only; omega)
/-- What Expr answers. -/
def sExpr (e : Ex) : Ex := if shalB 64 e = true ∧ formB e = true then simpF (sw e) e else e
theorem smexpr_af (e : Ex) (hn : OkN e) (hs : e.nodes ≤ 1000000) : AF Tryz.prog 23 [exA e] (exA (sExpr e)) := by
  unfold sExpr
  by_cases h : shalB 64 e = true ∧ formB e = true
  · rw [if_pos h]
    refine af_of Tryz.func23 rfl (by kernel_rfl) (by simp [Tryz.ntmps23]) fun _ => ?_; simp [Tryz.f23, Ex.d_eq]
    refine aCall_of (check_af e) (by simp) (by simp [Ex.d_eq]) ?_; simp [Ex.d_eq]
    simp [h.1, h.2]
    refine aCall_of (smclone_af e hs) (by simp) (by simp [Ex.d_eq]) ?_; simp [Ex.d_eq]
    refine aCall_of (smsimple_af (sw e) e h.2 hn (Nat.le_refl _) hs) (by simp) (by simp [Ex.d_eq]) ?_; simp [Ex.d_eq]
  · rw [if_neg h]
    have hc := check_af e
    by_cases h1 : shalB 64 e = true
    · have h2 : formB e = false := by simpa [h1] using h
      rw [if_pos h1, if_neg (by simp [h2])] at hc
      refine af_of Tryz.func23 rfl (by kernel_rfl) (by simp [Tryz.ntmps23]) fun _ => ?_; simp [Tryz.f23, Ex.d_eq]
      refine aCall_of (hc) (by simp) (by simp [Ex.d_eq]) ?_; simp [Ex.d_eq]
      refine aCall_of (smclone_af e hs) (by simp) (by simp [Ex.d_eq]) ?_; simp [Ex.d_eq]
    · rw [if_neg h1] at hc
      refine af_of Tryz.func23 rfl (by kernel_rfl) (by simp [Tryz.ntmps23]) fun _ => ?_; simp [Tryz.f23, Ex.d_eq]
      refine aCall_of (hc) (by simp) (by simp [Ex.d_eq]) ?_; simp [Ex.d_eq]
      refine aCall_of (smclone_af e hs) (by simp) (by simp [Ex.d_eq]) ?_; simp [Ex.d_eq]
/-- What IsConst answers. -/
def sIs (e : Ex) : Bool := shalB 64 e && formB e && decide ((sExpr e).op = 1)
theorem smisconst_af (e : Ex) (hn : OkN e) (hs : e.nodes ≤ 1000000) : AF Tryz.prog 20 [exA e] (.tup [aI .u32 (if sIs e = true then (sExpr e).n else 0), aB (sIs e)]) := by
  have hc := check_af e
  unfold sIs
  by_cases h1 : shalB 64 e = true
  · by_cases h2 : formB e = true
    · rw [if_pos h1, if_pos h2] at hc
      refine af_of Tryz.func20 rfl (by kernel_rfl) (by simp [Tryz.ntmps20]) fun _ => ?_; simp [Tryz.f20, Ex.d_eq]
      refine aCall_of (hc) (by simp) (by simp [Ex.d_eq]) ?_; simp [Ex.d_eq]
      refine aCall_of (smexpr_af e hn hs) (by simp) (by simp [Ex.d_eq]) ?_; simp [Ex.d_eq]
      by_cases h3 : (sExpr e).op = 1 <;> simp [h1, h2, h3]
    · rw [if_pos h1, if_neg h2] at hc
      refine af_of Tryz.func20 rfl (by kernel_rfl) (by simp [Tryz.ntmps20]) fun _ => ?_; simp [Tryz.f20, Ex.d_eq]
      refine aCall_of (hc) (by simp) (by simp [Ex.d_eq]) ?_; simp [Ex.d_eq]
      simp [h1, h2]
  · rw [if_neg h1] at hc
    refine af_of Tryz.func20 rfl (by kernel_rfl) (by simp [Tryz.ntmps20]) fun _ => ?_; simp [Tryz.f20, Ex.d_eq]
    refine aCall_of (hc) (by simp) (by simp [Ex.d_eq]) ?_; simp [Ex.d_eq]
    simp [h1]
theorem smnegate_af (e : Ex) (hn : OkN e) (hs : e.nodes ≤ 999999) : AF Tryz.prog 25 [exA e] (exA (sExpr (eOne 16 e))) := by
  refine af_of Tryz.func25 rfl (by kernel_rfl) (by simp [Tryz.ntmps25]) fun _ => ?_; simp [Tryz.f25, Ex.d_eq]
  refine aCall_of (smone_af 16 e) (by simp) (by simp [Ex.d_eq]) ?_; simp [Ex.d_eq]
  refine aCall_of (smexpr_af (eOne 16 e) (okN_one hn) (by simp; omega)) (by simp) (by simp [Ex.d_eq]) ?_; simp [Ex.d_eq]
end Go.Proofs.YtlidimmfpfockaaGreatDoor

/- Contracts: the reference's rules of layer 22, one by one. -/
namespace Go.Proofs.YtlidimmfpfockaaGreatDoor
open Go.RowKit
theorem q22isnum_af (e : Ex) (n : Int) : AF Tryz.prog 88 [exA e, aI .u32 n] (aB (isB e n)) := by
  refine af_of Tryz.func88 rfl (by kernel_rfl) (by simp [Tryz.ntmps88]) fun _ => ?_; simp [Tryz.f88, Ex.d_eq]
  refine aG_split (fun g1 => ?_) (fun g1 => by simp at g1; simp [isB, g1])
  simp at g1
  simp [isB, g1]
theorem q22safe_af : ∀ (e : Ex), e.nodes ≤ 1000000000 → AF Tryz.prog 265 [exA e] (aB (safeB e)) := by
  intro x
  induction x using Ex.ind with
  | h x ih =>
    intro hn
    have hlen := x.nodes_len
    have n1 : x.l.length ≤ maxLen := by unfold maxLen; omega
    rw [safeB_eq]
    refine af_of Tryz.func265 rfl (by kernel_rfl) (by simp [Tryz.ntmps265]) fun _ => ?_; simp [Tryz.f265, Ex.d_eq]
    by_cases h18 : x.op = 18
    · simp [h18]
    simp [h18]
    refine aLoop_of (α := Nat) (fun i e A => i ≤ x.l.length ∧ A = [exC x] ∧ (x.l.take i).all safeB = true ∧ e 3 = aI .i64 i ∧ e 1 = .ptr 0 0 0 0) (fun i => x.l.length - i) 0 (Sub.refl _ _ _)
      ⟨by omega, by simp [h18], by simp, by simp, by simp⟩ ?_
    rintro i e A ⟨hi, rfl, hall, e3, e1⟩ K hK
    rcases Nat.lt_or_ge i x.l.length with hlt | hge
    case inr =>
      obtain rfl : i = x.l.length := by omega
      rw [List.take_length] at hall
      simp [e1, e3, hall]
    obtain ⟨y, hy⟩ : ∃ y, x.l[i]? = some y := ⟨_, List.getElem?_eq_getElem hlt⟩
    have hy2 := (List.getElem?_eq_some_iff.1 hy).2
    simp [e1, e3, hlt, hy, hy2, Ex.d_eq]
    refine aCall_of (ih y (List.mem_of_getElem? hy) (by have := Ex.nodes_mem (List.mem_of_getElem? hy); omega)) (by simp) (by simp [Ex.d_eq]) ?_
    simp
    have hall' : (x.l.take (i + 1)).all safeB = safeB y := by
      rw [List.take_add_one, hy, List.all_append, hall]
      simp
    cases hs : safeB y
    · have : x.l.all safeB = false := by
        simp only [List.all_eq_false]
        exact ⟨y, List.mem_of_getElem? hy, by simp [hs]⟩
      simp [this]
    · simp [e3, succ_wrap hlt n1]
      refine hK (i + 1) _ _ _ _ (Sub.refl _ _ _) ⟨by omega, by simp, by rw [hall', hs], by simp, by simp [e1]⟩ (by omega)
theorem q22bool_af (e : Ex) : AF Tryz.prog 235 [exA e] (aB (boolB e)) := by
  refine af_of Tryz.func235 rfl (by kernel_rfl) (by simp [Tryz.ntmps235]) fun _ => ?_; simp [Tryz.f235, Ex.d_eq]
  unfold boolB
  by_cases h12 : e.op = 12
  · simp [h12]
  by_cases h13 : e.op = 13
  · simp [h13]
  by_cases h14 : e.op = 14
  · simp [h14]
  by_cases h15 : e.op = 15
  · simp [h15]
  by_cases h16 : e.op = 16
  · simp [h16]
  have hd : decide (12 ≤ e.op ∧ e.op ≤ 16) = false := by simp; omega
  simp [h12, h13, h14, h15, h16, hd]
  refine aCall_of (q22isnum_af e 0) (by simp) (by simp [Ex.d_eq]) ?_; simp [Ex.d_eq]
  cases h0 : isB e 0
  · simp
    refine aCall_of (q22isnum_af e 1) (by simp) (by simp [Ex.d_eq]) ?_; simp [Ex.d_eq]
  · simp
theorem q22assoc_af (op : Int) : AF Tryz.prog 263 [aI .i64 op] (aB (comB op)) := by
  refine af_of Tryz.func263 rfl (by kernel_rfl) (by simp [Tryz.ntmps263]) fun _ => ?_; simp [Tryz.f263, Ex.d_eq]
  unfold comB
  by_cases h3 : op = 3
  · simp [h3]
  by_cases h5 : op = 5
  · simp [h5]
  by_cases h6 : op = 6
  · simp [h6]
  by_cases h7 : op = 7
  · simp [h7]
  simp [h3, h5, h6, h7]
def shiftB (op : Int) : Bool := decide (op = 9) || decide (op = 10) || decide (op = 11)
theorem q22isshift_af (op : Int) : AF Tryz.prog 264 [aI .i64 op] (aB (shiftB op)) := by
  refine af_of Tryz.func264 rfl (by kernel_rfl) (by simp [Tryz.ntmps264]) fun _ => ?_; simp [Tryz.f264, Ex.d_eq]
  unfold shiftB
  by_cases h3 : op = 9
  · simp [h3]
  by_cases h5 : op = 10
  · simp [h5]
  simp [h3, h5]
theorem q22covers_af (n w : Int) (hn : R32 n) : AF Tryz.prog 236 [aI .u32 n, aI .i64 w] (aB (covB n w)) := by
  have t1 : n.tmod 256 = n % 256 := Int.tmod_eq_emod_of_nonneg hn.1
  have t2 : n.tmod 65536 = n % 65536 := Int.tmod_eq_emod_of_nonneg hn.1
  unfold covB
  by_cases h1 : w = 1
  · subst h1
    refine af_of Tryz.func236 rfl (by kernel_rfl) (by simp [Tryz.ntmps236]) fun _ => ?_; simp [Tryz.f236, Ex.d_eq]
    by_cases h : n % 256 = 255 <;> simp [t1, h]
  by_cases h2 : w = 2
  · subst h2
    refine af_of Tryz.func236 rfl (by kernel_rfl) (by simp [Tryz.ntmps236]) fun _ => ?_; simp [Tryz.f236, Ex.d_eq]
    by_cases h : n % 65536 = 65535 <;> simp [t2, h]
  refine af_of Tryz.func236 rfl (by kernel_rfl) (by simp [Tryz.ntmps236]) fun _ => ?_; simp [Tryz.f236, Ex.d_eq]
  simp [h1, h2]
/-- The value of an operator of constants, in the reference. -/
theorem q22fold_af (e : Ex) (hf : formB e = true) (hn : OkN e) : ∃ j, AF Tryz.prog 186 [exA e] (oA j (sFold e)) := by
  have hop := form_op hf
  unfold sFold
  by_cases h1 : e.op = 1
  · have hl : e.l = [] := by rw [form_con hf h1]; rfl
    refine ⟨e, ?_⟩
    refine af_of Tryz.func186 rfl (by kernel_rfl) (by simp [Tryz.ntmps186]) fun _ => ?_; simp [Tryz.f186, Ex.d_eq]
    simp [h1, hl]
  by_cases h2 : e.op = 2
  · have hl : e.l = [] := by rw [(form_var hf h2).1]; rfl
    refine ⟨e, ?_⟩
    refine af_of Tryz.func186 rfl (by kernel_rfl) (by simp [Tryz.ntmps186]) fun _ => ?_; simp [Tryz.f186, Ex.d_eq]
    simp [h2, hl]
  by_cases h18 : e.op = 18
  · refine ⟨e, ?_⟩
    refine af_of Tryz.func186 rfl (by kernel_rfl) (by simp [Tryz.ntmps186]) fun _ => ?_; simp [Tryz.f186, Ex.d_eq]
    simp [h18]
  by_cases h15 : e.op ≤ 15
  · obtain ⟨op, hoe⟩ : ∃ op, e.op = op := ⟨_, rfl⟩
    obtain ⟨x, y, he, hfx, hfy⟩ := form_two' hf hoe (by omega) (by omega)
    rw [hoe] at h1 h2 h15 hop h18
    subst he
    clear hoe
    have nx : R32 x.n := (hn.l x (by simp)).n
    have ny : R32 y.n := (hn.l y (by simp)).n
    by_cases hx : x.op = 1
    case neg =>
      refine ⟨eTwo op x y, ?_⟩
      refine af_of Tryz.func186 rfl (by kernel_rfl) (by simp [Tryz.ntmps186]) fun _ => ?_; simp [Tryz.f186, Ex.d_eq]
      simp [h1, h2, h18]
      refine aLoop_iter 3 ?_; simp [Ex.d_eq]
      simp [hx, h18, Ex.d_eq]
    by_cases hy : y.op = 1
    case neg =>
      refine ⟨eTwo op x y, ?_⟩
      refine af_of Tryz.func186 rfl (by kernel_rfl) (by simp [Tryz.ntmps186]) fun _ => ?_; simp [Tryz.f186, Ex.d_eq]
      simp [h1, h2, h18]
      refine aLoop_iter 3 ?_; simp [Ex.d_eq]
      simp [hx, hy, h18, Ex.d_eq]
    refine ⟨eNil, ?_⟩
    obtain ⟨a, rfl⟩ : ∃ m, x = eCon m := ⟨_, form_con hfx hx⟩
    obtain ⟨b, rfl⟩ : ∃ m, y = eCon m := ⟨_, form_con hfy hy⟩
    have hv : foldV (eTwo op (eCon a) (eCon b)) = apR op a b := by
      simp [foldV, show ¬ op = 16 by omega, show ¬ op = 17 by omega, show ¬ op = 19 by omega]
    refine af_of Tryz.func186 rfl (by kernel_rfl) (by simp [Tryz.ntmps186]) fun _ => ?_; simp [Tryz.f186, Ex.d_eq]
    simp [h1, h2, h18]
    refine aLoop_iter 3 ?_; simp [Ex.d_eq]
    simp [show ¬ op = 16 by omega, show ¬ op = 17 by omega, show ¬ op = 19 by omega]
    refine adraw [] (by kernel_rfl) (by kernel_rfl) (by kernel_rfl) (by kernel_rfl) ?_; simp [Ex.d_eq]
    refine adC_of (r01apply_af nx ny op (by omega)) (by simp) trivial (by simp) (by simp [Ex.d_eq]) ?_; simp [Ex.d_eq]
    refine aCall_of (r19const_af (apR op a b)) (by simp) (by simp [Ex.d_eq]) ?_; simp [Ex.d_eq]
    simp [hv, h18, Ex.d_eq]
  · obtain ⟨he, hfx, _⟩ := form_one3 hf (by omega)
    obtain ⟨op, hoe⟩ : ∃ op, e.op = op := ⟨_, rfl⟩
    obtain ⟨w, hwe⟩ : ∃ w, e.wd = w := ⟨_, rfl⟩
    obtain ⟨x, hxe⟩ : ∃ x, e.x = x := ⟨_, rfl⟩
    have hww : op = 19 → w = 1 ∨ w = 2 := fun h => by
      obtain ⟨_, _, _, hw⟩ := form_wide hf (.inr (hoe.trans h))
      omega
    rw [hoe, hwe, hxe] at he
    rw [hxe] at hfx
    rw [hoe] at h1 h2 h15 hop h18
    clear hoe hwe hxe
    subst he
    have nx : R32 x.n := (hn.l x (by simp)).n
    by_cases hx : x.op = 1
    case neg =>
      refine ⟨.mk op 0 0 w [x], ?_⟩
      refine af_of Tryz.func186 rfl (by kernel_rfl) (by simp [Tryz.ntmps186]) fun _ => ?_; simp [Tryz.f186, Ex.d_eq]
      simp [h1, h2, h18]
      refine aLoop_iter 2 ?_; simp [Ex.d_eq]
      simp [hx, h18, Ex.d_eq]
    refine ⟨eNil, ?_⟩
    obtain ⟨a, rfl⟩ : ∃ m, x = eCon m := ⟨_, form_con hfx hx⟩
    rcases (show op = 16 ∨ op = 17 ∨ op = 19 by omega) with rfl | rfl | rfl
    · refine af_of Tryz.func186 rfl (by kernel_rfl) (by simp [Tryz.ntmps186]) fun _ => ?_; simp [Tryz.f186, Ex.d_eq]
      refine aLoop_iter 2 ?_; simp [Ex.d_eq]
      refine aCall_of (r01apply_af nx r32_0 12 (by omega)) (by simp) (by simp [Ex.d_eq]) ?_; simp [Ex.d_eq]
      refine aCall_of (r19const_af (apR 12 a 0)) (by simp) (by simp [Ex.d_eq]) ?_; simp [Ex.d_eq]
      by_cases h0 : a = 0 <;> simp [foldV, apR, h0, Ex.d_eq]
    · refine af_of Tryz.func186 rfl (by kernel_rfl) (by simp [Tryz.ntmps186]) fun _ => ?_; simp [Tryz.f186, Ex.d_eq]
      refine aLoop_iter 2 ?_; simp [Ex.d_eq]
      refine aCall_of (r19const_af (IntKind.u32.wrap (0 - a))) (by simp) (by simp [Ex.d_eq]) ?_; simp [Ex.d_eq]
      simp [foldV, u32e, Ex.d_eq]
    · refine af_of Tryz.func186 rfl (by kernel_rfl) (by simp [Tryz.ntmps186]) fun _ => ?_; simp [Tryz.f186, Ex.d_eq]
      refine aLoop_iter 2 ?_; simp [Ex.d_eq]
      refine aCall_of (r01ext_af nx w) (by simp) (by simp [Ex.d_eq]) ?_; simp [Ex.d_eq]
      refine aCall_of (r19const_af (rEx a w)) (by simp) (by simp [Ex.d_eq]) ?_; simp [Ex.d_eq]
      simp [foldV, Ex.d_eq]

end Go.Proofs.YtlidimmfpfockaaGreatDoor

/- Contracts: the reference's rules 2 to 6 of layer 22. -/
namespace Go.Proofs.YtlidimmfpfockaaGreatDoor
open Go.RowKit
set_option maxRecDepth 8000 in
theorem q22c_3 (x y : Ex) (hx : formB x = true) (hy : formB y = true) (nx : OkN x) (ny : OkN y) (sx : x.nodes ≤ 1000000000) (sy : y.nodes ≤ 1000000000) :
    AF Tryz.prog 237 [aI .i64 3, exA x, exA y] (oA x (sEarly 3 x y)) := by
  obtain ⟨R, hR⟩ : ∃ R, sEarly 3 x y = R := ⟨_, rfl⟩
  rw [hR]
  unfold sEarly at hR
  have ca := q22assoc_af 3
  rw [show comB 3 = true from rfl] at ca
  have cs := q22isshift_af 3
  rw [show shiftB 3 = false from rfl] at cs
  refine af_of Tryz.func237 rfl (by kernel_rfl) (by simp [Tryz.ntmps237]) fun _ => ?_; simp [Tryz.f237, Ex.d_eq]
  refine aCall_of (ca) (by simp) (by simp [Ex.d_eq]) ?_; simp [Ex.d_eq]
  by_cases a : x.op = 1
  · obtain ⟨q, rfl⟩ : ∃ m, x = eCon m := ⟨_, form_con hx a⟩
    have hz : (0 : Int) = 0 := rfl
    by_cases b : y.op = 1
    case neg =>
      simp [b]
      refine aCall_of (r19two_af 3 y (eCon q)) (by simp) (by simp [Ex.d_eq]) ?_; simp [Ex.d_eq]
      rw [← hR]
      simp [comB, all32, isB, b, Ex.d_eq]
    simp [b]
    refine aCall_of (cs) (by simp) (by simp [Ex.d_eq]) ?_; simp [Ex.d_eq]
    try simp [b]
    obtain ⟨m, rfl⟩ : ∃ m, y = eCon m := ⟨_, form_con hy b⟩
    have rm : R32 m := ny.n
    rcases (show m = 0 ∨ m = 1 ∨ m = 4294967295 ∨ (m ≠ 0 ∧ m ≠ 1 ∧ m ≠ 4294967295) by omega) with rfl | rfl | rfl | ⟨m0, m1, m2⟩
    · have hz : (0 : Int) = 0 := rfl
      try simp [hz]
      rw [← hR]
      simp [comB, all32, isB, hz, Ex.d_eq]
    · have hz : (0 : Int) = 0 := rfl
      try simp [hz]
      refine aCall_of (cs) (by simp) (by simp [Ex.d_eq]) ?_; simp [Ex.d_eq]
      refine aCall_of (ca) (by simp) (by simp [Ex.d_eq]) ?_; simp [Ex.d_eq]
      rw [← hR]
      simp [comB, all32, isB, hz, Ex.d_eq]
    · have hz : (0 : Int) = 0 := rfl
      try simp [hz]
      refine aCall_of (cs) (by simp) (by simp [Ex.d_eq]) ?_; simp [Ex.d_eq]
      refine aCall_of (ca) (by simp) (by simp [Ex.d_eq]) ?_; simp [Ex.d_eq]
      rw [← hR]
      simp [comB, all32, isB, hz, Ex.d_eq]
    · have hz : (0 : Int) = 0 := rfl
      try simp [m0, m1, m2]
      refine aCall_of (cs) (by simp) (by simp [Ex.d_eq]) ?_; simp [Ex.d_eq]
      try simp [m0, m1, m2]
      refine aCall_of (ca) (by simp) (by simp [Ex.d_eq]) ?_; simp [Ex.d_eq]
      rw [← hR]
      simp [comB, all32, isB, m0, m1, m2, Ex.d_eq]
  · simp [a]
    refine aCall_of (cs) (by simp) (by simp [Ex.d_eq]) ?_; simp [Ex.d_eq]
    by_cases b : y.op = 1
    case neg =>
      simp [b]
      rw [← hR]
      simp [comB, all32, isB, a, b, Ex.d_eq]
    simp [b]
    obtain ⟨m, rfl⟩ : ∃ m, y = eCon m := ⟨_, form_con hy b⟩
    have rm : R32 m := ny.n
    rcases (show m = 0 ∨ m = 1 ∨ m = 4294967295 ∨ (m ≠ 0 ∧ m ≠ 1 ∧ m ≠ 4294967295) by omega) with rfl | rfl | rfl | ⟨m0, m1, m2⟩
    · have hz : (0 : Int) = 0 := rfl
      try simp [a]
      rw [← hR]
      simp [comB, all32, isB, a, Ex.d_eq]
    · have hz : (0 : Int) = 0 := rfl
      try simp [a]
      refine aCall_of (cs) (by simp) (by simp [Ex.d_eq]) ?_; simp [Ex.d_eq]
      refine aCall_of (ca) (by simp) (by simp [Ex.d_eq]) ?_; simp [Ex.d_eq]
      by_cases g1 : x.op = 3
      case neg =>
        try simp [g1]
        rw [← hR]
        simp [comB, all32, isB, a, g1, Ex.d_eq]
      obtain ⟨p1, p2, rfl, ha, hb⟩ := form_two' hx g1 (by omega) (by omega)
      have rb : R32 p2.n := (nx.l p2 (by simp)).n
      try simp [Ex.d_eq]
      by_cases g2 : p2.op = 1
      case neg =>
        try simp [g2, Ex.d_eq]
        rw [← hR]
        simp [comB, all32, isB, a, g2, Ex.d_eq]
      try simp [g2, Ex.d_eq]
      refine adraw [] (by kernel_rfl) (by kernel_rfl) (by kernel_rfl) (by kernel_rfl) ?_; simp [Ex.d_eq]
      refine adC_of (r01apply_af rb rm 3 (by omega)) (by simp) trivial (by simp) (by simp [Ex.d_eq]) ?_; simp [Ex.d_eq]
      refine adraw [] (by kernel_rfl) (by kernel_rfl) (by kernel_rfl) (by kernel_rfl) ?_; simp [Ex.d_eq]
      refine adC_of (r19const_af (apR 3 p2.n 1)) (by simp) trivial (by simp) (by simp [Ex.d_eq]) ?_; simp [Ex.d_eq]
      refine adC_of (r19two_af 3 p1 (eCon (apR 3 p2.n 1))) (by simp) trivial (by simp) (by simp [Ex.d_eq]) ?_; simp [Ex.d_eq]
      rw [← hR]
      simp [comB, all32, isB, a, g2, Ex.d_eq]
    · have hz : (0 : Int) = 0 := rfl
      try simp [a]
      refine aCall_of (cs) (by simp) (by simp [Ex.d_eq]) ?_; simp [Ex.d_eq]
      refine aCall_of (ca) (by simp) (by simp [Ex.d_eq]) ?_; simp [Ex.d_eq]
      by_cases g1 : x.op = 3
      case neg =>
        try simp [g1]
        rw [← hR]
        simp [comB, all32, isB, a, g1, Ex.d_eq]
      obtain ⟨p1, p2, rfl, ha, hb⟩ := form_two' hx g1 (by omega) (by omega)
      have rb : R32 p2.n := (nx.l p2 (by simp)).n
      try simp [Ex.d_eq]
      by_cases g2 : p2.op = 1
      case neg =>
        try simp [g2, Ex.d_eq]
        rw [← hR]
        simp [comB, all32, isB, a, g2, Ex.d_eq]
      try simp [g2, Ex.d_eq]
      refine adraw [] (by kernel_rfl) (by kernel_rfl) (by kernel_rfl) (by kernel_rfl) ?_; simp [Ex.d_eq]
      refine adC_of (r01apply_af rb rm 3 (by omega)) (by simp) trivial (by simp) (by simp [Ex.d_eq]) ?_; simp [Ex.d_eq]
      refine adraw [] (by kernel_rfl) (by kernel_rfl) (by kernel_rfl) (by kernel_rfl) ?_; simp [Ex.d_eq]
      refine adC_of (r19const_af (apR 3 p2.n 4294967295)) (by simp) trivial (by simp) (by simp [Ex.d_eq]) ?_; simp [Ex.d_eq]
      refine adC_of (r19two_af 3 p1 (eCon (apR 3 p2.n 4294967295))) (by simp) trivial (by simp) (by simp [Ex.d_eq]) ?_; simp [Ex.d_eq]
      rw [← hR]
      simp [comB, all32, isB, a, g2, Ex.d_eq]
    · have hz : (0 : Int) = 0 := rfl
      try simp [m0, m1, m2, a]
      refine aCall_of (cs) (by simp) (by simp [Ex.d_eq]) ?_; simp [Ex.d_eq]
      try simp [m0, m1, m2, a]
      refine aCall_of (ca) (by simp) (by simp [Ex.d_eq]) ?_; simp [Ex.d_eq]
      by_cases g1 : x.op = 3
      case neg =>
        try simp [g1]
        rw [← hR]
        simp [comB, all32, isB, m0, m1, m2, a, g1, Ex.d_eq]
      obtain ⟨p1, p2, rfl, ha, hb⟩ := form_two' hx g1 (by omega) (by omega)
      have rb : R32 p2.n := (nx.l p2 (by simp)).n
      try simp [Ex.d_eq]
      by_cases g2 : p2.op = 1
      case neg =>
        try simp [g2, Ex.d_eq]
        rw [← hR]
        simp [comB, all32, isB, m0, m1, m2, a, g2, Ex.d_eq]
      try simp [g2, Ex.d_eq]
      refine adraw [] (by kernel_rfl) (by kernel_rfl) (by kernel_rfl) (by kernel_rfl) ?_; simp [Ex.d_eq]
      refine adC_of (r01apply_af rb rm 3 (by omega)) (by simp) trivial (by simp) (by simp [Ex.d_eq]) ?_; simp [Ex.d_eq]
      refine adraw [] (by kernel_rfl) (by kernel_rfl) (by kernel_rfl) (by kernel_rfl) ?_; simp [Ex.d_eq]
      refine adC_of (r19const_af (apR 3 p2.n m)) (by simp) trivial (by simp) (by simp [Ex.d_eq]) ?_; simp [Ex.d_eq]
      refine adC_of (r19two_af 3 p1 (eCon (apR 3 p2.n m))) (by simp) trivial (by simp) (by simp [Ex.d_eq]) ?_; simp [Ex.d_eq]
      rw [← hR]
      simp [comB, all32, isB, m0, m1, m2, a, g2, Ex.d_eq]
set_option maxRecDepth 8000 in
theorem q22c_7 (x y : Ex) (hx : formB x = true) (hy : formB y = true) (nx : OkN x) (ny : OkN y) (sx : x.nodes ≤ 1000000000) (sy : y.nodes ≤ 1000000000) :
    AF Tryz.prog 237 [aI .i64 7, exA x, exA y] (oA x (sEarly 7 x y)) := by
  obtain ⟨R, hR⟩ : ∃ R, sEarly 7 x y = R := ⟨_, rfl⟩
  rw [hR]
  unfold sEarly at hR
  have ca := q22assoc_af 7
  rw [show comB 7 = true from rfl] at ca
  have cs := q22isshift_af 7
  rw [show shiftB 7 = false from rfl] at cs
  refine af_of Tryz.func237 rfl (by kernel_rfl) (by simp [Tryz.ntmps237]) fun _ => ?_; simp [Tryz.f237, Ex.d_eq]
  refine aCall_of (ca) (by simp) (by simp [Ex.d_eq]) ?_; simp [Ex.d_eq]
  by_cases a : x.op = 1
  · obtain ⟨q, rfl⟩ : ∃ m, x = eCon m := ⟨_, form_con hx a⟩
    have hz : (0 : Int) = 0 := rfl
    by_cases b : y.op = 1
    case neg =>
      simp [b]
      refine aCall_of (r19two_af 7 y (eCon q)) (by simp) (by simp [Ex.d_eq]) ?_; simp [Ex.d_eq]
      rw [← hR]
      simp [comB, all32, isB, b, Ex.d_eq]
    simp [b]
    refine aCall_of (cs) (by simp) (by simp [Ex.d_eq]) ?_; simp [Ex.d_eq]
    try simp [b]
    obtain ⟨m, rfl⟩ : ∃ m, y = eCon m := ⟨_, form_con hy b⟩
    have rm : R32 m := ny.n
    rcases (show m = 0 ∨ m = 1 ∨ m = 4294967295 ∨ (m ≠ 0 ∧ m ≠ 1 ∧ m ≠ 4294967295) by omega) with rfl | rfl | rfl | ⟨m0, m1, m2⟩
    · have hz : (0 : Int) = 0 := rfl
      try simp [hz]
      rw [← hR]
      simp [comB, all32, isB, hz, Ex.d_eq]
    · have hz : (0 : Int) = 0 := rfl
      try simp [hz]
      refine aCall_of (cs) (by simp) (by simp [Ex.d_eq]) ?_; simp [Ex.d_eq]
      refine aCall_of (ca) (by simp) (by simp [Ex.d_eq]) ?_; simp [Ex.d_eq]
      rw [← hR]
      simp [comB, all32, isB, hz, Ex.d_eq]
    · have hz : (0 : Int) = 0 := rfl
      try simp [hz]
      refine aCall_of (cs) (by simp) (by simp [Ex.d_eq]) ?_; simp [Ex.d_eq]
      have hsq := q22safe_af (eCon q) sx
      rw [show safeB (eCon q) = true from rfl] at hsq
      refine aCall_of (hsq) (by simp) (by simp [Ex.d_eq]) ?_; simp [Ex.d_eq]
      rw [← hR]
      simp [comB, all32, isB, show safeB (eCon q) = true from rfl, Ex.d_eq]
    · have hz : (0 : Int) = 0 := rfl
      try simp [m0, m1, m2]
      refine aCall_of (cs) (by simp) (by simp [Ex.d_eq]) ?_; simp [Ex.d_eq]
      try simp [m0, m1, m2]
      refine aCall_of (ca) (by simp) (by simp [Ex.d_eq]) ?_; simp [Ex.d_eq]
      rw [← hR]
      simp [comB, all32, isB, m0, m1, m2, Ex.d_eq]
  · simp [a]
    refine aCall_of (cs) (by simp) (by simp [Ex.d_eq]) ?_; simp [Ex.d_eq]
    by_cases b : y.op = 1
    case neg =>
      simp [b]
      rw [← hR]
      simp [comB, all32, isB, a, b, Ex.d_eq]
    simp [b]
    obtain ⟨m, rfl⟩ : ∃ m, y = eCon m := ⟨_, form_con hy b⟩
    have rm : R32 m := ny.n
    rcases (show m = 0 ∨ m = 1 ∨ m = 4294967295 ∨ (m ≠ 0 ∧ m ≠ 1 ∧ m ≠ 4294967295) by omega) with rfl | rfl | rfl | ⟨m0, m1, m2⟩
    · have hz : (0 : Int) = 0 := rfl
      try simp [a]
      rw [← hR]
      simp [comB, all32, isB, a, Ex.d_eq]
    · have hz : (0 : Int) = 0 := rfl
      try simp [a]
      refine aCall_of (cs) (by simp) (by simp [Ex.d_eq]) ?_; simp [Ex.d_eq]
      refine aCall_of (ca) (by simp) (by simp [Ex.d_eq]) ?_; simp [Ex.d_eq]
      by_cases g1 : x.op = 7
      case neg =>
        try simp [g1]
        rw [← hR]
        simp [comB, all32, isB, a, g1, Ex.d_eq]
      obtain ⟨p1, p2, rfl, ha, hb⟩ := form_two' hx g1 (by omega) (by omega)
      have rb : R32 p2.n := (nx.l p2 (by simp)).n
      try simp [Ex.d_eq]
      by_cases g2 : p2.op = 1
      case neg =>
        try simp [g2, Ex.d_eq]
        rw [← hR]
        simp [comB, all32, isB, a, g2, Ex.d_eq]
      try simp [g2, Ex.d_eq]
      refine adraw [] (by kernel_rfl) (by kernel_rfl) (by kernel_rfl) (by kernel_rfl) ?_; simp [Ex.d_eq]
      refine adC_of (r01apply_af rb rm 7 (by omega)) (by simp) trivial (by simp) (by simp [Ex.d_eq]) ?_; simp [Ex.d_eq]
      refine adraw [] (by kernel_rfl) (by kernel_rfl) (by kernel_rfl) (by kernel_rfl) ?_; simp [Ex.d_eq]
      refine adC_of (r19const_af (apR 7 p2.n 1)) (by simp) trivial (by simp) (by simp [Ex.d_eq]) ?_; simp [Ex.d_eq]
      refine adC_of (r19two_af 7 p1 (eCon (apR 7 p2.n 1))) (by simp) trivial (by simp) (by simp [Ex.d_eq]) ?_; simp [Ex.d_eq]
      rw [← hR]
      simp [comB, all32, isB, a, g2, Ex.d_eq]
    · have hz : (0 : Int) = 0 := rfl
      try simp [a]
      refine aCall_of (cs) (by simp) (by simp [Ex.d_eq]) ?_; simp [Ex.d_eq]
      refine aCall_of (q22safe_af x sx) (by simp) (by simp [Ex.d_eq]) ?_; simp [Ex.d_eq]
      cases hs : safeB x
      case true =>
        try simp
        rw [← hR]
        simp [comB, all32, isB, a, hs, Ex.d_eq]
      try simp
      refine aCall_of (ca) (by simp) (by simp [Ex.d_eq]) ?_; simp [Ex.d_eq]
      by_cases g1 : x.op = 7
      case neg =>
        try simp [g1]
        rw [← hR]
        simp [comB, all32, isB, a, hs, g1, Ex.d_eq]
      obtain ⟨p1, p2, rfl, ha, hb⟩ := form_two' hx g1 (by omega) (by omega)
      have rb : R32 p2.n := (nx.l p2 (by simp)).n
      try simp [Ex.d_eq]
      by_cases g2 : p2.op = 1
      case neg =>
        try simp [g2, Ex.d_eq]
        rw [← hR]
        simp [comB, all32, isB, a, hs, g2, Ex.d_eq]
      try simp [g2, Ex.d_eq]
      refine adraw [] (by kernel_rfl) (by kernel_rfl) (by kernel_rfl) (by kernel_rfl) ?_; simp [Ex.d_eq]
      refine adC_of (r01apply_af rb rm 7 (by omega)) (by simp) trivial (by simp) (by simp [Ex.d_eq]) ?_; simp [Ex.d_eq]
      refine adraw [] (by kernel_rfl) (by kernel_rfl) (by kernel_rfl) (by kernel_rfl) ?_; simp [Ex.d_eq]
      refine adC_of (r19const_af (apR 7 p2.n 4294967295)) (by simp) trivial (by simp) (by simp [Ex.d_eq]) ?_; simp [Ex.d_eq]
      refine adC_of (r19two_af 7 p1 (eCon (apR 7 p2.n 4294967295))) (by simp) trivial (by simp) (by simp [Ex.d_eq]) ?_; simp [Ex.d_eq]
      rw [← hR]
      simp [comB, all32, isB, a, hs, g2, Ex.d_eq]
    · have hz : (0 : Int) = 0 := rfl
      try simp [m0, m1, m2, a]
      refine aCall_of (cs) (by simp) (by simp [Ex.d_eq]) ?_; simp [Ex.d_eq]
      try simp [m0, m1, m2, a]
      refine aCall_of (ca) (by simp) (by simp [Ex.d_eq]) ?_; simp [Ex.d_eq]
      by_cases g1 : x.op = 7
      case neg =>
        try simp [g1]
        rw [← hR]
        simp [comB, all32, isB, m0, m1, m2, a, g1, Ex.d_eq]
      obtain ⟨p1, p2, rfl, ha, hb⟩ := form_two' hx g1 (by omega) (by omega)
      have rb : R32 p2.n := (nx.l p2 (by simp)).n
      try simp [Ex.d_eq]
      by_cases g2 : p2.op = 1
      case neg =>
        try simp [g2, Ex.d_eq]
        rw [← hR]
        simp [comB, all32, isB, m0, m1, m2, a, g2, Ex.d_eq]
      try simp [g2, Ex.d_eq]
      refine adraw [] (by kernel_rfl) (by kernel_rfl) (by kernel_rfl) (by kernel_rfl) ?_; simp [Ex.d_eq]
      refine adC_of (r01apply_af rb rm 7 (by omega)) (by simp) trivial (by simp) (by simp [Ex.d_eq]) ?_; simp [Ex.d_eq]
      refine adraw [] (by kernel_rfl) (by kernel_rfl) (by kernel_rfl) (by kernel_rfl) ?_; simp [Ex.d_eq]
      refine adC_of (r19const_af (apR 7 p2.n m)) (by simp) trivial (by simp) (by simp [Ex.d_eq]) ?_; simp [Ex.d_eq]
      refine adC_of (r19two_af 7 p1 (eCon (apR 7 p2.n m))) (by simp) trivial (by simp) (by simp [Ex.d_eq]) ?_; simp [Ex.d_eq]
      rw [← hR]
      simp [comB, all32, isB, m0, m1, m2, a, g2, Ex.d_eq]
set_option maxRecDepth 8000 in
theorem q22c_8 (x y : Ex) (hx : formB x = true) (hy : formB y = true) (nx : OkN x) (ny : OkN y) (sx : x.nodes ≤ 1000000000) (sy : y.nodes ≤ 1000000000) :
    AF Tryz.prog 237 [aI .i64 8, exA x, exA y] (oA x (sEarly 8 x y)) := by
  obtain ⟨R, hR⟩ : ∃ R, sEarly 8 x y = R := ⟨_, rfl⟩
  rw [hR]
  unfold sEarly at hR
  have ca := q22assoc_af 8
  rw [show comB 8 = true from rfl] at ca
  have cs := q22isshift_af 8
  rw [show shiftB 8 = false from rfl] at cs
  refine af_of Tryz.func237 rfl (by kernel_rfl) (by simp [Tryz.ntmps237]) fun _ => ?_; simp [Tryz.f237, Ex.d_eq]
  refine aCall_of (ca) (by simp) (by simp [Ex.d_eq]) ?_; simp [Ex.d_eq]
  by_cases a : x.op = 1
  · obtain ⟨q, rfl⟩ : ∃ m, x = eCon m := ⟨_, form_con hx a⟩
    have hz : (0 : Int) = 0 := rfl
    by_cases b : y.op = 1
    case neg =>
      simp [b]
      refine aCall_of (r19two_af 8 y (eCon q)) (by simp) (by simp [Ex.d_eq]) ?_; simp [Ex.d_eq]
      rw [← hR]
      simp [comB, all32, isB, b, Ex.d_eq]
    simp [b]
    refine aCall_of (cs) (by simp) (by simp [Ex.d_eq]) ?_; simp [Ex.d_eq]
    try simp [b]
    obtain ⟨m, rfl⟩ : ∃ m, y = eCon m := ⟨_, form_con hy b⟩
    have rm : R32 m := ny.n
    rcases (show m = 0 ∨ m = 1 ∨ m = 4294967295 ∨ (m ≠ 0 ∧ m ≠ 1 ∧ m ≠ 4294967295) by omega) with rfl | rfl | rfl | ⟨m0, m1, m2⟩
    · have hz : (0 : Int) = 0 := rfl
      try simp [hz]
      rw [← hR]
      simp [comB, all32, isB, hz, Ex.d_eq]
    · have hz : (0 : Int) = 0 := rfl
      try simp [hz]
      refine aCall_of (cs) (by simp) (by simp [Ex.d_eq]) ?_; simp [Ex.d_eq]
      refine aCall_of (ca) (by simp) (by simp [Ex.d_eq]) ?_; simp [Ex.d_eq]
      rw [← hR]
      simp [comB, all32, isB, hz, Ex.d_eq]
    · have hz : (0 : Int) = 0 := rfl
      try simp [hz]
      refine aCall_of (cs) (by simp) (by simp [Ex.d_eq]) ?_; simp [Ex.d_eq]
      refine aCall_of (ca) (by simp) (by simp [Ex.d_eq]) ?_; simp [Ex.d_eq]
      rw [← hR]
      simp [comB, all32, isB, hz, Ex.d_eq]
    · have hz : (0 : Int) = 0 := rfl
      try simp [m0, m1, m2]
      refine aCall_of (cs) (by simp) (by simp [Ex.d_eq]) ?_; simp [Ex.d_eq]
      try simp [m0, m1, m2]
      refine aCall_of (ca) (by simp) (by simp [Ex.d_eq]) ?_; simp [Ex.d_eq]
      rw [← hR]
      simp [comB, all32, isB, m0, m1, m2, Ex.d_eq]
  · simp [a]
    refine aCall_of (cs) (by simp) (by simp [Ex.d_eq]) ?_; simp [Ex.d_eq]
    by_cases b : y.op = 1
    case neg =>
      simp [b]
      rw [← hR]
      simp [comB, all32, isB, a, b, Ex.d_eq]
    simp [b]
    obtain ⟨m, rfl⟩ : ∃ m, y = eCon m := ⟨_, form_con hy b⟩
    have rm : R32 m := ny.n
    rcases (show m = 0 ∨ m = 1 ∨ m = 4294967295 ∨ (m ≠ 0 ∧ m ≠ 1 ∧ m ≠ 4294967295) by omega) with rfl | rfl | rfl | ⟨m0, m1, m2⟩
    · have hz : (0 : Int) = 0 := rfl
      try simp [a]
      rw [← hR]
      simp [comB, all32, isB, a, Ex.d_eq]
    · have hz : (0 : Int) = 0 := rfl
      try simp [a]
      refine aCall_of (cs) (by simp) (by simp [Ex.d_eq]) ?_; simp [Ex.d_eq]
      refine aCall_of (ca) (by simp) (by simp [Ex.d_eq]) ?_; simp [Ex.d_eq]
      by_cases g1 : x.op = 8
      case neg =>
        try simp [g1]
        rw [← hR]
        simp [comB, all32, isB, a, g1, Ex.d_eq]
      obtain ⟨p1, p2, rfl, ha, hb⟩ := form_two' hx g1 (by omega) (by omega)
      have rb : R32 p2.n := (nx.l p2 (by simp)).n
      try simp [Ex.d_eq]
      by_cases g2 : p2.op = 1
      case neg =>
        try simp [g2, Ex.d_eq]
        rw [← hR]
        simp [comB, all32, isB, a, g2, Ex.d_eq]
      try simp [g2, Ex.d_eq]
      refine adraw [] (by kernel_rfl) (by kernel_rfl) (by kernel_rfl) (by kernel_rfl) ?_; simp [Ex.d_eq]
      refine adC_of (r01apply_af rb rm 8 (by omega)) (by simp) trivial (by simp) (by simp [Ex.d_eq]) ?_; simp [Ex.d_eq]
      refine adraw [] (by kernel_rfl) (by kernel_rfl) (by kernel_rfl) (by kernel_rfl) ?_; simp [Ex.d_eq]
      refine adC_of (r19const_af (apR 8 p2.n 1)) (by simp) trivial (by simp) (by simp [Ex.d_eq]) ?_; simp [Ex.d_eq]
      refine adC_of (r19two_af 8 p1 (eCon (apR 8 p2.n 1))) (by simp) trivial (by simp) (by simp [Ex.d_eq]) ?_; simp [Ex.d_eq]
      rw [← hR]
      simp [comB, all32, isB, a, g2, Ex.d_eq]
    · have hz : (0 : Int) = 0 := rfl
      try simp [a]
      refine aCall_of (cs) (by simp) (by simp [Ex.d_eq]) ?_; simp [Ex.d_eq]
      refine aCall_of (ca) (by simp) (by simp [Ex.d_eq]) ?_; simp [Ex.d_eq]
      by_cases g1 : x.op = 8
      case neg =>
        try simp [g1]
        rw [← hR]
        simp [comB, all32, isB, a, g1, Ex.d_eq]
      obtain ⟨p1, p2, rfl, ha, hb⟩ := form_two' hx g1 (by omega) (by omega)
      have rb : R32 p2.n := (nx.l p2 (by simp)).n
      try simp [Ex.d_eq]
      by_cases g2 : p2.op = 1
      case neg =>
        try simp [g2, Ex.d_eq]
        rw [← hR]
        simp [comB, all32, isB, a, g2, Ex.d_eq]
      try simp [g2, Ex.d_eq]
      refine adraw [] (by kernel_rfl) (by kernel_rfl) (by kernel_rfl) (by kernel_rfl) ?_; simp [Ex.d_eq]
      refine adC_of (r01apply_af rb rm 8 (by omega)) (by simp) trivial (by simp) (by simp [Ex.d_eq]) ?_; simp [Ex.d_eq]
      refine adraw [] (by kernel_rfl) (by kernel_rfl) (by kernel_rfl) (by kernel_rfl) ?_; simp [Ex.d_eq]
      refine adC_of (r19const_af (apR 8 p2.n 4294967295)) (by simp) trivial (by simp) (by simp [Ex.d_eq]) ?_; simp [Ex.d_eq]
      refine adC_of (r19two_af 8 p1 (eCon (apR 8 p2.n 4294967295))) (by simp) trivial (by simp) (by simp [Ex.d_eq]) ?_; simp [Ex.d_eq]
      rw [← hR]
      simp [comB, all32, isB, a, g2, Ex.d_eq]
    · have hz : (0 : Int) = 0 := rfl
      try simp [m0, m1, m2, a]
      refine aCall_of (cs) (by simp) (by simp [Ex.d_eq]) ?_; simp [Ex.d_eq]
      try simp [m0, m1, m2, a]
      refine aCall_of (ca) (by simp) (by simp [Ex.d_eq]) ?_; simp [Ex.d_eq]
      by_cases g1 : x.op = 8
      case neg =>
        try simp [g1]
        rw [← hR]
        simp [comB, all32, isB, m0, m1, m2, a, g1, Ex.d_eq]
      obtain ⟨p1, p2, rfl, ha, hb⟩ := form_two' hx g1 (by omega) (by omega)
      have rb : R32 p2.n := (nx.l p2 (by simp)).n
      try simp [Ex.d_eq]
      by_cases g2 : p2.op = 1
      case neg =>
        try simp [g2, Ex.d_eq]
        rw [← hR]
        simp [comB, all32, isB, m0, m1, m2, a, g2, Ex.d_eq]
      try simp [g2, Ex.d_eq]
      refine adraw [] (by kernel_rfl) (by kernel_rfl) (by kernel_rfl) (by kernel_rfl) ?_; simp [Ex.d_eq]
      refine adC_of (r01apply_af rb rm 8 (by omega)) (by simp) trivial (by simp) (by simp [Ex.d_eq]) ?_; simp [Ex.d_eq]
      refine adraw [] (by kernel_rfl) (by kernel_rfl) (by kernel_rfl) (by kernel_rfl) ?_; simp [Ex.d_eq]
      refine adC_of (r19const_af (apR 8 p2.n m)) (by simp) trivial (by simp) (by simp [Ex.d_eq]) ?_; simp [Ex.d_eq]
      refine adC_of (r19two_af 8 p1 (eCon (apR 8 p2.n m))) (by simp) trivial (by simp) (by simp [Ex.d_eq]) ?_; simp [Ex.d_eq]
      rw [← hR]
      simp [comB, all32, isB, m0, m1, m2, a, g2, Ex.d_eq]
set_option maxRecDepth 8000 in
theorem q22c_5 (x y : Ex) (hx : formB x = true) (hy : formB y = true) (nx : OkN x) (ny : OkN y) (sx : x.nodes ≤ 1000000000) (sy : y.nodes ≤ 1000000000) :
    AF Tryz.prog 237 [aI .i64 5, exA x, exA y] (oA x (sEarly 5 x y)) := by
  obtain ⟨R, hR⟩ : ∃ R, sEarly 5 x y = R := ⟨_, rfl⟩
  rw [hR]
  unfold sEarly at hR
  have ca := q22assoc_af 5
  rw [show comB 5 = true from rfl] at ca
  have cs := q22isshift_af 5
  rw [show shiftB 5 = false from rfl] at cs
  refine af_of Tryz.func237 rfl (by kernel_rfl) (by simp [Tryz.ntmps237]) fun _ => ?_; simp [Tryz.f237, Ex.d_eq]
  refine aCall_of (ca) (by simp) (by simp [Ex.d_eq]) ?_; simp [Ex.d_eq]
  by_cases a : x.op = 1
  · obtain ⟨q, rfl⟩ : ∃ m, x = eCon m := ⟨_, form_con hx a⟩
    have hz : (0 : Int) = 0 := rfl
    by_cases b : y.op = 1
    case neg =>
      simp [b]
      refine aCall_of (r19two_af 5 y (eCon q)) (by simp) (by simp [Ex.d_eq]) ?_; simp [Ex.d_eq]
      rw [← hR]
      simp [comB, all32, isB, b, Ex.d_eq]
    simp [b]
    refine aCall_of (cs) (by simp) (by simp [Ex.d_eq]) ?_; simp [Ex.d_eq]
    try simp [b]
    obtain ⟨m, rfl⟩ : ∃ m, y = eCon m := ⟨_, form_con hy b⟩
    have rm : R32 m := ny.n
    rcases (show m = 0 ∨ m = 1 ∨ m = 4294967295 ∨ (m ≠ 0 ∧ m ≠ 1 ∧ m ≠ 4294967295) by omega) with rfl | rfl | rfl | ⟨m0, m1, m2⟩
    · have hz : (0 : Int) = 0 := rfl
      try simp [hz]
      refine aCall_of (cs) (by simp) (by simp [Ex.d_eq]) ?_; simp [Ex.d_eq]
      have hsq := q22safe_af (eCon q) sx
      rw [show safeB (eCon q) = true from rfl] at hsq
      refine aCall_of (hsq) (by simp) (by simp [Ex.d_eq]) ?_; simp [Ex.d_eq]
      rw [← hR]
      simp [comB, all32, isB, show safeB (eCon q) = true from rfl, Ex.d_eq]
    · have hz : (0 : Int) = 0 := rfl
      try simp [hz]
      rw [← hR]
      simp [comB, all32, isB, hz, Ex.d_eq]
    · have hz : (0 : Int) = 0 := rfl
      try simp [hz]
      refine aCall_of (cs) (by simp) (by simp [Ex.d_eq]) ?_; simp [Ex.d_eq]
      refine aCall_of (ca) (by simp) (by simp [Ex.d_eq]) ?_; simp [Ex.d_eq]
      rw [← hR]
      simp [comB, all32, isB, hz, Ex.d_eq]
    · have hz : (0 : Int) = 0 := rfl
      try simp [m0, m1, m2]
      refine aCall_of (cs) (by simp) (by simp [Ex.d_eq]) ?_; simp [Ex.d_eq]
      try simp [m0, m1, m2]
      refine aCall_of (ca) (by simp) (by simp [Ex.d_eq]) ?_; simp [Ex.d_eq]
      rw [← hR]
      simp [comB, all32, isB, m0, m1, m2, Ex.d_eq]
  · simp [a]
    refine aCall_of (cs) (by simp) (by simp [Ex.d_eq]) ?_; simp [Ex.d_eq]
    by_cases b : y.op = 1
    case neg =>
      simp [b]
      rw [← hR]
      simp [comB, all32, isB, a, b, Ex.d_eq]
    simp [b]
    obtain ⟨m, rfl⟩ : ∃ m, y = eCon m := ⟨_, form_con hy b⟩
    have rm : R32 m := ny.n
    rcases (show m = 0 ∨ m = 1 ∨ m = 4294967295 ∨ (m ≠ 0 ∧ m ≠ 1 ∧ m ≠ 4294967295) by omega) with rfl | rfl | rfl | ⟨m0, m1, m2⟩
    · have hz : (0 : Int) = 0 := rfl
      try simp [a]
      refine aCall_of (cs) (by simp) (by simp [Ex.d_eq]) ?_; simp [Ex.d_eq]
      refine aCall_of (q22safe_af x sx) (by simp) (by simp [Ex.d_eq]) ?_; simp [Ex.d_eq]
      cases hs : safeB x
      case true =>
        try simp
        rw [← hR]
        simp [comB, all32, isB, a, hs, Ex.d_eq]
      try simp
      refine aCall_of (ca) (by simp) (by simp [Ex.d_eq]) ?_; simp [Ex.d_eq]
      by_cases g1 : x.op = 5
      case neg =>
        try simp [g1]
        rw [← hR]
        simp [comB, all32, isB, a, hs, g1, Ex.d_eq]
      obtain ⟨p1, p2, rfl, ha, hb⟩ := form_two' hx g1 (by omega) (by omega)
      have rb : R32 p2.n := (nx.l p2 (by simp)).n
      try simp [Ex.d_eq]
      by_cases g2 : p2.op = 1
      case neg =>
        try simp [g2, Ex.d_eq]
        rw [← hR]
        simp [comB, all32, isB, a, hs, g2, Ex.d_eq]
      try simp [g2, Ex.d_eq]
      refine adraw [] (by kernel_rfl) (by kernel_rfl) (by kernel_rfl) (by kernel_rfl) ?_; simp [Ex.d_eq]
      refine adC_of (r01apply_af rb rm 5 (by omega)) (by simp) trivial (by simp) (by simp [Ex.d_eq]) ?_; simp [Ex.d_eq]
      refine adraw [] (by kernel_rfl) (by kernel_rfl) (by kernel_rfl) (by kernel_rfl) ?_; simp [Ex.d_eq]
      refine adC_of (r19const_af (apR 5 p2.n 0)) (by simp) trivial (by simp) (by simp [Ex.d_eq]) ?_; simp [Ex.d_eq]
      refine adC_of (r19two_af 5 p1 (eCon (apR 5 p2.n 0))) (by simp) trivial (by simp) (by simp [Ex.d_eq]) ?_; simp [Ex.d_eq]
      rw [← hR]
      simp [comB, all32, isB, a, hs, g2, Ex.d_eq]
    · have hz : (0 : Int) = 0 := rfl
      try simp [a]
      rw [← hR]
      simp [comB, all32, isB, a, Ex.d_eq]
    · have hz : (0 : Int) = 0 := rfl
      try simp [a]
      refine aCall_of (cs) (by simp) (by simp [Ex.d_eq]) ?_; simp [Ex.d_eq]
      refine aCall_of (ca) (by simp) (by simp [Ex.d_eq]) ?_; simp [Ex.d_eq]
      by_cases g1 : x.op = 5
      case neg =>
        try simp [g1]
        rw [← hR]
        simp [comB, all32, isB, a, g1, Ex.d_eq]
      obtain ⟨p1, p2, rfl, ha, hb⟩ := form_two' hx g1 (by omega) (by omega)
      have rb : R32 p2.n := (nx.l p2 (by simp)).n
      try simp [Ex.d_eq]
      by_cases g2 : p2.op = 1
      case neg =>
        try simp [g2, Ex.d_eq]
        rw [← hR]
        simp [comB, all32, isB, a, g2, Ex.d_eq]
      try simp [g2, Ex.d_eq]
      refine adraw [] (by kernel_rfl) (by kernel_rfl) (by kernel_rfl) (by kernel_rfl) ?_; simp [Ex.d_eq]
      refine adC_of (r01apply_af rb rm 5 (by omega)) (by simp) trivial (by simp) (by simp [Ex.d_eq]) ?_; simp [Ex.d_eq]
      refine adraw [] (by kernel_rfl) (by kernel_rfl) (by kernel_rfl) (by kernel_rfl) ?_; simp [Ex.d_eq]
      refine adC_of (r19const_af (apR 5 p2.n 4294967295)) (by simp) trivial (by simp) (by simp [Ex.d_eq]) ?_; simp [Ex.d_eq]
      refine adC_of (r19two_af 5 p1 (eCon (apR 5 p2.n 4294967295))) (by simp) trivial (by simp) (by simp [Ex.d_eq]) ?_; simp [Ex.d_eq]
      rw [← hR]
      simp [comB, all32, isB, a, g2, Ex.d_eq]
    · have hz : (0 : Int) = 0 := rfl
      try simp [m0, m1, m2, a]
      refine aCall_of (cs) (by simp) (by simp [Ex.d_eq]) ?_; simp [Ex.d_eq]
      try simp [m0, m1, m2, a]
      refine aCall_of (ca) (by simp) (by simp [Ex.d_eq]) ?_; simp [Ex.d_eq]
      by_cases g1 : x.op = 5
      case neg =>
        try simp [g1]
        rw [← hR]
        simp [comB, all32, isB, m0, m1, m2, a, g1, Ex.d_eq]
      obtain ⟨p1, p2, rfl, ha, hb⟩ := form_two' hx g1 (by omega) (by omega)
      have rb : R32 p2.n := (nx.l p2 (by simp)).n
      try simp [Ex.d_eq]
      by_cases g2 : p2.op = 1
      case neg =>
        try simp [g2, Ex.d_eq]
        rw [← hR]
        simp [comB, all32, isB, m0, m1, m2, a, g2, Ex.d_eq]
      try simp [g2, Ex.d_eq]
      refine adraw [] (by kernel_rfl) (by kernel_rfl) (by kernel_rfl) (by kernel_rfl) ?_; simp [Ex.d_eq]
      refine adC_of (r01apply_af rb rm 5 (by omega)) (by simp) trivial (by simp) (by simp [Ex.d_eq]) ?_; simp [Ex.d_eq]
      refine adraw [] (by kernel_rfl) (by kernel_rfl) (by kernel_rfl) (by kernel_rfl) ?_; simp [Ex.d_eq]
      refine adC_of (r19const_af (apR 5 p2.n m)) (by simp) trivial (by simp) (by simp [Ex.d_eq]) ?_; simp [Ex.d_eq]
      refine adC_of (r19two_af 5 p1 (eCon (apR 5 p2.n m))) (by simp) trivial (by simp) (by simp [Ex.d_eq]) ?_; simp [Ex.d_eq]
      rw [← hR]
      simp [comB, all32, isB, m0, m1, m2, a, g2, Ex.d_eq]
set_option maxRecDepth 8000 in
theorem q22c_6 (x y : Ex) (hx : formB x = true) (hy : formB y = true) (nx : OkN x) (ny : OkN y) (sx : x.nodes ≤ 1000000000) (sy : y.nodes ≤ 1000000000) :
    AF Tryz.prog 237 [aI .i64 6, exA x, exA y] (oA x (sEarly 6 x y)) := by
  obtain ⟨R, hR⟩ : ∃ R, sEarly 6 x y = R := ⟨_, rfl⟩
  rw [hR]
  unfold sEarly at hR
  have ca := q22assoc_af 6
  rw [show comB 6 = true from rfl] at ca
  have cs := q22isshift_af 6
  rw [show shiftB 6 = false from rfl] at cs
  refine af_of Tryz.func237 rfl (by kernel_rfl) (by simp [Tryz.ntmps237]) fun _ => ?_; simp [Tryz.f237, Ex.d_eq]
  refine aCall_of (ca) (by simp) (by simp [Ex.d_eq]) ?_; simp [Ex.d_eq]
  by_cases a : x.op = 1
  · obtain ⟨q, rfl⟩ : ∃ m, x = eCon m := ⟨_, form_con hx a⟩
    have hz : (0 : Int) = 0 := rfl
    by_cases b : y.op = 1
    case neg =>
      simp [b]
      refine aCall_of (r19two_af 6 y (eCon q)) (by simp) (by simp [Ex.d_eq]) ?_; simp [Ex.d_eq]
      rw [← hR]
      simp [comB, all32, isB, b, Ex.d_eq]
    simp [b]
    refine aCall_of (cs) (by simp) (by simp [Ex.d_eq]) ?_; simp [Ex.d_eq]
    try simp [b]
    obtain ⟨m, rfl⟩ : ∃ m, y = eCon m := ⟨_, form_con hy b⟩
    have rm : R32 m := ny.n
    rcases (show m = 0 ∨ m = 1 ∨ m = 4294967295 ∨ (m ≠ 0 ∧ m ≠ 1 ∧ m ≠ 4294967295) by omega) with rfl | rfl | rfl | ⟨m0, m1, m2⟩
    · have hz : (0 : Int) = 0 := rfl
      try simp [hz]
      refine aCall_of (cs) (by simp) (by simp [Ex.d_eq]) ?_; simp [Ex.d_eq]
      have hsq := q22safe_af (eCon q) sx
      rw [show safeB (eCon q) = true from rfl] at hsq
      refine aCall_of (hsq) (by simp) (by simp [Ex.d_eq]) ?_; simp [Ex.d_eq]
      rw [← hR]
      simp [comB, all32, isB, show safeB (eCon q) = true from rfl, Ex.d_eq]
    · have hz : (0 : Int) = 0 := rfl
      try simp [hz]
      refine aCall_of (cs) (by simp) (by simp [Ex.d_eq]) ?_; simp [Ex.d_eq]
      refine aCall_of (ca) (by simp) (by simp [Ex.d_eq]) ?_; simp [Ex.d_eq]
      rw [← hR]
      simp [comB, all32, isB, hz, Ex.d_eq]
    · have hz : (0 : Int) = 0 := rfl
      try simp [hz]
      rw [← hR]
      simp [comB, all32, isB, hz, Ex.d_eq]
    · have hz : (0 : Int) = 0 := rfl
      try simp [m0, m1, m2]
      refine aCall_of (cs) (by simp) (by simp [Ex.d_eq]) ?_; simp [Ex.d_eq]
      try simp [m0, m1, m2]
      refine aCall_of (ca) (by simp) (by simp [Ex.d_eq]) ?_; simp [Ex.d_eq]
      rw [← hR]
      simp [comB, all32, isB, m0, m1, m2, Ex.d_eq]
  · simp [a]
    refine aCall_of (cs) (by simp) (by simp [Ex.d_eq]) ?_; simp [Ex.d_eq]
    by_cases b : y.op = 1
    case neg =>
      simp [b]
      rw [← hR]
      simp [comB, all32, isB, a, b, Ex.d_eq]
    simp [b]
    obtain ⟨m, rfl⟩ : ∃ m, y = eCon m := ⟨_, form_con hy b⟩
    have rm : R32 m := ny.n
    rcases (show m = 0 ∨ m = 1 ∨ m = 4294967295 ∨ (m ≠ 0 ∧ m ≠ 1 ∧ m ≠ 4294967295) by omega) with rfl | rfl | rfl | ⟨m0, m1, m2⟩
    · have hz : (0 : Int) = 0 := rfl
      try simp [a]
      refine aCall_of (cs) (by simp) (by simp [Ex.d_eq]) ?_; simp [Ex.d_eq]
      refine aCall_of (q22safe_af x sx) (by simp) (by simp [Ex.d_eq]) ?_; simp [Ex.d_eq]
      cases hs : safeB x
      case true =>
        try simp
        rw [← hR]
        simp [comB, all32, isB, a, hs, Ex.d_eq]
      try simp
      refine aCall_of (ca) (by simp) (by simp [Ex.d_eq]) ?_; simp [Ex.d_eq]
      by_cases g1 : x.op = 6
      case neg =>
        try simp [g1]
        rw [← hR]
        simp [comB, all32, isB, a, hs, g1, Ex.d_eq]
      obtain ⟨p1, p2, rfl, ha, hb⟩ := form_two' hx g1 (by omega) (by omega)
      have rb : R32 p2.n := (nx.l p2 (by simp)).n
      try simp [Ex.d_eq]
      by_cases g2 : p2.op = 1
      case neg =>
        try simp [g2, Ex.d_eq]
        rw [← hR]
        simp [comB, all32, isB, a, hs, g2, Ex.d_eq]
      try simp [g2, Ex.d_eq]
      refine adraw [] (by kernel_rfl) (by kernel_rfl) (by kernel_rfl) (by kernel_rfl) ?_; simp [Ex.d_eq]
      refine adC_of (r01apply_af rb rm 6 (by omega)) (by simp) trivial (by simp) (by simp [Ex.d_eq]) ?_; simp [Ex.d_eq]
      refine adraw [] (by kernel_rfl) (by kernel_rfl) (by kernel_rfl) (by kernel_rfl) ?_; simp [Ex.d_eq]
      refine adC_of (r19const_af (apR 6 p2.n 0)) (by simp) trivial (by simp) (by simp [Ex.d_eq]) ?_; simp [Ex.d_eq]
      refine adC_of (r19two_af 6 p1 (eCon (apR 6 p2.n 0))) (by simp) trivial (by simp) (by simp [Ex.d_eq]) ?_; simp [Ex.d_eq]
      rw [← hR]
      simp [comB, all32, isB, a, hs, g2, Ex.d_eq]
    · have hz : (0 : Int) = 0 := rfl
      try simp [a]
      refine aCall_of (cs) (by simp) (by simp [Ex.d_eq]) ?_; simp [Ex.d_eq]
      refine aCall_of (ca) (by simp) (by simp [Ex.d_eq]) ?_; simp [Ex.d_eq]
      by_cases g1 : x.op = 6
      case neg =>
        try simp [g1]
        rw [← hR]
        simp [comB, all32, isB, a, g1, Ex.d_eq]
      obtain ⟨p1, p2, rfl, ha, hb⟩ := form_two' hx g1 (by omega) (by omega)
      have rb : R32 p2.n := (nx.l p2 (by simp)).n
      try simp [Ex.d_eq]
      by_cases g2 : p2.op = 1
      case neg =>
        try simp [g2, Ex.d_eq]
        rw [← hR]
        simp [comB, all32, isB, a, g2, Ex.d_eq]
      try simp [g2, Ex.d_eq]
      refine adraw [] (by kernel_rfl) (by kernel_rfl) (by kernel_rfl) (by kernel_rfl) ?_; simp [Ex.d_eq]
      refine adC_of (r01apply_af rb rm 6 (by omega)) (by simp) trivial (by simp) (by simp [Ex.d_eq]) ?_; simp [Ex.d_eq]
      refine adraw [] (by kernel_rfl) (by kernel_rfl) (by kernel_rfl) (by kernel_rfl) ?_; simp [Ex.d_eq]
      refine adC_of (r19const_af (apR 6 p2.n 1)) (by simp) trivial (by simp) (by simp [Ex.d_eq]) ?_; simp [Ex.d_eq]
      refine adC_of (r19two_af 6 p1 (eCon (apR 6 p2.n 1))) (by simp) trivial (by simp) (by simp [Ex.d_eq]) ?_; simp [Ex.d_eq]
      rw [← hR]
      simp [comB, all32, isB, a, g2, Ex.d_eq]
    · have hz : (0 : Int) = 0 := rfl
      try simp [a]
      rw [← hR]
      simp [comB, all32, isB, a, Ex.d_eq]
    · have hz : (0 : Int) = 0 := rfl
      try simp [m0, m1, m2, a]
      refine aCall_of (cs) (by simp) (by simp [Ex.d_eq]) ?_; simp [Ex.d_eq]
      try simp [m0, m1, m2, a]
      refine aCall_of (ca) (by simp) (by simp [Ex.d_eq]) ?_; simp [Ex.d_eq]
      by_cases g1 : x.op = 6
      case neg =>
        try simp [g1]
        rw [← hR]
        simp [comB, all32, isB, m0, m1, m2, a, g1, Ex.d_eq]
      obtain ⟨p1, p2, rfl, ha, hb⟩ := form_two' hx g1 (by omega) (by omega)
      have rb : R32 p2.n := (nx.l p2 (by simp)).n
      try simp [Ex.d_eq]
      by_cases g2 : p2.op = 1
      case neg =>
        try simp [g2, Ex.d_eq]
        rw [← hR]
        simp [comB, all32, isB, m0, m1, m2, a, g2, Ex.d_eq]
      try simp [g2, Ex.d_eq]
      refine adraw [] (by kernel_rfl) (by kernel_rfl) (by kernel_rfl) (by kernel_rfl) ?_; simp [Ex.d_eq]
      refine adC_of (r01apply_af rb rm 6 (by omega)) (by simp) trivial (by simp) (by simp [Ex.d_eq]) ?_; simp [Ex.d_eq]
      refine adraw [] (by kernel_rfl) (by kernel_rfl) (by kernel_rfl) (by kernel_rfl) ?_; simp [Ex.d_eq]
      refine adC_of (r19const_af (apR 6 p2.n m)) (by simp) trivial (by simp) (by simp [Ex.d_eq]) ?_; simp [Ex.d_eq]
      refine adC_of (r19two_af 6 p1 (eCon (apR 6 p2.n m))) (by simp) trivial (by simp) (by simp [Ex.d_eq]) ?_; simp [Ex.d_eq]
      rw [← hR]
      simp [comB, all32, isB, m0, m1, m2, a, g2, Ex.d_eq]
end Go.Proofs.YtlidimmfpfockaaGreatDoor

/- Contracts: the reference's rules 2 to 6 of layer 22. -/
namespace Go.Proofs.YtlidimmfpfockaaGreatDoor
open Go.RowKit
@[simp] theorem safe_conV (m : Int) : safeB (eCon m) = true := rfl
set_option maxRecDepth 8000 in
theorem q22c_9 (x y : Ex) (hx : formB x = true) (hy : formB y = true) (nx : OkN x) (ny : OkN y) (sx : x.nodes ≤ 1000000000) (sy : y.nodes ≤ 1000000000) :
    AF Tryz.prog 237 [aI .i64 9, exA x, exA y] (oA x (sEarly 9 x y)) := by
  obtain ⟨R, hR⟩ : ∃ R, sEarly 9 x y = R := ⟨_, rfl⟩
  rw [hR]
  unfold sEarly at hR
  have ca := q22assoc_af 9
  rw [show comB 9 = false from rfl] at ca
  have cs := q22isshift_af 9
  rw [show shiftB 9 = true from rfl] at cs
  refine af_of Tryz.func237 rfl (by kernel_rfl) (by simp [Tryz.ntmps237]) fun _ => ?_; simp [Tryz.f237, Ex.d_eq]
  refine aCall_of (ca) (by simp) (by simp [Ex.d_eq]) ?_; simp [Ex.d_eq]
  refine aCall_of (cs) (by simp) (by simp [Ex.d_eq]) ?_; simp [Ex.d_eq]
  refine aCall_of (q22isnum_af x 0) (by simp) (by simp [Ex.d_eq]) ?_; simp [Ex.d_eq]
  cases h0 : isB x 0
  · simp
    by_cases b : y.op = 1
    case neg =>
      simp [b]
      rw [← hR]
      simp [comB, all32, h0, b, Ex.d_eq]
    obtain ⟨m, rfl⟩ : ∃ m, y = eCon m := ⟨_, form_con hy b⟩
    have rm : R32 m := ny.n
    have tm : m.tmod 32 = m % 32 := Int.tmod_eq_emod_of_nonneg rm.1
    rcases (show m = 0 ∨ m = 1 ∨ m = 4294967295 ∨ (m ≠ 0 ∧ m ≠ 1 ∧ m ≠ 4294967295) by omega) with rfl | rfl | rfl | ⟨m0, m1, m2⟩
    · simp
      refine aCall_of (cs) (by simp) (by simp [Ex.d_eq]) ?_; simp [Ex.d_eq]
      rw [← hR]
      simp [comB, all32, h0, Ex.d_eq]
    · simp
      refine aCall_of (cs) (by simp) (by simp [Ex.d_eq]) ?_; simp [Ex.d_eq]
      refine aCall_of (ca) (by simp) (by simp [Ex.d_eq]) ?_; simp [Ex.d_eq]
      rw [← hR]
      simp [comB, all32, h0, Ex.d_eq]
    · simp
      refine aCall_of (cs) (by simp) (by simp [Ex.d_eq]) ?_; simp [Ex.d_eq]
      refine aCall_of (ca) (by simp) (by simp [Ex.d_eq]) ?_; simp [Ex.d_eq]
      rw [← hR]
      simp [comB, all32, h0, Ex.d_eq]
    · simp [m0, m1, m2]
      refine aCall_of (cs) (by simp) (by simp [Ex.d_eq]) ?_; simp [Ex.d_eq]
      by_cases mm : m % 32 = 0
      · simp [tm, mm]
        rw [← hR]
        simp [comB, all32, h0, mm, Ex.d_eq]
      · simp [tm, mm, m0, m2]
        refine aCall_of (ca) (by simp) (by simp [Ex.d_eq]) ?_; simp [Ex.d_eq]
        rw [← hR]
        simp [comB, all32, h0, mm, Ex.d_eq]
  · simp
    refine aCall_of (q22safe_af y sy) (by simp) (by simp [Ex.d_eq]) ?_; simp [Ex.d_eq]
    cases s1 : safeB y
    · simp
      by_cases b : y.op = 1
      case neg =>
        simp [b]
        rw [← hR]
        simp [comB, all32, h0, s1, b, Ex.d_eq]
      obtain ⟨m, rfl⟩ : ∃ m, y = eCon m := ⟨_, form_con hy b⟩
      exact absurd s1 (by simp)
    · simp
      obtain ⟨k1, k2⟩ := isB_iff.1 h0
      have hx0 : x = eCon 0 := by rw [form_con hx k1, k2]
      subst hx0
      rw [← hR]
      by_cases b : y.op = 1 <;> by_cases c : y.n % 32 = 0 <;> simp [comB, h0, s1, b, c]
set_option maxRecDepth 8000 in
theorem q22c_10 (x y : Ex) (hx : formB x = true) (hy : formB y = true) (nx : OkN x) (ny : OkN y) (sx : x.nodes ≤ 1000000000) (sy : y.nodes ≤ 1000000000) :
    AF Tryz.prog 237 [aI .i64 10, exA x, exA y] (oA x (sEarly 10 x y)) := by
  obtain ⟨R, hR⟩ : ∃ R, sEarly 10 x y = R := ⟨_, rfl⟩
  rw [hR]
  unfold sEarly at hR
  have ca := q22assoc_af 10
  rw [show comB 10 = false from rfl] at ca
  have cs := q22isshift_af 10
  rw [show shiftB 10 = true from rfl] at cs
  refine af_of Tryz.func237 rfl (by kernel_rfl) (by simp [Tryz.ntmps237]) fun _ => ?_; simp [Tryz.f237, Ex.d_eq]
  refine aCall_of (ca) (by simp) (by simp [Ex.d_eq]) ?_; simp [Ex.d_eq]
  refine aCall_of (cs) (by simp) (by simp [Ex.d_eq]) ?_; simp [Ex.d_eq]
  refine aCall_of (q22isnum_af x 0) (by simp) (by simp [Ex.d_eq]) ?_; simp [Ex.d_eq]
  cases h0 : isB x 0
  · simp
    by_cases b : y.op = 1
    case neg =>
      simp [b]
      rw [← hR]
      simp [comB, all32, h0, b, Ex.d_eq]
    obtain ⟨m, rfl⟩ : ∃ m, y = eCon m := ⟨_, form_con hy b⟩
    have rm : R32 m := ny.n
    have tm : m.tmod 32 = m % 32 := Int.tmod_eq_emod_of_nonneg rm.1
    rcases (show m = 0 ∨ m = 1 ∨ m = 4294967295 ∨ (m ≠ 0 ∧ m ≠ 1 ∧ m ≠ 4294967295) by omega) with rfl | rfl | rfl | ⟨m0, m1, m2⟩
    · simp
      refine aCall_of (cs) (by simp) (by simp [Ex.d_eq]) ?_; simp [Ex.d_eq]
      rw [← hR]
      simp [comB, all32, h0, Ex.d_eq]
    · simp
      refine aCall_of (cs) (by simp) (by simp [Ex.d_eq]) ?_; simp [Ex.d_eq]
      refine aCall_of (ca) (by simp) (by simp [Ex.d_eq]) ?_; simp [Ex.d_eq]
      rw [← hR]
      simp [comB, all32, h0, Ex.d_eq]
    · simp
      refine aCall_of (cs) (by simp) (by simp [Ex.d_eq]) ?_; simp [Ex.d_eq]
      refine aCall_of (ca) (by simp) (by simp [Ex.d_eq]) ?_; simp [Ex.d_eq]
      rw [← hR]
      simp [comB, all32, h0, Ex.d_eq]
    · simp [m0, m1, m2]
      refine aCall_of (cs) (by simp) (by simp [Ex.d_eq]) ?_; simp [Ex.d_eq]
      by_cases mm : m % 32 = 0
      · simp [tm, mm]
        rw [← hR]
        simp [comB, all32, h0, mm, Ex.d_eq]
      · simp [tm, mm, m0, m2]
        refine aCall_of (ca) (by simp) (by simp [Ex.d_eq]) ?_; simp [Ex.d_eq]
        rw [← hR]
        simp [comB, all32, h0, mm, Ex.d_eq]
  · simp
    refine aCall_of (q22safe_af y sy) (by simp) (by simp [Ex.d_eq]) ?_; simp [Ex.d_eq]
    cases s1 : safeB y
    · simp
      by_cases b : y.op = 1
      case neg =>
        simp [b]
        rw [← hR]
        simp [comB, all32, h0, s1, b, Ex.d_eq]
      obtain ⟨m, rfl⟩ : ∃ m, y = eCon m := ⟨_, form_con hy b⟩
      exact absurd s1 (by simp)
    · simp
      obtain ⟨k1, k2⟩ := isB_iff.1 h0
      have hx0 : x = eCon 0 := by rw [form_con hx k1, k2]
      subst hx0
      rw [← hR]
      by_cases b : y.op = 1 <;> by_cases c : y.n % 32 = 0 <;> simp [comB, h0, s1, b, c]
set_option maxRecDepth 8000 in
theorem q22c_11 (x y : Ex) (hx : formB x = true) (hy : formB y = true) (nx : OkN x) (ny : OkN y) (sx : x.nodes ≤ 1000000000) (sy : y.nodes ≤ 1000000000) :
    AF Tryz.prog 237 [aI .i64 11, exA x, exA y] (oA x (sEarly 11 x y)) := by
  obtain ⟨R, hR⟩ : ∃ R, sEarly 11 x y = R := ⟨_, rfl⟩
  rw [hR]
  unfold sEarly at hR
  have ca := q22assoc_af 11
  rw [show comB 11 = false from rfl] at ca
  have cs := q22isshift_af 11
  rw [show shiftB 11 = true from rfl] at cs
  refine af_of Tryz.func237 rfl (by kernel_rfl) (by simp [Tryz.ntmps237]) fun _ => ?_; simp [Tryz.f237, Ex.d_eq]
  refine aCall_of (ca) (by simp) (by simp [Ex.d_eq]) ?_; simp [Ex.d_eq]
  refine aCall_of (cs) (by simp) (by simp [Ex.d_eq]) ?_; simp [Ex.d_eq]
  refine aCall_of (q22isnum_af x 0) (by simp) (by simp [Ex.d_eq]) ?_; simp [Ex.d_eq]
  cases h0 : isB x 0
  · simp
    by_cases b : y.op = 1
    case neg =>
      simp [b]
      rw [← hR]
      simp [comB, all32, h0, b, Ex.d_eq]
    obtain ⟨m, rfl⟩ : ∃ m, y = eCon m := ⟨_, form_con hy b⟩
    have rm : R32 m := ny.n
    have tm : m.tmod 32 = m % 32 := Int.tmod_eq_emod_of_nonneg rm.1
    rcases (show m = 0 ∨ m = 1 ∨ m = 4294967295 ∨ (m ≠ 0 ∧ m ≠ 1 ∧ m ≠ 4294967295) by omega) with rfl | rfl | rfl | ⟨m0, m1, m2⟩
    · simp
      refine aCall_of (cs) (by simp) (by simp [Ex.d_eq]) ?_; simp [Ex.d_eq]
      rw [← hR]
      simp [comB, all32, h0, Ex.d_eq]
    · simp
      refine aCall_of (cs) (by simp) (by simp [Ex.d_eq]) ?_; simp [Ex.d_eq]
      refine aCall_of (ca) (by simp) (by simp [Ex.d_eq]) ?_; simp [Ex.d_eq]
      rw [← hR]
      simp [comB, all32, h0, Ex.d_eq]
    · simp
      refine aCall_of (cs) (by simp) (by simp [Ex.d_eq]) ?_; simp [Ex.d_eq]
      refine aCall_of (ca) (by simp) (by simp [Ex.d_eq]) ?_; simp [Ex.d_eq]
      rw [← hR]
      simp [comB, all32, h0, Ex.d_eq]
    · simp [m0, m1, m2]
      refine aCall_of (cs) (by simp) (by simp [Ex.d_eq]) ?_; simp [Ex.d_eq]
      by_cases mm : m % 32 = 0
      · simp [tm, mm]
        rw [← hR]
        simp [comB, all32, h0, mm, Ex.d_eq]
      · simp [tm, mm, m0, m2]
        refine aCall_of (ca) (by simp) (by simp [Ex.d_eq]) ?_; simp [Ex.d_eq]
        rw [← hR]
        simp [comB, all32, h0, mm, Ex.d_eq]
  · simp
    refine aCall_of (q22safe_af y sy) (by simp) (by simp [Ex.d_eq]) ?_; simp [Ex.d_eq]
    cases s1 : safeB y
    · simp
      by_cases b : y.op = 1
      case neg =>
        simp [b]
        rw [← hR]
        simp [comB, all32, h0, s1, b, Ex.d_eq]
      obtain ⟨m, rfl⟩ : ∃ m, y = eCon m := ⟨_, form_con hy b⟩
      exact absurd s1 (by simp)
    · simp
      obtain ⟨k1, k2⟩ := isB_iff.1 h0
      have hx0 : x = eCon 0 := by rw [form_con hx k1, k2]
      subst hx0
      rw [← hR]
      by_cases b : y.op = 1 <;> by_cases c : y.n % 32 = 0 <;> simp [comB, h0, s1, b, c]
set_option maxRecDepth 8000 in
theorem q22c_12 (x y : Ex) (hx : formB x = true) (hy : formB y = true) (nx : OkN x) (ny : OkN y) (sx : x.nodes ≤ 1000000000) (sy : y.nodes ≤ 1000000000) :
    AF Tryz.prog 237 [aI .i64 12, exA x, exA y] (oA x (sEarly 12 x y)) := by
  obtain ⟨R, hR⟩ : ∃ R, sEarly 12 x y = R := ⟨_, rfl⟩
  rw [hR]
  unfold sEarly at hR
  have ca := q22assoc_af 12
  rw [show comB 12 = false from rfl] at ca
  have cs := q22isshift_af 12
  rw [show shiftB 12 = false from rfl] at cs
  refine af_of Tryz.func237 rfl (by kernel_rfl) (by simp [Tryz.ntmps237]) fun _ => ?_; simp [Tryz.f237, Ex.d_eq]
  refine aCall_of (ca) (by simp) (by simp [Ex.d_eq]) ?_; simp [Ex.d_eq]
  by_cases a : x.op = 1
  · obtain ⟨q, rfl⟩ : ∃ m, x = eCon m := ⟨_, form_con hx a⟩
    have hz : (0 : Int) = 0 := rfl
    by_cases b : y.op = 1
    case neg =>
      simp [b]
      refine aCall_of (r19two_af 12 y (eCon q)) (by simp) (by simp [Ex.d_eq]) ?_; simp [Ex.d_eq]
      rw [← hR]
      simp [comB, all32, isB, b, Ex.d_eq]
    simp [b]
    refine aCall_of (cs) (by simp) (by simp [Ex.d_eq]) ?_; simp [Ex.d_eq]
    try simp [b]
    obtain ⟨m, rfl⟩ : ∃ m, y = eCon m := ⟨_, form_con hy b⟩
    have rm : R32 m := ny.n
    rcases (show m = 0 ∨ m = 1 ∨ m = 4294967295 ∨ (m ≠ 0 ∧ m ≠ 1 ∧ m ≠ 4294967295) by omega) with rfl | rfl | rfl | ⟨m0, m1, m2⟩
    · try simp
      refine aCall_of (cs) (by simp) (by simp [Ex.d_eq]) ?_; simp [Ex.d_eq]
      refine aCall_of (ca) (by simp) (by simp [Ex.d_eq]) ?_; simp [Ex.d_eq]
      rw [← hR]
      simp [comB, all32, isB, hz, Ex.d_eq]
    · try simp
      refine aCall_of (cs) (by simp) (by simp [Ex.d_eq]) ?_; simp [Ex.d_eq]
      refine aCall_of (ca) (by simp) (by simp [Ex.d_eq]) ?_; simp [Ex.d_eq]
      rw [← hR]
      simp [comB, all32, isB, hz, Ex.d_eq]
    · try simp
      refine aCall_of (cs) (by simp) (by simp [Ex.d_eq]) ?_; simp [Ex.d_eq]
      refine aCall_of (ca) (by simp) (by simp [Ex.d_eq]) ?_; simp [Ex.d_eq]
      rw [← hR]
      simp [comB, all32, isB, hz, Ex.d_eq]
    · try simp [m0, m1, m2]
      refine aCall_of (cs) (by simp) (by simp [Ex.d_eq]) ?_; simp [Ex.d_eq]
      try simp [m0, m1, m2]
      refine aCall_of (ca) (by simp) (by simp [Ex.d_eq]) ?_; simp [Ex.d_eq]
      rw [← hR]
      simp [comB, all32, isB, hz, Ex.d_eq]
  · simp [a]
    refine aCall_of (cs) (by simp) (by simp [Ex.d_eq]) ?_; simp [Ex.d_eq]
    by_cases b : y.op = 1
    case neg =>
      simp [b]
      rw [← hR]
      simp [comB, all32, isB, a, b, Ex.d_eq]
    simp [b]
    obtain ⟨m, rfl⟩ : ∃ m, y = eCon m := ⟨_, form_con hy b⟩
    have rm : R32 m := ny.n
    rcases (show m = 0 ∨ m = 1 ∨ m = 4294967295 ∨ (m ≠ 0 ∧ m ≠ 1 ∧ m ≠ 4294967295) by omega) with rfl | rfl | rfl | ⟨m0, m1, m2⟩
    · try simp
      refine aCall_of (cs) (by simp) (by simp [Ex.d_eq]) ?_; simp [Ex.d_eq]
      refine aCall_of (ca) (by simp) (by simp [Ex.d_eq]) ?_; simp [Ex.d_eq]
      rw [← hR]
      simp [comB, all32, isB, a, Ex.d_eq]
    · try simp
      refine aCall_of (cs) (by simp) (by simp [Ex.d_eq]) ?_; simp [Ex.d_eq]
      refine aCall_of (ca) (by simp) (by simp [Ex.d_eq]) ?_; simp [Ex.d_eq]
      rw [← hR]
      simp [comB, all32, isB, a, Ex.d_eq]
    · try simp
      refine aCall_of (cs) (by simp) (by simp [Ex.d_eq]) ?_; simp [Ex.d_eq]
      refine aCall_of (ca) (by simp) (by simp [Ex.d_eq]) ?_; simp [Ex.d_eq]
      rw [← hR]
      simp [comB, all32, isB, a, Ex.d_eq]
    · try simp [m0, m1, m2]
      refine aCall_of (cs) (by simp) (by simp [Ex.d_eq]) ?_; simp [Ex.d_eq]
      try simp [m0, m1, m2]
      refine aCall_of (ca) (by simp) (by simp [Ex.d_eq]) ?_; simp [Ex.d_eq]
      rw [← hR]
      simp [comB, all32, isB, a, Ex.d_eq]
set_option maxRecDepth 8000 in
theorem q22c_13 (x y : Ex) (hx : formB x = true) (hy : formB y = true) (nx : OkN x) (ny : OkN y) (sx : x.nodes ≤ 1000000000) (sy : y.nodes ≤ 1000000000) :
    AF Tryz.prog 237 [aI .i64 13, exA x, exA y] (oA x (sEarly 13 x y)) := by
  obtain ⟨R, hR⟩ : ∃ R, sEarly 13 x y = R := ⟨_, rfl⟩
  rw [hR]
  unfold sEarly at hR
  have ca := q22assoc_af 13
  rw [show comB 13 = false from rfl] at ca
  have cs := q22isshift_af 13
  rw [show shiftB 13 = false from rfl] at cs
  refine af_of Tryz.func237 rfl (by kernel_rfl) (by simp [Tryz.ntmps237]) fun _ => ?_; simp [Tryz.f237, Ex.d_eq]
  refine aCall_of (ca) (by simp) (by simp [Ex.d_eq]) ?_; simp [Ex.d_eq]
  by_cases a : x.op = 1
  · obtain ⟨q, rfl⟩ : ∃ m, x = eCon m := ⟨_, form_con hx a⟩
    have hz : (0 : Int) = 0 := rfl
    by_cases b : y.op = 1
    case neg =>
      simp [b]
      refine aCall_of (r19two_af 13 y (eCon q)) (by simp) (by simp [Ex.d_eq]) ?_; simp [Ex.d_eq]
      rw [← hR]
      simp [comB, all32, isB, b, Ex.d_eq]
    simp [b]
    refine aCall_of (cs) (by simp) (by simp [Ex.d_eq]) ?_; simp [Ex.d_eq]
    try simp [b]
    obtain ⟨m, rfl⟩ : ∃ m, y = eCon m := ⟨_, form_con hy b⟩
    have rm : R32 m := ny.n
    rcases (show m = 0 ∨ m = 1 ∨ m = 4294967295 ∨ (m ≠ 0 ∧ m ≠ 1 ∧ m ≠ 4294967295) by omega) with rfl | rfl | rfl | ⟨m0, m1, m2⟩
    · try simp
      refine aCall_of (cs) (by simp) (by simp [Ex.d_eq]) ?_; simp [Ex.d_eq]
      refine aCall_of (ca) (by simp) (by simp [Ex.d_eq]) ?_; simp [Ex.d_eq]
      rw [← hR]
      simp [comB, all32, isB, hz, Ex.d_eq]
    · try simp
      refine aCall_of (cs) (by simp) (by simp [Ex.d_eq]) ?_; simp [Ex.d_eq]
      refine aCall_of (ca) (by simp) (by simp [Ex.d_eq]) ?_; simp [Ex.d_eq]
      rw [← hR]
      simp [comB, all32, isB, hz, Ex.d_eq]
    · try simp
      refine aCall_of (cs) (by simp) (by simp [Ex.d_eq]) ?_; simp [Ex.d_eq]
      refine aCall_of (ca) (by simp) (by simp [Ex.d_eq]) ?_; simp [Ex.d_eq]
      rw [← hR]
      simp [comB, all32, isB, hz, Ex.d_eq]
    · try simp [m0, m1, m2]
      refine aCall_of (cs) (by simp) (by simp [Ex.d_eq]) ?_; simp [Ex.d_eq]
      try simp [m0, m1, m2]
      refine aCall_of (ca) (by simp) (by simp [Ex.d_eq]) ?_; simp [Ex.d_eq]
      rw [← hR]
      simp [comB, all32, isB, hz, Ex.d_eq]
  · simp [a]
    refine aCall_of (cs) (by simp) (by simp [Ex.d_eq]) ?_; simp [Ex.d_eq]
    by_cases b : y.op = 1
    case neg =>
      simp [b]
      rw [← hR]
      simp [comB, all32, isB, a, b, Ex.d_eq]
    simp [b]
    obtain ⟨m, rfl⟩ : ∃ m, y = eCon m := ⟨_, form_con hy b⟩
    have rm : R32 m := ny.n
    rcases (show m = 0 ∨ m = 1 ∨ m = 4294967295 ∨ (m ≠ 0 ∧ m ≠ 1 ∧ m ≠ 4294967295) by omega) with rfl | rfl | rfl | ⟨m0, m1, m2⟩
    · try simp
      refine aCall_of (cs) (by simp) (by simp [Ex.d_eq]) ?_; simp [Ex.d_eq]
      refine aCall_of (ca) (by simp) (by simp [Ex.d_eq]) ?_; simp [Ex.d_eq]
      rw [← hR]
      simp [comB, all32, isB, a, Ex.d_eq]
    · try simp
      refine aCall_of (cs) (by simp) (by simp [Ex.d_eq]) ?_; simp [Ex.d_eq]
      refine aCall_of (ca) (by simp) (by simp [Ex.d_eq]) ?_; simp [Ex.d_eq]
      rw [← hR]
      simp [comB, all32, isB, a, Ex.d_eq]
    · try simp
      refine aCall_of (cs) (by simp) (by simp [Ex.d_eq]) ?_; simp [Ex.d_eq]
      refine aCall_of (ca) (by simp) (by simp [Ex.d_eq]) ?_; simp [Ex.d_eq]
      rw [← hR]
      simp [comB, all32, isB, a, Ex.d_eq]
    · try simp [m0, m1, m2]
      refine aCall_of (cs) (by simp) (by simp [Ex.d_eq]) ?_; simp [Ex.d_eq]
      try simp [m0, m1, m2]
      refine aCall_of (ca) (by simp) (by simp [Ex.d_eq]) ?_; simp [Ex.d_eq]
      rw [← hR]
      simp [comB, all32, isB, a, Ex.d_eq]
set_option maxRecDepth 8000 in
theorem q22c_14 (x y : Ex) (hx : formB x = true) (hy : formB y = true) (nx : OkN x) (ny : OkN y) (sx : x.nodes ≤ 1000000000) (sy : y.nodes ≤ 1000000000) :
    AF Tryz.prog 237 [aI .i64 14, exA x, exA y] (oA x (sEarly 14 x y)) := by
  obtain ⟨R, hR⟩ : ∃ R, sEarly 14 x y = R := ⟨_, rfl⟩
  rw [hR]
  unfold sEarly at hR
  have ca := q22assoc_af 14
  rw [show comB 14 = false from rfl] at ca
  have cs := q22isshift_af 14
  rw [show shiftB 14 = false from rfl] at cs
  refine af_of Tryz.func237 rfl (by kernel_rfl) (by simp [Tryz.ntmps237]) fun _ => ?_; simp [Tryz.f237, Ex.d_eq]
  refine aCall_of (ca) (by simp) (by simp [Ex.d_eq]) ?_; simp [Ex.d_eq]
  have hz : (0 : Int) = 0 := rfl
  refine aCall_of (cs) (by simp) (by simp [Ex.d_eq]) ?_; simp [Ex.d_eq]
  by_cases b : y.op = 1
  case neg =>
    simp [b]
    rw [← hR]
    simp [comB, all32, isB, hz, b, Ex.d_eq]
  simp [b]
  obtain ⟨m, rfl⟩ : ∃ m, y = eCon m := ⟨_, form_con hy b⟩
  have rm : R32 m := ny.n
  rcases (show m = 0 ∨ m = 1 ∨ m = 4294967295 ∨ (m ≠ 0 ∧ m ≠ 1 ∧ m ≠ 4294967295) by omega) with rfl | rfl | rfl | ⟨m0, m1, m2⟩
  · try simp
    refine aCall_of (cs) (by simp) (by simp [Ex.d_eq]) ?_; simp [Ex.d_eq]
    refine aCall_of (ca) (by simp) (by simp [Ex.d_eq]) ?_; simp [Ex.d_eq]
    rw [← hR]
    simp [comB, all32, isB, hz, Ex.d_eq]
  · try simp
    refine aCall_of (cs) (by simp) (by simp [Ex.d_eq]) ?_; simp [Ex.d_eq]
    refine aCall_of (ca) (by simp) (by simp [Ex.d_eq]) ?_; simp [Ex.d_eq]
    rw [← hR]
    simp [comB, all32, isB, hz, Ex.d_eq]
  · try simp
    refine aCall_of (cs) (by simp) (by simp [Ex.d_eq]) ?_; simp [Ex.d_eq]
    refine aCall_of (ca) (by simp) (by simp [Ex.d_eq]) ?_; simp [Ex.d_eq]
    rw [← hR]
    simp [comB, all32, isB, hz, Ex.d_eq]
  · try simp [m0, m1, m2]
    refine aCall_of (cs) (by simp) (by simp [Ex.d_eq]) ?_; simp [Ex.d_eq]
    try simp [m0, m1, m2]
    refine aCall_of (ca) (by simp) (by simp [Ex.d_eq]) ?_; simp [Ex.d_eq]
    rw [← hR]
    simp [comB, all32, isB, hz, Ex.d_eq]
set_option maxRecDepth 8000 in
theorem q22c_15 (x y : Ex) (hx : formB x = true) (hy : formB y = true) (nx : OkN x) (ny : OkN y) (sx : x.nodes ≤ 1000000000) (sy : y.nodes ≤ 1000000000) :
    AF Tryz.prog 237 [aI .i64 15, exA x, exA y] (oA x (sEarly 15 x y)) := by
  obtain ⟨R, hR⟩ : ∃ R, sEarly 15 x y = R := ⟨_, rfl⟩
  rw [hR]
  unfold sEarly at hR
  have ca := q22assoc_af 15
  rw [show comB 15 = false from rfl] at ca
  have cs := q22isshift_af 15
  rw [show shiftB 15 = false from rfl] at cs
  refine af_of Tryz.func237 rfl (by kernel_rfl) (by simp [Tryz.ntmps237]) fun _ => ?_; simp [Tryz.f237, Ex.d_eq]
  refine aCall_of (ca) (by simp) (by simp [Ex.d_eq]) ?_; simp [Ex.d_eq]
  have hz : (0 : Int) = 0 := rfl
  refine aCall_of (cs) (by simp) (by simp [Ex.d_eq]) ?_; simp [Ex.d_eq]
  by_cases b : y.op = 1
  case neg =>
    simp [b]
    rw [← hR]
    simp [comB, all32, isB, hz, b, Ex.d_eq]
  simp [b]
  obtain ⟨m, rfl⟩ : ∃ m, y = eCon m := ⟨_, form_con hy b⟩
  have rm : R32 m := ny.n
  rcases (show m = 0 ∨ m = 1 ∨ m = 4294967295 ∨ (m ≠ 0 ∧ m ≠ 1 ∧ m ≠ 4294967295) by omega) with rfl | rfl | rfl | ⟨m0, m1, m2⟩
  · try simp
    refine aCall_of (cs) (by simp) (by simp [Ex.d_eq]) ?_; simp [Ex.d_eq]
    refine aCall_of (ca) (by simp) (by simp [Ex.d_eq]) ?_; simp [Ex.d_eq]
    rw [← hR]
    simp [comB, all32, isB, hz, Ex.d_eq]
  · try simp
    refine aCall_of (cs) (by simp) (by simp [Ex.d_eq]) ?_; simp [Ex.d_eq]
    refine aCall_of (ca) (by simp) (by simp [Ex.d_eq]) ?_; simp [Ex.d_eq]
    rw [← hR]
    simp [comB, all32, isB, hz, Ex.d_eq]
  · try simp
    refine aCall_of (cs) (by simp) (by simp [Ex.d_eq]) ?_; simp [Ex.d_eq]
    refine aCall_of (ca) (by simp) (by simp [Ex.d_eq]) ?_; simp [Ex.d_eq]
    rw [← hR]
    simp [comB, all32, isB, hz, Ex.d_eq]
  · try simp [m0, m1, m2]
    refine aCall_of (cs) (by simp) (by simp [Ex.d_eq]) ?_; simp [Ex.d_eq]
    try simp [m0, m1, m2]
    refine aCall_of (ca) (by simp) (by simp [Ex.d_eq]) ?_; simp [Ex.d_eq]
    rw [← hR]
    simp [comB, all32, isB, hz, Ex.d_eq]
set_option maxRecDepth 8000 in
theorem q22c_4 (x y : Ex) (hx : formB x = true) (hy : formB y = true) (nx : OkN x) (ny : OkN y) (sx : x.nodes ≤ 1000000000) (sy : y.nodes ≤ 1000000000) :
    AF Tryz.prog 237 [aI .i64 4, exA x, exA y] (oA x (sEarly 4 x y)) := by
  obtain ⟨R, hR⟩ : ∃ R, sEarly 4 x y = R := ⟨_, rfl⟩
  rw [hR]
  unfold sEarly at hR
  have ca := q22assoc_af 4
  rw [show comB 4 = false from rfl] at ca
  have cs := q22isshift_af 4
  rw [show shiftB 4 = false from rfl] at cs
  refine af_of Tryz.func237 rfl (by kernel_rfl) (by simp [Tryz.ntmps237]) fun _ => ?_; simp [Tryz.f237, Ex.d_eq]
  refine aCall_of (ca) (by simp) (by simp [Ex.d_eq]) ?_; simp [Ex.d_eq]
  refine aCall_of (cs) (by simp) (by simp [Ex.d_eq]) ?_; simp [Ex.d_eq]
  by_cases b : y.op = 1
  case neg =>
    simp [b]
    rw [← hR]
    simp [comB, all32, isB, b, Ex.d_eq]
  simp [b]
  refine adraw [] (by kernel_rfl) (by kernel_rfl) (by kernel_rfl) (by kernel_rfl) ?_; simp [Ex.d_eq]
  refine adC_of (r19const_af (IntKind.u32.wrap (0 - y.n))) (by simp) trivial (by simp) (by simp [Ex.d_eq]) ?_; simp [Ex.d_eq]
  refine adC_of (r19two_af 3 x (eCon (IntKind.u32.wrap (0 - y.n)))) (by simp) trivial (by simp) (by simp [Ex.d_eq]) ?_; simp [Ex.d_eq]
  rw [← hR]
  simp [comB, all32, isB, b, u32e, Ex.d_eq]
theorem q22constants_af (op : Int) (x y : Ex) (h3 : 3 ≤ op) (h15 : op ≤ 15) (hx : formB x = true) (hy : formB y = true) (nx : OkN x) (ny : OkN y) (sx : x.nodes ≤ 1000000000) (sy : y.nodes ≤ 1000000000) :
    AF Tryz.prog 237 [aI .i64 op, exA x, exA y] (oA x (sEarly op x y)) := by
  rcases (show op = 3 ∨ op = 4 ∨ op = 5 ∨ op = 6 ∨ op = 7 ∨ op = 8 ∨ op = 9 ∨ op = 10 ∨ op = 11 ∨ op = 12 ∨ op = 13 ∨ op = 14 ∨ op = 15 by omega) with rfl | rfl | rfl | rfl | rfl | rfl | rfl | rfl | rfl | rfl | rfl | rfl | rfl
  · exact q22c_3 x y hx hy nx ny sx sy
  · exact q22c_4 x y hx hy nx ny sx sy
  · exact q22c_5 x y hx hy nx ny sx sy
  · exact q22c_6 x y hx hy nx ny sx sy
  · exact q22c_7 x y hx hy nx ny sx sy
  · exact q22c_8 x y hx hy nx ny sx sy
  · exact q22c_9 x y hx hy nx ny sx sy
  · exact q22c_10 x y hx hy nx ny sx sy
  · exact q22c_11 x y hx hy nx ny sx sy
  · exact q22c_12 x y hx hy nx ny sx sy
  · exact q22c_13 x y hx hy nx ny sx sy
  · exact q22c_14 x y hx hy nx ny sx sy
  · exact q22c_15 x y hx hy nx ny sx sy
end Go.Proofs.YtlidimmfpfockaaGreatDoor

/- Contracts: the reference's rules 7 to 13 of layer 22; an operator of two operands. -/
namespace Go.Proofs.YtlidimmfpfockaaGreatDoor
open Go.RowKit
theorem q22signs_af (op : Int) (x y : Ex) (hx : formB x = true) (hy : formB y = true) : AF Tryz.prog 238 [aI .i64 op, exA x, exA y] (oA x (sSign op x y)) := by
  obtain ⟨R, hR⟩ : ∃ R, sSign op x y = R := ⟨_, rfl⟩
  rw [hR]
  unfold sSign at hR
  rcases (show op = 3 ∨ op = 4 ∨ (op ≠ 3 ∧ op ≠ 4) by omega) with rfl | rfl | ⟨o3, o4⟩
  · refine af_of Tryz.func238 rfl (by kernel_rfl) (by simp [Tryz.ntmps238]) fun _ => ?_; simp [Tryz.f238, Ex.d_eq]
    by_cases h1 : y.op = 17
    · obtain ⟨z, rfl, hz⟩ := form_one' hy h1
      simp
      refine adraw [] (by kernel_rfl) (by kernel_rfl) (by kernel_rfl) (by kernel_rfl) ?_; simp [Ex.d_eq]
      refine adC_of (r19two_af 4 x z) (by simp) trivial (by simp) (by simp [Ex.d_eq]) ?_; simp [Ex.d_eq]
      rw [← hR]
      simp [Ex.d_eq]
    simp [h1]
    by_cases h2 : x.op = 17
    · obtain ⟨z, rfl, hz⟩ := form_one' hx h2
      simp
      refine adraw [] (by kernel_rfl) (by kernel_rfl) (by kernel_rfl) (by kernel_rfl) ?_; simp [Ex.d_eq]
      refine adC_of (r19two_af 4 y z) (by simp) trivial (by simp) (by simp [Ex.d_eq]) ?_; simp [Ex.d_eq]
      rw [← hR]
      simp [h1, Ex.d_eq]
    · simp [h2]
      rw [← hR]
      simp [h1, h2]
  · refine af_of Tryz.func238 rfl (by kernel_rfl) (by simp [Tryz.ntmps238]) fun _ => ?_; simp [Tryz.f238, Ex.d_eq]
    refine aCall_of (q22isnum_af x 0) (by simp) (by simp [Ex.d_eq]) ?_; simp [Ex.d_eq]
    cases h0 : isB x 0
    · simp
      by_cases h1 : y.op = 17
      · obtain ⟨z, rfl, hz⟩ := form_one' hy h1
        simp
        refine adraw [] (by kernel_rfl) (by kernel_rfl) (by kernel_rfl) (by kernel_rfl) ?_; simp [Ex.d_eq]
        refine adC_of (r19two_af 3 x z) (by simp) trivial (by simp) (by simp [Ex.d_eq]) ?_; simp [Ex.d_eq]
        rw [← hR]
        simp [h0, Ex.d_eq]
      · simp [h1]
        rw [← hR]
        simp [h0, h1]
    · simp
      refine aCall_of (r19one_af 17 y) (by simp) (by simp [Ex.d_eq]) ?_; simp [Ex.d_eq]
      rw [← hR]
      simp [h0]
  · refine af_of Tryz.func238 rfl (by kernel_rfl) (by simp [Tryz.ntmps238]) fun _ => ?_; simp [Tryz.f238, Ex.d_eq]
    simp [o3, o4]
    rw [← hR]
    simp [o3, o4]
set_option maxRecDepth 8000 in
theorem q22equals_af (op : Int) (x y : Ex) (sx : x.nodes ≤ 1000000000) : ∃ j, AF Tryz.prog 239 [aI .i64 op, exA x, exA y] (oA j (sSame op x y)) := by
  refine ⟨x, ?_⟩
  obtain ⟨R, hR⟩ : ∃ R, sSame op x y = R := ⟨_, rfl⟩
  rw [hR]
  unfold sSame at hR
  have hs := refsame_af x y
  cases hb : sameB x y
  · rw [hb] at hs
    refine af_of Tryz.func239 rfl (by kernel_rfl) (by simp [Tryz.ntmps239]) fun _ => ?_; simp [Tryz.f239, Ex.d_eq]
    refine aCall_of (hs) (by simp) (by simp [Ex.d_eq]) ?_; simp [Ex.d_eq]
    rw [← hR]
    simp [hb]
  rw [hb] at hs
  rcases (show op = 4 ∨ op = 8 ∨ op = 13 ∨ op = 15 ∨ op = 14 ∨ op = 12 ∨ op = 6 ∨ op = 7 ∨ (op ≠ 4 ∧ op ≠ 8 ∧ op ≠ 13 ∧ op ≠ 15 ∧ op ≠ 14 ∧ op ≠ 12 ∧ op ≠ 6 ∧ op ≠ 7) by omega) with rfl | rfl | rfl | rfl | rfl | rfl | rfl | rfl | ⟨o4, o8, o13, o15, o14, o12, o6, o7⟩
  case inr.inr.inr.inr.inr.inr.inl =>
    refine af_of Tryz.func239 rfl (by kernel_rfl) (by simp [Tryz.ntmps239]) fun _ => ?_; simp [Tryz.f239, Ex.d_eq]
    refine aCall_of (hs) (by simp) (by simp [Ex.d_eq]) ?_; simp [Ex.d_eq]
    rw [← hR]
    simp [hb]
  case inr.inr.inr.inr.inr.inr.inr.inl =>
    refine af_of Tryz.func239 rfl (by kernel_rfl) (by simp [Tryz.ntmps239]) fun _ => ?_; simp [Tryz.f239, Ex.d_eq]
    refine aCall_of (hs) (by simp) (by simp [Ex.d_eq]) ?_; simp [Ex.d_eq]
    rw [← hR]
    simp [hb]
  case inr.inr.inr.inr.inr.inr.inr.inr =>
    refine af_of Tryz.func239 rfl (by kernel_rfl) (by simp [Tryz.ntmps239]) fun _ => ?_; simp [Tryz.f239, Ex.d_eq]
    refine aCall_of (hs) (by simp) (by simp [Ex.d_eq]) ?_; simp [Ex.d_eq]
    simp [o6, o7]
    refine aCall_of (q22safe_af x sx) (by simp) (by simp [Ex.d_eq]) ?_; simp [Ex.d_eq]
    cases hq : safeB x
    · simp
      rw [← hR]
      simp [hb, hq, o6, o7]
    · simp [o4, o8, o13, o15, o14, o12]
      rw [← hR]
      simp [hb, hq, o4, o8, o13, o15, o14, o12, o6, o7]
  all_goals
    refine af_of Tryz.func239 rfl (by kernel_rfl) (by simp [Tryz.ntmps239]) fun _ => ?_; simp [Tryz.f239, Ex.d_eq]
    refine aCall_of (hs) (by simp) (by simp [Ex.d_eq]) ?_; simp [Ex.d_eq]
    refine aCall_of (q22safe_af x sx) (by simp) (by simp [Ex.d_eq]) ?_; simp [Ex.d_eq]
    cases hq : safeB x
    · simp
      rw [← hR]
      simp [hb, hq]
    · simp
      first
        | (refine aCall_of (r19const_af 0) (by simp) (by simp [Ex.d_eq]) ?_; simp [Ex.d_eq]; rw [← hR]; simp [hb, hq]; done)
        | (refine aCall_of (r19const_af 1) (by simp) (by simp [Ex.d_eq]) ?_; simp [Ex.d_eq]; rw [← hR]; simp [hb, hq]; done)
theorem q22booleans_af (op : Int) (x y : Ex) : AF Tryz.prog 240 [aI .i64 op, exA x, exA y] (oA x (sTruth op x y)) := by
  obtain ⟨R, hR⟩ : ∃ R, sTruth op x y = R := ⟨_, rfl⟩
  rw [hR]
  unfold sTruth at hR
  rcases (show op = 12 ∨ op = 13 ∨ (op ≠ 12 ∧ op ≠ 13) by omega) with rfl | rfl | ⟨o12, o13⟩
  · refine af_of Tryz.func240 rfl (by kernel_rfl) (by simp [Tryz.ntmps240]) fun _ => ?_; simp [Tryz.f240, Ex.d_eq]
    refine aCall_of (r19one_af 16 x) (by simp) (by simp [Ex.d_eq]) ?_; simp [Ex.d_eq]
    refine aCall_of (q22isnum_af y 0) (by simp) (by simp [Ex.d_eq]) ?_; simp [Ex.d_eq]
    cases h0 : isB y 0
    · simp
      refine aCall_of (q22bool_af x) (by simp) (by simp [Ex.d_eq]) ?_; simp [Ex.d_eq]
      cases hb : boolB x
      · simp
        rw [← hR]
        simp [h0, hb]
      · simp
        refine aCall_of (q22isnum_af y 1) (by simp) (by simp [Ex.d_eq]) ?_; simp [Ex.d_eq]
        cases h1 : isB y 1
        · simp
          rw [← hR]
          simp [h0, hb, h1]
        · simp
          rw [← hR]
          simp [h0, hb, h1]
    · simp
      rw [← hR]
      simp [h0]
  · refine af_of Tryz.func240 rfl (by kernel_rfl) (by simp [Tryz.ntmps240]) fun _ => ?_; simp [Tryz.f240, Ex.d_eq]
    refine aCall_of (r19one_af 16 x) (by simp) (by simp [Ex.d_eq]) ?_; simp [Ex.d_eq]
    refine aCall_of (q22bool_af x) (by simp) (by simp [Ex.d_eq]) ?_; simp [Ex.d_eq]
    cases hb : boolB x
    · simp
      rw [← hR]
      simp [hb]
    · simp
      refine aCall_of (q22isnum_af y 0) (by simp) (by simp [Ex.d_eq]) ?_; simp [Ex.d_eq]
      cases h0 : isB y 0
      · simp
        refine aCall_of (q22isnum_af y 1) (by simp) (by simp [Ex.d_eq]) ?_; simp [Ex.d_eq]
        cases h1 : isB y 1
        · simp
          rw [← hR]
          simp [h0, hb, h1]
        · simp
          rw [← hR]
          simp [h0, hb, h1]
      · simp
        rw [← hR]
        simp [h0, hb]
  · refine af_of Tryz.func240 rfl (by kernel_rfl) (by simp [Tryz.ntmps240]) fun _ => ?_; simp [Tryz.f240, Ex.d_eq]
    refine aCall_of (r19one_af 16 x) (by simp) (by simp [Ex.d_eq]) ?_; simp [Ex.d_eq]
    simp [o12, o13]
    refine aCall_of (q22bool_af x) (by simp) (by simp [Ex.d_eq]) ?_; simp [Ex.d_eq]
    cases hb : boolB x
    · simp
      rw [← hR]
      simp [o12, o13, hb]
    · simp [o12, o13]
      rw [← hR]
      simp [o12, o13, hb]
set_option maxRecDepth 8000 in
theorem q22comparisons_af (op : Int) (x y : Ex) (hx : formB x = true) (hy : formB y = true) (sx : x.nodes ≤ 1000000000) : AF Tryz.prog 241 [aI .i64 op, exA x, exA y] (oA x ((sMove op x y).or (sBelow op x y))) := by
  obtain ⟨R, hR⟩ : ∃ R, (sMove op x y).or (sBelow op x y) = R := ⟨_, rfl⟩
  rw [hR]
  rcases (show op = 12 ∨ op = 13 ∨ op = 15 ∨ (op ≠ 12 ∧ op ≠ 13 ∧ op ≠ 15) by omega) with rfl | rfl | rfl | ⟨o12, o13, o15⟩
  · rw [below_no x y (by omega), Option.or_none] at hR
    unfold sMove at hR
    refine af_of Tryz.func241 rfl (by kernel_rfl) (by simp [Tryz.ntmps241]) fun _ => ?_; simp [Tryz.f241, Ex.d_eq]
    by_cases b : y.op = 1
    case neg =>
      simp [b]
      rw [← hR]
      simp [b]
    simp [b]
    by_cases k3 : x.op = 3
    · obtain ⟨a, c, rfl, ha, hc⟩ := form_two' hx k3 (by omega) (by omega)
      try simp [Ex.d_eq]
      by_cases h4 : c.op = 1
      · simp [h4, Ex.d_eq]
        refine adraw [] (by kernel_rfl) (by kernel_rfl) (by kernel_rfl) (by kernel_rfl) ?_; simp [Ex.d_eq]
        refine adraw [] (by kernel_rfl) (by kernel_rfl) (by kernel_rfl) (by kernel_rfl) ?_; simp [Ex.d_eq]
        refine adC_of (r19const_af (IntKind.u32.wrap (y.n - c.n))) (by simp) trivial (by simp) (by simp [Ex.d_eq]) ?_; simp [Ex.d_eq]
        refine adC_of (r19two_af 12 a (eCon (IntKind.u32.wrap (y.n - c.n)))) (by simp) trivial (by simp) (by simp [Ex.d_eq]) ?_; simp [Ex.d_eq]
        rw [← hR]
        simp [b, h4, u32e, Ex.d_eq]
      · simp [h4, Ex.d_eq]
        rw [← hR]
        simp [b, h4]
    · by_cases k8 : x.op = 8
      · obtain ⟨a, c, rfl, ha, hc⟩ := form_two' hx k8 (by omega) (by omega)
        try simp [Ex.d_eq]
        by_cases h4 : c.op = 1
        · simp [h4, Ex.d_eq]
          have hxo : xorI .u32 y.n c.n = xorI .u32 c.n y.n := xorI_comm _ _
          refine adraw [] (by kernel_rfl) (by kernel_rfl) (by kernel_rfl) (by kernel_rfl) ?_; simp [Ex.d_eq]
          refine adraw [] (by kernel_rfl) (by kernel_rfl) (by kernel_rfl) (by kernel_rfl) ?_; simp [Ex.d_eq]
          refine adraw [] (by kernel_rfl) (by kernel_rfl) (by kernel_rfl) (by kernel_rfl) ?_; simp [Ex.d_eq]
          refine adC_of (r19const_af (xorI .u32 y.n c.n)) (by simp) trivial (by simp) (by simp [Ex.d_eq]) ?_; simp [Ex.d_eq]
          refine adC_of (r19two_af 12 a (eCon (xorI .u32 y.n c.n))) (by simp) trivial (by simp) (by simp [Ex.d_eq]) ?_; simp [Ex.d_eq]
          rw [← hR]
          simp [b, h4, hxo, Ex.d_eq]
        · simp [h4, Ex.d_eq]
          rw [← hR]
          simp [b, h4]
      · simp [k3, k8]
        rw [← hR]
        simp [k3, k8]
  · rw [below_no x y (by omega), Option.or_none] at hR
    unfold sMove at hR
    refine af_of Tryz.func241 rfl (by kernel_rfl) (by simp [Tryz.ntmps241]) fun _ => ?_; simp [Tryz.f241, Ex.d_eq]
    refine aCall_of (q22isnum_af y 0) (by simp) (by simp [Ex.d_eq]) ?_; simp [Ex.d_eq]
    have hb : isB y 0 = true → y.op = 1 := fun h => (isB_iff.1 h).1
    by_cases b : y.op = 1
    case neg =>
      have h0 : isB y 0 = false := by cases h : isB y 0 with
        | false => rfl
        | true => exact absurd (hb h) b
      simp [h0, b]
      rw [← hR]
      simp [h0, b]
    cases h0 : isB y 0
    · simp [b]
      by_cases k3 : x.op = 3
      · obtain ⟨a, c, rfl, ha, hc⟩ := form_two' hx k3 (by omega) (by omega)
        try simp [Ex.d_eq]
        by_cases h4 : c.op = 1
        · simp [h4, Ex.d_eq]
          refine adraw [] (by kernel_rfl) (by kernel_rfl) (by kernel_rfl) (by kernel_rfl) ?_; simp [Ex.d_eq]
          refine adraw [] (by kernel_rfl) (by kernel_rfl) (by kernel_rfl) (by kernel_rfl) ?_; simp [Ex.d_eq]
          refine adC_of (r19const_af (IntKind.u32.wrap (y.n - c.n))) (by simp) trivial (by simp) (by simp [Ex.d_eq]) ?_; simp [Ex.d_eq]
          refine adC_of (r19two_af 13 a (eCon (IntKind.u32.wrap (y.n - c.n)))) (by simp) trivial (by simp) (by simp [Ex.d_eq]) ?_; simp [Ex.d_eq]
          rw [← hR]
          simp [b, h0, h4, u32e, Ex.d_eq]
        · simp [h4, Ex.d_eq]
          rw [← hR]
          simp [b, h0, h4]
      · by_cases k8 : x.op = 8
        · obtain ⟨a, c, rfl, ha, hc⟩ := form_two' hx k8 (by omega) (by omega)
          try simp [Ex.d_eq]
          by_cases h4 : c.op = 1
          · simp [h4, Ex.d_eq]
            have hxo : xorI .u32 y.n c.n = xorI .u32 c.n y.n := xorI_comm _ _
            refine adraw [] (by kernel_rfl) (by kernel_rfl) (by kernel_rfl) (by kernel_rfl) ?_; simp [Ex.d_eq]
            refine adraw [] (by kernel_rfl) (by kernel_rfl) (by kernel_rfl) (by kernel_rfl) ?_; simp [Ex.d_eq]
            refine adraw [] (by kernel_rfl) (by kernel_rfl) (by kernel_rfl) (by kernel_rfl) ?_; simp [Ex.d_eq]
            refine adC_of (r19const_af (xorI .u32 y.n c.n)) (by simp) trivial (by simp) (by simp [Ex.d_eq]) ?_; simp [Ex.d_eq]
            refine adC_of (r19two_af 13 a (eCon (xorI .u32 y.n c.n))) (by simp) trivial (by simp) (by simp [Ex.d_eq]) ?_; simp [Ex.d_eq]
            rw [← hR]
            simp [b, h0, h4, hxo, Ex.d_eq]
          · simp [h4, Ex.d_eq]
            rw [← hR]
            simp [b, h0, h4]
        · simp [k3, k8]
          rw [← hR]
          simp [k3, k8, h0]
    · by_cases k4 : x.op = 4
      · obtain ⟨a, c, rfl, ha, hc⟩ := form_two' hx k4 (by omega) (by omega)
        try simp [Ex.d_eq]
        refine adraw [] (by kernel_rfl) (by kernel_rfl) (by kernel_rfl) (by kernel_rfl) ?_; simp [Ex.d_eq]
        refine adC_of (r19two_af 13 a c) (by simp) trivial (by simp) (by simp [Ex.d_eq]) ?_; simp [Ex.d_eq]
        rw [← hR]
        simp [h0, Ex.d_eq]
      · by_cases k8 : x.op = 8
        · obtain ⟨a, c, rfl, ha, hc⟩ := form_two' hx k8 (by omega) (by omega)
          try simp [Ex.d_eq]
          refine adraw [] (by kernel_rfl) (by kernel_rfl) (by kernel_rfl) (by kernel_rfl) ?_; simp [Ex.d_eq]
          refine adC_of (r19two_af 13 a c) (by simp) trivial (by simp) (by simp [Ex.d_eq]) ?_; simp [Ex.d_eq]
          rw [← hR]
          simp [h0, Ex.d_eq]
        · simp [k4, k8, b]
          by_cases k3 : x.op = 3
          · obtain ⟨a, c, rfl, ha, hc⟩ := form_two' hx k3 (by omega) (by omega)
            try simp [Ex.d_eq]
            by_cases h4 : c.op = 1
            · simp [h4, Ex.d_eq]
              refine adraw [] (by kernel_rfl) (by kernel_rfl) (by kernel_rfl) (by kernel_rfl) ?_; simp [Ex.d_eq]
              refine adraw [] (by kernel_rfl) (by kernel_rfl) (by kernel_rfl) (by kernel_rfl) ?_; simp [Ex.d_eq]
              refine adC_of (r19const_af (IntKind.u32.wrap (y.n - c.n))) (by simp) trivial (by simp) (by simp [Ex.d_eq]) ?_; simp [Ex.d_eq]
              refine adC_of (r19two_af 13 a (eCon (IntKind.u32.wrap (y.n - c.n)))) (by simp) trivial (by simp) (by simp [Ex.d_eq]) ?_; simp [Ex.d_eq]
              rw [← hR]
              simp [b, h0, h4, u32e, Ex.d_eq]
            · simp [h4, Ex.d_eq]
              rw [← hR]
              simp [b, h0, h4]
          · simp [k3]
            rw [← hR]
            simp [h0, k3, k4, k8]
  · have hM : sMove 15 x y = none := by simp [sMove]
    rw [hM, Option.none_or] at hR
    unfold sBelow at hR
    refine af_of Tryz.func241 rfl (by kernel_rfl) (by simp [Tryz.ntmps241]) fun _ => ?_; simp [Tryz.f241, Ex.d_eq]
    refine aCall_of (q22isnum_af x 0) (by simp) (by simp [Ex.d_eq]) ?_; simp [Ex.d_eq]
    cases h0 : isB x 0
    · simp
      refine aCall_of (q22isnum_af y 1) (by simp) (by simp [Ex.d_eq]) ?_; simp [Ex.d_eq]
      cases h1 : isB y 1
      · simp
        refine aCall_of (q22isnum_af y 0) (by simp) (by simp [Ex.d_eq]) ?_; simp [Ex.d_eq]
        cases h2 : isB y 0
        · simp
          rw [← hR]
          simp [h0, h1, h2]
        · simp
          refine aCall_of (q22safe_af x sx) (by simp) (by simp [Ex.d_eq]) ?_; simp [Ex.d_eq]
          cases h3 : safeB x
          · simp
            rw [← hR]
            simp [h0, h1, h2, h3]
          · simp
            obtain ⟨k1, k2⟩ := isB_iff.1 h2
            have hy0 : y = eCon 0 := by rw [form_con hy k1, k2]
            subst hy0
            rw [← hR]
            simp [h0, h1, h2, h3, Ex.d_eq]
      · simp
        refine aCall_of (r19one_af 16 x) (by simp) (by simp [Ex.d_eq]) ?_; simp [Ex.d_eq]
        rw [← hR]
        simp [h0, h1]
    · simp
      obtain ⟨k1, k2⟩ := isB_iff.1 h0
      have hx0 : x = eCon 0 := by rw [form_con hx k1, k2]
      subst hx0
      refine aCall_of (r19two_af 13 y (eCon 0)) (by simp) (by simp [Ex.d_eq]) ?_; simp [Ex.d_eq]
      rw [← hR]
      simp [h0, Ex.d_eq]
  · have hM : sMove op x y = none := by simp [sMove, o12, o13]
    rw [hM, below_no x y o15] at hR
    subst hR
    refine af_of Tryz.func241 rfl (by kernel_rfl) (by simp [Tryz.ntmps241]) fun _ => ?_; simp [Tryz.f241, Ex.d_eq]
    try simp [o12, o13, o15]
theorem q22masks_af (op : Int) (x y : Ex) (ny : R32 y.n) : AF Tryz.prog 242 [aI .i64 op, exA x, exA y] (oA x (sMask op x y)) := by
  obtain ⟨R, hR⟩ : ∃ R, sMask op x y = R := ⟨_, rfl⟩
  rw [hR]
  unfold sMask at hR
  refine af_of Tryz.func242 rfl (by kernel_rfl) (by simp [Tryz.ntmps242]) fun _ => ?_; simp [Tryz.f242, Ex.d_eq]
  refine adraw [] (by kernel_rfl) (by kernel_rfl) (by kernel_rfl) (by kernel_rfl) ?_
  by_cases h6 : op = 6
  case neg =>
    simp [h6]
    rw [← hR]
    simp [h6]
  by_cases h18 : x.op = 18
  case neg =>
    simp [h6, h18]
    rw [← hR]
    simp [h18]
  by_cases h1 : y.op = 1
  case neg =>
    simp [h6, h18, h1]
    rw [← hR]
    simp [h1, h18]
  simp [h6, h18, h1]
  refine adC_of (q22covers_af y.n x.wd ny) (by simp) trivial (by simp) (by simp [Ex.d_eq]) ?_; simp [Ex.d_eq]
  rw [← hR]
  cases hc : covB y.n x.wd <;> simp [h6, h18, h1, hc]
theorem q22not_af (x : Ex) (hx : formB x = true) : ∃ j, AF Tryz.prog 187 [exA x] (oA j (sNot x)) := by
  have hop := form_op hx
  refine ⟨x, ?_⟩
  rcases (show x.op = 12 ∨ x.op = 13 ∨ x.op = 4 ∨ x.op = 8 ∨ x.op = 16 ∨ x.op = 3 ∨ (x.op ≠ 12 ∧ x.op ≠ 13 ∧ x.op ≠ 4 ∧ x.op ≠ 8 ∧ x.op ≠ 16 ∧ x.op ≠ 3) by omega) with k | k | k | k | k | k | ⟨k12, k13, k4, k8, k16, k3⟩
  · obtain ⟨a, b, rfl, ha, hb⟩ := form_two' hx k (by omega) (by omega)
    refine af_of Tryz.func187 rfl (by kernel_rfl) (by simp [Tryz.ntmps187]) fun _ => ?_; simp [Tryz.f187, Ex.d_eq]
    refine adraw [] (by kernel_rfl) (by kernel_rfl) (by kernel_rfl) (by kernel_rfl) ?_; simp [Ex.d_eq]
    refine adC_of (r19two_af 13 a b) (by simp) trivial (by simp) (by simp [Ex.d_eq]) ?_; simp [Ex.d_eq]
    simp [sNot]
  · obtain ⟨a, b, rfl, ha, hb⟩ := form_two' hx k (by omega) (by omega)
    refine af_of Tryz.func187 rfl (by kernel_rfl) (by simp [Tryz.ntmps187]) fun _ => ?_; simp [Tryz.f187, Ex.d_eq]
    refine adraw [] (by kernel_rfl) (by kernel_rfl) (by kernel_rfl) (by kernel_rfl) ?_; simp [Ex.d_eq]
    refine adC_of (r19two_af 12 a b) (by simp) trivial (by simp) (by simp [Ex.d_eq]) ?_; simp [Ex.d_eq]
    simp [sNot]
  · obtain ⟨a, b, rfl, ha, hb⟩ := form_two' hx k (by omega) (by omega)
    refine af_of Tryz.func187 rfl (by kernel_rfl) (by simp [Tryz.ntmps187]) fun _ => ?_; simp [Tryz.f187, Ex.d_eq]
    refine adraw [] (by kernel_rfl) (by kernel_rfl) (by kernel_rfl) (by kernel_rfl) ?_; simp [Ex.d_eq]
    refine adC_of (r19two_af 12 a b) (by simp) trivial (by simp) (by simp [Ex.d_eq]) ?_; simp [Ex.d_eq]
    simp [sNot]
  · obtain ⟨a, b, rfl, ha, hb⟩ := form_two' hx k (by omega) (by omega)
    refine af_of Tryz.func187 rfl (by kernel_rfl) (by simp [Tryz.ntmps187]) fun _ => ?_; simp [Tryz.f187, Ex.d_eq]
    refine adraw [] (by kernel_rfl) (by kernel_rfl) (by kernel_rfl) (by kernel_rfl) ?_; simp [Ex.d_eq]
    refine adC_of (r19two_af 12 a b) (by simp) trivial (by simp) (by simp [Ex.d_eq]) ?_; simp [Ex.d_eq]
    simp [sNot]
  · obtain ⟨a, ha', ha⟩ := form_one hx (.inl k)
    rw [k] at ha'
    subst ha'
    refine af_of Tryz.func187 rfl (by kernel_rfl) (by simp [Tryz.ntmps187]) fun _ => ?_; simp [Tryz.f187, Ex.d_eq]
    refine aCall_of (q22bool_af a) (by simp) (by simp [Ex.d_eq]) ?_; simp [Ex.d_eq]
    cases hb : boolB a
    · simp
      refine adraw [] (by kernel_rfl) (by kernel_rfl) (by kernel_rfl) (by kernel_rfl) ?_; simp [Ex.d_eq]
      refine adC_of (r19const_af 0) (by simp) trivial (by simp) (by simp [Ex.d_eq]) ?_; simp [Ex.d_eq]
      refine adC_of (r19two_af 13 a (eCon 0)) (by simp) trivial (by simp) (by simp [Ex.d_eq]) ?_; simp [Ex.d_eq]
      simp [sNot, hb, Ex.d_eq]
    · simp [sNot, hb]
  · obtain ⟨a, b, rfl, ha, hb⟩ := form_two' hx k (by omega) (by omega)
    refine af_of Tryz.func187 rfl (by kernel_rfl) (by simp [Tryz.ntmps187]) fun _ => ?_; simp [Tryz.f187, Ex.d_eq]
    by_cases h4 : b.op = 1
    · simp [h4]
      refine adraw [] (by kernel_rfl) (by kernel_rfl) (by kernel_rfl) (by kernel_rfl) ?_; simp [Ex.d_eq]
      refine adC_of (r19const_af (IntKind.u32.wrap (0 - b.n))) (by simp) trivial (by simp) (by simp [Ex.d_eq]) ?_; simp [Ex.d_eq]
      refine adC_of (r19two_af 12 a (eCon (IntKind.u32.wrap (0 - b.n)))) (by simp) trivial (by simp) (by simp [Ex.d_eq]) ?_; simp [Ex.d_eq]
      simp [sNot, h4, u32e, Ex.d_eq]
    · simp [h4, sNot, Ex.d_eq]
  · have hn : sNot x = none := by simp [sNot, k12, k13, k4, k8, k16, k3]
    rw [hn]
    refine af_of Tryz.func187 rfl (by kernel_rfl) (by simp [Tryz.ntmps187]) fun _ => ?_; simp [Tryz.f187, Ex.d_eq]
    simp [k12, k13, k4, k8, k16, k3]
theorem q22neg_af (x : Ex) (hx : formB x = true) : AF Tryz.prog 188 [exA x] (oA x (sNeg x)) := by
  by_cases h1 : x.op = 17
  · obtain ⟨z, rfl, hz⟩ := form_one' hx h1
    refine af_of Tryz.func188 rfl (by kernel_rfl) (by simp [Tryz.ntmps188]) fun _ => ?_; simp [Tryz.f188, Ex.d_eq]
    simp [sNeg, Ex.d_eq]
  by_cases h2 : x.op = 4
  · obtain ⟨a, b, rfl, ha, hb⟩ := form_two' hx h2 (by omega) (by omega)
    refine af_of Tryz.func188 rfl (by kernel_rfl) (by simp [Tryz.ntmps188]) fun _ => ?_; simp [Tryz.f188, Ex.d_eq]
    refine adraw [] (by kernel_rfl) (by kernel_rfl) (by kernel_rfl) (by kernel_rfl) ?_; simp [Ex.d_eq]
    refine adC_of (r19two_af 4 b a) (by simp) trivial (by simp) (by simp [Ex.d_eq]) ?_; simp [Ex.d_eq]
    simp [sNeg, Ex.d_eq]
  · refine af_of Tryz.func188 rfl (by kernel_rfl) (by simp [Tryz.ntmps188]) fun _ => ?_; simp [Tryz.f188, Ex.d_eq]
    simp [h1, h2, sNeg, Ex.d_eq]
theorem q22sext_af (w : Int) (x : Ex) (hx : formB x = true) (nx : OkN x) : AF Tryz.prog 189 [aI .i64 w, exA x] (oA x (sExt w x)) := by
  unfold sExt
  by_cases h6 : x.op = 6
  · obtain ⟨a, b, rfl, ha, hb⟩ := form_two' hx h6 (by omega) (by omega)
    have nb : R32 b.n := (nx.l b (by simp)).n
    by_cases h1 : b.op = 1
    · refine af_of Tryz.func189 rfl (by kernel_rfl) (by simp [Tryz.ntmps189]) fun _ => ?_; simp [Tryz.f189, Ex.d_eq]
      simp [h1]
      refine aCall_of (q22covers_af b.n w nb) (by simp) (by simp [Ex.d_eq]) ?_; simp [Ex.d_eq]
      cases hc : covB b.n w <;> simp [h1, Ex.d_eq]
    · refine af_of Tryz.func189 rfl (by kernel_rfl) (by simp [Tryz.ntmps189]) fun _ => ?_; simp [Tryz.f189, Ex.d_eq]
      simp [h1, Ex.d_eq]
  · by_cases h19 : x.op = 19
    · obtain ⟨a, ha', ha, _⟩ := form_wide hx (.inr h19)
      obtain ⟨v, hv⟩ : ∃ v, x.wd = v := ⟨_, rfl⟩
      rw [h19, hv] at ha'
      subst ha'
      refine af_of Tryz.func189 rfl (by kernel_rfl) (by simp [Tryz.ntmps189]) fun _ => ?_; simp [Tryz.f189, Ex.d_eq]
      refine adraw [] (by kernel_rfl) (by kernel_rfl) (by kernel_rfl) (by kernel_rfl) ?_; simp [Ex.d_eq]
      rw [Int.min_def]
      split <;> split <;> omega
    · refine af_of Tryz.func189 rfl (by kernel_rfl) (by simp [Tryz.ntmps189]) fun _ => ?_; simp [Tryz.f189, Ex.d_eq]
      simp [h19, h6]
theorem sTwo_eq' (op : Int) (x y : Ex) : sTwo op x y = (sEarly op x y).or ((sSign op x y).or ((sSame op x y).or ((sTruth op x y).or (((sMove op x y).or (sBelow op x y)).or (sMask op x y))))) := by
  simp only [sTwo, Option.or_assoc]
theorem q22two_af (op : Int) (x y : Ex) (h3 : 3 ≤ op) (h15 : op ≤ 15) (hx : formB x = true) (hy : formB y = true) (nx : OkN x) (ny : OkN y) (sx : x.nodes ≤ 1000000000) (sy : y.nodes ≤ 1000000000) :
    ∃ j, AF Tryz.prog 190 [aI .i64 op, exA x, exA y] (oA j (sTwo op x y)) := by
  have c1 := q22constants_af op x y h3 h15 hx hy nx ny sx sy
  have c2 := q22signs_af op x y hx hy
  obtain ⟨j3, c3⟩ := q22equals_af op x y sx
  have c4 := q22booleans_af op x y
  have c5 := q22comparisons_af op x y hx hy sx
  have c6 := q22masks_af op x y ny.n
  refine ⟨x, ?_⟩
  rw [sTwo_eq']
  obtain ⟨r1, h1⟩ : ∃ r, sEarly op x y = r := ⟨_, rfl⟩
  obtain ⟨r2, h2⟩ : ∃ r, sSign op x y = r := ⟨_, rfl⟩
  obtain ⟨r3, h3'⟩ : ∃ r, sSame op x y = r := ⟨_, rfl⟩
  obtain ⟨r4, h4⟩ : ∃ r, sTruth op x y = r := ⟨_, rfl⟩
  obtain ⟨r5, h5⟩ : ∃ r, (sMove op x y).or (sBelow op x y) = r := ⟨_, rfl⟩
  obtain ⟨r6, h6⟩ : ∃ r, sMask op x y = r := ⟨_, rfl⟩
  rw [h1] at c1
  rw [h2] at c2
  rw [h3'] at c3
  rw [h4] at c4
  rw [h5] at c5
  rw [h6] at c6
  rw [h1, h2, h3', h4, h5, h6]
  clear h1 h2 h3' h4 h5 h6
  refine af_of Tryz.func190 rfl (by kernel_rfl) (by simp [Tryz.ntmps190]) fun _ => ?_; simp [Tryz.f190, Ex.d_eq]
  refine aCall_of (c1) (by simp) (by simp [Ex.d_eq]) ?_; simp [Ex.d_eq]
  cases r1 with
  | some r => simp
  | none =>
    simp
    refine aCall_of (c2) (by simp) (by simp [Ex.d_eq]) ?_; simp [Ex.d_eq]
    cases r2 with
    | some r => simp
    | none =>
      simp
      refine aCall_of (c3) (by simp) (by simp [Ex.d_eq]) ?_; simp [Ex.d_eq]
      cases r3 with
      | some r => simp
      | none =>
        simp
        refine aCall_of (c4) (by simp) (by simp [Ex.d_eq]) ?_; simp [Ex.d_eq]
        cases r4 with
        | some r => simp
        | none =>
          simp
          refine aCall_of (c5) (by simp) (by simp [Ex.d_eq]) ?_; simp [Ex.d_eq]
          cases r5 with
          | some r => simp
          | none =>
            simp
            refine aCall_of (c6) (by simp) (by simp [Ex.d_eq]) ?_; simp [Ex.d_eq]
/-- The first rule that applies, in the reference. -/
theorem q22rewrite_af (e : Ex) (hf : formB e = true) (hn : OkN e) (se : e.nodes ≤ 1000000000) : ∃ j, AF Tryz.prog 139 [exA e] (oA j (sRule e)) := by
  have hop := form_op hf
  obtain ⟨j, hc⟩ := q22fold_af e hf hn
  unfold sRule
  cases hF : sFold e with
  | some r =>
    rw [hF] at hc
    refine ⟨r, ?_⟩
    simp only [Option.some_or]
    refine af_of Tryz.func139 rfl (by kernel_rfl) (by simp [Tryz.ntmps139]) fun _ => ?_; simp [Tryz.f139, Ex.d_eq]
    refine aCall_of (hc) (by simp) (by simp [Ex.d_eq]) ?_; simp [Ex.d_eq]
  | none =>
    rw [hF] at hc
    simp only [Option.none_or]
    by_cases h2 : e.op ≤ 2
    · have hl : e.l = [] := by
        rcases (show e.op = 1 ∨ e.op = 2 by omega) with h | h
        · rw [form_con hf h]; rfl
        · rw [(form_var hf h).1]; rfl
      have hR : sRest e = none := by
        unfold sRest
        rw [if_neg (by omega), if_neg (by omega), if_neg (by omega), if_neg (by omega)]
      rw [hR]
      refine ⟨j, ?_⟩
      refine af_of Tryz.func139 rfl (by kernel_rfl) (by simp [Tryz.ntmps139]) fun _ => ?_; simp [Tryz.f139, Ex.d_eq]
      refine aCall_of (hc) (by simp) (by simp [Ex.d_eq]) ?_; simp [Ex.d_eq]
      simp [hl]
    by_cases h15 : e.op ≤ 15
    · obtain ⟨op, hoe⟩ : ∃ op, e.op = op := ⟨_, rfl⟩
      obtain ⟨x, y, he, hfx, hfy⟩ := form_two' hf hoe (by omega) (by omega)
      rw [hoe] at h2 h15 hop
      subst he
      clear hoe
      simp only [nodes_two] at se
      have hR : sRest (eTwo op x y) = sTwo op x y := by
        unfold sRest
        rw [if_neg (by simp; omega), if_neg (by simp; omega), if_neg (by simp; omega), if_pos (by simp; omega)]
        simp
      obtain ⟨j2, c2⟩ := q22two_af op x y (by omega) h15 hfx hfy (hn.l x (by simp)) (hn.l y (by simp)) (by omega) (by omega)
      rw [hR]
      refine ⟨j2, ?_⟩
      refine af_of Tryz.func139 rfl (by kernel_rfl) (by simp [Tryz.ntmps139]) fun _ => ?_; simp [Tryz.f139, Ex.d_eq]
      refine aCall_of (hc) (by simp) (by simp [Ex.d_eq]) ?_; simp [Ex.d_eq]
      simp [show ¬ op = 16 by omega, show ¬ op = 17 by omega, show ¬ op = 18 by omega, show ¬ op = 19 by omega]
      refine adraw [] (by kernel_rfl) (by kernel_rfl) (by kernel_rfl) (by kernel_rfl) ?_; simp [Ex.d_eq]
      refine adC_of (c2) (by simp) trivial (by simp) (by simp [Ex.d_eq]) ?_; simp [Ex.d_eq]
    rcases (show e.op = 16 ∨ e.op = 17 ∨ e.op = 18 ∨ e.op = 19 by omega) with k | k | k | k
    · obtain ⟨x, he, hfx⟩ := form_one hf (.inl k)
      rw [k] at he
      subst he
      have hR : sRest (eOne 16 x) = sNot x := by simp [sRest]
      obtain ⟨j2, c2⟩ := q22not_af x hfx
      rw [hR]
      refine ⟨j2, ?_⟩
      refine af_of Tryz.func139 rfl (by kernel_rfl) (by simp [Tryz.ntmps139]) fun _ => ?_; simp [Tryz.f139, Ex.d_eq]
      refine aCall_of (hc) (by simp) (by simp [Ex.d_eq]) ?_; simp [Ex.d_eq]
      refine aCall_of (c2) (by simp) (by simp [Ex.d_eq]) ?_; simp [Ex.d_eq]
    · obtain ⟨x, he, hfx⟩ := form_one hf (.inr k)
      rw [k] at he
      subst he
      have hR : sRest (eOne 17 x) = sNeg x := by simp [sRest]
      rw [hR]
      refine ⟨x, ?_⟩
      refine af_of Tryz.func139 rfl (by kernel_rfl) (by simp [Tryz.ntmps139]) fun _ => ?_; simp [Tryz.f139, Ex.d_eq]
      refine aCall_of (hc) (by simp) (by simp [Ex.d_eq]) ?_; simp [Ex.d_eq]
      refine aCall_of (q22neg_af x hfx) (by simp) (by simp [Ex.d_eq]) ?_; simp [Ex.d_eq]
    · have hR : sRest e = none := by simp [sRest, k]
      rw [hR]
      have hl : ¬ e.l = [] := by
        have := (form_one3 hf (by omega)).1
        intro h
        have := congrArg Ex.l this
        rw [h] at this
        simp at this
      refine ⟨e, ?_⟩
      refine af_of Tryz.func139 rfl (by kernel_rfl) (by simp [Tryz.ntmps139]) fun _ => ?_; simp [Tryz.f139, Ex.d_eq]
      refine aCall_of (hc) (by simp) (by simp [Ex.d_eq]) ?_; simp [Ex.d_eq]
      simp [hl, k]
    · obtain ⟨x, hx', hx, hw⟩ := form_wide hf (.inr k)
      have nx : OkN x := hn.l x (by rw [hx']; simp)
      obtain ⟨w, hwd⟩ : ∃ w, e.wd = w := ⟨_, rfl⟩
      rw [k, hwd] at hx'
      subst hx'
      have hR : sRest (.mk 19 0 0 w [x]) = sExt w x := by simp [sRest]
      rw [hR]
      refine ⟨x, ?_⟩
      refine af_of Tryz.func139 rfl (by kernel_rfl) (by simp [Tryz.ntmps139]) fun _ => ?_; simp [Tryz.f139, Ex.d_eq]
      refine aCall_of (hc) (by simp) (by simp [Ex.d_eq]) ?_; simp [Ex.d_eq]
      refine adraw [] (by kernel_rfl) (by kernel_rfl) (by kernel_rfl) (by kernel_rfl) ?_; simp [Ex.d_eq]
      refine adC_of (q22sext_af w x hx nx) (by simp) trivial (by simp) (by simp [Ex.d_eq]) ?_; simp [Ex.d_eq]
end Go.Proofs.YtlidimmfpfockaaGreatDoor

/- Contract: the example of layer 22 holds. -/
namespace Go.Proofs.YtlidimmfpfockaaGreatDoor
open Go.RowKit
theorem smeachI0_af : AF Tryz.prog 84 [.d (.sl 1 []), .fn 85 [] []] (.d (.sl 1 [])) := by
  refine af_of Tryz.func84 rfl (by kernel_rfl) (by simp [Tryz.ntmps84]) fun _ => ?_; simp [Tryz.f84, Ex.d_eq]
theorem printst22 : AF Tryz.prog 13 [stV ⟨7, 0, 0, 3, 4, 0, [eOne 16 (eVar 1)], []⟩] (aS ⟨#[98, 114, 97, 110, 99, 104, 32, 33, 114, 49, 44, 32, 51, 44, 32, 52]⟩) := xres_af orc19_ok (lf := 100) (n := 60) (by kernel_rfl)
theorem rprint22a : AF Tryz.prog 17 [exA (eTwo 12 (eVar 1) (eVar 2))] (aS ⟨#[40, 114, 49, 32, 61, 61, 32, 114, 50, 41]⟩) := xres_af xnone_ok (lf := 100) (n := 60) (by kernel_rfl)
theorem rprint22b : AF Tryz.prog 17 [exA (eTwo 13 (eVar 1) (eCon 4294967292))] (aS ⟨#[40, 114, 49, 32, 33, 61, 32, 48, 120, 102, 102, 102, 102, 102, 102, 102, 99, 41]⟩) := xres_af xnone_ok (lf := 100) (n := 60) (by kernel_rfl)
theorem rprintst22 : AF Tryz.prog 14 [stV ⟨7, 0, 0, 4, 3, 0, [eVar 1], []⟩] (aS ⟨#[98, 114, 97, 110, 99, 104, 32, 114, 49, 44, 32, 52, 44, 32, 51]⟩) := xres_af xnone_ok (lf := 100) (n := 60) (by kernel_rfl)
theorem okN_var (v : Int) : OkN (eVar v) := .mk r32_0 (by simp)
theorem okN_mk (o w : Int) {a : Ex} (h : OkN a) : OkN (.mk o 0 0 w [a]) := .mk r32_0 (by simpa using h)
theorem okN_num {n : Int} (h1 : 0 ≤ n) (h2 : n < 4294967296) : OkN (eCon n) := okN_con ⟨h1, h2⟩
abbrev ld22 : Ex := .mk 18 0 0 4 [eVar 1]
theorem ex22a : AF Tryz.prog 23 [exA (eTwo 4 (eTwo 3 (eVar 1) (eCon 5)) (eCon 5))] (exA (eVar 1)) := by
  have := smexpr_af (eTwo 4 (eTwo 3 (eVar 1) (eCon 5)) (eCon 5)) (okN_two (okN_two (okN_var 1) (okN_num (by omega) (by omega))) (okN_num (by omega) (by omega))) (by simp)
  rwa [show sExpr (eTwo 4 (eTwo 3 (eVar 1) (eCon 5)) (eCon 5)) = eVar 1 by kernel_rfl] at this
theorem ex22b : AF Tryz.prog 23 [exA (eTwo 6 ld22 ld22)] (exA ld22) := by
  have := smexpr_af (eTwo 6 ld22 ld22) (okN_two (okN_mk 18 4 (okN_var 1)) (okN_mk 18 4 (okN_var 1))) (by decide)
  rwa [show sExpr (eTwo 6 ld22 ld22) = ld22 by kernel_rfl] at this
theorem ex22c : AF Tryz.prog 23 [exA (eTwo 4 ld22 ld22)] (exA (eTwo 4 ld22 ld22)) := by
  have := smexpr_af (eTwo 4 ld22 ld22) (okN_two (okN_mk 18 4 (okN_var 1)) (okN_mk 18 4 (okN_var 1))) (by decide)
  rwa [show sExpr (eTwo 4 ld22 ld22) = eTwo 4 ld22 ld22 by kernel_rfl] at this
theorem ex22d : AF Tryz.prog 23 [exA (eTwo 12 (eTwo 4 (eVar 1) (eVar 2)) (eCon 0))] (exA (eTwo 12 (eVar 1) (eVar 2))) := by
  have := smexpr_af (eTwo 12 (eTwo 4 (eVar 1) (eVar 2)) (eCon 0)) (okN_two (okN_two (okN_var 1) (okN_var 2)) (okN_num (by omega) (by omega))) (by simp)
  rwa [show sExpr (eTwo 12 (eTwo 4 (eVar 1) (eVar 2)) (eCon 0)) = eTwo 12 (eVar 1) (eVar 2) by kernel_rfl] at this
theorem ex22e : AF Tryz.prog 23 [exA (eTwo 15 (eCon 0) (eTwo 3 (eVar 1) (eCon 4)))] (exA (eTwo 13 (eVar 1) (eCon 4294967292))) := by
  have := smexpr_af (eTwo 15 (eCon 0) (eTwo 3 (eVar 1) (eCon 4))) (okN_two (okN_num (by omega) (by omega)) (okN_two (okN_var 1) (okN_num (by omega) (by omega)))) (by simp)
  rwa [show sExpr (eTwo 15 (eCon 0) (eTwo 3 (eVar 1) (eCon 4))) = eTwo 13 (eVar 1) (eCon 4294967292) by kernel_rfl] at this
theorem ex22f : AF Tryz.prog 25 [exA (eOne 16 (eTwo 14 (eVar 1) (eVar 2)))] (exA (eTwo 14 (eVar 1) (eVar 2))) := by
  have := smnegate_af (eOne 16 (eTwo 14 (eVar 1) (eVar 2))) (okN_one (okN_two (okN_var 1) (okN_var 2))) (by simp)
  rwa [show sExpr (eOne 16 (eOne 16 (eTwo 14 (eVar 1) (eVar 2)))) = eTwo 14 (eVar 1) (eVar 2) by kernel_rfl] at this
theorem ex22g : AF Tryz.prog 20 [exA (eTwo 4 (eVar 1) (eVar 1))] (.tup [aI .u32 0, aB true]) := by
  have := smisconst_af (eTwo 4 (eVar 1) (eVar 1)) (okN_two (okN_var 1) (okN_var 1)) (by simp)
  rwa [show sIs (eTwo 4 (eVar 1) (eVar 1)) = true by kernel_rfl, if_pos rfl, show sExpr (eTwo 4 (eVar 1) (eVar 1)) = eCon 0 by kernel_rfl] at this
theorem ex22h : AF Tryz.prog 23 [exA (eOne 16 (eVar 1))] (exA (eOne 16 (eVar 1))) := by
  have := smexpr_af (eOne 16 (eVar 1)) (okN_one (okN_var 1)) (by simp)
  rwa [show sExpr (eOne 16 (eVar 1)) = eOne 16 (eVar 1) by kernel_rfl] at this
theorem stmt22 : AF Tryz.prog 28 [stV ⟨7, 0, 0, 3, 4, 0, [eOne 16 (eVar 1)], []⟩] (stV ⟨7, 0, 0, 4, 3, 0, [eVar 1], []⟩) := by
  have he := smeach_af 23 (fun _ => eOne 16 (eVar 1)) [eOne 16 (eVar 1)] (by simp) (by kernel_rfl) fun y hy => by
    simp only [List.mem_singleton] at hy
    subst hy
    exact ex22h
  refine af_of Tryz.func28 rfl (by kernel_rfl) (by simp [Tryz.ntmps28]) fun _ => ?_; simp [Tryz.f28, Ex.d_eq]
  refine aCall_of (smeachI0_af) (by simp) (by simp [Ex.d_eq]) ?_; simp [Ex.d_eq]
  refine aCall_of printst22 (by simp) (by simp [Ex.d_eq]) ?_; simp [Ex.d_eq]
  refine aCall_of (he) (by simp) (by simp [Ex.d_eq]) ?_; simp [Ex.d_eq]
  refine aLoop_iter 3 ?_; simp [Ex.d_eq]
theorem l22ex_af : AF Tryz.prog 19 [] (aB true) := by
  refine af_of Tryz.func19 rfl (by kernel_rfl) (by simp [Tryz.ntmps19]) fun _ => ?_; simp [Tryz.f19, Ex.d_eq]
  refine aCall_of (r19var_af 1) (by simp) (by simp [Ex.d_eq]) ?_; simp [Ex.d_eq]
  refine aCall_of (r19var_af 2) (by simp) (by simp [Ex.d_eq]) ?_; simp [Ex.d_eq]
  refine aCall_of (r19load_af 4 (eVar 1)) (by simp) (by simp [Ex.d_eq]) ?_; simp [Ex.d_eq]
  refine aCall_of (r19two_af 14 (eVar 1) (eVar 2)) (by simp) (by simp [Ex.d_eq]) ?_; simp [Ex.d_eq]
  refine aCall_of (r19one_af 16 (eVar 1)) (by simp) (by simp [Ex.d_eq]) ?_; simp [Ex.d_eq]
  refine aCall_ofz [4] stmt22 (by simp) (by simp [frz, Ex.d_eq]) ?_; simp [frz, Ex.d_eq]
  refine aCall_of (r19two_af 4 (eVar 1) (eVar 1)) (by simp) (by simp [Ex.d_eq]) ?_; simp [Ex.d_eq]
  refine aCall_of (ex22g) (by simp) (by simp [Ex.d_eq]) ?_; simp [Ex.d_eq]
  refine adraw [] (by kernel_rfl) (by kernel_rfl) (by kernel_rfl) (by kernel_rfl) ?_; simp [Ex.d_eq]
  refine adC_of (r19const_af 5) (by simp) trivial (by simp) (by simp [Ex.d_eq]) ?_; simp [Ex.d_eq]
  refine adC_of (r19two_af 3 (eVar 1) (eCon 5)) (by simp) trivial (by simp) (by simp [Ex.d_eq]) ?_; simp [Ex.d_eq]
  refine adC_of (r19const_af 5) (by simp) trivial (by simp) (by simp [Ex.d_eq]) ?_; simp [Ex.d_eq]
  refine adC_of (r19two_af 4 (eTwo 3 (eVar 1) (eCon 5)) (eCon 5)) (by simp) trivial (by simp) (by simp [Ex.d_eq]) ?_; simp [Ex.d_eq]
  refine adC_of (ex22a) (by simp) trivial (by simp) (by simp [Ex.d_eq]) ?_; simp [Ex.d_eq]
  have sm1 := refsame_af (eVar 1) (eVar 1)
  rw [sameB_refl] at sm1
  refine adC_of (sm1) (by simp) trivial (by simp) (by simp [Ex.d_eq]) ?_; simp [Ex.d_eq]
  refine adC_of (r19two_af 6 ld22 ld22) (by simp) trivial (by simp) (by simp [Ex.d_eq]) ?_; simp [Ex.d_eq]
  refine adC_of (ex22b) (by simp) trivial (by simp) (by simp [Ex.d_eq]) ?_; simp [Ex.d_eq]
  have sm2 := refsame_af ld22 ld22
  rw [sameB_refl] at sm2
  refine adC_of (sm2) (by simp) trivial (by simp) (by simp [Ex.d_eq]) ?_; simp [Ex.d_eq]
  refine adC_of (r19two_af 4 ld22 ld22) (by simp) trivial (by simp) (by simp [Ex.d_eq]) ?_; simp [Ex.d_eq]
  refine adC_of (ex22c) (by simp) trivial (by simp) (by simp [Ex.d_eq]) ?_; simp [Ex.d_eq]
  have sz := r19size_af (eTwo 4 ld22 ld22) (by decide)
  rw [show (eTwo 4 ld22 ld22).nodes = 5 by kernel_rfl] at sz
  refine adC_of (sz) (by simp) trivial (by simp) (by simp [Ex.d_eq]) ?_; simp [Ex.d_eq]
  refine adC_of (r19two_af 4 (eVar 1) (eVar 2)) (by simp) trivial (by simp) (by simp [Ex.d_eq]) ?_; simp [Ex.d_eq]
  refine adC_of (r19const_af 0) (by simp) trivial (by simp) (by simp [Ex.d_eq]) ?_; simp [Ex.d_eq]
  refine adC_of (r19two_af 12 (eTwo 4 (eVar 1) (eVar 2)) (eCon 0)) (by simp) trivial (by simp) (by simp [Ex.d_eq]) ?_; simp [Ex.d_eq]
  refine adC_of (ex22d) (by simp) trivial (by simp) (by simp [Ex.d_eq]) ?_; simp [Ex.d_eq]
  refine adC_of (rprint22a) (by simp) trivial (by simp) (by simp [Ex.d_eq]) ?_; simp [Ex.d_eq]
  refine adC_of (r19one_af 16 (eTwo 14 (eVar 1) (eVar 2))) (by simp) trivial (by simp) (by simp [Ex.d_eq]) ?_; simp [Ex.d_eq]
  refine adC_of (ex22f) (by simp) trivial (by simp) (by simp [Ex.d_eq]) ?_; simp [Ex.d_eq]
  have sm3 := refsame_af (eTwo 14 (eVar 1) (eVar 2)) (eTwo 14 (eVar 1) (eVar 2))
  rw [sameB_refl] at sm3
  refine adC_of (sm3) (by simp) trivial (by simp) (by simp [Ex.d_eq]) ?_; simp [Ex.d_eq]
  refine adC_of (rprintst22) (by simp) trivial (by simp) (by simp [Ex.d_eq]) ?_; simp [Ex.d_eq]
  refine adC_of (r19const_af 0) (by simp) trivial (by simp) (by simp [Ex.d_eq]) ?_; simp [Ex.d_eq]
  refine adC_of (r19const_af 4) (by simp) trivial (by simp) (by simp [Ex.d_eq]) ?_; simp [Ex.d_eq]
  refine adC_of (r19two_af 3 (eVar 1) (eCon 4)) (by simp) trivial (by simp) (by simp [Ex.d_eq]) ?_; simp [Ex.d_eq]
  refine adC_of (r19two_af 15 (eCon 0) (eTwo 3 (eVar 1) (eCon 4))) (by simp) trivial (by simp) (by simp [Ex.d_eq]) ?_; simp [Ex.d_eq]
  refine adC_of (ex22e) (by simp) trivial (by simp) (by simp [Ex.d_eq]) ?_; simp [Ex.d_eq]
  refine adC_of (rprint22b) (by simp) trivial (by simp) (by simp [Ex.d_eq]) ?_; simp [Ex.d_eq]
end Go.Proofs.YtlidimmfpfockaaGreatDoor

/- Contracts: the reference's simplification; the law SimplifyExact answers true. -/
namespace Go.Proofs.YtlidimmfpfockaaGreatDoor
open Go.RowKit
set_option maxRecDepth 100000 in
theorem q22simplified_af : ∀ (k : Nat) (x : Ex), formB x = true → OkN x → sw x ≤ k → x.nodes ≤ 1000000 → AF Tryz.prog 81 [exA x] (exA (simpF k x)) := by
  intro k
  induction k with
  | zero => intro e _ _ h; have := sw_pos e; omega
  | succ k ih =>
  intro x hf hn hw hs
  obtain ⟨f1, f2, f3, f4⟩ := simp_map hf hn hw
  have hlen := x.nodes_len
  have n1 : x.l.length ≤ maxLen := by unfold maxLen; omega
  have hch : ∀ y ∈ x.l, AF Tryz.prog 81 [exA y] (exA (simpF k y)) := fun y hy => ih y ((form_all hf).2 y hy) (hn.l y hy) (by have := sw_mem hy; omega) (by have := Ex.nodes_mem hy; omega)
  obtain ⟨R, hR⟩ : ∃ R, simpF (k + 1) x = R := ⟨_, rfl⟩
  rw [hR]
  rw [simpF_succ] at hR
  refine af_of Tryz.func81 rfl (by kernel_rfl) (by simp [Tryz.ntmps81]) fun _ => ?_; simp [Tryz.f81, Ex.d_eq]
  refine aLoop_of (α := Nat) (fun i e A => i ≤ x.l.length ∧ A = [exC x, nilC, ⟨i, true, 38, 5, dEls (Ex.ds ((x.l.take i).map (simpF k)))⟩] ∧
    e 4 = aI .i64 i ∧ e 3 = .own 2 i 0 i ∧ e 1 = .ptr 0 0 0 0 ∧ e 2 = .ptr 1 0 0 0) (fun i => x.l.length - i) 0 ((Sub.ghost 0 38 5).trans (Sub.slot (s := 3) (c := .own 2 0 0 0) ?_))
    ⟨by omega, by simp, by simp, by simp, by simp, by simp⟩ ?_
  · simp
    exact VLe.nil_own (k := ⟨0, true, 38, 5, []⟩) (by simp) rfl
  rintro i e A ⟨hi, rfl, e4, e3, e1, e2⟩ K hK
  rcases Nat.lt_or_ge i x.l.length with hlt | hge
  case inl =>
    obtain ⟨y, hy⟩ : ∃ y, x.l[i]? = some y := ⟨_, List.getElem?_eq_getElem hlt⟩
    have hy2 := (List.getElem?_eq_some_iff.1 hy).2
    have hmin : min i x.l.length = i := by omega
    simp [e4, e3, e1, hlt, hy, hy2, Ex.d_eq]
    refine aCall_of (hch y (List.mem_of_getElem? hy)) (by simp) (by simp) ?_
    simp [e3, e4, Ex.d_eq, hmin]
    refine aRaw_app byt_23 ?_
    simp [e3, e4, Ex.d_eq, hmin]
    refine ⟨by unfold maxLen; omega, by omega, ?_⟩
    simp [e4, succ_wrap hlt n1]
    have hels : dEls (Ex.ds (List.map (simpF k) (List.take (i + 1) x.l))) = dEls (Ex.ds (List.map (simpF k) (List.take i x.l))) ++ [[aI .i64 (simpF k y).op, aI .u32 (simpF k y).n, aI .i64 (simpF k y).v, aI .i64 (simpF k y).wd, .d (.sl 5 (Ex.ds (simpF k y).l))]] := by
      rw [List.take_add_one, hy]
      simp [Ex.ds_map, dEls, Ex.d_eq]
    refine hK (i + 1) _ _ _ _ (Sub.take 3 (Nat.zero_le _)) ⟨by omega, by rw [hels]; simp, by simp, by simp, by simp [e1], by simp [e2]⟩ (by omega)
  obtain rfl : i = x.l.length := by omega
  rw [List.take_length]
  obtain ⟨M, hM⟩ : ∃ M, x.l.map (simpF k) = M := ⟨_, rfl⟩
  have hMl : x.l.length = M.length := by rw [← hM]; simp
  rw [hM] at f1 f2 f3 f4 hR ⊢
  have hMt : List.take M.length (Ex.ds M) = Ex.ds M := List.take_of_length_le (by simp)
  obtain ⟨j, hr⟩ := q22rewrite_af (.mk x.op x.n x.v x.wd M) f1 f2 (by omega)
  simp [e4, e3, e1, Ex.d_eq]
  rw [hMl]
  cases hS : sRule (.mk x.op x.n x.v x.wd M) with
  | none =>
    rw [hS] at hR hr
    simp only at hR
    subst hR
    refine aCall_ofz [2] hr (by simp) (by simp [frz, Ex.d_eq, hMt]) ?_
    simp [frz, Ex.d_eq, e1, e2, hMt]
  | some r =>
    rw [hS] at hR hr
    simp only at hR
    subst hR
    have hl := srule_less f1 hS
    have hrec := ih r hl.form (rule_okN f1 f2 hS) (by have := hl.sw; omega) (by have := hl.nodes; omega)
    refine aCall_ofz [2] hr (by simp) (by simp [frz, Ex.d_eq, hMt]) ?_
    simp [frz, Ex.d_eq, e1, e2, hMt]
    refine aCall_of (hrec) (by simp) (by simp [Ex.d_eq]) ?_; simp [Ex.d_eq]
    simp [e2]
theorem q22expr_af (e : Ex) (hn : OkN e) (hs : e.nodes ≤ 1000000) : AF Tryz.prog 24 [exA e] (exA (sExpr e)) := by
  have hc := rcheck_af e
  unfold sExpr
  by_cases h : shalB 64 e = true ∧ formB e = true
  · rw [if_pos h.1, if_pos h.2] at hc
    rw [if_pos h]
    refine af_of Tryz.func24 rfl (by kernel_rfl) (by simp [Tryz.ntmps24]) fun _ => ?_; simp [Tryz.f24, Ex.d_eq]
    refine aCall_of (hc) (by simp) (by simp [Ex.d_eq]) ?_; simp [Ex.d_eq]
    refine aCall_of (q22simplified_af (sw e) e h.2 hn (Nat.le_refl _) hs) (by simp) (by simp [Ex.d_eq]) ?_; simp [Ex.d_eq]
  · rw [if_neg h]
    by_cases h1 : shalB 64 e = true
    · have h2 : formB e = false := by simpa [h1] using h
      rw [if_pos h1, if_neg (by simp [h2])] at hc
      refine af_of Tryz.func24 rfl (by kernel_rfl) (by simp [Tryz.ntmps24]) fun _ => ?_; simp [Tryz.f24, Ex.d_eq]
      refine aCall_of (hc) (by simp) (by simp [Ex.d_eq]) ?_; simp [Ex.d_eq]
    · rw [if_neg h1] at hc
      refine af_of Tryz.func24 rfl (by kernel_rfl) (by simp [Tryz.ntmps24]) fun _ => ?_; simp [Tryz.f24, Ex.d_eq]
      refine aCall_of (hc) (by simp) (by simp [Ex.d_eq]) ?_; simp [Ex.d_eq]
theorem q22isconst_af (e : Ex) (hn : OkN e) (hs : e.nodes ≤ 1000000) : AF Tryz.prog 21 [exA e] (.tup [aI .u32 (if sIs e = true then (sExpr e).n else 0), aB (sIs e)]) := by
  have hc := rcheck_af e
  have hx := q22expr_af e hn hs
  unfold sIs
  by_cases h1 : shalB 64 e = true
  · by_cases h2 : formB e = true
    · rw [if_pos h1, if_pos h2] at hc
      refine af_of Tryz.func21 rfl (by kernel_rfl) (by simp [Tryz.ntmps21]) fun _ => ?_; simp [Tryz.f21, Ex.d_eq]
      refine aCall_of (hx) (by simp) (by simp [Ex.d_eq]) ?_; simp [Ex.d_eq]
      refine aCall_of (hc) (by simp) (by simp [Ex.d_eq]) ?_; simp [Ex.d_eq]
      by_cases h3 : (sExpr e).op = 1 <;> simp [h1, h2, h3]
    · rw [if_pos h1, if_neg h2] at hc
      refine af_of Tryz.func21 rfl (by kernel_rfl) (by simp [Tryz.ntmps21]) fun _ => ?_; simp [Tryz.f21, Ex.d_eq]
      refine aCall_of (hx) (by simp) (by simp [Ex.d_eq]) ?_; simp [Ex.d_eq]
      refine aCall_of (hc) (by simp) (by simp [Ex.d_eq]) ?_; simp [Ex.d_eq]
      simp [h1, h2]
  · rw [if_neg h1] at hc
    refine af_of Tryz.func21 rfl (by kernel_rfl) (by simp [Tryz.ntmps21]) fun _ => ?_; simp [Tryz.f21, Ex.d_eq]
    refine aCall_of (hx) (by simp) (by simp [Ex.d_eq]) ?_; simp [Ex.d_eq]
    refine aCall_of (hc) (by simp) (by simp [Ex.d_eq]) ?_; simp [Ex.d_eq]
    simp [h1]
theorem q22negated_af (e : Ex) (hn : OkN e) (hs : e.nodes ≤ 999999) : AF Tryz.prog 26 [exA e] (exA (sExpr (eOne 16 e))) := by
  refine af_of Tryz.func26 rfl (by kernel_rfl) (by simp [Tryz.ntmps26]) fun _ => ?_; simp [Tryz.f26, Ex.d_eq]
  refine aCall_of (r19one_af 16 e) (by simp) (by simp [Ex.d_eq]) ?_; simp [Ex.d_eq]
  refine aCall_of (q22expr_af (eOne 16 e) (okN_one hn) (by simp; omega)) (by simp) (by simp [Ex.d_eq]) ?_; simp [Ex.d_eq]
theorem small_n3x {e : Ex} {m : Int} (h : 0 ≤ nodI e m 3000) : e.nodes ≤ 3000 := by
  have := (nodI_le e m 3000 (by omega)).2
  omega
theorem exact22_af (e : Ex) (hn : OkN e) : AF Tryz.prog 5 [exA e] (aB true) := by
  refine af_of Tryz.func5 rfl (by kernel_rfl) (by simp [Tryz.ntmps5]) fun _ => ?_; simp [Tryz.f5, Ex.d_eq]
  refine aCall_of (small_af e 70 (by omega) (by omega)) (by simp) (by simp [Ex.d_eq]) ?_; simp [Ex.d_eq]
  by_cases hs : 0 ≤ nodI e 70 3000
  case neg =>
    simp [hs]
    refine aCall_of (l22ex_af) (by simp) (by simp [Ex.d_eq]) ?_; simp [Ex.d_eq]
  have hnd := small_n3x hs
  have s1 := refsame_af (sExpr e) (sExpr e)
  rw [sameB_refl] at s1
  have s2 := refsame_af (sExpr (eOne 16 e)) (sExpr (eOne 16 e))
  rw [sameB_refl] at s2
  simp [hs]
  refine aCall_of (smisconst_af e hn (by omega)) (by simp) (by simp [Ex.d_eq]) ?_; simp [Ex.d_eq]
  refine aCall_of (q22isconst_af e hn (by omega)) (by simp) (by simp [Ex.d_eq]) ?_; simp [Ex.d_eq]
  refine adraw [] (by kernel_rfl) (by kernel_rfl) (by kernel_rfl) (by kernel_rfl) ?_; simp [Ex.d_eq]
  refine adC_of (smexpr_af e hn (by omega)) (by simp) trivial (by simp) (by simp [Ex.d_eq]) ?_; simp [Ex.d_eq]
  refine adC_of (q22expr_af e hn (by omega)) (by simp) trivial (by simp) (by simp [Ex.d_eq]) ?_; simp [Ex.d_eq]
  refine adC_of (s1) (by simp) trivial (by simp) (by simp [Ex.d_eq]) ?_; simp [Ex.d_eq]
  refine adC_of (smnegate_af e hn (by omega)) (by simp) trivial (by simp) (by simp [Ex.d_eq]) ?_; simp [Ex.d_eq]
  refine adC_of (q22negated_af e hn (by omega)) (by simp) trivial (by simp) (by simp [Ex.d_eq]) ?_; simp [Ex.d_eq]
  refine adC_of (s2) (by simp) trivial (by simp) (by simp [Ex.d_eq]) ?_; simp [Ex.d_eq]
  refine adC_of (l22ex_af) (by simp) trivial (by simp) (by simp [Ex.d_eq]) ?_; simp [Ex.d_eq]
end Go.Proofs.YtlidimmfpfockaaGreatDoor

/- Contract: the law SimplifyFixed answers true. -/
namespace Go.Proofs.YtlidimmfpfockaaGreatDoor
open Go.RowKit
theorem sexpr_ok {e : Ex} (hs : shalB 64 e = true) (hf : formB e = true) : SOk (sExpr e) e := by
  unfold sExpr
  rw [if_pos ⟨hs, hf⟩]
  exact simp_ok _ e hf (Nat.le_refl _)
theorem sexpr_okN {e : Ex} (hs : shalB 64 e = true) (hf : formB e = true) (hn : OkN e) : OkN (sExpr e) := by
  unfold sExpr
  rw [if_pos ⟨hs, hf⟩]
  exact simp_okN hf hn (Nat.le_refl _)
theorem sexpr_shal {e : Ex} (hs : shalB 64 e = true) (hf : formB e = true) : shalB 64 (sExpr e) = true := by
  have := (sexpr_ok hs hf).depth
  rw [shal_iff] at hs ⊢
  omega
theorem sexpr_eq {e : Ex} (hs : shalB 64 e = true) (hf : formB e = true) : sExpr e = simpF (sw e) e := by
  unfold sExpr
  rw [if_pos ⟨hs, hf⟩]
theorem small_n3 {e : Ex} {m : Int} (h : 0 ≤ nodI e m 3000) : e.nodes ≤ 3000 := by
  have := (nodI_le e m 3000 (by omega)).2
  omega
end Go.Proofs.YtlidimmfpfockaaGreatDoor

/- Contracts: law 22's memory; the reference's loads from it. -/
namespace Go.Proofs.YtlidimmfpfockaaGreatDoor
open Go.RowKit
def rodN : ByteArray := ⟨#[114, 111, 100, 97, 116, 97]⟩
@[simp] def srowD (nm : ByteArray) (ad : Int) (wr : Bool) (B : List Int) : List D := [.v (.string nm), .v (.int .u32 ad), .sl 1 (u8s B), .v (.bool wr), .v (.bool false)]
@[simp] def srowA (nm : ByteArray) (ad : Int) (wr : Bool) (B : List Int) : AV := .agg [aS nm, aI .u32 ad, .d (.sl 1 (u8s B)), aB wr, aB false]
/-- The two sections. -/
@[simp] def sec2 (B C : List Int) : List (List D) := [srowD dataN 8192 true B, srowD rodN 12288 false C]
def reg2 (a : Int) : Int := if 978944 ≤ a ∧ a < 983040 then 2 else if 8192 ≤ a ∧ a < 8224 then 0 else if 12288 ≤ a ∧ a < 12304 then 1 else -1
def rst2 (a : Int) : Int := if 978944 ≤ a ∧ a < 983040 then 983040 - a else if 8192 ≤ a ∧ a < 8224 then 8224 - a else if 12288 ≤ a ∧ a < 12304 then 12304 - a else 0
def by2 (B C : List Int) (a : Int) : Int := if 8192 ≤ a ∧ a < 8224 then B.getD (a - 8192).toNat 0 else if 12288 ≤ a ∧ a < 12304 then C.getD (a - 12288).toNat 0 else 0
/-- So many bytes from the top down, the lowest last. -/
def ld2 (f : Int → Int) (a : Int) : Nat → Int → Int
  | 0, n => n
  | k + 1, n => ld2 f a k ((256 * n + f ((a + k) % 4294967296)) % 4294967296)
def ldR2 (B C : List Int) (a w : Int) : Int × Int := if rst2 a < w then (0, 11) else (ld2 (by2 B C) a w.toNat 0, 0)
section
variable {B C : List Int} (hB : B.length = 32) (hC : C.length = 16)
theorem end2_af (nm : ByteArray) (ad : Int) (wr : Bool) (L : List Int) (h : 0 ≤ ad ∧ ad + L.length ≤ 100000) : AF Tryz.prog 192 [srowA nm ad wr L] (aI .i64 (ad + L.length)) := by
  refine af_of Tryz.func192 rfl (by kernel_rfl) (by simp [Tryz.ntmps192]) fun _ => ?_; simp [Tryz.f192, Ex.d_eq]
  simp [i64w (n := ad) (by omega), i64w (n := ad + L.length) (by omega), show ¬ 4294967295 < ad + L.length by omega]
include hB hC
theorem find2_af (a : Int) (ha : R32 a) : AF Tryz.prog 266 [.d (.sl 5 (sec2 B C)), aI .u32 a] (aI .i64 (if 8192 ≤ a ∧ a < 8224 then 0 else if 12288 ≤ a ∧ a < 12304 then 1 else -1)) := by
  have h1 := ha.1
  have h2 := ha.2
  have e0 := end2_af dataN 8192 true B (by omega)
  have e1 := end2_af rodN 12288 false C (by omega)
  rw [hB] at e0
  rw [hC] at e1
  simp at e0 e1
  refine af_of Tryz.func266 rfl (by kernel_rfl) (by simp [Tryz.ntmps266]) fun _ => ?_; simp [Tryz.f266, Ex.d_eq]
  refine aLoop_iter 3 ?_; simp [Ex.d_eq]
  by_cases h3 : 8192 ≤ a
  · simp [h3]
    refine aCall_of (e0) (by simp) (by simp [Ex.d_eq]) ?_; simp [Ex.d_eq]
    simp [i64w (n := a) (by omega)]
    by_cases h4 : a < 8224
    · simp [h4]
    · simp [h4]
      by_cases h5 : 12288 ≤ a
      · simp [h5]
        refine aCall_of (e1) (by simp) (by simp [Ex.d_eq]) ?_; simp [Ex.d_eq]
        simp [i64w (n := a) (by omega)]
        by_cases h6 : a < 12304 <;> simp [h6]
      · simp [h5]
  · simp [h3, show ¬ 12288 ≤ a by omega]
theorem region2_af (a : Int) (ha : R32 a) : AF Tryz.prog 244 [memA (sec2 B C) [], aI .u32 a] (aI .i64 (reg2 a)) := by
  unfold reg2
  refine af_of Tryz.func244 rfl (by kernel_rfl) (by simp [Tryz.ntmps244]) fun _ => ?_; simp [Tryz.f244, Ex.d_eq]
  by_cases h1 : 978944 ≤ a
  · by_cases h2 : a < 983040
    · simp [h1, h2]
    · simp [h1, h2]
      refine aCall_of (find2_af hB hC a ha) (by simp) (by simp [Ex.d_eq]) ?_; simp [Ex.d_eq]
  · simp [h1]
    refine aCall_of (find2_af hB hC a ha) (by simp) (by simp [Ex.d_eq]) ?_; simp [Ex.d_eq]
theorem rest2_af (a : Int) (ha : R32 a) : AF Tryz.prog 195 [memA (sec2 B C) [], aI .u32 a] (aI .i64 (rst2 a)) := by
  have h1 := ha.1
  have h2 := ha.2
  refine af_of Tryz.func195 rfl (by kernel_rfl) (by simp [Tryz.ntmps195]) fun _ => ?_; simp [Tryz.f195, Ex.d_eq]
  refine aCall_of (region2_af hB hC a ha) (by simp) (by simp [Ex.d_eq]) ?_; simp [Ex.d_eq]
  unfold reg2 rst2
  by_cases hs : 978944 ≤ a ∧ a < 983040
  · simp [hs, u32e]
    rw [Int.emod_eq_of_lt (by omega) (by omega)]
    simp [i64w (n := 983040 - a) (by omega)]
  · by_cases hd : 8192 ≤ a ∧ a < 8224
    · have e1 : (a - 8192) % 4294967296 = a - 8192 := Int.emod_eq_of_lt (by omega) (by omega)
      simp [hs, hd]
      refine adraw [] (by kernel_rfl) (by kernel_rfl) (by kernel_rfl) (by kernel_rfl) ?_; simp [Ex.d_eq]
      simp [hB, u32e, e1, i64w (n := a - 8192) (by omega), i64w (n := 32 - (a - 8192)) (by omega)]
      try omega
    · by_cases hr : 12288 ≤ a ∧ a < 12304
      · have e1 : (a - 12288) % 4294967296 = a - 12288 := Int.emod_eq_of_lt (by omega) (by omega)
        simp [hs, hd, hr]
        refine adraw [] (by kernel_rfl) (by kernel_rfl) (by kernel_rfl) (by kernel_rfl) ?_; simp [Ex.d_eq]
        simp [hC, u32e, e1, i64w (n := a - 12288) (by omega), i64w (n := 16 - (a - 12288)) (by omega)]
        try omega
      · simp [hs, hd, hr]
theorem initial2_af (a : Int) (ha : R32 a) : AF Tryz.prog 245 [memA (sec2 B C) [], aI .u32 a] (aI .u8 (by2 B C a)) := by
  have h1 := ha.1
  have h2 := ha.2
  refine af_of Tryz.func245 rfl (by kernel_rfl) (by simp [Tryz.ntmps245]) fun _ => ?_; simp [Tryz.f245, Ex.d_eq]
  refine aCall_of (region2_af hB hC a ha) (by simp) (by simp [Ex.d_eq]) ?_; simp [Ex.d_eq]
  unfold reg2 by2
  by_cases hs : 978944 ≤ a ∧ a < 983040
  · simp [hs, show ¬ (8192 ≤ a ∧ a < 8224) by omega, show ¬ (12288 ≤ a ∧ a < 12304) by omega]
  · by_cases hd : 8192 ≤ a ∧ a < 8224
    · obtain ⟨j, hj⟩ : ∃ j : Nat, a = 8192 + j := ⟨(a - 8192).toNat, by omega⟩
      subst hj
      have e1 : ((8192 : Int) + j - 8192) % 4294967296 = j := by omega
      have hjl : j < B.length := by omega
      have hg : B[j]? = some B[j] := List.getElem?_eq_getElem hjl
      simp [hs, hd]
      refine adraw [] (by kernel_rfl) (by kernel_rfl) (by kernel_rfl) (by kernel_rfl) ?_; simp [Ex.d_eq]
      simp [hB, u32e, e1, hjl, hg, i64w (n := (j : Int)) (by omega), List.getD_eq_getElem?_getD]
      rw [show ((8192 : Int) + j - 8192).toNat = j by omega, hg]
      rfl
    · by_cases hr : 12288 ≤ a ∧ a < 12304
      · obtain ⟨j, hj⟩ : ∃ j : Nat, a = 12288 + j := ⟨(a - 12288).toNat, by omega⟩
        subst hj
        have e1 : ((12288 : Int) + j - 12288) % 4294967296 = j := by omega
        have hjl : j < C.length := by omega
        have hg : C[j]? = some C[j] := List.getElem?_eq_getElem hjl
        simp [hs, hd, hr]
        refine adraw [] (by kernel_rfl) (by kernel_rfl) (by kernel_rfl) (by kernel_rfl) ?_; simp [Ex.d_eq]
        simp [hC, u32e, e1, hjl, hg, i64w (n := (j : Int)) (by omega), List.getD_eq_getElem?_getD]
        rw [show ((12288 : Int) + j - 12288).toNat = j by omega, hg]
        rfl
      · simp [hs, hd, hr]
theorem present2_af (a : Int) (ha : R32 a) : AF Tryz.prog 196 [memA (sec2 B C) [], aI .u32 a] (aI .u8 (by2 B C a)) := by
  refine af_of Tryz.func196 rfl (by kernel_rfl) (by simp [Tryz.ntmps196]) fun _ => ?_; simp [Tryz.f196, Ex.d_eq]
  refine aLoop_iter 1 ?_; simp [Ex.d_eq]
  refine aCall_of (initial2_af hB hC a ha) (by simp) (by simp [Ex.d_eq]) ?_; simp [Ex.d_eq]
theorem load2_af (a w : Int) (ha : R32 a) (hw : w = 1 ∨ w = 2 ∨ w = 4) : AF Tryz.prog 143 [memA (sec2 B C) [], aI .u32 a, aI .i64 w] (.tup [aI .u32 (ldR2 B C a w).1, aI .i64 (ldR2 B C a w).2]) := by
  have h1 := ha.1
  have h2 := ha.2
  refine af_of Tryz.func143 rfl (by kernel_rfl) (by simp [Tryz.ntmps143]) fun _ => ?_; simp [Tryz.f143, Ex.d_eq]
  have c := r09width_af w
  rw [show (decide (w = 1) || decide (w = 2) || decide (w = 4)) = true by rcases hw with rfl | rfl | rfl <;> rfl] at c
  refine aCall_of c (by simp) (by simp [Ex.d_eq]) ?_; simp [Ex.d_eq]
  refine aCall_of (rest2_af hB hC a ha) (by simp) (by simp [Ex.d_eq]) ?_; simp [Ex.d_eq]
  unfold ldR2
  by_cases hr : rst2 a < w
  · simp [hr]
  have hwn : 0 ≤ w ∧ w ≤ 4 := by omega
  obtain ⟨m, hm⟩ : ∃ m : Nat, w = m := ⟨w.toNat, by omega⟩
  subst hm
  simp [hr, i64w (n := (m : Int) - 1) (by omega)]
  obtain ⟨R, hR⟩ : ∃ R, ld2 (by2 B C) a m 0 = R := ⟨_, rfl⟩
  rw [hR]
  refine aLoop_of (α := Nat) (fun k e A => k ≤ 4 ∧ A = [⟨0, true, 56, 3, [[aB true, .d (.sl 5 (sec2 B C)), .d (.sl 2 [])]]⟩] ∧ e 3 = .ptr 0 0 0 0 ∧ e 1 = aI .u32 a ∧ e 9 = aI .i64 ((k : Int) - 1) ∧ ∃ n, e 8 = aI .u32 n ∧ ld2 (by2 B C) a k n = R) (fun k => k) m (Sub.refl _ _ _)
    ⟨by omega, by simp, by simp, by simp, by simp, 0, by simp, hR⟩ ?_
  rintro k e A ⟨hk, rfl, e3, e1, e9, n, e8, hn⟩ K hK
  cases k with
  | zero =>
    simp only [ld2] at hn
    subst hn
    simp [e9, e8]
  | succ k =>
    rw [ld2] at hn
    have p1 := present2_af hB hC ((a + k) % 4294967296) (r32_mod _)
    simp [e9, e8, e3, e1, u32e, show (0 : Int) ≤ k by omega]
    refine aCall_of p1 (by simp) (by simp [Ex.d_eq]) ?_; simp [Ex.d_eq]
    simp [e9, e8, u32e, i64w (n := (k : Int) - 1) (by omega)]
    exact hK k _ _ _ _ (Sub.refl _ _ _) ⟨by omega, rfl, by simp [e3], by simp [e1], by simp, (256 * n + by2 B C ((a + k) % 4294967296)) % 4294967296, by simp, hn⟩ (by simp)
end
end Go.Proofs.YtlidimmfpfockaaGreatDoor

/- Contracts: law 22's memory is made. -/
namespace Go.Proofs.YtlidimmfpfockaaGreatDoor
open Go.RowKit
theorem r05rod_af : AF Tryz.prog 243 [aS rodN] (aB true) := xtrue_af xnone_ok (lf := 100) (n := 10) (by kernel_rfl)
theorem copy2_af (nm : ByteArray) (ad : Int) (wr : Bool) (L : List Int) (h0 : 0 < L.length) (h1 : L.length ≤ 1000) : AF Tryz.prog 193 [srowA nm ad wr L] (srowA nm ad wr L) := by
  refine af_of Tryz.func193 rfl (by kernel_rfl) (by simp [Tryz.ntmps193]) fun _ => ?_; simp [Tryz.f193, Ex.d_eq]
  refine aRaw_app byt_91 ?_
  simp
  have hall : ∀ x ∈ dEls (u8s L), x.length = 1 := fun x hx => by
    simp only [dEls, u8s, List.map_map, List.mem_map, Function.comp] at hx
    obtain ⟨n, _, rfl⟩ := hx
    rfl
  rw [if_pos hall]
  simp [maxLen]
  rw [List.take_of_length_le (by simp)]
  refine ⟨by omega, by omega, ?_⟩
  simp
theorem one20_af {B C : List Int} (hB : B.length = 32) : AF Tryz.prog 191 [.d (.sl 5 (sec2 B C)), aI .i64 0] (aI .i64 0) := by
  have e0 := end2_af dataN 8192 true B (by omega)
  rw [hB] at e0
  simp at e0
  refine af_of Tryz.func191 rfl (by kernel_rfl) (by simp [Tryz.ntmps191]) fun _ => ?_; simp [Tryz.f191, Ex.d_eq]
  simp [hB]
  refine aCall_of r05name_af (by simp) (by simp [Ex.d_eq]) ?_; simp [Ex.d_eq]
  refine aLoop_iter 1 ?_; simp [Ex.d_eq]
  simp [hB]
  refine aCall_of (e0) (by simp) (by simp [Ex.d_eq]) ?_; simp [Ex.d_eq]
theorem one21_af {B C : List Int} (hC : C.length = 16) : AF Tryz.prog 191 [.d (.sl 5 (sec2 B C)), aI .i64 1] (aI .i64 0) := by
  have e1 := end2_af rodN 12288 false C (by omega)
  rw [hC] at e1
  simp at e1
  refine af_of Tryz.func191 rfl (by kernel_rfl) (by simp [Tryz.ntmps191]) fun _ => ?_; simp [Tryz.f191, Ex.d_eq]
  simp [hC]
  refine aCall_of r05rod_af (by simp) (by simp [Ex.d_eq]) ?_; simp [Ex.d_eq]
  refine aLoop_iter 2 ?_; simp [Ex.d_eq]
  refine adraw [] (by kernel_rfl) (by kernel_rfl) (by kernel_rfl) (by kernel_rfl) ?_; simp [Ex.d_eq]
  simp only [rodN] at e1
  simp [dataN, rodN, hC, i64w (n := 12304) (by omega)]
  refine aCall_of (e1) (by simp) (by simp [Ex.d_eq]) ?_; simp [Ex.d_eq]
section
variable {B C : List Int} (hB : B.length = 32) (hC : C.length = 16)
include hB hC
theorem check2_af : AF Tryz.prog 140 [.d (.sl 5 (sec2 B C))] (aI .i64 0) := by
  have e0 := end2_af dataN 8192 true B (by omega)
  rw [hB] at e0
  simp at e0
  refine af_of Tryz.func140 rfl (by kernel_rfl) (by simp [Tryz.ntmps140]) fun _ => ?_; simp [Tryz.f140, Ex.d_eq]
  refine aLoop_iter 3 ?_; simp [Ex.d_eq]
  refine aCall_of (one20_af (C := C) hB) (by simp) (by simp [Ex.d_eq]) ?_; simp [Ex.d_eq]
  refine aCall_of (one21_af (B := B) hC) (by simp) (by simp [Ex.d_eq]) ?_; simp [Ex.d_eq]
  refine aLoop_iter 3 ?_; simp [Ex.d_eq]
  refine aLoop_iter 1 ?_; simp [Ex.d_eq]
  refine aLoop_iter 2 ?_; simp [Ex.d_eq]
  refine adraw [] (by kernel_rfl) (by kernel_rfl) (by kernel_rfl) (by kernel_rfl) ?_; simp [Ex.d_eq]
  simp [hB, hC]
  refine adC_of (e0) (by simp) trivial (by simp) (by simp [Ex.d_eq]) ?_; simp [Ex.d_eq]
theorem copies2_af : AF Tryz.prog 141 [.d (.sl 5 (sec2 B C))] (.d (.sl 5 (sec2 B C))) := by
  refine af_of Tryz.func141 rfl (by kernel_rfl) (by simp [Tryz.ntmps141]) fun _ => ?_; simp [Tryz.f141, Ex.d_eq]
  refine aLoop_iter 3 ?_; simp [Ex.d_eq]
  refine aCall_of (copy2_af dataN 8192 true B (by omega) (by omega)) (by simp) (by simp [Ex.d_eq]) ?_; simp [Ex.d_eq]
  refine aRaw_app byt_53 ?_
  simp [maxLen]
  refine aCall_of (copy2_af rodN 12288 false C (by omega) (by omega)) (by simp) (by simp [Ex.d_eq]) ?_; simp [Ex.d_eq]
  refine aRaw_app byt_53 ?_
  simp [maxLen]
theorem new2_af : AF Tryz.prog 91 [.d (.sl 5 (sec2 B C))] (.tup [memA (sec2 B C) [], aI .i64 0]) := by
  refine af_of Tryz.func91 rfl (by kernel_rfl) (by simp [Tryz.ntmps91]) fun _ => ?_; simp [Tryz.f91, Ex.d_eq]
  refine aCall_of (check2_af hB hC) (by simp) (by simp [Ex.d_eq]) ?_; simp [Ex.d_eq]
  refine aCall_of (copies2_af hB hC) (by simp) (by simp [Ex.d_eq]) ?_; simp [Ex.d_eq]
end
/-- The bytes of the law's first section. -/
def mem22 (seed : Int) : List Int := (List.range 32).map fun i : Nat => IntKind.u8.wrap (IntKind.u8.wrap (IntKind.u8.wrap (i : Int) * seed) + 3)
def zer16 : List Int := List.replicate 16 0
theorem mk32 : mkA Tryz.prog 91 (aI .i64 32) (aI .i64 32) = some (5, .d (.v (.int .u8 0)), 32) := by kernel_rfl
theorem mk16 : mkA Tryz.prog 91 (aI .i64 16) (aI .i64 16) = some (5, .d (.v (.int .u8 0)), 16) := by kernel_rfl
set_option maxRecDepth 100000 in
theorem l22memory_af (seed : Int) : AF Tryz.prog 31 [aI .u8 seed] (memA (sec2 (mem22 seed) zer16) []) := by
  have hfin : (mem22 seed).length = 32 := by simp [mem22]
  have hz16 : zer16.length = 16 := by simp [zer16]
  have hzr : List.replicate 16 [AV.d (.v (.int .u8 0))] = dEls (u8s zer16) := by simp [dEls, u8s, zer16]
  obtain ⟨L0, hL0⟩ : ∃ L0 : List Int, L0 = List.replicate 32 0 := ⟨_, rfl⟩
  have hz : List.replicate 32 [AV.d (.v (.int .u8 0))] = dEls (u8s L0) := by rw [hL0]; simp [dEls, u8s]
  have hl0 : L0.length = 32 := by rw [hL0]; simp
  have m32 := mk32
  have m16 := mk16
  clear hL0
  refine af_of Tryz.func31 rfl (by kernel_rfl) (by simp [Tryz.ntmps31]) fun _ => ?_
  simp [Tryz.f31]
  refine adraw [] (by kernel_rfl) (by kernel_rfl) (by kernel_rfl) (by kernel_rfl) ?_
  simp [m32, m16, hz, hzr]
  refine aLoop_of (α := Nat) (fun i e A => i ≤ 32 ∧ (∃ L : List Int, A = [⟨0, true, 56, 3, [[aB false, .d (.v (.slice none 0 0)), .d (.v (.slice none 0 0))]]⟩, ⟨0, true, 5, 1, dEls (u8s L)⟩, ⟨0, true, 5, 1, dEls (u8s zer16)⟩] ∧ L.length = 32 ∧ ∀ j, j < i → L[j]? = (mem22 seed)[j]?) ∧
    e 3 = .own 1 0 0 32 ∧ e 4 = .own 2 0 0 16 ∧ e 5 = aI .i64 i ∧ e 0 = aI .u8 seed ∧ e 2 = .ptr 0 0 0 0) (fun i => 32 - i) 0 (Sub.refl _ _ _) ⟨by omega, ⟨L0, by simp, hl0, by intro j hj; omega⟩, by simp, by simp, by simp, by simp, by simp⟩ ?_
  rintro i e A ⟨hi, ⟨L, rfl, hL, hLj⟩, e3, e4, e5, e0, e2⟩ K hK
  rcases Nat.lt_or_ge i 32 with hlt | hge
  case inr =>
    obtain rfl : i = 32 := by omega
    obtain rfl : L = mem22 seed := by
      refine List.ext_getElem? fun j => ?_
      rcases Nat.lt_or_ge j 32 with hj | hj
      · exact hLj j hj
      · rw [List.getElem?_eq_none (by omega), List.getElem?_eq_none (by omega)]
    simp [e3, e4, e5, e2, e0]
    have ht : (u8s (mem22 seed)).take 32 = u8s (mem22 seed) := List.take_of_length_le (by simp [hfin])
    have ht2 : (u8s zer16).take 16 = u8s zer16 := List.take_of_length_le (by simp [hz16])
    refine aCall_frz [1, 2, 3] (new2_af hfin hz16) (by simp) (by simp [frz, hfin, hz16, dataN, rodN, ht, ht2]) ?_
    simp [frz, e2]
  have hset : ∀ v : Int, (dEls (u8s L)).set i [aI .u8 v] = dEls (u8s (L.set i v)) := fun v => by simp [dEls, u8s, List.map_set]
  have hm : (mem22 seed)[i]? = some (IntKind.u8.wrap (IntKind.u8.wrap (IntKind.u8.wrap (i : Int) * seed) + 3)) := by simp [mem22, hlt]
  have hli : i < L.length := by omega
  simp [e3, e4, e5, e2, e0, hL, hlt, hli, show (i : Int) < 32 by omega, hset, i64w (n := (i : Int) + 1) (by omega)]
  refine hK (i + 1) _ _ _ _ (Sub.refl _ _ _) ⟨by omega, ⟨L.set i (IntKind.u8.wrap (IntKind.u8.wrap (IntKind.u8.wrap (i : Int) * seed) + 3)), by simp, by simpa using hL, fun j hj => ?_⟩, by simp [e3], by simp [e4], by simp, by simp [e0], by simp [e2]⟩ (by omega)
  rw [List.getElem?_set]
  by_cases hij : i = j
  · subst hij
    simp [hli, hm]
  · rw [if_neg hij]
    exact hLj j (by omega)
end Go.Proofs.YtlidimmfpfockaaGreatDoor

/- Contracts: the laws SimplifySame and SimplifyConst answer true. -/
namespace Go.Proofs.YtlidimmfpfockaaGreatDoor
open Go.RowKit
theorem ld2_r32 (f : Int → Int) (a : Int) : ∀ (k : Nat) (n : Int), R32 n → R32 (ld2 f a k n)
  | 0, n, h => h
  | k + 1, n, h => by
    rw [ld2]
    exact ld2_r32 f a k _ (r32_mod _)
theorem evOk_mem2 (V : List Int) (hV : ∀ n ∈ V, R32 n) (B C : List Int) : EvOk V (ldR2 B C) where
  hV v := by
    unfold valR
    split
    · rw [List.getD_eq_getElem?_getD]
      cases h : V[v.toNat]? with
      | none => exact r32_0
      | some n => exact hV n (List.mem_of_getElem? h)
    · exact r32_0
  hL a w := by
    unfold ldR2
    split
    · exact r32_0
    · exact ld2_r32 _ a _ 0 r32_0
  hZ a w h := by
    unfold ldR2 at h ⊢
    split
    · rfl
    · rename_i hc
      rw [if_neg hc] at h
      exact absurd rfl h
theorem ldE_mem2 (B C : List Int) (a w : Int) : (ldR2 B C a w).2 = 0 ∨ (ldR2 B C a w).2 = 11 := by
  unfold ldR2
  split
  · exact .inr rfl
  · exact .inl rfl
theorem by2_lt {B C : List Int} (hB : ∀ n ∈ B, 0 ≤ n ∧ n < 256) (hC : ∀ n ∈ C, 0 ≤ n ∧ n < 256) (a : Int) : 0 ≤ by2 B C a ∧ by2 B C a < 256 := by
  unfold by2
  split
  · rw [List.getD_eq_getElem?_getD]
    cases h : B[(a - 8192).toNat]? with
    | none => simp
    | some n => exact hB n (List.mem_of_getElem? h)
  · split
    · rw [List.getD_eq_getElem?_getD]
      cases h : C[(a - 12288).toNat]? with
      | none => simp
      | some n => exact hC n (List.mem_of_getElem? h)
    · omega
theorem ldB_mem2 {B C : List Int} (hB : ∀ n ∈ B, 0 ≤ n ∧ n < 256) (hC : ∀ n ∈ C, 0 ≤ n ∧ n < 256) (a w : Int) : (w = 1 → (ldR2 B C a w).1 < 256) ∧ (w = 2 → (ldR2 B C a w).1 < 65536) := by
  have h := by2_lt hB hC
  refine ⟨?_, ?_⟩
  · rintro rfl
    unfold ldR2
    split
    · omega
    · have := h ((a + ((0 : Nat) : Int)) % 4294967296)
      simp only [show (1 : Int).toNat = 0 + 1 from rfl, ld2]
      omega
  · rintro rfl
    unfold ldR2
    split
    · omega
    · have h0 := h ((a + ((0 : Nat) : Int)) % 4294967296)
      have h1 := h ((a + ((1 : Nat) : Int)) % 4294967296)
      simp only [show (2 : Int).toNat = 0 + 1 + 1 from rfl, ld2]
      try simp only [Nat.zero_add] at h0 h1 ⊢
      omega
theorem mem22_lt (seed : Int) : ∀ n ∈ mem22 seed, 0 ≤ n ∧ n < 256 := by
  intro n hn
  simp only [mem22, List.mem_map] at hn
  obtain ⟨i, _, rfl⟩ := hn
  generalize IntKind.u8.wrap (IntKind.u8.wrap (i : Int) * seed) + 3 = m
  simp [IntKind.wrap, IntKind.signed, IntKind.bits]
  omega
theorem zer16_lt : ∀ n ∈ zer16, 0 ≤ n ∧ n < 256 := by
  intro n hn
  simp only [zer16, List.mem_replicate] at hn
  omega
abbrev ld22R (seed : Int) := ldR2 (mem22 seed) zer16
theorem sexpr_ev {e : Ex} (V : List Int) (hV : ∀ n ∈ V, R32 n) (seed : Int) (hn : OkN e) (hs : shalB 64 e = true) (hf : formB e = true) : evR V (ld22R seed) (sExpr e) = evR V (ld22R seed) e := by
  rw [sexpr_eq hs hf]
  exact (simp_ev (evOk_mem2 V hV (mem22 seed) zer16) (by omega) (ldE_mem2 _ _) (ldB_mem2 (mem22_lt seed) zer16_lt) _ e hf hn (Nat.le_refl _)).1
end Go.Proofs.YtlidimmfpfockaaGreatDoor
