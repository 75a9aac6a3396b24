/- Texts that the claim leans on, laid one behind the other: Nf, Ng, Nh, Ni, Nj, Nk. -/
import Derived.Test.YtjnofkcfogognaaGreatDoorZS
import Derived.Test.YtjnofkcfogognaaGreatDoorZH
import Derived.Test.YtjnofkcfogognaaGreatDoorAo
import Derived.Test.YtjnofkcfogognaaGreatDoorZE
set_option linter.unusedSimpArgs false
set_option linter.unusedVariables false
set_option linter.unnecessarySimpa false
/- Contracts: simplify's small functions. -/
namespace Go.Proofs.YtjnofkcfogognaaGreatDoor
open Go.RowKit
/-- An expression's box. -/
abbrev exC (e : Ex) : Blk := ⟨0, true, 38, 5, [[aI .i64 e.op, aI .u32 e.n, aI .i64 e.v, aI .i64 e.wd, .d (.sl 5 (Ex.ds e.l))]]⟩
/-- The box of the zero expression. -/
abbrev nilC : Blk := ⟨0, true, 38, 5, [[aI .i64 0, aI .u32 0, aI .i64 0, aI .i64 0, .d (.v (.slice none 0 0))]]⟩
theorem smnumber_af (e : Ex) : AF Tryz.prog 237 [exA e] (.tup [aI .u32 e.n, aB (decide (e.op = 1))]) := by
  refine af_of Tryz.func237 rfl (by kernel_rfl) (by simp [Tryz.ntmps237]) fun _ => ?_; simp [Tryz.f237, Ex.d_eq]
  refine adraw [] (by kernel_rfl) (by kernel_rfl) (by kernel_rfl) (by kernel_rfl) ?_; simp [Ex.d_eq]
theorem smis_af (e : Ex) (n : Int) : AF Tryz.prog 99 [exA e, aI .u32 n] (aB (isB e n)) := by
  refine af_of Tryz.func99 rfl (by kernel_rfl) (by simp [Tryz.ntmps99]) fun _ => ?_; simp [Tryz.f99, Ex.d_eq]
  refine aG_split (fun g1 => ?_) (fun g1 => by simp at g1; simp [isB, g1])
  simp at g1
  simp [isB, g1]
theorem smone_af (op : Int) (x : Ex) : AF Tryz.prog 91 [aI .i64 op, exA x] (exA (eOne op x)) := by
  refine af_of Tryz.func91 rfl (by kernel_rfl) (by simp [Tryz.ntmps91]) fun _ => ?_; simp [Tryz.f91, Ex.d_eq]
theorem smboolean_af (e : Ex) : AF Tryz.prog 244 [exA e] (aB (boolB e)) := by
  refine af_of Tryz.func244 rfl (by kernel_rfl) (by simp [Tryz.ntmps244]) fun _ => ?_; simp [Tryz.f244, Ex.d_eq]
  unfold boolB
  by_cases h12 : e.op = 12
  · simp [h12]
  by_cases h13 : e.op = 13
  · simp [h13]
  by_cases h14 : e.op = 14
  · simp [h14]
  by_cases h15 : e.op = 15
  · simp [h15]
  by_cases h16 : e.op = 16
  · simp [h16]
  have hd : decide (12 ≤ e.op ∧ e.op ≤ 16) = false := by simp; omega
  simp [h12, h13, h14, h15, h16, hd]
  refine aCall_of (smis_af e 0) (by simp) (by simp [Ex.d_eq]) ?_; simp [Ex.d_eq]
  cases h0 : isB e 0
  · simp
    refine aCall_of (smis_af e 1) (by simp) (by simp [Ex.d_eq]) ?_; simp [Ex.d_eq]
  · simp
theorem smcommutes_af (op : Int) : AF Tryz.prog 236 [aI .i64 op] (aB (comB op || decide (op = 12) || decide (op = 13))) := by
  refine af_of Tryz.func236 rfl (by kernel_rfl) (by simp [Tryz.ntmps236]) fun _ => ?_; simp [Tryz.f236, Ex.d_eq]
  unfold comB
  by_cases h3 : op = 3
  · simp [h3]
  by_cases h5 : op = 5
  · simp [h5]
  by_cases h6 : op = 6
  · simp [h6]
  by_cases h7 : op = 7
  · simp [h7]
  by_cases h8 : op = 8
  · simp [h8]
  by_cases h12 : op = 12
  · simp [h12]
  by_cases h13 : op = 13
  · simp [h13]
  simp [h3, h5, h6, h7, h8, h12, h13]
/-- An operator's operands, when the right one is a constant. -/
def splitR (e : Ex) (op : Int) : AV := if e.op = op ∧ e.l.length = 2 then .tup [exA e.x, aI .u32 e.y.n, aB (decide (e.y.op = 1))] else .tup [exA eNil, aI .u32 0, aB false]
theorem smsplit_af (e : Ex) (op : Int) : AF Tryz.prog 245 [exA e, aI .i64 op] (splitR e op) := by
  obtain ⟨o, n, v, w, l⟩ := e
  refine af_of Tryz.func245 rfl (by kernel_rfl) (by simp [Tryz.ntmps245]) fun _ => ?_; simp [Tryz.f245, Ex.d_eq]
  by_cases h : o = op
  case neg => simp [h, splitR]
  subst h
  by_cases hl : l.length = 2
  case neg => simp [hl, splitR, show ¬ ((l.length : Int) = 2) by omega]
  match l, hl with
  | [a, b], _ =>
  simp [Ex.d_eq]
  refine aCall_of (smnumber_af b) (by simp) (by simp [Ex.d_eq]) ?_; simp [Ex.d_eq]
  simp [splitR, Ex.d_eq]
  exact decide_eq_decide.2 Iff.rfl
theorem smcovers_af (n w : Int) (hw : w = 1 ∨ w = 2) (hn : 0 ≤ n ∧ n < 4294967296) : AF Tryz.prog 246 [aI .u32 n, aI .i64 w] (aB (covB n w)) := by
  have m8 := mask_eq hn 8 (by omega)
  have m16 := mask_eq hn 16 (by omega)
  simp at m8 m16
  have w1 : IntKind.u64.wrap 1 = 1 := by decide +kernel
  have w2 : IntKind.u64.wrap 2 = 2 := by decide +kernel
  have w8 : IntKind.u64.wrap 8 = 8 := by decide +kernel
  have w16 : IntKind.u64.wrap 16 = 16 := by decide +kernel
  have s8 : shlI .u32 1 8 = 256 := by decide +kernel
  have s16 : shlI .u32 1 16 = 65536 := by decide +kernel
  unfold covB
  rcases hw with rfl | rfl
  · refine af_of Tryz.func246 rfl (by kernel_rfl) (by simp [Tryz.ntmps246]) fun _ => ?_; simp [Tryz.f246, Ex.d_eq]
    simp [w1, w8, s8, m8]
  · refine af_of Tryz.func246 rfl (by kernel_rfl) (by simp [Tryz.ntmps246]) fun _ => ?_; simp [Tryz.f246, Ex.d_eq]
    simp [w2, w16, s16, m16]
theorem smsafe_af : ∀ (e : Ex), e.nodes ≤ 1000000000 → AF Tryz.prog 271 [exA e] (aB (safeB e)) := by
  intro x
  induction x using Ex.ind with
  | h x ih =>
    intro hn
    have hlen := x.nodes_len
    have n1 : x.l.length ≤ maxLen := by unfold maxLen; omega
    rw [safeB_eq]
    refine af_of Tryz.func271 rfl (by kernel_rfl) (by simp [Tryz.ntmps271]) fun _ => ?_; simp [Tryz.f271, Ex.d_eq]
    by_cases h18 : x.op = 18
    · simp [h18]
    simp [h18]
    refine aLoop_of (α := Nat) (fun i e A => i ≤ x.l.length ∧ (∃ N : AHeap, A = exC x :: N) ∧ (x.l.take i).all safeB = true ∧
      e 11 = aI .i64 i ∧ e 10 = aI .i64 x.l.length ∧ e 9 = .d (.sl 5 (Ex.ds x.l)) ∧ e 1 = .ptr 0 0 0 0) (fun i => x.l.length - i) 0 (Sub.refl _ _ _) ⟨by omega, ⟨[], by simp⟩, by simp, by simp, by simp, by simp, by simp⟩ ?_
    rintro i e A ⟨hi, ⟨N, rfl⟩, hall, e11, e10, e9, e1⟩ K hK
    rcases Nat.lt_or_ge i x.l.length with hlt | hge
    case inr =>
      obtain rfl : i = x.l.length := by omega
      rw [List.take_length] at hall
      simp [e11, e10, hall]
    obtain ⟨y, hy⟩ : ∃ y, x.l[i]? = some y := ⟨_, List.getElem?_eq_getElem hlt⟩
    have hy2 := (List.getElem?_eq_some_iff.1 hy).2
    simp [e11, e10, e9, hlt, hy, hy2, Ex.d_eq]
    refine aCall_of (ih y (List.mem_of_getElem? hy) (by have := Ex.nodes_mem (List.mem_of_getElem? hy); omega)) (by simp) (by simp [Ex.d_eq]) ?_
    simp [e11]
    have hall' : (x.l.take (i + 1)).all safeB = safeB y := by
      rw [List.take_add_one, hy, List.all_append, hall]
      simp
    cases hs : safeB y
    · have : x.l.all safeB = false := by
        simp only [List.all_eq_false]
        exact ⟨y, List.mem_of_getElem? hy, by simp [hs]⟩
      simp [this]
    · simp [e11, succ_wrap hlt n1]
      refine hK (i + 1) _ _ _ _ (Sub.refl _ _ _) ⟨by omega, ⟨_, by simp; rfl⟩, by rw [hall', hs], by simp, by simp [e10], by simp [e9], by simp [e1]⟩ (by omega)
end Go.Proofs.YtjnofkcfogognaaGreatDoor

/- Contracts: ileval's value of an operator of constants; simplify.constants. -/
namespace Go.Proofs.YtjnofkcfogognaaGreatDoor
open Go.RowKit
section
variable {x y : Int} (hx : R32 x) (hy : R32 y)
include hy
theorem shI_sa : shI y = (sa y : Int) := by
  have := mask_eq hy 5 (by omega)
  simp at this
  unfold shI sa
  rw [this]
  omega
theorem shl_r : shlI .u32 x (shI y) = rShl x y := by
  rw [shI_sa hy]
  have : sa y < 32 := by unfold sa; omega
  unfold shlI rShl
  rw [u32e]
  simp [IntKind.bits, Nat.min_eq_left (show sa y ≤ 32 by omega)]
theorem shr_r : shrI .u32 x (shI y) = rShr x y := by
  rw [shI_sa hy]
  have : sa y < 32 := by unfold sa; omega
  unfold shrI rShr
  simp [IntKind.bits, Nat.min_eq_left (show sa y ≤ 32 by omega)]
  exact Int.fdiv_eq_ediv_of_nonneg _ (Int.le_of_lt (Int.pow_pos (by omega)))
include hx
omit hy in
theorem i32_sgN : IntKind.i32.wrap x = sg x := by
  have h1 := hx.1
  have h2 := hx.2
  rw [i32wm]
  unfold sg
  rw [Int.emod_eq_of_lt h1 h2]
theorem sar_r : IntKind.u32.wrap (shrI .i32 (IntKind.i32.wrap x) (shI y)) = rSar x y := by
  rw [shI_sa hy, i32_sgN hx]
  have : sa y < 32 := by unfold sa; omega
  unfold shrI rSar
  simp [IntKind.bits, Nat.min_eq_left (show sa y ≤ 32 by omega)]
  have hp : (0 : Int) < 2 ^ sa y := Int.pow_pos (by omega)
  rw [Int.fdiv_eq_ediv_of_nonneg _ (Int.le_of_lt hp), u32e]
  have hs : -2147483648 ≤ sg x ∧ sg x < 2147483648 := by
    have := hx.1
    have := hx.2
    unfold sg
    split <;> omega
  have h1 : -2147483648 ≤ sg x / 2 ^ sa y ∧ sg x / 2 ^ sa y < 2147483648 := by
    rcases Int.lt_or_le (sg x) 0 with h | h
    · have h2 := Int.ediv_neg_of_neg_of_pos h hp
      have h3 : sg x ≤ sg x / 2 ^ sa y := by
        rw [Int.le_ediv_iff_mul_le hp]
        have := Int.mul_le_mul_of_nonpos_left (Int.le_of_lt h) (show (1 : Int) ≤ 2 ^ sa y by omega)
        omega
      omega
    · have := Int.ediv_nonneg h (Int.le_of_lt hp)
      have := Int.ediv_le_self (2 ^ sa y) h
      omega
  unfold us
  split <;> omega
theorem appI_apR (op : Nat) (h3 : 3 ≤ op) (h15 : op ≤ 15) : appI op x y = apR op x y := by
  have a := shl_r (x := x) hy
  have b := shr_r (x := x) hy
  have c := sar_r hx hy
  have d := i32_sgN hx
  have d' := i32_sgN hy
  have c' := c
  rw [u32e, d] at c'
  obtain rfl | rfl | rfl | rfl | rfl | rfl | rfl | rfl | rfl | rfl | rfl | rfl | rfl : op = 3 ∨ op = 4 ∨ op = 5 ∨ op = 6 ∨ op = 7 ∨ op = 8 ∨ op = 9 ∨ op = 10 ∨ op = 11 ∨ op = 12 ∨ op = 13 ∨ op = 14 ∨ op = 15 := by omega
  all_goals simp [appI, appL, apR, a, b, c', d, d', u32e]
end
theorem bextend_af (n w : Int) (hn : R32 n) (hw : w = 1 ∨ w = 2) : AF Tryz.prog 280 [aI .u32 n, aI .i64 w] (aI .u32 (rEx n w)) := by
  have h1 := hn.1
  have h2 := hn.2
  rcases hw with rfl | rfl
  · refine af_of Tryz.func280 rfl (by kernel_rfl) (by simp [Tryz.ntmps280]) fun _ => ?_; simp [Tryz.f280, Ex.d_eq]
    simp [IntKind.wrap, IntKind.signed, IntKind.bits, rEx, rTr]
    split <;> omega
  · refine af_of Tryz.func280 rfl (by kernel_rfl) (by simp [Tryz.ntmps280]) fun _ => ?_; simp [Tryz.f280, Ex.d_eq]
    simp [IntKind.wrap, IntKind.signed, IntKind.bits, rEx, rTr]
    split <;> omega
theorem ieval_con (n : Int) : AF Tryz.prog 269 [exA (eCon n), noVars, noMem] (.tup [aU n, aI .i64 0]) := ieval_af (.con n)
theorem ieval_two (op : Int) (a b : Int) (ha : R32 a) (hb : R32 b) (h3 : 3 ≤ op) (h15 : op ≤ 15) : AF Tryz.prog 269 [exA (eTwo op (eCon a) (eCon b)), noVars, noMem] (.tup [aU (apR op a b), aI .i64 0]) := by
  obtain ⟨o, rfl⟩ : ∃ o : Nat, op = o := ⟨op.toNat, by omega⟩
  rw [← appI_apR ha hb o (by omega) (by omega)]
  exact ieval_af (.two (by omega) (by omega) (.con a) (.con b))
theorem ieval_one (op w a : Int) (ha : R32 a) (ho : op = 16 ∨ op = 17 ∨ op = 19 ∧ (w = 1 ∨ w = 2)) : AF Tryz.prog 269 [exA (.mk op 0 0 w [eCon a]), noVars, noMem]
    (.tup [aU (foldV (.mk op 0 0 w [eCon a])), aI .i64 0]) := by
  rcases ho with rfl | rfl | ⟨rfl, hw⟩
  · refine af_of Tryz.func269 rfl (by kernel_rfl) (by simp [Tryz.ntmps269]) fun _ => ?_; simp [Tryz.f269, Ex.d_eq]
    refine aLoop_iter 2 ?_; simp [Ex.d_eq]
    refine aCall_of (ieval_con a) (by simp) (by simp [Ex.d_eq]) ?_; simp [Ex.d_eq]
    refine aCall_of (bapply_af 12 a 0 (by omega)) (by simp) (by simp [Ex.d_eq]) ?_; simp [Ex.d_eq]
    by_cases h : a = 0 <;> simp [foldV, appI, appL, h]
  · refine af_of Tryz.func269 rfl (by kernel_rfl) (by simp [Tryz.ntmps269]) fun _ => ?_; simp [Tryz.f269, Ex.d_eq]
    refine aLoop_iter 2 ?_; simp [Ex.d_eq]
    refine aCall_of (ieval_con a) (by simp) (by simp [Ex.d_eq]) ?_; simp [Ex.d_eq]
    simp [foldV, u32e]
  · refine af_of Tryz.func269 rfl (by kernel_rfl) (by simp [Tryz.ntmps269]) fun _ => ?_; simp [Tryz.f269, Ex.d_eq]
    refine aLoop_iter 2 ?_; simp [Ex.d_eq]
    refine aCall_of (ieval_con a) (by simp) (by simp [Ex.d_eq]) ?_; simp [Ex.d_eq]
    refine aCall_of (bextend_af a w ha hw) (by simp) (by simp [Ex.d_eq]) ?_; simp [Ex.d_eq]
    simp [foldV]
/-- The value of an operator of constants. -/
theorem ieval_fold {e : Ex} (hf : formB e = true) (hn : OkN e) (h18 : e.op ≠ 18) (hl : e.l ≠ []) (hc : ∀ x ∈ e.l, x.op = 1) : AF Tryz.prog 269 [exA e, noVars, noMem] (.tup [aU (foldV e), aI .i64 0]) := by
  have hop := form_op hf
  have h1 : e.op ≠ 1 := fun h => by rw [form_con hf h] at hl; exact hl rfl
  have h2 : e.op ≠ 2 := fun h => by rw [(form_var hf h).1] at hl; exact hl rfl
  by_cases h15 : e.op ≤ 15
  · obtain ⟨he, hx, hy⟩ := two_parts hf (by omega) h15
    have hel : e.l = [e.x, e.y] := by
      have := congrArg Ex.l he
      simpa using this
    have cx := form_con hx (hc _ (by rw [hel]; simp))
    have cy := form_con hy (hc _ (by rw [hel]; simp))
    obtain ⟨nx, ny⟩ := okN_x hn hf (by omega) h15
    have hv : foldV e = apR e.op e.x.n e.y.n := by
      unfold foldV
      rw [if_neg (by omega), if_neg (by omega), if_neg (by omega)]
    rw [hv]
    have := ieval_two e.op e.x.n e.y.n nx.n ny.n (by omega) h15
    rwa [← cx, ← cy, ← he] at this
  · obtain ⟨he, hx, _⟩ := form_one3 hf (by omega)
    have hel : e.l = [e.x] := by
      have := congrArg Ex.l he
      simpa using this
    have cx := form_con hx (hc _ (by rw [hel]; simp))
    have nx := (hn.l e.x (by rw [hel]; simp)).n
    have hw : e.op = 19 → e.wd = 1 ∨ e.wd = 2 := fun h => by
      obtain ⟨_, _, _, hw⟩ := form_wide hf (.inr h)
      omega
    have := ieval_one e.op e.wd e.x.n nx (by omega)
    rwa [← cx, ← he] at this
theorem iexprF_af {e : Ex} (hf : formB e = true) (hs : shalB 64 e = true) (hn : OkN e) (h18 : e.op ≠ 18) (hl : e.l ≠ []) (hc : ∀ x ∈ e.l, x.op = 1) :
    AF Tryz.prog 235 [exA e, .agg [.d (.v (.slice none 0 0))], noMem] (.tup [aU (foldV e), aI .i64 0]) := by
  refine af_of Tryz.func235 rfl (by kernel_rfl) (by simp [Tryz.ntmps235]) fun _ => ?_; simp [Tryz.f235, Ex.d_eq]
  refine aCall_of (check_af e) (by simp) (by simp [Ex.d_eq]) ?_; simp [Ex.d_eq]
  simp [hs, hf]
  refine aCall_of (ieval_fold hf hn h18 hl hc) (by simp) (by simp [Ex.d_eq]) ?_; simp [Ex.d_eq]
theorem shal_con {e : Ex} (hf : formB e = true) (hc : ∀ x ∈ e.l, x.op = 1) : shalB 64 e = true := by
  rw [shal_iff]
  have hd : e.depth = Ex.depths e.l + 1 := by obtain ⟨o, n, v, w, l⟩ := e; simp [Ex.depth]
  have : ∀ l : List Ex, (∀ x ∈ l, formB x = true ∧ x.op = 1) → Ex.depths l ≤ 1 := by
    intro l
    induction l with
    | nil => intro _; simp [Ex.depths]
    | cons a l ih =>
      intro h
      have h1 := ih fun x hx => h x (by simp [hx])
      obtain ⟨h2, h3⟩ := h a (by simp)
      have := (form_con' h2 h3).2.2.2
      simp only [Ex.depths]
      omega
  have := this e.l fun x hx => ⟨(form_all hf).2 x hx, hc x hx⟩
  omega
theorem smconstants_af (e : Ex) (hf : formB e = true) (hn : OkN e) : AF Tryz.prog 200 [exA e] (oA e (sFold e)) := by
  have hlen := e.nodes_len
  unfold sFold
  by_cases h18 : e.op = 18
  · refine af_of Tryz.func200 rfl (by kernel_rfl) (by simp [Tryz.ntmps200]) fun _ => ?_; simp [Tryz.f200, Ex.d_eq]
    simp [h18]
  by_cases hl : e.l = []
  · refine af_of Tryz.func200 rfl (by kernel_rfl) (by simp [Tryz.ntmps200]) fun _ => ?_; simp [Tryz.f200, Ex.d_eq]
    simp [h18, hl]
  have hl0 : 0 < e.l.length := List.length_pos_iff.2 hl
  have hlm : e.l.length ≤ 2 := by
    have hop := form_op hf
    have h1 := (form_all hf).1
    by_cases h1' : e.op = 1
    · rw [h1', okE_con] at h1; omega
    by_cases h2' : e.op = 2
    · rw [h2', okE_var] at h1; omega
    by_cases h15 : e.op ≤ 15
    · rw [okE_two (by omega) h15] at h1; omega
    · have := (form_one3 hf (by omega)).1
      have := congrArg Ex.l this
      simp at this
      rw [this]; simp
  simp only [h18, hl, false_or]
  obtain ⟨R, hR⟩ : ∃ R, (if (e.l.all fun x => decide (x.op = 1)) = false then none else some (eCon (foldV e))) = R := ⟨_, rfl⟩
  rw [hR]
  refine af_of Tryz.func200 rfl (by kernel_rfl) (by simp [Tryz.ntmps200]) fun _ => ?_; simp [Tryz.f200, Ex.d_eq]
  simp [h18, hl]
  refine aLoop_of (α := Nat) (fun i g A => i ≤ e.l.length ∧ (∃ N : AHeap, A = exC e :: nilC :: N) ∧ (e.l.take i).all (fun x => decide (x.op = 1)) = true ∧
    g 21 = aI .i64 i ∧ g 20 = aI .i64 e.l.length ∧ g 19 = .d (.sl 5 (Ex.ds e.l)) ∧ g 1 = .ptr 0 0 0 0 ∧ g 2 = .ptr 1 0 0 0) (fun i => e.l.length - i) 0 (Sub.refl _ _ _) ⟨by omega, ⟨[], by simp⟩, by simp, by simp, by simp, by simp, by simp, by simp⟩ ?_
  rintro i g A ⟨hi, ⟨N, rfl⟩, hall, e21, e20, e19, e1, e2⟩ K hK
  rcases Nat.lt_or_ge i e.l.length with hlt | hge
  case inr =>
    obtain rfl : i = e.l.length := by omega
    rw [List.take_length] at hall
    rw [if_neg (by rw [hall]; simp)] at hR
    subst hR
    simp [e21, e20, e1, e2]
    have hc : ∀ x ∈ e.l, x.op = 1 := by simpa [List.all_eq_true] using hall
    refine aCall_of (iexprF_af hf (shal_con hf hc) hn h18 hl hc) (by simp) (by simp [Ex.d_eq]) ?_; simp [Ex.d_eq]
    refine aCall_of (const_af (foldV e)) (by simp) (by simp [Ex.d_eq]) ?_; simp [Ex.d_eq]
    simp [e2]
  obtain ⟨y, hy⟩ : ∃ y, e.l[i]? = some y := ⟨_, List.getElem?_eq_getElem hlt⟩
  have hy2 := (List.getElem?_eq_some_iff.1 hy).2
  have hall' : (e.l.take (i + 1)).all (fun x => decide (x.op = 1)) = decide (y.op = 1) := by
    rw [List.take_add_one, hy, List.all_append, hall]
    simp
  by_cases h1 : y.op = 1
  case neg =>
    have : (e.l.all fun x => decide (x.op = 1)) = false := by
      rw [List.all_eq_false]
      exact ⟨y, List.mem_of_getElem? hy, by simp [h1]⟩
    rw [if_pos this] at hR
    subst hR
    simp [e21, e20, e19, e1, e2, hlt, hy, hy2, Ex.d_eq, h1]
  simp [e21, e20, e19, e1, e2, hlt, hy, hy2, Ex.d_eq, h1, succ_wrap hlt (show e.l.length ≤ maxLen by unfold maxLen; omega)]
  refine hK (i + 1) _ _ _ _ (Sub.refl _ _ _) ⟨by omega, ⟨_, by simp; rfl⟩, by rw [hall']; simp [h1], by simp, by simp [e20], by simp [e19], by simp [e1], by simp [e2]⟩ (by omega)
end Go.Proofs.YtjnofkcfogognaaGreatDoor

/- Contracts: simplify's rules for two operands: neutral, grouped. -/
namespace Go.Proofs.YtjnofkcfogognaaGreatDoor
open Go.RowKit
def sNeu (op : Int) (x y : Ex) : Option Ex :=
  if y.op = 1 ∧ ((op = 3 ∨ op = 7 ∨ op = 8) ∧ y.n = 0 ∨ op = 5 ∧ y.n = 1 ∨ op = 6 ∧ y.n = all32 ∨ (op = 9 ∨ op = 10 ∨ op = 11) ∧ y.n % 32 = 0) then some x
  else if (op = 5 ∨ op = 6) ∧ isB y 0 = true ∧ safeB x = true then some (eCon 0)
  else if (op = 9 ∨ op = 10 ∨ op = 11) ∧ isB x 0 = true ∧ safeB y = true then some (eCon 0)
  else if op = 7 ∧ isB y all32 = true ∧ safeB x = true then some (eCon all32) else none
theorem if_congr' {α : Type} {b c : Prop} [Decidable b] [Decidable c] {x y : α} (h : b ↔ c) : (if b then x else y) = if c then x else y := by
  by_cases hc : c
  · rw [if_pos hc, if_pos (h.2 hc)]
  · rw [if_neg hc, if_neg (fun hb => hc (h.1 hb))]
set_option maxHeartbeats 1000000 in
set_option maxRecDepth 8000 in
theorem smneutral_af (op : Int) (x y : Ex) (hy : formB y = true) (ny : R32 y.n) (sx : x.nodes ≤ 1000000000) (sy : y.nodes ≤ 1000000000) :
    AF Tryz.prog 238 [aI .i64 op, exA x, exA y] (oA eNil (sNeu op x y)) := by
  have htm : y.n.tmod 32 = y.n % 32 := Int.tmod_eq_emod_of_nonneg ny.1
  obtain ⟨R, hR⟩ : ∃ R, sNeu op x y = R := ⟨_, rfl⟩
  rw [hR]
  unfold sNeu at hR
  rcases (show op = 3 ∨ op = 8 ∨ op = 7 ∨ op = 5 ∨ op = 6 ∨ op = 9 ∨ op = 10 ∨ op = 11 ∨ (op ≠ 3 ∧ op ≠ 5 ∧ op ≠ 6 ∧ op ≠ 7 ∧ op ≠ 8 ∧ op ≠ 9 ∧ op ≠ 10 ∧ op ≠ 11) by omega) with rfl | rfl | rfl | rfl | rfl | rfl | rfl | rfl | ⟨o3, o5, o6, o7, o8, o9, o10, o11⟩
  · refine af_of Tryz.func238 rfl (by kernel_rfl) (by simp [Tryz.ntmps238]) fun _ => ?_; simp [Tryz.f238, Ex.d_eq]
    refine aCall_of (smnumber_af y) (by simp) (by simp [Ex.d_eq]) ?_; simp [Ex.d_eq]
    by_cases h1 : y.op = 1
    · obtain ⟨m, rfl⟩ : ∃ m, y = eCon m := ⟨_, form_con hy h1⟩
      have htm' : m.tmod 32 = m % 32 := htm
      by_cases h2 : m = 0
      · simp [h2]
        rw [← hR]
        simp [h2]
      · simp [h2]
        rw [← hR]
        simp [h2]
    · simp [h1]
      rw [← hR]
      simp [h1]
  · refine af_of Tryz.func238 rfl (by kernel_rfl) (by simp [Tryz.ntmps238]) fun _ => ?_; simp [Tryz.f238, Ex.d_eq]
    refine aCall_of (smnumber_af y) (by simp) (by simp [Ex.d_eq]) ?_; simp [Ex.d_eq]
    by_cases h1 : y.op = 1
    · obtain ⟨m, rfl⟩ : ∃ m, y = eCon m := ⟨_, form_con hy h1⟩
      have htm' : m.tmod 32 = m % 32 := htm
      by_cases h2 : m = 0
      · simp [h2]
        rw [← hR]
        simp [h2]
      · simp [h2]
        rw [← hR]
        simp [h2]
    · simp [h1]
      rw [← hR]
      simp [h1]
  · refine af_of Tryz.func238 rfl (by kernel_rfl) (by simp [Tryz.ntmps238]) fun _ => ?_; simp [Tryz.f238, Ex.d_eq]
    refine aCall_of (smnumber_af y) (by simp) (by simp [Ex.d_eq]) ?_; simp [Ex.d_eq]
    by_cases h1 : y.op = 1
    · obtain ⟨m, rfl⟩ : ∃ m, y = eCon m := ⟨_, form_con hy h1⟩
      have htm' : m.tmod 32 = m % 32 := htm
      by_cases h2 : m = 0
      · simp [h2]
        rw [← hR]
        simp [h2]
      · simp [h2]
        refine aCall_of (smis_af (eCon m) 4294967295) (by simp) (by simp [Ex.d_eq]) ?_; simp [Ex.d_eq]
        cases h3 : isB (eCon m) 4294967295
        · simp
          rw [← hR]
          simp [h2, h3, all32]
        · simp
          refine aCall_of (smsafe_af x sx) (by simp) (by simp [Ex.d_eq]) ?_; simp [Ex.d_eq]
          cases h4 : safeB x
          · simp
            rw [← hR]
            simp [h2, h3, h4, all32]
          · simp
            rw [← hR]
            have hc := (isB_iff.1 h3).2
            simp at hc
            subst hc
            simp [h2, h3, h4, all32]
    · simp [h1]
      refine aCall_of (smis_af y 4294967295) (by simp) (by simp [Ex.d_eq]) ?_; simp [Ex.d_eq]
      cases h3 : isB y 4294967295
      · simp
        rw [← hR]
        simp [h1, h3, all32]
      · simp
        refine aCall_of (smsafe_af x sx) (by simp) (by simp [Ex.d_eq]) ?_; simp [Ex.d_eq]
        cases h4 : safeB x
        · simp
          rw [← hR]
          simp [h1, h3, h4, all32]
        · simp
          rw [← hR]
          exact absurd (isB_iff.1 h3).1 h1
  · refine af_of Tryz.func238 rfl (by kernel_rfl) (by simp [Tryz.ntmps238]) fun _ => ?_; simp [Tryz.f238, Ex.d_eq]
    refine aCall_of (smnumber_af y) (by simp) (by simp [Ex.d_eq]) ?_; simp [Ex.d_eq]
    by_cases h1 : y.op = 1
    · obtain ⟨m, rfl⟩ : ∃ m, y = eCon m := ⟨_, form_con hy h1⟩
      have htm' : m.tmod 32 = m % 32 := htm
      by_cases h2 : m = 1
      · simp [h2]
        rw [← hR]
        simp [h2]
      · simp [h2]
        refine aCall_of (smis_af (eCon m) 0) (by simp) (by simp [Ex.d_eq]) ?_; simp [Ex.d_eq]
        cases h3 : isB (eCon m) 0
        · simp
          rw [← hR]
          simp [h2, h3, all32]
        · simp
          refine aCall_of (smsafe_af x sx) (by simp) (by simp [Ex.d_eq]) ?_; simp [Ex.d_eq]
          cases h4 : safeB x
          · simp
            rw [← hR]
            simp [h2, h3, h4, all32]
          · simp
            refine aCall_of (const_af 0) (by simp) (by simp [Ex.d_eq]) ?_; simp [Ex.d_eq]
            rw [← hR]
            simp [h2, h3, h4]
    · simp [h1]
      refine aCall_of (smis_af y 0) (by simp) (by simp [Ex.d_eq]) ?_; simp [Ex.d_eq]
      cases h3 : isB y 0
      · simp
        rw [← hR]
        simp [h1, h3, all32]
      · simp
        refine aCall_of (smsafe_af x sx) (by simp) (by simp [Ex.d_eq]) ?_; simp [Ex.d_eq]
        cases h4 : safeB x
        · simp
          rw [← hR]
          simp [h1, h3, h4, all32]
        · simp
          refine aCall_of (const_af 0) (by simp) (by simp [Ex.d_eq]) ?_; simp [Ex.d_eq]
          rw [← hR]
          simp [h1, h3, h4]
  · refine af_of Tryz.func238 rfl (by kernel_rfl) (by simp [Tryz.ntmps238]) fun _ => ?_; simp [Tryz.f238, Ex.d_eq]
    refine aCall_of (smnumber_af y) (by simp) (by simp [Ex.d_eq]) ?_; simp [Ex.d_eq]
    by_cases h1 : y.op = 1
    · obtain ⟨m, rfl⟩ : ∃ m, y = eCon m := ⟨_, form_con hy h1⟩
      have htm' : m.tmod 32 = m % 32 := htm
      by_cases h2 : m = all32
      · simp [h2, all32]
        rw [← hR]
        simp [h2]
      · simp [h2, all32]
        refine aCall_of (smis_af (eCon m) 0) (by simp) (by simp [Ex.d_eq]) ?_; simp [Ex.d_eq]
        cases h3 : isB (eCon m) 0
        · simp
          rw [← hR]
          simp [h2, h3, all32]
        · simp
          refine aCall_of (smsafe_af x sx) (by simp) (by simp [Ex.d_eq]) ?_; simp [Ex.d_eq]
          cases h4 : safeB x
          · simp
            rw [← hR]
            simp [h2, h3, h4, all32]
          · simp
            refine aCall_of (const_af 0) (by simp) (by simp [Ex.d_eq]) ?_; simp [Ex.d_eq]
            rw [← hR]
            simp [h2, h3, h4]
    · simp [h1]
      refine aCall_of (smis_af y 0) (by simp) (by simp [Ex.d_eq]) ?_; simp [Ex.d_eq]
      cases h3 : isB y 0
      · simp
        rw [← hR]
        simp [h1, h3, all32]
      · simp
        refine aCall_of (smsafe_af x sx) (by simp) (by simp [Ex.d_eq]) ?_; simp [Ex.d_eq]
        cases h4 : safeB x
        · simp
          rw [← hR]
          simp [h1, h3, h4, all32]
        · simp
          refine aCall_of (const_af 0) (by simp) (by simp [Ex.d_eq]) ?_; simp [Ex.d_eq]
          rw [← hR]
          simp [h1, h3, h4]
  · refine af_of Tryz.func238 rfl (by kernel_rfl) (by simp [Tryz.ntmps238]) fun _ => ?_; simp [Tryz.f238, Ex.d_eq]
    refine aCall_of (smnumber_af y) (by simp) (by simp [Ex.d_eq]) ?_; simp [Ex.d_eq]
    by_cases h1 : y.op = 1
    · obtain ⟨m, rfl⟩ : ∃ m, y = eCon m := ⟨_, form_con hy h1⟩
      have htm' : m.tmod 32 = m % 32 := htm
      by_cases h2 : m % 32 = 0
      · simp [h2, htm']
        rw [← hR]
        simp [h2]
      · simp [h2, htm']
        refine aCall_of (smis_af x 0) (by simp) (by simp [Ex.d_eq]) ?_; simp [Ex.d_eq]
        cases h3 : isB x 0
        · simp
          rw [← hR]
          simp [h2, h3]
        · simp
          refine aCall_of (smsafe_af (eCon m) sy) (by simp) (by simp [Ex.d_eq]) ?_; simp [Ex.d_eq]
          cases h4 : safeB (eCon m)
          · simp
            rw [← hR]
            simp [h2, h3, h4]
          · simp
            refine aCall_of (const_af 0) (by simp) (by simp [Ex.d_eq]) ?_; simp [Ex.d_eq]
            rw [← hR]
            simp [h2, h3, h4]
    · simp [h1]
      refine aCall_of (smis_af x 0) (by simp) (by simp [Ex.d_eq]) ?_; simp [Ex.d_eq]
      cases h3 : isB x 0
      · simp
        rw [← hR]
        simp [h1, h3]
      · simp
        refine aCall_of (smsafe_af y sy) (by simp) (by simp [Ex.d_eq]) ?_; simp [Ex.d_eq]
        cases h4 : safeB y
        · simp
          rw [← hR]
          simp [h1, h3, h4]
        · simp
          refine aCall_of (const_af 0) (by simp) (by simp [Ex.d_eq]) ?_; simp [Ex.d_eq]
          rw [← hR]
          simp [h1, h3, h4]
  · refine af_of Tryz.func238 rfl (by kernel_rfl) (by simp [Tryz.ntmps238]) fun _ => ?_; simp [Tryz.f238, Ex.d_eq]
    refine aCall_of (smnumber_af y) (by simp) (by simp [Ex.d_eq]) ?_; simp [Ex.d_eq]
    by_cases h1 : y.op = 1
    · obtain ⟨m, rfl⟩ : ∃ m, y = eCon m := ⟨_, form_con hy h1⟩
      have htm' : m.tmod 32 = m % 32 := htm
      by_cases h2 : m % 32 = 0
      · simp [h2, htm']
        rw [← hR]
        simp [h2]
      · simp [h2, htm']
        refine aCall_of (smis_af x 0) (by simp) (by simp [Ex.d_eq]) ?_; simp [Ex.d_eq]
        cases h3 : isB x 0
        · simp
          rw [← hR]
          simp [h2, h3]
        · simp
          refine aCall_of (smsafe_af (eCon m) sy) (by simp) (by simp [Ex.d_eq]) ?_; simp [Ex.d_eq]
          cases h4 : safeB (eCon m)
          · simp
            rw [← hR]
            simp [h2, h3, h4]
          · simp
            refine aCall_of (const_af 0) (by simp) (by simp [Ex.d_eq]) ?_; simp [Ex.d_eq]
            rw [← hR]
            simp [h2, h3, h4]
    · simp [h1]
      refine aCall_of (smis_af x 0) (by simp) (by simp [Ex.d_eq]) ?_; simp [Ex.d_eq]
      cases h3 : isB x 0
      · simp
        rw [← hR]
        simp [h1, h3]
      · simp
        refine aCall_of (smsafe_af y sy) (by simp) (by simp [Ex.d_eq]) ?_; simp [Ex.d_eq]
        cases h4 : safeB y
        · simp
          rw [← hR]
          simp [h1, h3, h4]
        · simp
          refine aCall_of (const_af 0) (by simp) (by simp [Ex.d_eq]) ?_; simp [Ex.d_eq]
          rw [← hR]
          simp [h1, h3, h4]
  · refine af_of Tryz.func238 rfl (by kernel_rfl) (by simp [Tryz.ntmps238]) fun _ => ?_; simp [Tryz.f238, Ex.d_eq]
    refine aCall_of (smnumber_af y) (by simp) (by simp [Ex.d_eq]) ?_; simp [Ex.d_eq]
    by_cases h1 : y.op = 1
    · obtain ⟨m, rfl⟩ : ∃ m, y = eCon m := ⟨_, form_con hy h1⟩
      have htm' : m.tmod 32 = m % 32 := htm
      by_cases h2 : m % 32 = 0
      · simp [h2, htm']
        rw [← hR]
        simp [h2]
      · simp [h2, htm']
        refine aCall_of (smis_af x 0) (by simp) (by simp [Ex.d_eq]) ?_; simp [Ex.d_eq]
        cases h3 : isB x 0
        · simp
          rw [← hR]
          simp [h2, h3]
        · simp
          refine aCall_of (smsafe_af (eCon m) sy) (by simp) (by simp [Ex.d_eq]) ?_; simp [Ex.d_eq]
          cases h4 : safeB (eCon m)
          · simp
            rw [← hR]
            simp [h2, h3, h4]
          · simp
            refine aCall_of (const_af 0) (by simp) (by simp [Ex.d_eq]) ?_; simp [Ex.d_eq]
            rw [← hR]
            simp [h2, h3, h4]
    · simp [h1]
      refine aCall_of (smis_af x 0) (by simp) (by simp [Ex.d_eq]) ?_; simp [Ex.d_eq]
      cases h3 : isB x 0
      · simp
        rw [← hR]
        simp [h1, h3]
      · simp
        refine aCall_of (smsafe_af y sy) (by simp) (by simp [Ex.d_eq]) ?_; simp [Ex.d_eq]
        cases h4 : safeB y
        · simp
          rw [← hR]
          simp [h1, h3, h4]
        · simp
          refine aCall_of (const_af 0) (by simp) (by simp [Ex.d_eq]) ?_; simp [Ex.d_eq]
          rw [← hR]
          simp [h1, h3, h4]
  · refine af_of Tryz.func238 rfl (by kernel_rfl) (by simp [Tryz.ntmps238]) fun _ => ?_; simp [Tryz.f238, Ex.d_eq]
    refine aCall_of (smnumber_af y) (by simp) (by simp [Ex.d_eq]) ?_; simp [Ex.d_eq]
    have hR' : R = none := by
      rw [← hR, if_neg (fun h => by have := h.2; omega), if_neg (fun h => by have := h.1; omega), if_neg (fun h => by have := h.1; omega), if_neg (fun h => by have := h.1; omega)]
    subst hR'
    clear hR
    by_cases h1 : y.op = 1
    · simp [h1, o3, o5, o6, o7, o8, o9, o10, o11]
    · simp [h1, o5, o6, o7, o9, o10, o11]
def sGrp (op : Int) (x y : Ex) : Option Ex := if y.op = 1 ∧ comB op = true ∧ x.op = op ∧ x.y.op = 1 then some (eTwo op x.x (eCon (apR op x.y.n y.n))) else none
theorem split_two {x : Ex} {op : Int} (hx : formB x = true) (h : x.op = op) (h3 : 3 ≤ op) (h15 : op ≤ 15) : splitR x op = .tup [exA x.x, aI .u32 x.y.n, aB (decide (x.y.op = 1))] := by
  obtain ⟨a, b, rfl, _⟩ := form_two' hx h h3 h15
  simp [splitR]
theorem split_no {x : Ex} {op : Int} (h : x.op ≠ op) : splitR x op = .tup [exA eNil, aI .u32 0, aB false] := by simp [splitR, h]
theorem smgrouped_af (op : Int) (x y : Ex) (hx : formB x = true) (sx : x.nodes ≤ 1000000000) (h3 : 3 ≤ op) (h15 : op ≤ 15) :
    AF Tryz.prog 239 [aI .i64 op, exA x, exA y] (oA eNil (sGrp op x y)) := by
  obtain ⟨R, hR⟩ : ∃ R, sGrp op x y = R := ⟨_, rfl⟩
  rw [hR]
  unfold sGrp at hR
  refine af_of Tryz.func239 rfl (by kernel_rfl) (by simp [Tryz.ntmps239]) fun _ => ?_; simp [Tryz.f239, Ex.d_eq]
  refine aCall_of (smnumber_af y) (by simp) (by simp [Ex.d_eq]) ?_; simp [Ex.d_eq]
  by_cases h1 : y.op = 1
  case neg =>
    simp [h1]
    rw [← hR]
    simp [h1]
  simp [h1]
  have hsp := smsplit_af x op
  by_cases h2 : x.op = op
  case neg =>
    rw [split_no h2] at hsp
    refine aCall_of (hsp) (by simp) (by simp [Ex.d_eq]) ?_; simp [Ex.d_eq]
    rw [← hR]
    simp [h2]
  obtain ⟨hxx, hxy, _, hxn, _⟩ := form_two3 hx (by omega) (by omega)
  rw [split_two hx h2 h3 h15] at hsp
  refine aCall_of (hsp) (by simp) (by simp [Ex.d_eq]) ?_; simp [Ex.d_eq]
  by_cases h4 : x.y.op = 1
  case neg =>
    simp [h4]
    rw [← hR]
    simp [h4]
  simp [h4]
  rw [if_congr' (c := comB op = true) (by simp [h1, h2, h4])] at hR
  subst hR
  rcases (show op = 3 ∨ op = 5 ∨ op = 6 ∨ op = 7 ∨ op = 8 ∨ (op ≠ 3 ∧ op ≠ 5 ∧ op ≠ 6 ∧ op ≠ 7 ∧ op ≠ 8) by omega) with rfl | rfl | rfl | rfl | rfl | ⟨o3, o5, o6, o7, o8⟩
  · simp [comB]
    rw [show apR 3 x.y.n y.n = IntKind.u32.wrap (x.y.n + y.n) from by simp [apR, u32e]]
    refine adraw [] (by kernel_rfl) (by kernel_rfl) (by kernel_rfl) (by kernel_rfl) ?_; simp [Ex.d_eq]
    refine adC_of (const_af (IntKind.u32.wrap (x.y.n + y.n))) (by simp) trivial (by simp) (by simp [Ex.d_eq]) ?_; simp [Ex.d_eq]
    refine adC_of (two_af 3 x.x (eCon (IntKind.u32.wrap (x.y.n + y.n))) (by omega) (by simp)) (by simp) trivial (by simp) (by simp [Ex.d_eq]) ?_; simp [Ex.d_eq]
  · simp [comB]
    rw [show apR 5 x.y.n y.n = IntKind.u32.wrap (x.y.n * y.n) from by simp [apR, u32e]]
    refine adraw [] (by kernel_rfl) (by kernel_rfl) (by kernel_rfl) (by kernel_rfl) ?_; simp [Ex.d_eq]
    refine adC_of (const_af (IntKind.u32.wrap (x.y.n * y.n))) (by simp) trivial (by simp) (by simp [Ex.d_eq]) ?_; simp [Ex.d_eq]
    refine adC_of (two_af 5 x.x (eCon (IntKind.u32.wrap (x.y.n * y.n))) (by omega) (by simp)) (by simp) trivial (by simp) (by simp [Ex.d_eq]) ?_; simp [Ex.d_eq]
  · simp [comB]
    rw [show apR 6 x.y.n y.n = andI .u32 x.y.n y.n from by simp [apR, u32e]]
    refine adraw [] (by kernel_rfl) (by kernel_rfl) (by kernel_rfl) (by kernel_rfl) ?_; simp [Ex.d_eq]
    refine adC_of (const_af (andI .u32 x.y.n y.n)) (by simp) trivial (by simp) (by simp [Ex.d_eq]) ?_; simp [Ex.d_eq]
    refine adC_of (two_af 6 x.x (eCon (andI .u32 x.y.n y.n)) (by omega) (by simp)) (by simp) trivial (by simp) (by simp [Ex.d_eq]) ?_; simp [Ex.d_eq]
  · simp [comB]
    rw [show apR 7 x.y.n y.n = orI .u32 x.y.n y.n from by simp [apR, u32e]]
    refine adraw [] (by kernel_rfl) (by kernel_rfl) (by kernel_rfl) (by kernel_rfl) ?_; simp [Ex.d_eq]
    refine adC_of (const_af (orI .u32 x.y.n y.n)) (by simp) trivial (by simp) (by simp [Ex.d_eq]) ?_; simp [Ex.d_eq]
    refine adC_of (two_af 7 x.x (eCon (orI .u32 x.y.n y.n)) (by omega) (by simp)) (by simp) trivial (by simp) (by simp [Ex.d_eq]) ?_; simp [Ex.d_eq]
  · simp [comB]
    rw [show apR 8 x.y.n y.n = xorI .u32 x.y.n y.n from by simp [apR, u32e]]
    refine adraw [] (by kernel_rfl) (by kernel_rfl) (by kernel_rfl) (by kernel_rfl) ?_; simp [Ex.d_eq]
    refine adC_of (const_af (xorI .u32 x.y.n y.n)) (by simp) trivial (by simp) (by simp [Ex.d_eq]) ?_; simp [Ex.d_eq]
    refine adC_of (two_af 8 x.x (eCon (xorI .u32 x.y.n y.n)) (by omega) (by simp)) (by simp) trivial (by simp) (by simp [Ex.d_eq]) ?_; simp [Ex.d_eq]
  · simp [comB, o3, o5, o6, o7, o8]
end Go.Proofs.YtjnofkcfogognaaGreatDoor

/- Contracts: simplify's rules for two operands: equal, truth, moved, below. -/
namespace Go.Proofs.YtjnofkcfogognaaGreatDoor
open Go.RowKit
set_option maxRecDepth 8000 in
theorem smequal_af (op : Int) (x y : Ex) (sx : x.nodes ≤ 1000000000) : ∃ j, AF Tryz.prog 240 [aI .i64 op, exA x, exA y] (oA j (sSame op x y)) := by
  unfold sSame
  cases hs : sameB x y
  · refine ⟨eNil, ?_⟩
    refine af_of Tryz.func240 rfl (by kernel_rfl) (by simp [Tryz.ntmps240]) fun _ => ?_; simp [Tryz.f240, Ex.d_eq]
    refine aCall_of (same_af x y) (by simp) (by simp [Ex.d_eq]) ?_; simp [Ex.d_eq]
    simp [hs]
  rcases (show op = 4 ∨ op = 8 ∨ op = 13 ∨ op = 15 ∨ op = 14 ∨ op = 12 ∨ op = 6 ∨ op = 7 ∨ (op ≠ 4 ∧ op ≠ 8 ∧ op ≠ 13 ∧ op ≠ 15 ∧ op ≠ 14 ∧ op ≠ 12 ∧ op ≠ 6 ∧ op ≠ 7) by omega) with rfl | rfl | rfl | rfl | rfl | rfl | rfl | rfl | ⟨o4, o8, o13, o15, o14, o12, o6, o7⟩
  · refine ⟨eCon 0, ?_⟩
    refine af_of Tryz.func240 rfl (by kernel_rfl) (by simp [Tryz.ntmps240]) fun _ => ?_; simp [Tryz.f240, Ex.d_eq]
    refine aCall_of (same_af x y) (by simp) (by simp [Ex.d_eq]) ?_; simp [Ex.d_eq]
    simp [hs]
    refine adraw [] (by kernel_rfl) (by kernel_rfl) (by kernel_rfl) (by kernel_rfl) ?_; simp [Ex.d_eq]
    refine adC_of (const_af 0) (by simp) trivial (by simp) (by simp [Ex.d_eq]) ?_; simp [Ex.d_eq]
    refine adC_of (smsafe_af x sx) (by simp) trivial (by simp) (by simp [Ex.d_eq]) ?_; simp [Ex.d_eq]
    cases hb : safeB x <;> simp
  · refine ⟨eCon 0, ?_⟩
    refine af_of Tryz.func240 rfl (by kernel_rfl) (by simp [Tryz.ntmps240]) fun _ => ?_; simp [Tryz.f240, Ex.d_eq]
    refine aCall_of (same_af x y) (by simp) (by simp [Ex.d_eq]) ?_; simp [Ex.d_eq]
    simp [hs]
    refine adraw [] (by kernel_rfl) (by kernel_rfl) (by kernel_rfl) (by kernel_rfl) ?_; simp [Ex.d_eq]
    refine adC_of (const_af 0) (by simp) trivial (by simp) (by simp [Ex.d_eq]) ?_; simp [Ex.d_eq]
    refine adC_of (smsafe_af x sx) (by simp) trivial (by simp) (by simp [Ex.d_eq]) ?_; simp [Ex.d_eq]
    cases hb : safeB x <;> simp
  · refine ⟨eCon 0, ?_⟩
    refine af_of Tryz.func240 rfl (by kernel_rfl) (by simp [Tryz.ntmps240]) fun _ => ?_; simp [Tryz.f240, Ex.d_eq]
    refine aCall_of (same_af x y) (by simp) (by simp [Ex.d_eq]) ?_; simp [Ex.d_eq]
    simp [hs]
    refine adraw [] (by kernel_rfl) (by kernel_rfl) (by kernel_rfl) (by kernel_rfl) ?_; simp [Ex.d_eq]
    refine adC_of (const_af 0) (by simp) trivial (by simp) (by simp [Ex.d_eq]) ?_; simp [Ex.d_eq]
    refine adC_of (smsafe_af x sx) (by simp) trivial (by simp) (by simp [Ex.d_eq]) ?_; simp [Ex.d_eq]
    cases hb : safeB x <;> simp
  · refine ⟨eCon 0, ?_⟩
    refine af_of Tryz.func240 rfl (by kernel_rfl) (by simp [Tryz.ntmps240]) fun _ => ?_; simp [Tryz.f240, Ex.d_eq]
    refine aCall_of (same_af x y) (by simp) (by simp [Ex.d_eq]) ?_; simp [Ex.d_eq]
    simp [hs]
    refine adraw [] (by kernel_rfl) (by kernel_rfl) (by kernel_rfl) (by kernel_rfl) ?_; simp [Ex.d_eq]
    refine adC_of (const_af 0) (by simp) trivial (by simp) (by simp [Ex.d_eq]) ?_; simp [Ex.d_eq]
    refine adC_of (smsafe_af x sx) (by simp) trivial (by simp) (by simp [Ex.d_eq]) ?_; simp [Ex.d_eq]
    cases hb : safeB x <;> simp
  · refine ⟨eCon 0, ?_⟩
    refine af_of Tryz.func240 rfl (by kernel_rfl) (by simp [Tryz.ntmps240]) fun _ => ?_; simp [Tryz.f240, Ex.d_eq]
    refine aCall_of (same_af x y) (by simp) (by simp [Ex.d_eq]) ?_; simp [Ex.d_eq]
    simp [hs]
    refine adraw [] (by kernel_rfl) (by kernel_rfl) (by kernel_rfl) (by kernel_rfl) ?_; simp [Ex.d_eq]
    refine adC_of (const_af 0) (by simp) trivial (by simp) (by simp [Ex.d_eq]) ?_; simp [Ex.d_eq]
    refine adC_of (smsafe_af x sx) (by simp) trivial (by simp) (by simp [Ex.d_eq]) ?_; simp [Ex.d_eq]
    cases hb : safeB x <;> simp
  · refine ⟨eCon 1, ?_⟩
    refine af_of Tryz.func240 rfl (by kernel_rfl) (by simp [Tryz.ntmps240]) fun _ => ?_; simp [Tryz.f240, Ex.d_eq]
    refine aCall_of (same_af x y) (by simp) (by simp [Ex.d_eq]) ?_; simp [Ex.d_eq]
    simp [hs]
    refine adraw [] (by kernel_rfl) (by kernel_rfl) (by kernel_rfl) (by kernel_rfl) ?_; simp [Ex.d_eq]
    refine adC_of (const_af 1) (by simp) trivial (by simp) (by simp [Ex.d_eq]) ?_; simp [Ex.d_eq]
    refine adC_of (smsafe_af x sx) (by simp) trivial (by simp) (by simp [Ex.d_eq]) ?_; simp [Ex.d_eq]
    cases hb : safeB x <;> simp
  · refine ⟨eNil, ?_⟩
    refine af_of Tryz.func240 rfl (by kernel_rfl) (by simp [Tryz.ntmps240]) fun _ => ?_; simp [Tryz.f240, Ex.d_eq]
    refine aCall_of (same_af x y) (by simp) (by simp [Ex.d_eq]) ?_; simp [Ex.d_eq]
    simp [hs]
  · refine ⟨eNil, ?_⟩
    refine af_of Tryz.func240 rfl (by kernel_rfl) (by simp [Tryz.ntmps240]) fun _ => ?_; simp [Tryz.f240, Ex.d_eq]
    refine aCall_of (same_af x y) (by simp) (by simp [Ex.d_eq]) ?_; simp [Ex.d_eq]
    simp [hs]
  · refine ⟨eNil, ?_⟩
    refine af_of Tryz.func240 rfl (by kernel_rfl) (by simp [Tryz.ntmps240]) fun _ => ?_; simp [Tryz.f240, Ex.d_eq]
    refine aCall_of (same_af x y) (by simp) (by simp [Ex.d_eq]) ?_; simp [Ex.d_eq]
    simp [hs, o4, o8, o13, o15, o14, o12, o6, o7]
theorem smtruth_af (op : Int) (x y : Ex) : AF Tryz.prog 241 [aI .i64 op, exA x, exA y] (oA eNil (sTruth op x y)) := by
  unfold sTruth
  rcases (show op = 12 ∨ op = 13 ∨ (op ≠ 12 ∧ op ≠ 13) by omega) with rfl | rfl | ⟨o12, o13⟩
  · refine af_of Tryz.func241 rfl (by kernel_rfl) (by simp [Tryz.ntmps241]) fun _ => ?_; simp [Tryz.f241, Ex.d_eq]
    refine aCall_of (smis_af y 0) (by simp) (by simp [Ex.d_eq]) ?_; simp [Ex.d_eq]
    cases h0 : isB y 0
    · simp
      refine aCall_of (smboolean_af x) (by simp) (by simp [Ex.d_eq]) ?_; simp [Ex.d_eq]
      cases hb : boolB x
      · simp
      · simp
        refine aCall_of (smis_af y 1) (by simp) (by simp [Ex.d_eq]) ?_; simp [Ex.d_eq]
        cases h1 : isB y 1 <;> simp
    · simp
      refine aCall_of (smone_af 16 x) (by simp) (by simp [Ex.d_eq]) ?_; simp [Ex.d_eq]
  · refine af_of Tryz.func241 rfl (by kernel_rfl) (by simp [Tryz.ntmps241]) fun _ => ?_; simp [Tryz.f241, Ex.d_eq]
    refine aCall_of (smboolean_af x) (by simp) (by simp [Ex.d_eq]) ?_; simp [Ex.d_eq]
    cases hb : boolB x
    · simp
    · simp
      refine aCall_of (smis_af y 0) (by simp) (by simp [Ex.d_eq]) ?_; simp [Ex.d_eq]
      cases h0 : isB y 0
      · simp
        refine aCall_of (smis_af y 1) (by simp) (by simp [Ex.d_eq]) ?_; simp [Ex.d_eq]
        cases h1 : isB y 1
        · simp
        · simp
          refine aCall_of (smone_af 16 x) (by simp) (by simp [Ex.d_eq]) ?_; simp [Ex.d_eq]
      · simp
  · refine af_of Tryz.func241 rfl (by kernel_rfl) (by simp [Tryz.ntmps241]) fun _ => ?_; simp [Tryz.f241, Ex.d_eq]
    simp [o12, o13]
    refine aCall_of (smboolean_af x) (by simp) (by simp [Ex.d_eq]) ?_; simp [Ex.d_eq]
    cases hb : boolB x <;> simp [o12, o13]
theorem smbelow_af (x y : Ex) (sx : x.nodes ≤ 1000000000) (sy : y.nodes ≤ 1000000000) : AF Tryz.prog 243 [exA x, exA y] (oA eNil (sBelow 15 x y)) := by
  unfold sBelow
  refine af_of Tryz.func243 rfl (by kernel_rfl) (by simp [Tryz.ntmps243]) fun _ => ?_; simp [Tryz.f243, Ex.d_eq]
  refine aCall_of (smis_af x 0) (by simp) (by simp [Ex.d_eq]) ?_; simp [Ex.d_eq]
  cases h0 : isB x 0
  · simp
    refine aCall_of (smis_af y 1) (by simp) (by simp [Ex.d_eq]) ?_; simp [Ex.d_eq]
    cases h1 : isB y 1
    · simp
      refine aCall_of (smis_af y 0) (by simp) (by simp [Ex.d_eq]) ?_; simp [Ex.d_eq]
      cases h2 : isB y 0
      · simp
      · simp
        refine aCall_of (smsafe_af x sx) (by simp) (by simp [Ex.d_eq]) ?_; simp [Ex.d_eq]
        cases h3 : safeB x
        · simp
        · simp
          refine aCall_of (const_af 0) (by simp) (by simp [Ex.d_eq]) ?_; simp [Ex.d_eq]
    · simp
      refine aCall_of (smone_af 16 x) (by simp) (by simp [Ex.d_eq]) ?_; simp [Ex.d_eq]
  · simp
    refine adraw [] (by kernel_rfl) (by kernel_rfl) (by kernel_rfl) (by kernel_rfl) ?_; simp [Ex.d_eq]
    refine adC_of (const_af 0) (by simp) trivial (by simp) (by simp [Ex.d_eq]) ?_; simp [Ex.d_eq]
    refine adC_of (two_af 13 y (eCon 0) sy (by simp)) (by simp) trivial (by simp) (by simp [Ex.d_eq]) ?_; simp [Ex.d_eq]
theorem smmoved_af (op : Int) (x y : Ex) (hx : formB x = true) (sx : x.nodes ≤ 1000000000) : AF Tryz.prog 242 [aI .i64 op, exA x, exA y] (oA eNil (sMove op x y)) := by
  obtain ⟨R, hR⟩ : ∃ R, sMove op x y = R := ⟨_, rfl⟩
  rw [hR]
  unfold sMove at hR
  have s3 := smsplit_af x 3
  have s8 := smsplit_af x 8
  rcases (show op = 12 ∨ op = 13 ∨ (op ≠ 12 ∧ op ≠ 13) by omega) with rfl | rfl | ⟨o12, o13⟩
  · refine af_of Tryz.func242 rfl (by kernel_rfl) (by simp [Tryz.ntmps242]) fun _ => ?_; simp [Tryz.f242, Ex.d_eq]
    refine aCall_of (smnumber_af y) (by simp) (by simp [Ex.d_eq]) ?_; simp [Ex.d_eq]
    by_cases h1 : y.op = 1
    case neg =>
      simp [h1]
      rw [← hR]
      simp [h1]
    simp [h1]
    by_cases k3 : x.op = 3
    · have g3 := s3
      rw [split_two hx k3 (by omega) (by omega)] at g3
      obtain ⟨_, _, _, hxn, _⟩ := form_two3 hx (by omega) (by omega)
      refine aCall_of (g3) (by simp) (by simp [Ex.d_eq]) ?_; simp [Ex.d_eq]
      by_cases h4 : x.y.op = 1
      · simp [h4]
        refine adraw [] (by kernel_rfl) (by kernel_rfl) (by kernel_rfl) (by kernel_rfl) ?_; simp [Ex.d_eq]
        refine adC_of (const_af (IntKind.u32.wrap (y.n - x.y.n))) (by simp) trivial (by simp) (by simp [Ex.d_eq]) ?_; simp [Ex.d_eq]
        refine adC_of (two_af 12 x.x (eCon (IntKind.u32.wrap (y.n - x.y.n))) (by omega) (by simp)) (by simp) trivial (by simp) (by simp [Ex.d_eq]) ?_; simp [Ex.d_eq]
        rw [← hR]
        simp [h1, k3, h4, u32e, Ex.d_eq]
      · simp [h4]
        have g8 := s8
        rw [split_no (by omega)] at g8
        refine aCall_of (g8) (by simp) (by simp [Ex.d_eq]) ?_; simp [Ex.d_eq]
        rw [← hR]
        simp [h1, k3, h4]
    · have g3 := s3
      rw [split_no k3] at g3
      refine aCall_of (g3) (by simp) (by simp [Ex.d_eq]) ?_; simp [Ex.d_eq]
      have g8 := s8
      by_cases k8 : x.op = 8
      · rw [split_two hx k8 (by omega) (by omega)] at g8
        obtain ⟨_, _, _, hxn, _⟩ := form_two3 hx (by omega) (by omega)
        refine aCall_of (g8) (by simp) (by simp [Ex.d_eq]) ?_; simp [Ex.d_eq]
        by_cases h4 : x.y.op = 1
        · simp [h4]
          refine adraw [] (by kernel_rfl) (by kernel_rfl) (by kernel_rfl) (by kernel_rfl) ?_; simp [Ex.d_eq]
          refine adC_of (const_af (xorI .u32 x.y.n y.n)) (by simp) trivial (by simp) (by simp [Ex.d_eq]) ?_; simp [Ex.d_eq]
          refine adC_of (two_af 12 x.x (eCon (xorI .u32 x.y.n y.n)) (by omega) (by simp)) (by simp) trivial (by simp) (by simp [Ex.d_eq]) ?_; simp [Ex.d_eq]
          rw [← hR]
          simp [h1, k8, h4, Ex.d_eq]
        · simp [h4]
          rw [← hR]
          simp [h1, k8, h4, Ex.d_eq]
      · rw [split_no k8] at g8
        refine aCall_of (g8) (by simp) (by simp [Ex.d_eq]) ?_; simp [Ex.d_eq]
        rw [← hR]
        simp [h1, k3, k8]
  · refine af_of Tryz.func242 rfl (by kernel_rfl) (by simp [Tryz.ntmps242]) fun _ => ?_; simp [Tryz.f242, Ex.d_eq]
    refine aCall_of (smis_af y 0) (by simp) (by simp [Ex.d_eq]) ?_; simp [Ex.d_eq]
    cases h0 : isB y 0
    · simp
      refine aCall_of (smnumber_af y) (by simp) (by simp [Ex.d_eq]) ?_; simp [Ex.d_eq]
      by_cases h1 : y.op = 1
      case neg =>
        simp [h1]
        rw [← hR]
        simp [h1, h0]
      simp [h1]
      by_cases k3 : x.op = 3
      · have g3 := s3
        rw [split_two hx k3 (by omega) (by omega)] at g3
        obtain ⟨_, _, _, hxn, _⟩ := form_two3 hx (by omega) (by omega)
        refine aCall_of (g3) (by simp) (by simp [Ex.d_eq]) ?_; simp [Ex.d_eq]
        by_cases h4 : x.y.op = 1
        · simp [h4]
          refine adraw [] (by kernel_rfl) (by kernel_rfl) (by kernel_rfl) (by kernel_rfl) ?_; simp [Ex.d_eq]
          refine adC_of (const_af (IntKind.u32.wrap (y.n - x.y.n))) (by simp) trivial (by simp) (by simp [Ex.d_eq]) ?_; simp [Ex.d_eq]
          refine adC_of (two_af 13 x.x (eCon (IntKind.u32.wrap (y.n - x.y.n))) (by omega) (by simp)) (by simp) trivial (by simp) (by simp [Ex.d_eq]) ?_; simp [Ex.d_eq]
          rw [← hR]
          simp [h1, k3, h4, u32e, Ex.d_eq, h0]
        · simp [h4]
          have g8 := s8
          rw [split_no (by omega)] at g8
          refine aCall_of (g8) (by simp) (by simp [Ex.d_eq]) ?_; simp [Ex.d_eq]
          rw [← hR]
          simp [h1, k3, h4, h0]
      · have g3 := s3
        rw [split_no k3] at g3
        refine aCall_of (g3) (by simp) (by simp [Ex.d_eq]) ?_; simp [Ex.d_eq]
        have g8 := s8
        by_cases k8 : x.op = 8
        · rw [split_two hx k8 (by omega) (by omega)] at g8
          obtain ⟨_, _, _, hxn, _⟩ := form_two3 hx (by omega) (by omega)
          refine aCall_of (g8) (by simp) (by simp [Ex.d_eq]) ?_; simp [Ex.d_eq]
          by_cases h4 : x.y.op = 1
          · simp [h4]
            refine adraw [] (by kernel_rfl) (by kernel_rfl) (by kernel_rfl) (by kernel_rfl) ?_; simp [Ex.d_eq]
            refine adC_of (const_af (xorI .u32 x.y.n y.n)) (by simp) trivial (by simp) (by simp [Ex.d_eq]) ?_; simp [Ex.d_eq]
            refine adC_of (two_af 13 x.x (eCon (xorI .u32 x.y.n y.n)) (by omega) (by simp)) (by simp) trivial (by simp) (by simp [Ex.d_eq]) ?_; simp [Ex.d_eq]
            rw [← hR]
            simp [h1, k8, h4, Ex.d_eq, h0]
          · simp [h4]
            rw [← hR]
            simp [h1, k8, h4, Ex.d_eq, h0]
        · rw [split_no k8] at g8
          refine aCall_of (g8) (by simp) (by simp [Ex.d_eq]) ?_; simp [Ex.d_eq]
          rw [← hR]
          simp [h1, k3, k8, h0]
    · by_cases k4 : x.op = 4
      · obtain ⟨a, b, rfl, ha, hb⟩ := form_two' hx k4 (by omega) (by omega)
        simp only [nodes_two] at sx
        simp
        refine adraw [] (by kernel_rfl) (by kernel_rfl) (by kernel_rfl) (by kernel_rfl) ?_; simp [Ex.d_eq]
        refine adC_of (two_af 13 a b (by omega) (by omega)) (by simp) trivial (by simp) (by simp [Ex.d_eq]) ?_; simp [Ex.d_eq]
        rw [← hR]
        simp [h0]
      by_cases k8 : x.op = 8
      · obtain ⟨a, b, rfl, ha, hb⟩ := form_two' hx k8 (by omega) (by omega)
        simp only [nodes_two] at sx
        simp
        refine adraw [] (by kernel_rfl) (by kernel_rfl) (by kernel_rfl) (by kernel_rfl) ?_; simp [Ex.d_eq]
        refine adC_of (two_af 13 a b (by omega) (by omega)) (by simp) trivial (by simp) (by simp [Ex.d_eq]) ?_; simp [Ex.d_eq]
        rw [← hR]
        simp [h0]
      simp [k4, k8]
      refine aCall_of (smnumber_af y) (by simp) (by simp [Ex.d_eq]) ?_; simp [Ex.d_eq]
      by_cases h1 : y.op = 1
      case neg =>
        simp [h1]
        rw [← hR]
        simp [h1, h0, k4, k8]
      simp [h1]
      by_cases k3 : x.op = 3
      · have g3 := s3
        rw [split_two hx k3 (by omega) (by omega)] at g3
        obtain ⟨_, _, _, hxn, _⟩ := form_two3 hx (by omega) (by omega)
        refine aCall_of (g3) (by simp) (by simp [Ex.d_eq]) ?_; simp [Ex.d_eq]
        by_cases h4 : x.y.op = 1
        · simp [h4]
          refine adraw [] (by kernel_rfl) (by kernel_rfl) (by kernel_rfl) (by kernel_rfl) ?_; simp [Ex.d_eq]
          refine adC_of (const_af (IntKind.u32.wrap (y.n - x.y.n))) (by simp) trivial (by simp) (by simp [Ex.d_eq]) ?_; simp [Ex.d_eq]
          refine adC_of (two_af 13 x.x (eCon (IntKind.u32.wrap (y.n - x.y.n))) (by omega) (by simp)) (by simp) trivial (by simp) (by simp [Ex.d_eq]) ?_; simp [Ex.d_eq]
          rw [← hR]
          simp [h1, k3, h4, u32e, Ex.d_eq, h0, k4, k8]
        · simp [h4]
          have g8 := s8
          rw [split_no (by omega)] at g8
          refine aCall_of (g8) (by simp) (by simp [Ex.d_eq]) ?_; simp [Ex.d_eq]
          rw [← hR]
          simp [h1, k3, h4, h0, k4, k8]
      · have g3 := s3
        rw [split_no k3] at g3
        refine aCall_of (g3) (by simp) (by simp [Ex.d_eq]) ?_; simp [Ex.d_eq]
        have g8 := s8
        rw [split_no k8] at g8
        refine aCall_of (g8) (by simp) (by simp [Ex.d_eq]) ?_; simp [Ex.d_eq]
        rw [← hR]
        simp [h1, k3, h0, k4, k8]
  · refine af_of Tryz.func242 rfl (by kernel_rfl) (by simp [Tryz.ntmps242]) fun _ => ?_; simp [Tryz.f242, Ex.d_eq]
    simp [o13]
    refine aCall_of (smnumber_af y) (by simp) (by simp [Ex.d_eq]) ?_; simp [Ex.d_eq]
    rw [if_neg (by omega), if_neg (by omega), if_neg (by omega)] at hR
    subst hR
    by_cases h1 : y.op = 1 <;> simp [h1, o12, o13]
end Go.Proofs.YtjnofkcfogognaaGreatDoor

/- Contracts: simplify's rules negated, signs, extended. -/
namespace Go.Proofs.YtjnofkcfogognaaGreatDoor
open Go.RowKit
set_option maxRecDepth 8000 in
theorem smnegated_af (x : Ex) (hx : formB x = true) (sx : x.nodes ≤ 1000000000) : AF Tryz.prog 203 [exA x] (oA eNil (sNot x)) := by
  have hop := form_op hx
  have s3 := smsplit_af x 3
  rcases (show x.op = 12 ∨ x.op = 13 ∨ x.op = 4 ∨ x.op = 8 ∨ x.op = 16 ∨ x.op = 3 ∨ (x.op ≠ 12 ∧ x.op ≠ 13 ∧ x.op ≠ 4 ∧ x.op ≠ 8 ∧ x.op ≠ 16 ∧ x.op ≠ 3) by omega) with k | k | k | k | k | k | ⟨k12, k13, k4, k8, k16, k3⟩
  · obtain ⟨a, b, rfl, ha, hb⟩ := form_two' hx k (by omega) (by omega)
    simp only [nodes_two] at sx
    refine af_of Tryz.func203 rfl (by kernel_rfl) (by simp [Tryz.ntmps203]) fun _ => ?_; simp [Tryz.f203, Ex.d_eq]
    refine adraw [] (by kernel_rfl) (by kernel_rfl) (by kernel_rfl) (by kernel_rfl) ?_; simp [Ex.d_eq]
    refine adC_of (two_af 13 a b (by omega) (by omega)) (by simp) trivial (by simp) (by simp [Ex.d_eq]) ?_; simp [Ex.d_eq]
    simp [sNot]
  · obtain ⟨a, b, rfl, ha, hb⟩ := form_two' hx k (by omega) (by omega)
    simp only [nodes_two] at sx
    refine af_of Tryz.func203 rfl (by kernel_rfl) (by simp [Tryz.ntmps203]) fun _ => ?_; simp [Tryz.f203, Ex.d_eq]
    refine adraw [] (by kernel_rfl) (by kernel_rfl) (by kernel_rfl) (by kernel_rfl) ?_; simp [Ex.d_eq]
    refine adC_of (two_af 12 a b (by omega) (by omega)) (by simp) trivial (by simp) (by simp [Ex.d_eq]) ?_; simp [Ex.d_eq]
    simp [sNot]
  · obtain ⟨a, b, rfl, ha, hb⟩ := form_two' hx k (by omega) (by omega)
    simp only [nodes_two] at sx
    refine af_of Tryz.func203 rfl (by kernel_rfl) (by simp [Tryz.ntmps203]) fun _ => ?_; simp [Tryz.f203, Ex.d_eq]
    refine adraw [] (by kernel_rfl) (by kernel_rfl) (by kernel_rfl) (by kernel_rfl) ?_; simp [Ex.d_eq]
    refine adC_of (two_af 12 a b (by omega) (by omega)) (by simp) trivial (by simp) (by simp [Ex.d_eq]) ?_; simp [Ex.d_eq]
    simp [sNot]
  · obtain ⟨a, b, rfl, ha, hb⟩ := form_two' hx k (by omega) (by omega)
    simp only [nodes_two] at sx
    refine af_of Tryz.func203 rfl (by kernel_rfl) (by simp [Tryz.ntmps203]) fun _ => ?_; simp [Tryz.f203, Ex.d_eq]
    refine adraw [] (by kernel_rfl) (by kernel_rfl) (by kernel_rfl) (by kernel_rfl) ?_; simp [Ex.d_eq]
    refine adC_of (two_af 12 a b (by omega) (by omega)) (by simp) trivial (by simp) (by simp [Ex.d_eq]) ?_; simp [Ex.d_eq]
    simp [sNot]
  · obtain ⟨a, ha', ha⟩ := form_one hx (.inl k)
    rw [k] at ha'
    subst ha'
    simp only [nodes_one] at sx
    refine af_of Tryz.func203 rfl (by kernel_rfl) (by simp [Tryz.ntmps203]) fun _ => ?_; simp [Tryz.f203, Ex.d_eq]
    refine aCall_of (smboolean_af a) (by simp) (by simp [Ex.d_eq]) ?_; simp [Ex.d_eq]
    cases hb : boolB a
    · simp
      refine adraw [] (by kernel_rfl) (by kernel_rfl) (by kernel_rfl) (by kernel_rfl) ?_; simp [Ex.d_eq]
      refine adC_of (const_af 0) (by simp) trivial (by simp) (by simp [Ex.d_eq]) ?_; simp [Ex.d_eq]
      refine adC_of (two_af 13 a (eCon 0) (by omega) (by simp)) (by simp) trivial (by simp) (by simp [Ex.d_eq]) ?_; simp [Ex.d_eq]
      simp [sNot, hb, Ex.d_eq]
    · simp [sNot, hb]
  · obtain ⟨a, b, rfl, ha, hb⟩ := form_two' hx k (by omega) (by omega)
    simp only [nodes_two] at sx
    rw [split_two hx k (by omega) (by omega)] at s3
    refine af_of Tryz.func203 rfl (by kernel_rfl) (by simp [Tryz.ntmps203]) fun _ => ?_; simp [Tryz.f203, Ex.d_eq]
    refine aCall_of (s3) (by simp) (by simp [Ex.d_eq]) ?_; simp [Ex.d_eq]
    by_cases h4 : b.op = 1
    · simp [h4]
      refine adraw [] (by kernel_rfl) (by kernel_rfl) (by kernel_rfl) (by kernel_rfl) ?_; simp [Ex.d_eq]
      refine adC_of (const_af (IntKind.u32.wrap (0 - b.n))) (by simp) trivial (by simp) (by simp [Ex.d_eq]) ?_; simp [Ex.d_eq]
      refine adC_of (two_af 12 a (eCon (IntKind.u32.wrap (0 - b.n))) (by omega) (by simp)) (by simp) trivial (by simp) (by simp [Ex.d_eq]) ?_; simp [Ex.d_eq]
      simp [sNot, h4, u32e, Ex.d_eq]
    · simp [h4, sNot]
  · rw [split_no k3] at s3
    have hn : sNot x = none := by simp [sNot, k12, k13, k4, k8, k16, k3]
    rw [hn]
    refine af_of Tryz.func203 rfl (by kernel_rfl) (by simp [Tryz.ntmps203]) fun _ => ?_; simp [Tryz.f203, Ex.d_eq]
    simp [k12, k13, k4, k8, k16]
    refine aCall_of (s3) (by simp) (by simp [Ex.d_eq]) ?_; simp [Ex.d_eq]
def sSignE (e : Ex) : Option Ex := if e.op = 3 ∨ e.op = 4 then sSign e.op e.x e.y else if e.op = 17 then sNeg e.x else none
theorem smsigns_af (e : Ex) (hf : formB e = true) (se : e.nodes ≤ 1000000000) : AF Tryz.prog 202 [exA e] (oA e (sSignE e)) := by
  have hop := form_op hf
  rcases (show e.op = 4 ∨ e.op = 3 ∨ e.op = 17 ∨ (e.op ≠ 4 ∧ e.op ≠ 3 ∧ e.op ≠ 17) by omega) with k | k | k | ⟨k4, k3, k17⟩
  · obtain ⟨x, y, rfl, hx, hy⟩ := form_two' hf k (by omega) (by omega)
    simp only [nodes_two] at se
    refine af_of Tryz.func202 rfl (by kernel_rfl) (by simp [Tryz.ntmps202]) fun _ => ?_; simp [Tryz.f202, Ex.d_eq]
    refine adraw [(10, 5), (10, 7)] (by kernel_rfl) (by kernel_rfl) (by kernel_rfl) (by kernel_rfl) ?_; simp [Ex.d_eq]
    refine aCall_of (smis_af x 0) (by simp) (by simp [Ex.d_eq]) ?_; simp [Ex.d_eq]
    cases h0 : isB x 0
    · simp
      by_cases h1 : y.op = 17
      · obtain ⟨z, rfl, hz⟩ := form_one' hy h1
        simp only [nodes_one] at se
        simp
        refine adraw [] (by kernel_rfl) (by kernel_rfl) (by kernel_rfl) (by kernel_rfl) ?_; simp [Ex.d_eq]
        refine adC_of (two_af 3 x z (by omega) (by omega)) (by simp) trivial (by simp) (by simp [Ex.d_eq]) ?_; simp [Ex.d_eq]
        simp [sSignE, sSign, h0, Ex.d_eq]
      · simp [h1, sSignE, sSign, h0, Ex.d_eq]
    · simp
      refine aCall_of (smone_af 17 y) (by simp) (by simp [Ex.d_eq]) ?_; simp [Ex.d_eq]
      simp [sSignE, sSign, h0, Ex.d_eq]
  · obtain ⟨x, y, rfl, hx, hy⟩ := form_two' hf k (by omega) (by omega)
    simp only [nodes_two] at se
    refine af_of Tryz.func202 rfl (by kernel_rfl) (by simp [Tryz.ntmps202]) fun _ => ?_; simp [Tryz.f202, Ex.d_eq]
    refine adraw [(10, 5), (10, 7)] (by kernel_rfl) (by kernel_rfl) (by kernel_rfl) (by kernel_rfl) ?_; simp [Ex.d_eq]
    by_cases h1 : y.op = 17
    · obtain ⟨z, rfl, hz⟩ := form_one' hy h1
      simp only [nodes_one] at se
      simp
      refine adraw [] (by kernel_rfl) (by kernel_rfl) (by kernel_rfl) (by kernel_rfl) ?_; simp [Ex.d_eq]
      refine adC_of (two_af 4 x z (by omega) (by omega)) (by simp) trivial (by simp) (by simp [Ex.d_eq]) ?_; simp [Ex.d_eq]
      simp [sSignE, sSign, Ex.d_eq]
    simp [h1]
    by_cases h2 : x.op = 17
    · obtain ⟨z, rfl, hz⟩ := form_one' hx h2
      simp only [nodes_one] at se
      simp
      refine adraw [] (by kernel_rfl) (by kernel_rfl) (by kernel_rfl) (by kernel_rfl) ?_; simp [Ex.d_eq]
      refine adC_of (two_af 4 y z (by omega) (by omega)) (by simp) trivial (by simp) (by simp [Ex.d_eq]) ?_; simp [Ex.d_eq]
      simp [sSignE, sSign, h1, Ex.d_eq]
    · simp [h1, h2, sSignE, sSign, Ex.d_eq]
  · obtain ⟨x, rfl, hx⟩ := form_one' hf k
    simp only [nodes_one] at se
    refine af_of Tryz.func202 rfl (by kernel_rfl) (by simp [Tryz.ntmps202]) fun _ => ?_; simp [Tryz.f202, Ex.d_eq]
    by_cases h1 : x.op = 17
    · obtain ⟨z, rfl, hz⟩ := form_one' hx h1
      simp [sSignE, sNeg, Ex.d_eq]
    simp [h1]
    by_cases h2 : x.op = 4
    · obtain ⟨a, b, rfl, ha, hb⟩ := form_two' hx h2 (by omega) (by omega)
      simp only [nodes_two] at se
      simp
      refine adraw [] (by kernel_rfl) (by kernel_rfl) (by kernel_rfl) (by kernel_rfl) ?_; simp [Ex.d_eq]
      refine adC_of (two_af 4 b a (by omega) (by omega)) (by simp) trivial (by simp) (by simp [Ex.d_eq]) ?_; simp [Ex.d_eq]
      simp [sSignE, sNeg, Ex.d_eq]
    · simp [h1, h2, sSignE, sNeg, Ex.d_eq]
  · refine af_of Tryz.func202 rfl (by kernel_rfl) (by simp [Tryz.ntmps202]) fun _ => ?_; simp [Tryz.f202, Ex.d_eq]
    simp [k4, k3, k17, sSignE, Ex.d_eq]
def sExtE (e : Ex) : Option Ex := if e.op = 19 then sExt e.wd e.x else sMask e.op e.x e.y
theorem cov_4 (n : Int) : covB n 4 = false := by simp [covB]
theorem smextended_af (e : Ex) (hf : formB e = true) (he : OkN e) (se : e.nodes ≤ 1000000000) : AF Tryz.prog 204 [exA e] (oA e (sExtE e)) := by
  have s6 := smsplit_af e 6
  rcases (show e.op = 19 ∨ e.op = 6 ∨ (e.op ≠ 19 ∧ e.op ≠ 6) by omega) with k | k | ⟨k19, k6⟩
  · obtain ⟨x, hx', hx, hw⟩ := form_wide hf (.inr k)
    have hw' : e.wd = 1 ∨ e.wd = 2 := by omega
    have nx : OkN x := he.l x (by rw [hx']; simp)
    obtain ⟨w, hwd⟩ : ∃ w, e.wd = w := ⟨_, rfl⟩
    rw [k, hwd] at hx'
    rw [hwd] at hw'
    subst hx'
    clear hwd k hw
    rw [split_no (by simp)] at s6
    have t6 := smsplit_af x 6
    have hE : sExtE (.mk 19 0 0 w [x]) = sExt w x := by simp [sExtE]
    rw [hE]
    unfold sExt
    by_cases h6 : x.op = 6
    · obtain ⟨a, b, rfl, ha, hb⟩ := form_two' hx h6 (by omega) (by omega)
      rw [split_two hx h6 (by omega) (by omega)] at t6
      have nb : R32 b.n := (nx.l b (by simp)).n
      by_cases h1 : b.op = 1
      · obtain ⟨m, rfl⟩ : ∃ m, b = eCon m := ⟨_, form_con hb h1⟩
        refine af_of Tryz.func204 rfl (by kernel_rfl) (by simp [Tryz.ntmps204]) fun _ => ?_; simp [Tryz.f204, Ex.d_eq]
        refine aCall_of (t6) (by simp) (by simp [Ex.d_eq]) ?_; simp [Ex.d_eq]
        refine aCall_of (smcovers_af m w hw' nb) (by simp) (by simp [Ex.d_eq]) ?_; simp [Ex.d_eq]
        cases hc : covB m w
        · simp
          refine aCall_of (s6) (by simp) (by simp [Ex.d_eq]) ?_; simp [Ex.d_eq]
        · simp
      · refine af_of Tryz.func204 rfl (by kernel_rfl) (by simp [Tryz.ntmps204]) fun _ => ?_; simp [Tryz.f204, Ex.d_eq]
        refine aCall_of (t6) (by simp) (by simp [Ex.d_eq]) ?_; simp [Ex.d_eq]
        simp [h1]
        refine aCall_of (s6) (by simp) (by simp [Ex.d_eq]) ?_; simp [Ex.d_eq]
    · rw [split_no h6] at t6
      refine af_of Tryz.func204 rfl (by kernel_rfl) (by simp [Tryz.ntmps204]) fun _ => ?_; simp [Tryz.f204, Ex.d_eq]
      refine aCall_of (t6) (by simp) (by simp [Ex.d_eq]) ?_; simp [Ex.d_eq]
      by_cases h19 : x.op = 19
      · obtain ⟨a, ha', ha, _⟩ := form_wide hx (.inr h19)
        obtain ⟨v, hv⟩ : ∃ v, x.wd = v := ⟨_, rfl⟩
        rw [h19, hv] at ha'
        subst ha'
        simp
        refine adraw [] (by kernel_rfl) (by kernel_rfl) (by kernel_rfl) (by kernel_rfl) ?_; simp [Ex.d_eq]
        rw [Int.min_def]
        split <;> split <;> omega
      · simp [h19, h6]
        refine aCall_of (s6) (by simp) (by simp [Ex.d_eq]) ?_; simp [Ex.d_eq]
  · obtain ⟨x, y, rfl, hx, hy⟩ := form_two' hf k (by omega) (by omega)
    rw [split_two hf k (by omega) (by omega)] at s6
    have ny : R32 y.n := (he.l y (by simp)).n
    have hE : sExtE (eTwo 6 x y) = sMask 6 x y := by simp [sExtE]
    rw [hE]
    unfold sMask
    by_cases h1 : y.op = 1
    case neg =>
      refine af_of Tryz.func204 rfl (by kernel_rfl) (by simp [Tryz.ntmps204]) fun _ => ?_; simp [Tryz.f204, Ex.d_eq]
      refine aCall_of (s6) (by simp) (by simp [Ex.d_eq]) ?_; simp [Ex.d_eq]
      simp [h1, Ex.d_eq]
    obtain ⟨m, rfl⟩ : ∃ m, y = eCon m := ⟨_, form_con hy h1⟩
    by_cases h18 : x.op = 18
    case neg =>
      refine af_of Tryz.func204 rfl (by kernel_rfl) (by simp [Tryz.ntmps204]) fun _ => ?_; simp [Tryz.f204, Ex.d_eq]
      refine aCall_of (s6) (by simp) (by simp [Ex.d_eq]) ?_; simp [Ex.d_eq]
      simp [h18, Ex.d_eq]
    obtain ⟨a, ha', ha, hw⟩ := form_wide hx (.inl h18)
    obtain ⟨v, hv⟩ : ∃ v, x.wd = v := ⟨_, rfl⟩
    rw [h18, hv] at ha' hw
    subst ha'
    by_cases h4 : v = 4
    · subst h4
      refine af_of Tryz.func204 rfl (by kernel_rfl) (by simp [Tryz.ntmps204]) fun _ => ?_; simp [Tryz.f204, Ex.d_eq]
      refine aCall_of (s6) (by simp) (by simp [Ex.d_eq]) ?_; simp [Ex.d_eq]
      simp [cov_4, Ex.d_eq]
    · refine af_of Tryz.func204 rfl (by kernel_rfl) (by simp [Tryz.ntmps204]) fun _ => ?_; simp [Tryz.f204, Ex.d_eq]
      refine aCall_of (s6) (by simp) (by simp [Ex.d_eq]) ?_; simp [Ex.d_eq]
      simp [show v < 4 by omega]
      refine aCall_of (smcovers_af m v (by omega) ny) (by simp) (by simp [Ex.d_eq]) ?_; simp [Ex.d_eq]
      cases hc : covB m v <;> simp [Ex.d_eq]
  · rw [split_no k6] at s6
    have hE : sExtE e = none := by simp [sExtE, sMask, k19, k6]
    rw [hE]
    refine af_of Tryz.func204 rfl (by kernel_rfl) (by simp [Tryz.ntmps204]) fun _ => ?_; simp [Tryz.f204, Ex.d_eq]
    simp [k19]
    refine aCall_of (s6) (by simp) (by simp [Ex.d_eq]) ?_; simp [Ex.d_eq]
end Go.Proofs.YtjnofkcfogognaaGreatDoor

/- Contracts: simplify.binary, simplify.rule. -/
namespace Go.Proofs.YtjnofkcfogognaaGreatDoor
open Go.RowKit
def sFlip (op : Int) (x y : Ex) : Option Ex :=
  if (comB op = true ∨ op = 12 ∨ op = 13) ∧ x.op = 1 ∧ y.op ≠ 1 then some (eTwo op y x) else if op = 4 ∧ y.op = 1 then some (eTwo 3 x (eCon ((-y.n) % 4294967296))) else none
theorem early_eq (op : Int) (x y : Ex) : sEarly op x y = (sFlip op x y).or ((sNeu op x y).or (sGrp op x y)) := by
  unfold sEarly sFlip sNeu sGrp
  repeat' split
  all_goals first | rfl | contradiction
set_option maxRecDepth 8000 in
theorem smbinary1_af (op : Int) (x y : Ex) (h3 : 3 ≤ op) (h15 : op ≤ 15) (hx : formB x = true) (hy : formB y = true) (ny : R32 y.n) (sx : x.nodes ≤ 1000000000) (sy : y.nodes ≤ 1000000000) :
    AF Tryz.prog 201 [exA (eTwo op x y), aB true] (oA eNil (sEarly op x y)) := by
  rw [early_eq]
  obtain ⟨R, hR⟩ : ∃ R, (sFlip op x y).or ((sNeu op x y).or (sGrp op x y)) = R := ⟨_, rfl⟩
  rw [hR]
  refine af_of Tryz.func201 rfl (by kernel_rfl) (by simp [Tryz.ntmps201]) fun _ => ?_; simp [Tryz.f201, Ex.d_eq]
  refine adraw [(10, 5), (10, 7)] (by kernel_rfl) (by kernel_rfl) (by kernel_rfl) (by kernel_rfl) ?_; simp [Ex.d_eq]
  refine aCall_of (smcommutes_af op) (by simp) (by simp [Ex.d_eq]) ?_; simp [Ex.d_eq]
  obtain ⟨c, hc⟩ : ∃ c, (comB op || decide (op = 12) || decide (op = 13)) = c := ⟨_, rfl⟩
  have hc' : (comB op = true ∨ op = 12 ∨ op = 13) ↔ c = true := by rw [← hc]; simp [or_assoc]
  rw [hc]
  have hrest : ¬ (c = true ∧ x.op = 1 ∧ y.op ≠ 1) → sFlip op x y = if op = 4 ∧ y.op = 1 then some (eTwo 3 x (eCon ((-y.n) % 4294967296))) else none := fun h => by
    unfold sFlip
    rw [if_neg (fun hh => h ⟨hc'.1 hh.1, hh.2⟩)]
  by_cases hA : c = true ∧ x.op = 1 ∧ y.op ≠ 1
  · obtain ⟨rfl, h1, h2⟩ := hA
    obtain ⟨m, rfl⟩ : ∃ m, x = eCon m := ⟨_, form_con hx h1⟩
    have hF : sFlip op (eCon m) y = some (eTwo op y (eCon m)) := by
      unfold sFlip
      rw [if_pos ⟨hc'.2 rfl, h1, h2⟩]
    rw [hF] at hR
    simp only [Option.some_or] at hR
    subst hR
    simp [h2]
    refine aCall_of (two_af op y (eCon m) sy (by simp)) (by simp) (by simp [Ex.d_eq]) ?_; simp [Ex.d_eq]
  have hF := hrest hA
  rw [hF] at hR
  clear hrest hF hc' hc
  cases c
  · clear hA
    simp
    by_cases h1 : y.op = 1
    case neg =>
      rw [if_neg (fun h => h1 h.2)] at hR
      simp only [Option.none_or] at hR
      refine aCall_of (smnumber_af y) (by simp) (by simp [Ex.d_eq]) ?_; simp [Ex.d_eq]
      simp [h1]
      refine aCall_of (smneutral_af op (x) (y) hy ny sx sy) (by simp) (by simp [Ex.d_eq]) ?_; simp [Ex.d_eq]
      cases hN : sNeu op (x) (y) with
      | none =>
        rw [hN] at hR
        simp only [Option.none_or] at hR
        subst hR
        simp
        refine aCall_of (smgrouped_af op (x) (y) hx sx h3 h15) (by simp) (by simp [Ex.d_eq]) ?_; simp [Ex.d_eq]
      | some r =>
        rw [hN] at hR
        simp only [Option.some_or] at hR
        subst hR
        simp
    obtain ⟨m, rfl⟩ : ∃ m, y = eCon m := ⟨_, form_con hy h1⟩
    refine aCall_of (smnumber_af (eCon m)) (by simp) (by simp [Ex.d_eq]) ?_; simp [Ex.d_eq]
    by_cases h4 : op = 4
    · subst h4
      simp
      refine adraw [] (by kernel_rfl) (by kernel_rfl) (by kernel_rfl) (by kernel_rfl) ?_; simp [Ex.d_eq]
      refine adC_of (const_af (IntKind.u32.wrap (0 - m))) (by simp) trivial (by simp) (by simp [Ex.d_eq]) ?_; simp [Ex.d_eq]
      refine adC_of (two_af 3 (x) (eCon (IntKind.u32.wrap (0 - m))) sx (by simp)) (by simp) trivial (by simp) (by simp [Ex.d_eq]) ?_; simp [Ex.d_eq]
      rw [← hR]
      simp [u32e, Ex.d_eq]
    rw [if_neg (fun h => h4 h.1)] at hR
    simp only [Option.none_or] at hR
    simp [h4]
    refine aCall_of (smneutral_af op (x) (eCon m) hy ny sx sy) (by simp) (by simp [Ex.d_eq]) ?_; simp [Ex.d_eq]
    cases hN : sNeu op (x) (eCon m) with
    | none =>
      rw [hN] at hR
      simp only [Option.none_or] at hR
      subst hR
      simp
      refine aCall_of (smgrouped_af op (x) (eCon m) hx sx h3 h15) (by simp) (by simp [Ex.d_eq]) ?_; simp [Ex.d_eq]
    | some r =>
      rw [hN] at hR
      simp only [Option.some_or] at hR
      subst hR
      simp
  · by_cases hx1 : x.op = 1
    case neg =>
      clear hA
      simp [hx1]
      by_cases h1 : y.op = 1
      case neg =>
        rw [if_neg (fun h => h1 h.2)] at hR
        simp only [Option.none_or] at hR
        refine aCall_of (smnumber_af y) (by simp) (by simp [Ex.d_eq]) ?_; simp [Ex.d_eq]
        simp [h1]
        refine aCall_of (smneutral_af op (x) (y) hy ny sx sy) (by simp) (by simp [Ex.d_eq]) ?_; simp [Ex.d_eq]
        cases hN : sNeu op (x) (y) with
        | none =>
          rw [hN] at hR
          simp only [Option.none_or] at hR
          subst hR
          simp
          refine aCall_of (smgrouped_af op (x) (y) hx sx h3 h15) (by simp) (by simp [Ex.d_eq]) ?_; simp [Ex.d_eq]
        | some r =>
          rw [hN] at hR
          simp only [Option.some_or] at hR
          subst hR
          simp
      obtain ⟨m, rfl⟩ : ∃ m, y = eCon m := ⟨_, form_con hy h1⟩
      refine aCall_of (smnumber_af (eCon m)) (by simp) (by simp [Ex.d_eq]) ?_; simp [Ex.d_eq]
      by_cases h4 : op = 4
      · subst h4
        simp
        refine adraw [] (by kernel_rfl) (by kernel_rfl) (by kernel_rfl) (by kernel_rfl) ?_; simp [Ex.d_eq]
        refine adC_of (const_af (IntKind.u32.wrap (0 - m))) (by simp) trivial (by simp) (by simp [Ex.d_eq]) ?_; simp [Ex.d_eq]
        refine adC_of (two_af 3 (x) (eCon (IntKind.u32.wrap (0 - m))) sx (by simp)) (by simp) trivial (by simp) (by simp [Ex.d_eq]) ?_; simp [Ex.d_eq]
        rw [← hR]
        simp [u32e, Ex.d_eq]
      rw [if_neg (fun h => h4 h.1)] at hR
      simp only [Option.none_or] at hR
      simp [h4]
      refine aCall_of (smneutral_af op (x) (eCon m) hy ny sx sy) (by simp) (by simp [Ex.d_eq]) ?_; simp [Ex.d_eq]
      cases hN : sNeu op (x) (eCon m) with
      | none =>
        rw [hN] at hR
        simp only [Option.none_or] at hR
        subst hR
        simp
        refine aCall_of (smgrouped_af op (x) (eCon m) hx sx h3 h15) (by simp) (by simp [Ex.d_eq]) ?_; simp [Ex.d_eq]
      | some r =>
        rw [hN] at hR
        simp only [Option.some_or] at hR
        subst hR
        simp
    have h1 : y.op = 1 := by
      rcases Decidable.em (y.op = 1) with h | h
      · exact h
      · exact absurd ⟨rfl, hx1, h⟩ hA
    clear hA
    obtain ⟨k, rfl⟩ : ∃ k, x = eCon k := ⟨_, form_con hx hx1⟩
    simp [h1]
    obtain ⟨m, rfl⟩ : ∃ m, y = eCon m := ⟨_, form_con hy h1⟩
    refine aCall_of (smnumber_af (eCon m)) (by simp) (by simp [Ex.d_eq]) ?_; simp [Ex.d_eq]
    by_cases h4 : op = 4
    · subst h4
      simp
      refine adraw [] (by kernel_rfl) (by kernel_rfl) (by kernel_rfl) (by kernel_rfl) ?_; simp [Ex.d_eq]
      refine adC_of (const_af (IntKind.u32.wrap (0 - m))) (by simp) trivial (by simp) (by simp [Ex.d_eq]) ?_; simp [Ex.d_eq]
      refine adC_of (two_af 3 (eCon k) (eCon (IntKind.u32.wrap (0 - m))) sx (by simp)) (by simp) trivial (by simp) (by simp [Ex.d_eq]) ?_; simp [Ex.d_eq]
      rw [← hR]
      simp [u32e, Ex.d_eq]
    rw [if_neg (fun h => h4 h.1)] at hR
    simp only [Option.none_or] at hR
    simp [h4]
    refine aCall_of (smneutral_af op (eCon k) (eCon m) hy ny sx sy) (by simp) (by simp [Ex.d_eq]) ?_; simp [Ex.d_eq]
    cases hN : sNeu op (eCon k) (eCon m) with
    | none =>
      rw [hN] at hR
      simp only [Option.none_or] at hR
      subst hR
      simp
      refine aCall_of (smgrouped_af op (eCon k) (eCon m) hx sx h3 h15) (by simp) (by simp [Ex.d_eq]) ?_; simp [Ex.d_eq]
    | some r =>
      rw [hN] at hR
      simp only [Option.some_or] at hR
      subst hR
      simp
end Go.Proofs.YtjnofkcfogognaaGreatDoor
