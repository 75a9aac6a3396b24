/- Contracts: ileval's value of an expression without variables and loads; the law FlagfuseValues' parts. -/
import Derived.Test.YtlfkighdmheniaaDoorEa
namespace Go.Proofs.YtlfkighdmheniaaDoor
open Go.RowKit
/-- The value of an expression of constants. -/
inductive Ev : Ex → Int → Prop
  | con (n : Int) : Ev (eCon n) n
  | no {a : Ex} {x : Int} : Ev a x → Ev (eNot a) (appI 12 x 0)
  | two {op : Nat} {a b : Ex} {x y : Int} : 3 ≤ op → op ≤ 15 → Ev a x → Ev b y → Ev (eTwo op a b) (appI op x y)
abbrev noVars : AV := .fn 70 [.agg [.d (.v (.slice none 0 0))]] []
abbrev noMem : AV := .d (.v (.pointer none))
def ieB (e : Ex) : Blk := ⟨0, true, 25, 5, [[aI .i64 e.op, aI .u32 e.n, aI .i64 e.v, aI .i64 e.wd, .d (.sl 5 (Ex.ds e.l))]]⟩
theorem ieval_gen (e : Ex) (vs : List Int) (hl : e.l.length = vs.length) (h2 : vs.length ≤ 2)
    (hs : ∀ (i : Nat) (x : Ex) (v : Int), e.l[i]? = some x → vs[i]? = some v → AF Tryd.prog 69 [exA x, noVars, noMem] (.tup [aU v, aI .i64 0])) (R : Int)
    (hR : (e.op = 1 ∧ R = e.n) ∨ (e.op = 16 ∧ R = appI 12 (vs.getD 0 0) 0) ∨ ∃ o : Nat, e.op = o ∧ 3 ≤ o ∧ o ≤ 15 ∧ R = appI o (vs.getD 0 0) (vs.getD 1 0)) :
    AF Tryd.prog 69 [exA e, noVars, noMem] (.tup [aU R, aI .i64 0]) := by
  refine af_of Tryd.func69 rfl (by kernel_rfl) (by simp [Tryd.ntmps69]) fun _ => ?_
  obtain ⟨v0, h0⟩ : ∃ x, vs.getD 0 0 = x := ⟨_, rfl⟩
  obtain ⟨v1, h1⟩ : ∃ x, vs.getD 1 0 = x := ⟨_, rfl⟩
  rw [h0, h1] at hR
  simp [Tryd.f69]
  refine aLoop_of (α := Nat) (fun i g A => i ≤ vs.length ∧ A = [ieB e, ⟨0, true, 104, 2, [[aU (if 0 < i then v0 else 0), aU (if 1 < i then v1 else 0)]]⟩] ∧
    g 3 = .ptr 0 0 0 0 ∧ g 8 = .ptr 1 0 0 0 ∧ g 16 = aI .i64 i ∧ g 15 = aI .i64 vs.length ∧ g 14 = .d (.sl 5 (Ex.ds e.l)) ∧ g 1 = noVars ∧ g 2 = noMem) (fun i => vs.length - i) 0 (Sub.refl _ _ _)
    ⟨by omega, by simp [ieB], by simp, by simp, by simp, by simp [hl], by simp, by simp, by simp⟩ ?_
  rintro i g A ⟨hi, rfl, e3, e8, e16, e15, e14, e1, e2⟩ K hK
  simp [e16, e15]
  refine aCond_split (fun h => ?_) (fun h => ?_)
  · simp at h
    obtain ⟨x, hx⟩ : ∃ x, e.l[i]? = some x := ⟨_, List.getElem?_eq_getElem (by omega)⟩
    obtain ⟨v, hv⟩ : ∃ v, vs[i]? = some v := ⟨_, List.getElem?_eq_getElem (by omega)⟩
    have hx' := (List.getElem?_eq_some_iff.1 hx).2
    have hvd : vs.getD i 0 = v := by simp [List.getD, hv]
    simp [e3, e8, e16, e15, e14, e1, e2, hx, Ex.d_eq]
    refine aCall_of (hs i x v hx hv) (by simp) (by simp) ?_
    simp [e16]
    obtain rfl | rfl : i = 0 ∨ i = 1 := by omega
    · obtain rfl : v0 = v := h0.symm.trans hvd
      simp [e8, e16]
      refine hK 1 _ _ _ _ (Sub.take 2 (by omega)) ⟨by omega, by simp [ieB], by simp [e3], by simp [e8], by simp, by simp [e15], by simp [e14], by simp [e1], by simp [e2]⟩ (by omega)
    · obtain rfl : v1 = v := h1.symm.trans hvd
      simp [e8, e16]
      refine hK 2 _ _ _ _ (Sub.take 2 (by omega)) ⟨by omega, by simp [ieB], by simp [e3], by simp [e8], by simp, by simp [e15], by simp [e14], by simp [e1], by simp [e2]⟩ (by omega)
  · simp at h
    obtain rfl : i = vs.length := by omega
    have g0 : (if 0 < vs.length then v0 else 0) = v0 := by
      split
      · rfl
      · rw [← h0, List.getD, List.getElem?_eq_none (by omega)]; rfl
    have g1 : (if 1 < vs.length then v1 else 0) = v1 := by
      split
      · rfl
      · rw [← h1, List.getD, List.getElem?_eq_none (by omega)]; rfl
    simp [g0, g1]
    rcases hR with ⟨ho, rfl⟩ | ⟨ho, rfl⟩ | ⟨o, ho, h3, h15, rfl⟩
    · simp [e3, ieB, ho]
    · simp [e3, e8, ieB, ho]
      refine aCall_of (bapply_af 12 v0 0 (by omega)) (by simp) (by simp) ?_
      simp
    · simp [e3, e8, ieB, ho, show ¬ ((o : Int) = 1) by omega, show ¬ ((o : Int) = 2) by omega, show ¬ ((o : Int) = 16) by omega, show ¬ ((o : Int) = 17) by omega, show ¬ ((o : Int) = 18) by omega, show ¬ ((o : Int) = 19) by omega]
      refine aCall_of (bapply_af o v0 v1 ⟨h3, h15⟩) (by simp) (by simp) ?_
      simp
theorem ieval_af {e : Ex} {x : Int} (h : Ev e x) : AF Tryd.prog 69 [exA e, noVars, noMem] (.tup [aU x, aI .i64 0]) := by
  induction h with
  | con n => exact ieval_gen (eCon n) [] rfl (by simp) (by simp) n (.inl ⟨rfl, rfl⟩)
  | @no a x _ ih =>
    refine ieval_gen (eNot a) [x] rfl (by simp) ?_ _ (.inr (.inl ⟨rfl, rfl⟩))
    intro i y v hy hv
    cases i with
    | zero => cases hy; cases hv; exact ih
    | succ i => simp at hv
  | @two op a b x y h3 h15 _ _ iha ihb =>
    refine ieval_gen (eTwo op a b) [x, y] rfl (by simp) ?_ _ (.inr (.inr ⟨op, rfl, h3, h15, rfl⟩))
    intro i z v hz hv
    match i with
    | 0 => cases hz; cases hv; exact iha
    | 1 => cases hz; cases hv; exact ihb
    | i + 2 => simp at hv
end Go.Proofs.YtlfkighdmheniaaDoor
