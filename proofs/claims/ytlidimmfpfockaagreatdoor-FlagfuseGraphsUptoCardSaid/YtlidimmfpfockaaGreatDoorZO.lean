/- Texts that the claim leans on, laid one behind the other: Oa, Ob, Oc, Od, Oe, Of, Og. -/
import Derived.Test.YtlidimmfpfockaaGreatDoorZB
import Derived.Test.YtlidimmfpfockaaGreatDoorZP
import Derived.Test.YtlidimmfpfockaaGreatDoorZM
import Derived.Test.YtlidimmfpfockaaGreatDoorAr
import Derived.Test.YtlidimmfpfockaaGreatDoorAv
set_option linter.unusedSimpArgs false
set_option linter.unusedVariables false
set_option linter.unnecessarySimpa false
/- The rewriting of blocks by flagfuse as plain functions. No program in sight. -/
namespace Go.Proofs.YtlidimmfpfockaaGreatDoor
open Go.RowKit
/-- Neither loads nor flags. -/
def noFlB : Ex → Bool
  | .mk o _ v _ l => !decide (o = 18 ∨ o = 2 ∧ 8 ≤ v ∧ v ≤ 11) && noFlL l
where noFlL : List Ex → Bool
  | [] => true
  | e :: l => noFlB e && noFlL l
theorem noFl_eq (e : Ex) : noFlB e = (!decide (e.op = 18 ∨ e.op = 2 ∧ 8 ≤ e.v ∧ e.v ≤ 11) && e.l.all noFlB) := by
  obtain ⟨o, n, v, w, l⟩ := e
  have : ∀ l : List Ex, noFlB.noFlL l = l.all noFlB := by
    intro l
    induction l with
    | nil => rfl
    | cons a l ih => simp only [noFlB.noFlL, ih, List.all_cons]
  simp only [noFlB, this, Ex.op_mk, Ex.v_mk, Ex.l_mk]
  rfl
/-- A statement that assigns one expression. -/
def setB (s : St) (v : Int) (e : Ex) : Bool := decide (s.op = 1) && decide (s.va = v) && (match s.e with
  | [x] => sameB x e
  | _ => false)
def fullB (a b : Ex) (s0 s1 s2 s3 : St) : Bool := setB s0 8 (eTwo 12 a b) && setB s1 9 (eMinus a b) && setB s2 10 (eTwo 15 a b) && setB s3 11 (eOver a b)
def shortB (a b : Ex) (s0 s1 s2 s3 : St) : Bool := sameB b (eCon 0) && setB s0 8 (eTwo 12 a b) && setB s1 9 (eTwo 14 a b) && setB s2 10 (eCon 0) && setB s3 11 (eCon 0)
/-- What comparison answers at the head of some statements. -/
def cmpR : List St → (Ex × Ex) × Bool
  | s0 :: s1 :: s2 :: s3 :: _ => match s0.e with
    | [.mk o _ _ _ [a, b]] => if o = 12 ∧ (fullB a b s0 s1 s2 s3 || shortB a b s0 s1 s2 s3) = true then ((a, b), noFlB a && noFlB b) else ((.mk 0 0 0 0 [], .mk 0 0 0 0 []), false)
    | _ => ((.mk 0 0 0 0 [], .mk 0 0 0 0 []), false)
  | _ => ((.mk 0 0 0 0 [], .mk 0 0 0 0 []), false)
/-- The operands of a comparison with which statements begin. -/
def matchS (l : List St) : Option (Ex × Ex) := if (cmpR l).2 = true then some (cmpR l).1 else none
/-- The outermost flag expressions replaced. -/
def fuseS (a b : Ex) : Ex → Ex
  | .mk o n v w l => match recN (.mk o n v w l) with
    | some (k + 1) => condE (k + 1 : Nat) a b
    | _ => .mk o n v w (fuseL l)
where fuseL : List Ex → List Ex
  | [] => []
  | e :: l => fuseS a b e :: fuseL l
theorem fuseL_map (a b : Ex) : ∀ l : List Ex, fuseS.fuseL a b l = l.map (fuseS a b)
  | [] => rfl
  | e :: l => by simp only [fuseS.fuseL, fuseL_map a b l, List.map_cons]
theorem fuseS_eq (a b e : Ex) : fuseS a b e = match recN e with
    | some (k + 1) => condE (k + 1 : Nat) a b
    | _ => .mk e.op e.n e.v e.wd (e.l.map (fuseS a b)) := by
  obtain ⟨o, n, v, w, l⟩ := e
  rw [fuseS]
  simp only [fuseL_map]
  rfl
def fuseSt (p : Ex × Ex) (s : St) : St := { s with e := s.e.map (fuseS p.1 p.2) }
def endsB (p : Ex × Ex) (s : St) : Bool := decide (s.op = 5) || (decide (s.op = 1) || decide (s.op = 3)) && (decide (8 ≤ s.va ∧ s.va ≤ 11) || decide (s.va ∈ occ p.1) || decide (s.va ∈ occ p.2))
/-- The statements of a block rewritten; so many stay as they are. -/
def blockS : Option (Ex × Ex) → Nat → List St → List St
  | _, _, [] => []
  | a, k + 1, s :: l => s :: blockS a k l
  | a, 0, s :: l => match matchS (s :: l) with
    | some p => s :: blockS (some p) 3 l
    | none => match a with
      | some p => fuseSt p s :: blockS (if endsB p s = true then none else some p) 0 l
      | none => s :: blockS none 0 l
/-- Without its expressions. -/
def noE (s : St) : St := { s with e := [] }
theorem block_shape : ∀ (l : List St) (a : Option (Ex × Ex)) (k : Nat), (blockS a k l).map noE = l.map noE ∧ (blockS a k l).map (fun s => s.e.length) = l.map (fun s => s.e.length)
  | [], a, k => by cases k <;> simp [blockS]
  | s :: l, a, k + 1 => by
    have := block_shape l a k
    simp [blockS, this]
  | s :: l, a, 0 => by
    simp only [blockS]
    split
    · rename_i p _
      have := block_shape l (some p) 3
      simp [this]
    · cases a with
      | none =>
        have := block_shape l none 0
        simp [this]
      | some p =>
        have := block_shape l (if endsB p s = true then none else some p) 0
        simp [this, fuseSt, noE]
end Go.Proofs.YtlidimmfpfockaaGreatDoor

/- Contracts: slices.Contains at numbers; flagfuse's own, free, flags, logic. -/
namespace Go.Proofs.YtlidimmfpfockaaGreatDoor
open Go.RowKit
theorem indexin_af (l : List Int) (v : Int) (hl : l.length ≤ maxLen) : AF Tryz.prog 154 [.d (.sl 1 (i64s l)), aI .i64 v] (aI .i64 (match l.findIdx? (fun a => decide (a = v)) with | some i => (i : Int) | none => -1)) := by
  obtain ⟨R, hR⟩ : ∃ R : Int, (match l.findIdx? (fun a => decide (a = v)) with | some i => (i : Int) | none => -1) = R := ⟨_, rfl⟩
  rw [hR]
  refine af_of Tryz.func154 rfl (by kernel_rfl) (by simp [Tryz.ntmps154]) fun _ => ?_; simp [Tryz.f154, Ex.d_eq]
  refine aLoop_st (fun i : Nat => [(0, .d (.sl 1 (i64s l))), (1, aI .i64 v), (7, aI .i64 l.length), (8, aI .i64 i)]) (fun _ => []) (fun i => i ≤ l.length ∧ ∀ j a, j < i → l[j]? = some a → a ≠ v) (fun i => l.length - i) 0 (Sub.refl _ _ _) 0 (by omega) (by simp) (by simp) ⟨by omega, by intro j a hj; omega⟩ ?_
  rintro i ⟨hi, hall⟩ K hK
  rcases Nat.lt_or_ge i l.length with hlt | hge
  case inr =>
    obtain rfl : i = l.length := by omega
    have : l.findIdx? (fun a => decide (a = v)) = none := by
      rw [List.findIdx?_eq_none_iff]
      intro x hx
      obtain ⟨j, hj⟩ := List.getElem?_of_mem hx
      simpa using hall j x (List.getElem?_eq_some_iff.1 hj).1 hj
    rw [this] at hR
    simp only at hR
    subst hR
    simp
  obtain ⟨a, ha⟩ : ∃ a, l[i]? = some a := ⟨_, List.getElem?_eq_getElem hlt⟩
  have ha2 := (List.getElem?_eq_some_iff.1 ha).2
  by_cases hav : a = v
  · have : l.findIdx? (fun a => decide (a = v)) = some i := by
      rw [List.findIdx?_eq_some_iff_getElem]
      refine ⟨hlt, by simp [ha2, hav], fun j hj => ?_⟩
      have := hall j l[j] hj (List.getElem?_eq_getElem (by omega))
      simpa using this
    rw [this] at hR
    simp only at hR
    subst hR
    subst hav
    simp [hlt, ha, ha2]
  · simp [hlt, ha, ha2, show ¬ v = a from fun h => hav h.symm, succ_wrap hlt hl]
    refine hK (i + 1) ⟨by omega, fun j b hj hb => ?_⟩ (by omega) (Sub.refl _ _ _) 0 (by omega) (by simp) (by simp)
    rcases Nat.lt_or_ge j i with h | h
    · exact hall j b h hb
    · obtain rfl : j = i := by omega
      rw [ha] at hb
      obtain rfl := Option.some.inj hb
      exact hav
theorem containsin_af (l : List Int) (v : Int) (hl : l.length ≤ maxLen) : AF Tryz.prog 100 [.d (.sl 1 (i64s l)), aI .i64 v] (aB (decide (v ∈ l))) := by
  refine af_of Tryz.func100 rfl (by kernel_rfl) (by simp [Tryz.ntmps100]) fun _ => ?_; simp [Tryz.f100, Ex.d_eq]
  refine aCall_of (indexin_af l v hl) (by simp) (by simp [Ex.d_eq]) ?_; simp [Ex.d_eq]
  cases h : l.findIdx? (fun a => decide (a = v)) with
  | none =>
    rw [List.findIdx?_eq_none_iff] at h
    have : ¬ v ∈ l := fun hv => by have := h v hv; simp at this
    simp [this]
  | some i =>
    rw [List.findIdx?_eq_some_iff_getElem] at h
    obtain ⟨hi, hp, _⟩ := h
    have : v ∈ l := by
      have h2 : l[i] = v := by simpa using hp
      rw [← h2]
      exact List.getElem_mem hi
    simp [this]
theorem ffown_af : ∀ (e : Ex), e.nodes ≤ 1000000000 → AF Tryz.prog 105 [exA e] (exA e) := by
  intro x
  induction x using Ex.ind with
  | h x ih =>
    intro hn
    have hlen := x.nodes_len
    have n1 : x.l.length ≤ maxLen := by unfold maxLen; omega
    refine af_of Tryz.func105 rfl (by kernel_rfl) (by simp [Tryz.ntmps105]) fun _ => ?_
    simp [Tryz.f105]
    refine aCall_ofc (clone_ac _ (Ex.ds x.l) (by simp; omega)) (by simp) ?_
    rintro _ _ ⟨rfl, rfl⟩
    simp
    refine aLoop_of (α := Nat) (fun i e A => i ≤ x.l.length ∧ A = [⟨0, true, 38, 5, [[aI .i64 x.op, aI .u32 x.n, aI .i64 x.v, aI .i64 x.wd, .own 2 1 0 x.l.length]]⟩, ⟨0, true, 38, 5, [[aI .i64 0, aI .u32 0, aI .i64 0, aI .i64 0, .d (.v (.slice none 0 0))]]⟩, ⟨1, true, 38, 5, dEls (Ex.ds x.l)⟩] ∧
      e 11 = aI .i64 i ∧ e 10 = aI .i64 x.l.length ∧ e 1 = .ptr 0 0 0 0 ∧ e 2 = .ptr 1 0 0 0) (fun i => x.l.length - i) 0 (Sub.refl _ _ _) ⟨by omega, by simp, by simp, by simp, by simp, by simp⟩ ?_
    rintro i e A ⟨hi, rfl, e11, e10, e1, e2⟩ K hK
    simp [e11, e10]
    refine aCond_split (fun hlt => ?_) (fun hge => ?_)
    · simp at hlt
      have hi1 := List.getElem?_eq_getElem hlt
      simp
      refine adraw [] (by kernel_rfl) (by kernel_rfl) (by kernel_rfl) (by kernel_rfl) ?_
      simp [e11, e1, hlt, hi1, Ex.d_eq]
      refine adC_of (ih _ (List.mem_of_getElem? hi1) (by have := Ex.nodes_mem (List.mem_of_getElem? hi1); omega)) (by simp) trivial (by simp) (by simp) ?_
      simp [hlt, Ex.d_eq, e11, succ_wrap hlt n1]
      exact hK (i + 1) _ _ _ _ (Sub.refl _ _ _) ⟨by omega, by simp; exact set_same (by simp [hlt, Ex.d_eq]), by simp, by simp [e10], by simp [e1], by simp [e2]⟩ (by omega)
    · simp at hge
      simp [e1, e2]
theorem free1_ac {x : Ex} (ih : AF Tryz.prog 158 [exA x] (aB (noFlB x))) (A N : AHeap) : AC Tryz.prog 202 [exA x] (A ++ N) (Same0 A (aB (!noFlB x))) := by
  refine ac_of Tryz.func202 rfl (by kernel_rfl) (by simp [Tryz.ntmps202]) fun _ => ?_
  simp [Tryz.f202]
  refine aCall_of ih (by simp) (by simp) ?_
  simp [Same0]
theorem free_af : ∀ (e : Ex), AF Tryz.prog 158 [exA e] (aB (noFlB e)) := by
  intro x
  induction x using Ex.ind with
  | h x ih =>
    have hany : ∀ A : AHeap, AC Tryz.prog 98 [.d (.sl 5 (Ex.ds x.l)), .fn 202 [] []] A fun r A' => r = aB (x.l.any fun y => !noFlB y) ∧ A' = A.map (clnB A.length) := fun A =>
      (containsFunc_ac (fs := []) (cs := []) (p := fun y => !noFlB y) A x.l (by simp) fun y hy N => free1_ac (ih y hy) A N).drop
    have hlast : (x.l.any fun y => !noFlB y) = !(x.l.all noFlB) := by rw [List.not_all_eq_any_not]
    rw [noFl_eq]
    refine af_of Tryz.func158 rfl (by kernel_rfl) (by simp [Tryz.ntmps158]) fun _ => ?_
    simp [Tryz.f158]
    by_cases h1 : x.op = 18
    · simp [h1]
    by_cases h2 : x.op = 2
    · by_cases h3 : 8 ≤ x.v
      · by_cases h4 : x.v ≤ 11
        · simp [h1, h2, h3, h4]
        · simp [h1, h2, h3, h4]
          refine aCall_ofc (hany _) (by simp) ?_
          rintro _ _ ⟨rfl, rfl⟩
          simp [hlast]
      · simp [h1, h2, h3]
        refine aCall_ofc (hany _) (by simp) ?_
        rintro _ _ ⟨rfl, rfl⟩
        simp [hlast]
    · simp [h1, h2]
      refine aCall_ofc (hany _) (by simp) ?_
      rintro _ _ ⟨rfl, rfl⟩
      simp [hlast]
/-- An expression's cells. -/
@[simp] def exCf (e : Ex) : List AV := [aI .i64 e.op, aI .u32 e.n, aI .i64 e.v, aI .i64 e.wd, .d (.sl 5 (Ex.ds e.l))]
/-- A pair of expressions; four. -/
@[simp] def prA (a b : Ex) : AV := .agg (exCf a ++ exCf b)
@[simp] def fourA (a b c d : Ex) : AV := .agg (exCf a ++ exCf b ++ exCf c ++ exCf d)
theorem flags_af (a b : Ex) (ha : a.nodes ≤ 100000000) (hb : b.nodes ≤ 100000000) : AF Tryz.prog 156 [prA a b] (fourA (eTwo 12 a b) (eMinus a b) (eTwo 15 a b) (eOver a b)) := by
  refine af_of Tryz.func156 rfl (by kernel_rfl) (by simp [Tryz.ntmps156]) fun _ => ?_; simp [Tryz.f156, Ex.d_eq]
  refine adraw [] (by kernel_rfl) (by kernel_rfl) (by kernel_rfl) (by kernel_rfl) ?_; simp [Ex.d_eq]
  refine adC_of (two_af 12 a b (by omega) (by omega)) (by simp) trivial (by simp) (by simp [Ex.d_eq]) ?_; simp [Ex.d_eq]
  refine adC_of (minus_af a b ha hb) (by simp) trivial (by simp) (by simp [Ex.d_eq]) ?_; simp [Ex.d_eq]
  refine adC_of (below_af a b (by omega) (by omega)) (by simp) trivial (by simp) (by simp [Ex.d_eq]) ?_; simp [Ex.d_eq]
  refine adC_of (over_af a b ha hb) (by simp) trivial (by simp) (by simp [Ex.d_eq]) ?_; simp [Ex.d_eq]
theorem logic_af (a b : Ex) (ha : a.nodes ≤ 100000000) (hb : b.nodes ≤ 100000000) : AF Tryz.prog 157 [prA a b] (fourA (eTwo 12 a b) (eTwo 14 a b) (eCon 0) (eCon 0)) := by
  refine af_of Tryz.func157 rfl (by kernel_rfl) (by simp [Tryz.ntmps157]) fun _ => ?_; simp [Tryz.f157, Ex.d_eq]
  refine adraw [] (by kernel_rfl) (by kernel_rfl) (by kernel_rfl) (by kernel_rfl) ?_; simp [Ex.d_eq]
  refine adC_of (two_af 12 a b (by omega) (by omega)) (by simp) trivial (by simp) (by simp [Ex.d_eq]) ?_; simp [Ex.d_eq]
  refine adC_of (less_af a b (by omega) (by omega)) (by simp) trivial (by simp) (by simp [Ex.d_eq]) ?_; simp [Ex.d_eq]
  refine adC_of (const_af 0) (by simp) trivial (by simp) (by simp [Ex.d_eq]) ?_; simp [Ex.d_eq]
  refine adC_of (const_af 0) (by simp) trivial (by simp) (by simp [Ex.d_eq]) ?_; simp [Ex.d_eq]
end Go.Proofs.YtlidimmfpfockaaGreatDoor

/- Contracts: flagfuse's assigned, comparison. -/
namespace Go.Proofs.YtlidimmfpfockaaGreatDoor
open Go.RowKit
theorem setB_cases (s : St) (v : Int) (w : Ex) : (s.op ≠ 1 ∧ setB s v w = false) ∨ (s.op = 1 ∧ s.va ≠ v ∧ setB s v w = false) ∨ (s.op = 1 ∧ s.va = v ∧ s.e.length ≠ 1 ∧ setB s v w = false) ∨
    ∃ x, s.op = 1 ∧ s.va = v ∧ s.e = [x] ∧ setB s v w = sameB x w := by
  unfold setB
  by_cases h1 : s.op = 1
  · by_cases h2 : s.va = v
    · match h : s.e with
      | [] => exact .inr (.inr (.inl ⟨h1, h2, by simp, by simp⟩))
      | [x] => exact .inr (.inr (.inr ⟨x, h1, h2, rfl, by simp [h1, h2]⟩))
      | x :: y :: l => exact .inr (.inr (.inl ⟨h1, h2, by simp, by simp⟩))
    · exact .inr (.inl ⟨h1, h2, by simp [h2]⟩)
  · exact .inl ⟨h1, by simp [h1]⟩
theorem assigned_af (s0 s1 s2 s3 : St) (w0 w1 w2 w3 : Ex) : AF Tryz.prog 155 [.d (.sl 8 (sts [s0, s1, s2, s3])), fourA w0 w1 w2 w3] (aB (setB s0 8 w0 && setB s1 9 w1 && setB s2 10 w2 && setB s3 11 w3)) := by
  refine af_of Tryz.func155 rfl (by kernel_rfl) (by simp [Tryz.ntmps155]) fun _ => ?_; simp [Tryz.f155, Ex.d_eq]
  refine aLoop_iter 5 ?_; simp [Ex.d_eq]
  rcases setB_cases s0 8 w0 with ⟨h1, e⟩ | ⟨h1, h2, e⟩ | ⟨h1, h2, h3, e⟩ | ⟨x0, h1, h2, h3, e⟩ <;> rw [e]
  · try simp [St.d_eq]
    refine adraw [] (by kernel_rfl) (by kernel_rfl) (by kernel_rfl) (by kernel_rfl) ?_; simp [Ex.d_eq]
    simp [h1]
  · try simp [St.d_eq]
    refine adraw [] (by kernel_rfl) (by kernel_rfl) (by kernel_rfl) (by kernel_rfl) ?_; simp [Ex.d_eq]
    simp [h1, h2]
  · have h4 : ¬ ((s0.e.length : Int) = 1) := by omega
    try simp [St.d_eq]
    refine adraw [] (by kernel_rfl) (by kernel_rfl) (by kernel_rfl) (by kernel_rfl) ?_; simp [Ex.d_eq]
    simp [h1, h2, h3, h4]
  try simp [St.d_eq]
  refine adraw [] (by kernel_rfl) (by kernel_rfl) (by kernel_rfl) (by kernel_rfl) ?_; simp [Ex.d_eq]
  simp [h1, h2, h3, Ex.d_eq]
  have c := same_af x0 w0
  cases hs : sameB x0 w0 <;> rw [hs] at c
  · refine adC_of c (by simp) trivial (by simp) (by simp [Ex.d_eq]) ?_; simp [Ex.d_eq]
  refine adC_of c (by simp) trivial (by simp) (by simp [Ex.d_eq]) ?_; simp [Ex.d_eq]
  clear c h1 h2 h3 e
  rcases setB_cases s1 9 w1 with ⟨h1, e⟩ | ⟨h1, h2, e⟩ | ⟨h1, h2, h3, e⟩ | ⟨x1, h1, h2, h3, e⟩ <;> rw [e]
  · try simp [St.d_eq]
    refine adraw [] (by kernel_rfl) (by kernel_rfl) (by kernel_rfl) (by kernel_rfl) ?_; simp [Ex.d_eq]
    simp [h1]
  · try simp [St.d_eq]
    refine adraw [] (by kernel_rfl) (by kernel_rfl) (by kernel_rfl) (by kernel_rfl) ?_; simp [Ex.d_eq]
    simp [h1, h2]
  · have h4 : ¬ ((s1.e.length : Int) = 1) := by omega
    try simp [St.d_eq]
    refine adraw [] (by kernel_rfl) (by kernel_rfl) (by kernel_rfl) (by kernel_rfl) ?_; simp [Ex.d_eq]
    simp [h1, h2, h3, h4]
  try simp [St.d_eq]
  refine adraw [] (by kernel_rfl) (by kernel_rfl) (by kernel_rfl) (by kernel_rfl) ?_; simp [Ex.d_eq]
  simp [h1, h2, h3, Ex.d_eq]
  have c := same_af x1 w1
  cases hs : sameB x1 w1 <;> rw [hs] at c
  · refine adC_of c (by simp) trivial (by simp) (by simp [Ex.d_eq]) ?_; simp [Ex.d_eq]
  refine adC_of c (by simp) trivial (by simp) (by simp [Ex.d_eq]) ?_; simp [Ex.d_eq]
  clear c h1 h2 h3 e
  rcases setB_cases s2 10 w2 with ⟨h1, e⟩ | ⟨h1, h2, e⟩ | ⟨h1, h2, h3, e⟩ | ⟨x2, h1, h2, h3, e⟩ <;> rw [e]
  · try simp [St.d_eq]
    refine adraw [] (by kernel_rfl) (by kernel_rfl) (by kernel_rfl) (by kernel_rfl) ?_; simp [Ex.d_eq]
    simp [h1]
  · try simp [St.d_eq]
    refine adraw [] (by kernel_rfl) (by kernel_rfl) (by kernel_rfl) (by kernel_rfl) ?_; simp [Ex.d_eq]
    simp [h1, h2]
  · have h4 : ¬ ((s2.e.length : Int) = 1) := by omega
    try simp [St.d_eq]
    refine adraw [] (by kernel_rfl) (by kernel_rfl) (by kernel_rfl) (by kernel_rfl) ?_; simp [Ex.d_eq]
    simp [h1, h2, h3, h4]
  try simp [St.d_eq]
  refine adraw [] (by kernel_rfl) (by kernel_rfl) (by kernel_rfl) (by kernel_rfl) ?_; simp [Ex.d_eq]
  simp [h1, h2, h3, Ex.d_eq]
  have c := same_af x2 w2
  cases hs : sameB x2 w2 <;> rw [hs] at c
  · refine adC_of c (by simp) trivial (by simp) (by simp [Ex.d_eq]) ?_; simp [Ex.d_eq]
  refine adC_of c (by simp) trivial (by simp) (by simp [Ex.d_eq]) ?_; simp [Ex.d_eq]
  clear c h1 h2 h3 e
  rcases setB_cases s3 11 w3 with ⟨h1, e⟩ | ⟨h1, h2, e⟩ | ⟨h1, h2, h3, e⟩ | ⟨x3, h1, h2, h3, e⟩ <;> rw [e]
  · try simp [St.d_eq]
    refine adraw [] (by kernel_rfl) (by kernel_rfl) (by kernel_rfl) (by kernel_rfl) ?_; simp [Ex.d_eq]
    simp [h1]
  · try simp [St.d_eq]
    refine adraw [] (by kernel_rfl) (by kernel_rfl) (by kernel_rfl) (by kernel_rfl) ?_; simp [Ex.d_eq]
    simp [h1, h2]
  · have h4 : ¬ ((s3.e.length : Int) = 1) := by omega
    try simp [St.d_eq]
    refine adraw [] (by kernel_rfl) (by kernel_rfl) (by kernel_rfl) (by kernel_rfl) ?_; simp [Ex.d_eq]
    simp [h1, h2, h3, h4]
  try simp [St.d_eq]
  refine adraw [] (by kernel_rfl) (by kernel_rfl) (by kernel_rfl) (by kernel_rfl) ?_; simp [Ex.d_eq]
  simp [h1, h2, h3, Ex.d_eq]
  have c := same_af x3 w3
  cases hs : sameB x3 w3 <;> rw [hs] at c
  · refine adC_of c (by simp) trivial (by simp) (by simp [Ex.d_eq]) ?_; simp [Ex.d_eq]
  refine adC_of c (by simp) trivial (by simp) (by simp [Ex.d_eq]) ?_; simp [Ex.d_eq]
theorem cmp_af (l : List St) (k : Nat) (hk : k < l.length) (hl : l.length ≤ 1000000) (hn : ∀ s ∈ l, ∀ e ∈ s.e, e.nodes ≤ 1000000) : AF Tryz.prog 103 [.d (.sl 8 (sts l)), aI .i64 k] (.tup [prA (cmpR (l.drop k)).1.1 (cmpR (l.drop k)).1.2, aB (cmpR (l.drop k)).2]) := by
  obtain ⟨R, hR⟩ : ∃ R, cmpR (l.drop k) = R := ⟨_, rfl⟩
  rw [hR]
  have hw := i64w (n := (l.length : Int) - 4) (by omega)
  refine af_of Tryz.func103 rfl (by kernel_rfl) (by simp [Tryz.ntmps103]) fun _ => ?_; simp [Tryz.f103, Ex.d_eq]
  by_cases h4 : k + 4 ≤ l.length
  case neg =>
    have hR0 : R = ((.mk 0 0 0 0 [], .mk 0 0 0 0 []), false) := by
      have : (l.drop k).length < 4 := by simp; omega
      rw [← hR]
      match h : l.drop k with
      | [] => rfl
      | [_] => rfl
      | [_, _] => rfl
      | [_, _, _] => rfl
      | _ :: _ :: _ :: _ :: _ => rw [h] at this; simp at this; omega
    subst hR0
    simp [show ¬ (k : Int) < 0 by omega, hw, show (l.length : Int) - 4 < k by omega]
  obtain ⟨s0, s1, s2, s3, r, hd⟩ : ∃ s0 s1 s2 s3 r, l.drop k = s0 :: s1 :: s2 :: s3 :: r := by
    have : 4 ≤ (l.drop k).length := by simp; omega
    match h : l.drop k with
    | [] => rw [h] at this; simp at this
    | [_] => rw [h] at this; simp at this
    | [_, _] => rw [h] at this; simp at this
    | [_, _, _] => rw [h] at this; simp at this
    | s0 :: s1 :: s2 :: s3 :: r => exact ⟨s0, s1, s2, s3, r, rfl⟩
  have hs : l[k]? = some s0 := by
    have := congrArg (fun x => x[0]?) hd
    simpa using this
  have hs2 := (List.getElem?_eq_some_iff.1 hs).2
  have hsl : List.drop k (List.take (k + 4) l) = [s0, s1, s2, s3] := by
    rw [List.drop_take, show k + 4 - k = 4 by omega, hd]
    rfl
  have hse := hn s0 (List.mem_of_getElem? hs)
  rw [hd] at hR
  have hg : ¬ (l.length : Int) - 4 < k := by omega
  simp [show ¬ (k : Int) < 0 by omega, hw, hg, hk, hs, hs2, St.d_eq]
  have hbad : (∀ o n v w a b, s0.e ≠ [.mk o n v w [a, b]]) → R = ((.mk 0 0 0 0 [], .mk 0 0 0 0 []), false) := fun h => by
    rw [← hR]
    simp only [cmpR]
  by_cases h1 : s0.e.length = 1
  case neg =>
    have := hbad fun o n v w a b h => h1 (by rw [h]; rfl)
    subst this
    simp [show ¬ (s0.e.length : Int) = 1 by omega]
  obtain ⟨z, hz⟩ : ∃ z, s0.e = [z] := by
    match h : s0.e, h1 with
    | [z], _ => exact ⟨z, rfl⟩
  have hzn := hse z (by rw [hz]; simp)
  simp [hz, Ex.d_eq]
  by_cases h2 : z.op = 12
  case neg =>
    have hR0 : R = ((.mk 0 0 0 0 [], .mk 0 0 0 0 []), false) := by
      rw [← hR]
      simp only [cmpR]
      split
      · rename_i o n v w a b heq
        rw [hz] at heq
        simp at heq
        subst heq
        simp at h2
        rw [if_neg (fun h => h2 h.1)]
      · rfl
    subst hR0
    simp [h2, hk, hs, hs2, hz, St.d_eq, Ex.d_eq]
  by_cases h3 : z.l.length = 2
  case neg =>
    have := hbad fun o n v w a b h => h3 (by rw [hz] at h; simp at h; rw [h]; rfl)
    subst this
    simp [h2, hk, hs, hs2, hz, St.d_eq, Ex.d_eq, show ¬ (z.l.length : Int) = 2 by omega]
  obtain ⟨o, n, v, w, q⟩ := z
  simp only [Ex.op_mk, Ex.l_mk] at h2 h3
  subst h2
  obtain ⟨a, b, rfl⟩ : ∃ a b, q = [a, b] := by
    match q, h3 with
    | [a, b], _ => exact ⟨a, b, rfl⟩
  have han : a.nodes + b.nodes ≤ 1000000 := by simp [Ex.nodes, Ex.nodess] at hzn; omega
  have hR1 : R = if (fullB a b s0 s1 s2 s3 || shortB a b s0 s1 s2 s3) = true then ((a, b), noFlB a && noFlB b) else ((.mk 0 0 0 0 [], .mk 0 0 0 0 []), false) := by
    rw [← hR]
    simp only [cmpR, hz]
    simp
  simp [hk, hs, hs2, hz, St.d_eq, Ex.d_eq]
  refine adraw [] (by kernel_rfl) (by kernel_rfl) (by kernel_rfl) (by kernel_rfl) ?_; simp [Ex.d_eq]
  simp [hk, hs, hs2, hz, St.d_eq, Ex.d_eq]
  refine adC_of (ffown_af a (by omega)) (by simp) trivial (by simp) (by simp [Ex.d_eq]) ?_; simp [Ex.d_eq]
  simp [hk, hs, hs2, hz, St.d_eq, Ex.d_eq]
  refine adC_of (ffown_af b (by omega)) (by simp) trivial (by simp) (by simp [Ex.d_eq]) ?_; simp [Ex.d_eq]
  have c1 := assigned_af s0 s1 s2 s3 (eTwo 12 a b) (eMinus a b) (eTwo 15 a b) (eOver a b)
  have c2 := assigned_af s0 s1 s2 s3 (eTwo 12 a b) (eTwo 14 a b) (eCon 0) (eCon 0)
  have c3 := same_af b (eCon 0)
  rw [show (setB s0 8 (eTwo 12 a b) && setB s1 9 (eMinus a b) && setB s2 10 (eTwo 15 a b) && setB s3 11 (eOver a b)) = fullB a b s0 s1 s2 s3 from rfl] at c1
  rw [show shortB a b s0 s1 s2 s3 = (sameB b (eCon 0) && (setB s0 8 (eTwo 12 a b) && setB s1 9 (eTwo 14 a b) && setB s2 10 (eCon 0) && setB s3 11 (eCon 0))) by simp only [shortB, Bool.and_assoc]] at hR1
  generalize (setB s0 8 (eTwo 12 a b) && setB s1 9 (eTwo 14 a b) && setB s2 10 (eCon 0) && setB s3 11 (eCon 0)) = g2 at *
  generalize fullB a b s0 s1 s2 s3 = g1 at *
  generalize sameB b (eCon 0) = g3 at *
  have hkw := i64w (n := (k : Int) + 4) (by omega)
  have hb1 : 0 ≤ (k : Int) + 4 ∧ (k : Int) + 4 ≤ l.length := by omega
  have hb2 : k ≤ k + 4 := by omega
  have hb3 : (k : Int) ≤ (k : Int) + 4 := by omega
  have hb4 : ((k : Int) + 4).toNat = k + 4 := by omega
  have hsl2 : List.drop k (sts (List.take (k + 4) l)) = sts [s0, s1, s2, s3] := by
    rw [← hsl]
    simp only [sts, List.map_drop]
  have f1 := free_af a
  have f2 := free_af b
  generalize noFlB a = p1 at *
  generalize noFlB b = p2 at *
  refine adraw [] (by kernel_rfl) (by kernel_rfl) (by kernel_rfl) (by kernel_rfl) ?_; simp [Ex.d_eq]
  simp [hkw, hb1, hb2, hb3, hb4, hsl2]
  refine adC_of (flags_af a b (by omega) (by omega)) (by simp) trivial (by simp) (by simp [Ex.d_eq]) ?_; simp [Ex.d_eq]
  refine adC_of c1 (by simp) trivial (by simp) (by simp [Ex.d_eq]) ?_; simp [Ex.d_eq]
  cases g1
  · simp at hR1
    simp
    refine adC_of (const_af 0) (by simp) trivial (by simp) (by simp [Ex.d_eq]) ?_; simp [Ex.d_eq]
    refine adC_of c3 (by simp) trivial (by simp) (by simp [Ex.d_eq]) ?_; simp [Ex.d_eq]
    cases g3
    · simp at hR1
      subst hR1
      simp
    simp at hR1
    simp [hkw, hb1, hb2, hb3, hb4, hsl2]
    refine adC_of (logic_af a b (by omega) (by omega)) (by simp) trivial (by simp) (by simp [Ex.d_eq]) ?_; simp [Ex.d_eq]
    refine adC_of c2 (by simp) trivial (by simp) (by simp [Ex.d_eq]) ?_; simp [Ex.d_eq]
    cases g2
    · simp at hR1
      subst hR1
      simp
    simp at hR1
    subst hR1
    simp
    refine adraw [] (by kernel_rfl) (by kernel_rfl) (by kernel_rfl) (by kernel_rfl) ?_; simp [Ex.d_eq]
    refine adC_of f1 (by simp) trivial (by simp) (by simp [Ex.d_eq]) ?_; simp [Ex.d_eq]
    cases p1
    · simp
    simp
    refine adC_of f2 (by simp) trivial (by simp) (by simp [Ex.d_eq]) ?_; simp [Ex.d_eq]
  · simp at hR1
    subst hR1
    simp
    refine adraw [] (by kernel_rfl) (by kernel_rfl) (by kernel_rfl) (by kernel_rfl) ?_; simp [Ex.d_eq]
    refine adC_of f1 (by simp) trivial (by simp) (by simp [Ex.d_eq]) ?_; simp [Ex.d_eq]
    cases p1
    · simp
    simp
    refine adC_of f2 (by simp) trivial (by simp) (by simp [Ex.d_eq]) ?_; simp [Ex.d_eq]
end Go.Proofs.YtlidimmfpfockaaGreatDoor

/- Contracts: flagfuse's ends, replace, rewrite. -/
namespace Go.Proofs.YtlidimmfpfockaaGreatDoor
open Go.RowKit
theorem ends_af (a b : Ex) (s : St) (ha : a.nodes ≤ 1000000) (hb : b.nodes ≤ 1000000) : AF Tryz.prog 107 [prA a b, stV s] (aB (endsB (a, b) s)) := by
  obtain ⟨R, hR⟩ : ∃ R, endsB (a, b) s = R := ⟨_, rfl⟩
  rw [hR]
  have va := varsR_len a
  have vb := varsR_len b
  have ca := containsin_af (varsR a) s.va (by unfold maxLen; omega)
  have cb := containsin_af (varsR b) s.va (by unfold maxLen; omega)
  rw [show decide (s.va ∈ varsR a) = decide (s.va ∈ occ a) from decide_eq_decide.2 varsR_mem] at ca
  rw [show decide (s.va ∈ varsR b) = decide (s.va ∈ occ b) from decide_eq_decide.2 varsR_mem] at cb
  simp only [endsB] at hR
  generalize decide (s.va ∈ occ a) = p at *
  generalize decide (s.va ∈ occ b) = q at *
  refine af_of Tryz.func107 rfl (by kernel_rfl) (by simp [Tryz.ntmps107]) fun _ => ?_; simp [Tryz.f107, Ex.d_eq]
  by_cases h5 : s.op = 5
  · simp [h5] at hR
    subst hR
    simp [h5]
  have fin : ∀ {e : AEnv} {A : AHeap}, True := fun {_ _} => trivial
  by_cases h1 : s.op = 1 ∨ s.op ≠ 1 ∧ s.op = 3
  case neg =>
    have g1 : ¬ s.op = 1 := fun h => h1 (.inl h)
    have g3 : ¬ s.op = 3 := fun h => h1 (.inr ⟨g1, h⟩)
    simp [h5, g1, g3] at hR
    subst hR
    simp [h5, g1, g3]
  have hR2 : (decide (8 ≤ s.va ∧ s.va ≤ 11) || p || q) = R := by
    rw [← hR]
    rcases h1 with h1 | ⟨h1, h3⟩
    · simp [h1]
    · simp [h3]
  clear hR fin
  rcases h1 with h1 | ⟨h1, h3⟩
  case' inl => simp [h1]
  case' inr => simp [h3]
  all_goals
    by_cases h8 : 8 ≤ s.va
    · by_cases h11 : s.va ≤ 11
      · simp [h8, h11] at hR2
        subst hR2
        refine adraw [] (by kernel_rfl) (by kernel_rfl) (by kernel_rfl) (by kernel_rfl) ?_; simp [Ex.d_eq]
        simp [h8, h11]
      · simp [h8, h11] at hR2
        refine adraw [] (by kernel_rfl) (by kernel_rfl) (by kernel_rfl) (by kernel_rfl) ?_; simp [Ex.d_eq]
        simp [h8, h11]
        refine adC_of (ilvars_af a ha) (by simp) trivial (by simp) (by simp [Ex.d_eq]) ?_; simp [Ex.d_eq]
        refine adC_of ca (by simp) trivial (by simp) (by simp [Ex.d_eq]) ?_; simp [Ex.d_eq]
        cases p
        · simp at hR2
          subst hR2
          simp
          refine adC_of (ilvars_af b hb) (by simp) trivial (by simp) (by simp [Ex.d_eq]) ?_; simp [Ex.d_eq]
          refine adC_of cb (by simp) trivial (by simp) (by simp [Ex.d_eq]) ?_; simp [Ex.d_eq]
        · simp at hR2
          subst hR2
          simp
    · simp [h8] at hR2
      refine adraw [] (by kernel_rfl) (by kernel_rfl) (by kernel_rfl) (by kernel_rfl) ?_; simp [Ex.d_eq]
      simp [h8]
      refine adC_of (ilvars_af a ha) (by simp) trivial (by simp) (by simp [Ex.d_eq]) ?_; simp [Ex.d_eq]
      refine adC_of ca (by simp) trivial (by simp) (by simp [Ex.d_eq]) ?_; simp [Ex.d_eq]
      cases p
      · simp at hR2
        subst hR2
        simp
        refine adC_of (ilvars_af b hb) (by simp) trivial (by simp) (by simp [Ex.d_eq]) ?_; simp [Ex.d_eq]
        refine adC_of cb (by simp) trivial (by simp) (by simp [Ex.d_eq]) ?_; simp [Ex.d_eq]
      · simp at hR2
        subst hR2
        simp
theorem recA_cases (x : Ex) : (∃ k, k < 14 ∧ recN x = some (k + 1) ∧ recA x = .tup [aI .i64 (k + 1 : Nat), aB true]) ∨ (recN x = some 0 ∧ recA x = .tup [aI .i64 0, aB true]) ∨ (recN x = none ∧ recA x = .tup [aI .i64 0, aB false]) := by
  cases h : recN x with
  | none => exact .inr (.inr ⟨rfl, by unfold recA; rw [h]⟩)
  | some k =>
    cases k with
    | zero => exact .inr (.inl ⟨rfl, by unfold recA; rw [h]; rfl⟩)
    | succ k =>
      have hk : k + 1 ∈ List.range 15 := by
        unfold recN at h
        exact List.mem_of_find?_eq_some h
      have hk2 : k + 1 < 15 := by simpa using hk
      exact .inl ⟨k, by omega, rfl, by unfold recA; rw [h]⟩
theorem ffreplace_af (a b : Ex) (ha : a.nodes ≤ 1000000) (hb : b.nodes ≤ 1000000) : ∀ (e : Ex), e.nodes ≤ 1000000000 → AF Tryz.prog 106 [prA a b, exA e] (exA (fuseS a b e)) := by
  intro x
  induction x using Ex.ind with
  | h x ih =>
    intro hn
    have hlen := x.nodes_len
    have n1 : x.l.length ≤ maxLen := by unfold maxLen; omega
    have hF := fuseS_eq a b x
    obtain ⟨F, hFF⟩ : ∃ F, fuseS a b x = F := ⟨_, rfl⟩
    rw [hFF] at hF ⊢
    have cr := rec_af x
    refine af_of Tryz.func106 rfl (by kernel_rfl) (by simp [Tryz.ntmps106]) fun _ => ?_
    simp [Tryz.f106]
    rcases recA_cases x with ⟨k, hk, h1, h2⟩ | ⟨h1, h2⟩ | ⟨h1, h2⟩
    · rw [h1] at hF
      rw [h2] at cr
      simp only at hF
      subst hF
      refine aCall_of cr (by simp) (by simp [Ex.d_eq]) ?_; simp [Ex.d_eq]
      simp [show ¬ ((k : Int) + 1 = 0) by omega]
      have cc := cond_af (k + 1 : Nat) a b (by omega) (by omega)
      simp at cc
      refine aCall_of cc (by simp) (by simp [Ex.d_eq]) ?_; simp [Ex.d_eq]
    case' inr.inl =>
      rw [h1] at hF
      rw [h2] at cr
      simp only at hF
      subst hF
      refine aCall_of cr (by simp) (by simp [Ex.d_eq]) ?_; simp [Ex.d_eq]
    case' inr.inr =>
      rw [h1] at hF
      rw [h2] at cr
      simp only at hF
      subst hF
      refine aCall_of cr (by simp) (by simp [Ex.d_eq]) ?_; simp [Ex.d_eq]
    all_goals
      clear hFF
      refine aCall_ofc (clone_ac _ (Ex.ds x.l) (by simp; omega)) (by simp) ?_
      rintro _ _ ⟨rfl, rfl⟩
      simp
      refine aLoop_of (α := Nat) (fun i e A => i ≤ x.l.length ∧ (∃ L : List Ex, A = [⟨0, true, 103, 10, [exCf a ++ exCf b]⟩, ⟨0, true, 38, 5, [[aI .i64 x.op, aI .u32 x.n, aI .i64 x.v, aI .i64 x.wd, .own 3 1 0 x.l.length]]⟩, ⟨0, true, 38, 5, [[aI .i64 0, aI .u32 0, aI .i64 0, aI .i64 0, .d (.v (.slice none 0 0))]]⟩, ⟨1, true, 38, 5, dEls (Ex.ds L)⟩] ∧ L.length = x.l.length ∧
          ∀ j : Nat, L[j]? = if j < i then (x.l[j]?).map (fuseS a b) else x.l[j]?) ∧
        e 31 = aI .i64 i ∧ e 30 = aI .i64 x.l.length ∧ e 2 = .ptr 0 0 0 0 ∧ e 3 = .ptr 1 0 0 0 ∧ e 4 = .ptr 2 0 0 0) (fun i => x.l.length - i) 0 (Sub.refl _ _ _)
        ⟨by omega, ⟨x.l, by simp, rfl, by simp⟩, by simp, by simp, by simp, by simp, by simp⟩ ?_
      rintro i e A ⟨hi, ⟨L, rfl, hL, hLj⟩, e31, e30, e2, e3, e4⟩ K hK
      rcases Nat.lt_or_ge i x.l.length with hlt | hge
      case inl =>
        obtain ⟨y, hy⟩ : ∃ y, x.l[i]? = some y := ⟨_, List.getElem?_eq_getElem hlt⟩
        have hLi : L[i]? = some y := by rw [hLj, if_neg (by omega), hy]
        have hLi2 := (List.getElem?_eq_some_iff.1 hLi).2
        have hlt' : i < L.length := by omega
        simp [e31, e30, hlt]
        refine adraw [] (by kernel_rfl) (by kernel_rfl) (by kernel_rfl) (by kernel_rfl) ?_
        simp [e31, e30, e2, e3, e4, hlt, hlt', hL, hLi, hLi2, Ex.d_eq]
        refine adC_of (ih y (List.mem_of_getElem? hy) (by have := Ex.nodes_mem (List.mem_of_getElem? hy); omega)) (by simp) trivial (by simp) (by simp) ?_
        have hL' : ∀ (z : Ex), (dEls (Ex.ds L)).set i [aI .i64 z.op, aI .u32 z.n, aI .i64 z.v, aI .i64 z.wd, .d (.sl 5 (Ex.ds z.l))] = dEls (Ex.ds (L.set i z)) := fun z => by
          rw [show [aI .i64 z.op, aI .u32 z.n, aI .i64 z.v, aI .i64 z.wd, .d (.sl 5 (Ex.ds z.l))] = (Ex.d z).map AV.d by simp [Ex.d_eq], dEls_set]
          simp [Ex.ds_map, List.map_set]
        have hset : ∀ j : Nat, (L.set i (fuseS a b y))[j]? = if j < i + 1 then (x.l[j]?).map (fuseS a b) else x.l[j]? := fun j => by
          rw [List.getElem?_set]
          by_cases hij : i = j
          · subst hij
            simp [hlt', hy]
          · rw [if_neg hij, hLj]
            by_cases hj : j < i
            · rw [if_pos hj, if_pos (by omega)]
            · rw [if_neg hj, if_neg (by omega)]
        simp [hlt, hlt', hL, hLi2, Ex.d_eq, hL', e31, succ_wrap hlt n1]
        refine hK (i + 1) _ _ _ _ (Sub.refl _ _ _) ⟨by omega, ⟨L.set i (fuseS a b y), by simp, by simpa using hL, hset⟩, by simp, by simp [e30], by simp [e2], by simp [e3], by simp [e4]⟩ (by omega)
      obtain rfl : i = x.l.length := by omega
      obtain rfl : L = x.l.map (fuseS a b) := by
        refine List.ext_getElem? fun j => ?_
        rw [hLj, List.getElem?_map]
        by_cases hj : j < x.l.length
        · rw [if_pos hj]
        · rw [if_neg hj, List.getElem?_eq_none (by omega)]
          rfl
      have nl : NLeS (List.take x.l.length (Ex.ds (List.map (fuseS a b) x.l))) (Ex.ds (List.map (fuseS a b) x.l)) := by
        rw [List.take_of_length_le (by simp)]; exact NLeS.refl _
      simp [e31, e30, e3, e4, Ex.d_eq]
      exact nl
/-- A statement's cells, its expressions and its cases so. -/
abbrev stQ (s : St) (E C : AV) : List AV := [aI .i64 s.op, aI .i64 s.va, aI .i64 s.wd, aI .i64 s.nx, aI .i64 s.el, aI .u32 s.tg, E, C]
abbrev stZ : Blk := ⟨0, true, 26, 8, [[aI .i64 0, aI .i64 0, aI .i64 0, aI .i64 0, aI .i64 0, aI .u32 0, .d (.v (.slice none 0 0)), .d (.v (.slice none 0 0))]]⟩
theorem ffrewrite_af {g : Nat} {fs : List AV} {f : Ex → Ex} (s : St) (hs : s.e.length ≤ 1000000) (hc : s.cs.length ≤ 2000000) (hok : okF Tryz.prog g = true) (hfs : fs = [] ∨ ∃ a b, fs = [prA a b]) (hf : ∀ e ∈ s.e, AF Tryz.prog g (fs ++ [exA e]) (exA (f e))) :
    AF Tryz.prog 104 [stV s, .fn g fs []] (stV { s with e := s.e.map f }) := by
  have n1 : s.e.length ≤ maxLen := by unfold maxLen; omega
  rcases hfs with rfl | ⟨a, b, rfl⟩
  · refine af_of Tryz.func104 rfl (by kernel_rfl) (by simp [Tryz.ntmps104]) fun _ => ?_
    simp [Tryz.f104]
    refine aCall_ofc (clone_ac _ (Ex.ds s.e) (by simp; omega)) (by simp) ?_
    rintro _ _ ⟨rfl, rfl⟩
    simp
    refine aLoop_of (α := Nat) (fun i e A => i ≤ s.e.length ∧ (∃ L : List Ex, A = [⟨0, true, 26, 8, [stQ s (.own 2 1 0 s.e.length) (.d (.sl 1 (i64s s.cs)))]⟩, stZ, ⟨1, true, 38, 5, dEls (Ex.ds L)⟩] ∧ L.length = s.e.length ∧
        ∀ j : Nat, L[j]? = if j < i then (s.e[j]?).map f else s.e[j]?) ∧
      e 13 = aI .i64 i ∧ e 12 = aI .i64 s.e.length ∧ e 2 = .ptr 0 0 0 0 ∧ e 4 = .ptr 1 0 0 0 ∧ e 1 = .fn g [] []) (fun i => s.e.length - i) 0 (Sub.refl _ _ _)
      ⟨by omega, ⟨s.e, by simp, rfl, by simp⟩, by simp, by simp, by simp, by simp, by simp⟩ ?_
    rintro i e A ⟨hi, ⟨L, rfl, hL, hLj⟩, e13, e12, e2, e4, e1⟩ K hK
    rcases Nat.lt_or_ge i s.e.length with hlt | hge
    case inl =>
      obtain ⟨y, hy⟩ : ∃ y, s.e[i]? = some y := ⟨_, List.getElem?_eq_getElem hlt⟩
      have hLi : L[i]? = some y := by rw [hLj, if_neg (by omega), hy]
      have hLi2 := (List.getElem?_eq_some_iff.1 hLi).2
      have hlt' : i < L.length := by omega
      simp [e13, e12, hlt]
      refine adraw [] (by kernel_rfl) (by kernel_rfl) (by kernel_rfl) (by kernel_rfl) ?_
      simp [e13, e12, e2, e4, e1, hlt, hlt', hL, hLi, hLi2, Ex.d_eq]
      refine adC_of (hf y (List.mem_of_getElem? hy)) hok trivial (by simp) (by simp) ?_
      have hL' : ∀ (z : Ex), (dEls (Ex.ds L)).set i [aI .i64 z.op, aI .u32 z.n, aI .i64 z.v, aI .i64 z.wd, .d (.sl 5 (Ex.ds z.l))] = dEls (Ex.ds (L.set i z)) := fun z => by
        rw [show [aI .i64 z.op, aI .u32 z.n, aI .i64 z.v, aI .i64 z.wd, .d (.sl 5 (Ex.ds z.l))] = (Ex.d z).map AV.d by simp [Ex.d_eq], dEls_set]
        simp [Ex.ds_map, List.map_set]
      have hset : ∀ j : Nat, (L.set i (f y))[j]? = if j < i + 1 then (s.e[j]?).map f else s.e[j]? := fun j => by
        rw [List.getElem?_set]
        by_cases hij : i = j
        · subst hij
          simp [hlt', hy]
        · rw [if_neg hij, hLj]
          by_cases hj : j < i
          · rw [if_pos hj, if_pos (by omega)]
          · rw [if_neg hj, if_neg (by omega)]
      simp [hlt, hlt', hL, hLi2, Ex.d_eq, hL', e13, succ_wrap hlt n1]
      refine hK (i + 1) _ _ _ _ (Sub.refl _ _ _) ⟨by omega, ⟨L.set i (f y), by simp, by simpa using hL, hset⟩, by simp, by simp [e12], by simp [e2], by simp [e4], by simp [e1]⟩ (by omega)
    obtain rfl : i = s.e.length := by omega
    obtain rfl : L = s.e.map f := by
      refine List.ext_getElem? fun j => ?_
      rw [hLj, List.getElem?_map]
      by_cases hj : j < s.e.length
      · rw [if_pos hj]
      · rw [if_neg hj, List.getElem?_eq_none (by omega)]
        rfl
    have nl : NLeS (List.take s.e.length (Ex.ds (List.map f s.e))) (Ex.ds (List.map f s.e)) := by
      rw [List.take_of_length_le (by simp)]; exact NLeS.refl _
    simp [e13, e12, e2, e4]
    refine aCall_ofc (clone_in_ac _ (i64s s.cs) (by simp; omega)) (by simp) ?_
    rintro _ _ ⟨rfl, rfl⟩
    simp [e2, e4]
    exact nl
  · refine af_of Tryz.func104 rfl (by kernel_rfl) (by simp [Tryz.ntmps104]) fun _ => ?_
    simp [Tryz.f104]
    refine aCall_ofc (clone_ac _ (Ex.ds s.e) (by simp; omega)) (by simp) ?_
    rintro _ _ ⟨rfl, rfl⟩
    simp
    refine aLoop_of (α := Nat) (fun i e A => i ≤ s.e.length ∧ (∃ L : List Ex, A = [⟨0, true, 26, 8, [stQ s (.own 2 1 0 s.e.length) (.d (.sl 1 (i64s s.cs)))]⟩, stZ, ⟨1, true, 38, 5, dEls (Ex.ds L)⟩] ∧ L.length = s.e.length ∧
        ∀ j : Nat, L[j]? = if j < i then (s.e[j]?).map f else s.e[j]?) ∧
      e 13 = aI .i64 i ∧ e 12 = aI .i64 s.e.length ∧ e 2 = .ptr 0 0 0 0 ∧ e 4 = .ptr 1 0 0 0 ∧ e 1 = .fn g [prA a b] []) (fun i => s.e.length - i) 0 (Sub.refl _ _ _)
      ⟨by omega, ⟨s.e, by simp, rfl, by simp⟩, by simp, by simp, by simp, by simp, by simp⟩ ?_
    rintro i e A ⟨hi, ⟨L, rfl, hL, hLj⟩, e13, e12, e2, e4, e1⟩ K hK
    rcases Nat.lt_or_ge i s.e.length with hlt | hge
    case inl =>
      obtain ⟨y, hy⟩ : ∃ y, s.e[i]? = some y := ⟨_, List.getElem?_eq_getElem hlt⟩
      have hLi : L[i]? = some y := by rw [hLj, if_neg (by omega), hy]
      have hLi2 := (List.getElem?_eq_some_iff.1 hLi).2
      have hlt' : i < L.length := by omega
      simp [e13, e12, hlt]
      refine adraw [] (by kernel_rfl) (by kernel_rfl) (by kernel_rfl) (by kernel_rfl) ?_
      simp [e13, e12, e2, e4, e1, hlt, hlt', hL, hLi, hLi2, Ex.d_eq]
      refine adC_of (hf y (List.mem_of_getElem? hy)) hok trivial (by simp) (by simp) ?_
      have hL' : ∀ (z : Ex), (dEls (Ex.ds L)).set i [aI .i64 z.op, aI .u32 z.n, aI .i64 z.v, aI .i64 z.wd, .d (.sl 5 (Ex.ds z.l))] = dEls (Ex.ds (L.set i z)) := fun z => by
        rw [show [aI .i64 z.op, aI .u32 z.n, aI .i64 z.v, aI .i64 z.wd, .d (.sl 5 (Ex.ds z.l))] = (Ex.d z).map AV.d by simp [Ex.d_eq], dEls_set]
        simp [Ex.ds_map, List.map_set]
      have hset : ∀ j : Nat, (L.set i (f y))[j]? = if j < i + 1 then (s.e[j]?).map f else s.e[j]? := fun j => by
        rw [List.getElem?_set]
        by_cases hij : i = j
        · subst hij
          simp [hlt', hy]
        · rw [if_neg hij, hLj]
          by_cases hj : j < i
          · rw [if_pos hj, if_pos (by omega)]
          · rw [if_neg hj, if_neg (by omega)]
      simp [hlt, hlt', hL, hLi2, Ex.d_eq, hL', e13, succ_wrap hlt n1]
      refine hK (i + 1) _ _ _ _ (Sub.refl _ _ _) ⟨by omega, ⟨L.set i (f y), by simp, by simpa using hL, hset⟩, by simp, by simp [e12], by simp [e2], by simp [e4], by simp [e1]⟩ (by omega)
    obtain rfl : i = s.e.length := by omega
    obtain rfl : L = s.e.map f := by
      refine List.ext_getElem? fun j => ?_
      rw [hLj, List.getElem?_map]
      by_cases hj : j < s.e.length
      · rw [if_pos hj]
      · rw [if_neg hj, List.getElem?_eq_none (by omega)]
        rfl
    have nl : NLeS (List.take s.e.length (Ex.ds (List.map f s.e))) (Ex.ds (List.map f s.e)) := by
      rw [List.take_of_length_le (by simp)]; exact NLeS.refl _
    simp [e13, e12, e2, e4]
    refine aCall_ofc (clone_in_ac _ (i64s s.cs) (by simp; omega)) (by simp) ?_
    rintro _ _ ⟨rfl, rfl⟩
    simp [e2, e4]
    exact nl
end Go.Proofs.YtlidimmfpfockaaGreatDoor

/- Contract: flagfuse.Block. -/
namespace Go.Proofs.YtlidimmfpfockaaGreatDoor
open Go.RowKit
theorem map_id_st (s : St) : ({ s with e := s.e.map fun e => e } : St) = s := by simp
theorem rwown_af (s : St) (hs : s.e.length ≤ 1000000) (hc : s.cs.length ≤ 2000000) (hn : ∀ e ∈ s.e, e.nodes ≤ 1000000) : AF Tryz.prog 104 [stV s, .fn 105 [] []] (stV s) := by
  have := ffrewrite_af (g := 105) (fs := []) (f := fun e => e) s hs hc (by simp) (.inl rfl) fun e he => ffown_af e (by have := hn e he; omega)
  rwa [map_id_st] at this
theorem rwfuse_af (s : St) (p : Ex × Ex) (hs : s.e.length ≤ 1000000) (hc : s.cs.length ≤ 2000000) (hn : ∀ e ∈ s.e, e.nodes ≤ 1000000) (h1 : p.1.nodes ≤ 1000000) (h2 : p.2.nodes ≤ 1000000) :
    AF Tryz.prog 104 [stV s, .fn 106 [prA p.1 p.2] []] (stV (fuseSt p s)) :=
  ffrewrite_af (g := 106) (fs := [prA p.1 p.2]) (f := fuseS p.1 p.2) s hs hc (by simp) (.inr ⟨_, _, rfl⟩) fun e he => ffreplace_af p.1 p.2 h1 h2 e (by have := hn e he; omega)
theorem cmp_four {l : List St} (h : (cmpR l).2 = true) : ∃ s0 s1 s2 s3 r, l = s0 :: s1 :: s2 :: s3 :: r := by
  match l with
  | [] => simp [cmpR] at h
  | [_] => simp [cmpR] at h
  | [_, _] => simp [cmpR] at h
  | [_, _, _] => simp [cmpR] at h
  | s0 :: s1 :: s2 :: s3 :: r => exact ⟨s0, s1, s2, s3, r, rfl⟩
theorem cmp_part {l : List St} (h : (cmpR l).2 = true) : ∃ s ∈ l, ∃ e ∈ s.e, (cmpR l).1.1.nodes ≤ e.nodes ∧ (cmpR l).1.2.nodes ≤ e.nodes := by
  obtain ⟨s0, s1, s2, s3, r, rfl⟩ := cmp_four h
  simp only [cmpR] at h ⊢
  split at h
  · rename_i o n v w a b heq
    split at h
    · rename_i c
      refine ⟨s0, by simp, .mk o n v w [a, b], by rw [heq]; simp, ?_⟩
      rw [if_pos c]
      simp [Ex.nodes, Ex.nodess]
      omega
    · simp at h
  · simp at h
abbrev outB (ad : Int) (k : Nat) : Blk := ⟨0, true, 30, 2, [[aI .u32 ad, .own 4 k 0 k]]⟩
abbrev arrB (W : List St) : Blk := ⟨W.length, true, 26, 8, dEls (sts W)⟩
abbrev prB (q : Ex × Ex) : Blk := ⟨0, true, 103, 10, [exCf q.1 ++ exCf q.2]⟩
abbrev blZ : Blk := ⟨0, true, 30, 2, [[aI .u32 0, .d (.v (.slice none 0 0))]]⟩
theorem block_match (a : Option (Ex × Ex)) {s : St} {l : List St} {p : Ex × Ex} (h : matchS (s :: l) = some p) : blockS a 0 (s :: l) = s :: blockS (some p) 3 l := by
  cases a <;> simp [blockS, h]
theorem ffblock_af (b : Bl) (hl : b.s.length ≤ 100000) (hf : ∀ s ∈ b.s, s.e.length ≤ 1000000 ∧ s.cs.length ≤ 2000000) (hn : ∀ s ∈ b.s, ∀ e ∈ s.e, e.nodes ≤ 1000000) : AF Tryz.prog 38 [blV b] (blV ⟨b.ad, blockS none 0 b.s⟩) := by
  have hbl : b.s.length ≤ maxLen := by unfold maxLen; omega
  obtain ⟨T, hT⟩ : ∃ T, blockS none 0 b.s = T := ⟨_, rfl⟩
  rw [hT]
  have hTl : T.length = b.s.length := by
    have := congrArg List.length (block_shape b.s none 0).1
    rw [hT] at this
    simpa using this
  refine af_of Tryz.func38 rfl (by kernel_rfl) (by simp [Tryz.ntmps38]) fun _ => ?_; simp [Tryz.f38, Ex.d_eq]
  refine aLoop_st (α := Nat × List St × Bool × (Ex × Ex)) (fun p => [(1, .ptr 0 0 0 0), (2, .ptr 1 0 0 0), (3, .ptr 2 0 0 0), (4, .ptr 3 0 0 0), (5, aB p.2.2.1), (6, aI .i64 p.1)])
    (fun p => [bB b, blZ, outB b.ad p.1, prB p.2.2.2, arrB p.2.1])
    (fun p => p.1 ≤ b.s.length ∧ p.2.1.length = p.1 ∧ p.2.1 ++ blockS (if p.2.2.1 then some p.2.2.2 else none) 0 (b.s.drop p.1) = T ∧ p.2.2.2.1.nodes ≤ 1000000 ∧ p.2.2.2.2.nodes ≤ 1000000)
    (fun p => b.s.length - p.1) (0, [], false, (.mk 0 0 0 0 [], .mk 0 0 0 0 []))
    ((Sub.ghost 0 26 8).trans ((Sub.cell (b := 2) (i := 0) (o := 1) (c := .d (.v (.slice none 0 0))) (c' := .own 4 0 0 0) (by simp; rfl) rfl rfl (VLe.nil_own (k := ⟨0, true, 26, 8, []⟩) (by simp) rfl)).trans
      ((Sub.cell (b := 3) (i := 0) (o := 4) (c := .d (.v (.slice none 0 0))) (c' := .d (.sl 5 [])) (by simp [setEls]; rfl) rfl rfl (VLe.nil_sl 5)).trans
        (Sub.cell (b := 3) (i := 0) (o := 9) (c := .d (.v (.slice none 0 0))) (c' := .d (.sl 5 [])) (by simp [setEls]; rfl) rfl rfl (VLe.nil_sl 5))))) 5 (by omega) (by simp [setEls]) (by simp) ⟨by omega, rfl, by simpa using hT, by simp [Ex.nodes, Ex.nodess], by simp [Ex.nodes, Ex.nodess]⟩ ?_
  rintro ⟨k, W, inb, q⟩ ⟨hi, hW, hx, hq1, hq2⟩ K hK
  simp only at hi hW hx hq1 hq2 hK ⊢
  rcases Nat.lt_or_ge k b.s.length with hlt | hge
  case inr =>
    obtain rfl : k = b.s.length := by omega
    have hWT : W = T := by
      rw [List.drop_length] at hx
      cases inb <;> simpa [blockS] using hx
    subst hWT
    have nl : List.take b.s.length (dEls (sts W)) = dEls (sts W) := List.take_of_length_le (by simp [hW])
    simp [hW, nl]
  obtain ⟨s, hs⟩ : ∃ s, b.s[k]? = some s := ⟨_, List.getElem?_eq_getElem hlt⟩
  have hs2 := (List.getElem?_eq_some_iff.1 hs).2
  have hsm := List.mem_of_getElem? hs
  have hd : b.s.drop k = s :: b.s.drop (k + 1) := by rw [List.drop_eq_getElem_cons hlt, hs2]
  have fs := hf s hsm
  have ns := hn s hsm
  simp [hlt]
  have cc := cmp_af b.s k hlt (by omega) hn
  have hpt : (cmpR (b.s.drop k)).2 = true → _ := cmp_part (l := b.s.drop k)
  have hfour : (cmpR (b.s.drop k)).2 = true → _ := cmp_four (l := b.s.drop k)
  have hm : matchS (b.s.drop k) = if (cmpR (b.s.drop k)).2 = true then some (cmpR (b.s.drop k)).1 else none := rfl
  generalize hC : cmpR (b.s.drop k) = C at *
  obtain ⟨⟨p1, p2⟩, ok⟩ := C
  simp only at cc hpt hfour hm
  refine aCall_of cc (by simp) (by simp [Ex.d_eq]) ?_; simp [Ex.d_eq]
  cases ok
  · simp at hm
    simp
    cases inb
    · simp at hx
      simp
      refine adraw2 10 [] (by kernel_rfl) (by kernel_rfl) (by kernel_rfl) (by kernel_rfl) (by kernel_rfl) ?_
      simp [hlt, hs, hs2, St.d_eq]
      refine adC_of (rwown_af s fs.1 fs.2 ns) (by simp) trivial (by simp) (by simp) ?_
      simp
      refine aRaw_app byt_28 ?_
      simp [hW]
      refine ⟨by unfold maxLen; omega, by omega, ?_⟩
      refine adrawT [] (by kernel_rfl) (by kernel_rfl) (by kernel_rfl) (by kernel_rfl) ?_
      simp
      simp [succ_wrap hlt hbl]
      refine hK (k + 1, W ++ [s], false, q) ⟨by omega, by simp [hW], ?_, hq1, hq2⟩ (by simp only; omega) (Sub.refl _ _ _) 5 (by omega) (by simp [hW, St.d_eq]) (by simp)
      rw [← hx, hd, blockS, ← hd, hm]
      simp
    · simp at hx
      simp
      refine adraw2 10 [] (by kernel_rfl) (by kernel_rfl) (by kernel_rfl) (by kernel_rfl) (by kernel_rfl) ?_
      simp [hlt, hs, hs2, St.d_eq]
      refine adC_of (rwfuse_af s q fs.1 fs.2 ns hq1 hq2) (by simp) trivial (by simp) (by simp) ?_
      simp
      refine aRaw_app byt_28 ?_
      simp [hW]
      refine ⟨by unfold maxLen; omega, by omega, ?_⟩
      refine adrawT [] (by kernel_rfl) (by kernel_rfl) (by kernel_rfl) (by kernel_rfl) ?_
      simp
      simp [hlt, hs, hs2, St.d_eq]
      have ce := ends_af q.1 q.2 s hq1 hq2
      obtain ⟨E, hE⟩ : ∃ E, endsB q s = E := ⟨_, rfl⟩
      rw [show ((q.1, q.2) : Ex × Ex) = q from rfl, hE] at ce
      refine adC_of ce (by simp) trivial (by simp) (by simp [Ex.d_eq]) ?_; simp [Ex.d_eq]
      simp [succ_wrap hlt hbl]
      refine hK (k + 1, W ++ [fuseSt q s], !E, q) ⟨by omega, by simp [hW], ?_, hq1, hq2⟩ (by simp only; omega) (Sub.refl _ _ _) 5 (by omega) (by simp [hW, St.d_eq]) (by simp)
      rw [← hx, hd, blockS, ← hd, hm]
      simp [hE]
      cases E <;> simp
  · simp at hm
    simp
    obtain ⟨s0, s1, s2, s3, r, h4⟩ := hfour rfl
    obtain ⟨s', hs', e', he', g1, g2⟩ := hpt rfl
    have hg := hn s' (List.mem_of_mem_drop hs') e' he'
    have hlen4 : k + 4 ≤ b.s.length := by
      have := congrArg List.length h4
      simp at this
      omega
    have a0 : b.s[k]? = some s0 := by have := congrArg (fun x => x[0]?) h4; simpa using this
    have a1 : b.s[k + 1]? = some s1 := by have := congrArg (fun x => x[1]?) h4; simpa using this
    have a2 : b.s[k + 2]? = some s2 := by have := congrArg (fun x => x[2]?) h4; simpa using this
    have a3 : b.s[k + 3]? = some s3 := by have := congrArg (fun x => x[3]?) h4; simpa using this
    have b0 := (List.getElem?_eq_some_iff.1 a0).2
    have b1 := (List.getElem?_eq_some_iff.1 a1).2
    have b2 := (List.getElem?_eq_some_iff.1 a2).2
    have b3 := (List.getElem?_eq_some_iff.1 a3).2
    have c0 := rwown_af s0 (hf s0 (List.mem_of_getElem? a0)).1 (hf s0 (List.mem_of_getElem? a0)).2 (hn s0 (List.mem_of_getElem? a0))
    have c1 := rwown_af s1 (hf s1 (List.mem_of_getElem? a1)).1 (hf s1 (List.mem_of_getElem? a1)).2 (hn s1 (List.mem_of_getElem? a1))
    have c2 := rwown_af s2 (hf s2 (List.mem_of_getElem? a2)).1 (hf s2 (List.mem_of_getElem? a2)).2 (hn s2 (List.mem_of_getElem? a2))
    have c3 := rwown_af s3 (hf s3 (List.mem_of_getElem? a3)).1 (hf s3 (List.mem_of_getElem? a3)).2 (hn s3 (List.mem_of_getElem? a3))
    refine aLoop_iter 4 ?_; simp [Ex.d_eq]
    have l1 : k + 1 < b.s.length := by omega
    have l2 : k + 2 < b.s.length := by omega
    have l3 : k + 3 < b.s.length := by omega
    have w1 : IntKind.i64.wrap ((k : Int) + 1) = k + 1 := i64w (by omega)
    have w2 : IntKind.i64.wrap ((k : Int) + 1 + 1) = k + 2 := by rw [show (k : Int) + 1 + 1 = k + 2 by omega]; exact i64w (by omega)
    have w3 : IntKind.i64.wrap ((k : Int) + 2 + 1) = k + 3 := by rw [show (k : Int) + 2 + 1 = k + 3 by omega]; exact i64w (by omega)
    have w4 : IntKind.i64.wrap ((k : Int) + 3 + 1) = k + 4 := by rw [show (k : Int) + 3 + 1 = k + 4 by omega]; exact i64w (by omega)
    have z1 : 0 ≤ (k : Int) + 1 := by omega
    have z2 : 0 ≤ (k : Int) + 2 := by omega
    have z3 : 0 ≤ (k : Int) + 3 := by omega
    have t1 : ((k : Int) + 1).toNat = k + 1 := by omega
    have t2 : ((k : Int) + 2).toNat = k + 2 := by omega
    have t3 : ((k : Int) + 3).toNat = k + 3 := by omega
    refine adraw2 9 [] (by kernel_rfl) (by kernel_rfl) (by kernel_rfl) (by kernel_rfl) (by kernel_rfl) ?_
    simp [hlt, l1, l2, l3, z1, z2, z3, t1, t2, t3, a0, b0, St.d_eq]
    refine adC_of c0 (by simp) trivial (by simp) (by simp) ?_
    simp
    refine aRaw_app byt_28 ?_
    simp [hW]
    refine ⟨by unfold maxLen; omega, by omega, ?_⟩
    simp [w1, w2, w3, w4]
    refine adraw2 9 [] (by kernel_rfl) (by kernel_rfl) (by kernel_rfl) (by kernel_rfl) (by kernel_rfl) ?_
    simp [hlt, l1, l2, l3, z1, z2, z3, t1, t2, t3, a1, b1, St.d_eq]
    refine adC_of c1 (by simp) trivial (by simp) (by simp) ?_
    simp
    refine aRaw_app byt_28 ?_
    simp [hW]
    refine ⟨by unfold maxLen; omega, by omega, ?_⟩
    simp [w1, w2, w3, w4]
    refine adraw2 9 [] (by kernel_rfl) (by kernel_rfl) (by kernel_rfl) (by kernel_rfl) (by kernel_rfl) ?_
    simp [hlt, l1, l2, l3, z1, z2, z3, t1, t2, t3, a2, b2, St.d_eq]
    refine adC_of c2 (by simp) trivial (by simp) (by simp) ?_
    simp
    refine aRaw_app byt_28 ?_
    simp [hW]
    refine ⟨by unfold maxLen; omega, by omega, ?_⟩
    simp [w1, w2, w3, w4]
    refine adraw2 9 [] (by kernel_rfl) (by kernel_rfl) (by kernel_rfl) (by kernel_rfl) (by kernel_rfl) ?_
    simp [hlt, l1, l2, l3, z1, z2, z3, t1, t2, t3, a3, b3, St.d_eq]
    refine adC_of c3 (by simp) trivial (by simp) (by simp) ?_
    simp
    refine aRaw_app byt_28 ?_
    simp [hW]
    refine ⟨by unfold maxLen; omega, by omega, ?_⟩
    simp [w1, w2, w3, w4]
    have hx2 : W ++ (s0 :: s1 :: s2 :: s3 :: blockS (some (p1, p2)) 0 r) = T := by
      rw [← hx, h4, block_match _ (by rw [← h4]; exact hm)]
      simp [blockS]
    have hr : b.s.drop (k + 4) = r := by
      have := congrArg (List.drop 4) h4
      simpa [List.drop_drop] using this
    refine hK (k + 4, W ++ [s0, s1, s2, s3], true, (p1, p2)) ⟨by simp only; omega, by simp [hW], ?_, by simp only; omega, by simp only; omega⟩ (by simp only; omega) (Sub.refl _ _ _) 5 (by omega) (by simp [hW, St.d_eq]) (by simp)
    simp only [hr, if_true]
    rw [← hx2]
    simp
end Go.Proofs.YtlidimmfpfockaaGreatDoor

/- Contracts: law 23's large; the reference's comparisons of statements and blocks that are the same. -/
namespace Go.Proofs.YtlidimmfpfockaaGreatDoor
open Go.RowKit
/-- What is left of so many after the expressions of a statement; of statements. -/
def lftE (n : Nat) (l : List Ex) : Nat := n - Ex.nodess l
def lftS (n : Nat) : List St → Nat
  | [] => n
  | s :: l => lftS (lftE n s.e) l
def largeB (b : Bl) : Bool := decide (300 < b.s.length) || decide (lftS 5000 b.s = 0)
theorem lftS_take {l : List St} {i : Nat} {x : St} (h : l[i]? = some x) (n : Nat) : lftS n (l.take (i + 1)) = lftE (lftS n (l.take i)) x.e := by
  induction l generalizing i n with
  | nil => simp at h
  | cons a l ih =>
    cases i with
    | zero => simp at h; subst h; simp [lftS]
    | succ i => simp only [List.take_succ_cons, lftS, ih (by simpa using h)]
theorem lftS_zero : ∀ l : List St, lftS 0 l = 0
  | [] => rfl
  | s :: l => by simp only [lftS, lftE, Nat.zero_sub]; exact lftS_zero l
theorem lftS_app (n : Nat) : ∀ l m : List St, lftS n (l ++ m) = lftS (lftS n l) m
  | [], m => rfl
  | s :: l, m => by simp only [List.cons_append, lftS]; exact lftS_app _ l m
theorem lftS_pos {n : Nat} : ∀ {l : List St}, 0 < lftS n l → ∀ s ∈ l, Ex.nodess s.e < n
  | [], _, s, hs => by cases hs
  | a :: l, h, s, hs => by
    simp only [lftS] at h
    have hpos : 0 < lftE n a.e := by
      rcases Nat.eq_zero_or_pos (lftE n a.e) with h0 | h0
      · rw [h0, lftS_zero] at h
        omega
      · exact h0
    unfold lftE at hpos
    rcases List.mem_cons.1 hs with rfl | hs
    · omega
    · have := lftS_pos h s hs
      unfold lftE at this
      omega
theorem large_af (b : Bl) (hl : b.s.length ≤ maxLen) (he : ∀ s ∈ b.s, s.e.length ≤ maxLen) : AF Tryz.prog 33 [blV b] (aB (largeB b)) := by
  have hlm := hl
  unfold maxLen at hl
  refine af_of Tryz.func33 rfl (by kernel_rfl) (by simp [Tryz.ntmps33]) fun _ => ?_; simp [Tryz.f33, Ex.d_eq]
  refine aLoop_st (fun i : Nat => [(1, .ptr 0 0 0 0), (3, aI .i64 (lftS 5000 (b.s.take i) : Nat)), (4, aI .i64 i)]) (fun _ => [bB b])
    (fun i => i ≤ b.s.length) (fun i => b.s.length - i) 0 (Sub.refl _ _ _) 1 (by omega) (by simp) (by simp [lftS]) (by omega) ?_
  rintro i hi K hK
  have fin : lftS 5000 (b.s.take i) = 0 ∨ i = b.s.length → lftS 5000 (b.s.take i) = lftS 5000 b.s := fun h => by
    rcases h with h | h
    · conv => rhs; rw [← List.take_append_drop i b.s, lftS_app, h, lftS_zero]
      exact h
    · rw [h, List.take_length]
  rcases Nat.lt_or_ge i b.s.length with hlt | hge
  case inr =>
    obtain rfl : i = b.s.length := by omega
    have hv := fin (.inr rfl)
    unfold largeB
    by_cases h3 : 300 < b.s.length
    · simp [show (300 : Int) < b.s.length by omega, h3]
    · by_cases h0 : lftS 5000 b.s = 0 <;> simp [show ¬ (300 : Int) < b.s.length by omega, h3, h0]
  by_cases h0 : lftS 5000 (b.s.take i) = 0
  · have hv := fin (.inl h0)
    rw [h0] at hv
    unfold largeB
    rw [← hv]
    by_cases h3 : 300 < b.s.length
    · simp [hlt, h0, show (300 : Int) < b.s.length by omega, h3]
    · simp [hlt, h0, show ¬ (300 : Int) < b.s.length by omega, h3]
  obtain ⟨s, hs⟩ : ∃ s, b.s[i]? = some s := ⟨_, List.getElem?_eq_getElem hlt⟩
  have hs2 := (List.getElem?_eq_some_iff.1 hs).2
  have hel := he s (List.mem_of_getElem? hs)
  have hts := lftS_take hs 5000
  have hle : lftS 5000 (b.s.take i) ≤ 5000 := by
    have : ∀ (l : List St) (n : Nat), lftS n l ≤ n := by
      intro l
      induction l with
      | nil => intro n; exact Nat.le_refl _
      | cons a l ih =>
        intro n
        have := ih (lftE n a.e)
        simp only [lftS]
        unfold lftE at this
        exact Nat.le_trans (ih _) (Nat.sub_le _ _)
    exact this _ _
  generalize lftS 5000 (b.s.take i) = m at *
  simp [hlt, show (0 : Int) < m by omega, show 0 < m by omega]
  clear fin
  refine aLoop_st (fun q : Nat => [(1, .ptr 0 0 0 0), (3, aI .i64 (m - Ex.nodess (s.e.take q) : Nat)), (4, aI .i64 i), (5, aI .i64 q)]) (fun _ => [bB b])
    (fun q => q ≤ s.e.length) (fun q => s.e.length - q) 0 (Sub.refl _ _ _) 1 (by omega) (by simp) (by simp [Ex.nodess]) (by omega) ?_
  rintro q hq K2 hK2
  have done : m - Ex.nodess (s.e.take q) = 0 ∨ q = s.e.length → m - Ex.nodess (s.e.take q) = lftE m s.e := fun h => by
    have := nodess_take_le s.e q
    unfold lftE
    rcases h with h | h
    · omega
    · rw [h, List.take_length]
  rcases Nat.lt_or_ge q s.e.length with hlt2 | hge2
  case inr =>
    obtain rfl : q = s.e.length := by omega
    have hv := done (.inr rfl)
    simp [hlt, hs, hs2, St.d_eq, succ_wrap hlt hlm]
    refine hK (i + 1) (by omega) (by omega) (Sub.refl _ _ _) 1 (by omega) (by simp) ?_
    rw [hts, ← hv]
    simp
  by_cases h1 : m - Ex.nodess (s.e.take q) = 0
  · have hv := done (.inl h1)
    simp [hlt, hs, hs2, St.d_eq, hlt2, h1, succ_wrap hlt hlm]
    refine hK (i + 1) (by omega) (by omega) (Sub.refl _ _ _) 1 (by omega) (by simp) ?_
    rw [hts, ← hv, h1]
    simp
  obtain ⟨y, hy⟩ : ∃ y, s.e[q]? = some y := ⟨_, List.getElem?_eq_getElem hlt2⟩
  have hy2 := (List.getElem?_eq_some_iff.1 hy).2
  have htq := nodess_take hy
  have hsub : m - Ex.nodess (s.e.take (q + 1)) = m - Ex.nodess (s.e.take q) - y.nodes := by omega
  have hm2 : m - Ex.nodess (s.e.take q) ≤ 5000 := by omega
  generalize m - Ex.nodess (s.e.take q) = m2 at *
  simp [hlt, hs, hs2, St.d_eq, hlt2, hy, hy2, Ex.d_eq, show (0 : Int) < m2 by omega, show 0 < m2 by omega]
  refine aCall_of (size_af y m2 (by omega) (by omega)) (by simp) (by simp [Ex.d_eq]) ?_; simp [Ex.d_eq]
  simp [succ_wrap hlt2 hel]
  refine hK2 (q + 1) (by omega) (by omega) (Sub.refl _ _ _) 1 (by omega) (by simp) ?_
  rw [hsub]
  simp
theorem q23samest_af (s : St) (h1 : s.e.length ≤ maxLen) (h2 : s.cs.length ≤ maxLen) : AF Tryz.prog 102 [stV s, stV s] (aB true) := by
  refine af_of Tryz.func102 rfl (by kernel_rfl) (by simp [Tryz.ntmps102]) fun _ => ?_; simp [Tryz.f102, Ex.d_eq]
  refine aLoop_st (fun i : Nat => [(2, .ptr 0 0 0 0), (3, .ptr 1 0 0 0), (5, aI .i64 i)]) (fun _ => [⟨0, true, 26, 8, [s.d.map AV.d]⟩, ⟨0, true, 26, 8, [s.d.map AV.d]⟩])
    (fun i => i ≤ s.e.length) (fun i => s.e.length - i) 0 (Sub.refl _ _ _) 2 (by omega) (by simp [St.d_eq]) (by simp) (by omega) ?_
  rintro i hi K hK
  rcases Nat.lt_or_ge i s.e.length with hlt | hge
  case inl =>
    obtain ⟨y, hy⟩ : ∃ y, s.e[i]? = some y := ⟨_, List.getElem?_eq_getElem hlt⟩
    have hy2 := (List.getElem?_eq_some_iff.1 hy).2
    have c := refsame_af y y
    rw [sameB_refl] at c
    simp [hlt, St.d_eq]
    refine adraw [] (by kernel_rfl) (by kernel_rfl) (by kernel_rfl) (by kernel_rfl) ?_; simp [Ex.d_eq]
    simp [hlt, hy, hy2, Ex.d_eq, St.d_eq]
    refine adC_of c (by simp) trivial (by simp) (by simp [Ex.d_eq]) ?_; simp [Ex.d_eq]
    simp [succ_wrap hlt h1]
    exact hK (i + 1) (by omega) (by omega) (Sub.refl _ _ _) 2 (by omega) (by simp [St.d_eq]) (by simp)
  obtain rfl : i = s.e.length := by omega
  simp [St.d_eq]
  clear hK K
  refine aLoop_st (fun i : Nat => [(2, .ptr 0 0 0 0), (3, .ptr 1 0 0 0), (6, aI .i64 i)]) (fun _ => [⟨0, true, 26, 8, [s.d.map AV.d]⟩, ⟨0, true, 26, 8, [s.d.map AV.d]⟩])
    (fun i => i ≤ s.cs.length) (fun i => s.cs.length - i) 0 (Sub.refl _ _ _) 2 (by omega) (by simp [St.d_eq]) (by simp) (by omega) ?_
  rintro i hi K hK
  rcases Nat.lt_or_ge i s.cs.length with hlt | hge
  case inl =>
    obtain ⟨y, hy⟩ : ∃ y, s.cs[i]? = some y := ⟨_, List.getElem?_eq_getElem hlt⟩
    have hy2 := (List.getElem?_eq_some_iff.1 hy).2
    simp [hlt, St.d_eq]
    refine adraw [] (by kernel_rfl) (by kernel_rfl) (by kernel_rfl) (by kernel_rfl) ?_; simp [Ex.d_eq]
    simp [hlt, hy, hy2, St.d_eq]
    simp [succ_wrap hlt h2]
    exact hK (i + 1) (by omega) (by omega) (Sub.refl _ _ _) 2 (by omega) (by simp [St.d_eq]) (by simp)
  obtain rfl : i = s.cs.length := by omega
  simp [St.d_eq]
theorem q23samebl_af (b : Bl) (h0 : b.s.length ≤ maxLen) (h : ∀ s ∈ b.s, s.e.length ≤ maxLen ∧ s.cs.length ≤ maxLen) : AF Tryz.prog 37 [blV b, blV b] (aB true) := by
  refine af_of Tryz.func37 rfl (by kernel_rfl) (by simp [Tryz.ntmps37]) fun _ => ?_; simp [Tryz.f37, Ex.d_eq]
  refine aLoop_st (fun i : Nat => [(2, .ptr 0 0 0 0), (3, .ptr 1 0 0 0), (5, aI .i64 i)]) (fun _ => [bB b, bB b])
    (fun i => i ≤ b.s.length) (fun i => b.s.length - i) 0 (Sub.refl _ _ _) 2 (by omega) (by simp) (by simp) (by omega) ?_
  rintro i hi K hK
  rcases Nat.lt_or_ge i b.s.length with hlt | hge
  case inl =>
    obtain ⟨s, hs⟩ : ∃ s, b.s[i]? = some s := ⟨_, List.getElem?_eq_getElem hlt⟩
    have hs2 := (List.getElem?_eq_some_iff.1 hs).2
    obtain ⟨g1, g2⟩ := h s (List.mem_of_getElem? hs)
    simp [hlt]
    refine adraw [] (by kernel_rfl) (by kernel_rfl) (by kernel_rfl) (by kernel_rfl) ?_; simp [Ex.d_eq]
    simp [hlt, hs, hs2, St.d_eq]
    refine adC_of (q23samest_af s g1 g2) (by simp) trivial (by simp) (by simp [Ex.d_eq]) ?_; simp [Ex.d_eq]
    simp [succ_wrap hlt h0]
    exact hK (i + 1) (by omega) (by omega) (Sub.refl _ _ _) 2 (by omega) (by simp) (by simp)
  obtain rfl : i = b.s.length := by omega
  simp
end Go.Proofs.YtlidimmfpfockaaGreatDoor

/- Contract: the law FlagfuseShape answers true. -/
namespace Go.Proofs.YtlidimmfpfockaaGreatDoor
open Go.RowKit
theorem bds_sts : ∀ {l : List St}, BdS 8 (sts l) → ∀ s ∈ l, s.e.length ≤ maxLen ∧ s.cs.length ≤ maxLen
  | [], _, s, hs => by cases hs
  | a :: l, h, s, hs => by
    simp only [sts_cons, BdS] at h
    rcases List.mem_cons.1 hs with rfl | hs
    · have := h.2.1
      simp only [St.d_eq, BdE, BdD, Ex.ds_len, i64s_len] at this
      exact ⟨this.2.2.2.2.2.2.1.1, this.2.2.2.2.2.2.2.1.1⟩
    · exact bds_sts h.2.2 s hs
theorem bd_bl {b : Bl} (h : BdL [blV b]) : b.s.length ≤ maxLen ∧ ∀ s ∈ b.s, s.e.length ≤ maxLen ∧ s.cs.length ≤ maxLen := by
  simp only [blV, BdL, Bd, BdD, sts_len] at h
  exact ⟨h.1.2.1.1, bds_sts h.1.2.1.2⟩
theorem large_small {b : Bl} (h : largeB b = false) : b.s.length ≤ 300 ∧ ∀ s ∈ b.s, Ex.nodess s.e < 5000 := by
  simp only [largeB, Bool.or_eq_false_iff, decide_eq_false_iff_not] at h
  exact ⟨by omega, lftS_pos (by omega)⟩
end Go.Proofs.YtlidimmfpfockaaGreatDoor
