/- Texts that the claim leans on, laid one behind the other: Ga, Gb, Gc, Gd, Ge. -/
import Derived.Test.YtfndoocgpmgalaaDoorZD
set_option linter.unusedSimpArgs false
set_option linter.unusedVariables false
set_option linter.unnecessarySimpa false
/- Contracts: the reference's makers of expressions. -/
namespace Go.Proofs.YtfndoocgpmgalaaDoor
open Go.RowKit
end Go.Proofs.YtfndoocgpmgalaaDoor

/- Contracts: the guards on an expression's size (law 19's Nodes and Small). -/
namespace Go.Proofs.YtfndoocgpmgalaaDoor
open Go.RowKit
mutual
/-- What law 19's Nodes computes. -/
def nodI : Ex → Int → Int → Int
  | .mk _ _ _ _ l, m, n => if m < 1 ∨ n < 1 ∨ 4 < l.length then -1 else nodL l (m - 1) (n - 1)
def nodL : List Ex → Int → Int → Int
  | [], _, n => n
  | x :: l, m, n => if 0 ≤ n then nodL l m (nodI x m n) else n
end
theorem nodI_eq (e : Ex) (m n : Int) : nodI e m n = if m < 1 ∨ n < 1 ∨ 4 < e.l.length then -1 else nodL e.l (m - 1) (n - 1) := by
  cases e
  rw [nodI]
  rfl
theorem nodL_neg (l : List Ex) (m n : Int) (h : n < 0) : nodL l m n = n := by
  cases l with
  | nil => rw [nodL]
  | cons x l => rw [nodL, if_neg (by omega)]
mutual
theorem nodI_le : ∀ (e : Ex) (m n : Int), -1 ≤ n → -1 ≤ nodI e m n ∧ (nodI e m n = -1 ∨ nodI e m n + e.nodes = n ∧ e.depth ≤ m)
  | .mk o k v w l, m, n, h => by
    rw [nodI]
    split
    · exact ⟨by omega, .inl rfl⟩
    · rename_i hc
      have := nodL_le l (m - 1) (n - 1) (by omega)
      refine ⟨this.1, ?_⟩
      simp only [Ex.nodes, Ex.depth]
      rcases this.2 with h1 | h1
      · exact .inl h1
      · right
        omega
theorem nodL_le : ∀ (l : List Ex) (m n : Int), -1 ≤ n → -1 ≤ nodL l m n ∧ (nodL l m n = -1 ∨ nodL l m n + Ex.nodess l = n ∧ (Ex.depths l : Int) ≤ max m 0)
  | [], m, n, h => by
    rw [nodL]
    refine ⟨h, .inr ⟨by simp [Ex.nodess], by simp only [Ex.depths]; omega⟩⟩
  | x :: l, m, n, h => by
    rw [nodL]
    split
    · have h1 := nodI_le x m n h
      have h2 := nodL_le l m (nodI x m n) h1.1
      refine ⟨h2.1, ?_⟩
      simp only [Ex.nodess, Ex.depths]
      rcases h2.2 with h3 | h3
      · exact .inl h3
      · rcases h1.2 with h4 | h4
        · left
          rw [h4]
          exact nodL_neg l m _ (by omega)
        · right
          omega
    · exact ⟨h, .inl (by omega)⟩
end
theorem nodes_af : ∀ (e : Ex) (m n : Int), -1000000 ≤ m → m ≤ 1000000 → -1 ≤ n → n ≤ 1000000 → AF Tryd.prog 21 [exA e, aI .i64 m, aI .i64 n] (aI .i64 (nodI e m n)) := by
  intro e
  induction e using Ex.ind with
  | h e ih =>
  intro m n hm1 hm2 hn1 hn2
  refine af_of Tryd.func21 rfl (by kernel_rfl) (by simp [Tryd.ntmps21]) fun _ => ?_
  rw [nodI_eq]
  by_cases h1 : m < 1
  · simp [Tryd.f21, h1]
  by_cases h2 : n < 1
  · simp [Tryd.f21, h1, h2]
  by_cases h3 : 4 < e.l.length
  · simp [Tryd.f21, h1, h2, show (4 : Int) < e.l.length by omega, h3]
  simp [Tryd.f21, h1, h2, h3, show ¬ ((4 : Int) < e.l.length) by omega]
  obtain ⟨R, hR⟩ : ∃ R, nodL e.l (m - 1) (n - 1) = R := ⟨_, rfl⟩
  rw [hR]
  refine aLoop_of (α := Nat) (fun i g A => i ≤ e.l.length ∧ A = [⟨0, true, 25, 5, [[aI .i64 e.op, aI .u32 e.n, aI .i64 e.v, aI .i64 e.wd, .d (.sl 5 (Ex.ds e.l))]]⟩] ∧ g 3 = .ptr 0 0 0 0 ∧ g 8 = aI .i64 i ∧ g 1 = aI .i64 m ∧
    ∃ c : Int, g 7 = aI .i64 c ∧ -1 ≤ c ∧ c ≤ 1000000 ∧ nodL (e.l.drop i) (m - 1) c = R) (fun i => e.l.length - i) 0 (Sub.refl _ _ _)
    ⟨by omega, by simp, by simp, by simp, by simp, n - 1, by simp [i64w (n := n - 1) (by omega)], by omega, by omega, by simpa using hR⟩ ?_
  rintro i g A ⟨hi, rfl, g3, g8, g1, c, g7, hc1, hc2, hcR⟩ K hK
  rcases Nat.lt_or_ge i e.l.length with hlt | hge
  case inr =>
    obtain rfl : i = e.l.length := by omega
    simp at hcR
    rw [nodL] at hcR
    subst hcR
    simp [g3, g8, g7]
  by_cases hc : 0 ≤ c
  case neg =>
    rw [nodL_neg _ _ _ (by omega)] at hcR
    subst hcR
    simp [g3, g8, g7, hlt, hc]
  obtain ⟨x, hx⟩ : ∃ x, e.l[i]? = some x := ⟨_, List.getElem?_eq_getElem hlt⟩
  have hx' := (List.getElem?_eq_some_iff.1 hx).2
  have hd : e.l.drop i = x :: e.l.drop (i + 1) := by rw [List.drop_eq_getElem_cons hlt, hx']
  rw [hd, nodL, if_pos hc] at hcR
  simp [g3, g8, g7, g1, hlt, hc, hx, hx', Ex.d_eq, i64w (n := m - 1) (by omega)]
  have hb := nodI_le x (m - 1) c hc1
  have := Ex.nodes_pos x
  refine aCall_of (ih x (List.mem_of_getElem? hx) (m - 1) c (by omega) (by omega) hc1 hc2) (by simp) (by simp) ?_
  simp [g8, i64w (n := (i : Int) + 1) (by omega)]
  refine hK (i + 1) _ _ _ _ (Sub.refl _ _ _) ⟨by omega, by simp [Ex.d_eq], by simp [g3], by simp, by simp [g1], nodI x (m - 1) c, by simp, hb.1, by omega, hcR⟩ (by omega)
theorem small_af (e : Ex) (m : Int) (h1 : -1000000 ≤ m) (h2 : m ≤ 1000000) : AF Tryd.prog 6 [exA e, aI .i64 m] (aB (decide (0 ≤ nodI e m 3000))) := by
  refine af_of Tryd.func6 rfl (by kernel_rfl) (by simp [Tryd.ntmps6]) fun _ => ?_
  simp [Tryd.f6]
  refine aCall_of (nodes_af e m 3000 h1 h2 (by omega) (by omega)) (by simp) (by simp) ?_
  simp
end Go.Proofs.YtfndoocgpmgalaaDoor

/- Contracts: the reference's check of an expression. -/
namespace Go.Proofs.YtfndoocgpmgalaaDoor
open Go.RowKit
theorem rdeep_af : ∀ (k : Nat) (e : Ex), k ≤ 1000000 → AF Tryd.prog 34 [exA e, aI .i64 k] (aB (!shalB k e)) := by
  intro k
  induction k with
  | zero =>
    intro e _
    refine af_of Tryd.func34 rfl (by kernel_rfl) (by simp [Tryd.ntmps34]) fun _ => ?_
    simp [Tryd.f34, shalB]
  | succ k ih =>
    intro e hk
    refine af_of Tryd.func34 rfl (by kernel_rfl) (by simp [Tryd.ntmps34]) fun hb => ?_
    have n1 : e.l.length ≤ maxLen := by simpa using hb.1.2.2.2.2.1.1
    clear hb
    obtain ⟨R, hR⟩ : ∃ R, (!shalB (k + 1) e) = R := ⟨_, rfl⟩
    rw [hR]
    rw [shalB] at hR
    simp [Tryd.f34, show ¬ ((k : Int) + 1 < 1) by omega]
    refine aLoop_of (α := Nat) (fun i g A => i ≤ e.l.length ∧ A = [⟨0, true, 25, 5, [[aI .i64 e.op, aI .u32 e.n, aI .i64 e.v, aI .i64 e.wd, .d (.sl 5 (Ex.ds e.l))]]⟩] ∧ g 2 = .ptr 0 0 0 0 ∧ g 5 = aI .i64 i ∧ g 1 = aI .i64 (k + 1 : Nat) ∧
      ∀ x ∈ e.l.take i, shalB k x = true) (fun i => e.l.length - i) 0 (Sub.refl _ _ _) ⟨by omega, by simp, by simp, by simp, by simp, by simp⟩ ?_
    rintro i g A ⟨hi, rfl, g2, g5, g1, hall⟩ K hK
    rcases Nat.lt_or_ge i e.l.length with hlt | hge
    case inr =>
      obtain rfl : i = e.l.length := by omega
      have : e.l.all (shalB k) = true := by simpa using hall
      rw [this] at hR
      subst hR
      simp [g2, g5]
    obtain ⟨x, hx⟩ : ∃ x, e.l[i]? = some x := ⟨_, List.getElem?_eq_getElem hlt⟩
    have hx' := (List.getElem?_eq_some_iff.1 hx).2
    simp [g2, g5, g1, hlt, hx, hx', Ex.d_eq, i64w (n := (k : Int)) (by omega)]
    refine aCall_of (ih x (by omega)) (by simp) (by simp) ?_
    simp
    refine aCond_split (fun h => ?_) (fun h => ?_)
    · simp at h
      have : e.l.all (shalB k) = false := by
        rw [List.all_eq_false]
        exact ⟨x, List.mem_of_getElem? hx, by simp [h]⟩
      rw [this] at hR
      subst hR
      simp
    · simp at h
      simp [g5, succ_wrap hlt n1]
      refine hK (i + 1) _ _ _ _ (Sub.refl _ _ _) ⟨by omega, by simp [Ex.d_eq], by simp [g2], by simp, by simp [g1], fun y hy => ?_⟩ (by omega)
      rw [List.take_add_one, hx] at hy
      rcases List.mem_append.1 hy with hy | hy
      · exact hall y hy
      · obtain rfl : y = x := by simpa using hy
        exact h
end Go.Proofs.YtfndoocgpmgalaaDoor

/- Contracts: the reference's check of an expression (printed by gen_gd.py). -/
namespace Go.Proofs.YtfndoocgpmgalaaDoor
open Go.RowKit
theorem risvar_af (v : Int) : AF Tryd.prog 68 [aI .i64 v] (aB (decide (0 ≤ v) && decide (v < 65536))) := by
  refine af_of Tryd.func68 rfl (by kernel_rfl) (by simp [Tryd.ntmps68]) fun _ => ?_
  by_cases h : 0 ≤ v <;> simp [Tryd.f68, h]
theorem rformed_af : ∀ (e : Ex), AF Tryd.prog 35 [exA e] (aB (formB e)) := by
  intro x
  induction x using Ex.ind with
  | h x ih =>
    rw [formB_eq]
    refine af_of Tryd.func35 rfl (by kernel_rfl) (by simp [Tryd.ntmps35]) fun hb => ?_
    have n1 : x.l.length ≤ maxLen := by simpa using hb.1.2.2.2.2.1.1
    clear hb
    obtain ⟨R, hR⟩ : ∃ R, (okE x.op x.n x.v x.wd x.l.length && x.l.all formB) = R := ⟨_, rfl⟩
    rw [hR]
    simp [Tryd.f35]
    refine aLoop_of (α := Nat) (fun i g A => i ≤ x.l.length ∧ A = [⟨0, true, 25, 5, [[aI .i64 x.op, aI .u32 x.n, aI .i64 x.v, aI .i64 x.wd, .d (.sl 5 (Ex.ds x.l))]]⟩] ∧ g 1 = .ptr 0 0 0 0 ∧ g 3 = aI .i64 i ∧
      ∀ y ∈ x.l.take i, formB y = true) (fun i => x.l.length - i) 0 (Sub.refl _ _ _) ⟨by omega, by simp, by simp, by simp, by simp⟩ ?_
    rintro i g A ⟨hi, rfl, g1, g3, hall⟩ K hK
    rcases Nat.lt_or_ge i x.l.length with hlt | hge
    case inl =>
      obtain ⟨y, hy⟩ : ∃ y, x.l[i]? = some y := ⟨_, List.getElem?_eq_getElem hlt⟩
      have hy' := (List.getElem?_eq_some_iff.1 hy).2
      simp [g1, g3, hlt, hy, hy', Ex.d_eq]
      refine aCall_of (ih y (List.mem_of_getElem? hy)) (by simp) (by simp) ?_
      simp
      refine aCond_split (fun h => ?_) (fun h => ?_)
      · simp at h
        have : x.l.all formB = false := by
          rw [List.all_eq_false]
          exact ⟨y, List.mem_of_getElem? hy, by simp [h]⟩
        rw [this, Bool.and_false] at hR
        subst hR
        simp
      · simp at h
        simp [g3, succ_wrap hlt n1]
        refine hK (i + 1) _ _ _ _ (Sub.refl _ _ _) ⟨by omega, by simp [Ex.d_eq], by simp [g1], by simp, fun z hz => ?_⟩ (by omega)
        rw [List.take_add_one, hy] at hz
        rcases List.mem_append.1 hz with hz | hz
        · exact hall z hz
        · obtain rfl : z = y := by simpa using hz
          exact h
    obtain rfl : i = x.l.length := by omega
    have hl : x.l.all formB = true := by simpa using hall
    rw [hl, Bool.and_true] at hR
    clear hl hall hK ih
    subst hR
    simp [g1, g3]
    have q1 : ((x.l.length : Int) = 1) = (x.l.length = 1) := propext (by omega)
    have q2 : ((x.l.length : Int) = 2) = (x.l.length = 2) := propext (by omega)
    by_cases h1 : x.op = 1
    · simp [h1, g1]
      by_cases c0 : x.v = 0 <;> by_cases c1 : x.wd = 0 <;> by_cases c2 : x.l.length = 0 <;> simp [g1, okE, q1, q2, h1, c0, c1, c2]
    simp [h1]
    by_cases h2 : x.op = 2
    · simp [h2, g1]
      by_cases c0 : x.n = 0
      case neg => simp [g1, okE, h2, c0]
      by_cases c1 : x.wd = 0
      case neg => simp [g1, okE, h2, c0, c1]
      by_cases c2 : x.l.length = 0
      case neg => simp [g1, okE, h2, c0, c1, c2]
      simp [g1, h2, c0, c1, c2]
      refine aCall_of (risvar_af x.v) (by simp) (by simp) ?_
      simp [okE, h2, c0, c1, c2]
    simp [h2]
    by_cases h16 : x.op = 16
    · simp [h16, g1]
      by_cases c0 : x.n = 0 <;> by_cases c1 : x.v = 0 <;> by_cases c2 : x.wd = 0 <;> by_cases c3 : x.l.length = 1 <;> simp [g1, okE, q1, q2, h16, c0, c1, c2, c3]
    simp [h16]
    by_cases h17 : x.op = 17
    · simp [h17, g1]
      by_cases c0 : x.n = 0 <;> by_cases c1 : x.v = 0 <;> by_cases c2 : x.wd = 0 <;> by_cases c3 : x.l.length = 1 <;> simp [g1, okE, q1, q2, h17, c0, c1, c2, c3]
    simp [h17]
    by_cases h18 : x.op = 18
    · simp [h18, g1]
      by_cases c0 : x.n = 0
      case neg => simp [g1, okE, h18, c0]
      by_cases c1 : x.v = 0
      case neg => simp [g1, okE, h18, c0, c1]
      by_cases w1 : x.wd = 1
      · by_cases c2 : x.l.length = 1 <;> simp [g1, okE, q1, q2, h18, c0, c1, w1, c2]
      by_cases w2 : x.wd = 2
      · by_cases c2 : x.l.length = 1 <;> simp [g1, okE, q1, q2, h18, c0, c1, w2, c2]
      by_cases w4 : x.wd = 4
      · by_cases c2 : x.l.length = 1 <;> simp [g1, okE, q1, q2, h18, c0, c1, w4, c2]
      simp [g1, okE, h18, c0, c1, w1, w2, w4]
    simp [h18]
    by_cases h19 : x.op = 19
    · simp [h19, g1]
      by_cases c0 : x.n = 0
      case neg => simp [g1, okE, h19, c0]
      by_cases c1 : x.v = 0
      case neg => simp [g1, okE, h19, c0, c1]
      by_cases w1 : x.wd = 1
      · by_cases c2 : x.l.length = 1 <;> simp [g1, okE, q1, q2, h19, c0, c1, w1, c2]
      by_cases w2 : x.wd = 2
      · by_cases c2 : x.l.length = 1 <;> simp [g1, okE, q1, q2, h19, c0, c1, w2, c2]
      simp [g1, okE, h19, c0, c1, w1, w2]
    simp [h19, g1]
    by_cases ha : 3 ≤ x.op
    case neg => simp [g1, okE, h1, h2, h16, h17, h18, h19, ha]
    by_cases hb : x.op ≤ 15
    case neg => simp [g1, okE, h1, h2, h16, h17, h18, h19, ha, hb]
    by_cases c0 : x.n = 0 <;> by_cases c1 : x.v = 0 <;> by_cases c2 : x.wd = 0 <;> by_cases c3 : x.l.length = 2 <;> simp [g1, okE, q1, q2, h1, h2, h16, h17, h18, h19, ha, hb, c0, c1, c2, c3]
theorem rcheck_af (e : Ex) : AF Tryd.prog 9 [exA e] (aI .i64 (if shalB 64 e = true then (if formB e = true then 0 else 2) else 20)) := by
  refine af_of Tryd.func9 rfl (by kernel_rfl) (by simp [Tryd.ntmps9]) fun _ => ?_
  simp [Tryd.f9]
  refine aCall_of (rdeep_af 64 e (by omega)) (by simp) (by simp) ?_
  simp
  refine aCond_split (fun h => ?_) (fun h => ?_)
  · simp at h
    simp [h]
  · simp at h
    simp [h]
    refine aCall_of (rformed_af e) (by simp) (by simp) ?_
    simp
    refine aCond_split (fun h2 => ?_) (fun h2 => ?_)
    · simp at h2
      simp [h2]
    · simp at h2
      simp [h2]
end Go.Proofs.YtfndoocgpmgalaaDoor

/- Contracts: law 28's expressions; the reference's size. -/
namespace Go.Proofs.YtfndoocgpmgalaaDoor
open Go.RowKit
def eAbs (x : Ex) : Ex := eTwo 4 (eTwo 8 x (eTwo 11 x (eCon 31))) (eTwo 11 x (eCon 31))
def eChoose (z x y : Ex) : Ex := eTwo 8 z (eTwo 6 (eTwo 8 x y) (eOne 17 (eTwo 14 x y)))
end Go.Proofs.YtfndoocgpmgalaaDoor
