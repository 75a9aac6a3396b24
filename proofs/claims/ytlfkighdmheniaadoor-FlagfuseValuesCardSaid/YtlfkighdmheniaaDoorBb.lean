/- Contracts: il.Same. -/
import Derived.Test.YtlfkighdmheniaaDoorBa
import Derived.Test.YtlfkighdmheniaaDoorFacts
namespace Go.Proofs.YtlfkighdmheniaaDoor
open Go.RowKit
/-- Two lists of one length whose members agree. -/
def all2 (r : Ex → Ex → Bool) : List Ex → List Ex → Bool
  | [], [] => true
  | a :: l, b :: l' => r a b && all2 r l l'
  | _, _ => false
theorem all2_len {r : Ex → Ex → Bool} : ∀ {l l' : List Ex}, l.length ≠ l'.length → all2 r l l' = false
  | [], [], h => absurd rfl h
  | [], _ :: _, _ => rfl
  | _ :: _, [], _ => rfl
  | a :: l, b :: l', h => by
    simp only [all2]
    rw [all2_len (by simpa using h)]
    simp
theorem all2_get {r : Ex → Ex → Bool} : ∀ {l l' : List Ex}, l.length = l'.length → (all2 r l l' = true ↔ ∀ (i : Nat) (a b : Ex), l[i]? = some a → l'[i]? = some b → r a b = true)
  | [], [], _ => by simp [all2]
  | a :: l, b :: l', h => by
    simp only [all2, Bool.and_eq_true, all2_get (show l.length = l'.length by simpa using h)]
    constructor
    · rintro ⟨h1, h2⟩ i x y hx hy
      cases i with
      | zero => simp at hx hy; subst hx hy; exact h1
      | succ i => exact h2 i x y (by simpa using hx) (by simpa using hy)
    · intro h
      exact ⟨h 0 a b rfl rfl, fun i x y hx hy => h (i + 1) x y (by simpa using hx) (by simpa using hy)⟩
  | [], _ :: _, h => by simp at h
  | _ :: _, [], h => by simp at h
theorem equalFunc {f : Nat} {r : Ex → Ex → Bool} (l1 l2 : List Ex) (hf : okF Tryd.prog f = true) (hr : ∀ a ∈ l1, ∀ b ∈ l2, AF Tryd.prog f [exA a, exA b] (aB (r a b))) :
    AF Tryd.prog 72 [.d (.sl 5 (Ex.ds l1)), .d (.sl 5 (Ex.ds l2)), .fn f [] []] (aB (all2 r l1 l2)) := by
  refine af_of Tryd.func72 rfl (by kernel_rfl) (by simp [Tryd.ntmps72]) fun hb => ?_
  have n1 : l1.length ≤ maxLen := by simpa using hb.1.1
  clear hb
  simp [Tryd.f72]
  refine aCond_split (fun hne => ?_) (fun hlen => ?_)
  · simp
    rw [all2_len (by simp at hne; omega)]
  have hlen : l1.length = l2.length := by simp at hlen; omega
  simp
  refine aLoop_of (α := Nat) (fun i e A => i ≤ l1.length ∧ A = [] ∧ e 17 = aI .i64 i ∧ e 15 = .d (.sl 5 (Ex.ds l1)) ∧ e 16 = aI .i64 l1.length ∧ e 1 = .d (.sl 5 (Ex.ds l2)) ∧ e 2 = .fn f [] [] ∧
    ∀ (j : Nat) (a b : Ex), j < i → l1[j]? = some a → l2[j]? = some b → r a b = true) (fun i => l1.length - i) 0 (Sub.refl _ _ _) ⟨by omega, rfl, by simp, by simp, by simp, by simp, by simp, by intro j a b hj; omega⟩ ?_
  rintro i e A ⟨hi, rfl, e17, e15, e16, e1, e2, hall⟩ K hK
  simp [e17, e16]
  refine aCond_split (fun hlt => ?_) (fun hge => ?_)
  · simp at hlt
    have hi1 := List.getElem?_eq_getElem hlt
    have hi2 := List.getElem?_eq_getElem (show i < l2.length by omega)
    simp [e17, e15, e16, e1, e2, hi1, hi2, Ex.d_eq]
    refine aCall_of (hr _ (List.mem_of_getElem? hi1) _ (List.mem_of_getElem? hi2)) hf (by simp) ?_
    simp
    refine aCond_split (fun hf => ?_) (fun ht => ?_)
    · simp at hf
      simp
      cases h : all2 r l1 l2 with
      | false => rfl
      | true => rw [(all2_get hlen).1 h i _ _ hi1 hi2] at hf; cases hf
    · simp at ht
      simp [e17, succ_wrap hlt n1]
      refine hK (i + 1) _ _ _ _ (Sub.take 0 (Nat.le_refl _)) ⟨by omega, by simp, by simp, by simp [e15], by simp [e16], by simp [e1], by simp [e2], ?_⟩ (by omega)
      intro j a b hj ha hb
      rcases Nat.lt_or_ge j i with h | h
      · exact hall j a b h ha hb
      · obtain rfl : j = i := by omega
        rw [hi1] at ha
        rw [hi2] at hb
        simp only [Option.some.injEq] at ha hb
        subst ha hb
        exact ht
  · simp at hge
    simp
    refine (all2_get hlen).2 fun j a b ha hb => hall j a b ?_ ha hb
    have := (List.getElem?_eq_some_iff.1 ha).1
    omega
/-- Equality of expressions. -/
def sameB : Ex → Ex → Bool
  | .mk o n v w l, .mk o' n' v' w' l' => o == o' && n == n' && v == v' && w == w' && sames l l'
where sames : List Ex → List Ex → Bool
  | [], [] => true
  | a :: l, b :: l' => sameB a b && sames l l'
  | _, _ => false
theorem sameB_eq (a b : Ex) : sameB a b = (a.op == b.op && a.n == b.n && a.v == b.v && a.wd == b.wd && all2 sameB a.l b.l) := by
  have h : ∀ l l', sameB.sames l l' = all2 sameB l l' := by
    intro l
    induction l with
    | nil => intro l'; cases l' <;> rfl
    | cons a l ih => intro l'; cases l' with
      | nil => rfl
      | cons b l' => simp only [sameB.sames, all2, ih]
  cases a; cases b
  simp only [sameB, h]
  rfl
theorem same_af : ∀ (a b : Ex), AF Tryd.prog 37 [exA a, exA b] (aB (sameB a b)) := by
  intro a
  induction a using Ex.ind with
  | h a ih =>
    intro b
    rw [sameB_eq]
    refine af_of Tryd.func37 rfl (by kernel_rfl) (by simp [Tryd.ntmps37]) fun _ => ?_
    simp [Tryd.f37]
    refine aG_split (fun g1 => ?_) (fun g1 => by simp at g1; simp [g1])
    simp at g1
    simp [g1]
    refine aG_split (fun g2 => ?_) (fun g2 => by simp at g2; simp [g1, g2])
    simp at g2
    simp [g1, g2]
    refine aG_split (fun g3 => ?_) (fun g3 => by simp at g3; simp [g1, g2, g3])
    simp at g3
    simp [g1, g2, g3]
    refine aG_split (fun g4 => ?_) (fun g4 => by simp at g4; simp [g1, g2, g3, g4])
    simp at g4
    simp [g1, g2, g3, g4]
    refine aCall_of (equalFunc a.l b.l (r := sameB) (by simp) fun x hx y _ => ih x hx y) (by simp) (by simp) ?_
    simp
theorem refsame_af : ∀ (a b : Ex), AF Tryd.prog 14 [exA a, exA b] (aB (sameB a b)) := by
  intro a
  induction a using Ex.ind with
  | h a ih =>
    intro b
    rw [sameB_eq]
    refine af_of Tryd.func14 rfl (by kernel_rfl) (by simp [Tryd.ntmps14]) fun hb => ?_
    have n1 : a.l.length ≤ maxLen := by simpa using hb.1.2.2.2.2.1.1
    clear hb
    simp [Tryd.f14]
    refine aG_split (fun g1 => ?_) (fun g1 => by simp at g1; simp [g1])
    simp at g1
    simp [g1]
    refine aG_split (fun g2 => ?_) (fun g2 => by simp at g2; simp [g1, g2])
    simp at g2
    simp [g2]
    refine aG_split (fun g3 => ?_) (fun g3 => by simp at g3; simp [g1, g2, g3])
    simp at g3
    simp [g3]
    refine aG_split (fun g4 => ?_) (fun g4 => by simp at g4; simp [g1, g2, g3, g4])
    simp at g4
    simp [g4]
    refine aCond_split (fun g5 => ?_) (fun g5 => ?_)
    · simp at g5
      simp
      rw [all2_len (by omega)]
    have hlen : a.l.length = b.l.length := by simp at g5; omega
    simp
    refine aLoop_of (α := Nat) (fun i e A => i ≤ a.l.length ∧ A = [⟨0, true, 25, 5, [[aI .i64 a.op, aI .u32 a.n, aI .i64 a.v, aI .i64 a.wd, .d (.sl 5 (Ex.ds a.l))]]⟩, ⟨0, true, 25, 5, [[aI .i64 b.op, aI .u32 b.n, aI .i64 b.v, aI .i64 b.wd, .d (.sl 5 (Ex.ds b.l))]]⟩] ∧
      e 5 = aI .i64 i ∧ e 2 = .ptr 0 0 0 0 ∧ e 3 = .ptr 1 0 0 0 ∧
      ∀ (j : Nat) (x y : Ex), j < i → a.l[j]? = some x → b.l[j]? = some y → sameB x y = true) (fun i => a.l.length - i) 0 (Sub.refl _ _ _) ⟨by omega, by simp [g1, g2, g3, g4], by simp, by simp, by simp, by intro j a b hj; omega⟩ ?_
    rintro i e A ⟨hi, rfl, e5, e2, e3, hall⟩ K hK
    simp [e5, e2]
    refine aCond_split (fun hlt => ?_) (fun hge => ?_)
    · simp at hlt
      have hi1 := List.getElem?_eq_getElem hlt
      have hi2 := List.getElem?_eq_getElem (show i < b.l.length by omega)
      simp
      refine adraw [] (by kernel_rfl) (by kernel_rfl) (by kernel_rfl) (by kernel_rfl) ?_
      simp [e5, e2, e3, hi1, hi2, Ex.d_eq]
      refine adC_of (ih _ (List.mem_of_getElem? hi1) b.l[i]) (by simp) trivial (by simp) (by simp) ?_
      simp
      refine aCond_split (fun hf => ?_) (fun ht => ?_)
      · simp at hf
        simp
        cases h : all2 sameB a.l b.l with
        | false => rfl
        | true => rw [(all2_get hlen).1 h i _ _ hi1 hi2] at hf; cases hf
      · simp at ht
        simp [e5, succ_wrap hlt n1]
        refine hK (i + 1) _ _ _ _ (Sub.refl _ _ _) ⟨by omega, rfl, by simp, by simp [e2], by simp [e3], ?_⟩ (by omega)
        intro j x y hj hx hy
        rcases Nat.lt_or_ge j i with h | h
        · exact hall j x y h hx hy
        · obtain rfl : j = i := by omega
          rw [hi1] at hx
          rw [hi2] at hy
          simp only [Option.some.injEq] at hx hy
          subst hx hy
          exact ht
    · simp at hge
      simp
      refine (all2_get hlen).2 fun j x y ha hb => hall j x y ?_ ha hb
      have := (List.getElem?_eq_some_iff.1 ha).1
      omega
end Go.Proofs.YtlfkighdmheniaaDoor
