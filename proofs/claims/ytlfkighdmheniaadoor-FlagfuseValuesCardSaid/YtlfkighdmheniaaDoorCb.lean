/- Contracts: il.formed, il.CheckExpr; the reference's CheckExpr. -/
import Derived.Test.YtlfkighdmheniaaDoorCa
namespace Go.Proofs.YtlfkighdmheniaaDoor
open Go.RowKit
theorem variable_af (v : Int) : AF Tryd.prog 121 [aI .i64 v] (aB (decide (0 ≤ v) && decide (v < 65536))) := by
  refine af_of Tryd.func121 rfl (by kernel_rfl) (by simp [Tryd.ntmps121]) fun _ => ?_
  simp [Tryd.f121]
  refine aG_split (fun h => ?_) (fun h => ?_)
  · simp at h
    simp [h]
  · simp at h
    simp [show ¬ (0 : Int) ≤ v by omega]
theorem access_af (v : Int) : AF Tryd.prog 122 [aI .i64 v] (aB (decide (v = 1) || decide (v = 2) || decide (v = 4))) := by
  refine af_of Tryd.func122 rfl (by kernel_rfl) (by simp [Tryd.ntmps122]) fun _ => ?_
  by_cases h1 : v = 1
  · subst h1
    simp [Tryd.f122]
  by_cases h2 : v = 2
  · subst h2
    simp [Tryd.f122]
  simp [Tryd.f122, h1, h2]
/-- Is an expression well-formed but for its operands? -/
def okE (op n v w : Int) (k : Nat) : Bool :=
  if op = 1 then v == 0 && w == 0 && k == 0
  else if op = 2 then n == 0 && w == 0 && k == 0 && (decide (0 ≤ v) && decide (v < 65536))
  else if 3 ≤ op ∧ op ≤ 15 then n == 0 && v == 0 && w == 0 && k == 2
  else if op = 16 ∨ op = 17 then n == 0 && v == 0 && w == 0 && k == 1
  else if op = 18 then n == 0 && v == 0 && (w == 1 || w == 2 || w == 4) && k == 1
  else if op = 19 then n == 0 && v == 0 && (w == 1 || w == 2) && k == 1
  else false
/-- Is an expression well-formed, apart from its levels? -/
def formB : Ex → Bool
  | .mk op n v w l => okE op n v w l.length && forms l
where forms : List Ex → Bool
  | [] => true
  | e :: l => formB e && forms l
theorem formB_eq (e : Ex) : formB e = (okE e.op e.n e.v e.wd e.l.length && e.l.all formB) := by
  have h : ∀ l, formB.forms l = l.all formB := by
    intro l
    induction l with
    | nil => rfl
    | cons a l ih => simp only [formB.forms, ih, List.all_cons]
  cases e
  simp only [formB, h]
  rfl
theorem formed1_ac {x : Ex} (ih : AF Tryd.prog 79 [exA x] (aB (formB x))) (A N : AHeap) : AC Tryd.prog 123 [exA x] (A ++ N) (Same0 A (aB (!formB x))) := by
  refine ac_of Tryd.func123 rfl (by kernel_rfl) (by simp [Tryd.ntmps123]) fun _ => ?_
  simp [Tryd.f123]
  refine aCall_of ih (by simp) (by simp) ?_
  simp [Same0]
theorem formed_af : ∀ (e : Ex), AF Tryd.prog 79 [exA e] (aB (formB e)) := by
  intro x
  induction x using Ex.ind with
  | h x ih =>
    have hany : ∀ A : AHeap, AC Tryd.prog 119 [.d (.sl 5 (Ex.ds x.l)), .fn 123 [] []] A fun r A' => r = aB (x.l.any fun y => !formB y) ∧ A' = A.map (clnB A.length) := fun A =>
      (containsFunc_ac (fs := []) (cs := []) (p := fun y => !formB y) A x.l (by simp) fun y hy N => formed1_ac (ih y hy) A N).drop
    rw [formB_eq]
    refine af_of Tryd.func79 rfl (by kernel_rfl) (by simp [Tryd.ntmps79]) fun _ => ?_
    obtain ⟨R, hR⟩ : ∃ R, (okE x.op x.n x.v x.wd x.l.length && x.l.all formB) = R := ⟨_, rfl⟩
    rw [hR]
    have hlast : (x.l.any fun y => !formB y) = !(x.l.all formB) := by rw [List.not_all_eq_any_not]
    simp [Tryd.f79]
    by_cases h1 : x.op = 1
    · simp [h1]
      refine aG_split (fun g0 => ?_) (fun g0 => by simp at g0; rw [← hR]; simp [okE, h1, g0])
      simp at g0
      simp [g0]
      refine aG_split (fun g1 => ?_) (fun g1 => by simp at g1; rw [← hR]; simp [okE, h1, g0, g1])
      simp at g1
      simp [g1]
      refine aG_split (fun g2 => ?_) (fun g2 => by simp at g2; rw [← hR]; simp [okE, h1, g0, g1, g2])
      simp at g2
      simp [g2]
      refine aCall_ofc (by have h := hany; rw [g2] at h; exact h _) (by simp) ?_
      rintro _ _ ⟨rfl, rfl⟩
      simp
      rw [← hR]
      simp [okE, h1, g0, g1, g2]
    simp [h1]
    by_cases h2 : x.op = 2
    · simp [h2]
      refine aCall_of (variable_af x.v) (by simp) (by simp) ?_
      simp
      by_cases hv : 0 ≤ x.v ∧ x.v < 65536
      · simp [hv]
        refine aG_split (fun g0 => ?_) (fun g0 => by simp at g0; rw [← hR]; simp [okE, h1, h2, hv.1, hv.2, g0])
        simp at g0
        simp [g0]
        refine aG_split (fun g1 => ?_) (fun g1 => by simp at g1; rw [← hR]; simp [okE, h1, h2, hv.1, hv.2, g0, g1])
        simp at g1
        simp [g1]
        refine aG_split (fun g2 => ?_) (fun g2 => by simp at g2; rw [← hR]; simp [okE, h1, h2, hv.1, hv.2, g0, g1, g2])
        simp at g2
        simp [g2]
        refine aCall_ofc (by have h := hany; rw [g2] at h; exact h _) (by simp) ?_
        rintro _ _ ⟨rfl, rfl⟩
        simp
        rw [← hR]
        simp [okE, h1, h2, hv.1, hv.2, g0, g1, g2]
      · have hv' : (decide (0 ≤ x.v) && decide (x.v < 65536)) = false := by simp; omega
        simp [hv']
        rw [← hR]
        simp [okE, h1, h2, hv']
    simp [h2]
    by_cases h3 : 3 ≤ x.op ∧ x.op ≤ 15
    · simp [h3.1, h3.2]
      refine aG_split (fun g0 => ?_) (fun g0 => by simp at g0; rw [← hR]; simp [okE, h1, h2, h3.1, h3.2, g0])
      simp at g0
      simp [g0]
      refine aG_split (fun g1 => ?_) (fun g1 => by simp at g1; rw [← hR]; simp [okE, h1, h2, h3.1, h3.2, g0, g1])
      simp at g1
      simp [g1]
      refine aG_split (fun g2 => ?_) (fun g2 => by simp at g2; rw [← hR]; simp [okE, h1, h2, h3.1, h3.2, g0, g1, g2])
      simp at g2
      simp [g2]
      refine aG_split (fun g3 => ?_) (fun g3 => by simp at g3; have gk : ¬ x.l.length = 2 := (by omega); rw [← hR]; simp [okE, h1, h2, h3.1, h3.2, g0, g1, g2, gk, g3])
      simp at g3
      simp [g3]
      have gk : x.l.length = 2 := by omega
      refine aCall_ofc (hany _) (by simp) ?_
      rintro _ _ ⟨rfl, rfl⟩
      simp
      rw [← hR, hlast]
      simp [okE, h1, h2, h3.1, h3.2, g0, g1, g2, gk]
    have hno : ∀ (K1 K2 : AKont) (e : AEnv) (d : Option Nat) (A : AHeap), True := fun _ _ _ _ _ => trivial
    by_cases h3a : 3 ≤ x.op
    · have h3b : ¬ x.op ≤ 15 := fun h => h3 ⟨h3a, h⟩
      simp [h3a, h3b]
      by_cases h16 : x.op = 16
      · simp [h16]
        refine aG_split (fun g0 => ?_) (fun g0 => by simp at g0; rw [← hR]; simp [okE, h1, h2, h3a, h3b, h16, g0])
        simp at g0
        simp [g0]
        refine aG_split (fun g1 => ?_) (fun g1 => by simp at g1; rw [← hR]; simp [okE, h1, h2, h3a, h3b, h16, g0, g1])
        simp at g1
        simp [g1]
        refine aG_split (fun g2 => ?_) (fun g2 => by simp at g2; rw [← hR]; simp [okE, h1, h2, h3a, h3b, h16, g0, g1, g2])
        simp at g2
        simp [g2]
        refine aG_split (fun g3 => ?_) (fun g3 => by simp at g3; have gk : ¬ x.l.length = 1 := (by omega); rw [← hR]; simp [okE, h1, h2, h3a, h3b, h16, g0, g1, g2, gk, g3])
        simp at g3
        simp [g3]
        have gk : x.l.length = 1 := by omega
        refine aCall_ofc (hany _) (by simp) ?_
        rintro _ _ ⟨rfl, rfl⟩
        simp
        rw [← hR, hlast]
        simp [okE, h1, h2, h3a, h3b, h16, g0, g1, g2, gk]
      simp [h16]
      by_cases h17 : x.op = 17
      · simp [h17]
        refine aG_split (fun g0 => ?_) (fun g0 => by simp at g0; rw [← hR]; simp [okE, h1, h2, h3a, h3b, h16, h17, g0])
        simp at g0
        simp [g0]
        refine aG_split (fun g1 => ?_) (fun g1 => by simp at g1; rw [← hR]; simp [okE, h1, h2, h3a, h3b, h16, h17, g0, g1])
        simp at g1
        simp [g1]
        refine aG_split (fun g2 => ?_) (fun g2 => by simp at g2; rw [← hR]; simp [okE, h1, h2, h3a, h3b, h16, h17, g0, g1, g2])
        simp at g2
        simp [g2]
        refine aG_split (fun g3 => ?_) (fun g3 => by simp at g3; have gk : ¬ x.l.length = 1 := (by omega); rw [← hR]; simp [okE, h1, h2, h3a, h3b, h16, h17, g0, g1, g2, gk, g3])
        simp at g3
        simp [g3]
        have gk : x.l.length = 1 := by omega
        refine aCall_ofc (hany _) (by simp) ?_
        rintro _ _ ⟨rfl, rfl⟩
        simp
        rw [← hR, hlast]
        simp [okE, h1, h2, h3a, h3b, h16, h17, g0, g1, g2, gk]
      simp [h17]
      by_cases h18 : x.op = 18
      · simp [h18]
        refine aCall_of (access_af x.wd) (by simp) (by simp) ?_
        simp
        cases hw : (decide (x.wd = 1) || decide (x.wd = 2) || decide (x.wd = 4)) with
        | false =>
          simp [hw]
          rw [← hR]
          simp at hw
          simp [okE, h18, hw]
        | true =>
          have hw' : (x.wd == 1 || x.wd == 2 || x.wd == 4) = true := by simpa using hw
          simp [hw]
          refine aG_split (fun g0 => ?_) (fun g0 => by simp at g0; rw [← hR]; simp [okE, h18, hw', g0])
          simp at g0
          simp [g0]
          refine aG_split (fun g1 => ?_) (fun g1 => by simp at g1; rw [← hR]; simp [okE, h18, hw', g0, g1])
          simp at g1
          simp [g1]
          refine aG_split (fun g2 => ?_) (fun g2 => by simp at g2; have gk : ¬ x.l.length = 1 := (by omega); rw [← hR]; simp [okE, h18, hw', g0, g1, gk, g2])
          simp at g2
          simp [g2]
          have gk : x.l.length = 1 := by omega
          refine aCall_ofc (hany _) (by simp) ?_
          rintro _ _ ⟨rfl, rfl⟩
          simp
          rw [← hR, hlast]
          simp [okE, h18, hw', g0, g1, gk]
      simp [h18]
      by_cases h19 : x.op = 19
      · simp [h19]
        cases hw : (decide (x.wd = 1) || decide (x.wd = 2)) with
        | false =>
          simp at hw
          simp [hw]
          rw [← hR]
          simp [okE, h19, hw]
        | true =>
          have hw' : (x.wd == 1 || x.wd == 2) = true := by simpa using hw
          by_cases hw1 : x.wd = 1
          · simp [hw1]
            refine aG_split (fun g0 => ?_) (fun g0 => by simp at g0; rw [← hR]; simp [okE, h19, hw1, g0])
            simp at g0
            simp [g0]
            refine aG_split (fun g1 => ?_) (fun g1 => by simp at g1; rw [← hR]; simp [okE, h19, hw1, g0, g1])
            simp at g1
            simp [g1]
            refine aG_split (fun g2 => ?_) (fun g2 => by simp at g2; have gk : ¬ x.l.length = 1 := (by omega); rw [← hR]; simp [okE, h19, hw1, g0, g1, gk, g2])
            simp at g2
            simp [g2]
            have gk : x.l.length = 1 := by omega
            refine aCall_ofc (hany _) (by simp) ?_
            rintro _ _ ⟨rfl, rfl⟩
            simp
            rw [← hR, hlast]
            simp [okE, h19, hw1, g0, g1, gk]
          have hw2 : x.wd = 2 := by simp [hw1] at hw; exact hw
          simp [hw2]
          refine aG_split (fun g0 => ?_) (fun g0 => by simp at g0; rw [← hR]; simp [okE, h19, hw2, g0])
          simp at g0
          simp [g0]
          refine aG_split (fun g1 => ?_) (fun g1 => by simp at g1; rw [← hR]; simp [okE, h19, hw2, g0, g1])
          simp at g1
          simp [g1]
          refine aG_split (fun g2 => ?_) (fun g2 => by simp at g2; have gk : ¬ x.l.length = 1 := (by omega); rw [← hR]; simp [okE, h19, hw2, g0, g1, gk, g2])
          simp at g2
          simp [g2]
          have gk : x.l.length = 1 := by omega
          refine aCall_ofc (hany _) (by simp) ?_
          rintro _ _ ⟨rfl, rfl⟩
          simp
          rw [← hR, hlast]
          simp [okE, h19, hw2, g0, g1, gk]
      simp [h19]
      rw [← hR]
      simp [okE, h1, h2, h3a, h3b, h16, h17, h18, h19]
    · simp [h3a, show ¬ x.op = 16 by omega, show ¬ x.op = 17 by omega, show ¬ x.op = 18 by omega, show ¬ x.op = 19 by omega]
      rw [← hR]
      simp [okE, h1, h2, h3a, show ¬ x.op = 16 by omega, show ¬ x.op = 17 by omega, show ¬ x.op = 18 by omega, show ¬ x.op = 19 by omega]
theorem check_af (e : Ex) : AF Tryd.prog 57 [exA e] (aI .i64 (if shalB 64 e = true then (if formB e = true then 0 else 2) else 20)) := by
  refine af_of Tryd.func57 rfl (by kernel_rfl) (by simp [Tryd.ntmps57]) fun _ => ?_
  simp [Tryd.f57]
  refine aCall_of (shallow_af 64 e (by omega)) (by simp) (by simp) ?_
  simp
  cases h1 : shalB 64 e with
  | false => simp
  | true =>
    simp
    refine aCall_of (formed_af e) (by simp) (by simp) ?_
    simp
    cases h2 : formB e with
    | false => simp
    | true => simp
end Go.Proofs.YtlfkighdmheniaaDoor
