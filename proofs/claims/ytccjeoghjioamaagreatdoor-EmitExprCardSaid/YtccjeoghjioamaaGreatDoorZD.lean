/- Texts that the claim leans on, laid one behind the other: Ca, Cb, Da, Db. -/
import Derived.Test.YtccjeoghjioamaaGreatDoorZB
import Derived.Lib.Join
import Derived.Test.YtccjeoghjioamaaGreatDoorSh
set_option linter.unusedSimpArgs false
set_option linter.unusedVariables false
set_option linter.unnecessarySimpa false
/- Contracts: slices.IndexFunc, slices.ContainsFunc, at expressions; il.CheckExpr and what it calls. -/
namespace Go.Proofs.YtccjeoghjioamaaGreatDoor
open Go.RowKit
/-- A call that leaves the blocks as they were, but for garbage. -/
def Same0 (A : AHeap) (r0 : AV) (r : AV) (A' : AHeap) : Prop := r = r0 ∧ ∃ N, A' = A ++ N
/-- The garbage is dropped. -/
theorem AC.drop {P : Program} {f : FuncId} {args : List AV} {A : AHeap} {r0 : AV} (h : AC P f args A (Same0 A r0)) : AC P f args A fun r A' => r = cln A.length r0 ∧ A' = A.map (clnB A.length) :=
  h.sub fun r A' ⟨hr, N, hA⟩ => by
    subst hr hA
    exact ⟨_, _, Sub.take A.length (Nat.le_refl _), rfl, by simp⟩
/-- slices.IndexFunc, at expressions, with a predicate that changes nothing. -/
theorem indexFunc_ac {f : Nat} {fs cs : List AV} {p : Ex → Bool} (A : AHeap) (l : List Ex) (hf : okF Tryz.prog f = true) (hp : ∀ a ∈ l, ∀ N, AC Tryz.prog f (fs ++ [exA a] ++ cs) (A ++ N) (Same0 A (aB (p a)))) :
    AC Tryz.prog 160 [.d (.sl 5 (Ex.ds l)), .fn f fs cs] A (Same0 A (aI .i64 (match l.findIdx? p with | some i => (i : Int) | none => -1))) := by
  refine ac_of Tryz.func160 rfl (by kernel_rfl) (by simp [Tryz.ntmps160]) fun hb => ?_
  have n1 : l.length ≤ maxLen := by simpa using hb.1.1
  clear hb
  obtain ⟨R, hR⟩ : ∃ R : Int, (match l.findIdx? p with | some i => (i : Int) | none => -1) = R := ⟨_, rfl⟩
  rw [hR]
  simp [Tryz.f160]
  refine aLoop_of (α := Nat) (fun i e A' => i ≤ l.length ∧ (∃ N, A' = A ++ N) ∧ e 8 = aI .i64 i ∧ e 7 = aI .i64 l.length ∧ e 0 = .d (.sl 5 (Ex.ds l)) ∧ e 1 = .fn f fs cs ∧
    ∀ (j : Nat) (a : Ex), j < i → l[j]? = some a → p a = false) (fun i => l.length - i) 0 (Sub.refl _ _ _) ⟨by omega, ⟨[], by simp⟩, by simp, by simp, by simp, by simp, by intro j a hj; omega⟩ ?_
  rintro i e A' ⟨hi, ⟨N, rfl⟩, e8, e7, e0, e1, hall⟩ K hK
  simp [e8, e7]
  refine aCond_split (fun hlt => ?_) (fun hge => ?_)
  · simp at hlt
    have hi1 := List.getElem?_eq_getElem hlt
    simp [e0, e1, e8, hi1, Ex.d_eq]
    refine aCall_ofc (hp l[i] (List.mem_of_getElem? hi1) N) hf ?_
    rintro _ _ ⟨rfl, N', rfl⟩
    simp
    refine aCond_split (fun ht => ?_) (fun hf => ?_)
    · have : l.findIdx? p = some i := by
        rw [List.findIdx?_eq_some_iff_getElem]
        exact ⟨hlt, ht, fun j hj => by simpa using hall j _ hj (List.getElem?_eq_getElem (by omega))⟩
      rw [this] at hR
      subst hR
      simp [Same0]
    · simp [e8, succ_wrap hlt n1]
      refine hK (i + 1) _ _ _ _ (Sub.refl _ _ _) ⟨by omega, ⟨N', rfl⟩, by simp, by simp [e7], by simp [e0], by simp [e1], fun j a hj ha => ?_⟩ (by omega)
      rcases Nat.lt_or_ge j i with h | h
      · exact hall j a h ha
      · obtain rfl : j = i := by omega
        rw [hi1] at ha
        obtain rfl := Option.some.inj ha
        exact hf
  · simp at hge
    have : l.findIdx? p = none := by
      rw [List.findIdx?_eq_none_iff]
      intro x hx
      obtain ⟨j, hj⟩ := List.getElem?_of_mem hx
      exact hall j x (by have := (List.getElem?_eq_some_iff.1 hj).1; omega) hj
    rw [this] at hR
    subst hR
    simp [Same0]
theorem containsFunc_ac {f : Nat} {fs cs : List AV} {p : Ex → Bool} (A : AHeap) (l : List Ex) (hf : okF Tryz.prog f = true) (hp : ∀ a ∈ l, ∀ N, AC Tryz.prog f (fs ++ [exA a] ++ cs) (A ++ N) (Same0 A (aB (p a)))) :
    AC Tryz.prog 116 [.d (.sl 5 (Ex.ds l)), .fn f fs cs] A (Same0 A (aB (l.any p))) := by
  refine ac_of Tryz.func116 rfl (by kernel_rfl) (by simp [Tryz.ntmps116]) fun hb => ?_
  simp [Tryz.f116]
  refine aCall_ofc (indexFunc_ac A l hf hp) (by simp) ?_
  rintro _ _ ⟨rfl, N, rfl⟩
  simp [Same0]
  cases h : l.findIdx? p with
  | none =>
    rw [List.findIdx?_eq_none_iff] at h
    simpa using h
  | some i =>
    rw [List.findIdx?_eq_some_iff_getElem] at h
    obtain ⟨hi, hp, _⟩ := h
    simpa using ⟨_, List.getElem_mem hi, hp⟩
/-- Has an expression at most n levels? -/
def shalB : Nat → Ex → Bool
  | 0, _ => false
  | n + 1, e => e.l.all (shalB n)
theorem shallow1_ac {n : Nat} (hn : n ≤ 1000000000) (ih : ∀ e : Ex, AF Tryz.prog 54 [exA e, aI .i64 n] (aB (shalB n e))) (b0 b1 : Blk) (h1 : b1 = ⟨0, true, 3, 1, [[aI .i64 (n + 1 : Nat)]]⟩) (x : Ex) (N : AHeap) :
    AC Tryz.prog 117 [exA x, .ptr 1 0 0 0] ([b0, b1] ++ N) (Same0 [b0, b1] (aB (!shalB n x))) := by
  subst h1
  refine ac_of Tryz.func117 rfl (by kernel_rfl) (by simp [Tryz.ntmps117]) fun hb => ?_
  simp [Tryz.f117, i64w (n := (n : Int)) (by omega)]
  refine aCall_of (ih x) (by simp) (by simp) ?_
  simp [Same0]
theorem shallow_af : ∀ (n : Nat) (e : Ex), n ≤ 1000000000 → AF Tryz.prog 54 [exA e, aI .i64 n] (aB (shalB n e)) := by
  intro n
  induction n with
  | zero =>
    intro e _
    refine af_of Tryz.func54 rfl (by kernel_rfl) (by simp [Tryz.ntmps54]) fun hb => ?_
    simp [Tryz.f54, shalB]
  | succ n ih =>
    intro e hn
    refine af_of Tryz.func54 rfl (by kernel_rfl) (by simp [Tryz.ntmps54]) fun hb => ?_
    clear hb
    simp [Tryz.f54, show (1 : Int) ≤ (n : Int) + 1 by omega]
    refine aCall_ofc (containsFunc_ac _ e.l (p := fun x => !shalB n x) (by simp) fun x _ N => shallow1_ac (by omega) (fun e => ih e (by omega)) _ _ rfl x N).drop (by simp) ?_
    rintro _ _ ⟨rfl, rfl⟩
    simp
    rw [shalB, List.not_all_eq_any_not]
end Go.Proofs.YtccjeoghjioamaaGreatDoor

/- Contracts: il.formed, il.CheckExpr; the reference's CheckExpr. -/
namespace Go.Proofs.YtccjeoghjioamaaGreatDoor
open Go.RowKit
theorem variable_af (v : Int) : AF Tryz.prog 118 [aI .i64 v] (aB (decide (0 ≤ v) && decide (v < 65536))) := by
  refine af_of Tryz.func118 rfl (by kernel_rfl) (by simp [Tryz.ntmps118]) fun _ => ?_
  simp [Tryz.f118]
  refine aG_split (fun h => ?_) (fun h => ?_)
  · simp at h
    simp [h]
  · simp at h
    simp [show ¬ (0 : Int) ≤ v by omega]
theorem access_af (v : Int) : AF Tryz.prog 119 [aI .i64 v] (aB (decide (v = 1) || decide (v = 2) || decide (v = 4))) := by
  refine af_of Tryz.func119 rfl (by kernel_rfl) (by simp [Tryz.ntmps119]) fun _ => ?_
  by_cases h1 : v = 1
  · subst h1
    simp [Tryz.f119]
  by_cases h2 : v = 2
  · subst h2
    simp [Tryz.f119]
  simp [Tryz.f119, h1, h2]
/-- Is an expression well-formed but for its operands? -/
def okE (op n v w : Int) (k : Nat) : Bool :=
  if op = 1 then v == 0 && w == 0 && k == 0
  else if op = 2 then n == 0 && w == 0 && k == 0 && (decide (0 ≤ v) && decide (v < 65536))
  else if 3 ≤ op ∧ op ≤ 15 then n == 0 && v == 0 && w == 0 && k == 2
  else if op = 16 ∨ op = 17 then n == 0 && v == 0 && w == 0 && k == 1
  else if op = 18 then n == 0 && v == 0 && (w == 1 || w == 2 || w == 4) && k == 1
  else if op = 19 then n == 0 && v == 0 && (w == 1 || w == 2) && k == 1
  else false
/-- Is an expression well-formed, apart from its levels? -/
def formB : Ex → Bool
  | .mk op n v w l => okE op n v w l.length && forms l
where forms : List Ex → Bool
  | [] => true
  | e :: l => formB e && forms l
theorem formB_eq (e : Ex) : formB e = (okE e.op e.n e.v e.wd e.l.length && e.l.all formB) := by
  have h : ∀ l, formB.forms l = l.all formB := by
    intro l
    induction l with
    | nil => rfl
    | cons a l ih => simp only [formB.forms, ih, List.all_cons]
  cases e
  simp only [formB, h]
  rfl
theorem formed1_ac {x : Ex} (ih : AF Tryz.prog 55 [exA x] (aB (formB x))) (A N : AHeap) : AC Tryz.prog 120 [exA x] (A ++ N) (Same0 A (aB (!formB x))) := by
  refine ac_of Tryz.func120 rfl (by kernel_rfl) (by simp [Tryz.ntmps120]) fun _ => ?_
  simp [Tryz.f120]
  refine aCall_of ih (by simp) (by simp) ?_
  simp [Same0]
theorem formed_af : ∀ (e : Ex), AF Tryz.prog 55 [exA e] (aB (formB e)) := by
  intro x
  induction x using Ex.ind with
  | h x ih =>
    have hany : ∀ A : AHeap, AC Tryz.prog 116 [.d (.sl 5 (Ex.ds x.l)), .fn 120 [] []] A fun r A' => r = aB (x.l.any fun y => !formB y) ∧ A' = A.map (clnB A.length) := fun A =>
      (containsFunc_ac (fs := []) (cs := []) (p := fun y => !formB y) A x.l (by simp) fun y hy N => formed1_ac (ih y hy) A N).drop
    rw [formB_eq]
    refine af_of Tryz.func55 rfl (by kernel_rfl) (by simp [Tryz.ntmps55]) fun _ => ?_
    obtain ⟨R, hR⟩ : ∃ R, (okE x.op x.n x.v x.wd x.l.length && x.l.all formB) = R := ⟨_, rfl⟩
    rw [hR]
    have hlast : (x.l.any fun y => !formB y) = !(x.l.all formB) := by rw [List.not_all_eq_any_not]
    simp [Tryz.f55]
    by_cases h1 : x.op = 1
    · simp [h1]
      refine aG_split (fun g0 => ?_) (fun g0 => by simp at g0; rw [← hR]; simp [okE, h1, g0])
      simp at g0
      simp [g0]
      refine aG_split (fun g1 => ?_) (fun g1 => by simp at g1; rw [← hR]; simp [okE, h1, g0, g1])
      simp at g1
      simp [g1]
      refine aG_split (fun g2 => ?_) (fun g2 => by simp at g2; rw [← hR]; simp [okE, h1, g0, g1, g2])
      simp at g2
      simp [g2]
      refine aCall_ofc (by have h := hany; rw [g2] at h; exact h _) (by simp) ?_
      rintro _ _ ⟨rfl, rfl⟩
      simp
      rw [← hR]
      simp [okE, h1, g0, g1, g2]
    simp [h1]
    by_cases h2 : x.op = 2
    · simp [h2]
      refine aCall_of (variable_af x.v) (by simp) (by simp) ?_
      simp
      by_cases hv : 0 ≤ x.v ∧ x.v < 65536
      · simp [hv]
        refine aG_split (fun g0 => ?_) (fun g0 => by simp at g0; rw [← hR]; simp [okE, h1, h2, hv.1, hv.2, g0])
        simp at g0
        simp [g0]
        refine aG_split (fun g1 => ?_) (fun g1 => by simp at g1; rw [← hR]; simp [okE, h1, h2, hv.1, hv.2, g0, g1])
        simp at g1
        simp [g1]
        refine aG_split (fun g2 => ?_) (fun g2 => by simp at g2; rw [← hR]; simp [okE, h1, h2, hv.1, hv.2, g0, g1, g2])
        simp at g2
        simp [g2]
        refine aCall_ofc (by have h := hany; rw [g2] at h; exact h _) (by simp) ?_
        rintro _ _ ⟨rfl, rfl⟩
        simp
        rw [← hR]
        simp [okE, h1, h2, hv.1, hv.2, g0, g1, g2]
      · have hv' : (decide (0 ≤ x.v) && decide (x.v < 65536)) = false := by simp; omega
        simp [hv']
        rw [← hR]
        simp [okE, h1, h2, hv']
    simp [h2]
    by_cases h3 : 3 ≤ x.op ∧ x.op ≤ 15
    · simp [h3.1, h3.2]
      refine aG_split (fun g0 => ?_) (fun g0 => by simp at g0; rw [← hR]; simp [okE, h1, h2, h3.1, h3.2, g0])
      simp at g0
      simp [g0]
      refine aG_split (fun g1 => ?_) (fun g1 => by simp at g1; rw [← hR]; simp [okE, h1, h2, h3.1, h3.2, g0, g1])
      simp at g1
      simp [g1]
      refine aG_split (fun g2 => ?_) (fun g2 => by simp at g2; rw [← hR]; simp [okE, h1, h2, h3.1, h3.2, g0, g1, g2])
      simp at g2
      simp [g2]
      refine aG_split (fun g3 => ?_) (fun g3 => by simp at g3; have gk : ¬ x.l.length = 2 := (by omega); rw [← hR]; simp [okE, h1, h2, h3.1, h3.2, g0, g1, g2, gk, g3])
      simp at g3
      simp [g3]
      have gk : x.l.length = 2 := by omega
      refine aCall_ofc (hany _) (by simp) ?_
      rintro _ _ ⟨rfl, rfl⟩
      simp
      rw [← hR, hlast]
      simp [okE, h1, h2, h3.1, h3.2, g0, g1, g2, gk]
    have hno : ∀ (K1 K2 : AKont) (e : AEnv) (d : Option Nat) (A : AHeap), True := fun _ _ _ _ _ => trivial
    by_cases h3a : 3 ≤ x.op
    · have h3b : ¬ x.op ≤ 15 := fun h => h3 ⟨h3a, h⟩
      simp [h3a, h3b]
      by_cases h16 : x.op = 16
      · simp [h16]
        refine aG_split (fun g0 => ?_) (fun g0 => by simp at g0; rw [← hR]; simp [okE, h1, h2, h3a, h3b, h16, g0])
        simp at g0
        simp [g0]
        refine aG_split (fun g1 => ?_) (fun g1 => by simp at g1; rw [← hR]; simp [okE, h1, h2, h3a, h3b, h16, g0, g1])
        simp at g1
        simp [g1]
        refine aG_split (fun g2 => ?_) (fun g2 => by simp at g2; rw [← hR]; simp [okE, h1, h2, h3a, h3b, h16, g0, g1, g2])
        simp at g2
        simp [g2]
        refine aG_split (fun g3 => ?_) (fun g3 => by simp at g3; have gk : ¬ x.l.length = 1 := (by omega); rw [← hR]; simp [okE, h1, h2, h3a, h3b, h16, g0, g1, g2, gk, g3])
        simp at g3
        simp [g3]
        have gk : x.l.length = 1 := by omega
        refine aCall_ofc (hany _) (by simp) ?_
        rintro _ _ ⟨rfl, rfl⟩
        simp
        rw [← hR, hlast]
        simp [okE, h1, h2, h3a, h3b, h16, g0, g1, g2, gk]
      simp [h16]
      by_cases h17 : x.op = 17
      · simp [h17]
        refine aG_split (fun g0 => ?_) (fun g0 => by simp at g0; rw [← hR]; simp [okE, h1, h2, h3a, h3b, h16, h17, g0])
        simp at g0
        simp [g0]
        refine aG_split (fun g1 => ?_) (fun g1 => by simp at g1; rw [← hR]; simp [okE, h1, h2, h3a, h3b, h16, h17, g0, g1])
        simp at g1
        simp [g1]
        refine aG_split (fun g2 => ?_) (fun g2 => by simp at g2; rw [← hR]; simp [okE, h1, h2, h3a, h3b, h16, h17, g0, g1, g2])
        simp at g2
        simp [g2]
        refine aG_split (fun g3 => ?_) (fun g3 => by simp at g3; have gk : ¬ x.l.length = 1 := (by omega); rw [← hR]; simp [okE, h1, h2, h3a, h3b, h16, h17, g0, g1, g2, gk, g3])
        simp at g3
        simp [g3]
        have gk : x.l.length = 1 := by omega
        refine aCall_ofc (hany _) (by simp) ?_
        rintro _ _ ⟨rfl, rfl⟩
        simp
        rw [← hR, hlast]
        simp [okE, h1, h2, h3a, h3b, h16, h17, g0, g1, g2, gk]
      simp [h17]
      by_cases h18 : x.op = 18
      · simp [h18]
        refine aCall_of (access_af x.wd) (by simp) (by simp) ?_
        simp
        cases hw : (decide (x.wd = 1) || decide (x.wd = 2) || decide (x.wd = 4)) with
        | false =>
          simp [hw]
          rw [← hR]
          simp at hw
          simp [okE, h18, hw]
        | true =>
          have hw' : (x.wd == 1 || x.wd == 2 || x.wd == 4) = true := by simpa using hw
          simp [hw]
          refine aG_split (fun g0 => ?_) (fun g0 => by simp at g0; rw [← hR]; simp [okE, h18, hw', g0])
          simp at g0
          simp [g0]
          refine aG_split (fun g1 => ?_) (fun g1 => by simp at g1; rw [← hR]; simp [okE, h18, hw', g0, g1])
          simp at g1
          simp [g1]
          refine aG_split (fun g2 => ?_) (fun g2 => by simp at g2; have gk : ¬ x.l.length = 1 := (by omega); rw [← hR]; simp [okE, h18, hw', g0, g1, gk, g2])
          simp at g2
          simp [g2]
          have gk : x.l.length = 1 := by omega
          refine aCall_ofc (hany _) (by simp) ?_
          rintro _ _ ⟨rfl, rfl⟩
          simp
          rw [← hR, hlast]
          simp [okE, h18, hw', g0, g1, gk]
      simp [h18]
      by_cases h19 : x.op = 19
      · simp [h19]
        cases hw : (decide (x.wd = 1) || decide (x.wd = 2)) with
        | false =>
          simp at hw
          simp [hw]
          rw [← hR]
          simp [okE, h19, hw]
        | true =>
          have hw' : (x.wd == 1 || x.wd == 2) = true := by simpa using hw
          by_cases hw1 : x.wd = 1
          · simp [hw1]
            refine aG_split (fun g0 => ?_) (fun g0 => by simp at g0; rw [← hR]; simp [okE, h19, hw1, g0])
            simp at g0
            simp [g0]
            refine aG_split (fun g1 => ?_) (fun g1 => by simp at g1; rw [← hR]; simp [okE, h19, hw1, g0, g1])
            simp at g1
            simp [g1]
            refine aG_split (fun g2 => ?_) (fun g2 => by simp at g2; have gk : ¬ x.l.length = 1 := (by omega); rw [← hR]; simp [okE, h19, hw1, g0, g1, gk, g2])
            simp at g2
            simp [g2]
            have gk : x.l.length = 1 := by omega
            refine aCall_ofc (hany _) (by simp) ?_
            rintro _ _ ⟨rfl, rfl⟩
            simp
            rw [← hR, hlast]
            simp [okE, h19, hw1, g0, g1, gk]
          have hw2 : x.wd = 2 := by simp [hw1] at hw; exact hw
          simp [hw2]
          refine aG_split (fun g0 => ?_) (fun g0 => by simp at g0; rw [← hR]; simp [okE, h19, hw2, g0])
          simp at g0
          simp [g0]
          refine aG_split (fun g1 => ?_) (fun g1 => by simp at g1; rw [← hR]; simp [okE, h19, hw2, g0, g1])
          simp at g1
          simp [g1]
          refine aG_split (fun g2 => ?_) (fun g2 => by simp at g2; have gk : ¬ x.l.length = 1 := (by omega); rw [← hR]; simp [okE, h19, hw2, g0, g1, gk, g2])
          simp at g2
          simp [g2]
          have gk : x.l.length = 1 := by omega
          refine aCall_ofc (hany _) (by simp) ?_
          rintro _ _ ⟨rfl, rfl⟩
          simp
          rw [← hR, hlast]
          simp [okE, h19, hw2, g0, g1, gk]
      simp [h19]
      rw [← hR]
      simp [okE, h1, h2, h3a, h3b, h16, h17, h18, h19]
    · simp [h3a, show ¬ x.op = 16 by omega, show ¬ x.op = 17 by omega, show ¬ x.op = 18 by omega, show ¬ x.op = 19 by omega]
      rw [← hR]
      simp [okE, h1, h2, h3a, show ¬ x.op = 16 by omega, show ¬ x.op = 17 by omega, show ¬ x.op = 18 by omega, show ¬ x.op = 19 by omega]
theorem check_af (e : Ex) : AF Tryz.prog 19 [exA e] (aI .i64 (if shalB 64 e = true then (if formB e = true then 0 else 2) else 20)) := by
  refine af_of Tryz.func19 rfl (by kernel_rfl) (by simp [Tryz.ntmps19]) fun _ => ?_
  simp [Tryz.f19]
  refine aCall_of (shallow_af 64 e (by omega)) (by simp) (by simp) ?_
  simp
  cases h1 : shalB 64 e with
  | false => simp
  | true =>
    simp
    refine aCall_of (formed_af e) (by simp) (by simp) ?_
    simp
    cases h2 : formB e with
    | false => simp
    | true => simp
end Go.Proofs.YtccjeoghjioamaaGreatDoor

/- Contracts: strings.Join, strconv.Itoa, il's texts, as far as the examples need them. -/
namespace Go.Proofs.YtccjeoghjioamaaGreatDoor
open Go.RowKit
abbrev aS (s : ByteArray) : AV := .d (.v (.string s))
/-- Strings, as a slice's elements. -/
def strs (xs : List ByteArray) : List (List D) := xs.map fun x => [.v (.string x)]
@[simp] theorem strs_nil : strs [] = [] := rfl
@[simp] theorem strs_cons (x : ByteArray) (xs : List ByteArray) : strs (x :: xs) = [.v (.string x)] :: strs xs := rfl
end Go.Proofs.YtccjeoghjioamaaGreatDoor

/- Contracts: il.Print at the example's expression; the law's example; FlagfuseConditions. -/
namespace Go.Proofs.YtccjeoghjioamaaGreatDoor
open Go.RowKit
end Go.Proofs.YtccjeoghjioamaaGreatDoor
