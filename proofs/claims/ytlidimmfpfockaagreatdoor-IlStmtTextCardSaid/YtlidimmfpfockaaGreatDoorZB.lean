/- Texts that the claim leans on, laid one behind the other: Bb, Ca, Cb, Bc, Bd, Da, Be, Bf, Bg, Db, Dc, Ea, Eb, Ec. -/
import Derived.Test.YtlidimmfpfockaaGreatDoorBa
import Derived.Test.YtlidimmfpfockaaGreatDoorFacts
import Derived.Lib.Join
import Derived.Test.YtlidimmfpfockaaGreatDoorSh
set_option linter.unusedSimpArgs false
set_option linter.unusedVariables false
set_option linter.unnecessarySimpa false
/- Contracts: il.Same. -/
namespace Go.Proofs.YtlidimmfpfockaaGreatDoor
open Go.RowKit
/-- Two lists of one length whose members agree. -/
def all2 (r : Ex → Ex → Bool) : List Ex → List Ex → Bool
  | [], [] => true
  | a :: l, b :: l' => r a b && all2 r l l'
  | _, _ => false
theorem all2_len {r : Ex → Ex → Bool} : ∀ {l l' : List Ex}, l.length ≠ l'.length → all2 r l l' = false
  | [], [], h => absurd rfl h
  | [], _ :: _, _ => rfl
  | _ :: _, [], _ => rfl
  | a :: l, b :: l', h => by
    simp only [all2]
    rw [all2_len (by simpa using h)]
    simp
theorem all2_get {r : Ex → Ex → Bool} : ∀ {l l' : List Ex}, l.length = l'.length → (all2 r l l' = true ↔ ∀ (i : Nat) (a b : Ex), l[i]? = some a → l'[i]? = some b → r a b = true)
  | [], [], _ => by simp [all2]
  | a :: l, b :: l', h => by
    simp only [all2, Bool.and_eq_true, all2_get (show l.length = l'.length by simpa using h)]
    constructor
    · rintro ⟨h1, h2⟩ i x y hx hy
      cases i with
      | zero => simp at hx hy; subst hx hy; exact h1
      | succ i => exact h2 i x y (by simpa using hx) (by simpa using hy)
    · intro h
      exact ⟨h 0 a b rfl rfl, fun i x y hx hy => h (i + 1) x y (by simpa using hx) (by simpa using hy)⟩
  | [], _ :: _, h => by simp at h
  | _ :: _, [], h => by simp at h
theorem equalFunc {f : Nat} {r : Ex → Ex → Bool} (l1 l2 : List Ex) (hf : okF Tryz.prog f = true) (hr : ∀ a ∈ l1, ∀ b ∈ l2, AF Tryz.prog f [exA a, exA b] (aB (r a b))) :
    AF Tryz.prog 72 [.d (.sl 5 (Ex.ds l1)), .d (.sl 5 (Ex.ds l2)), .fn f [] []] (aB (all2 r l1 l2)) := by
  refine af_of Tryz.func72 rfl (by kernel_rfl) (by simp [Tryz.ntmps72]) fun hb => ?_
  have n1 : l1.length ≤ maxLen := by simpa using hb.1.1
  clear hb
  simp [Tryz.f72]
  refine aCond_split (fun hne => ?_) (fun hlen => ?_)
  · simp
    rw [all2_len (by simp at hne; omega)]
  have hlen : l1.length = l2.length := by simp at hlen; omega
  simp
  refine aLoop_of (α := Nat) (fun i e A => i ≤ l1.length ∧ A = [] ∧ e 17 = aI .i64 i ∧ e 15 = .d (.sl 5 (Ex.ds l1)) ∧ e 16 = aI .i64 l1.length ∧ e 1 = .d (.sl 5 (Ex.ds l2)) ∧ e 2 = .fn f [] [] ∧
    ∀ (j : Nat) (a b : Ex), j < i → l1[j]? = some a → l2[j]? = some b → r a b = true) (fun i => l1.length - i) 0 (Sub.refl _ _ _) ⟨by omega, rfl, by simp, by simp, by simp, by simp, by simp, by intro j a b hj; omega⟩ ?_
  rintro i e A ⟨hi, rfl, e17, e15, e16, e1, e2, hall⟩ K hK
  simp [e17, e16]
  refine aCond_split (fun hlt => ?_) (fun hge => ?_)
  · simp at hlt
    have hi1 := List.getElem?_eq_getElem hlt
    have hi2 := List.getElem?_eq_getElem (show i < l2.length by omega)
    simp [e17, e15, e16, e1, e2, hi1, hi2, Ex.d_eq]
    refine aCall_of (hr _ (List.mem_of_getElem? hi1) _ (List.mem_of_getElem? hi2)) hf (by simp) ?_
    simp
    refine aCond_split (fun hf => ?_) (fun ht => ?_)
    · simp at hf
      simp
      cases h : all2 r l1 l2 with
      | false => rfl
      | true => rw [(all2_get hlen).1 h i _ _ hi1 hi2] at hf; cases hf
    · simp at ht
      simp [e17, succ_wrap hlt n1]
      refine hK (i + 1) _ _ _ _ (Sub.take 0 (Nat.le_refl _)) ⟨by omega, by simp, by simp, by simp [e15], by simp [e16], by simp [e1], by simp [e2], ?_⟩ (by omega)
      intro j a b hj ha hb
      rcases Nat.lt_or_ge j i with h | h
      · exact hall j a b h ha hb
      · obtain rfl : j = i := by omega
        rw [hi1] at ha
        rw [hi2] at hb
        simp only [Option.some.injEq] at ha hb
        subst ha hb
        exact ht
  · simp at hge
    simp
    refine (all2_get hlen).2 fun j a b ha hb => hall j a b ?_ ha hb
    have := (List.getElem?_eq_some_iff.1 ha).1
    omega
/-- Equality of expressions. -/
def sameB : Ex → Ex → Bool
  | .mk o n v w l, .mk o' n' v' w' l' => o == o' && n == n' && v == v' && w == w' && sames l l'
where sames : List Ex → List Ex → Bool
  | [], [] => true
  | a :: l, b :: l' => sameB a b && sames l l'
  | _, _ => false
theorem sameB_eq (a b : Ex) : sameB a b = (a.op == b.op && a.n == b.n && a.v == b.v && a.wd == b.wd && all2 sameB a.l b.l) := by
  have h : ∀ l l', sameB.sames l l' = all2 sameB l l' := by
    intro l
    induction l with
    | nil => intro l'; cases l' <;> rfl
    | cons a l ih => intro l'; cases l' with
      | nil => rfl
      | cons b l' => simp only [sameB.sames, all2, ih]
  cases a; cases b
  simp only [sameB, h]
  rfl
theorem same_af : ∀ (a b : Ex), AF Tryz.prog 18 [exA a, exA b] (aB (sameB a b)) := by
  intro a
  induction a using Ex.ind with
  | h a ih =>
    intro b
    rw [sameB_eq]
    refine af_of Tryz.func18 rfl (by kernel_rfl) (by simp [Tryz.ntmps18]) fun _ => ?_
    simp [Tryz.f18]
    refine aG_split (fun g1 => ?_) (fun g1 => by simp at g1; simp [g1])
    simp at g1
    simp [g1]
    refine aG_split (fun g2 => ?_) (fun g2 => by simp at g2; simp [g1, g2])
    simp at g2
    simp [g1, g2]
    refine aG_split (fun g3 => ?_) (fun g3 => by simp at g3; simp [g1, g2, g3])
    simp at g3
    simp [g1, g2, g3]
    refine aG_split (fun g4 => ?_) (fun g4 => by simp at g4; simp [g1, g2, g3, g4])
    simp at g4
    simp [g1, g2, g3, g4]
    refine aCall_of (equalFunc a.l b.l (r := sameB) (by simp) fun x hx y _ => ih x hx y) (by simp) (by simp) ?_
    simp
theorem refsame_af : ∀ (a b : Ex), AF Tryz.prog 22 [exA a, exA b] (aB (sameB a b)) := by
  intro a
  induction a using Ex.ind with
  | h a ih =>
    intro b
    rw [sameB_eq]
    refine af_of Tryz.func22 rfl (by kernel_rfl) (by simp [Tryz.ntmps22]) fun hb => ?_
    have n1 : a.l.length ≤ maxLen := by simpa using hb.1.2.2.2.2.1.1
    clear hb
    simp [Tryz.f22]
    refine aG_split (fun g1 => ?_) (fun g1 => by simp at g1; simp [g1])
    simp at g1
    simp [g1]
    refine aG_split (fun g2 => ?_) (fun g2 => by simp at g2; simp [g1, g2])
    simp at g2
    simp [g2]
    refine aG_split (fun g3 => ?_) (fun g3 => by simp at g3; simp [g1, g2, g3])
    simp at g3
    simp [g3]
    refine aG_split (fun g4 => ?_) (fun g4 => by simp at g4; simp [g1, g2, g3, g4])
    simp at g4
    simp [g4]
    refine aCond_split (fun g5 => ?_) (fun g5 => ?_)
    · simp at g5
      simp
      rw [all2_len (by omega)]
    have hlen : a.l.length = b.l.length := by simp at g5; omega
    simp
    refine aLoop_of (α := Nat) (fun i e A => i ≤ a.l.length ∧ A = [⟨0, true, 38, 5, [[aI .i64 a.op, aI .u32 a.n, aI .i64 a.v, aI .i64 a.wd, .d (.sl 5 (Ex.ds a.l))]]⟩, ⟨0, true, 38, 5, [[aI .i64 b.op, aI .u32 b.n, aI .i64 b.v, aI .i64 b.wd, .d (.sl 5 (Ex.ds b.l))]]⟩] ∧
      e 5 = aI .i64 i ∧ e 2 = .ptr 0 0 0 0 ∧ e 3 = .ptr 1 0 0 0 ∧
      ∀ (j : Nat) (x y : Ex), j < i → a.l[j]? = some x → b.l[j]? = some y → sameB x y = true) (fun i => a.l.length - i) 0 (Sub.refl _ _ _) ⟨by omega, by simp [g1, g2, g3, g4], by simp, by simp, by simp, by intro j a b hj; omega⟩ ?_
    rintro i e A ⟨hi, rfl, e5, e2, e3, hall⟩ K hK
    simp [e5, e2]
    refine aCond_split (fun hlt => ?_) (fun hge => ?_)
    · simp at hlt
      have hi1 := List.getElem?_eq_getElem hlt
      have hi2 := List.getElem?_eq_getElem (show i < b.l.length by omega)
      simp
      refine adraw [] (by kernel_rfl) (by kernel_rfl) (by kernel_rfl) (by kernel_rfl) ?_
      simp [e5, e2, e3, hi1, hi2, Ex.d_eq]
      refine adC_of (ih _ (List.mem_of_getElem? hi1) b.l[i]) (by simp) trivial (by simp) (by simp) ?_
      simp
      refine aCond_split (fun hf => ?_) (fun ht => ?_)
      · simp at hf
        simp
        cases h : all2 sameB a.l b.l with
        | false => rfl
        | true => rw [(all2_get hlen).1 h i _ _ hi1 hi2] at hf; cases hf
      · simp at ht
        simp [e5, succ_wrap hlt n1]
        refine hK (i + 1) _ _ _ _ (Sub.refl _ _ _) ⟨by omega, rfl, by simp, by simp [e2], by simp [e3], ?_⟩ (by omega)
        intro j x y hj hx hy
        rcases Nat.lt_or_ge j i with h | h
        · exact hall j x y h hx hy
        · obtain rfl : j = i := by omega
          rw [hi1] at hx
          rw [hi2] at hy
          simp only [Option.some.injEq] at hx hy
          subst hx hy
          exact ht
    · simp at hge
      simp
      refine (all2_get hlen).2 fun j x y ha hb => hall j x y ?_ ha hb
      have := (List.getElem?_eq_some_iff.1 ha).1
      omega
theorem sameB_refl (a : Ex) : sameB a a = true := by
  induction a using Ex.ind with
  | h a ih =>
    rw [sameB_eq]
    have : all2 sameB a.l a.l = true := by
      have : ∀ l : List Ex, (∀ x ∈ l, sameB x x = true) → all2 sameB l l = true := by
        intro l
        induction l with
        | nil => intro _; rfl
        | cons x l ih => intro h; simp only [all2, h x (by simp), ih fun y hy => h y (by simp [hy]), Bool.and_self]
      exact this a.l ih
    simp [this]
end Go.Proofs.YtlidimmfpfockaaGreatDoor

/- Contracts: slices.IndexFunc, slices.ContainsFunc, at expressions; il.CheckExpr and what it calls. -/
namespace Go.Proofs.YtlidimmfpfockaaGreatDoor
open Go.RowKit
/-- A call that leaves the blocks as they were, but for garbage. -/
def Same0 (A : AHeap) (r0 : AV) (r : AV) (A' : AHeap) : Prop := r = r0 ∧ ∃ N, A' = A ++ N
/-- The garbage is dropped. -/
theorem AC.drop {P : Program} {f : FuncId} {args : List AV} {A : AHeap} {r0 : AV} (h : AC P f args A (Same0 A r0)) : AC P f args A fun r A' => r = cln A.length r0 ∧ A' = A.map (clnB A.length) :=
  h.sub fun r A' ⟨hr, N, hA⟩ => by
    subst hr hA
    exact ⟨_, _, Sub.take A.length (Nat.le_refl _), rfl, by simp⟩
/-- slices.IndexFunc, at expressions, with a predicate that changes nothing. -/
theorem indexFunc_ac {f : Nat} {fs cs : List AV} {p : Ex → Bool} (A : AHeap) (l : List Ex) (hf : okF Tryz.prog f = true) (hp : ∀ a ∈ l, ∀ N, AC Tryz.prog f (fs ++ [exA a] ++ cs) (A ++ N) (Same0 A (aB (p a)))) :
    AC Tryz.prog 153 [.d (.sl 5 (Ex.ds l)), .fn f fs cs] A (Same0 A (aI .i64 (match l.findIdx? p with | some i => (i : Int) | none => -1))) := by
  refine ac_of Tryz.func153 rfl (by kernel_rfl) (by simp [Tryz.ntmps153]) fun hb => ?_
  have n1 : l.length ≤ maxLen := by simpa using hb.1.1
  clear hb
  obtain ⟨R, hR⟩ : ∃ R : Int, (match l.findIdx? p with | some i => (i : Int) | none => -1) = R := ⟨_, rfl⟩
  rw [hR]
  simp [Tryz.f153]
  refine aLoop_of (α := Nat) (fun i e A' => i ≤ l.length ∧ (∃ N, A' = A ++ N) ∧ e 8 = aI .i64 i ∧ e 7 = aI .i64 l.length ∧ e 0 = .d (.sl 5 (Ex.ds l)) ∧ e 1 = .fn f fs cs ∧
    ∀ (j : Nat) (a : Ex), j < i → l[j]? = some a → p a = false) (fun i => l.length - i) 0 (Sub.refl _ _ _) ⟨by omega, ⟨[], by simp⟩, by simp, by simp, by simp, by simp, by intro j a hj; omega⟩ ?_
  rintro i e A' ⟨hi, ⟨N, rfl⟩, e8, e7, e0, e1, hall⟩ K hK
  simp [e8, e7]
  refine aCond_split (fun hlt => ?_) (fun hge => ?_)
  · simp at hlt
    have hi1 := List.getElem?_eq_getElem hlt
    simp [e0, e1, e8, hi1, Ex.d_eq]
    refine aCall_ofc (hp l[i] (List.mem_of_getElem? hi1) N) hf ?_
    rintro _ _ ⟨rfl, N', rfl⟩
    simp
    refine aCond_split (fun ht => ?_) (fun hf => ?_)
    · have : l.findIdx? p = some i := by
        rw [List.findIdx?_eq_some_iff_getElem]
        exact ⟨hlt, ht, fun j hj => by simpa using hall j _ hj (List.getElem?_eq_getElem (by omega))⟩
      rw [this] at hR
      subst hR
      simp [Same0]
    · simp [e8, succ_wrap hlt n1]
      refine hK (i + 1) _ _ _ _ (Sub.refl _ _ _) ⟨by omega, ⟨N', rfl⟩, by simp, by simp [e7], by simp [e0], by simp [e1], fun j a hj ha => ?_⟩ (by omega)
      rcases Nat.lt_or_ge j i with h | h
      · exact hall j a h ha
      · obtain rfl : j = i := by omega
        rw [hi1] at ha
        obtain rfl := Option.some.inj ha
        exact hf
  · simp at hge
    have : l.findIdx? p = none := by
      rw [List.findIdx?_eq_none_iff]
      intro x hx
      obtain ⟨j, hj⟩ := List.getElem?_of_mem hx
      exact hall j x (by have := (List.getElem?_eq_some_iff.1 hj).1; omega) hj
    rw [this] at hR
    subst hR
    simp [Same0]
theorem containsFunc_ac {f : Nat} {fs cs : List AV} {p : Ex → Bool} (A : AHeap) (l : List Ex) (hf : okF Tryz.prog f = true) (hp : ∀ a ∈ l, ∀ N, AC Tryz.prog f (fs ++ [exA a] ++ cs) (A ++ N) (Same0 A (aB (p a)))) :
    AC Tryz.prog 98 [.d (.sl 5 (Ex.ds l)), .fn f fs cs] A (Same0 A (aB (l.any p))) := by
  refine ac_of Tryz.func98 rfl (by kernel_rfl) (by simp [Tryz.ntmps98]) fun hb => ?_
  simp [Tryz.f98]
  refine aCall_ofc (indexFunc_ac A l hf hp) (by simp) ?_
  rintro _ _ ⟨rfl, N, rfl⟩
  simp [Same0]
  cases h : l.findIdx? p with
  | none =>
    rw [List.findIdx?_eq_none_iff] at h
    simpa using h
  | some i =>
    rw [List.findIdx?_eq_some_iff_getElem] at h
    obtain ⟨hi, hp, _⟩ := h
    simpa using ⟨_, List.getElem_mem hi, hp⟩
/-- Has an expression at most n levels? -/
def shalB : Nat → Ex → Bool
  | 0, _ => false
  | n + 1, e => e.l.all (shalB n)
theorem shallow1_ac {n : Nat} (hn : n ≤ 1000000000) (ih : ∀ e : Ex, AF Tryz.prog 122 [exA e, aI .i64 n] (aB (shalB n e))) (b0 b1 : Blk) (h1 : b1 = ⟨0, true, 3, 1, [[aI .i64 (n + 1 : Nat)]]⟩) (x : Ex) (N : AHeap) :
    AC Tryz.prog 169 [exA x, .ptr 1 0 0 0] ([b0, b1] ++ N) (Same0 [b0, b1] (aB (!shalB n x))) := by
  subst h1
  refine ac_of Tryz.func169 rfl (by kernel_rfl) (by simp [Tryz.ntmps169]) fun hb => ?_
  simp [Tryz.f169, i64w (n := (n : Int)) (by omega)]
  refine aCall_of (ih x) (by simp) (by simp) ?_
  simp [Same0]
theorem shallow_af : ∀ (n : Nat) (e : Ex), n ≤ 1000000000 → AF Tryz.prog 122 [exA e, aI .i64 n] (aB (shalB n e)) := by
  intro n
  induction n with
  | zero =>
    intro e _
    refine af_of Tryz.func122 rfl (by kernel_rfl) (by simp [Tryz.ntmps122]) fun hb => ?_
    simp [Tryz.f122, shalB]
  | succ n ih =>
    intro e hn
    refine af_of Tryz.func122 rfl (by kernel_rfl) (by simp [Tryz.ntmps122]) fun hb => ?_
    clear hb
    simp [Tryz.f122, show (1 : Int) ≤ (n : Int) + 1 by omega]
    refine aCall_ofc (containsFunc_ac _ e.l (p := fun x => !shalB n x) (by simp) fun x _ N => shallow1_ac (by omega) (fun e => ih e (by omega)) _ _ rfl x N).drop (by simp) ?_
    rintro _ _ ⟨rfl, rfl⟩
    simp
    rw [shalB, List.not_all_eq_any_not]
end Go.Proofs.YtlidimmfpfockaaGreatDoor

/- Contracts: il.formed, il.CheckExpr; the reference's CheckExpr. -/
namespace Go.Proofs.YtlidimmfpfockaaGreatDoor
open Go.RowKit
theorem variable_af (v : Int) : AF Tryz.prog 170 [aI .i64 v] (aB (decide (0 ≤ v) && decide (v < 65536))) := by
  refine af_of Tryz.func170 rfl (by kernel_rfl) (by simp [Tryz.ntmps170]) fun _ => ?_
  simp [Tryz.f170]
  refine aG_split (fun h => ?_) (fun h => ?_)
  · simp at h
    simp [h]
  · simp at h
    simp [show ¬ (0 : Int) ≤ v by omega]
theorem access_af (v : Int) : AF Tryz.prog 171 [aI .i64 v] (aB (decide (v = 1) || decide (v = 2) || decide (v = 4))) := by
  refine af_of Tryz.func171 rfl (by kernel_rfl) (by simp [Tryz.ntmps171]) fun _ => ?_
  by_cases h1 : v = 1
  · subst h1
    simp [Tryz.f171]
  by_cases h2 : v = 2
  · subst h2
    simp [Tryz.f171]
  simp [Tryz.f171, h1, h2]
/-- Is an expression well-formed but for its operands? -/
def okE (op n v w : Int) (k : Nat) : Bool :=
  if op = 1 then v == 0 && w == 0 && k == 0
  else if op = 2 then n == 0 && w == 0 && k == 0 && (decide (0 ≤ v) && decide (v < 65536))
  else if 3 ≤ op ∧ op ≤ 15 then n == 0 && v == 0 && w == 0 && k == 2
  else if op = 16 ∨ op = 17 then n == 0 && v == 0 && w == 0 && k == 1
  else if op = 18 then n == 0 && v == 0 && (w == 1 || w == 2 || w == 4) && k == 1
  else if op = 19 then n == 0 && v == 0 && (w == 1 || w == 2) && k == 1
  else false
/-- Is an expression well-formed, apart from its levels? -/
def formB : Ex → Bool
  | .mk op n v w l => okE op n v w l.length && forms l
where forms : List Ex → Bool
  | [] => true
  | e :: l => formB e && forms l
theorem formB_eq (e : Ex) : formB e = (okE e.op e.n e.v e.wd e.l.length && e.l.all formB) := by
  have h : ∀ l, formB.forms l = l.all formB := by
    intro l
    induction l with
    | nil => rfl
    | cons a l ih => simp only [formB.forms, ih, List.all_cons]
  cases e
  simp only [formB, h]
  rfl
theorem formed1_ac {x : Ex} (ih : AF Tryz.prog 123 [exA x] (aB (formB x))) (A N : AHeap) : AC Tryz.prog 172 [exA x] (A ++ N) (Same0 A (aB (!formB x))) := by
  refine ac_of Tryz.func172 rfl (by kernel_rfl) (by simp [Tryz.ntmps172]) fun _ => ?_
  simp [Tryz.f172]
  refine aCall_of ih (by simp) (by simp) ?_
  simp [Same0]
theorem formed_af : ∀ (e : Ex), AF Tryz.prog 123 [exA e] (aB (formB e)) := by
  intro x
  induction x using Ex.ind with
  | h x ih =>
    have hany : ∀ A : AHeap, AC Tryz.prog 98 [.d (.sl 5 (Ex.ds x.l)), .fn 172 [] []] A fun r A' => r = aB (x.l.any fun y => !formB y) ∧ A' = A.map (clnB A.length) := fun A =>
      (containsFunc_ac (fs := []) (cs := []) (p := fun y => !formB y) A x.l (by simp) fun y hy N => formed1_ac (ih y hy) A N).drop
    rw [formB_eq]
    refine af_of Tryz.func123 rfl (by kernel_rfl) (by simp [Tryz.ntmps123]) fun _ => ?_
    obtain ⟨R, hR⟩ : ∃ R, (okE x.op x.n x.v x.wd x.l.length && x.l.all formB) = R := ⟨_, rfl⟩
    rw [hR]
    have hlast : (x.l.any fun y => !formB y) = !(x.l.all formB) := by rw [List.not_all_eq_any_not]
    simp [Tryz.f123]
    by_cases h1 : x.op = 1
    · simp [h1]
      refine aG_split (fun g0 => ?_) (fun g0 => by simp at g0; rw [← hR]; simp [okE, h1, g0])
      simp at g0
      simp [g0]
      refine aG_split (fun g1 => ?_) (fun g1 => by simp at g1; rw [← hR]; simp [okE, h1, g0, g1])
      simp at g1
      simp [g1]
      refine aG_split (fun g2 => ?_) (fun g2 => by simp at g2; rw [← hR]; simp [okE, h1, g0, g1, g2])
      simp at g2
      simp [g2]
      refine aCall_ofc (by have h := hany; rw [g2] at h; exact h _) (by simp) ?_
      rintro _ _ ⟨rfl, rfl⟩
      simp
      rw [← hR]
      simp [okE, h1, g0, g1, g2]
    simp [h1]
    by_cases h2 : x.op = 2
    · simp [h2]
      refine aCall_of (variable_af x.v) (by simp) (by simp) ?_
      simp
      by_cases hv : 0 ≤ x.v ∧ x.v < 65536
      · simp [hv]
        refine aG_split (fun g0 => ?_) (fun g0 => by simp at g0; rw [← hR]; simp [okE, h1, h2, hv.1, hv.2, g0])
        simp at g0
        simp [g0]
        refine aG_split (fun g1 => ?_) (fun g1 => by simp at g1; rw [← hR]; simp [okE, h1, h2, hv.1, hv.2, g0, g1])
        simp at g1
        simp [g1]
        refine aG_split (fun g2 => ?_) (fun g2 => by simp at g2; rw [← hR]; simp [okE, h1, h2, hv.1, hv.2, g0, g1, g2])
        simp at g2
        simp [g2]
        refine aCall_ofc (by have h := hany; rw [g2] at h; exact h _) (by simp) ?_
        rintro _ _ ⟨rfl, rfl⟩
        simp
        rw [← hR]
        simp [okE, h1, h2, hv.1, hv.2, g0, g1, g2]
      · have hv' : (decide (0 ≤ x.v) && decide (x.v < 65536)) = false := by simp; omega
        simp [hv']
        rw [← hR]
        simp [okE, h1, h2, hv']
    simp [h2]
    by_cases h3 : 3 ≤ x.op ∧ x.op ≤ 15
    · simp [h3.1, h3.2]
      refine aG_split (fun g0 => ?_) (fun g0 => by simp at g0; rw [← hR]; simp [okE, h1, h2, h3.1, h3.2, g0])
      simp at g0
      simp [g0]
      refine aG_split (fun g1 => ?_) (fun g1 => by simp at g1; rw [← hR]; simp [okE, h1, h2, h3.1, h3.2, g0, g1])
      simp at g1
      simp [g1]
      refine aG_split (fun g2 => ?_) (fun g2 => by simp at g2; rw [← hR]; simp [okE, h1, h2, h3.1, h3.2, g0, g1, g2])
      simp at g2
      simp [g2]
      refine aG_split (fun g3 => ?_) (fun g3 => by simp at g3; have gk : ¬ x.l.length = 2 := (by omega); rw [← hR]; simp [okE, h1, h2, h3.1, h3.2, g0, g1, g2, gk, g3])
      simp at g3
      simp [g3]
      have gk : x.l.length = 2 := by omega
      refine aCall_ofc (hany _) (by simp) ?_
      rintro _ _ ⟨rfl, rfl⟩
      simp
      rw [← hR, hlast]
      simp [okE, h1, h2, h3.1, h3.2, g0, g1, g2, gk]
    have hno : ∀ (K1 K2 : AKont) (e : AEnv) (d : Option Nat) (A : AHeap), True := fun _ _ _ _ _ => trivial
    by_cases h3a : 3 ≤ x.op
    · have h3b : ¬ x.op ≤ 15 := fun h => h3 ⟨h3a, h⟩
      simp [h3a, h3b]
      by_cases h16 : x.op = 16
      · simp [h16]
        refine aG_split (fun g0 => ?_) (fun g0 => by simp at g0; rw [← hR]; simp [okE, h1, h2, h3a, h3b, h16, g0])
        simp at g0
        simp [g0]
        refine aG_split (fun g1 => ?_) (fun g1 => by simp at g1; rw [← hR]; simp [okE, h1, h2, h3a, h3b, h16, g0, g1])
        simp at g1
        simp [g1]
        refine aG_split (fun g2 => ?_) (fun g2 => by simp at g2; rw [← hR]; simp [okE, h1, h2, h3a, h3b, h16, g0, g1, g2])
        simp at g2
        simp [g2]
        refine aG_split (fun g3 => ?_) (fun g3 => by simp at g3; have gk : ¬ x.l.length = 1 := (by omega); rw [← hR]; simp [okE, h1, h2, h3a, h3b, h16, g0, g1, g2, gk, g3])
        simp at g3
        simp [g3]
        have gk : x.l.length = 1 := by omega
        refine aCall_ofc (hany _) (by simp) ?_
        rintro _ _ ⟨rfl, rfl⟩
        simp
        rw [← hR, hlast]
        simp [okE, h1, h2, h3a, h3b, h16, g0, g1, g2, gk]
      simp [h16]
      by_cases h17 : x.op = 17
      · simp [h17]
        refine aG_split (fun g0 => ?_) (fun g0 => by simp at g0; rw [← hR]; simp [okE, h1, h2, h3a, h3b, h16, h17, g0])
        simp at g0
        simp [g0]
        refine aG_split (fun g1 => ?_) (fun g1 => by simp at g1; rw [← hR]; simp [okE, h1, h2, h3a, h3b, h16, h17, g0, g1])
        simp at g1
        simp [g1]
        refine aG_split (fun g2 => ?_) (fun g2 => by simp at g2; rw [← hR]; simp [okE, h1, h2, h3a, h3b, h16, h17, g0, g1, g2])
        simp at g2
        simp [g2]
        refine aG_split (fun g3 => ?_) (fun g3 => by simp at g3; have gk : ¬ x.l.length = 1 := (by omega); rw [← hR]; simp [okE, h1, h2, h3a, h3b, h16, h17, g0, g1, g2, gk, g3])
        simp at g3
        simp [g3]
        have gk : x.l.length = 1 := by omega
        refine aCall_ofc (hany _) (by simp) ?_
        rintro _ _ ⟨rfl, rfl⟩
        simp
        rw [← hR, hlast]
        simp [okE, h1, h2, h3a, h3b, h16, h17, g0, g1, g2, gk]
      simp [h17]
      by_cases h18 : x.op = 18
      · simp [h18]
        refine aCall_of (access_af x.wd) (by simp) (by simp) ?_
        simp
        cases hw : (decide (x.wd = 1) || decide (x.wd = 2) || decide (x.wd = 4)) with
        | false =>
          simp [hw]
          rw [← hR]
          simp at hw
          simp [okE, h18, hw]
        | true =>
          have hw' : (x.wd == 1 || x.wd == 2 || x.wd == 4) = true := by simpa using hw
          simp [hw]
          refine aG_split (fun g0 => ?_) (fun g0 => by simp at g0; rw [← hR]; simp [okE, h18, hw', g0])
          simp at g0
          simp [g0]
          refine aG_split (fun g1 => ?_) (fun g1 => by simp at g1; rw [← hR]; simp [okE, h18, hw', g0, g1])
          simp at g1
          simp [g1]
          refine aG_split (fun g2 => ?_) (fun g2 => by simp at g2; have gk : ¬ x.l.length = 1 := (by omega); rw [← hR]; simp [okE, h18, hw', g0, g1, gk, g2])
          simp at g2
          simp [g2]
          have gk : x.l.length = 1 := by omega
          refine aCall_ofc (hany _) (by simp) ?_
          rintro _ _ ⟨rfl, rfl⟩
          simp
          rw [← hR, hlast]
          simp [okE, h18, hw', g0, g1, gk]
      simp [h18]
      by_cases h19 : x.op = 19
      · simp [h19]
        cases hw : (decide (x.wd = 1) || decide (x.wd = 2)) with
        | false =>
          simp at hw
          simp [hw]
          rw [← hR]
          simp [okE, h19, hw]
        | true =>
          have hw' : (x.wd == 1 || x.wd == 2) = true := by simpa using hw
          by_cases hw1 : x.wd = 1
          · simp [hw1]
            refine aG_split (fun g0 => ?_) (fun g0 => by simp at g0; rw [← hR]; simp [okE, h19, hw1, g0])
            simp at g0
            simp [g0]
            refine aG_split (fun g1 => ?_) (fun g1 => by simp at g1; rw [← hR]; simp [okE, h19, hw1, g0, g1])
            simp at g1
            simp [g1]
            refine aG_split (fun g2 => ?_) (fun g2 => by simp at g2; have gk : ¬ x.l.length = 1 := (by omega); rw [← hR]; simp [okE, h19, hw1, g0, g1, gk, g2])
            simp at g2
            simp [g2]
            have gk : x.l.length = 1 := by omega
            refine aCall_ofc (hany _) (by simp) ?_
            rintro _ _ ⟨rfl, rfl⟩
            simp
            rw [← hR, hlast]
            simp [okE, h19, hw1, g0, g1, gk]
          have hw2 : x.wd = 2 := by simp [hw1] at hw; exact hw
          simp [hw2]
          refine aG_split (fun g0 => ?_) (fun g0 => by simp at g0; rw [← hR]; simp [okE, h19, hw2, g0])
          simp at g0
          simp [g0]
          refine aG_split (fun g1 => ?_) (fun g1 => by simp at g1; rw [← hR]; simp [okE, h19, hw2, g0, g1])
          simp at g1
          simp [g1]
          refine aG_split (fun g2 => ?_) (fun g2 => by simp at g2; have gk : ¬ x.l.length = 1 := (by omega); rw [← hR]; simp [okE, h19, hw2, g0, g1, gk, g2])
          simp at g2
          simp [g2]
          have gk : x.l.length = 1 := by omega
          refine aCall_ofc (hany _) (by simp) ?_
          rintro _ _ ⟨rfl, rfl⟩
          simp
          rw [← hR, hlast]
          simp [okE, h19, hw2, g0, g1, gk]
      simp [h19]
      rw [← hR]
      simp [okE, h1, h2, h3a, h3b, h16, h17, h18, h19]
    · simp [h3a, show ¬ x.op = 16 by omega, show ¬ x.op = 17 by omega, show ¬ x.op = 18 by omega, show ¬ x.op = 19 by omega]
      rw [← hR]
      simp [okE, h1, h2, h3a, show ¬ x.op = 16 by omega, show ¬ x.op = 17 by omega, show ¬ x.op = 18 by omega, show ¬ x.op = 19 by omega]
theorem check_af (e : Ex) : AF Tryz.prog 54 [exA e] (aI .i64 (if shalB 64 e = true then (if formB e = true then 0 else 2) else 20)) := by
  refine af_of Tryz.func54 rfl (by kernel_rfl) (by simp [Tryz.ntmps54]) fun _ => ?_
  simp [Tryz.f54]
  refine aCall_of (shallow_af 64 e (by omega)) (by simp) (by simp) ?_
  simp
  cases h1 : shalB 64 e with
  | false => simp
  | true =>
    simp
    refine aCall_of (formed_af e) (by simp) (by simp) ?_
    simp
    cases h2 : formB e with
    | false => simp
    | true => simp
end Go.Proofs.YtlidimmfpfockaaGreatDoor

/- Contracts: slices.Clone, il.own, il.Two, il.Const, il.Var. -/
namespace Go.Proofs.YtlidimmfpfockaaGreatDoor
open Go.RowKit
theorem bds_all {sz : Nat} : ∀ {xs : List (List D)}, BdS sz xs → ((dEls xs).all fun x => x.length == sz) = true
  | [], _ => rfl
  | x :: xs, h => by
    simp only [BdS] at h
    have := bds_all h.2.2
    simp [h.1] at this ⊢
    exact this
theorem clone_ac (A : AHeap) (xs : List (List D)) (hl : xs.length ≤ 1000000000) :
    AC Tryz.prog 116 [.d (.sl 5 xs)] A fun r A' => r = .own A.length 1 0 xs.length ∧ A' = A ++ [⟨1, true, 38, 5, dEls xs⟩] := by
  refine AC.sub (R := fun r A' => (r = .own A.length 1 0 xs.length ∧ A' = A ++ [⟨1, true, 38, 5, dEls xs⟩]) ∨ (r = .d (.v (.slice none 0 0)) ∧ xs = [] ∧ A' = A)) (ac_of Tryz.func116 rfl (by kernel_rfl) (by simp [Tryz.ntmps116]) fun hb => ?_) ?_
  · have hall := bds_all hb.1.2
    clear hb
    simp [Tryz.f116]
    refine aRaw_app byt_23 ?_
    simp [hall]
    unfold maxLen
    omega
  · rintro r A' (⟨rfl, rfl⟩ | ⟨rfl, rfl, rfl⟩)
    · exact ⟨_, _, Sub.refl _ _ _, rfl, rfl⟩
    · refine ⟨_, _, (Sub.ghost 1 38 5).trans (Sub.env (e' := fun _ => .own A'.length 1 0 0) fun i => VLe.nil_own (k := ⟨1, true, 38, 5, []⟩) (by simp) rfl), ?_, ?_⟩ <;> simp
theorem own_af : ∀ (e : Ex), e.nodes ≤ 1000000000 → AF Tryz.prog 115 [exA e] (exA e) := by
  intro x
  induction x using Ex.ind with
  | h x ih =>
    intro hn
    have hlen := x.nodes_len
    have n1 : x.l.length ≤ maxLen := by unfold maxLen; omega
    refine af_of Tryz.func115 rfl (by kernel_rfl) (by simp [Tryz.ntmps115]) fun _ => ?_
    simp [Tryz.f115]
    refine aCall_ofc (clone_ac _ (Ex.ds x.l) (by simp; omega)) (by simp) ?_
    rintro _ _ ⟨rfl, rfl⟩
    simp
    refine aLoop_of (α := Nat) (fun i e A => i ≤ x.l.length ∧ A = [⟨0, true, 38, 5, [[aI .i64 x.op, aI .u32 x.n, aI .i64 x.v, aI .i64 x.wd, .own 2 1 0 x.l.length]]⟩, ⟨0, true, 38, 5, [[aI .i64 0, aI .u32 0, aI .i64 0, aI .i64 0, .d (.v (.slice none 0 0))]]⟩, ⟨1, true, 38, 5, dEls (Ex.ds x.l)⟩] ∧
      e 11 = aI .i64 i ∧ e 10 = aI .i64 x.l.length ∧ e 1 = .ptr 0 0 0 0 ∧ e 2 = .ptr 1 0 0 0) (fun i => x.l.length - i) 0 (Sub.refl _ _ _) ⟨by omega, by simp, by simp, by simp, by simp, by simp⟩ ?_
    rintro i e A ⟨hi, rfl, e11, e10, e1, e2⟩ K hK
    simp [e11, e10]
    refine aCond_split (fun hlt => ?_) (fun hge => ?_)
    · simp at hlt
      have hi1 := List.getElem?_eq_getElem hlt
      simp
      refine adraw [] (by kernel_rfl) (by kernel_rfl) (by kernel_rfl) (by kernel_rfl) ?_
      simp [e11, e1, hlt, hi1, Ex.d_eq]
      refine adC_of (ih _ (List.mem_of_getElem? hi1) (by have := Ex.nodes_mem (List.mem_of_getElem? hi1); omega)) (by simp) trivial (by simp) (by simp) ?_
      simp [hlt, Ex.d_eq, e11, succ_wrap hlt n1]
      exact hK (i + 1) _ _ _ _ (Sub.refl _ _ _) ⟨by omega, by simp; exact set_same (by simp [hlt, Ex.d_eq]), by simp, by simp [e10], by simp [e1], by simp [e2]⟩ (by omega)
    · simp at hge
      simp [e1, e2]
end Go.Proofs.YtlidimmfpfockaaGreatDoor

/- Contracts: il.Two, il.Const, il.Var; flagfuse's makers and conditions; the reference's makers. -/
namespace Go.Proofs.YtlidimmfpfockaaGreatDoor
open Go.RowKit
def eCon (n : Int) : Ex := .mk 1 n 0 0 []
def eVar (v : Int) : Ex := .mk 2 0 v 0 []
def eTwo (op : Int) (a b : Ex) : Ex := .mk op 0 0 0 [a, b]
def eOne (op : Int) (a : Ex) : Ex := .mk op 0 0 0 [a]
abbrev eNot (a : Ex) : Ex := eOne 16 a
section
variable (op n v : Int) (a b : Ex)
@[simp] theorem eCon_op : (eCon n).op = 1 := rfl
@[simp] theorem eCon_n : (eCon n).n = n := rfl
@[simp] theorem eCon_v : (eCon n).v = 0 := rfl
@[simp] theorem eCon_wd : (eCon n).wd = 0 := rfl
@[simp] theorem eCon_l : (eCon n).l = [] := rfl
@[simp] theorem eVar_op : (eVar v).op = 2 := rfl
@[simp] theorem eVar_n : (eVar v).n = 0 := rfl
@[simp] theorem eVar_v : (eVar v).v = v := rfl
@[simp] theorem eVar_wd : (eVar v).wd = 0 := rfl
@[simp] theorem eVar_l : (eVar v).l = [] := rfl
@[simp] theorem eTwo_op : (eTwo op a b).op = op := rfl
@[simp] theorem eTwo_n : (eTwo op a b).n = 0 := rfl
@[simp] theorem eTwo_v : (eTwo op a b).v = 0 := rfl
@[simp] theorem eTwo_wd : (eTwo op a b).wd = 0 := rfl
@[simp] theorem eTwo_l : (eTwo op a b).l = [a, b] := rfl
@[simp] theorem eOne_op : (eOne op a).op = op := rfl
@[simp] theorem eOne_n : (eOne op a).n = 0 := rfl
@[simp] theorem eOne_v : (eOne op a).v = 0 := rfl
@[simp] theorem eOne_wd : (eOne op a).wd = 0 := rfl
@[simp] theorem eOne_l : (eOne op a).l = [a] := rfl
@[simp] theorem nodes_con : (eCon n).nodes = 1 := rfl
@[simp] theorem nodes_var : (eVar v).nodes = 1 := rfl
@[simp] theorem nodes_two : (eTwo op a b).nodes = a.nodes + b.nodes + 1 := by simp [eTwo, Ex.nodes, Ex.nodess]
@[simp] theorem nodes_one : (eOne op a).nodes = a.nodes + 1 := by simp [eOne, Ex.nodes, Ex.nodess]
end
theorem two_af (op : Int) (a b : Ex) (ha : a.nodes ≤ 1000000000) (hb : b.nodes ≤ 1000000000) : AF Tryz.prog 49 [aI .i64 op, exA a, exA b] (exA (eTwo op a b)) := by
  refine af_of Tryz.func49 rfl (by kernel_rfl) (by simp [Tryz.ntmps49]) fun _ => ?_
  simp [Tryz.f49]
  refine adraw [] (by kernel_rfl) (by kernel_rfl) (by kernel_rfl) (by kernel_rfl) ?_
  simp
  refine adC_of (own_af a ha) (by simp) trivial (by simp) (by simp) ?_
  simp
  refine adC_of (own_af b hb) (by simp) trivial (by simp) (by simp) ?_
  simp [Ex.d_eq]
theorem const_af (n : Int) : AF Tryz.prog 51 [aI .u32 n] (exA (eCon n)) := by
  refine af_of Tryz.func51 rfl (by kernel_rfl) (by simp [Tryz.ntmps51]) fun _ => ?_
  simp [Tryz.f51]
theorem var_af (v : Int) : AF Tryz.prog 50 [aI .i64 v] (exA (eVar v)) := by
  refine af_of Tryz.func50 rfl (by kernel_rfl) (by simp [Tryz.ntmps50]) fun _ => ?_
  simp [Tryz.f50]
end Go.Proofs.YtlidimmfpfockaaGreatDoor

/- Contracts: strings.Join, strconv.Itoa, il's texts, as far as the examples need them. -/
namespace Go.Proofs.YtlidimmfpfockaaGreatDoor
open Go.RowKit
abbrev aS (s : ByteArray) : AV := .d (.v (.string s))
/-- Strings, as a slice's elements. -/
def strs (xs : List ByteArray) : List (List D) := xs.map fun x => [.v (.string x)]
@[simp] theorem strs_nil : strs [] = [] := rfl
@[simp] theorem strs_cons (x : ByteArray) (xs : List ByteArray) : strs (x :: xs) = [.v (.string x)] :: strs xs := rfl
/-- Strings, one after the other. -/
def cat (xs : List ByteArray) : ByteArray := ⟨(xs.flatMap fun x => x.data.toList).toArray⟩
theorem join_nil' (xs : List (List UInt8)) : Lib.join xs [] = xs.flatten := by
  induction xs with
  | nil => rfl
  | cons x xs ih =>
    cases xs with
    | nil => simp [Lib.join_one]
    | cons y ys =>
      rw [Lib.join_cons]
      simp [Lib.joinTail]
theorem sjoin_af (xs : List ByteArray) (hl : (xs.flatMap fun x => x.data.toList).length ≤ 1000000000) (hn : xs.length ≤ 1000000000) : AF Tryz.prog 130 [.d (.sl 1 (strs xs)), aS ⟨#[]⟩] (aS (cat xs)) := by
  intro H w vs hH hs hm
  simp only [ShpL] at hs
  obtain ⟨u1, l1, rfl, s1, u2, l2, rfl, s2, rfl⟩ := hs
  simp only [Shp] at s2
  subst s2
  have m1 := hm.get (i := 0) rfl rfl
  simp only [Mem, Rd] at m1
  obtain ⟨a, cap, rfl, h1, h2, h3⟩ := m1
  have hlen : (strs xs).length = xs.length := by simp [strs]
  have hfin : Lib.join (xs.map (·.data.toList)) [] = xs.flatMap fun x => x.data.toList := by rw [join_nil', List.flatMap_def]
  rw [hlen] at h1 ⊢
  rcases h3 with h3 | ⟨b, off, rfl, hb, hs⟩
  · have hx : xs = [] := by
      cases xs with
      | nil => rfl
      | cons x xs => simp at h3
    subst hx
    refine (Sh_strings_Join_none a cap ⟨#[]⟩ w).mono ?_
    rintro en w' ⟨rfl, rfl⟩
    exact ⟨_, rfl, ⟨by simp [Shp, cat], by simp [Mem, Rd, cat, Value.oneCell']⟩, Ext.refl _⟩
  · refine (Sh_strings_Join b off cap xs ⟨#[]⟩ w (fun j x hj => ?_) hb.1 (by omega) h1 (by simp only [List.toList_toArray]; rw [hfin]; omega)).mono ?_
    · have := hs.get (i := j) (x := [.v (.string x)]) (by simp [strs, hj])
      obtain ⟨u, g1, g2⟩ := this.2.get (j := 0) rfl
      simp only [Rd] at g2
      rw [g2.1] at g1
      simpa using g1
    · rintro en w' ⟨rfl, hw⟩
      refine ⟨_, rfl, ⟨?_, ?_⟩, hw⟩
      · simp only [Shp, List.toList_toArray]
        rw [hfin]
        rfl
      · simp only [Mem, Rd, List.toList_toArray]
        rw [hfin]
        exact ⟨rfl, rfl⟩
theorem itoa_af (i : Nat) (h : i < 100) : AF Tryz.prog 63 [aI .i64 i] (aS ⟨(Lib.decDigits i).toArray⟩) := by
  intro H w vs hH hs hm
  simp only [ShpL] at hs
  obtain ⟨u1, l1, rfl, s1, rfl⟩ := hs
  simp only [Shp] at s1
  subst s1
  refine (Sh_strconv_Itoa_small i h w).mono ?_
  rintro en w' ⟨rfl, rfl⟩
  exact ⟨_, rfl, ⟨by simp [Shp], by simp [Mem, Rd, Value.oneCell']⟩, Ext.refl _⟩
theorem iljoin_af (xs : List ByteArray) (hl : (xs.flatMap fun x => x.data.toList).length ≤ 1000000000) (hn : xs.length ≤ 1000000000) : AF Tryz.prog 60 [.d (.sl 1 (strs xs))] (aS (cat xs)) := by
  refine af_of Tryz.func60 rfl (by kernel_rfl) (by simp [Tryz.ntmps60]) fun _ => ?_
  simp [Tryz.f60]
  refine aCall_of (sjoin_af xs hl hn) (by simp) (by simp) ?_
  simp
end Go.Proofs.YtlidimmfpfockaaGreatDoor

/- Contracts: the conditions and the flag expressions (printed by gen_be.py). -/
namespace Go.Proofs.YtlidimmfpfockaaGreatDoor
open Go.RowKit
end Go.Proofs.YtlidimmfpfockaaGreatDoor

/- Contracts: the flag expressions, Recognize, size (printed by gen_be.py). -/
namespace Go.Proofs.YtlidimmfpfockaaGreatDoor
open Go.RowKit
end Go.Proofs.YtlidimmfpfockaaGreatDoor

/- Contracts: Recognize, of flagfuse and of the reference; the law's size. -/
namespace Go.Proofs.YtlidimmfpfockaaGreatDoor
open Go.RowKit
theorem nodess_take {l : List Ex} {i : Nat} {x : Ex} (h : l[i]? = some x) : Ex.nodess (l.take (i + 1)) = Ex.nodess (l.take i) + x.nodes := by
  have : ∀ (a b : List Ex), Ex.nodess (a ++ b) = Ex.nodess a + Ex.nodess b := by
    intro a b
    induction a with
    | nil => simp [Ex.nodess]
    | cons y a ih => simp [Ex.nodess, ih]; omega
  rw [List.take_add_one, h, this]
  simp [Ex.nodess]
end Go.Proofs.YtlidimmfpfockaaGreatDoor

/- Contracts: il.Print at the example's expression; the law's example; FlagfuseConditions. -/
namespace Go.Proofs.YtlidimmfpfockaaGreatDoor
open Go.RowKit
end Go.Proofs.YtlidimmfpfockaaGreatDoor

/- Contract: the law FlagfuseConditions answers true. -/
namespace Go.Proofs.YtlidimmfpfockaaGreatDoor
open Go.RowKit
end Go.Proofs.YtlidimmfpfockaaGreatDoor

/- Contracts: 32-bit arithmetic with flags. -/
namespace Go.Proofs.YtlidimmfpfockaaGreatDoor
open Go.RowKit
abbrev aU (x : Int) : AV := aI .u32 x
/-- The sign bit. -/
def sgn (x : Int) : Bool := !decide (andI .u32 x 2147483648 = 0)
@[simp] def flagsA (x y : Int) : AV := .agg [aB (decide (IntKind.u32.wrap (x - y) = 0)), aB (sgn (IntKind.u32.wrap (x - y))), aB (decide (x < y)), aB (sgn (andI .u32 (xorI .u32 x y) (xorI .u32 x (IntKind.u32.wrap (x - y)))))]
def shI (y : Int) : Int := andI .u32 y 31
theorem bshl_af (x y : Int) : AF Tryz.prog 273 [aU x, aU y] (aU (shlI .u32 x (shI y))) := by
  refine af_of Tryz.func273 rfl (by kernel_rfl) (by simp [Tryz.ntmps273]) fun _ => ?_
  simp [Tryz.f273, shI]
theorem bshr_af (x y : Int) : AF Tryz.prog 274 [aU x, aU y] (aU (shrI .u32 x (shI y))) := by
  refine af_of Tryz.func274 rfl (by kernel_rfl) (by simp [Tryz.ntmps274]) fun _ => ?_
  simp [Tryz.f274, shI]
theorem bsar_af (x y : Int) : AF Tryz.prog 275 [aU x, aU y] (aU (IntKind.u32.wrap (shrI .i32 (IntKind.i32.wrap x) (shI y)))) := by
  refine af_of Tryz.func275 rfl (by kernel_rfl) (by simp [Tryz.ntmps275]) fun _ => ?_
  simp [Tryz.f275, shI]
theorem btruth_af (b : Bool) : AF Tryz.prog 276 [aB b] (aU (if b then 1 else 0)) := by
  refine af_of Tryz.func276 rfl (by kernel_rfl) (by simp [Tryz.ntmps276]) fun _ => ?_
  simp [Tryz.f276]
  cases b <;> simp
/-- What an operator of two operands computes. -/
def appL (x y : Int) : List Int := [IntKind.u32.wrap (x + y), IntKind.u32.wrap (x - y), IntKind.u32.wrap (x * y), andI .u32 x y, orI .u32 x y, xorI .u32 x y, shlI .u32 x (shI y), shrI .u32 x (shI y), IntKind.u32.wrap (shrI .i32 (IntKind.i32.wrap x) (shI y)),
  if x = y then 1 else 0, if x = y then 0 else 1, if IntKind.i32.wrap x < IntKind.i32.wrap y then 1 else 0, if x < y then 1 else 0]
def appI (op : Nat) (x y : Int) : Int := (appL x y).getD (op - 3) 0
theorem bapply_af (op : Nat) (x y : Int) (h : 3 ≤ op ∧ op ≤ 15) : AF Tryz.prog 270 [aI .i64 op, aU x, aU y] (.tup [aU (appI op x y), aI .i64 0]) := by
  refine af_of Tryz.func270 rfl (by kernel_rfl) (by simp [Tryz.ntmps270]) fun _ => ?_
  simp [Tryz.f270, show ¬ ((op : Int) < 3) by omega, show ¬ (15 < (op : Int)) by omega]
  refine aCall_of (bshl_af x y) (by simp) (by simp) ?_
  simp
  refine aCall_of (bshr_af x y) (by simp) (by simp) ?_
  simp
  refine aCall_of (bsar_af x y) (by simp) (by simp) ?_
  simp
  refine aCall_of (btruth_af (decide (x = y))) (by simp) (by simp) ?_
  simp
  refine aCall_of (btruth_af (!decide (x = y))) (by simp) (by simp) ?_
  simp
  refine aCall_of (btruth_af (decide (IntKind.i32.wrap x < IntKind.i32.wrap y))) (by simp) (by simp) ?_
  simp
  refine aCall_of (btruth_af (decide (x < y))) (by simp) (by simp) ?_
  simp
  obtain rfl | rfl | rfl | rfl | rfl | rfl | rfl | rfl | rfl | rfl | rfl | rfl | rfl : op = 3 ∨ op = 4 ∨ op = 5 ∨ op = 6 ∨ op = 7 ∨ op = 8 ∨ op = 9 ∨ op = 10 ∨ op = 11 ∨ op = 12 ∨ op = 13 ∨ op = 14 ∨ op = 15 := by omega
  all_goals simp [appI, appL]
end Go.Proofs.YtlidimmfpfockaaGreatDoor

/- Contracts: ileval's value of an expression without variables and loads; the law FlagfuseValues' parts. -/
namespace Go.Proofs.YtlidimmfpfockaaGreatDoor
open Go.RowKit
/-- The value of an expression of constants. -/
inductive Ev : Ex → Int → Prop
  | con (n : Int) : Ev (eCon n) n
  | no {a : Ex} {x : Int} : Ev a x → Ev (eNot a) (appI 12 x 0)
  | two {op : Nat} {a b : Ex} {x y : Int} : 3 ≤ op → op ≤ 15 → Ev a x → Ev b y → Ev (eTwo op a b) (appI op x y)
abbrev noVars : AV := .fn 261 [.agg [.d (.v (.slice none 0 0))]] []
abbrev noMem : AV := .d (.v (.pointer none))
def ieB (e : Ex) : Blk := ⟨0, true, 38, 5, [[aI .i64 e.op, aI .u32 e.n, aI .i64 e.v, aI .i64 e.wd, .d (.sl 5 (Ex.ds e.l))]]⟩
theorem ieval_gen (e : Ex) (vs : List Int) (hl : e.l.length = vs.length) (h2 : vs.length ≤ 2)
    (hs : ∀ (i : Nat) (x : Ex) (v : Int), e.l[i]? = some x → vs[i]? = some v → AF Tryz.prog 260 [exA x, noVars, noMem] (.tup [aU v, aI .i64 0])) (R : Int)
    (hR : (e.op = 1 ∧ R = e.n) ∨ (e.op = 16 ∧ R = appI 12 (vs.getD 0 0) 0) ∨ ∃ o : Nat, e.op = o ∧ 3 ≤ o ∧ o ≤ 15 ∧ R = appI o (vs.getD 0 0) (vs.getD 1 0)) :
    AF Tryz.prog 260 [exA e, noVars, noMem] (.tup [aU R, aI .i64 0]) := by
  refine af_of Tryz.func260 rfl (by kernel_rfl) (by simp [Tryz.ntmps260]) fun _ => ?_
  obtain ⟨v0, h0⟩ : ∃ x, vs.getD 0 0 = x := ⟨_, rfl⟩
  obtain ⟨v1, h1⟩ : ∃ x, vs.getD 1 0 = x := ⟨_, rfl⟩
  rw [h0, h1] at hR
  simp [Tryz.f260]
  refine aLoop_of (α := Nat) (fun i g A => i ≤ vs.length ∧ A = [ieB e, ⟨0, true, 211, 2, [[aU (if 0 < i then v0 else 0), aU (if 1 < i then v1 else 0)]]⟩] ∧
    g 3 = .ptr 0 0 0 0 ∧ g 8 = .ptr 1 0 0 0 ∧ g 16 = aI .i64 i ∧ g 15 = aI .i64 vs.length ∧ g 14 = .d (.sl 5 (Ex.ds e.l)) ∧ g 1 = noVars ∧ g 2 = noMem) (fun i => vs.length - i) 0 (Sub.refl _ _ _)
    ⟨by omega, by simp [ieB], by simp, by simp, by simp, by simp [hl], by simp, by simp, by simp⟩ ?_
  rintro i g A ⟨hi, rfl, e3, e8, e16, e15, e14, e1, e2⟩ K hK
  simp [e16, e15]
  refine aCond_split (fun h => ?_) (fun h => ?_)
  · simp at h
    obtain ⟨x, hx⟩ : ∃ x, e.l[i]? = some x := ⟨_, List.getElem?_eq_getElem (by omega)⟩
    obtain ⟨v, hv⟩ : ∃ v, vs[i]? = some v := ⟨_, List.getElem?_eq_getElem (by omega)⟩
    have hx' := (List.getElem?_eq_some_iff.1 hx).2
    have hvd : vs.getD i 0 = v := by simp [List.getD, hv]
    simp [e3, e8, e16, e15, e14, e1, e2, hx, Ex.d_eq]
    refine aCall_of (hs i x v hx hv) (by simp) (by simp) ?_
    simp [e16]
    obtain rfl | rfl : i = 0 ∨ i = 1 := by omega
    · obtain rfl : v0 = v := h0.symm.trans hvd
      simp [e8, e16]
      refine hK 1 _ _ _ _ (Sub.take 2 (by omega)) ⟨by omega, by simp [ieB], by simp [e3], by simp [e8], by simp, by simp [e15], by simp [e14], by simp [e1], by simp [e2]⟩ (by omega)
    · obtain rfl : v1 = v := h1.symm.trans hvd
      simp [e8, e16]
      refine hK 2 _ _ _ _ (Sub.take 2 (by omega)) ⟨by omega, by simp [ieB], by simp [e3], by simp [e8], by simp, by simp [e15], by simp [e14], by simp [e1], by simp [e2]⟩ (by omega)
  · simp at h
    obtain rfl : i = vs.length := by omega
    have g0 : (if 0 < vs.length then v0 else 0) = v0 := by
      split
      · rfl
      · rw [← h0, List.getD, List.getElem?_eq_none (by omega)]; rfl
    have g1 : (if 1 < vs.length then v1 else 0) = v1 := by
      split
      · rfl
      · rw [← h1, List.getD, List.getElem?_eq_none (by omega)]; rfl
    simp [g0, g1]
    rcases hR with ⟨ho, rfl⟩ | ⟨ho, rfl⟩ | ⟨o, ho, h3, h15, rfl⟩
    · simp [e3, ieB, ho]
    · simp [e3, e8, ieB, ho]
      refine aCall_of (bapply_af 12 v0 0 (by omega)) (by simp) (by simp) ?_
      simp
    · simp [e3, e8, ieB, ho, show ¬ ((o : Int) = 1) by omega, show ¬ ((o : Int) = 2) by omega, show ¬ ((o : Int) = 16) by omega, show ¬ ((o : Int) = 17) by omega, show ¬ ((o : Int) = 18) by omega, show ¬ ((o : Int) = 19) by omega]
      refine aCall_of (bapply_af o v0 v1 ⟨h3, h15⟩) (by simp) (by simp) ?_
      simp
theorem ieval_af {e : Ex} {x : Int} (h : Ev e x) : AF Tryz.prog 260 [exA e, noVars, noMem] (.tup [aU x, aI .i64 0]) := by
  induction h with
  | con n => exact ieval_gen (eCon n) [] rfl (by simp) (by simp) n (.inl ⟨rfl, rfl⟩)
  | @no a x _ ih =>
    refine ieval_gen (eNot a) [x] rfl (by simp) ?_ _ (.inr (.inl ⟨rfl, rfl⟩))
    intro i y v hy hv
    cases i with
    | zero => cases hy; cases hv; exact ih
    | succ i => simp at hv
  | @two op a b x y h3 h15 _ _ iha ihb =>
    refine ieval_gen (eTwo op a b) [x, y] rfl (by simp) ?_ _ (.inr (.inr ⟨op, rfl, h3, h15, rfl⟩))
    intro i z v hz hv
    match i with
    | 0 => cases hz; cases hv; exact iha
    | 1 => cases hz; cases hv; exact ihb
    | i + 2 => simp at hv
end Go.Proofs.YtlidimmfpfockaaGreatDoor

/- The plain law of FlagfuseValues: the comparison's value is what the flags of the subtraction say. No program in sight. -/
namespace Go.Proofs.YtlidimmfpfockaaGreatDoor
open Go.RowKit
theorem i32wm (n : Int) : IntKind.i32.wrap n = if 2147483648 ≤ n % 4294967296 then n % 4294967296 - 4294967296 else n % 4294967296 := by simp [IntKind.wrap, IntKind.signed, IntKind.bits]
section
variable {a b : Int} (ha : 0 ≤ a ∧ a < 4294967296) (hb : 0 ≤ b ∧ b < 4294967296)
include ha hb
omit ha hb in
end
end Go.Proofs.YtlidimmfpfockaaGreatDoor
