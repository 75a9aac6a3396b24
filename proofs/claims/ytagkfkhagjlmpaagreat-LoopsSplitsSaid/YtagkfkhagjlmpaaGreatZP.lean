/- Texts that the claim leans on, laid one behind the other: Bb, Ca, Cb, Ja, Mn, Bc, Bd, Be, Bf, Bg, Da, Db, Ga, Gb, Gc, Gd, Ge, Mj, Ml, Mo, Ha, Js, Jb, Jc, Jf, Oa, Jd, Je, Jg, Jh. -/
import Derived.Test.YtagkfkhagjlmpaaGreatBa
import Derived.Test.YtagkfkhagjlmpaaGreatFacts
import Derived.Test.YtagkfkhagjlmpaaGreatAp
import Derived.Test.YtagkfkhagjlmpaaGreatAn
import Derived.Lib.Join
import Derived.Test.YtagkfkhagjlmpaaGreatSh
import Derived.Test.YtagkfkhagjlmpaaGreatAt
set_option linter.unusedSimpArgs false
set_option linter.unusedVariables false
set_option linter.unnecessarySimpa false
/- Contracts: il.Same. -/
namespace Go.Proofs.YtagkfkhagjlmpaaGreat
open Go.RowKit
/-- Two lists of one length whose members agree. -/
def all2 (r : Ex → Ex → Bool) : List Ex → List Ex → Bool
  | [], [] => true
  | a :: l, b :: l' => r a b && all2 r l l'
  | _, _ => false
theorem all2_len {r : Ex → Ex → Bool} : ∀ {l l' : List Ex}, l.length ≠ l'.length → all2 r l l' = false
  | [], [], h => absurd rfl h
  | [], _ :: _, _ => rfl
  | _ :: _, [], _ => rfl
  | a :: l, b :: l', h => by
    simp only [all2]
    rw [all2_len (by simpa using h)]
    simp
theorem all2_get {r : Ex → Ex → Bool} : ∀ {l l' : List Ex}, l.length = l'.length → (all2 r l l' = true ↔ ∀ (i : Nat) (a b : Ex), l[i]? = some a → l'[i]? = some b → r a b = true)
  | [], [], _ => by simp [all2]
  | a :: l, b :: l', h => by
    simp only [all2, Bool.and_eq_true, all2_get (show l.length = l'.length by simpa using h)]
    constructor
    · rintro ⟨h1, h2⟩ i x y hx hy
      cases i with
      | zero => simp at hx hy; subst hx hy; exact h1
      | succ i => exact h2 i x y (by simpa using hx) (by simpa using hy)
    · intro h
      exact ⟨h 0 a b rfl rfl, fun i x y hx hy => h (i + 1) x y (by simpa using hx) (by simpa using hy)⟩
  | [], _ :: _, h => by simp at h
  | _ :: _, [], h => by simp at h
/-- Equality of expressions. -/
def sameB : Ex → Ex → Bool
  | .mk o n v w l, .mk o' n' v' w' l' => o == o' && n == n' && v == v' && w == w' && sames l l'
where sames : List Ex → List Ex → Bool
  | [], [] => true
  | a :: l, b :: l' => sameB a b && sames l l'
  | _, _ => false
theorem sameB_eq (a b : Ex) : sameB a b = (a.op == b.op && a.n == b.n && a.v == b.v && a.wd == b.wd && all2 sameB a.l b.l) := by
  have h : ∀ l l', sameB.sames l l' = all2 sameB l l' := by
    intro l
    induction l with
    | nil => intro l'; cases l' <;> rfl
    | cons a l ih => intro l'; cases l' with
      | nil => rfl
      | cons b l' => simp only [sameB.sames, all2, ih]
  cases a; cases b
  simp only [sameB, h]
  rfl
theorem refsame_af : ∀ (a b : Ex), AF Tryz.prog 115 [exA a, exA b] (aB (sameB a b)) := by
  intro a
  induction a using Ex.ind with
  | h a ih =>
    intro b
    rw [sameB_eq]
    refine af_of Tryz.func115 rfl (by kernel_rfl) (by simp [Tryz.ntmps115]) fun hb => ?_
    have n1 : a.l.length ≤ maxLen := by simpa using hb.1.2.2.2.2.1.1
    clear hb
    simp [Tryz.f115]
    refine aG_split (fun g1 => ?_) (fun g1 => by simp at g1; simp [g1])
    simp at g1
    simp [g1]
    refine aG_split (fun g2 => ?_) (fun g2 => by simp at g2; simp [g1, g2])
    simp at g2
    simp [g2]
    refine aG_split (fun g3 => ?_) (fun g3 => by simp at g3; simp [g1, g2, g3])
    simp at g3
    simp [g3]
    refine aG_split (fun g4 => ?_) (fun g4 => by simp at g4; simp [g1, g2, g3, g4])
    simp at g4
    simp [g4]
    refine aCond_split (fun g5 => ?_) (fun g5 => ?_)
    · simp at g5
      simp
      rw [all2_len (by omega)]
    have hlen : a.l.length = b.l.length := by simp at g5; omega
    simp
    refine aLoop_of (α := Nat) (fun i e A => i ≤ a.l.length ∧ A = [⟨0, true, 94, 5, [[aI .i64 a.op, aI .u32 a.n, aI .i64 a.v, aI .i64 a.wd, .d (.sl 5 (Ex.ds a.l))]]⟩, ⟨0, true, 94, 5, [[aI .i64 b.op, aI .u32 b.n, aI .i64 b.v, aI .i64 b.wd, .d (.sl 5 (Ex.ds b.l))]]⟩] ∧
      e 5 = aI .i64 i ∧ e 2 = .ptr 0 0 0 0 ∧ e 3 = .ptr 1 0 0 0 ∧
      ∀ (j : Nat) (x y : Ex), j < i → a.l[j]? = some x → b.l[j]? = some y → sameB x y = true) (fun i => a.l.length - i) 0 (Sub.refl _ _ _) ⟨by omega, by simp [g1, g2, g3, g4], by simp, by simp, by simp, by intro j a b hj; omega⟩ ?_
    rintro i e A ⟨hi, rfl, e5, e2, e3, hall⟩ K hK
    simp [e5, e2]
    refine aCond_split (fun hlt => ?_) (fun hge => ?_)
    · simp at hlt
      have hi1 := List.getElem?_eq_getElem hlt
      have hi2 := List.getElem?_eq_getElem (show i < b.l.length by omega)
      simp
      refine adraw [] (by kernel_rfl) (by kernel_rfl) (by kernel_rfl) (by kernel_rfl) ?_
      simp [e5, e2, e3, hi1, hi2, Ex.d_eq]
      refine adC_of (ih _ (List.mem_of_getElem? hi1) b.l[i]) (by simp) trivial (by simp) (by simp) ?_
      simp
      refine aCond_split (fun hf => ?_) (fun ht => ?_)
      · simp at hf
        simp
        cases h : all2 sameB a.l b.l with
        | false => rfl
        | true => rw [(all2_get hlen).1 h i _ _ hi1 hi2] at hf; cases hf
      · simp at ht
        simp [e5, succ_wrap hlt n1]
        refine hK (i + 1) _ _ _ _ (Sub.refl _ _ _) ⟨by omega, rfl, by simp, by simp [e2], by simp [e3], ?_⟩ (by omega)
        intro j x y hj hx hy
        rcases Nat.lt_or_ge j i with h | h
        · exact hall j x y h hx hy
        · obtain rfl : j = i := by omega
          rw [hi1] at hx
          rw [hi2] at hy
          simp only [Option.some.injEq] at hx hy
          subst hx hy
          exact ht
    · simp at hge
      simp
      refine (all2_get hlen).2 fun j x y ha hb => hall j x y ?_ ha hb
      have := (List.getElem?_eq_some_iff.1 ha).1
      omega
theorem sameB_refl (a : Ex) : sameB a a = true := by
  induction a using Ex.ind with
  | h a ih =>
    rw [sameB_eq]
    have : all2 sameB a.l a.l = true := by
      have : ∀ l : List Ex, (∀ x ∈ l, sameB x x = true) → all2 sameB l l = true := by
        intro l
        induction l with
        | nil => intro _; rfl
        | cons x l ih => intro h; simp only [all2, h x (by simp), ih fun y hy => h y (by simp [hy]), Bool.and_self]
      exact this a.l ih
    simp [this]
end Go.Proofs.YtagkfkhagjlmpaaGreat

/- Contracts: slices.IndexFunc, slices.ContainsFunc, at expressions; il.CheckExpr and what it calls. -/
namespace Go.Proofs.YtagkfkhagjlmpaaGreat
open Go.RowKit
/-- A call that leaves the blocks as they were, but for garbage. -/
def Same0 (A : AHeap) (r0 : AV) (r : AV) (A' : AHeap) : Prop := r = r0 ∧ ∃ N, A' = A ++ N
/-- The garbage is dropped. -/
theorem AC.drop {P : Program} {f : FuncId} {args : List AV} {A : AHeap} {r0 : AV} (h : AC P f args A (Same0 A r0)) : AC P f args A fun r A' => r = cln A.length r0 ∧ A' = A.map (clnB A.length) :=
  h.sub fun r A' ⟨hr, N, hA⟩ => by
    subst hr hA
    exact ⟨_, _, Sub.take A.length (Nat.le_refl _), rfl, by simp⟩
/-- At no blocks: a contract from data to data. -/
theorem AC.af {P : Program} {f : FuncId} {args : List AV} {r : AV} (h : AC P f args [] (Res r)) : AF P f args r := by
  intro H w vs hH hs hm
  refine (h H none0 w vs hH (rel_nil H w) hs (by rw [nn_nil]; exact hm)).mono ?_
  rintro en w' ⟨v, r', ι', A', hv, hr, hR, hst, hval⟩
  unfold Res resO at hr
  split at hr
  · rename_i r0 r1 hr0
    have := reiV_sound (ι' := none0) (A' := []) hR hr0 hval
    exact ⟨v, hv, ⟨NLe.shp _ _ _ hr this.1, NLe.mem _ _ _ hr this.2⟩, hst.ext⟩
  · exact hr.elim
/-- slices.IndexFunc, at expressions, with a predicate that changes nothing. -/
theorem indexFunc_ac {f : Nat} {fs cs : List AV} {p : Ex → Bool} (A : AHeap) (l : List Ex) (hf : okF Tryz.prog f = true) (hp : ∀ a ∈ l, ∀ N, AC Tryz.prog f (fs ++ [exA a] ++ cs) (A ++ N) (Same0 A (aB (p a)))) :
    AC Tryz.prog 170 [.d (.sl 5 (Ex.ds l)), .fn f fs cs] A (Same0 A (aI .i64 (match l.findIdx? p with | some i => (i : Int) | none => -1))) := by
  refine ac_of Tryz.func170 rfl (by kernel_rfl) (by simp [Tryz.ntmps170]) fun hb => ?_
  have n1 : l.length ≤ maxLen := by simpa using hb.1.1
  clear hb
  obtain ⟨R, hR⟩ : ∃ R : Int, (match l.findIdx? p with | some i => (i : Int) | none => -1) = R := ⟨_, rfl⟩
  rw [hR]
  simp [Tryz.f170]
  refine aLoop_of (α := Nat) (fun i e A' => i ≤ l.length ∧ (∃ N, A' = A ++ N) ∧ e 8 = aI .i64 i ∧ e 7 = aI .i64 l.length ∧ e 0 = .d (.sl 5 (Ex.ds l)) ∧ e 1 = .fn f fs cs ∧
    ∀ (j : Nat) (a : Ex), j < i → l[j]? = some a → p a = false) (fun i => l.length - i) 0 (Sub.refl _ _ _) ⟨by omega, ⟨[], by simp⟩, by simp, by simp, by simp, by simp, by intro j a hj; omega⟩ ?_
  rintro i e A' ⟨hi, ⟨N, rfl⟩, e8, e7, e0, e1, hall⟩ K hK
  simp [e8, e7]
  refine aCond_split (fun hlt => ?_) (fun hge => ?_)
  · simp at hlt
    have hi1 := List.getElem?_eq_getElem hlt
    simp [e0, e1, e8, hi1, Ex.d_eq]
    refine aCall_ofc (hp l[i] (List.mem_of_getElem? hi1) N) hf ?_
    rintro _ _ ⟨rfl, N', rfl⟩
    simp
    refine aCond_split (fun ht => ?_) (fun hf => ?_)
    · have : l.findIdx? p = some i := by
        rw [List.findIdx?_eq_some_iff_getElem]
        exact ⟨hlt, ht, fun j hj => by simpa using hall j _ hj (List.getElem?_eq_getElem (by omega))⟩
      rw [this] at hR
      subst hR
      simp [Same0]
    · simp [e8, succ_wrap hlt n1]
      refine hK (i + 1) _ _ _ _ (Sub.refl _ _ _) ⟨by omega, ⟨N', rfl⟩, by simp, by simp [e7], by simp [e0], by simp [e1], fun j a hj ha => ?_⟩ (by omega)
      rcases Nat.lt_or_ge j i with h | h
      · exact hall j a h ha
      · obtain rfl : j = i := by omega
        rw [hi1] at ha
        obtain rfl := Option.some.inj ha
        exact hf
  · simp at hge
    have : l.findIdx? p = none := by
      rw [List.findIdx?_eq_none_iff]
      intro x hx
      obtain ⟨j, hj⟩ := List.getElem?_of_mem hx
      exact hall j x (by have := (List.getElem?_eq_some_iff.1 hj).1; omega) hj
    rw [this] at hR
    subst hR
    simp [Same0]
theorem containsFunc_ac {f : Nat} {fs cs : List AV} {p : Ex → Bool} (A : AHeap) (l : List Ex) (hf : okF Tryz.prog f = true) (hp : ∀ a ∈ l, ∀ N, AC Tryz.prog f (fs ++ [exA a] ++ cs) (A ++ N) (Same0 A (aB (p a)))) :
    AC Tryz.prog 158 [.d (.sl 5 (Ex.ds l)), .fn f fs cs] A (Same0 A (aB (l.any p))) := by
  refine ac_of Tryz.func158 rfl (by kernel_rfl) (by simp [Tryz.ntmps158]) fun hb => ?_
  simp [Tryz.f158]
  refine aCall_ofc (indexFunc_ac A l hf hp) (by simp) ?_
  rintro _ _ ⟨rfl, N, rfl⟩
  simp [Same0]
  cases h : l.findIdx? p with
  | none =>
    rw [List.findIdx?_eq_none_iff] at h
    simpa using h
  | some i =>
    rw [List.findIdx?_eq_some_iff_getElem] at h
    obtain ⟨hi, hp, _⟩ := h
    simpa using ⟨_, List.getElem_mem hi, hp⟩
/-- Has an expression at most n levels? -/
def shalB : Nat → Ex → Bool
  | 0, _ => false
  | n + 1, e => e.l.all (shalB n)
theorem shallow1_ac {n : Nat} (hn : n ≤ 1000000000) (ih : ∀ e : Ex, AF Tryz.prog 134 [exA e, aI .i64 n] (aB (shalB n e))) (b0 b1 : Blk) (h1 : b1 = ⟨0, true, 3, 1, [[aI .i64 (n + 1 : Nat)]]⟩) (x : Ex) (N : AHeap) :
    AC Tryz.prog 159 [exA x, .ptr 1 0 0 0] ([b0, b1] ++ N) (Same0 [b0, b1] (aB (!shalB n x))) := by
  subst h1
  refine ac_of Tryz.func159 rfl (by kernel_rfl) (by simp [Tryz.ntmps159]) fun hb => ?_
  simp [Tryz.f159, i64w (n := (n : Int)) (by omega)]
  refine aCall_of (ih x) (by simp) (by simp) ?_
  simp [Same0]
theorem shallow_af : ∀ (n : Nat) (e : Ex), n ≤ 1000000000 → AF Tryz.prog 134 [exA e, aI .i64 n] (aB (shalB n e)) := by
  intro n
  induction n with
  | zero =>
    intro e _
    refine af_of Tryz.func134 rfl (by kernel_rfl) (by simp [Tryz.ntmps134]) fun hb => ?_
    simp [Tryz.f134, shalB]
  | succ n ih =>
    intro e hn
    refine af_of Tryz.func134 rfl (by kernel_rfl) (by simp [Tryz.ntmps134]) fun hb => ?_
    clear hb
    simp [Tryz.f134, show (1 : Int) ≤ (n : Int) + 1 by omega]
    refine aCall_ofc (containsFunc_ac _ e.l (p := fun x => !shalB n x) (by simp) fun x _ N => shallow1_ac (by omega) (fun e => ih e (by omega)) _ _ rfl x N).drop (by simp) ?_
    rintro _ _ ⟨rfl, rfl⟩
    simp
    rw [shalB, List.not_all_eq_any_not]
end Go.Proofs.YtagkfkhagjlmpaaGreat

/- Contracts: il.formed, il.CheckExpr; the reference's CheckExpr. -/
namespace Go.Proofs.YtagkfkhagjlmpaaGreat
open Go.RowKit
theorem variable_af (v : Int) : AF Tryz.prog 136 [aI .i64 v] (aB (decide (0 ≤ v) && decide (v < 65536))) := by
  refine af_of Tryz.func136 rfl (by kernel_rfl) (by simp [Tryz.ntmps136]) fun _ => ?_
  simp [Tryz.f136]
  refine aG_split (fun h => ?_) (fun h => ?_)
  · simp at h
    simp [h]
  · simp at h
    simp [show ¬ (0 : Int) ≤ v by omega]
theorem access_af (v : Int) : AF Tryz.prog 137 [aI .i64 v] (aB (decide (v = 1) || decide (v = 2) || decide (v = 4))) := by
  refine af_of Tryz.func137 rfl (by kernel_rfl) (by simp [Tryz.ntmps137]) fun _ => ?_
  by_cases h1 : v = 1
  · subst h1
    simp [Tryz.f137]
  by_cases h2 : v = 2
  · subst h2
    simp [Tryz.f137]
  simp [Tryz.f137, h1, h2]
/-- Is an expression well-formed but for its operands? -/
def okE (op n v w : Int) (k : Nat) : Bool :=
  if op = 1 then v == 0 && w == 0 && k == 0
  else if op = 2 then n == 0 && w == 0 && k == 0 && (decide (0 ≤ v) && decide (v < 65536))
  else if 3 ≤ op ∧ op ≤ 15 then n == 0 && v == 0 && w == 0 && k == 2
  else if op = 16 ∨ op = 17 then n == 0 && v == 0 && w == 0 && k == 1
  else if op = 18 then n == 0 && v == 0 && (w == 1 || w == 2 || w == 4) && k == 1
  else if op = 19 then n == 0 && v == 0 && (w == 1 || w == 2) && k == 1
  else false
/-- Is an expression well-formed, apart from its levels? -/
def formB : Ex → Bool
  | .mk op n v w l => okE op n v w l.length && forms l
where forms : List Ex → Bool
  | [] => true
  | e :: l => formB e && forms l
theorem formB_eq (e : Ex) : formB e = (okE e.op e.n e.v e.wd e.l.length && e.l.all formB) := by
  have h : ∀ l, formB.forms l = l.all formB := by
    intro l
    induction l with
    | nil => rfl
    | cons a l ih => simp only [formB.forms, ih, List.all_cons]
  cases e
  simp only [formB, h]
  rfl
theorem formed1_ac {x : Ex} (ih : AF Tryz.prog 135 [exA x] (aB (formB x))) (A N : AHeap) : AC Tryz.prog 160 [exA x] (A ++ N) (Same0 A (aB (!formB x))) := by
  refine ac_of Tryz.func160 rfl (by kernel_rfl) (by simp [Tryz.ntmps160]) fun _ => ?_
  simp [Tryz.f160]
  refine aCall_of ih (by simp) (by simp) ?_
  simp [Same0]
theorem formed_af : ∀ (e : Ex), AF Tryz.prog 135 [exA e] (aB (formB e)) := by
  intro x
  induction x using Ex.ind with
  | h x ih =>
    have hany : ∀ A : AHeap, AC Tryz.prog 158 [.d (.sl 5 (Ex.ds x.l)), .fn 160 [] []] A fun r A' => r = aB (x.l.any fun y => !formB y) ∧ A' = A.map (clnB A.length) := fun A =>
      (containsFunc_ac (fs := []) (cs := []) (p := fun y => !formB y) A x.l (by simp) fun y hy N => formed1_ac (ih y hy) A N).drop
    rw [formB_eq]
    refine af_of Tryz.func135 rfl (by kernel_rfl) (by simp [Tryz.ntmps135]) fun _ => ?_
    obtain ⟨R, hR⟩ : ∃ R, (okE x.op x.n x.v x.wd x.l.length && x.l.all formB) = R := ⟨_, rfl⟩
    rw [hR]
    have hlast : (x.l.any fun y => !formB y) = !(x.l.all formB) := by rw [List.not_all_eq_any_not]
    simp [Tryz.f135]
    by_cases h1 : x.op = 1
    · simp [h1]
      refine aG_split (fun g0 => ?_) (fun g0 => by simp at g0; rw [← hR]; simp [okE, h1, g0])
      simp at g0
      simp [g0]
      refine aG_split (fun g1 => ?_) (fun g1 => by simp at g1; rw [← hR]; simp [okE, h1, g0, g1])
      simp at g1
      simp [g1]
      refine aG_split (fun g2 => ?_) (fun g2 => by simp at g2; rw [← hR]; simp [okE, h1, g0, g1, g2])
      simp at g2
      simp [g2]
      refine aCall_ofc (by have h := hany; rw [g2] at h; exact h _) (by simp) ?_
      rintro _ _ ⟨rfl, rfl⟩
      simp
      rw [← hR]
      simp [okE, h1, g0, g1, g2]
    simp [h1]
    by_cases h2 : x.op = 2
    · simp [h2]
      refine aCall_of (variable_af x.v) (by simp) (by simp) ?_
      simp
      by_cases hv : 0 ≤ x.v ∧ x.v < 65536
      · simp [hv]
        refine aG_split (fun g0 => ?_) (fun g0 => by simp at g0; rw [← hR]; simp [okE, h1, h2, hv.1, hv.2, g0])
        simp at g0
        simp [g0]
        refine aG_split (fun g1 => ?_) (fun g1 => by simp at g1; rw [← hR]; simp [okE, h1, h2, hv.1, hv.2, g0, g1])
        simp at g1
        simp [g1]
        refine aG_split (fun g2 => ?_) (fun g2 => by simp at g2; rw [← hR]; simp [okE, h1, h2, hv.1, hv.2, g0, g1, g2])
        simp at g2
        simp [g2]
        refine aCall_ofc (by have h := hany; rw [g2] at h; exact h _) (by simp) ?_
        rintro _ _ ⟨rfl, rfl⟩
        simp
        rw [← hR]
        simp [okE, h1, h2, hv.1, hv.2, g0, g1, g2]
      · have hv' : (decide (0 ≤ x.v) && decide (x.v < 65536)) = false := by simp; omega
        simp [hv']
        rw [← hR]
        simp [okE, h1, h2, hv']
    simp [h2]
    by_cases h3 : 3 ≤ x.op ∧ x.op ≤ 15
    · simp [h3.1, h3.2]
      refine aG_split (fun g0 => ?_) (fun g0 => by simp at g0; rw [← hR]; simp [okE, h1, h2, h3.1, h3.2, g0])
      simp at g0
      simp [g0]
      refine aG_split (fun g1 => ?_) (fun g1 => by simp at g1; rw [← hR]; simp [okE, h1, h2, h3.1, h3.2, g0, g1])
      simp at g1
      simp [g1]
      refine aG_split (fun g2 => ?_) (fun g2 => by simp at g2; rw [← hR]; simp [okE, h1, h2, h3.1, h3.2, g0, g1, g2])
      simp at g2
      simp [g2]
      refine aG_split (fun g3 => ?_) (fun g3 => by simp at g3; have gk : ¬ x.l.length = 2 := (by omega); rw [← hR]; simp [okE, h1, h2, h3.1, h3.2, g0, g1, g2, gk, g3])
      simp at g3
      simp [g3]
      have gk : x.l.length = 2 := by omega
      refine aCall_ofc (hany _) (by simp) ?_
      rintro _ _ ⟨rfl, rfl⟩
      simp
      rw [← hR, hlast]
      simp [okE, h1, h2, h3.1, h3.2, g0, g1, g2, gk]
    have hno : ∀ (K1 K2 : AKont) (e : AEnv) (d : Option Nat) (A : AHeap), True := fun _ _ _ _ _ => trivial
    by_cases h3a : 3 ≤ x.op
    · have h3b : ¬ x.op ≤ 15 := fun h => h3 ⟨h3a, h⟩
      simp [h3a, h3b]
      by_cases h16 : x.op = 16
      · simp [h16]
        refine aG_split (fun g0 => ?_) (fun g0 => by simp at g0; rw [← hR]; simp [okE, h1, h2, h3a, h3b, h16, g0])
        simp at g0
        simp [g0]
        refine aG_split (fun g1 => ?_) (fun g1 => by simp at g1; rw [← hR]; simp [okE, h1, h2, h3a, h3b, h16, g0, g1])
        simp at g1
        simp [g1]
        refine aG_split (fun g2 => ?_) (fun g2 => by simp at g2; rw [← hR]; simp [okE, h1, h2, h3a, h3b, h16, g0, g1, g2])
        simp at g2
        simp [g2]
        refine aG_split (fun g3 => ?_) (fun g3 => by simp at g3; have gk : ¬ x.l.length = 1 := (by omega); rw [← hR]; simp [okE, h1, h2, h3a, h3b, h16, g0, g1, g2, gk, g3])
        simp at g3
        simp [g3]
        have gk : x.l.length = 1 := by omega
        refine aCall_ofc (hany _) (by simp) ?_
        rintro _ _ ⟨rfl, rfl⟩
        simp
        rw [← hR, hlast]
        simp [okE, h1, h2, h3a, h3b, h16, g0, g1, g2, gk]
      simp [h16]
      by_cases h17 : x.op = 17
      · simp [h17]
        refine aG_split (fun g0 => ?_) (fun g0 => by simp at g0; rw [← hR]; simp [okE, h1, h2, h3a, h3b, h16, h17, g0])
        simp at g0
        simp [g0]
        refine aG_split (fun g1 => ?_) (fun g1 => by simp at g1; rw [← hR]; simp [okE, h1, h2, h3a, h3b, h16, h17, g0, g1])
        simp at g1
        simp [g1]
        refine aG_split (fun g2 => ?_) (fun g2 => by simp at g2; rw [← hR]; simp [okE, h1, h2, h3a, h3b, h16, h17, g0, g1, g2])
        simp at g2
        simp [g2]
        refine aG_split (fun g3 => ?_) (fun g3 => by simp at g3; have gk : ¬ x.l.length = 1 := (by omega); rw [← hR]; simp [okE, h1, h2, h3a, h3b, h16, h17, g0, g1, g2, gk, g3])
        simp at g3
        simp [g3]
        have gk : x.l.length = 1 := by omega
        refine aCall_ofc (hany _) (by simp) ?_
        rintro _ _ ⟨rfl, rfl⟩
        simp
        rw [← hR, hlast]
        simp [okE, h1, h2, h3a, h3b, h16, h17, g0, g1, g2, gk]
      simp [h17]
      by_cases h18 : x.op = 18
      · simp [h18]
        refine aCall_of (access_af x.wd) (by simp) (by simp) ?_
        simp
        cases hw : (decide (x.wd = 1) || decide (x.wd = 2) || decide (x.wd = 4)) with
        | false =>
          simp [hw]
          rw [← hR]
          simp at hw
          simp [okE, h18, hw]
        | true =>
          have hw' : (x.wd == 1 || x.wd == 2 || x.wd == 4) = true := by simpa using hw
          simp [hw]
          refine aG_split (fun g0 => ?_) (fun g0 => by simp at g0; rw [← hR]; simp [okE, h18, hw', g0])
          simp at g0
          simp [g0]
          refine aG_split (fun g1 => ?_) (fun g1 => by simp at g1; rw [← hR]; simp [okE, h18, hw', g0, g1])
          simp at g1
          simp [g1]
          refine aG_split (fun g2 => ?_) (fun g2 => by simp at g2; have gk : ¬ x.l.length = 1 := (by omega); rw [← hR]; simp [okE, h18, hw', g0, g1, gk, g2])
          simp at g2
          simp [g2]
          have gk : x.l.length = 1 := by omega
          refine aCall_ofc (hany _) (by simp) ?_
          rintro _ _ ⟨rfl, rfl⟩
          simp
          rw [← hR, hlast]
          simp [okE, h18, hw', g0, g1, gk]
      simp [h18]
      by_cases h19 : x.op = 19
      · simp [h19]
        cases hw : (decide (x.wd = 1) || decide (x.wd = 2)) with
        | false =>
          simp at hw
          simp [hw]
          rw [← hR]
          simp [okE, h19, hw]
        | true =>
          have hw' : (x.wd == 1 || x.wd == 2) = true := by simpa using hw
          by_cases hw1 : x.wd = 1
          · simp [hw1]
            refine aG_split (fun g0 => ?_) (fun g0 => by simp at g0; rw [← hR]; simp [okE, h19, hw1, g0])
            simp at g0
            simp [g0]
            refine aG_split (fun g1 => ?_) (fun g1 => by simp at g1; rw [← hR]; simp [okE, h19, hw1, g0, g1])
            simp at g1
            simp [g1]
            refine aG_split (fun g2 => ?_) (fun g2 => by simp at g2; have gk : ¬ x.l.length = 1 := (by omega); rw [← hR]; simp [okE, h19, hw1, g0, g1, gk, g2])
            simp at g2
            simp [g2]
            have gk : x.l.length = 1 := by omega
            refine aCall_ofc (hany _) (by simp) ?_
            rintro _ _ ⟨rfl, rfl⟩
            simp
            rw [← hR, hlast]
            simp [okE, h19, hw1, g0, g1, gk]
          have hw2 : x.wd = 2 := by simp [hw1] at hw; exact hw
          simp [hw2]
          refine aG_split (fun g0 => ?_) (fun g0 => by simp at g0; rw [← hR]; simp [okE, h19, hw2, g0])
          simp at g0
          simp [g0]
          refine aG_split (fun g1 => ?_) (fun g1 => by simp at g1; rw [← hR]; simp [okE, h19, hw2, g0, g1])
          simp at g1
          simp [g1]
          refine aG_split (fun g2 => ?_) (fun g2 => by simp at g2; have gk : ¬ x.l.length = 1 := (by omega); rw [← hR]; simp [okE, h19, hw2, g0, g1, gk, g2])
          simp at g2
          simp [g2]
          have gk : x.l.length = 1 := by omega
          refine aCall_ofc (hany _) (by simp) ?_
          rintro _ _ ⟨rfl, rfl⟩
          simp
          rw [← hR, hlast]
          simp [okE, h19, hw2, g0, g1, gk]
      simp [h19]
      rw [← hR]
      simp [okE, h1, h2, h3a, h3b, h16, h17, h18, h19]
    · simp [h3a, show ¬ x.op = 16 by omega, show ¬ x.op = 17 by omega, show ¬ x.op = 18 by omega, show ¬ x.op = 19 by omega]
      rw [← hR]
      simp [okE, h1, h2, h3a, show ¬ x.op = 16 by omega, show ¬ x.op = 17 by omega, show ¬ x.op = 18 by omega, show ¬ x.op = 19 by omega]
theorem check_af (e : Ex) : AF Tryz.prog 102 [exA e] (aI .i64 (if shalB 64 e = true then (if formB e = true then 0 else 2) else 20)) := by
  refine af_of Tryz.func102 rfl (by kernel_rfl) (by simp [Tryz.ntmps102]) fun _ => ?_
  simp [Tryz.f102]
  refine aCall_of (shallow_af 64 e (by omega)) (by simp) (by simp) ?_
  simp
  cases h1 : shalB 64 e with
  | false => simp
  | true =>
    simp
    refine aCall_of (formed_af e) (by simp) (by simp) ?_
    simp
    cases h2 : formB e with
    | false => simp
    | true => simp
end Go.Proofs.YtagkfkhagjlmpaaGreat

/- Graphs as plain data, and as abstract values; when they are well-formed. No program in sight. -/
namespace Go.Proofs.YtagkfkhagjlmpaaGreat
open Go.RowKit
/-- A statement. -/
structure St where
  op : Int
  va : Int
  wd : Int
  nx : Int
  el : Int
  tg : Int
  e : List Ex
  cs : List Int
/-- A block. -/
structure Bl where
  ad : Int
  s : List St
/-- A graph. -/
structure Gr where
  ad : Int
  b : List Bl
/-- Numbers, as a slice's elements. -/
def i64s (l : List Int) : List (List D) := l.map fun n => [.v (.int .i64 n)]
@[simp] theorem i64s_nil : i64s [] = [] := rfl
@[simp] theorem i64s_cons (n : Int) (l : List Int) : i64s (n :: l) = [.v (.int .i64 n)] :: i64s l := rfl
@[simp] theorem i64s_len (l : List Int) : (i64s l).length = l.length := by simp [i64s]
@[simp] theorem i64s_get (l : List Int) (i : Nat) : (i64s l)[i]? = (l[i]?).map fun n => [.v (.int .i64 n)] := by simp [i64s]
@[simp] theorem i64s_at (l : List Int) (i : Nat) (h : i < (i64s l).length) : (i64s l)[i] = [.v (.int .i64 (l[i]'(by simpa using h)))] := by simp [i64s]
@[simp] theorem i64s_all (l : List Int) : (i64s l).take l.length = i64s l := by rw [List.take_of_length_le]; simp
@[simp] theorem i64s_app (l m : List Int) : i64s (l ++ m) = i64s l ++ i64s m := by simp [i64s]
def St.d (s : St) : List D := [.v (.int .i64 s.op), .v (.int .i64 s.va), .v (.int .i64 s.wd), .v (.int .i64 s.nx), .v (.int .i64 s.el), .v (.int .u32 s.tg), .sl 5 (Ex.ds s.e), .sl 1 (i64s s.cs)]
theorem St.d_eq (s : St) : St.d s = [.v (.int .i64 s.op), .v (.int .i64 s.va), .v (.int .i64 s.wd), .v (.int .i64 s.nx), .v (.int .i64 s.el), .v (.int .u32 s.tg), .sl 5 (Ex.ds s.e), .sl 1 (i64s s.cs)] := rfl
@[simp] theorem St.d_len (s : St) : (St.d s).length = 8 := rfl
/-- Statements, as a slice's elements. -/
def sts (l : List St) : List (List D) := l.map St.d
@[simp] theorem sts_nil : sts [] = [] := rfl
@[simp] theorem sts_cons (s : St) (l : List St) : sts (s :: l) = s.d :: sts l := rfl
@[simp] theorem sts_len (l : List St) : (sts l).length = l.length := by simp [sts]
@[simp] theorem sts_get (l : List St) (i : Nat) : (sts l)[i]? = (l[i]?).map St.d := by simp [sts]
@[simp] theorem sts_at (l : List St) (i : Nat) (h : i < (sts l).length) : (sts l)[i] = St.d (l[i]'(by simpa using h)) := by simp [sts]
@[simp] theorem sts_all (l : List St) : (sts l).take l.length = sts l := by rw [List.take_of_length_le]; simp
@[simp] theorem sts_app (l m : List St) : sts (l ++ m) = sts l ++ sts m := by simp [sts]
@[simp] theorem sts_take (l : List St) (n : Nat) : (sts l).take n = sts (l.take n) := by simp [sts]
def Bl.d (b : Bl) : List D := [.v (.int .u32 b.ad), .sl 8 (sts b.s)]
theorem Bl.d_eq (b : Bl) : Bl.d b = [.v (.int .u32 b.ad), .sl 8 (sts b.s)] := rfl
@[simp] theorem Bl.d_len (b : Bl) : (Bl.d b).length = 2 := rfl
/-- Blocks, as a slice's elements. -/
def bls' (l : List Bl) : List (List D) := l.map Bl.d
@[simp] theorem bls_nil : bls' [] = [] := rfl
@[simp] theorem bls_cons (b : Bl) (l : List Bl) : bls' (b :: l) = b.d :: bls' l := rfl
@[simp] theorem bls_len (l : List Bl) : (bls' l).length = l.length := by simp [bls']
@[simp] theorem bls_get (l : List Bl) (i : Nat) : (bls' l)[i]? = (l[i]?).map Bl.d := by simp [bls']
@[simp] theorem bls_at (l : List Bl) (i : Nat) (h : i < (bls' l).length) : (bls' l)[i] = Bl.d (l[i]'(by simpa using h)) := by simp [bls']
@[simp] theorem bls_all (l : List Bl) : (bls' l).take l.length = bls' l := by rw [List.take_of_length_le]; simp
@[simp] theorem bls_app (l m : List Bl) : bls' (l ++ m) = bls' l ++ bls' m := by simp [bls']
/-- A statement, by value. -/
@[simp] def stV (s : St) : AV := .agg [aI .i64 s.op, aI .i64 s.va, aI .i64 s.wd, aI .i64 s.nx, aI .i64 s.el, aI .u32 s.tg, .d (.sl 5 (Ex.ds s.e)), .d (.sl 1 (i64s s.cs))]
/-- A block, by value. -/
@[simp] def blV (b : Bl) : AV := .agg [aI .u32 b.ad, .d (.sl 8 (sts b.s))]
/-- A graph, by value. -/
@[simp] def grV (g : Gr) : AV := .agg [aI .u32 g.ad, .d (.sl 2 (bls' g.b))]
/-! ### the checks -/
/-- The error of an expression. -/
def exErr (e : Ex) : Int := if shalB 64 e = true then (if formB e = true then 0 else 2) else 20
/-- How many expressions a statement of a kind has. -/
def exprsN (op : Int) : Int :=
  if op = 1 ∨ op = 4 ∨ op = 7 ∨ op = 8 then 1 else if op = 2 then 2 else if op = 3 ∨ op = 5 ∨ op = 6 ∨ op = 9 ∨ op = 10 then 0 else -1
/-- Does a statement use the fields of its kind only? -/
def fieldsB (s : St) : Bool :=
  let va := (s.op == 1 || s.op == 3)
  (if va then decide (0 ≤ s.va) && decide (s.va < 65536) else s.va == 0) &&
  (if s.op = 2 then (s.wd == 1 || s.wd == 2 || s.wd == 4) else s.wd == 0) &&
  (s.op == 6 || s.op == 7 || s.nx == 0) && (s.op == 7 || s.el == 0) && (s.op == 5 || s.tg == 0) &&
  (if s.op = 8 then decide (1 ≤ s.cs.length) && decide (s.cs.length ≤ 64) else decide (s.cs = []))
/-- The first error of some expressions. -/
def exsErr : List Ex → Int
  | [] => 0
  | e :: l => if exErr e = 0 then exsErr l else exErr e
/-- The error of a statement. -/
def stErr (s : St) : Int := if exprsN s.op = s.e.length then (if exsErr s.e = 0 then (if fieldsB s = true then 0 else 2) else exsErr s.e) else 2
def stsErr : List St → Int
  | [] => 0
  | s :: l => if stErr s = 0 then stsErr l else stErr s
def blsErr : List Bl → Int
  | [] => 0
  | b :: l => if stsErr b.s = 0 then blsErr l else stsErr b.s
/-- Does it end a block? -/
def termB (s : St) : Bool := decide (6 ≤ s.op) && decide (s.op ≤ 10)
/-- The blocks to which a statement goes. -/
def tgts (s : St) : List Int := if s.op = 6 then [s.nx] else if s.op = 7 then [s.nx, s.el] else if s.op = 8 then s.cs else []
def succL (b : Bl) : List Int := match b.s.getLast? with
  | some s => tgts s
  | none => []
/-- Ends a block with its only terminator, which goes to blocks of n? -/
def closedB (n : Nat) (b : Bl) : Bool := match b.s.getLast? with
  | some s => termB s && !(b.s.take (b.s.length - 1)).any termB && !(tgts s).any fun k => decide (k < 0) || decide ((n : Int) ≤ k)
  | none => false
def stN : List Bl → Nat
  | [] => 0
  | b :: l => b.s.length + stN l
/-- The error of a graph. -/
def grErr (g : Gr) : Int :=
  if 256 < g.b.length ∨ 1024 < stN g.b then 6
  else if g.b.length = 0 ∨ g.b.all (closedB g.b.length) = false then 18
  else blsErr g.b
theorem blsErr_mem : ∀ {l : List Bl}, blsErr l = 0 → ∀ b ∈ l, stsErr b.s = 0
  | [], _, b, hb => by cases hb
  | a :: l, h, b, hb => by
    simp only [blsErr] at h
    split at h
    · rename_i h0
      rcases List.mem_cons.1 hb with rfl | hb
      · exact h0
      · exact blsErr_mem h b hb
    · exact absurd h ‹_›
end Go.Proofs.YtagkfkhagjlmpaaGreat

/- Contract: the reference's Insert. -/
namespace Go.Proofs.YtagkfkhagjlmpaaGreat
open Go.RowKit
end Go.Proofs.YtagkfkhagjlmpaaGreat

/- Contracts: slices.Clone, il.own, il.Two, il.Const, il.Var. -/
namespace Go.Proofs.YtagkfkhagjlmpaaGreat
open Go.RowKit
theorem bds_all {sz : Nat} : ∀ {xs : List (List D)}, BdS sz xs → ((dEls xs).all fun x => x.length == sz) = true
  | [], _ => rfl
  | x :: xs, h => by
    simp only [BdS] at h
    have := bds_all h.2.2
    simp [h.1] at this ⊢
    exact this
theorem clone_ac (A : AHeap) (xs : List (List D)) (hl : xs.length ≤ 1000000000) :
    AC Tryz.prog 56 [.d (.sl 5 xs)] A fun r A' => r = .own A.length 1 0 xs.length ∧ A' = A ++ [⟨1, true, 94, 5, dEls xs⟩] := by
  refine AC.sub (R := fun r A' => (r = .own A.length 1 0 xs.length ∧ A' = A ++ [⟨1, true, 94, 5, dEls xs⟩]) ∨ (r = .d (.v (.slice none 0 0)) ∧ xs = [] ∧ A' = A)) (ac_of Tryz.func56 rfl (by kernel_rfl) (by simp [Tryz.ntmps56]) fun hb => ?_) ?_
  · have hall := bds_all hb.1.2
    clear hb
    simp [Tryz.f56]
    refine aRaw_app byt_66 ?_
    simp [hall]
    unfold maxLen
    omega
  · rintro r A' (⟨rfl, rfl⟩ | ⟨rfl, rfl, rfl⟩)
    · exact ⟨_, _, Sub.refl _ _ _, rfl, rfl⟩
    · refine ⟨_, _, (Sub.ghost 1 94 5).trans (Sub.env (e' := fun _ => .own A'.length 1 0 0) fun i => VLe.nil_own (k := ⟨1, true, 94, 5, []⟩) (by simp) rfl), ?_, ?_⟩ <;> simp
end Go.Proofs.YtagkfkhagjlmpaaGreat

/- Contracts: il.Two, il.Const, il.Var; flagfuse's makers and conditions; the reference's makers. -/
namespace Go.Proofs.YtagkfkhagjlmpaaGreat
open Go.RowKit
def eCon (n : Int) : Ex := .mk 1 n 0 0 []
def eVar (v : Int) : Ex := .mk 2 0 v 0 []
def eTwo (op : Int) (a b : Ex) : Ex := .mk op 0 0 0 [a, b]
def eOne (op : Int) (a : Ex) : Ex := .mk op 0 0 0 [a]
section
variable (op n v : Int) (a b : Ex)
@[simp] theorem eCon_op : (eCon n).op = 1 := rfl
@[simp] theorem eCon_n : (eCon n).n = n := rfl
@[simp] theorem eCon_v : (eCon n).v = 0 := rfl
@[simp] theorem eCon_wd : (eCon n).wd = 0 := rfl
@[simp] theorem eCon_l : (eCon n).l = [] := rfl
@[simp] theorem eVar_op : (eVar v).op = 2 := rfl
@[simp] theorem eVar_n : (eVar v).n = 0 := rfl
@[simp] theorem eVar_v : (eVar v).v = v := rfl
@[simp] theorem eVar_wd : (eVar v).wd = 0 := rfl
@[simp] theorem eVar_l : (eVar v).l = [] := rfl
@[simp] theorem eTwo_op : (eTwo op a b).op = op := rfl
@[simp] theorem eTwo_n : (eTwo op a b).n = 0 := rfl
@[simp] theorem eTwo_v : (eTwo op a b).v = 0 := rfl
@[simp] theorem eTwo_wd : (eTwo op a b).wd = 0 := rfl
@[simp] theorem eTwo_l : (eTwo op a b).l = [a, b] := rfl
@[simp] theorem eOne_op : (eOne op a).op = op := rfl
@[simp] theorem eOne_n : (eOne op a).n = 0 := rfl
@[simp] theorem eOne_v : (eOne op a).v = 0 := rfl
@[simp] theorem eOne_wd : (eOne op a).wd = 0 := rfl
@[simp] theorem eOne_l : (eOne op a).l = [a] := rfl
@[simp] theorem nodes_con : (eCon n).nodes = 1 := rfl
@[simp] theorem nodes_var : (eVar v).nodes = 1 := rfl
@[simp] theorem nodes_two : (eTwo op a b).nodes = a.nodes + b.nodes + 1 := by simp [eTwo, Ex.nodes, Ex.nodess]
@[simp] theorem nodes_one : (eOne op a).nodes = a.nodes + 1 := by simp [eOne, Ex.nodes, Ex.nodess]
end
end Go.Proofs.YtagkfkhagjlmpaaGreat

/- Contracts: the conditions and the flag expressions (printed by gen_be.py). -/
namespace Go.Proofs.YtagkfkhagjlmpaaGreat
open Go.RowKit
end Go.Proofs.YtagkfkhagjlmpaaGreat

/- Contracts: the flag expressions, Recognize, size (printed by gen_be.py). -/
namespace Go.Proofs.YtagkfkhagjlmpaaGreat
open Go.RowKit
end Go.Proofs.YtagkfkhagjlmpaaGreat

/- Contracts: Recognize, of flagfuse and of the reference; the law's size. -/
namespace Go.Proofs.YtagkfkhagjlmpaaGreat
open Go.RowKit
end Go.Proofs.YtagkfkhagjlmpaaGreat

/- Contracts: strings.Join, strconv.Itoa, il's texts, as far as the examples need them. -/
namespace Go.Proofs.YtagkfkhagjlmpaaGreat
open Go.RowKit
/-- Strings, as a slice's elements. -/
def strs (xs : List ByteArray) : List (List D) := xs.map fun x => [.v (.string x)]
@[simp] theorem strs_nil : strs [] = [] := rfl
@[simp] theorem strs_cons (x : ByteArray) (xs : List ByteArray) : strs (x :: xs) = [.v (.string x)] :: strs xs := rfl
end Go.Proofs.YtagkfkhagjlmpaaGreat

/- Contracts: il.Print at the example's expression; the law's example; FlagfuseConditions. -/
namespace Go.Proofs.YtagkfkhagjlmpaaGreat
open Go.RowKit
end Go.Proofs.YtagkfkhagjlmpaaGreat

/- Contracts: the reference's makers of expressions. -/
namespace Go.Proofs.YtagkfkhagjlmpaaGreat
open Go.RowKit
end Go.Proofs.YtagkfkhagjlmpaaGreat

/- Contracts: the guards on an expression's size (law 19's Nodes and Small). -/
namespace Go.Proofs.YtagkfkhagjlmpaaGreat
open Go.RowKit
mutual
/-- What law 19's Nodes computes. -/
def nodI : Ex → Int → Int → Int
  | .mk _ _ _ _ l, m, n => if m < 1 ∨ n < 1 ∨ 4 < l.length then -1 else nodL l (m - 1) (n - 1)
def nodL : List Ex → Int → Int → Int
  | [], _, n => n
  | x :: l, m, n => if 0 ≤ n then nodL l m (nodI x m n) else n
end
theorem nodI_eq (e : Ex) (m n : Int) : nodI e m n = if m < 1 ∨ n < 1 ∨ 4 < e.l.length then -1 else nodL e.l (m - 1) (n - 1) := by
  cases e
  rw [nodI]
  rfl
theorem nodL_neg (l : List Ex) (m n : Int) (h : n < 0) : nodL l m n = n := by
  cases l with
  | nil => rw [nodL]
  | cons x l => rw [nodL, if_neg (by omega)]
mutual
theorem nodI_le : ∀ (e : Ex) (m n : Int), -1 ≤ n → -1 ≤ nodI e m n ∧ (nodI e m n = -1 ∨ nodI e m n + e.nodes = n ∧ e.depth ≤ m)
  | .mk o k v w l, m, n, h => by
    rw [nodI]
    split
    · exact ⟨by omega, .inl rfl⟩
    · rename_i hc
      have := nodL_le l (m - 1) (n - 1) (by omega)
      refine ⟨this.1, ?_⟩
      simp only [Ex.nodes, Ex.depth]
      rcases this.2 with h1 | h1
      · exact .inl h1
      · right
        omega
theorem nodL_le : ∀ (l : List Ex) (m n : Int), -1 ≤ n → -1 ≤ nodL l m n ∧ (nodL l m n = -1 ∨ nodL l m n + Ex.nodess l = n ∧ (Ex.depths l : Int) ≤ max m 0)
  | [], m, n, h => by
    rw [nodL]
    refine ⟨h, .inr ⟨by simp [Ex.nodess], by simp only [Ex.depths]; omega⟩⟩
  | x :: l, m, n, h => by
    rw [nodL]
    split
    · have h1 := nodI_le x m n h
      have h2 := nodL_le l m (nodI x m n) h1.1
      refine ⟨h2.1, ?_⟩
      simp only [Ex.nodess, Ex.depths]
      rcases h2.2 with h3 | h3
      · exact .inl h3
      · rcases h1.2 with h4 | h4
        · left
          rw [h4]
          exact nodL_neg l m _ (by omega)
        · right
          omega
    · exact ⟨h, .inl (by omega)⟩
end
theorem nodes_af : ∀ (e : Ex) (m n : Int), -1000000 ≤ m → m ≤ 1000000 → -1 ≤ n → n ≤ 1000000 → AF Tryz.prog 42 [exA e, aI .i64 m, aI .i64 n] (aI .i64 (nodI e m n)) := by
  intro e
  induction e using Ex.ind with
  | h e ih =>
  intro m n hm1 hm2 hn1 hn2
  refine af_of Tryz.func42 rfl (by kernel_rfl) (by simp [Tryz.ntmps42]) fun _ => ?_
  rw [nodI_eq]
  by_cases h1 : m < 1
  · simp [Tryz.f42, h1]
  by_cases h2 : n < 1
  · simp [Tryz.f42, h1, h2]
  by_cases h3 : 4 < e.l.length
  · simp [Tryz.f42, h1, h2, show (4 : Int) < e.l.length by omega, h3]
  simp [Tryz.f42, h1, h2, h3, show ¬ ((4 : Int) < e.l.length) by omega]
  obtain ⟨R, hR⟩ : ∃ R, nodL e.l (m - 1) (n - 1) = R := ⟨_, rfl⟩
  rw [hR]
  refine aLoop_of (α := Nat) (fun i g A => i ≤ e.l.length ∧ A = [⟨0, true, 94, 5, [[aI .i64 e.op, aI .u32 e.n, aI .i64 e.v, aI .i64 e.wd, .d (.sl 5 (Ex.ds e.l))]]⟩] ∧ g 3 = .ptr 0 0 0 0 ∧ g 8 = aI .i64 i ∧ g 1 = aI .i64 m ∧
    ∃ c : Int, g 7 = aI .i64 c ∧ -1 ≤ c ∧ c ≤ 1000000 ∧ nodL (e.l.drop i) (m - 1) c = R) (fun i => e.l.length - i) 0 (Sub.refl _ _ _)
    ⟨by omega, by simp, by simp, by simp, by simp, n - 1, by simp [i64w (n := n - 1) (by omega)], by omega, by omega, by simpa using hR⟩ ?_
  rintro i g A ⟨hi, rfl, g3, g8, g1, c, g7, hc1, hc2, hcR⟩ K hK
  rcases Nat.lt_or_ge i e.l.length with hlt | hge
  case inr =>
    obtain rfl : i = e.l.length := by omega
    simp at hcR
    rw [nodL] at hcR
    subst hcR
    simp [g3, g8, g7]
  by_cases hc : 0 ≤ c
  case neg =>
    rw [nodL_neg _ _ _ (by omega)] at hcR
    subst hcR
    simp [g3, g8, g7, hlt, hc]
  obtain ⟨x, hx⟩ : ∃ x, e.l[i]? = some x := ⟨_, List.getElem?_eq_getElem hlt⟩
  have hx' := (List.getElem?_eq_some_iff.1 hx).2
  have hd : e.l.drop i = x :: e.l.drop (i + 1) := by rw [List.drop_eq_getElem_cons hlt, hx']
  rw [hd, nodL, if_pos hc] at hcR
  simp [g3, g8, g7, g1, hlt, hc, hx, hx', Ex.d_eq, i64w (n := m - 1) (by omega)]
  have hb := nodI_le x (m - 1) c hc1
  have := Ex.nodes_pos x
  refine aCall_of (ih x (List.mem_of_getElem? hx) (m - 1) c (by omega) (by omega) hc1 hc2) (by simp) (by simp) ?_
  simp [g8, i64w (n := (i : Int) + 1) (by omega)]
  refine hK (i + 1) _ _ _ _ (Sub.refl _ _ _) ⟨by omega, by simp [Ex.d_eq], by simp [g3], by simp, by simp [g1], nodI x (m - 1) c, by simp, hb.1, by omega, hcR⟩ (by omega)
end Go.Proofs.YtagkfkhagjlmpaaGreat

/- Contracts: the reference's check of an expression. -/
namespace Go.Proofs.YtagkfkhagjlmpaaGreat
open Go.RowKit
theorem rdeep_af : ∀ (k : Nat) (e : Ex), k ≤ 1000000 → AF Tryz.prog 138 [exA e, aI .i64 k] (aB (!shalB k e)) := by
  intro k
  induction k with
  | zero =>
    intro e _
    refine af_of Tryz.func138 rfl (by kernel_rfl) (by simp [Tryz.ntmps138]) fun _ => ?_
    simp [Tryz.f138, shalB]
  | succ k ih =>
    intro e hk
    refine af_of Tryz.func138 rfl (by kernel_rfl) (by simp [Tryz.ntmps138]) fun hb => ?_
    have n1 : e.l.length ≤ maxLen := by simpa using hb.1.2.2.2.2.1.1
    clear hb
    obtain ⟨R, hR⟩ : ∃ R, (!shalB (k + 1) e) = R := ⟨_, rfl⟩
    rw [hR]
    rw [shalB] at hR
    simp [Tryz.f138, show ¬ ((k : Int) + 1 < 1) by omega]
    refine aLoop_of (α := Nat) (fun i g A => i ≤ e.l.length ∧ A = [⟨0, true, 94, 5, [[aI .i64 e.op, aI .u32 e.n, aI .i64 e.v, aI .i64 e.wd, .d (.sl 5 (Ex.ds e.l))]]⟩] ∧ g 2 = .ptr 0 0 0 0 ∧ g 5 = aI .i64 i ∧ g 1 = aI .i64 (k + 1 : Nat) ∧
      ∀ x ∈ e.l.take i, shalB k x = true) (fun i => e.l.length - i) 0 (Sub.refl _ _ _) ⟨by omega, by simp, by simp, by simp, by simp, by simp⟩ ?_
    rintro i g A ⟨hi, rfl, g2, g5, g1, hall⟩ K hK
    rcases Nat.lt_or_ge i e.l.length with hlt | hge
    case inr =>
      obtain rfl : i = e.l.length := by omega
      have : e.l.all (shalB k) = true := by simpa using hall
      rw [this] at hR
      subst hR
      simp [g2, g5]
    obtain ⟨x, hx⟩ : ∃ x, e.l[i]? = some x := ⟨_, List.getElem?_eq_getElem hlt⟩
    have hx' := (List.getElem?_eq_some_iff.1 hx).2
    simp [g2, g5, g1, hlt, hx, hx', Ex.d_eq, i64w (n := (k : Int)) (by omega)]
    refine aCall_of (ih x (by omega)) (by simp) (by simp) ?_
    simp
    refine aCond_split (fun h => ?_) (fun h => ?_)
    · simp at h
      have : e.l.all (shalB k) = false := by
        rw [List.all_eq_false]
        exact ⟨x, List.mem_of_getElem? hx, by simp [h]⟩
      rw [this] at hR
      subst hR
      simp
    · simp at h
      simp [g5, succ_wrap hlt n1]
      refine hK (i + 1) _ _ _ _ (Sub.refl _ _ _) ⟨by omega, by simp [Ex.d_eq], by simp [g2], by simp, by simp [g1], fun y hy => ?_⟩ (by omega)
      rw [List.take_add_one, hx] at hy
      rcases List.mem_append.1 hy with hy | hy
      · exact hall y hy
      · obtain rfl : y = x := by simpa using hy
        exact h
end Go.Proofs.YtagkfkhagjlmpaaGreat

/- Contracts: the reference's check of an expression (printed by gen_gd.py). -/
namespace Go.Proofs.YtagkfkhagjlmpaaGreat
open Go.RowKit
theorem risvar_af (v : Int) : AF Tryz.prog 109 [aI .i64 v] (aB (decide (0 ≤ v) && decide (v < 65536))) := by
  refine af_of Tryz.func109 rfl (by kernel_rfl) (by simp [Tryz.ntmps109]) fun _ => ?_
  by_cases h : 0 ≤ v <;> simp [Tryz.f109, h]
theorem rformed_af : ∀ (e : Ex), AF Tryz.prog 139 [exA e] (aB (formB e)) := by
  intro x
  induction x using Ex.ind with
  | h x ih =>
    rw [formB_eq]
    refine af_of Tryz.func139 rfl (by kernel_rfl) (by simp [Tryz.ntmps139]) fun hb => ?_
    have n1 : x.l.length ≤ maxLen := by simpa using hb.1.2.2.2.2.1.1
    clear hb
    obtain ⟨R, hR⟩ : ∃ R, (okE x.op x.n x.v x.wd x.l.length && x.l.all formB) = R := ⟨_, rfl⟩
    rw [hR]
    simp [Tryz.f139]
    refine aLoop_of (α := Nat) (fun i g A => i ≤ x.l.length ∧ A = [⟨0, true, 94, 5, [[aI .i64 x.op, aI .u32 x.n, aI .i64 x.v, aI .i64 x.wd, .d (.sl 5 (Ex.ds x.l))]]⟩] ∧ g 1 = .ptr 0 0 0 0 ∧ g 3 = aI .i64 i ∧
      ∀ y ∈ x.l.take i, formB y = true) (fun i => x.l.length - i) 0 (Sub.refl _ _ _) ⟨by omega, by simp, by simp, by simp, by simp⟩ ?_
    rintro i g A ⟨hi, rfl, g1, g3, hall⟩ K hK
    rcases Nat.lt_or_ge i x.l.length with hlt | hge
    case inl =>
      obtain ⟨y, hy⟩ : ∃ y, x.l[i]? = some y := ⟨_, List.getElem?_eq_getElem hlt⟩
      have hy' := (List.getElem?_eq_some_iff.1 hy).2
      simp [g1, g3, hlt, hy, hy', Ex.d_eq]
      refine aCall_of (ih y (List.mem_of_getElem? hy)) (by simp) (by simp) ?_
      simp
      refine aCond_split (fun h => ?_) (fun h => ?_)
      · simp at h
        have : x.l.all formB = false := by
          rw [List.all_eq_false]
          exact ⟨y, List.mem_of_getElem? hy, by simp [h]⟩
        rw [this, Bool.and_false] at hR
        subst hR
        simp
      · simp at h
        simp [g3, succ_wrap hlt n1]
        refine hK (i + 1) _ _ _ _ (Sub.refl _ _ _) ⟨by omega, by simp [Ex.d_eq], by simp [g1], by simp, fun z hz => ?_⟩ (by omega)
        rw [List.take_add_one, hy] at hz
        rcases List.mem_append.1 hz with hz | hz
        · exact hall z hz
        · obtain rfl : z = y := by simpa using hz
          exact h
    obtain rfl : i = x.l.length := by omega
    have hl : x.l.all formB = true := by simpa using hall
    rw [hl, Bool.and_true] at hR
    clear hl hall hK ih
    subst hR
    simp [g1, g3]
    have q1 : ((x.l.length : Int) = 1) = (x.l.length = 1) := propext (by omega)
    have q2 : ((x.l.length : Int) = 2) = (x.l.length = 2) := propext (by omega)
    by_cases h1 : x.op = 1
    · simp [h1, g1]
      by_cases c0 : x.v = 0 <;> by_cases c1 : x.wd = 0 <;> by_cases c2 : x.l.length = 0 <;> simp [g1, okE, q1, q2, h1, c0, c1, c2]
    simp [h1]
    by_cases h2 : x.op = 2
    · simp [h2, g1]
      by_cases c0 : x.n = 0
      case neg => simp [g1, okE, h2, c0]
      by_cases c1 : x.wd = 0
      case neg => simp [g1, okE, h2, c0, c1]
      by_cases c2 : x.l.length = 0
      case neg => simp [g1, okE, h2, c0, c1, c2]
      simp [g1, h2, c0, c1, c2]
      refine aCall_of (risvar_af x.v) (by simp) (by simp) ?_
      simp [okE, h2, c0, c1, c2]
    simp [h2]
    by_cases h16 : x.op = 16
    · simp [h16, g1]
      by_cases c0 : x.n = 0 <;> by_cases c1 : x.v = 0 <;> by_cases c2 : x.wd = 0 <;> by_cases c3 : x.l.length = 1 <;> simp [g1, okE, q1, q2, h16, c0, c1, c2, c3]
    simp [h16]
    by_cases h17 : x.op = 17
    · simp [h17, g1]
      by_cases c0 : x.n = 0 <;> by_cases c1 : x.v = 0 <;> by_cases c2 : x.wd = 0 <;> by_cases c3 : x.l.length = 1 <;> simp [g1, okE, q1, q2, h17, c0, c1, c2, c3]
    simp [h17]
    by_cases h18 : x.op = 18
    · simp [h18, g1]
      by_cases c0 : x.n = 0
      case neg => simp [g1, okE, h18, c0]
      by_cases c1 : x.v = 0
      case neg => simp [g1, okE, h18, c0, c1]
      by_cases w1 : x.wd = 1
      · by_cases c2 : x.l.length = 1 <;> simp [g1, okE, q1, q2, h18, c0, c1, w1, c2]
      by_cases w2 : x.wd = 2
      · by_cases c2 : x.l.length = 1 <;> simp [g1, okE, q1, q2, h18, c0, c1, w2, c2]
      by_cases w4 : x.wd = 4
      · by_cases c2 : x.l.length = 1 <;> simp [g1, okE, q1, q2, h18, c0, c1, w4, c2]
      simp [g1, okE, h18, c0, c1, w1, w2, w4]
    simp [h18]
    by_cases h19 : x.op = 19
    · simp [h19, g1]
      by_cases c0 : x.n = 0
      case neg => simp [g1, okE, h19, c0]
      by_cases c1 : x.v = 0
      case neg => simp [g1, okE, h19, c0, c1]
      by_cases w1 : x.wd = 1
      · by_cases c2 : x.l.length = 1 <;> simp [g1, okE, q1, q2, h19, c0, c1, w1, c2]
      by_cases w2 : x.wd = 2
      · by_cases c2 : x.l.length = 1 <;> simp [g1, okE, q1, q2, h19, c0, c1, w2, c2]
      simp [g1, okE, h19, c0, c1, w1, w2]
    simp [h19, g1]
    by_cases ha : 3 ≤ x.op
    case neg => simp [g1, okE, h1, h2, h16, h17, h18, h19, ha]
    by_cases hb : x.op ≤ 15
    case neg => simp [g1, okE, h1, h2, h16, h17, h18, h19, ha, hb]
    by_cases c0 : x.n = 0 <;> by_cases c1 : x.v = 0 <;> by_cases c2 : x.wd = 0 <;> by_cases c3 : x.l.length = 2 <;> simp [g1, okE, q1, q2, h1, h2, h16, h17, h18, h19, ha, hb, c0, c1, c2, c3]
theorem rcheck_af (e : Ex) : AF Tryz.prog 107 [exA e] (aI .i64 (if shalB 64 e = true then (if formB e = true then 0 else 2) else 20)) := by
  refine af_of Tryz.func107 rfl (by kernel_rfl) (by simp [Tryz.ntmps107]) fun _ => ?_
  simp [Tryz.f107]
  refine aCall_of (rdeep_af 64 e (by omega)) (by simp) (by simp) ?_
  simp
  refine aCond_split (fun h => ?_) (fun h => ?_)
  · simp at h
    simp [h]
  · simp at h
    simp [h]
    refine aCall_of (rformed_af e) (by simp) (by simp) ?_
    simp
    refine aCond_split (fun h2 => ?_) (fun h2 => ?_)
    · simp at h2
      simp [h2]
    · simp at h2
      simp [h2]
end Go.Proofs.YtagkfkhagjlmpaaGreat

/- Contracts: law 28's expressions; the reference's size. -/
namespace Go.Proofs.YtagkfkhagjlmpaaGreat
open Go.RowKit
end Go.Proofs.YtagkfkhagjlmpaaGreat

/- Contract: il.Size, by il.visit with a closure that counts. -/
namespace Go.Proofs.YtagkfkhagjlmpaaGreat
open Go.RowKit
end Go.Proofs.YtagkfkhagjlmpaaGreat

/- Contracts: the closures of il.Fresh, il.visit with them. -/
namespace Go.Proofs.YtagkfkhagjlmpaaGreat
open Go.RowKit
end Go.Proofs.YtagkfkhagjlmpaaGreat

/- The variables of an expression: in the order in which they stand; ascending, each once. No program in sight. -/
namespace Go.Proofs.YtagkfkhagjlmpaaGreat
open Go.RowKit
def Asc (l : List Int) : Prop := l.Pairwise (· < ·)
/-- Ascending lists of the same members are the same. -/
theorem asc_ext : ∀ {l m : List Int}, Asc l → Asc m → (∀ v, v ∈ l ↔ v ∈ m) → l = m
  | [], [], _, _, _ => rfl
  | [], b :: m, _, _, h => absurd ((h b).2 (by simp)) (by simp)
  | a :: l, [], _, _, h => absurd ((h a).1 (by simp)) (by simp)
  | a :: l, b :: m, h1, h2, h => by
    obtain ⟨p1, p2⟩ := List.pairwise_cons.1 h1
    obtain ⟨q1, q2⟩ := List.pairwise_cons.1 h2
    have e1 : a = b := by
      have x := (h a).1 (by simp)
      have y := (h b).2 (by simp)
      rcases List.mem_cons.1 x with rfl | x
      · rfl
      rcases List.mem_cons.1 y with rfl | y
      · rfl
      have := q1 a x
      have := p1 b y
      omega
    subst e1
    rw [asc_ext p2 q2 fun v => ?_]
    constructor
    · intro hv
      have := p1 v hv
      rcases List.mem_cons.1 ((h v).1 (by simp [hv])) with rfl | hv
      · omega
      · exact hv
    · intro hv
      have := q1 v hv
      rcases List.mem_cons.1 ((h v).2 (by simp [hv])) with rfl | hv
      · omega
      · exact hv
end Go.Proofs.YtagkfkhagjlmpaaGreat

/- The idioms as plain functions on expression trees. No program in sight. -/
namespace Go.Proofs.YtagkfkhagjlmpaaGreat
open Go.RowKit
namespace Ex
def x (e : Ex) : Ex := e.l.getD 0 (eCon 0)
def y (e : Ex) : Ex := e.l.getD 1 (eCon 0)
end Ex
section
variable (op n v w : Int) (a b : Ex) (l : List Ex)
@[simp] theorem x_two : (eTwo op a b).x = a := rfl
@[simp] theorem y_two : (eTwo op a b).y = b := rfl
@[simp] theorem x_one : (eOne op a).x = a := rfl
@[simp] theorem x_mk : (Ex.mk op n v w (a :: l)).x = a := rfl
@[simp] theorem y_mk : (Ex.mk op n v w (a :: b :: l)).y = b := rfl
end
/-- The weight of an operator. -/
def wOp (op : Int) : Nat := if op = 3 ∨ op = 4 ∨ op = 9 ∨ op = 10 ∨ op = 11 then 2 else 1
mutual
def Ex.wt : Ex → Nat
  | .mk op _ _ _ l => wOp op + wts l
def wts : List Ex → Nat
  | [] => 0
  | e :: l => e.wt + wts l
end
@[simp] theorem wt_con (n : Int) : (eCon n).wt = 1 := rfl
end Go.Proofs.YtagkfkhagjlmpaaGreat

/- Contracts: slices.IndexFunc, slices.ContainsFunc, slices.Clone, at statements and at numbers (printed by gen_slices.py). -/
namespace Go.Proofs.YtagkfkhagjlmpaaGreat
open Go.RowKit
/-- slices.IndexFunc, with a predicate that changes nothing. -/
theorem index_st_ac {f : Nat} {fs cs : List AV} {p : St → Bool} (A : AHeap) (l : List St) (hf : okF Tryz.prog f = true) (hp : ∀ a ∈ l, ∀ N, AC Tryz.prog f (fs ++ [stV a] ++ cs) (A ++ N) (Same0 A (aB (p a)))) :
    AC Tryz.prog 133 [.d (.sl 8 (sts l)), .fn f fs cs] A (Same0 A (aI .i64 (match l.findIdx? p with | some i => (i : Int) | none => -1))) := by
  refine ac_of Tryz.func133 rfl (by kernel_rfl) (by simp [Tryz.ntmps133]) fun hb => ?_
  have n1 : l.length ≤ maxLen := by simpa using hb.1.1
  clear hb
  obtain ⟨R, hR⟩ : ∃ R : Int, (match l.findIdx? p with | some i => (i : Int) | none => -1) = R := ⟨_, rfl⟩
  rw [hR]
  simp [Tryz.f133]
  refine aLoop_of (α := Nat) (fun i e A' => i ≤ l.length ∧ (∃ N, A' = A ++ N) ∧ e 8 = aI .i64 i ∧ e 7 = aI .i64 l.length ∧ e 0 = .d (.sl 8 (sts l)) ∧ e 1 = .fn f fs cs ∧
    ∀ (j : Nat) (a : St), j < i → l[j]? = some a → p a = false) (fun i => l.length - i) 0 (Sub.refl _ _ _) ⟨by omega, ⟨[], by simp⟩, by simp, by simp, by simp, by simp, by intro j a hj; omega⟩ ?_
  rintro i e A' ⟨hi, ⟨N, rfl⟩, e8, e7, e0, e1, hall⟩ K hK
  simp [e8, e7]
  refine aCond_split (fun hlt => ?_) (fun hge => ?_)
  · simp at hlt
    have hi1 := List.getElem?_eq_getElem hlt
    simp [e0, e1, e8, hi1, St.d_eq]
    refine aCall_ofc (hp l[i] (List.mem_of_getElem? hi1) N) hf ?_
    rintro _ _ ⟨rfl, N', rfl⟩
    simp
    refine aCond_split (fun ht => ?_) (fun hf => ?_)
    · have : l.findIdx? p = some i := by
        rw [List.findIdx?_eq_some_iff_getElem]
        exact ⟨hlt, ht, fun j hj => by simpa using hall j _ hj (List.getElem?_eq_getElem (by omega))⟩
      rw [this] at hR
      subst hR
      simp [Same0]
    · simp [e8, succ_wrap hlt n1]
      refine hK (i + 1) _ _ _ _ (Sub.refl _ _ _) ⟨by omega, ⟨N', rfl⟩, by simp, by simp [e7], by simp [e0], by simp [e1], fun j a hj ha => ?_⟩ (by omega)
      rcases Nat.lt_or_ge j i with h | h
      · exact hall j a h ha
      · obtain rfl : j = i := by omega
        rw [hi1] at ha
        obtain rfl := Option.some.inj ha
        exact hf
  · simp at hge
    have : l.findIdx? p = none := by
      rw [List.findIdx?_eq_none_iff]
      intro x hx
      obtain ⟨j, hj⟩ := List.getElem?_of_mem hx
      exact hall j x (by have := (List.getElem?_eq_some_iff.1 hj).1; omega) hj
    rw [this] at hR
    subst hR
    simp [Same0]
theorem contains_st_ac {f : Nat} {fs cs : List AV} {p : St → Bool} (A : AHeap) (l : List St) (hf : okF Tryz.prog f = true) (hp : ∀ a ∈ l, ∀ N, AC Tryz.prog f (fs ++ [stV a] ++ cs) (A ++ N) (Same0 A (aB (p a)))) :
    AC Tryz.prog 98 [.d (.sl 8 (sts l)), .fn f fs cs] A (Same0 A (aB (l.any p))) := by
  refine ac_of Tryz.func98 rfl (by kernel_rfl) (by simp [Tryz.ntmps98]) fun hb => ?_
  simp [Tryz.f98]
  refine aCall_ofc (index_st_ac A l hf hp) (by simp) ?_
  rintro _ _ ⟨rfl, N, rfl⟩
  simp [Same0]
  cases h : l.findIdx? p with
  | none =>
    rw [List.findIdx?_eq_none_iff] at h
    simpa using h
  | some i =>
    rw [List.findIdx?_eq_some_iff_getElem] at h
    obtain ⟨hi, hp, _⟩ := h
    simpa using ⟨_, List.getElem_mem hi, hp⟩
theorem clone_st_ac (A : AHeap) (xs : List (List D)) (hl : xs.length ≤ 1000000000) :
    AC Tryz.prog 55 [.d (.sl 8 xs)] A fun r A' => r = .own A.length 1 0 xs.length ∧ A' = A ++ [⟨1, true, 68, 8, dEls xs⟩] := by
  refine AC.sub (R := fun r A' => (r = .own A.length 1 0 xs.length ∧ A' = A ++ [⟨1, true, 68, 8, dEls xs⟩]) ∨ (r = .d (.v (.slice none 0 0)) ∧ xs = [] ∧ A' = A)) (ac_of Tryz.func55 rfl (by kernel_rfl) (by simp [Tryz.ntmps55]) fun hb => ?_) ?_
  · have hall := bds_all hb.1.2
    clear hb
    simp [Tryz.f55]
    refine aRaw_app byt_46 ?_
    simp [hall]
    unfold maxLen
    omega
  · rintro r A' (⟨rfl, rfl⟩ | ⟨rfl, rfl, rfl⟩)
    · exact ⟨_, _, Sub.refl _ _ _, rfl, rfl⟩
    · refine ⟨_, _, (Sub.ghost 1 68 8).trans (Sub.env (e' := fun _ => .own A'.length 1 0 0) fun i => VLe.nil_own (k := ⟨1, true, 68, 8, []⟩) (by simp) rfl), ?_, ?_⟩ <;> simp
/-- slices.IndexFunc, with a predicate that changes nothing. -/
theorem index_in_ac {f : Nat} {fs cs : List AV} {p : Int → Bool} (A : AHeap) (l : List Int) (hf : okF Tryz.prog f = true) (hp : ∀ a ∈ l, ∀ N, AC Tryz.prog f (fs ++ [aI .i64 a] ++ cs) (A ++ N) (Same0 A (aB (p a)))) :
    AC Tryz.prog 78 [.d (.sl 1 (i64s l)), .fn f fs cs] A (Same0 A (aI .i64 (match l.findIdx? p with | some i => (i : Int) | none => -1))) := by
  refine ac_of Tryz.func78 rfl (by kernel_rfl) (by simp [Tryz.ntmps78]) fun hb => ?_
  have n1 : l.length ≤ maxLen := by simpa using hb.1.1
  clear hb
  obtain ⟨R, hR⟩ : ∃ R : Int, (match l.findIdx? p with | some i => (i : Int) | none => -1) = R := ⟨_, rfl⟩
  rw [hR]
  simp [Tryz.f78]
  refine aLoop_of (α := Nat) (fun i e A' => i ≤ l.length ∧ (∃ N, A' = A ++ N) ∧ e 8 = aI .i64 i ∧ e 7 = aI .i64 l.length ∧ e 0 = .d (.sl 1 (i64s l)) ∧ e 1 = .fn f fs cs ∧
    ∀ (j : Nat) (a : Int), j < i → l[j]? = some a → p a = false) (fun i => l.length - i) 0 (Sub.refl _ _ _) ⟨by omega, ⟨[], by simp⟩, by simp, by simp, by simp, by simp, by intro j a hj; omega⟩ ?_
  rintro i e A' ⟨hi, ⟨N, rfl⟩, e8, e7, e0, e1, hall⟩ K hK
  simp [e8, e7]
  refine aCond_split (fun hlt => ?_) (fun hge => ?_)
  · simp at hlt
    have hi1 := List.getElem?_eq_getElem hlt
    simp [e0, e1, e8, hi1]
    refine aCall_ofc (hp l[i] (List.mem_of_getElem? hi1) N) hf ?_
    rintro _ _ ⟨rfl, N', rfl⟩
    simp
    refine aCond_split (fun ht => ?_) (fun hf => ?_)
    · have : l.findIdx? p = some i := by
        rw [List.findIdx?_eq_some_iff_getElem]
        exact ⟨hlt, ht, fun j hj => by simpa using hall j _ hj (List.getElem?_eq_getElem (by omega))⟩
      rw [this] at hR
      subst hR
      simp [Same0]
    · simp [e8, succ_wrap hlt n1]
      refine hK (i + 1) _ _ _ _ (Sub.refl _ _ _) ⟨by omega, ⟨N', rfl⟩, by simp, by simp [e7], by simp [e0], by simp [e1], fun j a hj ha => ?_⟩ (by omega)
      rcases Nat.lt_or_ge j i with h | h
      · exact hall j a h ha
      · obtain rfl : j = i := by omega
        rw [hi1] at ha
        obtain rfl := Option.some.inj ha
        exact hf
  · simp at hge
    have : l.findIdx? p = none := by
      rw [List.findIdx?_eq_none_iff]
      intro x hx
      obtain ⟨j, hj⟩ := List.getElem?_of_mem hx
      exact hall j x (by have := (List.getElem?_eq_some_iff.1 hj).1; omega) hj
    rw [this] at hR
    subst hR
    simp [Same0]
theorem contains_in_ac {f : Nat} {fs cs : List AV} {p : Int → Bool} (A : AHeap) (l : List Int) (hf : okF Tryz.prog f = true) (hp : ∀ a ∈ l, ∀ N, AC Tryz.prog f (fs ++ [aI .i64 a] ++ cs) (A ++ N) (Same0 A (aB (p a)))) :
    AC Tryz.prog 37 [.d (.sl 1 (i64s l)), .fn f fs cs] A (Same0 A (aB (l.any p))) := by
  refine ac_of Tryz.func37 rfl (by kernel_rfl) (by simp [Tryz.ntmps37]) fun hb => ?_
  simp [Tryz.f37]
  refine aCall_ofc (index_in_ac A l hf hp) (by simp) ?_
  rintro _ _ ⟨rfl, N, rfl⟩
  simp [Same0]
  cases h : l.findIdx? p with
  | none =>
    rw [List.findIdx?_eq_none_iff] at h
    simpa using h
  | some i =>
    rw [List.findIdx?_eq_some_iff_getElem] at h
    obtain ⟨hi, hp, _⟩ := h
    simpa using ⟨_, List.getElem_mem hi, hp⟩
theorem clone_in_ac (A : AHeap) (xs : List (List D)) (hl : xs.length ≤ 1000000000) :
    AC Tryz.prog 58 [.d (.sl 1 xs)] A fun r A' => r = .own A.length 1 0 xs.length ∧ A' = A ++ [⟨1, true, 3, 1, dEls xs⟩] := by
  refine AC.sub (R := fun r A' => (r = .own A.length 1 0 xs.length ∧ A' = A ++ [⟨1, true, 3, 1, dEls xs⟩]) ∨ (r = .d (.v (.slice none 0 0)) ∧ xs = [] ∧ A' = A)) (ac_of Tryz.func58 rfl (by kernel_rfl) (by simp [Tryz.ntmps58]) fun hb => ?_) ?_
  · have hall := bds_all hb.1.2
    clear hb
    simp [Tryz.f58]
    refine aRaw_app byt_49 ?_
    simp [hall]
    unfold maxLen
    omega
  · rintro r A' (⟨rfl, rfl⟩ | ⟨rfl, rfl, rfl⟩)
    · exact ⟨_, _, Sub.refl _ _ _, rfl, rfl⟩
    · refine ⟨_, _, (Sub.ghost 1 3 1).trans (Sub.env (e' := fun _ => .own A'.length 1 0 0) fun i => VLe.nil_own (k := ⟨1, true, 3, 1, []⟩) (by simp) rfl), ?_, ?_⟩ <;> simp
end Go.Proofs.YtagkfkhagjlmpaaGreat

/- Contracts: il.CheckGraph and what it calls. -/
namespace Go.Proofs.YtagkfkhagjlmpaaGreat
open Go.RowKit
theorem ilterm_af (s : St) : AF Tryz.prog 97 [stV s] (aB (termB s)) := by
  refine af_of Tryz.func97 rfl (by kernel_rfl) (by simp [Tryz.ntmps97]) fun _ => ?_; simp [Tryz.f97, Ex.d_eq]
  by_cases h : 6 ≤ s.op <;> simp [h, termB]
theorem op_cases (op : Int) : op = 1 ∨ op = 2 ∨ op = 3 ∨ op = 4 ∨ op = 5 ∨ op = 6 ∨ op = 7 ∨ op = 8 ∨ op = 9 ∨ op = 10 ∨ (¬ op = 1 ∧ ¬ op = 2 ∧ ¬ op = 3 ∧ ¬ op = 4 ∧ ¬ op = 5 ∧ ¬ op = 6 ∧ ¬ op = 7 ∧ ¬ op = 8 ∧ ¬ op = 9 ∧ ¬ op = 10) := by omega
theorem ilexprs_af (op : Int) : AF Tryz.prog 101 [aI .i64 op] (aI .i64 (exprsN op)) := by
  refine af_of Tryz.func101 rfl (by kernel_rfl) (by simp [Tryz.ntmps101]) fun _ => ?_
  rcases op_cases op with h | h | h | h | h | h | h | h | h | h | h <;> simp [Tryz.f101, exprsN, h]
theorem ilfields_af (s : St) : AF Tryz.prog 103 [stV s] (aB (fieldsB s)) := by
  obtain ⟨R, hR⟩ : ∃ R, fieldsB s = R := ⟨_, rfl⟩
  rw [hR]
  refine af_of Tryz.func103 rfl (by kernel_rfl) (by simp [Tryz.ntmps103]) fun _ => ?_
  rcases op_cases s.op with h | h | h | h | h | h | h | h | h | h | h <;> simp [Tryz.f103, h]
  case inl | inr.inr.inl =>
    have c := variable_af s.va
    cases hV : (decide (0 ≤ s.va) && decide (s.va < 65536)) <;> rw [hV] at c
    · refine aCall_of c (by simp) (by simp [Ex.d_eq]) ?_; simp [Ex.d_eq]
      rw [← hR]; simp only [fieldsB, h, hV]; simp
    · refine aCall_of c (by simp) (by simp [Ex.d_eq]) ?_; simp [Ex.d_eq]
      try simp [h]
      repeat' (refine aG_split (fun g => ?_) (fun g => ?_) <;> simp at g <;> simp [*])
      all_goals (rw [← hR]; simp only [fieldsB, h, hV]; simp [*])
  case inr.inl =>
    have c := access_af s.wd
    cases hV : (decide (s.wd = 1) || decide (s.wd = 2) || decide (s.wd = 4)) <;> rw [hV] at c
    · refine aCall_of c (by simp) (by simp [Ex.d_eq]) ?_; simp [Ex.d_eq]
      rw [← hR]; simp only [fieldsB, h]; simp at hV; simp [hV]
    · refine aCall_of c (by simp) (by simp [Ex.d_eq]) ?_; simp [Ex.d_eq]
      try simp [h]
      repeat' (refine aG_split (fun g => ?_) (fun g => ?_) <;> simp at g <;> simp [*])
      all_goals (rw [← hR]; simp only [fieldsB, h]; simp at hV; simp [*])
  case inr.inr.inr.inr.inr.inr.inl =>
    refine adraw [(5, 3)] (by kernel_rfl) (by kernel_rfl) (by kernel_rfl) (by kernel_rfl) ?_; simp [Ex.d_eq]
    try simp [h]
    repeat' (refine aG_split (fun g => ?_) (fun g => ?_) <;> simp at g <;> simp [*])
    all_goals (rw [← hR]; simp [fieldsB, *])
  case inr.inr.inr.inr.inr.inr.inr.inl =>
    by_cases g1 : s.cs.length < 1
    · have g2 : ¬ 1 ≤ s.cs.length := by omega
      have g3 : s.cs = [] := List.length_eq_zero_iff.1 (by omega)
      simp [g3]
      rw [← hR]; simp [fieldsB, h, g3]
    have g2 : 1 ≤ s.cs.length := by omega
    have g3 : ¬ (s.cs.length : Int) < 1 := by omega
    simp [g3]
    by_cases g4 : s.cs.length ≤ 64
    · have g5 : ¬ (64 : Int) < s.cs.length := by omega
      simp [g5, h]
      repeat' (refine aG_split (fun g => ?_) (fun g => ?_) <;> simp at g <;> simp [*])
      all_goals (rw [← hR]; simp [fieldsB, *])
    · have g5 : (64 : Int) < s.cs.length := by omega
      simp [g5]
      rw [← hR]; simp [fieldsB, h, g4]
  all_goals
    repeat' (refine aG_split (fun g => ?_) (fun g => ?_) <;> simp at g <;> simp [*])
    all_goals (rw [← hR]; simp [fieldsB, *])
theorem exs_drop {l : List Ex} {i : Nat} {x : Ex} (h : l[i]? = some x) : exsErr (l.drop i) = if exErr x = 0 then exsErr (l.drop (i + 1)) else exErr x := by
  obtain ⟨hi, rfl⟩ := List.getElem?_eq_some_iff.1 h
  rw [List.drop_eq_getElem_cons hi]
  rfl
theorem ilcheckst_af (s : St) (hl : s.e.length ≤ maxLen) : AF Tryz.prog 54 [stV s] (aI .i64 (stErr s)) := by
  obtain ⟨R, hR⟩ : ∃ R, stErr s = R := ⟨_, rfl⟩
  rw [hR]
  refine af_of Tryz.func54 rfl (by kernel_rfl) (by simp [Tryz.ntmps54]) fun _ => ?_; simp [Tryz.f54, Ex.d_eq]
  refine aCall_of (ilexprs_af s.op) (by simp) (by simp [Ex.d_eq]) ?_; simp [Ex.d_eq]
  by_cases h1 : exprsN s.op = s.e.length
  case neg =>
    have : R = 2 := by rw [← hR, stErr, if_neg h1]
    subst this
    by_cases h2 : exprsN s.op < 0
    · simp [h2]
    · simp [h2, h1]
  simp [h1, show ¬ (s.e.length : Int) < 0 by omega]
  refine aLoop_st (fun i : Nat => [(1, .ptr 0 0 0 0), (20, .d (.sl 5 (Ex.ds s.e))), (21, aI .i64 s.e.length), (22, aI .i64 i)]) (fun _ => [⟨0, true, 68, 8, [s.d.map AV.d]⟩])
    (fun i => i ≤ s.e.length ∧ exsErr (s.e.drop i) = exsErr s.e) (fun i => s.e.length - i) 0 (Sub.refl _ _ _) 1 (by omega) (by simp [St.d_eq]) (by simp) ⟨by omega, by simp⟩ ?_
  rintro i ⟨hi, hx⟩ K hK
  rcases Nat.lt_or_ge i s.e.length with hlt | hge
  case inr =>
    obtain rfl : i = s.e.length := by omega
    simp [exsErr] at hx
    simp [St.d_eq]
    refine aCall_of (ilfields_af s) (by simp) (by simp [Ex.d_eq]) ?_; simp [Ex.d_eq]
    rw [stErr, if_pos h1, if_pos hx.symm] at hR
    cases hf : fieldsB s <;> rw [hf] at hR <;> simp at hR <;> simp [hR]
  obtain ⟨y, hy⟩ : ∃ y, s.e[i]? = some y := ⟨_, List.getElem?_eq_getElem hlt⟩
  have hy2 := (List.getElem?_eq_some_iff.1 hy).2
  rw [exs_drop hy] at hx
  simp [hlt, hy, hy2, Ex.d_eq]
  refine aCall_of (check_af y) (by simp) (by simp [Ex.d_eq]) ?_; simp [Ex.d_eq]
  rw [show (if shalB 64 y = true then (if formB y = true then (0 : Int) else 2) else 20) = exErr y from rfl]
  by_cases h0 : exErr y = 0
  · rw [if_pos h0] at hx
    simp [h0, succ_wrap hlt hl]
    exact hK (i + 1) ⟨by omega, hx⟩ (by omega) (Sub.refl _ _ _) 1 (by omega) (by simp [St.d_eq]) (by simp)
  · rw [if_neg h0] at hx
    have : R = exErr y := by rw [← hR, stErr, if_pos h1, if_neg (by rw [← hx]; exact h0), hx]
    subst this
    simp [h0]
end Go.Proofs.YtagkfkhagjlmpaaGreat

/- Contracts: il.Successors, il.shaped, il.CheckGraph. -/
namespace Go.Proofs.YtagkfkhagjlmpaaGreat
open Go.RowKit
/-- The box of a graph, of a block. -/
abbrev gB (g : Gr) : Blk := ⟨0, true, 25, 2, [[aI .u32 g.ad, .d (.sl 2 (bls' g.b))]]⟩
abbrev bB (b : Bl) : Blk := ⟨0, true, 48, 2, [[aI .u32 b.ad, .d (.sl 8 (sts b.s))]]⟩
theorem last_get {α : Type} {l : List α} {n : Nat} (h : l.length = n + 1) : ∃ s, l[n]? = some s ∧ l.getLast? = some s := by
  refine ⟨l[n], List.getElem?_eq_getElem (by omega), ?_⟩
  rw [List.getLast?_eq_getElem?, show l.length - 1 = n by omega]
  exact List.getElem?_eq_getElem (by omega)
theorem ilsucc_af (b : Bl) (hl : b.s.length ≤ maxLen) (hc : ∀ s ∈ b.s, s.cs.length ≤ 1000000000) : AF Tryz.prog 99 [blV b] (.d (.sl 1 (i64s (succL b)))) := by
  obtain ⟨R, hR⟩ : ∃ R, succL b = R := ⟨_, rfl⟩
  rw [hR]
  refine af_of Tryz.func99 rfl (by kernel_rfl) (by simp [Tryz.ntmps99]) fun _ => ?_; simp [Tryz.f99, Ex.d_eq]
  cases hn : b.s.length with
  | zero =>
    have : b.s = [] := List.length_eq_zero_iff.1 hn
    rw [succL, this] at hR
    simp at hR
    subst hR
    simp [this]
  | succ n =>
    obtain ⟨s, hs, hs2⟩ := last_get hn
    have hs3 := (List.getElem?_eq_some_iff.1 hs).2
    have hne : ¬ b.s = [] := fun h => by rw [h] at hn; simp at hn
    unfold maxLen at hl
    rw [succL, hs2] at hR
    simp only [tgts] at hR
    simp [hn, hne, show ¬ (n : Int) + 1 = 0 by omega, i64w (n := (n : Int)) (by omega), hs, hs3, St.d_eq]
    rcases op_cases s.op with h | h | h | h | h | h | h | h | h | h | h <;> simp [h] at hR <;> subst hR <;> simp [h]
    refine aCall_ofc (clone_in_ac _ (i64s s.cs) (by simpa using hc s (List.mem_of_getElem? hs))) (by simp) ?_
    rintro _ _ ⟨rfl, rfl⟩
    simp
theorem shaped1_ac (g : Gr) (b0 : Blk) (hl : g.b.length ≤ maxLen) (k : Int) (N : AHeap) : AC Tryz.prog 100 [aI .i64 k, .ptr 0 0 0 0] ([gB g, b0] ++ N) (Same0 [gB g, b0] (aB (decide (k < 0) || decide ((g.b.length : Int) ≤ k)))) := by
  refine ac_of Tryz.func100 rfl (by kernel_rfl) (by simp [Tryz.ntmps100]) fun hb => ?_
  by_cases h : k < 0 <;> simp [Tryz.f100, h, Same0]
/-- Sizes that a machine holds. -/
def GrFit (g : Gr) : Prop := g.b.length ≤ 1000000 ∧ ∀ b ∈ g.b, b.s.length ≤ 1000000 ∧ ∀ s ∈ b.s, s.e.length ≤ 1000000 ∧ s.cs.length ≤ 2000000
theorem all_drop {α : Type} {p : α → Bool} {l : List α} {i : Nat} {x : α} (h : l[i]? = some x) : (l.drop i).all p = (p x && (l.drop (i + 1)).all p) := by
  obtain ⟨hi, rfl⟩ := List.getElem?_eq_some_iff.1 h
  rw [List.drop_eq_getElem_cons hi, List.all_cons]
theorem ilshaped_af (g : Gr) (hg : GrFit g) : AF Tryz.prog 53 [grV g] (aB (!decide (g.b.length = 0) && g.b.all (closedB g.b.length))) := by
  have hl : g.b.length ≤ maxLen := by have := hg.1; unfold maxLen; omega
  obtain ⟨R, hR⟩ : ∃ R, (!decide (g.b.length = 0) && g.b.all (closedB g.b.length)) = R := ⟨_, rfl⟩
  rw [hR]
  refine af_of Tryz.func53 rfl (by kernel_rfl) (by simp [Tryz.ntmps53]) fun _ => ?_; simp [Tryz.f53, Ex.d_eq]
  by_cases h0 : g.b = []
  · rw [h0] at hR ⊢
    simp at hR
    subst hR
    simp
  have h0' : ¬ g.b.length = 0 := fun h => h0 (List.length_eq_zero_iff.1 h)
  simp [h0'] at hR
  simp [h0, h0']
  refine aLoop_st (fun i : Nat => [(1, .ptr 0 0 0 0), (11, .d (.sl 2 (bls' g.b))), (12, aI .i64 g.b.length), (13, aI .i64 i)]) (fun _ => [gB g])
    (fun i => i ≤ g.b.length ∧ (g.b.drop i).all (closedB g.b.length) = R) (fun i => g.b.length - i) 0 (Sub.refl _ _ _) 1 (by omega) (by simp) (by simp) ⟨by omega, by simpa using hR⟩ ?_
  rintro i ⟨hi, hx⟩ K hK
  rcases Nat.lt_or_ge i g.b.length with hlt | hge
  case inr =>
    obtain rfl : i = g.b.length := by omega
    simp at hx
    subst hx
    simp
  obtain ⟨b, hb⟩ : ∃ b, g.b[i]? = some b := ⟨_, List.getElem?_eq_getElem hlt⟩
  have hb2 := (List.getElem?_eq_some_iff.1 hb).2
  obtain ⟨f1, f2⟩ := hg.2 b (List.mem_of_getElem? hb)
  have hbl : b.s.length ≤ maxLen := by unfold maxLen; omega
  rw [all_drop hb] at hx
  simp [hlt, hb, hb2, Bl.d_eq]
  cases hn : b.s.length with
  | zero =>
    have hne : b.s = [] := List.length_eq_zero_iff.1 hn
    have : closedB g.b.length b = false := by
      rw [closedB, hne]
      rfl
    rw [this] at hx
    simp at hx
    subst hx
    simp [hne]
  | succ n =>
    obtain ⟨s, hs, hs2⟩ := last_get hn
    have hs3 := (List.getElem?_eq_some_iff.1 hs).2
    have hcl : closedB g.b.length b = (termB s && !(b.s.take n).any termB && !(succL b).any fun k => decide (k < 0) || decide ((g.b.length : Int) ≤ k)) := by
      rw [closedB, succL, hs2, hn]
      rfl
    rw [hcl] at hx
    have hnn : ¬ (n : Int) + 1 = 0 := by omega
    have hne : ¬ b.s = [] := fun h => by rw [h] at hn; simp at hn
    have hw := i64w (n := (n : Int)) (by omega)
    simp [hnn, hne, hw, hs, hs3, St.d_eq, hn]
    have ct := ilterm_af s
    cases ht : termB s
    · rw [ht] at hx ct
      simp at hx
      subst hx
      refine aCall_of ct (by simp) (by simp [Ex.d_eq]) ?_; simp [Ex.d_eq]
    rw [ht] at ct hx
    refine aCall_of ct (by simp) (by simp [Ex.d_eq]) ?_; simp [Ex.d_eq]
    simp [hnn, hw, hn, show (n : Int) ≤ (n : Int) + 1 by omega]
    refine aCall_ofc (contains_st_ac (f := 97) (fs := []) (cs := []) (p := termB) [gB g, bB b] (b.s.take n) (by simp) fun a _ N => (AF.ac (A := [gB g, bB b] ++ N) (ilterm_af a) (by simp)).mono fun r A' h => ⟨h.1, N, h.2⟩).drop (by simp) ?_
    rintro _ _ ⟨rfl, rfl⟩
    simp
    cases ha : (b.s.take n).any termB <;> rw [ha] at hx
    · simp at hx
      simp
      refine aCall_of (ilsucc_af b hbl fun s hs => by have := (f2 s hs).2; omega) (by simp) (by simp [Ex.d_eq]) ?_; simp [Ex.d_eq]
      refine aCall_ofc (contains_in_ac (f := 100) (fs := []) (cs := [.ptr 0 0 0 0]) (p := fun k => decide (k < 0) || decide ((g.b.length : Int) ≤ k)) [gB g, bB b] (succL b) (by simp) fun a _ N => shaped1_ac g (bB b) hl a N).drop (by simp) ?_
      rintro _ _ ⟨rfl, rfl⟩
      simp
      cases hk : (succL b).any fun k => decide (k < 0) || decide ((g.b.length : Int) ≤ k)
      · rw [hk] at hx
        simp at hx
        simp [succ_wrap hlt hl]
        exact hK (i + 1) ⟨by omega, by simpa using hx⟩ (by omega) (Sub.refl _ _ _) 1 (by omega) (by simp) (by simp)
      · rw [hk] at hx
        simp at hx
        subst hx
        simp
    · simp at hx
      subst hx
      simp
theorem stN_app : ∀ (l m : List Bl), stN (l ++ m) = stN l + stN m
  | [], m => by simp [stN]
  | b :: l, m => by simp only [List.cons_append, stN, stN_app l m]; omega
theorem stN_take {l : List Bl} {i : Nat} {b : Bl} (h : l[i]? = some b) : stN (l.take (i + 1)) = stN (l.take i) + b.s.length := by
  rw [List.take_add_one, h, stN_app]
  simp [stN]
theorem stN_le : ∀ {l : List Bl}, (∀ b ∈ l, b.s.length ≤ 1000000) → stN l ≤ 1000000 * l.length
  | [], _ => by simp [stN]
  | b :: l, h => by
    have h1 := stN_le fun x hx => h x (List.mem_cons_of_mem b hx)
    have h2 := h b (List.mem_cons_self ..)
    simp only [stN, List.length_cons]
    omega
theorem bls_drop {l : List Bl} {i : Nat} {x : Bl} (h : l[i]? = some x) : blsErr (l.drop i) = if stsErr x.s = 0 then blsErr (l.drop (i + 1)) else stsErr x.s := by
  obtain ⟨hi, rfl⟩ := List.getElem?_eq_some_iff.1 h
  rw [List.drop_eq_getElem_cons hi]
  rfl
theorem sts_drop {l : List St} {i : Nat} {x : St} (h : l[i]? = some x) : stsErr (l.drop i) = if stErr x = 0 then stsErr (l.drop (i + 1)) else stErr x := by
  obtain ⟨hi, rfl⟩ := List.getElem?_eq_some_iff.1 h
  rw [List.drop_eq_getElem_cons hi]
  rfl
theorem ilcheckg_af (g : Gr) (hg : GrFit g) : AF Tryz.prog 21 [grV g] (aI .i64 (grErr g)) := by
  have hl : g.b.length ≤ maxLen := by have := hg.1; unfold maxLen; omega
  have hN : ∀ i, stN (g.b.take i) ≤ 1000000000000 := fun i => by
    have h1 := stN_le (l := g.b.take i) fun b hb => (hg.2 b (List.mem_of_mem_take hb)).1
    have h2 := hg.1
    have h3 : (g.b.take i).length ≤ g.b.length := by simp; omega
    have := Nat.mul_le_mul_left 1000000 (Nat.le_trans h3 h2)
    omega
  obtain ⟨R, hR⟩ : ∃ R, grErr g = R := ⟨_, rfl⟩
  rw [hR]
  refine af_of Tryz.func21 rfl (by kernel_rfl) (by simp [Tryz.ntmps21]) fun _ => ?_; simp [Tryz.f21, Ex.d_eq]
  refine aLoop_st (fun i : Nat => [(1, .ptr 0 0 0 0), (12, .d (.sl 2 (bls' g.b))), (13, aI .i64 g.b.length), (14, aI .i64 i), (3, aI .i64 (stN (g.b.take i)))]) (fun _ => [gB g])
    (fun i => i ≤ g.b.length) (fun i => g.b.length - i) 0 (Sub.refl _ _ _) 1 (by omega) (by simp) (by simp [stN]) (by omega) ?_
  rintro i hi K hK
  rcases Nat.lt_or_ge i g.b.length with hlt | hge
  case inl =>
    obtain ⟨b, hb⟩ : ∃ b, g.b[i]? = some b := ⟨_, List.getElem?_eq_getElem hlt⟩
    have hb2 := (List.getElem?_eq_some_iff.1 hb).2
    have hs := stN_take hb
    have h1 := hN (i + 1)
    simp [hlt, hb, hb2, Bl.d_eq, succ_wrap hlt hl, i64w (n := (stN (g.b.take i) : Int) + b.s.length) (by omega)]
    exact hK (i + 1) (by omega) (by omega) (Sub.refl _ _ _) 1 (by omega) (by simp) (by simp [hs])
  obtain rfl : i = g.b.length := by omega
  rw [List.take_length]
  rw [grErr] at hR
  simp
  by_cases h1 : 256 < g.b.length
  · rw [if_pos (.inl h1)] at hR
    simp [show (256 : Int) < g.b.length by omega, hR]
  simp [show ¬ (256 : Int) < g.b.length by omega]
  by_cases h2 : 1024 < stN g.b
  · rw [if_pos (.inr h2)] at hR
    simp [show (1024 : Int) < stN g.b by omega, hR]
  simp [show ¬ (1024 : Int) < stN g.b by omega]
  rw [if_neg (by omega)] at hR
  have c := ilshaped_af g hg
  cases h3 : (!decide (g.b.length = 0) && g.b.all (closedB g.b.length)) <;> rw [h3] at c
  · rw [if_pos (by simp at h3; by_cases h0 : g.b.length = 0; exact .inl h0; right; simpa using h3 (fun h => h0 (by rw [h]; rfl)))] at hR
    subst hR
    refine aCall_of c (by simp) (by simp [Ex.d_eq]) ?_; simp [Ex.d_eq]
  rw [if_neg (by simp at h3; rintro (h | h); exact h3.1 (List.length_eq_zero_iff.1 h); rw [List.all_eq_false] at h; obtain ⟨x, hx, hx2⟩ := h; exact hx2 (h3.2 x hx))] at hR
  refine aCall_of c (by simp) (by simp [Ex.d_eq]) ?_; simp [Ex.d_eq]
  clear hK K c
  refine aLoop_st (fun i : Nat => [(1, .ptr 0 0 0 0), (36, .d (.sl 2 (bls' g.b))), (37, aI .i64 g.b.length), (38, aI .i64 i)]) (fun _ => [gB g])
    (fun i => i ≤ g.b.length ∧ blsErr (g.b.drop i) = R) (fun i => g.b.length - i) 0 (Sub.refl _ _ _) 1 (by omega) (by simp) (by simp) ⟨by omega, by simpa using hR⟩ ?_
  rintro i ⟨hi, hx⟩ K hK
  rcases Nat.lt_or_ge i g.b.length with hlt | hge
  case inr =>
    obtain rfl : i = g.b.length := by omega
    simp [blsErr] at hx
    simp [hx]
  obtain ⟨b, hb⟩ : ∃ b, g.b[i]? = some b := ⟨_, List.getElem?_eq_getElem hlt⟩
  have hb2 := (List.getElem?_eq_some_iff.1 hb).2
  obtain ⟨f1, f2⟩ := hg.2 b (List.mem_of_getElem? hb)
  have hbl : b.s.length ≤ maxLen := by unfold maxLen; omega
  rw [bls_drop hb] at hx
  simp [hlt, hb, hb2, Bl.d_eq]
  refine aLoop_st (fun k : Nat => [(1, .ptr 0 0 0 0), (36, .d (.sl 2 (bls' g.b))), (37, aI .i64 g.b.length), (38, aI .i64 i), (43, .d (.sl 8 (sts b.s))), (44, aI .i64 b.s.length), (45, aI .i64 k)]) (fun _ => [gB g])
    (fun k => k ≤ b.s.length ∧ stsErr (b.s.drop k) = stsErr b.s) (fun k => b.s.length - k) 0 (Sub.refl _ _ _) 1 (by omega) (by simp) (by simp) ⟨by omega, by simp⟩ ?_
  rintro k ⟨hk, hy⟩ K2 hK2
  rcases Nat.lt_or_ge k b.s.length with hlt2 | hge2
  case inr =>
    obtain rfl : k = b.s.length := by omega
    simp [stsErr] at hy
    rw [if_pos hy.symm] at hx
    simp [succ_wrap hlt hl]
    exact hK (i + 1) ⟨by omega, hx⟩ (by omega) (Sub.refl _ _ _) 1 (by omega) (by simp) (by simp)
  obtain ⟨s, hs⟩ : ∃ s, b.s[k]? = some s := ⟨_, List.getElem?_eq_getElem hlt2⟩
  have hs2 := (List.getElem?_eq_some_iff.1 hs).2
  have f3 := (f2 s (List.mem_of_getElem? hs)).1
  rw [sts_drop hs] at hy
  simp [hlt2, hs, hs2, St.d_eq]
  refine aCall_of (ilcheckst_af s (by unfold maxLen; omega)) (by simp) (by simp [Ex.d_eq]) ?_; simp [Ex.d_eq]
  by_cases h0 : stErr s = 0
  · rw [if_pos h0] at hy
    simp [h0, succ_wrap hlt2 hbl]
    exact hK2 (k + 1) ⟨by omega, hy⟩ (by omega) (Sub.refl _ _ _) 1 (by omega) (by simp) (by simp)
  · rw [if_neg h0] at hy
    rw [if_neg (by rw [← hy]; exact h0), ← hy] at hx
    subst hx
    simp [h0]
end Go.Proofs.YtagkfkhagjlmpaaGreat

/- Contracts: the reference's comparisons of numbers, statements, graphs. -/
namespace Go.Proofs.YtagkfkhagjlmpaaGreat
open Go.RowKit
end Go.Proofs.YtagkfkhagjlmpaaGreat

/- The rewriting of blocks by flagfuse as plain functions. No program in sight. -/
namespace Go.Proofs.YtagkfkhagjlmpaaGreat
open Go.RowKit
end Go.Proofs.YtagkfkhagjlmpaaGreat

/- Contracts: the reference's CheckGraph and what it calls. -/
namespace Go.Proofs.YtagkfkhagjlmpaaGreat
open Go.RowKit
theorem r19ends_af (s : St) : AF Tryz.prog 104 [stV s] (aB (termB s)) := by
  refine af_of Tryz.func104 rfl (by kernel_rfl) (by simp [Tryz.ntmps104]) fun _ => ?_; simp [Tryz.f104, Ex.d_eq]
  by_cases h : 6 ≤ s.op <;> simp [h, termB]
theorem r19exprs_af (op : Int) (h1 : 1 ≤ op) (h2 : op ≤ 10) : AF Tryz.prog 106 [aI .i64 op] (aI .i64 (exprsN op)) := by
  refine af_of Tryz.func106 rfl (by kernel_rfl) (by simp [Tryz.ntmps106]) fun _ => ?_
  rcases op_cases op with h | h | h | h | h | h | h | h | h | h | h <;> first | omega | simp [Tryz.f106, exprsN, h]
def unusedB (s : St) : Bool :=
  (s.op == 1 || s.op == 3 || s.va == 0) && (s.op == 2 || s.wd == 0) && (s.op == 6 || s.op == 7 || s.nx == 0) && (s.op == 7 || s.el == 0) && (s.op == 5 || s.tg == 0) && (s.op == 8 || decide (s.cs = []))
set_option maxHeartbeats 1000000 in
theorem r19unused_af (s : St) : AF Tryz.prog 108 [stV s] (aB (unusedB s)) := by
  obtain ⟨R, hR⟩ : ∃ R, unusedB s = R := ⟨_, rfl⟩
  rw [hR]
  refine af_of Tryz.func108 rfl (by kernel_rfl) (by simp [Tryz.ntmps108]) fun _ => ?_
  rcases op_cases s.op with h | h | h | h | h | h | h | h | h | h | h <;> simp [Tryz.f108, h]
  all_goals
    repeat' (refine aG_split (fun g => ?_) (fun g => ?_) <;> simp at g <;> simp [*])
    all_goals (rw [← hR]; simp [unusedB, *])
theorem fields_ref (s : St) : fieldsB s = (unusedB s && (decide (0 ≤ s.va) && decide (s.va < 65536)) && !(decide (s.op = 2) && !decide (s.wd = 1) && !decide (s.wd = 2) && !decide (s.wd = 4)) && !(decide (s.op = 8) && (decide (s.cs.length < 1) || decide (64 < s.cs.length)))) := by
  rw [Bool.eq_iff_iff]
  rcases op_cases s.op with h | h | h | h | h | h | h | h | h | h | h <;> simp [fieldsB, unusedB, h] <;> simp only [← List.length_eq_zero_iff] <;> omega
end Go.Proofs.YtagkfkhagjlmpaaGreat

/- Contracts: the reference's CheckStmt, isClosed, CheckGraph. -/
namespace Go.Proofs.YtagkfkhagjlmpaaGreat
open Go.RowKit
theorem r19checkst_af (s : St) (hl : s.e.length ≤ maxLen) : AF Tryz.prog 60 [stV s] (aI .i64 (stErr s)) := by
  obtain ⟨R, hR⟩ : ∃ R, stErr s = R := ⟨_, rfl⟩
  rw [hR]
  refine af_of Tryz.func60 rfl (by kernel_rfl) (by simp [Tryz.ntmps60]) fun _ => ?_; simp [Tryz.f60, Ex.d_eq]
  by_cases h1 : s.op < 1
  · have : exprsN s.op = -1 := by unfold exprsN; rw [if_neg (by omega), if_neg (by omega), if_neg (by omega)]
    rw [stErr, if_neg (by rw [this]; omega)] at hR
    subst hR
    refine adraw [] (by kernel_rfl) (by kernel_rfl) (by kernel_rfl) (by kernel_rfl) ?_; simp [Ex.d_eq]
    simp [h1]
  by_cases h2 : 10 < s.op
  · have : exprsN s.op = -1 := by unfold exprsN; rw [if_neg (by omega), if_neg (by omega), if_neg (by omega)]
    rw [stErr, if_neg (by rw [this]; omega)] at hR
    subst hR
    refine adraw [] (by kernel_rfl) (by kernel_rfl) (by kernel_rfl) (by kernel_rfl) ?_; simp [Ex.d_eq]
    simp [h1, h2]
  refine adraw [] (by kernel_rfl) (by kernel_rfl) (by kernel_rfl) (by kernel_rfl) ?_; simp [Ex.d_eq]
  simp [h1, h2]
  refine adC_of (r19exprs_af s.op (by omega) (by omega)) (by simp) trivial (by simp) (by simp [Ex.d_eq]) ?_; simp [Ex.d_eq]
  by_cases h3 : exprsN s.op = s.e.length
  case neg =>
    rw [stErr, if_neg h3] at hR
    subst hR
    simp [show ¬ (s.e.length : Int) = exprsN s.op from fun h => h3 h.symm]
  simp [h3]
  refine aLoop_st (fun i : Nat => [(1, .ptr 0 0 0 0), (3, aI .i64 i)]) (fun _ => [⟨0, true, 68, 8, [s.d.map AV.d]⟩])
    (fun i => i ≤ s.e.length ∧ exsErr (s.e.drop i) = exsErr s.e) (fun i => s.e.length - i) 0 (Sub.refl _ _ _) 1 (by omega) (by simp [St.d_eq]) (by simp) ⟨by omega, by simp⟩ ?_
  rintro i ⟨hi, hx⟩ K hK
  rcases Nat.lt_or_ge i s.e.length with hlt | hge
  case inr =>
    obtain rfl : i = s.e.length := by omega
    simp [exsErr] at hx
    rw [stErr, if_pos h3, if_pos hx.symm, fields_ref] at hR
    simp [St.d_eq]
    have c1 := r19unused_af s
    cases hU : unusedB s <;> rw [hU] at c1 hR
    · simp at hR
      subst hR
      refine aCall_of c1 (by simp) (by simp [Ex.d_eq]) ?_; simp [Ex.d_eq]
    refine aCall_of c1 (by simp) (by simp [Ex.d_eq]) ?_; simp [Ex.d_eq]
    have c2 := risvar_af s.va
    cases hV : (decide (0 ≤ s.va) && decide (s.va < 65536)) <;> rw [hV] at c2 hR
    · simp at hR
      subst hR
      refine aCall_of c2 (by simp) (by simp [Ex.d_eq]) ?_; simp [Ex.d_eq]
    refine aCall_of c2 (by simp) (by simp [Ex.d_eq]) ?_; simp [Ex.d_eq]
    by_cases h2 : s.op = 2
    · by_cases w1 : s.wd = 1
      · simp [h2, w1] at hR
        subst hR
        simp [h2, w1, St.d_eq]
      by_cases w2 : s.wd = 2
      · simp [h2, w2] at hR
        subst hR
        simp [h2, w2, St.d_eq]
      by_cases w4 : s.wd = 4
      · simp [h2, w4] at hR
        subst hR
        simp [h2, w4, St.d_eq]
      simp [h2, w1, w2, w4] at hR
      subst hR
      simp [h2, w1, w2, w4, St.d_eq]
    · by_cases h8 : s.op = 8
      · by_cases g1 : s.cs.length < 1
        · have g2 : s.cs = [] := List.length_eq_zero_iff.1 (by omega)
          simp [h8, g2] at hR
          subst hR
          simp [h2, h8, g2, St.d_eq]
        · have g2 : ¬ (s.cs.length : Int) < 1 := by omega
          have g4 : ¬ s.cs = [] := fun h => by rw [h] at g1; simp at g1
          by_cases g3 : 64 < s.cs.length
          · have g5 : (64 : Int) < s.cs.length := by omega
            simp [h8, g3] at hR
            subst hR
            simp [h2, h8, g2, g5, St.d_eq]
          · have g5 : ¬ (64 : Int) < s.cs.length := by omega
            simp [h8, g1, g3, g4] at hR
            subst hR
            simp [h2, h8, g2, g5, St.d_eq]
      · simp [h2, h8] at hR
        subst hR
        simp [h2, h8, St.d_eq]
  obtain ⟨y, hy⟩ : ∃ y, s.e[i]? = some y := ⟨_, List.getElem?_eq_getElem hlt⟩
  have hy2 := (List.getElem?_eq_some_iff.1 hy).2
  rw [exs_drop hy] at hx
  simp [hlt, hy, hy2, Ex.d_eq, St.d_eq]
  refine aCall_of (rcheck_af y) (by simp) (by simp [Ex.d_eq]) ?_; simp [Ex.d_eq]
  rw [show (if shalB 64 y = true then (if formB y = true then (0 : Int) else 2) else 20) = exErr y from rfl]
  by_cases h0 : exErr y = 0
  · rw [if_pos h0] at hx
    simp [h0, succ_wrap hlt hl]
    exact hK (i + 1) ⟨by omega, hx⟩ (by omega) (Sub.refl _ _ _) 1 (by omega) (by simp [St.d_eq]) (by simp)
  · rw [if_neg h0] at hx
    have : R = exErr y := by rw [← hR, stErr, if_pos h3, if_neg (by rw [← hx]; exact h0), hx]
    subst this
    simp [h0]
theorem r19targets_af (s : St) : AF Tryz.prog 105 [stV s] (.d (.sl 1 (i64s (tgts s)))) := by
  refine af_of Tryz.func105 rfl (by kernel_rfl) (by simp [Tryz.ntmps105]) fun _ => ?_
  rcases op_cases s.op with h | h | h | h | h | h | h | h | h | h | h <;> simp [Tryz.f105, tgts, h]
theorem any_drop {α : Type} {p : α → Bool} {l : List α} {i : Nat} {x : α} (h : l[i]? = some x) : (l.drop i).any p = (p x || (l.drop (i + 1)).any p) := by
  obtain ⟨hi, rfl⟩ := List.getElem?_eq_some_iff.1 h
  rw [List.drop_eq_getElem_cons hi, List.any_cons]
/-- Ends a block with its only terminator? -/
theorem closed_ends {l : List St} {n : Nat} {s : St} (hn : l.length = n + 1) (hs : l[n]? = some s) : (termB s && !(l.take n).any termB) = true ↔ ∀ (i : Nat) (x : St), l[i]? = some x → termB x = decide (i = n) := by
  constructor
  · intro h i x hx
    simp at h
    have hi := (List.getElem?_eq_some_iff.1 hx).1
    by_cases hin : i = n
    · subst hin
      rw [hs] at hx
      obtain rfl := Option.some.inj hx
      simp [h.1]
    · have : x ∈ l.take n := List.mem_of_getElem? (i := i) (by rw [List.getElem?_take, if_pos (by omega)]; exact hx)
      simpa [hin] using h.2 x this
  · intro h
    simp
    refine ⟨by simpa using h n s hs, fun x hx => ?_⟩
    obtain ⟨i, hi⟩ := List.getElem?_of_mem hx
    rw [List.getElem?_take] at hi
    split at hi
    · simpa [show i ≠ n by omega] using h i x hi
    · cases hi
theorem r19closed_af (b : Bl) (n : Nat) (hl : b.s.length ≤ 1000000) (hn : n ≤ 1000000) (hc : ∀ s ∈ b.s, s.cs.length ≤ 2000000) : AF Tryz.prog 59 [blV b, aI .i64 n] (aB (closedB n b)) := by
  have hbl : b.s.length ≤ maxLen := by unfold maxLen; omega
  obtain ⟨R, hR⟩ : ∃ R, closedB n b = R := ⟨_, rfl⟩
  rw [hR]
  refine af_of Tryz.func59 rfl (by kernel_rfl) (by simp [Tryz.ntmps59]) fun _ => ?_; simp [Tryz.f59, Ex.d_eq]
  cases hm : b.s.length with
  | zero =>
    have hne : b.s = [] := List.length_eq_zero_iff.1 hm
    rw [closedB, hne] at hR
    simp at hR
    subst hR
    simp [hne]
  | succ m =>
    obtain ⟨s, hs, hs2⟩ := last_get hm
    have hs3 := (List.getElem?_eq_some_iff.1 hs).2
    have hne : ¬ b.s = [] := fun h => by rw [h] at hm; simp at hm
    have hcl : closedB n b = ((termB s && !(b.s.take m).any termB) && !(tgts s).any fun k => decide (k < 0) || decide ((n : Int) ≤ k)) := by
      rw [closedB, hs2, hm]
      rfl
    have hends := closed_ends hm hs
    have hw := i64w (n := (m : Int)) (by omega)
    simp [hne]
    refine aLoop_st (fun i : Nat => [(2, .ptr 0 0 0 0), (5, aI .i64 i), (1, aI .i64 n)]) (fun _ => [bB b])
      (fun i => i ≤ b.s.length ∧ ∀ (j : Nat) (x : St), j < i → b.s[j]? = some x → termB x = decide (j = m)) (fun i => b.s.length - i) 0 (Sub.refl _ _ _) 1 (by omega) (by simp) (by simp) ⟨by omega, by intro j x hj; omega⟩ ?_
    rintro i ⟨hi, hx⟩ K hK
    rcases Nat.lt_or_ge i b.s.length with hlt | hge
    case inl =>
      obtain ⟨y, hy⟩ : ∃ y, b.s[i]? = some y := ⟨_, List.getElem?_eq_getElem hlt⟩
      have hy2 := (List.getElem?_eq_some_iff.1 hy).2
      simp [hlt]
      refine adraw [] (by kernel_rfl) (by kernel_rfl) (by kernel_rfl) (by kernel_rfl) ?_; simp [Ex.d_eq]
      simp [hlt, hy, hy2, St.d_eq]
      refine adC_of (r19ends_af y) (by simp) trivial (by simp) (by simp [Ex.d_eq]) ?_; simp [Ex.d_eq]
      simp [hm, hw]
      by_cases ht : termB y = decide (i = m)
      · have ht2 : termB y = decide ((i : Int) = m) := by rw [ht, Bool.eq_iff_iff]; simp; omega
        simp [ht2, succ_wrap hlt hbl]
        refine hK (i + 1) ⟨by omega, fun j x hj hjx => ?_⟩ (by omega) (Sub.refl _ _ _) 1 (by omega) (by simp) (by simp)
        rcases Nat.lt_or_ge j i with h | h
        · exact hx j x h hjx
        · obtain rfl : j = i := by omega
          rw [hy] at hjx
          obtain rfl := Option.some.inj hjx
          exact ht
      · have ht2 : ¬ termB y = decide ((i : Int) = m) := fun h => ht (by rw [h, Bool.eq_iff_iff]; simp; omega)
        have : R = false := by
          rw [← hR, hcl]
          cases h : (termB s && !(b.s.take m).any termB)
          · rfl
          · exact absurd (hends.1 h i y hy) ht
        subst this
        cases hty : termB y <;> by_cases him : (i : Int) = m <;> simp [hty, him] at ht2 ⊢
    obtain rfl : i = b.s.length := by omega
    rw [hcl, hends.2 fun j x hj => hx j x (List.getElem?_eq_some_iff.1 hj).1 hj, Bool.true_and] at hR
    have hts : (tgts s).length ≤ 2000000 := by
      have := hc s (List.mem_of_getElem? hs)
      unfold tgts
      split <;> (try split) <;> (try split) <;> simp <;> omega
    simp [hm, hw, hs, hs3, St.d_eq]
    refine aCall_of (r19targets_af s) (by simp) (by simp [Ex.d_eq]) ?_; simp [Ex.d_eq]
    generalize tgts s = T at *
    clear hK hx K hcl
    refine aLoop_st (fun i : Nat => [(6, .d (.sl 1 (i64s T))), (7, aI .i64 i), (1, aI .i64 n)]) (fun _ => [])
      (fun i => i ≤ T.length ∧ (!(T.drop i).any fun k => decide (k < 0) || decide ((n : Int) ≤ k)) = R) (fun i => T.length - i) 0 (Sub.refl _ _ _) 0 (by omega) (by simp) (by simp) ⟨by omega, by simpa using hR⟩ ?_
    rintro i ⟨hi, hx⟩ K hK
    rcases Nat.lt_or_ge i T.length with hlt | hge
    case inr =>
      obtain rfl : i = T.length := by omega
      simp at hx
      subst hx
      simp
    obtain ⟨k, hk⟩ : ∃ k, T[i]? = some k := ⟨_, List.getElem?_eq_getElem hlt⟩
    have hk2 := (List.getElem?_eq_some_iff.1 hk).2
    rw [any_drop hk] at hx
    by_cases h1 : k < 0
    · simp [h1] at hx
      subst hx
      simp [hlt, hk, hk2, h1]
    by_cases h2 : (n : Int) ≤ k
    · simp [h2] at hx
      subst hx
      simp [hlt, hk, hk2, h1, h2]
    simp [h1, h2] at hx
    simp [hlt, hk, hk2, h1, h2, i64w (n := (i : Int) + 1) (by omega)]
    exact hK (i + 1) ⟨by omega, by simpa using hx⟩ (by omega) (Sub.refl _ _ _) 0 (by omega) (by simp) (by simp)
theorem r19checkg_af (g : Gr) (hg : GrFit g) : AF Tryz.prog 25 [grV g] (aI .i64 (grErr g)) := by
  have hl : g.b.length ≤ maxLen := by have := hg.1; unfold maxLen; omega
  have hN : ∀ i, stN (g.b.take i) ≤ 1000000000000 := fun i => by
    have h1 := stN_le (l := g.b.take i) fun b hb => (hg.2 b (List.mem_of_mem_take hb)).1
    have h2 := hg.1
    have h3 : (g.b.take i).length ≤ g.b.length := by simp; omega
    have := Nat.mul_le_mul_left 1000000 (Nat.le_trans h3 h2)
    omega
  obtain ⟨R, hR⟩ : ∃ R, grErr g = R := ⟨_, rfl⟩
  rw [hR]
  rw [grErr] at hR
  refine af_of Tryz.func25 rfl (by kernel_rfl) (by simp [Tryz.ntmps25]) fun _ => ?_; simp [Tryz.f25, Ex.d_eq]
  by_cases h1 : 256 < g.b.length
  · rw [if_pos (.inl h1)] at hR
    simp [show (256 : Int) < g.b.length by omega, hR]
  simp [show ¬ (256 : Int) < g.b.length by omega]
  refine aLoop_st (fun i : Nat => [(1, .ptr 0 0 0 0), (4, aI .i64 i), (3, aI .i64 (stN (g.b.take i)))]) (fun _ => [gB g])
    (fun i => i ≤ g.b.length) (fun i => g.b.length - i) 0 (Sub.refl _ _ _) 1 (by omega) (by simp) (by simp [stN]) (by omega) ?_
  rintro i hi K hK
  rcases Nat.lt_or_ge i g.b.length with hlt | hge
  case inl =>
    obtain ⟨b, hb⟩ : ∃ b, g.b[i]? = some b := ⟨_, List.getElem?_eq_getElem hlt⟩
    have hb2 := (List.getElem?_eq_some_iff.1 hb).2
    have hs := stN_take hb
    have h1 := hN (i + 1)
    simp [hlt, hb, hb2, Bl.d_eq, succ_wrap hlt hl, i64w (n := (stN (g.b.take i) : Int) + b.s.length) (by omega)]
    exact hK (i + 1) (by omega) (by omega) (Sub.refl _ _ _) 1 (by omega) (by simp) (by simp [hs])
  obtain rfl : i = g.b.length := by omega
  rw [List.take_length]
  simp
  by_cases h2 : 1024 < stN g.b
  · rw [if_pos (.inr h2)] at hR
    simp [show (1024 : Int) < stN g.b by omega, hR]
  simp [show ¬ (1024 : Int) < stN g.b by omega]
  rw [if_neg (by omega)] at hR
  by_cases h0 : g.b = []
  · rw [if_pos (.inl (by rw [h0]; rfl))] at hR
    subst hR
    simp [h0]
  have h0' : ¬ g.b.length = 0 := fun h => h0 (List.length_eq_zero_iff.1 h)
  simp [h0]
  clear hK K
  refine aLoop_st (fun i : Nat => [(1, .ptr 0 0 0 0), (5, aI .i64 i)]) (fun _ => [gB g])
    (fun i => i ≤ g.b.length ∧ (g.b.drop i).all (closedB g.b.length) = g.b.all (closedB g.b.length)) (fun i => g.b.length - i) 0 (Sub.refl _ _ _) 1 (by omega) (by simp) (by simp) ⟨by omega, by simp⟩ ?_
  rintro i ⟨hi, hx⟩ K hK
  rcases Nat.lt_or_ge i g.b.length with hlt | hge
  case inl =>
    obtain ⟨b, hb⟩ : ∃ b, g.b[i]? = some b := ⟨_, List.getElem?_eq_getElem hlt⟩
    have hb2 := (List.getElem?_eq_some_iff.1 hb).2
    obtain ⟨f1, f2⟩ := hg.2 b (List.mem_of_getElem? hb)
    rw [all_drop hb] at hx
    simp [hlt]
    refine adraw [] (by kernel_rfl) (by kernel_rfl) (by kernel_rfl) (by kernel_rfl) ?_; simp [Ex.d_eq]
    simp [hlt, hb, hb2, Bl.d_eq]
    refine adC_of (r19closed_af b g.b.length f1 hg.1 fun s hs => (f2 s hs).2) (by simp) trivial (by simp) (by simp [Ex.d_eq]) ?_; simp [Ex.d_eq]
    cases hc : closedB g.b.length b
    · rw [hc, Bool.false_and] at hx
      rw [if_pos (.inr hx.symm)] at hR
      subst hR
      simp
    · rw [hc, Bool.true_and] at hx
      simp [succ_wrap hlt hl]
      exact hK (i + 1) ⟨by omega, hx⟩ (by omega) (Sub.refl _ _ _) 1 (by omega) (by simp) (by simp)
  obtain rfl : i = g.b.length := by omega
  rw [List.drop_length] at hx
  rw [if_neg (by rw [← hx]; simp [h0])] at hR
  simp
  clear hK K
  refine aLoop_st (fun i : Nat => [(1, .ptr 0 0 0 0), (6, aI .i64 i)]) (fun _ => [gB g])
    (fun i => i ≤ g.b.length ∧ blsErr (g.b.drop i) = R) (fun i => g.b.length - i) 0 (Sub.refl _ _ _) 1 (by omega) (by simp) (by simp) ⟨by omega, by simpa using hR⟩ ?_
  rintro i ⟨hi, hx⟩ K hK
  rcases Nat.lt_or_ge i g.b.length with hlt | hge
  case inr =>
    obtain rfl : i = g.b.length := by omega
    simp [blsErr] at hx
    simp [hx]
  obtain ⟨b, hb⟩ : ∃ b, g.b[i]? = some b := ⟨_, List.getElem?_eq_getElem hlt⟩
  have hb2 := (List.getElem?_eq_some_iff.1 hb).2
  obtain ⟨f1, f2⟩ := hg.2 b (List.mem_of_getElem? hb)
  have hbl : b.s.length ≤ maxLen := by unfold maxLen; omega
  rw [bls_drop hb] at hx
  simp [hlt]
  refine aLoop_st (fun k : Nat => [(1, .ptr 0 0 0 0), (6, aI .i64 i), (7, aI .i64 k)]) (fun _ => [gB g])
    (fun k => k ≤ b.s.length ∧ stsErr (b.s.drop k) = stsErr b.s) (fun k => b.s.length - k) 0 (Sub.refl _ _ _) 1 (by omega) (by simp) (by simp) ⟨by omega, by simp⟩ ?_
  rintro k ⟨hk, hy⟩ K2 hK2
  rcases Nat.lt_or_ge k b.s.length with hlt2 | hge2
  case inr =>
    obtain rfl : k = b.s.length := by omega
    simp [stsErr] at hy
    rw [if_pos hy.symm] at hx
    simp [hlt, hb, hb2, Bl.d_eq, succ_wrap hlt hl]
    exact hK (i + 1) ⟨by omega, hx⟩ (by omega) (Sub.refl _ _ _) 1 (by omega) (by simp) (by simp)
  obtain ⟨s, hs⟩ : ∃ s, b.s[k]? = some s := ⟨_, List.getElem?_eq_getElem hlt2⟩
  have hs2 := (List.getElem?_eq_some_iff.1 hs).2
  have f3 := (f2 s (List.mem_of_getElem? hs)).1
  rw [sts_drop hs] at hy
  simp [hlt, hb, hb2, Bl.d_eq, hlt2, hs, hs2, St.d_eq]
  refine aCall_of (r19checkst_af s (by unfold maxLen; omega)) (by simp) (by simp [Ex.d_eq]) ?_; simp [Ex.d_eq]
  by_cases h0 : stErr s = 0
  · rw [if_pos h0] at hy
    simp [h0, succ_wrap hlt2 hbl]
    exact hK2 (k + 1) ⟨by omega, hy⟩ (by omega) (Sub.refl _ _ _) 1 (by omega) (by simp) (by simp)
  · rw [if_neg h0] at hy
    rw [if_neg (by rw [← hy]; exact h0), ← hy] at hx
    subst hx
    simp [h0]
end Go.Proofs.YtagkfkhagjlmpaaGreat

/- Contract: law 19's SmallGraph. -/
namespace Go.Proofs.YtagkfkhagjlmpaaGreat
open Go.RowKit
/-- What SmallGraph leaves of n after some statements, some blocks. -/
def stsI (m : Int) : List St → Int → Int
  | [], n => n
  | s :: l, n => if 4 < s.e.length ∨ 100 < s.cs.length ∨ nodL s.e m n < 0 then -1 else stsI m l (nodL s.e m n)
def blsI (m : Int) : List Bl → Int → Int
  | [], n => n
  | b :: l, n => if 1100 < b.s.length ∨ stsI m b.s n < 0 then -1 else blsI m l (stsI m b.s n)
def smallG (g : Gr) (m : Int) : Bool := !decide (300 < g.b.length) && decide (0 ≤ blsI m g.b 20000)
theorem stsI_le (m : Int) : ∀ (l : List St) (n : Int), 0 ≤ n → stsI m l n ≤ n ∧ (0 ≤ stsI m l n → ∀ s ∈ l, s.e.length ≤ 4 ∧ s.cs.length ≤ 100 ∧ (Ex.nodess s.e : Int) ≤ n ∧ (Ex.depths s.e : Int) ≤ max m 0)
  | [], n, h => by simp [stsI]
  | s :: l, n, h => by
    simp only [stsI]
    split
    · exact ⟨by omega, fun h => by omega⟩
    · rename_i hc
      have h1 := nodL_le s.e m n (by omega)
      have h2 := stsI_le m l (nodL s.e m n) (by omega)
      have hp := Ex.nodess_len s.e
      refine ⟨by omega, fun h0 x hx => ?_⟩
      rcases List.mem_cons.1 hx with rfl | hx
      · omega
      · have := h2.2 h0 x hx
        omega
theorem blsI_le (m : Int) : ∀ (l : List Bl) (n : Int), 0 ≤ n → 0 ≤ blsI m l n → ∀ b ∈ l, b.s.length ≤ 1100 ∧ ∀ s ∈ b.s, s.e.length ≤ 4 ∧ s.cs.length ≤ 100 ∧ (Ex.nodess s.e : Int) ≤ n ∧ (Ex.depths s.e : Int) ≤ max m 0
  | [], n, h, _ => by simp
  | b :: l, n, h, h0 => by
    simp only [blsI] at h0
    split at h0
    · omega
    · rename_i hc
      have h1 := stsI_le m b.s n h
      intro x hx
      rcases List.mem_cons.1 hx with rfl | hx
      · exact ⟨by omega, fun s hs => by have := h1.2 (by omega) s hs; omega⟩
      · have := blsI_le m l (stsI m b.s n) (by omega) h0 x hx
        exact ⟨this.1, fun s hs => by have := this.2 s hs; omega⟩
theorem smallG_fit {g : Gr} {m : Int} (h : smallG g m = true) : GrFit g ∧ g.b.length ≤ 300 ∧ ∀ b ∈ g.b, b.s.length ≤ 1100 ∧ ∀ s ∈ b.s, s.e.length ≤ 4 ∧ s.cs.length ≤ 100 ∧ Ex.nodess s.e ≤ 20000 ∧ (Ex.depths s.e : Int) ≤ max m 0 := by
  simp [smallG] at h
  have := blsI_le m g.b 20000 (by omega) h.2
  refine ⟨⟨by omega, fun b hb => ?_⟩, h.1, fun b hb => ?_⟩
  · have h1 := this b hb
    exact ⟨by omega, fun s hs => by have := h1.2 s hs; omega⟩
  · have h1 := this b hb
    exact ⟨by omega, fun s hs => by have := h1.2 s hs; omega⟩
theorem smallg_af (g : Gr) (m : Int) (h1 : -1000000 ≤ m) (h2 : m ≤ 1000000) : AF Tryz.prog 16 [grV g, aI .i64 m] (aB (smallG g m)) := by
  obtain ⟨R, hR⟩ : ∃ R, smallG g m = R := ⟨_, rfl⟩
  rw [hR]
  rw [smallG] at hR
  refine af_of Tryz.func16 rfl (by kernel_rfl) (by simp [Tryz.ntmps16]) fun _ => ?_; simp [Tryz.f16, Ex.d_eq]
  by_cases h3 : 300 < g.b.length
  · simp [h3] at hR
    subst hR
    simp [show (300 : Int) < g.b.length by omega]
  have hl : g.b.length ≤ maxLen := by unfold maxLen; omega
  simp [h3] at hR
  simp [show ¬ (300 : Int) < g.b.length by omega]
  refine aLoop_st (α := Nat × Int) (fun p => [(2, .ptr 0 0 0 0), (1, aI .i64 m), (5, aI .i64 p.2), (6, aI .i64 p.1)]) (fun _ => [gB g])
    (fun p => p.1 ≤ g.b.length ∧ 0 ≤ p.2 ∧ p.2 ≤ 20000 ∧ decide (0 ≤ blsI m (g.b.drop p.1) p.2) = R) (fun p => g.b.length - p.1) (0, 20000) (Sub.refl _ _ _) 1 (by omega) (by simp) (by simp) ⟨by omega, by omega, by omega, by simpa using hR⟩ ?_
  rintro ⟨i, n⟩ ⟨hi, hn0, hn1, hx⟩ K hK
  simp only at hi hn0 hn1 hx hK ⊢
  rcases Nat.lt_or_ge i g.b.length with hlt | hge
  case inr =>
    obtain rfl : i = g.b.length := by omega
    simp [blsI, hn0] at hx
    subst hx
    simp
  obtain ⟨b, hb⟩ : ∃ b, g.b[i]? = some b := ⟨_, List.getElem?_eq_getElem hlt⟩
  have hb2 := (List.getElem?_eq_some_iff.1 hb).2
  have hdrop : g.b.drop i = b :: g.b.drop (i + 1) := by rw [List.drop_eq_getElem_cons hlt, hb2]
  rw [hdrop, blsI] at hx
  simp [hlt, hb, hb2, Bl.d_eq]
  by_cases h4 : 1100 < b.s.length
  · rw [if_pos (.inl h4)] at hx
    simp at hx
    subst hx
    simp [show (1100 : Int) < b.s.length by omega]
  have hbl : b.s.length ≤ maxLen := by unfold maxLen; omega
  simp [show ¬ (1100 : Int) < b.s.length by omega]
  have hle := stsI_le m b.s n hn0
  refine aLoop_st (α := Nat × Int) (fun p => [(2, .ptr 0 0 0 0), (1, aI .i64 m), (5, aI .i64 p.2), (6, aI .i64 i), (7, aI .i64 p.1)]) (fun _ => [gB g])
    (fun p => p.1 ≤ b.s.length ∧ 0 ≤ p.2 ∧ p.2 ≤ 20000 ∧ stsI m (b.s.drop p.1) p.2 = stsI m b.s n) (fun p => b.s.length - p.1) (0, n) (Sub.refl _ _ _) 1 (by omega) (by simp) (by simp) ⟨by omega, by omega, by omega, by simp⟩ ?_
  rintro ⟨k, n2⟩ ⟨hk, hk0, hk1, hy⟩ K2 hK2
  simp only at hk hk0 hk1 hy hK2 ⊢
  rcases Nat.lt_or_ge k b.s.length with hlt2 | hge2
  case inr =>
    obtain rfl : k = b.s.length := by omega
    simp [stsI] at hy
    rw [← hy, if_neg (by omega)] at hx
    simp [hlt, hb, hb2, Bl.d_eq, succ_wrap hlt hl]
    exact hK (i + 1, n2) ⟨by simp only; omega, hk0, hk1, hx⟩ (by simp only; omega) (Sub.refl _ _ _) 1 (by omega) (by simp) (by simp)
  obtain ⟨s, hs⟩ : ∃ s, b.s[k]? = some s := ⟨_, List.getElem?_eq_getElem hlt2⟩
  have hs2 := (List.getElem?_eq_some_iff.1 hs).2
  have hdrop2 : b.s.drop k = s :: b.s.drop (k + 1) := by rw [List.drop_eq_getElem_cons hlt2, hs2]
  rw [hdrop2, stsI] at hy
  simp [hlt, hb, hb2, Bl.d_eq, hlt2, hs, hs2, St.d_eq]
  have hno : stsI m b.s n = -1 → R = false := fun h => by
    rw [h, if_pos (.inr (by omega))] at hx
    simpa using hx.symm
  by_cases h5 : 4 < s.e.length
  · rw [if_pos (.inl h5)] at hy
    have := hno hy.symm
    subst this
    simp [show (4 : Int) < s.e.length by omega]
  simp [show ¬ (4 : Int) < s.e.length by omega]
  by_cases h6 : 100 < s.cs.length
  · rw [if_pos (.inr (.inl h6))] at hy
    have := hno hy.symm
    subst this
    simp [show (100 : Int) < s.cs.length by omega]
  simp [show ¬ (100 : Int) < s.cs.length by omega]
  have hel : s.e.length ≤ maxLen := by unfold maxLen; omega
  refine aLoop_st (α := Nat × Int) (fun p => [(2, .ptr 0 0 0 0), (1, aI .i64 m), (5, aI .i64 p.2), (6, aI .i64 i), (7, aI .i64 k), (8, .ptr 1 0 0 0), (9, aI .i64 p.1)])
    (fun _ => [gB g, ⟨0, true, 68, 8, [[aI .i64 s.op, aI .i64 s.va, aI .i64 s.wd, aI .i64 s.nx, aI .i64 s.el, aI .u32 s.tg, .d (.sl 5 (Ex.ds s.e)), .d (.sl 1 (i64s s.cs))]]⟩])
    (fun p => p.1 ≤ s.e.length ∧ 0 ≤ p.2 ∧ p.2 ≤ 20000 ∧ nodL (s.e.drop p.1) m p.2 = nodL s.e m n2) (fun p => s.e.length - p.1) (0, n2) (Sub.refl _ _ _) 2 (by omega) (by simp) (by simp) ⟨by omega, by omega, by omega, by simp⟩ ?_
  rintro ⟨q, n3⟩ ⟨hq, hq0, hq1, hz⟩ K3 hK3
  simp only at hq hq0 hq1 hz hK3 ⊢
  rcases Nat.lt_or_ge q s.e.length with hlt3 | hge3
  case inr =>
    obtain rfl : q = s.e.length := by omega
    simp [nodL] at hz
    rw [← hz, if_neg (by omega)] at hy
    simp [succ_wrap hlt2 hbl]
    exact hK2 (k + 1, n3) ⟨by simp only; omega, hq0, hq1, hy⟩ (by simp only; omega) (Sub.refl _ _ _) 1 (by omega) (by simp) (by simp)
  obtain ⟨x, hxi⟩ : ∃ x, s.e[q]? = some x := ⟨_, List.getElem?_eq_getElem hlt3⟩
  have hx2 := (List.getElem?_eq_some_iff.1 hxi).2
  have hdrop3 : s.e.drop q = x :: s.e.drop (q + 1) := by rw [List.drop_eq_getElem_cons hlt3, hx2]
  rw [hdrop3, nodL, if_pos hq0] at hz
  have hnod := nodI_le x m n3 (by omega)
  simp [hlt3, hxi, hx2, Ex.d_eq]
  refine aCall_of (nodes_af x m n3 h1 h2 (by omega) (by omega)) (by simp) (by simp [Ex.d_eq]) ?_; simp [Ex.d_eq]
  by_cases h7 : nodI x m n3 < 0
  · rw [nodL_neg _ _ _ h7] at hz
    rw [if_pos (.inr (.inr (by rw [← hz]; exact h7)))] at hy
    have := hno hy.symm
    subst this
    simp [h7]
  · simp [h7, succ_wrap hlt3 hel]
    exact hK3 (q + 1, nodI x m n3) ⟨by simp only; omega, by simp only; omega, by simp only; omega, hz⟩ (by simp only; omega) (Sub.refl _ _ _) 2 (by omega) (by simp) (by simp)
end Go.Proofs.YtagkfkhagjlmpaaGreat

/- Contracts: the reference 23's comparisons of statements, blocks and graphs that are the same. -/
namespace Go.Proofs.YtagkfkhagjlmpaaGreat
open Go.RowKit
theorem q23samest_af (s : St) (h1 : s.e.length ≤ maxLen) (h2 : s.cs.length ≤ maxLen) : AF Tryz.prog 66 [stV s, stV s] (aB true) := by
  refine af_of Tryz.func66 rfl (by kernel_rfl) (by simp [Tryz.ntmps66]) fun _ => ?_; simp [Tryz.f66, Ex.d_eq]
  refine aLoop_st (fun i : Nat => [(2, .ptr 0 0 0 0), (3, .ptr 1 0 0 0), (5, aI .i64 i)]) (fun _ => [⟨0, true, 68, 8, [s.d.map AV.d]⟩, ⟨0, true, 68, 8, [s.d.map AV.d]⟩])
    (fun i => i ≤ s.e.length) (fun i => s.e.length - i) 0 (Sub.refl _ _ _) 2 (by omega) (by simp [St.d_eq]) (by simp) (by omega) ?_
  rintro i hi K hK
  rcases Nat.lt_or_ge i s.e.length with hlt | hge
  case inl =>
    obtain ⟨y, hy⟩ : ∃ y, s.e[i]? = some y := ⟨_, List.getElem?_eq_getElem hlt⟩
    have hy2 := (List.getElem?_eq_some_iff.1 hy).2
    have c := refsame_af y y
    rw [sameB_refl] at c
    simp [hlt, St.d_eq]
    refine adraw [] (by kernel_rfl) (by kernel_rfl) (by kernel_rfl) (by kernel_rfl) ?_; simp [Ex.d_eq]
    simp [hlt, hy, hy2, Ex.d_eq, St.d_eq]
    refine adC_of c (by simp) trivial (by simp) (by simp [Ex.d_eq]) ?_; simp [Ex.d_eq]
    simp [succ_wrap hlt h1]
    exact hK (i + 1) (by omega) (by omega) (Sub.refl _ _ _) 2 (by omega) (by simp [St.d_eq]) (by simp)
  obtain rfl : i = s.e.length := by omega
  simp [St.d_eq]
  clear hK K
  refine aLoop_st (fun i : Nat => [(2, .ptr 0 0 0 0), (3, .ptr 1 0 0 0), (6, aI .i64 i)]) (fun _ => [⟨0, true, 68, 8, [s.d.map AV.d]⟩, ⟨0, true, 68, 8, [s.d.map AV.d]⟩])
    (fun i => i ≤ s.cs.length) (fun i => s.cs.length - i) 0 (Sub.refl _ _ _) 2 (by omega) (by simp [St.d_eq]) (by simp) (by omega) ?_
  rintro i hi K hK
  rcases Nat.lt_or_ge i s.cs.length with hlt | hge
  case inl =>
    obtain ⟨y, hy⟩ : ∃ y, s.cs[i]? = some y := ⟨_, List.getElem?_eq_getElem hlt⟩
    have hy2 := (List.getElem?_eq_some_iff.1 hy).2
    simp [hlt, St.d_eq]
    refine adraw [] (by kernel_rfl) (by kernel_rfl) (by kernel_rfl) (by kernel_rfl) ?_; simp [Ex.d_eq]
    simp [hlt, hy, hy2, St.d_eq]
    simp [succ_wrap hlt h2]
    exact hK (i + 1) (by omega) (by omega) (Sub.refl _ _ _) 2 (by omega) (by simp [St.d_eq]) (by simp)
  obtain rfl : i = s.cs.length := by omega
  simp [St.d_eq]
theorem q23samebl_af (b : Bl) (h0 : b.s.length ≤ maxLen) (h : ∀ s ∈ b.s, s.e.length ≤ maxLen ∧ s.cs.length ≤ maxLen) : AF Tryz.prog 28 [blV b, blV b] (aB true) := by
  refine af_of Tryz.func28 rfl (by kernel_rfl) (by simp [Tryz.ntmps28]) fun _ => ?_; simp [Tryz.f28, Ex.d_eq]
  refine aLoop_st (fun i : Nat => [(2, .ptr 0 0 0 0), (3, .ptr 1 0 0 0), (5, aI .i64 i)]) (fun _ => [bB b, bB b])
    (fun i => i ≤ b.s.length) (fun i => b.s.length - i) 0 (Sub.refl _ _ _) 2 (by omega) (by simp) (by simp) (by omega) ?_
  rintro i hi K hK
  rcases Nat.lt_or_ge i b.s.length with hlt | hge
  case inl =>
    obtain ⟨s, hs⟩ : ∃ s, b.s[i]? = some s := ⟨_, List.getElem?_eq_getElem hlt⟩
    have hs2 := (List.getElem?_eq_some_iff.1 hs).2
    obtain ⟨g1, g2⟩ := h s (List.mem_of_getElem? hs)
    simp [hlt]
    refine adraw [] (by kernel_rfl) (by kernel_rfl) (by kernel_rfl) (by kernel_rfl) ?_; simp [Ex.d_eq]
    simp [hlt, hs, hs2, St.d_eq]
    refine adC_of (q23samest_af s g1 g2) (by simp) trivial (by simp) (by simp [Ex.d_eq]) ?_; simp [Ex.d_eq]
    simp [succ_wrap hlt h0]
    exact hK (i + 1) (by omega) (by omega) (Sub.refl _ _ _) 2 (by omega) (by simp) (by simp)
  obtain rfl : i = b.s.length := by omega
  simp
theorem q23samegr_af (g : Gr) (h0 : g.b.length ≤ maxLen) (h : ∀ b ∈ g.b, b.s.length ≤ maxLen ∧ ∀ s ∈ b.s, s.e.length ≤ maxLen ∧ s.cs.length ≤ maxLen) : AF Tryz.prog 10 [grV g, grV g] (aB true) := by
  refine af_of Tryz.func10 rfl (by kernel_rfl) (by simp [Tryz.ntmps10]) fun _ => ?_; simp [Tryz.f10, Ex.d_eq]
  refine aLoop_st (fun i : Nat => [(2, .ptr 0 0 0 0), (3, .ptr 1 0 0 0), (5, aI .i64 i)]) (fun _ => [gB g, gB g])
    (fun i => i ≤ g.b.length) (fun i => g.b.length - i) 0 (Sub.refl _ _ _) 2 (by omega) (by simp) (by simp) (by omega) ?_
  rintro i hi K hK
  rcases Nat.lt_or_ge i g.b.length with hlt | hge
  case inl =>
    obtain ⟨b, hb⟩ : ∃ b, g.b[i]? = some b := ⟨_, List.getElem?_eq_getElem hlt⟩
    have hb2 := (List.getElem?_eq_some_iff.1 hb).2
    obtain ⟨g1, g2⟩ := h b (List.mem_of_getElem? hb)
    simp [hlt]
    refine adraw [] (by kernel_rfl) (by kernel_rfl) (by kernel_rfl) (by kernel_rfl) ?_; simp [Ex.d_eq]
    simp [hlt, hb, hb2, Bl.d_eq]
    refine adC_of (q23samebl_af b g1 g2) (by simp) trivial (by simp) (by simp [Ex.d_eq]) ?_; simp [Ex.d_eq]
    simp [succ_wrap hlt h0]
    exact hK (i + 1) (by omega) (by omega) (Sub.refl _ _ _) 2 (by omega) (by simp) (by simp)
  obtain rfl : i = g.b.length := by omega
  simp
theorem fit_len {g : Gr} (h : GrFit g) : g.b.length ≤ maxLen ∧ ∀ b ∈ g.b, b.s.length ≤ maxLen ∧ ∀ s ∈ b.s, s.e.length ≤ maxLen ∧ s.cs.length ≤ maxLen := by
  unfold maxLen
  refine ⟨by have := h.1; omega, fun b hb => ?_⟩
  obtain ⟨h1, h2⟩ := h.2 b hb
  refine ⟨by omega, fun s hs => ?_⟩
  obtain ⟨h3, h4⟩ := h2 s hs
  exact ⟨by omega, by omega⟩
end Go.Proofs.YtagkfkhagjlmpaaGreat
