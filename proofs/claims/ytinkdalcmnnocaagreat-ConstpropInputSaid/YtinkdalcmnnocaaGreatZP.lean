import Derived.Test.YtinkdalcmnnocaaGreatBa
import Derived.Test.YtinkdalcmnnocaaGreatFacts
import Derived.Test.YtinkdalcmnnocaaGreatAp
import Derived.Test.YtinkdalcmnnocaaGreatAn
import Derived.Lib.Join
import Derived.Test.YtinkdalcmnnocaaGreatSh
import Derived.Test.YtinkdalcmnnocaaGreatAt
import Derived.WalkMore
import Derived.BigFrame
set_option linter.all false
namespace Go.Proofs.YtinkdalcmnnocaaGreat
open Go.RowKit
def all2 (r : Ex → Ex → Bool) : List Ex → List Ex → Bool
 | [], [] => true
 | a :: l, b :: l' => r a b && all2 r l l'
 | _, _ => false
theorem all2_len {r : Ex → Ex → Bool} : ∀ {l l' : List Ex}, l.length ≠ l'.length → all2 r l l' = false
 | [], [], h => absurd rfl h
 | [], _ :: _, _ => rfl
 | _ :: _, [], _ => rfl
 | a :: l, b :: l', h => by
   simp only [all2]
   rw [all2_len (by simpa using h)]
   simp
theorem all2_get {r : Ex → Ex → Bool} : ∀ {l l' : List Ex}, l.length = l'.length → (all2 r l l' = true ↔ ∀ (i : Nat) (a b : Ex), l[i]? = some a → l'[i]? = some b → r a b = true)
 | [], [], _ => by simp [all2]
 | a :: l, b :: l', h => by
   simp only [all2, Bool.and_eq_true, all2_get (show l.length = l'.length by simpa using h)]
   constructor
   ·rintro ⟨h1, h2⟩ i x y hx hy
    cases i with
    | zero => simp at hx hy; subst hx hy; exact h1
    | succ i => exact h2 i x y (by simpa using hx) (by simpa using hy)
   ·intro h
    exact ⟨h 0 a b rfl rfl, fun i x y hx hy => h (i + 1) x y (by simpa using hx) (by simpa using hy)⟩
 | [], _ :: _, h => by simp at h
 | _ :: _, [], h => by simp at h
theorem equalFunc {f : Nat} {r : Ex → Ex → Bool} (l1 l2 : List Ex) (hf : okF Tryz.prog f = true) (hr : ∀ a ∈ l1, ∀ b ∈ l2, AF Tryz.prog f [exA a, exA b] (aB (r a b))) :
 AF Tryz.prog 59 [.d (.sl 5 (Ex.ds l1)), .d (.sl 5 (Ex.ds l2)), .fn f [] []] (aB (all2 r l1 l2)) := by
 refine af_of Tryz.func59 rfl (by kernel_rfl) (by simp [Tryz.ntmps59]) fun hb => ?_
 have n1 : l1.length ≤ maxLen := by simpa using hb.1.1
 clear hb
 simp [Tryz.f59]
 refine aCond_split (fun hne => ?_) (fun hlen => ?_)
 ·simp
  rw [all2_len (by simp at hne; omega)]
 have hlen : l1.length = l2.length := by simp at hlen; omega
 simp
 refine aLoop_of (α := Nat) (fun i e A => i ≤ l1.length ∧ A = [] ∧ e 17 = aI .i64 i ∧ e 15 = .d (.sl 5 (Ex.ds l1)) ∧ e 16 = aI .i64 l1.length ∧ e 1 = .d (.sl 5 (Ex.ds l2)) ∧ e 2 = .fn f [] [] ∧
  ∀ (j : Nat) (a b : Ex), j < i → l1[j]? = some a → l2[j]? = some b → r a b = true) (fun i => l1.length - i) 0 (Sub.refl _ _ _) ⟨by omega, rfl, by simp, by simp, by simp, by simp, by simp, by intro j a b hj; omega⟩ ?_
 rintro i e A ⟨hi, rfl, e17, e15, e16, e1, e2, hall⟩ K hK
 simp [e17, e16]
 refine aCond_split (fun hlt => ?_) (fun hge => ?_)
 ·simp at hlt
  have hi1 := gEG hlt
  have hi2 := gEG (show i < l2.length by omega)
  simp [e17, e15, e16, e1, e2, hi1, hi2, Ex.d_eq]
  refine aCall_of (hr _ (gMO hi1) _ (gMO hi2)) hf (by simp) ?_
  simp
  refine aCond_split (fun hf => ?_) (fun ht => ?_)
  ·simp at hf
   simp
   cases h : all2 r l1 l2 with
   | false => rfl
   | true => rw [(all2_get hlen).1 h i _ _ hi1 hi2] at hf; cases hf
  ·simp at ht
   simp [e17, succ_wrap hlt n1]
   refine hK (i + 1) _ _ _ _ (Sub.take 0 (Nat.le_refl _)) ⟨by omega, by simp, by simp, by simp [e15], by simp [e16], by simp [e1], by simp [e2], ?_⟩ (by omega)
   intro j a b hj ha hb
   rcases Nat.lt_or_ge j i with h | h
   ·exact hall j a b h ha hb
   ·obtain rfl : j = i := by omega
    rw [hi1] at ha
    rw [hi2] at hb
    simp only [Option.some.injEq] at ha hb
    subst ha hb
    exact ht
 ·simp at hge
  simp
  refine (all2_get hlen).2 fun j a b ha hb => hall j a b ?_ ha hb
  have := (gSI.1 ha).1
  omega
def sameB : Ex → Ex → Bool
 | .mk o n v w l, .mk o' n' v' w' l' => o == o' && n == n' && v == v' && w == w' && sames l l'
where sames : List Ex → List Ex → Bool
 | [], [] => true
 | a :: l, b :: l' => sameB a b && sames l l'
 | _, _ => false
theorem sameB_eq (a b : Ex) : sameB a b = (a.op == b.op && a.n == b.n && a.v == b.v && a.wd == b.wd && all2 sameB a.l b.l) := by
 have h : ∀ l l', sameB.sames l l' = all2 sameB l l' := by
  intro l
  induction l with
  | nil => intro l'; cases l' <;> rfl
  | cons a l ih => intro l'; cases l' with
    | nil => rfl
    | cons b l' => simp only [sameB.sames, all2, ih]
 cases a; cases b
 simp only [sameB, h]
 rfl
theorem same_af : ∀ (a b : Ex), AF Tryz.prog 35 [exA a, exA b] (aB (sameB a b)) := by
 intro a
 induction a using Ex.ind with
 | h a ih =>
   intro b
   rw [sameB_eq]
   refine af_of Tryz.func35 rfl (by kernel_rfl) (by simp [Tryz.ntmps35]) fun _ => ?_
   simp [Tryz.f35]
   refine aG_split (fun g1 => ?_) (fun g1 => by simp at g1; simp [g1])
   simp at g1
   simp [g1]
   refine aG_split (fun g2 => ?_) (fun g2 => by simp at g2; simp [g1, g2])
   simp at g2
   simp [g1, g2]
   refine aG_split (fun g3 => ?_) (fun g3 => by simp at g3; simp [g1, g2, g3])
   simp at g3
   simp [g1, g2, g3]
   refine aG_split (fun g4 => ?_) (fun g4 => by simp at g4; simp [g1, g2, g3, g4])
   simp at g4
   simp [g1, g2, g3, g4]
   refine aCall_of (equalFunc a.l b.l (r := sameB) (by simp) fun x hx y _ => ih x hx y) (by simp) (by simp) ?_
   simp
theorem refsame_af : ∀ (a b : Ex), AF Tryz.prog 9 [exA a, exA b] (aB (sameB a b)) := by
 intro a
 induction a using Ex.ind with
 | h a ih =>
   intro b
   rw [sameB_eq]
   refine af_of Tryz.func9 rfl (by kernel_rfl) (by simp [Tryz.ntmps9]) fun hb => ?_
   have n1 : a.l.length ≤ maxLen := by simpa using hb.1.2.2.2.2.1.1
   clear hb
   simp [Tryz.f9]
   refine aG_split (fun g1 => ?_) (fun g1 => by simp at g1; simp [g1])
   simp at g1
   simp [g1]
   refine aG_split (fun g2 => ?_) (fun g2 => by simp at g2; simp [g1, g2])
   simp at g2
   simp [g2]
   refine aG_split (fun g3 => ?_) (fun g3 => by simp at g3; simp [g1, g2, g3])
   simp at g3
   simp [g3]
   refine aG_split (fun g4 => ?_) (fun g4 => by simp at g4; simp [g1, g2, g3, g4])
   simp at g4
   simp [g4]
   refine aCond_split (fun g5 => ?_) (fun g5 => ?_)
   ·simp at g5
    simp
    rw [all2_len (by omega)]
   have hlen : a.l.length = b.l.length := by simp at g5; omega
   simp
   refine aLoop_of (α := Nat) (fun i e A => i ≤ a.l.length ∧ A = [⟨0, true, 37, 5, [[aI .i64 a.op, aI .u32 a.n, aI .i64 a.v, aI .i64 a.wd, .d (.sl 5 (Ex.ds a.l))]]⟩, ⟨0, true, 37, 5, [[aI .i64 b.op, aI .u32 b.n, aI .i64 b.v, aI .i64 b.wd, .d (.sl 5 (Ex.ds b.l))]]⟩] ∧
    e 5 = aI .i64 i ∧ e 2 = .ptr 0 0 0 0 ∧ e 3 = .ptr 1 0 0 0 ∧
    ∀ (j : Nat) (x y : Ex), j < i → a.l[j]? = some x → b.l[j]? = some y → sameB x y = true) (fun i => a.l.length - i) 0 (Sub.refl _ _ _) ⟨by omega, by simp [g1, g2, g3, g4], by simp, by simp, by simp, by intro j a b hj; omega⟩ ?_
   rintro i e A ⟨hi, rfl, e5, e2, e3, hall⟩ K hK
   simp [e5, e2]
   refine aCond_split (fun hlt => ?_) (fun hge => ?_)
   ·simp at hlt
    have hi1 := gEG hlt
    have hi2 := gEG (show i < b.l.length by omega)
    simp
    refine adraw [] (by kernel_rfl) (by kernel_rfl) (by kernel_rfl) (by kernel_rfl) ?_
    simp [e5, e2, e3, hi1, hi2, Ex.d_eq]
    refine adC_of (ih _ (gMO hi1) b.l[i]) (by simp) trivial (by simp) (by simp) ?_
    simp
    refine aCond_split (fun hf => ?_) (fun ht => ?_)
    ·simp at hf
     simp
     cases h : all2 sameB a.l b.l with
     | false => rfl
     | true => rw [(all2_get hlen).1 h i _ _ hi1 hi2] at hf; cases hf
    ·simp at ht
     simp [e5, succ_wrap hlt n1]
     refine hK (i + 1) _ _ _ _ (Sub.refl _ _ _) ⟨by omega, rfl, by simp, by simp [e2], by simp [e3], ?_⟩ (by omega)
     intro j x y hj hx hy
     rcases Nat.lt_or_ge j i with h | h
     ·exact hall j x y h hx hy
     ·obtain rfl : j = i := by omega
      rw [hi1] at hx
      rw [hi2] at hy
      simp only [Option.some.injEq] at hx hy
      subst hx hy
      exact ht
   ·simp at hge
    simp
    refine (all2_get hlen).2 fun j x y ha hb => hall j x y ?_ ha hb
    have := (gSI.1 ha).1
    omega
theorem sameB_refl (a : Ex) : sameB a a = true := by
 induction a using Ex.ind with
 | h a ih =>
   rw [sameB_eq]
   have : all2 sameB a.l a.l = true := by
    have : ∀ l : List Ex, (∀ x ∈ l, sameB x x = true) → all2 sameB l l = true := by
     intro l
     induction l with
     | nil => intro _; rfl
     | cons x l ih => intro h; simp only [all2, h x (by simp), ih fun y hy => h y (by simp [hy]), Bool.and_self]
    exact this a.l ih
   simp [this]
def Same0 (A : AHeap) (r0 : AV) (r : AV) (A' : AHeap) : Prop := r = r0 ∧ ∃ N, A' = A ++ N
theorem AC.drop {P : Program} {f : FuncId} {args : List AV} {A : AHeap} {r0 : AV} (h : AC P f args A (Same0 A r0)) : AC P f args A fun r A' => r = cln A.length r0 ∧ A' = A.map (clnB A.length) :=
 h.sub fun r A' ⟨hr, N, hA⟩ => by
  subst hr hA
  exact ⟨_, _, Sub.take A.length (Nat.le_refl _), rfl, by simp⟩
theorem AC.af {P : Program} {f : FuncId} {args : List AV} {r : AV} (h : AC P f args [] (Res r)) : AF P f args r := by
 intro H w vs hH hs hm
 refine (h H none0 w vs hH (rel_nil H w) hs (by rw [nn_nil]; exact hm)).mono ?_
 rintro en w' ⟨v, r', ι', A', hv, hr, hR, hst, hval⟩
 unfold Res resO at hr
 split at hr
 ·rename_i r0 r1 hr0
  have := reiV_sound (ι' := none0) (A' := []) hR hr0 hval
  exact ⟨v, hv, ⟨NLe.shp _ _ _ hr this.1, NLe.mem _ _ _ hr this.2⟩, hst.ext⟩
 ·exact hr.elim
theorem indexFunc_ac {f : Nat} {fs cs : List AV} {p : Ex → Bool} (A : AHeap) (l : List Ex) (hf : okF Tryz.prog f = true) (hp : ∀ a ∈ l, ∀ N, AC Tryz.prog f (fs ++ [exA a] ++ cs) (A ++ N) (Same0 A (aB (p a)))) :
 AC Tryz.prog 115 [.d (.sl 5 (Ex.ds l)), .fn f fs cs] A (Same0 A (aI .i64 (match l.findIdx? p with | some i => (i : Int) | none => -1))) := by
 refine ac_of Tryz.func115 rfl (by kernel_rfl) (by simp [Tryz.ntmps115]) fun hb => ?_
 have n1 : l.length ≤ maxLen := by simpa using hb.1.1
 clear hb
 obtain ⟨R, hR⟩ : ∃ R : Int, (match l.findIdx? p with | some i => (i : Int) | none => -1) = R := ⟨_, rfl⟩
 rw [hR]
 simp [Tryz.f115]
 refine aLoop_of (α := Nat) (fun i e A' => i ≤ l.length ∧ (∃ N, A' = A ++ N) ∧ e 8 = aI .i64 i ∧ e 7 = aI .i64 l.length ∧ e 0 = .d (.sl 5 (Ex.ds l)) ∧ e 1 = .fn f fs cs ∧
  ∀ (j : Nat) (a : Ex), j < i → l[j]? = some a → p a = false) (fun i => l.length - i) 0 (Sub.refl _ _ _) ⟨by omega, ⟨[], by simp⟩, by simp, by simp, by simp, by simp, by intro j a hj; omega⟩ ?_
 rintro i e A' ⟨hi, ⟨N, rfl⟩, e8, e7, e0, e1, hall⟩ K hK
 simp [e8, e7]
 refine aCond_split (fun hlt => ?_) (fun hge => ?_)
 ·simp at hlt
  have hi1 := gEG hlt
  simp [e0, e1, e8, hi1, Ex.d_eq]
  refine aCall_ofc (hp l[i] (gMO hi1) N) hf ?_
  rintro _ _ ⟨rfl, N', rfl⟩
  simp
  refine aCond_split (fun ht => ?_) (fun hf => ?_)
  ·have : l.findIdx? p = some i := by
    rw [List.findIdx?_eq_some_iff_getElem]
    exact ⟨hlt, ht, fun j hj => by simpa using hall j _ hj (gEG (by omega))⟩
   rw [this] at hR
   subst hR
   simp [Same0]
  ·simp [e8, succ_wrap hlt n1]
   refine hK (i + 1) _ _ _ _ (Sub.refl _ _ _) ⟨by omega, ⟨N', rfl⟩, by simp, by simp [e7], by simp [e0], by simp [e1], fun j a hj ha => ?_⟩ (by omega)
   rcases Nat.lt_or_ge j i with h | h
   ·exact hall j a h ha
   ·obtain rfl : j = i := by omega
    rw [hi1] at ha
    obtain rfl := oSI ha
    exact hf
 ·simp at hge
  have : l.findIdx? p = none := by
   rw [List.findIdx?_eq_none_iff]
   intro x hx
   obtain ⟨j, hj⟩ := List.getElem?_of_mem hx
   exact hall j x (by have := (gSI.1 hj).1; omega) hj
  rw [this] at hR
  subst hR
  simp [Same0]
theorem containsFunc_ac {f : Nat} {fs cs : List AV} {p : Ex → Bool} (A : AHeap) (l : List Ex) (hf : okF Tryz.prog f = true) (hp : ∀ a ∈ l, ∀ N, AC Tryz.prog f (fs ++ [exA a] ++ cs) (A ++ N) (Same0 A (aB (p a)))) :
 AC Tryz.prog 93 [.d (.sl 5 (Ex.ds l)), .fn f fs cs] A (Same0 A (aB (l.any p))) := by
 refine ac_of Tryz.func93 rfl (by kernel_rfl) (by simp [Tryz.ntmps93]) fun hb => ?_
 simp [Tryz.f93]
 refine aCall_ofc (indexFunc_ac A l hf hp) (by simp) ?_
 rintro _ _ ⟨rfl, N, rfl⟩
 simp [Same0]
 cases h : l.findIdx? p with
 | none =>
   rw [List.findIdx?_eq_none_iff] at h
   simpa using h
 | some i =>
   rw [List.findIdx?_eq_some_iff_getElem] at h
   obtain ⟨hi, hp, _⟩ := h
   simpa using ⟨_, List.getElem_mem hi, hp⟩
def shalB : Nat → Ex → Bool
 | 0, _ => false
 | n + 1, e => e.l.all (shalB n)
theorem shallow1_ac {n : Nat} (hn : n ≤ 1000000000) (ih : ∀ e : Ex, AF Tryz.prog 79 [exA e, aI .i64 n] (aB (shalB n e))) (b0 b1 : Blk) (h1 : b1 = ⟨0, true, 3, 1, [[aI .i64 (n + 1 : Nat)]]⟩) (x : Ex) (N : AHeap) :
 AC Tryz.prog 94 [exA x, .ptr 1 0 0 0] ([b0, b1] ++ N) (Same0 [b0, b1] (aB (!shalB n x))) := by
 subst h1
 refine ac_of Tryz.func94 rfl (by kernel_rfl) (by simp [Tryz.ntmps94]) fun hb => ?_
 simp [Tryz.f94, i64w (n := (n : Int)) (by omega)]
 refine aCall_of (ih x) (by simp) (by simp) ?_
 simp [Same0]
theorem shallow_af : ∀ (n : Nat) (e : Ex), n ≤ 1000000000 → AF Tryz.prog 79 [exA e, aI .i64 n] (aB (shalB n e)) := by
 intro n
 induction n with
 | zero =>
   intro e _
   refine af_of Tryz.func79 rfl (by kernel_rfl) (by simp [Tryz.ntmps79]) fun hb => ?_
   simp [Tryz.f79, shalB]
 | succ n ih =>
   intro e hn
   refine af_of Tryz.func79 rfl (by kernel_rfl) (by simp [Tryz.ntmps79]) fun hb => ?_
   clear hb
   simp [Tryz.f79, show (1 : Int) ≤ (n : Int) + 1 by omega]
   refine aCall_ofc (containsFunc_ac _ e.l (p := fun x => !shalB n x) (by simp) fun x _ N => shallow1_ac (by omega) (fun e => ih e (by omega)) _ _ rfl x N).drop (by simp) ?_
   rintro _ _ ⟨rfl, rfl⟩
   simp
   rw [shalB, List.not_all_eq_any_not]
theorem variable_af (v : Int) : AF Tryz.prog 87 [aI .i64 v] (aB (decide (0 ≤ v) && decide (v < 65536))) := by
 refine af_of Tryz.func87 rfl (by kernel_rfl) (by simp [Tryz.ntmps87]) fun _ => ?_
 simp [Tryz.f87]
 refine aG_split (fun h => ?_) (fun h => ?_)
 ·simp at h
  simp [h]
 ·simp at h
  simp [show ¬ (0 : Int) ≤ v by omega]
theorem access_af (v : Int) : AF Tryz.prog 88 [aI .i64 v] (aB (decide (v = 1) || decide (v = 2) || decide (v = 4))) := by
 refine af_of Tryz.func88 rfl (by kernel_rfl) (by simp [Tryz.ntmps88]) fun _ => ?_
 by_cases h1 : v = 1
 ·subst h1
  simp [Tryz.f88]
 by_cases h2 : v = 2
 ·subst h2
  simp [Tryz.f88]
 simp [Tryz.f88, h1, h2]
def okE (op n v w : Int) (k : Nat) : Bool :=
 if op = 1 then v == 0 && w == 0 && k == 0
 else if op = 2 then n == 0 && w == 0 && k == 0 && (decide (0 ≤ v) && decide (v < 65536))
 else if 3 ≤ op ∧ op ≤ 15 then n == 0 && v == 0 && w == 0 && k == 2
 else if op = 16 ∨ op = 17 then n == 0 && v == 0 && w == 0 && k == 1
 else if op = 18 then n == 0 && v == 0 && (w == 1 || w == 2 || w == 4) && k == 1
 else if op = 19 then n == 0 && v == 0 && (w == 1 || w == 2) && k == 1
 else false
def formB : Ex → Bool
 | .mk op n v w l => okE op n v w l.length && forms l
where forms : List Ex → Bool
 | [] => true
 | e :: l => formB e && forms l
theorem formB_eq (e : Ex) : formB e = (okE e.op e.n e.v e.wd e.l.length && e.l.all formB) := by
 have h : ∀ l, formB.forms l = l.all formB := by
  intro l
  induction l with
  | nil => rfl
  | cons a l ih => simp only [formB.forms, ih, List.all_cons]
 cases e
 simp only [formB, h]
 rfl
theorem formed1_ac {x : Ex} (ih : AF Tryz.prog 80 [exA x] (aB (formB x))) (A N : AHeap) : AC Tryz.prog 95 [exA x] (A ++ N) (Same0 A (aB (!formB x))) := by
 refine ac_of Tryz.func95 rfl (by kernel_rfl) (by simp [Tryz.ntmps95]) fun _ => ?_
 simp [Tryz.f95]
 refine aCall_of ih (by simp) (by simp) ?_
 simp [Same0]
theorem formed_af : ∀ (e : Ex), AF Tryz.prog 80 [exA e] (aB (formB e)) := by
 intro x
 induction x using Ex.ind with
 | h x ih =>
   have hany : ∀ A : AHeap, AC Tryz.prog 93 [.d (.sl 5 (Ex.ds x.l)), .fn 95 [] []] A fun r A' => r = aB (x.l.any fun y => !formB y) ∧ A' = A.map (clnB A.length) := fun A =>
    (containsFunc_ac (fs := []) (cs := []) (p := fun y => !formB y) A x.l (by simp) fun y hy N => formed1_ac (ih y hy) A N).drop
   rw [formB_eq]
   refine af_of Tryz.func80 rfl (by kernel_rfl) (by simp [Tryz.ntmps80]) fun _ => ?_
   obtain ⟨R, hR⟩ : ∃ R, (okE x.op x.n x.v x.wd x.l.length && x.l.all formB) = R := ⟨_, rfl⟩
   rw [hR]
   have hlast : (x.l.any fun y => !formB y) = !(x.l.all formB) := by rw [List.not_all_eq_any_not]
   simp [Tryz.f80]
   by_cases h1 : x.op = 1
   ·simp [h1]
    refine aG_split (fun g0 => ?_) (fun g0 => by simp at g0; rw [← hR]; simp [okE, h1, g0])
    simp at g0
    simp [g0]
    refine aG_split (fun g1 => ?_) (fun g1 => by simp at g1; rw [← hR]; simp [okE, h1, g0, g1])
    simp at g1
    simp [g1]
    refine aG_split (fun g2 => ?_) (fun g2 => by simp at g2; rw [← hR]; simp [okE, h1, g0, g1, g2])
    simp at g2
    simp [g2]
    refine aCall_ofc (by have h := hany; rw [g2] at h; exact h _) (by simp) ?_
    rintro _ _ ⟨rfl, rfl⟩
    simp
    rw [← hR]
    simp [okE, h1, g0, g1, g2]
   simp [h1]
   by_cases h2 : x.op = 2
   ·simp [h2]
    refine aCall_of (variable_af x.v) (by simp) (by simp) ?_
    simp
    by_cases hv : 0 ≤ x.v ∧ x.v < 65536
    ·simp [hv]
     refine aG_split (fun g0 => ?_) (fun g0 => by simp at g0; rw [← hR]; simp [okE, h1, h2, hv.1, hv.2, g0])
     simp at g0
     simp [g0]
     refine aG_split (fun g1 => ?_) (fun g1 => by simp at g1; rw [← hR]; simp [okE, h1, h2, hv.1, hv.2, g0, g1])
     simp at g1
     simp [g1]
     refine aG_split (fun g2 => ?_) (fun g2 => by simp at g2; rw [← hR]; simp [okE, h1, h2, hv.1, hv.2, g0, g1, g2])
     simp at g2
     simp [g2]
     refine aCall_ofc (by have h := hany; rw [g2] at h; exact h _) (by simp) ?_
     rintro _ _ ⟨rfl, rfl⟩
     simp
     rw [← hR]
     simp [okE, h1, h2, hv.1, hv.2, g0, g1, g2]
    ·have hv' : (decide (0 ≤ x.v) && decide (x.v < 65536)) = false := by simp; omega
     simp [hv']
     rw [← hR]
     simp [okE, h1, h2, hv']
   simp [h2]
   by_cases h3 : 3 ≤ x.op ∧ x.op ≤ 15
   ·simp [h3.1, h3.2]
    refine aG_split (fun g0 => ?_) (fun g0 => by simp at g0; rw [← hR]; simp [okE, h1, h2, h3.1, h3.2, g0])
    simp at g0
    simp [g0]
    refine aG_split (fun g1 => ?_) (fun g1 => by simp at g1; rw [← hR]; simp [okE, h1, h2, h3.1, h3.2, g0, g1])
    simp at g1
    simp [g1]
    refine aG_split (fun g2 => ?_) (fun g2 => by simp at g2; rw [← hR]; simp [okE, h1, h2, h3.1, h3.2, g0, g1, g2])
    simp at g2
    simp [g2]
    refine aG_split (fun g3 => ?_) (fun g3 => by simp at g3; have gk : ¬ x.l.length = 2 := (by omega); rw [← hR]; simp [okE, h1, h2, h3.1, h3.2, g0, g1, g2, gk, g3])
    simp at g3
    simp [g3]
    have gk : x.l.length = 2 := by omega
    refine aCall_ofc (hany _) (by simp) ?_
    rintro _ _ ⟨rfl, rfl⟩
    simp
    rw [← hR, hlast]
    simp [okE, h1, h2, h3.1, h3.2, g0, g1, g2, gk]
   have hno : ∀ (K1 K2 : AKont) (e : AEnv) (d : Option Nat) (A : AHeap), True := fun _ _ _ _ _ => trivial
   by_cases h3a : 3 ≤ x.op
   ·have h3b : ¬ x.op ≤ 15 := fun h => h3 ⟨h3a, h⟩
    simp [h3a, h3b]
    by_cases h16 : x.op = 16
    ·simp [h16]
     refine aG_split (fun g0 => ?_) (fun g0 => by simp at g0; rw [← hR]; simp [okE, h1, h2, h3a, h3b, h16, g0])
     simp at g0
     simp [g0]
     refine aG_split (fun g1 => ?_) (fun g1 => by simp at g1; rw [← hR]; simp [okE, h1, h2, h3a, h3b, h16, g0, g1])
     simp at g1
     simp [g1]
     refine aG_split (fun g2 => ?_) (fun g2 => by simp at g2; rw [← hR]; simp [okE, h1, h2, h3a, h3b, h16, g0, g1, g2])
     simp at g2
     simp [g2]
     refine aG_split (fun g3 => ?_) (fun g3 => by simp at g3; have gk : ¬ x.l.length = 1 := (by omega); rw [← hR]; simp [okE, h1, h2, h3a, h3b, h16, g0, g1, g2, gk, g3])
     simp at g3
     simp [g3]
     have gk : x.l.length = 1 := by omega
     refine aCall_ofc (hany _) (by simp) ?_
     rintro _ _ ⟨rfl, rfl⟩
     simp
     rw [← hR, hlast]
     simp [okE, h1, h2, h3a, h3b, h16, g0, g1, g2, gk]
    simp [h16]
    by_cases h17 : x.op = 17
    ·simp [h17]
     refine aG_split (fun g0 => ?_) (fun g0 => by simp at g0; rw [← hR]; simp [okE, h1, h2, h3a, h3b, h16, h17, g0])
     simp at g0
     simp [g0]
     refine aG_split (fun g1 => ?_) (fun g1 => by simp at g1; rw [← hR]; simp [okE, h1, h2, h3a, h3b, h16, h17, g0, g1])
     simp at g1
     simp [g1]
     refine aG_split (fun g2 => ?_) (fun g2 => by simp at g2; rw [← hR]; simp [okE, h1, h2, h3a, h3b, h16, h17, g0, g1, g2])
     simp at g2
     simp [g2]
     refine aG_split (fun g3 => ?_) (fun g3 => by simp at g3; have gk : ¬ x.l.length = 1 := (by omega); rw [← hR]; simp [okE, h1, h2, h3a, h3b, h16, h17, g0, g1, g2, gk, g3])
     simp at g3
     simp [g3]
     have gk : x.l.length = 1 := by omega
     refine aCall_ofc (hany _) (by simp) ?_
     rintro _ _ ⟨rfl, rfl⟩
     simp
     rw [← hR, hlast]
     simp [okE, h1, h2, h3a, h3b, h16, h17, g0, g1, g2, gk]
    simp [h17]
    by_cases h18 : x.op = 18
    ·simp [h18]
     refine aCall_of (access_af x.wd) (by simp) (by simp) ?_
     simp
     cases hw : (decide (x.wd = 1) || decide (x.wd = 2) || decide (x.wd = 4)) with
     | false =>
       simp [hw]
       rw [← hR]
       simp at hw
       simp [okE, h18, hw]
     | true =>
       have hw' : (x.wd == 1 || x.wd == 2 || x.wd == 4) = true := by simpa using hw
       simp [hw]
       refine aG_split (fun g0 => ?_) (fun g0 => by simp at g0; rw [← hR]; simp [okE, h18, hw', g0])
       simp at g0
       simp [g0]
       refine aG_split (fun g1 => ?_) (fun g1 => by simp at g1; rw [← hR]; simp [okE, h18, hw', g0, g1])
       simp at g1
       simp [g1]
       refine aG_split (fun g2 => ?_) (fun g2 => by simp at g2; have gk : ¬ x.l.length = 1 := (by omega); rw [← hR]; simp [okE, h18, hw', g0, g1, gk, g2])
       simp at g2
       simp [g2]
       have gk : x.l.length = 1 := by omega
       refine aCall_ofc (hany _) (by simp) ?_
       rintro _ _ ⟨rfl, rfl⟩
       simp
       rw [← hR, hlast]
       simp [okE, h18, hw', g0, g1, gk]
    simp [h18]
    by_cases h19 : x.op = 19
    ·simp [h19]
     cases hw : (decide (x.wd = 1) || decide (x.wd = 2)) with
     | false =>
       simp at hw
       simp [hw]
       rw [← hR]
       simp [okE, h19, hw]
     | true =>
       have hw' : (x.wd == 1 || x.wd == 2) = true := by simpa using hw
       by_cases hw1 : x.wd = 1
       ·simp [hw1]
        refine aG_split (fun g0 => ?_) (fun g0 => by simp at g0; rw [← hR]; simp [okE, h19, hw1, g0])
        simp at g0
        simp [g0]
        refine aG_split (fun g1 => ?_) (fun g1 => by simp at g1; rw [← hR]; simp [okE, h19, hw1, g0, g1])
        simp at g1
        simp [g1]
        refine aG_split (fun g2 => ?_) (fun g2 => by simp at g2; have gk : ¬ x.l.length = 1 := (by omega); rw [← hR]; simp [okE, h19, hw1, g0, g1, gk, g2])
        simp at g2
        simp [g2]
        have gk : x.l.length = 1 := by omega
        refine aCall_ofc (hany _) (by simp) ?_
        rintro _ _ ⟨rfl, rfl⟩
        simp
        rw [← hR, hlast]
        simp [okE, h19, hw1, g0, g1, gk]
       have hw2 : x.wd = 2 := by simp [hw1] at hw; exact hw
       simp [hw2]
       refine aG_split (fun g0 => ?_) (fun g0 => by simp at g0; rw [← hR]; simp [okE, h19, hw2, g0])
       simp at g0
       simp [g0]
       refine aG_split (fun g1 => ?_) (fun g1 => by simp at g1; rw [← hR]; simp [okE, h19, hw2, g0, g1])
       simp at g1
       simp [g1]
       refine aG_split (fun g2 => ?_) (fun g2 => by simp at g2; have gk : ¬ x.l.length = 1 := (by omega); rw [← hR]; simp [okE, h19, hw2, g0, g1, gk, g2])
       simp at g2
       simp [g2]
       have gk : x.l.length = 1 := by omega
       refine aCall_ofc (hany _) (by simp) ?_
       rintro _ _ ⟨rfl, rfl⟩
       simp
       rw [← hR, hlast]
       simp [okE, h19, hw2, g0, g1, gk]
    simp [h19]
    rw [← hR]
    simp [okE, h1, h2, h3a, h3b, h16, h17, h18, h19]
   ·simp [h3a, show ¬ x.op = 16 by omega, show ¬ x.op = 17 by omega, show ¬ x.op = 18 by omega, show ¬ x.op = 19 by omega]
    rw [← hR]
    simp [okE, h1, h2, h3a, show ¬ x.op = 16 by omega, show ¬ x.op = 17 by omega, show ¬ x.op = 18 by omega, show ¬ x.op = 19 by omega]
theorem check_af (e : Ex) : AF Tryz.prog 60 [exA e] (aI .i64 (if shalB 64 e = true then (if formB e = true then 0 else 2) else 20)) := by
 refine af_of Tryz.func60 rfl (by kernel_rfl) (by simp [Tryz.ntmps60]) fun _ => ?_
 simp [Tryz.f60]
 refine aCall_of (shallow_af 64 e (by omega)) (by simp) (by simp) ?_
 simp
 cases h1 : shalB 64 e with
 | false => simp
 | true =>
   simp
   refine aCall_of (formed_af e) (by simp) (by simp) ?_
   simp
   cases h2 : formB e with
   | false => simp
   | true => simp
structure St where
 op : Int
 va : Int
 wd : Int
 nx : Int
 el : Int
 tg : Int
 e : List Ex
 cs : List Int
structure Bl where
 ad : Int
 s : List St
structure Gr where
 ad : Int
 b : List Bl
def i64s (l : List Int) : List (List D) := l.map fun n => [.v (.int .i64 n)]
@[simp] theorem i64s_nil : i64s [] = [] := rfl
@[simp] theorem i64s_cons (n : Int) (l : List Int) : i64s (n :: l) = [.v (.int .i64 n)] :: i64s l := rfl
@[simp] theorem i64s_len (l : List Int) : (i64s l).length = l.length := by simp [i64s]
@[simp] theorem i64s_get (l : List Int) (i : Nat) : (i64s l)[i]? = (l[i]?).map fun n => [.v (.int .i64 n)] := by simp [i64s]
@[simp] theorem i64s_at (l : List Int) (i : Nat) (h : i < (i64s l).length) : (i64s l)[i] = [.v (.int .i64 (l[i]'(by simpa using h)))] := by simp [i64s]
@[simp] theorem i64s_all (l : List Int) : (i64s l).take l.length = i64s l := by rw [List.take_of_length_le]; simp
@[simp] theorem i64s_app (l m : List Int) : i64s (l ++ m) = i64s l ++ i64s m := by simp [i64s]
def St.d (s : St) : List D := [.v (.int .i64 s.op), .v (.int .i64 s.va), .v (.int .i64 s.wd), .v (.int .i64 s.nx), .v (.int .i64 s.el), .v (.int .u32 s.tg), .sl 5 (Ex.ds s.e), .sl 1 (i64s s.cs)]
theorem St.d_eq (s : St) : St.d s = [.v (.int .i64 s.op), .v (.int .i64 s.va), .v (.int .i64 s.wd), .v (.int .i64 s.nx), .v (.int .i64 s.el), .v (.int .u32 s.tg), .sl 5 (Ex.ds s.e), .sl 1 (i64s s.cs)] := rfl
@[simp] theorem St.d_len (s : St) : (St.d s).length = 8 := rfl
def sts (l : List St) : List (List D) := l.map St.d
@[simp] theorem sts_nil : sts [] = [] := rfl
@[simp] theorem sts_cons (s : St) (l : List St) : sts (s :: l) = s.d :: sts l := rfl
@[simp] theorem sts_len (l : List St) : (sts l).length = l.length := by simp [sts]
@[simp] theorem sts_get (l : List St) (i : Nat) : (sts l)[i]? = (l[i]?).map St.d := by simp [sts]
@[simp] theorem sts_at (l : List St) (i : Nat) (h : i < (sts l).length) : (sts l)[i] = St.d (l[i]'(by simpa using h)) := by simp [sts]
@[simp] theorem sts_all (l : List St) : (sts l).take l.length = sts l := by rw [List.take_of_length_le]; simp
@[simp] theorem sts_app (l m : List St) : sts (l ++ m) = sts l ++ sts m := by simp [sts]
@[simp] theorem sts_take (l : List St) (n : Nat) : (sts l).take n = sts (l.take n) := by simp [sts]
def Bl.d (b : Bl) : List D := [.v (.int .u32 b.ad), .sl 8 (sts b.s)]
theorem Bl.d_eq (b : Bl) : Bl.d b = [.v (.int .u32 b.ad), .sl 8 (sts b.s)] := rfl
@[simp] theorem Bl.d_len (b : Bl) : (Bl.d b).length = 2 := rfl
def bls' (l : List Bl) : List (List D) := l.map Bl.d
@[simp] theorem bls_nil : bls' [] = [] := rfl
@[simp] theorem bls_cons (b : Bl) (l : List Bl) : bls' (b :: l) = b.d :: bls' l := rfl
@[simp] theorem bls_len (l : List Bl) : (bls' l).length = l.length := by simp [bls']
@[simp] theorem bls_get (l : List Bl) (i : Nat) : (bls' l)[i]? = (l[i]?).map Bl.d := by simp [bls']
@[simp] theorem bls_at (l : List Bl) (i : Nat) (h : i < (bls' l).length) : (bls' l)[i] = Bl.d (l[i]'(by simpa using h)) := by simp [bls']
@[simp] def stV (s : St) : AV := .agg [aI .i64 s.op, aI .i64 s.va, aI .i64 s.wd, aI .i64 s.nx, aI .i64 s.el, aI .u32 s.tg, .d (.sl 5 (Ex.ds s.e)), .d (.sl 1 (i64s s.cs))]
@[simp] def blV (b : Bl) : AV := .agg [aI .u32 b.ad, .d (.sl 8 (sts b.s))]
@[simp] def grV (g : Gr) : AV := .agg [aI .u32 g.ad, .d (.sl 2 (bls' g.b))]
def exErr (e : Ex) : Int := if shalB 64 e = true then (if formB e = true then 0 else 2) else 20
def exprsN (op : Int) : Int :=
 if op = 1 ∨ op = 4 ∨ op = 7 ∨ op = 8 then 1 else if op = 2 then 2 else if op = 3 ∨ op = 5 ∨ op = 6 ∨ op = 9 ∨ op = 10 then 0 else -1
def fieldsB (s : St) : Bool :=
 let va := (s.op == 1 || s.op == 3)
 (if va then decide (0 ≤ s.va) && decide (s.va < 65536) else s.va == 0) &&
 (if s.op = 2 then (s.wd == 1 || s.wd == 2 || s.wd == 4) else s.wd == 0) &&
 (s.op == 6 || s.op == 7 || s.nx == 0) && (s.op == 7 || s.el == 0) && (s.op == 5 || s.tg == 0) &&
 (if s.op = 8 then decide (1 ≤ s.cs.length) && decide (s.cs.length ≤ 64) else decide (s.cs = []))
def exsErr : List Ex → Int
 | [] => 0
 | e :: l => if exErr e = 0 then exsErr l else exErr e
def stErr (s : St) : Int := if exprsN s.op = s.e.length then (if exsErr s.e = 0 then (if fieldsB s = true then 0 else 2) else exsErr s.e) else 2
def stsErr : List St → Int
 | [] => 0
 | s :: l => if stErr s = 0 then stsErr l else stErr s
def blsErr : List Bl → Int
 | [] => 0
 | b :: l => if stsErr b.s = 0 then blsErr l else stsErr b.s
def termB (s : St) : Bool := decide (6 ≤ s.op) && decide (s.op ≤ 10)
def tgts (s : St) : List Int := if s.op = 6 then [s.nx] else if s.op = 7 then [s.nx, s.el] else if s.op = 8 then s.cs else []
def succL (b : Bl) : List Int := match b.s.getLast? with
 | some s => tgts s
 | none => []
def closedB (n : Nat) (b : Bl) : Bool := match b.s.getLast? with
 | some s => termB s && !(b.s.take (b.s.length - 1)).any termB && !(tgts s).any fun k => decide (k < 0) || decide ((n : Int) ≤ k)
 | none => false
def stN : List Bl → Nat
 | [] => 0
 | b :: l => b.s.length + stN l
def grErr (g : Gr) : Int :=
 if 256 < g.b.length ∨ 1024 < stN g.b then 6
 else if g.b.length = 0 ∨ g.b.all (closedB g.b.length) = false then 18
 else blsErr g.b
theorem bds_all {sz : Nat} : ∀ {xs : List (List D)}, BdS sz xs → ((dEls xs).all fun x => x.length == sz) = true
 | [], _ => rfl
 | x :: xs, h => by
   simp only [BdS] at h
   have := bds_all h.2.2
   simp [h.1] at this ⊢
   exact this
theorem clone_ac (A : AHeap) (xs : List (List D)) (hl : xs.length ≤ 1000000000) :
 AC Tryz.prog 33 [.d (.sl 5 xs)] A fun r A' => r = .own A.length 1 0 xs.length ∧ A' = A ++ [⟨1, true, 37, 5, dEls xs⟩] := by
 refine AC.sub (R := fun r A' => (r = .own A.length 1 0 xs.length ∧ A' = A ++ [⟨1, true, 37, 5, dEls xs⟩]) ∨ (r = .d (.v (.slice none 0 0)) ∧ xs = [] ∧ A' = A)) (ac_of Tryz.func33 rfl (by kernel_rfl) (by simp [Tryz.ntmps33]) fun hb => ?_) ?_
 ·have hall := bds_all hb.1.2
  clear hb
  simp [Tryz.f33]
  refine aRaw_app byt_35 ?_
  simp [hall]
  unfold maxLen
  omega
 ·rintro r A' (⟨rfl, rfl⟩ | ⟨rfl, rfl, rfl⟩)
  ·exact ⟨_, _, Sub.refl _ _ _, rfl, rfl⟩
  ·refine ⟨_, _, (Sub.ghost 1 37 5).trans (Sub.env (e' := fun _ => .own A'.length 1 0 0) fun i => VLe.nil_own (k := ⟨1, true, 37, 5, []⟩) (by simp) rfl), ?_, ?_⟩ <;> simp
def eCon (n : Int) : Ex := .mk 1 n 0 0 []
def eVar (v : Int) : Ex := .mk 2 0 v 0 []
def eTwo (op : Int) (a b : Ex) : Ex := .mk op 0 0 0 [a, b]
def eOne (op : Int) (a : Ex) : Ex := .mk op 0 0 0 [a]
section
variable (op n v : Int) (a b : Ex)
@[simp] theorem eCon_op : (eCon n).op = 1 := rfl
@[simp] theorem eCon_n : (eCon n).n = n := rfl
@[simp] theorem eCon_v : (eCon n).v = 0 := rfl
@[simp] theorem eCon_wd : (eCon n).wd = 0 := rfl
@[simp] theorem eCon_l : (eCon n).l = [] := rfl
@[simp] theorem eVar_op : (eVar v).op = 2 := rfl
@[simp] theorem eVar_n : (eVar v).n = 0 := rfl
@[simp] theorem eVar_v : (eVar v).v = v := rfl
@[simp] theorem eVar_wd : (eVar v).wd = 0 := rfl
@[simp] theorem eVar_l : (eVar v).l = [] := rfl
@[simp] theorem eTwo_op : (eTwo op a b).op = op := rfl
@[simp] theorem eTwo_n : (eTwo op a b).n = 0 := rfl
@[simp] theorem eTwo_v : (eTwo op a b).v = 0 := rfl
@[simp] theorem eTwo_wd : (eTwo op a b).wd = 0 := rfl
@[simp] theorem eTwo_l : (eTwo op a b).l = [a, b] := rfl
@[simp] theorem eOne_op : (eOne op a).op = op := rfl
@[simp] theorem eOne_n : (eOne op a).n = 0 := rfl
@[simp] theorem eOne_v : (eOne op a).v = 0 := rfl
@[simp] theorem eOne_wd : (eOne op a).wd = 0 := rfl
@[simp] theorem eOne_l : (eOne op a).l = [a] := rfl
@[simp] theorem nodes_con : (eCon n).nodes = 1 := rfl
@[simp] theorem nodes_var : (eVar v).nodes = 1 := rfl
end
theorem const_af (n : Int) : AF Tryz.prog 38 [aI .u32 n] (exA (eCon n)) := by
 refine af_of Tryz.func38 rfl (by kernel_rfl) (by simp [Tryz.ntmps38]) fun _ => ?_
 simp [Tryz.f38]
theorem var_af (v : Int) : AF Tryz.prog 58 [aI .i64 v] (exA (eVar v)) := by
 refine af_of Tryz.func58 rfl (by kernel_rfl) (by simp [Tryz.ntmps58]) fun _ => ?_
 simp [Tryz.f58]
def strs (xs : List ByteArray) : List (List D) := xs.map fun x => [.v (.string x)]
@[simp] theorem strs_nil : strs [] = [] := rfl
@[simp] theorem strs_cons (x : ByteArray) (xs : List ByteArray) : strs (x :: xs) = [.v (.string x)] :: strs xs := rfl
theorem nodess_take {l : List Ex} {i : Nat} {x : Ex} (h : l[i]? = some x) : Ex.nodess (l.take (i + 1)) = Ex.nodess (l.take i) + x.nodes := by
 have : ∀ (a b : List Ex), Ex.nodess (a ++ b) = Ex.nodess a + Ex.nodess b := by
  intro a b
  induction a with
  | nil => simp [Ex.nodess]
  | cons y a ih => simp [Ex.nodess, ih]; omega
 rw [List.take_add_one, h, this]
 simp [Ex.nodess]
theorem nodess_take_le : ∀ (l : List Ex) (i : Nat), Ex.nodess (l.take i) ≤ Ex.nodess l
 | [], i => by simp
 | x :: l, 0 => by simp [Ex.nodess]
 | x :: l, i + 1 => by have := nodess_take_le l i; simp [Ex.nodess]; omega
namespace Ex
def x (e : Ex) : Ex := e.l.getD 0 (eCon 0)
def y (e : Ex) : Ex := e.l.getD 1 (eCon 0)
end Ex
section
variable (op n v w : Int) (a b : Ex) (l : List Ex)
@[simp] theorem x_two : (eTwo op a b).x = a := rfl
@[simp] theorem y_two : (eTwo op a b).y = b := rfl
@[simp] theorem x_one : (eOne op a).x = a := rfl
@[simp] theorem x_mk : (Ex.mk op n v w (a :: l)).x = a := rfl
@[simp] theorem y_mk : (Ex.mk op n v w (a :: b :: l)).y = b := rfl
end
theorem form_all {e : Ex} (h : formB e = true) : okE e.op e.n e.v e.wd e.l.length = true ∧ ∀ x ∈ e.l, formB x = true := by
 rw [formB_eq, Bool.and_eq_true, List.all_eq_true] at h
 exact h
theorem okE_con {n v w : Int} {k : Nat} : okE 1 n v w k = true ↔ v = 0 ∧ w = 0 ∧ k = 0 := by simp [okE, and_assoc]
theorem okE_var {n v w : Int} {k : Nat} : okE 2 n v w k = true ↔ n = 0 ∧ w = 0 ∧ k = 0 ∧ 0 ≤ v ∧ v < 65536 := by simp [okE, and_assoc]
theorem okE_two {op n v w : Int} {k : Nat} (h3 : 3 ≤ op) (h15 : op ≤ 15) : okE op n v w k = true ↔ n = 0 ∧ v = 0 ∧ w = 0 ∧ k = 2 := by
 unfold okE
 rw [if_neg (by omega), if_neg (by omega), if_pos ⟨h3, h15⟩]
 simp [and_assoc]
theorem okE_one {op n v w : Int} {k : Nat} (ho : op = 16 ∨ op = 17) : okE op n v w k = true ↔ n = 0 ∧ v = 0 ∧ w = 0 ∧ k = 1 := by
 rcases ho with rfl | rfl <;> simp [okE, and_assoc]
theorem okE_load {n v w : Int} {k : Nat} : okE 18 n v w k = true ↔ n = 0 ∧ v = 0 ∧ (w = 1 ∨ w = 2 ∨ w = 4) ∧ k = 1 := by simp [okE, and_assoc, or_assoc]
theorem okE_sext {n v w : Int} {k : Nat} : okE 19 n v w k = true ↔ n = 0 ∧ v = 0 ∧ (w = 1 ∨ w = 2) ∧ k = 1 := by simp [okE, and_assoc]
theorem okE_no {op n v w : Int} {k : Nat} (h : op < 1 ∨ 19 < op) : okE op n v w k = false := by
 unfold okE
 rw [if_neg (by omega), if_neg (by omega), if_neg (by omega), if_neg (by omega), if_neg (by omega), if_neg (by omega)]
theorem form_con {e : Ex} (h : formB e = true) (ho : e.op = 1) : e = eCon e.n := by
 have h1 := (form_all h).1
 rw [ho, okE_con] at h1
 obtain ⟨op, n, v, w, l⟩ := e
 simp only [Ex.op_mk, Ex.v_mk, Ex.wd_mk, Ex.l_mk] at h1 ho
 obtain ⟨rfl, rfl, hl⟩ := h1
 subst ho
 match l, hl with
 | [], _ => rfl
theorem form_var {e : Ex} (h : formB e = true) (ho : e.op = 2) : e = eVar e.v ∧ 0 ≤ e.v ∧ e.v < 65536 := by
 have h1 := (form_all h).1
 rw [ho, okE_var] at h1
 obtain ⟨op, n, v, w, l⟩ := e
 simp only [Ex.op_mk, Ex.n_mk, Ex.v_mk, Ex.wd_mk, Ex.l_mk] at h1 ho
 obtain ⟨rfl, rfl, hl, h2, h3⟩ := h1
 subst ho
 match l, hl with
 | [], _ => exact ⟨rfl, h2, h3⟩
theorem form_two {e : Ex} (h : formB e = true) (h3 : 3 ≤ e.op) (h15 : e.op ≤ 15) : ∃ a b, e = eTwo e.op a b ∧ formB a = true ∧ formB b = true := by
 obtain ⟨h1, h2⟩ := form_all h
 rw [okE_two h3 h15] at h1
 obtain ⟨op, n, v, w, l⟩ := e
 simp only [Ex.n_mk, Ex.v_mk, Ex.wd_mk, Ex.l_mk] at h1 h2
 obtain ⟨rfl, rfl, rfl, hl⟩ := h1
 match l, hl with
 | [a, b], _ => exact ⟨a, b, rfl, h2 a (by simp), h2 b (by simp)⟩
theorem form_one {e : Ex} (h : formB e = true) (ho : e.op = 16 ∨ e.op = 17) : ∃ a, e = eOne e.op a ∧ formB a = true := by
 obtain ⟨h1, h2⟩ := form_all h
 rw [okE_one ho] at h1
 obtain ⟨op, n, v, w, l⟩ := e
 simp only [Ex.n_mk, Ex.v_mk, Ex.wd_mk, Ex.l_mk] at h1 h2
 obtain ⟨rfl, rfl, rfl, hl⟩ := h1
 match l, hl with
 | [a], _ => exact ⟨a, rfl, h2 a (by simp)⟩
theorem form_wide {e : Ex} (h : formB e = true) (ho : e.op = 18 ∨ e.op = 19) : ∃ a, e = .mk e.op 0 0 e.wd [a] ∧ formB a = true ∧ (e.wd = 1 ∨ e.wd = 2 ∨ e.wd = 4 ∧ e.op = 18) := by
 obtain ⟨h1, h2⟩ := form_all h
 have h1' : e.n = 0 ∧ e.v = 0 ∧ (e.wd = 1 ∨ e.wd = 2 ∨ e.wd = 4 ∧ e.op = 18) ∧ e.l.length = 1 := by
  rcases ho with ho | ho
  ·rw [ho, okE_load] at h1; omega
  ·rw [ho, okE_sext] at h1; omega
 obtain ⟨op, n, v, w, l⟩ := e
 simp only [Ex.op_mk, Ex.n_mk, Ex.v_mk, Ex.wd_mk, Ex.l_mk] at h1' h2
 obtain ⟨rfl, rfl, hw, hl⟩ := h1'
 match l, hl with
 | [a], _ => exact ⟨a, rfl, h2 a (by simp), hw⟩
theorem form_op {e : Ex} (h : formB e = true) : 1 ≤ e.op ∧ e.op ≤ 19 := by
 have h1 := (form_all h).1
 rcases Int.lt_or_le e.op 1 with h2 | h2
 ·rw [okE_no (.inl h2)] at h1; cases h1
 ·rcases Int.lt_or_le 19 e.op with h3 | h3
  ·rw [okE_no (.inr h3)] at h1; cases h1
  ·exact ⟨h2, h3⟩
theorem sameB_iff : ∀ {a b : Ex}, sameB a b = true ↔ a = b := by
 intro a
 induction a using Ex.ind with
 | h a ih =>
   intro b
   constructor
   ·intro h
    rw [sameB_eq] at h
    simp only [Bool.and_eq_true, beq_iff_eq] at h
    obtain ⟨⟨⟨⟨h1, h2⟩, h3⟩, h4⟩, h5⟩ := h
    have hl : ∀ l l' : List Ex, (∀ x ∈ l, ∀ b, sameB x b = true ↔ x = b) → all2 sameB l l' = true → l = l' := by
     intro l
     induction l with
     | nil => intro l' _ h; cases l' with | nil => rfl | cons y l' => simp [all2] at h
     | cons x l ihl =>
       intro l' hx h
       cases l' with
       | nil => simp [all2] at h
       | cons y l' =>
         simp only [all2, Bool.and_eq_true] at h
         rw [(hx x (by simp) y).1 h.1, ihl l' (fun z hz => hx z (by simp [hz])) h.2]
    have := hl _ _ (fun x hx b => ih x hx) h5
    rw [← Ex.eta a, ← Ex.eta b, h1, h2, h3, h4, this]
   ·rintro rfl
    exact sameB_refl a
def wOp (op : Int) : Nat := if op = 3 ∨ op = 4 ∨ op = 9 ∨ op = 10 ∨ op = 11 then 2 else 1
mutual
def Ex.wt : Ex → Nat
 | .mk op _ _ _ l => wOp op + wts l
def wts : List Ex → Nat
 | [] => 0
 | e :: l => e.wt + wts l
end
@[simp] theorem wt_con (n : Int) : (eCon n).wt = 1 := rfl
abbrev bxE (e : Ex) : Blk := ⟨0, true, 37, 5, [[aI .i64 e.op, aI .u32 e.n, aI .i64 e.v, aI .i64 e.wd, .d (.sl 5 (Ex.ds e.l))]]⟩
def lowN (n : Int) : List Int → Nat
 | [] => 0
 | a :: l => if a < n then lowN n l + 1 else 0
def insL (l : List Int) (n : Int) : List Int := if l[lowN n l]? = some n then l else l.take (lowN n l) ++ n :: l.drop (lowN n l)
theorem dEls_i64 (l : List Int) : (∀ x, x ∈ dEls (i64s l) → x.length = 1) ↔ True := by
 refine iff_true_intro fun x hx => ?_
 simp only [dEls, i64s, List.map_map, List.mem_map] at hx
 obtain ⟨n, _, rfl⟩ := hx
 rfl
def occ : Ex → List Int
 | .mk o _ w _ l => (if o = 2 then [w] else []) ++ occs l
where occs : List Ex → List Int
 | [] => []
 | e :: l => occ e ++ occs l
def varsR : Ex → List Int
 | .mk o _ w _ l => varsRs (if o = 2 then [w] else []) l
where varsRs (out : List Int) : List Ex → List Int
 | [] => out
 | e :: l => varsRs ((varsR e).foldl insL out) l
theorem occ_eq (e : Ex) : occ e = (if e.op = 2 then [e.v] else []) ++ occ.occs e.l := by cases e; rfl
theorem varsR_eq (e : Ex) : varsR e = varsR.varsRs (if e.op = 2 then [e.v] else []) e.l := by cases e; rfl
def Asc (l : List Int) : Prop := l.Pairwise (· < ·)
def insR (n : Int) : List Int → List Int
 | [] => [n]
 | a :: l => if a < n then a :: insR n l else if a = n then a :: l else n :: a :: l
theorem insL_eq (n : Int) : ∀ l : List Int, insL l n = insR n l
 | [] => by simp [insL, insR, lowN]
 | a :: l => by
   have ih := insL_eq n l
   unfold insL at ih ⊢
   by_cases h : a < n
   ·simp only [lowN, if_pos h, insR, List.getElem?_cons_succ, List.take_succ_cons, List.drop_succ_cons]
    rw [← ih]
    split <;> simp
   ·simp only [lowN, if_neg h, insR, List.getElem?_cons_zero, List.take_zero, List.drop_zero, Option.some.injEq, List.nil_append]
theorem insR_mem (n v : Int) : ∀ l : List Int, v ∈ insR n l ↔ v = n ∨ v ∈ l
 | [] => by simp [insR]
 | a :: l => by
   simp only [insR]
   split
   ·simp only [List.mem_cons, insR_mem n v l]
    constructor
    ·rintro (h | h | h)
     ·exact .inr (.inl h)
     ·exact .inl h
     ·exact .inr (.inr h)
    ·rintro (h | h | h)
     ·exact .inr (.inl h)
     ·exact .inl h
     ·exact .inr (.inr h)
   ·split
    ·rename_i h
     subst h
     simp only [List.mem_cons]
     constructor
     ·exact .inr
     ·rintro (h | h)
      ·exact .inl h
      ·exact h
    ·simp only [List.mem_cons]
theorem insR_asc (n : Int) : ∀ {l : List Int}, Asc l → Asc (insR n l)
 | [], _ => by simp [insR, Asc]
 | a :: l, h => by
   obtain ⟨h1, h2⟩ := List.pairwise_cons.1 h
   have ih := insR_asc n h2
   simp only [insR]
   split
   ·refine List.pairwise_cons.2 ⟨fun v hv => ?_, ih⟩
    rcases (insR_mem n v l).1 hv with rfl | hv
    ·assumption
    ·exact h1 v hv
   ·split
    ·exact h
    ·refine List.pairwise_cons.2 ⟨fun v hv => ?_, h⟩
     rcases List.mem_cons.1 hv with rfl | hv
     ·omega
     ·have := h1 v hv
      omega
theorem insR_len (n : Int) : ∀ l : List Int, (insR n l).length ≤ l.length + 1
 | [] => by simp [insR]
 | a :: l => by
   have := insR_len n l
   simp only [insR]
   split
   ·simp; omega
   ·split <;> simp
theorem insL_mem {n v : Int} {l : List Int} : v ∈ insL l n ↔ v = n ∨ v ∈ l := by rw [insL_eq, insR_mem]
theorem insL_asc {n : Int} {l : List Int} (h : Asc l) : Asc (insL l n) := by rw [insL_eq]; exact insR_asc n h
theorem insL_len (l : List Int) (n : Int) : (insL l n).length ≤ l.length + 1 := by rw [insL_eq]; exact insR_len n l
theorem fold_mem {v : Int} : ∀ {m l : List Int}, v ∈ m.foldl insL l ↔ v ∈ l ∨ v ∈ m
 | [], l => by simp
 | a :: m, l => by
   simp only [List.foldl_cons, fold_mem (m := m), insL_mem, List.mem_cons]
   constructor
   ·rintro ((h | h) | h)
    ·exact .inr (.inl h)
    ·exact .inl h
    ·exact .inr (.inr h)
   ·rintro (h | h | h)
    ·exact .inl (.inr h)
    ·exact .inl (.inl h)
    ·exact .inr h
theorem fold_asc : ∀ {m l : List Int}, Asc l → Asc (m.foldl insL l)
 | [], _, h => h
 | a :: m, l, h => by
   rw [List.foldl_cons]
   exact fold_asc (m := m) (insL_asc h)
theorem fold_len : ∀ (m l : List Int), (m.foldl insL l).length ≤ l.length + m.length
 | [], l => by simp
 | a :: m, l => by
   have h1 := fold_len m (insL l a)
   have h2 := insL_len l a
   simp only [List.foldl_cons, List.length_cons]
   omega
theorem varsR_all : ∀ e : Ex, (∀ v, v ∈ varsR e ↔ v ∈ occ e) ∧ Asc (varsR e) ∧ (varsR e).length ≤ e.nodes := by
 intro e
 induction e using Ex.ind with
 | h e ih =>
 have hl : ∀ (l : List Ex), (∀ x ∈ l, (∀ v, v ∈ varsR x ↔ v ∈ occ x) ∧ Asc (varsR x) ∧ (varsR x).length ≤ x.nodes) → ∀ out : List Int, Asc out →
  (∀ v, v ∈ varsR.varsRs out l ↔ v ∈ out ∨ v ∈ occ.occs l) ∧ Asc (varsR.varsRs out l) ∧ (varsR.varsRs out l).length ≤ out.length + Ex.nodess l := by
  intro l
  induction l with
  | nil => intro _ out h; simp [varsR.varsRs, occ.occs, h]
  | cons a l ihl =>
    intro h out ho
    obtain ⟨a1, a2, a3⟩ := h a (by simp)
    obtain ⟨b1, b2, b3⟩ := ihl (fun x hx => h x (by simp [hx])) ((varsR a).foldl insL out) (fold_asc ho)
    have b4 := fold_len (varsR a) out
    refine ⟨fun v => ?_, b2, ?_⟩
    ·simp only [varsR.varsRs, occ.occs, b1 v, fold_mem, a1 v, List.mem_append]
     exact or_assoc
    ·simp only [varsR.varsRs, Ex.nodess]
     omega
 have h0 : Asc (if e.op = 2 then [e.v] else []) := by split <;> simp [Asc]
 have h1 : (if e.op = 2 then [e.v] else []).length ≤ 1 := by split <;> simp
 obtain ⟨c1, c2, c3⟩ := hl e.l ih _ h0
 have hne : e.nodes = Ex.nodess e.l + 1 := by cases e; rfl
 rw [varsR_eq, occ_eq, hne]
 refine ⟨fun v => by rw [c1 v, List.mem_append], c2, by omega⟩
theorem varsR_mem {e : Ex} {v : Int} : v ∈ varsR e ↔ v ∈ occ e := (varsR_all e).1 v
theorem varsR_asc (e : Ex) : Asc (varsR e) := (varsR_all e).2.1
theorem asc_ext : ∀ {l m : List Int}, Asc l → Asc m → (∀ v, v ∈ l ↔ v ∈ m) → l = m
 | [], [], _, _, _ => rfl
 | [], b :: m, _, _, h => absurd ((h b).2 (by simp)) (by simp)
 | a :: l, [], _, _, h => absurd ((h a).1 (by simp)) (by simp)
 | a :: l, b :: m, h1, h2, h => by
   obtain ⟨p1, p2⟩ := List.pairwise_cons.1 h1
   obtain ⟨q1, q2⟩ := List.pairwise_cons.1 h2
   have e1 : a = b := by
    have x := (h a).1 (by simp)
    have y := (h b).2 (by simp)
    rcases List.mem_cons.1 x with rfl | x
    ·rfl
    rcases List.mem_cons.1 y with rfl | y
    ·rfl
    have := q1 a x
    have := p1 b y
    omega
   subst e1
   rw [asc_ext p2 q2 fun v => ?_]
   constructor
   ·intro hv
    have := p1 v hv
    rcases List.mem_cons.1 ((h v).1 (by simp [hv])) with rfl | hv
    ·omega
    ·exact hv
   ·intro hv
    have := q1 v hv
    rcases List.mem_cons.1 ((h v).2 (by simp [hv])) with rfl | hv
    ·omega
    ·exact hv
theorem form_eCon (n : Int) : formB (eCon n) = true := by
 rw [formB_eq]
 simp [eCon, okE]
theorem u32e (n : Int) : IntKind.u32.wrap n = n % 4294967296 := by simp [IntKind.wrap, IntKind.signed, IntKind.bits]
def R32 (x : Int) : Prop := 0 ≤ x ∧ x < 4294967296
inductive OkN : Ex → Prop where
 | mk {e : Ex} : R32 e.n → (∀ x ∈ e.l, OkN x) → OkN e
theorem OkN.n {e : Ex} (h : OkN e) : R32 e.n := by cases h; assumption
theorem OkN.l {e : Ex} (h : OkN e) : ∀ x ∈ e.l, OkN x := by cases h; assumption
theorem okN_con {n : Int} (h : R32 n) : OkN (eCon n) := .mk h (by simp)
theorem r32_0 : R32 0 := ⟨by omega, by omega⟩
theorem okN_two {op : Int} {a b : Ex} (ha : OkN a) (hb : OkN b) : OkN (eTwo op a b) := .mk r32_0 (by simp; exact ⟨ha, hb⟩)
theorem r32_mod (n : Int) : R32 (n % 4294967296) := ⟨Int.emod_nonneg _ (by omega), Int.emod_lt_of_pos _ (by omega)⟩
theorem r32_wrap (n : Int) : R32 (IntKind.u32.wrap n) := by rw [u32e]; exact r32_mod n
section
variable (V : List Int) (L : Int → Int → Int × Int)
end
theorem index_st_ac {f : Nat} {fs cs : List AV} {p : St → Bool} (A : AHeap) (l : List St) (hf : okF Tryz.prog f = true) (hp : ∀ a ∈ l, ∀ N, AC Tryz.prog f (fs ++ [stV a] ++ cs) (A ++ N) (Same0 A (aB (p a)))) :
 AC Tryz.prog 86 [.d (.sl 8 (sts l)), .fn f fs cs] A (Same0 A (aI .i64 (match l.findIdx? p with | some i => (i : Int) | none => -1))) := by
 refine ac_of Tryz.func86 rfl (by kernel_rfl) (by simp [Tryz.ntmps86]) fun hb => ?_
 have n1 : l.length ≤ maxLen := by simpa using hb.1.1
 clear hb
 obtain ⟨R, hR⟩ : ∃ R : Int, (match l.findIdx? p with | some i => (i : Int) | none => -1) = R := ⟨_, rfl⟩
 rw [hR]
 simp [Tryz.f86]
 refine aLoop_of (α := Nat) (fun i e A' => i ≤ l.length ∧ (∃ N, A' = A ++ N) ∧ e 8 = aI .i64 i ∧ e 7 = aI .i64 l.length ∧ e 0 = .d (.sl 8 (sts l)) ∧ e 1 = .fn f fs cs ∧
  ∀ (j : Nat) (a : St), j < i → l[j]? = some a → p a = false) (fun i => l.length - i) 0 (Sub.refl _ _ _) ⟨by omega, ⟨[], by simp⟩, by simp, by simp, by simp, by simp, by intro j a hj; omega⟩ ?_
 rintro i e A' ⟨hi, ⟨N, rfl⟩, e8, e7, e0, e1, hall⟩ K hK
 simp [e8, e7]
 refine aCond_split (fun hlt => ?_) (fun hge => ?_)
 ·simp at hlt
  have hi1 := gEG hlt
  simp [e0, e1, e8, hi1, St.d_eq]
  refine aCall_ofc (hp l[i] (gMO hi1) N) hf ?_
  rintro _ _ ⟨rfl, N', rfl⟩
  simp
  refine aCond_split (fun ht => ?_) (fun hf => ?_)
  ·have : l.findIdx? p = some i := by
    rw [List.findIdx?_eq_some_iff_getElem]
    exact ⟨hlt, ht, fun j hj => by simpa using hall j _ hj (gEG (by omega))⟩
   rw [this] at hR
   subst hR
   simp [Same0]
  ·simp [e8, succ_wrap hlt n1]
   refine hK (i + 1) _ _ _ _ (Sub.refl _ _ _) ⟨by omega, ⟨N', rfl⟩, by simp, by simp [e7], by simp [e0], by simp [e1], fun j a hj ha => ?_⟩ (by omega)
   rcases Nat.lt_or_ge j i with h | h
   ·exact hall j a h ha
   ·obtain rfl : j = i := by omega
    rw [hi1] at ha
    obtain rfl := oSI ha
    exact hf
 ·simp at hge
  have : l.findIdx? p = none := by
   rw [List.findIdx?_eq_none_iff]
   intro x hx
   obtain ⟨j, hj⟩ := List.getElem?_of_mem hx
   exact hall j x (by have := (gSI.1 hj).1; omega) hj
  rw [this] at hR
  subst hR
  simp [Same0]
theorem contains_st_ac {f : Nat} {fs cs : List AV} {p : St → Bool} (A : AHeap) (l : List St) (hf : okF Tryz.prog f = true) (hp : ∀ a ∈ l, ∀ N, AC Tryz.prog f (fs ++ [stV a] ++ cs) (A ++ N) (Same0 A (aB (p a)))) :
 AC Tryz.prog 65 [.d (.sl 8 (sts l)), .fn f fs cs] A (Same0 A (aB (l.any p))) := by
 refine ac_of Tryz.func65 rfl (by kernel_rfl) (by simp [Tryz.ntmps65]) fun hb => ?_
 simp [Tryz.f65]
 refine aCall_ofc (index_st_ac A l hf hp) (by simp) ?_
 rintro _ _ ⟨rfl, N, rfl⟩
 simp [Same0]
 cases h : l.findIdx? p with
 | none =>
   rw [List.findIdx?_eq_none_iff] at h
   simpa using h
 | some i =>
   rw [List.findIdx?_eq_some_iff_getElem] at h
   obtain ⟨hi, hp, _⟩ := h
   simpa using ⟨_, List.getElem_mem hi, hp⟩
theorem clone_st_ac (A : AHeap) (xs : List (List D)) (hl : xs.length ≤ 1000000000) :
 AC Tryz.prog 18 [.d (.sl 8 xs)] A fun r A' => r = .own A.length 1 0 xs.length ∧ A' = A ++ [⟨1, true, 40, 8, dEls xs⟩] := by
 refine AC.sub (R := fun r A' => (r = .own A.length 1 0 xs.length ∧ A' = A ++ [⟨1, true, 40, 8, dEls xs⟩]) ∨ (r = .d (.v (.slice none 0 0)) ∧ xs = [] ∧ A' = A)) (ac_of Tryz.func18 rfl (by kernel_rfl) (by simp [Tryz.ntmps18]) fun hb => ?_) ?_
 ·have hall := bds_all hb.1.2
  clear hb
  simp [Tryz.f18]
  refine aRaw_app byt_32 ?_
  simp [hall]
  unfold maxLen
  omega
 ·rintro r A' (⟨rfl, rfl⟩ | ⟨rfl, rfl, rfl⟩)
  ·exact ⟨_, _, Sub.refl _ _ _, rfl, rfl⟩
  ·refine ⟨_, _, (Sub.ghost 1 40 8).trans (Sub.env (e' := fun _ => .own A'.length 1 0 0) fun i => VLe.nil_own (k := ⟨1, true, 40, 8, []⟩) (by simp) rfl), ?_, ?_⟩ <;> simp
theorem index_in_ac {f : Nat} {fs cs : List AV} {p : Int → Bool} (A : AHeap) (l : List Int) (hf : okF Tryz.prog f = true) (hp : ∀ a ∈ l, ∀ N, AC Tryz.prog f (fs ++ [aI .i64 a] ++ cs) (A ++ N) (Same0 A (aB (p a)))) :
 AC Tryz.prog 73 [.d (.sl 1 (i64s l)), .fn f fs cs] A (Same0 A (aI .i64 (match l.findIdx? p with | some i => (i : Int) | none => -1))) := by
 refine ac_of Tryz.func73 rfl (by kernel_rfl) (by simp [Tryz.ntmps73]) fun hb => ?_
 have n1 : l.length ≤ maxLen := by simpa using hb.1.1
 clear hb
 obtain ⟨R, hR⟩ : ∃ R : Int, (match l.findIdx? p with | some i => (i : Int) | none => -1) = R := ⟨_, rfl⟩
 rw [hR]
 simp [Tryz.f73]
 refine aLoop_of (α := Nat) (fun i e A' => i ≤ l.length ∧ (∃ N, A' = A ++ N) ∧ e 8 = aI .i64 i ∧ e 7 = aI .i64 l.length ∧ e 0 = .d (.sl 1 (i64s l)) ∧ e 1 = .fn f fs cs ∧
  ∀ (j : Nat) (a : Int), j < i → l[j]? = some a → p a = false) (fun i => l.length - i) 0 (Sub.refl _ _ _) ⟨by omega, ⟨[], by simp⟩, by simp, by simp, by simp, by simp, by intro j a hj; omega⟩ ?_
 rintro i e A' ⟨hi, ⟨N, rfl⟩, e8, e7, e0, e1, hall⟩ K hK
 simp [e8, e7]
 refine aCond_split (fun hlt => ?_) (fun hge => ?_)
 ·simp at hlt
  have hi1 := gEG hlt
  simp [e0, e1, e8, hi1]
  refine aCall_ofc (hp l[i] (gMO hi1) N) hf ?_
  rintro _ _ ⟨rfl, N', rfl⟩
  simp
  refine aCond_split (fun ht => ?_) (fun hf => ?_)
  ·have : l.findIdx? p = some i := by
    rw [List.findIdx?_eq_some_iff_getElem]
    exact ⟨hlt, ht, fun j hj => by simpa using hall j _ hj (gEG (by omega))⟩
   rw [this] at hR
   subst hR
   simp [Same0]
  ·simp [e8, succ_wrap hlt n1]
   refine hK (i + 1) _ _ _ _ (Sub.refl _ _ _) ⟨by omega, ⟨N', rfl⟩, by simp, by simp [e7], by simp [e0], by simp [e1], fun j a hj ha => ?_⟩ (by omega)
   rcases Nat.lt_or_ge j i with h | h
   ·exact hall j a h ha
   ·obtain rfl : j = i := by omega
    rw [hi1] at ha
    obtain rfl := oSI ha
    exact hf
 ·simp at hge
  have : l.findIdx? p = none := by
   rw [List.findIdx?_eq_none_iff]
   intro x hx
   obtain ⟨j, hj⟩ := List.getElem?_of_mem hx
   exact hall j x (by have := (gSI.1 hj).1; omega) hj
  rw [this] at hR
  subst hR
  simp [Same0]
theorem contains_in_ac {f : Nat} {fs cs : List AV} {p : Int → Bool} (A : AHeap) (l : List Int) (hf : okF Tryz.prog f = true) (hp : ∀ a ∈ l, ∀ N, AC Tryz.prog f (fs ++ [aI .i64 a] ++ cs) (A ++ N) (Same0 A (aB (p a)))) :
 AC Tryz.prog 50 [.d (.sl 1 (i64s l)), .fn f fs cs] A (Same0 A (aB (l.any p))) := by
 refine ac_of Tryz.func50 rfl (by kernel_rfl) (by simp [Tryz.ntmps50]) fun hb => ?_
 simp [Tryz.f50]
 refine aCall_ofc (index_in_ac A l hf hp) (by simp) ?_
 rintro _ _ ⟨rfl, N, rfl⟩
 simp [Same0]
 cases h : l.findIdx? p with
 | none =>
   rw [List.findIdx?_eq_none_iff] at h
   simpa using h
 | some i =>
   rw [List.findIdx?_eq_some_iff_getElem] at h
   obtain ⟨hi, hp, _⟩ := h
   simpa using ⟨_, List.getElem_mem hi, hp⟩
theorem clone_in_ac (A : AHeap) (xs : List (List D)) (hl : xs.length ≤ 1000000000) :
 AC Tryz.prog 16 [.d (.sl 1 xs)] A fun r A' => r = .own A.length 1 0 xs.length ∧ A' = A ++ [⟨1, true, 3, 1, dEls xs⟩] := by
 refine AC.sub (R := fun r A' => (r = .own A.length 1 0 xs.length ∧ A' = A ++ [⟨1, true, 3, 1, dEls xs⟩]) ∨ (r = .d (.v (.slice none 0 0)) ∧ xs = [] ∧ A' = A)) (ac_of Tryz.func16 rfl (by kernel_rfl) (by simp [Tryz.ntmps16]) fun hb => ?_) ?_
 ·have hall := bds_all hb.1.2
  clear hb
  simp [Tryz.f16]
  refine aRaw_app byt_29 ?_
  simp [hall]
  unfold maxLen
  omega
 ·rintro r A' (⟨rfl, rfl⟩ | ⟨rfl, rfl, rfl⟩)
  ·exact ⟨_, _, Sub.refl _ _ _, rfl, rfl⟩
  ·refine ⟨_, _, (Sub.ghost 1 3 1).trans (Sub.env (e' := fun _ => .own A'.length 1 0 0) fun i => VLe.nil_own (k := ⟨1, true, 3, 1, []⟩) (by simp) rfl), ?_, ?_⟩ <;> simp
theorem clone_in_af (xs : List (List D)) (hl : xs.length ≤ 1000000000) : AF Tryz.prog 16 [.d (.sl 1 xs)] (.d (.sl 1 xs)) :=
 AC.af ((clone_in_ac [] xs hl).mono fun r A' h => by
  obtain ⟨rfl, rfl⟩ := h
  simp)
theorem ilterm_af (s : St) : AF Tryz.prog 64 [stV s] (aB (termB s)) := by
 refine af_of Tryz.func64 rfl (by kernel_rfl) (by simp [Tryz.ntmps64]) fun _ => ?_; simp [Tryz.f64, Ex.d_eq]
 by_cases h : 6 ≤ s.op <;> simp [h, termB]
theorem op_cases (op : Int) : op = 1 ∨ op = 2 ∨ op = 3 ∨ op = 4 ∨ op = 5 ∨ op = 6 ∨ op = 7 ∨ op = 8 ∨ op = 9 ∨ op = 10 ∨ (¬ op = 1 ∧ ¬ op = 2 ∧ ¬ op = 3 ∧ ¬ op = 4 ∧ ¬ op = 5 ∧ ¬ op = 6 ∧ ¬ op = 7 ∧ ¬ op = 8 ∧ ¬ op = 9 ∧ ¬ op = 10) := by omega
theorem ilexprs_af (op : Int) : AF Tryz.prog 68 [aI .i64 op] (aI .i64 (exprsN op)) := by
 refine af_of Tryz.func68 rfl (by kernel_rfl) (by simp [Tryz.ntmps68]) fun _ => ?_
 rcases op_cases op with h | h | h | h | h | h | h | h | h | h | h <;> simp [Tryz.f68, exprsN, h]
theorem ilfields_af (s : St) : AF Tryz.prog 69 [stV s] (aB (fieldsB s)) := by
 obtain ⟨R, hR⟩ : ∃ R, fieldsB s = R := ⟨_, rfl⟩
 rw [hR]
 refine af_of Tryz.func69 rfl (by kernel_rfl) (by simp [Tryz.ntmps69]) fun _ => ?_
 rcases op_cases s.op with h | h | h | h | h | h | h | h | h | h | h <;> simp [Tryz.f69, h]
 case inl | inr.inr.inl =>
  have c := variable_af s.va
  cases hV : (decide (0 ≤ s.va) && decide (s.va < 65536)) <;> rw [hV] at c
  ·refine aCall_of c (by simp) (by simp [Ex.d_eq]) ?_; simp [Ex.d_eq]
   rw [← hR]; simp only [fieldsB, h, hV]; simp
  ·refine aCall_of c (by simp) (by simp [Ex.d_eq]) ?_; simp [Ex.d_eq]
   try simp [h]
   repeat' (refine aG_split (fun g => ?_) (fun g => ?_) <;> simp at g <;> simp [*])
   all_goals (rw [← hR]; simp only [fieldsB, h, hV]; simp [*])
 case inr.inl =>
  have c := access_af s.wd
  cases hV : (decide (s.wd = 1) || decide (s.wd = 2) || decide (s.wd = 4)) <;> rw [hV] at c
  ·refine aCall_of c (by simp) (by simp [Ex.d_eq]) ?_; simp [Ex.d_eq]
   rw [← hR]; simp only [fieldsB, h]; simp at hV; simp [hV]
  ·refine aCall_of c (by simp) (by simp [Ex.d_eq]) ?_; simp [Ex.d_eq]
   try simp [h]
   repeat' (refine aG_split (fun g => ?_) (fun g => ?_) <;> simp at g <;> simp [*])
   all_goals (rw [← hR]; simp only [fieldsB, h]; simp at hV; simp [*])
 case inr.inr.inr.inr.inr.inr.inl =>
  refine adraw [(5, 3)] (by kernel_rfl) (by kernel_rfl) (by kernel_rfl) (by kernel_rfl) ?_; simp [Ex.d_eq]
  try simp [h]
  repeat' (refine aG_split (fun g => ?_) (fun g => ?_) <;> simp at g <;> simp [*])
  all_goals (rw [← hR]; simp [fieldsB, *])
 case inr.inr.inr.inr.inr.inr.inr.inl =>
  by_cases g1 : s.cs.length < 1
  ·have g2 : ¬ 1 ≤ s.cs.length := by omega
   have g3 : s.cs = [] := List.length_eq_zero_iff.1 (by omega)
   simp [g3]
   rw [← hR]; simp [fieldsB, h, g3]
  have g2 : 1 ≤ s.cs.length := by omega
  have g3 : ¬ (s.cs.length : Int) < 1 := by omega
  simp [g3]
  by_cases g4 : s.cs.length ≤ 64
  ·have g5 : ¬ (64 : Int) < s.cs.length := by omega
   simp [g5, h]
   repeat' (refine aG_split (fun g => ?_) (fun g => ?_) <;> simp at g <;> simp [*])
   all_goals (rw [← hR]; simp [fieldsB, *])
  ·have g5 : (64 : Int) < s.cs.length := by omega
   simp [g5]
   rw [← hR]; simp [fieldsB, h, g4]
 all_goals
  repeat' (refine aG_split (fun g => ?_) (fun g => ?_) <;> simp at g <;> simp [*])
  all_goals (rw [← hR]; simp [fieldsB, *])
theorem exs_drop {l : List Ex} {i : Nat} {x : Ex} (h : l[i]? = some x) : exsErr (l.drop i) = if exErr x = 0 then exsErr (l.drop (i + 1)) else exErr x := by
 obtain ⟨hi, rfl⟩ := gSI.1 h
 rw [List.drop_eq_getElem_cons hi]
 rfl
theorem ilcheckst_af (s : St) (hl : s.e.length ≤ maxLen) : AF Tryz.prog 44 [stV s] (aI .i64 (stErr s)) := by
 obtain ⟨R, hR⟩ : ∃ R, stErr s = R := ⟨_, rfl⟩
 rw [hR]
 refine af_of Tryz.func44 rfl (by kernel_rfl) (by simp [Tryz.ntmps44]) fun _ => ?_; simp [Tryz.f44, Ex.d_eq]
 refine aCall_of (ilexprs_af s.op) (by simp) (by simp [Ex.d_eq]) ?_; simp [Ex.d_eq]
 by_cases h1 : exprsN s.op = s.e.length
 case neg =>
  have : R = 2 := by rw [← hR, stErr, if_neg h1]
  subst this
  by_cases h2 : exprsN s.op < 0
  ·simp [h2]
  ·simp [h2, h1]
 simp [h1, show ¬ (s.e.length : Int) < 0 by omega]
 refine aLoop_st (fun i : Nat => [(1, .ptr 0 0 0 0), (20, .d (.sl 5 (Ex.ds s.e))), (21, aI .i64 s.e.length), (22, aI .i64 i)]) (fun _ => [⟨0, true, 40, 8, [s.d.map AV.d]⟩])
  (fun i => i ≤ s.e.length ∧ exsErr (s.e.drop i) = exsErr s.e) (fun i => s.e.length - i) 0 (Sub.refl _ _ _) 1 (by omega) (by simp [St.d_eq]) (by simp) ⟨by omega, by simp⟩ ?_
 rintro i ⟨hi, hx⟩ K hK
 rcases Nat.lt_or_ge i s.e.length with hlt | hge
 case inr =>
  obtain rfl : i = s.e.length := by omega
  simp [exsErr] at hx
  simp [St.d_eq]
  refine aCall_of (ilfields_af s) (by simp) (by simp [Ex.d_eq]) ?_; simp [Ex.d_eq]
  rw [stErr, if_pos h1, if_pos hx.symm] at hR
  cases hf : fieldsB s <;> rw [hf] at hR <;> simp at hR <;> simp [hR]
 obtain ⟨y, hy⟩ : ∃ y, s.e[i]? = some y := ⟨_, gEG hlt⟩
 have hy2 := (gSI.1 hy).2
 rw [exs_drop hy] at hx
 simp [hlt, hy, hy2, Ex.d_eq]
 refine aCall_of (check_af y) (by simp) (by simp [Ex.d_eq]) ?_; simp [Ex.d_eq]
 rw [show (if shalB 64 y = true then (if formB y = true then (0 : Int) else 2) else 20) = exErr y from rfl]
 by_cases h0 : exErr y = 0
 ·rw [if_pos h0] at hx
  simp [h0, succ_wrap hlt hl]
  exact hK (i + 1) ⟨by omega, hx⟩ (by omega) (Sub.refl _ _ _) 1 (by omega) (by simp [St.d_eq]) (by simp)
 ·rw [if_neg h0] at hx
  have : R = exErr y := by rw [← hR, stErr, if_pos h1, if_neg (by rw [← hx]; exact h0), hx]
  subst this
  simp [h0]
abbrev gB (g : Gr) : Blk := ⟨0, true, 28, 2, [[aI .u32 g.ad, .d (.sl 2 (bls' g.b))]]⟩
abbrev bB (b : Bl) : Blk := ⟨0, true, 34, 2, [[aI .u32 b.ad, .d (.sl 8 (sts b.s))]]⟩
theorem last_get {α : Type} {l : List α} {n : Nat} (h : l.length = n + 1) : ∃ s, l[n]? = some s ∧ l.getLast? = some s := by
 refine ⟨l[n], gEG (by omega), ?_⟩
 rw [List.getLast?_eq_getElem?, show l.length - 1 = n by omega]
 exact gEG (by omega)
theorem ilsucc_af (b : Bl) (hl : b.s.length ≤ maxLen) (hc : ∀ s ∈ b.s, s.cs.length ≤ 1000000000) : AF Tryz.prog 66 [blV b] (.d (.sl 1 (i64s (succL b)))) := by
 obtain ⟨R, hR⟩ : ∃ R, succL b = R := ⟨_, rfl⟩
 rw [hR]
 refine af_of Tryz.func66 rfl (by kernel_rfl) (by simp [Tryz.ntmps66]) fun _ => ?_; simp [Tryz.f66, Ex.d_eq]
 cases hn : b.s.length with
 | zero =>
   have : b.s = [] := List.length_eq_zero_iff.1 hn
   rw [succL, this] at hR
   simp at hR
   subst hR
   simp [this]
 | succ n =>
   obtain ⟨s, hs, hs2⟩ := last_get hn
   have hs3 := (gSI.1 hs).2
   have hne : ¬ b.s = [] := fun h => by rw [h] at hn; simp at hn
   unfold maxLen at hl
   rw [succL, hs2] at hR
   simp only [tgts] at hR
   simp [hn, hne, show ¬ (n : Int) + 1 = 0 by omega, i64w (n := (n : Int)) (by omega), hs, hs3, St.d_eq]
   rcases op_cases s.op with h | h | h | h | h | h | h | h | h | h | h <;> simp [h] at hR <;> subst hR <;> simp [h]
   refine aCall_ofc (clone_in_ac _ (i64s s.cs) (by simpa using hc s (gMO hs))) (by simp) ?_
   rintro _ _ ⟨rfl, rfl⟩
   simp
theorem shaped1_ac (g : Gr) (b0 : Blk) (hl : g.b.length ≤ maxLen) (k : Int) (N : AHeap) : AC Tryz.prog 67 [aI .i64 k, .ptr 0 0 0 0] ([gB g, b0] ++ N) (Same0 [gB g, b0] (aB (decide (k < 0) || decide ((g.b.length : Int) ≤ k)))) := by
 refine ac_of Tryz.func67 rfl (by kernel_rfl) (by simp [Tryz.ntmps67]) fun hb => ?_
 by_cases h : k < 0 <;> simp [Tryz.f67, h, Same0]
def GrFit (g : Gr) : Prop := g.b.length ≤ 1000000 ∧ ∀ b ∈ g.b, b.s.length ≤ 1000000 ∧ ∀ s ∈ b.s, s.e.length ≤ 1000000 ∧ s.cs.length ≤ 2000000
theorem all_drop {α : Type} {p : α → Bool} {l : List α} {i : Nat} {x : α} (h : l[i]? = some x) : (l.drop i).all p = (p x && (l.drop (i + 1)).all p) := by
 obtain ⟨hi, rfl⟩ := gSI.1 h
 rw [List.drop_eq_getElem_cons hi, List.all_cons]
theorem ilshaped_af (g : Gr) (hg : GrFit g) : AF Tryz.prog 43 [grV g] (aB (!decide (g.b.length = 0) && g.b.all (closedB g.b.length))) := by
 have hl : g.b.length ≤ maxLen := by have := hg.1; unfold maxLen; omega
 obtain ⟨R, hR⟩ : ∃ R, (!decide (g.b.length = 0) && g.b.all (closedB g.b.length)) = R := ⟨_, rfl⟩
 rw [hR]
 refine af_of Tryz.func43 rfl (by kernel_rfl) (by simp [Tryz.ntmps43]) fun _ => ?_; simp [Tryz.f43, Ex.d_eq]
 by_cases h0 : g.b = []
 ·rw [h0] at hR ⊢
  simp at hR
  subst hR
  simp
 have h0' : ¬ g.b.length = 0 := fun h => h0 (List.length_eq_zero_iff.1 h)
 simp [h0'] at hR
 simp [h0, h0']
 refine aLoop_st (fun i : Nat => [(1, .ptr 0 0 0 0), (11, .d (.sl 2 (bls' g.b))), (12, aI .i64 g.b.length), (13, aI .i64 i)]) (fun _ => [gB g])
  (fun i => i ≤ g.b.length ∧ (g.b.drop i).all (closedB g.b.length) = R) (fun i => g.b.length - i) 0 (Sub.refl _ _ _) 1 (by omega) (by simp) (by simp) ⟨by omega, by simpa using hR⟩ ?_
 rintro i ⟨hi, hx⟩ K hK
 rcases Nat.lt_or_ge i g.b.length with hlt | hge
 case inr =>
  obtain rfl : i = g.b.length := by omega
  simp at hx
  subst hx
  simp
 obtain ⟨b, hb⟩ : ∃ b, g.b[i]? = some b := ⟨_, gEG hlt⟩
 have hb2 := (gSI.1 hb).2
 obtain ⟨f1, f2⟩ := hg.2 b (gMO hb)
 have hbl : b.s.length ≤ maxLen := by unfold maxLen; omega
 rw [all_drop hb] at hx
 simp [hlt, hb, hb2, Bl.d_eq]
 cases hn : b.s.length with
 | zero =>
   have hne : b.s = [] := List.length_eq_zero_iff.1 hn
   have : closedB g.b.length b = false := by
    rw [closedB, hne]
    rfl
   rw [this] at hx
   simp at hx
   subst hx
   simp [hne]
 | succ n =>
   obtain ⟨s, hs, hs2⟩ := last_get hn
   have hs3 := (gSI.1 hs).2
   have hcl : closedB g.b.length b = (termB s && !(b.s.take n).any termB && !(succL b).any fun k => decide (k < 0) || decide ((g.b.length : Int) ≤ k)) := by
    rw [closedB, succL, hs2, hn]
    rfl
   rw [hcl] at hx
   have hnn : ¬ (n : Int) + 1 = 0 := by omega
   have hne : ¬ b.s = [] := fun h => by rw [h] at hn; simp at hn
   have hw := i64w (n := (n : Int)) (by omega)
   simp [hnn, hne, hw, hs, hs3, St.d_eq, hn]
   have ct := ilterm_af s
   cases ht : termB s
   ·rw [ht] at hx ct
    simp at hx
    subst hx
    refine aCall_of ct (by simp) (by simp [Ex.d_eq]) ?_; simp [Ex.d_eq]
   rw [ht] at ct hx
   refine aCall_of ct (by simp) (by simp [Ex.d_eq]) ?_; simp [Ex.d_eq]
   simp [hnn, hw, hn, show (n : Int) ≤ (n : Int) + 1 by omega]
   refine aCall_ofc (contains_st_ac (f := 64) (fs := []) (cs := []) (p := termB) [gB g, bB b] (b.s.take n) (by simp) fun a _ N => (AF.ac (A := [gB g, bB b] ++ N) (ilterm_af a) (by simp)).mono fun r A' h => ⟨h.1, N, h.2⟩).drop (by simp) ?_
   rintro _ _ ⟨rfl, rfl⟩
   simp
   cases ha : (b.s.take n).any termB <;> rw [ha] at hx
   ·simp at hx
    simp
    refine aCall_of (ilsucc_af b hbl fun s hs => by have := (f2 s hs).2; omega) (by simp) (by simp [Ex.d_eq]) ?_; simp [Ex.d_eq]
    refine aCall_ofc (contains_in_ac (f := 67) (fs := []) (cs := [.ptr 0 0 0 0]) (p := fun k => decide (k < 0) || decide ((g.b.length : Int) ≤ k)) [gB g, bB b] (succL b) (by simp) fun a _ N => shaped1_ac g (bB b) hl a N).drop (by simp) ?_
    rintro _ _ ⟨rfl, rfl⟩
    simp
    cases hk : (succL b).any fun k => decide (k < 0) || decide ((g.b.length : Int) ≤ k)
    ·rw [hk] at hx
     simp at hx
     simp [succ_wrap hlt hl]
     exact hK (i + 1) ⟨by omega, by simpa using hx⟩ (by omega) (Sub.refl _ _ _) 1 (by omega) (by simp) (by simp)
    ·rw [hk] at hx
     simp at hx
     subst hx
     simp
   ·simp at hx
    subst hx
    simp
theorem stN_app : ∀ (l m : List Bl), stN (l ++ m) = stN l + stN m
 | [], m => by simp [stN]
 | b :: l, m => by simp only [List.cons_append, stN, stN_app l m]; omega
theorem stN_take {l : List Bl} {i : Nat} {b : Bl} (h : l[i]? = some b) : stN (l.take (i + 1)) = stN (l.take i) + b.s.length := by
 rw [List.take_add_one, h, stN_app]
 simp [stN]
theorem stN_le : ∀ {l : List Bl}, (∀ b ∈ l, b.s.length ≤ 1000000) → stN l ≤ 1000000 * l.length
 | [], _ => by simp [stN]
 | b :: l, h => by
   have h1 := stN_le fun x hx => h x (List.mem_cons_of_mem b hx)
   have h2 := h b (List.mem_cons_self ..)
   simp only [stN, List.length_cons]
   omega
theorem bls_drop {l : List Bl} {i : Nat} {x : Bl} (h : l[i]? = some x) : blsErr (l.drop i) = if stsErr x.s = 0 then blsErr (l.drop (i + 1)) else stsErr x.s := by
 obtain ⟨hi, rfl⟩ := gSI.1 h
 rw [List.drop_eq_getElem_cons hi]
 rfl
theorem sts_drop {l : List St} {i : Nat} {x : St} (h : l[i]? = some x) : stsErr (l.drop i) = if stErr x = 0 then stsErr (l.drop (i + 1)) else stErr x := by
 obtain ⟨hi, rfl⟩ := gSI.1 h
 rw [List.drop_eq_getElem_cons hi]
 rfl
theorem ilcheckg_af (g : Gr) (hg : GrFit g) : AF Tryz.prog 26 [grV g] (aI .i64 (grErr g)) := by
 have hl : g.b.length ≤ maxLen := by have := hg.1; unfold maxLen; omega
 have hN : ∀ i, stN (g.b.take i) ≤ 1000000000000 := fun i => by
  have h1 := stN_le (l := g.b.take i) fun b hb => (hg.2 b (List.mem_of_mem_take hb)).1
  have h2 := hg.1
  have h3 : (g.b.take i).length ≤ g.b.length := by simp; omega
  have := Nat.mul_le_mul_left 1000000 (Nat.le_trans h3 h2)
  omega
 obtain ⟨R, hR⟩ : ∃ R, grErr g = R := ⟨_, rfl⟩
 rw [hR]
 refine af_of Tryz.func26 rfl (by kernel_rfl) (by simp [Tryz.ntmps26]) fun _ => ?_; simp [Tryz.f26, Ex.d_eq]
 refine aLoop_st (fun i : Nat => [(1, .ptr 0 0 0 0), (12, .d (.sl 2 (bls' g.b))), (13, aI .i64 g.b.length), (14, aI .i64 i), (3, aI .i64 (stN (g.b.take i)))]) (fun _ => [gB g])
  (fun i => i ≤ g.b.length) (fun i => g.b.length - i) 0 (Sub.refl _ _ _) 1 (by omega) (by simp) (by simp [stN]) (by omega) ?_
 rintro i hi K hK
 rcases Nat.lt_or_ge i g.b.length with hlt | hge
 case inl =>
  obtain ⟨b, hb⟩ : ∃ b, g.b[i]? = some b := ⟨_, gEG hlt⟩
  have hb2 := (gSI.1 hb).2
  have hs := stN_take hb
  have h1 := hN (i + 1)
  simp [hlt, hb, hb2, Bl.d_eq, succ_wrap hlt hl, i64w (n := (stN (g.b.take i) : Int) + b.s.length) (by omega)]
  exact hK (i + 1) (by omega) (by omega) (Sub.refl _ _ _) 1 (by omega) (by simp) (by simp [hs])
 obtain rfl : i = g.b.length := by omega
 rw [List.take_length]
 rw [grErr] at hR
 simp
 by_cases h1 : 256 < g.b.length
 ·rw [if_pos (.inl h1)] at hR
  simp [show (256 : Int) < g.b.length by omega, hR]
 simp [show ¬ (256 : Int) < g.b.length by omega]
 by_cases h2 : 1024 < stN g.b
 ·rw [if_pos (.inr h2)] at hR
  simp [show (1024 : Int) < stN g.b by omega, hR]
 simp [show ¬ (1024 : Int) < stN g.b by omega]
 rw [if_neg (by omega)] at hR
 have c := ilshaped_af g hg
 cases h3 : (!decide (g.b.length = 0) && g.b.all (closedB g.b.length)) <;> rw [h3] at c
 ·rw [if_pos (by simp at h3; by_cases h0 : g.b.length = 0; exact .inl h0; right; simpa using h3 (fun h => h0 (by rw [h]; rfl)))] at hR
  subst hR
  refine aCall_of c (by simp) (by simp [Ex.d_eq]) ?_; simp [Ex.d_eq]
 rw [if_neg (by simp at h3; rintro (h | h); exact h3.1 (List.length_eq_zero_iff.1 h); rw [List.all_eq_false] at h; obtain ⟨x, hx, hx2⟩ := h; exact hx2 (h3.2 x hx))] at hR
 refine aCall_of c (by simp) (by simp [Ex.d_eq]) ?_; simp [Ex.d_eq]
 clear hK K c
 refine aLoop_st (fun i : Nat => [(1, .ptr 0 0 0 0), (36, .d (.sl 2 (bls' g.b))), (37, aI .i64 g.b.length), (38, aI .i64 i)]) (fun _ => [gB g])
  (fun i => i ≤ g.b.length ∧ blsErr (g.b.drop i) = R) (fun i => g.b.length - i) 0 (Sub.refl _ _ _) 1 (by omega) (by simp) (by simp) ⟨by omega, by simpa using hR⟩ ?_
 rintro i ⟨hi, hx⟩ K hK
 rcases Nat.lt_or_ge i g.b.length with hlt | hge
 case inr =>
  obtain rfl : i = g.b.length := by omega
  simp [blsErr] at hx
  simp [hx]
 obtain ⟨b, hb⟩ : ∃ b, g.b[i]? = some b := ⟨_, gEG hlt⟩
 have hb2 := (gSI.1 hb).2
 obtain ⟨f1, f2⟩ := hg.2 b (gMO hb)
 have hbl : b.s.length ≤ maxLen := by unfold maxLen; omega
 rw [bls_drop hb] at hx
 simp [hlt, hb, hb2, Bl.d_eq]
 refine aLoop_st (fun k : Nat => [(1, .ptr 0 0 0 0), (36, .d (.sl 2 (bls' g.b))), (37, aI .i64 g.b.length), (38, aI .i64 i), (43, .d (.sl 8 (sts b.s))), (44, aI .i64 b.s.length), (45, aI .i64 k)]) (fun _ => [gB g])
  (fun k => k ≤ b.s.length ∧ stsErr (b.s.drop k) = stsErr b.s) (fun k => b.s.length - k) 0 (Sub.refl _ _ _) 1 (by omega) (by simp) (by simp) ⟨by omega, by simp⟩ ?_
 rintro k ⟨hk, hy⟩ K2 hK2
 rcases Nat.lt_or_ge k b.s.length with hlt2 | hge2
 case inr =>
  obtain rfl : k = b.s.length := by omega
  simp [stsErr] at hy
  rw [if_pos hy.symm] at hx
  simp [succ_wrap hlt hl]
  exact hK (i + 1) ⟨by omega, hx⟩ (by omega) (Sub.refl _ _ _) 1 (by omega) (by simp) (by simp)
 obtain ⟨s, hs⟩ : ∃ s, b.s[k]? = some s := ⟨_, gEG hlt2⟩
 have hs2 := (gSI.1 hs).2
 have f3 := (f2 s (gMO hs)).1
 rw [sts_drop hs] at hy
 simp [hlt2, hs, hs2, St.d_eq]
 refine aCall_of (ilcheckst_af s (by unfold maxLen; omega)) (by simp) (by simp [Ex.d_eq]) ?_; simp [Ex.d_eq]
 by_cases h0 : stErr s = 0
 ·rw [if_pos h0] at hy
  simp [h0, succ_wrap hlt2 hbl]
  exact hK2 (k + 1) ⟨by omega, hy⟩ (by omega) (Sub.refl _ _ _) 1 (by omega) (by simp) (by simp)
 ·rw [if_neg h0] at hy
  rw [if_neg (by rw [← hy]; exact h0), ← hy] at hx
  subst hx
  simp [h0]
abbrev aU (x : Int) : AV := aI .u32 x
def shI (y : Int) : Int := andI .u32 y 31
theorem bshl_af (x y : Int) : AF Tryz.prog 96 [aU x, aU y] (aU (shlI .u32 x (shI y))) := by
 refine af_of Tryz.func96 rfl (by kernel_rfl) (by simp [Tryz.ntmps96]) fun _ => ?_
 simp [Tryz.f96, shI]
theorem bshr_af (x y : Int) : AF Tryz.prog 97 [aU x, aU y] (aU (shrI .u32 x (shI y))) := by
 refine af_of Tryz.func97 rfl (by kernel_rfl) (by simp [Tryz.ntmps97]) fun _ => ?_
 simp [Tryz.f97, shI]
theorem bsar_af (x y : Int) : AF Tryz.prog 98 [aU x, aU y] (aU (IntKind.u32.wrap (shrI .i32 (IntKind.i32.wrap x) (shI y)))) := by
 refine af_of Tryz.func98 rfl (by kernel_rfl) (by simp [Tryz.ntmps98]) fun _ => ?_
 simp [Tryz.f98, shI]
theorem btruth_af (b : Bool) : AF Tryz.prog 99 [aB b] (aU (if b then 1 else 0)) := by
 refine af_of Tryz.func99 rfl (by kernel_rfl) (by simp [Tryz.ntmps99]) fun _ => ?_
 simp [Tryz.f99]
 cases b <;> simp
def appL (x y : Int) : List Int := [IntKind.u32.wrap (x + y), IntKind.u32.wrap (x - y), IntKind.u32.wrap (x * y), andI .u32 x y, orI .u32 x y, xorI .u32 x y, shlI .u32 x (shI y), shrI .u32 x (shI y), IntKind.u32.wrap (shrI .i32 (IntKind.i32.wrap x) (shI y)),
 if x = y then 1 else 0, if x = y then 0 else 1, if IntKind.i32.wrap x < IntKind.i32.wrap y then 1 else 0, if x < y then 1 else 0]
def appI (op : Nat) (x y : Int) : Int := (appL x y).getD (op - 3) 0
theorem bapply_af (op : Nat) (x y : Int) (h : 3 ≤ op ∧ op ≤ 15) : AF Tryz.prog 81 [aI .i64 op, aU x, aU y] (.tup [aU (appI op x y), aI .i64 0]) := by
 refine af_of Tryz.func81 rfl (by kernel_rfl) (by simp [Tryz.ntmps81]) fun _ => ?_
 simp [Tryz.f81, show ¬ ((op : Int) < 3) by omega, show ¬ (15 < (op : Int)) by omega]
 refine aCall_of (bshl_af x y) (by simp) (by simp) ?_
 simp
 refine aCall_of (bshr_af x y) (by simp) (by simp) ?_
 simp
 refine aCall_of (bsar_af x y) (by simp) (by simp) ?_
 simp
 refine aCall_of (btruth_af (decide (x = y))) (by simp) (by simp) ?_
 simp
 refine aCall_of (btruth_af (!decide (x = y))) (by simp) (by simp) ?_
 simp
 refine aCall_of (btruth_af (decide (IntKind.i32.wrap x < IntKind.i32.wrap y))) (by simp) (by simp) ?_
 simp
 refine aCall_of (btruth_af (decide (x < y))) (by simp) (by simp) ?_
 simp
 obtain rfl | rfl | rfl | rfl | rfl | rfl | rfl | rfl | rfl | rfl | rfl | rfl | rfl : op = 3 ∨ op = 4 ∨ op = 5 ∨ op = 6 ∨ op = 7 ∨ op = 8 ∨ op = 9 ∨ op = 10 ∨ op = 11 ∨ op = 12 ∨ op = 13 ∨ op = 14 ∨ op = 15 := by omega
 all_goals simp [appI, appL]
end Go.Proofs.YtinkdalcmnnocaaGreat
