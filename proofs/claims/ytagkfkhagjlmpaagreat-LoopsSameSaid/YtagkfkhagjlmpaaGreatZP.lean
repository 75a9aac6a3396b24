import Derived.Test.YtagkfkhagjlmpaaGreatBa
import Derived.Test.YtagkfkhagjlmpaaGreatFacts
import Derived.Test.YtagkfkhagjlmpaaGreatAp
import Derived.Test.YtagkfkhagjlmpaaGreatAn
import Derived.Lib.Join
import Derived.Test.YtagkfkhagjlmpaaGreatSh
import Derived.Test.YtagkfkhagjlmpaaGreatAt
set_option linter.all false
namespace Go.Proofs.YtagkfkhagjlmpaaGreat
open Go.RowKit
def all2 (r : Ex → Ex → Bool) : List Ex → List Ex → Bool
 | [], [] => true
 | a :: l, b :: l' => r a b && all2 r l l'
 | _, _ => false
theorem all2_len {r : Ex → Ex → Bool} : ∀ {l l' : List Ex}, l.length ≠ l'.length → all2 r l l' = false
 | [], [], h => absurd rfl h
 | [], _ :: _, _ => rfl
 | _ :: _, [], _ => rfl
 | a :: l, b :: l', h => by
   simp only [all2]
   rw [all2_len (by simpa using h)]
   simp
theorem all2_get {r : Ex → Ex → Bool} : ∀ {l l' : List Ex}, l.length = l'.length → (all2 r l l' = true ↔ ∀ (i : Nat) (a b : Ex), l[i]? = some a → l'[i]? = some b → r a b = true)
 | [], [], _ => by simp [all2]
 | a :: l, b :: l', h => by
   simp only [all2, Bool.and_eq_true, all2_get (show l.length = l'.length by simpa using h)]
   constructor
   ·rintro ⟨h1, h2⟩ i x y hx hy
    cases i with
    | zero => simp at hx hy; subst hx hy; exact h1
    | succ i => exact h2 i x y (by simpa using hx) (by simpa using hy)
   ·intro h
    exact ⟨h 0 a b rfl rfl, fun i x y hx hy => h (i + 1) x y (by simpa using hx) (by simpa using hy)⟩
 | [], _ :: _, h => by simp at h
 | _ :: _, [], h => by simp at h
def sameB : Ex → Ex → Bool
 | .mk o n v w l, .mk o' n' v' w' l' => o == o' && n == n' && v == v' && w == w' && sames l l'
where sames : List Ex → List Ex → Bool
 | [], [] => true
 | a :: l, b :: l' => sameB a b && sames l l'
 | _, _ => false
theorem sameB_eq (a b : Ex) : sameB a b = (a.op == b.op && a.n == b.n && a.v == b.v && a.wd == b.wd && all2 sameB a.l b.l) := by
 have h : ∀ l l', sameB.sames l l' = all2 sameB l l' := by
  intro l
  induction l with
  | nil => intro l'; cases l' <;> rfl
  | cons a l ih => intro l'; cases l' with
    | nil => rfl
    | cons b l' => simp only [sameB.sames, all2, ih]
 cases a; cases b
 simp only [sameB, h]
 rfl
theorem refsame_af : ∀ (a b : Ex), AF Tryz.prog 115 [exA a, exA b] (aB (sameB a b)) := by
 intro a
 induction a using Ex.ind with
 | h a ih =>
   intro b
   rw [sameB_eq]
   refine af_of Tryz.func115 rfl (by kernel_rfl) (by simp [Tryz.ntmps115]) fun hb => ?_
   have n1 : a.l.length ≤ maxLen := by simpa using hb.1.2.2.2.2.1.1
   clear hb
   simp [Tryz.f115]
   refine aG_split (fun g1 => ?_) (fun g1 => by simp at g1; simp [g1])
   simp at g1
   simp [g1]
   refine aG_split (fun g2 => ?_) (fun g2 => by simp at g2; simp [g1, g2])
   simp at g2
   simp [g2]
   refine aG_split (fun g3 => ?_) (fun g3 => by simp at g3; simp [g1, g2, g3])
   simp at g3
   simp [g3]
   refine aG_split (fun g4 => ?_) (fun g4 => by simp at g4; simp [g1, g2, g3, g4])
   simp at g4
   simp [g4]
   refine aCond_split (fun g5 => ?_) (fun g5 => ?_)
   ·simp at g5
    simp
    rw [all2_len (by omega)]
   have hlen : a.l.length = b.l.length := by simp at g5; omega
   simp
   refine aLoop_of (α := Nat) (fun i e A => i ≤ a.l.length ∧ A = [⟨0, true, 94, 5, [[aI .i64 a.op, aI .u32 a.n, aI .i64 a.v, aI .i64 a.wd, .d (.sl 5 (Ex.ds a.l))]]⟩, ⟨0, true, 94, 5, [[aI .i64 b.op, aI .u32 b.n, aI .i64 b.v, aI .i64 b.wd, .d (.sl 5 (Ex.ds b.l))]]⟩] ∧
    e 5 = aI .i64 i ∧ e 2 = .ptr 0 0 0 0 ∧ e 3 = .ptr 1 0 0 0 ∧
    ∀ (j : Nat) (x y : Ex), j < i → a.l[j]? = some x → b.l[j]? = some y → sameB x y = true) (fun i => a.l.length - i) 0 (Sub.refl _ _ _) ⟨by omega, by simp [g1, g2, g3, g4], by simp, by simp, by simp, by intro j a b hj; omega⟩ ?_
   rintro i e A ⟨hi, rfl, e5, e2, e3, hall⟩ K hK
   simp [e5, e2]
   refine aCond_split (fun hlt => ?_) (fun hge => ?_)
   ·simp at hlt
    have hi1 := gEG hlt
    have hi2 := gEG (show i < b.l.length by omega)
    simp
    refine adraw [] (by kernel_rfl) (by kernel_rfl) (by kernel_rfl) (by kernel_rfl) ?_
    simp [e5, e2, e3, hi1, hi2, Ex.d_eq]
    refine adC_of (ih _ (gMO hi1) b.l[i]) (by simp) trivial (by simp) (by simp) ?_
    simp
    refine aCond_split (fun hf => ?_) (fun ht => ?_)
    ·simp at hf
     simp
     cases h : all2 sameB a.l b.l with
     | false => rfl
     | true => rw [(all2_get hlen).1 h i _ _ hi1 hi2] at hf; cases hf
    ·simp at ht
     simp [e5, succ_wrap hlt n1]
     refine hK (i + 1) _ _ _ _ (Sub.refl _ _ _) ⟨by omega, rfl, by simp, by simp [e2], by simp [e3], ?_⟩ (by omega)
     intro j x y hj hx hy
     rcases Nat.lt_or_ge j i with h | h
     ·exact hall j x y h hx hy
     ·obtain rfl : j = i := by omega
      rw [hi1] at hx
      rw [hi2] at hy
      simp only [Option.some.injEq] at hx hy
      subst hx hy
      exact ht
   ·simp at hge
    simp
    refine (all2_get hlen).2 fun j x y ha hb => hall j x y ?_ ha hb
    have := (gSI.1 ha).1
    omega
theorem sameB_refl (a : Ex) : sameB a a = true := by
 induction a using Ex.ind with
 | h a ih =>
   rw [sameB_eq]
   have : all2 sameB a.l a.l = true := by
    have : ∀ l : List Ex, (∀ x ∈ l, sameB x x = true) → all2 sameB l l = true := by
     intro l
     induction l with
     | nil => intro _; rfl
     | cons x l ih => intro h; simp only [all2, h x (by simp), ih fun y hy => h y (by simp [hy]), Bool.and_self]
    exact this a.l ih
   simp [this]
def Same0 (A : AHeap) (r0 : AV) (r : AV) (A' : AHeap) : Prop := r = r0 ∧ ∃ N, A' = A ++ N
theorem AC.drop {P : Program} {f : FuncId} {args : List AV} {A : AHeap} {r0 : AV} (h : AC P f args A (Same0 A r0)) : AC P f args A fun r A' => r = cln A.length r0 ∧ A' = A.map (clnB A.length) :=
 h.sub fun r A' ⟨hr, N, hA⟩ => by
  subst hr hA
  exact ⟨_, _, Sub.take A.length (Nat.le_refl _), rfl, by simp⟩
theorem AC.af {P : Program} {f : FuncId} {args : List AV} {r : AV} (h : AC P f args [] (Res r)) : AF P f args r := by
 intro H w vs hH hs hm
 refine (h H none0 w vs hH (rel_nil H w) hs (by rw [nn_nil]; exact hm)).mono ?_
 rintro en w' ⟨v, r', ι', A', hv, hr, hR, hst, hval⟩
 unfold Res resO at hr
 split at hr
 ·rename_i r0 r1 hr0
  have := reiV_sound (ι' := none0) (A' := []) hR hr0 hval
  exact ⟨v, hv, ⟨NLe.shp _ _ _ hr this.1, NLe.mem _ _ _ hr this.2⟩, hst.ext⟩
 ·exact hr.elim
theorem indexFunc_ac {f : Nat} {fs cs : List AV} {p : Ex → Bool} (A : AHeap) (l : List Ex) (hf : okF Tryz.prog f = true) (hp : ∀ a ∈ l, ∀ N, AC Tryz.prog f (fs ++ [exA a] ++ cs) (A ++ N) (Same0 A (aB (p a)))) :
 AC Tryz.prog 170 [.d (.sl 5 (Ex.ds l)), .fn f fs cs] A (Same0 A (aI .i64 (match l.findIdx? p with | some i => (i : Int) | none => -1))) := by
 refine ac_of Tryz.func170 rfl (by kernel_rfl) (by simp [Tryz.ntmps170]) fun hb => ?_
 have n1 : l.length ≤ maxLen := by simpa using hb.1.1
 clear hb
 obtain ⟨R, hR⟩ : ∃ R : Int, (match l.findIdx? p with | some i => (i : Int) | none => -1) = R := ⟨_, rfl⟩
 rw [hR]
 simp [Tryz.f170]
 refine aLoop_of (α := Nat) (fun i e A' => i ≤ l.length ∧ (∃ N, A' = A ++ N) ∧ e 8 = aI .i64 i ∧ e 7 = aI .i64 l.length ∧ e 0 = .d (.sl 5 (Ex.ds l)) ∧ e 1 = .fn f fs cs ∧
  ∀ (j : Nat) (a : Ex), j < i → l[j]? = some a → p a = false) (fun i => l.length - i) 0 (Sub.refl _ _ _) ⟨by omega, ⟨[], by simp⟩, by simp, by simp, by simp, by simp, by intro j a hj; omega⟩ ?_
 rintro i e A' ⟨hi, ⟨N, rfl⟩, e8, e7, e0, e1, hall⟩ K hK
 simp [e8, e7]
 refine aCond_split (fun hlt => ?_) (fun hge => ?_)
 ·simp at hlt
  have hi1 := gEG hlt
  simp [e0, e1, e8, hi1, Ex.d_eq]
  refine aCall_ofc (hp l[i] (gMO hi1) N) hf ?_
  rintro _ _ ⟨rfl, N', rfl⟩
  simp
  refine aCond_split (fun ht => ?_) (fun hf => ?_)
  ·have : l.findIdx? p = some i := by
    rw [List.findIdx?_eq_some_iff_getElem]
    exact ⟨hlt, ht, fun j hj => by simpa using hall j _ hj (gEG (by omega))⟩
   rw [this] at hR
   subst hR
   simp [Same0]
  ·simp [e8, succ_wrap hlt n1]
   refine hK (i + 1) _ _ _ _ (Sub.refl _ _ _) ⟨by omega, ⟨N', rfl⟩, by simp, by simp [e7], by simp [e0], by simp [e1], fun j a hj ha => ?_⟩ (by omega)
   rcases Nat.lt_or_ge j i with h | h
   ·exact hall j a h ha
   ·obtain rfl : j = i := by omega
    rw [hi1] at ha
    obtain rfl := oSI ha
    exact hf
 ·simp at hge
  have : l.findIdx? p = none := by
   rw [List.findIdx?_eq_none_iff]
   intro x hx
   obtain ⟨j, hj⟩ := List.getElem?_of_mem hx
   exact hall j x (by have := (gSI.1 hj).1; omega) hj
  rw [this] at hR
  subst hR
  simp [Same0]
theorem containsFunc_ac {f : Nat} {fs cs : List AV} {p : Ex → Bool} (A : AHeap) (l : List Ex) (hf : okF Tryz.prog f = true) (hp : ∀ a ∈ l, ∀ N, AC Tryz.prog f (fs ++ [exA a] ++ cs) (A ++ N) (Same0 A (aB (p a)))) :
 AC Tryz.prog 158 [.d (.sl 5 (Ex.ds l)), .fn f fs cs] A (Same0 A (aB (l.any p))) := by
 refine ac_of Tryz.func158 rfl (by kernel_rfl) (by simp [Tryz.ntmps158]) fun hb => ?_
 simp [Tryz.f158]
 refine aCall_ofc (indexFunc_ac A l hf hp) (by simp) ?_
 rintro _ _ ⟨rfl, N, rfl⟩
 simp [Same0]
 cases h : l.findIdx? p with
 | none =>
   rw [List.findIdx?_eq_none_iff] at h
   simpa using h
 | some i =>
   rw [List.findIdx?_eq_some_iff_getElem] at h
   obtain ⟨hi, hp, _⟩ := h
   simpa using ⟨_, List.getElem_mem hi, hp⟩
def shalB : Nat → Ex → Bool
 | 0, _ => false
 | n + 1, e => e.l.all (shalB n)
theorem shallow1_ac {n : Nat} (hn : n ≤ 1000000000) (ih : ∀ e : Ex, AF Tryz.prog 134 [exA e, aI .i64 n] (aB (shalB n e))) (b0 b1 : Blk) (h1 : b1 = ⟨0, true, 3, 1, [[aI .i64 (n + 1 : Nat)]]⟩) (x : Ex) (N : AHeap) :
 AC Tryz.prog 159 [exA x, .ptr 1 0 0 0] ([b0, b1] ++ N) (Same0 [b0, b1] (aB (!shalB n x))) := by
 subst h1
 refine ac_of Tryz.func159 rfl (by kernel_rfl) (by simp [Tryz.ntmps159]) fun hb => ?_
 simp [Tryz.f159, i64w (n := (n : Int)) (by omega)]
 refine aCall_of (ih x) (by simp) (by simp) ?_
 simp [Same0]
theorem shallow_af : ∀ (n : Nat) (e : Ex), n ≤ 1000000000 → AF Tryz.prog 134 [exA e, aI .i64 n] (aB (shalB n e)) := by
 intro n
 induction n with
 | zero =>
   intro e _
   refine af_of Tryz.func134 rfl (by kernel_rfl) (by simp [Tryz.ntmps134]) fun hb => ?_
   simp [Tryz.f134, shalB]
 | succ n ih =>
   intro e hn
   refine af_of Tryz.func134 rfl (by kernel_rfl) (by simp [Tryz.ntmps134]) fun hb => ?_
   clear hb
   simp [Tryz.f134, show (1 : Int) ≤ (n : Int) + 1 by omega]
   refine aCall_ofc (containsFunc_ac _ e.l (p := fun x => !shalB n x) (by simp) fun x _ N => shallow1_ac (by omega) (fun e => ih e (by omega)) _ _ rfl x N).drop (by simp) ?_
   rintro _ _ ⟨rfl, rfl⟩
   simp
   rw [shalB, List.not_all_eq_any_not]
theorem bds_all {sz : Nat} : ∀ {xs : List (List D)}, BdS sz xs → ((dEls xs).all fun x => x.length == sz) = true
 | [], _ => rfl
 | x :: xs, h => by
   simp only [BdS] at h
   have := bds_all h.2.2
   simp [h.1] at this ⊢
   exact this
theorem clone_ac (A : AHeap) (xs : List (List D)) (hl : xs.length ≤ 1000000000) :
 AC Tryz.prog 56 [.d (.sl 5 xs)] A fun r A' => r = .own A.length 1 0 xs.length ∧ A' = A ++ [⟨1, true, 94, 5, dEls xs⟩] := by
 refine AC.sub (R := fun r A' => (r = .own A.length 1 0 xs.length ∧ A' = A ++ [⟨1, true, 94, 5, dEls xs⟩]) ∨ (r = .d (.v (.slice none 0 0)) ∧ xs = [] ∧ A' = A)) (ac_of Tryz.func56 rfl (by kernel_rfl) (by simp [Tryz.ntmps56]) fun hb => ?_) ?_
 ·have hall := bds_all hb.1.2
  clear hb
  simp [Tryz.f56]
  refine aRaw_app byt_66 ?_
  simp [hall]
  unfold maxLen
  omega
 ·rintro r A' (⟨rfl, rfl⟩ | ⟨rfl, rfl, rfl⟩)
  ·exact ⟨_, _, Sub.refl _ _ _, rfl, rfl⟩
  ·refine ⟨_, _, (Sub.ghost 1 94 5).trans (Sub.env (e' := fun _ => .own A'.length 1 0 0) fun i => VLe.nil_own (k := ⟨1, true, 94, 5, []⟩) (by simp) rfl), ?_, ?_⟩ <;> simp
theorem variable_af (v : Int) : AF Tryz.prog 136 [aI .i64 v] (aB (decide (0 ≤ v) && decide (v < 65536))) := by
 refine af_of Tryz.func136 rfl (by kernel_rfl) (by simp [Tryz.ntmps136]) fun _ => ?_
 simp [Tryz.f136]
 refine aG_split (fun h => ?_) (fun h => ?_)
 ·simp at h
  simp [h]
 ·simp at h
  simp [show ¬ (0 : Int) ≤ v by omega]
theorem access_af (v : Int) : AF Tryz.prog 137 [aI .i64 v] (aB (decide (v = 1) || decide (v = 2) || decide (v = 4))) := by
 refine af_of Tryz.func137 rfl (by kernel_rfl) (by simp [Tryz.ntmps137]) fun _ => ?_
 by_cases h1 : v = 1
 ·subst h1
  simp [Tryz.f137]
 by_cases h2 : v = 2
 ·subst h2
  simp [Tryz.f137]
 simp [Tryz.f137, h1, h2]
def okE (op n v w : Int) (k : Nat) : Bool :=
 if op = 1 then v == 0 && w == 0 && k == 0
 else if op = 2 then n == 0 && w == 0 && k == 0 && (decide (0 ≤ v) && decide (v < 65536))
 else if 3 ≤ op ∧ op ≤ 15 then n == 0 && v == 0 && w == 0 && k == 2
 else if op = 16 ∨ op = 17 then n == 0 && v == 0 && w == 0 && k == 1
 else if op = 18 then n == 0 && v == 0 && (w == 1 || w == 2 || w == 4) && k == 1
 else if op = 19 then n == 0 && v == 0 && (w == 1 || w == 2) && k == 1
 else false
def formB : Ex → Bool
 | .mk op n v w l => okE op n v w l.length && forms l
where forms : List Ex → Bool
 | [] => true
 | e :: l => formB e && forms l
theorem formB_eq (e : Ex) : formB e = (okE e.op e.n e.v e.wd e.l.length && e.l.all formB) := by
 have h : ∀ l, formB.forms l = l.all formB := by
  intro l
  induction l with
  | nil => rfl
  | cons a l ih => simp only [formB.forms, ih, List.all_cons]
 cases e
 simp only [formB, h]
 rfl
theorem formed1_ac {x : Ex} (ih : AF Tryz.prog 135 [exA x] (aB (formB x))) (A N : AHeap) : AC Tryz.prog 160 [exA x] (A ++ N) (Same0 A (aB (!formB x))) := by
 refine ac_of Tryz.func160 rfl (by kernel_rfl) (by simp [Tryz.ntmps160]) fun _ => ?_
 simp [Tryz.f160]
 refine aCall_of ih (by simp) (by simp) ?_
 simp [Same0]
theorem formed_af : ∀ (e : Ex), AF Tryz.prog 135 [exA e] (aB (formB e)) := by
 intro x
 induction x using Ex.ind with
 | h x ih =>
   have hany : ∀ A : AHeap, AC Tryz.prog 158 [.d (.sl 5 (Ex.ds x.l)), .fn 160 [] []] A fun r A' => r = aB (x.l.any fun y => !formB y) ∧ A' = A.map (clnB A.length) := fun A =>
    (containsFunc_ac (fs := []) (cs := []) (p := fun y => !formB y) A x.l (by simp) fun y hy N => formed1_ac (ih y hy) A N).drop
   rw [formB_eq]
   refine af_of Tryz.func135 rfl (by kernel_rfl) (by simp [Tryz.ntmps135]) fun _ => ?_
   obtain ⟨R, hR⟩ : ∃ R, (okE x.op x.n x.v x.wd x.l.length && x.l.all formB) = R := ⟨_, rfl⟩
   rw [hR]
   have hlast : (x.l.any fun y => !formB y) = !(x.l.all formB) := by rw [List.not_all_eq_any_not]
   simp [Tryz.f135]
   by_cases h1 : x.op = 1
   ·simp [h1]
    refine aG_split (fun g0 => ?_) (fun g0 => by simp at g0; rw [← hR]; simp [okE, h1, g0])
    simp at g0
    simp [g0]
    refine aG_split (fun g1 => ?_) (fun g1 => by simp at g1; rw [← hR]; simp [okE, h1, g0, g1])
    simp at g1
    simp [g1]
    refine aG_split (fun g2 => ?_) (fun g2 => by simp at g2; rw [← hR]; simp [okE, h1, g0, g1, g2])
    simp at g2
    simp [g2]
    refine aCall_ofc (by have h := hany; rw [g2] at h; exact h _) (by simp) ?_
    rintro _ _ ⟨rfl, rfl⟩
    simp
    rw [← hR]
    simp [okE, h1, g0, g1, g2]
   simp [h1]
   by_cases h2 : x.op = 2
   ·simp [h2]
    refine aCall_of (variable_af x.v) (by simp) (by simp) ?_
    simp
    by_cases hv : 0 ≤ x.v ∧ x.v < 65536
    ·simp [hv]
     refine aG_split (fun g0 => ?_) (fun g0 => by simp at g0; rw [← hR]; simp [okE, h1, h2, hv.1, hv.2, g0])
     simp at g0
     simp [g0]
     refine aG_split (fun g1 => ?_) (fun g1 => by simp at g1; rw [← hR]; simp [okE, h1, h2, hv.1, hv.2, g0, g1])
     simp at g1
     simp [g1]
     refine aG_split (fun g2 => ?_) (fun g2 => by simp at g2; rw [← hR]; simp [okE, h1, h2, hv.1, hv.2, g0, g1, g2])
     simp at g2
     simp [g2]
     refine aCall_ofc (by have h := hany; rw [g2] at h; exact h _) (by simp) ?_
     rintro _ _ ⟨rfl, rfl⟩
     simp
     rw [← hR]
     simp [okE, h1, h2, hv.1, hv.2, g0, g1, g2]
    ·have hv' : (decide (0 ≤ x.v) && decide (x.v < 65536)) = false := by simp; omega
     simp [hv']
     rw [← hR]
     simp [okE, h1, h2, hv']
   simp [h2]
   by_cases h3 : 3 ≤ x.op ∧ x.op ≤ 15
   ·simp [h3.1, h3.2]
    refine aG_split (fun g0 => ?_) (fun g0 => by simp at g0; rw [← hR]; simp [okE, h1, h2, h3.1, h3.2, g0])
    simp at g0
    simp [g0]
    refine aG_split (fun g1 => ?_) (fun g1 => by simp at g1; rw [← hR]; simp [okE, h1, h2, h3.1, h3.2, g0, g1])
    simp at g1
    simp [g1]
    refine aG_split (fun g2 => ?_) (fun g2 => by simp at g2; rw [← hR]; simp [okE, h1, h2, h3.1, h3.2, g0, g1, g2])
    simp at g2
    simp [g2]
    refine aG_split (fun g3 => ?_) (fun g3 => by simp at g3; have gk : ¬ x.l.length = 2 := (by omega); rw [← hR]; simp [okE, h1, h2, h3.1, h3.2, g0, g1, g2, gk, g3])
    simp at g3
    simp [g3]
    have gk : x.l.length = 2 := by omega
    refine aCall_ofc (hany _) (by simp) ?_
    rintro _ _ ⟨rfl, rfl⟩
    simp
    rw [← hR, hlast]
    simp [okE, h1, h2, h3.1, h3.2, g0, g1, g2, gk]
   have hno : ∀ (K1 K2 : AKont) (e : AEnv) (d : Option Nat) (A : AHeap), True := fun _ _ _ _ _ => trivial
   by_cases h3a : 3 ≤ x.op
   ·have h3b : ¬ x.op ≤ 15 := fun h => h3 ⟨h3a, h⟩
    simp [h3a, h3b]
    by_cases h16 : x.op = 16
    ·simp [h16]
     refine aG_split (fun g0 => ?_) (fun g0 => by simp at g0; rw [← hR]; simp [okE, h1, h2, h3a, h3b, h16, g0])
     simp at g0
     simp [g0]
     refine aG_split (fun g1 => ?_) (fun g1 => by simp at g1; rw [← hR]; simp [okE, h1, h2, h3a, h3b, h16, g0, g1])
     simp at g1
     simp [g1]
     refine aG_split (fun g2 => ?_) (fun g2 => by simp at g2; rw [← hR]; simp [okE, h1, h2, h3a, h3b, h16, g0, g1, g2])
     simp at g2
     simp [g2]
     refine aG_split (fun g3 => ?_) (fun g3 => by simp at g3; have gk : ¬ x.l.length = 1 := (by omega); rw [← hR]; simp [okE, h1, h2, h3a, h3b, h16, g0, g1, g2, gk, g3])
     simp at g3
     simp [g3]
     have gk : x.l.length = 1 := by omega
     refine aCall_ofc (hany _) (by simp) ?_
     rintro _ _ ⟨rfl, rfl⟩
     simp
     rw [← hR, hlast]
     simp [okE, h1, h2, h3a, h3b, h16, g0, g1, g2, gk]
    simp [h16]
    by_cases h17 : x.op = 17
    ·simp [h17]
     refine aG_split (fun g0 => ?_) (fun g0 => by simp at g0; rw [← hR]; simp [okE, h1, h2, h3a, h3b, h16, h17, g0])
     simp at g0
     simp [g0]
     refine aG_split (fun g1 => ?_) (fun g1 => by simp at g1; rw [← hR]; simp [okE, h1, h2, h3a, h3b, h16, h17, g0, g1])
     simp at g1
     simp [g1]
     refine aG_split (fun g2 => ?_) (fun g2 => by simp at g2; rw [← hR]; simp [okE, h1, h2, h3a, h3b, h16, h17, g0, g1, g2])
     simp at g2
     simp [g2]
     refine aG_split (fun g3 => ?_) (fun g3 => by simp at g3; have gk : ¬ x.l.length = 1 := (by omega); rw [← hR]; simp [okE, h1, h2, h3a, h3b, h16, h17, g0, g1, g2, gk, g3])
     simp at g3
     simp [g3]
     have gk : x.l.length = 1 := by omega
     refine aCall_ofc (hany _) (by simp) ?_
     rintro _ _ ⟨rfl, rfl⟩
     simp
     rw [← hR, hlast]
     simp [okE, h1, h2, h3a, h3b, h16, h17, g0, g1, g2, gk]
    simp [h17]
    by_cases h18 : x.op = 18
    ·simp [h18]
     refine aCall_of (access_af x.wd) (by simp) (by simp) ?_
     simp
     cases hw : (decide (x.wd = 1) || decide (x.wd = 2) || decide (x.wd = 4)) with
     | false =>
       simp [hw]
       rw [← hR]
       simp at hw
       simp [okE, h18, hw]
     | true =>
       have hw' : (x.wd == 1 || x.wd == 2 || x.wd == 4) = true := by simpa using hw
       simp [hw]
       refine aG_split (fun g0 => ?_) (fun g0 => by simp at g0; rw [← hR]; simp [okE, h18, hw', g0])
       simp at g0
       simp [g0]
       refine aG_split (fun g1 => ?_) (fun g1 => by simp at g1; rw [← hR]; simp [okE, h18, hw', g0, g1])
       simp at g1
       simp [g1]
       refine aG_split (fun g2 => ?_) (fun g2 => by simp at g2; have gk : ¬ x.l.length = 1 := (by omega); rw [← hR]; simp [okE, h18, hw', g0, g1, gk, g2])
       simp at g2
       simp [g2]
       have gk : x.l.length = 1 := by omega
       refine aCall_ofc (hany _) (by simp) ?_
       rintro _ _ ⟨rfl, rfl⟩
       simp
       rw [← hR, hlast]
       simp [okE, h18, hw', g0, g1, gk]
    simp [h18]
    by_cases h19 : x.op = 19
    ·simp [h19]
     cases hw : (decide (x.wd = 1) || decide (x.wd = 2)) with
     | false =>
       simp at hw
       simp [hw]
       rw [← hR]
       simp [okE, h19, hw]
     | true =>
       have hw' : (x.wd == 1 || x.wd == 2) = true := by simpa using hw
       by_cases hw1 : x.wd = 1
       ·simp [hw1]
        refine aG_split (fun g0 => ?_) (fun g0 => by simp at g0; rw [← hR]; simp [okE, h19, hw1, g0])
        simp at g0
        simp [g0]
        refine aG_split (fun g1 => ?_) (fun g1 => by simp at g1; rw [← hR]; simp [okE, h19, hw1, g0, g1])
        simp at g1
        simp [g1]
        refine aG_split (fun g2 => ?_) (fun g2 => by simp at g2; have gk : ¬ x.l.length = 1 := (by omega); rw [← hR]; simp [okE, h19, hw1, g0, g1, gk, g2])
        simp at g2
        simp [g2]
        have gk : x.l.length = 1 := by omega
        refine aCall_ofc (hany _) (by simp) ?_
        rintro _ _ ⟨rfl, rfl⟩
        simp
        rw [← hR, hlast]
        simp [okE, h19, hw1, g0, g1, gk]
       have hw2 : x.wd = 2 := by simp [hw1] at hw; exact hw
       simp [hw2]
       refine aG_split (fun g0 => ?_) (fun g0 => by simp at g0; rw [← hR]; simp [okE, h19, hw2, g0])
       simp at g0
       simp [g0]
       refine aG_split (fun g1 => ?_) (fun g1 => by simp at g1; rw [← hR]; simp [okE, h19, hw2, g0, g1])
       simp at g1
       simp [g1]
       refine aG_split (fun g2 => ?_) (fun g2 => by simp at g2; have gk : ¬ x.l.length = 1 := (by omega); rw [← hR]; simp [okE, h19, hw2, g0, g1, gk, g2])
       simp at g2
       simp [g2]
       have gk : x.l.length = 1 := by omega
       refine aCall_ofc (hany _) (by simp) ?_
       rintro _ _ ⟨rfl, rfl⟩
       simp
       rw [← hR, hlast]
       simp [okE, h19, hw2, g0, g1, gk]
    simp [h19]
    rw [← hR]
    simp [okE, h1, h2, h3a, h3b, h16, h17, h18, h19]
   ·simp [h3a, show ¬ x.op = 16 by omega, show ¬ x.op = 17 by omega, show ¬ x.op = 18 by omega, show ¬ x.op = 19 by omega]
    rw [← hR]
    simp [okE, h1, h2, h3a, show ¬ x.op = 16 by omega, show ¬ x.op = 17 by omega, show ¬ x.op = 18 by omega, show ¬ x.op = 19 by omega]
theorem check_af (e : Ex) : AF Tryz.prog 102 [exA e] (aI .i64 (if shalB 64 e = true then (if formB e = true then 0 else 2) else 20)) := by
 refine af_of Tryz.func102 rfl (by kernel_rfl) (by simp [Tryz.ntmps102]) fun _ => ?_
 simp [Tryz.f102]
 refine aCall_of (shallow_af 64 e (by omega)) (by simp) (by simp) ?_
 simp
 cases h1 : shalB 64 e with
 | false => simp
 | true =>
   simp
   refine aCall_of (formed_af e) (by simp) (by simp) ?_
   simp
   cases h2 : formB e with
   | false => simp
   | true => simp
structure St where
 op : Int
 va : Int
 wd : Int
 nx : Int
 el : Int
 tg : Int
 e : List Ex
 cs : List Int
structure Bl where
 ad : Int
 s : List St
structure Gr where
 ad : Int
 b : List Bl
def i64s (l : List Int) : List (List D) := l.map fun n => [.v (.int .i64 n)]
@[simp] theorem i64s_nil : i64s [] = [] := rfl
@[simp] theorem i64s_cons (n : Int) (l : List Int) : i64s (n :: l) = [.v (.int .i64 n)] :: i64s l := rfl
@[simp] theorem i64s_len (l : List Int) : (i64s l).length = l.length := by simp [i64s]
@[simp] theorem i64s_get (l : List Int) (i : Nat) : (i64s l)[i]? = (l[i]?).map fun n => [.v (.int .i64 n)] := by simp [i64s]
@[simp] theorem i64s_at (l : List Int) (i : Nat) (h : i < (i64s l).length) : (i64s l)[i] = [.v (.int .i64 (l[i]'(by simpa using h)))] := by simp [i64s]
@[simp] theorem i64s_all (l : List Int) : (i64s l).take l.length = i64s l := by rw [List.take_of_length_le]; simp
@[simp] theorem i64s_app (l m : List Int) : i64s (l ++ m) = i64s l ++ i64s m := by simp [i64s]
def St.d (s : St) : List D := [.v (.int .i64 s.op), .v (.int .i64 s.va), .v (.int .i64 s.wd), .v (.int .i64 s.nx), .v (.int .i64 s.el), .v (.int .u32 s.tg), .sl 5 (Ex.ds s.e), .sl 1 (i64s s.cs)]
theorem St.d_eq (s : St) : St.d s = [.v (.int .i64 s.op), .v (.int .i64 s.va), .v (.int .i64 s.wd), .v (.int .i64 s.nx), .v (.int .i64 s.el), .v (.int .u32 s.tg), .sl 5 (Ex.ds s.e), .sl 1 (i64s s.cs)] := rfl
@[simp] theorem St.d_len (s : St) : (St.d s).length = 8 := rfl
def sts (l : List St) : List (List D) := l.map St.d
@[simp] theorem sts_nil : sts [] = [] := rfl
@[simp] theorem sts_cons (s : St) (l : List St) : sts (s :: l) = s.d :: sts l := rfl
@[simp] theorem sts_len (l : List St) : (sts l).length = l.length := by simp [sts]
@[simp] theorem sts_get (l : List St) (i : Nat) : (sts l)[i]? = (l[i]?).map St.d := by simp [sts]
@[simp] theorem sts_at (l : List St) (i : Nat) (h : i < (sts l).length) : (sts l)[i] = St.d (l[i]'(by simpa using h)) := by simp [sts]
@[simp] theorem sts_app (l m : List St) : sts (l ++ m) = sts l ++ sts m := by simp [sts]
@[simp] theorem sts_take (l : List St) (n : Nat) : (sts l).take n = sts (l.take n) := by simp [sts]
def Bl.d (b : Bl) : List D := [.v (.int .u32 b.ad), .sl 8 (sts b.s)]
theorem Bl.d_eq (b : Bl) : Bl.d b = [.v (.int .u32 b.ad), .sl 8 (sts b.s)] := rfl
@[simp] theorem Bl.d_len (b : Bl) : (Bl.d b).length = 2 := rfl
def bls' (l : List Bl) : List (List D) := l.map Bl.d
@[simp] theorem bls_nil : bls' [] = [] := rfl
@[simp] theorem bls_cons (b : Bl) (l : List Bl) : bls' (b :: l) = b.d :: bls' l := rfl
@[simp] theorem bls_len (l : List Bl) : (bls' l).length = l.length := by simp [bls']
@[simp] theorem bls_get (l : List Bl) (i : Nat) : (bls' l)[i]? = (l[i]?).map Bl.d := by simp [bls']
@[simp] theorem bls_at (l : List Bl) (i : Nat) (h : i < (bls' l).length) : (bls' l)[i] = Bl.d (l[i]'(by simpa using h)) := by simp [bls']
@[simp] def stV (s : St) : AV := .agg [aI .i64 s.op, aI .i64 s.va, aI .i64 s.wd, aI .i64 s.nx, aI .i64 s.el, aI .u32 s.tg, .d (.sl 5 (Ex.ds s.e)), .d (.sl 1 (i64s s.cs))]
@[simp] def blV (b : Bl) : AV := .agg [aI .u32 b.ad, .d (.sl 8 (sts b.s))]
@[simp] def grV (g : Gr) : AV := .agg [aI .u32 g.ad, .d (.sl 2 (bls' g.b))]
def exErr (e : Ex) : Int := if shalB 64 e = true then (if formB e = true then 0 else 2) else 20
def exprsN (op : Int) : Int :=
 if op = 1 ∨ op = 4 ∨ op = 7 ∨ op = 8 then 1 else if op = 2 then 2 else if op = 3 ∨ op = 5 ∨ op = 6 ∨ op = 9 ∨ op = 10 then 0 else -1
def fieldsB (s : St) : Bool :=
 let va := (s.op == 1 || s.op == 3)
 (if va then decide (0 ≤ s.va) && decide (s.va < 65536) else s.va == 0) &&
 (if s.op = 2 then (s.wd == 1 || s.wd == 2 || s.wd == 4) else s.wd == 0) &&
 (s.op == 6 || s.op == 7 || s.nx == 0) && (s.op == 7 || s.el == 0) && (s.op == 5 || s.tg == 0) &&
 (if s.op = 8 then decide (1 ≤ s.cs.length) && decide (s.cs.length ≤ 64) else decide (s.cs = []))
def exsErr : List Ex → Int
 | [] => 0
 | e :: l => if exErr e = 0 then exsErr l else exErr e
def stErr (s : St) : Int := if exprsN s.op = s.e.length then (if exsErr s.e = 0 then (if fieldsB s = true then 0 else 2) else exsErr s.e) else 2
def stsErr : List St → Int
 | [] => 0
 | s :: l => if stErr s = 0 then stsErr l else stErr s
def blsErr : List Bl → Int
 | [] => 0
 | b :: l => if stsErr b.s = 0 then blsErr l else stsErr b.s
def termB (s : St) : Bool := decide (6 ≤ s.op) && decide (s.op ≤ 10)
def tgts (s : St) : List Int := if s.op = 6 then [s.nx] else if s.op = 7 then [s.nx, s.el] else if s.op = 8 then s.cs else []
def succL (b : Bl) : List Int := match b.s.getLast? with
 | some s => tgts s
 | none => []
def closedB (n : Nat) (b : Bl) : Bool := match b.s.getLast? with
 | some s => termB s && !(b.s.take (b.s.length - 1)).any termB && !(tgts s).any fun k => decide (k < 0) || decide ((n : Int) ≤ k)
 | none => false
def stN : List Bl → Nat
 | [] => 0
 | b :: l => b.s.length + stN l
def grErr (g : Gr) : Int :=
 if 256 < g.b.length ∨ 1024 < stN g.b then 6
 else if g.b.length = 0 ∨ g.b.all (closedB g.b.length) = false then 18
 else blsErr g.b
theorem blsErr_mem : ∀ {l : List Bl}, blsErr l = 0 → ∀ b ∈ l, stsErr b.s = 0
 | [], _, b, hb => by cases hb
 | a :: l, h, b, hb => by
   simp only [blsErr] at h
   split at h
   ·rename_i h0
    rcases List.mem_cons.1 hb with rfl | hb
    ·exact h0
    ·exact blsErr_mem h b hb
   ·exact absurd h ‹_›
theorem exsErr_mem : ∀ {l : List Ex}, exsErr l = 0 → ∀ e ∈ l, exErr e = 0
 | [], _, b, hb => by cases hb
 | a :: l, h, b, hb => by
   simp only [exsErr] at h
   split at h
   ·rename_i h0
    rcases List.mem_cons.1 hb with rfl | hb
    ·exact h0
    ·exact exsErr_mem h b hb
   ·exact absurd h ‹_›
theorem index_st_ac {f : Nat} {fs cs : List AV} {p : St → Bool} (A : AHeap) (l : List St) (hf : okF Tryz.prog f = true) (hp : ∀ a ∈ l, ∀ N, AC Tryz.prog f (fs ++ [stV a] ++ cs) (A ++ N) (Same0 A (aB (p a)))) :
 AC Tryz.prog 133 [.d (.sl 8 (sts l)), .fn f fs cs] A (Same0 A (aI .i64 (match l.findIdx? p with | some i => (i : Int) | none => -1))) := by
 refine ac_of Tryz.func133 rfl (by kernel_rfl) (by simp [Tryz.ntmps133]) fun hb => ?_
 have n1 : l.length ≤ maxLen := by simpa using hb.1.1
 clear hb
 obtain ⟨R, hR⟩ : ∃ R : Int, (match l.findIdx? p with | some i => (i : Int) | none => -1) = R := ⟨_, rfl⟩
 rw [hR]
 simp [Tryz.f133]
 refine aLoop_of (α := Nat) (fun i e A' => i ≤ l.length ∧ (∃ N, A' = A ++ N) ∧ e 8 = aI .i64 i ∧ e 7 = aI .i64 l.length ∧ e 0 = .d (.sl 8 (sts l)) ∧ e 1 = .fn f fs cs ∧
  ∀ (j : Nat) (a : St), j < i → l[j]? = some a → p a = false) (fun i => l.length - i) 0 (Sub.refl _ _ _) ⟨by omega, ⟨[], by simp⟩, by simp, by simp, by simp, by simp, by intro j a hj; omega⟩ ?_
 rintro i e A' ⟨hi, ⟨N, rfl⟩, e8, e7, e0, e1, hall⟩ K hK
 simp [e8, e7]
 refine aCond_split (fun hlt => ?_) (fun hge => ?_)
 ·simp at hlt
  have hi1 := gEG hlt
  simp [e0, e1, e8, hi1, St.d_eq]
  refine aCall_ofc (hp l[i] (gMO hi1) N) hf ?_
  rintro _ _ ⟨rfl, N', rfl⟩
  simp
  refine aCond_split (fun ht => ?_) (fun hf => ?_)
  ·have : l.findIdx? p = some i := by
    rw [List.findIdx?_eq_some_iff_getElem]
    exact ⟨hlt, ht, fun j hj => by simpa using hall j _ hj (gEG (by omega))⟩
   rw [this] at hR
   subst hR
   simp [Same0]
  ·simp [e8, succ_wrap hlt n1]
   refine hK (i + 1) _ _ _ _ (Sub.refl _ _ _) ⟨by omega, ⟨N', rfl⟩, by simp, by simp [e7], by simp [e0], by simp [e1], fun j a hj ha => ?_⟩ (by omega)
   rcases Nat.lt_or_ge j i with h | h
   ·exact hall j a h ha
   ·obtain rfl : j = i := by omega
    rw [hi1] at ha
    obtain rfl := oSI ha
    exact hf
 ·simp at hge
  have : l.findIdx? p = none := by
   rw [List.findIdx?_eq_none_iff]
   intro x hx
   obtain ⟨j, hj⟩ := List.getElem?_of_mem hx
   exact hall j x (by have := (gSI.1 hj).1; omega) hj
  rw [this] at hR
  subst hR
  simp [Same0]
theorem contains_st_ac {f : Nat} {fs cs : List AV} {p : St → Bool} (A : AHeap) (l : List St) (hf : okF Tryz.prog f = true) (hp : ∀ a ∈ l, ∀ N, AC Tryz.prog f (fs ++ [stV a] ++ cs) (A ++ N) (Same0 A (aB (p a)))) :
 AC Tryz.prog 98 [.d (.sl 8 (sts l)), .fn f fs cs] A (Same0 A (aB (l.any p))) := by
 refine ac_of Tryz.func98 rfl (by kernel_rfl) (by simp [Tryz.ntmps98]) fun hb => ?_
 simp [Tryz.f98]
 refine aCall_ofc (index_st_ac A l hf hp) (by simp) ?_
 rintro _ _ ⟨rfl, N, rfl⟩
 simp [Same0]
 cases h : l.findIdx? p with
 | none =>
   rw [List.findIdx?_eq_none_iff] at h
   simpa using h
 | some i =>
   rw [List.findIdx?_eq_some_iff_getElem] at h
   obtain ⟨hi, hp, _⟩ := h
   simpa using ⟨_, List.getElem_mem hi, hp⟩
theorem clone_st_ac (A : AHeap) (xs : List (List D)) (hl : xs.length ≤ 1000000000) :
 AC Tryz.prog 55 [.d (.sl 8 xs)] A fun r A' => r = .own A.length 1 0 xs.length ∧ A' = A ++ [⟨1, true, 68, 8, dEls xs⟩] := by
 refine AC.sub (R := fun r A' => (r = .own A.length 1 0 xs.length ∧ A' = A ++ [⟨1, true, 68, 8, dEls xs⟩]) ∨ (r = .d (.v (.slice none 0 0)) ∧ xs = [] ∧ A' = A)) (ac_of Tryz.func55 rfl (by kernel_rfl) (by simp [Tryz.ntmps55]) fun hb => ?_) ?_
 ·have hall := bds_all hb.1.2
  clear hb
  simp [Tryz.f55]
  refine aRaw_app byt_46 ?_
  simp [hall]
  unfold maxLen
  omega
 ·rintro r A' (⟨rfl, rfl⟩ | ⟨rfl, rfl, rfl⟩)
  ·exact ⟨_, _, Sub.refl _ _ _, rfl, rfl⟩
  ·refine ⟨_, _, (Sub.ghost 1 68 8).trans (Sub.env (e' := fun _ => .own A'.length 1 0 0) fun i => VLe.nil_own (k := ⟨1, true, 68, 8, []⟩) (by simp) rfl), ?_, ?_⟩ <;> simp
theorem index_in_ac {f : Nat} {fs cs : List AV} {p : Int → Bool} (A : AHeap) (l : List Int) (hf : okF Tryz.prog f = true) (hp : ∀ a ∈ l, ∀ N, AC Tryz.prog f (fs ++ [aI .i64 a] ++ cs) (A ++ N) (Same0 A (aB (p a)))) :
 AC Tryz.prog 78 [.d (.sl 1 (i64s l)), .fn f fs cs] A (Same0 A (aI .i64 (match l.findIdx? p with | some i => (i : Int) | none => -1))) := by
 refine ac_of Tryz.func78 rfl (by kernel_rfl) (by simp [Tryz.ntmps78]) fun hb => ?_
 have n1 : l.length ≤ maxLen := by simpa using hb.1.1
 clear hb
 obtain ⟨R, hR⟩ : ∃ R : Int, (match l.findIdx? p with | some i => (i : Int) | none => -1) = R := ⟨_, rfl⟩
 rw [hR]
 simp [Tryz.f78]
 refine aLoop_of (α := Nat) (fun i e A' => i ≤ l.length ∧ (∃ N, A' = A ++ N) ∧ e 8 = aI .i64 i ∧ e 7 = aI .i64 l.length ∧ e 0 = .d (.sl 1 (i64s l)) ∧ e 1 = .fn f fs cs ∧
  ∀ (j : Nat) (a : Int), j < i → l[j]? = some a → p a = false) (fun i => l.length - i) 0 (Sub.refl _ _ _) ⟨by omega, ⟨[], by simp⟩, by simp, by simp, by simp, by simp, by intro j a hj; omega⟩ ?_
 rintro i e A' ⟨hi, ⟨N, rfl⟩, e8, e7, e0, e1, hall⟩ K hK
 simp [e8, e7]
 refine aCond_split (fun hlt => ?_) (fun hge => ?_)
 ·simp at hlt
  have hi1 := gEG hlt
  simp [e0, e1, e8, hi1]
  refine aCall_ofc (hp l[i] (gMO hi1) N) hf ?_
  rintro _ _ ⟨rfl, N', rfl⟩
  simp
  refine aCond_split (fun ht => ?_) (fun hf => ?_)
  ·have : l.findIdx? p = some i := by
    rw [List.findIdx?_eq_some_iff_getElem]
    exact ⟨hlt, ht, fun j hj => by simpa using hall j _ hj (gEG (by omega))⟩
   rw [this] at hR
   subst hR
   simp [Same0]
  ·simp [e8, succ_wrap hlt n1]
   refine hK (i + 1) _ _ _ _ (Sub.refl _ _ _) ⟨by omega, ⟨N', rfl⟩, by simp, by simp [e7], by simp [e0], by simp [e1], fun j a hj ha => ?_⟩ (by omega)
   rcases Nat.lt_or_ge j i with h | h
   ·exact hall j a h ha
   ·obtain rfl : j = i := by omega
    rw [hi1] at ha
    obtain rfl := oSI ha
    exact hf
 ·simp at hge
  have : l.findIdx? p = none := by
   rw [List.findIdx?_eq_none_iff]
   intro x hx
   obtain ⟨j, hj⟩ := List.getElem?_of_mem hx
   exact hall j x (by have := (gSI.1 hj).1; omega) hj
  rw [this] at hR
  subst hR
  simp [Same0]
theorem contains_in_ac {f : Nat} {fs cs : List AV} {p : Int → Bool} (A : AHeap) (l : List Int) (hf : okF Tryz.prog f = true) (hp : ∀ a ∈ l, ∀ N, AC Tryz.prog f (fs ++ [aI .i64 a] ++ cs) (A ++ N) (Same0 A (aB (p a)))) :
 AC Tryz.prog 37 [.d (.sl 1 (i64s l)), .fn f fs cs] A (Same0 A (aB (l.any p))) := by
 refine ac_of Tryz.func37 rfl (by kernel_rfl) (by simp [Tryz.ntmps37]) fun hb => ?_
 simp [Tryz.f37]
 refine aCall_ofc (index_in_ac A l hf hp) (by simp) ?_
 rintro _ _ ⟨rfl, N, rfl⟩
 simp [Same0]
 cases h : l.findIdx? p with
 | none =>
   rw [List.findIdx?_eq_none_iff] at h
   simpa using h
 | some i =>
   rw [List.findIdx?_eq_some_iff_getElem] at h
   obtain ⟨hi, hp, _⟩ := h
   simpa using ⟨_, List.getElem_mem hi, hp⟩
theorem clone_in_ac (A : AHeap) (xs : List (List D)) (hl : xs.length ≤ 1000000000) :
 AC Tryz.prog 58 [.d (.sl 1 xs)] A fun r A' => r = .own A.length 1 0 xs.length ∧ A' = A ++ [⟨1, true, 3, 1, dEls xs⟩] := by
 refine AC.sub (R := fun r A' => (r = .own A.length 1 0 xs.length ∧ A' = A ++ [⟨1, true, 3, 1, dEls xs⟩]) ∨ (r = .d (.v (.slice none 0 0)) ∧ xs = [] ∧ A' = A)) (ac_of Tryz.func58 rfl (by kernel_rfl) (by simp [Tryz.ntmps58]) fun hb => ?_) ?_
 ·have hall := bds_all hb.1.2
  clear hb
  simp [Tryz.f58]
  refine aRaw_app byt_49 ?_
  simp [hall]
  unfold maxLen
  omega
 ·rintro r A' (⟨rfl, rfl⟩ | ⟨rfl, rfl, rfl⟩)
  ·exact ⟨_, _, Sub.refl _ _ _, rfl, rfl⟩
  ·refine ⟨_, _, (Sub.ghost 1 3 1).trans (Sub.env (e' := fun _ => .own A'.length 1 0 0) fun i => VLe.nil_own (k := ⟨1, true, 3, 1, []⟩) (by simp) rfl), ?_, ?_⟩ <;> simp
theorem ilterm_af (s : St) : AF Tryz.prog 97 [stV s] (aB (termB s)) := by
 refine af_of Tryz.func97 rfl (by kernel_rfl) (by simp [Tryz.ntmps97]) fun _ => ?_; simp [Tryz.f97, Ex.d_eq]
 by_cases h : 6 ≤ s.op <;> simp [h, termB]
theorem op_cases (op : Int) : op = 1 ∨ op = 2 ∨ op = 3 ∨ op = 4 ∨ op = 5 ∨ op = 6 ∨ op = 7 ∨ op = 8 ∨ op = 9 ∨ op = 10 ∨ (¬ op = 1 ∧ ¬ op = 2 ∧ ¬ op = 3 ∧ ¬ op = 4 ∧ ¬ op = 5 ∧ ¬ op = 6 ∧ ¬ op = 7 ∧ ¬ op = 8 ∧ ¬ op = 9 ∧ ¬ op = 10) := by omega
theorem ilexprs_af (op : Int) : AF Tryz.prog 101 [aI .i64 op] (aI .i64 (exprsN op)) := by
 refine af_of Tryz.func101 rfl (by kernel_rfl) (by simp [Tryz.ntmps101]) fun _ => ?_
 rcases op_cases op with h | h | h | h | h | h | h | h | h | h | h <;> simp [Tryz.f101, exprsN, h]
theorem ilfields_af (s : St) : AF Tryz.prog 103 [stV s] (aB (fieldsB s)) := by
 obtain ⟨R, hR⟩ : ∃ R, fieldsB s = R := ⟨_, rfl⟩
 rw [hR]
 refine af_of Tryz.func103 rfl (by kernel_rfl) (by simp [Tryz.ntmps103]) fun _ => ?_
 rcases op_cases s.op with h | h | h | h | h | h | h | h | h | h | h <;> simp [Tryz.f103, h]
 case inl | inr.inr.inl =>
  have c := variable_af s.va
  cases hV : (decide (0 ≤ s.va) && decide (s.va < 65536)) <;> rw [hV] at c
  ·refine aCall_of c (by simp) (by simp [Ex.d_eq]) ?_; simp [Ex.d_eq]
   rw [← hR]; simp only [fieldsB, h, hV]; simp
  ·refine aCall_of c (by simp) (by simp [Ex.d_eq]) ?_; simp [Ex.d_eq]
   try simp [h]
   repeat' (refine aG_split (fun g => ?_) (fun g => ?_) <;> simp at g <;> simp [*])
   all_goals (rw [← hR]; simp only [fieldsB, h, hV]; simp [*])
 case inr.inl =>
  have c := access_af s.wd
  cases hV : (decide (s.wd = 1) || decide (s.wd = 2) || decide (s.wd = 4)) <;> rw [hV] at c
  ·refine aCall_of c (by simp) (by simp [Ex.d_eq]) ?_; simp [Ex.d_eq]
   rw [← hR]; simp only [fieldsB, h]; simp at hV; simp [hV]
  ·refine aCall_of c (by simp) (by simp [Ex.d_eq]) ?_; simp [Ex.d_eq]
   try simp [h]
   repeat' (refine aG_split (fun g => ?_) (fun g => ?_) <;> simp at g <;> simp [*])
   all_goals (rw [← hR]; simp only [fieldsB, h]; simp at hV; simp [*])
 case inr.inr.inr.inr.inr.inr.inl =>
  refine adraw [(5, 3)] (by kernel_rfl) (by kernel_rfl) (by kernel_rfl) (by kernel_rfl) ?_; simp [Ex.d_eq]
  try simp [h]
  repeat' (refine aG_split (fun g => ?_) (fun g => ?_) <;> simp at g <;> simp [*])
  all_goals (rw [← hR]; simp [fieldsB, *])
 case inr.inr.inr.inr.inr.inr.inr.inl =>
  by_cases g1 : s.cs.length < 1
  ·have g2 : ¬ 1 ≤ s.cs.length := by omega
   have g3 : s.cs = [] := List.length_eq_zero_iff.1 (by omega)
   simp [g3]
   rw [← hR]; simp [fieldsB, h, g3]
  have g2 : 1 ≤ s.cs.length := by omega
  have g3 : ¬ (s.cs.length : Int) < 1 := by omega
  simp [g3]
  by_cases g4 : s.cs.length ≤ 64
  ·have g5 : ¬ (64 : Int) < s.cs.length := by omega
   simp [g5, h]
   repeat' (refine aG_split (fun g => ?_) (fun g => ?_) <;> simp at g <;> simp [*])
   all_goals (rw [← hR]; simp [fieldsB, *])
  ·have g5 : (64 : Int) < s.cs.length := by omega
   simp [g5]
   rw [← hR]; simp [fieldsB, h, g4]
 all_goals
  repeat' (refine aG_split (fun g => ?_) (fun g => ?_) <;> simp at g <;> simp [*])
  all_goals (rw [← hR]; simp [fieldsB, *])
theorem exs_drop {l : List Ex} {i : Nat} {x : Ex} (h : l[i]? = some x) : exsErr (l.drop i) = if exErr x = 0 then exsErr (l.drop (i + 1)) else exErr x := by
 obtain ⟨hi, rfl⟩ := gSI.1 h
 rw [List.drop_eq_getElem_cons hi]
 rfl
theorem ilcheckst_af (s : St) (hl : s.e.length ≤ maxLen) : AF Tryz.prog 54 [stV s] (aI .i64 (stErr s)) := by
 obtain ⟨R, hR⟩ : ∃ R, stErr s = R := ⟨_, rfl⟩
 rw [hR]
 refine af_of Tryz.func54 rfl (by kernel_rfl) (by simp [Tryz.ntmps54]) fun _ => ?_; simp [Tryz.f54, Ex.d_eq]
 refine aCall_of (ilexprs_af s.op) (by simp) (by simp [Ex.d_eq]) ?_; simp [Ex.d_eq]
 by_cases h1 : exprsN s.op = s.e.length
 case neg =>
  have : R = 2 := by rw [← hR, stErr, if_neg h1]
  subst this
  by_cases h2 : exprsN s.op < 0
  ·simp [h2]
  ·simp [h2, h1]
 simp [h1, show ¬ (s.e.length : Int) < 0 by omega]
 refine aLoop_st (fun i : Nat => [(1, .ptr 0 0 0 0), (20, .d (.sl 5 (Ex.ds s.e))), (21, aI .i64 s.e.length), (22, aI .i64 i)]) (fun _ => [⟨0, true, 68, 8, [s.d.map AV.d]⟩])
  (fun i => i ≤ s.e.length ∧ exsErr (s.e.drop i) = exsErr s.e) (fun i => s.e.length - i) 0 (Sub.refl _ _ _) 1 (by omega) (by simp [St.d_eq]) (by simp) ⟨by omega, by simp⟩ ?_
 rintro i ⟨hi, hx⟩ K hK
 rcases Nat.lt_or_ge i s.e.length with hlt | hge
 case inr =>
  obtain rfl : i = s.e.length := by omega
  simp [exsErr] at hx
  simp [St.d_eq]
  refine aCall_of (ilfields_af s) (by simp) (by simp [Ex.d_eq]) ?_; simp [Ex.d_eq]
  rw [stErr, if_pos h1, if_pos hx.symm] at hR
  cases hf : fieldsB s <;> rw [hf] at hR <;> simp at hR <;> simp [hR]
 obtain ⟨y, hy⟩ : ∃ y, s.e[i]? = some y := ⟨_, gEG hlt⟩
 have hy2 := (gSI.1 hy).2
 rw [exs_drop hy] at hx
 simp [hlt, hy, hy2, Ex.d_eq]
 refine aCall_of (check_af y) (by simp) (by simp [Ex.d_eq]) ?_; simp [Ex.d_eq]
 rw [show (if shalB 64 y = true then (if formB y = true then (0 : Int) else 2) else 20) = exErr y from rfl]
 by_cases h0 : exErr y = 0
 ·rw [if_pos h0] at hx
  simp [h0, succ_wrap hlt hl]
  exact hK (i + 1) ⟨by omega, hx⟩ (by omega) (Sub.refl _ _ _) 1 (by omega) (by simp [St.d_eq]) (by simp)
 ·rw [if_neg h0] at hx
  have : R = exErr y := by rw [← hR, stErr, if_pos h1, if_neg (by rw [← hx]; exact h0), hx]
  subst this
  simp [h0]
abbrev gB (g : Gr) : Blk := ⟨0, true, 25, 2, [[aI .u32 g.ad, .d (.sl 2 (bls' g.b))]]⟩
abbrev bB (b : Bl) : Blk := ⟨0, true, 48, 2, [[aI .u32 b.ad, .d (.sl 8 (sts b.s))]]⟩
theorem last_get {α : Type} {l : List α} {n : Nat} (h : l.length = n + 1) : ∃ s, l[n]? = some s ∧ l.getLast? = some s := by
 refine ⟨l[n], gEG (by omega), ?_⟩
 rw [List.getLast?_eq_getElem?, show l.length - 1 = n by omega]
 exact gEG (by omega)
theorem ilsucc_af (b : Bl) (hl : b.s.length ≤ maxLen) (hc : ∀ s ∈ b.s, s.cs.length ≤ 1000000000) : AF Tryz.prog 99 [blV b] (.d (.sl 1 (i64s (succL b)))) := by
 obtain ⟨R, hR⟩ : ∃ R, succL b = R := ⟨_, rfl⟩
 rw [hR]
 refine af_of Tryz.func99 rfl (by kernel_rfl) (by simp [Tryz.ntmps99]) fun _ => ?_; simp [Tryz.f99, Ex.d_eq]
 cases hn : b.s.length with
 | zero =>
   have : b.s = [] := List.length_eq_zero_iff.1 hn
   rw [succL, this] at hR
   simp at hR
   subst hR
   simp [this]
 | succ n =>
   obtain ⟨s, hs, hs2⟩ := last_get hn
   have hs3 := (gSI.1 hs).2
   have hne : ¬ b.s = [] := fun h => by rw [h] at hn; simp at hn
   unfold maxLen at hl
   rw [succL, hs2] at hR
   simp only [tgts] at hR
   simp [hn, hne, show ¬ (n : Int) + 1 = 0 by omega, i64w (n := (n : Int)) (by omega), hs, hs3, St.d_eq]
   rcases op_cases s.op with h | h | h | h | h | h | h | h | h | h | h <;> simp [h] at hR <;> subst hR <;> simp [h]
   refine aCall_ofc (clone_in_ac _ (i64s s.cs) (by simpa using hc s (gMO hs))) (by simp) ?_
   rintro _ _ ⟨rfl, rfl⟩
   simp
theorem shaped1_ac (g : Gr) (b0 : Blk) (hl : g.b.length ≤ maxLen) (k : Int) (N : AHeap) : AC Tryz.prog 100 [aI .i64 k, .ptr 0 0 0 0] ([gB g, b0] ++ N) (Same0 [gB g, b0] (aB (decide (k < 0) || decide ((g.b.length : Int) ≤ k)))) := by
 refine ac_of Tryz.func100 rfl (by kernel_rfl) (by simp [Tryz.ntmps100]) fun hb => ?_
 by_cases h : k < 0 <;> simp [Tryz.f100, h, Same0]
def GrFit (g : Gr) : Prop := g.b.length ≤ 1000000 ∧ ∀ b ∈ g.b, b.s.length ≤ 1000000 ∧ ∀ s ∈ b.s, s.e.length ≤ 1000000 ∧ s.cs.length ≤ 2000000
theorem all_drop {α : Type} {p : α → Bool} {l : List α} {i : Nat} {x : α} (h : l[i]? = some x) : (l.drop i).all p = (p x && (l.drop (i + 1)).all p) := by
 obtain ⟨hi, rfl⟩ := gSI.1 h
 rw [List.drop_eq_getElem_cons hi, List.all_cons]
theorem ilshaped_af (g : Gr) (hg : GrFit g) : AF Tryz.prog 53 [grV g] (aB (!decide (g.b.length = 0) && g.b.all (closedB g.b.length))) := by
 have hl : g.b.length ≤ maxLen := by have := hg.1; unfold maxLen; omega
 obtain ⟨R, hR⟩ : ∃ R, (!decide (g.b.length = 0) && g.b.all (closedB g.b.length)) = R := ⟨_, rfl⟩
 rw [hR]
 refine af_of Tryz.func53 rfl (by kernel_rfl) (by simp [Tryz.ntmps53]) fun _ => ?_; simp [Tryz.f53, Ex.d_eq]
 by_cases h0 : g.b = []
 ·rw [h0] at hR ⊢
  simp at hR
  subst hR
  simp
 have h0' : ¬ g.b.length = 0 := fun h => h0 (List.length_eq_zero_iff.1 h)
 simp [h0'] at hR
 simp [h0, h0']
 refine aLoop_st (fun i : Nat => [(1, .ptr 0 0 0 0), (11, .d (.sl 2 (bls' g.b))), (12, aI .i64 g.b.length), (13, aI .i64 i)]) (fun _ => [gB g])
  (fun i => i ≤ g.b.length ∧ (g.b.drop i).all (closedB g.b.length) = R) (fun i => g.b.length - i) 0 (Sub.refl _ _ _) 1 (by omega) (by simp) (by simp) ⟨by omega, by simpa using hR⟩ ?_
 rintro i ⟨hi, hx⟩ K hK
 rcases Nat.lt_or_ge i g.b.length with hlt | hge
 case inr =>
  obtain rfl : i = g.b.length := by omega
  simp at hx
  subst hx
  simp
 obtain ⟨b, hb⟩ : ∃ b, g.b[i]? = some b := ⟨_, gEG hlt⟩
 have hb2 := (gSI.1 hb).2
 obtain ⟨f1, f2⟩ := hg.2 b (gMO hb)
 have hbl : b.s.length ≤ maxLen := by unfold maxLen; omega
 rw [all_drop hb] at hx
 simp [hlt, hb, hb2, Bl.d_eq]
 cases hn : b.s.length with
 | zero =>
   have hne : b.s = [] := List.length_eq_zero_iff.1 hn
   have : closedB g.b.length b = false := by
    rw [closedB, hne]
    rfl
   rw [this] at hx
   simp at hx
   subst hx
   simp [hne]
 | succ n =>
   obtain ⟨s, hs, hs2⟩ := last_get hn
   have hs3 := (gSI.1 hs).2
   have hcl : closedB g.b.length b = (termB s && !(b.s.take n).any termB && !(succL b).any fun k => decide (k < 0) || decide ((g.b.length : Int) ≤ k)) := by
    rw [closedB, succL, hs2, hn]
    rfl
   rw [hcl] at hx
   have hnn : ¬ (n : Int) + 1 = 0 := by omega
   have hne : ¬ b.s = [] := fun h => by rw [h] at hn; simp at hn
   have hw := i64w (n := (n : Int)) (by omega)
   simp [hnn, hne, hw, hs, hs3, St.d_eq, hn]
   have ct := ilterm_af s
   cases ht : termB s
   ·rw [ht] at hx ct
    simp at hx
    subst hx
    refine aCall_of ct (by simp) (by simp [Ex.d_eq]) ?_; simp [Ex.d_eq]
   rw [ht] at ct hx
   refine aCall_of ct (by simp) (by simp [Ex.d_eq]) ?_; simp [Ex.d_eq]
   simp [hnn, hw, hn, show (n : Int) ≤ (n : Int) + 1 by omega]
   refine aCall_ofc (contains_st_ac (f := 97) (fs := []) (cs := []) (p := termB) [gB g, bB b] (b.s.take n) (by simp) fun a _ N => (AF.ac (A := [gB g, bB b] ++ N) (ilterm_af a) (by simp)).mono fun r A' h => ⟨h.1, N, h.2⟩).drop (by simp) ?_
   rintro _ _ ⟨rfl, rfl⟩
   simp
   cases ha : (b.s.take n).any termB <;> rw [ha] at hx
   ·simp at hx
    simp
    refine aCall_of (ilsucc_af b hbl fun s hs => by have := (f2 s hs).2; omega) (by simp) (by simp [Ex.d_eq]) ?_; simp [Ex.d_eq]
    refine aCall_ofc (contains_in_ac (f := 100) (fs := []) (cs := [.ptr 0 0 0 0]) (p := fun k => decide (k < 0) || decide ((g.b.length : Int) ≤ k)) [gB g, bB b] (succL b) (by simp) fun a _ N => shaped1_ac g (bB b) hl a N).drop (by simp) ?_
    rintro _ _ ⟨rfl, rfl⟩
    simp
    cases hk : (succL b).any fun k => decide (k < 0) || decide ((g.b.length : Int) ≤ k)
    ·rw [hk] at hx
     simp at hx
     simp [succ_wrap hlt hl]
     exact hK (i + 1) ⟨by omega, by simpa using hx⟩ (by omega) (Sub.refl _ _ _) 1 (by omega) (by simp) (by simp)
    ·rw [hk] at hx
     simp at hx
     subst hx
     simp
   ·simp at hx
    subst hx
    simp
theorem stN_app : ∀ (l m : List Bl), stN (l ++ m) = stN l + stN m
 | [], m => by simp [stN]
 | b :: l, m => by simp only [List.cons_append, stN, stN_app l m]; omega
theorem stN_take {l : List Bl} {i : Nat} {b : Bl} (h : l[i]? = some b) : stN (l.take (i + 1)) = stN (l.take i) + b.s.length := by
 rw [List.take_add_one, h, stN_app]
 simp [stN]
theorem stN_le : ∀ {l : List Bl}, (∀ b ∈ l, b.s.length ≤ 1000000) → stN l ≤ 1000000 * l.length
 | [], _ => by simp [stN]
 | b :: l, h => by
   have h1 := stN_le fun x hx => h x (List.mem_cons_of_mem b hx)
   have h2 := h b (List.mem_cons_self ..)
   simp only [stN, List.length_cons]
   omega
theorem bls_drop {l : List Bl} {i : Nat} {x : Bl} (h : l[i]? = some x) : blsErr (l.drop i) = if stsErr x.s = 0 then blsErr (l.drop (i + 1)) else stsErr x.s := by
 obtain ⟨hi, rfl⟩ := gSI.1 h
 rw [List.drop_eq_getElem_cons hi]
 rfl
theorem sts_drop {l : List St} {i : Nat} {x : St} (h : l[i]? = some x) : stsErr (l.drop i) = if stErr x = 0 then stsErr (l.drop (i + 1)) else stErr x := by
 obtain ⟨hi, rfl⟩ := gSI.1 h
 rw [List.drop_eq_getElem_cons hi]
 rfl
theorem ilcheckg_af (g : Gr) (hg : GrFit g) : AF Tryz.prog 21 [grV g] (aI .i64 (grErr g)) := by
 have hl : g.b.length ≤ maxLen := by have := hg.1; unfold maxLen; omega
 have hN : ∀ i, stN (g.b.take i) ≤ 1000000000000 := fun i => by
  have h1 := stN_le (l := g.b.take i) fun b hb => (hg.2 b (List.mem_of_mem_take hb)).1
  have h2 := hg.1
  have h3 : (g.b.take i).length ≤ g.b.length := by simp; omega
  have := Nat.mul_le_mul_left 1000000 (Nat.le_trans h3 h2)
  omega
 obtain ⟨R, hR⟩ : ∃ R, grErr g = R := ⟨_, rfl⟩
 rw [hR]
 refine af_of Tryz.func21 rfl (by kernel_rfl) (by simp [Tryz.ntmps21]) fun _ => ?_; simp [Tryz.f21, Ex.d_eq]
 refine aLoop_st (fun i : Nat => [(1, .ptr 0 0 0 0), (12, .d (.sl 2 (bls' g.b))), (13, aI .i64 g.b.length), (14, aI .i64 i), (3, aI .i64 (stN (g.b.take i)))]) (fun _ => [gB g])
  (fun i => i ≤ g.b.length) (fun i => g.b.length - i) 0 (Sub.refl _ _ _) 1 (by omega) (by simp) (by simp [stN]) (by omega) ?_
 rintro i hi K hK
 rcases Nat.lt_or_ge i g.b.length with hlt | hge
 case inl =>
  obtain ⟨b, hb⟩ : ∃ b, g.b[i]? = some b := ⟨_, gEG hlt⟩
  have hb2 := (gSI.1 hb).2
  have hs := stN_take hb
  have h1 := hN (i + 1)
  simp [hlt, hb, hb2, Bl.d_eq, succ_wrap hlt hl, i64w (n := (stN (g.b.take i) : Int) + b.s.length) (by omega)]
  exact hK (i + 1) (by omega) (by omega) (Sub.refl _ _ _) 1 (by omega) (by simp) (by simp [hs])
 obtain rfl : i = g.b.length := by omega
 rw [List.take_length]
 rw [grErr] at hR
 simp
 by_cases h1 : 256 < g.b.length
 ·rw [if_pos (.inl h1)] at hR
  simp [show (256 : Int) < g.b.length by omega, hR]
 simp [show ¬ (256 : Int) < g.b.length by omega]
 by_cases h2 : 1024 < stN g.b
 ·rw [if_pos (.inr h2)] at hR
  simp [show (1024 : Int) < stN g.b by omega, hR]
 simp [show ¬ (1024 : Int) < stN g.b by omega]
 rw [if_neg (by omega)] at hR
 have c := ilshaped_af g hg
 cases h3 : (!decide (g.b.length = 0) && g.b.all (closedB g.b.length)) <;> rw [h3] at c
 ·rw [if_pos (by simp at h3; by_cases h0 : g.b.length = 0; exact .inl h0; right; simpa using h3 (fun h => h0 (by rw [h]; rfl)))] at hR
  subst hR
  refine aCall_of c (by simp) (by simp [Ex.d_eq]) ?_; simp [Ex.d_eq]
 rw [if_neg (by simp at h3; rintro (h | h); exact h3.1 (List.length_eq_zero_iff.1 h); rw [List.all_eq_false] at h; obtain ⟨x, hx, hx2⟩ := h; exact hx2 (h3.2 x hx))] at hR
 refine aCall_of c (by simp) (by simp [Ex.d_eq]) ?_; simp [Ex.d_eq]
 clear hK K c
 refine aLoop_st (fun i : Nat => [(1, .ptr 0 0 0 0), (36, .d (.sl 2 (bls' g.b))), (37, aI .i64 g.b.length), (38, aI .i64 i)]) (fun _ => [gB g])
  (fun i => i ≤ g.b.length ∧ blsErr (g.b.drop i) = R) (fun i => g.b.length - i) 0 (Sub.refl _ _ _) 1 (by omega) (by simp) (by simp) ⟨by omega, by simpa using hR⟩ ?_
 rintro i ⟨hi, hx⟩ K hK
 rcases Nat.lt_or_ge i g.b.length with hlt | hge
 case inr =>
  obtain rfl : i = g.b.length := by omega
  simp [blsErr] at hx
  simp [hx]
 obtain ⟨b, hb⟩ : ∃ b, g.b[i]? = some b := ⟨_, gEG hlt⟩
 have hb2 := (gSI.1 hb).2
 obtain ⟨f1, f2⟩ := hg.2 b (gMO hb)
 have hbl : b.s.length ≤ maxLen := by unfold maxLen; omega
 rw [bls_drop hb] at hx
 simp [hlt, hb, hb2, Bl.d_eq]
 refine aLoop_st (fun k : Nat => [(1, .ptr 0 0 0 0), (36, .d (.sl 2 (bls' g.b))), (37, aI .i64 g.b.length), (38, aI .i64 i), (43, .d (.sl 8 (sts b.s))), (44, aI .i64 b.s.length), (45, aI .i64 k)]) (fun _ => [gB g])
  (fun k => k ≤ b.s.length ∧ stsErr (b.s.drop k) = stsErr b.s) (fun k => b.s.length - k) 0 (Sub.refl _ _ _) 1 (by omega) (by simp) (by simp) ⟨by omega, by simp⟩ ?_
 rintro k ⟨hk, hy⟩ K2 hK2
 rcases Nat.lt_or_ge k b.s.length with hlt2 | hge2
 case inr =>
  obtain rfl : k = b.s.length := by omega
  simp [stsErr] at hy
  rw [if_pos hy.symm] at hx
  simp [succ_wrap hlt hl]
  exact hK (i + 1) ⟨by omega, hx⟩ (by omega) (Sub.refl _ _ _) 1 (by omega) (by simp) (by simp)
 obtain ⟨s, hs⟩ : ∃ s, b.s[k]? = some s := ⟨_, gEG hlt2⟩
 have hs2 := (gSI.1 hs).2
 have f3 := (f2 s (gMO hs)).1
 rw [sts_drop hs] at hy
 simp [hlt2, hs, hs2, St.d_eq]
 refine aCall_of (ilcheckst_af s (by unfold maxLen; omega)) (by simp) (by simp [Ex.d_eq]) ?_; simp [Ex.d_eq]
 by_cases h0 : stErr s = 0
 ·rw [if_pos h0] at hy
  simp [h0, succ_wrap hlt2 hbl]
  exact hK2 (k + 1) ⟨by omega, hy⟩ (by omega) (Sub.refl _ _ _) 1 (by omega) (by simp) (by simp)
 ·rw [if_neg h0] at hy
  rw [if_neg (by rw [← hy]; exact h0), ← hy] at hx
  subst hx
  simp [h0]
def eCon (n : Int) : Ex := .mk 1 n 0 0 []
def eVar (v : Int) : Ex := .mk 2 0 v 0 []
def eTwo (op : Int) (a b : Ex) : Ex := .mk op 0 0 0 [a, b]
def eOne (op : Int) (a : Ex) : Ex := .mk op 0 0 0 [a]
section
variable (op n v : Int) (a b : Ex)
@[simp] theorem eCon_op : (eCon n).op = 1 := rfl
@[simp] theorem eCon_n : (eCon n).n = n := rfl
@[simp] theorem eCon_v : (eCon n).v = 0 := rfl
@[simp] theorem eCon_wd : (eCon n).wd = 0 := rfl
@[simp] theorem eCon_l : (eCon n).l = [] := rfl
@[simp] theorem eVar_op : (eVar v).op = 2 := rfl
@[simp] theorem eVar_n : (eVar v).n = 0 := rfl
@[simp] theorem eVar_v : (eVar v).v = v := rfl
@[simp] theorem eVar_wd : (eVar v).wd = 0 := rfl
@[simp] theorem eVar_l : (eVar v).l = [] := rfl
@[simp] theorem eTwo_op : (eTwo op a b).op = op := rfl
@[simp] theorem eTwo_n : (eTwo op a b).n = 0 := rfl
@[simp] theorem eTwo_v : (eTwo op a b).v = 0 := rfl
@[simp] theorem eTwo_wd : (eTwo op a b).wd = 0 := rfl
@[simp] theorem eTwo_l : (eTwo op a b).l = [a, b] := rfl
@[simp] theorem eOne_op : (eOne op a).op = op := rfl
@[simp] theorem eOne_n : (eOne op a).n = 0 := rfl
@[simp] theorem eOne_v : (eOne op a).v = 0 := rfl
@[simp] theorem eOne_wd : (eOne op a).wd = 0 := rfl
@[simp] theorem eOne_l : (eOne op a).l = [a] := rfl
@[simp] theorem nodes_con : (eCon n).nodes = 1 := rfl
@[simp] theorem nodes_var : (eVar v).nodes = 1 := rfl
end
def strs (xs : List ByteArray) : List (List D) := xs.map fun x => [.v (.string x)]
@[simp] theorem strs_nil : strs [] = [] := rfl
@[simp] theorem strs_cons (x : ByteArray) (xs : List ByteArray) : strs (x :: xs) = [.v (.string x)] :: strs xs := rfl
mutual
def nodI : Ex → Int → Int → Int
 | .mk _ _ _ _ l, m, n => if m < 1 ∨ n < 1 ∨ 4 < l.length then -1 else nodL l (m - 1) (n - 1)
def nodL : List Ex → Int → Int → Int
 | [], _, n => n
 | x :: l, m, n => if 0 ≤ n then nodL l m (nodI x m n) else n
end
theorem nodI_eq (e : Ex) (m n : Int) : nodI e m n = if m < 1 ∨ n < 1 ∨ 4 < e.l.length then -1 else nodL e.l (m - 1) (n - 1) := by
 cases e
 rw [nodI]
 rfl
theorem nodL_neg (l : List Ex) (m n : Int) (h : n < 0) : nodL l m n = n := by
 cases l with
 | nil => rw [nodL]
 | cons x l => rw [nodL, if_neg (by omega)]
mutual
theorem nodI_le : ∀ (e : Ex) (m n : Int), -1 ≤ n → -1 ≤ nodI e m n ∧ (nodI e m n = -1 ∨ nodI e m n + e.nodes = n ∧ e.depth ≤ m)
 | .mk o k v w l, m, n, h => by
   rw [nodI]
   split
   ·exact ⟨by omega, .inl rfl⟩
   ·rename_i hc
    have := nodL_le l (m - 1) (n - 1) (by omega)
    refine ⟨this.1, ?_⟩
    simp only [Ex.nodes, Ex.depth]
    rcases this.2 with h1 | h1
    ·exact .inl h1
    ·right
     omega
theorem nodL_le : ∀ (l : List Ex) (m n : Int), -1 ≤ n → -1 ≤ nodL l m n ∧ (nodL l m n = -1 ∨ nodL l m n + Ex.nodess l = n ∧ (Ex.depths l : Int) ≤ max m 0)
 | [], m, n, h => by
   rw [nodL]
   refine ⟨h, .inr ⟨by simp [Ex.nodess], by simp only [Ex.depths]; omega⟩⟩
 | x :: l, m, n, h => by
   rw [nodL]
   split
   ·have h1 := nodI_le x m n h
    have h2 := nodL_le l m (nodI x m n) h1.1
    refine ⟨h2.1, ?_⟩
    simp only [Ex.nodess, Ex.depths]
    rcases h2.2 with h3 | h3
    ·exact .inl h3
    ·rcases h1.2 with h4 | h4
     ·left
      rw [h4]
      exact nodL_neg l m _ (by omega)
     ·right
      omega
   ·exact ⟨h, .inl (by omega)⟩
end
theorem nodes_af : ∀ (e : Ex) (m n : Int), -1000000 ≤ m → m ≤ 1000000 → -1 ≤ n → n ≤ 1000000 → AF Tryz.prog 42 [exA e, aI .i64 m, aI .i64 n] (aI .i64 (nodI e m n)) := by
 intro e
 induction e using Ex.ind with
 | h e ih =>
 intro m n hm1 hm2 hn1 hn2
 refine af_of Tryz.func42 rfl (by kernel_rfl) (by simp [Tryz.ntmps42]) fun _ => ?_
 rw [nodI_eq]
 by_cases h1 : m < 1
 ·simp [Tryz.f42, h1]
 by_cases h2 : n < 1
 ·simp [Tryz.f42, h1, h2]
 by_cases h3 : 4 < e.l.length
 ·simp [Tryz.f42, h1, h2, show (4 : Int) < e.l.length by omega, h3]
 simp [Tryz.f42, h1, h2, h3, show ¬ ((4 : Int) < e.l.length) by omega]
 obtain ⟨R, hR⟩ : ∃ R, nodL e.l (m - 1) (n - 1) = R := ⟨_, rfl⟩
 rw [hR]
 refine aLoop_of (α := Nat) (fun i g A => i ≤ e.l.length ∧ A = [⟨0, true, 94, 5, [[aI .i64 e.op, aI .u32 e.n, aI .i64 e.v, aI .i64 e.wd, .d (.sl 5 (Ex.ds e.l))]]⟩] ∧ g 3 = .ptr 0 0 0 0 ∧ g 8 = aI .i64 i ∧ g 1 = aI .i64 m ∧
  ∃ c : Int, g 7 = aI .i64 c ∧ -1 ≤ c ∧ c ≤ 1000000 ∧ nodL (e.l.drop i) (m - 1) c = R) (fun i => e.l.length - i) 0 (Sub.refl _ _ _)
  ⟨by omega, by simp, by simp, by simp, by simp, n - 1, by simp [i64w (n := n - 1) (by omega)], by omega, by omega, by simpa using hR⟩ ?_
 rintro i g A ⟨hi, rfl, g3, g8, g1, c, g7, hc1, hc2, hcR⟩ K hK
 rcases Nat.lt_or_ge i e.l.length with hlt | hge
 case inr =>
  obtain rfl : i = e.l.length := by omega
  simp at hcR
  rw [nodL] at hcR
  subst hcR
  simp [g3, g8, g7]
 by_cases hc : 0 ≤ c
 case neg =>
  rw [nodL_neg _ _ _ (by omega)] at hcR
  subst hcR
  simp [g3, g8, g7, hlt, hc]
 obtain ⟨x, hx⟩ : ∃ x, e.l[i]? = some x := ⟨_, gEG hlt⟩
 have hx' := (gSI.1 hx).2
 have hd : e.l.drop i = x :: e.l.drop (i + 1) := by rw [List.drop_eq_getElem_cons hlt, hx']
 rw [hd, nodL, if_pos hc] at hcR
 simp [g3, g8, g7, g1, hlt, hc, hx, hx', Ex.d_eq, i64w (n := m - 1) (by omega)]
 have hb := nodI_le x (m - 1) c hc1
 have := Ex.nodes_pos x
 refine aCall_of (ih x (gMO hx) (m - 1) c (by omega) (by omega) hc1 hc2) (by simp) (by simp) ?_
 simp [g8, i64w (n := (i : Int) + 1) (by omega)]
 refine hK (i + 1) _ _ _ _ (Sub.refl _ _ _) ⟨by omega, by simp [Ex.d_eq], by simp [g3], by simp, by simp [g1], nodI x (m - 1) c, by simp, hb.1, by omega, hcR⟩ (by omega)
namespace Ex
def x (e : Ex) : Ex := e.l.getD 0 (eCon 0)
def y (e : Ex) : Ex := e.l.getD 1 (eCon 0)
end Ex
section
variable (op n v w : Int) (a b : Ex) (l : List Ex)
@[simp] theorem x_two : (eTwo op a b).x = a := rfl
@[simp] theorem y_two : (eTwo op a b).y = b := rfl
@[simp] theorem x_one : (eOne op a).x = a := rfl
@[simp] theorem x_mk : (Ex.mk op n v w (a :: l)).x = a := rfl
@[simp] theorem y_mk : (Ex.mk op n v w (a :: b :: l)).y = b := rfl
end
theorem form_all {e : Ex} (h : formB e = true) : okE e.op e.n e.v e.wd e.l.length = true ∧ ∀ x ∈ e.l, formB x = true := by
 rw [formB_eq, Bool.and_eq_true, List.all_eq_true] at h
 exact h
theorem okE_con {n v w : Int} {k : Nat} : okE 1 n v w k = true ↔ v = 0 ∧ w = 0 ∧ k = 0 := by simp [okE, and_assoc]
theorem okE_var {n v w : Int} {k : Nat} : okE 2 n v w k = true ↔ n = 0 ∧ w = 0 ∧ k = 0 ∧ 0 ≤ v ∧ v < 65536 := by simp [okE, and_assoc]
theorem okE_two {op n v w : Int} {k : Nat} (h3 : 3 ≤ op) (h15 : op ≤ 15) : okE op n v w k = true ↔ n = 0 ∧ v = 0 ∧ w = 0 ∧ k = 2 := by
 unfold okE
 rw [if_neg (by omega), if_neg (by omega), if_pos ⟨h3, h15⟩]
 simp [and_assoc]
theorem okE_one {op n v w : Int} {k : Nat} (ho : op = 16 ∨ op = 17) : okE op n v w k = true ↔ n = 0 ∧ v = 0 ∧ w = 0 ∧ k = 1 := by
 rcases ho with rfl | rfl <;> simp [okE, and_assoc]
theorem okE_load {n v w : Int} {k : Nat} : okE 18 n v w k = true ↔ n = 0 ∧ v = 0 ∧ (w = 1 ∨ w = 2 ∨ w = 4) ∧ k = 1 := by simp [okE, and_assoc, or_assoc]
theorem okE_sext {n v w : Int} {k : Nat} : okE 19 n v w k = true ↔ n = 0 ∧ v = 0 ∧ (w = 1 ∨ w = 2) ∧ k = 1 := by simp [okE, and_assoc]
theorem okE_no {op n v w : Int} {k : Nat} (h : op < 1 ∨ 19 < op) : okE op n v w k = false := by
 unfold okE
 rw [if_neg (by omega), if_neg (by omega), if_neg (by omega), if_neg (by omega), if_neg (by omega), if_neg (by omega)]
theorem form_con {e : Ex} (h : formB e = true) (ho : e.op = 1) : e = eCon e.n := by
 have h1 := (form_all h).1
 rw [ho, okE_con] at h1
 obtain ⟨op, n, v, w, l⟩ := e
 simp only [Ex.op_mk, Ex.v_mk, Ex.wd_mk, Ex.l_mk] at h1 ho
 obtain ⟨rfl, rfl, hl⟩ := h1
 subst ho
 match l, hl with
 | [], _ => rfl
theorem form_var {e : Ex} (h : formB e = true) (ho : e.op = 2) : e = eVar e.v ∧ 0 ≤ e.v ∧ e.v < 65536 := by
 have h1 := (form_all h).1
 rw [ho, okE_var] at h1
 obtain ⟨op, n, v, w, l⟩ := e
 simp only [Ex.op_mk, Ex.n_mk, Ex.v_mk, Ex.wd_mk, Ex.l_mk] at h1 ho
 obtain ⟨rfl, rfl, hl, h2, h3⟩ := h1
 subst ho
 match l, hl with
 | [], _ => exact ⟨rfl, h2, h3⟩
theorem form_two {e : Ex} (h : formB e = true) (h3 : 3 ≤ e.op) (h15 : e.op ≤ 15) : ∃ a b, e = eTwo e.op a b ∧ formB a = true ∧ formB b = true := by
 obtain ⟨h1, h2⟩ := form_all h
 rw [okE_two h3 h15] at h1
 obtain ⟨op, n, v, w, l⟩ := e
 simp only [Ex.n_mk, Ex.v_mk, Ex.wd_mk, Ex.l_mk] at h1 h2
 obtain ⟨rfl, rfl, rfl, hl⟩ := h1
 match l, hl with
 | [a, b], _ => exact ⟨a, b, rfl, h2 a (by simp), h2 b (by simp)⟩
theorem form_one {e : Ex} (h : formB e = true) (ho : e.op = 16 ∨ e.op = 17) : ∃ a, e = eOne e.op a ∧ formB a = true := by
 obtain ⟨h1, h2⟩ := form_all h
 rw [okE_one ho] at h1
 obtain ⟨op, n, v, w, l⟩ := e
 simp only [Ex.n_mk, Ex.v_mk, Ex.wd_mk, Ex.l_mk] at h1 h2
 obtain ⟨rfl, rfl, rfl, hl⟩ := h1
 match l, hl with
 | [a], _ => exact ⟨a, rfl, h2 a (by simp)⟩
theorem form_wide {e : Ex} (h : formB e = true) (ho : e.op = 18 ∨ e.op = 19) : ∃ a, e = .mk e.op 0 0 e.wd [a] ∧ formB a = true ∧ (e.wd = 1 ∨ e.wd = 2 ∨ e.wd = 4 ∧ e.op = 18) := by
 obtain ⟨h1, h2⟩ := form_all h
 have h1' : e.n = 0 ∧ e.v = 0 ∧ (e.wd = 1 ∨ e.wd = 2 ∨ e.wd = 4 ∧ e.op = 18) ∧ e.l.length = 1 := by
  rcases ho with ho | ho
  ·rw [ho, okE_load] at h1; omega
  ·rw [ho, okE_sext] at h1; omega
 obtain ⟨op, n, v, w, l⟩ := e
 simp only [Ex.op_mk, Ex.n_mk, Ex.v_mk, Ex.wd_mk, Ex.l_mk] at h1' h2
 obtain ⟨rfl, rfl, hw, hl⟩ := h1'
 match l, hl with
 | [a], _ => exact ⟨a, rfl, h2 a (by simp), hw⟩
theorem form_op {e : Ex} (h : formB e = true) : 1 ≤ e.op ∧ e.op ≤ 19 := by
 have h1 := (form_all h).1
 rcases Int.lt_or_le e.op 1 with h2 | h2
 ·rw [okE_no (.inl h2)] at h1; cases h1
 ·rcases Int.lt_or_le 19 e.op with h3 | h3
  ·rw [okE_no (.inr h3)] at h1; cases h1
  ·exact ⟨h2, h3⟩
def wOp (op : Int) : Nat := if op = 3 ∨ op = 4 ∨ op = 9 ∨ op = 10 ∨ op = 11 then 2 else 1
mutual
def Ex.wt : Ex → Nat
 | .mk op _ _ _ l => wOp op + wts l
def wts : List Ex → Nat
 | [] => 0
 | e :: l => e.wt + wts l
end
@[simp] theorem wt_con (n : Int) : (eCon n).wt = 1 := rfl
theorem u32e (n : Int) : IntKind.u32.wrap n = n % 4294967296 := by simp [IntKind.wrap, IntKind.signed, IntKind.bits]
def sa (y : Int) : Nat := (y % 32).toNat
def R32 (x : Int) : Prop := 0 ≤ x ∧ x < 4294967296
inductive OkN : Ex → Prop where
 | mk {e : Ex} : R32 e.n → (∀ x ∈ e.l, OkN x) → OkN e
theorem OkN.n {e : Ex} (h : OkN e) : R32 e.n := by cases h; assumption
theorem OkN.l {e : Ex} (h : OkN e) : ∀ x ∈ e.l, OkN x := by cases h; assumption
theorem r32_0 : R32 0 := ⟨by omega, by omega⟩
theorem r32_mod (n : Int) : R32 (n % 4294967296) := ⟨Int.emod_nonneg _ (by omega), Int.emod_lt_of_pos _ (by omega)⟩
theorem r32_wrap (n : Int) : R32 (IntKind.u32.wrap n) := by rw [u32e]; exact r32_mod n
abbrev aU (x : Int) : AV := aI .u32 x
def shI (y : Int) : Int := andI .u32 y 31
theorem bshl_af (x y : Int) : AF Tryz.prog 171 [aU x, aU y] (aU (shlI .u32 x (shI y))) := by
 refine af_of Tryz.func171 rfl (by kernel_rfl) (by simp [Tryz.ntmps171]) fun _ => ?_
 simp [Tryz.f171, shI]
theorem bshr_af (x y : Int) : AF Tryz.prog 172 [aU x, aU y] (aU (shrI .u32 x (shI y))) := by
 refine af_of Tryz.func172 rfl (by kernel_rfl) (by simp [Tryz.ntmps172]) fun _ => ?_
 simp [Tryz.f172, shI]
theorem bsar_af (x y : Int) : AF Tryz.prog 173 [aU x, aU y] (aU (IntKind.u32.wrap (shrI .i32 (IntKind.i32.wrap x) (shI y)))) := by
 refine af_of Tryz.func173 rfl (by kernel_rfl) (by simp [Tryz.ntmps173]) fun _ => ?_
 simp [Tryz.f173, shI]
theorem btruth_af (b : Bool) : AF Tryz.prog 174 [aB b] (aU (if b then 1 else 0)) := by
 refine af_of Tryz.func174 rfl (by kernel_rfl) (by simp [Tryz.ntmps174]) fun _ => ?_
 simp [Tryz.f174]
 cases b <;> simp
def appL (x y : Int) : List Int := [IntKind.u32.wrap (x + y), IntKind.u32.wrap (x - y), IntKind.u32.wrap (x * y), andI .u32 x y, orI .u32 x y, xorI .u32 x y, shlI .u32 x (shI y), shrI .u32 x (shI y), IntKind.u32.wrap (shrI .i32 (IntKind.i32.wrap x) (shI y)),
 if x = y then 1 else 0, if x = y then 0 else 1, if IntKind.i32.wrap x < IntKind.i32.wrap y then 1 else 0, if x < y then 1 else 0]
def appI (op : Nat) (x y : Int) : Int := (appL x y).getD (op - 3) 0
theorem bapply_af (op : Nat) (x y : Int) (h : 3 ≤ op ∧ op ≤ 15) : AF Tryz.prog 161 [aI .i64 op, aU x, aU y] (.tup [aU (appI op x y), aI .i64 0]) := by
 refine af_of Tryz.func161 rfl (by kernel_rfl) (by simp [Tryz.ntmps161]) fun _ => ?_
 simp [Tryz.f161, show ¬ ((op : Int) < 3) by omega, show ¬ (15 < (op : Int)) by omega]
 refine aCall_of (bshl_af x y) (by simp) (by simp) ?_
 simp
 refine aCall_of (bshr_af x y) (by simp) (by simp) ?_
 simp
 refine aCall_of (bsar_af x y) (by simp) (by simp) ?_
 simp
 refine aCall_of (btruth_af (decide (x = y))) (by simp) (by simp) ?_
 simp
 refine aCall_of (btruth_af (!decide (x = y))) (by simp) (by simp) ?_
 simp
 refine aCall_of (btruth_af (decide (IntKind.i32.wrap x < IntKind.i32.wrap y))) (by simp) (by simp) ?_
 simp
 refine aCall_of (btruth_af (decide (x < y))) (by simp) (by simp) ?_
 simp
 obtain rfl | rfl | rfl | rfl | rfl | rfl | rfl | rfl | rfl | rfl | rfl | rfl | rfl : op = 3 ∨ op = 4 ∨ op = 5 ∨ op = 6 ∨ op = 7 ∨ op = 8 ∨ op = 9 ∨ op = 10 ∨ op = 11 ∨ op = 12 ∨ op = 13 ∨ op = 14 ∨ op = 15 := by omega
 all_goals simp [appI, appL]
def Asc (l : List Int) : Prop := l.Pairwise (· < ·)
theorem asc_ext : ∀ {l m : List Int}, Asc l → Asc m → (∀ v, v ∈ l ↔ v ∈ m) → l = m
 | [], [], _, _, _ => rfl
 | [], b :: m, _, _, h => absurd ((h b).2 (by simp)) (by simp)
 | a :: l, [], _, _, h => absurd ((h a).1 (by simp)) (by simp)
 | a :: l, b :: m, h1, h2, h => by
   obtain ⟨p1, p2⟩ := List.pairwise_cons.1 h1
   obtain ⟨q1, q2⟩ := List.pairwise_cons.1 h2
   have e1 : a = b := by
    have x := (h a).1 (by simp)
    have y := (h b).2 (by simp)
    rcases List.mem_cons.1 x with rfl | x
    ·rfl
    rcases List.mem_cons.1 y with rfl | y
    ·rfl
    have := q1 a x
    have := p1 b y
    omega
   subst e1
   rw [asc_ext p2 q2 fun v => ?_]
   constructor
   ·intro hv
    have := p1 v hv
    rcases List.mem_cons.1 ((h v).1 (by simp [hv])) with rfl | hv
    ·omega
    ·exact hv
   ·intro hv
    have := q1 v hv
    rcases List.mem_cons.1 ((h v).2 (by simp [hv])) with rfl | hv
    ·omega
    ·exact hv
def stsI (m : Int) : List St → Int → Int
 | [], n => n
 | s :: l, n => if 4 < s.e.length ∨ 100 < s.cs.length ∨ nodL s.e m n < 0 then -1 else stsI m l (nodL s.e m n)
def blsI (m : Int) : List Bl → Int → Int
 | [], n => n
 | b :: l, n => if 1100 < b.s.length ∨ stsI m b.s n < 0 then -1 else blsI m l (stsI m b.s n)
def smallG (g : Gr) (m : Int) : Bool := !decide (300 < g.b.length) && decide (0 ≤ blsI m g.b 20000)
theorem stsI_le (m : Int) : ∀ (l : List St) (n : Int), 0 ≤ n → stsI m l n ≤ n ∧ (0 ≤ stsI m l n → ∀ s ∈ l, s.e.length ≤ 4 ∧ s.cs.length ≤ 100 ∧ (Ex.nodess s.e : Int) ≤ n ∧ (Ex.depths s.e : Int) ≤ max m 0)
 | [], n, h => by simp [stsI]
 | s :: l, n, h => by
   simp only [stsI]
   split
   ·exact ⟨by omega, fun h => by omega⟩
   ·rename_i hc
    have h1 := nodL_le s.e m n (by omega)
    have h2 := stsI_le m l (nodL s.e m n) (by omega)
    have hp := Ex.nodess_len s.e
    refine ⟨by omega, fun h0 x hx => ?_⟩
    rcases List.mem_cons.1 hx with rfl | hx
    ·omega
    ·have := h2.2 h0 x hx
     omega
theorem blsI_le (m : Int) : ∀ (l : List Bl) (n : Int), 0 ≤ n → 0 ≤ blsI m l n → ∀ b ∈ l, b.s.length ≤ 1100 ∧ ∀ s ∈ b.s, s.e.length ≤ 4 ∧ s.cs.length ≤ 100 ∧ (Ex.nodess s.e : Int) ≤ n ∧ (Ex.depths s.e : Int) ≤ max m 0
 | [], n, h, _ => by simp
 | b :: l, n, h, h0 => by
   simp only [blsI] at h0
   split at h0
   ·omega
   ·rename_i hc
    have h1 := stsI_le m b.s n h
    intro x hx
    rcases List.mem_cons.1 hx with rfl | hx
    ·exact ⟨by omega, fun s hs => by have := h1.2 (by omega) s hs; omega⟩
    ·have := blsI_le m l (stsI m b.s n) (by omega) h0 x hx
     exact ⟨this.1, fun s hs => by have := this.2 s hs; omega⟩
theorem smallG_fit {g : Gr} {m : Int} (h : smallG g m = true) : GrFit g ∧ g.b.length ≤ 300 ∧ ∀ b ∈ g.b, b.s.length ≤ 1100 ∧ ∀ s ∈ b.s, s.e.length ≤ 4 ∧ s.cs.length ≤ 100 ∧ Ex.nodess s.e ≤ 20000 ∧ (Ex.depths s.e : Int) ≤ max m 0 := by
 simp [smallG] at h
 have := blsI_le m g.b 20000 (by omega) h.2
 refine ⟨⟨by omega, fun b hb => ?_⟩, h.1, fun b hb => ?_⟩
 ·have h1 := this b hb
  exact ⟨by omega, fun s hs => by have := h1.2 s hs; omega⟩
 ·have h1 := this b hb
  exact ⟨by omega, fun s hs => by have := h1.2 s hs; omega⟩
theorem smallg_af (g : Gr) (m : Int) (h1 : -1000000 ≤ m) (h2 : m ≤ 1000000) : AF Tryz.prog 16 [grV g, aI .i64 m] (aB (smallG g m)) := by
 obtain ⟨R, hR⟩ : ∃ R, smallG g m = R := ⟨_, rfl⟩
 rw [hR]
 rw [smallG] at hR
 refine af_of Tryz.func16 rfl (by kernel_rfl) (by simp [Tryz.ntmps16]) fun _ => ?_; simp [Tryz.f16, Ex.d_eq]
 by_cases h3 : 300 < g.b.length
 ·simp [h3] at hR
  subst hR
  simp [show (300 : Int) < g.b.length by omega]
 have hl : g.b.length ≤ maxLen := by unfold maxLen; omega
 simp [h3] at hR
 simp [show ¬ (300 : Int) < g.b.length by omega]
 refine aLoop_st (α := Nat × Int) (fun p => [(2, .ptr 0 0 0 0), (1, aI .i64 m), (5, aI .i64 p.2), (6, aI .i64 p.1)]) (fun _ => [gB g])
  (fun p => p.1 ≤ g.b.length ∧ 0 ≤ p.2 ∧ p.2 ≤ 20000 ∧ decide (0 ≤ blsI m (g.b.drop p.1) p.2) = R) (fun p => g.b.length - p.1) (0, 20000) (Sub.refl _ _ _) 1 (by omega) (by simp) (by simp) ⟨by omega, by omega, by omega, by simpa using hR⟩ ?_
 rintro ⟨i, n⟩ ⟨hi, hn0, hn1, hx⟩ K hK
 simp only at hi hn0 hn1 hx hK ⊢
 rcases Nat.lt_or_ge i g.b.length with hlt | hge
 case inr =>
  obtain rfl : i = g.b.length := by omega
  simp [blsI, hn0] at hx
  subst hx
  simp
 obtain ⟨b, hb⟩ : ∃ b, g.b[i]? = some b := ⟨_, gEG hlt⟩
 have hb2 := (gSI.1 hb).2
 have hdrop : g.b.drop i = b :: g.b.drop (i + 1) := by rw [List.drop_eq_getElem_cons hlt, hb2]
 rw [hdrop, blsI] at hx
 simp [hlt, hb, hb2, Bl.d_eq]
 by_cases h4 : 1100 < b.s.length
 ·rw [if_pos (.inl h4)] at hx
  simp at hx
  subst hx
  simp [show (1100 : Int) < b.s.length by omega]
 have hbl : b.s.length ≤ maxLen := by unfold maxLen; omega
 simp [show ¬ (1100 : Int) < b.s.length by omega]
 have hle := stsI_le m b.s n hn0
 refine aLoop_st (α := Nat × Int) (fun p => [(2, .ptr 0 0 0 0), (1, aI .i64 m), (5, aI .i64 p.2), (6, aI .i64 i), (7, aI .i64 p.1)]) (fun _ => [gB g])
  (fun p => p.1 ≤ b.s.length ∧ 0 ≤ p.2 ∧ p.2 ≤ 20000 ∧ stsI m (b.s.drop p.1) p.2 = stsI m b.s n) (fun p => b.s.length - p.1) (0, n) (Sub.refl _ _ _) 1 (by omega) (by simp) (by simp) ⟨by omega, by omega, by omega, by simp⟩ ?_
 rintro ⟨k, n2⟩ ⟨hk, hk0, hk1, hy⟩ K2 hK2
 simp only at hk hk0 hk1 hy hK2 ⊢
 rcases Nat.lt_or_ge k b.s.length with hlt2 | hge2
 case inr =>
  obtain rfl : k = b.s.length := by omega
  simp [stsI] at hy
  rw [← hy, if_neg (by omega)] at hx
  simp [hlt, hb, hb2, Bl.d_eq, succ_wrap hlt hl]
  exact hK (i + 1, n2) ⟨by simp only; omega, hk0, hk1, hx⟩ (by simp only; omega) (Sub.refl _ _ _) 1 (by omega) (by simp) (by simp)
 obtain ⟨s, hs⟩ : ∃ s, b.s[k]? = some s := ⟨_, gEG hlt2⟩
 have hs2 := (gSI.1 hs).2
 have hdrop2 : b.s.drop k = s :: b.s.drop (k + 1) := by rw [List.drop_eq_getElem_cons hlt2, hs2]
 rw [hdrop2, stsI] at hy
 simp [hlt, hb, hb2, Bl.d_eq, hlt2, hs, hs2, St.d_eq]
 have hno : stsI m b.s n = -1 → R = false := fun h => by
  rw [h, if_pos (.inr (by omega))] at hx
  simpa using hx.symm
 by_cases h5 : 4 < s.e.length
 ·rw [if_pos (.inl h5)] at hy
  have := hno hy.symm
  subst this
  simp [show (4 : Int) < s.e.length by omega]
 simp [show ¬ (4 : Int) < s.e.length by omega]
 by_cases h6 : 100 < s.cs.length
 ·rw [if_pos (.inr (.inl h6))] at hy
  have := hno hy.symm
  subst this
  simp [show (100 : Int) < s.cs.length by omega]
 simp [show ¬ (100 : Int) < s.cs.length by omega]
 have hel : s.e.length ≤ maxLen := by unfold maxLen; omega
 refine aLoop_st (α := Nat × Int) (fun p => [(2, .ptr 0 0 0 0), (1, aI .i64 m), (5, aI .i64 p.2), (6, aI .i64 i), (7, aI .i64 k), (8, .ptr 1 0 0 0), (9, aI .i64 p.1)])
  (fun _ => [gB g, ⟨0, true, 68, 8, [[aI .i64 s.op, aI .i64 s.va, aI .i64 s.wd, aI .i64 s.nx, aI .i64 s.el, aI .u32 s.tg, .d (.sl 5 (Ex.ds s.e)), .d (.sl 1 (i64s s.cs))]]⟩])
  (fun p => p.1 ≤ s.e.length ∧ 0 ≤ p.2 ∧ p.2 ≤ 20000 ∧ nodL (s.e.drop p.1) m p.2 = nodL s.e m n2) (fun p => s.e.length - p.1) (0, n2) (Sub.refl _ _ _) 2 (by omega) (by simp) (by simp) ⟨by omega, by omega, by omega, by simp⟩ ?_
 rintro ⟨q, n3⟩ ⟨hq, hq0, hq1, hz⟩ K3 hK3
 simp only at hq hq0 hq1 hz hK3 ⊢
 rcases Nat.lt_or_ge q s.e.length with hlt3 | hge3
 case inr =>
  obtain rfl : q = s.e.length := by omega
  simp [nodL] at hz
  rw [← hz, if_neg (by omega)] at hy
  simp [succ_wrap hlt2 hbl]
  exact hK2 (k + 1, n3) ⟨by simp only; omega, hq0, hq1, hy⟩ (by simp only; omega) (Sub.refl _ _ _) 1 (by omega) (by simp) (by simp)
 obtain ⟨x, hxi⟩ : ∃ x, s.e[q]? = some x := ⟨_, gEG hlt3⟩
 have hx2 := (gSI.1 hxi).2
 have hdrop3 : s.e.drop q = x :: s.e.drop (q + 1) := by rw [List.drop_eq_getElem_cons hlt3, hx2]
 rw [hdrop3, nodL, if_pos hq0] at hz
 have hnod := nodI_le x m n3 (by omega)
 simp [hlt3, hxi, hx2, Ex.d_eq]
 refine aCall_of (nodes_af x m n3 h1 h2 (by omega) (by omega)) (by simp) (by simp [Ex.d_eq]) ?_; simp [Ex.d_eq]
 by_cases h7 : nodI x m n3 < 0
 ·rw [nodL_neg _ _ _ h7] at hz
  rw [if_pos (.inr (.inr (by rw [← hz]; exact h7)))] at hy
  have := hno hy.symm
  subst this
  simp [h7]
 ·simp [h7, succ_wrap hlt3 hel]
  exact hK3 (q + 1, nodI x m n3) ⟨by simp only; omega, by simp only; omega, by simp only; omega, hz⟩ (by simp only; omega) (Sub.refl _ _ _) 2 (by omega) (by simp) (by simp)
theorem q23samest_af (s : St) (h1 : s.e.length ≤ maxLen) (h2 : s.cs.length ≤ maxLen) : AF Tryz.prog 66 [stV s, stV s] (aB true) := by
 refine af_of Tryz.func66 rfl (by kernel_rfl) (by simp [Tryz.ntmps66]) fun _ => ?_; simp [Tryz.f66, Ex.d_eq]
 refine aLoop_st (fun i : Nat => [(2, .ptr 0 0 0 0), (3, .ptr 1 0 0 0), (5, aI .i64 i)]) (fun _ => [⟨0, true, 68, 8, [s.d.map AV.d]⟩, ⟨0, true, 68, 8, [s.d.map AV.d]⟩])
  (fun i => i ≤ s.e.length) (fun i => s.e.length - i) 0 (Sub.refl _ _ _) 2 (by omega) (by simp [St.d_eq]) (by simp) (by omega) ?_
 rintro i hi K hK
 rcases Nat.lt_or_ge i s.e.length with hlt | hge
 case inl =>
  obtain ⟨y, hy⟩ : ∃ y, s.e[i]? = some y := ⟨_, gEG hlt⟩
  have hy2 := (gSI.1 hy).2
  have c := refsame_af y y
  rw [sameB_refl] at c
  simp [hlt, St.d_eq]
  refine adraw [] (by kernel_rfl) (by kernel_rfl) (by kernel_rfl) (by kernel_rfl) ?_; simp [Ex.d_eq]
  simp [hlt, hy, hy2, Ex.d_eq, St.d_eq]
  refine adC_of c (by simp) trivial (by simp) (by simp [Ex.d_eq]) ?_; simp [Ex.d_eq]
  simp [succ_wrap hlt h1]
  exact hK (i + 1) (by omega) (by omega) (Sub.refl _ _ _) 2 (by omega) (by simp [St.d_eq]) (by simp)
 obtain rfl : i = s.e.length := by omega
 simp [St.d_eq]
 clear hK K
 refine aLoop_st (fun i : Nat => [(2, .ptr 0 0 0 0), (3, .ptr 1 0 0 0), (6, aI .i64 i)]) (fun _ => [⟨0, true, 68, 8, [s.d.map AV.d]⟩, ⟨0, true, 68, 8, [s.d.map AV.d]⟩])
  (fun i => i ≤ s.cs.length) (fun i => s.cs.length - i) 0 (Sub.refl _ _ _) 2 (by omega) (by simp [St.d_eq]) (by simp) (by omega) ?_
 rintro i hi K hK
 rcases Nat.lt_or_ge i s.cs.length with hlt | hge
 case inl =>
  obtain ⟨y, hy⟩ : ∃ y, s.cs[i]? = some y := ⟨_, gEG hlt⟩
  have hy2 := (gSI.1 hy).2
  simp [hlt, St.d_eq]
  refine adraw [] (by kernel_rfl) (by kernel_rfl) (by kernel_rfl) (by kernel_rfl) ?_; simp [Ex.d_eq]
  simp [hlt, hy, hy2, St.d_eq]
  simp [succ_wrap hlt h2]
  exact hK (i + 1) (by omega) (by omega) (Sub.refl _ _ _) 2 (by omega) (by simp [St.d_eq]) (by simp)
 obtain rfl : i = s.cs.length := by omega
 simp [St.d_eq]
theorem q23samebl_af (b : Bl) (h0 : b.s.length ≤ maxLen) (h : ∀ s ∈ b.s, s.e.length ≤ maxLen ∧ s.cs.length ≤ maxLen) : AF Tryz.prog 28 [blV b, blV b] (aB true) := by
 refine af_of Tryz.func28 rfl (by kernel_rfl) (by simp [Tryz.ntmps28]) fun _ => ?_; simp [Tryz.f28, Ex.d_eq]
 refine aLoop_st (fun i : Nat => [(2, .ptr 0 0 0 0), (3, .ptr 1 0 0 0), (5, aI .i64 i)]) (fun _ => [bB b, bB b])
  (fun i => i ≤ b.s.length) (fun i => b.s.length - i) 0 (Sub.refl _ _ _) 2 (by omega) (by simp) (by simp) (by omega) ?_
 rintro i hi K hK
 rcases Nat.lt_or_ge i b.s.length with hlt | hge
 case inl =>
  obtain ⟨s, hs⟩ : ∃ s, b.s[i]? = some s := ⟨_, gEG hlt⟩
  have hs2 := (gSI.1 hs).2
  obtain ⟨g1, g2⟩ := h s (gMO hs)
  simp [hlt]
  refine adraw [] (by kernel_rfl) (by kernel_rfl) (by kernel_rfl) (by kernel_rfl) ?_; simp [Ex.d_eq]
  simp [hlt, hs, hs2, St.d_eq]
  refine adC_of (q23samest_af s g1 g2) (by simp) trivial (by simp) (by simp [Ex.d_eq]) ?_; simp [Ex.d_eq]
  simp [succ_wrap hlt h0]
  exact hK (i + 1) (by omega) (by omega) (Sub.refl _ _ _) 2 (by omega) (by simp) (by simp)
 obtain rfl : i = b.s.length := by omega
 simp
theorem q23samegr_af (g : Gr) (h0 : g.b.length ≤ maxLen) (h : ∀ b ∈ g.b, b.s.length ≤ maxLen ∧ ∀ s ∈ b.s, s.e.length ≤ maxLen ∧ s.cs.length ≤ maxLen) : AF Tryz.prog 10 [grV g, grV g] (aB true) := by
 refine af_of Tryz.func10 rfl (by kernel_rfl) (by simp [Tryz.ntmps10]) fun _ => ?_; simp [Tryz.f10, Ex.d_eq]
 refine aLoop_st (fun i : Nat => [(2, .ptr 0 0 0 0), (3, .ptr 1 0 0 0), (5, aI .i64 i)]) (fun _ => [gB g, gB g])
  (fun i => i ≤ g.b.length) (fun i => g.b.length - i) 0 (Sub.refl _ _ _) 2 (by omega) (by simp) (by simp) (by omega) ?_
 rintro i hi K hK
 rcases Nat.lt_or_ge i g.b.length with hlt | hge
 case inl =>
  obtain ⟨b, hb⟩ : ∃ b, g.b[i]? = some b := ⟨_, gEG hlt⟩
  have hb2 := (gSI.1 hb).2
  obtain ⟨g1, g2⟩ := h b (gMO hb)
  simp [hlt]
  refine adraw [] (by kernel_rfl) (by kernel_rfl) (by kernel_rfl) (by kernel_rfl) ?_; simp [Ex.d_eq]
  simp [hlt, hb, hb2, Bl.d_eq]
  refine adC_of (q23samebl_af b g1 g2) (by simp) trivial (by simp) (by simp [Ex.d_eq]) ?_; simp [Ex.d_eq]
  simp [succ_wrap hlt h0]
  exact hK (i + 1) (by omega) (by omega) (Sub.refl _ _ _) 2 (by omega) (by simp) (by simp)
 obtain rfl : i = g.b.length := by omega
 simp
theorem fit_len {g : Gr} (h : GrFit g) : g.b.length ≤ maxLen ∧ ∀ b ∈ g.b, b.s.length ≤ maxLen ∧ ∀ s ∈ b.s, s.e.length ≤ maxLen ∧ s.cs.length ≤ maxLen := by
 unfold maxLen
 refine ⟨by have := h.1; omega, fun b hb => ?_⟩
 obtain ⟨h1, h2⟩ := h.2 b hb
 refine ⟨by omega, fun s hs => ?_⟩
 obtain ⟨h3, h4⟩ := h2 s hs
 exact ⟨by omega, by omega⟩
end Go.Proofs.YtagkfkhagjlmpaaGreat
