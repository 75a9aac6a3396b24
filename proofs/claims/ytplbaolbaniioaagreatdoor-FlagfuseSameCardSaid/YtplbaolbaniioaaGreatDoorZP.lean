import Derived.Test.YtplbaolbaniioaaGreatDoorBa
import Derived.Test.YtplbaolbaniioaaGreatDoorFacts
import Derived.Test.YtplbaolbaniioaaGreatDoorAp
import Derived.Test.YtplbaolbaniioaaGreatDoorAn
import Derived.Lib.Join
import Derived.Test.YtplbaolbaniioaaGreatDoorSh
import Derived.Test.YtplbaolbaniioaaGreatDoorAt
set_option linter.all false
namespace Go.Proofs.YtplbaolbaniioaaGreatDoor
open Go.RowKit
def all2 (r : Ex → Ex → Bool) : List Ex → List Ex → Bool
 | [], [] => true
 | a :: l, b :: l' => r a b && all2 r l l'
 | _, _ => false
theorem all2_len {r : Ex → Ex → Bool} : ∀ {l l' : List Ex}, l.length ≠ l'.length → all2 r l l' = false
 | [], [], h => absurd rfl h
 | [], _ :: _, _ => rfl
 | _ :: _, [], _ => rfl
 | a :: l, b :: l', h => by
   simp only [all2]
   rw [all2_len (by simpa using h)]
   simp
theorem all2_get {r : Ex → Ex → Bool} : ∀ {l l' : List Ex}, l.length = l'.length → (all2 r l l' = true ↔ ∀ (i : Nat) (a b : Ex), l[i]? = some a → l'[i]? = some b → r a b = true)
 | [], [], _ => by simp [all2]
 | a :: l, b :: l', h => by
   simp only [all2, Bool.and_eq_true, all2_get (show l.length = l'.length by simpa using h)]
   constructor
   ·rintro ⟨h1, h2⟩ i x y hx hy
    cases i with
    | zero => simp at hx hy; subst hx hy; exact h1
    | succ i => exact h2 i x y (by simpa using hx) (by simpa using hy)
   ·intro h
    exact ⟨h 0 a b rfl rfl, fun i x y hx hy => h (i + 1) x y (by simpa using hx) (by simpa using hy)⟩
 | [], _ :: _, h => by simp at h
 | _ :: _, [], h => by simp at h
theorem equalFunc {f : Nat} {r : Ex → Ex → Bool} (l1 l2 : List Ex) (hf : okF Tryz.prog f = true) (hr : ∀ a ∈ l1, ∀ b ∈ l2, AF Tryz.prog f [exA a, exA b] (aB (r a b))) :
 AF Tryz.prog 76 [.d (.sl 5 (Ex.ds l1)), .d (.sl 5 (Ex.ds l2)), .fn f [] []] (aB (all2 r l1 l2)) := by
 refine af_of Tryz.func76 rfl (by kernel_rfl) (by simp [Tryz.ntmps76]) fun hb => ?_
 have n1 : l1.length ≤ maxLen := by simpa using hb.1.1
 clear hb
 simp [Tryz.f76]
 refine aCond_split (fun hne => ?_) (fun hlen => ?_)
 ·simp
  rw [all2_len (by simp at hne; omega)]
 have hlen : l1.length = l2.length := by simp at hlen; omega
 simp
 refine aLoop_of (α := Nat) (fun i e A => i ≤ l1.length ∧ A = [] ∧ e 17 = aI .i64 i ∧ e 15 = .d (.sl 5 (Ex.ds l1)) ∧ e 16 = aI .i64 l1.length ∧ e 1 = .d (.sl 5 (Ex.ds l2)) ∧ e 2 = .fn f [] [] ∧
  ∀ (j : Nat) (a b : Ex), j < i → l1[j]? = some a → l2[j]? = some b → r a b = true) (fun i => l1.length - i) 0 (Sub.refl _ _ _) ⟨by omega, rfl, by simp, by simp, by simp, by simp, by simp, by intro j a b hj; omega⟩ ?_
 rintro i e A ⟨hi, rfl, e17, e15, e16, e1, e2, hall⟩ K hK
 simp [e17, e16]
 refine aCond_split (fun hlt => ?_) (fun hge => ?_)
 ·simp at hlt
  have hi1 := gEG hlt
  have hi2 := gEG (show i < l2.length by omega)
  simp [e17, e15, e16, e1, e2, hi1, hi2, Ex.d_eq]
  refine aCall_of (hr _ (gMO hi1) _ (gMO hi2)) hf (by simp) ?_
  simp
  refine aCond_split (fun hf => ?_) (fun ht => ?_)
  ·simp at hf
   simp
   cases h : all2 r l1 l2 with
   | false => rfl
   | true => rw [(all2_get hlen).1 h i _ _ hi1 hi2] at hf; cases hf
  ·simp at ht
   simp [e17, succ_wrap hlt n1]
   refine hK (i + 1) _ _ _ _ (Sub.take 0 (Nat.le_refl _)) ⟨by omega, by simp, by simp, by simp [e15], by simp [e16], by simp [e1], by simp [e2], ?_⟩ (by omega)
   intro j a b hj ha hb
   rcases Nat.lt_or_ge j i with h | h
   ·exact hall j a b h ha hb
   ·obtain rfl : j = i := by omega
    rw [hi1] at ha
    rw [hi2] at hb
    simp only [Option.some.injEq] at ha hb
    subst ha hb
    exact ht
 ·simp at hge
  simp
  refine (all2_get hlen).2 fun j a b ha hb => hall j a b ?_ ha hb
  have := (gSI.1 ha).1
  omega
def sameB : Ex → Ex → Bool
 | .mk o n v w l, .mk o' n' v' w' l' => o == o' && n == n' && v == v' && w == w' && sames l l'
where sames : List Ex → List Ex → Bool
 | [], [] => true
 | a :: l, b :: l' => sameB a b && sames l l'
 | _, _ => false
theorem sameB_eq (a b : Ex) : sameB a b = (a.op == b.op && a.n == b.n && a.v == b.v && a.wd == b.wd && all2 sameB a.l b.l) := by
 have h : ∀ l l', sameB.sames l l' = all2 sameB l l' := by
  intro l
  induction l with
  | nil => intro l'; cases l' <;> rfl
  | cons a l ih => intro l'; cases l' with
    | nil => rfl
    | cons b l' => simp only [sameB.sames, all2, ih]
 cases a; cases b
 simp only [sameB, h]
 rfl
theorem same_af : ∀ (a b : Ex), AF Tryz.prog 46 [exA a, exA b] (aB (sameB a b)) := by
 intro a
 induction a using Ex.ind with
 | h a ih =>
   intro b
   rw [sameB_eq]
   refine af_of Tryz.func46 rfl (by kernel_rfl) (by simp [Tryz.ntmps46]) fun _ => ?_
   simp [Tryz.f46]
   refine aG_split (fun g1 => ?_) (fun g1 => by simp at g1; simp [g1])
   simp at g1
   simp [g1]
   refine aG_split (fun g2 => ?_) (fun g2 => by simp at g2; simp [g1, g2])
   simp at g2
   simp [g1, g2]
   refine aG_split (fun g3 => ?_) (fun g3 => by simp at g3; simp [g1, g2, g3])
   simp at g3
   simp [g1, g2, g3]
   refine aG_split (fun g4 => ?_) (fun g4 => by simp at g4; simp [g1, g2, g3, g4])
   simp at g4
   simp [g1, g2, g3, g4]
   refine aCall_of (equalFunc a.l b.l (r := sameB) (by simp) fun x hx y _ => ih x hx y) (by simp) (by simp) ?_
   simp
theorem sameB_refl (a : Ex) : sameB a a = true := by
 induction a using Ex.ind with
 | h a ih =>
   rw [sameB_eq]
   have : all2 sameB a.l a.l = true := by
    have : ∀ l : List Ex, (∀ x ∈ l, sameB x x = true) → all2 sameB l l = true := by
     intro l
     induction l with
     | nil => intro _; rfl
     | cons x l ih => intro h; simp only [all2, h x (by simp), ih fun y hy => h y (by simp [hy]), Bool.and_self]
    exact this a.l ih
   simp [this]
def Same0 (A : AHeap) (r0 : AV) (r : AV) (A' : AHeap) : Prop := r = r0 ∧ ∃ N, A' = A ++ N
theorem AC.drop {P : Program} {f : FuncId} {args : List AV} {A : AHeap} {r0 : AV} (h : AC P f args A (Same0 A r0)) : AC P f args A fun r A' => r = cln A.length r0 ∧ A' = A.map (clnB A.length) :=
 h.sub fun r A' ⟨hr, N, hA⟩ => by
  subst hr hA
  exact ⟨_, _, Sub.take A.length (Nat.le_refl _), rfl, by simp⟩
theorem AC.af {P : Program} {f : FuncId} {args : List AV} {r : AV} (h : AC P f args [] (Res r)) : AF P f args r := by
 intro H w vs hH hs hm
 refine (h H none0 w vs hH (rel_nil H w) hs (by rw [nn_nil]; exact hm)).mono ?_
 rintro en w' ⟨v, r', ι', A', hv, hr, hR, hst, hval⟩
 unfold Res resO at hr
 split at hr
 ·rename_i r0 r1 hr0
  have := reiV_sound (ι' := none0) (A' := []) hR hr0 hval
  exact ⟨v, hv, ⟨NLe.shp _ _ _ hr this.1, NLe.mem _ _ _ hr this.2⟩, hst.ext⟩
 ·exact hr.elim
theorem indexFunc_ac {f : Nat} {fs cs : List AV} {p : Ex → Bool} (A : AHeap) (l : List Ex) (hf : okF Tryz.prog f = true) (hp : ∀ a ∈ l, ∀ N, AC Tryz.prog f (fs ++ [exA a] ++ cs) (A ++ N) (Same0 A (aB (p a)))) :
 AC Tryz.prog 54 [.d (.sl 5 (Ex.ds l)), .fn f fs cs] A (Same0 A (aI .i64 (match l.findIdx? p with | some i => (i : Int) | none => -1))) := by
 refine ac_of Tryz.func54 rfl (by kernel_rfl) (by simp [Tryz.ntmps54]) fun hb => ?_
 have n1 : l.length ≤ maxLen := by simpa using hb.1.1
 clear hb
 obtain ⟨R, hR⟩ : ∃ R : Int, (match l.findIdx? p with | some i => (i : Int) | none => -1) = R := ⟨_, rfl⟩
 rw [hR]
 simp [Tryz.f54]
 refine aLoop_of (α := Nat) (fun i e A' => i ≤ l.length ∧ (∃ N, A' = A ++ N) ∧ e 8 = aI .i64 i ∧ e 7 = aI .i64 l.length ∧ e 0 = .d (.sl 5 (Ex.ds l)) ∧ e 1 = .fn f fs cs ∧
  ∀ (j : Nat) (a : Ex), j < i → l[j]? = some a → p a = false) (fun i => l.length - i) 0 (Sub.refl _ _ _) ⟨by omega, ⟨[], by simp⟩, by simp, by simp, by simp, by simp, by intro j a hj; omega⟩ ?_
 rintro i e A' ⟨hi, ⟨N, rfl⟩, e8, e7, e0, e1, hall⟩ K hK
 simp [e8, e7]
 refine aCond_split (fun hlt => ?_) (fun hge => ?_)
 ·simp at hlt
  have hi1 := gEG hlt
  simp [e0, e1, e8, hi1, Ex.d_eq]
  refine aCall_ofc (hp l[i] (gMO hi1) N) hf ?_
  rintro _ _ ⟨rfl, N', rfl⟩
  simp
  refine aCond_split (fun ht => ?_) (fun hf => ?_)
  ·have : l.findIdx? p = some i := by
    rw [List.findIdx?_eq_some_iff_getElem]
    exact ⟨hlt, ht, fun j hj => by simpa using hall j _ hj (gEG (by omega))⟩
   rw [this] at hR
   subst hR
   simp [Same0]
  ·simp [e8, succ_wrap hlt n1]
   refine hK (i + 1) _ _ _ _ (Sub.refl _ _ _) ⟨by omega, ⟨N', rfl⟩, by simp, by simp [e7], by simp [e0], by simp [e1], fun j a hj ha => ?_⟩ (by omega)
   rcases Nat.lt_or_ge j i with h | h
   ·exact hall j a h ha
   ·obtain rfl : j = i := by omega
    rw [hi1] at ha
    obtain rfl := oSI ha
    exact hf
 ·simp at hge
  have : l.findIdx? p = none := by
   rw [List.findIdx?_eq_none_iff]
   intro x hx
   obtain ⟨j, hj⟩ := List.getElem?_of_mem hx
   exact hall j x (by have := (gSI.1 hj).1; omega) hj
  rw [this] at hR
  subst hR
  simp [Same0]
theorem containsFunc_ac {f : Nat} {fs cs : List AV} {p : Ex → Bool} (A : AHeap) (l : List Ex) (hf : okF Tryz.prog f = true) (hp : ∀ a ∈ l, ∀ N, AC Tryz.prog f (fs ++ [exA a] ++ cs) (A ++ N) (Same0 A (aB (p a)))) :
 AC Tryz.prog 23 [.d (.sl 5 (Ex.ds l)), .fn f fs cs] A (Same0 A (aB (l.any p))) := by
 refine ac_of Tryz.func23 rfl (by kernel_rfl) (by simp [Tryz.ntmps23]) fun hb => ?_
 simp [Tryz.f23]
 refine aCall_ofc (indexFunc_ac A l hf hp) (by simp) ?_
 rintro _ _ ⟨rfl, N, rfl⟩
 simp [Same0]
 cases h : l.findIdx? p with
 | none =>
   rw [List.findIdx?_eq_none_iff] at h
   simpa using h
 | some i =>
   rw [List.findIdx?_eq_some_iff_getElem] at h
   obtain ⟨hi, hp, _⟩ := h
   simpa using ⟨_, List.getElem_mem hi, hp⟩
def shalB : Nat → Ex → Bool
 | 0, _ => false
 | n + 1, e => e.l.all (shalB n)
theorem shallow1_ac {n : Nat} (hn : n ≤ 1000000000) (ih : ∀ e : Ex, AF Tryz.prog 55 [exA e, aI .i64 n] (aB (shalB n e))) (b0 b1 : Blk) (h1 : b1 = ⟨0, true, 3, 1, [[aI .i64 (n + 1 : Nat)]]⟩) (x : Ex) (N : AHeap) :
 AC Tryz.prog 90 [exA x, .ptr 1 0 0 0] ([b0, b1] ++ N) (Same0 [b0, b1] (aB (!shalB n x))) := by
 subst h1
 refine ac_of Tryz.func90 rfl (by kernel_rfl) (by simp [Tryz.ntmps90]) fun hb => ?_
 simp [Tryz.f90, i64w (n := (n : Int)) (by omega)]
 refine aCall_of (ih x) (by simp) (by simp) ?_
 simp [Same0]
theorem shallow_af : ∀ (n : Nat) (e : Ex), n ≤ 1000000000 → AF Tryz.prog 55 [exA e, aI .i64 n] (aB (shalB n e)) := by
 intro n
 induction n with
 | zero =>
   intro e _
   refine af_of Tryz.func55 rfl (by kernel_rfl) (by simp [Tryz.ntmps55]) fun hb => ?_
   simp [Tryz.f55, shalB]
 | succ n ih =>
   intro e hn
   refine af_of Tryz.func55 rfl (by kernel_rfl) (by simp [Tryz.ntmps55]) fun hb => ?_
   clear hb
   simp [Tryz.f55, show (1 : Int) ≤ (n : Int) + 1 by omega]
   refine aCall_ofc (containsFunc_ac _ e.l (p := fun x => !shalB n x) (by simp) fun x _ N => shallow1_ac (by omega) (fun e => ih e (by omega)) _ _ rfl x N).drop (by simp) ?_
   rintro _ _ ⟨rfl, rfl⟩
   simp
   rw [shalB, List.not_all_eq_any_not]
theorem bds_all {sz : Nat} : ∀ {xs : List (List D)}, BdS sz xs → ((dEls xs).all fun x => x.length == sz) = true
 | [], _ => rfl
 | x :: xs, h => by
   simp only [BdS] at h
   have := bds_all h.2.2
   simp [h.1] at this ⊢
   exact this
theorem clone_ac (A : AHeap) (xs : List (List D)) (hl : xs.length ≤ 1000000000) :
 AC Tryz.prog 86 [.d (.sl 5 xs)] A fun r A' => r = .own A.length 1 0 xs.length ∧ A' = A ++ [⟨1, true, 53, 5, dEls xs⟩] := by
 refine AC.sub (R := fun r A' => (r = .own A.length 1 0 xs.length ∧ A' = A ++ [⟨1, true, 53, 5, dEls xs⟩]) ∨ (r = .d (.v (.slice none 0 0)) ∧ xs = [] ∧ A' = A)) (ac_of Tryz.func86 rfl (by kernel_rfl) (by simp [Tryz.ntmps86]) fun hb => ?_) ?_
 ·have hall := bds_all hb.1.2
  clear hb
  simp [Tryz.f86]
  refine aRaw_app byt_51 ?_
  simp [hall]
  unfold maxLen
  omega
 ·rintro r A' (⟨rfl, rfl⟩ | ⟨rfl, rfl, rfl⟩)
  ·exact ⟨_, _, Sub.refl _ _ _, rfl, rfl⟩
  ·refine ⟨_, _, (Sub.ghost 1 53 5).trans (Sub.env (e' := fun _ => .own A'.length 1 0 0) fun i => VLe.nil_own (k := ⟨1, true, 53, 5, []⟩) (by simp) rfl), ?_, ?_⟩ <;> simp
theorem own_af : ∀ (e : Ex), e.nodes ≤ 1000000000 → AF Tryz.prog 75 [exA e] (exA e) := by
 intro x
 induction x using Ex.ind with
 | h x ih =>
   intro hn
   have hlen := x.nodes_len
   have n1 : x.l.length ≤ maxLen := by unfold maxLen; omega
   refine af_of Tryz.func75 rfl (by kernel_rfl) (by simp [Tryz.ntmps75]) fun _ => ?_
   simp [Tryz.f75]
   refine aCall_ofc (clone_ac _ (Ex.ds x.l) (by simp; omega)) (by simp) ?_
   rintro _ _ ⟨rfl, rfl⟩
   simp
   refine aLoop_of (α := Nat) (fun i e A => i ≤ x.l.length ∧ A = [⟨0, true, 53, 5, [[aI .i64 x.op, aI .u32 x.n, aI .i64 x.v, aI .i64 x.wd, .own 2 1 0 x.l.length]]⟩, ⟨0, true, 53, 5, [[aI .i64 0, aI .u32 0, aI .i64 0, aI .i64 0, .d (.v (.slice none 0 0))]]⟩, ⟨1, true, 53, 5, dEls (Ex.ds x.l)⟩] ∧
    e 11 = aI .i64 i ∧ e 10 = aI .i64 x.l.length ∧ e 1 = .ptr 0 0 0 0 ∧ e 2 = .ptr 1 0 0 0) (fun i => x.l.length - i) 0 (Sub.refl _ _ _) ⟨by omega, by simp, by simp, by simp, by simp, by simp⟩ ?_
   rintro i e A ⟨hi, rfl, e11, e10, e1, e2⟩ K hK
   simp [e11, e10]
   refine aCond_split (fun hlt => ?_) (fun hge => ?_)
   ·simp at hlt
    have hi1 := gEG hlt
    simp
    refine adraw [] (by kernel_rfl) (by kernel_rfl) (by kernel_rfl) (by kernel_rfl) ?_
    simp [e11, e1, hlt, hi1, Ex.d_eq]
    refine adC_of (ih _ (gMO hi1) (by have := Ex.nodes_mem (gMO hi1); omega)) (by simp) trivial (by simp) (by simp) ?_
    simp [hlt, Ex.d_eq, e11, succ_wrap hlt n1]
    exact hK (i + 1) _ _ _ _ (Sub.refl _ _ _) ⟨by omega, by simp; exact set_same (by simp [hlt, Ex.d_eq]), by simp, by simp [e10], by simp [e1], by simp [e2]⟩ (by omega)
   ·simp at hge
    simp [e1, e2]
theorem variable_af (v : Int) : AF Tryz.prog 91 [aI .i64 v] (aB (decide (0 ≤ v) && decide (v < 65536))) := by
 refine af_of Tryz.func91 rfl (by kernel_rfl) (by simp [Tryz.ntmps91]) fun _ => ?_
 simp [Tryz.f91]
 refine aG_split (fun h => ?_) (fun h => ?_)
 ·simp at h
  simp [h]
 ·simp at h
  simp [show ¬ (0 : Int) ≤ v by omega]
theorem access_af (v : Int) : AF Tryz.prog 92 [aI .i64 v] (aB (decide (v = 1) || decide (v = 2) || decide (v = 4))) := by
 refine af_of Tryz.func92 rfl (by kernel_rfl) (by simp [Tryz.ntmps92]) fun _ => ?_
 by_cases h1 : v = 1
 ·subst h1
  simp [Tryz.f92]
 by_cases h2 : v = 2
 ·subst h2
  simp [Tryz.f92]
 simp [Tryz.f92, h1, h2]
def okE (op n v w : Int) (k : Nat) : Bool :=
 if op = 1 then v == 0 && w == 0 && k == 0
 else if op = 2 then n == 0 && w == 0 && k == 0 && (decide (0 ≤ v) && decide (v < 65536))
 else if 3 ≤ op ∧ op ≤ 15 then n == 0 && v == 0 && w == 0 && k == 2
 else if op = 16 ∨ op = 17 then n == 0 && v == 0 && w == 0 && k == 1
 else if op = 18 then n == 0 && v == 0 && (w == 1 || w == 2 || w == 4) && k == 1
 else if op = 19 then n == 0 && v == 0 && (w == 1 || w == 2) && k == 1
 else false
def formB : Ex → Bool
 | .mk op n v w l => okE op n v w l.length && forms l
where forms : List Ex → Bool
 | [] => true
 | e :: l => formB e && forms l
theorem formB_eq (e : Ex) : formB e = (okE e.op e.n e.v e.wd e.l.length && e.l.all formB) := by
 have h : ∀ l, formB.forms l = l.all formB := by
  intro l
  induction l with
  | nil => rfl
  | cons a l ih => simp only [formB.forms, ih, List.all_cons]
 cases e
 simp only [formB, h]
 rfl
theorem formed1_ac {x : Ex} (ih : AF Tryz.prog 56 [exA x] (aB (formB x))) (A N : AHeap) : AC Tryz.prog 93 [exA x] (A ++ N) (Same0 A (aB (!formB x))) := by
 refine ac_of Tryz.func93 rfl (by kernel_rfl) (by simp [Tryz.ntmps93]) fun _ => ?_
 simp [Tryz.f93]
 refine aCall_of ih (by simp) (by simp) ?_
 simp [Same0]
theorem formed_af : ∀ (e : Ex), AF Tryz.prog 56 [exA e] (aB (formB e)) := by
 intro x
 induction x using Ex.ind with
 | h x ih =>
   have hany : ∀ A : AHeap, AC Tryz.prog 23 [.d (.sl 5 (Ex.ds x.l)), .fn 93 [] []] A fun r A' => r = aB (x.l.any fun y => !formB y) ∧ A' = A.map (clnB A.length) := fun A =>
    (containsFunc_ac (fs := []) (cs := []) (p := fun y => !formB y) A x.l (by simp) fun y hy N => formed1_ac (ih y hy) A N).drop
   rw [formB_eq]
   refine af_of Tryz.func56 rfl (by kernel_rfl) (by simp [Tryz.ntmps56]) fun _ => ?_
   obtain ⟨R, hR⟩ : ∃ R, (okE x.op x.n x.v x.wd x.l.length && x.l.all formB) = R := ⟨_, rfl⟩
   rw [hR]
   have hlast : (x.l.any fun y => !formB y) = !(x.l.all formB) := by rw [List.not_all_eq_any_not]
   simp [Tryz.f56]
   by_cases h1 : x.op = 1
   ·simp [h1]
    refine aG_split (fun g0 => ?_) (fun g0 => by simp at g0; rw [← hR]; simp [okE, h1, g0])
    simp at g0
    simp [g0]
    refine aG_split (fun g1 => ?_) (fun g1 => by simp at g1; rw [← hR]; simp [okE, h1, g0, g1])
    simp at g1
    simp [g1]
    refine aG_split (fun g2 => ?_) (fun g2 => by simp at g2; rw [← hR]; simp [okE, h1, g0, g1, g2])
    simp at g2
    simp [g2]
    refine aCall_ofc (by have h := hany; rw [g2] at h; exact h _) (by simp) ?_
    rintro _ _ ⟨rfl, rfl⟩
    simp
    rw [← hR]
    simp [okE, h1, g0, g1, g2]
   simp [h1]
   by_cases h2 : x.op = 2
   ·simp [h2]
    refine aCall_of (variable_af x.v) (by simp) (by simp) ?_
    simp
    by_cases hv : 0 ≤ x.v ∧ x.v < 65536
    ·simp [hv]
     refine aG_split (fun g0 => ?_) (fun g0 => by simp at g0; rw [← hR]; simp [okE, h1, h2, hv.1, hv.2, g0])
     simp at g0
     simp [g0]
     refine aG_split (fun g1 => ?_) (fun g1 => by simp at g1; rw [← hR]; simp [okE, h1, h2, hv.1, hv.2, g0, g1])
     simp at g1
     simp [g1]
     refine aG_split (fun g2 => ?_) (fun g2 => by simp at g2; rw [← hR]; simp [okE, h1, h2, hv.1, hv.2, g0, g1, g2])
     simp at g2
     simp [g2]
     refine aCall_ofc (by have h := hany; rw [g2] at h; exact h _) (by simp) ?_
     rintro _ _ ⟨rfl, rfl⟩
     simp
     rw [← hR]
     simp [okE, h1, h2, hv.1, hv.2, g0, g1, g2]
    ·have hv' : (decide (0 ≤ x.v) && decide (x.v < 65536)) = false := by simp; omega
     simp [hv']
     rw [← hR]
     simp [okE, h1, h2, hv']
   simp [h2]
   by_cases h3 : 3 ≤ x.op ∧ x.op ≤ 15
   ·simp [h3.1, h3.2]
    refine aG_split (fun g0 => ?_) (fun g0 => by simp at g0; rw [← hR]; simp [okE, h1, h2, h3.1, h3.2, g0])
    simp at g0
    simp [g0]
    refine aG_split (fun g1 => ?_) (fun g1 => by simp at g1; rw [← hR]; simp [okE, h1, h2, h3.1, h3.2, g0, g1])
    simp at g1
    simp [g1]
    refine aG_split (fun g2 => ?_) (fun g2 => by simp at g2; rw [← hR]; simp [okE, h1, h2, h3.1, h3.2, g0, g1, g2])
    simp at g2
    simp [g2]
    refine aG_split (fun g3 => ?_) (fun g3 => by simp at g3; have gk : ¬ x.l.length = 2 := (by omega); rw [← hR]; simp [okE, h1, h2, h3.1, h3.2, g0, g1, g2, gk, g3])
    simp at g3
    simp [g3]
    have gk : x.l.length = 2 := by omega
    refine aCall_ofc (hany _) (by simp) ?_
    rintro _ _ ⟨rfl, rfl⟩
    simp
    rw [← hR, hlast]
    simp [okE, h1, h2, h3.1, h3.2, g0, g1, g2, gk]
   have hno : ∀ (K1 K2 : AKont) (e : AEnv) (d : Option Nat) (A : AHeap), True := fun _ _ _ _ _ => trivial
   by_cases h3a : 3 ≤ x.op
   ·have h3b : ¬ x.op ≤ 15 := fun h => h3 ⟨h3a, h⟩
    simp [h3a, h3b]
    by_cases h16 : x.op = 16
    ·simp [h16]
     refine aG_split (fun g0 => ?_) (fun g0 => by simp at g0; rw [← hR]; simp [okE, h1, h2, h3a, h3b, h16, g0])
     simp at g0
     simp [g0]
     refine aG_split (fun g1 => ?_) (fun g1 => by simp at g1; rw [← hR]; simp [okE, h1, h2, h3a, h3b, h16, g0, g1])
     simp at g1
     simp [g1]
     refine aG_split (fun g2 => ?_) (fun g2 => by simp at g2; rw [← hR]; simp [okE, h1, h2, h3a, h3b, h16, g0, g1, g2])
     simp at g2
     simp [g2]
     refine aG_split (fun g3 => ?_) (fun g3 => by simp at g3; have gk : ¬ x.l.length = 1 := (by omega); rw [← hR]; simp [okE, h1, h2, h3a, h3b, h16, g0, g1, g2, gk, g3])
     simp at g3
     simp [g3]
     have gk : x.l.length = 1 := by omega
     refine aCall_ofc (hany _) (by simp) ?_
     rintro _ _ ⟨rfl, rfl⟩
     simp
     rw [← hR, hlast]
     simp [okE, h1, h2, h3a, h3b, h16, g0, g1, g2, gk]
    simp [h16]
    by_cases h17 : x.op = 17
    ·simp [h17]
     refine aG_split (fun g0 => ?_) (fun g0 => by simp at g0; rw [← hR]; simp [okE, h1, h2, h3a, h3b, h16, h17, g0])
     simp at g0
     simp [g0]
     refine aG_split (fun g1 => ?_) (fun g1 => by simp at g1; rw [← hR]; simp [okE, h1, h2, h3a, h3b, h16, h17, g0, g1])
     simp at g1
     simp [g1]
     refine aG_split (fun g2 => ?_) (fun g2 => by simp at g2; rw [← hR]; simp [okE, h1, h2, h3a, h3b, h16, h17, g0, g1, g2])
     simp at g2
     simp [g2]
     refine aG_split (fun g3 => ?_) (fun g3 => by simp at g3; have gk : ¬ x.l.length = 1 := (by omega); rw [← hR]; simp [okE, h1, h2, h3a, h3b, h16, h17, g0, g1, g2, gk, g3])
     simp at g3
     simp [g3]
     have gk : x.l.length = 1 := by omega
     refine aCall_ofc (hany _) (by simp) ?_
     rintro _ _ ⟨rfl, rfl⟩
     simp
     rw [← hR, hlast]
     simp [okE, h1, h2, h3a, h3b, h16, h17, g0, g1, g2, gk]
    simp [h17]
    by_cases h18 : x.op = 18
    ·simp [h18]
     refine aCall_of (access_af x.wd) (by simp) (by simp) ?_
     simp
     cases hw : (decide (x.wd = 1) || decide (x.wd = 2) || decide (x.wd = 4)) with
     | false =>
       simp [hw]
       rw [← hR]
       simp at hw
       simp [okE, h18, hw]
     | true =>
       have hw' : (x.wd == 1 || x.wd == 2 || x.wd == 4) = true := by simpa using hw
       simp [hw]
       refine aG_split (fun g0 => ?_) (fun g0 => by simp at g0; rw [← hR]; simp [okE, h18, hw', g0])
       simp at g0
       simp [g0]
       refine aG_split (fun g1 => ?_) (fun g1 => by simp at g1; rw [← hR]; simp [okE, h18, hw', g0, g1])
       simp at g1
       simp [g1]
       refine aG_split (fun g2 => ?_) (fun g2 => by simp at g2; have gk : ¬ x.l.length = 1 := (by omega); rw [← hR]; simp [okE, h18, hw', g0, g1, gk, g2])
       simp at g2
       simp [g2]
       have gk : x.l.length = 1 := by omega
       refine aCall_ofc (hany _) (by simp) ?_
       rintro _ _ ⟨rfl, rfl⟩
       simp
       rw [← hR, hlast]
       simp [okE, h18, hw', g0, g1, gk]
    simp [h18]
    by_cases h19 : x.op = 19
    ·simp [h19]
     cases hw : (decide (x.wd = 1) || decide (x.wd = 2)) with
     | false =>
       simp at hw
       simp [hw]
       rw [← hR]
       simp [okE, h19, hw]
     | true =>
       have hw' : (x.wd == 1 || x.wd == 2) = true := by simpa using hw
       by_cases hw1 : x.wd = 1
       ·simp [hw1]
        refine aG_split (fun g0 => ?_) (fun g0 => by simp at g0; rw [← hR]; simp [okE, h19, hw1, g0])
        simp at g0
        simp [g0]
        refine aG_split (fun g1 => ?_) (fun g1 => by simp at g1; rw [← hR]; simp [okE, h19, hw1, g0, g1])
        simp at g1
        simp [g1]
        refine aG_split (fun g2 => ?_) (fun g2 => by simp at g2; have gk : ¬ x.l.length = 1 := (by omega); rw [← hR]; simp [okE, h19, hw1, g0, g1, gk, g2])
        simp at g2
        simp [g2]
        have gk : x.l.length = 1 := by omega
        refine aCall_ofc (hany _) (by simp) ?_
        rintro _ _ ⟨rfl, rfl⟩
        simp
        rw [← hR, hlast]
        simp [okE, h19, hw1, g0, g1, gk]
       have hw2 : x.wd = 2 := by simp [hw1] at hw; exact hw
       simp [hw2]
       refine aG_split (fun g0 => ?_) (fun g0 => by simp at g0; rw [← hR]; simp [okE, h19, hw2, g0])
       simp at g0
       simp [g0]
       refine aG_split (fun g1 => ?_) (fun g1 => by simp at g1; rw [← hR]; simp [okE, h19, hw2, g0, g1])
       simp at g1
       simp [g1]
       refine aG_split (fun g2 => ?_) (fun g2 => by simp at g2; have gk : ¬ x.l.length = 1 := (by omega); rw [← hR]; simp [okE, h19, hw2, g0, g1, gk, g2])
       simp at g2
       simp [g2]
       have gk : x.l.length = 1 := by omega
       refine aCall_ofc (hany _) (by simp) ?_
       rintro _ _ ⟨rfl, rfl⟩
       simp
       rw [← hR, hlast]
       simp [okE, h19, hw2, g0, g1, gk]
    simp [h19]
    rw [← hR]
    simp [okE, h1, h2, h3a, h3b, h16, h17, h18, h19]
   ·simp [h3a, show ¬ x.op = 16 by omega, show ¬ x.op = 17 by omega, show ¬ x.op = 18 by omega, show ¬ x.op = 19 by omega]
    rw [← hR]
    simp [okE, h1, h2, h3a, show ¬ x.op = 16 by omega, show ¬ x.op = 17 by omega, show ¬ x.op = 18 by omega, show ¬ x.op = 19 by omega]
theorem check_af (e : Ex) : AF Tryz.prog 25 [exA e] (aI .i64 (if shalB 64 e = true then (if formB e = true then 0 else 2) else 20)) := by
 refine af_of Tryz.func25 rfl (by kernel_rfl) (by simp [Tryz.ntmps25]) fun _ => ?_
 simp [Tryz.f25]
 refine aCall_of (shallow_af 64 e (by omega)) (by simp) (by simp) ?_
 simp
 cases h1 : shalB 64 e with
 | false => simp
 | true =>
   simp
   refine aCall_of (formed_af e) (by simp) (by simp) ?_
   simp
   cases h2 : formB e with
   | false => simp
   | true => simp
structure St where
 op : Int
 va : Int
 wd : Int
 nx : Int
 el : Int
 tg : Int
 e : List Ex
 cs : List Int
structure Bl where
 ad : Int
 s : List St
structure Gr where
 ad : Int
 b : List Bl
def i64s (l : List Int) : List (List D) := l.map fun n => [.v (.int .i64 n)]
@[simp] theorem i64s_nil : i64s [] = [] := rfl
@[simp] theorem i64s_cons (n : Int) (l : List Int) : i64s (n :: l) = [.v (.int .i64 n)] :: i64s l := rfl
@[simp] theorem i64s_len (l : List Int) : (i64s l).length = l.length := by simp [i64s]
@[simp] theorem i64s_get (l : List Int) (i : Nat) : (i64s l)[i]? = (l[i]?).map fun n => [.v (.int .i64 n)] := by simp [i64s]
@[simp] theorem i64s_at (l : List Int) (i : Nat) (h : i < (i64s l).length) : (i64s l)[i] = [.v (.int .i64 (l[i]'(by simpa using h)))] := by simp [i64s]
@[simp] theorem i64s_all (l : List Int) : (i64s l).take l.length = i64s l := by rw [List.take_of_length_le]; simp
@[simp] theorem i64s_app (l m : List Int) : i64s (l ++ m) = i64s l ++ i64s m := by simp [i64s]
def St.d (s : St) : List D := [.v (.int .i64 s.op), .v (.int .i64 s.va), .v (.int .i64 s.wd), .v (.int .i64 s.nx), .v (.int .i64 s.el), .v (.int .u32 s.tg), .sl 5 (Ex.ds s.e), .sl 1 (i64s s.cs)]
theorem St.d_eq (s : St) : St.d s = [.v (.int .i64 s.op), .v (.int .i64 s.va), .v (.int .i64 s.wd), .v (.int .i64 s.nx), .v (.int .i64 s.el), .v (.int .u32 s.tg), .sl 5 (Ex.ds s.e), .sl 1 (i64s s.cs)] := rfl
@[simp] theorem St.d_len (s : St) : (St.d s).length = 8 := rfl
def sts (l : List St) : List (List D) := l.map St.d
@[simp] theorem sts_nil : sts [] = [] := rfl
@[simp] theorem sts_cons (s : St) (l : List St) : sts (s :: l) = s.d :: sts l := rfl
@[simp] theorem sts_len (l : List St) : (sts l).length = l.length := by simp [sts]
@[simp] theorem sts_get (l : List St) (i : Nat) : (sts l)[i]? = (l[i]?).map St.d := by simp [sts]
@[simp] theorem sts_at (l : List St) (i : Nat) (h : i < (sts l).length) : (sts l)[i] = St.d (l[i]'(by simpa using h)) := by simp [sts]
@[simp] theorem sts_app (l m : List St) : sts (l ++ m) = sts l ++ sts m := by simp [sts]
@[simp] theorem sts_take (l : List St) (n : Nat) : (sts l).take n = sts (l.take n) := by simp [sts]
def Bl.d (b : Bl) : List D := [.v (.int .u32 b.ad), .sl 8 (sts b.s)]
theorem Bl.d_eq (b : Bl) : Bl.d b = [.v (.int .u32 b.ad), .sl 8 (sts b.s)] := rfl
@[simp] theorem Bl.d_len (b : Bl) : (Bl.d b).length = 2 := rfl
def bls' (l : List Bl) : List (List D) := l.map Bl.d
@[simp] theorem bls_nil : bls' [] = [] := rfl
@[simp] theorem bls_cons (b : Bl) (l : List Bl) : bls' (b :: l) = b.d :: bls' l := rfl
@[simp] theorem bls_len (l : List Bl) : (bls' l).length = l.length := by simp [bls']
@[simp] theorem bls_get (l : List Bl) (i : Nat) : (bls' l)[i]? = (l[i]?).map Bl.d := by simp [bls']
@[simp] theorem bls_at (l : List Bl) (i : Nat) (h : i < (bls' l).length) : (bls' l)[i] = Bl.d (l[i]'(by simpa using h)) := by simp [bls']
@[simp] theorem bls_app (l m : List Bl) : bls' (l ++ m) = bls' l ++ bls' m := by simp [bls']
@[simp] def stV (s : St) : AV := .agg [aI .i64 s.op, aI .i64 s.va, aI .i64 s.wd, aI .i64 s.nx, aI .i64 s.el, aI .u32 s.tg, .d (.sl 5 (Ex.ds s.e)), .d (.sl 1 (i64s s.cs))]
@[simp] def blV (b : Bl) : AV := .agg [aI .u32 b.ad, .d (.sl 8 (sts b.s))]
@[simp] def grV (g : Gr) : AV := .agg [aI .u32 g.ad, .d (.sl 2 (bls' g.b))]
def exErr (e : Ex) : Int := if shalB 64 e = true then (if formB e = true then 0 else 2) else 20
def exprsN (op : Int) : Int :=
 if op = 1 ∨ op = 4 ∨ op = 7 ∨ op = 8 then 1 else if op = 2 then 2 else if op = 3 ∨ op = 5 ∨ op = 6 ∨ op = 9 ∨ op = 10 then 0 else -1
def fieldsB (s : St) : Bool :=
 let va := (s.op == 1 || s.op == 3)
 (if va then decide (0 ≤ s.va) && decide (s.va < 65536) else s.va == 0) &&
 (if s.op = 2 then (s.wd == 1 || s.wd == 2 || s.wd == 4) else s.wd == 0) &&
 (s.op == 6 || s.op == 7 || s.nx == 0) && (s.op == 7 || s.el == 0) && (s.op == 5 || s.tg == 0) &&
 (if s.op = 8 then decide (1 ≤ s.cs.length) && decide (s.cs.length ≤ 64) else decide (s.cs = []))
def exsErr : List Ex → Int
 | [] => 0
 | e :: l => if exErr e = 0 then exsErr l else exErr e
def stErr (s : St) : Int := if exprsN s.op = s.e.length then (if exsErr s.e = 0 then (if fieldsB s = true then 0 else 2) else exsErr s.e) else 2
def stsErr : List St → Int
 | [] => 0
 | s :: l => if stErr s = 0 then stsErr l else stErr s
def blsErr : List Bl → Int
 | [] => 0
 | b :: l => if stsErr b.s = 0 then blsErr l else stsErr b.s
def termB (s : St) : Bool := decide (6 ≤ s.op) && decide (s.op ≤ 10)
def tgts (s : St) : List Int := if s.op = 6 then [s.nx] else if s.op = 7 then [s.nx, s.el] else if s.op = 8 then s.cs else []
def succL (b : Bl) : List Int := match b.s.getLast? with
 | some s => tgts s
 | none => []
def closedB (n : Nat) (b : Bl) : Bool := match b.s.getLast? with
 | some s => termB s && !(b.s.take (b.s.length - 1)).any termB && !(tgts s).any fun k => decide (k < 0) || decide ((n : Int) ≤ k)
 | none => false
def stN : List Bl → Nat
 | [] => 0
 | b :: l => b.s.length + stN l
def grErr (g : Gr) : Int :=
 if 256 < g.b.length ∨ 1024 < stN g.b then 6
 else if g.b.length = 0 ∨ g.b.all (closedB g.b.length) = false then 18
 else blsErr g.b
theorem blsErr_mem : ∀ {l : List Bl}, blsErr l = 0 → ∀ b ∈ l, stsErr b.s = 0
 | [], _, b, hb => by cases hb
 | a :: l, h, b, hb => by
   simp only [blsErr] at h
   split at h
   ·rename_i h0
    rcases List.mem_cons.1 hb with rfl | hb
    ·exact h0
    ·exact blsErr_mem h b hb
   ·exact absurd h ‹_›
theorem stsErr_mem : ∀ {l : List St}, stsErr l = 0 → ∀ s ∈ l, stErr s = 0
 | [], _, b, hb => by cases hb
 | a :: l, h, b, hb => by
   simp only [stsErr] at h
   split at h
   ·rename_i h0
    rcases List.mem_cons.1 hb with rfl | hb
    ·exact h0
    ·exact stsErr_mem h b hb
   ·exact absurd h ‹_›
theorem exsErr_mem : ∀ {l : List Ex}, exsErr l = 0 → ∀ e ∈ l, exErr e = 0
 | [], _, b, hb => by cases hb
 | a :: l, h, b, hb => by
   simp only [exsErr] at h
   split at h
   ·rename_i h0
    rcases List.mem_cons.1 hb with rfl | hb
    ·exact h0
    ·exact exsErr_mem h b hb
   ·exact absurd h ‹_›
theorem index_st_ac {f : Nat} {fs cs : List AV} {p : St → Bool} (A : AHeap) (l : List St) (hf : okF Tryz.prog f = true) (hp : ∀ a ∈ l, ∀ N, AC Tryz.prog f (fs ++ [stV a] ++ cs) (A ++ N) (Same0 A (aB (p a)))) :
 AC Tryz.prog 100 [.d (.sl 8 (sts l)), .fn f fs cs] A (Same0 A (aI .i64 (match l.findIdx? p with | some i => (i : Int) | none => -1))) := by
 refine ac_of Tryz.func100 rfl (by kernel_rfl) (by simp [Tryz.ntmps100]) fun hb => ?_
 have n1 : l.length ≤ maxLen := by simpa using hb.1.1
 clear hb
 obtain ⟨R, hR⟩ : ∃ R : Int, (match l.findIdx? p with | some i => (i : Int) | none => -1) = R := ⟨_, rfl⟩
 rw [hR]
 simp [Tryz.f100]
 refine aLoop_of (α := Nat) (fun i e A' => i ≤ l.length ∧ (∃ N, A' = A ++ N) ∧ e 8 = aI .i64 i ∧ e 7 = aI .i64 l.length ∧ e 0 = .d (.sl 8 (sts l)) ∧ e 1 = .fn f fs cs ∧
  ∀ (j : Nat) (a : St), j < i → l[j]? = some a → p a = false) (fun i => l.length - i) 0 (Sub.refl _ _ _) ⟨by omega, ⟨[], by simp⟩, by simp, by simp, by simp, by simp, by intro j a hj; omega⟩ ?_
 rintro i e A' ⟨hi, ⟨N, rfl⟩, e8, e7, e0, e1, hall⟩ K hK
 simp [e8, e7]
 refine aCond_split (fun hlt => ?_) (fun hge => ?_)
 ·simp at hlt
  have hi1 := gEG hlt
  simp [e0, e1, e8, hi1, St.d_eq]
  refine aCall_ofc (hp l[i] (gMO hi1) N) hf ?_
  rintro _ _ ⟨rfl, N', rfl⟩
  simp
  refine aCond_split (fun ht => ?_) (fun hf => ?_)
  ·have : l.findIdx? p = some i := by
    rw [List.findIdx?_eq_some_iff_getElem]
    exact ⟨hlt, ht, fun j hj => by simpa using hall j _ hj (gEG (by omega))⟩
   rw [this] at hR
   subst hR
   simp [Same0]
  ·simp [e8, succ_wrap hlt n1]
   refine hK (i + 1) _ _ _ _ (Sub.refl _ _ _) ⟨by omega, ⟨N', rfl⟩, by simp, by simp [e7], by simp [e0], by simp [e1], fun j a hj ha => ?_⟩ (by omega)
   rcases Nat.lt_or_ge j i with h | h
   ·exact hall j a h ha
   ·obtain rfl : j = i := by omega
    rw [hi1] at ha
    obtain rfl := oSI ha
    exact hf
 ·simp at hge
  have : l.findIdx? p = none := by
   rw [List.findIdx?_eq_none_iff]
   intro x hx
   obtain ⟨j, hj⟩ := List.getElem?_of_mem hx
   exact hall j x (by have := (gSI.1 hj).1; omega) hj
  rw [this] at hR
  subst hR
  simp [Same0]
theorem contains_st_ac {f : Nat} {fs cs : List AV} {p : St → Bool} (A : AHeap) (l : List St) (hf : okF Tryz.prog f = true) (hp : ∀ a ∈ l, ∀ N, AC Tryz.prog f (fs ++ [stV a] ++ cs) (A ++ N) (Same0 A (aB (p a)))) :
 AC Tryz.prog 69 [.d (.sl 8 (sts l)), .fn f fs cs] A (Same0 A (aB (l.any p))) := by
 refine ac_of Tryz.func69 rfl (by kernel_rfl) (by simp [Tryz.ntmps69]) fun hb => ?_
 simp [Tryz.f69]
 refine aCall_ofc (index_st_ac A l hf hp) (by simp) ?_
 rintro _ _ ⟨rfl, N, rfl⟩
 simp [Same0]
 cases h : l.findIdx? p with
 | none =>
   rw [List.findIdx?_eq_none_iff] at h
   simpa using h
 | some i =>
   rw [List.findIdx?_eq_some_iff_getElem] at h
   obtain ⟨hi, hp, _⟩ := h
   simpa using ⟨_, List.getElem_mem hi, hp⟩
theorem index_in_ac {f : Nat} {fs cs : List AV} {p : Int → Bool} (A : AHeap) (l : List Int) (hf : okF Tryz.prog f = true) (hp : ∀ a ∈ l, ∀ N, AC Tryz.prog f (fs ++ [aI .i64 a] ++ cs) (A ++ N) (Same0 A (aB (p a)))) :
 AC Tryz.prog 101 [.d (.sl 1 (i64s l)), .fn f fs cs] A (Same0 A (aI .i64 (match l.findIdx? p with | some i => (i : Int) | none => -1))) := by
 refine ac_of Tryz.func101 rfl (by kernel_rfl) (by simp [Tryz.ntmps101]) fun hb => ?_
 have n1 : l.length ≤ maxLen := by simpa using hb.1.1
 clear hb
 obtain ⟨R, hR⟩ : ∃ R : Int, (match l.findIdx? p with | some i => (i : Int) | none => -1) = R := ⟨_, rfl⟩
 rw [hR]
 simp [Tryz.f101]
 refine aLoop_of (α := Nat) (fun i e A' => i ≤ l.length ∧ (∃ N, A' = A ++ N) ∧ e 8 = aI .i64 i ∧ e 7 = aI .i64 l.length ∧ e 0 = .d (.sl 1 (i64s l)) ∧ e 1 = .fn f fs cs ∧
  ∀ (j : Nat) (a : Int), j < i → l[j]? = some a → p a = false) (fun i => l.length - i) 0 (Sub.refl _ _ _) ⟨by omega, ⟨[], by simp⟩, by simp, by simp, by simp, by simp, by intro j a hj; omega⟩ ?_
 rintro i e A' ⟨hi, ⟨N, rfl⟩, e8, e7, e0, e1, hall⟩ K hK
 simp [e8, e7]
 refine aCond_split (fun hlt => ?_) (fun hge => ?_)
 ·simp at hlt
  have hi1 := gEG hlt
  simp [e0, e1, e8, hi1]
  refine aCall_ofc (hp l[i] (gMO hi1) N) hf ?_
  rintro _ _ ⟨rfl, N', rfl⟩
  simp
  refine aCond_split (fun ht => ?_) (fun hf => ?_)
  ·have : l.findIdx? p = some i := by
    rw [List.findIdx?_eq_some_iff_getElem]
    exact ⟨hlt, ht, fun j hj => by simpa using hall j _ hj (gEG (by omega))⟩
   rw [this] at hR
   subst hR
   simp [Same0]
  ·simp [e8, succ_wrap hlt n1]
   refine hK (i + 1) _ _ _ _ (Sub.refl _ _ _) ⟨by omega, ⟨N', rfl⟩, by simp, by simp [e7], by simp [e0], by simp [e1], fun j a hj ha => ?_⟩ (by omega)
   rcases Nat.lt_or_ge j i with h | h
   ·exact hall j a h ha
   ·obtain rfl : j = i := by omega
    rw [hi1] at ha
    obtain rfl := oSI ha
    exact hf
 ·simp at hge
  have : l.findIdx? p = none := by
   rw [List.findIdx?_eq_none_iff]
   intro x hx
   obtain ⟨j, hj⟩ := List.getElem?_of_mem hx
   exact hall j x (by have := (gSI.1 hj).1; omega) hj
  rw [this] at hR
  subst hR
  simp [Same0]
theorem contains_in_ac {f : Nat} {fs cs : List AV} {p : Int → Bool} (A : AHeap) (l : List Int) (hf : okF Tryz.prog f = true) (hp : ∀ a ∈ l, ∀ N, AC Tryz.prog f (fs ++ [aI .i64 a] ++ cs) (A ++ N) (Same0 A (aB (p a)))) :
 AC Tryz.prog 70 [.d (.sl 1 (i64s l)), .fn f fs cs] A (Same0 A (aB (l.any p))) := by
 refine ac_of Tryz.func70 rfl (by kernel_rfl) (by simp [Tryz.ntmps70]) fun hb => ?_
 simp [Tryz.f70]
 refine aCall_ofc (index_in_ac A l hf hp) (by simp) ?_
 rintro _ _ ⟨rfl, N, rfl⟩
 simp [Same0]
 cases h : l.findIdx? p with
 | none =>
   rw [List.findIdx?_eq_none_iff] at h
   simpa using h
 | some i =>
   rw [List.findIdx?_eq_some_iff_getElem] at h
   obtain ⟨hi, hp, _⟩ := h
   simpa using ⟨_, List.getElem_mem hi, hp⟩
theorem clone_in_ac (A : AHeap) (xs : List (List D)) (hl : xs.length ≤ 1000000000) :
 AC Tryz.prog 87 [.d (.sl 1 xs)] A fun r A' => r = .own A.length 1 0 xs.length ∧ A' = A ++ [⟨1, true, 3, 1, dEls xs⟩] := by
 refine AC.sub (R := fun r A' => (r = .own A.length 1 0 xs.length ∧ A' = A ++ [⟨1, true, 3, 1, dEls xs⟩]) ∨ (r = .d (.v (.slice none 0 0)) ∧ xs = [] ∧ A' = A)) (ac_of Tryz.func87 rfl (by kernel_rfl) (by simp [Tryz.ntmps87]) fun hb => ?_) ?_
 ·have hall := bds_all hb.1.2
  clear hb
  simp [Tryz.f87]
  refine aRaw_app byt_59 ?_
  simp [hall]
  unfold maxLen
  omega
 ·rintro r A' (⟨rfl, rfl⟩ | ⟨rfl, rfl, rfl⟩)
  ·exact ⟨_, _, Sub.refl _ _ _, rfl, rfl⟩
  ·refine ⟨_, _, (Sub.ghost 1 3 1).trans (Sub.env (e' := fun _ => .own A'.length 1 0 0) fun i => VLe.nil_own (k := ⟨1, true, 3, 1, []⟩) (by simp) rfl), ?_, ?_⟩ <;> simp
theorem ilterm_af (s : St) : AF Tryz.prog 68 [stV s] (aB (termB s)) := by
 refine af_of Tryz.func68 rfl (by kernel_rfl) (by simp [Tryz.ntmps68]) fun _ => ?_; simp [Tryz.f68, Ex.d_eq]
 by_cases h : 6 ≤ s.op <;> simp [h, termB]
theorem op_cases (op : Int) : op = 1 ∨ op = 2 ∨ op = 3 ∨ op = 4 ∨ op = 5 ∨ op = 6 ∨ op = 7 ∨ op = 8 ∨ op = 9 ∨ op = 10 ∨ (¬ op = 1 ∧ ¬ op = 2 ∧ ¬ op = 3 ∧ ¬ op = 4 ∧ ¬ op = 5 ∧ ¬ op = 6 ∧ ¬ op = 7 ∧ ¬ op = 8 ∧ ¬ op = 9 ∧ ¬ op = 10) := by omega
theorem ilexprs_af (op : Int) : AF Tryz.prog 73 [aI .i64 op] (aI .i64 (exprsN op)) := by
 refine af_of Tryz.func73 rfl (by kernel_rfl) (by simp [Tryz.ntmps73]) fun _ => ?_
 rcases op_cases op with h | h | h | h | h | h | h | h | h | h | h <;> simp [Tryz.f73, exprsN, h]
theorem ilfields_af (s : St) : AF Tryz.prog 74 [stV s] (aB (fieldsB s)) := by
 obtain ⟨R, hR⟩ : ∃ R, fieldsB s = R := ⟨_, rfl⟩
 rw [hR]
 refine af_of Tryz.func74 rfl (by kernel_rfl) (by simp [Tryz.ntmps74]) fun _ => ?_
 rcases op_cases s.op with h | h | h | h | h | h | h | h | h | h | h <;> simp [Tryz.f74, h]
 case inl | inr.inr.inl =>
  have c := variable_af s.va
  cases hV : (decide (0 ≤ s.va) && decide (s.va < 65536)) <;> rw [hV] at c
  ·refine aCall_of c (by simp) (by simp [Ex.d_eq]) ?_; simp [Ex.d_eq]
   rw [← hR]; simp only [fieldsB, h, hV]; simp
  ·refine aCall_of c (by simp) (by simp [Ex.d_eq]) ?_; simp [Ex.d_eq]
   try simp [h]
   repeat' (refine aG_split (fun g => ?_) (fun g => ?_) <;> simp at g <;> simp [*])
   all_goals (rw [← hR]; simp only [fieldsB, h, hV]; simp [*])
 case inr.inl =>
  have c := access_af s.wd
  cases hV : (decide (s.wd = 1) || decide (s.wd = 2) || decide (s.wd = 4)) <;> rw [hV] at c
  ·refine aCall_of c (by simp) (by simp [Ex.d_eq]) ?_; simp [Ex.d_eq]
   rw [← hR]; simp only [fieldsB, h]; simp at hV; simp [hV]
  ·refine aCall_of c (by simp) (by simp [Ex.d_eq]) ?_; simp [Ex.d_eq]
   try simp [h]
   repeat' (refine aG_split (fun g => ?_) (fun g => ?_) <;> simp at g <;> simp [*])
   all_goals (rw [← hR]; simp only [fieldsB, h]; simp at hV; simp [*])
 case inr.inr.inr.inr.inr.inr.inl =>
  refine adraw [(5, 3)] (by kernel_rfl) (by kernel_rfl) (by kernel_rfl) (by kernel_rfl) ?_; simp [Ex.d_eq]
  try simp [h]
  repeat' (refine aG_split (fun g => ?_) (fun g => ?_) <;> simp at g <;> simp [*])
  all_goals (rw [← hR]; simp [fieldsB, *])
 case inr.inr.inr.inr.inr.inr.inr.inl =>
  by_cases g1 : s.cs.length < 1
  ·have g2 : ¬ 1 ≤ s.cs.length := by omega
   have g3 : s.cs = [] := List.length_eq_zero_iff.1 (by omega)
   simp [g3]
   rw [← hR]; simp [fieldsB, h, g3]
  have g2 : 1 ≤ s.cs.length := by omega
  have g3 : ¬ (s.cs.length : Int) < 1 := by omega
  simp [g3]
  by_cases g4 : s.cs.length ≤ 64
  ·have g5 : ¬ (64 : Int) < s.cs.length := by omega
   simp [g5, h]
   repeat' (refine aG_split (fun g => ?_) (fun g => ?_) <;> simp at g <;> simp [*])
   all_goals (rw [← hR]; simp [fieldsB, *])
  ·have g5 : (64 : Int) < s.cs.length := by omega
   simp [g5]
   rw [← hR]; simp [fieldsB, h, g4]
 all_goals
  repeat' (refine aG_split (fun g => ?_) (fun g => ?_) <;> simp at g <;> simp [*])
  all_goals (rw [← hR]; simp [fieldsB, *])
theorem exs_drop {l : List Ex} {i : Nat} {x : Ex} (h : l[i]? = some x) : exsErr (l.drop i) = if exErr x = 0 then exsErr (l.drop (i + 1)) else exErr x := by
 obtain ⟨hi, rfl⟩ := gSI.1 h
 rw [List.drop_eq_getElem_cons hi]
 rfl
theorem ilcheckst_af (s : St) (hl : s.e.length ≤ maxLen) : AF Tryz.prog 37 [stV s] (aI .i64 (stErr s)) := by
 obtain ⟨R, hR⟩ : ∃ R, stErr s = R := ⟨_, rfl⟩
 rw [hR]
 refine af_of Tryz.func37 rfl (by kernel_rfl) (by simp [Tryz.ntmps37]) fun _ => ?_; simp [Tryz.f37, Ex.d_eq]
 refine aCall_of (ilexprs_af s.op) (by simp) (by simp [Ex.d_eq]) ?_; simp [Ex.d_eq]
 by_cases h1 : exprsN s.op = s.e.length
 case neg =>
  have : R = 2 := by rw [← hR, stErr, if_neg h1]
  subst this
  by_cases h2 : exprsN s.op < 0
  ·simp [h2]
  ·simp [h2, h1]
 simp [h1, show ¬ (s.e.length : Int) < 0 by omega]
 refine aLoop_st (fun i : Nat => [(1, .ptr 0 0 0 0), (20, .d (.sl 5 (Ex.ds s.e))), (21, aI .i64 s.e.length), (22, aI .i64 i)]) (fun _ => [⟨0, true, 61, 8, [s.d.map AV.d]⟩])
  (fun i => i ≤ s.e.length ∧ exsErr (s.e.drop i) = exsErr s.e) (fun i => s.e.length - i) 0 (Sub.refl _ _ _) 1 (by omega) (by simp [St.d_eq]) (by simp) ⟨by omega, by simp⟩ ?_
 rintro i ⟨hi, hx⟩ K hK
 rcases Nat.lt_or_ge i s.e.length with hlt | hge
 case inr =>
  obtain rfl : i = s.e.length := by omega
  simp [exsErr] at hx
  simp [St.d_eq]
  refine aCall_of (ilfields_af s) (by simp) (by simp [Ex.d_eq]) ?_; simp [Ex.d_eq]
  rw [stErr, if_pos h1, if_pos hx.symm] at hR
  cases hf : fieldsB s <;> rw [hf] at hR <;> simp at hR <;> simp [hR]
 obtain ⟨y, hy⟩ : ∃ y, s.e[i]? = some y := ⟨_, gEG hlt⟩
 have hy2 := (gSI.1 hy).2
 rw [exs_drop hy] at hx
 simp [hlt, hy, hy2, Ex.d_eq]
 refine aCall_of (check_af y) (by simp) (by simp [Ex.d_eq]) ?_; simp [Ex.d_eq]
 rw [show (if shalB 64 y = true then (if formB y = true then (0 : Int) else 2) else 20) = exErr y from rfl]
 by_cases h0 : exErr y = 0
 ·rw [if_pos h0] at hx
  simp [h0, succ_wrap hlt hl]
  exact hK (i + 1) ⟨by omega, hx⟩ (by omega) (Sub.refl _ _ _) 1 (by omega) (by simp [St.d_eq]) (by simp)
 ·rw [if_neg h0] at hx
  have : R = exErr y := by rw [← hR, stErr, if_pos h1, if_neg (by rw [← hx]; exact h0), hx]
  subst this
  simp [h0]
abbrev gB (g : Gr) : Blk := ⟨0, true, 30, 2, [[aI .u32 g.ad, .d (.sl 2 (bls' g.b))]]⟩
abbrev bB (b : Bl) : Blk := ⟨0, true, 38, 2, [[aI .u32 b.ad, .d (.sl 8 (sts b.s))]]⟩
theorem last_get {α : Type} {l : List α} {n : Nat} (h : l.length = n + 1) : ∃ s, l[n]? = some s ∧ l.getLast? = some s := by
 refine ⟨l[n], gEG (by omega), ?_⟩
 rw [List.getLast?_eq_getElem?, show l.length - 1 = n by omega]
 exact gEG (by omega)
theorem ilsucc_af (b : Bl) (hl : b.s.length ≤ maxLen) (hc : ∀ s ∈ b.s, s.cs.length ≤ 1000000000) : AF Tryz.prog 71 [blV b] (.d (.sl 1 (i64s (succL b)))) := by
 obtain ⟨R, hR⟩ : ∃ R, succL b = R := ⟨_, rfl⟩
 rw [hR]
 refine af_of Tryz.func71 rfl (by kernel_rfl) (by simp [Tryz.ntmps71]) fun _ => ?_; simp [Tryz.f71, Ex.d_eq]
 cases hn : b.s.length with
 | zero =>
   have : b.s = [] := List.length_eq_zero_iff.1 hn
   rw [succL, this] at hR
   simp at hR
   subst hR
   simp [this]
 | succ n =>
   obtain ⟨s, hs, hs2⟩ := last_get hn
   have hs3 := (gSI.1 hs).2
   have hne : ¬ b.s = [] := fun h => by rw [h] at hn; simp at hn
   unfold maxLen at hl
   rw [succL, hs2] at hR
   simp only [tgts] at hR
   simp [hn, hne, show ¬ (n : Int) + 1 = 0 by omega, i64w (n := (n : Int)) (by omega), hs, hs3, St.d_eq]
   rcases op_cases s.op with h | h | h | h | h | h | h | h | h | h | h <;> simp [h] at hR <;> subst hR <;> simp [h]
   refine aCall_ofc (clone_in_ac _ (i64s s.cs) (by simpa using hc s (gMO hs))) (by simp) ?_
   rintro _ _ ⟨rfl, rfl⟩
   simp
theorem shaped1_ac (g : Gr) (b0 : Blk) (hl : g.b.length ≤ maxLen) (k : Int) (N : AHeap) : AC Tryz.prog 72 [aI .i64 k, .ptr 0 0 0 0] ([gB g, b0] ++ N) (Same0 [gB g, b0] (aB (decide (k < 0) || decide ((g.b.length : Int) ≤ k)))) := by
 refine ac_of Tryz.func72 rfl (by kernel_rfl) (by simp [Tryz.ntmps72]) fun hb => ?_
 by_cases h : k < 0 <;> simp [Tryz.f72, h, Same0]
def GrFit (g : Gr) : Prop := g.b.length ≤ 1000000 ∧ ∀ b ∈ g.b, b.s.length ≤ 1000000 ∧ ∀ s ∈ b.s, s.e.length ≤ 1000000 ∧ s.cs.length ≤ 2000000
theorem all_drop {α : Type} {p : α → Bool} {l : List α} {i : Nat} {x : α} (h : l[i]? = some x) : (l.drop i).all p = (p x && (l.drop (i + 1)).all p) := by
 obtain ⟨hi, rfl⟩ := gSI.1 h
 rw [List.drop_eq_getElem_cons hi, List.all_cons]
theorem ilshaped_af (g : Gr) (hg : GrFit g) : AF Tryz.prog 36 [grV g] (aB (!decide (g.b.length = 0) && g.b.all (closedB g.b.length))) := by
 have hl : g.b.length ≤ maxLen := by have := hg.1; unfold maxLen; omega
 obtain ⟨R, hR⟩ : ∃ R, (!decide (g.b.length = 0) && g.b.all (closedB g.b.length)) = R := ⟨_, rfl⟩
 rw [hR]
 refine af_of Tryz.func36 rfl (by kernel_rfl) (by simp [Tryz.ntmps36]) fun _ => ?_; simp [Tryz.f36, Ex.d_eq]
 by_cases h0 : g.b = []
 ·rw [h0] at hR ⊢
  simp at hR
  subst hR
  simp
 have h0' : ¬ g.b.length = 0 := fun h => h0 (List.length_eq_zero_iff.1 h)
 simp [h0'] at hR
 simp [h0, h0']
 refine aLoop_st (fun i : Nat => [(1, .ptr 0 0 0 0), (11, .d (.sl 2 (bls' g.b))), (12, aI .i64 g.b.length), (13, aI .i64 i)]) (fun _ => [gB g])
  (fun i => i ≤ g.b.length ∧ (g.b.drop i).all (closedB g.b.length) = R) (fun i => g.b.length - i) 0 (Sub.refl _ _ _) 1 (by omega) (by simp) (by simp) ⟨by omega, by simpa using hR⟩ ?_
 rintro i ⟨hi, hx⟩ K hK
 rcases Nat.lt_or_ge i g.b.length with hlt | hge
 case inr =>
  obtain rfl : i = g.b.length := by omega
  simp at hx
  subst hx
  simp
 obtain ⟨b, hb⟩ : ∃ b, g.b[i]? = some b := ⟨_, gEG hlt⟩
 have hb2 := (gSI.1 hb).2
 obtain ⟨f1, f2⟩ := hg.2 b (gMO hb)
 have hbl : b.s.length ≤ maxLen := by unfold maxLen; omega
 rw [all_drop hb] at hx
 simp [hlt, hb, hb2, Bl.d_eq]
 cases hn : b.s.length with
 | zero =>
   have hne : b.s = [] := List.length_eq_zero_iff.1 hn
   have : closedB g.b.length b = false := by
    rw [closedB, hne]
    rfl
   rw [this] at hx
   simp at hx
   subst hx
   simp [hne]
 | succ n =>
   obtain ⟨s, hs, hs2⟩ := last_get hn
   have hs3 := (gSI.1 hs).2
   have hcl : closedB g.b.length b = (termB s && !(b.s.take n).any termB && !(succL b).any fun k => decide (k < 0) || decide ((g.b.length : Int) ≤ k)) := by
    rw [closedB, succL, hs2, hn]
    rfl
   rw [hcl] at hx
   have hnn : ¬ (n : Int) + 1 = 0 := by omega
   have hne : ¬ b.s = [] := fun h => by rw [h] at hn; simp at hn
   have hw := i64w (n := (n : Int)) (by omega)
   simp [hnn, hne, hw, hs, hs3, St.d_eq, hn]
   have ct := ilterm_af s
   cases ht : termB s
   ·rw [ht] at hx ct
    simp at hx
    subst hx
    refine aCall_of ct (by simp) (by simp [Ex.d_eq]) ?_; simp [Ex.d_eq]
   rw [ht] at ct hx
   refine aCall_of ct (by simp) (by simp [Ex.d_eq]) ?_; simp [Ex.d_eq]
   simp [hnn, hw, hn, show (n : Int) ≤ (n : Int) + 1 by omega]
   refine aCall_ofc (contains_st_ac (f := 68) (fs := []) (cs := []) (p := termB) [gB g, bB b] (b.s.take n) (by simp) fun a _ N => (AF.ac (A := [gB g, bB b] ++ N) (ilterm_af a) (by simp)).mono fun r A' h => ⟨h.1, N, h.2⟩).drop (by simp) ?_
   rintro _ _ ⟨rfl, rfl⟩
   simp
   cases ha : (b.s.take n).any termB <;> rw [ha] at hx
   ·simp at hx
    simp
    refine aCall_of (ilsucc_af b hbl fun s hs => by have := (f2 s hs).2; omega) (by simp) (by simp [Ex.d_eq]) ?_; simp [Ex.d_eq]
    refine aCall_ofc (contains_in_ac (f := 72) (fs := []) (cs := [.ptr 0 0 0 0]) (p := fun k => decide (k < 0) || decide ((g.b.length : Int) ≤ k)) [gB g, bB b] (succL b) (by simp) fun a _ N => shaped1_ac g (bB b) hl a N).drop (by simp) ?_
    rintro _ _ ⟨rfl, rfl⟩
    simp
    cases hk : (succL b).any fun k => decide (k < 0) || decide ((g.b.length : Int) ≤ k)
    ·rw [hk] at hx
     simp at hx
     simp [succ_wrap hlt hl]
     exact hK (i + 1) ⟨by omega, by simpa using hx⟩ (by omega) (Sub.refl _ _ _) 1 (by omega) (by simp) (by simp)
    ·rw [hk] at hx
     simp at hx
     subst hx
     simp
   ·simp at hx
    subst hx
    simp
theorem stN_app : ∀ (l m : List Bl), stN (l ++ m) = stN l + stN m
 | [], m => by simp [stN]
 | b :: l, m => by simp only [List.cons_append, stN, stN_app l m]; omega
theorem stN_take {l : List Bl} {i : Nat} {b : Bl} (h : l[i]? = some b) : stN (l.take (i + 1)) = stN (l.take i) + b.s.length := by
 rw [List.take_add_one, h, stN_app]
 simp [stN]
theorem stN_le : ∀ {l : List Bl}, (∀ b ∈ l, b.s.length ≤ 1000000) → stN l ≤ 1000000 * l.length
 | [], _ => by simp [stN]
 | b :: l, h => by
   have h1 := stN_le fun x hx => h x (List.mem_cons_of_mem b hx)
   have h2 := h b (List.mem_cons_self ..)
   simp only [stN, List.length_cons]
   omega
theorem bls_drop {l : List Bl} {i : Nat} {x : Bl} (h : l[i]? = some x) : blsErr (l.drop i) = if stsErr x.s = 0 then blsErr (l.drop (i + 1)) else stsErr x.s := by
 obtain ⟨hi, rfl⟩ := gSI.1 h
 rw [List.drop_eq_getElem_cons hi]
 rfl
theorem sts_drop {l : List St} {i : Nat} {x : St} (h : l[i]? = some x) : stsErr (l.drop i) = if stErr x = 0 then stsErr (l.drop (i + 1)) else stErr x := by
 obtain ⟨hi, rfl⟩ := gSI.1 h
 rw [List.drop_eq_getElem_cons hi]
 rfl
theorem ilcheckg_af (g : Gr) (hg : GrFit g) : AF Tryz.prog 13 [grV g] (aI .i64 (grErr g)) := by
 have hl : g.b.length ≤ maxLen := by have := hg.1; unfold maxLen; omega
 have hN : ∀ i, stN (g.b.take i) ≤ 1000000000000 := fun i => by
  have h1 := stN_le (l := g.b.take i) fun b hb => (hg.2 b (List.mem_of_mem_take hb)).1
  have h2 := hg.1
  have h3 : (g.b.take i).length ≤ g.b.length := by simp; omega
  have := Nat.mul_le_mul_left 1000000 (Nat.le_trans h3 h2)
  omega
 obtain ⟨R, hR⟩ : ∃ R, grErr g = R := ⟨_, rfl⟩
 rw [hR]
 refine af_of Tryz.func13 rfl (by kernel_rfl) (by simp [Tryz.ntmps13]) fun _ => ?_; simp [Tryz.f13, Ex.d_eq]
 refine aLoop_st (fun i : Nat => [(1, .ptr 0 0 0 0), (12, .d (.sl 2 (bls' g.b))), (13, aI .i64 g.b.length), (14, aI .i64 i), (3, aI .i64 (stN (g.b.take i)))]) (fun _ => [gB g])
  (fun i => i ≤ g.b.length) (fun i => g.b.length - i) 0 (Sub.refl _ _ _) 1 (by omega) (by simp) (by simp [stN]) (by omega) ?_
 rintro i hi K hK
 rcases Nat.lt_or_ge i g.b.length with hlt | hge
 case inl =>
  obtain ⟨b, hb⟩ : ∃ b, g.b[i]? = some b := ⟨_, gEG hlt⟩
  have hb2 := (gSI.1 hb).2
  have hs := stN_take hb
  have h1 := hN (i + 1)
  simp [hlt, hb, hb2, Bl.d_eq, succ_wrap hlt hl, i64w (n := (stN (g.b.take i) : Int) + b.s.length) (by omega)]
  exact hK (i + 1) (by omega) (by omega) (Sub.refl _ _ _) 1 (by omega) (by simp) (by simp [hs])
 obtain rfl : i = g.b.length := by omega
 rw [List.take_length]
 rw [grErr] at hR
 simp
 by_cases h1 : 256 < g.b.length
 ·rw [if_pos (.inl h1)] at hR
  simp [show (256 : Int) < g.b.length by omega, hR]
 simp [show ¬ (256 : Int) < g.b.length by omega]
 by_cases h2 : 1024 < stN g.b
 ·rw [if_pos (.inr h2)] at hR
  simp [show (1024 : Int) < stN g.b by omega, hR]
 simp [show ¬ (1024 : Int) < stN g.b by omega]
 rw [if_neg (by omega)] at hR
 have c := ilshaped_af g hg
 cases h3 : (!decide (g.b.length = 0) && g.b.all (closedB g.b.length)) <;> rw [h3] at c
 ·rw [if_pos (by simp at h3; by_cases h0 : g.b.length = 0; exact .inl h0; right; simpa using h3 (fun h => h0 (by rw [h]; rfl)))] at hR
  subst hR
  refine aCall_of c (by simp) (by simp [Ex.d_eq]) ?_; simp [Ex.d_eq]
 rw [if_neg (by simp at h3; rintro (h | h); exact h3.1 (List.length_eq_zero_iff.1 h); rw [List.all_eq_false] at h; obtain ⟨x, hx, hx2⟩ := h; exact hx2 (h3.2 x hx))] at hR
 refine aCall_of c (by simp) (by simp [Ex.d_eq]) ?_; simp [Ex.d_eq]
 clear hK K c
 refine aLoop_st (fun i : Nat => [(1, .ptr 0 0 0 0), (36, .d (.sl 2 (bls' g.b))), (37, aI .i64 g.b.length), (38, aI .i64 i)]) (fun _ => [gB g])
  (fun i => i ≤ g.b.length ∧ blsErr (g.b.drop i) = R) (fun i => g.b.length - i) 0 (Sub.refl _ _ _) 1 (by omega) (by simp) (by simp) ⟨by omega, by simpa using hR⟩ ?_
 rintro i ⟨hi, hx⟩ K hK
 rcases Nat.lt_or_ge i g.b.length with hlt | hge
 case inr =>
  obtain rfl : i = g.b.length := by omega
  simp [blsErr] at hx
  simp [hx]
 obtain ⟨b, hb⟩ : ∃ b, g.b[i]? = some b := ⟨_, gEG hlt⟩
 have hb2 := (gSI.1 hb).2
 obtain ⟨f1, f2⟩ := hg.2 b (gMO hb)
 have hbl : b.s.length ≤ maxLen := by unfold maxLen; omega
 rw [bls_drop hb] at hx
 simp [hlt, hb, hb2, Bl.d_eq]
 refine aLoop_st (fun k : Nat => [(1, .ptr 0 0 0 0), (36, .d (.sl 2 (bls' g.b))), (37, aI .i64 g.b.length), (38, aI .i64 i), (43, .d (.sl 8 (sts b.s))), (44, aI .i64 b.s.length), (45, aI .i64 k)]) (fun _ => [gB g])
  (fun k => k ≤ b.s.length ∧ stsErr (b.s.drop k) = stsErr b.s) (fun k => b.s.length - k) 0 (Sub.refl _ _ _) 1 (by omega) (by simp) (by simp) ⟨by omega, by simp⟩ ?_
 rintro k ⟨hk, hy⟩ K2 hK2
 rcases Nat.lt_or_ge k b.s.length with hlt2 | hge2
 case inr =>
  obtain rfl : k = b.s.length := by omega
  simp [stsErr] at hy
  rw [if_pos hy.symm] at hx
  simp [succ_wrap hlt hl]
  exact hK (i + 1) ⟨by omega, hx⟩ (by omega) (Sub.refl _ _ _) 1 (by omega) (by simp) (by simp)
 obtain ⟨s, hs⟩ : ∃ s, b.s[k]? = some s := ⟨_, gEG hlt2⟩
 have hs2 := (gSI.1 hs).2
 have f3 := (f2 s (gMO hs)).1
 rw [sts_drop hs] at hy
 simp [hlt2, hs, hs2, St.d_eq]
 refine aCall_of (ilcheckst_af s (by unfold maxLen; omega)) (by simp) (by simp [Ex.d_eq]) ?_; simp [Ex.d_eq]
 by_cases h0 : stErr s = 0
 ·rw [if_pos h0] at hy
  simp [h0, succ_wrap hlt2 hbl]
  exact hK2 (k + 1) ⟨by omega, hy⟩ (by omega) (Sub.refl _ _ _) 1 (by omega) (by simp) (by simp)
 ·rw [if_neg h0] at hy
  rw [if_neg (by rw [← hy]; exact h0), ← hy] at hx
  subst hx
  simp [h0]
def eCon (n : Int) : Ex := .mk 1 n 0 0 []
def eVar (v : Int) : Ex := .mk 2 0 v 0 []
def eTwo (op : Int) (a b : Ex) : Ex := .mk op 0 0 0 [a, b]
def eOne (op : Int) (a : Ex) : Ex := .mk op 0 0 0 [a]
abbrev eNot (a : Ex) : Ex := eOne 16 a
section
variable (op n v : Int) (a b : Ex)
@[simp] theorem eCon_op : (eCon n).op = 1 := rfl
@[simp] theorem eCon_n : (eCon n).n = n := rfl
@[simp] theorem eCon_v : (eCon n).v = 0 := rfl
@[simp] theorem eCon_wd : (eCon n).wd = 0 := rfl
@[simp] theorem eCon_l : (eCon n).l = [] := rfl
@[simp] theorem eVar_op : (eVar v).op = 2 := rfl
@[simp] theorem eVar_n : (eVar v).n = 0 := rfl
@[simp] theorem eVar_v : (eVar v).v = v := rfl
@[simp] theorem eVar_wd : (eVar v).wd = 0 := rfl
@[simp] theorem eVar_l : (eVar v).l = [] := rfl
@[simp] theorem eTwo_op : (eTwo op a b).op = op := rfl
@[simp] theorem eTwo_n : (eTwo op a b).n = 0 := rfl
@[simp] theorem eTwo_v : (eTwo op a b).v = 0 := rfl
@[simp] theorem eTwo_wd : (eTwo op a b).wd = 0 := rfl
@[simp] theorem eTwo_l : (eTwo op a b).l = [a, b] := rfl
@[simp] theorem eOne_op : (eOne op a).op = op := rfl
@[simp] theorem eOne_n : (eOne op a).n = 0 := rfl
@[simp] theorem eOne_v : (eOne op a).v = 0 := rfl
@[simp] theorem eOne_wd : (eOne op a).wd = 0 := rfl
@[simp] theorem eOne_l : (eOne op a).l = [a] := rfl
@[simp] theorem nodes_con : (eCon n).nodes = 1 := rfl
@[simp] theorem nodes_var : (eVar v).nodes = 1 := rfl
@[simp] theorem nodes_two : (eTwo op a b).nodes = a.nodes + b.nodes + 1 := by simp [eTwo, Ex.nodes, Ex.nodess]
end
theorem two_af (op : Int) (a b : Ex) (ha : a.nodes ≤ 1000000000) (hb : b.nodes ≤ 1000000000) : AF Tryz.prog 40 [aI .i64 op, exA a, exA b] (exA (eTwo op a b)) := by
 refine af_of Tryz.func40 rfl (by kernel_rfl) (by simp [Tryz.ntmps40]) fun _ => ?_
 simp [Tryz.f40]
 refine adraw [] (by kernel_rfl) (by kernel_rfl) (by kernel_rfl) (by kernel_rfl) ?_
 simp
 refine adC_of (own_af a ha) (by simp) trivial (by simp) (by simp) ?_
 simp
 refine adC_of (own_af b hb) (by simp) trivial (by simp) (by simp) ?_
 simp [Ex.d_eq]
theorem const_af (n : Int) : AF Tryz.prog 39 [aI .u32 n] (exA (eCon n)) := by
 refine af_of Tryz.func39 rfl (by kernel_rfl) (by simp [Tryz.ntmps39]) fun _ => ?_
 simp [Tryz.f39]
theorem var_af (v : Int) : AF Tryz.prog 18 [aI .i64 v] (exA (eVar v)) := by
 refine af_of Tryz.func18 rfl (by kernel_rfl) (by simp [Tryz.ntmps18]) fun _ => ?_
 simp [Tryz.f18]
theorem not_af (a : Ex) : AF Tryz.prog 42 [exA a] (exA (eNot a)) := by
 refine af_of Tryz.func42 rfl (by kernel_rfl) (by simp [Tryz.ntmps42]) fun _ => ?_
 simp [Tryz.f42, Ex.d_eq]
theorem less_af (a b : Ex) (ha : a.nodes ≤ 1000000000) (hb : b.nodes ≤ 1000000000) : AF Tryz.prog 41 [exA a, exA b] (exA (eTwo 14 a b)) := by
 refine af_of Tryz.func41 rfl (by kernel_rfl) (by simp [Tryz.ntmps41]) fun _ => ?_
 simp [Tryz.f41]
 refine aCall_of (two_af 14 a b ha hb) (by simp) (by simp) ?_
 simp
theorem below_af (a b : Ex) (ha : a.nodes ≤ 1000000000) (hb : b.nodes ≤ 1000000000) : AF Tryz.prog 43 [exA a, exA b] (exA (eTwo 15 a b)) := by
 refine af_of Tryz.func43 rfl (by kernel_rfl) (by simp [Tryz.ntmps43]) fun _ => ?_
 simp [Tryz.f43]
 refine aCall_of (two_af 15 a b ha hb) (by simp) (by simp) ?_
 simp
abbrev eMinus (a b : Ex) : Ex := eTwo 14 (eTwo 4 a b) (eCon 0)
abbrev eOver (a b : Ex) : Ex := eTwo 8 (eTwo 14 a b) (eMinus a b)
theorem minus_af (a b : Ex) (ha : a.nodes ≤ 100000000) (hb : b.nodes ≤ 100000000) : AF Tryz.prog 44 [exA a, exA b] (exA (eMinus a b)) := by
 refine af_of Tryz.func44 rfl (by kernel_rfl) (by simp [Tryz.ntmps44]) fun _ => ?_
 simp [Tryz.f44]
 refine aCall_of (two_af 4 a b (by omega) (by omega)) (by simp) (by simp) ?_
 simp
 refine aCall_of (const_af 0) (by simp) (by simp) ?_
 simp
 refine aCall_of (less_af (eTwo 4 a b) (eCon 0) (by simp; omega) (by simp)) (by simp) (by simp) ?_
 simp
theorem over_af (a b : Ex) (ha : a.nodes ≤ 100000000) (hb : b.nodes ≤ 100000000) : AF Tryz.prog 45 [exA a, exA b] (exA (eOver a b)) := by
 refine af_of Tryz.func45 rfl (by kernel_rfl) (by simp [Tryz.ntmps45]) fun _ => ?_
 simp [Tryz.f45]
 refine adraw [] (by kernel_rfl) (by kernel_rfl) (by kernel_rfl) (by kernel_rfl) ?_
 simp
 refine adC_of (less_af a b (by omega) (by omega)) (by simp) trivial (by simp) (by simp) ?_
 simp
 refine adC_of (minus_af a b ha hb) (by simp) trivial (by simp) (by simp) ?_
 simp
 refine adC_of (two_af 8 (eTwo 14 a b) (eMinus a b) (by simp; omega) (by simp; omega)) (by simp) trivial (by simp) (by simp) ?_
 simp
abbrev aS (s : ByteArray) : AV := .d (.v (.string s))
def strs (xs : List ByteArray) : List (List D) := xs.map fun x => [.v (.string x)]
@[simp] theorem strs_nil : strs [] = [] := rfl
@[simp] theorem strs_cons (x : ByteArray) (xs : List ByteArray) : strs (x :: xs) = [.v (.string x)] :: strs xs := rfl
def cat (xs : List ByteArray) : ByteArray := ⟨(xs.flatMap fun x => x.data.toList).toArray⟩
theorem join_nil' (xs : List (List UInt8)) : Lib.join xs [] = xs.flatten := by
 induction xs with
 | nil => rfl
 | cons x xs ih =>
   cases xs with
   | nil => simp [Lib.join_one]
   | cons y ys =>
     rw [Lib.join_cons]
     simp [Lib.joinTail]
theorem sjoin_af (xs : List ByteArray) (hl : (xs.flatMap fun x => x.data.toList).length ≤ 1000000000) (hn : xs.length ≤ 1000000000) : AF Tryz.prog 103 [.d (.sl 1 (strs xs)), aS ⟨#[]⟩] (aS (cat xs)) := by
 intro H w vs hH hs hm
 simp only [ShpL] at hs
 obtain ⟨u1, l1, rfl, s1, u2, l2, rfl, s2, rfl⟩ := hs
 simp only [Shp] at s2
 subst s2
 have m1 := hm.get (i := 0) rfl rfl
 simp only [Mem, Rd] at m1
 obtain ⟨a, cap, rfl, h1, h2, h3⟩ := m1
 have hlen : (strs xs).length = xs.length := by simp [strs]
 have hfin : Lib.join (xs.map (·.data.toList)) [] = xs.flatMap fun x => x.data.toList := by rw [join_nil', List.flatMap_def]
 rw [hlen] at h1 ⊢
 rcases h3 with h3 | ⟨b, off, rfl, hb, hs⟩
 ·have hx : xs = [] := by
   cases xs with
   | nil => rfl
   | cons x xs => simp at h3
  subst hx
  refine (Sh_strings_Join_none a cap ⟨#[]⟩ w).mono ?_
  rintro en w' ⟨rfl, rfl⟩
  exact ⟨_, rfl, ⟨by simp [Shp, cat], by simp [Mem, Rd, cat, Value.oneCell']⟩, Ext.refl _⟩
 ·refine (Sh_strings_Join b off cap xs ⟨#[]⟩ w (fun j x hj => ?_) hb.1 (by omega) h1 (by simp only [List.toList_toArray]; rw [hfin]; omega)).mono ?_
  ·have := hs.get (i := j) (x := [.v (.string x)]) (by simp [strs, hj])
   obtain ⟨u, g1, g2⟩ := this.2.get (j := 0) rfl
   simp only [Rd] at g2
   rw [g2.1] at g1
   simpa using g1
  ·rintro en w' ⟨rfl, hw⟩
   refine ⟨_, rfl, ⟨?_, ?_⟩, hw⟩
   ·simp only [Shp, List.toList_toArray]
    rw [hfin]
    rfl
   ·simp only [Mem, Rd, List.toList_toArray]
    rw [hfin]
    exact ⟨rfl, rfl⟩
theorem itoa_af (i : Nat) (h : i < 100) : AF Tryz.prog 80 [aI .i64 i] (aS ⟨(Lib.decDigits i).toArray⟩) := by
 intro H w vs hH hs hm
 simp only [ShpL] at hs
 obtain ⟨u1, l1, rfl, s1, rfl⟩ := hs
 simp only [Shp] at s1
 subst s1
 refine (Sh_strconv_Itoa_small i h w).mono ?_
 rintro en w' ⟨rfl, rfl⟩
 exact ⟨_, rfl, ⟨by simp [Shp], by simp [Mem, Rd, Value.oneCell']⟩, Ext.refl _⟩
theorem iljoin_af (xs : List ByteArray) (hl : (xs.flatMap fun x => x.data.toList).length ≤ 1000000000) (hn : xs.length ≤ 1000000000) : AF Tryz.prog 79 [.d (.sl 1 (strs xs))] (aS (cat xs)) := by
 refine af_of Tryz.func79 rfl (by kernel_rfl) (by simp [Tryz.ntmps79]) fun _ => ?_
 simp [Tryz.f79]
 refine aCall_of (sjoin_af xs hl hn) (by simp) (by simp) ?_
 simp
def condE (cc : Int) (a b : Ex) : Ex :=
 if cc = 0 then eCon 1 else
 if cc = 1 then eTwo 12 a b else
 if cc = 2 then eTwo 13 a b else
 if cc = 3 then eTwo 14 a b else
 if cc = 4 then eNot (eTwo 14 a b) else
 if cc = 5 then eNot (eTwo 14 b a) else
 if cc = 6 then eTwo 14 b a else
 if cc = 7 then eTwo 15 a b else
 if cc = 8 then eNot (eTwo 15 a b) else
 if cc = 9 then eNot (eTwo 15 b a) else
 if cc = 10 then eTwo 15 b a else
 if cc = 11 then eMinus a b else
 if cc = 12 then eNot (eMinus a b) else
 if cc = 13 then eOver a b else
 if cc = 14 then eNot (eOver a b) else
 eCon 0
theorem cond_af (cc : Int) (a b : Ex) (ha : a.nodes ≤ 100000000) (hb : b.nodes ≤ 100000000) : AF Tryz.prog 17 [aI .i64 cc, exA a, exA b] (exA (condE cc a b)) := by
 refine af_of Tryz.func17 rfl (by kernel_rfl) (by simp [Tryz.ntmps17]) fun _ => ?_
 obtain ⟨E, hE⟩ : ∃ E, condE cc a b = E := ⟨_, rfl⟩
 rw [hE]
 simp [Tryz.f17]
 refine aCond_split (fun h0 => ?_) (fun h0 => ?_)
 ·simp at h0
  obtain rfl : E = eCon 1 := by rw [← hE, h0]; rfl
  simp
  refine aCall_of (const_af 1) (by simp) (by simp) ?_
  simp
 simp at h0
 simp
 refine aCond_split (fun h1 => ?_) (fun h1 => ?_)
 ·simp at h1
  obtain rfl : E = eTwo 12 a b := by rw [← hE, h1]; rfl
  simp
  refine aCall_of (two_af 12 a b (by omega) (by omega)) (by simp) (by simp) ?_
  simp
 simp at h1
 simp
 refine aCond_split (fun h2 => ?_) (fun h2 => ?_)
 ·simp at h2
  obtain rfl : E = eTwo 13 a b := by rw [← hE, h2]; rfl
  simp
  refine aCall_of (two_af 13 a b (by omega) (by omega)) (by simp) (by simp) ?_
  simp
 simp at h2
 simp
 refine aCond_split (fun h3 => ?_) (fun h3 => ?_)
 ·simp at h3
  obtain rfl : E = eTwo 14 a b := by rw [← hE, h3]; rfl
  simp
  refine aCall_of (less_af a b (by omega) (by omega)) (by simp) (by simp) ?_
  simp
 simp at h3
 simp
 refine aCond_split (fun h4 => ?_) (fun h4 => ?_)
 ·simp at h4
  obtain rfl : E = eNot (eTwo 14 a b) := by rw [← hE, h4]; rfl
  simp
  refine aCall_of (less_af a b (by omega) (by omega)) (by simp) (by simp) ?_
  simp
  refine aCall_of (not_af (eTwo 14 a b)) (by simp) (by simp) ?_
  simp
 simp at h4
 simp
 refine aCond_split (fun h5 => ?_) (fun h5 => ?_)
 ·simp at h5
  obtain rfl : E = eNot (eTwo 14 b a) := by rw [← hE, h5]; rfl
  simp
  refine aCall_of (less_af b a (by omega) (by omega)) (by simp) (by simp) ?_
  simp
  refine aCall_of (not_af (eTwo 14 b a)) (by simp) (by simp) ?_
  simp
 simp at h5
 simp
 refine aCond_split (fun h6 => ?_) (fun h6 => ?_)
 ·simp at h6
  obtain rfl : E = eTwo 14 b a := by rw [← hE, h6]; rfl
  simp
  refine aCall_of (less_af b a (by omega) (by omega)) (by simp) (by simp) ?_
  simp
 simp at h6
 simp
 refine aCond_split (fun h7 => ?_) (fun h7 => ?_)
 ·simp at h7
  obtain rfl : E = eTwo 15 a b := by rw [← hE, h7]; rfl
  simp
  refine aCall_of (below_af a b (by omega) (by omega)) (by simp) (by simp) ?_
  simp
 simp at h7
 simp
 refine aCond_split (fun h8 => ?_) (fun h8 => ?_)
 ·simp at h8
  obtain rfl : E = eNot (eTwo 15 a b) := by rw [← hE, h8]; rfl
  simp
  refine aCall_of (below_af a b (by omega) (by omega)) (by simp) (by simp) ?_
  simp
  refine aCall_of (not_af (eTwo 15 a b)) (by simp) (by simp) ?_
  simp
 simp at h8
 simp
 refine aCond_split (fun h9 => ?_) (fun h9 => ?_)
 ·simp at h9
  obtain rfl : E = eNot (eTwo 15 b a) := by rw [← hE, h9]; rfl
  simp
  refine aCall_of (below_af b a (by omega) (by omega)) (by simp) (by simp) ?_
  simp
  refine aCall_of (not_af (eTwo 15 b a)) (by simp) (by simp) ?_
  simp
 simp at h9
 simp
 refine aCond_split (fun h10 => ?_) (fun h10 => ?_)
 ·simp at h10
  obtain rfl : E = eTwo 15 b a := by rw [← hE, h10]; rfl
  simp
  refine aCall_of (below_af b a (by omega) (by omega)) (by simp) (by simp) ?_
  simp
 simp at h10
 simp
 refine aCond_split (fun h11 => ?_) (fun h11 => ?_)
 ·simp at h11
  obtain rfl : E = eMinus a b := by rw [← hE, h11]; rfl
  simp
  refine aCall_of (minus_af a b (by omega) (by omega)) (by simp) (by simp) ?_
  simp
 simp at h11
 simp
 refine aCond_split (fun h12 => ?_) (fun h12 => ?_)
 ·simp at h12
  obtain rfl : E = eNot (eMinus a b) := by rw [← hE, h12]; rfl
  simp
  refine aCall_of (minus_af a b (by omega) (by omega)) (by simp) (by simp) ?_
  simp
  refine aCall_of (not_af (eMinus a b)) (by simp) (by simp) ?_
  simp
 simp at h12
 simp
 refine aCond_split (fun h13 => ?_) (fun h13 => ?_)
 ·simp at h13
  obtain rfl : E = eOver a b := by rw [← hE, h13]; rfl
  simp
  refine aCall_of (over_af a b (by omega) (by omega)) (by simp) (by simp) ?_
  simp
 simp at h13
 simp
 refine aCond_split (fun h14 => ?_) (fun h14 => ?_)
 ·simp at h14
  obtain rfl : E = eNot (eOver a b) := by rw [← hE, h14]; rfl
  simp
  refine aCall_of (over_af a b (by omega) (by omega)) (by simp) (by simp) ?_
  simp
  refine aCall_of (not_af (eOver a b)) (by simp) (by simp) ?_
  simp
 simp at h14
 simp
 obtain rfl : E = eCon 0 := by rw [← hE]; simp [condE, h0, h1, h2, h3, h4, h5, h6, h7, h8, h9, h10, h11, h12, h13, h14]
 refine aCall_of (const_af 0) (by simp) (by simp) ?_
 simp
def flagE : Nat → Ex
 | 0 => eCon 1
 | 1 => eVar 8
 | 2 => eNot (eVar 8)
 | 3 => eTwo 8 (eVar 9) (eVar 11)
 | 4 => eNot (eTwo 8 (eVar 9) (eVar 11))
 | 5 => eTwo 7 (eVar 8) (eTwo 8 (eVar 9) (eVar 11))
 | 6 => eNot (eTwo 7 (eVar 8) (eTwo 8 (eVar 9) (eVar 11)))
 | 7 => eVar 10
 | 8 => eNot (eVar 10)
 | 9 => eTwo 7 (eVar 10) (eVar 8)
 | 10 => eNot (eTwo 7 (eVar 10) (eVar 8))
 | 11 => eVar 9
 | 12 => eNot (eVar 9)
 | 13 => eVar 11
 | 14 => eNot (eVar 11)
 | _ => eCon 0
theorem flagExpr_af (k : Nat) (hk : k < 15) : AF Tryz.prog 47 [aI .i64 k] (exA (flagE k)) := by
 refine af_of Tryz.func47 rfl (by kernel_rfl) (by simp [Tryz.ntmps47]) fun _ => ?_
 obtain ⟨E, hE⟩ : ∃ E, flagE k = E := ⟨_, rfl⟩
 rw [hE]
 simp [Tryz.f47]
 refine aCall_of (var_af 8) (by simp) (by simp) ?_
 simp
 refine aCall_of (var_af 9) (by simp) (by simp) ?_
 simp
 refine aCall_of (var_af 10) (by simp) (by simp) ?_
 simp
 refine aCall_of (var_af 11) (by simp) (by simp) ?_
 simp
 refine aCall_of (two_af 8 (eVar 9) (eVar 11) (by simp) (by simp)) (by simp) (by simp) ?_
 simp
 refine adraw [] (by kernel_rfl) (by kernel_rfl) (by kernel_rfl) (by kernel_rfl) ?_
 simp
 refine adC_of (const_af 1) (by simp) trivial (by simp) (by simp) ?_
 simp
 refine adC_of (not_af (eVar 8)) (by simp) trivial (by simp) (by simp) ?_
 simp
 refine adC_of (not_af (eTwo 8 (eVar 9) (eVar 11))) (by simp) trivial (by simp) (by simp) ?_
 simp
 refine adC_of (two_af 7 (eVar 8) (eTwo 8 (eVar 9) (eVar 11)) (by simp) (by simp)) (by simp) trivial (by simp) (by simp) ?_
 simp
 refine adC_of (two_af 7 (eVar 8) (eTwo 8 (eVar 9) (eVar 11)) (by simp) (by simp)) (by simp) trivial (by simp) (by simp) ?_
 simp
 refine adC_of (not_af (eTwo 7 (eVar 8) (eTwo 8 (eVar 9) (eVar 11)))) (by simp) trivial (by simp) (by simp) ?_
 simp
 refine adC_of (not_af (eVar 10)) (by simp) trivial (by simp) (by simp) ?_
 simp
 refine adC_of (two_af 7 (eVar 10) (eVar 8) (by simp) (by simp)) (by simp) trivial (by simp) (by simp) ?_
 simp
 refine adC_of (two_af 7 (eVar 10) (eVar 8) (by simp) (by simp)) (by simp) trivial (by simp) (by simp) ?_
 simp
 refine adC_of (not_af (eTwo 7 (eVar 10) (eVar 8))) (by simp) trivial (by simp) (by simp) ?_
 simp
 refine adC_of (not_af (eVar 9)) (by simp) trivial (by simp) (by simp) ?_
 simp
 refine adC_of (not_af (eVar 11)) (by simp) trivial (by simp) (by simp) ?_
 simp
 subst hE
 have hk' : k = 0 ∨ k = 1 ∨ k = 2 ∨ k = 3 ∨ k = 4 ∨ k = 5 ∨ k = 6 ∨ k = 7 ∨ k = 8 ∨ k = 9 ∨ k = 10 ∨ k = 11 ∨ k = 12 ∨ k = 13 ∨ k = 14 := by omega
 clear hk
 rcases hk' with rfl | rfl | rfl | rfl | rfl | rfl | rfl | rfl | rfl | rfl | rfl | rfl | rfl | rfl | rfl <;> simp [flagE, Ex.d_eq]
def recN (e : Ex) : Option Nat := (List.range 15).find? fun k => sameB e (flagE k)
def recA (e : Ex) : AV := match recN e with
 | some k => .tup [aI .i64 k, aB true]
 | none => .tup [aI .i64 0, aB false]
theorem rec_some {e : Ex} {k : Nat} (hk : k < 15) (h : sameB e (flagE k) = true) (hl : ∀ j, j < k → sameB e (flagE j) = false) : recA e = .tup [aI .i64 k, aB true] := by
 have : recN e = some k := by
  unfold recN
  rw [List.find?_eq_some_iff_getElem]
  refine ⟨h, k, by simpa using hk, by simp, fun j hj => by simpa using hl j hj⟩
 unfold recA
 rw [this]
theorem rec_none {e : Ex} (hl : ∀ j, j < 15 → sameB e (flagE j) = false) : recA e = .tup [aI .i64 0, aB false] := by
 have : recN e = none := by
  unfold recN
  rw [List.find?_eq_none]
  intro k hk
  simpa using hl k (by simpa using hk)
 unfold recA
 rw [this]
theorem order_at {k : Nat} (h : k < 15) : (({ data := #[97, 98, 99, 100, 101, 102, 103, 104, 105, 106, 107, 108, 109, 110, 111] } : ByteArray)[k]?).map (fun b => AV.d (.v (.int .u8 b.toNat))) = some (aI .u8 (97 + k)) := by
 have : k = 0 ∨ k = 1 ∨ k = 2 ∨ k = 3 ∨ k = 4 ∨ k = 5 ∨ k = 6 ∨ k = 7 ∨ k = 8 ∨ k = 9 ∨ k = 10 ∨ k = 11 ∨ k = 12 ∨ k = 13 ∨ k = 14 := by omega
 rcases this with rfl | rfl | rfl | rfl | rfl | rfl | rfl | rfl | rfl | rfl | rfl | rfl | rfl | rfl | rfl <;> rfl
theorem rec_af (x : Ex) : AF Tryz.prog 19 [exA x] (recA x) := by
 refine af_of Tryz.func19 rfl (by kernel_rfl) (by simp [Tryz.ntmps19]) fun _ => ?_
 obtain ⟨R, hR⟩ : ∃ R, recA x = R := ⟨_, rfl⟩
 rw [hR]
 simp [Tryz.f19]
 refine aLoop_of (α := Nat) (fun i e A => i ≤ 15 ∧ A = [⟨0, true, 53, 5, [[aI .i64 x.op, aI .u32 x.n, aI .i64 x.v, aI .i64 x.wd, .d (.sl 5 (Ex.ds x.l))]]⟩] ∧ e 1 = .ptr 0 0 0 0 ∧ e 6 = aI .i64 i ∧
  ∀ j, j < i → sameB x (flagE j) = false) (fun i => 15 - i) 0 (Sub.refl _ _ _) ⟨by omega, by simp, by simp, by simp, by intro j hj; omega⟩ ?_
 rintro i e A ⟨hi, rfl, e1, e6, hall⟩ K hK
 simp [e6]
 refine aCond_split (fun hlt => ?_) (fun hge => ?_)
 ·simp at hlt
  have hlt : i < 15 := by omega
  simp [e1, e6, order_at hlt]
  refine adraw [] (by kernel_rfl) (by kernel_rfl) (by kernel_rfl) (by kernel_rfl) ?_
  simp [e1]
  rw [u8w (n := 97 + (i : Int) - 97) (by omega), i64w (by omega), show (97 + (i : Int) - 97) = (i : Int) by omega]
  refine adC_of (flagExpr_af i hlt) (by simp) trivial (by simp) (by simp) ?_
  simp
  refine adC_of (same_af x (flagE i)) (by simp) trivial (by simp) (by simp) ?_
  simp
  refine aCond_split (fun hs => ?_) (fun hs => ?_)
  ·rw [rec_some hlt hs hall] at hR
   subst hR
   simp
  ·simp [e6, i64w (n := (i : Int) + 1) (by omega)]
   refine hK (i + 1) _ _ _ _ (Sub.refl _ _ _) ⟨by omega, rfl, by simp [e1], by simp, fun j hj => ?_⟩ (by omega)
   rcases Nat.lt_or_ge j i with h | h
   ·exact hall j h
   ·obtain rfl : j = i := by omega
    exact hs
 ·simp at hge
  rw [rec_none fun j hj => hall j (by omega)] at hR
  subst hR
  simp
theorem nodess_take {l : List Ex} {i : Nat} {x : Ex} (h : l[i]? = some x) : Ex.nodess (l.take (i + 1)) = Ex.nodess (l.take i) + x.nodes := by
 have : ∀ (a b : List Ex), Ex.nodess (a ++ b) = Ex.nodess a + Ex.nodess b := by
  intro a b
  induction a with
  | nil => simp [Ex.nodess]
  | cons y a ih => simp [Ex.nodess, ih]; omega
 rw [List.take_add_one, h, this]
 simp [Ex.nodess]
theorem nodess_take_le : ∀ (l : List Ex) (i : Nat), Ex.nodess (l.take i) ≤ Ex.nodess l
 | [], i => by simp
 | x :: l, 0 => by simp [Ex.nodess]
 | x :: l, i + 1 => by have := nodess_take_le l i; simp [Ex.nodess]; omega
theorem nodes_eq (x : Ex) : x.nodes = Ex.nodess x.l + 1 := by cases x; rfl
theorem size_af : ∀ (x : Ex) (m : Nat), 1 ≤ m → m ≤ 1000000000 → AF Tryz.prog 21 [exA x, aI .i64 m] (aI .i64 (m - x.nodes : Nat)) := by
 intro x
 induction x using Ex.ind with
 | h x ih =>
   intro m h1 h2
   refine af_of Tryz.func21 rfl (by kernel_rfl) (by simp [Tryz.ntmps21]) fun hb => ?_
   have n1 : x.l.length ≤ maxLen := by simpa using hb.1.2.2.2.2.1.1
   clear hb
   simp [Tryz.f21, i64w (n := (m : Int) - 1) (by omega)]
   refine aLoop_of (α := Nat) (fun i e A => i ≤ x.l.length ∧ A = [⟨0, true, 53, 5, [[aI .i64 x.op, aI .u32 x.n, aI .i64 x.v, aI .i64 x.wd, .d (.sl 5 (Ex.ds x.l))]]⟩] ∧ e 2 = .ptr 0 0 0 0 ∧ e 5 = aI .i64 i ∧
    e 1 = aI .i64 (m - 1 - Ex.nodess (x.l.take i) : Nat)) (fun i => x.l.length - i) 0 (Sub.refl _ _ _) ⟨by omega, by simp, by simp, by simp, by simp [Ex.nodess]; omega⟩ ?_
   rintro i e A ⟨hi, rfl, e2, e5, e1⟩ K hK
   simp [e2, e5]
   refine aG_split (fun hlt => ?_) (fun hge => ?_)
   ·simp at hlt
    have hi1 := gEG hlt
    simp [e1, hlt]
    refine aCond_split (fun hpos => ?_) (fun hz => ?_)
    ·simp at hpos
     simp [e2, e5, e1, hi1, Ex.d_eq]
     refine aCall_of (ih _ (gMO hi1) (m - 1 - Ex.nodess (x.l.take i)) (by omega) (by omega)) (by simp) (by simp) ?_
     simp [e5, succ_wrap hlt n1]
     refine hK (i + 1) _ _ _ _ (Sub.refl _ _ _) ⟨by omega, rfl, by simp [e2], by simp, ?_⟩ (by omega)
     simp
     rw [nodess_take hi1]
     omega
    ·simp at hz
     simp [e1]
     have h3 := nodess_take_le x.l i
     rw [nodes_eq]
     omega
   ·simp at hge
    obtain rfl : i = x.l.length := by omega
    simp [e1]
    rw [nodes_eq]
    omega
theorem varname_af (v : Nat) (h : v < 8) : AF Tryz.prog 78 [aI .i64 v] (aS (cat [⟨#[114]⟩, ⟨(Lib.decDigits v).toArray⟩])) := by
 refine af_of Tryz.func78 rfl (by kernel_rfl) (by simp [Tryz.ntmps78]) fun _ => ?_
 simp [Tryz.f78, show (v : Int) < 8 by omega]
 refine aCall_of (itoa_af v (by omega)) (by simp) (by simp) ?_
 simp
 refine aCall_ofs (iljoin_af [⟨#[114]⟩, ⟨(Lib.decDigits v).toArray⟩] ?_ (by simp)) (by simp) (by simp) (by simp) ?_
 ·have : Lib.decDigits v = [UInt8.ofNat (48 + v)] := by rw [Lib.decDigits]; simp; omega
  simp [this]
 simp
theorem text_var (v : Nat) (h : v < 8) : AF Tryz.prog 48 [exA (eVar v)] (aS (cat [⟨#[114]⟩, ⟨(Lib.decDigits v).toArray⟩])) := by
 refine af_of Tryz.func48 rfl (by kernel_rfl) (by simp [Tryz.ntmps48]) fun _ => ?_
 simp [Tryz.f48]
 refine aCall_of (varname_af v h) (by simp) (by simp) ?_
 simp
theorem text_not {a : Ex} {s : ByteArray} (ha : AF Tryz.prog 48 [exA a] (aS s)) (hs : s.data.toList.length ≤ 100000000) : AF Tryz.prog 48 [exA (eNot a)] (aS (cat [⟨#[33]⟩, s])) := by
 refine af_of Tryz.func48 rfl (by kernel_rfl) (by simp [Tryz.ntmps48]) fun _ => ?_
 simp [Tryz.f48, Ex.d_eq]
 refine aCall_of ha (by simp) (by simp) ?_
 simp
 refine aCall_ofs (iljoin_af [⟨#[33]⟩, s] (by simp; simp at hs; omega) (by simp)) (by simp) (by simp) (by simp) ?_
 simp
theorem symbol_lt : AF Tryz.prog 81 [aI .i64 14] (aS ⟨#[60, 115]⟩) := by
 refine af_of Tryz.func81 rfl (by kernel_rfl) (by simp [Tryz.ntmps81]) fun _ => ?_
 simp [Tryz.f81]
theorem text_lt {a b : Ex} {s t : ByteArray} (ha : AF Tryz.prog 48 [exA a] (aS s)) (hb : AF Tryz.prog 48 [exA b] (aS t)) (hs : s.data.toList.length ≤ 100000000) (ht : t.data.toList.length ≤ 100000000) :
 AF Tryz.prog 48 [exA (eTwo 14 a b)] (aS (cat [⟨#[40]⟩, s, ⟨#[32]⟩, ⟨#[60, 115]⟩, ⟨#[32]⟩, t, ⟨#[41]⟩])) := by
 refine af_of Tryz.func48 rfl (by kernel_rfl) (by simp [Tryz.ntmps48]) fun _ => ?_
 simp [Tryz.f48, Ex.d_eq]
 refine adraw [] (by kernel_rfl) (by kernel_rfl) (by kernel_rfl) (by kernel_rfl) ?_
 simp [Ex.d_eq]
 refine adC_of ha (by simp) trivial (by simp) (by simp) ?_
 simp
 refine adC_of symbol_lt (by simp) trivial (by simp) (by simp) ?_
 simp [Ex.d_eq]
 refine adC_of hb (by simp) trivial (by simp) (by simp) ?_
 simp
 refine adC_ofs (iljoin_af [⟨#[40]⟩, s, ⟨#[32]⟩, ⟨#[60, 115]⟩, ⟨#[32]⟩, t, ⟨#[41]⟩] (by simp; simp at hs ht; omega) (by simp)) (by simp) trivial (by simp) (by simp) (by simp) ?_
 simp
theorem print_af {e : Ex} {s : ByteArray} (h1 : shalB 64 e = true) (h2 : formB e = true) (h : AF Tryz.prog 48 [exA e] (aS s)) : AF Tryz.prog 20 [exA e] (aS s) := by
 refine af_of Tryz.func20 rfl (by kernel_rfl) (by simp [Tryz.ntmps20]) fun _ => ?_
 simp [Tryz.f20]
 refine aCall_of (check_af e) (by simp) (by simp) ?_
 simp [h1, h2]
 refine aCall_of h (by simp) (by simp) ?_
 simp
theorem rec8 : recA (eVar 8) = .tup [aI .i64 (1 : Nat), aB true] :=
 rec_some (by omega) (by rfl) (fun j hj => by have : j = 0 := by omega
                                              subst this; rfl)
theorem ex23_af : AF Tryz.prog 6 [] (aB true) := by
 refine af_of Tryz.func6 rfl (by kernel_rfl) (by simp [Tryz.ntmps6]) fun _ => ?_
 simp [Tryz.f6]
 refine aCall_of (var_af 1) (by simp) (by simp) ?_
 simp
 refine aCall_of (var_af 2) (by simp) (by simp) ?_
 simp
 refine aCall_of (cond_af 5 (eVar 1) (eVar 2) (by simp) (by simp)) (by simp) (by simp) ?_
 simp
 refine aCall_of (var_af 8) (by simp) (by simp) ?_
 simp
 refine aCall_of (rec8 ▸ rec_af (eVar 8)) (by simp) (by simp) ?_
 simp
 have h5 : condE 5 (eVar 1) (eVar 2) = eNot (eTwo 14 (eVar 2) (eVar 1)) := rfl
 have h1 : AF Tryz.prog 48 [exA (eVar 1)] (aS ⟨#[114, 49]⟩) := by
  have := text_var 1 (by omega)
  rwa [show cat [⟨#[114]⟩, ⟨(Lib.decDigits 1).toArray⟩] = (⟨#[114, 49]⟩ : ByteArray) by decide +kernel] at this
 have h2 : AF Tryz.prog 48 [exA (eVar 2)] (aS ⟨#[114, 50]⟩) := by
  have := text_var 2 (by omega)
  rwa [show cat [⟨#[114]⟩, ⟨(Lib.decDigits 2).toArray⟩] = (⟨#[114, 50]⟩ : ByteArray) by decide +kernel] at this
 have h3 := text_not (text_lt h2 h1 (by simp) (by simp)) (by simp [cat])
 have h4 := print_af (e := condE 5 (eVar 1) (eVar 2)) (by rfl) (by rfl) (by rw [h5]; exact h3)
 refine aCall_of h4 (by simp) (by simp) ?_
 simp [cat]
mutual
def nodI : Ex → Int → Int → Int
 | .mk _ _ _ _ l, m, n => if m < 1 ∨ n < 1 ∨ 4 < l.length then -1 else nodL l (m - 1) (n - 1)
def nodL : List Ex → Int → Int → Int
 | [], _, n => n
 | x :: l, m, n => if 0 ≤ n then nodL l m (nodI x m n) else n
end
theorem nodI_eq (e : Ex) (m n : Int) : nodI e m n = if m < 1 ∨ n < 1 ∨ 4 < e.l.length then -1 else nodL e.l (m - 1) (n - 1) := by
 cases e
 rw [nodI]
 rfl
theorem nodL_neg (l : List Ex) (m n : Int) (h : n < 0) : nodL l m n = n := by
 cases l with
 | nil => rw [nodL]
 | cons x l => rw [nodL, if_neg (by omega)]
mutual
theorem nodI_le : ∀ (e : Ex) (m n : Int), -1 ≤ n → -1 ≤ nodI e m n ∧ (nodI e m n = -1 ∨ nodI e m n + e.nodes = n ∧ e.depth ≤ m)
 | .mk o k v w l, m, n, h => by
   rw [nodI]
   split
   ·exact ⟨by omega, .inl rfl⟩
   ·rename_i hc
    have := nodL_le l (m - 1) (n - 1) (by omega)
    refine ⟨this.1, ?_⟩
    simp only [Ex.nodes, Ex.depth]
    rcases this.2 with h1 | h1
    ·exact .inl h1
    ·right
     omega
theorem nodL_le : ∀ (l : List Ex) (m n : Int), -1 ≤ n → -1 ≤ nodL l m n ∧ (nodL l m n = -1 ∨ nodL l m n + Ex.nodess l = n ∧ (Ex.depths l : Int) ≤ max m 0)
 | [], m, n, h => by
   rw [nodL]
   refine ⟨h, .inr ⟨by simp [Ex.nodess], by simp only [Ex.depths]; omega⟩⟩
 | x :: l, m, n, h => by
   rw [nodL]
   split
   ·have h1 := nodI_le x m n h
    have h2 := nodL_le l m (nodI x m n) h1.1
    refine ⟨h2.1, ?_⟩
    simp only [Ex.nodess, Ex.depths]
    rcases h2.2 with h3 | h3
    ·exact .inl h3
    ·rcases h1.2 with h4 | h4
     ·left
      rw [h4]
      exact nodL_neg l m _ (by omega)
     ·right
      omega
   ·exact ⟨h, .inl (by omega)⟩
end
theorem nodes_af : ∀ (e : Ex) (m n : Int), -1000000 ≤ m → m ≤ 1000000 → -1 ≤ n → n ≤ 1000000 → AF Tryz.prog 66 [exA e, aI .i64 m, aI .i64 n] (aI .i64 (nodI e m n)) := by
 intro e
 induction e using Ex.ind with
 | h e ih =>
 intro m n hm1 hm2 hn1 hn2
 refine af_of Tryz.func66 rfl (by kernel_rfl) (by simp [Tryz.ntmps66]) fun _ => ?_
 rw [nodI_eq]
 by_cases h1 : m < 1
 ·simp [Tryz.f66, h1]
 by_cases h2 : n < 1
 ·simp [Tryz.f66, h1, h2]
 by_cases h3 : 4 < e.l.length
 ·simp [Tryz.f66, h1, h2, show (4 : Int) < e.l.length by omega, h3]
 simp [Tryz.f66, h1, h2, h3, show ¬ ((4 : Int) < e.l.length) by omega]
 obtain ⟨R, hR⟩ : ∃ R, nodL e.l (m - 1) (n - 1) = R := ⟨_, rfl⟩
 rw [hR]
 refine aLoop_of (α := Nat) (fun i g A => i ≤ e.l.length ∧ A = [⟨0, true, 53, 5, [[aI .i64 e.op, aI .u32 e.n, aI .i64 e.v, aI .i64 e.wd, .d (.sl 5 (Ex.ds e.l))]]⟩] ∧ g 3 = .ptr 0 0 0 0 ∧ g 8 = aI .i64 i ∧ g 1 = aI .i64 m ∧
  ∃ c : Int, g 7 = aI .i64 c ∧ -1 ≤ c ∧ c ≤ 1000000 ∧ nodL (e.l.drop i) (m - 1) c = R) (fun i => e.l.length - i) 0 (Sub.refl _ _ _)
  ⟨by omega, by simp, by simp, by simp, by simp, n - 1, by simp [i64w (n := n - 1) (by omega)], by omega, by omega, by simpa using hR⟩ ?_
 rintro i g A ⟨hi, rfl, g3, g8, g1, c, g7, hc1, hc2, hcR⟩ K hK
 rcases Nat.lt_or_ge i e.l.length with hlt | hge
 case inr =>
  obtain rfl : i = e.l.length := by omega
  simp at hcR
  rw [nodL] at hcR
  subst hcR
  simp [g3, g8, g7]
 by_cases hc : 0 ≤ c
 case neg =>
  rw [nodL_neg _ _ _ (by omega)] at hcR
  subst hcR
  simp [g3, g8, g7, hlt, hc]
 obtain ⟨x, hx⟩ : ∃ x, e.l[i]? = some x := ⟨_, gEG hlt⟩
 have hx' := (gSI.1 hx).2
 have hd : e.l.drop i = x :: e.l.drop (i + 1) := by rw [List.drop_eq_getElem_cons hlt, hx']
 rw [hd, nodL, if_pos hc] at hcR
 simp [g3, g8, g7, g1, hlt, hc, hx, hx', Ex.d_eq, i64w (n := m - 1) (by omega)]
 have hb := nodI_le x (m - 1) c hc1
 have := Ex.nodes_pos x
 refine aCall_of (ih x (gMO hx) (m - 1) c (by omega) (by omega) hc1 hc2) (by simp) (by simp) ?_
 simp [g8, i64w (n := (i : Int) + 1) (by omega)]
 refine hK (i + 1) _ _ _ _ (Sub.refl _ _ _) ⟨by omega, by simp [Ex.d_eq], by simp [g3], by simp, by simp [g1], nodI x (m - 1) c, by simp, hb.1, by omega, hcR⟩ (by omega)
namespace Ex
def x (e : Ex) : Ex := e.l.getD 0 (eCon 0)
def y (e : Ex) : Ex := e.l.getD 1 (eCon 0)
end Ex
section
variable (op n v w : Int) (a b : Ex) (l : List Ex)
@[simp] theorem x_two : (eTwo op a b).x = a := rfl
@[simp] theorem y_two : (eTwo op a b).y = b := rfl
@[simp] theorem x_one : (eOne op a).x = a := rfl
@[simp] theorem x_mk : (Ex.mk op n v w (a :: l)).x = a := rfl
@[simp] theorem y_mk : (Ex.mk op n v w (a :: b :: l)).y = b := rfl
end
theorem form_all {e : Ex} (h : formB e = true) : okE e.op e.n e.v e.wd e.l.length = true ∧ ∀ x ∈ e.l, formB x = true := by
 rw [formB_eq, Bool.and_eq_true, List.all_eq_true] at h
 exact h
theorem okE_con {n v w : Int} {k : Nat} : okE 1 n v w k = true ↔ v = 0 ∧ w = 0 ∧ k = 0 := by simp [okE, and_assoc]
theorem okE_var {n v w : Int} {k : Nat} : okE 2 n v w k = true ↔ n = 0 ∧ w = 0 ∧ k = 0 ∧ 0 ≤ v ∧ v < 65536 := by simp [okE, and_assoc]
theorem okE_two {op n v w : Int} {k : Nat} (h3 : 3 ≤ op) (h15 : op ≤ 15) : okE op n v w k = true ↔ n = 0 ∧ v = 0 ∧ w = 0 ∧ k = 2 := by
 unfold okE
 rw [if_neg (by omega), if_neg (by omega), if_pos ⟨h3, h15⟩]
 simp [and_assoc]
theorem okE_one {op n v w : Int} {k : Nat} (ho : op = 16 ∨ op = 17) : okE op n v w k = true ↔ n = 0 ∧ v = 0 ∧ w = 0 ∧ k = 1 := by
 rcases ho with rfl | rfl <;> simp [okE, and_assoc]
theorem okE_load {n v w : Int} {k : Nat} : okE 18 n v w k = true ↔ n = 0 ∧ v = 0 ∧ (w = 1 ∨ w = 2 ∨ w = 4) ∧ k = 1 := by simp [okE, and_assoc, or_assoc]
theorem okE_sext {n v w : Int} {k : Nat} : okE 19 n v w k = true ↔ n = 0 ∧ v = 0 ∧ (w = 1 ∨ w = 2) ∧ k = 1 := by simp [okE, and_assoc]
theorem okE_no {op n v w : Int} {k : Nat} (h : op < 1 ∨ 19 < op) : okE op n v w k = false := by
 unfold okE
 rw [if_neg (by omega), if_neg (by omega), if_neg (by omega), if_neg (by omega), if_neg (by omega), if_neg (by omega)]
theorem form_con {e : Ex} (h : formB e = true) (ho : e.op = 1) : e = eCon e.n := by
 have h1 := (form_all h).1
 rw [ho, okE_con] at h1
 obtain ⟨op, n, v, w, l⟩ := e
 simp only [Ex.op_mk, Ex.v_mk, Ex.wd_mk, Ex.l_mk] at h1 ho
 obtain ⟨rfl, rfl, hl⟩ := h1
 subst ho
 match l, hl with
 | [], _ => rfl
theorem form_var {e : Ex} (h : formB e = true) (ho : e.op = 2) : e = eVar e.v ∧ 0 ≤ e.v ∧ e.v < 65536 := by
 have h1 := (form_all h).1
 rw [ho, okE_var] at h1
 obtain ⟨op, n, v, w, l⟩ := e
 simp only [Ex.op_mk, Ex.n_mk, Ex.v_mk, Ex.wd_mk, Ex.l_mk] at h1 ho
 obtain ⟨rfl, rfl, hl, h2, h3⟩ := h1
 subst ho
 match l, hl with
 | [], _ => exact ⟨rfl, h2, h3⟩
theorem form_two {e : Ex} (h : formB e = true) (h3 : 3 ≤ e.op) (h15 : e.op ≤ 15) : ∃ a b, e = eTwo e.op a b ∧ formB a = true ∧ formB b = true := by
 obtain ⟨h1, h2⟩ := form_all h
 rw [okE_two h3 h15] at h1
 obtain ⟨op, n, v, w, l⟩ := e
 simp only [Ex.n_mk, Ex.v_mk, Ex.wd_mk, Ex.l_mk] at h1 h2
 obtain ⟨rfl, rfl, rfl, hl⟩ := h1
 match l, hl with
 | [a, b], _ => exact ⟨a, b, rfl, h2 a (by simp), h2 b (by simp)⟩
theorem form_one {e : Ex} (h : formB e = true) (ho : e.op = 16 ∨ e.op = 17) : ∃ a, e = eOne e.op a ∧ formB a = true := by
 obtain ⟨h1, h2⟩ := form_all h
 rw [okE_one ho] at h1
 obtain ⟨op, n, v, w, l⟩ := e
 simp only [Ex.n_mk, Ex.v_mk, Ex.wd_mk, Ex.l_mk] at h1 h2
 obtain ⟨rfl, rfl, rfl, hl⟩ := h1
 match l, hl with
 | [a], _ => exact ⟨a, rfl, h2 a (by simp)⟩
theorem form_wide {e : Ex} (h : formB e = true) (ho : e.op = 18 ∨ e.op = 19) : ∃ a, e = .mk e.op 0 0 e.wd [a] ∧ formB a = true ∧ (e.wd = 1 ∨ e.wd = 2 ∨ e.wd = 4 ∧ e.op = 18) := by
 obtain ⟨h1, h2⟩ := form_all h
 have h1' : e.n = 0 ∧ e.v = 0 ∧ (e.wd = 1 ∨ e.wd = 2 ∨ e.wd = 4 ∧ e.op = 18) ∧ e.l.length = 1 := by
  rcases ho with ho | ho
  ·rw [ho, okE_load] at h1; omega
  ·rw [ho, okE_sext] at h1; omega
 obtain ⟨op, n, v, w, l⟩ := e
 simp only [Ex.op_mk, Ex.n_mk, Ex.v_mk, Ex.wd_mk, Ex.l_mk] at h1' h2
 obtain ⟨rfl, rfl, hw, hl⟩ := h1'
 match l, hl with
 | [a], _ => exact ⟨a, rfl, h2 a (by simp), hw⟩
theorem form_op {e : Ex} (h : formB e = true) : 1 ≤ e.op ∧ e.op ≤ 19 := by
 have h1 := (form_all h).1
 rcases Int.lt_or_le e.op 1 with h2 | h2
 ·rw [okE_no (.inl h2)] at h1; cases h1
 ·rcases Int.lt_or_le 19 e.op with h3 | h3
  ·rw [okE_no (.inr h3)] at h1; cases h1
  ·exact ⟨h2, h3⟩
theorem sameB_iff : ∀ {a b : Ex}, sameB a b = true ↔ a = b := by
 intro a
 induction a using Ex.ind with
 | h a ih =>
   intro b
   constructor
   ·intro h
    rw [sameB_eq] at h
    simp only [Bool.and_eq_true, beq_iff_eq] at h
    obtain ⟨⟨⟨⟨h1, h2⟩, h3⟩, h4⟩, h5⟩ := h
    have hl : ∀ l l' : List Ex, (∀ x ∈ l, ∀ b, sameB x b = true ↔ x = b) → all2 sameB l l' = true → l = l' := by
     intro l
     induction l with
     | nil => intro l' _ h; cases l' with | nil => rfl | cons y l' => simp [all2] at h
     | cons x l ihl =>
       intro l' hx h
       cases l' with
       | nil => simp [all2] at h
       | cons y l' =>
         simp only [all2, Bool.and_eq_true] at h
         rw [(hx x (by simp) y).1 h.1, ihl l' (fun z hz => hx z (by simp [hz])) h.2]
    have := hl _ _ (fun x hx b => ih x hx) h5
    rw [← Ex.eta a, ← Ex.eta b, h1, h2, h3, h4, this]
   ·rintro rfl
    exact sameB_refl a
def wOp (op : Int) : Nat := if op = 3 ∨ op = 4 ∨ op = 9 ∨ op = 10 ∨ op = 11 then 2 else 1
mutual
def Ex.wt : Ex → Nat
 | .mk op _ _ _ l => wOp op + wts l
def wts : List Ex → Nat
 | [] => 0
 | e :: l => e.wt + wts l
end
@[simp] theorem wt_con (n : Int) : (eCon n).wt = 1 := rfl
theorem form_eTwo {op : Int} {a b : Ex} (h3 : 3 ≤ op) (h15 : op ≤ 15) (ha : formB a = true) (hb : formB b = true) : formB (eTwo op a b) = true := by
 rw [formB_eq, Bool.and_eq_true]
 exact ⟨(okE_two (op := op) h3 h15).2 ⟨rfl, rfl, rfl, rfl⟩, by simp [ha, hb]⟩
theorem form_eCon (n : Int) : formB (eCon n) = true := by
 rw [formB_eq]
 simp [eCon, okE]
theorem form_eOne {op : Int} {a : Ex} (h : op = 16 ∨ op = 17) (ha : formB a = true) : formB (eOne op a) = true := by
 rw [formB_eq]
 rcases h with rfl | rfl <;> simp [eOne, okE, ha]
theorem form_map {e : Ex} {f : Ex → Ex} (h : formB e = true) (hf : ∀ x ∈ e.l, formB (f x) = true) : formB (.mk e.op e.n e.v e.wd (e.l.map f)) = true := by
 obtain ⟨h1, h2⟩ := form_all h
 rw [formB_eq, Bool.and_eq_true, List.all_eq_true]
 simp only [Ex.op_mk, Ex.n_mk, Ex.v_mk, Ex.wd_mk, Ex.l_mk, List.length_map]
 refine ⟨h1, fun x hx => ?_⟩
 obtain ⟨y, hy, rfl⟩ := List.mem_map.1 hx
 exact hf y hy
theorem u32e (n : Int) : IntKind.u32.wrap n = n % 4294967296 := by simp [IntKind.wrap, IntKind.signed, IntKind.bits]
def R32 (x : Int) : Prop := 0 ≤ x ∧ x < 4294967296
inductive OkN : Ex → Prop where
 | mk {e : Ex} : R32 e.n → (∀ x ∈ e.l, OkN x) → OkN e
theorem OkN.n {e : Ex} (h : OkN e) : R32 e.n := by cases h; assumption
theorem OkN.l {e : Ex} (h : OkN e) : ∀ x ∈ e.l, OkN x := by cases h; assumption
theorem okN_con {n : Int} (h : R32 n) : OkN (eCon n) := .mk h (by simp)
theorem r32_0 : R32 0 := ⟨by omega, by omega⟩
theorem okN_two {op : Int} {a b : Ex} (ha : OkN a) (hb : OkN b) : OkN (eTwo op a b) := .mk r32_0 (by simp; exact ⟨ha, hb⟩)
theorem okN_one {op : Int} {a : Ex} (ha : OkN a) : OkN (eOne op a) := .mk r32_0 (by simpa using ha)
theorem r32_mod (n : Int) : R32 (n % 4294967296) := ⟨Int.emod_nonneg _ (by omega), Int.emod_lt_of_pos _ (by omega)⟩
theorem r32_wrap (n : Int) : R32 (IntKind.u32.wrap n) := by rw [u32e]; exact r32_mod n
abbrev aU (x : Int) : AV := aI .u32 x
def shI (y : Int) : Int := andI .u32 y 31
theorem bshl_af (x y : Int) : AF Tryz.prog 141 [aU x, aU y] (aU (shlI .u32 x (shI y))) := by
 refine af_of Tryz.func141 rfl (by kernel_rfl) (by simp [Tryz.ntmps141]) fun _ => ?_
 simp [Tryz.f141, shI]
theorem bshr_af (x y : Int) : AF Tryz.prog 142 [aU x, aU y] (aU (shrI .u32 x (shI y))) := by
 refine af_of Tryz.func142 rfl (by kernel_rfl) (by simp [Tryz.ntmps142]) fun _ => ?_
 simp [Tryz.f142, shI]
theorem bsar_af (x y : Int) : AF Tryz.prog 143 [aU x, aU y] (aU (IntKind.u32.wrap (shrI .i32 (IntKind.i32.wrap x) (shI y)))) := by
 refine af_of Tryz.func143 rfl (by kernel_rfl) (by simp [Tryz.ntmps143]) fun _ => ?_
 simp [Tryz.f143, shI]
theorem btruth_af (b : Bool) : AF Tryz.prog 144 [aB b] (aU (if b then 1 else 0)) := by
 refine af_of Tryz.func144 rfl (by kernel_rfl) (by simp [Tryz.ntmps144]) fun _ => ?_
 simp [Tryz.f144]
 cases b <;> simp
def appL (x y : Int) : List Int := [IntKind.u32.wrap (x + y), IntKind.u32.wrap (x - y), IntKind.u32.wrap (x * y), andI .u32 x y, orI .u32 x y, xorI .u32 x y, shlI .u32 x (shI y), shrI .u32 x (shI y), IntKind.u32.wrap (shrI .i32 (IntKind.i32.wrap x) (shI y)),
 if x = y then 1 else 0, if x = y then 0 else 1, if IntKind.i32.wrap x < IntKind.i32.wrap y then 1 else 0, if x < y then 1 else 0]
def appI (op : Nat) (x y : Int) : Int := (appL x y).getD (op - 3) 0
theorem bapply_af (op : Nat) (x y : Int) (h : 3 ≤ op ∧ op ≤ 15) : AF Tryz.prog 121 [aI .i64 op, aU x, aU y] (.tup [aU (appI op x y), aI .i64 0]) := by
 refine af_of Tryz.func121 rfl (by kernel_rfl) (by simp [Tryz.ntmps121]) fun _ => ?_
 simp [Tryz.f121, show ¬ ((op : Int) < 3) by omega, show ¬ (15 < (op : Int)) by omega]
 refine aCall_of (bshl_af x y) (by simp) (by simp) ?_
 simp
 refine aCall_of (bshr_af x y) (by simp) (by simp) ?_
 simp
 refine aCall_of (bsar_af x y) (by simp) (by simp) ?_
 simp
 refine aCall_of (btruth_af (decide (x = y))) (by simp) (by simp) ?_
 simp
 refine aCall_of (btruth_af (!decide (x = y))) (by simp) (by simp) ?_
 simp
 refine aCall_of (btruth_af (decide (IntKind.i32.wrap x < IntKind.i32.wrap y))) (by simp) (by simp) ?_
 simp
 refine aCall_of (btruth_af (decide (x < y))) (by simp) (by simp) ?_
 simp
 obtain rfl | rfl | rfl | rfl | rfl | rfl | rfl | rfl | rfl | rfl | rfl | rfl | rfl : op = 3 ∨ op = 4 ∨ op = 5 ∨ op = 6 ∨ op = 7 ∨ op = 8 ∨ op = 9 ∨ op = 10 ∨ op = 11 ∨ op = 12 ∨ op = 13 ∨ op = 14 ∨ op = 15 := by omega
 all_goals simp [appI, appL]
abbrev bxE (e : Ex) : Blk := ⟨0, true, 53, 5, [[aI .i64 e.op, aI .u32 e.n, aI .i64 e.v, aI .i64 e.wd, .d (.sl 5 (Ex.ds e.l))]]⟩
def lowN (n : Int) : List Int → Nat
 | [] => 0
 | a :: l => if a < n then lowN n l + 1 else 0
def insL (l : List Int) (n : Int) : List Int := if l[lowN n l]? = some n then l else l.take (lowN n l) ++ n :: l.drop (lowN n l)
theorem dEls_i64 (l : List Int) : (∀ x, x ∈ dEls (i64s l) → x.length = 1) ↔ True := by
 refine iff_true_intro fun x hx => ?_
 simp only [dEls, i64s, List.map_map, List.mem_map] at hx
 obtain ⟨n, _, rfl⟩ := hx
 rfl
def occ : Ex → List Int
 | .mk o _ w _ l => (if o = 2 then [w] else []) ++ occs l
where occs : List Ex → List Int
 | [] => []
 | e :: l => occ e ++ occs l
def varsR : Ex → List Int
 | .mk o _ w _ l => varsRs (if o = 2 then [w] else []) l
where varsRs (out : List Int) : List Ex → List Int
 | [] => out
 | e :: l => varsRs ((varsR e).foldl insL out) l
theorem occ_eq (e : Ex) : occ e = (if e.op = 2 then [e.v] else []) ++ occ.occs e.l := by cases e; rfl
theorem varsR_eq (e : Ex) : varsR e = varsR.varsRs (if e.op = 2 then [e.v] else []) e.l := by cases e; rfl
def Asc (l : List Int) : Prop := l.Pairwise (· < ·)
def insR (n : Int) : List Int → List Int
 | [] => [n]
 | a :: l => if a < n then a :: insR n l else if a = n then a :: l else n :: a :: l
theorem insL_eq (n : Int) : ∀ l : List Int, insL l n = insR n l
 | [] => by simp [insL, insR, lowN]
 | a :: l => by
   have ih := insL_eq n l
   unfold insL at ih ⊢
   by_cases h : a < n
   ·simp only [lowN, if_pos h, insR, List.getElem?_cons_succ, List.take_succ_cons, List.drop_succ_cons]
    rw [← ih]
    split <;> simp
   ·simp only [lowN, if_neg h, insR, List.getElem?_cons_zero, List.take_zero, List.drop_zero, Option.some.injEq, List.nil_append]
theorem insR_mem (n v : Int) : ∀ l : List Int, v ∈ insR n l ↔ v = n ∨ v ∈ l
 | [] => by simp [insR]
 | a :: l => by
   simp only [insR]
   split
   ·simp only [List.mem_cons, insR_mem n v l]
    constructor
    ·rintro (h | h | h)
     ·exact .inr (.inl h)
     ·exact .inl h
     ·exact .inr (.inr h)
    ·rintro (h | h | h)
     ·exact .inr (.inl h)
     ·exact .inl h
     ·exact .inr (.inr h)
   ·split
    ·rename_i h
     subst h
     simp only [List.mem_cons]
     constructor
     ·exact .inr
     ·rintro (h | h)
      ·exact .inl h
      ·exact h
    ·simp only [List.mem_cons]
theorem insR_asc (n : Int) : ∀ {l : List Int}, Asc l → Asc (insR n l)
 | [], _ => by simp [insR, Asc]
 | a :: l, h => by
   obtain ⟨h1, h2⟩ := List.pairwise_cons.1 h
   have ih := insR_asc n h2
   simp only [insR]
   split
   ·refine List.pairwise_cons.2 ⟨fun v hv => ?_, ih⟩
    rcases (insR_mem n v l).1 hv with rfl | hv
    ·assumption
    ·exact h1 v hv
   ·split
    ·exact h
    ·refine List.pairwise_cons.2 ⟨fun v hv => ?_, h⟩
     rcases List.mem_cons.1 hv with rfl | hv
     ·omega
     ·have := h1 v hv
      omega
theorem insR_len (n : Int) : ∀ l : List Int, (insR n l).length ≤ l.length + 1
 | [] => by simp [insR]
 | a :: l => by
   have := insR_len n l
   simp only [insR]
   split
   ·simp; omega
   ·split <;> simp
theorem insL_mem {n v : Int} {l : List Int} : v ∈ insL l n ↔ v = n ∨ v ∈ l := by rw [insL_eq, insR_mem]
theorem insL_asc {n : Int} {l : List Int} (h : Asc l) : Asc (insL l n) := by rw [insL_eq]; exact insR_asc n h
theorem insL_len (l : List Int) (n : Int) : (insL l n).length ≤ l.length + 1 := by rw [insL_eq]; exact insR_len n l
theorem fold_mem {v : Int} : ∀ {m l : List Int}, v ∈ m.foldl insL l ↔ v ∈ l ∨ v ∈ m
 | [], l => by simp
 | a :: m, l => by
   simp only [List.foldl_cons, fold_mem (m := m), insL_mem, List.mem_cons]
   constructor
   ·rintro ((h | h) | h)
    ·exact .inr (.inl h)
    ·exact .inl h
    ·exact .inr (.inr h)
   ·rintro (h | h | h)
    ·exact .inl (.inr h)
    ·exact .inl (.inl h)
    ·exact .inr h
theorem fold_asc : ∀ {m l : List Int}, Asc l → Asc (m.foldl insL l)
 | [], _, h => h
 | a :: m, l, h => by
   rw [List.foldl_cons]
   exact fold_asc (m := m) (insL_asc h)
theorem fold_len : ∀ (m l : List Int), (m.foldl insL l).length ≤ l.length + m.length
 | [], l => by simp
 | a :: m, l => by
   have h1 := fold_len m (insL l a)
   have h2 := insL_len l a
   simp only [List.foldl_cons, List.length_cons]
   omega
theorem varsR_all : ∀ e : Ex, (∀ v, v ∈ varsR e ↔ v ∈ occ e) ∧ Asc (varsR e) ∧ (varsR e).length ≤ e.nodes := by
 intro e
 induction e using Ex.ind with
 | h e ih =>
 have hl : ∀ (l : List Ex), (∀ x ∈ l, (∀ v, v ∈ varsR x ↔ v ∈ occ x) ∧ Asc (varsR x) ∧ (varsR x).length ≤ x.nodes) → ∀ out : List Int, Asc out →
  (∀ v, v ∈ varsR.varsRs out l ↔ v ∈ out ∨ v ∈ occ.occs l) ∧ Asc (varsR.varsRs out l) ∧ (varsR.varsRs out l).length ≤ out.length + Ex.nodess l := by
  intro l
  induction l with
  | nil => intro _ out h; simp [varsR.varsRs, occ.occs, h]
  | cons a l ihl =>
    intro h out ho
    obtain ⟨a1, a2, a3⟩ := h a (by simp)
    obtain ⟨b1, b2, b3⟩ := ihl (fun x hx => h x (by simp [hx])) ((varsR a).foldl insL out) (fold_asc ho)
    have b4 := fold_len (varsR a) out
    refine ⟨fun v => ?_, b2, ?_⟩
    ·simp only [varsR.varsRs, occ.occs, b1 v, fold_mem, a1 v, List.mem_append]
     exact or_assoc
    ·simp only [varsR.varsRs, Ex.nodess]
     omega
 have h0 : Asc (if e.op = 2 then [e.v] else []) := by split <;> simp [Asc]
 have h1 : (if e.op = 2 then [e.v] else []).length ≤ 1 := by split <;> simp
 obtain ⟨c1, c2, c3⟩ := hl e.l ih _ h0
 have hne : e.nodes = Ex.nodess e.l + 1 := by cases e; rfl
 rw [varsR_eq, occ_eq, hne]
 refine ⟨fun v => by rw [c1 v, List.mem_append], c2, by omega⟩
theorem varsR_mem {e : Ex} {v : Int} : v ∈ varsR e ↔ v ∈ occ e := (varsR_all e).1 v
theorem varsR_asc (e : Ex) : Asc (varsR e) := (varsR_all e).2.1
theorem varsR_len (e : Ex) : (varsR e).length ≤ e.nodes := (varsR_all e).2.2
theorem asc_ext : ∀ {l m : List Int}, Asc l → Asc m → (∀ v, v ∈ l ↔ v ∈ m) → l = m
 | [], [], _, _, _ => rfl
 | [], b :: m, _, _, h => absurd ((h b).2 (by simp)) (by simp)
 | a :: l, [], _, _, h => absurd ((h a).1 (by simp)) (by simp)
 | a :: l, b :: m, h1, h2, h => by
   obtain ⟨p1, p2⟩ := List.pairwise_cons.1 h1
   obtain ⟨q1, q2⟩ := List.pairwise_cons.1 h2
   have e1 : a = b := by
    have x := (h a).1 (by simp)
    have y := (h b).2 (by simp)
    rcases List.mem_cons.1 x with rfl | x
    ·rfl
    rcases List.mem_cons.1 y with rfl | y
    ·rfl
    have := q1 a x
    have := p1 b y
    omega
   subst e1
   rw [asc_ext p2 q2 fun v => ?_]
   constructor
   ·intro hv
    have := p1 v hv
    rcases List.mem_cons.1 ((h v).1 (by simp [hv])) with rfl | hv
    ·omega
    ·exact hv
   ·intro hv
    have := q1 v hv
    rcases List.mem_cons.1 ((h v).2 (by simp [hv])) with rfl | hv
    ·omega
    ·exact hv
def noFlB : Ex → Bool
 | .mk o _ v _ l => !decide (o = 18 ∨ o = 2 ∧ 8 ≤ v ∧ v ≤ 11) && noFlL l
where noFlL : List Ex → Bool
 | [] => true
 | e :: l => noFlB e && noFlL l
theorem noFl_eq (e : Ex) : noFlB e = (!decide (e.op = 18 ∨ e.op = 2 ∧ 8 ≤ e.v ∧ e.v ≤ 11) && e.l.all noFlB) := by
 obtain ⟨o, n, v, w, l⟩ := e
 have : ∀ l : List Ex, noFlB.noFlL l = l.all noFlB := by
  intro l
  induction l with
  | nil => rfl
  | cons a l ih => simp only [noFlB.noFlL, ih, List.all_cons]
 simp only [noFlB, this, Ex.op_mk, Ex.v_mk, Ex.l_mk]
 rfl
def setB (s : St) (v : Int) (e : Ex) : Bool := decide (s.op = 1) && decide (s.va = v) && (match s.e with
 | [x] => sameB x e
 | _ => false)
def fullB (a b : Ex) (s0 s1 s2 s3 : St) : Bool := setB s0 8 (eTwo 12 a b) && setB s1 9 (eMinus a b) && setB s2 10 (eTwo 15 a b) && setB s3 11 (eOver a b)
def shortB (a b : Ex) (s0 s1 s2 s3 : St) : Bool := sameB b (eCon 0) && setB s0 8 (eTwo 12 a b) && setB s1 9 (eTwo 14 a b) && setB s2 10 (eCon 0) && setB s3 11 (eCon 0)
def cmpR : List St → (Ex × Ex) × Bool
 | s0 :: s1 :: s2 :: s3 :: _ => match s0.e with
   | [.mk o _ _ _ [a, b]] => if o = 12 ∧ (fullB a b s0 s1 s2 s3 || shortB a b s0 s1 s2 s3) = true then ((a, b), noFlB a && noFlB b) else ((.mk 0 0 0 0 [], .mk 0 0 0 0 []), false)
   | _ => ((.mk 0 0 0 0 [], .mk 0 0 0 0 []), false)
 | _ => ((.mk 0 0 0 0 [], .mk 0 0 0 0 []), false)
def matchS (l : List St) : Option (Ex × Ex) := if (cmpR l).2 = true then some (cmpR l).1 else none
def fuseS (a b : Ex) : Ex → Ex
 | .mk o n v w l => match recN (.mk o n v w l) with
   | some (k + 1) => condE (k + 1 : Nat) a b
   | _ => .mk o n v w (fuseL l)
where fuseL : List Ex → List Ex
 | [] => []
 | e :: l => fuseS a b e :: fuseL l
theorem fuseL_map (a b : Ex) : ∀ l : List Ex, fuseS.fuseL a b l = l.map (fuseS a b)
 | [] => rfl
 | e :: l => by simp only [fuseS.fuseL, fuseL_map a b l, List.map_cons]
theorem fuseS_eq (a b e : Ex) : fuseS a b e = match recN e with
 | some (k + 1) => condE (k + 1 : Nat) a b
 | _ => .mk e.op e.n e.v e.wd (e.l.map (fuseS a b)) := by
 obtain ⟨o, n, v, w, l⟩ := e
 rw [fuseS]
 simp only [fuseL_map]
 rfl
def fuseSt (p : Ex × Ex) (s : St) : St := { s with e := s.e.map (fuseS p.1 p.2) }
def endsB (p : Ex × Ex) (s : St) : Bool := decide (s.op = 5) || (decide (s.op = 1) || decide (s.op = 3)) && (decide (8 ≤ s.va ∧ s.va ≤ 11) || decide (s.va ∈ occ p.1) || decide (s.va ∈ occ p.2))
def blockS : Option (Ex × Ex) → Nat → List St → List St
 | _, _, [] => []
 | a, k + 1, s :: l => s :: blockS a k l
 | a, 0, s :: l => match matchS (s :: l) with
   | some p => s :: blockS (some p) 3 l
   | none => match a with
     | some p => fuseSt p s :: blockS (if endsB p s = true then none else some p) 0 l
     | none => s :: blockS none 0 l
def noE (s : St) : St := { s with e := [] }
theorem block_shape : ∀ (l : List St) (a : Option (Ex × Ex)) (k : Nat), (blockS a k l).map noE = l.map noE ∧ (blockS a k l).map (fun s => s.e.length) = l.map (fun s => s.e.length)
 | [], a, k => by cases k <;> simp [blockS]
 | s :: l, a, k + 1 => by
   have := block_shape l a k
   simp [blockS, this]
 | s :: l, a, 0 => by
   simp only [blockS]
   split
   ·rename_i p _
    have := block_shape l (some p) 3
    simp [this]
   ·cases a with
    | none =>
      have := block_shape l none 0
      simp [this]
    | some p =>
      have := block_shape l (if endsB p s = true then none else some p) 0
      simp [this, fuseSt, noE]
theorem u32wm (n : Int) : IntKind.u32.wrap n = n % 4294967296 := by simp [IntKind.wrap, IntKind.signed, IntKind.bits]
theorem i32wm (n : Int) : IntKind.i32.wrap n = if 2147483648 ≤ n % 4294967296 then n % 4294967296 - 4294967296 else n % 4294967296 := by simp [IntKind.wrap, IntKind.signed, IntKind.bits]
theorem appI_eq (x y : Int) : appI 12 x y = if x = y then 1 else 0 := rfl
theorem appI_ne (x y : Int) : appI 13 x y = if x = y then 0 else 1 := rfl
theorem appI_lt (x y : Int) : appI 14 x y = if IntKind.i32.wrap x < IntKind.i32.wrap y then 1 else 0 := rfl
theorem appI_ltu (x y : Int) : appI 15 x y = if x < y then 1 else 0 := rfl
theorem appI_sub (x y : Int) : appI 4 x y = IntKind.u32.wrap (x - y) := rfl
theorem appI_xor (x y : Int) : appI 8 x y = xorI .u32 x y := rfl
def num (b : Bool) : Int := if b then 1 else 0
theorem xor_num (a b : Bool) : xorI .u32 (num a) (num b) = num (a ^^ b) := by cases a <;> cases b <;> decide
theorem no_num (a : Bool) : appI 12 (num a) 0 = num (!a) := by cases a <;> rfl
section
variable {a b : Int} (ha : 0 ≤ a ∧ a < 4294967296) (hb : 0 ≤ b ∧ b < 4294967296)
include ha hb
omit ha hb in
end
theorem cond_form {cc : Int} {a b : Ex} (ha : formB a = true) (hb : formB b = true) : formB (condE cc a b) = true := by
 have t : ∀ {op : Int} {x y : Ex}, 3 ≤ op → op ≤ 15 → formB x = true → formB y = true → formB (eTwo op x y) = true := fun h1 h2 hx hy => form_eTwo h1 h2 hx hy
 have n : ∀ {x : Ex}, formB x = true → formB (eNot x) = true := fun hx => form_eOne (.inl rfl) hx
 have hm : formB (eMinus a b) = true := t (by omega) (by omega) (t (by omega) (by omega) ha hb) (form_eCon 0)
 have ho : formB (eOver a b) = true := t (by omega) (by omega) (t (by omega) (by omega) ha hb) hm
 have ite : ∀ {c : Prop} [Decidable c] {x y : Ex}, formB x = true → formB y = true → formB (if c then x else y) = true := by
  intro c _ x y hx hy
  split <;> assumption
 unfold condE
 repeat' refine ite ?_ ?_
 all_goals first
  | exact form_eCon _
  | exact t (by omega) (by omega) ha hb
  | exact t (by omega) (by omega) hb ha
  | exact n (t (by omega) (by omega) ha hb)
  | exact n (t (by omega) (by omega) hb ha)
  | exact hm
  | exact n hm
  | exact ho
  | exact n ho
theorem fuse_form {a b : Ex} (ha : formB a = true) (hb : formB b = true) : ∀ (e : Ex), formB e = true → formB (fuseS a b e) = true := by
 intro x
 induction x using Ex.ind with
 | h x ih =>
   intro hf
   rw [fuseS_eq]
   split
   ·exact cond_form ha hb
   ·exact form_map hf fun y hy => ih y hy ((form_all hf).2 y hy)
theorem match_form {s : St} {l : List St} {p : Ex × Ex} (h : matchS (s :: l) = some p) (hs : ∀ e ∈ s.e, formB e = true) : formB p.1 = true ∧ formB p.2 = true := by
 unfold matchS at h
 split at h
 case isFalse => cases h
 rename_i hc
 have hp := oSI h
 subst hp
 clear h
 unfold cmpR at hc ⊢
 split at hc
 case h_2 => simp at hc
 rename_i s0 s1 s2 s3 r heq
 obtain ⟨rfl, rfl⟩ := List.cons.inj heq
 split at hc
 case h_2 => simp at hc
 rename_i o n v w a b hz
 split at hc
 case isFalse => simp at hc
 rename_i c
 rw [if_pos c]
 have hf := hs (.mk o n v w [a, b]) (by rw [hz]; simp)
 have := (form_all hf).2
 exact ⟨this a (by simp), this b (by simp)⟩
theorem block_form : ∀ (l : List St) (a : Option (Ex × Ex)) (k : Nat), (∀ s ∈ l, ∀ e ∈ s.e, formB e = true) → (∀ p, a = some p → formB p.1 = true ∧ formB p.2 = true) → ∀ s ∈ blockS a k l, ∀ e ∈ s.e, formB e = true
 | [], a, k, _, _ => by cases k <;> simp [blockS]
 | s :: l, a, k + 1, hl, ha => by
   intro t ht
   simp only [blockS, List.mem_cons] at ht
   rcases ht with rfl | ht
   ·exact hl t (by simp)
   ·exact block_form l a k (fun s hs => hl s (by simp [hs])) ha t ht
 | s :: l, a, 0, hl, ha => by
   intro t ht
   have hl' : ∀ s ∈ l, ∀ e ∈ s.e, formB e = true := fun s hs => hl s (by simp [hs])
   simp only [blockS] at ht
   split at ht
   ·rename_i p hp
    have hpf := match_form hp (hl s (by simp))
    rcases List.mem_cons.1 ht with rfl | ht
    ·exact hl t (by simp)
    ·exact block_form l (some p) 3 hl' (fun q hq => by cases hq; exact hpf) t ht
   ·cases a with
    | none =>
      simp only at ht
      rcases List.mem_cons.1 ht with rfl | ht
      ·exact hl t (by simp)
      ·exact block_form l none 0 hl' (fun q hq => by cases hq) t ht
    | some p =>
      simp only at ht
      obtain ⟨g1, g2⟩ := ha p rfl
      rcases List.mem_cons.1 ht with rfl | ht
      ·intro e he
       simp only [fuseSt, List.mem_map] at he
       obtain ⟨y, hy, rfl⟩ := he
       exact fuse_form g1 g2 y (hl s (by simp) y hy)
      ·refine block_form l _ 0 hl' (fun q hq => ?_) t ht
       split at hq
       ·cases hq
       ·cases hq
        exact ⟨g1, g2⟩
def blockG (g : Gr) : Gr := ⟨g.ad, g.b.map fun b => ⟨b.ad, blockS none 0 b.s⟩⟩
def deepE (e : Ex) : Bool := decide (exErr e = 20)
def deepG (l : List Bl) : Bool := l.any fun b => b.s.any fun s => s.e.any deepE
theorem closed_noE {n : Nat} {b b' : Bl} (h : b'.s.map noE = b.s.map noE) : closedB n b' = closedB n b := by
 have key : ∀ b : Bl, closedB n b = match (b.s.map noE).getLast? with
  | some s => termB s && !((b.s.map noE).take ((b.s.map noE).length - 1)).any termB && !(tgts s).any fun k => decide (k < 0) || decide ((n : Int) ≤ k)
  | none => false := by
  intro b
  unfold closedB
  rw [List.getLast?_map]
  cases b.s.getLast? with
  | none => rfl
  | some s =>
    simp only [Option.map_some, ← List.map_take, List.any_map, List.length_map]
    rfl
 rw [key, key, h]
theorem stN_map (f : Bl → Bl) (hf : ∀ b, (f b).s.length = b.s.length) : ∀ l : List Bl, stN (l.map f) = stN l
 | [] => rfl
 | b :: l => by simp only [List.map_cons, stN, stN_map f hf l, hf]
theorem exErr_form {e : Ex} (h : formB e = true) : exErr e = 0 ∨ exErr e = 20 := by
 unfold exErr
 rw [if_pos h]
 split <;> simp
theorem exs_form : ∀ {l : List Ex}, (∀ e ∈ l, formB e = true) → exsErr l = if l.any deepE then 20 else 0
 | [], _ => rfl
 | e :: l, h => by
   have ih := exs_form (l := l) fun x hx => h x (by simp [hx])
   rcases exErr_form (h e (by simp)) with h0 | h0
   ·simp [exsErr, h0, ih, deepE]
   ·simp [exsErr, h0, deepE]
theorem fields_noE {s t : St} (h : noE t = noE s) : fieldsB t = fieldsB s := by
 have : ∀ s : St, fieldsB s = fieldsB (noE s) := fun s => rfl
 rw [this, this s, h]
theorem st_form {s t : St} (hs : stErr s = 0) (h : noE t = noE s) (hl : t.e.length = s.e.length) (hf : ∀ e ∈ t.e, formB e = true) : stErr t = if t.e.any deepE then 20 else 0 := by
 have hop : t.op = s.op := by
  have := congrArg St.op h
  exact this
 unfold stErr at hs ⊢
 split at hs
 case isFalse => omega
 rename_i h1
 split at hs
 case isFalse h2 => exact absurd hs h2
 split at hs
 case isFalse => omega
 rename_i h3
 rw [hop, hl, if_pos h1, exs_form hf, fields_noE h, if_pos h3]
 cases t.e.any deepE <;> simp
theorem sts_form : ∀ {l m : List St}, (∀ s ∈ l, stErr s = 0) → m.map noE = l.map noE → m.map (fun s => s.e.length) = l.map (fun s => s.e.length) → (∀ s ∈ m, ∀ e ∈ s.e, formB e = true) → stsErr m = if m.any (fun s => s.e.any deepE) then 20 else 0
 | [], [], _, _, _, _ => rfl
 | [], _ :: _, _, h, _, _ => by simp at h
 | _ :: _, [], _, h, _, _ => by simp at h
 | s :: l, t :: m, h1, h2, h3, h4 => by
   simp only [List.map_cons, List.cons.injEq] at h2 h3
   have ih := sts_form (l := l) (m := m) (fun s hs => h1 s (by simp [hs])) h2.2 h3.2 fun s hs => h4 s (by simp [hs])
   have := st_form (h1 s (by simp)) h2.1 h3.1 (h4 t (by simp))
   simp only [stsErr, this, ih, List.any_cons]
   by_cases hq : t.e.any deepE = true
   ·simp [hq]
   ·simp only [Bool.not_eq_true] at hq
    simp [hq]
theorem blockG_err {g : Gr} (h : grErr g = 0) : grErr (blockG g) = if deepG (blockG g).b then 20 else 0 := by
 unfold grErr at h
 split at h
 case isTrue => omega
 rename_i h1
 split at h
 case isTrue => omega
 rename_i h2
 have hlen : (blockG g).b.length = g.b.length := by simp [blockG]
 have hsl : ∀ b : Bl, (blockS none 0 b.s).length = b.s.length := fun b => by simpa using congrArg List.length (block_shape b.s none 0).1
 have hN : stN (blockG g).b = stN g.b := stN_map _ hsl g.b
 have hc : (blockG g).b.all (closedB g.b.length) = g.b.all (closedB g.b.length) := by
  simp only [blockG, List.all_map]
  refine congrArg (fun f => g.b.all f) (funext fun b => ?_)
  exact closed_noE (block_shape b.s none 0).1
 unfold grErr
 rw [hlen, hN, hc, if_neg h1, if_neg h2]
 have hb := blsErr_mem h
 have : ∀ l : List Bl, (∀ b ∈ l, stsErr b.s = 0) → blsErr (l.map fun b => (⟨b.ad, blockS none 0 b.s⟩ : Bl)) = if deepG (l.map fun b => (⟨b.ad, blockS none 0 b.s⟩ : Bl)) then 20 else 0 := by
  intro l
  induction l with
  | nil => intro _; rfl
  | cons b l ih =>
    intro h
    have h0 := stsErr_mem (h b (by simp))
    have hf : ∀ s ∈ b.s, ∀ e ∈ s.e, formB e = true := fun s hs e he => by
     have h5 := h0 s hs
     unfold stErr at h5
     split at h5
     case isFalse => omega
     split at h5
     case isFalse h6 => exact absurd h5 h6
     rename_i h6
     have h7 := exsErr_mem h6 e he
     unfold exErr at h7
     split at h7
     ·split at h7
      ·assumption
      ·omega
     ·omega
    have q := sts_form h0 (block_shape b.s none 0).1 (block_shape b.s none 0).2 (block_form b.s none 0 hf (fun p hp => by cases hp))
    have ih := ih fun x hx => h x (by simp [hx])
    simp only [List.map_cons, blsErr, q, ih, deepG, List.any_cons]
    by_cases hq : ((blockS none 0 b.s).any fun s => s.e.any deepE) = true
    ·simp [hq]
    ·simp only [Bool.not_eq_true] at hq
     simp [hq]
 exact this g.b hb
def stsI (m : Int) : List St → Int → Int
 | [], n => n
 | s :: l, n => if 4 < s.e.length ∨ 100 < s.cs.length ∨ nodL s.e m n < 0 then -1 else stsI m l (nodL s.e m n)
def blsI (m : Int) : List Bl → Int → Int
 | [], n => n
 | b :: l, n => if 1100 < b.s.length ∨ stsI m b.s n < 0 then -1 else blsI m l (stsI m b.s n)
def smallG (g : Gr) (m : Int) : Bool := !decide (300 < g.b.length) && decide (0 ≤ blsI m g.b 20000)
theorem stsI_le (m : Int) : ∀ (l : List St) (n : Int), 0 ≤ n → stsI m l n ≤ n ∧ (0 ≤ stsI m l n → ∀ s ∈ l, s.e.length ≤ 4 ∧ s.cs.length ≤ 100 ∧ (Ex.nodess s.e : Int) ≤ n ∧ (Ex.depths s.e : Int) ≤ max m 0)
 | [], n, h => by simp [stsI]
 | s :: l, n, h => by
   simp only [stsI]
   split
   ·exact ⟨by omega, fun h => by omega⟩
   ·rename_i hc
    have h1 := nodL_le s.e m n (by omega)
    have h2 := stsI_le m l (nodL s.e m n) (by omega)
    have hp := Ex.nodess_len s.e
    refine ⟨by omega, fun h0 x hx => ?_⟩
    rcases List.mem_cons.1 hx with rfl | hx
    ·omega
    ·have := h2.2 h0 x hx
     omega
theorem blsI_le (m : Int) : ∀ (l : List Bl) (n : Int), 0 ≤ n → 0 ≤ blsI m l n → ∀ b ∈ l, b.s.length ≤ 1100 ∧ ∀ s ∈ b.s, s.e.length ≤ 4 ∧ s.cs.length ≤ 100 ∧ (Ex.nodess s.e : Int) ≤ n ∧ (Ex.depths s.e : Int) ≤ max m 0
 | [], n, h, _ => by simp
 | b :: l, n, h, h0 => by
   simp only [blsI] at h0
   split at h0
   ·omega
   ·rename_i hc
    have h1 := stsI_le m b.s n h
    intro x hx
    rcases List.mem_cons.1 hx with rfl | hx
    ·exact ⟨by omega, fun s hs => by have := h1.2 (by omega) s hs; omega⟩
    ·have := blsI_le m l (stsI m b.s n) (by omega) h0 x hx
     exact ⟨this.1, fun s hs => by have := this.2 s hs; omega⟩
theorem smallG_fit {g : Gr} {m : Int} (h : smallG g m = true) : GrFit g ∧ g.b.length ≤ 300 ∧ ∀ b ∈ g.b, b.s.length ≤ 1100 ∧ ∀ s ∈ b.s, s.e.length ≤ 4 ∧ s.cs.length ≤ 100 ∧ Ex.nodess s.e ≤ 20000 ∧ (Ex.depths s.e : Int) ≤ max m 0 := by
 simp [smallG] at h
 have := blsI_le m g.b 20000 (by omega) h.2
 refine ⟨⟨by omega, fun b hb => ?_⟩, h.1, fun b hb => ?_⟩
 ·have h1 := this b hb
  exact ⟨by omega, fun s hs => by have := h1.2 s hs; omega⟩
 ·have h1 := this b hb
  exact ⟨by omega, fun s hs => by have := h1.2 s hs; omega⟩
theorem smallg_af (g : Gr) (m : Int) (h1 : -1000000 ≤ m) (h2 : m ≤ 1000000) : AF Tryz.prog 28 [grV g, aI .i64 m] (aB (smallG g m)) := by
 obtain ⟨R, hR⟩ : ∃ R, smallG g m = R := ⟨_, rfl⟩
 rw [hR]
 rw [smallG] at hR
 refine af_of Tryz.func28 rfl (by kernel_rfl) (by simp [Tryz.ntmps28]) fun _ => ?_; simp [Tryz.f28, Ex.d_eq]
 by_cases h3 : 300 < g.b.length
 ·simp [h3] at hR
  subst hR
  simp [show (300 : Int) < g.b.length by omega]
 have hl : g.b.length ≤ maxLen := by unfold maxLen; omega
 simp [h3] at hR
 simp [show ¬ (300 : Int) < g.b.length by omega]
 refine aLoop_st (α := Nat × Int) (fun p => [(2, .ptr 0 0 0 0), (1, aI .i64 m), (5, aI .i64 p.2), (6, aI .i64 p.1)]) (fun _ => [gB g])
  (fun p => p.1 ≤ g.b.length ∧ 0 ≤ p.2 ∧ p.2 ≤ 20000 ∧ decide (0 ≤ blsI m (g.b.drop p.1) p.2) = R) (fun p => g.b.length - p.1) (0, 20000) (Sub.refl _ _ _) 1 (by omega) (by simp) (by simp) ⟨by omega, by omega, by omega, by simpa using hR⟩ ?_
 rintro ⟨i, n⟩ ⟨hi, hn0, hn1, hx⟩ K hK
 simp only at hi hn0 hn1 hx hK ⊢
 rcases Nat.lt_or_ge i g.b.length with hlt | hge
 case inr =>
  obtain rfl : i = g.b.length := by omega
  simp [blsI, hn0] at hx
  subst hx
  simp
 obtain ⟨b, hb⟩ : ∃ b, g.b[i]? = some b := ⟨_, gEG hlt⟩
 have hb2 := (gSI.1 hb).2
 have hdrop : g.b.drop i = b :: g.b.drop (i + 1) := by rw [List.drop_eq_getElem_cons hlt, hb2]
 rw [hdrop, blsI] at hx
 simp [hlt, hb, hb2, Bl.d_eq]
 by_cases h4 : 1100 < b.s.length
 ·rw [if_pos (.inl h4)] at hx
  simp at hx
  subst hx
  simp [show (1100 : Int) < b.s.length by omega]
 have hbl : b.s.length ≤ maxLen := by unfold maxLen; omega
 simp [show ¬ (1100 : Int) < b.s.length by omega]
 have hle := stsI_le m b.s n hn0
 refine aLoop_st (α := Nat × Int) (fun p => [(2, .ptr 0 0 0 0), (1, aI .i64 m), (5, aI .i64 p.2), (6, aI .i64 i), (7, aI .i64 p.1)]) (fun _ => [gB g])
  (fun p => p.1 ≤ b.s.length ∧ 0 ≤ p.2 ∧ p.2 ≤ 20000 ∧ stsI m (b.s.drop p.1) p.2 = stsI m b.s n) (fun p => b.s.length - p.1) (0, n) (Sub.refl _ _ _) 1 (by omega) (by simp) (by simp) ⟨by omega, by omega, by omega, by simp⟩ ?_
 rintro ⟨k, n2⟩ ⟨hk, hk0, hk1, hy⟩ K2 hK2
 simp only at hk hk0 hk1 hy hK2 ⊢
 rcases Nat.lt_or_ge k b.s.length with hlt2 | hge2
 case inr =>
  obtain rfl : k = b.s.length := by omega
  simp [stsI] at hy
  rw [← hy, if_neg (by omega)] at hx
  simp [hlt, hb, hb2, Bl.d_eq, succ_wrap hlt hl]
  exact hK (i + 1, n2) ⟨by simp only; omega, hk0, hk1, hx⟩ (by simp only; omega) (Sub.refl _ _ _) 1 (by omega) (by simp) (by simp)
 obtain ⟨s, hs⟩ : ∃ s, b.s[k]? = some s := ⟨_, gEG hlt2⟩
 have hs2 := (gSI.1 hs).2
 have hdrop2 : b.s.drop k = s :: b.s.drop (k + 1) := by rw [List.drop_eq_getElem_cons hlt2, hs2]
 rw [hdrop2, stsI] at hy
 simp [hlt, hb, hb2, Bl.d_eq, hlt2, hs, hs2, St.d_eq]
 have hno : stsI m b.s n = -1 → R = false := fun h => by
  rw [h, if_pos (.inr (by omega))] at hx
  simpa using hx.symm
 by_cases h5 : 4 < s.e.length
 ·rw [if_pos (.inl h5)] at hy
  have := hno hy.symm
  subst this
  simp [show (4 : Int) < s.e.length by omega]
 simp [show ¬ (4 : Int) < s.e.length by omega]
 by_cases h6 : 100 < s.cs.length
 ·rw [if_pos (.inr (.inl h6))] at hy
  have := hno hy.symm
  subst this
  simp [show (100 : Int) < s.cs.length by omega]
 simp [show ¬ (100 : Int) < s.cs.length by omega]
 have hel : s.e.length ≤ maxLen := by unfold maxLen; omega
 refine aLoop_st (α := Nat × Int) (fun p => [(2, .ptr 0 0 0 0), (1, aI .i64 m), (5, aI .i64 p.2), (6, aI .i64 i), (7, aI .i64 k), (8, .ptr 1 0 0 0), (9, aI .i64 p.1)])
  (fun _ => [gB g, ⟨0, true, 61, 8, [[aI .i64 s.op, aI .i64 s.va, aI .i64 s.wd, aI .i64 s.nx, aI .i64 s.el, aI .u32 s.tg, .d (.sl 5 (Ex.ds s.e)), .d (.sl 1 (i64s s.cs))]]⟩])
  (fun p => p.1 ≤ s.e.length ∧ 0 ≤ p.2 ∧ p.2 ≤ 20000 ∧ nodL (s.e.drop p.1) m p.2 = nodL s.e m n2) (fun p => s.e.length - p.1) (0, n2) (Sub.refl _ _ _) 2 (by omega) (by simp) (by simp) ⟨by omega, by omega, by omega, by simp⟩ ?_
 rintro ⟨q, n3⟩ ⟨hq, hq0, hq1, hz⟩ K3 hK3
 simp only at hq hq0 hq1 hz hK3 ⊢
 rcases Nat.lt_or_ge q s.e.length with hlt3 | hge3
 case inr =>
  obtain rfl : q = s.e.length := by omega
  simp [nodL] at hz
  rw [← hz, if_neg (by omega)] at hy
  simp [succ_wrap hlt2 hbl]
  exact hK2 (k + 1, n3) ⟨by simp only; omega, hq0, hq1, hy⟩ (by simp only; omega) (Sub.refl _ _ _) 1 (by omega) (by simp) (by simp)
 obtain ⟨x, hxi⟩ : ∃ x, s.e[q]? = some x := ⟨_, gEG hlt3⟩
 have hx2 := (gSI.1 hxi).2
 have hdrop3 : s.e.drop q = x :: s.e.drop (q + 1) := by rw [List.drop_eq_getElem_cons hlt3, hx2]
 rw [hdrop3, nodL, if_pos hq0] at hz
 have hnod := nodI_le x m n3 (by omega)
 simp [hlt3, hxi, hx2, Ex.d_eq]
 refine aCall_of (nodes_af x m n3 h1 h2 (by omega) (by omega)) (by simp) (by simp [Ex.d_eq]) ?_; simp [Ex.d_eq]
 by_cases h7 : nodI x m n3 < 0
 ·rw [nodL_neg _ _ _ h7] at hz
  rw [if_pos (.inr (.inr (by rw [← hz]; exact h7)))] at hy
  have := hno hy.symm
  subst this
  simp [h7]
 ·simp [h7, succ_wrap hlt3 hel]
  exact hK3 (q + 1, nodI x m n3) ⟨by simp only; omega, by simp only; omega, by simp only; omega, hz⟩ (by simp only; omega) (Sub.refl _ _ _) 2 (by omega) (by simp) (by simp)
theorem fit_len {g : Gr} (h : GrFit g) : g.b.length ≤ maxLen ∧ ∀ b ∈ g.b, b.s.length ≤ maxLen ∧ ∀ s ∈ b.s, s.e.length ≤ maxLen ∧ s.cs.length ≤ maxLen := by
 unfold maxLen
 refine ⟨by have := h.1; omega, fun b hb => ?_⟩
 obtain ⟨h1, h2⟩ := h.2 b hb
 refine ⟨by omega, fun s hs => ?_⟩
 obtain ⟨h3, h4⟩ := h2 s hs
 exact ⟨by omega, by omega⟩
end Go.Proofs.YtplbaolbaniioaaGreatDoor
