import Derived.Test.YtinkdalcmnnocaaGreatZV
import Derived.Test.YtinkdalcmnnocaaGreatZS
import Derived.Test.YtinkdalcmnnocaaGreatZT
import Derived.Test.YtinkdalcmnnocaaGreatZP
import Derived.Test.YtinkdalcmnnocaaGreatAF
import Derived.Test.YtinkdalcmnnocaaGreatFacts
set_option linter.all false
namespace Go.Proofs.YtinkdalcmnnocaaGreat
open Go.RowKit
def asB (s : St) : Bool := decide (s.op = 1) || decide (s.op = 3)
theorem ssaAssigns_af (s : St) : AF Tryz.prog 48 [stV s] (aB (asB s)) := by
 refine af_of Tryz.func48 rfl (by kernel_rfl) (by simp [Tryz.ntmps48]) fun _ => ?_; simp [Tryz.f48, Ex.d_eq]
 by_cases h1 : s.op = 1 <;> by_cases h3 : s.op = 3 <;> simp [h1, h3, asB]
abbrev ckB (s : Ss) (re : List Bool) (tr : List Int) (ba : List (List D)) (m : Nat) : Blk := ⟨0, true, 88, 8,
 [[aI .u32 s.g.ad, .d (.sl 2 (bls' s.g.b)), .d (.sl 1 (phss s.ph)), .d (.sl 1 (i64s s.og)), .d (.sl 1 (re.map fun b => [.v (.bool b)])), .d (.sl 1 (i64s tr)), .d (.sl 1 ba), .mp m 0]]⟩
abbrev dfB (L : List (Int × Int × Int)) : Blk := m2B .i64 .i64 L
theorem und_defs : Tryz.prog.underlying 86 = some (.map 3 108) := by kernel_rfl
theorem zv_where : zv Tryz.prog 108 = some (.agg #[.int .i64 0, .int .i64 0]) := by kernel_rfl
def knB (s : Ss) (v : Int) : Bool := decide (0 ≤ v) && decide (v < (s.og.length : Int))
section
variable {A : AHeap} {b m : Nat} {s : Ss} {re : List Bool} {tr : List Int} {ba : List (List D)} {L : List (Int × Int × Int)}
theorem ssaKnown_ac (hb : A[b]? = some (ckB s re tr ba m)) (v : Int) : AC Tryz.prog 53 [.ptr b 0 0 0, aI .i64 v] A (Same0 A (aB (knB s v))) := by
 refine ac_of Tryz.func53 rfl (by kernel_rfl) (by simp [Tryz.ntmps53]) fun _ => ?_
 simp [Tryz.f53, hb]
 by_cases h : 0 ≤ v
 ·simp [h, hb, knB, Same0]
 ·simp [h, knB, Same0]
abbrev whB (k j : Int) : Blk := ⟨0, true, 108, 2, [[aI .i64 k, aI .i64 j]]⟩
def dfOk (s : Ss) (L : List (Int × Int × Int)) (v : Int) : Bool := knB s v && !decide (v = 12) && (decide (v < 12) || (lk2 v L).isNone)
def dfAdd (L : List (Int × Int × Int)) (v : Int) (w : Int × Int) : List (Int × Int × Int) := if 12 < v then up2 v w L else L
set_option maxRecDepth 100000 in
theorem ssaDefine_ac (hb : A[b]? = some (ckB s re tr ba m)) (hm : A[m]? = some (dfB L)) (v k j : Int) :
 AC Tryz.prog 49 [.ptr b 0 0 0, aI .i64 v, .agg [aI .i64 k, aI .i64 j]] A (Same0 (if dfOk s L v = true then A.set m (dfB (dfAdd L v (k, j))) else A) (aB (dfOk s L v))) := by
 obtain ⟨R, hR⟩ : ∃ R, dfOk s L v = R := ⟨_, rfl⟩
 rw [hR]
 unfold dfOk at hR
 have hl := fun M : AHeap => look_m2 (A := A ++ M) und_defs (by kernel_rfl) zv_where (lapl hm) v true
 have hu := fun M : AHeap => upd_m2 (A := A ++ M) und_defs (by kernel_rfl) (lapl hm) v k j
 have hbM : ∀ M, (A ++ M)[b]? = some (ckB s re tr ba m) := fun M => lapl hb
 have c := fun M : AHeap => ssaKnown_ac (A := A ++ M) (hbM M) v
 refine ac_of Tryz.func49 rfl (by kernel_rfl) (by simp [Tryz.ntmps49]) fun _ => ?_
 simp [Tryz.f49]
 refine aCall_ofc (c _) (by kernel_rfl) ?_
 rintro _ _ ⟨rfl, N, rfl⟩
 cases hk : knB s v with
 | false =>
   rw [hk] at hR
   simp at hR
   subst hR
   simp [hk, Same0]
 | true =>
 rw [hk] at hR
 simp [hk]
 by_cases h12 : v = 12
 ·rw [decide_eq_true h12] at hR
  simp at hR
  subst hR
  simp [h12, Same0]
 simp [h12] at hR
 by_cases hlt : v < 12
 ·simp [hlt] at hR
  subst hR
  simp [h12, hlt, Same0, dfAdd, show ¬ 12 < v by omega]
  rw [set_same hm]
  exact ⟨_, rfl⟩
 simp [hlt] at hR
 simp [h12, hlt, hbM]
 refine aRaw_lookup (r := okM true (.agg [aI .i64 ((lk2 v L).getD (0, 0)).1, aI .i64 ((lk2 v L).getD (0, 0)).2]) (lk2 v L).isSome) (by simpa using hl _) ?_
 cases hlk : lk2 v L with
 | some q =>
   rw [hlk] at hR
   simp at hR
   subst hR
   simp [hlk, okM, Same0]
 | none =>
 rw [hlk] at hR
 simp at hR
 subst hR
 simp [hlk, okM]
 refine adraw2 6 [] (by kernel_rfl) (by kernel_rfl) (by kernel_rfl) (by kernel_rfl) (by kernel_rfl) ?_
 simp [hbM, lap0]
 have hbl := (gSI.1 hb).1
 have hml := (gSI.1 hm).1
 refine ⟨by omega, ?_⟩
 refine aRaw_mapUpdate (A' := A.set m (dfB (up2 v (k, j) L)) ++ (whB k j :: (N ++ [whB 0 0]))) ?_ ?_
 ·have h := hu (whB k j :: (N ++ [whB 0 0]))
  rw [List.set_append_left _ _ hml] at h
  simpa using h
 simp [Same0, dfAdd, show 12 < v by omega]
def usB (L : List (Int × Int × Int)) (v j : Int) : Bool := decide (v ≤ 12) || (match lk2 v L with
 | some q => decide (q.2 < j)
 | none => false)
set_option maxRecDepth 100000 in
theorem ssaUsed_ac (hb : A[b]? = some (ckB s re tr ba m)) (hm : A[m]? = some (dfB L)) (v k j : Int) (hq : ∀ q, lk2 v L = some q → q.1 = k) :
 AC Tryz.prog 54 [.ptr b 0 0 0, aI .i64 v, aI .i64 k, aI .i64 j] A (Same0 A (aB (usB L v j))) := by
 obtain ⟨R, hR⟩ : ∃ R, usB L v j = R := ⟨_, rfl⟩
 rw [hR]
 unfold usB at hR
 have hl := fun M : AHeap => look_m2 (A := A ++ M) und_defs (by kernel_rfl) zv_where (lapl hm) v true
 refine ac_of Tryz.func54 rfl (by kernel_rfl) (by simp [Tryz.ntmps54]) fun _ => ?_
 simp [Tryz.f54]
 by_cases h12 : v ≤ 12
 ·rw [decide_eq_true h12] at hR
  simp at hR
  subst hR
  simp [h12, Same0]
 simp [h12] at hR
 simp [h12, hb]
 refine aRaw_lookup (r := okM true (.agg [aI .i64 ((lk2 v L).getD (0, 0)).1, aI .i64 ((lk2 v L).getD (0, 0)).2]) (lk2 v L).isSome) (by simpa using hl []) ?_
 cases hlk : lk2 v L with
 | none =>
   rw [hlk] at hR
   simp at hR
   subst hR
   simp [okM, Same0]
 | some q =>
   have hqk := hq q hlk
   obtain ⟨q1, q2⟩ := q
   simp only at hqk
   subst hqk
   rw [hlk] at hR
   simp at hR
   subst hR
   simp [okM, Same0, lap0]
abbrev pcB (b : Nat) : Blk := ⟨0, true, 83, 1, [[.ptr b 0 0 0]]⟩
abbrev inB (n : Int) : Blk := ⟨0, true, 3, 1, [[aI .i64 n]]⟩
set_option maxRecDepth 100000 in
theorem ssaUses1_ac {p1 p2 p3 : Nat} {k j : Int} (hb : A[b]? = some (ckB s re tr ba m)) (hm : A[m]? = some (dfB L)) (h1 : A[p1]? = some (pcB b)) (h2 : A[p2]? = some (inB k)) (h3 : A[p3]? = some (inB j)) (v : Int) (hq : ∀ q, lk2 v L = some q → q.1 = k) :
 AC Tryz.prog 52 [aI .i64 v, .ptr p1 0 0 0, .ptr p2 0 0 0, .ptr p3 0 0 0] A (Same0 A (aB (!knB s v || !usB L v j))) := by
 refine ac_of Tryz.func52 rfl (by kernel_rfl) (by simp [Tryz.ntmps52]) fun _ => ?_
 simp [Tryz.f52, h1]
 refine aCall_ofc (ssaKnown_ac hb v) (by kernel_rfl) ?_
 rintro _ _ ⟨rfl, N, rfl⟩
 cases hk : knB s v with
 | false => simp [Same0]
 | true =>
   have h1' := lapl (M := N) h1
   have h2' := lapl (M := N) h2
   have h3' := lapl (M := N) h3
   simp [h1', h2', h3']
   refine aCall_ofc (ssaUsed_ac (A := A ++ N) (lapl hb) (lapl hm) v k j hq) (by kernel_rfl) ?_
   rintro _ _ ⟨rfl, N', rfl⟩
   simp [Same0]
theorem ssaPhis_ac (hb : A[b]? = some (ckB s re tr ba m)) (k : Nat) (hp : s.ph[k]? = some []) : AC Tryz.prog 47 [.ptr b 0 0 0, aI .i64 k] A (Same0 A (aB true)) := by
 have hkl := (gSI.1 hp).1
 have hk2 := (gSI.1 hp).2
 have hb' : ∀ M, (A ++ M)[b]? = some (ckB s re tr ba m) := fun M => lapl hb
 refine ac_of Tryz.func47 rfl (by kernel_rfl) (by simp [Tryz.ntmps47]) fun _ => ?_
 simp [Tryz.f47, hb', lap0, hp, hkl, hk2]
 refine aLoop_iter 1 ?_
 simp [Same0]
end
def dfP (l : List St) : Nat → List (Int × Int × Int)
 | 0 => []
 | i + 1 => match l[i]? with
   | some t => if asB t = true then dfAdd (dfP l i) t.va (0, i) else dfP l i
   | none => dfP l i
abbrev blkB1 (b : Bl) : Blk := ⟨0, true, 34, 2, [[aI .u32 b.ad, .d (.sl 8 (sts b.s))]]⟩
section
variable {A : AHeap} {b m : Nat} {s : Ss} {tr : List Int} {ba : List (List D)} {B : Bl}
set_option maxRecDepth 100000 in
theorem ssaCollect_ac (hb : A[b]? = some (ckB s [true] tr ba m)) (hm : A[m]? = some (dfB [])) (hbm : b ≠ m) (hB : s.g.b = [B]) (hp : s.ph[0]? = some []) (hl : B.s.length ≤ maxLen)
 (hd : ∀ (j : Nat) (t : St), B.s[j]? = some t → asB t = true → dfOk s (dfP B.s j) t.va = true) : AC Tryz.prog 29 [.ptr b 0 0 0] A (Same0 (A.set m (dfB (dfP B.s B.s.length))) (aB true)) := by
 have hbl := (gSI.1 hb).1
 have hml := (gSI.1 hm).1
 have hsb : ∀ X M, (A.set m X ++ M)[b]? = some (ckB s [true] tr ba m) := fun X M => lapl (by rw [gSN (Ne.symm hbm)]; exact hb)
 have hsm : ∀ X M, (A.set m X ++ M)[m]? = some X := fun X M => lapl (gSS hml)
 have hb' : ∀ M, (A ++ M)[b]? = some (ckB s [true] tr ba m) := fun M => lapl hb
 have hA0 : A = A.set m (dfB []) := (set_same hm).symm
 refine ac_of Tryz.func29 rfl (by kernel_rfl) (by simp [Tryz.ntmps29]) fun _ => ?_
 simp [Tryz.f29, hb, hB]
 refine aLoop_iter 2 ?_
 simp [hb, hb', hB, Bl.d_eq, lap0]
 refine aCall_ofc (ssaPhis_ac (hb' _) 0 hp) (by kernel_rfl) ?_
 rintro _ _ ⟨rfl, N, rfl⟩
 simp [hb, hb', hB, Bl.d_eq, lap0]
 refine aLoop_of (α := Nat) (fun i e A' => i ≤ B.s.length ∧ (∃ N, A' = A.set m (dfB (dfP B.s i)) ++ N) ∧ e 0 = .ptr b 0 0 0 ∧ e 3 = aI .i64 0 ∧ e 12 = .d (.sl 2 (bls' [B])) ∧ e 13 = aI .i64 1 ∧ e 14 = aI .i64 0 ∧ e 32 = .d (.sl 8 (sts B.s)) ∧ e 33 = aI .i64 B.s.length ∧ e 34 = aI .i64 i) (fun i => B.s.length - i) 0 (Sub.refl _ _ _)
  ⟨by omega, ⟨_, by rw [dfP, ← hA0]⟩, by simp, by simp, by simp [Bl.d_eq], by simp, by simp, by simp, by simp, by simp⟩ ?_
 rintro i e A' ⟨hi, ⟨N, rfl⟩, e0, e3, e12, e13, e14, e32, e33, e34⟩ K hK
 obtain ⟨H, hH⟩ : ∃ H, A.set m (dfB (dfP B.s i)) ++ N = H := ⟨_, rfl⟩
 have hHb : H[b]? = some (ckB s [true] tr ba m) := by rw [← hH]; exact hsb _ _
 have hHm : H[m]? = some (dfB (dfP B.s i)) := by rw [← hH]; exact hsm _ _
 rcases Nat.lt_or_ge i B.s.length with hlt | hge
 case inr =>
  obtain rfl : i = B.s.length := by omega
  rw [hH]
  simp [e0, e3, e12, e13, e14, e32, e33, e34, Same0]
  exact ⟨N, hH.symm⟩
 obtain ⟨t, ht⟩ : ∃ t, B.s[i]? = some t := ⟨_, gEG hlt⟩
 have ht2 := (gSI.1 ht).2
 rw [hH]
 simp [e0, e3, e12, e13, e14, e32, e33, e34, hlt, ht, ht2, St.d_eq, lap0]
 refine aCall_of (ssaAssigns_af t) (by kernel_rfl) (by simp) ?_
 cases hast : asB t with
 | false =>
   have hP : dfP B.s (i + 1) = dfP B.s i := by rw [dfP, ht]; simp [hast]
   simp [e0, e3, e12, e13, e14, e32, e33, e34, succ_wrap hlt hl]
   refine hK (i + 1) _ _ _ _ (Sub.refl _ _ _) ⟨by omega, ?_, by simp [e0], by simp [e3], by simp [e12], by simp [e13], by simp [e14], by simp [e32], by simp [e33], by simp⟩ (by omega)
   exact ⟨_, by rw [hP, ← hH, List.append_assoc]⟩
 | true =>
   have hok := hd i t ht hast
   have hP : dfP B.s (i + 1) = dfAdd (dfP B.s i) t.va (0, i) := by rw [dfP, ht]; simp [hast]
   have c := ssaDefine_ac (A := H ++ [stBk t]) (lapl hHb) (lapl hHm) t.va 0 i
   rw [hok] at c
   simp [e0, e3, lap0]
   refine aCall_ofc c (by kernel_rfl) ?_
   rintro _ _ ⟨rfl, N', rfl⟩
   simp [e0, e3, e12, e13, e14, e32, e33, e34, succ_wrap hlt hl]
   refine hK (i + 1) _ _ _ _ (Sub.refl _ _ _) ⟨by omega, ?_, by simp [e0], by simp [e3], by simp [e12], by simp [e13], by simp [e14], by simp [e32], by simp [e33], by simp⟩ (by omega)
   exact ⟨_, by rw [hP, ← hH, List.append_assoc, List.set_append_left _ _ (by simpa using hml), List.set_set, List.append_assoc]⟩
set_option maxRecDepth 100000 in
theorem ssaUses_ac {L : List (Int × Int × Int)} (hb : A[b]? = some (ckB s [true] tr ba m)) (hm : A[m]? = some (dfB L)) (hB : s.g.b = [B]) (hp : s.ph[0]? = some []) (hl : B.s.length ≤ maxLen)
 (hel : ∀ t ∈ B.s, t.e.length ≤ maxLen ∧ ∀ x ∈ t.e, x.nodes ≤ 1000000) (hL : ∀ v q, lk2 v L = some q → q.1 = 0)
 (hu : ∀ (j : Nat) (t : St), B.s[j]? = some t → ∀ x ∈ t.e, ∀ v ∈ varsR x, knB s v = true ∧ usB L v j = true) : AC Tryz.prog 30 [.ptr b 0 0 0, aI .i64 0] A (Same0 A (aB true)) := by
 have hbA : ∀ M, (A ++ M)[b]? = some (ckB s [true] tr ba m) := fun M => lapl hb
 have hmA : ∀ M, (A ++ M)[m]? = some (dfB L) := fun M => lapl hm
 have hpl := (gSI.1 hp).1
 have hp2 := (gSI.1 hp).2
 refine ac_of Tryz.func30 rfl (by kernel_rfl) (by simp [Tryz.ntmps30]) fun _ => ?_
 simp [Tryz.f30]
 refine adraw [] (by kernel_rfl) (by kernel_rfl) (by kernel_rfl) (by kernel_rfl) ?_
 simp [hbA, hB, lap, lap0, Bl.d_eq]
 have hbl := (gSI.1 hb).1
 refine ⟨by omega, ?_⟩
 refine aLoop_of (α := Nat) (fun j e A' => j ≤ B.s.length ∧ (∃ N, A' = A ++ pcB b :: inB 0 :: N) ∧ e 2 = .ptr A.length 0 0 0 ∧ e 3 = .ptr (A.length + 1) 0 0 0 ∧ e 25 = .d (.sl 8 (sts B.s)) ∧ e 26 = aI .i64 B.s.length ∧ e 27 = aI .i64 j) (fun j => B.s.length - j) 0 (Sub.refl _ _ _)
  ⟨by omega, ⟨[], rfl⟩, by simp, by simp, by simp, by simp, by simp⟩ ?_
 rintro j e A' ⟨hj, ⟨N, hA'⟩, e2, e3, e25, e26, e27⟩ K hK
 have f1 : A'[A.length]? = some (pcB b) := by rw [hA']; exact lap0 _ _
 have f2 : A'[A.length + 1]? = some (inB 0) := by rw [hA']; exact lap _ _ 1
 have f3 : A'[b]? = some (ckB s [true] tr ba m) := by rw [hA']; exact hbA _
 have f4 : A'[m]? = some (dfB L) := by rw [hA']; exact hmA _
 rcases Nat.lt_or_ge j B.s.length with hlt | hge
 case inr =>
  obtain rfl : j = B.s.length := by omega
  simp [e2, e3, e25, e26, e27]
  refine adraw [] (by kernel_rfl) (by kernel_rfl) (by kernel_rfl) (by kernel_rfl) ?_
  simp [e2, e3, f1, f2, f3, hp, hp2, hpl]
  have g1 := (gSI.1 f1).1
  have g2 := (gSI.1 f2).1
  have g3 := (gSI.1 f3).1
  refine ⟨g1, g3, g2, ?_⟩
  refine aLoop_iter 1 ?_
  simp [Same0]
  exact ⟨_, hA'⟩
 obtain ⟨t, ht⟩ : ∃ t, B.s[j]? = some t := ⟨_, gEG hlt⟩
 have ht2 := (gSI.1 ht).2
 obtain ⟨hel1, hel2⟩ := hel t (gMO ht)
 simp [e2, e3, e25, e26, e27, hlt, ht, ht2, St.d_eq, lap, lap0, las, las0]
 refine aLoop_of (α := Nat) (fun q e A'' => q ≤ t.e.length ∧ (∃ M, A'' = A' ++ inB j :: M) ∧ e 2 = .ptr A.length 0 0 0 ∧ e 3 = .ptr (A.length + 1) 0 0 0 ∧ e 25 = .d (.sl 8 (sts B.s)) ∧ e 26 = aI .i64 B.s.length ∧ e 27 = aI .i64 j ∧ e 5 = .ptr A'.length 0 0 0 ∧ e 33 = .d (.sl 5 (Ex.ds t.e)) ∧ e 34 = aI .i64 t.e.length ∧ e 35 = aI .i64 q) (fun q => t.e.length - q) 0 (Sub.refl _ _ _)
  ⟨by omega, ⟨[stBk t], by simp [St.d_eq]⟩, by simp [e2], by simp [e3], by simp [e25], by simp [e26], by simp [e27], by simp, by simp, by simp, by simp⟩ ?_
 rintro q e' A'' ⟨hq, ⟨M, hM⟩, e2, e3, e25, e26, e27, e5, e33, e34, e35⟩ K2 hK2
 have g1 : A''[A.length]? = some (pcB b) := by rw [hM]; exact lapl f1
 have g2 : A''[A.length + 1]? = some (inB 0) := by rw [hM]; exact lapl f2
 have g3 : A''[b]? = some (ckB s [true] tr ba m) := by rw [hM]; exact lapl f3
 have g4 : A''[m]? = some (dfB L) := by rw [hM]; exact lapl f4
 have g5 : A''[A'.length]? = some (inB j) := by rw [hM]; exact lap0 _ _
 rcases Nat.lt_or_ge q t.e.length with hlt2 | hge2
 case inr =>
  obtain rfl : q = t.e.length := by omega
  simp [e2, e3, e25, e26, e27, e5, e33, e34, e35, succ_wrap hlt hl]
  refine hK (j + 1) _ _ _ _ (Sub.refl _ _ _) ⟨by omega, ?_, by simp [e2], by simp [e3], by simp [e25], by simp [e26], by simp⟩ (by omega)
  exact ⟨N ++ inB j :: M, by rw [hM, hA']; simp⟩
 obtain ⟨x, hx⟩ : ∃ x, t.e[q]? = some x := ⟨_, gEG hlt2⟩
 have hx2 := (gSI.1 hx).2
 have hxm := gMO hx
 simp [e2, e3, e25, e26, e27, e5, e33, e34, e35, hlt2, hx, hx2, Ex.d_eq, lap, lap0]
 refine aCall_of (ilvars_af x (hel2 x hxm)) (by kernel_rfl) (by simp [Ex.d_eq]) ?_
 simp [e2, e3, e5]
 have hcl : AC Tryz.prog 50 [.d (.sl 1 (i64s (varsR x))), .fn 52 [] [.ptr A.length 0 0 0, .ptr (A.length + 1) 0 0 0, .ptr A'.length 0 0 0]] (A'' ++ [exB x]) (Same0 (A'' ++ [exB x]) (aB ((varsR x).any fun v => !knB s v || !usB L v j))) :=
  contains_in_ac _ _ (by kernel_rfl) fun v _ N2 => (ssaUses1_ac (A := A'' ++ [exB x] ++ N2) (lapl (lapl g3)) (lapl (lapl g4)) (lapl (lapl g1)) (lapl (lapl g2)) (lapl (lapl g5)) v (hL v)).mono fun r A3 ⟨h1, N3, h2⟩ => ⟨h1, N2 ++ N3, by rw [h2]; simp⟩
 have hno : ((varsR x).any fun v => !knB s v || !usB L v j) = false := by
  rw [List.any_eq_false]
  intro v hv
  obtain ⟨q1, q2⟩ := hu j t ht x hxm v hv
  simp [q1, q2]
 rw [hno] at hcl
 refine aCall_ofc hcl (by kernel_rfl) ?_
 rintro _ _ ⟨rfl, N3, rfl⟩
 simp [e2, e3, e25, e26, e27, e5, e33, e34, e35, succ_wrap hlt2 hel1]
 refine hK2 (q + 1) _ _ _ _ (Sub.refl _ _ _) ⟨by omega, ?_, by simp [e2], by simp [e3], by simp [e25], by simp [e26], by simp [e27], by simp [e5], by simp [e33], by simp [e34], by simp⟩ (by omega)
 exact ⟨M ++ exB x :: N3, by rw [hM]; simp⟩
end
theorem reach_one {g : Gr} {B : Bl} (hB : g.b = [B]) (h : edgN g 0 = []) : reachN g = [true] := by
 have h1 : postN g = [0] := by simp [postN, hB, dfsV, h]
 simp [reachN, ordN, h1, hB]
set_option maxRecDepth 100000 in
theorem ssaCheck_af (s : Ss) (B : Bl) (hB : s.g.b = [B]) (hp : s.ph = [[]]) (ho : 12 < s.og.length) (hg : GrFit s.g) (he : grErr s.g = 0) (hno : edgN s.g 0 = [])
 (hel : ∀ t ∈ B.s, t.e.length ≤ maxLen ∧ ∀ x ∈ t.e, x.nodes ≤ 1000000) (hd : ∀ (j : Nat) (t : St), B.s[j]? = some t → asB t = true → dfOk s (dfP B.s j) t.va = true)
 (hL : ∀ v q, lk2 v (dfP B.s B.s.length) = some q → q.1 = 0) (hu : ∀ (j : Nat) (t : St), B.s[j]? = some t → ∀ x ∈ t.e, ∀ v ∈ varsR x, knB s v = true ∧ usB (dfP B.s B.s.length) v j = true) :
 AF Tryz.prog 13 [ssV s] (aI .i64 0) := by
 have hE := edgOk s.g
 have hl1 : s.g.b.length = 1 := by rw [hB]; rfl
 have c1 := ilcheckg_af s.g hg
 rw [he] at c1
 have c2 := dmreach_af revOk s.g hg hE
 rw [reach_one hB hno] at c2
 obtain ⟨o, _, c3⟩ := dmTree_ex s.g hg hE
 have c4 := dmpreds_af s.g hg hE (by omega)
 obtain ⟨tr, htr⟩ : ∃ tr, oI s.g.b.length o = tr := ⟨_, rfl⟩
 obtain ⟨ba, hba⟩ : ∃ ba, dataP (turnN s.g) = ba := ⟨_, rfl⟩
 rw [htr] at c3
 rw [hba] at c4
 have hph : s.ph.length = 1 := by rw [hp]; rfl
 refine af_of Tryz.func13 rfl (by kernel_rfl) (by simp [Tryz.ntmps13]) fun _ => ?_; simp [Tryz.f13, Ex.d_eq]
 refine aCall_of c1 (by kernel_rfl) (by simp) ?_
 simp [hph, hl1, show ¬ (s.og.length : Int) ≤ 12 by omega]
 refine adrawR [ssV s, .ptr 0 0 0 0, grV s.g, .d (.sl 1 ([true].map fun b => [.v (.bool b)])), .ptr 0 0 0 0, grV s.g, .d (.sl 1 (i64s tr)), .ptr 0 0 0 0, grV s.g, .d (.sl 1 ba), .mp 1 0,
  .agg [aI .u32 s.g.ad, .d (.sl 2 (bls' s.g.b)), .d (.sl 1 (phss s.ph)), .d (.sl 1 (i64s s.og)), .d (.sl 1 ([true].map fun b => [.v (.bool b)])), .d (.sl 1 (i64s tr)), .d (.sl 1 ba), .mp 1 0], .ptr 2 0 0 0, .ptr 2 0 0 0]
  [(0, [ssB s]), (8, [ssB s]), (72, [ssB s]), (584, [ssB s]), (1024, [ssB s, dfB []]), (1032, [ssB s, dfB []]), (1096, [ssB s, dfB []]), (1608, [ssB s, dfB []]), (5704, [ssB s, dfB [], ckB s [true] tr ba 1])]
  (by kernel_rfl) (by kernel_rfl) rfl rfl ?_ ?_
 ·simp only [rowsR, List.mem_cons, List.not_mem_nil, or_false, forall_eq_or_imp, forall_eq]
  refine ⟨⟨?_, ?_, ?_, ?_, ?_, ?_, ?_, ?_, nmy (by kernel_rfl)⟩, ⟨?_, nmy (by kernel_rfl), nmy (by kernel_rfl), nmy (by kernel_rfl), ?_, nmy (by kernel_rfl), nmy (by kernel_rfl), nmy (by kernel_rfl), nmy (by kernel_rfl)⟩, ⟨?_, nmy (by kernel_rfl), nmy (by kernel_rfl), nmy (by kernel_rfl), ?_, nmy (by kernel_rfl), nmy (by kernel_rfl), nmy (by kernel_rfl), nmy (by kernel_rfl)⟩, ⟨?_, nmy (by kernel_rfl), nmy (by kernel_rfl), nmy (by kernel_rfl), ?_, nmy (by kernel_rfl), nmy (by kernel_rfl), nmy (by kernel_rfl), nmy (by kernel_rfl)⟩, ⟨?_, ?_, nmy (by kernel_rfl), nmy (by kernel_rfl), ?_, ?_, nmy (by kernel_rfl), nmy (by kernel_rfl), nmy (by kernel_rfl)⟩, ⟨?_, ?_, nmy (by kernel_rfl), nmy (by kernel_rfl), ?_, ?_, nmy (by kernel_rfl), nmy (by kernel_rfl), nmy (by kernel_rfl)⟩, ⟨nmy (by kernel_rfl), ?_, nmy (by kernel_rfl), nmy (by kernel_rfl), nmy (by kernel_rfl), ?_, nmy (by kernel_rfl), nmy (by kernel_rfl), nmy (by kernel_rfl)⟩, ⟨?_, ?_, ?_, nmy (by kernel_rfl), ?_, ?_, ?_, nmy (by kernel_rfl), nmy (by kernel_rfl)⟩, ⟨?_, ?_, ?_, nmy (by kernel_rfl), ?_, ?_, ?_, nmy (by kernel_rfl), nmy (by kernel_rfl)⟩, ⟨nmy (by kernel_rfl), nmy (by kernel_rfl), ?_, nmy (by kernel_rfl), nmy (by kernel_rfl), nmy (by kernel_rfl), ?_, nmy (by kernel_rfl), nmy (by kernel_rfl)⟩, ⟨?_, ?_, ?_, ?_, nmy (by kernel_rfl), nmy (by kernel_rfl), nmy (by kernel_rfl), nmy (by kernel_rfl), nmy (by kernel_rfl)⟩, ⟨nmy (by kernel_rfl), nmy (by kernel_rfl), nmy (by kernel_rfl), nmy (by kernel_rfl), nmy (by kernel_rfl), nmy (by kernel_rfl), nmy (by kernel_rfl), ?_, nmy (by kernel_rfl)⟩, ⟨nmy (by kernel_rfl), nmy (by kernel_rfl), nmy (by kernel_rfl), nmy (by kernel_rfl), nmy (by kernel_rfl), nmy (by kernel_rfl), nmy (by kernel_rfl), ?_, nmy (by kernel_rfl)⟩, ⟨nmy (by kernel_rfl), nmy (by kernel_rfl), nmy (by kernel_rfl), nmy (by kernel_rfl), nmy (by kernel_rfl), nmy (by kernel_rfl), nmy (by kernel_rfl), nmy (by kernel_rfl), ?_⟩, trivial⟩
  all_goals
   intro hmay
   clear hmay
   intro e' K' h A3 hA hk
   simp only [Op.operands, Call.operands] at h
   simp [still, heapM, putR, dvA] at h hA hk
   subst hA
   try simp [h]
   try exact hk
  all_goals first
   | refine aRaw_makeMap (tg := 1000002) (sz := 3) (by kernel_rfl) ?_
     exact hk
   | skip
  all_goals
   first
    | refine aCall_of c2 ?_ ?_ ?_
    | refine aCall_of c3 ?_ ?_ ?_
    | refine aCall_of c4 ?_ ?_ ?_
   ·kernel_rfl
   ·simp
   ·simpa using hk
 have hp0 : s.ph[0]? = some [] := by rw [hp]; rfl
 have hpl := (gSI.1 hp0).1
 have hp2 := (gSI.1 hp0).2
 have hBl : B.s.length ≤ maxLen := by
  have := (hg.2 B (by rw [hB]; simp)).1
  unfold maxLen
  omega
 have cc := ssaCollect_ac (A := [ssB s, dfB [], ckB s [true] tr ba 1]) (b := 2) (m := 1) rfl rfl (by omega) hB hp0 hBl hd
 simp [putR, hp0, hp2, hpl]
 refine aCall_ofc cc (by kernel_rfl) ?_
 rintro _ _ ⟨rfl, N, rfl⟩
 have hm2 : ([ssB s, dfB (dfP B.s B.s.length), ckB s [true] tr ba 1] ++ N)[1]? = some (dfB (dfP B.s B.s.length)) := rfl
 have cu := ssaUses_ac (A := [ssB s, dfB (dfP B.s B.s.length), ckB s [true] tr ba 1] ++ N) (b := 2) (m := 1) (tr := tr) (ba := ba) rfl hm2 hB hp0 hBl hel hL hu
 simp
 refine aLoop_iter 2 ?_
 simp
 refine aCall_ofc cu (by kernel_rfl) ?_
 rintro _ _ ⟨rfl, N', rfl⟩
 simp
abbrev lvV (x : Int × Int) : AV := .agg [aI .i64 x.1, aI .u32 x.2]
theorem cpNumber_af (n : Int) : AF Tryz.prog 31 [aI .u32 n] (lvV (1, n)) := by
 refine af_of Tryz.func31 rfl (by kernel_rfl) (by simp [Tryz.ntmps31]) fun _ => ?_; simp [Tryz.f31, Ex.d_eq]
theorem sn_int (k : IntKind) (x y : Int) : Instr.sameNow (.int k) (.int k x) (.int k y) = some (decide (x = y)) := by
 simp only [Instr.sameNow]
 by_cases h : x = y <;> simp [h]
def jnV (a b : Int × Int) : Int × Int := if a.1 = 0 ∨ a = b then b else if b.1 = 0 then a else (2, 0)
theorem cpJoin_af (a b : Int × Int) : AF Tryz.prog 77 [lvV a, lvV b] (lvV (jnV a b)) := by
 obtain ⟨R, hR⟩ : ∃ R, jnV a b = R := ⟨_, rfl⟩
 rw [hR]
 unfold jnV at hR
 obtain ⟨a1, a2⟩ := a
 obtain ⟨b1, b2⟩ := b
 simp only at hR
 refine af_of Tryz.func77 rfl (by kernel_rfl) (by simp [Tryz.ntmps77]) fun _ => ?_; simp [Tryz.f77, Ex.d_eq]
 by_cases h1 : a1 = 0
 ·rw [if_pos (.inl h1)] at hR
  subst hR
  simp [h1]
 simp [h1]
 change aSet _ _ _ _ _
 by_cases h2 : a1 = b1 ∧ a2 = b2
 ·obtain ⟨rfl, rfl⟩ := h2
  rw [if_pos (.inr rfl)] at hR
  subst hR
  simp [sn_int]
 ·rw [if_neg (by simp only [Prod.mk.injEq]; exact fun h => h.elim h1 h2)] at hR
  by_cases h3 : a1 = b1
  ·have h4 : ¬ a2 = b2 := fun h => h2 ⟨h3, h⟩
   subst h3
   rw [if_neg h1] at hR
   subst hR
   simp [sn_int, h4, h1]
  ·by_cases h5 : b1 = 0
   ·rw [if_pos h5] at hR
    subst hR
    simp [sn_int, h3, h5, h1]
   ·rw [if_neg h5] at hR
    subst hR
    simp [sn_int, h3, h5, h1]
abbrev vlB (V : List (Int × Int × Int)) : Blk := m2W 1 .i64 .u32 V
abbrev lvBk (x : Int × Int) : Blk := ⟨0, true, 58, 2, [[aI .i64 x.1, aI .u32 x.2]]⟩
abbrev anB (s : Ss) (mv : Nat) (X : AV) (me : Nat) (pr : List (List D)) (ch : Bool) : Blk := ⟨0, true, 64, 9,
 [[aI .u32 s.g.ad, .d (.sl 2 (bls' s.g.b)), .d (.sl 1 (phss s.ph)), .d (.sl 1 (i64s s.og)), .mp mv 1, X, .mp me 1, .d (.sl 1 pr), aB ch]]⟩
theorem und_vals : Tryz.prog.underlying 59 = some (.map 3 58) := by kernel_rfl
theorem zv_val : zv Tryz.prog 58 = some (.agg #[.int .i64 0, .int .u32 0]) := by kernel_rfl
def gtV (V : List (Int × Int × Int)) (v : Int) : Int × Int := (lk2 v V).getD (0, 0)
def chV (V : List (Int × Int × Int)) (v : Int) (x : Int × Int) : Bool := decide (12 < v) && !decide (jnV (gtV V v) x = gtV V v)
def stV2 (V : List (Int × Int × Int)) (v : Int) (x : Int × Int) : List (Int × Int × Int) := if chV V v x = true then up2 v (jnV (gtV V v) x) V else V
section
variable {A : AHeap} {b mv me : Nat} {s : Ss} {X : AV} {pr : List (List D)} {ch : Bool} {V : List (Int × Int × Int)}
set_option maxRecDepth 100000 in
theorem cpSet_ac (hb : A[b]? = some (anB s mv X me pr ch)) (hm : A[mv]? = some (vlB V)) (hbm : b ≠ mv) (v : Int) (x : Int × Int) :
 AC Tryz.prog 56 [.ptr b 0 0 0, aI .i64 v, lvV x] A (Same0 ((A.set mv (vlB (stV2 V v x))).set b (anB s mv X me pr (ch || chV V v x))) (.tup [])) := by
 have hbl := (gSI.1 hb).1
 have hml := (gSI.1 hm).1
 have hsame : (A.set mv (vlB V)).set b (anB s mv X me pr ch) = A := by rw [set_same hm, set_same hb]
 have hl := fun M : AHeap => look_m2 (A := A ++ M) und_vals (by kernel_rfl) zv_val (lapl hm) v false
 have hu := fun M : AHeap => upd_m2 (A := A ++ M) und_vals (by kernel_rfl) (lapl hm) v (jnV (gtV V v) x).1 (jnV (gtV V v) x).2
 have hbM : ∀ M, (A ++ M)[b]? = some (anB s mv X me pr ch) := fun M => lapl hb
 refine ac_of Tryz.func56 rfl (by kernel_rfl) (by simp [Tryz.ntmps56]) fun _ => ?_
 simp [Tryz.f56]
 by_cases h12 : v ≤ 12
 ·have h1 : chV V v x = false := by simp [chV]; omega
  simp [h12, Same0, stV2, h1, hsame]
 simp [h12]
 refine adrawR [.ptr b 0 0 0, .ptr b 0 0 0, .ptr b 0 0 4, .mp mv 1, aI .i64 v, lvV (gtV V v), lvV x, lvV (jnV (gtV V v) x), .ptr (A.length + 1) 0 0 0, .any]
  [(0, A ++ [lvBk x]), (128, A ++ [lvBk x]), (256, A ++ [lvBk x, lvBk (0, 0)]), (384, A ++ [lvBk x, lvBk (0, 0)]), (896, A ++ [lvBk x, lvBk (jnV (gtV V v) x)])]
  (by kernel_rfl) (by kernel_rfl) rfl rfl ?_ ?_
 ·simp only [rowsR, List.mem_cons, List.not_mem_nil, or_false, forall_eq_or_imp, forall_eq]
  refine ⟨⟨?_, nmy (by kernel_rfl), ?_, nmy (by kernel_rfl), nmy (by kernel_rfl)⟩, ⟨?_, nmy (by kernel_rfl), ?_, nmy (by kernel_rfl), nmy (by kernel_rfl)⟩, ⟨?_, nmy (by kernel_rfl), ?_, nmy (by kernel_rfl), nmy (by kernel_rfl)⟩, ⟨?_, nmy (by kernel_rfl), ?_, nmy (by kernel_rfl), nmy (by kernel_rfl)⟩, ⟨?_, nmy (by kernel_rfl), ?_, nmy (by kernel_rfl), nmy (by kernel_rfl)⟩, ⟨?_, nmy (by kernel_rfl), ?_, nmy (by kernel_rfl), nmy (by kernel_rfl)⟩, ⟨?_, nmy (by kernel_rfl), ?_, nmy (by kernel_rfl), nmy (by kernel_rfl)⟩, ⟨?_, nmy (by kernel_rfl), ?_, nmy (by kernel_rfl), nmy (by kernel_rfl)⟩, ⟨?_, ?_, nmy (by kernel_rfl), nmy (by kernel_rfl), nmy (by kernel_rfl)⟩, ⟨nmy (by kernel_rfl), nmy (by kernel_rfl), nmy (by kernel_rfl), ?_, nmy (by kernel_rfl)⟩, trivial⟩
  all_goals
   intro hmay
   clear hmay
   intro e' K' h A3 hA hk
   simp only [Op.operands, Call.operands] at h
   simp [still, heapM, putR, dvA] at h hA hk
   subst hA
   try simp [h, hbM, lap, lap0]
   try exact hk
  all_goals first
   | refine aRaw_lookup (r := lvV (gtV V v)) ?_ ?_
     ·first | simpa [okM, gtV, h] using hl [lvBk x] | simpa [okM, gtV, h] using hl [lvBk x, lvBk (0, 0)]
     ·exact hk
   | skip
  all_goals
   refine aCall_of (cpJoin_af (gtV V v) x) ?_ ?_ ?_
   ·kernel_rfl
   ·simp
   ·simpa using hk
 obtain ⟨J, hJ⟩ : ∃ J, jnV (gtV V v) x = J := ⟨_, rfl⟩
 rw [hJ] at hu ⊢
 have hst : stV2 V v x = if J = gtV V v then V else up2 v J V := by
  unfold stV2 chV
  rw [hJ]
  by_cases hj : J = gtV V v
  ·simp [hj]
  ·simp [hj]
   omega
 have hch : chV V v x = !decide (J = gtV V v) := by
  unfold chV
  rw [hJ]
  simp
  omega
 rw [hst, hch]
 simp [putR]
 refine adrawR [lvV J, .ptr b 0 0 0, .ptr b 0 0 0, .ptr b 0 0 4, .mp mv 1, aI .i64 v, lvV (gtV V v), aB (!decide (J = gtV V v))] [(0, A ++ [lvBk x, lvBk J])] (by kernel_rfl) (by kernel_rfl) rfl rfl ?_ ?_
 ·simp only [rowsR, List.mem_cons, List.not_mem_nil, or_false, forall_eq_or_imp, forall_eq]
  refine ⟨?_, ?_, ?_, ?_, ?_, ?_, ?_, ?_, trivial⟩
  all_goals
   intro hmay
   clear hmay
   intro e' K' h A3 hA hk
   simp only [Op.operands, Call.operands] at h
   simp [still, heapM, putR, dvA] at h hA hk
   subst hA
   try simp [h, hbM, lap, lap0]
   try exact hk
  ·refine aRaw_lookup (r := lvV (gtV V v)) (by simpa [okM, gtV, h] using hl [lvBk x, lvBk J]) ?_
   exact hk
  ·obtain ⟨G, hG⟩ : ∃ G, gtV V v = G := ⟨_, rfl⟩
   rw [hG] at hk ⊢
   obtain ⟨j1, j2⟩ := J
   obtain ⟨g1, g2⟩ := G
   change aSet _ _ _ _ _
   by_cases h1 : j1 = g1
   ·by_cases h2 : j2 = g2
    ·simpa [sn_int, h1, h2] using hk
    ·simpa [sn_int, h1, h2] using hk
   ·simpa [sn_int, h1] using hk
 simp [putR]
 by_cases hj : J = gtV V v
 ·simp [hj, Same0]
  exact ⟨_, by rw [hsame]⟩
 simp [hj]
 refine adraw2 6 [] (by kernel_rfl) (by kernel_rfl) (by kernel_rfl) (by kernel_rfl) (by kernel_rfl) ?_
 simp [hbM, lap, lap0]
 refine ⟨by omega, ?_⟩
 refine aRaw_mapUpdate (A' := A.set mv (vlB (up2 v J V)) ++ [lvBk x, lvBk J]) ?_ ?_
 ·have h := hu [lvBk x, lvBk J]
  rw [List.set_append_left _ _ hml] at h
  simpa using h
 have hb3 : (A.set mv (vlB (up2 v J V)))[b]? = some (anB s mv X me pr ch) := by rw [gSN (Ne.symm hbm)]; exact hb
 have hb4 : ∀ M, (A.set mv (vlB (up2 v J V)) ++ M)[b]? = some (anB s mv X me pr ch) := fun M => lapl hb3
 simp [hb4]
 exact ⟨rfl, _, List.set_append_left _ _ (by simpa using hbl)⟩
end
abbrev nilP : AV := .d (.v (.pointer none))
abbrev nilSt : AV := .agg [.d (.v (.slice none 0 0))]
theorem mmadeN_af : AF Tryz.prog 100 [nilP] (aB false) := by
 refine af_of Tryz.func100 rfl (by kernel_rfl) (by simp [Tryz.ntmps100]) fun _ => ?_; simp [Tryz.f100, Ex.d_eq]
 change aSet _ _ _ _ _
 simp [nilB]
theorem mloadN_af (a w : Int) : AF Tryz.prog 82 [nilP, aI .u32 a, aI .i64 w] (.tup [aI .u32 0, aI .i64 1]) := by
 refine af_of Tryz.func82 rfl (by kernel_rfl) (by simp [Tryz.ntmps82]) fun _ => ?_; simp [Tryz.f82, Ex.d_eq]
 refine aCall_of mmadeN_af (by simp) (by simp [Ex.d_eq]) ?_; simp [Ex.d_eq]
theorem stvalN_af (v : Int) : AF Tryz.prog 62 [nilSt, aI .i64 v] (aI .u32 0) := by
 refine af_of Tryz.func62 rfl (by kernel_rfl) (by simp [Tryz.ntmps62]) fun _ => ?_; simp [Tryz.f62, Ex.d_eq]
 by_cases h : v < 0
 ·simp [h]
 ·simp [h, show (0 : Int) ≤ v by omega]
def evC (e : Ex) : Int × Int := evX (fun _ => 0) (fun _ _ => (0, 1)) e
theorem iexprC_af (e : Ex) (hn : OkN e) (hf : formB e = true) (hs : shalB 64 e = true) : AF Tryz.prog 39 [exA e, nilSt, nilP] (.tup [aI .u32 (evC e).1, aI .i64 (evC e).2]) := by
 have c1 := check_af e
 rw [if_pos hs, if_pos hf] at c1
 refine af_of Tryz.func39 rfl (by kernel_rfl) (by simp [Tryz.ntmps39]) fun _ => ?_; simp [Tryz.f39, Ex.d_eq]
 refine aCall_of c1 (by simp) (by simp [Ex.d_eq]) ?_; simp [Ex.d_eq]
 have c := ieval_ac (B := [exB e, ⟨0, true, 100, 1, [[.d (.v (.slice none 0 0))]]⟩]) (f := 62) (fs := [nilSt]) (mp := nilP) (val := fun _ => 0) (L := fun _ _ => (0, 1)) (by kernel_rfl) (fun _ => r32_0) (fun _ _ _ => r32_0)
  (fun v M _ _ => (AF.ac (stvalN_af v) (by simp)).mono fun r A' h => ⟨h.1, [], by rw [h.2]; simp⟩) (fun a w M _ => (AF.ac (mloadN_af a w) (by simp)).mono fun r A' h => ⟨h.1, [], by rw [h.2]; simp⟩) e hn hf []
 simp only [List.append_nil] at c
 refine aCall_ofc c (by kernel_rfl) ?_
 rintro _ _ ⟨rfl, N, rfl⟩
 simp [evC]
def vlE (V : List (Int × Int × Int)) : Ex → Int × Int
 | .mk o n v _ [] => if o = 1 then (1, n) else gtV V v
 | .mk o n v w [x] => if (vlE V x).1 = 0 then vlE V x else if (vlE V x).1 = 2 ∨ o = 18 then (2, 0) else (1, (evC (.mk o n v w [eCon (vlE V x).2])).1)
 | .mk o n v w [x, y] => if (vlE V x).1 = 0 then vlE V x else if (vlE V y).1 = 0 then vlE V y else if ((vlE V x).1 = 2 ∨ (vlE V y).1 = 2) ∨ o = 18 then (2, 0) else (1, (evC (.mk o n v w [eCon (vlE V x).2, eCon (vlE V y).2])).1)
 | _ => (2, 0)
theorem vlE_r32 {V : List (Int × Int × Int)} (hV : ∀ v, R32 (gtV V v).2) : ∀ e : Ex, OkN e → R32 (vlE V e).2 := by
 intro e
 induction e using Ex.ind with
 | h e ih =>
 intro hn
 obtain ⟨o, n, v, w, l⟩ := e
 have hnn := hn.n
 have hl := hn.l
 simp only [Ex.n_mk, Ex.l_mk] at hnn hl ih
 match l, hl, ih with
 | [], _, _ =>
   simp only [vlE]
   split
   ·exact hnn
   ·exact hV v
 | [x], hl, ih =>
   have hx := ih x (by simp) (hl x (by simp))
   simp only [vlE]
   split
   ·exact hx
   split
   ·exact r32_0
   ·exact evX_r32 (fun _ => r32_0) (fun _ _ _ => r32_0) _ (.mk hnn (by simpa using okN_con hx))
 | [x, y], hl, ih =>
   have hx := ih x (by simp) (hl x (by simp))
   have hy := ih y (by simp) (hl y (by simp))
   simp only [vlE]
   split
   ·exact hx
   split
   ·exact hy
   split
   ·exact r32_0
   ·exact evX_r32 (fun _ => r32_0) (fun _ _ _ => r32_0) _ (.mk hnn (by simpa using ⟨okN_con hx, okN_con hy⟩))
 | _ :: _ :: _ :: _, _, _ => exact r32_0
section
variable {A : AHeap} {b mv me : Nat} {s : Ss} {X : AV} {pr : List (List D)} {ch : Bool} {V : List (Int × Int × Int)}
abbrev nilS : AV := .d (.v (.slice none 0 0))
abbrev fldB (o n v w : Int) (S : AV) : Blk := ⟨0, true, 37, 5, [[aI .i64 o, aI .u32 n, aI .i64 v, aI .i64 w, S]]⟩
abbrev sgB (n : Int) : Blk := ⟨0, true, 37, 5, [[aI .i64 1, aI .u32 n, aI .i64 0, aI .i64 0, .d (.sl 5 [])]]⟩
abbrev apB (ver : Nat) (l : List Int) : Blk := ⟨ver, true, 37, 5, l.map fun n => [aI .i64 1, aI .u32 n, aI .i64 0, aI .i64 0, .d (.sl 5 [])]⟩
set_option maxRecDepth 100000 in
set_option maxHeartbeats 0 in
theorem cpEval_ac (hb : A[b]? = some (anB s mv X me pr ch)) (hm : A[mv]? = some (vlB V)) (hV : ∀ v, R32 (gtV V v).2) : ∀ e : Ex, OkN e → formB e = true → ∀ M, AC Tryz.prog 22 [.ptr b 0 0 0, exA e] (A ++ M) (Same0 (A ++ M) (lvV (vlE V e))) := by
 intro e
 induction e using Ex.ind with
 | h e ih =>
 intro hn hf M
 obtain ⟨B, hB⟩ : ∃ B, A ++ M = B := ⟨_, rfl⟩
 have hbB : B[b]? = some (anB s mv X me pr ch) := by rw [← hB]; exact lapl hb
 have hmB : B[mv]? = some (vlB V) := by rw [← hB]; exact lapl hm
 have hbl := (gSI.1 hbB).1
 have hbM : ∀ M, (B ++ M)[b]? = some (anB s mv X me pr ch) := fun M => lapl hbB
 have hl := fun (v : Int) (M : AHeap) => look_m2 (A := B ++ M) und_vals (by kernel_rfl) zv_val (lapl hmB) v false
 have ih' : ∀ x ∈ e.l, ∀ N, AC Tryz.prog 22 [.ptr b 0 0 0, exA x] (B ++ N) (Same0 (B ++ N) (lvV (vlE V x))) := fun x hx N => by
  have := ih x hx (hn.l x hx) ((form_all hf).2 x hx) (M ++ N)
  rw [← hB]
  simpa using this
 rw [hB]
 have hok := (form_all hf).1
 obtain ⟨R, hR⟩ : ∃ R, vlE V e = R := ⟨_, rfl⟩
 rw [hR]
 obtain ⟨o, n, v, w, l⟩ := e
 simp only [Ex.op_mk, Ex.n_mk, Ex.v_mk, Ex.wd_mk, Ex.l_mk] at ih' hok
 have hnn := hn.n
 simp only [Ex.n_mk] at hnn
 refine ac_of Tryz.func22 rfl (by kernel_rfl) (by simp [Tryz.ntmps22]) fun _ => ?_
 simp [Tryz.f22, lap, lap0]
 by_cases o1 : o = 1
 ·have : l = [] := by
   unfold okE at hok
   rw [if_pos o1] at hok
   simp only [Bool.and_eq_true, beq_iff_eq] at hok
   exact List.length_eq_zero_iff.1 hok.2
  subst this
  simp only [vlE, if_pos o1] at hR
  subst hR
  simp [o1, lap, lap0]
  refine aCall_of (cpNumber_af n) (by kernel_rfl) (by simp) ?_
  simp [lap, lap0, las, las0, Same0]
 simp [o1]
 by_cases o2 : o = 2
 ·have : l = [] := by
   unfold okE at hok
   rw [if_neg o1, if_pos o2] at hok
   simp only [Bool.and_eq_true, beq_iff_eq] at hok
   exact List.length_eq_zero_iff.1 hok.1.2
  subst this
  simp only [vlE, if_neg o1] at hR
  subst hR
  simp [o2, lap, lap0]
  refine adrawR [.ptr b 0 0 0, .ptr b 0 0 0, .ptr b 0 0 4, .mp mv 1, .ptr B.length 0 0 2, aI .i64 v, lvV (gtV V v), .any]
   [(0, B ++ [exB (.mk o n v w []), lvBk (0, 0)]), (128, B ++ [exB (.mk o n v w []), lvBk (gtV V v)])] (by kernel_rfl) (by kernel_rfl) (by simp [heapM, o2]) rfl ?_ ?_
  ·simp only [rowsR, List.mem_cons, List.not_mem_nil, or_false, forall_eq_or_imp, forall_eq]
   refine ⟨⟨?_, nmy (by kernel_rfl)⟩, ⟨?_, nmy (by kernel_rfl)⟩, ⟨?_, nmy (by kernel_rfl)⟩, ⟨?_, nmy (by kernel_rfl)⟩, ⟨?_, nmy (by kernel_rfl)⟩, ⟨?_, nmy (by kernel_rfl)⟩, ⟨?_, nmy (by kernel_rfl)⟩, ⟨?_, nmy (by kernel_rfl)⟩, trivial⟩
   all_goals
    intro hmay
    clear hmay
    intro e' K' h A3 hA hk
    simp only [Op.operands, Call.operands] at h
    simp [still, heapM, putR, dvA] at h hA hk
    subst hA
    try simp [h, hbM, lap, lap0, las, las0]
    try exact hk
   refine aRaw_lookup (r := lvV (gtV V v)) (by simpa [okM, gtV, h] using hl v [exB (.mk o n v w []), lvBk (0, 0)]) ?_
   exact hk
  simp [putR, lap, lap0, Same0]
 have l2 : l.length = 1 ∨ l.length = 2 := by
  unfold okE at hok
  rw [if_neg o1, if_neg o2] at hok
  split at hok
  ·simp only [Bool.and_eq_true, beq_iff_eq] at hok
   exact .inr hok.2
  split at hok
  ·simp only [Bool.and_eq_true, beq_iff_eq] at hok
   exact .inl hok.2
  split at hok
  ·simp only [Bool.and_eq_true, beq_iff_eq] at hok
   exact .inl hok.2
  split at hok
  ·simp only [Bool.and_eq_true, beq_iff_eq] at hok
   exact .inl hok.2
  ·cases hok
 have hlb : ∀ i, (B ++ i)[B.length]? = i[0]? := fun i => lap0 _ _
 match l, l2 with
 | [x], _ =>
   have ihx := ih' x (by simp)
   obtain ⟨a, ha⟩ : ∃ a, vlE V x = a := ⟨_, rfl⟩
   rw [ha] at ihx
   simp only [vlE, ha] at hR
   simp [o2, lap, lap0, las, las0]
   refine aLoop_iter 2 ?_
   simp [lap, lap0, las, las0, Ex.d_eq]
   refine aCall_ofc (ihx _) (by kernel_rfl) ?_
   rintro _ _ ⟨rfl, N, rfl⟩
   simp [lap, lap0, las, las0]
   by_cases a0 : a.1 = 0
   ·rw [if_pos a0] at hR
    subst hR
    simp [a0, lap, lap0, las, las0, Same0]
   rw [if_neg a0] at hR
   simp [a0, lap, lap0, las, las0]
   by_cases a2 : a.1 = 2
   ·rw [if_pos (.inl a2)] at hR
    subst hR
    simp [a2]
    refine adrawR [.ptr (B.length + 2) 0 0 4, .d (.v (.slice none 0 0)), .ptr (B.length + (N.length + 1 + 1 + 1 + 1)) 0 0 1, aI .u32 a.2, exA (eCon a.2), .own (B.length + (N.length + 1 + 1 + 1 + 1 + 1)) 0 0 1, .own (B.length + (N.length + 1 + 1 + 1 + 1 + 1 + 1)) 0 0 1, .ptr (B.length + 2) 0 0 4, .any]
     [(0, B ++ (exB (.mk o n v w [x]) :: lvBk (0, 0) :: fldB o n v w nilS :: exB x :: (N ++ [lvBk a]))), (16, B ++ (exB (.mk o n v w [x]) :: lvBk (0, 0) :: fldB o n v w nilS :: exB x :: (N ++ [lvBk a]))),
      (48, B ++ (exB (.mk o n v w [x]) :: lvBk (0, 0) :: fldB o n v w nilS :: exB x :: (N ++ [lvBk a, sgB a.2]))), (112, B ++ (exB (.mk o n v w [x]) :: lvBk (0, 0) :: fldB o n v w nilS :: exB x :: (N ++ [lvBk a, sgB a.2, apB 0 [a.2]]))),
      (368, B ++ (exB (.mk o n v w [x]) :: lvBk (0, 0) :: fldB o n v w (.own (B.length + (N.length + 1 + 1 + 1 + 1 + 1 + 1)) 0 0 1) :: exB x :: (N ++ [lvBk a, sgB a.2, apB 0 [a.2]])))]
     (by kernel_rfl) (by kernel_rfl) (by simp [heapM, Ex.d_eq, a2]) rfl ?_ ?_
    ·simp only [rowsR, List.mem_cons, List.not_mem_nil, or_false, forall_eq_or_imp, forall_eq]
     refine ⟨⟨?_, ?_, ?_, nmy (by kernel_rfl), nmy (by kernel_rfl)⟩, ⟨?_, ?_, ?_, nmy (by kernel_rfl), nmy (by kernel_rfl)⟩, ⟨?_, nmy (by kernel_rfl), nmy (by kernel_rfl), nmy (by kernel_rfl), nmy (by kernel_rfl)⟩, ⟨?_, nmy (by kernel_rfl), nmy (by kernel_rfl), nmy (by kernel_rfl), nmy (by kernel_rfl)⟩, ⟨?_, nmy (by kernel_rfl), nmy (by kernel_rfl), nmy (by kernel_rfl), nmy (by kernel_rfl)⟩, ⟨nmy (by kernel_rfl), ?_, nmy (by kernel_rfl), nmy (by kernel_rfl), nmy (by kernel_rfl)⟩, ⟨nmy (by kernel_rfl), nmy (by kernel_rfl), ?_, nmy (by kernel_rfl), nmy (by kernel_rfl)⟩, ⟨nmy (by kernel_rfl), nmy (by kernel_rfl), nmy (by kernel_rfl), ?_, nmy (by kernel_rfl)⟩, ⟨nmy (by kernel_rfl), nmy (by kernel_rfl), nmy (by kernel_rfl), ?_, nmy (by kernel_rfl)⟩, trivial⟩
     all_goals
      intro hmay
      clear hmay
      intro e' K' h A3 hA hk
      simp only [Op.operands, Call.operands] at h
      simp [still, heapM, putR, dvA] at h hA hk
      subst hA
      try simp [h, lap, lap0, las, las0]
      try exact hk
     ·refine aCall_of (const_af a.2) (by kernel_rfl) (by simp) ?_
      simpa using hk
     ·refine aRaw_app byt_35 ?_
      simp [h, lap, lap0]
      exact ⟨by unfold maxLen; omega, hk⟩
    simp [putR, lap, lap0]
    exact ⟨rfl, _, rfl⟩
   ·simp [a2]
    refine adrawR [.ptr (B.length + 2) 0 0 4, .d (.v (.slice none 0 0)), .ptr (B.length + (N.length + 1 + 1 + 1 + 1)) 0 0 1, aI .u32 a.2, exA (eCon a.2), .own (B.length + (N.length + 1 + 1 + 1 + 1 + 1)) 0 0 1, .own (B.length + (N.length + 1 + 1 + 1 + 1 + 1 + 1)) 0 0 1, .ptr (B.length + 2) 0 0 4, .any]
     [(0, B ++ (exB (.mk o n v w [x]) :: lvBk (0, 0) :: fldB o n v w nilS :: exB x :: (N ++ [lvBk a]))), (16, B ++ (exB (.mk o n v w [x]) :: lvBk (0, 0) :: fldB o n v w nilS :: exB x :: (N ++ [lvBk a]))),
      (48, B ++ (exB (.mk o n v w [x]) :: lvBk (0, 0) :: fldB o n v w nilS :: exB x :: (N ++ [lvBk a, sgB a.2]))), (112, B ++ (exB (.mk o n v w [x]) :: lvBk (0, 0) :: fldB o n v w nilS :: exB x :: (N ++ [lvBk a, sgB a.2, apB 0 [a.2]]))),
      (368, B ++ (exB (.mk o n v w [x]) :: lvBk (0, 0) :: fldB o n v w (.own (B.length + (N.length + 1 + 1 + 1 + 1 + 1 + 1)) 0 0 1) :: exB x :: (N ++ [lvBk a, sgB a.2, apB 0 [a.2]])))]
     (by kernel_rfl) (by kernel_rfl) (by simp [heapM, Ex.d_eq, a2]) rfl ?_ ?_
    ·simp only [rowsR, List.mem_cons, List.not_mem_nil, or_false, forall_eq_or_imp, forall_eq]
     refine ⟨⟨?_, ?_, ?_, nmy (by kernel_rfl), nmy (by kernel_rfl)⟩, ⟨?_, ?_, ?_, nmy (by kernel_rfl), nmy (by kernel_rfl)⟩, ⟨?_, nmy (by kernel_rfl), nmy (by kernel_rfl), nmy (by kernel_rfl), nmy (by kernel_rfl)⟩, ⟨?_, nmy (by kernel_rfl), nmy (by kernel_rfl), nmy (by kernel_rfl), nmy (by kernel_rfl)⟩, ⟨?_, nmy (by kernel_rfl), nmy (by kernel_rfl), nmy (by kernel_rfl), nmy (by kernel_rfl)⟩, ⟨nmy (by kernel_rfl), ?_, nmy (by kernel_rfl), nmy (by kernel_rfl), nmy (by kernel_rfl)⟩, ⟨nmy (by kernel_rfl), nmy (by kernel_rfl), ?_, nmy (by kernel_rfl), nmy (by kernel_rfl)⟩, ⟨nmy (by kernel_rfl), nmy (by kernel_rfl), nmy (by kernel_rfl), ?_, nmy (by kernel_rfl)⟩, ⟨nmy (by kernel_rfl), nmy (by kernel_rfl), nmy (by kernel_rfl), ?_, nmy (by kernel_rfl)⟩, trivial⟩
     all_goals
      intro hmay
      clear hmay
      intro e' K' h A3 hA hk
      simp only [Op.operands, Call.operands] at h
      simp [still, heapM, putR, dvA] at h hA hk
      subst hA
      try simp [h, lap, lap0, las, las0]
      try exact hk
     ·refine aCall_of (const_af a.2) (by kernel_rfl) (by simp) ?_
      simpa using hk
     ·refine aRaw_app byt_35 ?_
      simp [h, lap, lap0]
      exact ⟨by unfold maxLen; omega, hk⟩
    by_cases o18 : o = 18
    ·rw [if_pos (.inr o18)] at hR
     subst hR
     simp [putR, lap, lap0, o18]
     exact ⟨rfl, _, rfl⟩
    rw [if_neg (by simp [a2, o18])] at hR
    subst hR
    simp [putR, lap, lap0, o18]
    have hva : R32 a.2 := by rw [← ha]; exact vlE_r32 hV x (hn.l x (by simp))
    have hE := iexprC_af (.mk o n v w [eCon a.2]) (.mk hnn (by simpa using okN_con hva)) (by rw [formB_eq]; simpa [form_eCon] using hok) rfl
    refine aCall_ofs hE (by kernel_rfl) (by simp [lap, lap0]; exact NLeE.refl _) (by simp) ?_
    simp [putR, lap, lap0]
    refine aCall_of (cpNumber_af (evC (.mk o n v w [eCon a.2])).1) (by kernel_rfl) (by simp) ?_
    simp [lap, lap0, las, las0]
    exact ⟨rfl, _, rfl⟩
 | [x, y], _ =>
   have ihx := ih' x (by simp)
   have ihy := ih' y (by simp)
   obtain ⟨a, ha⟩ : ∃ a, vlE V x = a := ⟨_, rfl⟩
   obtain ⟨c, hc⟩ : ∃ c, vlE V y = c := ⟨_, rfl⟩
   rw [ha] at ihx
   rw [hc] at ihy
   simp only [vlE, ha, hc] at hR
   simp [o2, lap, lap0, las, las0]
   refine aLoop_iter 3 ?_
   simp [lap, lap0, las, las0, Ex.d_eq]
   refine aCall_ofc (ihx _) (by kernel_rfl) ?_
   rintro _ _ ⟨rfl, N, rfl⟩
   simp [lap, lap0, las, las0]
   by_cases a0 : a.1 = 0
   ·rw [if_pos a0] at hR
    subst hR
    simp [a0, lap, lap0, las, las0, Same0]
   rw [if_neg a0] at hR
   simp [a0, lap, lap0, las, las0]
   by_cases a2 : a.1 = 2
   ·simp [a2]
    refine adrawR [.ptr (B.length + 2) 0 0 4, .d (.v (.slice none 0 0)), .ptr (B.length + (N.length + 1 + 1 + 1 + 1)) 0 0 1, aI .u32 a.2, exA (eCon a.2), .own (B.length + (N.length + 1 + 1 + 1 + 1 + 1)) 0 0 1, .own (B.length + (N.length + 1 + 1 + 1 + 1 + 1 + 1)) 0 0 1, .ptr (B.length + 2) 0 0 4, .any]
     [(0, B ++ (exB (.mk o n v w [x, y]) :: lvBk (0, 0) :: fldB o n v w nilS :: exB x :: (N ++ [lvBk a]))), (16, B ++ (exB (.mk o n v w [x, y]) :: lvBk (0, 0) :: fldB o n v w nilS :: exB x :: (N ++ [lvBk a]))),
      (48, B ++ (exB (.mk o n v w [x, y]) :: lvBk (0, 0) :: fldB o n v w nilS :: exB x :: (N ++ [lvBk a, sgB a.2]))), (112, B ++ (exB (.mk o n v w [x, y]) :: lvBk (0, 0) :: fldB o n v w nilS :: exB x :: (N ++ [lvBk a, sgB a.2, apB 0 [a.2]]))),
      (368, B ++ (exB (.mk o n v w [x, y]) :: lvBk (0, 0) :: fldB o n v w (.own (B.length + (N.length + 1 + 1 + 1 + 1 + 1 + 1)) 0 0 1) :: exB x :: (N ++ [lvBk a, sgB a.2, apB 0 [a.2]])))]
     (by kernel_rfl) (by kernel_rfl) (by simp [heapM, Ex.d_eq, a2]) rfl ?_ ?_
    ·simp only [rowsR, List.mem_cons, List.not_mem_nil, or_false, forall_eq_or_imp, forall_eq]
     refine ⟨⟨?_, ?_, ?_, nmy (by kernel_rfl), nmy (by kernel_rfl)⟩, ⟨?_, ?_, ?_, nmy (by kernel_rfl), nmy (by kernel_rfl)⟩, ⟨?_, nmy (by kernel_rfl), nmy (by kernel_rfl), nmy (by kernel_rfl), nmy (by kernel_rfl)⟩, ⟨?_, nmy (by kernel_rfl), nmy (by kernel_rfl), nmy (by kernel_rfl), nmy (by kernel_rfl)⟩, ⟨?_, nmy (by kernel_rfl), nmy (by kernel_rfl), nmy (by kernel_rfl), nmy (by kernel_rfl)⟩, ⟨nmy (by kernel_rfl), ?_, nmy (by kernel_rfl), nmy (by kernel_rfl), nmy (by kernel_rfl)⟩, ⟨nmy (by kernel_rfl), nmy (by kernel_rfl), ?_, nmy (by kernel_rfl), nmy (by kernel_rfl)⟩, ⟨nmy (by kernel_rfl), nmy (by kernel_rfl), nmy (by kernel_rfl), ?_, nmy (by kernel_rfl)⟩, ⟨nmy (by kernel_rfl), nmy (by kernel_rfl), nmy (by kernel_rfl), ?_, nmy (by kernel_rfl)⟩, trivial⟩
     all_goals
      intro hmay
      clear hmay
      intro e' K' h A3 hA hk
      simp only [Op.operands, Call.operands] at h
      simp [still, heapM, putR, dvA] at h hA hk
      subst hA
      try simp [h, lap, lap0, las, las0]
      try exact hk
     ·refine aCall_of (const_af a.2) (by kernel_rfl) (by simp) ?_
      simpa using hk
     ·refine aRaw_app byt_35 ?_
      simp [h, lap, lap0]
      exact ⟨by unfold maxLen; omega, hk⟩
    simp [putR, lap, lap0, las, las0, Ex.d_eq]
    refine aCall_ofc (ihy _) (by kernel_rfl) ?_
    rintro _ _ ⟨rfl, N2, rfl⟩
    simp [lap, lap0, las, las0]
    by_cases c0 : c.1 = 0
    ·rw [if_pos c0] at hR
     subst hR
     simp [c0, lap, lap0, las, las0]
     exact ⟨by simp [lvV, c0], _, rfl⟩
    rw [if_neg c0] at hR
    simp [c0, lap, lap0, las, las0]
    by_cases c2 : c.1 = 2
    ·simp [c2]
     refine adrawR [.ptr (B.length + 2) 0 0 4, .own (B.length + (N.length + 1 + 1 + 1 + 1 + 1 + 1)) 0 0 1, .ptr (B.length + (N.length + (N2.length + 1 + 1 + 1 + 1) + 1 + 1 + 1 + 1)) 0 0 1, aI .u32 c.2, exA (eCon c.2), .own (B.length + (N.length + (N2.length + 1 + 1 + 1 + 1 + 1) + 1 + 1 + 1 + 1)) 0 0 1, .own (B.length + (N.length + 1 + 1 + 1 + 1 + 1 + 1)) 1 0 2, .ptr (B.length + 2) 0 0 4, .any]
      [(0, B ++ (exB (.mk o n v w [x, y]) :: lvBk (0, 0) :: fldB o n v w (.own (B.length + (N.length + 1 + 1 + 1 + 1 + 1 + 1)) 0 0 1) :: exB x :: (N ++ lvBk a :: sgB a.2 :: apB 0 [a.2] :: exB y :: (N2 ++ [lvBk c])))), (16, B ++ (exB (.mk o n v w [x, y]) :: lvBk (0, 0) :: fldB o n v w (.own (B.length + (N.length + 1 + 1 + 1 + 1 + 1 + 1)) 0 0 1) :: exB x :: (N ++ lvBk a :: sgB a.2 :: apB 0 [a.2] :: exB y :: (N2 ++ [lvBk c])))),
       (48, B ++ (exB (.mk o n v w [x, y]) :: lvBk (0, 0) :: fldB o n v w (.own (B.length + (N.length + 1 + 1 + 1 + 1 + 1 + 1)) 0 0 1) :: exB x :: (N ++ lvBk a :: sgB a.2 :: apB 0 [a.2] :: exB y :: (N2 ++ [lvBk c, sgB c.2])))), (112, B ++ (exB (.mk o n v w [x, y]) :: lvBk (0, 0) :: fldB o n v w (.own (B.length + (N.length + 1 + 1 + 1 + 1 + 1 + 1)) 0 0 1) :: exB x :: (N ++ lvBk a :: sgB a.2 :: apB 1 [a.2, c.2] :: exB y :: (N2 ++ [lvBk c, sgB c.2])))),
       (368, B ++ (exB (.mk o n v w [x, y]) :: lvBk (0, 0) :: fldB o n v w (.own (B.length + (N.length + 1 + 1 + 1 + 1 + 1 + 1)) 1 0 2) :: exB x :: (N ++ lvBk a :: sgB a.2 :: apB 1 [a.2, c.2] :: exB y :: (N2 ++ [lvBk c, sgB c.2]))))]
      (by kernel_rfl) (by kernel_rfl) (by simp [heapM, Ex.d_eq, a2, c2]) rfl ?_ ?_
     ·simp only [rowsR, List.mem_cons, List.not_mem_nil, or_false, forall_eq_or_imp, forall_eq]
      refine ⟨⟨?_, ?_, ?_, nmy (by kernel_rfl), nmy (by kernel_rfl)⟩, ⟨?_, ?_, ?_, nmy (by kernel_rfl), nmy (by kernel_rfl)⟩, ⟨?_, nmy (by kernel_rfl), nmy (by kernel_rfl), nmy (by kernel_rfl), nmy (by kernel_rfl)⟩, ⟨?_, nmy (by kernel_rfl), nmy (by kernel_rfl), nmy (by kernel_rfl), nmy (by kernel_rfl)⟩, ⟨?_, nmy (by kernel_rfl), nmy (by kernel_rfl), nmy (by kernel_rfl), nmy (by kernel_rfl)⟩, ⟨nmy (by kernel_rfl), ?_, nmy (by kernel_rfl), nmy (by kernel_rfl), nmy (by kernel_rfl)⟩, ⟨nmy (by kernel_rfl), nmy (by kernel_rfl), ?_, nmy (by kernel_rfl), nmy (by kernel_rfl)⟩, ⟨nmy (by kernel_rfl), nmy (by kernel_rfl), nmy (by kernel_rfl), ?_, nmy (by kernel_rfl)⟩, ⟨nmy (by kernel_rfl), nmy (by kernel_rfl), nmy (by kernel_rfl), ?_, nmy (by kernel_rfl)⟩, trivial⟩
      all_goals
       intro hmay
       clear hmay
       intro e' K' h A3 hA hk
       simp only [Op.operands, Call.operands] at h
       simp [still, heapM, putR, dvA] at h hA hk
       subst hA
       try simp [h, lap, lap0, las, las0]
       try exact hk
      ·refine aCall_of (const_af c.2) (by kernel_rfl) (by simp) ?_
       simpa using hk
      ·refine aRaw_app byt_35 ?_
       simp [h, lap, lap0, las, las0]
       exact ⟨by unfold maxLen; omega, hk⟩
     rw [if_pos (.inl (.inl a2))] at hR
     subst hR
     simp [putR, lap, lap0]
     exact ⟨rfl, _, rfl⟩
    ·simp [c2]
     refine adrawR [.ptr (B.length + 2) 0 0 4, .own (B.length + (N.length + 1 + 1 + 1 + 1 + 1 + 1)) 0 0 1, .ptr (B.length + (N.length + (N2.length + 1 + 1 + 1 + 1) + 1 + 1 + 1 + 1)) 0 0 1, aI .u32 c.2, exA (eCon c.2), .own (B.length + (N.length + (N2.length + 1 + 1 + 1 + 1 + 1) + 1 + 1 + 1 + 1)) 0 0 1, .own (B.length + (N.length + 1 + 1 + 1 + 1 + 1 + 1)) 1 0 2, .ptr (B.length + 2) 0 0 4, .any]
      [(0, B ++ (exB (.mk o n v w [x, y]) :: lvBk (0, 0) :: fldB o n v w (.own (B.length + (N.length + 1 + 1 + 1 + 1 + 1 + 1)) 0 0 1) :: exB x :: (N ++ lvBk a :: sgB a.2 :: apB 0 [a.2] :: exB y :: (N2 ++ [lvBk c])))), (16, B ++ (exB (.mk o n v w [x, y]) :: lvBk (0, 0) :: fldB o n v w (.own (B.length + (N.length + 1 + 1 + 1 + 1 + 1 + 1)) 0 0 1) :: exB x :: (N ++ lvBk a :: sgB a.2 :: apB 0 [a.2] :: exB y :: (N2 ++ [lvBk c])))),
       (48, B ++ (exB (.mk o n v w [x, y]) :: lvBk (0, 0) :: fldB o n v w (.own (B.length + (N.length + 1 + 1 + 1 + 1 + 1 + 1)) 0 0 1) :: exB x :: (N ++ lvBk a :: sgB a.2 :: apB 0 [a.2] :: exB y :: (N2 ++ [lvBk c, sgB c.2])))), (112, B ++ (exB (.mk o n v w [x, y]) :: lvBk (0, 0) :: fldB o n v w (.own (B.length + (N.length + 1 + 1 + 1 + 1 + 1 + 1)) 0 0 1) :: exB x :: (N ++ lvBk a :: sgB a.2 :: apB 1 [a.2, c.2] :: exB y :: (N2 ++ [lvBk c, sgB c.2])))),
       (368, B ++ (exB (.mk o n v w [x, y]) :: lvBk (0, 0) :: fldB o n v w (.own (B.length + (N.length + 1 + 1 + 1 + 1 + 1 + 1)) 1 0 2) :: exB x :: (N ++ lvBk a :: sgB a.2 :: apB 1 [a.2, c.2] :: exB y :: (N2 ++ [lvBk c, sgB c.2]))))]
      (by kernel_rfl) (by kernel_rfl) (by simp [heapM, Ex.d_eq, a2, c2]) rfl ?_ ?_
     ·simp only [rowsR, List.mem_cons, List.not_mem_nil, or_false, forall_eq_or_imp, forall_eq]
      refine ⟨⟨?_, ?_, ?_, nmy (by kernel_rfl), nmy (by kernel_rfl)⟩, ⟨?_, ?_, ?_, nmy (by kernel_rfl), nmy (by kernel_rfl)⟩, ⟨?_, nmy (by kernel_rfl), nmy (by kernel_rfl), nmy (by kernel_rfl), nmy (by kernel_rfl)⟩, ⟨?_, nmy (by kernel_rfl), nmy (by kernel_rfl), nmy (by kernel_rfl), nmy (by kernel_rfl)⟩, ⟨?_, nmy (by kernel_rfl), nmy (by kernel_rfl), nmy (by kernel_rfl), nmy (by kernel_rfl)⟩, ⟨nmy (by kernel_rfl), ?_, nmy (by kernel_rfl), nmy (by kernel_rfl), nmy (by kernel_rfl)⟩, ⟨nmy (by kernel_rfl), nmy (by kernel_rfl), ?_, nmy (by kernel_rfl), nmy (by kernel_rfl)⟩, ⟨nmy (by kernel_rfl), nmy (by kernel_rfl), nmy (by kernel_rfl), ?_, nmy (by kernel_rfl)⟩, ⟨nmy (by kernel_rfl), nmy (by kernel_rfl), nmy (by kernel_rfl), ?_, nmy (by kernel_rfl)⟩, trivial⟩
      all_goals
       intro hmay
       clear hmay
       intro e' K' h A3 hA hk
       simp only [Op.operands, Call.operands] at h
       simp [still, heapM, putR, dvA] at h hA hk
       subst hA
       try simp [h, lap, lap0, las, las0]
       try exact hk
      ·refine aCall_of (const_af c.2) (by kernel_rfl) (by simp) ?_
       simpa using hk
      ·refine aRaw_app byt_35 ?_
       simp [h, lap, lap0, las, las0]
       exact ⟨by unfold maxLen; omega, hk⟩
     rw [if_pos (.inl (.inl a2))] at hR
     subst hR
     simp [putR, lap, lap0]
     exact ⟨rfl, _, rfl⟩
   ·simp [a2]
    refine adrawR [.ptr (B.length + 2) 0 0 4, .d (.v (.slice none 0 0)), .ptr (B.length + (N.length + 1 + 1 + 1 + 1)) 0 0 1, aI .u32 a.2, exA (eCon a.2), .own (B.length + (N.length + 1 + 1 + 1 + 1 + 1)) 0 0 1, .own (B.length + (N.length + 1 + 1 + 1 + 1 + 1 + 1)) 0 0 1, .ptr (B.length + 2) 0 0 4, .any]
     [(0, B ++ (exB (.mk o n v w [x, y]) :: lvBk (0, 0) :: fldB o n v w nilS :: exB x :: (N ++ [lvBk a]))), (16, B ++ (exB (.mk o n v w [x, y]) :: lvBk (0, 0) :: fldB o n v w nilS :: exB x :: (N ++ [lvBk a]))),
      (48, B ++ (exB (.mk o n v w [x, y]) :: lvBk (0, 0) :: fldB o n v w nilS :: exB x :: (N ++ [lvBk a, sgB a.2]))), (112, B ++ (exB (.mk o n v w [x, y]) :: lvBk (0, 0) :: fldB o n v w nilS :: exB x :: (N ++ [lvBk a, sgB a.2, apB 0 [a.2]]))),
      (368, B ++ (exB (.mk o n v w [x, y]) :: lvBk (0, 0) :: fldB o n v w (.own (B.length + (N.length + 1 + 1 + 1 + 1 + 1 + 1)) 0 0 1) :: exB x :: (N ++ [lvBk a, sgB a.2, apB 0 [a.2]])))]
     (by kernel_rfl) (by kernel_rfl) (by simp [heapM, Ex.d_eq, a2]) rfl ?_ ?_
    ·simp only [rowsR, List.mem_cons, List.not_mem_nil, or_false, forall_eq_or_imp, forall_eq]
     refine ⟨⟨?_, ?_, ?_, nmy (by kernel_rfl), nmy (by kernel_rfl)⟩, ⟨?_, ?_, ?_, nmy (by kernel_rfl), nmy (by kernel_rfl)⟩, ⟨?_, nmy (by kernel_rfl), nmy (by kernel_rfl), nmy (by kernel_rfl), nmy (by kernel_rfl)⟩, ⟨?_, nmy (by kernel_rfl), nmy (by kernel_rfl), nmy (by kernel_rfl), nmy (by kernel_rfl)⟩, ⟨?_, nmy (by kernel_rfl), nmy (by kernel_rfl), nmy (by kernel_rfl), nmy (by kernel_rfl)⟩, ⟨nmy (by kernel_rfl), ?_, nmy (by kernel_rfl), nmy (by kernel_rfl), nmy (by kernel_rfl)⟩, ⟨nmy (by kernel_rfl), nmy (by kernel_rfl), ?_, nmy (by kernel_rfl), nmy (by kernel_rfl)⟩, ⟨nmy (by kernel_rfl), nmy (by kernel_rfl), nmy (by kernel_rfl), ?_, nmy (by kernel_rfl)⟩, ⟨nmy (by kernel_rfl), nmy (by kernel_rfl), nmy (by kernel_rfl), ?_, nmy (by kernel_rfl)⟩, trivial⟩
     all_goals
      intro hmay
      clear hmay
      intro e' K' h A3 hA hk
      simp only [Op.operands, Call.operands] at h
      simp [still, heapM, putR, dvA] at h hA hk
      subst hA
      try simp [h, lap, lap0, las, las0]
      try exact hk
     ·refine aCall_of (const_af a.2) (by kernel_rfl) (by simp) ?_
      simpa using hk
     ·refine aRaw_app byt_35 ?_
      simp [h, lap, lap0]
      exact ⟨by unfold maxLen; omega, hk⟩
    simp [putR, lap, lap0, las, las0, Ex.d_eq]
    refine aCall_ofc (ihy _) (by kernel_rfl) ?_
    rintro _ _ ⟨rfl, N2, rfl⟩
    simp [lap, lap0, las, las0]
    by_cases c0 : c.1 = 0
    ·rw [if_pos c0] at hR
     subst hR
     simp [c0, lap, lap0, las, las0]
     exact ⟨by simp [lvV, c0], _, rfl⟩
    rw [if_neg c0] at hR
    simp [c0, lap, lap0, las, las0]
    by_cases c2 : c.1 = 2
    ·simp [c2]
     refine adrawR [.ptr (B.length + 2) 0 0 4, .own (B.length + (N.length + 1 + 1 + 1 + 1 + 1 + 1)) 0 0 1, .ptr (B.length + (N.length + (N2.length + 1 + 1 + 1 + 1) + 1 + 1 + 1 + 1)) 0 0 1, aI .u32 c.2, exA (eCon c.2), .own (B.length + (N.length + (N2.length + 1 + 1 + 1 + 1 + 1) + 1 + 1 + 1 + 1)) 0 0 1, .own (B.length + (N.length + 1 + 1 + 1 + 1 + 1 + 1)) 1 0 2, .ptr (B.length + 2) 0 0 4, .any]
      [(0, B ++ (exB (.mk o n v w [x, y]) :: lvBk (0, 0) :: fldB o n v w (.own (B.length + (N.length + 1 + 1 + 1 + 1 + 1 + 1)) 0 0 1) :: exB x :: (N ++ lvBk a :: sgB a.2 :: apB 0 [a.2] :: exB y :: (N2 ++ [lvBk c])))), (16, B ++ (exB (.mk o n v w [x, y]) :: lvBk (0, 0) :: fldB o n v w (.own (B.length + (N.length + 1 + 1 + 1 + 1 + 1 + 1)) 0 0 1) :: exB x :: (N ++ lvBk a :: sgB a.2 :: apB 0 [a.2] :: exB y :: (N2 ++ [lvBk c])))),
       (48, B ++ (exB (.mk o n v w [x, y]) :: lvBk (0, 0) :: fldB o n v w (.own (B.length + (N.length + 1 + 1 + 1 + 1 + 1 + 1)) 0 0 1) :: exB x :: (N ++ lvBk a :: sgB a.2 :: apB 0 [a.2] :: exB y :: (N2 ++ [lvBk c, sgB c.2])))), (112, B ++ (exB (.mk o n v w [x, y]) :: lvBk (0, 0) :: fldB o n v w (.own (B.length + (N.length + 1 + 1 + 1 + 1 + 1 + 1)) 0 0 1) :: exB x :: (N ++ lvBk a :: sgB a.2 :: apB 1 [a.2, c.2] :: exB y :: (N2 ++ [lvBk c, sgB c.2])))),
       (368, B ++ (exB (.mk o n v w [x, y]) :: lvBk (0, 0) :: fldB o n v w (.own (B.length + (N.length + 1 + 1 + 1 + 1 + 1 + 1)) 1 0 2) :: exB x :: (N ++ lvBk a :: sgB a.2 :: apB 1 [a.2, c.2] :: exB y :: (N2 ++ [lvBk c, sgB c.2]))))]
      (by kernel_rfl) (by kernel_rfl) (by simp [heapM, Ex.d_eq, a2, c2]) rfl ?_ ?_
     ·simp only [rowsR, List.mem_cons, List.not_mem_nil, or_false, forall_eq_or_imp, forall_eq]
      refine ⟨⟨?_, ?_, ?_, nmy (by kernel_rfl), nmy (by kernel_rfl)⟩, ⟨?_, ?_, ?_, nmy (by kernel_rfl), nmy (by kernel_rfl)⟩, ⟨?_, nmy (by kernel_rfl), nmy (by kernel_rfl), nmy (by kernel_rfl), nmy (by kernel_rfl)⟩, ⟨?_, nmy (by kernel_rfl), nmy (by kernel_rfl), nmy (by kernel_rfl), nmy (by kernel_rfl)⟩, ⟨?_, nmy (by kernel_rfl), nmy (by kernel_rfl), nmy (by kernel_rfl), nmy (by kernel_rfl)⟩, ⟨nmy (by kernel_rfl), ?_, nmy (by kernel_rfl), nmy (by kernel_rfl), nmy (by kernel_rfl)⟩, ⟨nmy (by kernel_rfl), nmy (by kernel_rfl), ?_, nmy (by kernel_rfl), nmy (by kernel_rfl)⟩, ⟨nmy (by kernel_rfl), nmy (by kernel_rfl), nmy (by kernel_rfl), ?_, nmy (by kernel_rfl)⟩, ⟨nmy (by kernel_rfl), nmy (by kernel_rfl), nmy (by kernel_rfl), ?_, nmy (by kernel_rfl)⟩, trivial⟩
      all_goals
       intro hmay
       clear hmay
       intro e' K' h A3 hA hk
       simp only [Op.operands, Call.operands] at h
       simp [still, heapM, putR, dvA] at h hA hk
       subst hA
       try simp [h, lap, lap0, las, las0]
       try exact hk
      ·refine aCall_of (const_af c.2) (by kernel_rfl) (by simp) ?_
       simpa using hk
      ·refine aRaw_app byt_35 ?_
       simp [h, lap, lap0, las, las0]
       exact ⟨by unfold maxLen; omega, hk⟩
     rw [if_pos (.inl (.inr c2))] at hR
     subst hR
     simp [putR, lap, lap0]
     exact ⟨rfl, _, rfl⟩
    ·simp [c2]
     refine adrawR [.ptr (B.length + 2) 0 0 4, .own (B.length + (N.length + 1 + 1 + 1 + 1 + 1 + 1)) 0 0 1, .ptr (B.length + (N.length + (N2.length + 1 + 1 + 1 + 1) + 1 + 1 + 1 + 1)) 0 0 1, aI .u32 c.2, exA (eCon c.2), .own (B.length + (N.length + (N2.length + 1 + 1 + 1 + 1 + 1) + 1 + 1 + 1 + 1)) 0 0 1, .own (B.length + (N.length + 1 + 1 + 1 + 1 + 1 + 1)) 1 0 2, .ptr (B.length + 2) 0 0 4, .any]
      [(0, B ++ (exB (.mk o n v w [x, y]) :: lvBk (0, 0) :: fldB o n v w (.own (B.length + (N.length + 1 + 1 + 1 + 1 + 1 + 1)) 0 0 1) :: exB x :: (N ++ lvBk a :: sgB a.2 :: apB 0 [a.2] :: exB y :: (N2 ++ [lvBk c])))), (16, B ++ (exB (.mk o n v w [x, y]) :: lvBk (0, 0) :: fldB o n v w (.own (B.length + (N.length + 1 + 1 + 1 + 1 + 1 + 1)) 0 0 1) :: exB x :: (N ++ lvBk a :: sgB a.2 :: apB 0 [a.2] :: exB y :: (N2 ++ [lvBk c])))),
       (48, B ++ (exB (.mk o n v w [x, y]) :: lvBk (0, 0) :: fldB o n v w (.own (B.length + (N.length + 1 + 1 + 1 + 1 + 1 + 1)) 0 0 1) :: exB x :: (N ++ lvBk a :: sgB a.2 :: apB 0 [a.2] :: exB y :: (N2 ++ [lvBk c, sgB c.2])))), (112, B ++ (exB (.mk o n v w [x, y]) :: lvBk (0, 0) :: fldB o n v w (.own (B.length + (N.length + 1 + 1 + 1 + 1 + 1 + 1)) 0 0 1) :: exB x :: (N ++ lvBk a :: sgB a.2 :: apB 1 [a.2, c.2] :: exB y :: (N2 ++ [lvBk c, sgB c.2])))),
       (368, B ++ (exB (.mk o n v w [x, y]) :: lvBk (0, 0) :: fldB o n v w (.own (B.length + (N.length + 1 + 1 + 1 + 1 + 1 + 1)) 1 0 2) :: exB x :: (N ++ lvBk a :: sgB a.2 :: apB 1 [a.2, c.2] :: exB y :: (N2 ++ [lvBk c, sgB c.2]))))]
      (by kernel_rfl) (by kernel_rfl) (by simp [heapM, Ex.d_eq, a2, c2]) rfl ?_ ?_
     ·simp only [rowsR, List.mem_cons, List.not_mem_nil, or_false, forall_eq_or_imp, forall_eq]
      refine ⟨⟨?_, ?_, ?_, nmy (by kernel_rfl), nmy (by kernel_rfl)⟩, ⟨?_, ?_, ?_, nmy (by kernel_rfl), nmy (by kernel_rfl)⟩, ⟨?_, nmy (by kernel_rfl), nmy (by kernel_rfl), nmy (by kernel_rfl), nmy (by kernel_rfl)⟩, ⟨?_, nmy (by kernel_rfl), nmy (by kernel_rfl), nmy (by kernel_rfl), nmy (by kernel_rfl)⟩, ⟨?_, nmy (by kernel_rfl), nmy (by kernel_rfl), nmy (by kernel_rfl), nmy (by kernel_rfl)⟩, ⟨nmy (by kernel_rfl), ?_, nmy (by kernel_rfl), nmy (by kernel_rfl), nmy (by kernel_rfl)⟩, ⟨nmy (by kernel_rfl), nmy (by kernel_rfl), ?_, nmy (by kernel_rfl), nmy (by kernel_rfl)⟩, ⟨nmy (by kernel_rfl), nmy (by kernel_rfl), nmy (by kernel_rfl), ?_, nmy (by kernel_rfl)⟩, ⟨nmy (by kernel_rfl), nmy (by kernel_rfl), nmy (by kernel_rfl), ?_, nmy (by kernel_rfl)⟩, trivial⟩
      all_goals
       intro hmay
       clear hmay
       intro e' K' h A3 hA hk
       simp only [Op.operands, Call.operands] at h
       simp [still, heapM, putR, dvA] at h hA hk
       subst hA
       try simp [h, lap, lap0, las, las0]
       try exact hk
      ·refine aCall_of (const_af c.2) (by kernel_rfl) (by simp) ?_
       simpa using hk
      ·refine aRaw_app byt_35 ?_
       simp [h, lap, lap0, las, las0]
       exact ⟨by unfold maxLen; omega, hk⟩
     by_cases o18 : o = 18
     ·rw [if_pos (.inr o18)] at hR
      subst hR
      simp [putR, lap, lap0, o18]
      exact ⟨rfl, _, rfl⟩
     rw [if_neg (by simp [a2, c2, o18])] at hR
     subst hR
     simp [putR, lap, lap0, o18]
     have hva : R32 a.2 := by rw [← ha]; exact vlE_r32 hV x (hn.l x (by simp))
     have hvc : R32 c.2 := by rw [← hc]; exact vlE_r32 hV y (hn.l y (by simp))
     have hE := iexprC_af (.mk o n v w [eCon a.2, eCon c.2]) (.mk hnn (by simpa using ⟨okN_con hva, okN_con hvc⟩)) (by rw [formB_eq]; simpa [form_eCon] using hok) rfl
     refine aCall_ofs hE (by kernel_rfl) (by simp [lap, lap0]; exact ⟨NLeE.refl _, NLeE.refl _⟩) (by simp) ?_
     simp [putR, lap, lap0]
     refine aCall_of (cpNumber_af (evC (.mk o n v w [eCon a.2, eCon c.2])).1) (by kernel_rfl) (by simp) ?_
     simp [lap, lap0, las, las0]
     exact ⟨rfl, _, rfl⟩
end
def viS (z : List (Int × Int × Int) × Bool) (t : St) : List (Int × Int × Int) × Bool :=
 if t.op = 1 then (stV2 z.1 t.va (vlE z.1 (exAt t 0)), z.2 || chV z.1 t.va (vlE z.1 (exAt t 0))) else if t.op = 3 then (stV2 z.1 t.va (2, 0), z.2 || chV z.1 t.va (2, 0)) else z
def viP (z : List (Int × Int × Int) × Bool) (l : List St) : List (Int × Int × Int) × Bool := l.foldl viS z
theorem viP_take {z : List (Int × Int × Int) × Bool} {l : List St} {i : Nat} {t : St} (h : l[i]? = some t) : viP z (l.take (i + 1)) = viS (viP z (l.take i)) t := by
 unfold viP
 rw [List.take_add_one, h, List.foldl_append]
 rfl
theorem jn_r32 {a b : Int × Int} (ha : R32 a.2) (hb : R32 b.2) : R32 (jnV a b).2 := by
 unfold jnV
 split
 ·exact hb
 split
 ·exact ha
 ·exact r32_0
theorem st_r32 {V : List (Int × Int × Int)} (hV : ∀ v, R32 (gtV V v).2) (v : Int) {x : Int × Int} (hx : R32 x.2) : ∀ u, R32 (gtV (stV2 V v x) u).2 := by
 intro u
 unfold stV2
 split
 ·unfold gtV
  rw [lk2_up]
  split
  ·exact jn_r32 (hV v) hx
  ·exact hV u
 ·exact hV u
theorem exAt_mem {t : St} {i : Nat} (h : i < t.e.length) : exAt t i ∈ t.e := by
 unfold exAt
 rw [List.getD_eq_getElem?_getD, gEG h]
 exact List.getElem_mem h
theorem vi_r32 {z : List (Int × Int × Int) × Bool} (hV : ∀ v, R32 (gtV z.1 v).2) {t : St} (hn : ∀ e ∈ t.e, OkN e) (h1 : t.op = 1 → 0 < t.e.length) : ∀ v, R32 (gtV (viS z t).1 v).2 := by
 unfold viS
 split
 ·exact st_r32 hV _ (vlE_r32 hV _ (hn _ (exAt_mem (h1 ‹_›))))
 split
 ·exact st_r32 hV _ r32_0
 ·exact hV
theorem viP_r32 {l : List St} (hn : ∀ t ∈ l, ∀ e ∈ t.e, OkN e) (h1 : ∀ t ∈ l, t.op = 1 → 0 < t.e.length) : ∀ {z : List (Int × Int × Int) × Bool}, (∀ v, R32 (gtV z.1 v).2) → ∀ v, R32 (gtV (viP z l).1 v).2 := by
 induction l with
 | nil => intro z h; exact h
 | cons t l ih =>
   intro z h
   exact ih (fun t ht => hn t (by simp [ht])) (fun t ht => h1 t (by simp [ht])) (z := viS z t) (vi_r32 h (hn t (by simp)) (h1 t (by simp)))
theorem set2_app {α : Type} {A N : List α} {b m : Nat} (hb : b < A.length) (hm : m < A.length) (hbm : b ≠ m) (x1 y1 x2 y2 : α) : (((A.set m x1).set b y1 ++ N).set m x2).set b y2 = (A.set m x2).set b y2 ++ N := by
 rw [List.set_append_left _ _ (by simpa using hm), List.set_append_left _ _ (by simpa using hb), List.set_comm y1 x2 hbm, List.set_set, List.set_set]
section
variable {A : AHeap} {b mv me : Nat} {s : Ss} {X : AV} {pr : List (List D)} {ch : Bool} {V : List (Int × Int × Int)} {B : Bl}
set_option maxRecDepth 100000 in
theorem cpVisit_ac (hb : A[b]? = some (anB s mv X me pr ch)) (hm : A[mv]? = some (vlB V)) (hbm : b ≠ mv) (hcl : ClH A) (hB : s.g.b = [B]) (hp : s.ph[0]? = some []) (hl : B.s.length ≤ maxLen)
 (hV : ∀ v, R32 (gtV V v).2) (hn : ∀ t ∈ B.s, ∀ e ∈ t.e, OkN e) (hf : ∀ t ∈ B.s, ∀ e ∈ t.e, formB e = true) (h1 : ∀ t ∈ B.s, t.op = 1 → t.e = [exAt t 0]) (hop : ∀ t ∈ B.s, t.op ≠ 6 ∧ t.op ≠ 7 ∧ t.op ≠ 8) :
 AC Tryz.prog 32 [.ptr b 0 0 0, aI .i64 0] A (Same0 ((A.set mv (vlB (viP (V, ch) B.s).1)).set b (anB s mv X me pr (viP (V, ch) B.s).2)) (.tup [])) := by
 have hbl := (gSI.1 hb).1
 have hml := (gSI.1 hm).1
 have hpl := (gSI.1 hp).1
 have hp2 := (gSI.1 hp).2
 have hsame : (A.set mv (vlB V)).set b (anB s mv X me pr ch) = A := by rw [set_same hm, set_same hb]
 have hsb : ∀ Y c M, ((A.set mv Y).set b (anB s mv X me pr c) ++ M)[b]? = some (anB s mv X me pr c) := fun Y c M => lapl (gSS (by simpa using hbl))
 have hsm : ∀ Y c M, ((A.set mv Y).set b (anB s mv X me pr c) ++ M)[mv]? = some Y := fun Y c M => lapl (by rw [gSN hbm, gSS hml])
 refine ac_of Tryz.func32 rfl (by kernel_rfl) (by simp [Tryz.ntmps32]) fun _ => ?_
 simp [Tryz.f32, hb, hp, hp2, hpl]
 refine aLoop_iter 1 ?_
 simp [hb, hB, Bl.d_eq]
 refine aLoop_of (α := Nat) (fun i e A' => i ≤ B.s.length ∧ (∃ N, A' = (A.set mv (vlB (viP (V, ch) (B.s.take i)).1)).set b (anB s mv X me pr (viP (V, ch) (B.s.take i)).2) ++ N) ∧ e 0 = .ptr b 0 0 0 ∧ e 1 = aI .i64 0 ∧ e 81 = .d (.sl 8 (sts B.s)) ∧ e 82 = aI .i64 B.s.length ∧ e 83 = aI .i64 i ∧ ClH A') (fun i => B.s.length - i) 0 (Sub.refl _ _ _)
  ⟨by omega, ⟨[], by simp [viP, hsame]⟩, by simp, by simp, by simp, by simp, by simp, hcl⟩ ?_
 rintro i e A' ⟨hi, ⟨N, hA'⟩, e0, e1, e81, e82, e83, hc'⟩ K hK
 rcases Nat.lt_or_ge i B.s.length with hlt | hge
 case inr =>
  obtain rfl : i = B.s.length := by omega
  rw [List.take_length] at hA'
  simp [e0, e1, e81, e82, e83]
  exact ⟨rfl, N, hA'⟩
 obtain ⟨t, ht⟩ : ∃ t, B.s[i]? = some t := ⟨_, gEG hlt⟩
 have ht2 := (gSI.1 ht).2
 have htm := gMO ht
 have hstep := viP_take (z := (V, ch)) ht
 have hZ : ∀ v, R32 (gtV (viP (V, ch) (B.s.take i)).1 v).2 := viP_r32 (fun t h => hn t (List.mem_of_mem_take h)) (fun t h o => by rw [h1 t (List.mem_of_mem_take h) o]; simp) hV
 obtain ⟨Z, hZe⟩ : ∃ Z, viP (V, ch) (B.s.take i) = Z := ⟨_, rfl⟩
 rw [hZe] at hA' hstep hZ
 obtain ⟨V1, c1⟩ := Z
 simp only at hA' hZ
 have f1 : A'[b]? = some (anB s mv X me pr c1) := by rw [hA']; exact hsb _ _ _
 have f2 : A'[mv]? = some (vlB V1) := by rw [hA']; exact hsm _ _ _
 obtain ⟨p6, p7, p8⟩ := hop t htm
 simp [e0, e1, e81, e82, e83, hlt, ht, ht2, St.d_eq, lap, lap0, las, las0]
 by_cases o1 : t.op = 1
 ·have he := h1 t htm o1
  have hx : exAt t 0 ∈ t.e := by rw [he]; simp
  obtain ⟨x, hxe⟩ : ∃ x, exAt t 0 = x := ⟨_, rfl⟩
  rw [hxe] at he hx
  have hv : viS (V1, c1) t = (stV2 V1 t.va (vlE V1 x), c1 || chV V1 t.va (vlE V1 x)) := by unfold viS; rw [if_pos o1, hxe]
  rw [hv] at hstep
  simp [o1, he, lap, lap0]
  have hcx : ClH (A' ++ [stBk t]) := hc'.app fun b hb => by obtain rfl := List.mem_singleton.1 hb; exact cln_stBk _ t
  have hex : OkN x := hn t htm x hx
  have hfx : formB x = true := hf t htm x hx
  have cE : AC Tryz.prog 22 [.ptr b 0 0 0, exA x] (A' ++ [stBk t]) (AtH (A' ++ [stBk t]) (lvV (vlE V1 x))) :=
   AC.exact hcx rfl (by simp [cln]) (cpEval_ac f1 f2 hZ x hex hfx [stBk t])
  have cS := cpSet_ac (A := A' ++ [stBk t]) (lapl f1) (lapl f2) hbm t.va (vlE V1 x)
  have hfb := (gSI.1 f1).1
  have hfm := (gSI.1 f2).1
  have hA2 : (A' ++ [stBk t]).set mv (vlB (stV2 V1 t.va (vlE V1 x))) = A'.set mv (vlB (stV2 V1 t.va (vlE V1 x))) ++ [stBk t] := List.set_append_left _ _ hfm
  have hA3 : (A'.set mv (vlB (stV2 V1 t.va (vlE V1 x))) ++ [stBk t]).set b (anB s mv X me pr (c1 || chV V1 t.va (vlE V1 x))) = (A'.set mv (vlB (stV2 V1 t.va (vlE V1 x)))).set b (anB s mv X me pr (c1 || chV V1 t.va (vlE V1 x))) ++ [stBk t] := List.set_append_left _ _ (by simpa using hfb)
  rw [hA2, hA3] at cS
  have hcan := hcx _ (gMO (lapl f1))
  have hcy : ClH ((A'.set mv (vlB (stV2 V1 t.va (vlE V1 x)))).set b (anB s mv X me pr (c1 || chV V1 t.va (vlE V1 x))) ++ [stBk t]) := by
   rw [← hA3, ← hA2]
   refine (hcx.set (cln_m2B _ _ _ _ _)).set ?_
   rw [List.length_set]
   simpa [clnB, clnE, cln] using hcan
  have cS' := AC.exact hcy (by simp) (by simp [cln]) cS
  obtain ⟨J, hJ⟩ : ∃ J, vlE V1 x = J := ⟨_, rfl⟩
  obtain ⟨A3, hA3e⟩ : ∃ A3, (A'.set mv (vlB (stV2 V1 t.va (vlE V1 x)))).set b (anB s mv X me pr (c1 || chV V1 t.va (vlE V1 x))) = A3 := ⟨_, rfl⟩
  rw [hA3e] at cS' hcy
  rw [hJ] at cE cS'
  refine adrawR [.ptr b 0 0 0, .ptr A'.length 0 0 1, aI .i64 t.va, .ptr b 0 0 0, .ptr A'.length 0 0 6, .d (.sl 5 (Ex.ds t.e)), .ip x.d, exA x, lvV J, .tup []]
   [(0, A' ++ [stBk t]), (256, A' ++ [stBk t]), (768, A3 ++ [stBk t])]
   (by kernel_rfl) (by kernel_rfl) (by simp [heapM, o1, he]) rfl ?_ ?_
  ·simp only [rowsR, List.mem_cons, List.not_mem_nil, or_false, forall_eq_or_imp, forall_eq]
   refine ⟨⟨?_, ?_, nmy (by kernel_rfl)⟩, ⟨?_, ?_, nmy (by kernel_rfl)⟩, ⟨?_, ?_, nmy (by kernel_rfl)⟩, ⟨?_, nmy (by kernel_rfl), nmy (by kernel_rfl)⟩, ⟨?_, nmy (by kernel_rfl), nmy (by kernel_rfl)⟩, ⟨?_, nmy (by kernel_rfl), nmy (by kernel_rfl)⟩, ⟨?_, nmy (by kernel_rfl), nmy (by kernel_rfl)⟩, ⟨?_, nmy (by kernel_rfl), nmy (by kernel_rfl)⟩, ⟨?_, nmy (by kernel_rfl), nmy (by kernel_rfl)⟩, ⟨nmy (by kernel_rfl), ?_, nmy (by kernel_rfl)⟩, trivial⟩
   all_goals
    intro hmay
    clear hmay
    intro e' K' h A4 hA hk
    simp only [Op.operands, Call.operands] at h
    simp [still, heapM, putR, dvA] at h hA hk
    subst hA
    try simp [h, e0, lap, lap0, he, Ex.d_eq]
    try first
     | exact hk
     | (simp [he, Ex.d_eq] at hk; exact hk)
   ·refine aCall_ofc cE (by kernel_rfl) ?_
    rintro _ _ ⟨rfl, rfl⟩
    exact hk
   ·refine aCall_ofc cS' (by kernel_rfl) ?_
    rintro _ _ ⟨rfl, rfl⟩
    exact hk
  simp [putR, e0, e1, e81, e82, e83, succ_wrap hlt hl]
  refine hK (i + 1) _ _ _ _ (Sub.refl _ _ _) ⟨by omega, ?_, by simp [e0], by simp [e1], by simp [e81], by simp [e82], by simp, hcy⟩ (by omega)
  refine ⟨N ++ [stBk t], ?_⟩
  rw [hstep, ← hA3e, hA', set2_app hbl hml hbm, List.append_assoc]
 by_cases o3 : t.op = 3
 ·have hv : viS (V1, c1) t = (stV2 V1 t.va (2, 0), c1 || chV V1 t.va (2, 0)) := by unfold viS; rw [if_neg o1, if_pos o3]
  rw [hv] at hstep
  simp [o3, e0, lap, lap0]
  have hcx : ClH (A' ++ [stBk t]) := hc'.app fun b hb => by obtain rfl := List.mem_singleton.1 hb; exact cln_stBk _ t
  have cS := cpSet_ac (A := A' ++ [stBk t]) (lapl f1) (lapl f2) hbm t.va (2, 0)
  have hfb := (gSI.1 f1).1
  have hfm := (gSI.1 f2).1
  have hA2 : (A' ++ [stBk t]).set mv (vlB (stV2 V1 t.va (2, 0))) = A'.set mv (vlB (stV2 V1 t.va (2, 0))) ++ [stBk t] := List.set_append_left _ _ hfm
  have hA3 : (A'.set mv (vlB (stV2 V1 t.va (2, 0))) ++ [stBk t]).set b (anB s mv X me pr (c1 || chV V1 t.va (2, 0))) = (A'.set mv (vlB (stV2 V1 t.va (2, 0)))).set b (anB s mv X me pr (c1 || chV V1 t.va (2, 0))) ++ [stBk t] := List.set_append_left _ _ (by simpa using hfb)
  rw [hA2, hA3] at cS
  have hcan := hcx _ (gMO (lapl f1))
  have hcy : ClH ((A'.set mv (vlB (stV2 V1 t.va (2, 0)))).set b (anB s mv X me pr (c1 || chV V1 t.va (2, 0))) ++ [stBk t]) := by
   rw [← hA3, ← hA2]
   refine (hcx.set (cln_m2B _ _ _ _ _)).set ?_
   rw [List.length_set]
   simpa [clnB, clnE, cln] using hcan
  have cS' := AC.exact hcy (by simp) (by simp [cln]) cS
  simp only [stBk, o3] at cS' hcy
  refine aCall_ofc cS' (by kernel_rfl) ?_
  rintro _ _ ⟨rfl, rfl⟩
  simp [e0, e1, e81, e82, e83, succ_wrap hlt hl]
  refine hK (i + 1) _ _ _ _ (Sub.refl _ _ _) ⟨by omega, ?_, by simp [e0], by simp [e1], by simp [e81], by simp [e82], by simp, hcy⟩ (by omega)
  refine ⟨N ++ [stBk t], ?_⟩
  rw [hstep, hA', set2_app hbl hml hbm, List.append_assoc]
  simp [o3]
 have hv : viS (V1, c1) t = (V1, c1) := by unfold viS; rw [if_neg o1, if_neg o3]
 rw [hv] at hstep
 simp [o1, o3, p6, p7, p8, e0, e1, e81, e82, e83, succ_wrap hlt hl]
 refine hK (i + 1) _ _ _ _ (Sub.refl _ _ _) ⟨by omega, ?_, by simp [e0], by simp [e1], by simp [e81], by simp [e82], by simp, hc'.app fun b hb => by obtain rfl := List.mem_singleton.1 hb; exact cln_stBk _ t⟩ (by omega)
 exact ⟨N ++ [stBk t], by rw [hstep, hA', List.append_assoc]⟩
end
abbrev ghB : Blk := ⟨0, true, 0, 0, []⟩
abbrev xeB (l : List Bool) : Blk := ⟨1, true, 4, 1, l.map fun b => [aB b]⟩
abbrev edB0 : Blk := ⟨1, true, 1000003, 3, []⟩
def vI : Nat → List (Int × Int × Int)
 | 0 => [(12, 1, 0)]
 | i + 1 => up2 i (2, 0) (vI i)
abbrev hpA (A : AHeap) (s : Ss) (V : List (Int × Int × Int)) (x : Bool) (pr : List (List D)) (ch : Bool) : AHeap :=
 A ++ [ssB s, vlB V, xeB [x], edB0, anB s (A.length + 1) (.own (A.length + 2) 1 0 1) (A.length + 3) pr ch]
theorem hpA_cl {A : AHeap} (h : ClH A) (s : Ss) (V : List (Int × Int × Int)) (x : Bool) (pr : List (List D)) (ch : Bool) : ClH (hpA A s V x pr ch) := by
 refine h.app fun b hb => ?_
 simp only [List.mem_cons, List.not_mem_nil, or_false] at hb
 rcases hb with rfl | rfl | rfl | rfl | rfl
 ·simp [clnB, clnE, cln]
 ·exact cln_m2B _ _ _ _ _
 ·simp [clnB, clnE, cln]
 ·simp [clnB, clnE]
 ·simp [clnB, clnE, cln]
section
variable {A : AHeap} {s : Ss} {B : Bl}
set_option maxRecDepth 100000 in
set_option maxHeartbeats 0 in
theorem cpAnalyze_ac (hB : s.g.b = [B]) (pr : List (List D)) (c4 : AF Tryz.prog 23 [grV s.g] (.d (.sl 1 pr))) (hcl : ClH A) (hp : s.ph[0]? = some []) (hl : B.s.length ≤ maxLen)
 (hn : ∀ t ∈ B.s, ∀ e ∈ t.e, OkN e) (hf : ∀ t ∈ B.s, ∀ e ∈ t.e, formB e = true) (h1 : ∀ t ∈ B.s, t.op = 1 → t.e = [exAt t 0]) (hop : ∀ t ∈ B.s, t.op ≠ 6 ∧ t.op ≠ 7 ∧ t.op ≠ 8)
 {V1 : List (Int × Int × Int)} (hv1 : viP (vI 12, false) B.s = (V1, true)) (hv2 : viP (V1, false) B.s = (V1, false)) :
 AC Tryz.prog 14 [ssV s] A (fun r A' => r = .ptr (A.length + 4) 0 0 0 ∧ A' = hpA A s V1 true pr false) := by
 have hvI : ∀ i v, R32 (gtV (vI i) v).2 := by
  intro i
  induction i with
  | zero =>
    intro v
    unfold gtV vI lk2
    simp only [lk2]
    split <;> exact r32_0
  | succ i ih =>
    intro v
    unfold gtV vI
    rw [lk2_up]
    split
    ·exact r32_0
    ·exact ih v
 have hV1 : ∀ v, R32 (gtV V1 v).2 := by
  have := viP_r32 (z := (vI 12, false)) hn (fun t ht o => by rw [h1 t ht o]; simp) (hvI 12)
  rw [hv1] at this
  exact this
 have hvis : ∀ V ch, (∀ v, R32 (gtV V v).2) → AC Tryz.prog 32 [.ptr (A.length + 4) 0 0 0, aI .i64 0] (hpA A s V true pr ch) (AtH (hpA A s (viP (V, ch) B.s).1 true pr (viP (V, ch) B.s).2) (.tup [])) := fun V ch hV => by
  have c := cpVisit_ac (A := hpA A s V true pr ch) (b := A.length + 4) (mv := A.length + 1) (lap _ _ 4) (lap _ _ 1) (by omega) (hpA_cl hcl _ _ _ _ _) hB hp hl hV hn hf h1 hop
  rw [las, las] at c
  exact AC.exact (hpA_cl hcl _ _ _ _ _) (by simp) (by simp [cln]) c
 have cV1 := hvis (vI 12) false (hvI 12)
 have cV2 := hvis V1 false hV1
 rw [hv1] at cV1
 rw [hv2] at cV2
 have hl1 : s.g.b.length = 1 := by rw [hB]; rfl
 have hins : ∀ G2 G3, updE Tryz.prog 59 (A ++ [ssB s, vlB [], G2, G3]) (.mp (A.length + 1) 1) (.d (.v (.int .i64 12))) (lvV (1, 0)) = some (A ++ [ssB s, vlB [(12, 1, 0)], G2, G3]) := fun G2 G3 => by
  unfold updE
  rw [upd_m2 (L := []) und_vals (by kernel_rfl) (by simp [lap]) 12 1 0]
  simp [las, up2]
 refine ac_of Tryz.func14 rfl (by kernel_rfl) (by simp [Tryz.ntmps14]) fun _ => ?_
 simp [Tryz.f14]
 refine adrawG 3 [ssV s, .mp (A.length + 1) 1, lvV (1, 0), .any, .mp (A.length + 1) 1, .ptr A.length 0 0 0, .ptr A.length 0 0 1, .d (.sl 2 (bls' s.g.b)), aI .i64 1, .own (A.length + 2) 1 0 1, .mp (A.length + 3) 1, .ptr A.length 0 0 0, grV s.g, .d (.sl 1 pr), .agg [aI .u32 s.g.ad, .d (.sl 2 (bls' s.g.b)), .d (.sl 1 (phss s.ph)), .d (.sl 1 (i64s s.og)), .mp (A.length + 1) 1, .own (A.length + 2) 1 0 1, .mp (A.length + 3) 1, .d (.sl 1 pr), aB false], .ptr (A.length + 4) 0 0 0, .ptr (A.length + 4) 0 0 0]
  [(0, A ++ [ssB s, ghB, ghB, ghB]),
   (2, A ++ [ssB s, vlB [], ghB, ghB]),
   (4, A ++ [ssB s, ghB, ghB, ghB]),
   (6, A ++ [ssB s, vlB [], ghB, ghB]),
   (14, A ++ [ssB s, vlB [(12, 1, 0)], ghB, ghB]),
   (512, A ++ [ssB s, ghB, xeB [false], ghB]),
   (514, A ++ [ssB s, vlB [], xeB [false], ghB]),
   (516, A ++ [ssB s, ghB, xeB [false], ghB]),
   (518, A ++ [ssB s, vlB [], xeB [false], ghB]),
   (526, A ++ [ssB s, vlB [(12, 1, 0)], xeB [false], ghB]),
   (1024, A ++ [ssB s, ghB, ghB, edB0]),
   (1026, A ++ [ssB s, vlB [], ghB, edB0]),
   (1028, A ++ [ssB s, ghB, ghB, edB0]),
   (1030, A ++ [ssB s, vlB [], ghB, edB0]),
   (1038, A ++ [ssB s, vlB [(12, 1, 0)], ghB, edB0]),
   (1536, A ++ [ssB s, ghB, xeB [false], edB0]),
   (1538, A ++ [ssB s, vlB [], xeB [false], edB0]),
   (1540, A ++ [ssB s, ghB, xeB [false], edB0]),
   (1542, A ++ [ssB s, vlB [], xeB [false], edB0]),
   (1550, A ++ [ssB s, vlB [(12, 1, 0)], xeB [false], edB0]),
   (8196, A ++ [ssB s, ghB, ghB, ghB]),
   (8198, A ++ [ssB s, vlB [], ghB, ghB]),
   (8206, A ++ [ssB s, vlB [(12, 1, 0)], ghB, ghB]),
   (8708, A ++ [ssB s, ghB, xeB [false], ghB]),
   (8710, A ++ [ssB s, vlB [], xeB [false], ghB]),
   (8718, A ++ [ssB s, vlB [(12, 1, 0)], xeB [false], ghB]),
   (9220, A ++ [ssB s, ghB, ghB, edB0]),
   (9222, A ++ [ssB s, vlB [], ghB, edB0]),
   (9230, A ++ [ssB s, vlB [(12, 1, 0)], ghB, edB0]),
   (9732, A ++ [ssB s, ghB, xeB [false], edB0]),
   (9734, A ++ [ssB s, vlB [], xeB [false], edB0]),
   (9742, A ++ [ssB s, vlB [(12, 1, 0)], xeB [false], edB0]),
   (42510, A ++ [ssB s, vlB [(12, 1, 0)], xeB [false], edB0, anB s (A.length + 1) (.own (A.length + 2) 1 0 1) (A.length + 3) pr false])]
  (by kernel_rfl) (by kernel_rfl) (by simp [heapM, List.replicate]) rfl ?_ ?_
 ·simp only [rowsG, List.mem_cons, List.not_mem_nil, or_false, forall_eq_or_imp, forall_eq]
  refine ⟨⟨?q0_0, ?q0_2, ?q0_4, ?q0_6, ?q0_14, ?q0_512, ?q0_514, ?q0_516, ?q0_518, ?q0_526, ?q0_1024, ?q0_1026, ?q0_1028, ?q0_1030, ?q0_1038, ?q0_1536, ?q0_1538, ?q0_1540, ?q0_1542, ?q0_1550, ?q0_8196, ?q0_8198, ?q0_8206, ?q0_8708, ?q0_8710, ?q0_8718, ?q0_9220, ?q0_9222, ?q0_9230, ?q0_9732, ?q0_9734, ?q0_9742, nmy (by kernel_rfl)⟩, ⟨?q1_0, nmy (by kernel_rfl), ?q1_4, nmy (by kernel_rfl), nmy (by kernel_rfl), ?q1_512, nmy (by kernel_rfl), ?q1_516, nmy (by kernel_rfl), nmy (by kernel_rfl), ?q1_1024, nmy (by kernel_rfl), ?q1_1028, nmy (by kernel_rfl), nmy (by kernel_rfl), ?q1_1536, nmy (by kernel_rfl), ?q1_1540, nmy (by kernel_rfl), nmy (by kernel_rfl), ?q1_8196, nmy (by kernel_rfl), nmy (by kernel_rfl), ?q1_8708, nmy (by kernel_rfl), nmy (by kernel_rfl), ?q1_9220, nmy (by kernel_rfl), nmy (by kernel_rfl), ?q1_9732, nmy (by kernel_rfl), nmy (by kernel_rfl), nmy (by kernel_rfl)⟩, ⟨?q2_0, ?q2_2, nmy (by kernel_rfl), nmy (by kernel_rfl), nmy (by kernel_rfl), ?q2_512, ?q2_514, nmy (by kernel_rfl), nmy (by kernel_rfl), nmy (by kernel_rfl), ?q2_1024, ?q2_1026, nmy (by kernel_rfl), nmy (by kernel_rfl), nmy (by kernel_rfl), ?q2_1536, ?q2_1538, nmy (by kernel_rfl), nmy (by kernel_rfl), nmy (by kernel_rfl), nmy (by kernel_rfl), nmy (by kernel_rfl), nmy (by kernel_rfl), nmy (by kernel_rfl), nmy (by kernel_rfl), nmy (by kernel_rfl), nmy (by kernel_rfl), nmy (by kernel_rfl), nmy (by kernel_rfl), nmy (by kernel_rfl), nmy (by kernel_rfl), nmy (by kernel_rfl), nmy (by kernel_rfl)⟩, ⟨nmy (by kernel_rfl), nmy (by kernel_rfl), nmy (by kernel_rfl), ?q3_6, nmy (by kernel_rfl), nmy (by kernel_rfl), nmy (by kernel_rfl), nmy (by kernel_rfl), ?q3_518, nmy (by kernel_rfl), nmy (by kernel_rfl), nmy (by kernel_rfl), nmy (by kernel_rfl), ?q3_1030, nmy (by kernel_rfl), nmy (by kernel_rfl), nmy (by kernel_rfl), nmy (by kernel_rfl), ?q3_1542, nmy (by kernel_rfl), nmy (by kernel_rfl), ?q3_8198, nmy (by kernel_rfl), nmy (by kernel_rfl), ?q3_8710, nmy (by kernel_rfl), nmy (by kernel_rfl), ?q3_9222, nmy (by kernel_rfl), nmy (by kernel_rfl), ?q3_9734, nmy (by kernel_rfl), nmy (by kernel_rfl)⟩, ⟨nmy (by kernel_rfl), nmy (by kernel_rfl), nmy (by kernel_rfl), nmy (by kernel_rfl), ?q4_14, nmy (by kernel_rfl), nmy (by kernel_rfl), nmy (by kernel_rfl), nmy (by kernel_rfl), ?q4_526, nmy (by kernel_rfl), nmy (by kernel_rfl), nmy (by kernel_rfl), nmy (by kernel_rfl), ?q4_1038, nmy (by kernel_rfl), nmy (by kernel_rfl), nmy (by kernel_rfl), nmy (by kernel_rfl), ?q4_1550, nmy (by kernel_rfl), nmy (by kernel_rfl), ?q4_8206, nmy (by kernel_rfl), nmy (by kernel_rfl), ?q4_8718, nmy (by kernel_rfl), nmy (by kernel_rfl), ?q4_9230, nmy (by kernel_rfl), nmy (by kernel_rfl), ?q4_9742, nmy (by kernel_rfl)⟩, ⟨?q5_0, ?q5_2, ?q5_4, ?q5_6, ?q5_14, nmy (by kernel_rfl), nmy (by kernel_rfl), nmy (by kernel_rfl), nmy (by kernel_rfl), nmy (by kernel_rfl), ?q5_1024, ?q5_1026, ?q5_1028, ?q5_1030, ?q5_1038, nmy (by kernel_rfl), nmy (by kernel_rfl), nmy (by kernel_rfl), nmy (by kernel_rfl), nmy (by kernel_rfl), ?q5_8196, ?q5_8198, ?q5_8206, nmy (by kernel_rfl), nmy (by kernel_rfl), nmy (by kernel_rfl), ?q5_9220, ?q5_9222, ?q5_9230, nmy (by kernel_rfl), nmy (by kernel_rfl), nmy (by kernel_rfl), nmy (by kernel_rfl)⟩, ⟨?q6_0, ?q6_2, ?q6_4, ?q6_6, ?q6_14, nmy (by kernel_rfl), nmy (by kernel_rfl), nmy (by kernel_rfl), nmy (by kernel_rfl), nmy (by kernel_rfl), ?q6_1024, ?q6_1026, ?q6_1028, ?q6_1030, ?q6_1038, nmy (by kernel_rfl), nmy (by kernel_rfl), nmy (by kernel_rfl), nmy (by kernel_rfl), nmy (by kernel_rfl), ?q6_8196, ?q6_8198, ?q6_8206, nmy (by kernel_rfl), nmy (by kernel_rfl), nmy (by kernel_rfl), ?q6_9220, ?q6_9222, ?q6_9230, nmy (by kernel_rfl), nmy (by kernel_rfl), nmy (by kernel_rfl), nmy (by kernel_rfl)⟩, ⟨?q7_0, ?q7_2, ?q7_4, ?q7_6, ?q7_14, nmy (by kernel_rfl), nmy (by kernel_rfl), nmy (by kernel_rfl), nmy (by kernel_rfl), nmy (by kernel_rfl), ?q7_1024, ?q7_1026, ?q7_1028, ?q7_1030, ?q7_1038, nmy (by kernel_rfl), nmy (by kernel_rfl), nmy (by kernel_rfl), nmy (by kernel_rfl), nmy (by kernel_rfl), ?q7_8196, ?q7_8198, ?q7_8206, nmy (by kernel_rfl), nmy (by kernel_rfl), nmy (by kernel_rfl), ?q7_9220, ?q7_9222, ?q7_9230, nmy (by kernel_rfl), nmy (by kernel_rfl), nmy (by kernel_rfl), nmy (by kernel_rfl)⟩, ⟨?q8_0, ?q8_2, ?q8_4, ?q8_6, ?q8_14, nmy (by kernel_rfl), nmy (by kernel_rfl), nmy (by kernel_rfl), nmy (by kernel_rfl), nmy (by kernel_rfl), ?q8_1024, ?q8_1026, ?q8_1028, ?q8_1030, ?q8_1038, nmy (by kernel_rfl), nmy (by kernel_rfl), nmy (by kernel_rfl), nmy (by kernel_rfl), nmy (by kernel_rfl), ?q8_8196, ?q8_8198, ?q8_8206, nmy (by kernel_rfl), nmy (by kernel_rfl), nmy (by kernel_rfl), ?q8_9220, ?q8_9222, ?q8_9230, nmy (by kernel_rfl), nmy (by kernel_rfl), nmy (by kernel_rfl), nmy (by kernel_rfl)⟩, ⟨?q9_0, ?q9_2, ?q9_4, ?q9_6, ?q9_14, nmy (by kernel_rfl), nmy (by kernel_rfl), nmy (by kernel_rfl), nmy (by kernel_rfl), nmy (by kernel_rfl), ?q9_1024, ?q9_1026, ?q9_1028, ?q9_1030, ?q9_1038, nmy (by kernel_rfl), nmy (by kernel_rfl), nmy (by kernel_rfl), nmy (by kernel_rfl), nmy (by kernel_rfl), ?q9_8196, ?q9_8198, ?q9_8206, nmy (by kernel_rfl), nmy (by kernel_rfl), nmy (by kernel_rfl), ?q9_9220, ?q9_9222, ?q9_9230, nmy (by kernel_rfl), nmy (by kernel_rfl), nmy (by kernel_rfl), nmy (by kernel_rfl)⟩, ⟨?q10_0, ?q10_2, ?q10_4, ?q10_6, ?q10_14, ?q10_512, ?q10_514, ?q10_516, ?q10_518, ?q10_526, nmy (by kernel_rfl), nmy (by kernel_rfl), nmy (by kernel_rfl), nmy (by kernel_rfl), nmy (by kernel_rfl), nmy (by kernel_rfl), nmy (by kernel_rfl), nmy (by kernel_rfl), nmy (by kernel_rfl), nmy (by kernel_rfl), ?q10_8196, ?q10_8198, ?q10_8206, ?q10_8708, ?q10_8710, ?q10_8718, nmy (by kernel_rfl), nmy (by kernel_rfl), nmy (by kernel_rfl), nmy (by kernel_rfl), nmy (by kernel_rfl), nmy (by kernel_rfl), nmy (by kernel_rfl)⟩, ⟨?q11_0, ?q11_2, ?q11_4, ?q11_6, ?q11_14, ?q11_512, ?q11_514, ?q11_516, ?q11_518, ?q11_526, ?q11_1024, ?q11_1026, ?q11_1028, ?q11_1030, ?q11_1038, ?q11_1536, ?q11_1538, ?q11_1540, ?q11_1542, ?q11_1550, nmy (by kernel_rfl), nmy (by kernel_rfl), nmy (by kernel_rfl), nmy (by kernel_rfl), nmy (by kernel_rfl), nmy (by kernel_rfl), nmy (by kernel_rfl), nmy (by kernel_rfl), nmy (by kernel_rfl), nmy (by kernel_rfl), nmy (by kernel_rfl), nmy (by kernel_rfl), nmy (by kernel_rfl)⟩, ⟨?q12_0, ?q12_2, ?q12_4, ?q12_6, ?q12_14, ?q12_512, ?q12_514, ?q12_516, ?q12_518, ?q12_526, ?q12_1024, ?q12_1026, ?q12_1028, ?q12_1030, ?q12_1038, ?q12_1536, ?q12_1538, ?q12_1540, ?q12_1542, ?q12_1550, nmy (by kernel_rfl), nmy (by kernel_rfl), nmy (by kernel_rfl), nmy (by kernel_rfl), nmy (by kernel_rfl), nmy (by kernel_rfl), nmy (by kernel_rfl), nmy (by kernel_rfl), nmy (by kernel_rfl), nmy (by kernel_rfl), nmy (by kernel_rfl), nmy (by kernel_rfl), nmy (by kernel_rfl)⟩, ⟨nmy (by kernel_rfl), nmy (by kernel_rfl), ?q13_4, ?q13_6, ?q13_14, nmy (by kernel_rfl), nmy (by kernel_rfl), ?q13_516, ?q13_518, ?q13_526, nmy (by kernel_rfl), nmy (by kernel_rfl), ?q13_1028, ?q13_1030, ?q13_1038, nmy (by kernel_rfl), nmy (by kernel_rfl), ?q13_1540, ?q13_1542, ?q13_1550, nmy (by kernel_rfl), nmy (by kernel_rfl), nmy (by kernel_rfl), nmy (by kernel_rfl), nmy (by kernel_rfl), nmy (by kernel_rfl), nmy (by kernel_rfl), nmy (by kernel_rfl), nmy (by kernel_rfl), nmy (by kernel_rfl), nmy (by kernel_rfl), nmy (by kernel_rfl), nmy (by kernel_rfl)⟩, ⟨nmy (by kernel_rfl), nmy (by kernel_rfl), nmy (by kernel_rfl), nmy (by kernel_rfl), nmy (by kernel_rfl), nmy (by kernel_rfl), nmy (by kernel_rfl), nmy (by kernel_rfl), nmy (by kernel_rfl), nmy (by kernel_rfl), nmy (by kernel_rfl), nmy (by kernel_rfl), nmy (by kernel_rfl), nmy (by kernel_rfl), nmy (by kernel_rfl), nmy (by kernel_rfl), nmy (by kernel_rfl), nmy (by kernel_rfl), nmy (by kernel_rfl), nmy (by kernel_rfl), nmy (by kernel_rfl), nmy (by kernel_rfl), nmy (by kernel_rfl), nmy (by kernel_rfl), nmy (by kernel_rfl), nmy (by kernel_rfl), nmy (by kernel_rfl), nmy (by kernel_rfl), nmy (by kernel_rfl), nmy (by kernel_rfl), nmy (by kernel_rfl), ?q14_9742, nmy (by kernel_rfl)⟩, ⟨nmy (by kernel_rfl), nmy (by kernel_rfl), nmy (by kernel_rfl), nmy (by kernel_rfl), nmy (by kernel_rfl), nmy (by kernel_rfl), nmy (by kernel_rfl), nmy (by kernel_rfl), nmy (by kernel_rfl), nmy (by kernel_rfl), nmy (by kernel_rfl), nmy (by kernel_rfl), nmy (by kernel_rfl), nmy (by kernel_rfl), nmy (by kernel_rfl), nmy (by kernel_rfl), nmy (by kernel_rfl), nmy (by kernel_rfl), nmy (by kernel_rfl), nmy (by kernel_rfl), nmy (by kernel_rfl), nmy (by kernel_rfl), nmy (by kernel_rfl), nmy (by kernel_rfl), nmy (by kernel_rfl), nmy (by kernel_rfl), nmy (by kernel_rfl), nmy (by kernel_rfl), nmy (by kernel_rfl), nmy (by kernel_rfl), nmy (by kernel_rfl), ?q15_9742, nmy (by kernel_rfl)⟩, ⟨nmy (by kernel_rfl), nmy (by kernel_rfl), nmy (by kernel_rfl), nmy (by kernel_rfl), nmy (by kernel_rfl), nmy (by kernel_rfl), nmy (by kernel_rfl), nmy (by kernel_rfl), nmy (by kernel_rfl), nmy (by kernel_rfl), nmy (by kernel_rfl), nmy (by kernel_rfl), nmy (by kernel_rfl), nmy (by kernel_rfl), nmy (by kernel_rfl), nmy (by kernel_rfl), nmy (by kernel_rfl), nmy (by kernel_rfl), nmy (by kernel_rfl), nmy (by kernel_rfl), nmy (by kernel_rfl), nmy (by kernel_rfl), nmy (by kernel_rfl), nmy (by kernel_rfl), nmy (by kernel_rfl), nmy (by kernel_rfl), nmy (by kernel_rfl), nmy (by kernel_rfl), nmy (by kernel_rfl), nmy (by kernel_rfl), nmy (by kernel_rfl), nmy (by kernel_rfl), ?q16_42510⟩, trivial⟩
  case q0_0 | q0_2 | q0_4 | q0_6 | q0_14 | q0_512 | q0_514 | q0_516 | q0_518 | q0_526 | q0_1024 | q0_1026 | q0_1028 | q0_1030 | q0_1038 | q0_1536 | q0_1538 | q0_1540 | q0_1542 | q0_1550 | q0_8196 | q0_8198 | q0_8206 | q0_8708 | q0_8710 | q0_8718 | q0_9220 | q0_9222 | q0_9230 | q0_9732 | q0_9734 | q0_9742 | q4_14 | q4_526 | q4_1038 | q4_1550 | q4_8206 | q4_8718 | q4_9230 | q4_9742 | q5_0 | q5_2 | q5_4 | q5_6 | q5_14 | q5_1024 | q5_1026 | q5_1028 | q5_1030 | q5_1038 | q5_8196 | q5_8198 | q5_8206 | q5_9220 | q5_9222 | q5_9230 | q6_0 | q6_2 | q6_4 | q6_6 | q6_14 | q6_1024 | q6_1026 | q6_1028 | q6_1030 | q6_1038 | q6_8196 | q6_8198 | q6_8206 | q6_9220 | q6_9222 | q6_9230 | q7_0 | q7_2 | q7_4 | q7_6 | q7_14 | q7_1024 | q7_1026 | q7_1028 | q7_1030 | q7_1038 | q7_8196 | q7_8198 | q7_8206 | q7_9220 | q7_9222 | q7_9230 | q8_0 | q8_2 | q8_4 | q8_6 | q8_14 | q8_1024 | q8_1026 | q8_1028 | q8_1030 | q8_1038 | q8_8196 | q8_8198 | q8_8206 | q8_9220 | q8_9222 | q8_9230 | q11_0 | q11_2 | q11_4 | q11_6 | q11_14 | q11_512 | q11_514 | q11_516 | q11_518 | q11_526 | q11_1024 | q11_1026 | q11_1028 | q11_1030 | q11_1038 | q11_1536 | q11_1538 | q11_1540 | q11_1542 | q11_1550 | q12_0 | q12_2 | q12_4 | q12_6 | q12_14 | q12_512 | q12_514 | q12_516 | q12_518 | q12_526 | q12_1024 | q12_1026 | q12_1028 | q12_1030 | q12_1038 | q12_1536 | q12_1538 | q12_1540 | q12_1542 | q12_1550 | q14_9742 | q15_9742 | q16_42510 =>
   intro hmay
   clear hmay
   intro e' K' h A4 hA hk
   simp only [Op.operands, Call.operands] at h
   try simp [still, heapM, putR, dvA] at h
   simp [still, heapM, putR, dvA] at hA hk
   subst hA
   refine avopG_of ?_
   simp [h, lap, lap0, hl1]
   try exact hk
  case q1_0 | q1_4 | q1_512 | q1_516 | q1_1024 | q1_1028 | q1_1536 | q1_1540 | q1_8196 | q1_8708 | q1_9220 | q1_9732 =>
   intro hmay
   clear hmay
   intro e' K' h A4 hA hk
   simp only [Op.operands, Call.operands] at h
   try simp [still, heapM, putR, dvA] at h
   simp [still, heapM, putR, dvA] at hA hk
   subst hA
   refine avopG_live (A.length + 1) (v := .mp (A.length + 1) 1) (k := vlB []) (k0 := ghB) (by kernel_rfl) (by simp [lap]) rfl ?_
   simpa [las] using hk
  case q10_0 | q10_2 | q10_4 | q10_6 | q10_14 | q10_512 | q10_514 | q10_516 | q10_518 | q10_526 | q10_8196 | q10_8198 | q10_8206 | q10_8708 | q10_8710 | q10_8718 =>
   intro hmay
   clear hmay
   intro e' K' h A4 hA hk
   simp only [Op.operands, Call.operands] at h
   try simp [still, heapM, putR, dvA] at h
   simp [still, heapM, putR, dvA] at hA hk
   subst hA
   refine avopG_live (A.length + 3) (v := .mp (A.length + 3) 1) (k := edB0) (k0 := ghB) (by kernel_rfl) (by simp [lap]) rfl ?_
   simpa [las] using hk
  case q9_0 | q9_2 | q9_4 | q9_6 | q9_14 | q9_1024 | q9_1026 | q9_1028 | q9_1030 | q9_1038 | q9_8196 | q9_8198 | q9_8206 | q9_9220 | q9_9222 | q9_9230 =>
   intro hmay
   clear hmay
   intro e' K' h A4 hA hk
   simp only [Op.operands, Call.operands] at h
   try simp [still, heapM, putR, dvA] at h
   simp [still, heapM, putR, dvA] at hA hk
   subst hA
   refine avopG_live (A.length + 2) (v := .own (A.length + 2) 1 0 1) (k := xeB [false]) (k0 := ghB) (by simp only [liveX, eva, h]; kernel_rfl) (by simp [lap]) rfl ?_
   simpa [las] using hk
  case q2_0 | q2_2 | q2_512 | q2_514 | q2_1024 | q2_1026 | q2_1536 | q2_1538 =>
   intro hmay
   clear hmay
   intro e' K' h A4 hA hk
   simp only [Op.operands, Call.operands] at h
   try simp [still, heapM, putR, dvA] at h
   simp [still, heapM, putR, dvA] at hA hk
   subst hA
   refine avopG_of (aCall_of (cpNumber_af 0) (by kernel_rfl) (by simp) ?_)
   simpa using hk
  case q13_4 | q13_6 | q13_14 | q13_516 | q13_518 | q13_526 | q13_1028 | q13_1030 | q13_1038 | q13_1540 | q13_1542 | q13_1550 =>
   intro hmay
   clear hmay
   intro e' K' h A4 hA hk
   simp only [Op.operands, Call.operands] at h
   try simp [still, heapM, putR, dvA] at h
   simp [still, heapM, putR, dvA] at hA hk
   subst hA
   refine avopG_of ?_
   simp [h]
   refine aCall_of c4 (by kernel_rfl) (by simp) ?_
   simpa using hk
  case q3_6 | q3_518 | q3_1030 | q3_1542 | q3_8198 | q3_8710 | q3_9222 | q3_9734 =>
   intro hmay
   clear hmay
   intro e' K' h A4 hA hk
   simp only [Op.operands, Call.operands] at h
   try simp [still, heapM, putR, dvA] at h
   simp [still, heapM, putR, dvA] at hA hk
   subst hA
   exact avopG_of (aRaw_insertE (by simpa [h] using hins _ _) hk)
 simp [putR]
 refine aLoop_of (α := Nat) (fun i e A' => i ≤ 12 ∧ A' = hpA A s (vI i) false pr false ∧ e 1 = .ptr A.length 0 0 0 ∧ e 3 = .ptr (A.length + 4) 0 0 0 ∧ e 21 = aI .i64 i) (fun i => 12 - i) 0 (Sub.refl _ _ _)
  ⟨by omega, rfl, by simp, by simp, by simp⟩ ?_
 rintro i e A' ⟨hi, rfl, e1, e3, e21⟩ K hK
 rcases Nat.lt_or_ge i 12 with hlt | hge
 case inl =>
  have hlt' : (i : Int) < 12 := by omega
  simp [e1, e3, e21, hlt', lap, lap0]
  refine aRaw_mapUpdate (A' := hpA A s (vI (i + 1)) false pr false) ?_ ?_
  ·have h := upd_m2 (A := hpA A s (vI i) false pr false) (b := A.length + 1) (ver := 1) (k1 := .i64) (k2 := .u32) (L := vI i) und_vals (by kernel_rfl) (by simp [lap]) (i : Int) 2 0
   simpa [las, vI] using h
  have hw : IntKind.i64.wrap ((i : Int) + 1) = ((i + 1 : Nat) : Int) := i64w (by omega)
  simp [e1, e3, e21, hw]
  exact hK (i + 1) _ _ _ _ (Sub.refl _ _ _) ⟨by omega, rfl, by simp [e1], by simp [e3], by simp⟩ (by omega)
 obtain rfl : i = 12 := by omega
 clear hK
 simp [e1, e3, e21, lap, lap0, las, las0]
 refine aLoop_iter 3 ?_
 simp [e1, e3, e21, lap, lap0, las, las0, hl1]
 refine aLoop_iter 2 ?_
 simp [e1, e3, e21, lap, lap0, las, las0, hl1]
 refine aCall_ofc cV1 (by kernel_rfl) ?_
 rintro _ _ ⟨rfl, rfl⟩
 simp [e1, e3, e21, lap, lap0, las, las0, hl1]
 refine aLoop_iter 2 ?_
 simp [e1, e3, e21, lap, lap0, las, las0, hl1]
 refine aCall_ofc cV2 (by kernel_rfl) ?_
 rintro _ _ ⟨rfl, rfl⟩
 simp [e1, e3, e21, lap, lap0, las, las0, hl1]
end
abbrev nil27 : D := .v (.slice none 0 0)
abbrev i27 (n : Int) : D := .v (.int .i64 n)
def con27 (n : Int) : List D := [i27 1, .v (.int .u32 n), i27 0, i27 0, nil27]
def var27 (v : Int) : List D := [i27 2, .v (.int .u32 0), i27 v, i27 0, nil27]
def two27 (op v n : Int) : List D := [i27 op, .v (.int .u32 0), i27 0, i27 0, .sl 5 [var27 v, con27 n]]
def st27 (op v nx el : Int) (e : D) : List D := [i27 op, i27 v, i27 0, i27 nx, i27 el, .v (.int .u32 0), e, nil27]
def bl27 (l : List (List D)) : List D := [.v (.int .u32 0), .sl 8 l]
def blocks27 : D := .sl 2 [bl27 [st27 1 13 0 0 (.sl 5 [con27 5]), st27 1 14 0 0 (.sl 5 [two27 3 13 1]), st27 7 0 1 2 (.sl 5 [two27 12 14 6])], bl27 [st27 10 0 0 0 nil27], bl27 [st27 4 0 0 0 (.sl 5 [con27 1]), st27 10 0 0 0 nil27]]
def g27 : AV := .agg [aI .u32 0, .d blocks27]
def ints27 (l : List Int) : D := .sl 1 (l.map fun n => [i27 n])
def s27 : AV := .agg [aI .u32 0, .d blocks27, .d (.sl 1 [[nil27], [nil27], [nil27]]), .d (ints27 [0, 1, 2, 3, 4, 5, 6, 7, 8, 9, 10, 11, 12, 13, 14])]
theorem cg27_af : AF Tryz.prog 26 [g27] (aI .i64 0) := xres_af xnone_ok (lf := 100) (n := 100) (by kernel_rfl)
theorem reach27_af : AF Tryz.prog 27 [g27] (.d (.sl 1 [[.v (.bool true)], [.v (.bool true)], [.v (.bool true)]])) := xres_af xnone_ok (lf := 100) (n := 100) (by kernel_rfl)
theorem tree27_af : AF Tryz.prog 28 [g27] (.d (ints27 [-1, 0, 0])) := xres_af xnone_ok (lf := 100) (n := 100) (by kernel_rfl)
theorem preds27_af : AF Tryz.prog 23 [g27] (.d (.sl 1 [[nil27], [ints27 [0]], [ints27 [0]]])) := xres_af xnone_ok (lf := 100) (n := 100) (by kernel_rfl)
def orc27 : XF := orcZ [(26, [g27], aI .i64 0), (27, [g27], .d (.sl 1 [[.v (.bool true)], [.v (.bool true)], [.v (.bool true)]])), (28, [g27], .d (ints27 [-1, 0, 0])), (23, [g27], .d (.sl 1 [[nil27], [ints27 [0]], [ints27 [0]]]))] xnone
theorem orc27_ok : XFok Tryz.prog orc27 := orcZ_ok (fun t ht => by
 simp only [List.mem_cons, List.not_mem_nil, or_false] at ht
 rcases ht with rfl | rfl | rfl | rfl
 ·exact ⟨by kernel_rfl, cg27_af⟩
 ·exact ⟨by kernel_rfl, reach27_af⟩
 ·exact ⟨by kernel_rfl, tree27_af⟩
 ·exact ⟨by kernel_rfl, preds27_af⟩) xnone_ok
theorem check27_af : AF Tryz.prog 13 [s27] (aI .i64 0) := xres_af orc27_ok (lf := 100) (n := 100) (by kernel_rfl)
def orc27b : XF := orcZ [(13, [s27], aI .i64 0)] orc27
theorem orc27b_ok : XFok Tryz.prog orc27b := orcZ_ok (fun t ht => by
 simp only [List.mem_cons, List.not_mem_nil, or_false] at ht
 rcases ht with rfl
 exact ⟨by kernel_rfl, check27_af⟩) orc27_ok
def set27 (em top : Bool) (lo hi : Int) : List D := [.v (.bool em), .v (.bool top), .v (.int .u32 lo), .v (.int .u32 hi), .v (.int .u32 0)]
def vals27 : AV := .d (.sl 5 (List.replicate 12 (set27 false true 0 0) ++ [set27 false false 0 0, set27 false false 5 5, set27 false false 6 6]))
theorem values27_af : AF Tryz.prog 7 [s27] vals27 := xres_af orc27b_ok (lf := 100) (n := 100) (by kernel_rfl)
theorem branches27_af : AF Tryz.prog 12 [s27] (.d (ints27 [0])) := xres_af orc27b_ok (lf := 100) (n := 100) (by kernel_rfl)
def p27 : AV := .tup [.agg [aI .u32 0, .d (.sl 2 [bl27 [st27 1 13 0 0 (.sl 5 [con27 5]), st27 1 14 0 0 (.sl 5 [[i27 3, .v (.int .u32 0), i27 0, i27 0, .sl 5 [con27 5, con27 1]]]), st27 6 0 1 0 nil27], bl27 [st27 10 0 0 0 nil27], bl27 [st27 10 0 0 0 nil27]]),
 .d (.sl 1 [[nil27], [nil27], [nil27]]), .d (ints27 [0, 1, 2, 3, 4, 5, 6, 7, 8, 9, 10, 11, 12, 13, 14])], aI .i64 4, aI .i64 0]
theorem prop27_af : AF Tryz.prog 8 [s27] p27 := xres_af orc27b_ok (lf := 100) (n := 100) (by kernel_rfl)
def orc27c : XF := orcZ [(7, [s27], vals27), (12, [s27], .d (ints27 [0])), (8, [s27], p27)] xnone
theorem orc27c_ok : XFok Tryz.prog orc27c := orcZ_ok (fun t ht => by
 simp only [List.mem_cons, List.not_mem_nil, or_false] at ht
 rcases ht with rfl | rfl | rfl
 ·exact ⟨by kernel_rfl, values27_af⟩
 ·exact ⟨by kernel_rfl, branches27_af⟩
 ·exact ⟨by kernel_rfl, prop27_af⟩) xnone_ok
theorem l27ex_af : AF Tryz.prog 5 [] (aB true) := xtrue_af orc27c_ok (lf := 100) (n := 100) (by kernel_rfl)
end Go.Proofs.YtinkdalcmnnocaaGreat
