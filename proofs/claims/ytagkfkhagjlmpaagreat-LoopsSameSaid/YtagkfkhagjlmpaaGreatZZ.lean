import Derived.Test.YtagkfkhagjlmpaaGreatZS
set_option linter.all false
namespace Go.Proofs.YtagkfkhagjlmpaaGreat
open Go.RowKit
section
variable {P : Program} {n : Nat} {K : AKont} {e : AEnv} {A : AHeap} {d : Option Nat} {ty : TypeId} {pos : String} {af : Array Edge} {gd : Option (Nat × Bool)}
@[simp] theorem avop_lookup' {t : TypeId} {x y : Operand} {b : Bool} : avop P n ⟨d, .lookup t x y b, ty, pos, af, gd⟩ K e A ↔ aRaw P n ⟨d, .lookup t x y b, ty, pos, af, gd⟩ e A K := Iff.rfl
@[simp] theorem avop_mapUpdate' {t : TypeId} {x y z : Operand} : avop P n ⟨d, .mapUpdate t x y z, ty, pos, af, gd⟩ K e A ↔ aRaw P n ⟨d, .mapUpdate t x y z, ty, pos, af, gd⟩ e A K := Iff.rfl
@[simp] theorem avop_insert' {t : TypeId} {x y z : Operand} : avop P n ⟨d, .insert t x y z, ty, pos, af, gd⟩ K e A ↔ aRaw P n ⟨d, .insert t x y z, ty, pos, af, gd⟩ e A K := Iff.rfl
@[simp] theorem avop_makeMap' {t : TypeId} {x : Option Operand} : avop P n ⟨d, .makeMap t x, ty, pos, af, gd⟩ K e A ↔ aRaw P n ⟨d, .makeMap t x, ty, pos, af, gd⟩ e A K := Iff.rfl
@[simp] theorem avop_range' {t : TypeId} {x : Operand} : avop P n ⟨d, .range t x, ty, pos, af, gd⟩ K e A ↔ aRaw P n ⟨d, .range t x, ty, pos, af, gd⟩ e A K := Iff.rfl
@[simp] theorem avop_next' {x : Operand} {b : Bool} : avop P n ⟨d, .next x b, ty, pos, af, gd⟩ K e A ↔ aRaw P n ⟨d, .next x b, ty, pos, af, gd⟩ e A K := Iff.rfl
@[simp] theorem avop_entry' {x : Operand} : avop P n ⟨d, .entry x, ty, pos, af, gd⟩ K e A ↔ aRaw P n ⟨d, .entry x, ty, pos, af, gd⟩ e A K := Iff.rfl
@[simp] theorem avop_delete' (args : Array Operand) (ats : Array TypeId) : avop P n ⟨d, .call ⟨.builtin .delete, args, ats⟩, ty, pos, af, gd⟩ K e A ↔ aRaw P n ⟨d, .call ⟨.builtin .delete, args, ats⟩, ty, pos, af, gd⟩ e A K := Iff.rfl
end
def cLeft (m : Nat) : Blk := ⟨0, true, 75, 1, [[.mp m 0]]⟩
def cBack (l : List (Int × Int)) : Blk := ⟨0, true, 51, 1, [[.d (.sl 2 (prs l))]]⟩
def cInt (b : Int) : Blk := ⟨0, true, 3, 1, [[aI .i64 b]]⟩
set_option maxRecDepth 100000 in
theorem lpred1_ac {A : AHeap} {c iL iB ib m : Nat} {L : List (Nat × Int × Bool)} {back : List (Int × Int)} {b x : Int} (hL : A[iL]? = some (cLeft m)) (hB : A[iB]? = some (cBack back)) (hb : A[ib]? = some (cInt b)) (hS : A[m]? = some (msB 0 c L)) (hl : back.length ≤ maxLen) :
 AC Tryz.prog 38 [aI .i64 x, .ptr iL 0 0 0, .ptr iB 0 0 0, .ptr ib 0 0 0] A (Same0 A (aB (inS L x && !decide ((b, x) ∈ back)))) := by
 refine ac_of Tryz.func38 rfl (by kernel_rfl) (by simp [Tryz.ntmps38]) fun _ => ?_
 simp [Tryz.f38, hL, cLeft]
 refine aRaw_lookS (L := L) (k := x) Tryz.underlying75 Tryz.underlying3 (by kernel_rfl) (by simp) (by simp) hS ?_
 cases hi : inS L x with
 | false =>
   simp
   exact ⟨rfl, [], by simp⟩
 | true =>
   simp [hB, hb, cBack, cInt]
   refine aCall_of (cont2_af back b x hl) (by kernel_rfl) (by simp) ?_
   simp
   exact ⟨rfl, [], by simp⟩
def lsK (L : List (Nat × Int × Bool)) (b : Nat) : Prop := ∃ p ∈ L, p.2 = ((b : Int), true)
def StuckS (nx : List (List Nat)) (back : List (Int × Int)) (reach : List Bool) (X : Nat → Prop) : Prop := ∀ b, X b → reach[b]? = some true ∧ ∃ n ∈ rowN nx b, X n ∧ ((b : Int), (n : Int)) ∉ back
def fillS (reach : List Bool) : Nat → Nat × List (Nat × Int × Bool)
 | 0 => (0, [])
 | k + 1 => if reach[k]? = some true then ((fillS reach k).1 + 1, (fillS reach k).2 ++ [((fillS reach k).1, (k : Int), true)]) else fillS reach k
theorem fillS_mem {reach : List Bool} : ∀ {k : Nat} {p : Nat × Int × Bool}, p ∈ (fillS reach k).2 → ∃ b, b < k ∧ p.2 = ((b : Int), true) ∧ reach[b]? = some true
 | 0, p, h => by simp [fillS] at h
 | k + 1, p, h => by
   unfold fillS at h
   split at h
   ·rename_i hr
    rcases List.mem_append.1 h with h | h
    ·obtain ⟨b, h1, h2⟩ := fillS_mem h
     exact ⟨b, by omega, h2⟩
    ·simp at h
     subst h
     exact ⟨k, by omega, rfl, hr⟩
   ·obtain ⟨b, h1, h2⟩ := fillS_mem h
    exact ⟨b, by omega, h2⟩
theorem fillS_has {reach : List Bool} {b : Nat} (hb : reach[b]? = some true) : ∀ {k : Nat}, b < k → lsK (fillS reach k).2 b
 | 0, h => by omega
 | k + 1, h => by
   unfold fillS
   by_cases hbk : b = k
   ·subst hbk
    rw [if_pos hb]
    exact ⟨((fillS reach b).1, (b : Int), true), List.mem_append_right _ (by simp), rfl⟩
   ·obtain ⟨p, h1, h2⟩ := fillS_has hb (k := k) (by omega)
    split
    ·exact ⟨p, List.mem_append_left _ h1, h2⟩
    ·exact ⟨p, h1, h2⟩
theorem fillS_new {reach : List Bool} {k : Nat} : ∀ x ∈ (fillS reach k).2, x.2.1 ≠ (k : Int) := fun x hx he => by
 obtain ⟨b, h1, h2, _⟩ := fillS_mem hx
 rw [h2] at he
 simp at he
 omega
theorem fillS_ok {reach : List Bool} : ∀ k, SetOk (fillS reach k).1 (fillS reach k).2
 | 0 => by simp [fillS, SetOk]
 | k + 1 => by
   unfold fillS
   split
   ·exact setOk_add (fillS_ok k) fillS_new
   ·exact fillS_ok k
theorem fillS_len {reach : List Bool} : ∀ k, (fillS reach k).2.length ≤ k
 | 0 => by simp [fillS]
 | k + 1 => by
   have := fillS_len (reach := reach) k
   unfold fillS
   split
   ·simp; omega
   ·omega
theorem inS_iff {c : Nat} {L : List (Nat × Int × Bool)} (hok : SetOk c L) (ht : ∀ p ∈ L, p.2.2 = true) {k : Int} : inS L k = true ↔ ∃ p ∈ L, p.2.1 = k := by
 rcases find_split k L with h | ⟨L1, x, L2, rfl, h1, h2⟩
 ·rw [inS_none h]
  constructor
  ·intro h; cases h
  ·rintro ⟨p, hp, hk⟩; exact absurd hk (h p hp)
 ·rw [inS_some h1 h2]
  constructor
  ·intro _; exact ⟨x, by simp, h1⟩
  ·intro _; exact ht x (by simp)
def blD (l : List Bool) : List (List D) := l.map fun b => [D.v (.bool b)]
@[simp] theorem blD_len (l : List Bool) : (blD l).length = l.length := by simp [blD]
theorem blD_get {l : List Bool} {i : Nat} {b : Bool} (h : l[i]? = some b) : (blD l)[i]? = some [D.v (.bool b)] := by simp [blD, h]
theorem cln_msB (m v c : Nat) (L : List (Nat × Int × Bool)) : clnB m (msB v c L) = msB v c L := by
 simp [clnB, msB, clnE, cln, Function.comp_def]
theorem cln_mitB {m b : Nat} (v s : Nat) (S : List Nat) (h : b < m) : clnB m (mitB b v s S) = mitB b v s S := by
 simp [clnB, mitB, clnE, cln, h, Function.comp_def]
theorem cln_cLeft {m b : Nat} (h : b < m) : clnB m (cLeft b) = cLeft b := by simp [clnB, cLeft, clnE, cln, h]
theorem cln_cBack (m : Nat) (l : List (Int × Int)) : clnB m (cBack l) = cBack l := by simp [clnB, cBack, clnE, cln]
theorem cln_gB (m : Nat) (g : Gr) : clnB m (gB g) = gB g := by simp [clnB, gB, clnE, cln]
structure LOk (reach : List Bool) (c : Nat) (L : List (Nat × Int × Bool)) : Prop where
 ok : SetOk c L
 each : ∀ p ∈ L, ∃ b : Nat, p.2 = ((b : Int), true) ∧ reach[b]? = some true
 len : L.length ≤ reach.length
theorem LOk.tr {reach : List Bool} {c : Nat} {L : List (Nat × Int × Bool)} (h : LOk reach c L) : ∀ p ∈ L, p.2.2 = true := fun p hp => by
 obtain ⟨b, hb, _⟩ := h.each p hp
 rw [hb]
theorem LOk.del {reach : List Bool} {c : Nat} {L : List (Nat × Int × Bool)} (h : LOk reach c L) (k : Int) : LOk reach c (delS L k) :=
 ⟨setOk_del h.ok, fun p hp => h.each p ((List.mem_filter.1 hp).1), Nat.le_trans (List.length_filter_le _ _) h.len⟩
theorem delS_mem {L : List (Nat × Int × Bool)} {k : Int} {p : Nat × Int × Bool} : p ∈ delS L k ↔ p ∈ L ∧ p.2.1 ≠ k := by simp [delS]
theorem delS_lt {L : List (Nat × Int × Bool)} {p : Nat × Int × Bool} (hp : p ∈ L) : (delS L p.2.1).length < L.length := by
 have h1 : (delS L p.2.1).length ≤ L.length := List.length_filter_le _ _
 rcases Nat.lt_or_ge (delS L p.2.1).length L.length with h | h
 ·exact h
 ·have : delS L p.2.1 = L := List.filter_eq_self.2 (by
   have h2 : (delS L p.2.1).length = L.length := by omega
   exact fun a ha => List.length_filter_eq_length_iff.1 h2 a ha)
  rw [← this] at hp
  exact absurd rfl (delS_mem.1 hp).2
def Goes (nx : List (List Nat)) (back : List (Int × Int)) (L : List (Nat × Int × Bool)) (b : Int) : Bool := (rowN nx b.toNat).any fun n => inS L n && !decide ((b, (n : Int)) ∈ back)
def Keeps (nx : List (List Nat)) (back : List (Int × Int)) (reach : List Bool) (L : List (Nat × Int × Bool)) : Prop := ∀ X, StuckS nx back reach X → ∀ b, X b → lsK L b
theorem Keeps.del {nx : List (List Nat)} {back : List (Int × Int)} {reach : List Bool} {c : Nat} {L : List (Nat × Int × Bool)} (h : Keeps nx back reach L) (hL : LOk reach c L) {k : Nat} (hg : Goes nx back L k = false) : Keeps nx back reach (delS L k) := by
 intro X hX b hb
 obtain ⟨p, hp, hp2⟩ := h X hX b hb
 by_cases hbk : b = k
 ·subst hbk
  exfalso
  obtain ⟨_, n, hn, hXn, hnb⟩ := hX b hb
  obtain ⟨q, hq, hq2⟩ := h X hX n hXn
  have hin : inS L n = true := (inS_iff hL.ok hL.tr).2 ⟨q, hq, by rw [hq2]⟩
  unfold Goes at hg
  rw [List.any_eq_false] at hg
  have := hg n (by simpa using hn)
  simp [hin, hnb] at this
 ·exact ⟨p, delS_mem.2 ⟨hp, by rw [hp2]; simp; omega⟩, hp2⟩
def unS (L : List (Nat × Int × Bool)) (S : List Nat) : Nat := (L.filter fun p => !S.contains p.1).length
theorem unS_lt {L : List (Nat × Int × Bool)} {S : List Nat} {p : Nat × Int × Bool} (hp : p ∈ L) (hS : p.1 ∉ S) : unS L (S ++ [p.1]) < unS L S := by
 unfold unS
 refine filter_lt _ _ (fun x hx => ?_) p (by simpa using hS) (by simp) L hp
 simp at hx ⊢
 exact hx.1
set_option maxRecDepth 100000 in
set_option maxHeartbeats 1000000 in
theorem lpred_w (g : Gr) (hg : GrFit g) (back : List (Int × Int)) (reach : List Bool) (nx : List (List Nat)) (hn : nx.length = reach.length) (hbl : back.length ≤ maxLen) (hrl : reach.length ≤ 1000000)
 (h1 : AF Tryz.prog 18 [grV g] (.d (.sl 2 (prs back)))) (h2 : AF Tryz.prog 34 [grV g] (.d (.sl 1 (blD reach)))) (h3 : AF Tryz.prog 35 [grV g] (.d (.sl 1 (dataT nx))))
 (r : Bool) (hr : r = true ↔ ∀ X, StuckS nx back reach X → ∀ b, ¬ X b) : AF Tryz.prog 13 [grV g] (aB r) := by
 have hrm : reach.length ≤ maxLen := by unfold maxLen; omega
 have u56 := Tryz.underlying75
 have u3 := Tryz.underlying3
 refine af_of Tryz.func13 rfl (by kernel_rfl) (by simp [Tryz.ntmps13]) fun _ => ?_; simp [Tryz.f13, Ex.d_eq]
 refine aCall_of h1 (by kernel_rfl) (by simp) ?_
 simp
 refine aCall_of h2 (by kernel_rfl) (by simp) ?_
 simp
 refine aRaw_makeS ?_
 simp
 refine aLoop_of (α := Nat) (fun i e A => i ≤ reach.length ∧ A = [gB g, cBack back, msB 0 (fillS reach i).1 (fillS reach i).2, cLeft 2] ∧ e 19 = aI .i64 i ∧ e 18 = aI .i64 reach.length ∧ e 17 = .d (.sl 1 (blD reach)) ∧ e 5 = .ptr 3 0 0 0 ∧ e 3 = .ptr 1 0 0 0 ∧ e 1 = .ptr 0 0 0 0) (fun i => reach.length - i) 0 (Sub.refl _ _ _)
  ⟨by omega, by simp [fillS, gB, cBack, cLeft], by simp, by simp, by simp, by simp, by simp, by simp⟩ ?_
 rintro i e A ⟨hi, rfl, e19, e18, e17, e5, e3, e1⟩ K hK
 rcases Nat.lt_or_ge i reach.length with hlt | hge
 ·obtain ⟨b, hb⟩ : ∃ b, reach[i]? = some b := ⟨_, gEG hlt⟩
  have hb1 := blD_get hb
  have hb2 := (gSI.1 hb1).2
  simp [e19, e18, e17, hlt, hb1, hb2]
  cases b with
  | false =>
    have hf : fillS reach (i + 1) = fillS reach i := by rw [fillS, if_neg (by simp [hb])]
    simp [e19, succ_wrap hlt hrm]
    exact hK (i + 1) _ _ _ _ (Sub.refl _ _ _) ⟨by omega, by rw [hf], by simp, by simp [e18], by simp [e17], by simp [e5], by simp [e3], by simp [e1]⟩ (by omega)
  | true =>
    have hf : fillS reach (i + 1) = ((fillS reach i).1 + 1, (fillS reach i).2 ++ [((fillS reach i).1, (i : Int), true)]) := by rw [fillS, if_pos hb]
    simp [e5, cLeft]
    refine aRaw_updS (L := (fillS reach i).2) (c := (fillS reach i).1) (b := 2) (v := 0) (k := i) (v' := true) u56 u3 (by simp) (by simp [e19]) (by simp) rfl fillS_new ?_
    simp [e19, succ_wrap hlt hrm]
    exact hK (i + 1) _ _ _ _ (Sub.refl _ _ _) ⟨by omega, by rw [hf]; rfl, by simp, by simp [e18], by simp [e17], by simp [e5], by simp [e3], by simp [e1]⟩ (by omega)
 obtain rfl : i = reach.length := by omega
 obtain ⟨c, L0, hcL⟩ : ∃ c L0, fillS reach reach.length = (c, L0) := ⟨_, _, rfl⟩
 have hok0 : LOk reach c L0 := by
  have f1 := fillS_ok (reach := reach) reach.length
  have f2 := fillS_len (reach := reach) reach.length
  rw [hcL] at f1 f2
  refine ⟨f1, fun p hp => ?_, f2⟩
  obtain ⟨b, _, h5, h6⟩ := fillS_mem (reach := reach) (k := reach.length) (p := p) (by rw [hcL]; exact hp)
  exact ⟨b, h5, h6⟩
 have hkeep0 : Keeps nx back reach L0 := fun X hX b hb => by
  have h5 := (hX b hb).1
  have := fillS_has h5 (k := reach.length) (gSI.1 h5).1
  rw [hcL] at this
  exact this
 rw [hcL]
 simp [e19, e18, e1, gB]
 refine aCall_of h3 (by kernel_rfl) (by simp) ?_
 simp
 clear hK e19 e18 e17 K
 refine aLoop_of (α := List (Nat × Int × Bool) × Bool) (fun q e A => A = [gB g, cBack back, msB 0 c q.1, cLeft 2] ∧ e 9 = aB q.2 ∧ e 8 = .d (.sl 1 (dataT nx)) ∧ e 5 = .ptr 3 0 0 0 ∧ e 3 = .ptr 1 0 0 0 ∧ LOk reach c q.1 ∧ Keeps nx back reach q.1 ∧
  (q.2 = false → ∀ p ∈ q.1, Goes nx back q.1 p.2.1 = true)) (fun q => if q.2 = true then q.1.length + 1 else 0) (L0, true) (Sub.refl _ _ _)
  ⟨by simp [gB], by simp, by simp, by simp [e5], by simp [e3], hok0, hkeep0, by simp⟩ ?_
 clear hok0 hkeep0 hcL L0 e5 e3 e1 hge hi e
 rintro ⟨L, ch⟩ e A ⟨rfl, e9, e8, e5, e3, hok, hkeep, hst⟩ K hK
 simp only at e9 hok hkeep hst hK ⊢
 cases ch with
 | false =>
   have hst := hst rfl
   have hrL : r = decide (L.length = 0) := by
    cases L with
    | nil =>
      have : r = true := hr.2 fun X hX b hb => by
       obtain ⟨p, hp, _⟩ := hkeep X hX b hb
       simp at hp
      simp [this]
    | cons p L =>
      have : ¬ r = true := fun h => by
       obtain ⟨b, hb, hbr⟩ := hok.each p (by simp)
       refine hr.1 h (fun x => lsK (p :: L) x) (fun x hx => ?_) b ⟨p, by simp, hb⟩
       obtain ⟨q, hq, hq2⟩ := hx
       obtain ⟨y, hy, hyr⟩ := hok.each q hq
       have hxy : x = y := by rw [hq2] at hy; simp at hy; omega
       subst hxy
       refine ⟨hyr, ?_⟩
       have h5 := hst q hq
       unfold Goes at h5
       rw [hq2] at h5
       simp only [List.any_eq_true, Bool.and_eq_true, Bool.not_eq_true', decide_eq_false_iff_not, Int.toNat_natCast] at h5
       obtain ⟨m, hm1, hm2, hm3⟩ := h5
       obtain ⟨q2, hq3, hq4⟩ := (inS_iff hok.ok hok.tr).1 hm2
       refine ⟨m, hm1, ⟨q2, hq3, ?_⟩, hm3⟩
       exact Prod.ext hq4 (hok.tr q2 hq3)
      have : r = false := by simpa using this
      simp [this]
   rw [hrL]
   simp [e9, e5, cLeft]
   refine .inr (aRaw_lenS (b := 2) (v := 0) (c := c) (L := L) u56 (by simp) rfl ?_)
   simp
 | true =>
   simp [e9, e5, cLeft]
   refine aCall_ofc (mcloneS_ac (b := 2) (v := 0) (c := c) (L := L) rfl) (by kernel_rfl) ?_
   rintro _ _ ⟨rfl, rfl⟩
   simp
   refine aRaw_rangeM (b := 4) (v := 0) (c := c) (L := L) u56 (by simp) rfl ?_
   simp
   refine aLoop_of (α := List (Nat × Int × Bool) × List Nat × Bool) (fun q e A => A = [gB g, cBack back, msB 0 c q.1, cLeft 2, msB 0 c L, mitB 4 0 c q.2.1] ∧ e 9 = aB q.2.2 ∧ e 33 = .ptr 5 0 0 0 ∧ e 8 = .d (.sl 1 (dataT nx)) ∧ e 5 = .ptr 3 0 0 0 ∧ e 3 = .ptr 1 0 0 0 ∧
    LOk reach c q.1 ∧ Keeps nx back reach q.1 ∧ (∀ p ∈ L, p.1 ∉ q.2.1 → p ∈ q.1) ∧ q.1.length ≤ L.length ∧ (q.2.2 = false → q.1 = L ∧ ∀ p ∈ L, p.1 ∈ q.2.1 → Goes nx back L p.2.1 = true) ∧ (q.2.2 = true → q.1.length < L.length))
    (fun q => unS L q.2.1) (L, [], false) (Sub.refl _ _ _)
    ⟨by simp [cLeft], by simp, by simp, by simp [e8], by simp [e5], by simp [e3], hok, hkeep, by simp, by simp, by simp, by simp⟩ ?_
   clear e9 e8 e5 e3 e
   rintro ⟨M, S, ch⟩ e A ⟨rfl, e9, e33, e8, e5, e3, hokM, hkeepM, hun, hlen, hcf, hct⟩ K2 hK2
   simp only at e9 hokM hkeepM hun hlen hcf hct hK2 ⊢
   simp [e33]
   refine aRaw_nextM (q := 5) (b := 4) (v := 0) (s := c) (S := S) (L := L) (by simp [e33]) rfl rfl (fun p hp hpS => ?_) (fun hall => ?_)
   ·obtain ⟨b, hpb, hbr⟩ := hok.each p hp
    have hbl2 := (gSI.1 hbr).1
    have hdg := dataT_get (T := nx) (k := b) (by omega)
    have hdg2 := (gSI.1 hdg).2
    have hb1 : p.2.1 = (b : Int) := by rw [hpb]
    simp [e33]
    refine aRaw_entryM (q := 5) (b := 4) (v := 0) (s := c) (S := S) (L := L) (by simp [e33]) rfl rfl hp ?_
    simp [e8, e5, e3, hb1, hdg, hdg2]
    have hgo : (nI (rowN nx b)).any (fun x => inS M x && !decide (((b : Int), x) ∈ back)) = Goes nx back M b := by simp [Goes, nI, List.any_map, Function.comp_def]
    refine aCall_ofc (contains_in_ac (p := fun x => inS M x && !decide (((b : Int), x) ∈ back)) _ (nI (rowN nx b)) (by kernel_rfl) (fun a ha N => ?_)) (by kernel_rfl) ?_
    ·refine (lpred1_ac (c := c) (iL := 3) (iB := 1) (ib := 6) (m := 2) (L := M) (back := back) (b := b) (x := a) rfl rfl rfl rfl hbl).mono ?_
     rintro _ _ ⟨rfl, N2, rfl⟩
     exact ⟨rfl, N ++ N2, by simp⟩
    rintro _ _ ⟨rfl, N, rfl⟩
    rw [hgo]
    have hpM := hun p hp hpS
    have hsq : ∀ q ∈ L, q.1 = p.1 → q = p := fun q hq he => by
     have := hok.ok.1
     obtain ⟨i, hi⟩ := List.getElem?_of_mem hq
     obtain ⟨j, hj⟩ := List.getElem?_of_mem hp
     have h5 : (L.map (·.1))[i]? = some q.1 := by simp [hi]
     have h6 : (L.map (·.1))[j]? = some p.1 := by simp [hj]
     rw [he, ← h6] at h5
     have hij := (List.getElem?_inj (by have := (gSI.1 hi).1; simpa using this) this).1 h5
     subst hij
     rw [hi] at hj
     exact oSI hj
    have hkq : ∀ q ∈ L, q.2.1 = p.2.1 → q = p := fun q hq he => by
     have := hok.ok.2.2
     obtain ⟨i, hi⟩ := List.getElem?_of_mem hq
     obtain ⟨j, hj⟩ := List.getElem?_of_mem hp
     have h5 : (L.map (·.2.1))[i]? = some q.2.1 := by simp [hi]
     have h6 : (L.map (·.2.1))[j]? = some p.2.1 := by simp [hj]
     rw [he, ← h6] at h5
     have hij := (List.getElem?_inj (by have := (gSI.1 hi).1; simpa using this) this).1 h5
     subst hij
     rw [hi] at hj
     exact oSI hj
    have hms : unS L (S ++ [p.1]) < unS L S := unS_lt hp hpS
    cases hG : Goes nx back M b with
    | true =>
      simp
      refine hK2 (M, S ++ [p.1], ch) _ _ _ _ (Sub.take 6 (Nat.zero_le _)) ⟨?_, by simp [e9], by simp [e33], by simp [e8], by simp [e5], by simp [e3], hokM, hkeepM, fun q hq hqS => hun q hq (fun h => hqS (by simp [h])), hlen, fun h => ?_, hct⟩ hms
      ·simp only [List.cons_append, List.nil_append, List.append_assoc, List.take_succ_cons, List.take_zero, List.map_cons, List.map_nil, cln_msB, cln_mitB (m := 6) (b := 4) 0 c _ (by omega), cln_cLeft (m := 6) (b := 2) (by omega), cln_cLeft (m := 4) (b := 2) (by omega), cln_cBack, cln_gB]
       try rfl
      ·obtain ⟨g1, g2⟩ := hcf h
       refine ⟨g1, fun q hq hqS => ?_⟩
       rcases List.mem_append.1 hqS with h5 | h5
       ·exact g2 q hq h5
       ·simp at h5
        rw [hsq q hq h5, hb1, ← g1]
        exact hG
    | false =>
      simp [e5, cLeft]
      refine aRaw_delS (b := 2) (v := 0) (c := c) (L := M) (k := b) u56 u3 (by simp) (by simp) rfl ?_
      simp
      refine hK2 (delS M b, S ++ [p.1], true) _ _ _ _ (Sub.take 6 (Nat.zero_le _)) ⟨?_, by simp, by simp [e33], by simp [e8], by simp [e5], by simp [e3], hokM.del _, hkeepM.del hokM hG, fun q hq hqS => ?_, ?_, fun h => (by cases h), fun _ => ?_⟩ hms
      ·simp only [List.cons_append, List.nil_append, List.append_assoc, List.take_succ_cons, List.take_zero, List.map_cons, List.map_nil, cln_msB, cln_mitB (m := 6) (b := 4) 0 c _ (by omega), cln_cLeft (m := 6) (b := 2) (by omega), cln_cLeft (m := 4) (b := 2) (by omega), cln_cBack, cln_gB]
       try rfl
      ·refine delS_mem.2 ⟨hun q hq (fun h => hqS (by simp [h])), fun he => hqS ?_⟩
       rw [hkq q hq (by rw [he, hb1])]
       simp
      ·have := delS_lt hpM
       rw [hb1] at this
       simp only
       omega
      ·have := delS_lt hpM
       rw [hb1] at this
       simp only
       omega
   ·simp
    refine hK (M, ch) _ _ _ _ (Sub.take 4 (Nat.zero_le _)) ⟨?_, by simp [e9], by simp [e8], by simp [e5], by simp [e3], hokM, hkeepM, fun h => ?_⟩ ?_
    ·simp only [List.cons_append, List.nil_append, List.append_assoc, List.take_succ_cons, List.take_zero, List.map_cons, List.map_nil, cln_msB, cln_mitB (m := 6) (b := 4) 0 c _ (by omega), cln_cLeft (m := 6) (b := 2) (by omega), cln_cLeft (m := 4) (b := 2) (by omega), cln_cBack, cln_gB]
     try rfl
    ·obtain ⟨g1, g2⟩ := hcf h
     intro q hq
     have hq : q ∈ M := hq
     show Goes nx back M q.2.1 = true
     rw [g1] at hq ⊢
     exact g2 q hq (hall q hq)
    ·cases ch with
     | false => simp
     | true => have := hct rfl; simpa using this
open Classical in
theorem lpred_ex (g : Gr) (hg : GrFit g) (back : List (Int × Int)) (reach : List Bool) (nx : List (List Nat)) (hn : nx.length = reach.length) (hbl : back.length ≤ maxLen) (hrl : reach.length ≤ 1000000)
 (h1 : AF Tryz.prog 18 [grV g] (.d (.sl 2 (prs back)))) (h2 : AF Tryz.prog 34 [grV g] (.d (.sl 1 (blD reach)))) (h3 : AF Tryz.prog 35 [grV g] (.d (.sl 1 (dataT nx)))) :
 ∃ r : Bool, (r = true ↔ ∀ X, StuckS nx back reach X → ∀ b, ¬ X b) ∧ AF Tryz.prog 13 [grV g] (aB r) :=
 ⟨decide (∀ X, StuckS nx back reach X → ∀ b, ¬ X b), by simp, lpred_w g hg back reach nx hn hbl hrl h1 h2 h3 _ (by simp)⟩
theorem dmTree_ex (g : Gr) (hg : GrFit g) (he : EdgOk g) : ∃ o, (0 < g.b.length → TreeOk g o) ∧ AF Tryz.prog 44 [grV g] (.d (.sl 1 (i64s (oI g.b.length o)))) := by
 by_cases h0 : 0 < g.b.length
 ·obtain ⟨o, ho, ha⟩ := dmtree_ex g hg he h0
  refine ⟨o, fun _ => ho, ?_⟩
  have hne : ¬ g.b.length = 0 := by omega
  have hne2 : ¬ g.b = [] := fun h => by simp [h] at h0
  refine af_of Tryz.func44 rfl (by kernel_rfl) (by simp [Tryz.ntmps44]) fun _ => ?_; simp [Tryz.f44, Ex.d_eq]
  simp [hne2]
  refine aCall_of (dmall_af g hg he) (by kernel_rfl) (by simp) ?_
  simp
  refine aCall_of ha (by kernel_rfl) (by simp) ?_
  simp
 ·have hb : g.b = [] := List.eq_nil_of_length_eq_zero (by omega)
  refine ⟨fun _ => none, fun h => absurd h h0, ?_⟩
  refine af_of Tryz.func44 rfl (by kernel_rfl) (by simp [Tryz.ntmps44]) fun _ => ?_; simp [Tryz.f44, Ex.d_eq]
  simp [hb, oI]
theorem oV_get {n x : Nat} (o : Nat → Option Nat) (h : x < n) : (i64s (oI n o))[x]? = some [.v (.int .i64 (oV o x))] := by simp [i64s, oI, h]
theorem dmdom_af (n : Nat) (o : Nat → Option Nat) (μ : Nat → Nat) (hμ : ∀ x y, o x = some y → y < n ∧ μ y < μ x) (a b : Nat) (ha : a < n) (hb : b < n) (hbn : μ b ≤ n) (hnm : n ≤ 1000000) (r : Bool) (hr : r = true ↔ Anc o b a) :
 AF Tryz.prog 45 [.d (.sl 1 (i64s (oI n o))), aI .i64 a, aI .i64 b] (aB r) := by
 have hnm2 : n + 1 ≤ maxLen := by unfold maxLen; omega
 have hlen : (oI n o).length = n := by simp [oI]
 have a1 : ¬ (a : Int) < 0 := by omega
 have a2 : ¬ (n : Int) ≤ (a : Int) := by omega
 have b1 : ¬ (b : Int) < 0 := by omega
 have b2 : ¬ (n : Int) ≤ (b : Int) := by omega
 refine af_of Tryz.func45 rfl (by kernel_rfl) (by simp [Tryz.ntmps45]) fun _ => ?_; simp [Tryz.f45, Ex.d_eq]
 simp [a1, a2, b1, b2, hlen]
 have hw : IntKind.i64.wrap ((n : Int) + 1) = ((n + 1 : Nat) : Int) := by
  have := succ_wrap (i := n) (n := n + 1) (by omega) hnm2
  rw [this]
 rw [hw]
 refine aLoop_of (α := Nat × Nat) (fun q e A => A = [] ∧ q.1 ≤ n + 1 ∧ q.2 < n ∧ μ q.2 + q.1 ≤ n ∧ (r = true ↔ Anc o q.2 a) ∧ e 28 = aI .i64 q.1 ∧ e 27 = aI .i64 ((n + 1 : Nat) : Int) ∧ e 0 = .d (.sl 1 (i64s (oI n o))) ∧ e 1 = aI .i64 a ∧ e 2 = aI .i64 q.2) (fun q => n + 1 - q.1) (0, b) (Sub.refl _ _ _)
  ⟨rfl, by simp, hb, by simpa using hbn, hr, by simp, by simp, by simp, by simp, by simp⟩ ?_
 clear b1 b2
 rintro ⟨i, y⟩ e A ⟨rfl, hi, hy, hμy, hry, e28, e27, e0, e1, e2⟩ K hK
 simp only at hi hy hμy hry e28 e2
 have hlt : i < n + 1 := by omega
 have hlt2 : (i : Int) < (n : Int) + 1 := by omega
 have hv := oV_get o hy
 have hv2 := (gSI.1 hv).2
 by_cases hay : a = y
 ·subst hay
  have : r = true := hry.2 (.refl _)
  subst this
  simp [e28, e27, e1, e2, hlt2]
 ·have hay2 : ¬ (a : Int) = (y : Int) := by omega
  cases hoy : o y with
  | none =>
    have hov : oV o y = -1 := by unfold oV; rw [hoy]
    rw [hov] at hv
    have hv2 := (gSI.1 hv).2
    have : r = false := by
     cases r with
     | false => rfl
     | true => exact absurd ((hry.1 rfl).none hoy) hay
    subst this
    simp [e28, e27, e0, e1, e2, hlt2, hay2, hv, hv2, hlen, hy]
  | some z =>
    obtain ⟨hz, hzμ⟩ := hμ y z hoy
    have hov : oV o y = (z : Int) := by unfold oV; rw [hoy]
    rw [hov] at hv
    have hv2 := (gSI.1 hv).2
    have z1 : ¬ (z : Int) < 0 := by omega
    have z2 : ¬ (n : Int) ≤ (z : Int) := by omega
    have z3 : ¬ n ≤ z := by omega
    simp [e28, e27, e0, e1, e2, hlt2, hay2, hv, hv2, hlen, hy, z1, z2, z3, succ_wrap hlt hnm2]
    refine hK (i + 1, z) _ _ _ _ (Sub.refl _ _ _) ⟨rfl, by simp only; omega, hz, by simp only; omega, hry.trans ⟨fun h => h.tail (fun h2 => hay h2.symm) hoy, fun h => .step hoy h⟩, by simp, by simp [e27], by simp [e0], by simp [e1], by simp⟩ (by simp only; omega)
def predF (g : Gr) (b : Nat) : List Nat := (List.range g.b.length).filter fun p => (edgN g p).contains b
def succR (g : Gr) (m p : Nat) : List Nat := (List.range m).filter fun b => (edgN g p).contains b
theorem predF_mem {g : Gr} {b p : Nat} : p ∈ predF g b ↔ p < g.b.length ∧ b ∈ edgN g p := by simp [predF]
theorem succR_mem {g : Gr} {m p b : Nat} : b ∈ succR g m p ↔ b < m ∧ b ∈ edgN g p := by simp [succR]
theorem succR_succ (g : Gr) (m p : Nat) : succR g (m + 1) p = succR g m p ++ if m ∈ edgN g p then [m] else [] := by
 unfold succR
 rw [List.range_succ, List.filter_append]
 congr 1
 by_cases h : m ∈ edgN g p
 ·simp [h]
 ·simp [h]
theorem nI_mem {l : List Nat} {v : Int} : v ∈ nI l ↔ ∃ x ∈ l, (x : Int) = v := by simp [nI]
theorem asc_range (n : Nat) (p : Nat → Bool) : Asc (nI ((List.range n).filter p)) := by
 unfold Asc nI
 rw [List.pairwise_map]
 refine List.Pairwise.filter _ ?_
 have := List.pairwise_lt_range (n := n)
 exact this.imp fun h => by omega
theorem stepT_row {k y x : Nat} {T : List (List Nat)} (hx : x < T.length) : rowN (stepT k T y) x = if x = y then rowN T x ++ [k] else rowN T x := by
 unfold rowN stepT
 by_cases h : x = y
 ·subst h
  simp [hx]
 ·rw [if_neg h, gSN (Ne.symm h)]
theorem foldT_sorted {k x : Nat} : ∀ (l : List Nat) (T : List (List Nat)), x < T.length → (rowN T x).Pairwise (· ≤ ·) → (∀ q ∈ rowN T x, q ≤ k) → (rowN (l.foldl (stepT k) T) x).Pairwise (· ≤ ·) ∧ ∀ q ∈ rowN (l.foldl (stepT k) T) x, q ≤ k
 | [], T, hx, h1, h2 => ⟨h1, h2⟩
 | y :: l, T, hx, h1, h2 => by
   rw [List.foldl_cons]
   refine foldT_sorted l (stepT k T y) (by rw [stepT_len]; exact hx) ?_ ?_
   ·rw [stepT_row hx]
    split
    ·rw [List.pairwise_append]
     exact ⟨h1, by simp, fun a ha b hb => by simp at hb; subst hb; exact h2 a ha⟩
    ·exact h1
   ·rw [stepT_row hx]
    split
    ·intro q hq
     rcases List.mem_append.1 hq with hq | hq
     ·exact h2 q hq
     ·simp at hq; omega
    ·exact h2
theorem turn_sorted {g : Gr} {x : Nat} : ∀ (m : Nat) (T0 : List (List Nat)), x < T0.length → rowN T0 x = [] → (rowN ((List.range m).foldl (rowT g) T0) x).Pairwise (· ≤ ·) ∧ (∀ q ∈ rowN ((List.range m).foldl (rowT g) T0) x, q < m) ∧ x < ((List.range m).foldl (rowT g) T0).length
 | 0, T0, hx, h => by simp [h, hx]
 | m + 1, T0, hx, h => by
   obtain ⟨h1, h2, h3⟩ := turn_sorted (g := g) m T0 hx h
   rw [List.range_succ, List.foldl_append, List.foldl_cons, List.foldl_nil]
   obtain ⟨h4, h5⟩ := foldT_sorted (k := m) (edgN g m) _ h3 h1 (fun q hq => Nat.le_of_lt (h2 q hq))
   exact ⟨h4, fun q hq => Nat.lt_succ_of_le (h5 q hq), by unfold rowT; rw [foldT_len]; exact h3⟩
theorem cmpI_pred {g : Gr} {b : Nat} (hb : b < g.b.length) : cmpI (rowN (turnN g) b) = nI (predF g b) := by
 have h0 : rowN (List.replicate g.b.length []) b = [] := by simp [rowN, hb]
 obtain ⟨h1, _, _⟩ := turn_sorted (g := g) (x := b) g.b.length (List.replicate g.b.length []) (by simpa using hb) h0
 have h1 : (rowN (turnN g) b).Pairwise (· ≤ ·) := h1
 have hm := fun q => turn_mem (q := q) hb
 obtain ⟨S, hS⟩ : ∃ S, rowN (turnN g) b = S := ⟨_, rfl⟩
 rw [hS] at h1 ⊢
 simp only [hS] at hm
 have hs : ∀ (i j : Nat), i < j → j < (nI S).toArray.size → (nI S).toArray[i]! ≤ (nI S).toArray[j]! := fun i j hij hj => by
  have hj' : j < S.length := by simpa using hj
  have := List.pairwise_iff_getElem.1 h1 i j (by omega) hj' hij
  have hi' : i < S.length := by omega
  simp [getElem!_pos, hj', hi', nI]
  exact this
 obtain ⟨c1, c2, c3⟩ := compact_sorted hs (nI S).length (by simp)
 refine asc_ext c1 (asc_range _ _) fun v => ?_
 show v ∈ Lib.compactUpTo (nI S).toArray (nI S).length ↔ _
 rw [c2]
 have e1 : ∀ Z : List Int, (∃ j, j < Z.length ∧ Z.toArray[j]! = v) ↔ v ∈ Z := fun Z => by
  rw [List.mem_iff_getElem]
  constructor
  ·rintro ⟨j, hj, e⟩
   exact ⟨j, hj, by simpa [getElem!_pos, hj] using e⟩
  ·rintro ⟨j, hj, e⟩
   exact ⟨j, hj, by simpa [getElem!_pos, hj] using e⟩
 rw [e1, nI_mem]
 show _ ↔ v ∈ nI (predF g b)
 rw [nI_mem]
 constructor
 ·rintro ⟨x, hx, rfl⟩
  exact ⟨x, predF_mem.2 ((hm x).1 hx), rfl⟩
 ·rintro ⟨x, hx, rfl⟩
  exact ⟨x, (hm x).2 (predF_mem.1 hx), rfl⟩
def mkT (n : Nat) (f : Nat → List Nat) : List (List Nat) := (List.range n).map f
@[simp] theorem mkT_len (n : Nat) (f : Nat → List Nat) : (mkT n f).length = n := by simp [mkT]
theorem mkT_get {n x : Nat} (f : Nat → List Nat) (h : x < n) : (mkT n f)[x]? = some (f x) := by simp [mkT, h]
theorem mkT_row {n x : Nat} (f : Nat → List Nat) (h : x < n) : rowN (mkT n f) x = f x := by simp [rowN, mkT_get f h]
theorem mkT_set {n x : Nat} (f : Nat → List Nat) (v : List Nat) : (mkT n f).set x v = mkT n (fun y => if y = x then v else f y) := by
 apply List.ext_getElem?
 intro j
 by_cases hj : j < n
 ·rw [mkT_get _ hj, List.getElem?_set]
  by_cases hxj : x = j
  ·subst hxj; simp [hj]
  ·rw [if_neg hxj, mkT_get _ hj, if_neg (Ne.symm hxj)]
 ·rw [List.getElem?_eq_none (by simp; omega), List.getElem?_eq_none (by simp; omega)]
theorem mkT_ext {n : Nat} {f h : Nat → List Nat} (e : ∀ x, x < n → f x = h x) : mkT n f = mkT n h := List.map_congr_left fun x hx => e x (List.mem_range.1 hx)
theorem dataP_pred (g : Gr) (hl : (turnN g).length = g.b.length) : dataP (turnN g) = dataT (mkT g.b.length (predF g)) := by
 apply List.ext_getElem?
 intro j
 by_cases hj : j < g.b.length
 ·have h1 : (turnN g)[j]? = some (rowN (turnN g) j) := by simp [rowN, show j < (turnN g).length by omega]
  simp only [dataP, dataT, List.getElem?_map, h1, mkT_get _ hj, Option.map_some, cmpI_pred hj]
 ·rw [List.getElem?_eq_none (by simp [dataP]; omega), List.getElem?_eq_none (by simp [dataT]; omega)]
abbrev out2 (T : List (List Nat)) : Blk := ⟨0, true, 49, 1, rowsT 2 T⟩
theorem reiT2 (N : AHeap) (a b : Blk) (T : List (List Nat)) (d : Nat) : omap (fun x => omap (reiD false (a :: b :: (blkT T ++ N)) (d + 1)) x) (rowsT 2 T) = some (dataT T) := by
 refine omap_ext (by simp [rowsT_len, dataT]) fun i x r ha hr => ?_
 simp only [rowsT, List.getElem?_mapIdx, Option.map_eq_some_iff] at ha
 obtain ⟨L, hL, rfl⟩ := ha
 simp only [dataT, List.getElem?_map, hL, Option.map_some, Option.some.injEq] at hr
 subst hr
 have hg := blkT_get hL N
 have ht : List.take L.length (dEls (i64s (nI L))) = dEls (i64s (nI L)) := List.take_of_length_le (by simp)
 simp [omap, reiD, curB, hg, ht]
theorem Sub.turn2 {n : Nat} {e : AEnv} (k : Blk) (m : Nat) : Sub n e [k, ⟨0, true, 49, 1, List.replicate m [.d (.v (.slice none 0 0))]⟩] e (k :: out2 (List.replicate m []) :: (blkT (List.replicate m []) ++ [])) := by
 have h1 := Sub.ghostT (n := n) (e := e) m (A := [k, ⟨0, true, 49, 1, List.replicate m [.d (.v (.slice none 0 0))]⟩])
 have h2 := Sub.rowT (n := n) (e := e) (o := 2) [] [k] m m 0 (by omega) rfl
 refine Sub.trans h1 ?_
 have h3 : rowsT 2 (List.replicate 0 []) = [] := rfl
 rw [h3] at h2
 simp only [List.nil_append, List.append_nil, List.singleton_append, List.cons_append] at h2 ⊢
 exact h2
def midF (g : Gr) (b j p : Nat) : List Nat := succR g b p ++ if p ∈ (predF g b).take j then [b] else []
theorem succR_len (g : Gr) (m p : Nat) : (succR g m p).length ≤ m := by
 have := List.length_filter_le (fun b => (edgN g p).contains b) (List.range m)
 simpa [succR] using this
theorem predF_len (g : Gr) (b : Nat) : (predF g b).length ≤ g.b.length := by
 have := List.length_filter_le (fun p => (edgN g p).contains b) (List.range g.b.length)
 simpa [predF] using this
theorem predF_nodup (g : Gr) (b : Nat) : (predF g b).Nodup := List.Pairwise.filter _ List.nodup_range
def succT (g : Gr) : List (List Nat) := mkT g.b.length (succR g g.b.length)
set_option maxRecDepth 100000 in
theorem lpedges_af (g : Gr) (hg : GrFit g) (he : EdgOk g) (hsm : g.b.length ≤ 400) : AF Tryz.prog 35 [grV g] (.d (.sl 1 (dataT (succT g)))) := by
 have hgl : g.b.length ≤ maxLen := by have := hg.1; unfold maxLen; omega
 have hg1 := hg.1
 have hTl : (turnN g).length = g.b.length := by
  have := (turn_keep hg (List.range g.b.length) (List.replicate g.b.length []) 0 (by simp)).1
  simpa [turnN] using this
 have hpr := dmpreds_af g hg he hsm
 rw [dataP_pred g hTl] at hpr
 obtain ⟨n, hn⟩ : ∃ n, g.b.length = n := ⟨_, rfl⟩
 have hdl : ∀ f, (dataT (mkT n f)).length = n := fun f => by simp [dataT]
 rw [hn] at hpr hgl hg1
 refine af_of Tryz.func35 rfl (by kernel_rfl) (by simp [Tryz.ntmps35]) fun _ => ?_; simp [Tryz.f35, Ex.d_eq]
 simp [hn]
 refine aRaw_make (kl := .i64) (kc := .i64) (l := n) (c := n) (z := [.d (.v (.slice none 0 0))]) byt_76 (by simp) (by simp) (by simp) (Nat.le_refl _) hgl (by omega) ?_
 simp [hn]
 refine aCall_of hpr (by kernel_rfl) (by simp) ?_
 simp [hdl]
 refine aLoop_of (α := Nat) (fun i e A => i ≤ n ∧ (∃ N : AHeap, A = gB g :: out2 (mkT n (succR g i)) :: (blkT (mkT n (succR g i)) ++ N)) ∧
  e 15 = aI .i64 i ∧ e 14 = aI .i64 n ∧ e 13 = .d (.sl 1 (dataT (mkT n (predF g)))) ∧ e 3 = .own 1 0 0 n) (fun i => n - i) 0 (Sub.turn2 (gB g) n)
  ⟨by omega, ⟨[], by
   have : mkT n (succR g 0) = List.replicate n [] := by
    rw [mkT_ext (h := fun _ => []) (fun x _ => by simp [succR])]
    simp [mkT, List.map_const']
   rw [this]⟩, by simp, by simp, by simp, by simp⟩ ?_
 rintro i e A ⟨hi, ⟨N, rfl⟩, e15, e14, e13, e3⟩ K hK
 rcases Nat.lt_or_ge i n with hlt | hge
 case inr =>
  obtain rfl : i = n := by omega
  have ht : (rowsT 2 (mkT i (succR g i))).take i = rowsT 2 (mkT i (succR g i)) := List.take_of_length_le (by simp [rowsT_len])
  have hs : succT g = mkT i (succR g i) := by rw [succT, hn]
  simp [e15, e14, e3, ht, rowsT_len, hs, reiT2 N (gB g) (out2 (mkT i (succR g i))) (mkT i (succR g i)) 7]
 have hrow := dataT_get (T := mkT n (predF g)) (k := i) (by simpa using hlt)
 rw [mkT_row _ hlt] at hrow
 have hrow2 := (gSI.1 hrow).2
 have hpl := predF_len g i
 have n1 : (predF g i).length ≤ maxLen := by omega
 simp [e15, e14, e13, hlt, hrow, hrow2, hdl]
 refine aLoop_of (α := Nat) (fun j e A => j ≤ (predF g i).length ∧ (∃ N : AHeap, A = gB g :: out2 (mkT n (midF g i j)) :: (blkT (mkT n (midF g i j)) ++ N)) ∧
  e 22 = aI .i64 j ∧ e 21 = aI .i64 (predF g i).length ∧ e 20 = .d (.sl 1 (i64s (nI (predF g i)))) ∧ e 4 = aI .i64 i ∧ e 15 = aI .i64 i ∧ e 14 = aI .i64 n ∧ e 13 = .d (.sl 1 (dataT (mkT n (predF g)))) ∧ e 3 = .own 1 0 0 n) (fun j => (predF g i).length - j) 0 (Sub.refl _ _ _)
  ⟨by omega, ⟨N, by
   have : mkT n (midF g i 0) = mkT n (succR g i) := mkT_ext fun x _ => by simp [midF]
   rw [this]⟩, by simp, by simp, by simp, by simp, by simp [e15], by simp [e14], by simp [e13], by simp [e3]⟩ ?_
 rintro j e A ⟨hj, ⟨N, rfl⟩, f22, f21, f20, f4, f15, f14, f13, f3⟩ K2 hK2
 rcases Nat.lt_or_ge j (predF g i).length with hjlt | hjge
 case inr =>
  obtain rfl : j = (predF g i).length := by omega
  have hU : mkT n (midF g i (predF g i).length) = mkT n (succR g (i + 1)) := mkT_ext fun x hx => by
   rw [midF, List.take_length, succR_succ]
   congr 1
   by_cases h : i ∈ edgN g x
   ·rw [if_pos h, if_pos (predF_mem.2 ⟨by omega, h⟩)]
   ·rw [if_neg h, if_neg (fun h2 => h (predF_mem.1 h2).2)]
  rw [hU]
  simp [f22, f21, f15, succ_wrap hlt hgl]
  refine hK (i + 1) _ _ _ _ (Sub.refl _ _ _) ⟨by omega, ⟨N, by rfl⟩, by simp, by simp [f14], by simp [f13], by simp [f3]⟩ (by omega)
 obtain ⟨x, hx⟩ : ∃ x, (predF g i)[j]? = some x := ⟨_, gEG hjlt⟩
 have hx2 := (gSI.1 hx).2
 have hxm := predF_mem.1 (gMO hx)
 have hxn : x < n := by omega
 have hnew : x ∉ (predF g i).take j := fun h => by
  obtain ⟨q, hq⟩ := List.getElem?_of_mem h
  have hqj : q < j := by have := (gSI.1 hq).1; simp at this; omega
  rw [List.getElem?_take, if_pos hqj, ← hx] at hq
  have := (List.getElem?_inj (by omega) (predF_nodup g i)).1 hq
  omega
 have hL : midF g i j x = succR g i x := by simp [midF, hnew]
 have hgetT := mkT_get (midF g i j) hxn
 rw [hL] at hgetT
 obtain ⟨L, hLL⟩ : ∃ L, succR g i x = L := ⟨_, rfl⟩
 have hLl : L.length ≤ i := by rw [← hLL]; exact succR_len g i x
 have hni : (i : Int) ∉ nI L := fun h => by
  obtain ⟨y, hy, hyi⟩ := nI_mem.1 h
  rw [← hLL] at hy
  have := (succR_mem.1 hy).1
  omega
 rw [hLL] at hgetT
 have hrT := rowsT_get (o := 2) hgetT
 have hrT2 := (gSI.1 hrT).2
 have hbg := fun N => blkT_get hgetT N
 have hstep : (mkT n (midF g i j)).set x (L ++ [i]) = mkT n (midF g i (j + 1)) := by
  rw [mkT_set]
  refine mkT_ext fun y hy => ?_
  by_cases hyx : y = x
  ·subst hyx
   have : y ∈ (predF g i).take (j + 1) := gMO (i := j) (by rw [List.getElem?_take, if_pos (by omega)]; exact hx)
   rw [if_pos rfl, midF, if_pos this, hLL]
  ·rw [if_neg hyx, midF, midF]
   congr 1
   have : y ∈ (predF g i).take (j + 1) ↔ y ∈ (predF g i).take j := by
    rw [List.take_succ_eq_append_getElem hjlt, List.mem_append, hx2]
    simp [hyx]
   simp [this]
 have ht : List.take L.length (dEls (i64s (nI L))) = dEls (i64s (nI L)) := List.take_of_length_le (by simp)
 simp [f22, f21, f20, f4, f3, hjlt, hx, hx2, hxn, hrT, hrT2, hbg, rowsT_len]
 refine aCall_ofs (containsin_af (nI L) i (by simp; omega)) (by kernel_rfl) (by simp [hbg, ht]) (by simp) ?_
 simp [hni, f3, hxn, hrT, hrT2, hbg, rowsT_len, f4]
 refine aRaw_app byt_49 ?_
 have hp : dPb (L ++ [i]) = ⟨L.length + 1, true, 3, 1, dEls (i64s (nI L)) ++ [[AV.d (D.v (Value.int .i64 i))]]⟩ := by simp [dPb, nI, i64s, dEls]
 have hset : ∀ N, (blkT (mkT n (midF g i j)) ++ N).set x ⟨L.length + 1, true, 3, 1, dEls (i64s (nI L)) ++ [[AV.d (D.v (Value.int .i64 i))]]⟩ = blkT ((mkT n (midF g i j)).set x (L ++ [i])) ++ N := fun N => by rw [← hp]; exact blkT_set hgetT _ N
 have hrs := rowsT_set 2 (mkT n (midF g i j)) x (L ++ [i])
 rw [show (L ++ [i]).length = L.length + 1 by simp] at hrs
 rw [hstep] at hrs
 simp only [hstep] at hset
 simp [f3, hbg, ht]
 refine ⟨by omega, by omega, ?_⟩
 simp [hxn, hset, hrs, hrT, hrT2, f22, rowsT_len, succ_wrap hjlt n1]
 refine hK2 (j + 1) _ _ _ _ (Sub.refl _ _ _) ⟨by omega, ⟨_, by rfl⟩, by simp, by simp [f21], by simp [f20], by simp [f4], by simp [f15], by simp [f14], by simp [f13], by simp [f3]⟩ (by omega)
inductive Pt (E : Nat → List Nat) (P : Nat → Prop) : Nat → Nat → Prop
 | refl {a : Nat} : P a → Pt E P a a
 | step {a b c : Nat} : Pt E P a b → c ∈ E b → P c → Pt E P a c
section
variable {E : Nat → List Nat} {P Q : Nat → Prop} {a b c : Nat}
theorem Pt.first (h : Pt E P a b) : P a := by
 induction h with
 | refl h => exact h
 | step _ _ _ ih => exact ih
theorem Pt.last (h : Pt E P a b) : P b := by
 cases h with
 | refl h => exact h
 | step _ _ h => exact h
theorem Pt.trans (h : Pt E P a b) (g : Pt E P b c) : Pt E P a c := by
 induction g with
 | refl _ => exact h
 | step _ h1 h2 ih => exact .step ih h1 h2
theorem Pt.mono (hPQ : ∀ x, P x → Q x) (h : Pt E P a b) : Pt E Q a b := by
 induction h with
 | refl h => exact .refl (hPQ _ h)
 | step _ h1 h2 ih => exact .step ih h1 (hPQ _ h2)
theorem Pt.cons (ha : P a) (hb : b ∈ E a) (h : Pt E P b c) : Pt E P a c := Pt.trans (.step (.refl ha) hb h.first) h
end
def addU (p : Nat → Bool) (o : List Nat) (l : List Nat) : List Nat := l.foldl (fun o n => if p n = true ∧ n ∉ o then o ++ [n] else o) o
def frm (E : Nat → List Nat) (p : Nat → Bool) : Nat → Nat → List Nat → List Nat
 | 0, _, o => o
 | f + 1, i, o => match o[i]? with
   | none => o
   | some k => frm E p f (i + 1) (addU p o (E k))
theorem addU_cons (p : Nat → Bool) (o : List Nat) (x : Nat) (l : List Nat) : addU p o (x :: l) = addU p (if p x = true ∧ x ∉ o then o ++ [x] else o) l := rfl
theorem addU_spec (p : Nat → Bool) : ∀ (l o : List Nat), o.Nodup → (addU p o l).Nodup ∧ (∃ z, addU p o l = o ++ z ∧ ∀ x ∈ z, x ∈ l ∧ p x = true) ∧ ∀ x ∈ l, p x = true → x ∈ addU p o l
 | [], o, h => ⟨h, ⟨[], by simp [addU]⟩, by simp⟩
 | y :: l, o, h => by
   rw [addU_cons]
   by_cases hy : p y = true ∧ y ∉ o
   ·rw [if_pos hy]
    have hn : (o ++ [y]).Nodup := by
     rw [List.nodup_append]
     exact ⟨h, by simp, fun a ha b hb => by simp at hb; subst hb; exact fun e => hy.2 (e ▸ ha)⟩
    obtain ⟨h1, ⟨z, h2, h3⟩, h4⟩ := addU_spec p l (o ++ [y]) hn
    refine ⟨h1, ⟨y :: z, by rw [h2]; simp, fun x hx => ?_⟩, fun x hx hp => ?_⟩
    ·rcases List.mem_cons.1 hx with rfl | hx
     ·exact ⟨by simp, hy.1⟩
     ·exact ⟨by simp [(h3 x hx).1], (h3 x hx).2⟩
    ·rcases List.mem_cons.1 hx with rfl | hx
     ·rw [h2]; simp
     ·exact h4 x hx hp
   ·rw [if_neg hy]
    obtain ⟨h1, ⟨z, h2, h3⟩, h4⟩ := addU_spec p l o h
    refine ⟨h1, ⟨z, h2, fun x hx => ⟨by simp [(h3 x hx).1], (h3 x hx).2⟩⟩, fun x hx hp => ?_⟩
    rcases List.mem_cons.1 hx with rfl | hx
    ·have : x ∈ o := Classical.byContradiction fun h => hy ⟨hp, h⟩
     rw [h2]
     exact List.mem_append_left _ this
    ·exact h4 x hx hp
theorem nodup_len {n : Nat} {l : List Nat} (h : l.Nodup) (hl : ∀ x ∈ l, x < n) : l.length ≤ n := by
 have := List.Nodup.length_le_of_subset (l₁ := l) (l₂ := List.range n) h fun x hx => by simpa using hl x hx
 simpa using this
structure FMid (E : Nat → List Nat) (p : Nat → Bool) (n a i : Nat) (o : List Nat) : Prop where
 nd : o.Nodup
 lt : ∀ x ∈ o, x < n
 sound : ∀ x ∈ o, Pt E (fun k => p k = true) a x
 hd : a ∈ o
 done : ∀ (j k : Nat), j < i → o[j]? = some k → ∀ x ∈ E k, p x = true → x ∈ o
theorem FMid.len {E : Nat → List Nat} {p : Nat → Bool} {n a i : Nat} {o : List Nat} (h : FMid E p n a i o) : o.length ≤ n := nodup_len h.nd h.lt
theorem FMid.next {E : Nat → List Nat} {p : Nat → Bool} {n a i : Nat} {o : List Nat} (hE : ∀ i, i < n → ∀ x ∈ E i, x < n) (h : FMid E p n a i o) {k : Nat} (hk : o[i]? = some k) : FMid E p n a (i + 1) (addU p o (E k)) := by
 obtain ⟨h1, ⟨z, h2, h3⟩, h4⟩ := addU_spec p (E k) o h.nd
 have hko := gMO hk
 have hil := (gSI.1 hk).1
 refine ⟨h1, fun x hx => ?_, fun x hx => ?_, ?_, fun j q hj hq x hx hp => ?_⟩
 ·rw [h2] at hx
  rcases List.mem_append.1 hx with hx | hx
  ·exact h.lt x hx
  ·exact hE k (h.lt k hko) x (h3 x hx).1
 ·rw [h2] at hx
  rcases List.mem_append.1 hx with hx | hx
  ·exact h.sound x hx
  ·exact .step (h.sound k hko) (h3 x hx).1 (h3 x hx).2
 ·rw [h2]; exact List.mem_append_left _ h.hd
 ·rw [h2, gAL (by omega)] at hq
  rcases Nat.lt_or_ge j i with hji | hji
  ·rw [h2]; exact List.mem_append_left _ (h.done j q hji hq x hx hp)
  ·obtain rfl : j = i := by omega
   rw [hk] at hq
   obtain rfl := oSI hq
   exact h4 x hx hp
theorem frm_end {E : Nat → List Nat} {p : Nat → Bool} (f : Nat) (o : List Nat) : frm E p f o.length o = o := by
 cases f with
 | zero => rfl
 | succ f => simp [frm]
theorem frm_mid {E : Nat → List Nat} {p : Nat → Bool} {n a : Nat} (hE : ∀ i, i < n → ∀ x ∈ E i, x < n) : ∀ (f i : Nat) (o : List Nat), FMid E p n a i o → i ≤ o.length → n < i + f → FMid E p n a (frm E p f i o).length (frm E p f i o)
 | 0, i, o, h, hi, hf => by have := h.len; omega
 | f + 1, i, o, h, hi, hf => by
   rcases Nat.lt_or_ge i o.length with hlt | hge
   ·have hk := gEG hlt
    have h2 := h.next hE hk
    have hl : i + 1 ≤ (addU p o (E o[i])).length := by
     obtain ⟨_, ⟨z, h3, _⟩, _⟩ := addU_spec p (E o[i]) o h.nd
     rw [h3, List.length_append]
     omega
    have := frm_mid hE f (i + 1) _ h2 hl (by omega)
    simp only [frm, hk]
    exact this
   ·obtain rfl : i = o.length := by omega
    rw [frm_end]
    exact h
theorem frm_spec {E : Nat → List Nat} {p : Nat → Bool} {n a : Nat} (hE : ∀ i, i < n → ∀ x ∈ E i, x < n) (ha : a < n) (hp : p a = true) : (frm E p (n + 1) 0 [a]).Nodup ∧ (∀ x ∈ frm E p (n + 1) 0 [a], x < n) ∧ ∀ x, x ∈ frm E p (n + 1) 0 [a] ↔ Pt E (fun k => p k = true) a x := by
 have h0 : FMid E p n a 0 [a] := ⟨by simp, by simpa using ha, fun x hx => by simp at hx; subst hx; exact .refl hp, by simp, fun j k hj => by omega⟩
 have h := frm_mid hE (n + 1) 0 [a] h0 (by simp) (by omega)
 refine ⟨h.nd, h.lt, fun x => ⟨h.sound x, fun hx => ?_⟩⟩
 generalize frm E p (n + 1) 0 [a] = o at h
 induction hx with
 | refl _ => exact h.hd
 | @step b c _ h1 h2 ih =>
   obtain ⟨j, hj⟩ := List.getElem?_of_mem ih
   exact h.done j b (gSI.1 hj).1 hj c h1 h2
def fromL (g : Gr) (a : Nat) (x : Int) : List Nat := if (a : Int) = x ∨ g.b.length ≤ a then [] else frm (edgN g) (fun k => decide ((k : Int) ≠ x)) (g.b.length + 1) 0 [a]
theorem fromL_mem (g : Gr) (a : Nat) (x : Int) (y : Nat) : y ∈ fromL g a x ↔ a < g.b.length ∧ Pt (edgN g) (fun k => (k : Int) ≠ x) a y := by
 unfold fromL
 split
 ·rename_i h
  simp
  intro ha hp
  rcases h with h | h
  ·exact hp.first h
  ·omega
 ·rename_i h
  obtain ⟨_, _, h3⟩ := frm_spec (p := fun k => decide ((k : Int) ≠ x)) (edgN_lt (edgOk g)) (a := a) (by omega) (by simp; omega)
  rw [h3]
  constructor
  ·intro hp; exact ⟨by omega, hp.mono fun k hk => by simpa using hk⟩
  ·intro hp; exact hp.2.mono fun k hk => by simpa using hk
theorem rc_iff {g : Gr} (h : 0 < g.b.length) (x : Nat) : (dgN g).rc x = true ↔ Pt (edgN g) (fun _ => True) 0 x := by
 have hG := dgN_ok (edgOk g) h
 obtain ⟨M, h1, h2, h3, h4⟩ := post_found (edgOk g) h
 have ho := ordN_eq h h1
 have hm : ∀ y, (dgN g).rc y = true ↔ y ∈ M ++ [0] := fun y => by
  show (ordN g).contains y = true ↔ _
  rw [ho]
  simp
  exact or_comm
 constructor
 ·intro hx
  have key : ∀ n y, (dgN g).pl y ≤ n → (dgN g).rc y = true → Pt (edgN g) (fun _ => True) 0 y := by
   intro n
   induction n with
   | zero =>
     intro y hy hr
     have : y = 0 := hG.inj y 0 hr hG.root (by have := hG.pl0; have e : (dgN g).r = 0 := rfl; rw [e] at this; omega)
     subst this
     exact .refl trivial
   | succ n ih =>
     intro y hy hr
     by_cases hy0 : y = 0
     ·subst hy0; exact .refl trivial
     ·obtain ⟨q, hq, hqr, hlt⟩ := hG.par y hr hy0
      exact .step (ih q (by omega) hqr) ((turn_mem (dgN_lt (edgOk g) hr)).1 hq).2 trivial
  exact key _ x (Nat.le_refl _) hx
 ·intro hx
  rw [hm]
  induction hx with
  | refl _ => simp
  | @step b c _ h5 _ ih => exact h4 b ih c h5
theorem Pt.rc {g : Gr} {P : Nat → Prop} {x : Nat} (h0 : 0 < g.b.length) (h : Pt (edgN g) P 0 x) : (dgN g).rc x = true := (rc_iff h0 x).2 (h.mono fun _ _ => trivial)
theorem dm_iff {g : Gr} (h0 : 0 < g.b.length) (w x : Nat) : Dm (dgN g) w x ↔ ¬ Pt (edgN g) (fun k => k ≠ w) 0 x := by
 have hG := dgN_ok (edgOk g) h0
 constructor
 ·intro hd hp
  have : ∃ j, Av (dgN g) w j x := by
   clear hd
   induction hp with
   | refl h => exact ⟨0, .root (fun e => h e.symm)⟩
   | @step b c hb h1 h2 ih =>
     obtain ⟨j, hj⟩ := ih
     have hbr := hb.rc h0
     have hcr := (Pt.step hb h1 h2).rc h0
     have hin : b ∈ (dgN g).B c := (turn_mem (dgN_lt (edgOk g) hcr)).2 ⟨dgN_lt (edgOk g) hbr, h1⟩
     by_cases hlt : (dgN g).pl b < (dgN g).pl c
     ·exact ⟨j, .fwd hj hin hbr hcr hlt h2⟩
     ·exact ⟨j + 1, .ret hj hin hbr hcr (by omega) h2⟩
  obtain ⟨j, hj⟩ := this
  exact hd j hj
 ·intro hn j hv
  apply hn
  clear hn
  induction hv with
  | root h => exact .refl (fun e => h e.symm)
  | mono _ ih => exact ih
  | fwd _ h1 _ h3 _ h5 ih => exact .step ih ((turn_mem (dgN_lt (edgOk g) h3)).1 h1).2 h5
  | ret _ h1 _ h3 _ h5 ih => exact .step ih ((turn_mem (dgN_lt (edgOk g) h3)).1 h1).2 h5
def domB (g : Gr) (w x : Nat) : Bool := !(fromL g 0 (w : Int)).contains x
theorem domB_iff {g : Gr} (h0 : 0 < g.b.length) (w x : Nat) : domB g w x = true ↔ Dm (dgN g) w x := by
 rw [dm_iff h0, domB]
 simp
 rw [fromL_mem]
 have : (fun k : Nat => (k : Int) ≠ (w : Int)) = fun k => k ≠ w := by funext k; exact propext (by omega)
 rw [this]
 simp [h0]
theorem tree_dom {g : Gr} (h0 : 0 < g.b.length) {o : Nat → Option Nat} (ho : TreeOk g o) {x w : Nat} (hx : (dgN g).rc x = true) : Anc o x w ↔ domB g w x = true := by
 obtain ⟨i, hp, hf⟩ := ho
 rw [domB_iff h0]
 exact fix_anc (dgN_ok (edgOk g) h0) hp hf hx
theorem tree_inv {g : Gr} {o : Nat → Option Nat} (ho : TreeOk g o) : OInv (dgN g) o := by
 obtain ⟨i, hp, _⟩ := ho
 exact hp.inv
theorem fold_set_get : ∀ (l : List Nat) (s : List Bool) (a : Nat), a < s.length → (l.foldl (fun s x => s.set x true) s)[a]? = some (s[a]?.getD false || l.contains a)
 | [], s, a, h => by simp [h]
 | x :: l, s, a, h => by
   rw [List.foldl_cons, fold_set_get l (s.set x true) a (by simpa using h)]
   by_cases hxa : x = a
   ·subst hxa
    simp [h]
   ·have : ¬ a = x := fun e => hxa e.symm
    simp [List.getElem?_set, hxa, this]
theorem reachN_get {g : Gr} {a : Nat} (h : a < g.b.length) : (reachN g)[a]? = some ((dgN g).rc a) := by
 unfold reachN
 rw [fold_set_get _ _ _ (by simpa using h)]
 simp [h, dgN]
@[simp] theorem reachN_len (g : Gr) : (reachN g).length = g.b.length := by
  unfold reachN
  rw [fold_set_len]
  simp
def bkRow (g : Gr) (a : Nat) : List Nat := if (dgN g).rc a = true then (succR g g.b.length a).filter fun b => domB g b a else []
def bkL (g : Gr) : Nat → List (Int × Int)
 | 0 => []
 | a + 1 => bkL g a ++ (bkRow g a).map fun b => ((a : Int), ((b : Nat) : Int))
theorem bkRow_len (g : Gr) (a : Nat) : (bkRow g a).length ≤ g.b.length := by
 unfold bkRow
 split
 ·exact Nat.le_trans (List.length_filter_le _ _) (succR_len g _ _)
 ·simp
theorem bkL_len (g : Gr) : ∀ a, (bkL g a).length ≤ a * g.b.length
 | 0 => by simp [bkL]
 | a + 1 => by
   have h1 := bkL_len g a
   have h2 := bkRow_len g a
   simp only [bkL, List.length_append, List.length_map]
   rw [Nat.succ_mul]
   omega
abbrev prB (l : List (Int × Int)) : Blk := ⟨l.length, true, 56, 2, dEls (prs l)⟩
@[simp] theorem prs_all (l : List (Int × Int)) : List.take l.length (prs l) = prs l := List.take_of_length_le (by simp)
theorem tree_mu {g : Gr} {o : Nat → Option Nat} (h0 : 0 < g.b.length) (ho : TreeOk g o) : (∀ x y, o x = some y → y < g.b.length ∧ (dgN g).pl y < (dgN g).pl x) ∧ ∀ x, (dgN g).pl x ≤ g.b.length := by
 have hi := tree_inv ho
 refine ⟨fun x y hxy => ?_, fun x => ?_⟩
 ·obtain ⟨_, _, h3, h4⟩ := hi x y hxy
  exact ⟨dgN_lt (edgOk g) h3.1, h4⟩
 ·exact Nat.le_trans (List.idxOf_le_length) (ordN_len (edgOk g))
theorem dom_af (g : Gr) {o : Nat → Option Nat} (h0 : 0 < g.b.length) (hsm : g.b.length ≤ 400) (ho : TreeOk g o) {a b : Nat} (ha : a < g.b.length) (hb : b < g.b.length) (hr : (dgN g).rc b = true) :
 AF Tryz.prog 45 [.d (.sl 1 (i64s (oI g.b.length o))), aI .i64 a, aI .i64 b] (aB (domB g a b)) := by
 obtain ⟨h1, h2⟩ := tree_mu h0 ho
 exact dmdom_af g.b.length o (dgN g).pl h1 a b ha hb (h2 b) (by omega) _ (by rw [tree_dom h0 ho hr])
set_option maxRecDepth 100000 in
theorem lpback_af (g : Gr) (hg : GrFit g) (hsm : g.b.length ≤ 400) : AF Tryz.prog 18 [grV g] (.d (.sl 2 (prs (bkL g g.b.length)))) := by
 have hgl : g.b.length ≤ maxLen := by unfold maxLen; omega
 obtain ⟨o, ho, hT⟩ := dmTree_ex g hg (edgOk g)
 have hR := dmreach_af revOk g hg (edgOk g)
 have hE := lpedges_af g hg (edgOk g) hsm
 obtain ⟨n, hn⟩ : ∃ n, g.b.length = n := ⟨_, rfl⟩
 rw [hn] at hgl
 have hdl : (dataT (succT g)).length = n := by simp [dataT, succT, hn]
 refine af_of Tryz.func18 rfl (by kernel_rfl) (by simp [Tryz.ntmps18]) fun _ => ?_; simp [Tryz.f18, Ex.d_eq]
 refine aCall_of hT (by kernel_rfl) (by simp) ?_
 simp
 refine aCall_of hR (by kernel_rfl) (by simp) ?_
 simp
 refine aCall_of hE (by kernel_rfl) (by simp) ?_
 simp [hdl, hn]
 refine aLoop_st (fun a : Nat => [(1, .ptr 0 0 0 0), (3, .d (.sl 1 (i64s (oI n o)))), (4, .d (.sl 1 (blD (reachN g)))), (5, .own 1 (bkL g a).length 0 (bkL g a).length), (15, .d (.sl 1 (dataT (succT g)))), (16, aI .i64 n), (17, aI .i64 a)])
  (fun a => [gB g, prB (bkL g a)]) (fun a => a ≤ n) (fun a => n - a) 0
  ((Sub.ghost 0 56 2).trans (Sub.slot (s := 5) (c := .own 1 0 0 0) (by simp; exact VLe.nil_own (k := ⟨0, true, 56, 2, []⟩) (by simp) rfl))) 2 (by omega) (by simp [bkL, prs, cln_gB]) (by simp [bkL, blD]) (by omega) ?_
 rintro a ha K hK
 have hbl := bkL_len g a
 rw [hn] at hbl
 have hbl2 : a * n ≤ 400 * 400 := Nat.mul_le_mul (by omega) (by omega)
 rcases Nat.lt_or_ge a n with hlt | hge
 case inr =>
  obtain rfl : a = n := by omega
  simp
 have hra := reachN_get (g := g) (a := a) (by omega)
 have hra1 := blD_get hra
 have hra2 := (gSI.1 hra1).2
 have hsr : rowN (succT g) a = succR g n a := by rw [succT, hn]; exact mkT_row _ hlt
 have hrow := dataT_get (T := succT g) (k := a) (by simp [succT]; omega)
 rw [hsr] at hrow
 have hrow2 := (gSI.1 hrow).2
 have hsl := succR_len g n a
 have hslm : (succR g n a).length ≤ maxLen := by omega
 simp [hlt, hdl, hrow, hrow2, hra1, hra2, hn]
 cases hrc : (dgN g).rc a with
 | false =>
   have hb : bkL g (a + 1) = bkL g a := by simp [bkL, bkRow, hrc]
   simp [succ_wrap hlt hgl]
   exact hK (a + 1) (by omega) (by omega) (Sub.refl _ _ _) 2 (by omega) (by simp [hb, cln_gB]) (by simp [hb])
 | true =>
   simp
   obtain ⟨f, hf⟩ : ∃ f : Nat → List (Int × Int), f = fun j => bkL g a ++ (((succR g n a).take j).filter fun b => domB g b a).map fun b => ((a : Int), ((b : Nat) : Int)) := ⟨_, rfl⟩
   have hf0 : f 0 = bkL g a := by rw [hf]; simp
   have hfe : f (succR g n a).length = bkL g (a + 1) := by
    rw [hf]
    simp only [List.take_length]
    rw [bkL, bkRow, if_pos hrc, hn]
   have hflen : ∀ j, (f j).length ≤ 170000 := fun j => by
    rw [hf]
    simp only [List.length_append, List.length_map]
    have h1 := List.length_filter_le (fun b => domB g b a) ((succR g n a).take j)
    have h2 : ((succR g n a).take j).length ≤ (succR g n a).length := by simp; omega
    omega
   have hfs : ∀ j b, (succR g n a)[j]? = some b → f (j + 1) = if domB g b a = true then f j ++ [((a : Int), (b : Int))] else f j := fun j b hb => by
    rw [hf]
    simp only
    rw [List.take_add_one, hb, List.filter_append, List.map_append]
    by_cases hd : domB g b a = true
    ·simp [hd]
    ·simp [hd]
   clear hf
   refine aLoop_st (fun j : Nat => [(1, .ptr 0 0 0 0), (3, .d (.sl 1 (i64s (oI n o)))), (4, .d (.sl 1 (blD (reachN g)))), (5, .own 1 (f j).length 0 (f j).length), (6, aI .i64 a), (15, .d (.sl 1 (dataT (succT g)))), (16, aI .i64 n), (17, aI .i64 a),
    (27, .d (.sl 1 (i64s (nI (succR g n a))))), (28, aI .i64 (succR g n a).length), (29, aI .i64 j)])
    (fun j => [gB g, prB (f j)]) (fun j => j ≤ (succR g n a).length) (fun j => (succR g n a).length - j) 0 (Sub.refl _ _ _) 2 (by omega) (by simp [hf0, cln_gB]) (by simp [hf0]) (by omega) ?_
   rintro j hj K2 hK2
   rcases Nat.lt_or_ge j (succR g n a).length with hjlt | hjge
   case inr =>
    obtain rfl : j = (succR g n a).length := by omega
    simp [succ_wrap hlt hgl]
    exact hK (a + 1) (by omega) (by omega) (Sub.refl _ _ _) 2 (by omega) (by simp [hfe, cln_gB]) (by simp [hfe])
   obtain ⟨b, hb⟩ : ∃ b, (succR g n a)[j]? = some b := ⟨_, gEG hjlt⟩
   have hb2 := (gSI.1 hb).2
   have hbn := (succR_mem.1 (gMO hb)).1
   have hd := dom_af g (o := o) (by omega) hsm (ho (by omega)) (a := b) (b := a) (by omega) (by omega) hrc
   rw [hn] at hd
   have hfj := hfs j b hb
   have hfl := hflen j
   simp [hjlt, hb, hb2]
   refine aCall_of hd (by kernel_rfl) (by simp) ?_
   cases hdm : domB g b a with
   | false =>
     rw [hdm] at hfj
     simp only [Bool.false_eq_true, if_false] at hfj
     simp [succ_wrap hjlt hslm]
     exact hK2 (j + 1) (by omega) (by omega) (Sub.refl _ _ _) 2 (by omega) (by simp [hfj, cln_gB]) (by simp [hfj])
   | true =>
     rw [hdm] at hfj
     simp only [if_true] at hfj
     simp
     refine aRaw_app byt_51 ?_
     simp
     refine ⟨by unfold maxLen; omega, by omega, ?_⟩
     simp [succ_wrap hjlt hslm]
     refine hK2 (j + 1) (by omega) (by omega) (Sub.refl _ _ _) 2 (by omega) (by simp [hfj, cln_gB, prs]) (by simp [hfj])
theorem r24targets_af (b : Bl) (hl : b.s.length ≤ maxLen) : AF Tryz.prog 43 [blV b] (.d (.sl 1 (i64s (succL b)))) := by
 obtain ⟨R, hR⟩ : ∃ R, succL b = R := ⟨_, rfl⟩
 rw [hR]
 refine af_of Tryz.func43 rfl (by kernel_rfl) (by simp [Tryz.ntmps43]) fun _ => ?_; simp [Tryz.f43, Ex.d_eq]
 cases hn : b.s.length with
 | zero =>
   have : b.s = [] := List.length_eq_zero_iff.1 hn
   rw [succL, this] at hR
   simp at hR
   subst hR
   simp [this]
 | succ n =>
   obtain ⟨s, hs, hs2⟩ := last_get hn
   have hs3 := (gSI.1 hs).2
   have hne : ¬ b.s = [] := fun h => by rw [h] at hn; simp at hn
   unfold maxLen at hl
   rw [succL, hs2] at hR
   simp only [tgts] at hR
   simp [hn, hne, show ¬ (n : Int) + 1 = 0 by omega, i64w (n := (n : Int)) (by omega), hs, hs3, St.d_eq]
   rcases op_cases s.op with h | h | h | h | h | h | h | h | h | h | h <;> simp [h] at hR <;> subst hR <;> simp [h]
theorem nI_not {l : List Nat} {y : Nat} : ((y : Nat) : Int) ∈ nI l ↔ y ∈ l := by
 rw [nI_mem]
 constructor
 ·rintro ⟨z, hz, e⟩
  obtain rfl : z = y := by omega
  exact hz
 ·intro h; exact ⟨y, h, rfl⟩
theorem filter_step {p : Int → Bool} {L : List Int} {j : Nat} {a : Int} (h : L[j]? = some a) : (L.take (j + 1)).filter p = if p a = true then (L.take j).filter p ++ [a] else (L.take j).filter p := by
 rw [filter_take_succ h]
 split <;> simp
theorem r24edges_af (g : Gr) (hg : GrFit g) (k : Nat) (hk : k < g.b.length) : AF Tryz.prog 17 [grV g, aI .i64 k] (.d (.sl 1 (i64s (nI (edgN g k))))) := by
 obtain ⟨b, hb⟩ : ∃ b, g.b[k]? = some b := ⟨_, gEG hk⟩
 have hb2 := (gSI.1 hb).2
 have hbm := gMO hb
 have hgl : g.b.length ≤ maxLen := by have := hg.1; unfold maxLen; omega
 have hbl : b.s.length ≤ maxLen := by have := (hg.2 b hbm).1; unfold maxLen; omega
 have hsl := succL_len hg hbm
 have hsm : (succL b).length ≤ maxLen := by unfold maxLen; omega
 have hE : nI (edgN g k) = (succL b).filter (inG g) := by
  unfold edgN
  rw [hb]
  exact nI_toNat (n := g.b.length) fun x hx => inG_iff.1 (List.mem_filter.1 hx).2
 rw [hE]
 have ht := r24targets_af b hbl
 generalize succL b = L at *
 refine af_of Tryz.func17 rfl (by kernel_rfl) (by simp [Tryz.ntmps17]) fun _ => ?_; simp [Tryz.f17, Ex.d_eq]
 simp [hk, hb, hb2, Bl.d_eq]
 refine aCall_of ht (by kernel_rfl) (by simp) ?_
 simp
 obtain ⟨f, hf⟩ : ∃ f : Nat → List Int, f = fun j => (L.take j).filter (inG g) := ⟨_, rfl⟩
 have hf0 : f 0 = [] := by rw [hf]; simp
 have hfe : f L.length = L.filter (inG g) := by rw [hf]; simp
 have hfl : ∀ j, (f j).length ≤ 2000000 := fun j => by
  rw [hf]
  refine Nat.le_trans (List.length_filter_le _ _) ?_
  simp
  omega
 have hfs : ∀ j a, L[j]? = some a → f (j + 1) = if inG g a = true then f j ++ [a] else f j := fun j a h => by rw [hf]; exact filter_step h
 clear hf
 refine aLoop_st (fun j : Nat => [(2, .ptr 0 0 0 0), (5, .own 1 (f j).length 0 (f j).length), (6, .d (.sl 1 (i64s L))), (7, aI .i64 j)]) (fun j => [gB g, nbk (f j).length (f j)]) (fun j => j ≤ L.length) (fun j => L.length - j) 0
  ((Sub.ghost 0 3 1).trans (Sub.slot (s := 5) (c := .own 1 0 0 0) (by simp; exact VLe.nil_own (k := ⟨0, true, 3, 1, []⟩) (by simp) rfl))) 2 (by omega) (by simp [hf0, cln_gB]) (by simp [hf0]) (by omega) ?_
 rintro j hj K hK
 rcases Nat.lt_or_ge j L.length with hlt | hge
 case inr =>
  obtain rfl : j = L.length := by omega
  simp [hfe]
 obtain ⟨a, ha⟩ : ∃ a, L[j]? = some a := ⟨_, gEG hlt⟩
 have ha2 := (gSI.1 ha).2
 have hfj := hfs j a ha
 have hflj := hfl j
 simp [hlt]
 refine adraw [] (by kernel_rfl) (by kernel_rfl) (by kernel_rfl) (by kernel_rfl) ?_; simp [Ex.d_eq]
 simp [hlt, ha, ha2]
 by_cases hp : inG g a = true
 ·rw [if_pos hp] at hfj
  have hp2 := inG_iff.1 hp
  simp [hp2.1, hp2.2, hlt, ha, ha2]
  refine aRaw_app byt_49 ?_
  simp
  refine ⟨by unfold maxLen; omega, by omega, ?_⟩
  simp [succ_wrap hlt hsm]
  exact hK (j + 1) (by omega) (by omega) (Sub.refl _ _ _) 2 (by omega) (by simp [hfj, cln_gB]) (by simp [hfj])
 ·rw [if_neg hp] at hfj
  have hp2 : ¬ (0 ≤ a ∧ a < g.b.length) := fun h => hp (inG_iff.2 h)
  have hpd : (decide (0 ≤ a) && decide (a < g.b.length)) = false := by simpa [inG] using hp
  by_cases h0 : 0 ≤ a
  ·have h1 : ¬ a < g.b.length := fun h => hp2 ⟨h0, h⟩
   simp [h0, h1, hlt, ha, ha2, succ_wrap hlt hsm]
   exact hK (j + 1) (by omega) (by omega) (Sub.refl _ _ _) 2 (by omega) (by simp [hfj, cln_gB]) (by simp [hfj])
  ·simp [h0, succ_wrap hlt hsm]
   exact hK (j + 1) (by omega) (by omega) (Sub.refl _ _ _) 2 (by omega) (by simp [hfj, cln_gB]) (by simp [hfj])
@[simp] theorem dataT_len (T : List (List Nat)) : (dataT T).length = T.length := by simp [dataT]
end Go.Proofs.YtagkfkhagjlmpaaGreat
