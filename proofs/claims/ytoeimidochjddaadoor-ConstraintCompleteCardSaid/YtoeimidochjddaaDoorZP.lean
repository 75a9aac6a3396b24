/- Texts that the claim leans on, laid one behind the other: Mn, Mj, Ml, Mo, Ma, Mm, Mc, Mb. -/
import Derived.Test.YtoeimidochjddaaDoorZM
import Derived.Test.YtoeimidochjddaaDoorAp
import Derived.Test.YtoeimidochjddaaDoorBa
import Derived.Test.YtoeimidochjddaaDoorZG
import Derived.Test.YtoeimidochjddaaDoorAt
import Derived.Test.YtoeimidochjddaaDoorZD
import Derived.Test.YtoeimidochjddaaDoorAn
import Derived.WalkMore
import Derived.BigFrame
import Derived.Test.YtoeimidochjddaaDoorZB
import Derived.Test.YtoeimidochjddaaDoorAs
import Derived.Test.YtoeimidochjddaaDoorAu
set_option linter.unusedSimpArgs false
set_option linter.unusedVariables false
set_option linter.unnecessarySimpa false
/- Contract: the reference's Insert. -/
namespace Go.Proofs.YtoeimidochjddaaDoor
open Go.RowKit
/-- An expression's box. -/
abbrev bxE (e : Ex) : Blk := ⟨0, true, 53, 5, [[aI .i64 e.op, aI .u32 e.n, aI .i64 e.v, aI .i64 e.wd, .d (.sl 5 (Ex.ds e.l))]]⟩
end Go.Proofs.YtoeimidochjddaaDoor

/- Contract: il.Size, by il.visit with a closure that counts. -/
namespace Go.Proofs.YtoeimidochjddaaDoor
open Go.RowKit
abbrev cellI (n : Int) : Blk := ⟨0, true, 3, 1, [[aI .i64 n]]⟩
end Go.Proofs.YtoeimidochjddaaDoor

/- Contracts: the closures of il.Fresh, il.visit with them. -/
namespace Go.Proofs.YtoeimidochjddaaDoor
open Go.RowKit
abbrev cellF : Blk := ⟨0, true, 81, 1, [[.fn 31 [] [.ptr 1 0 0 0]]]⟩
/-- The first variable that is not used, after one more. -/
def seeI (n v : Int) : Int := if n ≤ v then (if 65535 < v then 65535 else v) + 1 else n
def seeE (n : Int) : Ex → Int
  | .mk o _ w _ l => seeEs (if o = 2 then seeI n w else n) l
where seeEs (n : Int) : List Ex → Int
  | [] => n
  | e :: l => seeEs (seeE n e) l
theorem seeI_range {n v : Int} (h0 : 0 ≤ n) (h1 : n ≤ 65536) : 0 ≤ seeI n v ∧ seeI n v ≤ 65536 := by
  unfold seeI
  split
  · split <;> omega
  · omega
theorem fresh1_ac (b0 b2 : Blk) (v n : Int) (N : AHeap) (h0 : 0 ≤ n) (h1 : n ≤ 65536) : AC Tryd.prog 31 [aI .i64 v, .ptr 1 0 0 0] (b0 :: cellI n :: b2 :: N) (fun r A' => r = .tup [] ∧ ∃ N', A' = b0 :: cellI (seeI n v) :: b2 :: (N ++ N')) := by
  refine ac_of Tryd.func31 rfl (by kernel_rfl) (by simp [Tryd.ntmps31]) fun hb => ?_
  have hr := seeI_range (v := v) h0 h1
  unfold seeI at *
  by_cases h : n ≤ v
  · rw [if_pos h] at hr ⊢
    simp [Tryd.f31, h]
    refine aRaw_min (k := .i64) (k' := .i64) (a := v) (b := 65535) (by simp) (by simp) ?_
    generalize (if 65535 < v then (65535 : Int) else v) = m at *
    simp [i64w (n := m + 1) (by omega)]
  · simp [Tryd.f31, h]
theorem fresh2_ac (x : Ex) (b0 : Blk) (n : Int) (N : AHeap) (h0 : 0 ≤ n) (h1 : n ≤ 65536) : AC Tryd.prog 33 [exA x, .ptr 2 0 0 0] (b0 :: cellI n :: cellF :: N) (fun r A' => r = .tup [] ∧ ∃ N', A' = b0 :: cellI (if x.op = 2 then seeI n x.v else n) :: cellF :: (N ++ N')) := by
  refine ac_of Tryd.func33 rfl (by kernel_rfl) (by simp [Tryd.ntmps33]) fun hb => ?_
  by_cases h : x.op = 2
  · simp [Tryd.f33, h]
    refine aCall_ofc (fresh1_ac b0 cellF x.v n _ h0 h1) (by simp) ?_
    rintro _ _ ⟨rfl, N1, rfl⟩
    simp
  · simp [Tryd.f33, h]
theorem seeE_range : ∀ (x : Ex) (n : Int), 0 ≤ n → n ≤ 65536 → 0 ≤ seeE n x ∧ seeE n x ≤ 65536 := by
  intro x
  induction x using Ex.ind with
  | h x ih =>
  obtain ⟨o, k, w, wd, l⟩ := x
  intro n h0 h1
  have hl : ∀ l : List Ex, (∀ x ∈ l, ∀ (n : Int), 0 ≤ n → n ≤ 65536 → 0 ≤ seeE n x ∧ seeE n x ≤ 65536) → ∀ n : Int, 0 ≤ n → n ≤ 65536 → 0 ≤ seeE.seeEs n l ∧ seeE.seeEs n l ≤ 65536 := by
    intro l
    induction l with
    | nil => intro _ n h0 h1; simp only [seeE.seeEs]; omega
    | cons a l ihl =>
      intro h n h0 h1
      have := h a (by simp) n h0 h1
      simp only [seeE.seeEs]
      exact ihl (fun x hx => h x (by simp [hx])) _ this.1 this.2
  simp only [seeE]
  have hr := seeI_range (v := w) h0 h1
  split
  · exact hl l ih _ hr.1 hr.2
  · exact hl l ih _ h0 h1
theorem seeEs_take {l : List Ex} {i : Nat} {x : Ex} (h : l[i]? = some x) (n : Int) : seeE.seeEs n (l.take (i + 1)) = seeE (seeE.seeEs n (l.take i)) x := by
  induction l generalizing i n with
  | nil => simp at h
  | cons a l ih =>
    cases i with
    | zero => simp at h; subst h; simp [seeE.seeEs]
    | succ i => simp only [List.take_succ_cons, seeE.seeEs, ih (by simpa using h)]
theorem seeEs_range : ∀ (l : List Ex) (n : Int), 0 ≤ n → n ≤ 65536 → 0 ≤ seeE.seeEs n l ∧ seeE.seeEs n l ≤ 65536
  | [], n, h0, h1 => by simp only [seeE.seeEs]; omega
  | a :: l, n, h0, h1 => by
    have := seeE_range a n h0 h1
    simp only [seeE.seeEs]
    exact seeEs_range l _ this.1 this.2
theorem visitF_ac : ∀ (x : Ex) (b0 : Blk) (n : Int) (N : AHeap), 0 ≤ n → n ≤ 65536 → x.nodes ≤ 1000000000 →
    AC Tryd.prog 32 [exA x, .fn 33 [] [.ptr 2 0 0 0]] (b0 :: cellI n :: cellF :: N) (fun r A' => r = .tup [] ∧ ∃ N', A' = b0 :: cellI (seeE n x) :: cellF :: (N ++ N')) := by
  intro x
  induction x using Ex.ind with
  | h x ih =>
    intro b0 n N h0 h1 hn
    have hlen := x.nodes_len
    have n1 : x.l.length ≤ maxLen := by unfold maxLen; omega
    have hne : seeE n x = seeE.seeEs (if x.op = 2 then seeI n x.v else n) x.l := by cases x; rfl
    rw [hne]
    have hr : 0 ≤ (if x.op = 2 then seeI n x.v else n) ∧ (if x.op = 2 then seeI n x.v else n) ≤ 65536 := by
      split
      · exact seeI_range h0 h1
      · omega
    have c2 := fun N => fresh2_ac x b0 n N h0 h1
    generalize (if x.op = 2 then seeI n x.v else n) = m at *
    refine ac_of Tryd.func32 rfl (by kernel_rfl) (by simp [Tryd.ntmps32]) fun hb => ?_
    simp [Tryd.f32]
    refine aCall_ofc (c2 _) (by simp) ?_
    rintro _ _ ⟨rfl, N1, rfl⟩
    simp
    refine aLoop_of (α := Nat) (fun i e A => i ≤ x.l.length ∧ (∃ N', A = b0 :: cellI (seeE.seeEs m (x.l.take i)) :: cellF :: (N ++ N')) ∧
      e 12 = aI .i64 i ∧ e 11 = aI .i64 x.l.length ∧ e 10 = .d (.sl 5 (Ex.ds x.l)) ∧ e 1 = .fn 33 [] [.ptr 2 0 0 0]) (fun i => x.l.length - i) 0 (Sub.refl _ _ _)
      ⟨by omega, ⟨_, by simp [seeE.seeEs]; rfl⟩, by simp, by simp, by simp, by simp⟩ ?_
    rintro i e A ⟨hi, ⟨N', rfl⟩, e12, e11, e10, e1⟩ K hK
    rcases Nat.lt_or_ge i x.l.length with hlt | hge
    case inr =>
      obtain rfl : i = x.l.length := by omega
      rw [List.take_length]
      simp [e12, e11]
    obtain ⟨y, hy⟩ : ∃ y, x.l[i]? = some y := ⟨_, List.getElem?_eq_getElem hlt⟩
    have hy2 := (List.getElem?_eq_some_iff.1 hy).2
    have hm := Ex.nodes_mem (List.mem_of_getElem? hy)
    have ht := seeEs_take hy m
    have hrr := seeEs_range (x.l.take i) m hr.1 hr.2
    rw [show x.l.take (i + 1) = x.l.take (i + 1) from rfl] at ht
    generalize hq : seeE.seeEs m (x.l.take i) = q at *
    simp [e12, e11, e10, e1, hlt, hy, hy2, Ex.d_eq]
    refine aCall_ofc (ih y (List.mem_of_getElem? hy) b0 q _ hrr.1 hrr.2 (by omega)) (by simp) ?_
    rintro _ _ ⟨rfl, N2, rfl⟩
    simp [e12, succ_wrap hlt n1]
    refine hK (i + 1) _ _ _ _ (Sub.refl _ _ _) ⟨by omega, ⟨_, by rw [ht]⟩, by simp, by simp [e11], by simp [e10], by simp [e1]⟩ (by omega)
end Go.Proofs.YtoeimidochjddaaDoor

/- The variables of an expression: in the order in which they stand; ascending, each once. No program in sight. -/
namespace Go.Proofs.YtoeimidochjddaaDoor
open Go.RowKit
end Go.Proofs.YtoeimidochjddaaDoor

/- Contract: math/bits.TrailingZeros64(16), off the table that the row lists; the calls that the example of layer 19 takes by contract. -/
namespace Go.Proofs.YtoeimidochjddaaDoor
open Go.RowKit
theorem tz64_16 (w : World) (hG : GbIs w) : Calls Tryd.prog 96 #[.int .u64 16] w fun e w' => e = .returned (.int .i64 4) ∧ w' = w := by
  have hc : w.cell? ⟨3, 15, none⟩ = some (.int .u8 4) := (hG (3, deB64.map fun z => Value.int .u8 z) (by simp [GB])).2.1 15 _ (by simp [deB64])
  have hi : IntKind.u64.wrap (bits BinOp.and IntKind.u64 16 (IntKind.u64.wrap (-16)) * 285870213051353865) / 288230376151711744 = 15 := by decide +kernel
  go_enter Tryd.func96, Tryd.ntmps96
  go_wp2
  · go_ret
    exact ⟨rfl, rfl⟩
theorem tz64_af : AF Tryd.prog 96 [aI .u64 16] (aI .i64 4) := by
  intro H w vs hH hs hm
  simp only [ShpL] at hs
  obtain ⟨u1, l1, rfl, s1, rfl⟩ := hs
  simp only [Shp] at s1
  subst s1
  refine (tz64_16 w hH.2.1).mono ?_
  rintro en w' ⟨rfl, rfl⟩
  exact ⟨_, rfl, ⟨by simp [Shp], by simp [Mem, Rd, Value.oneCell']⟩, Ext.refl _⟩
/-- Strings, out of a slice's elements. -/
def strsOf : List (List D) → Option (List ByteArray)
  | [] => some []
  | [.v (.string s)] :: l => (strsOf l).map (s :: ·)
  | _ :: _ => none
theorem strsOf_spec : ∀ {l : List (List D)} {m : List ByteArray}, strsOf l = some m → l = strs m
  | [], m, h => by simp [strsOf] at h; subst h; rfl
  | [.v (.string s)] :: l, m, h => by
    simp only [strsOf, Option.map_eq_some_iff] at h
    obtain ⟨m', h', rfl⟩ := h
    rw [strsOf_spec h']
    rfl
/-- The calls that are taken by contract. -/
def orc19 : XF := fun f args A =>
  if f = 37 then (match omap (reiV false A 9) args with
    | some [.d (.sl 1 xs)] => (match strsOf xs with
      | some l => if (l.flatMap fun x => x.data.toList).length ≤ 1000000000 ∧ l.length ≤ 1000000000 then some (aS (cat l), A) else none
      | none => none)
    | _ => none)
  else if f = 23 then (match args with
    | [.d (.v (.int .i64 (.ofNat n)))] => if n < 10 then some (aS ⟨#[UInt8.ofNat (48 + n)]⟩, A) else none
    | _ => none)
  else if f = 96 then (match args with
    | [.d (.v (.int .u64 n))] => if n = 16 then some (aI .i64 4, A) else none
    | _ => none)
  else none
theorem orc19_ok : XFok Tryd.prog orc19 := by
  intro f args A r A' h
  unfold orc19 at h
  split at h
  · rename_i hf
    subst hf
    split at h
    · rename_i xs h0
      split at h
      · rename_i l hl
        split at h
        · rename_i hc
          simp only [Option.some.injEq, Prod.mk.injEq] at h
          obtain ⟨rfl, rfl⟩ := h
          obtain rfl := strsOf_spec hl
          exact ⟨by kernel_rfl, AF.acs (iljoin_af l hc.1 hc.2) (by rw [h0]; exact NLeL.refl _) rfl⟩
        · cases h
      · cases h
    · cases h
  · split at h
    · rename_i hf
      subst hf
      split at h
      · rename_i n
        split at h
        · rename_i hn
          simp only [Option.some.injEq, Prod.mk.injEq] at h
          obtain ⟨rfl, rfl⟩ := h
          have h1 := itoa_af n (by omega)
          have h2 : Lib.decDigits n = [UInt8.ofNat (48 + n)] := by rw [Lib.decDigits]; simp; omega
          rw [h2] at h1
          exact ⟨by kernel_rfl, AF.acs h1 (by simp [omap, reiV, argO]) rfl⟩
        · cases h
      · cases h
    · split at h
      · rename_i hf
        subst hf
        split at h
        · split at h
          · rename_i hn
            subst hn
            simp only [Option.some.injEq, Prod.mk.injEq] at h
            obtain ⟨rfl, rfl⟩ := h
            exact ⟨by kernel_rfl, AF.acs tz64_af (by simp [omap, reiV, argO]) rfl⟩
          · cases h
        · cases h
      · cases h
end Go.Proofs.YtoeimidochjddaaDoor

/- Contract: il.Fresh. -/
namespace Go.Proofs.YtoeimidochjddaaDoor
open Go.RowKit
def seeS (n : Int) (s : St) : Int := seeE.seeEs (if s.op = 1 ∨ s.op = 3 then seeI n s.va else n) s.e
def seeB (n : Int) (b : Bl) : Int := b.s.foldl seeS n
def seeG (g : Gr) : Int := g.b.foldl seeB 12
theorem seeS_range (s : St) (n : Int) (h0 : 0 ≤ n) (h1 : n ≤ 65536) : 0 ≤ seeS n s ∧ seeS n s ≤ 65536 := by
  unfold seeS
  have := seeI_range (v := s.va) h0 h1
  split
  · exact seeEs_range _ _ this.1 this.2
  · exact seeEs_range _ _ h0 h1
theorem foldl_range {α : Type} {f : Int → α → Int} (hf : ∀ (a : α) (n : Int), 0 ≤ n → n ≤ 65536 → 0 ≤ f n a ∧ f n a ≤ 65536) : ∀ (l : List α) (n : Int), 0 ≤ n → n ≤ 65536 → 0 ≤ l.foldl f n ∧ l.foldl f n ≤ 65536
  | [], n, h0, h1 => ⟨h0, h1⟩
  | a :: l, n, h0, h1 => by
    have := hf a n h0 h1
    exact foldl_range hf l _ this.1 this.2
theorem foldl_take {α : Type} {f : Int → α → Int} {l : List α} {i : Nat} {x : α} (h : l[i]? = some x) (n : Int) : (l.take (i + 1)).foldl f n = f ((l.take i).foldl f n) x := by
  rw [List.take_add_one, h]
  simp
theorem ilfresh_af (g : Gr) (hg : GrFit g) (hn : ∀ b ∈ g.b, ∀ s ∈ b.s, ∀ e ∈ s.e, e.nodes ≤ 1000000000) : AF Tryd.prog 17 [grV g] (aI .i64 (seeG g)) := by
  have hg1 := hg.1
  have hl : g.b.length ≤ maxLen := by unfold maxLen; omega
  refine af_of Tryd.func17 rfl (by kernel_rfl) (by simp [Tryd.ntmps17]) fun _ => ?_; simp [Tryd.f17, Ex.d_eq]
  refine aLoop_st (fun i : Nat => [(3, .ptr 1 0 0 0), (4, .ptr 2 0 0 0), (13, .d (.sl 2 (bls' g.b))), (14, aI .i64 g.b.length), (15, aI .i64 i)])
    (fun i => [gB g, cellI ((g.b.take i).foldl seeB 12), cellF])
    (fun i => i ≤ g.b.length) (fun i => g.b.length - i) 0 (Sub.refl _ _ _) 3 (by omega) (by simp) (by simp) (by omega) ?_
  rintro i hi K hK
  rcases Nat.lt_or_ge i g.b.length with hlt | hge
  case inr =>
    obtain rfl : i = g.b.length := by omega
    rw [List.take_length]
    simp [seeG]
  obtain ⟨b, hb⟩ : ∃ b, g.b[i]? = some b := ⟨_, List.getElem?_eq_getElem hlt⟩
  have hb2 := (List.getElem?_eq_some_iff.1 hb).2
  obtain ⟨f1, f2⟩ := hg.2 b (List.mem_of_getElem? hb)
  have hbl : b.s.length ≤ maxLen := by unfold maxLen; omega
  have htb := foldl_take (f := seeB) hb 12
  have hrb := foldl_range (f := seeB) (fun b n h0 h1 => foldl_range seeS_range b.s n h0 h1) (g.b.take i) 12 (by omega) (by omega)
  generalize (g.b.take i).foldl seeB 12 = m1 at *
  simp [hlt, hb, hb2, Bl.d_eq]
  refine aLoop_st (fun k : Nat => [(3, .ptr 1 0 0 0), (4, .ptr 2 0 0 0), (13, .d (.sl 2 (bls' g.b))), (14, aI .i64 g.b.length), (15, aI .i64 i), (20, .d (.sl 8 (sts b.s))), (21, aI .i64 b.s.length), (22, aI .i64 k)])
    (fun k => [gB g, cellI ((b.s.take k).foldl seeS m1), cellF])
    (fun k => k ≤ b.s.length) (fun k => b.s.length - k) 0 (Sub.refl _ _ _) 3 (by omega) (by simp) (by simp) (by omega) ?_
  rintro k hk K2 hK2
  rcases Nat.lt_or_ge k b.s.length with hlt2 | hge2
  case inr =>
    obtain rfl : k = b.s.length := by omega
    rw [List.take_length]
    simp [succ_wrap hlt hl]
    refine hK (i + 1) (by omega) (by omega) (Sub.refl _ _ _) 3 (by omega) ?_ (by simp)
    rw [htb]
    simp [seeB]
  obtain ⟨s, hs⟩ : ∃ s, b.s[k]? = some s := ⟨_, List.getElem?_eq_getElem hlt2⟩
  have hs2 := (List.getElem?_eq_some_iff.1 hs).2
  have f3 := f2 s (List.mem_of_getElem? hs)
  have hel : s.e.length ≤ maxLen := by unfold maxLen; omega
  have hts := foldl_take (f := seeS) hs m1
  have hrs := foldl_range seeS_range (b.s.take k) m1 hrb.1 hrb.2
  generalize (b.s.take k).foldl seeS m1 = m2 at *
  have hne : seeS m2 s = seeE.seeEs (if s.op = 1 ∨ s.op = 3 then seeI m2 s.va else m2) s.e := rfl
  have hr : 0 ≤ (if s.op = 1 ∨ s.op = 3 then seeI m2 s.va else m2) ∧ (if s.op = 1 ∨ s.op = 3 then seeI m2 s.va else m2) ≤ 65536 := by
    split
    · exact seeI_range hrs.1 hrs.2
    · omega
  have c1 := fun N => fresh1_ac (gB g) cellF s.va m2 N hrs.1 hrs.2
  have hw : s.op = 1 ∨ s.op ≠ 1 ∧ s.op = 3 ∨ s.op ≠ 1 ∧ s.op ≠ 3 := by omega
  have hm3 : (s.op = 1 ∨ s.op = 3 → (if s.op = 1 ∨ s.op = 3 then seeI m2 s.va else m2) = seeI m2 s.va) ∧ (¬ (s.op = 1 ∨ s.op = 3) → (if s.op = 1 ∨ s.op = 3 then seeI m2 s.va else m2) = m2) := ⟨fun h => if_pos h, fun h => if_neg h⟩
  generalize (if s.op = 1 ∨ s.op = 3 then seeI m2 s.va else m2) = m3 at *
  rcases hw with w1 | ⟨w1, w3⟩ | ⟨w1, w3⟩
  · simp [hlt2, hs, hs2, St.d_eq, w1]
    refine aCall_ofc (c1 _) (by simp) ?_
    rintro _ _ ⟨rfl, N1, rfl⟩
    simp
    have hv := hm3.1 (.inl w1)
    refine aLoop_st (fun q : Nat => [(3, .ptr 1 0 0 0), (4, .ptr 2 0 0 0), (13, .d (.sl 2 (bls' g.b))), (14, aI .i64 g.b.length), (15, aI .i64 i), (20, .d (.sl 8 (sts b.s))), (21, aI .i64 b.s.length), (22, aI .i64 k), (39, .d (.sl 5 (Ex.ds s.e))), (40, aI .i64 s.e.length), (41, aI .i64 q)])
      (fun q => [gB g, cellI (seeE.seeEs m3 (s.e.take q)), cellF])
      (fun q => q ≤ s.e.length) (fun q => s.e.length - q) 0 (Sub.refl _ _ _) 3 (by omega) (by simp [seeE.seeEs]; try rw [hv]) (by simp) (by omega) ?_
    rintro q hq K3 hK3
    rcases Nat.lt_or_ge q s.e.length with hlt3 | hge3
    case inr =>
      obtain rfl : q = s.e.length := by omega
      rw [List.take_length]
      simp [succ_wrap hlt2 hbl]
      refine hK2 (k + 1) (by omega) (by omega) (Sub.refl _ _ _) 3 (by omega) ?_ (by simp)
      rw [hts, hne]
      simp
    obtain ⟨y, hy⟩ : ∃ y, s.e[q]? = some y := ⟨_, List.getElem?_eq_getElem hlt3⟩
    have hy2 := (List.getElem?_eq_some_iff.1 hy).2
    have hte := seeEs_take hy m3
    have hre := seeEs_range (s.e.take q) m3 hr.1 hr.2
    generalize seeE.seeEs m3 (s.e.take q) = m4 at *
    simp [hlt3, hy, hy2, Ex.d_eq]
    refine aCall_ofc (visitF_ac y (gB g) m4 _ hre.1 hre.2 (hn b (List.mem_of_getElem? hb) s (List.mem_of_getElem? hs) y (List.mem_of_getElem? hy))) (by simp) ?_
    rintro _ _ ⟨rfl, N2, rfl⟩
    simp [succ_wrap hlt3 hel]
    refine hK3 (q + 1) (by omega) (by omega) (Sub.refl _ _ _) 3 (by omega) ?_ (by simp)
    rw [hte]
    simp
  · simp [hlt2, hs, hs2, St.d_eq, w1, w3]
    refine aCall_ofc (c1 _) (by simp) ?_
    rintro _ _ ⟨rfl, N1, rfl⟩
    simp
    have hv := hm3.1 (.inr w3)
    refine aLoop_st (fun q : Nat => [(3, .ptr 1 0 0 0), (4, .ptr 2 0 0 0), (13, .d (.sl 2 (bls' g.b))), (14, aI .i64 g.b.length), (15, aI .i64 i), (20, .d (.sl 8 (sts b.s))), (21, aI .i64 b.s.length), (22, aI .i64 k), (39, .d (.sl 5 (Ex.ds s.e))), (40, aI .i64 s.e.length), (41, aI .i64 q)])
      (fun q => [gB g, cellI (seeE.seeEs m3 (s.e.take q)), cellF])
      (fun q => q ≤ s.e.length) (fun q => s.e.length - q) 0 (Sub.refl _ _ _) 3 (by omega) (by simp [seeE.seeEs]; try rw [hv]) (by simp) (by omega) ?_
    rintro q hq K3 hK3
    rcases Nat.lt_or_ge q s.e.length with hlt3 | hge3
    case inr =>
      obtain rfl : q = s.e.length := by omega
      rw [List.take_length]
      simp [succ_wrap hlt2 hbl]
      refine hK2 (k + 1) (by omega) (by omega) (Sub.refl _ _ _) 3 (by omega) ?_ (by simp)
      rw [hts, hne]
      simp
    obtain ⟨y, hy⟩ : ∃ y, s.e[q]? = some y := ⟨_, List.getElem?_eq_getElem hlt3⟩
    have hy2 := (List.getElem?_eq_some_iff.1 hy).2
    have hte := seeEs_take hy m3
    have hre := seeEs_range (s.e.take q) m3 hr.1 hr.2
    generalize seeE.seeEs m3 (s.e.take q) = m4 at *
    simp [hlt3, hy, hy2, Ex.d_eq]
    refine aCall_ofc (visitF_ac y (gB g) m4 _ hre.1 hre.2 (hn b (List.mem_of_getElem? hb) s (List.mem_of_getElem? hs) y (List.mem_of_getElem? hy))) (by simp) ?_
    rintro _ _ ⟨rfl, N2, rfl⟩
    simp [succ_wrap hlt3 hel]
    refine hK3 (q + 1) (by omega) (by omega) (Sub.refl _ _ _) 3 (by omega) ?_ (by simp)
    rw [hte]
    simp
  · simp [hlt2, hs, hs2, St.d_eq, w1, w3]
    have hv := hm3.2 (by omega)
    refine aLoop_st (fun q : Nat => [(3, .ptr 1 0 0 0), (4, .ptr 2 0 0 0), (13, .d (.sl 2 (bls' g.b))), (14, aI .i64 g.b.length), (15, aI .i64 i), (20, .d (.sl 8 (sts b.s))), (21, aI .i64 b.s.length), (22, aI .i64 k), (39, .d (.sl 5 (Ex.ds s.e))), (40, aI .i64 s.e.length), (41, aI .i64 q)])
      (fun q => [gB g, cellI (seeE.seeEs m3 (s.e.take q)), cellF])
      (fun q => q ≤ s.e.length) (fun q => s.e.length - q) 0 (Sub.refl _ _ _) 3 (by omega) (by simp [seeE.seeEs]; try rw [hv]) (by simp) (by omega) ?_
    rintro q hq K3 hK3
    rcases Nat.lt_or_ge q s.e.length with hlt3 | hge3
    case inr =>
      obtain rfl : q = s.e.length := by omega
      rw [List.take_length]
      simp [succ_wrap hlt2 hbl]
      refine hK2 (k + 1) (by omega) (by omega) (Sub.refl _ _ _) 3 (by omega) ?_ (by simp)
      rw [hts, hne]
      simp
    obtain ⟨y, hy⟩ : ∃ y, s.e[q]? = some y := ⟨_, List.getElem?_eq_getElem hlt3⟩
    have hy2 := (List.getElem?_eq_some_iff.1 hy).2
    have hte := seeEs_take hy m3
    have hre := seeEs_range (s.e.take q) m3 hr.1 hr.2
    generalize seeE.seeEs m3 (s.e.take q) = m4 at *
    simp [hlt3, hy, hy2, Ex.d_eq]
    refine aCall_ofc (visitF_ac y (gB g) m4 _ hre.1 hre.2 (hn b (List.mem_of_getElem? hb) s (List.mem_of_getElem? hs) y (List.mem_of_getElem? hy))) (by simp) ?_
    rintro _ _ ⟨rfl, N2, rfl⟩
    simp [succ_wrap hlt3 hel]
    refine hK3 (q + 1) (by omega) (by omega) (Sub.refl _ _ _) 3 (by omega) ?_ (by simp)
    rw [hte]
    simp
end Go.Proofs.YtoeimidochjddaaDoor

/- Contracts: il.Load, il.Replace. -/
namespace Go.Proofs.YtoeimidochjddaaDoor
open Go.RowKit
theorem load_af (n : Int) (a : Ex) (ha : a.nodes ≤ 1000000000) : AF Tryd.prog 10 [aI .i64 n, exA a] (exA (.mk 18 0 0 n [a])) := by
  refine af_of Tryd.func10 rfl (by kernel_rfl) (by simp [Tryd.ntmps10]) fun _ => ?_
  simp [Tryd.f10]
  refine aCall_of (own_af a ha) (by simp) (by simp [Ex.d_eq]) ?_
  simp [Ex.d_eq]
end Go.Proofs.YtoeimidochjddaaDoor

/- Contract: the example of layer 19 holds. -/
namespace Go.Proofs.YtoeimidochjddaaDoor
open Go.RowKit
end Go.Proofs.YtoeimidochjddaaDoor
