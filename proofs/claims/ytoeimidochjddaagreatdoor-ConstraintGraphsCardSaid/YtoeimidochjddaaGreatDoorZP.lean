/- Texts that the claim leans on, laid one behind the other: Mn, Mj, Ml, Mo, Ma, Mm, Mp, Mq, Mc, Mb. -/
import Derived.Test.YtoeimidochjddaaGreatDoorZM
import Derived.Test.YtoeimidochjddaaGreatDoorAp
import Derived.Test.YtoeimidochjddaaGreatDoorBa
import Derived.Test.YtoeimidochjddaaGreatDoorZG
import Derived.Test.YtoeimidochjddaaGreatDoorAt
import Derived.Test.YtoeimidochjddaaGreatDoorZD
import Derived.Test.YtoeimidochjddaaGreatDoorAn
import Derived.WalkMore
import Derived.BigFrame
import Derived.Test.YtoeimidochjddaaGreatDoorZB
import Derived.Test.YtoeimidochjddaaGreatDoorAs
import Derived.Test.YtoeimidochjddaaGreatDoorAu
set_option linter.unusedSimpArgs false
set_option linter.unusedVariables false
set_option linter.unnecessarySimpa false
/- Contract: the reference's Insert. -/
namespace Go.Proofs.YtoeimidochjddaaGreatDoor
open Go.RowKit
/-- An expression's box. -/
abbrev bxE (e : Ex) : Blk := ⟨0, true, 42, 5, [[aI .i64 e.op, aI .u32 e.n, aI .i64 e.v, aI .i64 e.wd, .d (.sl 5 (Ex.ds e.l))]]⟩
/-- How many numbers stand ahead of n. -/
def lowN (n : Int) : List Int → Nat
  | [] => 0
  | a :: l => if a < n then lowN n l + 1 else 0
/-- A number put into an ascending list. -/
def insL (l : List Int) (n : Int) : List Int := if l[lowN n l]? = some n then l else l.take (lowN n l) ++ n :: l.drop (lowN n l)
theorem lowN_spec (n : Int) : ∀ l : List Int, lowN n l ≤ l.length ∧ (∀ (i : Nat) (a : Int), i < lowN n l → l[i]? = some a → a < n) ∧ ∀ a, l[lowN n l]? = some a → n ≤ a
  | [] => by simp [lowN]
  | b :: l => by
    obtain ⟨h1, h2, h3⟩ := lowN_spec n l
    by_cases h : b < n
    · simp only [lowN, if_pos h]
      refine ⟨by simp; omega, fun i a hi ha => ?_, fun a ha => h3 a (by simpa using ha)⟩
      cases i with
      | zero => simp at ha; omega
      | succ i => exact h2 i a (by omega) (by simpa using ha)
    · simp only [lowN, if_neg h]
      refine ⟨by omega, fun i a hi => by omega, fun a ha => by simp at ha; omega⟩
theorem i64s_take (l : List Int) (n : Nat) : (i64s l).take n = i64s (l.take n) := by simp [i64s]
theorem i64s_drop (l : List Int) (n : Nat) : (i64s l).drop n = i64s (l.drop n) := by simp [i64s]
theorem dEls_i64 (l : List Int) : (∀ x, x ∈ dEls (i64s l) → x.length = 1) ↔ True := by
  refine iff_true_intro fun x hx => ?_
  simp only [dEls, i64s, List.map_map, List.mem_map] at hx
  obtain ⟨n, _, rfl⟩ := hx
  rfl
theorem r19insert_af (l : List Int) (n : Int) (hl : l.length ≤ 1000000) : AF Tryz.prog 162 [.d (.sl 1 (i64s l)), aI .i64 n] (.d (.sl 1 (i64s (insL l n)))) := by
  have hlm : l.length ≤ maxLen := by unfold maxLen; omega
  obtain ⟨h1, h2, h3⟩ := lowN_spec n l
  unfold insL
  generalize lowN n l = k at *
  refine af_of Tryz.func162 rfl (by kernel_rfl) (by simp [Tryz.ntmps162]) fun _ => ?_; simp [Tryz.f162, Ex.d_eq]
  refine aLoop_st (fun i : Nat => [(0, .d (.sl 1 (i64s l))), (1, aI .i64 n), (5, aI .i64 i)]) (fun _ => []) (fun i => i ≤ k) (fun i => k - i) 0 (Sub.refl _ _ _) 0 (by omega) (by simp) (by simp) (by omega) ?_
  rintro i hi K hK
  rcases Nat.lt_or_ge i k with hlt | hge
  case inl =>
    obtain ⟨a, ha⟩ : ∃ a, l[i]? = some a := ⟨_, List.getElem?_eq_getElem (by omega)⟩
    have ha2 := (List.getElem?_eq_some_iff.1 ha).2
    have hlt' : i < l.length := by omega
    have := h2 i a hlt ha
    simp [hlt', ha, ha2, this, succ_wrap hlt' hlm]
    exact hK (i + 1) (by omega) (by omega) (Sub.refl _ _ _) 0 (by omega) (by simp) (by simp)
  obtain rfl : i = k := by omega
  rcases Nat.lt_or_ge i l.length with hlt | hge2
  · obtain ⟨a, ha⟩ : ∃ a, l[i]? = some a := ⟨_, List.getElem?_eq_getElem hlt⟩
    have ha2 := (List.getElem?_eq_some_iff.1 ha).2
    have hle := h3 a ha
    rw [ha]
    simp [hlt, ha, ha2, show ¬ a < n by omega]
    by_cases hn : a = n
    · simp [hn]
    · simp [hn, h1, i64s_take]
      refine aRaw_app byt_27 ?_
      simp [h1, dEls_i64]
      refine ⟨by unfold maxLen; omega, by omega, ?_⟩
      refine aRaw_app byt_27 ?_
      simp [h1, dEls_i64]
      refine ⟨by unfold maxLen; omega, by omega, ?_⟩
      refine aRaw_app byt_27 ?_
      simp [h1, dEls_i64, i64s_drop]
      refine ⟨by unfold maxLen; omega, by omega, ?_⟩
      rw [if_pos (by omega)]
      have he : dEls (i64s (List.take i l)) ++ [AV.d (D.v (Value.int IntKind.i64 n))] :: dEls (i64s (List.drop i l)) = dEls (i64s (l.take i ++ n :: l.drop i)) := by simp
      have ht : List.take (i + 1 + (l.length - i)) (dEls (i64s (List.take i l)) ++ [AV.d (D.v (Value.int IntKind.i64 n))] :: dEls (i64s (List.drop i l))) = dEls (i64s (l.take i ++ n :: l.drop i)) := by
        rw [he]
        exact List.take_of_length_le (by simp; omega)
      rw [ht, omap_dEls]
      simp
  · have hn : l[i]? = none := List.getElem?_eq_none hge2
    obtain rfl : i = l.length := by omega
    rw [hn]
    simp
    refine aRaw_app byt_27 ?_
    simp [dEls_i64]
    refine ⟨by unfold maxLen; omega, by omega, ?_⟩
    refine aRaw_app byt_27 ?_
    simp [dEls_i64]
    refine ⟨by unfold maxLen; omega, by omega, ?_⟩
    refine aRaw_app byt_27 ?_
    have hd : List.drop l.length (i64s l) = [] := by simp
    simp [dEls_i64, hd]
    have he : dEls (i64s l) ++ [[AV.d (D.v (Value.int IntKind.i64 n))]] = dEls (i64s (l ++ [n])) := by simp
    have ht : List.take (l.length + 1) (dEls (i64s l) ++ [[AV.d (D.v (Value.int IntKind.i64 n))]]) = dEls (i64s (l ++ [n])) := by
      rw [he]
      exact List.take_of_length_le (by simp)
    rw [ht, omap_dEls]
    simp
    unfold maxLen
    omega
end Go.Proofs.YtoeimidochjddaaGreatDoor

/- Contract: il.Size, by il.visit with a closure that counts. -/
namespace Go.Proofs.YtoeimidochjddaaGreatDoor
open Go.RowKit
abbrev cellI (n : Int) : Blk := ⟨0, true, 3, 1, [[aI .i64 n]]⟩
end Go.Proofs.YtoeimidochjddaaGreatDoor

/- Contracts: the closures of il.Fresh, il.visit with them. -/
namespace Go.Proofs.YtoeimidochjddaaGreatDoor
open Go.RowKit
abbrev cellF : Blk := ⟨0, true, 143, 1, [[.fn 77 [] [.ptr 1 0 0 0]]]⟩
/-- The first variable that is not used, after one more. -/
def seeI (n v : Int) : Int := if n ≤ v then (if 65535 < v then 65535 else v) + 1 else n
def seeE (n : Int) : Ex → Int
  | .mk o _ w _ l => seeEs (if o = 2 then seeI n w else n) l
where seeEs (n : Int) : List Ex → Int
  | [] => n
  | e :: l => seeEs (seeE n e) l
theorem seeI_range {n v : Int} (h0 : 0 ≤ n) (h1 : n ≤ 65536) : 0 ≤ seeI n v ∧ seeI n v ≤ 65536 := by
  unfold seeI
  split
  · split <;> omega
  · omega
theorem fresh1_ac (b0 b2 : Blk) (v n : Int) (N : AHeap) (h0 : 0 ≤ n) (h1 : n ≤ 65536) : AC Tryz.prog 77 [aI .i64 v, .ptr 1 0 0 0] (b0 :: cellI n :: b2 :: N) (fun r A' => r = .tup [] ∧ ∃ N', A' = b0 :: cellI (seeI n v) :: b2 :: (N ++ N')) := by
  refine ac_of Tryz.func77 rfl (by kernel_rfl) (by simp [Tryz.ntmps77]) fun hb => ?_
  have hr := seeI_range (v := v) h0 h1
  unfold seeI at *
  by_cases h : n ≤ v
  · rw [if_pos h] at hr ⊢
    simp [Tryz.f77, h]
    refine aRaw_min (k := .i64) (k' := .i64) (a := v) (b := 65535) (by simp) (by simp) ?_
    generalize (if 65535 < v then (65535 : Int) else v) = m at *
    simp [i64w (n := m + 1) (by omega)]
  · simp [Tryz.f77, h]
theorem fresh2_ac (x : Ex) (b0 : Blk) (n : Int) (N : AHeap) (h0 : 0 ≤ n) (h1 : n ≤ 65536) : AC Tryz.prog 79 [exA x, .ptr 2 0 0 0] (b0 :: cellI n :: cellF :: N) (fun r A' => r = .tup [] ∧ ∃ N', A' = b0 :: cellI (if x.op = 2 then seeI n x.v else n) :: cellF :: (N ++ N')) := by
  refine ac_of Tryz.func79 rfl (by kernel_rfl) (by simp [Tryz.ntmps79]) fun hb => ?_
  by_cases h : x.op = 2
  · simp [Tryz.f79, h]
    refine aCall_ofc (fresh1_ac b0 cellF x.v n _ h0 h1) (by simp) ?_
    rintro _ _ ⟨rfl, N1, rfl⟩
    simp
  · simp [Tryz.f79, h]
theorem seeE_range : ∀ (x : Ex) (n : Int), 0 ≤ n → n ≤ 65536 → 0 ≤ seeE n x ∧ seeE n x ≤ 65536 := by
  intro x
  induction x using Ex.ind with
  | h x ih =>
  obtain ⟨o, k, w, wd, l⟩ := x
  intro n h0 h1
  have hl : ∀ l : List Ex, (∀ x ∈ l, ∀ (n : Int), 0 ≤ n → n ≤ 65536 → 0 ≤ seeE n x ∧ seeE n x ≤ 65536) → ∀ n : Int, 0 ≤ n → n ≤ 65536 → 0 ≤ seeE.seeEs n l ∧ seeE.seeEs n l ≤ 65536 := by
    intro l
    induction l with
    | nil => intro _ n h0 h1; simp only [seeE.seeEs]; omega
    | cons a l ihl =>
      intro h n h0 h1
      have := h a (by simp) n h0 h1
      simp only [seeE.seeEs]
      exact ihl (fun x hx => h x (by simp [hx])) _ this.1 this.2
  simp only [seeE]
  have hr := seeI_range (v := w) h0 h1
  split
  · exact hl l ih _ hr.1 hr.2
  · exact hl l ih _ h0 h1
theorem seeEs_take {l : List Ex} {i : Nat} {x : Ex} (h : l[i]? = some x) (n : Int) : seeE.seeEs n (l.take (i + 1)) = seeE (seeE.seeEs n (l.take i)) x := by
  induction l generalizing i n with
  | nil => simp at h
  | cons a l ih =>
    cases i with
    | zero => simp at h; subst h; simp [seeE.seeEs]
    | succ i => simp only [List.take_succ_cons, seeE.seeEs, ih (by simpa using h)]
theorem seeEs_range : ∀ (l : List Ex) (n : Int), 0 ≤ n → n ≤ 65536 → 0 ≤ seeE.seeEs n l ∧ seeE.seeEs n l ≤ 65536
  | [], n, h0, h1 => by simp only [seeE.seeEs]; omega
  | a :: l, n, h0, h1 => by
    have := seeE_range a n h0 h1
    simp only [seeE.seeEs]
    exact seeEs_range l _ this.1 this.2
theorem visitF_ac : ∀ (x : Ex) (b0 : Blk) (n : Int) (N : AHeap), 0 ≤ n → n ≤ 65536 → x.nodes ≤ 1000000000 →
    AC Tryz.prog 78 [exA x, .fn 79 [] [.ptr 2 0 0 0]] (b0 :: cellI n :: cellF :: N) (fun r A' => r = .tup [] ∧ ∃ N', A' = b0 :: cellI (seeE n x) :: cellF :: (N ++ N')) := by
  intro x
  induction x using Ex.ind with
  | h x ih =>
    intro b0 n N h0 h1 hn
    have hlen := x.nodes_len
    have n1 : x.l.length ≤ maxLen := by unfold maxLen; omega
    have hne : seeE n x = seeE.seeEs (if x.op = 2 then seeI n x.v else n) x.l := by cases x; rfl
    rw [hne]
    have hr : 0 ≤ (if x.op = 2 then seeI n x.v else n) ∧ (if x.op = 2 then seeI n x.v else n) ≤ 65536 := by
      split
      · exact seeI_range h0 h1
      · omega
    have c2 := fun N => fresh2_ac x b0 n N h0 h1
    generalize (if x.op = 2 then seeI n x.v else n) = m at *
    refine ac_of Tryz.func78 rfl (by kernel_rfl) (by simp [Tryz.ntmps78]) fun hb => ?_
    simp [Tryz.f78]
    refine aCall_ofc (c2 _) (by simp) ?_
    rintro _ _ ⟨rfl, N1, rfl⟩
    simp
    refine aLoop_of (α := Nat) (fun i e A => i ≤ x.l.length ∧ (∃ N', A = b0 :: cellI (seeE.seeEs m (x.l.take i)) :: cellF :: (N ++ N')) ∧
      e 12 = aI .i64 i ∧ e 11 = aI .i64 x.l.length ∧ e 10 = .d (.sl 5 (Ex.ds x.l)) ∧ e 1 = .fn 79 [] [.ptr 2 0 0 0]) (fun i => x.l.length - i) 0 (Sub.refl _ _ _)
      ⟨by omega, ⟨_, by simp [seeE.seeEs]; rfl⟩, by simp, by simp, by simp, by simp⟩ ?_
    rintro i e A ⟨hi, ⟨N', rfl⟩, e12, e11, e10, e1⟩ K hK
    rcases Nat.lt_or_ge i x.l.length with hlt | hge
    case inr =>
      obtain rfl : i = x.l.length := by omega
      rw [List.take_length]
      simp [e12, e11]
    obtain ⟨y, hy⟩ : ∃ y, x.l[i]? = some y := ⟨_, List.getElem?_eq_getElem hlt⟩
    have hy2 := (List.getElem?_eq_some_iff.1 hy).2
    have hm := Ex.nodes_mem (List.mem_of_getElem? hy)
    have ht := seeEs_take hy m
    have hrr := seeEs_range (x.l.take i) m hr.1 hr.2
    rw [show x.l.take (i + 1) = x.l.take (i + 1) from rfl] at ht
    generalize hq : seeE.seeEs m (x.l.take i) = q at *
    simp [e12, e11, e10, e1, hlt, hy, hy2, Ex.d_eq]
    refine aCall_ofc (ih y (List.mem_of_getElem? hy) b0 q _ hrr.1 hrr.2 (by omega)) (by simp) ?_
    rintro _ _ ⟨rfl, N2, rfl⟩
    simp [e12, succ_wrap hlt n1]
    refine hK (i + 1) _ _ _ _ (Sub.refl _ _ _) ⟨by omega, ⟨_, by rw [ht]⟩, by simp, by simp [e11], by simp [e10], by simp [e1]⟩ (by omega)
end Go.Proofs.YtoeimidochjddaaGreatDoor

/- The variables of an expression: in the order in which they stand; ascending, each once. No program in sight. -/
namespace Go.Proofs.YtoeimidochjddaaGreatDoor
open Go.RowKit
/-- The variables, in the order in which they stand. -/
def occ : Ex → List Int
  | .mk o _ w _ l => (if o = 2 then [w] else []) ++ occs l
where occs : List Ex → List Int
  | [] => []
  | e :: l => occ e ++ occs l
/-- The variables, ascending, each once. -/
def varsR : Ex → List Int
  | .mk o _ w _ l => varsRs (if o = 2 then [w] else []) l
where varsRs (out : List Int) : List Ex → List Int
  | [] => out
  | e :: l => varsRs ((varsR e).foldl insL out) l
theorem occ_eq (e : Ex) : occ e = (if e.op = 2 then [e.v] else []) ++ occ.occs e.l := by cases e; rfl
theorem varsR_eq (e : Ex) : varsR e = varsR.varsRs (if e.op = 2 then [e.v] else []) e.l := by cases e; rfl
def Asc (l : List Int) : Prop := l.Pairwise (· < ·)
def insR (n : Int) : List Int → List Int
  | [] => [n]
  | a :: l => if a < n then a :: insR n l else if a = n then a :: l else n :: a :: l
theorem insL_eq (n : Int) : ∀ l : List Int, insL l n = insR n l
  | [] => by simp [insL, insR, lowN]
  | a :: l => by
    have ih := insL_eq n l
    unfold insL at ih ⊢
    by_cases h : a < n
    · simp only [lowN, if_pos h, insR, List.getElem?_cons_succ, List.take_succ_cons, List.drop_succ_cons]
      rw [← ih]
      split <;> simp
    · simp only [lowN, if_neg h, insR, List.getElem?_cons_zero, List.take_zero, List.drop_zero, Option.some.injEq, List.nil_append]
theorem insR_mem (n v : Int) : ∀ l : List Int, v ∈ insR n l ↔ v = n ∨ v ∈ l
  | [] => by simp [insR]
  | a :: l => by
    simp only [insR]
    split
    · simp only [List.mem_cons, insR_mem n v l]
      constructor
      · rintro (h | h | h)
        · exact .inr (.inl h)
        · exact .inl h
        · exact .inr (.inr h)
      · rintro (h | h | h)
        · exact .inr (.inl h)
        · exact .inl h
        · exact .inr (.inr h)
    · split
      · rename_i h
        subst h
        simp only [List.mem_cons]
        constructor
        · exact .inr
        · rintro (h | h)
          · exact .inl h
          · exact h
      · simp only [List.mem_cons]
theorem insR_asc (n : Int) : ∀ {l : List Int}, Asc l → Asc (insR n l)
  | [], _ => by simp [insR, Asc]
  | a :: l, h => by
    obtain ⟨h1, h2⟩ := List.pairwise_cons.1 h
    have ih := insR_asc n h2
    simp only [insR]
    split
    · refine List.pairwise_cons.2 ⟨fun v hv => ?_, ih⟩
      rcases (insR_mem n v l).1 hv with rfl | hv
      · assumption
      · exact h1 v hv
    · split
      · exact h
      · refine List.pairwise_cons.2 ⟨fun v hv => ?_, h⟩
        rcases List.mem_cons.1 hv with rfl | hv
        · omega
        · have := h1 v hv
          omega
theorem insR_len (n : Int) : ∀ l : List Int, (insR n l).length ≤ l.length + 1
  | [] => by simp [insR]
  | a :: l => by
    have := insR_len n l
    simp only [insR]
    split
    · simp; omega
    · split <;> simp
theorem insL_mem {n v : Int} {l : List Int} : v ∈ insL l n ↔ v = n ∨ v ∈ l := by rw [insL_eq, insR_mem]
theorem insL_asc {n : Int} {l : List Int} (h : Asc l) : Asc (insL l n) := by rw [insL_eq]; exact insR_asc n h
theorem insL_len (l : List Int) (n : Int) : (insL l n).length ≤ l.length + 1 := by rw [insL_eq]; exact insR_len n l
theorem fold_mem {v : Int} : ∀ {m l : List Int}, v ∈ m.foldl insL l ↔ v ∈ l ∨ v ∈ m
  | [], l => by simp
  | a :: m, l => by
    simp only [List.foldl_cons, fold_mem (m := m), insL_mem, List.mem_cons]
    constructor
    · rintro ((h | h) | h)
      · exact .inr (.inl h)
      · exact .inl h
      · exact .inr (.inr h)
    · rintro (h | h | h)
      · exact .inl (.inr h)
      · exact .inl (.inl h)
      · exact .inr h
theorem fold_asc : ∀ {m l : List Int}, Asc l → Asc (m.foldl insL l)
  | [], _, h => h
  | a :: m, l, h => by
    rw [List.foldl_cons]
    exact fold_asc (m := m) (insL_asc h)
theorem fold_len : ∀ (m l : List Int), (m.foldl insL l).length ≤ l.length + m.length
  | [], l => by simp
  | a :: m, l => by
    have h1 := fold_len m (insL l a)
    have h2 := insL_len l a
    simp only [List.foldl_cons, List.length_cons]
    omega
theorem varsR_all : ∀ e : Ex, (∀ v, v ∈ varsR e ↔ v ∈ occ e) ∧ Asc (varsR e) ∧ (varsR e).length ≤ e.nodes := by
  intro e
  induction e using Ex.ind with
  | h e ih =>
  have hl : ∀ (l : List Ex), (∀ x ∈ l, (∀ v, v ∈ varsR x ↔ v ∈ occ x) ∧ Asc (varsR x) ∧ (varsR x).length ≤ x.nodes) → ∀ out : List Int, Asc out →
      (∀ v, v ∈ varsR.varsRs out l ↔ v ∈ out ∨ v ∈ occ.occs l) ∧ Asc (varsR.varsRs out l) ∧ (varsR.varsRs out l).length ≤ out.length + Ex.nodess l := by
    intro l
    induction l with
    | nil => intro _ out h; simp [varsR.varsRs, occ.occs, h]
    | cons a l ihl =>
      intro h out ho
      obtain ⟨a1, a2, a3⟩ := h a (by simp)
      obtain ⟨b1, b2, b3⟩ := ihl (fun x hx => h x (by simp [hx])) ((varsR a).foldl insL out) (fold_asc ho)
      have b4 := fold_len (varsR a) out
      refine ⟨fun v => ?_, b2, ?_⟩
      · simp only [varsR.varsRs, occ.occs, b1 v, fold_mem, a1 v, List.mem_append]
        exact or_assoc
      · simp only [varsR.varsRs, Ex.nodess]
        omega
  have h0 : Asc (if e.op = 2 then [e.v] else []) := by split <;> simp [Asc]
  have h1 : (if e.op = 2 then [e.v] else []).length ≤ 1 := by split <;> simp
  obtain ⟨c1, c2, c3⟩ := hl e.l ih _ h0
  have hne : e.nodes = Ex.nodess e.l + 1 := by cases e; rfl
  rw [varsR_eq, occ_eq, hne]
  refine ⟨fun v => by rw [c1 v, List.mem_append], c2, by omega⟩
theorem varsR_mem {e : Ex} {v : Int} : v ∈ varsR e ↔ v ∈ occ e := (varsR_all e).1 v
theorem varsR_asc (e : Ex) : Asc (varsR e) := (varsR_all e).2.1
theorem varsR_len (e : Ex) : (varsR e).length ≤ e.nodes := (varsR_all e).2.2
theorem varsRs_take {l : List Ex} {i : Nat} {x : Ex} (h : l[i]? = some x) (out : List Int) : varsR.varsRs out (l.take (i + 1)) = (varsR x).foldl insL (varsR.varsRs out (l.take i)) := by
  induction l generalizing i out with
  | nil => simp at h
  | cons a l ih =>
    cases i with
    | zero => simp at h; subst h; simp [varsR.varsRs]
    | succ i => simp only [List.take_succ_cons, varsR.varsRs, ih (by simpa using h)]
theorem varsRs_len : ∀ (l : List Ex) (out : List Int), (varsR.varsRs out l).length ≤ out.length + Ex.nodess l
  | [], out => by simp [varsR.varsRs]
  | a :: l, out => by
    have h1 := varsRs_len l ((varsR a).foldl insL out)
    have h2 := fold_len (varsR a) out
    have h3 := varsR_len a
    simp only [varsR.varsRs, Ex.nodess]
    omega
theorem asc_last {l : List Int} {M : Int} (h : Asc l) (hM : l.getLast? = some M) : M ∈ l ∧ ∀ v ∈ l, v ≤ M := by
  obtain ⟨ys, rfl⟩ := List.getLast?_eq_some_iff.1 hM
  refine ⟨by simp, fun v hv => ?_⟩
  rcases List.mem_append.1 hv with hv | hv
  · have := (List.pairwise_append.1 h).2.2 v hv M (by simp)
    omega
  · simp at hv
    omega
theorem seeE_occ : ∀ (e : Ex) (n : Int), seeE n e = (occ e).foldl seeI n := by
  intro e
  induction e using Ex.ind with
  | h e ih =>
  obtain ⟨o, k, w, wd, l⟩ := e
  intro n
  have hl : ∀ l : List Ex, (∀ x ∈ l, ∀ n : Int, seeE n x = (occ x).foldl seeI n) → ∀ n : Int, seeE.seeEs n l = (occ.occs l).foldl seeI n := by
    intro l
    induction l with
    | nil => intro _ n; rfl
    | cons a l ihl => intro h n; simp only [seeE.seeEs, occ.occs, List.foldl_append, h a (by simp), ihl fun x hx => h x (by simp [hx])]
  simp only [seeE, occ, List.foldl_append, hl l ih]
  split <;> rfl
theorem seeI_max {n v : Int} (h : n ≤ 65536) : seeI n v = max n (min v 65535 + 1) := by
  unfold seeI
  split
  · split <;> omega
  · omega
/-- The greatest variable decides. -/
theorem foldl_see {M : Int} : ∀ {L : List Int} {n : Int}, n ≤ 65536 → M ∈ L → (∀ v ∈ L, v ≤ M) → L.foldl seeI n = seeI n M
  | [], n, _, h, _ => by cases h
  | a :: L, n, hn, hM, hle => by
    have ha := hle a (by simp)
    have h1 := seeI_max (v := a) hn
    rw [List.foldl_cons]
    by_cases hL : M ∈ L
    · rw [foldl_see (n := seeI n a) (by omega) hL fun v hv => hle v (by simp [hv]), seeI_max (n := seeI n a) (v := M) (by omega), seeI_max (v := M) hn]
      omega
    · obtain rfl : M = a := by
        rcases List.mem_cons.1 hM with h | h
        · exact h
        · exact absurd h hL
      have : ∀ (L : List Int) (k : Int), k ≤ 65536 → min M 65535 + 1 ≤ k → (∀ v ∈ L, v ≤ M) → L.foldl seeI k = k := by
        intro L
        induction L with
        | nil => intro k _ _ _; rfl
        | cons b L ihL =>
          intro k h1 h2 h3
          have hb := h3 b (by simp)
          have : seeI k b = k := by rw [seeI_max h1]; omega
          rw [List.foldl_cons, this]
          exact ihL k h1 h2 fun v hv => h3 v (by simp [hv])
      exact this L _ (by omega) (by omega) fun v hv => hle v (by simp [hv])
/-- What the reference sees of an expression: its greatest variable. -/
theorem see_last {e : Ex} {n : Int} (hn : n ≤ 65536) : seeE n e = match (varsR e).getLast? with
    | some M => seeI n M
    | none => n := by
  rw [seeE_occ]
  cases h : (varsR e).getLast? with
  | none =>
    have h0 : varsR e = [] := List.getLast?_eq_none_iff.1 h
    have : occ e = [] := List.eq_nil_iff_forall_not_mem.2 fun v hv => by
      have := varsR_mem.2 hv
      rw [h0] at this
      cases this
    rw [this]
    rfl
  | some M =>
    obtain ⟨h1, h2⟩ := asc_last (varsR_asc e) h
    exact foldl_see hn (varsR_mem.1 h1) fun v hv => h2 v (varsR_mem.2 hv)
end Go.Proofs.YtoeimidochjddaaGreatDoor

/- Contract: math/bits.TrailingZeros64(16), off the table that the row lists; the calls that the example of layer 19 takes by contract. -/
namespace Go.Proofs.YtoeimidochjddaaGreatDoor
open Go.RowKit
theorem tz64_16 (w : World) (hG : GbIs w) : Calls Tryz.prog 281 #[.int .u64 16] w fun e w' => e = .returned (.int .i64 4) ∧ w' = w := by
  have hc : w.cell? ⟨5, 15, none⟩ = some (.int .u8 4) := (hG (5, deB64.map fun z => Value.int .u8 z) (by simp [GB])).2.1 15 _ (by simp [deB64])
  have hi : IntKind.u64.wrap (bits BinOp.and IntKind.u64 16 (IntKind.u64.wrap (-16)) * 285870213051353865) / 288230376151711744 = 15 := by decide +kernel
  go_enter Tryz.func281, Tryz.ntmps281
  go_wp2
  · go_ret
    exact ⟨rfl, rfl⟩
theorem tz64_af : AF Tryz.prog 281 [aI .u64 16] (aI .i64 4) := by
  intro H w vs hH hs hm
  simp only [ShpL] at hs
  obtain ⟨u1, l1, rfl, s1, rfl⟩ := hs
  simp only [Shp] at s1
  subst s1
  refine (tz64_16 w hH.2.1).mono ?_
  rintro en w' ⟨rfl, rfl⟩
  exact ⟨_, rfl, ⟨by simp [Shp], by simp [Mem, Rd, Value.oneCell']⟩, Ext.refl _⟩
/-- Strings, out of a slice's elements. -/
def strsOf : List (List D) → Option (List ByteArray)
  | [] => some []
  | [.v (.string s)] :: l => (strsOf l).map (s :: ·)
  | _ :: _ => none
theorem strsOf_spec : ∀ {l : List (List D)} {m : List ByteArray}, strsOf l = some m → l = strs m
  | [], m, h => by simp [strsOf] at h; subst h; rfl
  | [.v (.string s)] :: l, m, h => by
    simp only [strsOf, Option.map_eq_some_iff] at h
    obtain ⟨m', h', rfl⟩ := h
    rw [strsOf_spec h']
    rfl
/-- The calls that are taken by contract. -/
def orc19 : XF := fun f args A =>
  if f = 139 then (match omap (reiV false A 9) args with
    | some [.d (.sl 1 xs)] => (match strsOf xs with
      | some l => if (l.flatMap fun x => x.data.toList).length ≤ 1000000000 ∧ l.length ≤ 1000000000 then some (aS (cat l), A) else none
      | none => none)
    | _ => none)
  else if f = 51 then (match args with
    | [.d (.v (.int .i64 (.ofNat n)))] => if n < 10 then some (aS ⟨#[UInt8.ofNat (48 + n)]⟩, A) else none
    | _ => none)
  else if f = 281 then (match args with
    | [.d (.v (.int .u64 n))] => if n = 16 then some (aI .i64 4, A) else none
    | _ => none)
  else none
theorem orc19_ok : XFok Tryz.prog orc19 := by
  intro f args A r A' h
  unfold orc19 at h
  split at h
  · rename_i hf
    subst hf
    split at h
    · rename_i xs h0
      split at h
      · rename_i l hl
        split at h
        · rename_i hc
          simp only [Option.some.injEq, Prod.mk.injEq] at h
          obtain ⟨rfl, rfl⟩ := h
          obtain rfl := strsOf_spec hl
          exact ⟨by kernel_rfl, AF.acs (iljoin_af l hc.1 hc.2) (by rw [h0]; exact NLeL.refl _) rfl⟩
        · cases h
      · cases h
    · cases h
  · split at h
    · rename_i hf
      subst hf
      split at h
      · rename_i n
        split at h
        · rename_i hn
          simp only [Option.some.injEq, Prod.mk.injEq] at h
          obtain ⟨rfl, rfl⟩ := h
          have h1 := itoa_af n (by omega)
          have h2 : Lib.decDigits n = [UInt8.ofNat (48 + n)] := by rw [Lib.decDigits]; simp; omega
          rw [h2] at h1
          exact ⟨by kernel_rfl, AF.acs h1 (by simp [omap, reiV, argO]) rfl⟩
        · cases h
      · cases h
    · split at h
      · rename_i hf
        subst hf
        split at h
        · split at h
          · rename_i hn
            subst hn
            simp only [Option.some.injEq, Prod.mk.injEq] at h
            obtain ⟨rfl, rfl⟩ := h
            exact ⟨by kernel_rfl, AF.acs tz64_af (by simp [omap, reiV, argO]) rfl⟩
          · cases h
        · cases h
      · cases h
end Go.Proofs.YtoeimidochjddaaGreatDoor

/- Contract: il.Fresh. -/
namespace Go.Proofs.YtoeimidochjddaaGreatDoor
open Go.RowKit
def seeS (n : Int) (s : St) : Int := seeE.seeEs (if s.op = 1 ∨ s.op = 3 then seeI n s.va else n) s.e
def seeB (n : Int) (b : Bl) : Int := b.s.foldl seeS n
def seeG (g : Gr) : Int := g.b.foldl seeB 12
theorem seeS_range (s : St) (n : Int) (h0 : 0 ≤ n) (h1 : n ≤ 65536) : 0 ≤ seeS n s ∧ seeS n s ≤ 65536 := by
  unfold seeS
  have := seeI_range (v := s.va) h0 h1
  split
  · exact seeEs_range _ _ this.1 this.2
  · exact seeEs_range _ _ h0 h1
theorem foldl_range {α : Type} {f : Int → α → Int} (hf : ∀ (a : α) (n : Int), 0 ≤ n → n ≤ 65536 → 0 ≤ f n a ∧ f n a ≤ 65536) : ∀ (l : List α) (n : Int), 0 ≤ n → n ≤ 65536 → 0 ≤ l.foldl f n ∧ l.foldl f n ≤ 65536
  | [], n, h0, h1 => ⟨h0, h1⟩
  | a :: l, n, h0, h1 => by
    have := hf a n h0 h1
    exact foldl_range hf l _ this.1 this.2
theorem foldl_take {α : Type} {f : Int → α → Int} {l : List α} {i : Nat} {x : α} (h : l[i]? = some x) (n : Int) : (l.take (i + 1)).foldl f n = f ((l.take i).foldl f n) x := by
  rw [List.take_add_one, h]
  simp
theorem ilfresh_af (g : Gr) (hg : GrFit g) (hn : ∀ b ∈ g.b, ∀ s ∈ b.s, ∀ e ∈ s.e, e.nodes ≤ 1000000000) : AF Tryz.prog 33 [grV g] (aI .i64 (seeG g)) := by
  have hg1 := hg.1
  have hl : g.b.length ≤ maxLen := by unfold maxLen; omega
  refine af_of Tryz.func33 rfl (by kernel_rfl) (by simp [Tryz.ntmps33]) fun _ => ?_; simp [Tryz.f33, Ex.d_eq]
  refine aLoop_st (fun i : Nat => [(3, .ptr 1 0 0 0), (4, .ptr 2 0 0 0), (13, .d (.sl 2 (bls' g.b))), (14, aI .i64 g.b.length), (15, aI .i64 i)])
    (fun i => [gB g, cellI ((g.b.take i).foldl seeB 12), cellF])
    (fun i => i ≤ g.b.length) (fun i => g.b.length - i) 0 (Sub.refl _ _ _) 3 (by omega) (by simp) (by simp) (by omega) ?_
  rintro i hi K hK
  rcases Nat.lt_or_ge i g.b.length with hlt | hge
  case inr =>
    obtain rfl : i = g.b.length := by omega
    rw [List.take_length]
    simp [seeG]
  obtain ⟨b, hb⟩ : ∃ b, g.b[i]? = some b := ⟨_, List.getElem?_eq_getElem hlt⟩
  have hb2 := (List.getElem?_eq_some_iff.1 hb).2
  obtain ⟨f1, f2⟩ := hg.2 b (List.mem_of_getElem? hb)
  have hbl : b.s.length ≤ maxLen := by unfold maxLen; omega
  have htb := foldl_take (f := seeB) hb 12
  have hrb := foldl_range (f := seeB) (fun b n h0 h1 => foldl_range seeS_range b.s n h0 h1) (g.b.take i) 12 (by omega) (by omega)
  generalize (g.b.take i).foldl seeB 12 = m1 at *
  simp [hlt, hb, hb2, Bl.d_eq]
  refine aLoop_st (fun k : Nat => [(3, .ptr 1 0 0 0), (4, .ptr 2 0 0 0), (13, .d (.sl 2 (bls' g.b))), (14, aI .i64 g.b.length), (15, aI .i64 i), (20, .d (.sl 8 (sts b.s))), (21, aI .i64 b.s.length), (22, aI .i64 k)])
    (fun k => [gB g, cellI ((b.s.take k).foldl seeS m1), cellF])
    (fun k => k ≤ b.s.length) (fun k => b.s.length - k) 0 (Sub.refl _ _ _) 3 (by omega) (by simp) (by simp) (by omega) ?_
  rintro k hk K2 hK2
  rcases Nat.lt_or_ge k b.s.length with hlt2 | hge2
  case inr =>
    obtain rfl : k = b.s.length := by omega
    rw [List.take_length]
    simp [succ_wrap hlt hl]
    refine hK (i + 1) (by omega) (by omega) (Sub.refl _ _ _) 3 (by omega) ?_ (by simp)
    rw [htb]
    simp [seeB]
  obtain ⟨s, hs⟩ : ∃ s, b.s[k]? = some s := ⟨_, List.getElem?_eq_getElem hlt2⟩
  have hs2 := (List.getElem?_eq_some_iff.1 hs).2
  have f3 := f2 s (List.mem_of_getElem? hs)
  have hel : s.e.length ≤ maxLen := by unfold maxLen; omega
  have hts := foldl_take (f := seeS) hs m1
  have hrs := foldl_range seeS_range (b.s.take k) m1 hrb.1 hrb.2
  generalize (b.s.take k).foldl seeS m1 = m2 at *
  have hne : seeS m2 s = seeE.seeEs (if s.op = 1 ∨ s.op = 3 then seeI m2 s.va else m2) s.e := rfl
  have hr : 0 ≤ (if s.op = 1 ∨ s.op = 3 then seeI m2 s.va else m2) ∧ (if s.op = 1 ∨ s.op = 3 then seeI m2 s.va else m2) ≤ 65536 := by
    split
    · exact seeI_range hrs.1 hrs.2
    · omega
  have c1 := fun N => fresh1_ac (gB g) cellF s.va m2 N hrs.1 hrs.2
  have hw : s.op = 1 ∨ s.op ≠ 1 ∧ s.op = 3 ∨ s.op ≠ 1 ∧ s.op ≠ 3 := by omega
  have hm3 : (s.op = 1 ∨ s.op = 3 → (if s.op = 1 ∨ s.op = 3 then seeI m2 s.va else m2) = seeI m2 s.va) ∧ (¬ (s.op = 1 ∨ s.op = 3) → (if s.op = 1 ∨ s.op = 3 then seeI m2 s.va else m2) = m2) := ⟨fun h => if_pos h, fun h => if_neg h⟩
  generalize (if s.op = 1 ∨ s.op = 3 then seeI m2 s.va else m2) = m3 at *
  rcases hw with w1 | ⟨w1, w3⟩ | ⟨w1, w3⟩
  · simp [hlt2, hs, hs2, St.d_eq, w1]
    refine aCall_ofc (c1 _) (by simp) ?_
    rintro _ _ ⟨rfl, N1, rfl⟩
    simp
    have hv := hm3.1 (.inl w1)
    refine aLoop_st (fun q : Nat => [(3, .ptr 1 0 0 0), (4, .ptr 2 0 0 0), (13, .d (.sl 2 (bls' g.b))), (14, aI .i64 g.b.length), (15, aI .i64 i), (20, .d (.sl 8 (sts b.s))), (21, aI .i64 b.s.length), (22, aI .i64 k), (39, .d (.sl 5 (Ex.ds s.e))), (40, aI .i64 s.e.length), (41, aI .i64 q)])
      (fun q => [gB g, cellI (seeE.seeEs m3 (s.e.take q)), cellF])
      (fun q => q ≤ s.e.length) (fun q => s.e.length - q) 0 (Sub.refl _ _ _) 3 (by omega) (by simp [seeE.seeEs]; try rw [hv]) (by simp) (by omega) ?_
    rintro q hq K3 hK3
    rcases Nat.lt_or_ge q s.e.length with hlt3 | hge3
    case inr =>
      obtain rfl : q = s.e.length := by omega
      rw [List.take_length]
      simp [succ_wrap hlt2 hbl]
      refine hK2 (k + 1) (by omega) (by omega) (Sub.refl _ _ _) 3 (by omega) ?_ (by simp)
      rw [hts, hne]
      simp
    obtain ⟨y, hy⟩ : ∃ y, s.e[q]? = some y := ⟨_, List.getElem?_eq_getElem hlt3⟩
    have hy2 := (List.getElem?_eq_some_iff.1 hy).2
    have hte := seeEs_take hy m3
    have hre := seeEs_range (s.e.take q) m3 hr.1 hr.2
    generalize seeE.seeEs m3 (s.e.take q) = m4 at *
    simp [hlt3, hy, hy2, Ex.d_eq]
    refine aCall_ofc (visitF_ac y (gB g) m4 _ hre.1 hre.2 (hn b (List.mem_of_getElem? hb) s (List.mem_of_getElem? hs) y (List.mem_of_getElem? hy))) (by simp) ?_
    rintro _ _ ⟨rfl, N2, rfl⟩
    simp [succ_wrap hlt3 hel]
    refine hK3 (q + 1) (by omega) (by omega) (Sub.refl _ _ _) 3 (by omega) ?_ (by simp)
    rw [hte]
    simp
  · simp [hlt2, hs, hs2, St.d_eq, w1, w3]
    refine aCall_ofc (c1 _) (by simp) ?_
    rintro _ _ ⟨rfl, N1, rfl⟩
    simp
    have hv := hm3.1 (.inr w3)
    refine aLoop_st (fun q : Nat => [(3, .ptr 1 0 0 0), (4, .ptr 2 0 0 0), (13, .d (.sl 2 (bls' g.b))), (14, aI .i64 g.b.length), (15, aI .i64 i), (20, .d (.sl 8 (sts b.s))), (21, aI .i64 b.s.length), (22, aI .i64 k), (39, .d (.sl 5 (Ex.ds s.e))), (40, aI .i64 s.e.length), (41, aI .i64 q)])
      (fun q => [gB g, cellI (seeE.seeEs m3 (s.e.take q)), cellF])
      (fun q => q ≤ s.e.length) (fun q => s.e.length - q) 0 (Sub.refl _ _ _) 3 (by omega) (by simp [seeE.seeEs]; try rw [hv]) (by simp) (by omega) ?_
    rintro q hq K3 hK3
    rcases Nat.lt_or_ge q s.e.length with hlt3 | hge3
    case inr =>
      obtain rfl : q = s.e.length := by omega
      rw [List.take_length]
      simp [succ_wrap hlt2 hbl]
      refine hK2 (k + 1) (by omega) (by omega) (Sub.refl _ _ _) 3 (by omega) ?_ (by simp)
      rw [hts, hne]
      simp
    obtain ⟨y, hy⟩ : ∃ y, s.e[q]? = some y := ⟨_, List.getElem?_eq_getElem hlt3⟩
    have hy2 := (List.getElem?_eq_some_iff.1 hy).2
    have hte := seeEs_take hy m3
    have hre := seeEs_range (s.e.take q) m3 hr.1 hr.2
    generalize seeE.seeEs m3 (s.e.take q) = m4 at *
    simp [hlt3, hy, hy2, Ex.d_eq]
    refine aCall_ofc (visitF_ac y (gB g) m4 _ hre.1 hre.2 (hn b (List.mem_of_getElem? hb) s (List.mem_of_getElem? hs) y (List.mem_of_getElem? hy))) (by simp) ?_
    rintro _ _ ⟨rfl, N2, rfl⟩
    simp [succ_wrap hlt3 hel]
    refine hK3 (q + 1) (by omega) (by omega) (Sub.refl _ _ _) 3 (by omega) ?_ (by simp)
    rw [hte]
    simp
  · simp [hlt2, hs, hs2, St.d_eq, w1, w3]
    have hv := hm3.2 (by omega)
    refine aLoop_st (fun q : Nat => [(3, .ptr 1 0 0 0), (4, .ptr 2 0 0 0), (13, .d (.sl 2 (bls' g.b))), (14, aI .i64 g.b.length), (15, aI .i64 i), (20, .d (.sl 8 (sts b.s))), (21, aI .i64 b.s.length), (22, aI .i64 k), (39, .d (.sl 5 (Ex.ds s.e))), (40, aI .i64 s.e.length), (41, aI .i64 q)])
      (fun q => [gB g, cellI (seeE.seeEs m3 (s.e.take q)), cellF])
      (fun q => q ≤ s.e.length) (fun q => s.e.length - q) 0 (Sub.refl _ _ _) 3 (by omega) (by simp [seeE.seeEs]; try rw [hv]) (by simp) (by omega) ?_
    rintro q hq K3 hK3
    rcases Nat.lt_or_ge q s.e.length with hlt3 | hge3
    case inr =>
      obtain rfl : q = s.e.length := by omega
      rw [List.take_length]
      simp [succ_wrap hlt2 hbl]
      refine hK2 (k + 1) (by omega) (by omega) (Sub.refl _ _ _) 3 (by omega) ?_ (by simp)
      rw [hts, hne]
      simp
    obtain ⟨y, hy⟩ : ∃ y, s.e[q]? = some y := ⟨_, List.getElem?_eq_getElem hlt3⟩
    have hy2 := (List.getElem?_eq_some_iff.1 hy).2
    have hte := seeEs_take hy m3
    have hre := seeEs_range (s.e.take q) m3 hr.1 hr.2
    generalize seeE.seeEs m3 (s.e.take q) = m4 at *
    simp [hlt3, hy, hy2, Ex.d_eq]
    refine aCall_ofc (visitF_ac y (gB g) m4 _ hre.1 hre.2 (hn b (List.mem_of_getElem? hb) s (List.mem_of_getElem? hs) y (List.mem_of_getElem? hy))) (by simp) ?_
    rintro _ _ ⟨rfl, N2, rfl⟩
    simp [succ_wrap hlt3 hel]
    refine hK3 (q + 1) (by omega) (by omega) (Sub.refl _ _ _) 3 (by omega) ?_ (by simp)
    rw [hte]
    simp
end Go.Proofs.YtoeimidochjddaaGreatDoor

/- Contract: the reference's Vars. -/
namespace Go.Proofs.YtoeimidochjddaaGreatDoor
open Go.RowKit
theorem fold_take (l : List Int) (k : Nat) (n : Int) (o : List Int) (h : l[k]? = some n) : (l.take (k + 1)).foldl insL o = insL ((l.take k).foldl insL o) n := by
  rw [List.take_add_one, h, List.foldl_append]
  rfl
theorem r19vars_af : ∀ (x : Ex), x.nodes ≤ 1000000 → AF Tryz.prog 85 [exA x] (.d (.sl 1 (i64s (varsR x)))) := by
  intro x
  induction x using Ex.ind with
  | h x ih =>
  intro hn
  have hlen := x.nodes_len
  have n1 : x.l.length ≤ maxLen := by unfold maxLen; omega
  have hne : x.nodes = Ex.nodess x.l + 1 := by cases x; rfl
  obtain ⟨o, ho⟩ : ∃ o, (if x.op = 2 then [x.v] else []) = o := ⟨_, rfl⟩
  have hol : o.length ≤ 1 := by rw [← ho]; split <;> simp
  rw [varsR_eq, ho]
  have hpre : ∀ i, (varsR.varsRs o (x.l.take i)).length ≤ x.nodes := fun i => by
    have h1 := varsRs_len (x.l.take i) o
    have h2 := nodess_take_le x.l i
    omega
  refine af_of Tryz.func85 rfl (by kernel_rfl) (by simp [Tryz.ntmps85]) fun _ => ?_
  simp [Tryz.f85]
  have hcs : x.op = 2 ∧ o = [x.v] ∨ x.op ≠ 2 ∧ o = [] := by
    by_cases h : x.op = 2
    · rw [if_pos h] at ho; exact .inl ⟨h, ho.symm⟩
    · rw [if_neg h] at ho; exact .inr ⟨h, ho.symm⟩
  clear ho
  rcases hcs with ⟨h2, hoo⟩ | ⟨h2, hoo⟩
  case' inl =>
    simp [h2, Ex.d_eq]
    refine aRaw_app byt_27 ?_
    simp
    refine ⟨by unfold maxLen; omega, ?_⟩
    refine aLoop_st (fun i : Nat => [(1, .ptr 0 0 0 0), (3, .d (.sl 1 (i64s (varsR.varsRs o (x.l.take i))))), (4, aI .i64 i)]) (fun _ => [bxE x])
      (fun i => i ≤ x.l.length) (fun i => x.l.length - i) 0 ((Sub.frz [2]).trans (Sub.slot (s := 3) (c := .d (.sl 1 (i64s [x.v]))) (VLe.rei (by simp [frz])))) 1 (by omega) (by simp [frz, h2]) (by simp [varsR.varsRs, hoo]) (by omega) ?_
  case' inr =>
    simp [h2, Ex.d_eq]
    refine aLoop_st (fun i : Nat => [(1, .ptr 0 0 0 0), (3, .d (.sl 1 (i64s (varsR.varsRs o (x.l.take i))))), (4, aI .i64 i)]) (fun _ => [bxE x])
      (fun i => i ≤ x.l.length) (fun i => x.l.length - i) 0 (Sub.slot (s := 3) (c := .d (.sl 1 [])) (by simp; exact VLe.nil_sl 1)) 1 (by omega) (by simp) (by simp [varsR.varsRs, hoo]) (by omega) ?_
  all_goals
    rintro i hi K hK
    rcases Nat.lt_or_ge i x.l.length with hlt | hge
    case inr =>
      obtain rfl : i = x.l.length := by omega
      rw [List.take_length]
      simp
    obtain ⟨y, hy⟩ : ∃ y, x.l[i]? = some y := ⟨_, List.getElem?_eq_getElem hlt⟩
    have hy2 := (List.getElem?_eq_some_iff.1 hy).2
    have hm := Ex.nodes_mem (List.mem_of_getElem? hy)
    have ht := varsRs_take hy o
    have hp := hpre (i + 1)
    have hv := varsR_len y
    simp [hlt, hy, hy2, Ex.d_eq]
    refine aCall_of (ih y (List.mem_of_getElem? hy) (by omega)) (by simp) (by simp [Ex.d_eq]) ?_; simp [Ex.d_eq]
    have hfl : ∀ k, (((varsR y).take k).foldl insL (varsR.varsRs o (x.l.take i))).length ≤ 1000000 := fun k => by
      have h1 := fold_len ((varsR y).take k) (varsR.varsRs o (x.l.take i))
      have h3 := varsRs_len (x.l.take i) o
      have h4 := nodess_take hy
      have h5 := nodess_take_le x.l (i + 1)
      have h6 : ((varsR y).take k).length ≤ (varsR y).length := by simp; omega
      omega
    generalize varsR y = V at *
    generalize varsR.varsRs o (x.l.take i) = W at *
    have hVm : V.length ≤ maxLen := by unfold maxLen; omega
    refine aLoop_st (fun k : Nat => [(1, .ptr 0 0 0 0), (3, .d (.sl 1 (i64s ((V.take k).foldl insL W)))), (4, aI .i64 i), (5, .d (.sl 1 (i64s V))), (6, aI .i64 k)]) (fun _ => [bxE x])
      (fun k => k ≤ V.length) (fun k => V.length - k) 0 (Sub.refl _ _ _) 1 (by omega) (by simp) (by simp) (by omega) ?_
    rintro k hk K2 hK2
    rcases Nat.lt_or_ge k V.length with hlt2 | hge2
    case inr =>
      obtain rfl : k = V.length := by omega
      rw [List.take_length]
      simp [succ_wrap hlt n1]
      refine hK (i + 1) (by omega) (by omega) (Sub.refl _ _ _) 1 (by omega) (by simp) (by simp [ht])
    obtain ⟨v, hv⟩ : ∃ v, V[k]? = some v := ⟨_, List.getElem?_eq_getElem hlt2⟩
    have hv2 := (List.getElem?_eq_some_iff.1 hv).2
    have hq := fold_take V k v W hv
    simp [hlt2, hv, hv2]
    refine aCall_of (r19insert_af ((V.take k).foldl insL W) v (hfl k)) (by simp) (by simp [Ex.d_eq]) ?_; simp [Ex.d_eq]
    simp [succ_wrap hlt2 hVm]
    refine hK2 (k + 1) (by omega) (by omega) (Sub.refl _ _ _) 1 (by omega) (by simp) (by simp [hq])
end Go.Proofs.YtoeimidochjddaaGreatDoor

/- Contract: the reference's Fresh. -/
namespace Go.Proofs.YtoeimidochjddaaGreatDoor
open Go.RowKit
theorem r19fresh_af (g : Gr) (hg : GrFit g) (hn : ∀ b ∈ g.b, ∀ s ∈ b.s, ∀ e ∈ s.e, e.nodes ≤ 1000000) : AF Tryz.prog 37 [grV g] (aI .i64 (seeG g)) := by
  have hg1 := hg.1
  have hl : g.b.length ≤ maxLen := by unfold maxLen; omega
  refine af_of Tryz.func37 rfl (by kernel_rfl) (by simp [Tryz.ntmps37]) fun _ => ?_; simp [Tryz.f37, Ex.d_eq]
  refine aLoop_st (fun i : Nat => [(1, .ptr 0 0 0 0), (3, aI .i64 ((g.b.take i).foldl seeB 12)), (4, aI .i64 i)])
    (fun _ => [gB g])
    (fun i => i ≤ g.b.length) (fun i => g.b.length - i) 0 (Sub.refl _ _ _) 1 (by omega) (by simp) (by simp) (by omega) ?_
  rintro i hi K hK
  rcases Nat.lt_or_ge i g.b.length with hlt | hge
  case inr =>
    obtain rfl : i = g.b.length := by omega
    rw [List.take_length]
    simp [seeG]
  obtain ⟨b, hb⟩ : ∃ b, g.b[i]? = some b := ⟨_, List.getElem?_eq_getElem hlt⟩
  have hb2 := (List.getElem?_eq_some_iff.1 hb).2
  obtain ⟨f1, f2⟩ := hg.2 b (List.mem_of_getElem? hb)
  have hbl : b.s.length ≤ maxLen := by unfold maxLen; omega
  have htb := foldl_take (f := seeB) hb 12
  have hrb := foldl_range (f := seeB) (fun b n h0 h1 => foldl_range seeS_range b.s n h0 h1) (g.b.take i) 12 (by omega) (by omega)
  generalize (g.b.take i).foldl seeB 12 = m1 at *
  simp [hlt]
  refine aLoop_st (fun k : Nat => [(1, .ptr 0 0 0 0), (3, aI .i64 ((b.s.take k).foldl seeS m1)), (4, aI .i64 i), (5, aI .i64 k)])
    (fun _ => [gB g])
    (fun k => k ≤ b.s.length) (fun k => b.s.length - k) 0 (Sub.refl _ _ _) 1 (by omega) (by simp) (by simp) (by omega) ?_
  rintro k hk K2 hK2
  rcases Nat.lt_or_ge k b.s.length with hlt2 | hge2
  case inr =>
    obtain rfl : k = b.s.length := by omega
    rw [List.take_length]
    simp [hlt, hb, hb2, Bl.d_eq, succ_wrap hlt hl]
    refine hK (i + 1) (by omega) (by omega) (Sub.refl _ _ _) 1 (by omega) (by simp) ?_
    rw [htb]
    simp [seeB]
  obtain ⟨s, hs⟩ : ∃ s, b.s[k]? = some s := ⟨_, List.getElem?_eq_getElem hlt2⟩
  have hs2 := (List.getElem?_eq_some_iff.1 hs).2
  have f3 := f2 s (List.mem_of_getElem? hs)
  have hel : s.e.length ≤ maxLen := by unfold maxLen; omega
  have hts := foldl_take (f := seeS) hs m1
  have hrs := foldl_range seeS_range (b.s.take k) m1 hrb.1 hrb.2
  generalize (b.s.take k).foldl seeS m1 = m2 at *
  have hne : seeS m2 s = seeE.seeEs (if s.op = 1 ∨ s.op = 3 then seeI m2 s.va else m2) s.e := rfl
  have hr : 0 ≤ (if s.op = 1 ∨ s.op = 3 then seeI m2 s.va else m2) ∧ (if s.op = 1 ∨ s.op = 3 then seeI m2 s.va else m2) ≤ 65536 := by
    split
    · exact seeI_range hrs.1 hrs.2
    · omega
  obtain ⟨m3, hm3⟩ : ∃ m3, (if s.op = 1 ∨ s.op = 3 then seeI m2 s.va else m2) = m3 := ⟨_, rfl⟩
  rw [hm3] at hne hr
  have hw : (s.op = 1 ∧ m2 ≤ s.va ∧ m3 = (if 65535 < s.va then 65535 else s.va) + 1) ∨ (s.op = 1 ∧ ¬ m2 ≤ s.va ∧ m3 = m2) ∨ (s.op ≠ 1 ∧ s.op = 3 ∧ m2 ≤ s.va ∧ m3 = (if 65535 < s.va then 65535 else s.va) + 1) ∨ (s.op ≠ 1 ∧ s.op = 3 ∧ ¬ m2 ≤ s.va ∧ m3 = m2) ∨ (s.op ≠ 1 ∧ s.op ≠ 3 ∧ m3 = m2) := by
    by_cases h1 : s.op = 1 ∨ s.op = 3
    · rw [if_pos h1, seeI] at hm3
      by_cases h2 : m2 ≤ s.va
      · rw [if_pos h2] at hm3
        rcases Int.decEq s.op 1 with h | h
        · exact .inr (.inr (.inl ⟨h, by omega, h2, hm3.symm⟩))
        · exact .inl ⟨h, h2, hm3.symm⟩
      · rw [if_neg h2] at hm3
        rcases Int.decEq s.op 1 with h | h
        · exact .inr (.inr (.inr (.inl ⟨h, by omega, h2, hm3.symm⟩)))
        · exact .inr (.inl ⟨h, h2, hm3.symm⟩)
    · rw [if_neg h1] at hm3
      exact .inr (.inr (.inr (.inr ⟨by omega, by omega, hm3.symm⟩)))
  clear hm3
  rcases hw with ⟨w1, h5, hm⟩ | ⟨w1, h5, hm⟩ | ⟨w1, w3, h5, hm⟩ | ⟨w1, w3, h5, hm⟩ | ⟨w1, w3, hm⟩
  case' inl.inl.inl =>
    simp [hlt, hb, hb2, Bl.d_eq, hlt2, hs, hs2, St.d_eq, w1, h5]
    refine aRaw_min (k := .i64) (k' := .i64) (a := s.va) (b := 65535) (by simp) (by simp) ?_
    generalize hmm : (if 65535 < s.va then (65535 : Int) else s.va) = m at *
    simp [i64w (n := m + 1) (by omega)]
  case' inl.inl.inr.inl => simp [hlt, hb, hb2, Bl.d_eq, hlt2, hs, hs2, St.d_eq, w1, h5]
  case' inl.inl.inr.inr.inl =>
    simp [hlt, hb, hb2, Bl.d_eq, hlt2, hs, hs2, St.d_eq, w1, w3, h5]
    refine aRaw_min (k := .i64) (k' := .i64) (a := s.va) (b := 65535) (by simp) (by simp) ?_
    generalize hmm : (if 65535 < s.va then (65535 : Int) else s.va) = m at *
    simp [i64w (n := m + 1) (by omega)]
  case' inl.inl.inr.inr.inr.inl => simp [hlt, hb, hb2, Bl.d_eq, hlt2, hs, hs2, St.d_eq, w1, w3, h5]
  case' inl.inl.inr.inr.inr.inr => simp [hlt, hb, hb2, Bl.d_eq, hlt2, hs, hs2, St.d_eq, w1, w3]
  all_goals
    refine aLoop_st (fun q : Nat => [(1, .ptr 0 0 0 0), (3, aI .i64 (seeE.seeEs m3 (s.e.take q))), (4, aI .i64 i), (5, aI .i64 k), (6, .ptr 1 0 0 0), (7, aI .i64 q)])
      (fun _ => [gB g, ⟨0, true, 81, 8, [s.d.map AV.d]⟩])
      (fun q => q ≤ s.e.length) (fun q => s.e.length - q) 0 (Sub.refl _ _ _) 2 (by omega) (by simp [St.d_eq, w1, *]) (by simp [seeE.seeEs, hm]) (by omega) ?_
    rintro q hq K3 hK3
    rcases Nat.lt_or_ge q s.e.length with hlt3 | hge3
    case inr =>
      obtain rfl : q = s.e.length := by omega
      rw [List.take_length]
      simp [St.d_eq, succ_wrap hlt2 hbl]
      refine hK2 (k + 1) (by omega) (by omega) (Sub.refl _ _ _) 1 (by omega) (by simp) ?_
      rw [hts, hne]
      simp
    obtain ⟨y, hy⟩ : ∃ y, s.e[q]? = some y := ⟨_, List.getElem?_eq_getElem hlt3⟩
    have hy2 := (List.getElem?_eq_some_iff.1 hy).2
    have hte := seeEs_take hy m3
    have hre := seeEs_range (s.e.take q) m3 hr.1 hr.2
    have hye := hn b (List.mem_of_getElem? hb) s (List.mem_of_getElem? hs) y (List.mem_of_getElem? hy)
    generalize seeE.seeEs m3 (s.e.take q) = m4 at *
    have hlast := see_last (e := y) hre.2
    have hvl := varsR_len y
    simp [hlt3, hy, hy2, Ex.d_eq, St.d_eq]
    refine aCall_of (r19vars_af y hye) (by simp) (by simp [Ex.d_eq]) ?_; simp [Ex.d_eq]
    rw [hlast] at hte
    generalize varsR y = V at *
    cases hV : V.length with
    | zero =>
      have hV0 : V = [] := List.length_eq_zero_iff.1 hV
      subst hV0
      simp at hte
      simp [succ_wrap hlt3 hel]
      refine hK3 (q + 1) (by omega) (by omega) (Sub.refl _ _ _) 2 (by omega) (by simp [St.d_eq]) ?_
      rw [hte]
      simp
    | succ v =>
      obtain ⟨M, hM, hM2⟩ := last_get hV
      have hM3 := (List.getElem?_eq_some_iff.1 hM).2
      rw [hM2] at hte
      simp at hte
      have hvw := i64w (n := (v : Int)) (by omega)
      have hV0 : V ≠ [] := fun h => by rw [h] at hV; simp at hV
      have hsee := hte
      rw [seeI] at hsee
      simp [hV, hV0, hvw, hM, hM3]
      by_cases h6 : m4 ≤ M
      · rw [if_pos h6] at hsee
        simp [hV, hV0, hvw, hM, hM3, h6]
        refine aRaw_min (k := .i64) (k' := .i64) (a := M) (b := 65535) (by simp) (by simp) ?_
        generalize hmm : (if 65535 < M then (65535 : Int) else M) = mm at *
        have : mm ≤ 65535 := by rw [← hmm]; split <;> omega
        simp [i64w (n := mm + 1) (by omega), succ_wrap hlt3 hel]
        refine hK3 (q + 1) (by omega) (by omega) (Sub.refl _ _ _) 2 (by omega) (by simp [St.d_eq]) ?_
        rw [hsee]
        simp
      · rw [if_neg h6] at hsee
        simp [h6, succ_wrap hlt3 hel]
        refine hK3 (q + 1) (by omega) (by omega) (Sub.refl _ _ _) 2 (by omega) (by simp [St.d_eq]) ?_
        rw [hsee]
        simp
end Go.Proofs.YtoeimidochjddaaGreatDoor

/- Contracts: il.Load, il.Replace. -/
namespace Go.Proofs.YtoeimidochjddaaGreatDoor
open Go.RowKit
theorem load_af (n : Int) (a : Ex) (ha : a.nodes ≤ 1000000000) : AF Tryz.prog 26 [aI .i64 n, exA a] (exA (.mk 18 0 0 n [a])) := by
  refine af_of Tryz.func26 rfl (by kernel_rfl) (by simp [Tryz.ntmps26]) fun _ => ?_
  simp [Tryz.f26]
  refine aCall_of (own_af a ha) (by simp) (by simp [Ex.d_eq]) ?_
  simp [Ex.d_eq]
end Go.Proofs.YtoeimidochjddaaGreatDoor

/- Contract: the example of layer 19 holds. -/
namespace Go.Proofs.YtoeimidochjddaaGreatDoor
open Go.RowKit
end Go.Proofs.YtoeimidochjddaaGreatDoor
