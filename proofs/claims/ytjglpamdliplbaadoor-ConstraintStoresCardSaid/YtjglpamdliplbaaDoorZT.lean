/- Texts that the claim leans on, laid one behind the other: Uj, Uk, Ul, Um. -/
import Derived.Test.YtjglpamdliplbaaDoorZU
import Derived.Test.YtjglpamdliplbaaDoorZO
import Derived.Test.YtjglpamdliplbaaDoorZV
import Derived.Test.YtjglpamdliplbaaDoorZM
import Derived.Test.YtjglpamdliplbaaDoorAu
import Derived.Test.YtjglpamdliplbaaDoorZP
import Derived.Test.YtjglpamdliplbaaDoorZK
set_option linter.unusedSimpArgs false
set_option linter.unusedVariables false
set_option linter.unnecessarySimpa false
/- Contracts: law 32's one, same, left, large; constraints that are the same. -/
namespace Go.Proofs.YtjglpamdliplbaaDoor
open Go.RowKit
theorem l32one_af (c : Cn) : AF Tryd.prog 18 [cnA c] (cnA c) := by
  refine af_of Tryd.func18 rfl (by kernel_rfl) (by simp [Tryd.ntmps18]) fun _ => ?_; simp [Tryd.f18, Ex.d_eq]
theorem q31same_af (k s : Int) : AF Tryd.prog 53 [tyA k s, tyA k s] (aB true) := by
  refine af_of Tryd.func53 rfl (by kernel_rfl) (by simp [Tryd.ntmps53]) fun _ => ?_; simp [Tryd.f53, Ex.d_eq]
  refine aLoop_iter 1 ?_; simp [Ex.d_eq]
  refine aLoop_iter 1 ?_; simp [Ex.d_eq]
theorem q32Same_af (c : Cn) : AF Tryd.prog 29 [cnA c, cnA c] (aB true) := by
  refine af_of Tryd.func29 rfl (by kernel_rfl) (by simp [Tryd.ntmps29]) fun _ => ?_; simp [Tryd.f29, Ex.d_eq]
  refine aCall_of (q31same_af c.tk c.ts) (by simp) (by simp [Ex.d_eq]) ?_; simp [Ex.d_eq]
theorem l32same_af (L : List Cn) (hl : L.length ≤ maxLen) : AF Tryd.prog 11 [.d (.sl 10 (cns L)), .d (.sl 10 (cns L))] (aB true) := by
  refine af_of Tryd.func11 rfl (by kernel_rfl) (by simp [Tryd.ntmps11]) fun _ => ?_; simp [Tryd.f11, Ex.d_eq]
  refine aLoop_st (fun i : Nat => [(0, .d (.sl 10 (cns L))), (1, .d (.sl 10 (cns L))), (5, aI .i64 i)]) (fun _ => []) (fun i => i ≤ L.length) (fun i => L.length - i) 0 (Sub.refl _ _ _) 0 (by omega) (by simp) (by simp) (by omega) ?_
  rintro i hi K hK
  rcases Nat.lt_or_ge i L.length with hlt | hge
  case inl =>
    obtain ⟨c, hc⟩ : ∃ c, L[i]? = some c := ⟨_, List.getElem?_eq_getElem hlt⟩
    have hc2 := (List.getElem?_eq_some_iff.1 hc).2
    simp [hlt]
    refine adraw [] (by kernel_rfl) (by kernel_rfl) (by kernel_rfl) (by kernel_rfl) ?_; simp [Ex.d_eq]
    simp [hlt, hc, hc2, Cn.d_eq]
    refine adC_of (l32one_af c) (by simp) trivial (by simp) (by simp [Ex.d_eq]) ?_; simp [Ex.d_eq]
    try simp [hlt, hc, hc2, Cn.d_eq]
    refine adC_of (q32Same_af c) (by simp) trivial (by simp) (by simp [Ex.d_eq]) ?_; simp [Ex.d_eq]
    simp [succ_wrap hlt hl]
    exact hK (i + 1) (by omega) (by omega) (Sub.refl _ _ _) 0 (by omega) (by simp) (by simp)
  obtain rfl : i = L.length := by omega
  simp
/-- What is left of so many. -/
theorem l32left_af : ∀ (x : Ex) (m : Nat), 1 ≤ m → m ≤ 1000000000 → AF Tryd.prog 21 [exA x, aI .i64 m] (aI .i64 (m - x.nodes : Nat)) := by
  intro x
  induction x using Ex.ind with
  | h x ih =>
    intro m h1 h2
    refine af_of Tryd.func21 rfl (by kernel_rfl) (by simp [Tryd.ntmps21]) fun hb => ?_
    have n1 : x.l.length ≤ maxLen := by simpa using hb.1.2.2.2.2.1.1
    clear hb
    simp [Tryd.f21, i64w (n := (m : Int) - 1) (by omega)]
    refine aLoop_of (α := Nat) (fun i e A => i ≤ x.l.length ∧ A = [⟨0, true, 39, 5, [[aI .i64 x.op, aI .u32 x.n, aI .i64 x.v, aI .i64 x.wd, .d (.sl 5 (Ex.ds x.l))]]⟩] ∧ e 2 = .ptr 0 0 0 0 ∧ e 5 = aI .i64 i ∧
      e 1 = aI .i64 (m - 1 - Ex.nodess (x.l.take i) : Nat)) (fun i => x.l.length - i) 0 (Sub.refl _ _ _) ⟨by omega, by simp, by simp, by simp, by simp [Ex.nodess]; omega⟩ ?_
    rintro i e A ⟨hi, rfl, e2, e5, e1⟩ K hK
    simp [e2, e5]
    refine aG_split (fun hlt => ?_) (fun hge => ?_)
    · simp at hlt
      have hi1 := List.getElem?_eq_getElem hlt
      simp [e1, hlt]
      refine aCond_split (fun hpos => ?_) (fun hz => ?_)
      · simp at hpos
        simp [e2, e5, e1, hi1, Ex.d_eq]
        refine aCall_of (ih _ (List.mem_of_getElem? hi1) (m - 1 - Ex.nodess (x.l.take i)) (by omega) (by omega)) (by simp) (by simp) ?_
        simp [e5, succ_wrap hlt n1]
        refine hK (i + 1) _ _ _ _ (Sub.refl _ _ _) ⟨by omega, rfl, by simp [e2], by simp, ?_⟩ (by omega)
        simp
        rw [nodess_take hi1]
        omega
      · simp at hz
        simp [e1]
        have h3 := nodess_take_le x.l i
        rw [nodes_eq]
        omega
    · simp at hge
      obtain rfl : i = x.l.length := by omega
      simp [e1]
      rw [nodes_eq]
      omega
def lrgE (m : Int) (l : List Ex) : Int := if 0 < m then ((m.toNat - Ex.nodess l : Nat) : Int) else m
def lrgS : Int → List St → Int
  | n, [] => n
  | n, s :: l => if 0 < n then lrgS (lrgE (n - s.cs.length) s.e) l else n
def largeC (l : List St) : Bool := decide (lrgS (4000 - l.length) l ≤ 0)
theorem lrgS_neg {n : Int} (h : n ≤ 0) : ∀ l : List St, lrgS n l = n
  | [] => rfl
  | s :: l => by rw [lrgS, if_neg (by omega)]
theorem lrgS_app (n : Int) : ∀ l m : List St, lrgS n (l ++ m) = lrgS (lrgS n l) m
  | [], m => rfl
  | s :: l, m => by
    simp only [List.cons_append, lrgS]
    split
    · exact lrgS_app _ l m
    · rw [lrgS_neg (by omega)]
theorem lrgE_le (m : Int) (l : List Ex) : lrgE m l ≤ m := by
  unfold lrgE
  split <;> omega
theorem lrgS_le : ∀ (l : List St) (n : Int), lrgS n l ≤ n
  | [], n => Int.le_refl _
  | s :: l, n => by
    simp only [lrgS]
    split
    · have h1 := lrgS_le l (lrgE (n - s.cs.length) s.e)
      have h2 := lrgE_le (n - s.cs.length) s.e
      omega
    · exact Int.le_refl _
theorem lrgS_pos : ∀ {l : List St} {n : Int}, 0 < lrgS n l → ∀ s ∈ l, (s.cs.length : Int) < n ∧ (Ex.nodess s.e : Int) < n
  | [], _, _, s, hs => by cases hs
  | a :: l, n, h, s, hs => by
    simp only [lrgS] at h
    split at h
    case isFalse => omega
    have h1 := lrgS_le l (lrgE (n - a.cs.length) a.e)
    have h2 := lrgE_le (n - a.cs.length) a.e
    have h3 : 0 < lrgE (n - a.cs.length) a.e := by omega
    unfold lrgE at h3
    split at h3
    case isFalse => omega
    rcases List.mem_cons.1 hs with rfl | hs
    · omega
    · have := lrgS_pos h s hs
      omega
theorem large_not {l : List St} (h : largeC l = false) : l.length < 4000 ∧ ∀ s ∈ l, s.cs.length < 4000 ∧ Ex.nodess s.e < 4000 := by
  simp only [largeC, decide_eq_false_iff_not, Int.not_le] at h
  have h1 := lrgS_le l (4000 - l.length)
  refine ⟨by omega, fun s hs => ?_⟩
  have := lrgS_pos h s hs
  omega
theorem l32large_af (l : List St) (hl : l.length ≤ maxLen) (he : ∀ s ∈ l, s.e.length ≤ maxLen ∧ s.cs.length ≤ maxLen) : AF Tryd.prog 7 [.d (.sl 8 (sts l))] (aB (largeC l)) := by
  have hlm := hl
  unfold maxLen at hl
  refine af_of Tryd.func7 rfl (by kernel_rfl) (by simp [Tryd.ntmps7]) fun _ => ?_; simp [Tryd.f7, Ex.d_eq]
  simp [i64w (n := (4000 : Int) - l.length) (by omega)]
  refine aLoop_st (fun i : Nat => [(0, .d (.sl 8 (sts l))), (3, aI .i64 (lrgS (4000 - l.length) (l.take i))), (4, aI .i64 i)]) (fun _ => [])
    (fun i => i ≤ l.length) (fun i => l.length - i) 0 (Sub.refl _ _ _) 0 (by omega) (by simp) (by simp [lrgS]) (by omega) ?_
  rintro i hi K hK
  have hle := lrgS_le (l.take i) (4000 - l.length)
  have hfin : lrgS (4000 - l.length) (l.take i) ≤ 0 ∨ i = l.length → lrgS (4000 - l.length) (l.take i) = lrgS (4000 - l.length) l := fun h => by
    rcases h with h | h
    · have happ := lrgS_app (4000 - l.length) (l.take i) (l.drop i)
      rw [List.take_append_drop] at happ
      rw [happ, lrgS_neg h]
    · rw [h, List.take_length]
  rcases Nat.lt_or_ge i l.length with hlt | hge
  case inr =>
    obtain rfl : i = l.length := by omega
    have hv := hfin (.inr rfl)
    unfold largeC
    rw [← hv]
    simp
  by_cases h0 : lrgS (4000 - l.length) (l.take i) ≤ 0
  · have hv := hfin (.inl h0)
    unfold largeC
    rw [← hv]
    simp [hlt, h0, show ¬ 0 < lrgS (4000 - l.length) (l.take i) by omega]
  obtain ⟨s, hs⟩ : ∃ s, l[i]? = some s := ⟨_, List.getElem?_eq_getElem hlt⟩
  have hs2 := (List.getElem?_eq_some_iff.1 hs).2
  obtain ⟨hel, hcl⟩ := he s (List.mem_of_getElem? hs)
  have hts : lrgS (4000 - l.length) (l.take (i + 1)) = lrgE (lrgS (4000 - l.length) (l.take i) - s.cs.length) s.e := by
    rw [List.take_add_one, hs]
    simp only [Option.toList]
    rw [lrgS_app]
    simp only [lrgS]
    rw [if_pos (by omega)]
  generalize lrgS (4000 - l.length) (l.take i) = m at *
  have hmb : m ≤ 4000 := by omega
  clear hfin
  have hcl2 := hcl
  unfold maxLen at hcl2
  simp [hlt, show 0 < m by omega, hs, hs2, St.d_eq, i64w (n := m - s.cs.length) (by omega)]
  refine aLoop_st (fun q : Nat => [(0, .d (.sl 8 (sts l))), (3, aI .i64 (lrgE (m - s.cs.length) (s.e.take q))), (4, aI .i64 i), (5, aI .i64 q)]) (fun _ => [])
    (fun q => q ≤ s.e.length) (fun q => s.e.length - q) 0 (Sub.refl _ _ _) 0 (by omega) (by simp) (by simp [lrgE, Ex.nodess]; omega) (by omega) ?_
  rintro q hq K2 hK2
  have done : lrgE (m - s.cs.length) (s.e.take q) ≤ 0 ∨ q = s.e.length → lrgE (m - s.cs.length) (s.e.take q) = lrgE (m - s.cs.length) s.e := fun h => by
    have := nodess_take_le s.e q
    rcases h with h | h
    · unfold lrgE at h ⊢
      split
      · rename_i hp
        rw [if_pos hp] at h
        omega
      · rfl
    · rw [h, List.take_length]
  rcases Nat.lt_or_ge q s.e.length with hlt2 | hge2
  case inr =>
    obtain rfl : q = s.e.length := by omega
    have hv := done (.inr rfl)
    simp [hlt, hs, hs2, St.d_eq, succ_wrap hlt hlm]
    refine hK (i + 1) (by omega) (by omega) (Sub.refl _ _ _) 0 (by omega) (by simp) ?_
    rw [hts, ← hv]
    simp
  by_cases h1 : lrgE (m - s.cs.length) (s.e.take q) ≤ 0
  · have hv := done (.inl h1)
    simp [hlt, hs, hs2, St.d_eq, hlt2, show ¬ 0 < lrgE (m - s.cs.length) (s.e.take q) by omega, succ_wrap hlt hlm]
    refine hK (i + 1) (by omega) (by omega) (Sub.refl _ _ _) 0 (by omega) (by simp) ?_
    rw [hts, ← hv]
    simp
  obtain ⟨y, hy⟩ : ∃ y, s.e[q]? = some y := ⟨_, List.getElem?_eq_getElem hlt2⟩
  have hy2 := (List.getElem?_eq_some_iff.1 hy).2
  have htq := nodess_take hy
  have hpos : 0 < m - (s.cs.length : Int) := by
    unfold lrgE at h1
    split at h1
    · assumption
    · omega
  have hval : lrgE (m - s.cs.length) (s.e.take q) = (((m - s.cs.length).toNat - Ex.nodess (s.e.take q) : Nat) : Int) := by rw [lrgE, if_pos hpos]
  have hsub : lrgE (m - s.cs.length) (s.e.take (q + 1)) = ((((m - s.cs.length).toNat - Ex.nodess (s.e.take q)) - y.nodes : Nat) : Int) := by
    rw [lrgE, if_pos hpos, htq]
    omega
  rw [hval] at h1 ⊢
  obtain ⟨m2, hm2⟩ : ∃ m2 : Nat, (m - s.cs.length).toNat - Ex.nodess (s.e.take q) = m2 := ⟨_, rfl⟩
  rw [hm2] at h1 hsub ⊢
  simp [hlt, hs, hs2, St.d_eq, hlt2, hy, hy2, Ex.d_eq, show 0 < m2 by omega]
  refine aCall_of (l32left_af y m2 (by omega) (by omega)) (by simp) (by simp [Ex.d_eq]) ?_; simp [Ex.d_eq]
  simp [succ_wrap hlt2 hel]
  refine hK2 (q + 1) (by omega) (by omega) (Sub.refl _ _ _) 0 (by omega) (by simp) ?_
  rw [hsub]
  simp
end Go.Proofs.YtjglpamdliplbaaDoor

/- Contracts: the reference's targets, formed, Stmt of layer 32. -/
namespace Go.Proofs.YtjglpamdliplbaaDoor
open Go.RowKit
theorem q32targets_af (s : St) : AF Tryd.prog 26 [stV s] (aB (tgB s)) := by
  obtain ⟨R, hR⟩ : ∃ R, tgB s = R := ⟨_, rfl⟩
  rw [hR]
  unfold tgB at hR
  refine af_of Tryd.func26 rfl (by kernel_rfl) (by simp [Tryd.ntmps26]) fun _ => ?_; simp [Tryd.f26, Ex.d_eq]
  by_cases h1 : s.nx = 0
  · by_cases h2 : s.el = 0
    · simp [h1, h2] at hR
      subst hR
      simp [h1, h2]
    · by_cases h7 : s.op = 7
      · simp [h1, h2, h7] at hR
        subst hR
        simp [h1, h2, h7]
      · simp [h1, h2, h7] at hR
        subst hR
        simp [h1, h2, h7]
  · by_cases h6 : s.op = 6
    · by_cases h2 : s.el = 0
      · simp [h1, h2, h6] at hR
        subst hR
        simp [h1, h2, h6]
      · simp [h1, h2, h6] at hR
        subst hR
        simp [h1, h2, h6]
    · by_cases h7 : s.op = 7
      · by_cases h2 : s.el = 0
        · simp [h1, h2, h6, h7] at hR
          subst hR
          simp [h1, h2, h6, h7]
        · simp [h1, h2, h6, h7] at hR
          subst hR
          simp [h1, h2, h6, h7]
      · simp [h1, h6, h7] at hR
        subst hR
        simp [h1, h6, h7]
theorem zero_cs (l : List Int) : l.map (fun _ => (0 : Int)) = List.replicate l.length 0 := by
  induction l with
  | nil => rfl
  | cons a l ih => simp [ih, List.replicate_succ]
theorem q32formed_af (s : St) (hcs : s.cs.length ≤ 1000000) (hel : s.e.length ≤ 1000000) : AF Tryd.prog 27 [stV s] (aB (decide (grErr (grOne s) = 0))) := by
  have hcl : s.cs.length ≤ maxLen := by unfold maxLen; omega
  have hz : (zeroT s).cs = List.replicate s.cs.length 0 := zero_cs s.cs
  have cg := r19checkg_af (grOne s) (by
    refine ⟨by simp [grOne], fun b hb => ?_⟩
    simp only [grOne, List.mem_singleton] at hb
    subst hb
    unfold oneB
    split
    · refine ⟨by simp, fun t ht => ?_⟩
      simp at ht
      rcases ht with rfl | rfl
      · exact ⟨by simp [zeroT]; omega, by rw [hz]; simp; omega⟩
      · exact ⟨by simp [haltS], by simp [haltS]⟩
    · refine ⟨by simp, fun t ht => ?_⟩
      simp at ht
      subst ht
      exact ⟨by simp [zeroT]; omega, by rw [hz]; simp; omega⟩)
  obtain ⟨R, hR⟩ : ∃ R, grErr (grOne s) = R := ⟨_, rfl⟩
  rw [hR] at cg ⊢
  refine af_of Tryd.func27 rfl (by kernel_rfl) (by simp [Tryd.ntmps27]) fun _ => ?_; simp [Tryd.f27, Ex.d_eq]
  refine aLoop_st (fun i : Nat => [(1, .ptr 0 0 0 0), (3, .own 1 i 0 i), (4, aI .i64 i)])
    (fun i => [⟨0, true, 26, 8, [[aI .i64 s.op, aI .i64 s.va, aI .i64 s.wd, aI .i64 0, aI .i64 0, aI .u32 s.tg, .d (.sl 5 (Ex.ds s.e)), .d (.sl 1 (i64s s.cs))]]⟩, ⟨i, true, 3, 1, dEls (i64s (List.replicate i 0))⟩])
    (fun i => i ≤ s.cs.length) (fun i => s.cs.length - i) 0 ((Sub.ghost 0 3 1).trans (Sub.slot (s := 3) (c := .own 1 0 0 0) (by simp; exact VLe.nil_own (k := ⟨0, true, 3, 1, []⟩) (by simp) rfl))) 2 (by omega) (by simp [setEls]) (by simp) (by omega) ?_
  rintro i hi K hK
  rcases Nat.lt_or_ge i s.cs.length with hlt | hge
  case inl =>
    simp [hlt]
    refine aRaw_app byt_24 ?_
    simp
    refine ⟨by unfold maxLen; omega, by omega, ?_⟩
    simp [succ_wrap hlt hcl]
    exact hK (i + 1) (by omega) (by omega) (Sub.refl _ _ _) 2 (by omega) (by simp [List.replicate_succ']) (by simp)
  obtain rfl : i = s.cs.length := by omega
  rw [← hz]
  have hzl : (zeroT s).cs.length = s.cs.length := by rw [hz]; simp
  have ht : List.take s.cs.length (i64s (zeroT s).cs) = i64s (zeroT s).cs := List.take_of_length_le (by rw [hz]; simp)
  have hzd : (zeroT s).d = [.v (.int .i64 s.op), .v (.int .i64 s.va), .v (.int .i64 s.wd), .v (.int .i64 0), .v (.int .i64 0), .v (.int .u32 s.tg), .sl 5 (Ex.ds s.e), .sl 1 (i64s (zeroT s).cs)] := rfl
  have hhd : haltS.d = [.v (.int .i64 10), .v (.int .i64 0), .v (.int .i64 0), .v (.int .i64 0), .v (.int .i64 0), .v (.int .u32 0), .sl 5 [], .sl 1 []] := rfl
  by_cases hop : s.op < 6 ∨ 10 < s.op
  · have hb : oneB s = ⟨0, [zeroT s, haltS]⟩ := by rw [oneB, if_pos hop]
    simp only [grOne, hb] at cg
    rcases hop with h | h
    · simp [h]
      refine aRaw_app byt_28 ?_
      simp
      refine ⟨by unfold maxLen; omega, ?_⟩
      try simp
      refine aCall_ofz [1, 2, 5] cg (by simp) (by simp [frz, ht, Bl.d_eq, hzd, hhd, hzl]) ?_
      simp [frz]
    · simp [h, show ¬ s.op < 6 by omega]
      refine aRaw_app byt_28 ?_
      simp
      refine ⟨by unfold maxLen; omega, ?_⟩
      try simp
      refine aCall_ofz [1, 2, 5] cg (by simp) (by simp [frz, ht, Bl.d_eq, hzd, hhd, hzl]) ?_
      simp [frz]
  · have hb : oneB s = ⟨0, [zeroT s]⟩ := by rw [oneB, if_neg hop]
    simp only [grOne, hb] at cg
    simp [show ¬ s.op < 6 by omega, show ¬ 10 < s.op by omega]
    refine aCall_ofz [1, 2, 4] cg (by simp) (by simp [frz, ht, Bl.d_eq, hzd, hzl]) ?_
    simp [frz]
theorem q32Stmt_af (k : Nat) (s : St) (f : Int) (hl : s.e.length ≤ 1000000) (hcs : s.cs.length ≤ 1000000) (hn : Ex.nodess s.e ≤ 100000) (hk : Ex.nodess s.e ≤ k) (h0 : 0 ≤ f) (h1 : f ≤ 100000000) : AF Tryd.prog 10 [stV s, aI .i64 f] (.tup [.d (.sl 10 (cns (stC k f s).1)), aI .i64 (stC k f s).2]) := by
  have c1 := q32targets_af s
  have c2 := q32formed_af s hcs hl
  have hiff := formed_iff s
  obtain ⟨R, hR⟩ : ∃ R, stC k f s = R := ⟨_, rfl⟩
  rw [hR]
  unfold stC at hR
  by_cases hs : stErr s = 0
  case neg =>
    rw [if_neg hs] at hR
    subst hR
    cases ht : tgB s <;> rw [ht] at c1
    · refine af_of Tryd.func10 rfl (by kernel_rfl) (by simp [Tryd.ntmps10]) fun _ => ?_; simp [Tryd.f10, Ex.d_eq]
      refine aCall_of (c1) (by simp) (by simp [Ex.d_eq]) ?_; simp [Ex.d_eq]
    · have h3 : ¬ grErr (grOne s) = 0 := fun h => hs (hiff.1 ⟨ht, h⟩)
      rw [decide_eq_false h3] at c2
      refine af_of Tryd.func10 rfl (by kernel_rfl) (by simp [Tryd.ntmps10]) fun _ => ?_; simp [Tryd.f10, Ex.d_eq]
      refine aCall_of (c1) (by simp) (by simp [Ex.d_eq]) ?_; simp [Ex.d_eq]
      refine aCall_of (c2) (by simp) (by simp [Ex.d_eq]) ?_; simp [Ex.d_eq]
  obtain ⟨ht, h3⟩ := hiff.2 hs
  rw [if_pos hs] at hR
  rw [ht] at c1
  rw [decide_eq_true h3] at c2
  refine af_of Tryd.func10 rfl (by kernel_rfl) (by simp [Tryd.ntmps10]) fun _ => ?_; simp [Tryd.f10, Ex.d_eq]
  refine aCall_of (c1) (by simp) (by simp [Ex.d_eq]) ?_; simp [Ex.d_eq]
  refine aCall_of (c2) (by simp) (by simp [Ex.d_eq]) ?_; simp [Ex.d_eq]
  have hv := q32stmt_ac k s ⟨0, true, 26, 8, [[aI .i64 s.op, aI .i64 s.va, aI .i64 s.wd, aI .i64 s.nx, aI .i64 s.el, aI .u32 s.tg, .d (.sl 5 (Ex.ds s.e)), .d (.sl 1 (i64s s.cs))]]⟩ [] f [] hs hk h0 (by omega) (by simp; omega)
  rw [hR] at hv
  refine aCall_ofc (AC.pre (Sub.trans (Sub.ghost 0 67 10) (Sub.cell (b := 1) (i := 0) (o := 0) (c' := .own 2 0 0 0) rfl rfl rfl (VLe.nil_own (k := ⟨0, true, 67, 10, []⟩) rfl rfl))) (args' := [.ptr 1 0 0 0, stV s]) ?_ hv) (by simp) ?_
  · rfl
  · rintro _ _ ⟨rfl, N', rfl⟩
    simp
    refine adraw [] (by kernel_rfl) (by kernel_rfl) (by kernel_rfl) (by kernel_rfl) ?_; simp [Ex.d_eq]
    try simp
end Go.Proofs.YtjglpamdliplbaaDoor

/- Contracts: the example of layer 32 holds; the laws ConstraintStmts and ConstraintStores answer true. -/
namespace Go.Proofs.YtjglpamdliplbaaDoor
open Go.RowKit
/-- The calls that are taken by contract: those of layer 19, and Itoa of two digits and of -1. -/
def orc32 : XF := fun f args A =>
  if f = 38 then (match args with
    | [.d (.v (.int .i64 n))] => if n = -1 then some (aS ⟨#[45, 49]⟩, A) else if 10 ≤ n ∧ n < 100 then some (aS ⟨#[UInt8.ofNat (48 + n.toNat / 10), UInt8.ofNat (48 + n.toNat % 10)]⟩, A) else orc19 f args A
    | _ => none)
  else orc19 f args A
theorem dec_two {n : Nat} (h : 10 ≤ n) (h2 : n < 100) : Lib.decDigits n = [UInt8.ofNat (48 + n / 10), UInt8.ofNat (48 + n % 10)] := by
  rw [dec_ge (by omega), dec_lt (by omega)]
  rfl
theorem orc32_ok : XFok Tryd.prog orc32 := by
  intro f args A r A' h
  unfold orc32 at h
  split at h
  · rename_i hf
    split at h
    · rename_i n
      split at h
      · rename_i hn
        subst hf hn
        simp only [Option.some.injEq, Prod.mk.injEq] at h
        obtain ⟨rfl, rfl⟩ := h
        have h1 := itoaW_af (-1) (by omega)
        have h2 : bs (xInt (-1)) = ⟨#[45, 49]⟩ := by
          have : Lib.decDigits 1 = [49] := by rw [dec_lt (by omega)]; rfl
          unfold xInt Lib.itoa
          simp [this]
        rw [h2] at h1
        exact ⟨by kernel_rfl, AF.acs h1 (by simp [omap, reiV, argO]) rfl⟩
      · split at h
        · rename_i hn
          subst hf
          simp only [Option.some.injEq, Prod.mk.injEq] at h
          obtain ⟨rfl, rfl⟩ := h
          obtain ⟨m, hm⟩ : ∃ m : Nat, n = m := ⟨n.toNat, by omega⟩
          subst hm
          have h1 := itoaW_af (m : Int) (by omega)
          have h2 : bs (xInt (m : Int)) = ⟨#[UInt8.ofNat (48 + (m : Int).toNat / 10), UInt8.ofNat (48 + (m : Int).toNat % 10)]⟩ := by
            rw [xInt_nat (by omega)]
            simp only [Int.toNat_natCast]
            rw [dec_two (by omega) (by omega)]
          rw [h2] at h1
          exact ⟨by kernel_rfl, AF.acs h1 (by simp [omap, reiV, argO]) rfl⟩
        · exact orc19_ok f _ A r A' h
    · cases h
  · exact orc19_ok f args A r A' h
theorem okV (v : Int) : OkN (eVar v) := .mk r32_0 (by simp)
theorem okC {n : Int} (h1 : 0 ≤ n) (h2 : n < 4294967296) : OkN (eCon n) := okN_con ⟨h1, h2⟩
abbrev exS1 : St := ⟨1, 12, 0, 0, 0, 0, [.mk 18 0 0 4 [eTwo 3 (eVar 1) (eCon 8)]], []⟩
abbrev exS2 : St := ⟨2, 0, 1, 0, 0, 0, [eTwo 4 (eVar 2) (eCon 1), eCon 5], []⟩
theorem exC1 : stC 100 20 exS1 = ([⟨2, 1, 20, 8, 4, 0, 0⟩, ⟨0, 20, 12, 0, 0, 0, 0⟩], 21) := by kernel_rfl
theorem exC2 : stC 100 20 exS2 = ([⟨3, 2, 20, -1, 1, 0, 0⟩], 21) := by kernel_rfl
theorem exP1 : AF Tryd.prog 23 [cnA ⟨2, 1, 20, 8, 4, 0, 0⟩] (aS ⟨#[118, 50, 48, 32, 61, 32, 108, 111, 97, 100, 52, 32, 118, 49, 32, 56]⟩) := xres_af orc32_ok (lf := 100) (n := 60) (by kernel_rfl)
theorem exP2 : AF Tryd.prog 23 [cnA ⟨0, 20, 12, 0, 0, 0, 0⟩] (aS ⟨#[118, 50, 48, 32, 60, 58, 32, 118, 49, 50]⟩) := xres_af orc32_ok (lf := 100) (n := 60) (by kernel_rfl)
theorem exP3 : AF Tryd.prog 23 [cnA ⟨3, 2, 20, -1, 1, 0, 0⟩] (aS ⟨#[115, 116, 111, 114, 101, 49, 32, 118, 50, 32, 45, 49, 32, 61, 32, 118, 50, 48]⟩) := xres_af orc32_ok (lf := 100) (n := 60) (by kernel_rfl)
theorem fit_z {s : St} (h1 : s.nx = 0) (h2 : s.el = 0) (h3 : s.tg = 0) (h4 : ∀ x ∈ s.e, OkN x) (h5 : s.cs = []) : StFit s :=
  ⟨by rw [h1]; exact ⟨by omega, by omega⟩, by rw [h2]; exact ⟨by omega, by omega⟩, by rw [h3]; exact r32_0, h4, by rw [h5]; simp⟩
theorem l32ex_af : AF Tryd.prog 8 [] (aB true) := by
  have c1 := cStmt_af 100 exS1 20 (by simp) (fit_z rfl rfl rfl (by simp; exact .mk r32_0 (by simp; exact okN_two (okV 1) (okC (by omega) (by omega)))) rfl) (by simp [Ex.nodess, Ex.nodes]) (by simp [Ex.nodess, Ex.nodes]) (by omega) (by omega)
  have c2 := cStmt_af 100 exS2 20 (by simp) (fit_z rfl rfl rfl (by simp; exact ⟨okN_two (okV 2) (okC (by omega) (by omega)), okC (by omega) (by omega)⟩) rfl) (by simp [Ex.nodess, Ex.nodes]) (by simp [Ex.nodess, Ex.nodes]) (by omega) (by omega)
  rw [exC1] at c1
  rw [exC2] at c2
  refine af_of Tryd.func8 rfl (by kernel_rfl) (by simp [Tryd.ntmps8]) fun _ => ?_; simp [Tryd.f8, Ex.d_eq]
  refine aCall_of (var_af 1) (by simp) (by simp [Ex.d_eq]) ?_; simp [Ex.d_eq]
  refine aCall_of (const_af 8) (by simp) (by simp [Ex.d_eq]) ?_; simp [Ex.d_eq]
  refine aCall_of (two_af 3 (eVar 1) (eCon 8) (by simp) (by simp)) (by simp) (by simp [Ex.d_eq]) ?_; simp [Ex.d_eq]
  refine aCall_of (load_af 4 (eTwo 3 (eVar 1) (eCon 8)) (by simp)) (by simp) (by simp [Ex.d_eq]) ?_; simp [Ex.d_eq]
  refine aCall_ofz [0] c1 (by simp) (by simp [frz, Ex.d_eq, St.d_eq]) ?_; simp [frz, Ex.d_eq]
  refine aCall_of (var_af 2) (by simp) (by simp [Ex.d_eq]) ?_; simp [Ex.d_eq]
  refine aCall_of (const_af 1) (by simp) (by simp [Ex.d_eq]) ?_; simp [Ex.d_eq]
  refine aCall_of (two_af 4 (eVar 2) (eCon 1) (by simp) (by simp)) (by simp) (by simp [Ex.d_eq]) ?_; simp [Ex.d_eq]
  refine aCall_of (const_af 5) (by simp) (by simp [Ex.d_eq]) ?_; simp [Ex.d_eq]
  refine aCall_ofz [1] c2 (by simp) (by simp [frz, Ex.d_eq, St.d_eq]) ?_; simp [frz, Ex.d_eq]
  try simp [Cn.d_eq]
  refine aCall_of (exP1) (by simp) (by simp [Ex.d_eq]) ?_; simp [Ex.d_eq]
  try simp [Cn.d_eq]
  refine aCall_of (exP2) (by simp) (by simp [Ex.d_eq]) ?_; simp [Ex.d_eq]
  try simp [Cn.d_eq]
  refine aCall_of (exP3) (by simp) (by simp [Ex.d_eq]) ?_; simp [Ex.d_eq]
theorem stC_len (k : Nat) (f : Int) (s : St) (h0 : 0 ≤ f) (hk : Ex.nodess s.e ≤ k) : (stC k f s).1.length ≤ 2 * Ex.nodess s.e + 1 := by
  unfold stC
  split
  case isFalse => simp
  rename_i hs
  rcases st_kinds hs with ⟨o1, a, ha, haf⟩ | ⟨o2, a, b, ha, haf, hbf⟩ | ⟨o1, o2, o4, o7, o8, ha⟩ | ⟨ho, a, ha, haf⟩
  · rw [ha] at hk
    simp only [Ex.nodess, Nat.add_zero] at hk
    have r := (cnF_like k f a h0 haf hk).len
    rw [cnS, o1, ha]
    simp only [Ex.nodess, Nat.add_zero]
    split <;> simp <;> omega
  · rw [ha] at hk
    simp only [Ex.nodess, Nat.add_zero] at hk
    have hmn := movP_nodes a
    have r := cnF_like k f (movP a).1 h0 (movP_form haf) (by omega)
    have r2 := (cnF_like k (cnF k f (movP a).1).2.1 b (by have := r.lo; omega) hbf (by omega)).len
    have r1 := r.len
    rw [cnS, o2, ha]
    simp only [Ex.nodess, Nat.add_zero, List.length_append, List.length_singleton]
    omega
  · have hR : cnS k f s = ([], f) := by
      unfold cnS
      split
      · exact absurd ‹s.op = 1› o1
      · exact absurd ‹s.op = 2› o2
      · rw [ha]; rfl
    rw [hR]
    simp
  · rw [ha] at hk
    simp only [Ex.nodess, Nat.add_zero] at hk
    have r := (cnF_like k f a h0 haf hk).len
    have hR : cnS k f s = ((cnF k f a).1, (cnF k f a).2.1) := by
      unfold cnS
      split
      · exact absurd ‹s.op = 1› (by omega)
      · exact absurd ‹s.op = 2› (by omega)
      · rw [ha]; simp [cnL]
    rw [hR, ha]
    simp only [Ex.nodess, Nat.add_zero]
    omega
theorem lawstmts32_af (s : St) (f : Int) (hf : StFit s) : AF Tryd.prog 3 [stV s, aI .i64 f] (aB true) := by
  refine af_of Tryd.func3 rfl (by kernel_rfl) (by simp [Tryd.ntmps3]) fun hb => ?_
  have hsl : s.e.length ≤ maxLen ∧ s.cs.length ≤ maxLen := by
    simp only [BdL, Bd, BdD, Ex.ds_len, i64s_len] at hb
    exact ⟨by simpa using hb.1.2.2.2.2.2.2.1.1, by simpa using hb.1.2.2.2.2.2.2.2.1.1⟩
  clear hb
  simp [Tryd.f3]
  have cl := l32large_af [s] (by simp [maxLen]) fun t ht => by simp at ht; subst ht; exact hsl
  cases hlg : largeC [s] <;> rw [hlg] at cl
  case true =>
    refine aCall_ofs cl (by simp) (by simp [Ex.d_eq, St.d_eq]) (by simp) ?_; simp [Ex.d_eq]
    refine aCall_of (l32ex_af) (by simp) (by simp [Ex.d_eq]) ?_; simp [Ex.d_eq]
  refine aCall_ofs cl (by simp) (by simp [Ex.d_eq, St.d_eq]) (by simp) ?_; simp [Ex.d_eq]
  obtain ⟨_, l2⟩ := large_not hlg
  obtain ⟨l3, l4⟩ := l2 s (by simp)
  have hel := Ex.nodess_len s.e
  by_cases h0 : f < 0
  · simp [h0]
    refine aCall_of (l32ex_af) (by simp) (by simp [Ex.d_eq]) ?_; simp [Ex.d_eq]
  by_cases h1 : 1000000 < f
  · simp [h0, h1]
    refine aCall_of (l32ex_af) (by simp) (by simp [Ex.d_eq]) ?_; simp [Ex.d_eq]
  simp [h0, h1]
  have c1 := cStmt_af (Ex.nodess s.e) s f (by omega) hf (by omega) (Nat.le_refl _) (by omega) (by omega)
  have c2 := q32Stmt_af (Ex.nodess s.e) s f (by omega) (by omega) (by omega) (Nat.le_refl _) (by omega) (by omega)
  have hlen : (stC (Ex.nodess s.e) f s).1.length ≤ maxLen := by
    have := stC_len (Ex.nodess s.e) f s (by omega) (Nat.le_refl _)
    unfold maxLen
    omega
  have c3 := l32same_af (stC (Ex.nodess s.e) f s).1 hlen
  refine aCall_of (c1) (by simp) (by simp [Ex.d_eq]) ?_; simp [Ex.d_eq]
  refine aCall_of (c2) (by simp) (by simp [Ex.d_eq]) ?_; simp [Ex.d_eq]
  refine aCall_of (c3) (by simp) (by simp [Ex.d_eq]) ?_; simp [Ex.d_eq]
  refine aCall_of (l32ex_af) (by simp) (by simp [Ex.d_eq]) ?_; simp [Ex.d_eq]
end Go.Proofs.YtjglpamdliplbaaDoor

/- Contract: the law ConstraintStores answers true. -/
namespace Go.Proofs.YtjglpamdliplbaaDoor
open Go.RowKit
abbrev stoS (v w o wd : Int) : St := ⟨2, 0, wd, 0, 0, 0, [eTwo 3 (eVar v) (eCon o), eVar w], []⟩
theorem u32i32 {o : Int} (h : R32 o) : IntKind.u32.wrap (IntKind.i32.wrap o) = o := by
  obtain ⟨h1, h2⟩ := h
  simp only [IntKind.wrap, IntKind.bits, IntKind.signed]
  simp
  split <;> omega
theorem store_stC {v w o wd : Int} (f : Int) (hv : 0 ≤ v ∧ v ≤ 65535) (hw : 0 ≤ w ∧ w ≤ 65535) (hwd : wd = 1 ∨ wd = 2 ∨ wd = 4) : stC 100 f (stoS v w o wd) = ([⟨3, v, w, IntKind.i32.wrap o, wd, 0, 0⟩], f) := by
  have f1 : formB (eTwo 3 (eVar v) (eCon o)) = true := by
    rw [formB_eq]
    simp [okE, formB_eq, hv, show v < 65536 by omega]
  have f2 : formB (eVar w) = true := by
    rw [formB_eq]
    simp [okE, hw, show w < 65536 by omega]
  have e1 : exErr (eTwo 3 (eVar v) (eCon o)) = 0 := by
    unfold exErr
    rw [if_pos (by simp [shalB]), if_pos f1]
  have e2 : exErr (eVar w) = 0 := by
    unfold exErr
    rw [if_pos (by simp [shalB]), if_pos f2]
  have hs : stErr (stoS v w o wd) = 0 := by
    unfold stErr
    simp [exprsN, exsErr, e1, e2, fieldsB]
    try omega
  unfold stC
  rw [if_pos hs]
  rfl
theorem lawstores32_af (v w o wd f : Int) (ho : R32 o) : AF Tryd.prog 4 [aI .i64 v, aI .i64 w, aI .u32 o, aI .i64 wd, aI .i64 f] (aB true) := by
  refine af_of Tryd.func4 rfl (by kernel_rfl) (by simp [Tryd.ntmps4]) fun hb => ?_
  clear hb
  simp [Tryd.f4]
  by_cases h1 : v < 0
  · simp [h1]
    refine aCall_of (l32ex_af) (by simp) (by simp [Ex.d_eq]) ?_; simp [Ex.d_eq]
  by_cases h2 : 65535 < v
  · simp [h1, h2]
    refine aCall_of (l32ex_af) (by simp) (by simp [Ex.d_eq]) ?_; simp [Ex.d_eq]
  by_cases h3 : w < 0
  · simp [h1, h2, h3]
    refine aCall_of (l32ex_af) (by simp) (by simp [Ex.d_eq]) ?_; simp [Ex.d_eq]
  by_cases h4 : 65535 < w
  · simp [h1, h2, h3, h4]
    refine aCall_of (l32ex_af) (by simp) (by simp [Ex.d_eq]) ?_; simp [Ex.d_eq]
  by_cases h5 : wd = 1 ∨ wd = 2 ∨ wd = 4
  case neg =>
    simp only [not_or] at h5
    obtain ⟨h5, h6, h7⟩ := h5
    simp [h1, h2, h3, h4, h5, h6, h7]
    refine aCall_of (l32ex_af) (by simp) (by simp [Ex.d_eq]) ?_; simp [Ex.d_eq]
  by_cases h6 : f < 0
  · rcases h5 with rfl | rfl | rfl <;> simp [h1, h2, h3, h4, h6] <;> (refine aCall_of (l32ex_af) (by simp) (by simp [Ex.d_eq]) ?_; simp [Ex.d_eq])
  by_cases h7 : 65535 < f
  · rcases h5 with rfl | rfl | rfl <;> simp [h1, h2, h3, h4, h6, h7] <;> (refine aCall_of (l32ex_af) (by simp) (by simp [Ex.d_eq]) ?_; simp [Ex.d_eq])
  have c1 := cStmt_af 100 (stoS v w o wd) f (by simp) (fit_z rfl rfl rfl (by simp; exact ⟨okN_two (okV v) (okN_con ho), okV w⟩) rfl) (by simp [Ex.nodess]) (by simp [Ex.nodess]) (by omega) (by omega)
  rw [store_stC f ⟨by omega, by omega⟩ ⟨by omega, by omega⟩ h5] at c1
  have hu := u32i32 ho
  have hwd : (if wd = 1 then false else if wd = 2 then false else decide (¬ wd = 4)) = false := by
    rcases h5 with rfl | rfl | rfl <;> rfl
  have hw5 : ∀ x : Bool, (¬ wd = 1 → ¬ wd = 2 → wd = 4) := by intro _ _ _; omega
  rcases h5 with rfl | rfl | rfl
  all_goals
    simp [h1, h2, h3, h4, h6, h7]
    refine aCall_of (var_af v) (by simp) (by simp [Ex.d_eq]) ?_; simp [Ex.d_eq]
    refine aCall_of (const_af o) (by simp) (by simp [Ex.d_eq]) ?_; simp [Ex.d_eq]
    refine aCall_of (two_af 3 (eVar v) (eCon o) (by simp) (by simp)) (by simp) (by simp [Ex.d_eq]) ?_; simp [Ex.d_eq]
    refine aCall_of (var_af w) (by simp) (by simp [Ex.d_eq]) ?_; simp [Ex.d_eq]
    refine aCall_ofz [0] c1 (by simp) (by simp [frz, Ex.d_eq, St.d_eq]) ?_; simp [frz, Ex.d_eq, Cn.d_eq, hu]
    refine aCall_of (l32ex_af) (by simp) (by simp [Ex.d_eq]) ?_; simp [Ex.d_eq]
end Go.Proofs.YtjglpamdliplbaaDoor
