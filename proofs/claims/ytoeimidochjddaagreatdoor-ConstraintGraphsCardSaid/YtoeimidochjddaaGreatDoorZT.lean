/- Texts that the claim leans on, laid one behind the other: Uj, Uk, Ul. -/
import Derived.Test.YtoeimidochjddaaGreatDoorZU
import Derived.Test.YtoeimidochjddaaGreatDoorZB
import Derived.Test.YtoeimidochjddaaGreatDoorZM
import Derived.Test.YtoeimidochjddaaGreatDoorAu
import Derived.Test.YtoeimidochjddaaGreatDoorZP
import Derived.Test.YtoeimidochjddaaGreatDoorZK
set_option linter.unusedSimpArgs false
set_option linter.unusedVariables false
set_option linter.unnecessarySimpa false
/- Contracts: law 32's one, same, left, large; constraints that are the same. -/
namespace Go.Proofs.YtoeimidochjddaaGreatDoor
open Go.RowKit
theorem l32one_af (c : Cn) : AF Tryz.prog 41 [cnA c] (cnA c) := by
  refine af_of Tryz.func41 rfl (by kernel_rfl) (by simp [Tryz.ntmps41]) fun _ => ?_; simp [Tryz.f41, Ex.d_eq]
theorem q31same_af (k s : Int) : AF Tryz.prog 88 [tyA k s, tyA k s] (aB true) := by
  refine af_of Tryz.func88 rfl (by kernel_rfl) (by simp [Tryz.ntmps88]) fun _ => ?_; simp [Tryz.f88, Ex.d_eq]
  refine aLoop_iter 1 ?_; simp [Ex.d_eq]
  refine aLoop_iter 1 ?_; simp [Ex.d_eq]
theorem q32Same_af (c : Cn) : AF Tryz.prog 40 [cnA c, cnA c] (aB true) := by
  refine af_of Tryz.func40 rfl (by kernel_rfl) (by simp [Tryz.ntmps40]) fun _ => ?_; simp [Tryz.f40, Ex.d_eq]
  refine aCall_of (q31same_af c.tk c.ts) (by simp) (by simp [Ex.d_eq]) ?_; simp [Ex.d_eq]
theorem l32same_af (L : List Cn) (hl : L.length ≤ maxLen) : AF Tryz.prog 11 [.d (.sl 10 (cns L)), .d (.sl 10 (cns L))] (aB true) := by
  refine af_of Tryz.func11 rfl (by kernel_rfl) (by simp [Tryz.ntmps11]) fun _ => ?_; simp [Tryz.f11, Ex.d_eq]
  refine aLoop_st (fun i : Nat => [(0, .d (.sl 10 (cns L))), (1, .d (.sl 10 (cns L))), (5, aI .i64 i)]) (fun _ => []) (fun i => i ≤ L.length) (fun i => L.length - i) 0 (Sub.refl _ _ _) 0 (by omega) (by simp) (by simp) (by omega) ?_
  rintro i hi K hK
  rcases Nat.lt_or_ge i L.length with hlt | hge
  case inl =>
    obtain ⟨c, hc⟩ : ∃ c, L[i]? = some c := ⟨_, List.getElem?_eq_getElem hlt⟩
    have hc2 := (List.getElem?_eq_some_iff.1 hc).2
    simp [hlt]
    refine adraw [] (by kernel_rfl) (by kernel_rfl) (by kernel_rfl) (by kernel_rfl) ?_; simp [Ex.d_eq]
    simp [hlt, hc, hc2, Cn.d_eq]
    refine adC_of (l32one_af c) (by simp) trivial (by simp) (by simp [Ex.d_eq]) ?_; simp [Ex.d_eq]
    try simp [hlt, hc, hc2, Cn.d_eq]
    refine adC_of (q32Same_af c) (by simp) trivial (by simp) (by simp [Ex.d_eq]) ?_; simp [Ex.d_eq]
    simp [succ_wrap hlt hl]
    exact hK (i + 1) (by omega) (by omega) (Sub.refl _ _ _) 0 (by omega) (by simp) (by simp)
  obtain rfl : i = L.length := by omega
  simp
/-- What is left of so many. -/
theorem l32left_af : ∀ (x : Ex) (m : Nat), 1 ≤ m → m ≤ 1000000000 → AF Tryz.prog 68 [exA x, aI .i64 m] (aI .i64 (m - x.nodes : Nat)) := by
  intro x
  induction x using Ex.ind with
  | h x ih =>
    intro m h1 h2
    refine af_of Tryz.func68 rfl (by kernel_rfl) (by simp [Tryz.ntmps68]) fun hb => ?_
    have n1 : x.l.length ≤ maxLen := by simpa using hb.1.2.2.2.2.1.1
    clear hb
    simp [Tryz.f68, i64w (n := (m : Int) - 1) (by omega)]
    refine aLoop_of (α := Nat) (fun i e A => i ≤ x.l.length ∧ A = [⟨0, true, 42, 5, [[aI .i64 x.op, aI .u32 x.n, aI .i64 x.v, aI .i64 x.wd, .d (.sl 5 (Ex.ds x.l))]]⟩] ∧ e 2 = .ptr 0 0 0 0 ∧ e 5 = aI .i64 i ∧
      e 1 = aI .i64 (m - 1 - Ex.nodess (x.l.take i) : Nat)) (fun i => x.l.length - i) 0 (Sub.refl _ _ _) ⟨by omega, by simp, by simp, by simp, by simp [Ex.nodess]; omega⟩ ?_
    rintro i e A ⟨hi, rfl, e2, e5, e1⟩ K hK
    simp [e2, e5]
    refine aG_split (fun hlt => ?_) (fun hge => ?_)
    · simp at hlt
      have hi1 := List.getElem?_eq_getElem hlt
      simp [e1, hlt]
      refine aCond_split (fun hpos => ?_) (fun hz => ?_)
      · simp at hpos
        simp [e2, e5, e1, hi1, Ex.d_eq]
        refine aCall_of (ih _ (List.mem_of_getElem? hi1) (m - 1 - Ex.nodess (x.l.take i)) (by omega) (by omega)) (by simp) (by simp) ?_
        simp [e5, succ_wrap hlt n1]
        refine hK (i + 1) _ _ _ _ (Sub.refl _ _ _) ⟨by omega, rfl, by simp [e2], by simp, ?_⟩ (by omega)
        simp
        rw [nodess_take hi1]
        omega
      · simp at hz
        simp [e1]
        have h3 := nodess_take_le x.l i
        rw [nodes_eq]
        omega
    · simp at hge
      obtain rfl : i = x.l.length := by omega
      simp [e1]
      rw [nodes_eq]
      omega
def lrgE (m : Int) (l : List Ex) : Int := if 0 < m then ((m.toNat - Ex.nodess l : Nat) : Int) else m
def lrgS : Int → List St → Int
  | n, [] => n
  | n, s :: l => if 0 < n then lrgS (lrgE (n - s.cs.length) s.e) l else n
def largeC (l : List St) : Bool := decide (lrgS (4000 - l.length) l ≤ 0)
theorem lrgS_neg {n : Int} (h : n ≤ 0) : ∀ l : List St, lrgS n l = n
  | [] => rfl
  | s :: l => by rw [lrgS, if_neg (by omega)]
theorem lrgS_app (n : Int) : ∀ l m : List St, lrgS n (l ++ m) = lrgS (lrgS n l) m
  | [], m => rfl
  | s :: l, m => by
    simp only [List.cons_append, lrgS]
    split
    · exact lrgS_app _ l m
    · rw [lrgS_neg (by omega)]
theorem lrgE_le (m : Int) (l : List Ex) : lrgE m l ≤ m := by
  unfold lrgE
  split <;> omega
theorem lrgS_le : ∀ (l : List St) (n : Int), lrgS n l ≤ n
  | [], n => Int.le_refl _
  | s :: l, n => by
    simp only [lrgS]
    split
    · have h1 := lrgS_le l (lrgE (n - s.cs.length) s.e)
      have h2 := lrgE_le (n - s.cs.length) s.e
      omega
    · exact Int.le_refl _
theorem lrgS_pos : ∀ {l : List St} {n : Int}, 0 < lrgS n l → ∀ s ∈ l, (s.cs.length : Int) < n ∧ (Ex.nodess s.e : Int) < n
  | [], _, _, s, hs => by cases hs
  | a :: l, n, h, s, hs => by
    simp only [lrgS] at h
    split at h
    case isFalse => omega
    have h1 := lrgS_le l (lrgE (n - a.cs.length) a.e)
    have h2 := lrgE_le (n - a.cs.length) a.e
    have h3 : 0 < lrgE (n - a.cs.length) a.e := by omega
    unfold lrgE at h3
    split at h3
    case isFalse => omega
    rcases List.mem_cons.1 hs with rfl | hs
    · omega
    · have := lrgS_pos h s hs
      omega
theorem large_not {l : List St} (h : largeC l = false) : l.length < 4000 ∧ ∀ s ∈ l, s.cs.length < 4000 ∧ Ex.nodess s.e < 4000 := by
  simp only [largeC, decide_eq_false_iff_not, Int.not_le] at h
  have h1 := lrgS_le l (4000 - l.length)
  refine ⟨by omega, fun s hs => ?_⟩
  have := lrgS_pos h s hs
  omega
theorem l32large_af (l : List St) (hl : l.length ≤ maxLen) (he : ∀ s ∈ l, s.e.length ≤ maxLen ∧ s.cs.length ≤ maxLen) : AF Tryz.prog 24 [.d (.sl 8 (sts l))] (aB (largeC l)) := by
  have hlm := hl
  unfold maxLen at hl
  refine af_of Tryz.func24 rfl (by kernel_rfl) (by simp [Tryz.ntmps24]) fun _ => ?_; simp [Tryz.f24, Ex.d_eq]
  simp [i64w (n := (4000 : Int) - l.length) (by omega)]
  refine aLoop_st (fun i : Nat => [(0, .d (.sl 8 (sts l))), (3, aI .i64 (lrgS (4000 - l.length) (l.take i))), (4, aI .i64 i)]) (fun _ => [])
    (fun i => i ≤ l.length) (fun i => l.length - i) 0 (Sub.refl _ _ _) 0 (by omega) (by simp) (by simp [lrgS]) (by omega) ?_
  rintro i hi K hK
  have hle := lrgS_le (l.take i) (4000 - l.length)
  have hfin : lrgS (4000 - l.length) (l.take i) ≤ 0 ∨ i = l.length → lrgS (4000 - l.length) (l.take i) = lrgS (4000 - l.length) l := fun h => by
    rcases h with h | h
    · have happ := lrgS_app (4000 - l.length) (l.take i) (l.drop i)
      rw [List.take_append_drop] at happ
      rw [happ, lrgS_neg h]
    · rw [h, List.take_length]
  rcases Nat.lt_or_ge i l.length with hlt | hge
  case inr =>
    obtain rfl : i = l.length := by omega
    have hv := hfin (.inr rfl)
    unfold largeC
    rw [← hv]
    simp
  by_cases h0 : lrgS (4000 - l.length) (l.take i) ≤ 0
  · have hv := hfin (.inl h0)
    unfold largeC
    rw [← hv]
    simp [hlt, h0, show ¬ 0 < lrgS (4000 - l.length) (l.take i) by omega]
  obtain ⟨s, hs⟩ : ∃ s, l[i]? = some s := ⟨_, List.getElem?_eq_getElem hlt⟩
  have hs2 := (List.getElem?_eq_some_iff.1 hs).2
  obtain ⟨hel, hcl⟩ := he s (List.mem_of_getElem? hs)
  have hts : lrgS (4000 - l.length) (l.take (i + 1)) = lrgE (lrgS (4000 - l.length) (l.take i) - s.cs.length) s.e := by
    rw [List.take_add_one, hs]
    simp only [Option.toList]
    rw [lrgS_app]
    simp only [lrgS]
    rw [if_pos (by omega)]
  generalize lrgS (4000 - l.length) (l.take i) = m at *
  have hmb : m ≤ 4000 := by omega
  clear hfin
  have hcl2 := hcl
  unfold maxLen at hcl2
  simp [hlt, show 0 < m by omega, hs, hs2, St.d_eq, i64w (n := m - s.cs.length) (by omega)]
  refine aLoop_st (fun q : Nat => [(0, .d (.sl 8 (sts l))), (3, aI .i64 (lrgE (m - s.cs.length) (s.e.take q))), (4, aI .i64 i), (5, aI .i64 q)]) (fun _ => [])
    (fun q => q ≤ s.e.length) (fun q => s.e.length - q) 0 (Sub.refl _ _ _) 0 (by omega) (by simp) (by simp [lrgE, Ex.nodess]; omega) (by omega) ?_
  rintro q hq K2 hK2
  have done : lrgE (m - s.cs.length) (s.e.take q) ≤ 0 ∨ q = s.e.length → lrgE (m - s.cs.length) (s.e.take q) = lrgE (m - s.cs.length) s.e := fun h => by
    have := nodess_take_le s.e q
    rcases h with h | h
    · unfold lrgE at h ⊢
      split
      · rename_i hp
        rw [if_pos hp] at h
        omega
      · rfl
    · rw [h, List.take_length]
  rcases Nat.lt_or_ge q s.e.length with hlt2 | hge2
  case inr =>
    obtain rfl : q = s.e.length := by omega
    have hv := done (.inr rfl)
    simp [hlt, hs, hs2, St.d_eq, succ_wrap hlt hlm]
    refine hK (i + 1) (by omega) (by omega) (Sub.refl _ _ _) 0 (by omega) (by simp) ?_
    rw [hts, ← hv]
    simp
  by_cases h1 : lrgE (m - s.cs.length) (s.e.take q) ≤ 0
  · have hv := done (.inl h1)
    simp [hlt, hs, hs2, St.d_eq, hlt2, show ¬ 0 < lrgE (m - s.cs.length) (s.e.take q) by omega, succ_wrap hlt hlm]
    refine hK (i + 1) (by omega) (by omega) (Sub.refl _ _ _) 0 (by omega) (by simp) ?_
    rw [hts, ← hv]
    simp
  obtain ⟨y, hy⟩ : ∃ y, s.e[q]? = some y := ⟨_, List.getElem?_eq_getElem hlt2⟩
  have hy2 := (List.getElem?_eq_some_iff.1 hy).2
  have htq := nodess_take hy
  have hpos : 0 < m - (s.cs.length : Int) := by
    unfold lrgE at h1
    split at h1
    · assumption
    · omega
  have hval : lrgE (m - s.cs.length) (s.e.take q) = (((m - s.cs.length).toNat - Ex.nodess (s.e.take q) : Nat) : Int) := by rw [lrgE, if_pos hpos]
  have hsub : lrgE (m - s.cs.length) (s.e.take (q + 1)) = ((((m - s.cs.length).toNat - Ex.nodess (s.e.take q)) - y.nodes : Nat) : Int) := by
    rw [lrgE, if_pos hpos, htq]
    omega
  rw [hval] at h1 ⊢
  obtain ⟨m2, hm2⟩ : ∃ m2 : Nat, (m - s.cs.length).toNat - Ex.nodess (s.e.take q) = m2 := ⟨_, rfl⟩
  rw [hm2] at h1 hsub ⊢
  simp [hlt, hs, hs2, St.d_eq, hlt2, hy, hy2, Ex.d_eq, show 0 < m2 by omega]
  refine aCall_of (l32left_af y m2 (by omega) (by omega)) (by simp) (by simp [Ex.d_eq]) ?_; simp [Ex.d_eq]
  simp [succ_wrap hlt2 hel]
  refine hK2 (q + 1) (by omega) (by omega) (Sub.refl _ _ _) 0 (by omega) (by simp) ?_
  rw [hsub]
  simp
end Go.Proofs.YtoeimidochjddaaGreatDoor

/- Contracts: the reference's targets, formed, Stmt of layer 32. -/
namespace Go.Proofs.YtoeimidochjddaaGreatDoor
open Go.RowKit
end Go.Proofs.YtoeimidochjddaaGreatDoor

/- Contracts: the example of layer 32 holds; the laws ConstraintStmts and ConstraintStores answer true. -/
namespace Go.Proofs.YtoeimidochjddaaGreatDoor
open Go.RowKit
/-- The calls that are taken by contract: those of layer 19, and Itoa of two digits and of -1. -/
def orc32 : XF := fun f args A =>
  if f = 51 then (match args with
    | [.d (.v (.int .i64 n))] => if n = -1 then some (aS ⟨#[45, 49]⟩, A) else if 10 ≤ n ∧ n < 100 then some (aS ⟨#[UInt8.ofNat (48 + n.toNat / 10), UInt8.ofNat (48 + n.toNat % 10)]⟩, A) else orc19 f args A
    | _ => none)
  else orc19 f args A
theorem dec_two {n : Nat} (h : 10 ≤ n) (h2 : n < 100) : Lib.decDigits n = [UInt8.ofNat (48 + n / 10), UInt8.ofNat (48 + n % 10)] := by
  rw [dec_ge (by omega), dec_lt (by omega)]
  rfl
theorem orc32_ok : XFok Tryz.prog orc32 := by
  intro f args A r A' h
  unfold orc32 at h
  split at h
  · rename_i hf
    split at h
    · rename_i n
      split at h
      · rename_i hn
        subst hf hn
        simp only [Option.some.injEq, Prod.mk.injEq] at h
        obtain ⟨rfl, rfl⟩ := h
        have h1 := itoaW_af (-1) (by omega)
        have h2 : bs (xInt (-1)) = ⟨#[45, 49]⟩ := by
          have : Lib.decDigits 1 = [49] := by rw [dec_lt (by omega)]; rfl
          unfold xInt Lib.itoa
          simp [this]
        rw [h2] at h1
        exact ⟨by kernel_rfl, AF.acs h1 (by simp [omap, reiV, argO]) rfl⟩
      · split at h
        · rename_i hn
          subst hf
          simp only [Option.some.injEq, Prod.mk.injEq] at h
          obtain ⟨rfl, rfl⟩ := h
          obtain ⟨m, hm⟩ : ∃ m : Nat, n = m := ⟨n.toNat, by omega⟩
          subst hm
          have h1 := itoaW_af (m : Int) (by omega)
          have h2 : bs (xInt (m : Int)) = ⟨#[UInt8.ofNat (48 + (m : Int).toNat / 10), UInt8.ofNat (48 + (m : Int).toNat % 10)]⟩ := by
            rw [xInt_nat (by omega)]
            simp only [Int.toNat_natCast]
            rw [dec_two (by omega) (by omega)]
          rw [h2] at h1
          exact ⟨by kernel_rfl, AF.acs h1 (by simp [omap, reiV, argO]) rfl⟩
        · exact orc19_ok f _ A r A' h
    · cases h
  · exact orc19_ok f args A r A' h
theorem okV (v : Int) : OkN (eVar v) := .mk r32_0 (by simp)
theorem okC {n : Int} (h1 : 0 ≤ n) (h2 : n < 4294967296) : OkN (eCon n) := okN_con ⟨h1, h2⟩
abbrev exS1 : St := ⟨1, 12, 0, 0, 0, 0, [.mk 18 0 0 4 [eTwo 3 (eVar 1) (eCon 8)]], []⟩
abbrev exS2 : St := ⟨2, 0, 1, 0, 0, 0, [eTwo 4 (eVar 2) (eCon 1), eCon 5], []⟩
theorem exC1 : stC 100 20 exS1 = ([⟨2, 1, 20, 8, 4, 0, 0⟩, ⟨0, 20, 12, 0, 0, 0, 0⟩], 21) := by kernel_rfl
theorem exC2 : stC 100 20 exS2 = ([⟨3, 2, 20, -1, 1, 0, 0⟩], 21) := by kernel_rfl
theorem exP1 : AF Tryz.prog 30 [cnA ⟨2, 1, 20, 8, 4, 0, 0⟩] (aS ⟨#[118, 50, 48, 32, 61, 32, 108, 111, 97, 100, 52, 32, 118, 49, 32, 56]⟩) := xres_af orc32_ok (lf := 100) (n := 60) (by kernel_rfl)
theorem exP2 : AF Tryz.prog 30 [cnA ⟨0, 20, 12, 0, 0, 0, 0⟩] (aS ⟨#[118, 50, 48, 32, 60, 58, 32, 118, 49, 50]⟩) := xres_af orc32_ok (lf := 100) (n := 60) (by kernel_rfl)
theorem exP3 : AF Tryz.prog 30 [cnA ⟨3, 2, 20, -1, 1, 0, 0⟩] (aS ⟨#[115, 116, 111, 114, 101, 49, 32, 118, 50, 32, 45, 49, 32, 61, 32, 118, 50, 48]⟩) := xres_af orc32_ok (lf := 100) (n := 60) (by kernel_rfl)
theorem fit_z {s : St} (h1 : s.nx = 0) (h2 : s.el = 0) (h3 : s.tg = 0) (h4 : ∀ x ∈ s.e, OkN x) (h5 : s.cs = []) : StFit s :=
  ⟨by rw [h1]; exact ⟨by omega, by omega⟩, by rw [h2]; exact ⟨by omega, by omega⟩, by rw [h3]; exact r32_0, h4, by rw [h5]; simp⟩
theorem l32ex_af : AF Tryz.prog 8 [] (aB true) := by
  have c1 := cStmt_af 100 exS1 20 (by simp) (fit_z rfl rfl rfl (by simp; exact .mk r32_0 (by simp; exact okN_two (okV 1) (okC (by omega) (by omega)))) rfl) (by simp [Ex.nodess, Ex.nodes]) (by simp [Ex.nodess, Ex.nodes]) (by omega) (by omega)
  have c2 := cStmt_af 100 exS2 20 (by simp) (fit_z rfl rfl rfl (by simp; exact ⟨okN_two (okV 2) (okC (by omega) (by omega)), okC (by omega) (by omega)⟩) rfl) (by simp [Ex.nodess, Ex.nodes]) (by simp [Ex.nodess, Ex.nodes]) (by omega) (by omega)
  rw [exC1] at c1
  rw [exC2] at c2
  refine af_of Tryz.func8 rfl (by kernel_rfl) (by simp [Tryz.ntmps8]) fun _ => ?_; simp [Tryz.f8, Ex.d_eq]
  refine aCall_of (var_af 1) (by simp) (by simp [Ex.d_eq]) ?_; simp [Ex.d_eq]
  refine aCall_of (const_af 8) (by simp) (by simp [Ex.d_eq]) ?_; simp [Ex.d_eq]
  refine aCall_of (two_af 3 (eVar 1) (eCon 8) (by simp) (by simp)) (by simp) (by simp [Ex.d_eq]) ?_; simp [Ex.d_eq]
  refine aCall_of (load_af 4 (eTwo 3 (eVar 1) (eCon 8)) (by simp)) (by simp) (by simp [Ex.d_eq]) ?_; simp [Ex.d_eq]
  refine aCall_ofz [0] c1 (by simp) (by simp [frz, Ex.d_eq, St.d_eq]) ?_; simp [frz, Ex.d_eq]
  refine aCall_of (var_af 2) (by simp) (by simp [Ex.d_eq]) ?_; simp [Ex.d_eq]
  refine aCall_of (const_af 1) (by simp) (by simp [Ex.d_eq]) ?_; simp [Ex.d_eq]
  refine aCall_of (two_af 4 (eVar 2) (eCon 1) (by simp) (by simp)) (by simp) (by simp [Ex.d_eq]) ?_; simp [Ex.d_eq]
  refine aCall_of (const_af 5) (by simp) (by simp [Ex.d_eq]) ?_; simp [Ex.d_eq]
  refine aCall_ofz [1] c2 (by simp) (by simp [frz, Ex.d_eq, St.d_eq]) ?_; simp [frz, Ex.d_eq]
  try simp [Cn.d_eq]
  refine aCall_of (exP1) (by simp) (by simp [Ex.d_eq]) ?_; simp [Ex.d_eq]
  try simp [Cn.d_eq]
  refine aCall_of (exP2) (by simp) (by simp [Ex.d_eq]) ?_; simp [Ex.d_eq]
  try simp [Cn.d_eq]
  refine aCall_of (exP3) (by simp) (by simp [Ex.d_eq]) ?_; simp [Ex.d_eq]
end Go.Proofs.YtoeimidochjddaaGreatDoor
