/- Texts that the claim leans on, laid one behind the other: Uj, Uk, Ul, Uo. -/
import Derived.Test.YtjglpamdliplbaaDoorZU
import Derived.Test.YtjglpamdliplbaaDoorZO
import Derived.Test.YtjglpamdliplbaaDoorZM
import Derived.Test.YtjglpamdliplbaaDoorAu
import Derived.Test.YtjglpamdliplbaaDoorZP
import Derived.Test.YtjglpamdliplbaaDoorZK
set_option linter.unusedSimpArgs false
set_option linter.unusedVariables false
set_option linter.unnecessarySimpa false
/- Contracts: law 32's one, same, left, large; constraints that are the same. -/
namespace Go.Proofs.YtjglpamdliplbaaDoor
open Go.RowKit
end Go.Proofs.YtjglpamdliplbaaDoor

/- Contracts: the reference's targets, formed, Stmt of layer 32. -/
namespace Go.Proofs.YtjglpamdliplbaaDoor
open Go.RowKit
end Go.Proofs.YtjglpamdliplbaaDoor

/- Contracts: the example of layer 32 holds; the laws ConstraintStmts and ConstraintStores answer true. -/
namespace Go.Proofs.YtjglpamdliplbaaDoor
open Go.RowKit
/-- The calls that are taken by contract: those of layer 19, and Itoa of two digits and of -1. -/
def orc32 : XF := fun f args A =>
  if f = 38 then (match args with
    | [.d (.v (.int .i64 n))] => if n = -1 then some (aS ⟨#[45, 49]⟩, A) else if 10 ≤ n ∧ n < 100 then some (aS ⟨#[UInt8.ofNat (48 + n.toNat / 10), UInt8.ofNat (48 + n.toNat % 10)]⟩, A) else orc19 f args A
    | _ => none)
  else orc19 f args A
theorem dec_two {n : Nat} (h : 10 ≤ n) (h2 : n < 100) : Lib.decDigits n = [UInt8.ofNat (48 + n / 10), UInt8.ofNat (48 + n % 10)] := by
  rw [dec_ge (by omega), dec_lt (by omega)]
  rfl
theorem orc32_ok : XFok Tryd.prog orc32 := by
  intro f args A r A' h
  unfold orc32 at h
  split at h
  · rename_i hf
    split at h
    · rename_i n
      split at h
      · rename_i hn
        subst hf hn
        simp only [Option.some.injEq, Prod.mk.injEq] at h
        obtain ⟨rfl, rfl⟩ := h
        have h1 := itoaW_af (-1) (by omega)
        have h2 : bs (xInt (-1)) = ⟨#[45, 49]⟩ := by
          have : Lib.decDigits 1 = [49] := by rw [dec_lt (by omega)]; rfl
          unfold xInt Lib.itoa
          simp [this]
        rw [h2] at h1
        exact ⟨by kernel_rfl, AF.acs h1 (by simp [omap, reiV, argO]) rfl⟩
      · split at h
        · rename_i hn
          subst hf
          simp only [Option.some.injEq, Prod.mk.injEq] at h
          obtain ⟨rfl, rfl⟩ := h
          obtain ⟨m, hm⟩ : ∃ m : Nat, n = m := ⟨n.toNat, by omega⟩
          subst hm
          have h1 := itoaW_af (m : Int) (by omega)
          have h2 : bs (xInt (m : Int)) = ⟨#[UInt8.ofNat (48 + (m : Int).toNat / 10), UInt8.ofNat (48 + (m : Int).toNat % 10)]⟩ := by
            rw [xInt_nat (by omega)]
            simp only [Int.toNat_natCast]
            rw [dec_two (by omega) (by omega)]
          rw [h2] at h1
          exact ⟨by kernel_rfl, AF.acs h1 (by simp [omap, reiV, argO]) rfl⟩
        · exact orc19_ok f _ A r A' h
    · cases h
  · exact orc19_ok f args A r A' h
theorem okV (v : Int) : OkN (eVar v) := .mk r32_0 (by simp)
theorem okC {n : Int} (h1 : 0 ≤ n) (h2 : n < 4294967296) : OkN (eCon n) := okN_con ⟨h1, h2⟩
abbrev exS1 : St := ⟨1, 12, 0, 0, 0, 0, [.mk 18 0 0 4 [eTwo 3 (eVar 1) (eCon 8)]], []⟩
abbrev exS2 : St := ⟨2, 0, 1, 0, 0, 0, [eTwo 4 (eVar 2) (eCon 1), eCon 5], []⟩
theorem exC1 : stC 100 20 exS1 = ([⟨2, 1, 20, 8, 4, 0, 0⟩, ⟨0, 20, 12, 0, 0, 0, 0⟩], 21) := by kernel_rfl
theorem exC2 : stC 100 20 exS2 = ([⟨3, 2, 20, -1, 1, 0, 0⟩], 21) := by kernel_rfl
theorem exP1 : AF Tryd.prog 23 [cnA ⟨2, 1, 20, 8, 4, 0, 0⟩] (aS ⟨#[118, 50, 48, 32, 61, 32, 108, 111, 97, 100, 52, 32, 118, 49, 32, 56]⟩) := xres_af orc32_ok (lf := 100) (n := 60) (by kernel_rfl)
theorem exP2 : AF Tryd.prog 23 [cnA ⟨0, 20, 12, 0, 0, 0, 0⟩] (aS ⟨#[118, 50, 48, 32, 60, 58, 32, 118, 49, 50]⟩) := xres_af orc32_ok (lf := 100) (n := 60) (by kernel_rfl)
theorem exP3 : AF Tryd.prog 23 [cnA ⟨3, 2, 20, -1, 1, 0, 0⟩] (aS ⟨#[115, 116, 111, 114, 101, 49, 32, 118, 50, 32, 45, 49, 32, 61, 32, 118, 50, 48]⟩) := xres_af orc32_ok (lf := 100) (n := 60) (by kernel_rfl)
theorem fit_z {s : St} (h1 : s.nx = 0) (h2 : s.el = 0) (h3 : s.tg = 0) (h4 : ∀ x ∈ s.e, OkN x) (h5 : s.cs = []) : StFit s :=
  ⟨by rw [h1]; exact ⟨by omega, by omega⟩, by rw [h2]; exact ⟨by omega, by omega⟩, by rw [h3]; exact r32_0, h4, by rw [h5]; simp⟩
theorem l32ex_af : AF Tryd.prog 8 [] (aB true) := by
  have c1 := cStmt_af 100 exS1 20 (by simp) (fit_z rfl rfl rfl (by simp; exact .mk r32_0 (by simp; exact okN_two (okV 1) (okC (by omega) (by omega)))) rfl) (by simp [Ex.nodess, Ex.nodes]) (by simp [Ex.nodess, Ex.nodes]) (by omega) (by omega)
  have c2 := cStmt_af 100 exS2 20 (by simp) (fit_z rfl rfl rfl (by simp; exact ⟨okN_two (okV 2) (okC (by omega) (by omega)), okC (by omega) (by omega)⟩) rfl) (by simp [Ex.nodess, Ex.nodes]) (by simp [Ex.nodess, Ex.nodes]) (by omega) (by omega)
  rw [exC1] at c1
  rw [exC2] at c2
  refine af_of Tryd.func8 rfl (by kernel_rfl) (by simp [Tryd.ntmps8]) fun _ => ?_; simp [Tryd.f8, Ex.d_eq]
  refine aCall_of (var_af 1) (by simp) (by simp [Ex.d_eq]) ?_; simp [Ex.d_eq]
  refine aCall_of (const_af 8) (by simp) (by simp [Ex.d_eq]) ?_; simp [Ex.d_eq]
  refine aCall_of (two_af 3 (eVar 1) (eCon 8) (by simp) (by simp)) (by simp) (by simp [Ex.d_eq]) ?_; simp [Ex.d_eq]
  refine aCall_of (load_af 4 (eTwo 3 (eVar 1) (eCon 8)) (by simp)) (by simp) (by simp [Ex.d_eq]) ?_; simp [Ex.d_eq]
  refine aCall_ofz [0] c1 (by simp) (by simp [frz, Ex.d_eq, St.d_eq]) ?_; simp [frz, Ex.d_eq]
  refine aCall_of (var_af 2) (by simp) (by simp [Ex.d_eq]) ?_; simp [Ex.d_eq]
  refine aCall_of (const_af 1) (by simp) (by simp [Ex.d_eq]) ?_; simp [Ex.d_eq]
  refine aCall_of (two_af 4 (eVar 2) (eCon 1) (by simp) (by simp)) (by simp) (by simp [Ex.d_eq]) ?_; simp [Ex.d_eq]
  refine aCall_of (const_af 5) (by simp) (by simp [Ex.d_eq]) ?_; simp [Ex.d_eq]
  refine aCall_ofz [1] c2 (by simp) (by simp [frz, Ex.d_eq, St.d_eq]) ?_; simp [frz, Ex.d_eq]
  try simp [Cn.d_eq]
  refine aCall_of (exP1) (by simp) (by simp [Ex.d_eq]) ?_; simp [Ex.d_eq]
  try simp [Cn.d_eq]
  refine aCall_of (exP2) (by simp) (by simp [Ex.d_eq]) ?_; simp [Ex.d_eq]
  try simp [Cn.d_eq]
  refine aCall_of (exP3) (by simp) (by simp [Ex.d_eq]) ?_; simp [Ex.d_eq]
end Go.Proofs.YtjglpamdliplbaaDoor

/- Contracts: the variables of constraints, the reference's, the law ConstraintVars. -/
namespace Go.Proofs.YtjglpamdliplbaaDoor
open Go.RowKit
theorem l32oneV_af (c : CV) : AF Tryd.prog 18 [cvA c] (cvA c) := by
  refine af_of Tryd.func18 rfl (by kernel_rfl) (by simp [Tryd.ntmps18]) fun _ => ?_; simp [Tryd.f18, Ex.d_eq]
theorem q32insert_af (l : List Int) (n : Int) (hl : l.length ≤ 1000000) : AF Tryd.prog 37 [.d (.sl 1 (i64s l)), aI .i64 n] (.d (.sl 1 (i64s (insL l n)))) := by
  have hlm : l.length ≤ maxLen := by unfold maxLen; omega
  have hend := @oI_end l n
  obtain ⟨h1, h2, h3⟩ := lowN_spec n l
  obtain ⟨k, hk⟩ : ∃ k, lowN n l = k := ⟨_, rfl⟩
  rw [hk] at h1 h2 h3 hend
  have hol := fun i => oI_len l n k i
  refine af_of Tryd.func37 rfl (by kernel_rfl) (by simp [Tryd.ntmps37]) fun _ => ?_
  simp [Tryd.f37]
  refine aLoop_st (fun i : Nat => [(0, .d (.sl 1 (i64s l))), (1, aI .i64 n), (5, .own 0 (oI l n k i).length 0 (oI l n k i).length), (6, aB (decide (k < i))), (7, aI .i64 i)]) (fun i => [⟨(oI l n k i).length, true, 3, 1, dEls (i64s (oI l n k i))⟩])
    (fun i => i ≤ l.length) (fun i => l.length - i) 0 ((Sub.ghost 0 3 1).trans (Sub.slot (s := 5) (c := .own 0 0 0 0) (by simp; exact VLe.nil_own (k := ⟨0, true, 3, 1, []⟩) rfl rfl))) 1 (by omega) (by simp [oI_0, dEls, i64s]) (by simp [oI_0]) (by omega) ?_
  rintro i hi K hK
  rcases Nat.lt_or_ge i l.length with hlt | hge
  case inr =>
    obtain rfl : i = l.length := by omega
    by_cases hkl : k < l.length
    · rw [if_pos hkl] at hend
      rw [← hend]
      simp [hkl]
    · rw [if_neg hkl] at hend
      rw [← hend]
      simp [hkl]
      refine aRaw_app byt_24 ?_
      simp [dEls_i64]
      have := hol l.length
      refine ⟨by unfold maxLen; omega, by omega, ?_⟩
      obtain ⟨Y, hY⟩ : ∃ Y, oI l n k l.length ++ [n] = Y := ⟨_, rfl⟩
      have hY1 : (oI l n k l.length).length + 1 = Y.length := by rw [← hY]; simp
      have hY2 : dEls (i64s (oI l n k l.length)) ++ [[AV.d (D.v (Value.int IntKind.i64 n))]] = dEls (i64s Y) := by rw [← hY]; simp [dEls, i64s]
      have hY3 : i64s (oI l n k l.length) ++ [[D.v (Value.int IntKind.i64 n)]] = i64s Y := by rw [← hY]; simp [i64s]
      rw [hY1, hY2, hY3]
      simp
  obtain ⟨a, ha⟩ : ∃ a, l[i]? = some a := ⟨_, List.getElem?_eq_getElem hlt⟩
  have ha2 := (List.getElem?_eq_some_iff.1 ha).2
  have hb := hol i
  rcases Nat.lt_trichotomy i k with hik | rfl | hik
  · have hx := h2 i a hik ha
    have e1 := oI_le (n := n) (.inl hik) ha
    simp [hlt, ha, ha2, show ¬ k < i by omega, show ¬ n ≤ a by omega]
    refine aRaw_app byt_24 ?_
    simp [dEls_i64]
    refine ⟨by unfold maxLen; omega, by omega, ?_⟩
    simp [succ_wrap hlt hlm]
    exact hK (i + 1) (by omega) (by omega) (Sub.refl _ _ _) 1 (by omega) (by simp [e1]) (by simp [e1, show ¬ k < i + 1 by omega])
  · have hx := h3 a ha
    by_cases hn : a = n
    · have e1 := oI_le (n := n) (k := i) (.inr (hn ▸ ha)) ha
      simp [hlt, ha, ha2, hn]
      refine aRaw_app byt_24 ?_
      simp [dEls_i64]
      refine ⟨by unfold maxLen; omega, by omega, ?_⟩
      simp [succ_wrap hlt hlm]
      subst hn
      exact hK (i + 1) (by omega) (by omega) (Sub.refl _ _ _) 1 (by omega) (by simp [e1]) (by simp [e1])
    · have e1 := oI_eq ha hn
      simp [hlt, ha, ha2, show n ≤ a by omega, show n < a by omega]
      refine aRaw_app byt_24 ?_
      simp [dEls_i64]
      refine ⟨by unfold maxLen; omega, by omega, ?_⟩
      simp [hlt, ha, ha2]
      refine aRaw_app byt_24 ?_
      simp [dEls_i64]
      refine ⟨by unfold maxLen; omega, by omega, ?_⟩
      simp [succ_wrap hlt hlm]
      exact hK (i + 1) (by omega) (by omega) (Sub.refl _ _ _) 1 (by omega) (by simp [e1]) (by simp [e1])
  · have e1 := oI_gt (n := n) hik ha
    simp [hlt, ha, ha2, hik]
    refine aRaw_app byt_24 ?_
    simp [dEls_i64]
    refine ⟨by unfold maxLen; omega, by omega, ?_⟩
    simp [succ_wrap hlt hlm]
    exact hK (i + 1) (by omega) (by omega) (Sub.refl _ _ _) 1 (by omega) (by simp [e1]) (by simp [e1, show k < i + 1 by omega])
theorem fold_app (l : List Int) (V W : List Int) : (V ++ W).foldl insL l = W.foldl insL (V.foldl insL l) := List.foldl_append
theorem q32Vars_af (L : List CV) (hl : L.length ≤ 300) : AF Tryd.prog 20 [.d (.sl 10 (cvs L))] (.d (.sl 1 (i64s ((cvals L).foldl insL [])))) := by
  have hlm : L.length ≤ maxLen := by unfold maxLen; omega
  have hlen : ∀ i, ((cvals (L.take i)).foldl insL []).length ≤ 600 := fun i => by
    have h1 := (fold_compact (cvals (L.take i))).2
    have h2 := cvals_len (L.take i)
    have h3 : (L.take i).length ≤ L.length := by simp; omega
    omega
  refine af_of Tryd.func20 rfl (by kernel_rfl) (by simp [Tryd.ntmps20]) fun _ => ?_
  simp [Tryd.f20]
  refine aLoop_st (fun i : Nat => [(0, .d (.sl 10 (cvs L))), (3, .d (.sl 1 (i64s ((cvals (L.take i)).foldl insL [])))), (4, aI .i64 i)]) (fun _ => []) (fun i => i ≤ L.length) (fun i => L.length - i) 0 (Sub.slot (s := 3) (c := .d (.sl 1 [])) (by simp; exact VLe.nil_sl 1)) 0 (by omega) (by simp) (by simp [cvals]) (by omega) ?_
  rintro i hi K hK
  rcases Nat.lt_or_ge i L.length with hlt | hge
  case inr =>
    obtain rfl : i = L.length := by omega
    simp
  obtain ⟨c, hc⟩ : ∃ c, L[i]? = some c := ⟨_, List.getElem?_eq_getElem hlt⟩
  have hc2 := (List.getElem?_eq_some_iff.1 hc).2
  have ht := cvals_take hc
  have hi0 := hlen i
  obtain ⟨X, hX⟩ : ∃ X, (cvals (L.take i)).foldl insL [] = X := ⟨_, rfl⟩
  rw [hX] at hi0
  have hX1 : (cvals (L.take (i + 1))).foldl insL [] = (cval c).foldl insL X := by rw [ht, fold_app, hX]
  simp only [hX]
  by_cases h1 : c.kd < 0
  · have hv : cval c = [] := by unfold cval; rw [if_pos (.inl h1)]
    simp [hlt, hc, hc2, CV.d_eq, h1, succ_wrap hlt hlm]
    exact hK (i + 1) (by omega) (by omega) (Sub.refl _ _ _) 0 (by omega) (by simp) (by simp [hX1, hv])
  by_cases h2 : 4 < c.kd
  · have hv : cval c = [] := by unfold cval; rw [if_pos (.inr h2)]
    simp [hlt, hc, hc2, CV.d_eq, h1, h2, succ_wrap hlt hlm]
    exact hK (i + 1) (by omega) (by omega) (Sub.refl _ _ _) 0 (by omega) (by simp) (by simp [hX1, hv])
  simp [hlt, hc, hc2, CV.d_eq, h1, h2]
  refine aCall_of (q32insert_af X c.a (by omega)) (by simp) (by simp) ?_
  simp [hlt, hc, hc2, CV.d_eq]
  by_cases h3 : c.kd = 1
  · have hv : cval c = [c.a] := by unfold cval; rw [if_neg (by omega), if_pos h3]
    simp [h3, succ_wrap hlt hlm]
    exact hK (i + 1) (by omega) (by omega) (Sub.refl _ _ _) 0 (by omega) (by simp) (by simp [hX1, hv])
  · have hv : cval c = [c.a, c.b] := by unfold cval; rw [if_neg (by omega), if_neg h3]
    have hx : (insL X c.a).length ≤ 1000000 := by
      have := fold_len [c.a] X
      simp at this
      omega
    simp [h3, hlt, hc, hc2, CV.d_eq]
    refine aCall_of (q32insert_af (insL X c.a) c.b hx) (by simp) (by simp) ?_
    simp [succ_wrap hlt hlm]
    exact hK (i + 1) (by omega) (by omega) (Sub.refl _ _ _) 0 (by omega) (by simp) (by simp [hX1, hv])
theorem cVars_af (L : List CV) (hl : L.length ≤ 300) : AF Tryd.prog 19 [.d (.sl 10 (cvs L))] (.d (.sl 1 (i64s ((cvals L).foldl insL [])))) := by
  have hlm : L.length ≤ maxLen := by unfold maxLen; omega
  have hlen : ∀ i, (cvals (L.take i)).length ≤ 600 := fun i => by
    have h2 := cvals_len (L.take i)
    have h3 : (L.take i).length ≤ L.length := by simp; omega
    omega
  refine af_of Tryd.func19 rfl (by kernel_rfl) (by simp [Tryd.ntmps19]) fun _ => ?_
  simp [Tryd.f19]
  refine aLoop_st (fun i : Nat => [(3, .own 0 (cvals (L.take i)).length 0 (cvals (L.take i)).length), (6, .d (.sl 10 (cvs L))), (7, aI .i64 L.length), (8, aI .i64 i)]) (fun i => [blkL (cvals (L.take i))])
    (fun i => i ≤ L.length) (fun i => L.length - i) 0 ((Sub.ghost 0 3 1).trans (Sub.slot (s := 3) (c := .own 0 0 0 0) (by simp; exact VLe.nil_own (k := ⟨0, true, 3, 1, []⟩) rfl rfl))) 1 (by omega) (by simp [cvals, dEls, i64s]) (by simp [cvals]) (by omega) ?_
  rintro i hi K hK
  rcases Nat.lt_or_ge i L.length with hlt | hge
  case inr =>
    obtain rfl : i = L.length := by omega
    rw [List.take_length]
    have h6 := hlen L.length
    rw [List.take_length] at h6
    obtain ⟨c1, c2⟩ := fold_compact (cvals L)
    generalize cvals L = V at *
    have c4 := srt_len V
    simp
    refine aCall_ofc (sort_ac V _ 0 V.length 3 rfl (by omega)) (by simp) ?_
    rintro _ _ ⟨rfl, rfl⟩
    have k2 := fun A hA => compact_ac (srt V) (V.foldl insL []) A 0 V.length 3 hA (by omega) c1 (by omega)
    rw [c4] at k2
    simp
    refine aCall_ofc (k2 _ rfl) (by simp) ?_
    rintro _ _ ⟨rfl, rfl⟩
    simp
  obtain ⟨c, hc⟩ : ∃ c, L[i]? = some c := ⟨_, List.getElem?_eq_getElem hlt⟩
  have hc2 := (List.getElem?_eq_some_iff.1 hc).2
  have ht := cvals_take hc
  have hi0 := hlen i
  obtain ⟨X, hX⟩ : ∃ X, cvals (L.take i) = X := ⟨_, rfl⟩
  rw [hX] at hi0 ht
  simp only [hX]
  by_cases h1 : c.kd < 0
  · have hv : cval c = [] := by unfold cval; rw [if_pos (.inl h1)]
    simp [hlt, hc, hc2, CV.d_eq, h1, succ_wrap hlt hlm]
    exact hK (i + 1) (by omega) (by omega) (Sub.refl _ _ _) 1 (by omega) (by simp [ht, hv]) (by simp [ht, hv])
  by_cases h2 : 4 < c.kd
  · have hv : cval c = [] := by unfold cval; rw [if_pos (.inr h2)]
    simp [hlt, hc, hc2, CV.d_eq, h1, h2, succ_wrap hlt hlm]
    exact hK (i + 1) (by omega) (by omega) (Sub.refl _ _ _) 1 (by omega) (by simp [ht, hv]) (by simp [ht, hv])
  simp [hlt, hc, hc2, CV.d_eq, h1, h2]
  refine aRaw_app byt_24 ?_
  simp [dEls_i64]
  refine ⟨by unfold maxLen; omega, by omega, ?_⟩
  by_cases h3 : c.kd = 1
  · have hv : cval c = [c.a] := by unfold cval; rw [if_neg (by omega), if_pos h3]
    simp [h3, succ_wrap hlt hlm]
    exact hK (i + 1) (by omega) (by omega) (Sub.refl _ _ _) 1 (by omega) (by simp [ht, hv]) (by simp [ht, hv])
  · have hv : cval c = [c.a, c.b] := by unfold cval; rw [if_neg (by omega), if_neg h3]
    simp [h3]
    refine aRaw_app byt_24 ?_
    simp [dEls_i64]
    refine ⟨by unfold maxLen; omega, by omega, ?_⟩
    simp [succ_wrap hlt hlm]
    exact hK (i + 1) (by omega) (by omega) (Sub.refl _ _ _) 1 (by omega) (by simp [ht, hv]) (by simp [ht, hv])
theorem lawvars32_af (L : List CV) : AF Tryd.prog 6 [.d (.sl 10 (cvs L))] (aB true) := by
  refine af_of Tryd.func6 rfl (by kernel_rfl) (by simp [Tryd.ntmps6]) fun _ => ?_
  simp [Tryd.f6]
  by_cases hl : (300 : Int) < (L.length : Int)
  · simp [hl]
    refine aCall_of (l32ex_af) (by simp) (by simp [Ex.d_eq]) ?_; simp [Ex.d_eq]
  have hlm : L.length ≤ maxLen := by unfold maxLen; omega
  simp [hl]
  refine aLoop_st (fun i : Nat => [(0, .d (.sl 10 (cvs L))), (3, .own 0 i 0 i), (4, aI .i64 i)]) (fun i => [⟨i, true, 67, 10, dEls (cvs (L.take i))⟩])
    (fun i => i ≤ L.length) (fun i => L.length - i) 0 ((Sub.ghost 0 67 10).trans (Sub.slot (s := 3) (c := .own 0 0 0 0) (by simp; exact VLe.nil_own (k := ⟨0, true, 67, 10, []⟩) rfl rfl))) 1 (by omega) (by simp [dEls]) (by simp) (by omega) ?_
  rintro i hi K hK
  rcases Nat.lt_or_ge i L.length with hlt | hge
  case inl =>
    obtain ⟨c, hc⟩ : ∃ c, L[i]? = some c := ⟨_, List.getElem?_eq_getElem hlt⟩
    have hc2 := (List.getElem?_eq_some_iff.1 hc).2
    have ht : cvs (L.take (i + 1)) = cvs (L.take i) ++ [c.d] := by rw [List.take_add_one, hc]; simp
    have hmin : min i L.length = i := by omega
    simp [hlt, hc, hc2, CV.d_eq]
    refine aCall_of (l32oneV_af c) (by simp) (by simp) ?_
    simp
    refine aRaw_app byt_33 ?_
    simp [hmin]
    refine ⟨by unfold maxLen; omega, by omega, ?_⟩
    simp [succ_wrap hlt hlm]
    exact hK (i + 1) (by omega) (by omega) (Sub.refl _ _ _) 1 (by omega) (by simp [ht, CV.d_eq]) (by simp)
  obtain rfl : i = L.length := by omega
  rw [List.take_length]
  have c1 := cVars_af L (by omega)
  have c2 := q32Vars_af L (by omega)
  have hV := (fold_compact (cvals L)).2
  have hV2 := cvals_len L
  generalize (cvals L).foldl insL [] = V at *
  simp
  refine aCall_of c1 (by simp) (by simp) ?_
  simp
  refine aCall_ofz [0] c2 (by simp) (by simp [frz]) ?_; simp [frz]
  have hvm : V.length ≤ maxLen := by unfold maxLen; omega
  refine aLoop_st (fun i : Nat => [(5, .d (.sl 1 (i64s V))), (6, .d (.sl 1 (i64s V))), (7, aI .i64 i)]) (fun _ => []) (fun i => i ≤ V.length) (fun i => V.length - i) 0 (Sub.refl _ _ _) 0 (by omega) (by simp) (by simp) (by omega) ?_
  rintro i hi K hK
  rcases Nat.lt_or_ge i V.length with hlt | hge
  case inl =>
    obtain ⟨c, hc⟩ : ∃ c, V[i]? = some c := ⟨_, List.getElem?_eq_getElem hlt⟩
    have hc2 := (List.getElem?_eq_some_iff.1 hc).2
    simp [hlt]
    refine adraw [] (by kernel_rfl) (by kernel_rfl) (by kernel_rfl) (by kernel_rfl) ?_; simp [Ex.d_eq]
    simp [hlt, hc, hc2, succ_wrap hlt hvm]
    exact hK (i + 1) (by omega) (by omega) (Sub.refl _ _ _) 0 (by omega) (by simp) (by simp)
  obtain rfl : i = V.length := by omega
  simp
  refine aCall_of (l32ex_af) (by simp) (by simp [Ex.d_eq]) ?_; simp [Ex.d_eq]
end Go.Proofs.YtjglpamdliplbaaDoor
