/- Texts that the claim leans on, laid one behind the other: Zo, Zp, Zq, Zr, Zs, Zt, Zu, Zv, Zw, Zx, Zz, Xa, Xb, Xc, Xd. -/
import Derived.Test.YtngjcmeclhlfeaaZZ
import Derived.Test.YtngjcmeclhlfeaaZP
set_option linter.unusedSimpArgs false
set_option linter.unusedVariables false
set_option linter.unnecessarySimpa false
/- Contracts: the reference of layer 24: nearest, Tree, Dominates; of layer 35: leads, BackEdges. -/
namespace Go.Proofs.Ytngjcmeclhlfeaa
open Go.RowKit
theorem fold_take_nst {T : List (List Nat)} {S : List Nat} {i a : Nat} {b : Option Nat} (h : S[i]? = some a) : (S.take (i + 1)).foldl (nstp T) b = nstp T ((S.take i).foldl (nstp T) b) a := foldl_take (nstp T) S i a b h
theorem fold_some {T : List (List Nat)} {n : Nat} : ∀ (S : List Nat) (b : Option Nat), (∀ a ∈ S, a < n) → (∀ c, b = some c → c < n) → ∀ c, S.foldl (nstp T) b = some c → c < n
  | [], b, _, hb, c, hc => hb c hc
  | a :: S, b, hS, hb, c, hc => by
    rw [List.foldl_cons] at hc
    refine fold_some S _ (fun x hx => hS x (by simp [hx])) (fun d hd => ?_) c hc
    unfold nstp at hd
    split at hd
    · obtain rfl := Option.some.inj hd; exact hS _ (by simp)
    · split at hd
      · obtain rfl := Option.some.inj hd; exact hS _ (by simp)
      · obtain rfl := Option.some.inj hd; exact hb _ rfl
theorem r24nearest_af (T : List (List Nat)) (b : Nat) (hb : b < T.length) (hT : ∀ a ∈ rowN T b, a < T.length) (hl : T.length ≤ 1000) (hll : ∀ x, (rowN T x).length ≤ 1000) : AF Try.prog 53 [.d (.sl 1 (dataT T)), aI .i64 b] (aI .i64 (bV (nst T b))) := by
  have hr1 := dataT_get hb
  have hr2 := (List.getElem?_eq_some_iff.1 hr1).2
  have hSl := hll b
  have hnst : nst T b = (rowN T b).foldl (nstp T) none := rfl
  obtain ⟨S, hS⟩ : ∃ S, rowN T b = S := ⟨_, rfl⟩
  rw [hS] at hr1 hT hSl hnst
  simp only [hS] at hr2
  rw [hnst]
  have hm : S.length ≤ maxLen := by unfold maxLen; omega
  refine af_of Try.func53 rfl (by kernel_rfl) (by simp [Try.ntmps53]) fun _ => ?_; simp [Try.f53, Ex.d_eq]
  refine aLoop_st (fun i : Nat => [(0, .d (.sl 1 (dataT T))), (1, aI .i64 b), (5, aI .i64 (bV ((S.take i).foldl (nstp T) none))), (6, aI .i64 i)]) (fun _ => []) (fun i => i ≤ S.length) (fun i => S.length - i) 0 (Sub.refl _ _ _) 0 (by omega) (by simp) (by simp [bV]) (by omega) ?_
  rintro i hi K hK
  rcases Nat.lt_or_ge i S.length with hlt | hge
  case inr =>
    obtain rfl : i = S.length := by omega
    simp [hb, hr1, hr2]
  obtain ⟨a, ha⟩ : ∃ a, S[i]? = some a := ⟨_, List.getElem?_eq_getElem hlt⟩
  have ha2 := (List.getElem?_eq_some_iff.1 ha).2
  have haT := hT a (List.mem_of_getElem? ha)
  have hst := fold_take_nst (T := T) (b := none) ha
  have hbest := fold_some (T := T) (n := T.length) (S.take i) none (fun x hx => hT x (List.mem_of_mem_take hx)) (fun c hc => by cases hc)
  have hra1 := dataT_get haT
  have hra2 := (List.getElem?_eq_some_iff.1 hra1).2
  simp [hb, hr1, hr2, hlt, ha, ha2]
  generalize (S.take i).foldl (nstp T) none = bs at *
  cases bs with
  | none =>
    refine adraw [] (by kernel_rfl) (by kernel_rfl) (by kernel_rfl) (by kernel_rfl) ?_; simp [Ex.d_eq]
    simp [bV, succ_wrap hlt hm]
    exact hK (i + 1) (by omega) (by omega) (Sub.refl _ _ _) 0 (by omega) (by simp) (by simp [hst, nstp, bV])
  | some c =>
    have hc := hbest c rfl
    have hrc1 := dataT_get hc
    have hrc2 := (List.getElem?_eq_some_iff.1 hrc1).2
    refine adraw [] (by kernel_rfl) (by kernel_rfl) (by kernel_rfl) (by kernel_rfl) ?_; simp [Ex.d_eq]
    by_cases hlt2 : (rowN T c).length < (rowN T a).length
    · simp [bV, show ¬ (c : Int) < 0 by omega, hc, haT, hra1, hra2, hrc1, hrc2, hlt2, succ_wrap hlt hm]
      exact hK (i + 1) (by omega) (by omega) (Sub.refl _ _ _) 0 (by omega) (by simp) (by simp [hst, nstp, bV, hlt2])
    · simp [bV, show ¬ (c : Int) < 0 by omega, hc, haT, hra1, hra2, hrc1, hrc2, hlt2, succ_wrap hlt hm]
      exact hK (i + 1) (by omega) (by omega) (Sub.refl _ _ _) 0 (by omega) (by simp) (by simp [hst, nstp, bV, hlt2])
/-- The reference's tree is the program's. -/
theorem r24tree_af (g : Gr) (hg : GrFit g) (hsm : g.b.length ≤ 400) (o : Nat → Option Nat) (ho : 0 < g.b.length → TreeOk g o) : AF Try.prog 27 [grV g] (.d (.sl 1 (i64s (oI g.b.length o)))) := by
  have hs := r24strict_af g hg hsm
  obtain ⟨n, hn⟩ : ∃ n, g.b.length = n := ⟨_, rfl⟩
  have hTl : (sdT g).length = n := by simp [sdT, hn]
  have hrow : ∀ x, (rowN (sdT g) x).length ≤ 1000 := fun x => by
    by_cases hx : x < g.b.length
    · rw [sdT_row hx]; have := sdL_len g g.b.length x; omega
    · simp [rowN, List.getElem?_eq_none (show (sdT g).length ≤ x by omega)]
  have hnm : n ≤ maxLen := by unfold maxLen; omega
  rw [hn]
  refine af_of Try.func27 rfl (by kernel_rfl) (by simp [Try.ntmps27]) fun _ => ?_; simp [Try.f27, Ex.d_eq]
  refine aCall_of hs (by kernel_rfl) (by simp) ?_
  simp
  refine aLoop_st (fun i : Nat => [(3, .d (.sl 1 (dataT (sdT g)))), (4, .own 1 i 0 i), (5, aI .i64 i)]) (fun i => [gB g, nbk i ((oI n o).take i)]) (fun i => i ≤ n) (fun i => n - i) 0
    ((Sub.ghost 0 3 1).trans (Sub.slot (s := 4) (c := .own 1 0 0 0) (by simp; exact VLe.nil_own (k := ⟨0, true, 3, 1, []⟩) (by simp) rfl))) 2 (by omega) (by simp [cln_gB]) (by simp) (by omega) ?_
  rintro i hi K hK
  have hol : (oI n o).length = n := by simp [oI]
  rcases Nat.lt_or_ge i n with hlt | hge
  case inr =>
    obtain rfl : i = n := by omega
    have ht : (oI i o).take i = oI i o := List.take_of_length_le (by omega)
    have ht2 : List.take i (i64s (oI i o)) = i64s (oI i o) := List.take_of_length_le (by simp [hol])
    simp [hTl, ht, ht2, hol]
  have hc := r24nearest_af (sdT g) i (by omega) (fun a ha => by rw [sdT_row (by omega)] at ha; have := (sdL_mem.1 ha).1; omega) (by omega) hrow
  rw [nst_tree (by omega) (ho (by omega)) (by omega), ← oV_bV] at hc
  have hst : (oI n o).take (i + 1) = (oI n o).take i ++ [oV o i] := by
    rw [List.take_add_one, oI_get o hlt]
    rfl
  have hmin : min i n = i := by omega
  simp [hTl, hlt]
  refine aCall_of hc (by kernel_rfl) (by simp) ?_
  simp
  refine aRaw_app byt_35 ?_
  have ht2 : List.take i (i64s ((oI n o).take i)) = i64s ((oI n o).take i) := List.take_of_length_le (by simp; omega)
  simp [hol, hmin, ht2]
  refine ⟨by omega, by omega, ?_⟩
  simp [succ_wrap hlt hnm]
  exact hK (i + 1) (by omega) (by omega) (Sub.refl _ _ _) 2 (by omega) (by simp [hst, cln_gB]) (by simp)
theorem r24dom_w (n : Nat) (o : Nat → Option Nat) (μ : Nat → Nat) (hμ : ∀ x y, o x = some y → y < n ∧ μ y < μ x) (a b : Nat) (ha : a < n) (hb : b < n) (hbn : μ b ≤ n) (hnm : n ≤ 1000000) (r : Bool) (hr : r = true ↔ Anc o b a) :
    AF Try.prog 30 [.d (.sl 1 (i64s (oI n o))), aI .i64 a, aI .i64 b] (aB r) := by
  have hnm2 : n + 1 ≤ maxLen := by unfold maxLen; omega
  have hlen : (oI n o).length = n := by simp [oI]
  have a1 : ¬ (a : Int) < 0 := by omega
  have a2 : ¬ (n : Int) ≤ (a : Int) := by omega
  refine af_of Try.func30 rfl (by kernel_rfl) (by simp [Try.ntmps30]) fun _ => ?_; simp [Try.f30, Ex.d_eq]
  simp [a1, a2, hlen]
  refine aLoop_st (α := Nat × Option Nat) (fun q => [(0, .d (.sl 1 (i64s (oI n o)))), (1, aI .i64 a), (2, aI .i64 (bV q.2)), (7, aI .i64 q.1)]) (fun _ => []) (fun q => q.1 ≤ n + 1 ∧ (∀ y, q.2 = some y → y < n ∧ μ y + q.1 ≤ n) ∧ (r = true ↔ ∃ y, q.2 = some y ∧ Anc o y a)) (fun q => n + 1 - q.1) (0, some b) (Sub.refl _ _ _) 0 (by omega) (by simp) (by simp [bV])
    ⟨by simp, fun y hy => by simp at hy; subst hy; exact ⟨hb, by simpa using hbn⟩, by simpa using hr⟩ ?_
  rintro ⟨i, q⟩ ⟨hi, hq, hrq⟩ K hK
  simp only at hi hq hrq hK ⊢
  cases q with
  | none =>
    have : r = false := by
      cases r with
      | false => rfl
      | true => obtain ⟨y, hy, _⟩ := hrq.1 rfl; cases hy
    subst this
    by_cases hin : i ≤ n
    · simp [hlen, bV, show (i : Int) ≤ (n : Int) by omega]
    · simp [hlen, bV, show ¬ (i : Int) ≤ (n : Int) by omega]
  | some y =>
    obtain ⟨hy, hμy⟩ := hq y rfl
    have hry : r = true ↔ Anc o y a := hrq.trans ⟨fun ⟨z, hz, h⟩ => by cases hz; exact h, fun h => ⟨y, rfl, h⟩⟩
    have hv := oV_get o hy
    rw [oV_bV] at hv
    have hv2 := (List.getElem?_eq_some_iff.1 hv).2
    have y2 : (y : Int) < (n : Int) := by omega
    have y3 : (i : Int) ≤ (n : Int) := by omega
    have hw : IntKind.i64.wrap ((i : Int) + 1) = ((i + 1 : Nat) : Int) := succ_wrap (i := i) (n := n + 1) (by omega) hnm2
    have hbv : bV (some y) = (y : Int) := rfl
    by_cases hay : a = y
    · subst hay
      have : r = true := hry.2 (.refl _)
      subst this
      simp [hlen, hbv, y2, y3]
    · have hay2 : ¬ (a : Int) = (y : Int) := by omega
      simp [hlen, hbv, y2, y3, hay2, hv, hv2, hy, hw]
      refine hK (i + 1, o y) ⟨by simp only; omega, fun z hz => ?_, hry.trans ?_⟩ (by simp only; omega) (Sub.refl _ _ _) 0 (by omega) (by simp) (by simp)
      · obtain ⟨h1, h2⟩ := hμ y z hz
        exact ⟨h1, by simp only; omega⟩
      · constructor
        · intro h
          cases hoy : o y with
          | none => exact absurd (h.none hoy) hay
          | some z => exact ⟨z, rfl, h.tail (fun h2 => hay h2.symm) hoy⟩
        · rintro ⟨z, hz, h⟩
          exact .step hz h
theorem r24dom_af (g : Gr) {o : Nat → Option Nat} (h0 : 0 < g.b.length) (hsm : g.b.length ≤ 400) (ho : TreeOk g o) {a b : Nat} (ha : a < g.b.length) (hb : b < g.b.length) (hr : (dgN g).rc b = true) :
    AF Try.prog 30 [.d (.sl 1 (i64s (oI g.b.length o))), aI .i64 a, aI .i64 b] (aB (domB g a b)) := by
  obtain ⟨h1, h2⟩ := tree_mu h0 ho
  exact r24dom_w g.b.length o (dgN g).pl h1 a b ha hb (h2 b) (by omega) _ (by rw [tree_dom h0 ho hr])
theorem r35leads_af (T : List (List Nat)) (a b : Nat) (hb : b < T.length) (hl : (rowN T b).length ≤ maxLen) : AF Try.prog 29 [.d (.sl 1 (dataT T)), aI .i64 a, aI .i64 b] (aB (decide (a ∈ rowN T b))) := by
  have h1 := dataT_get hb
  have h2 := (List.getElem?_eq_some_iff.1 h1).2
  refine af_of Try.func29 rfl (by kernel_rfl) (by simp [Try.ntmps29]) fun _ => ?_; simp [Try.f29, Ex.d_eq]
  simp [hb, h1, h2]
  refine aCall_of (r35containsN_af (rowN T b) a hl) (by kernel_rfl) (by simp) ?_
  simp
theorem bkRow_eq (g : Gr) (a : Nat) : bkRow g a = (List.range g.b.length).filter fun b => (dgN g).rc a && ((edgN g a).contains b && domB g b a) := by
  unfold bkRow succR
  by_cases h : (dgN g).rc a = true
  · rw [if_pos h, List.filter_filter]
    congr 1
    funext b
    rw [h, Bool.true_and, Bool.and_comm]
  · rw [if_neg h]
    symm
    rw [List.filter_eq_nil_iff]
    intro b _
    simp [h]
set_option maxRecDepth 100000 in
theorem r35back_af (g : Gr) (hg : GrFit g) (hsm : g.b.length ≤ 400) : AF Try.prog 10 [grV g] (.d (.sl 2 (prs (bkL g g.b.length)))) := by
  have hgl : g.b.length ≤ maxLen := by unfold maxLen; omega
  obtain ⟨o, ho, _⟩ := dmTree_ex g hg (edgOk g)
  have hT := r24tree_af g hg hsm o ho
  have hR := r24reach_af g hg hsm
  have hP := r24preds_af g hg
  obtain ⟨n, hn⟩ : ∃ n, g.b.length = n := ⟨_, rfl⟩
  rw [hn] at hgl
  refine af_of Try.func10 rfl (by kernel_rfl) (by simp [Try.ntmps10]) fun _ => ?_; simp [Try.f10, Ex.d_eq]
  refine aCall_of hP (by kernel_rfl) (by simp) ?_
  simp
  refine aCall_of hT (by kernel_rfl) (by simp) ?_
  simp
  refine aCall_of hR (by kernel_rfl) (by simp) ?_
  simp [hn]
  refine aLoop_st (fun a : Nat => [(1, .ptr 0 0 0 0), (3, .own 1 (bkL g a).length 0 (bkL g a).length), (4, .d (.sl 1 (dataT (mkT n (predF g))))), (5, .d (.sl 1 (i64s (oI n o)))), (6, .d (.sl 1 (blD (reachN g)))), (7, aI .i64 a)])
    (fun a => [gB g, prB (bkL g a)]) (fun a => a ≤ n) (fun a => n - a) 0
    ((Sub.ghost 0 30 2).trans (Sub.slot (s := 3) (c := .own 1 0 0 0) (by simp; exact VLe.nil_own (k := ⟨0, true, 30, 2, []⟩) (by simp) rfl))) 2 (by omega) (by simp [bkL, prs, cln_gB]) (by simp [bkL]) (by omega) ?_
  rintro a ha K hK
  have hbl := bkL_len g a
  rw [hn] at hbl
  have hbl2 : a * n ≤ 400 * 400 := Nat.mul_le_mul (by omega) (by omega)
  rcases Nat.lt_or_ge a n with hlt | hge
  case inr =>
    obtain rfl : a = n := by omega
    simp [hn]
  have hra := reachN_get (g := g) (a := a) (by omega)
  have hra1 := blD_get hra
  have hra2 := (List.getElem?_eq_some_iff.1 hra1).2
  simp [hn, hlt]
  obtain ⟨f, hf⟩ : ∃ f : Nat → List (Int × Int), f = fun j => bkL g a ++ ((List.range j).filter fun b => (dgN g).rc a && ((edgN g a).contains b && domB g b a)).map fun b => ((a : Int), ((b : Nat) : Int)) := ⟨_, rfl⟩
  have hf0 : f 0 = bkL g a := by rw [hf]; simp
  have hfe : f n = bkL g (a + 1) := by
    rw [hf]
    simp only
    rw [bkL, bkRow_eq, hn]
  have hflen : ∀ j, j ≤ n → (f j).length ≤ 170000 := fun j hj => by
    rw [hf]
    simp only [List.length_append, List.length_map]
    have h1 := List.length_filter_le (fun b => (dgN g).rc a && ((edgN g a).contains b && domB g b a)) (List.range j)
    simp only [List.length_range] at h1
    omega
  have hfs : ∀ j, f (j + 1) = if ((dgN g).rc a && ((edgN g a).contains j && domB g j a)) = true then f j ++ [((a : Int), (j : Int))] else f j := fun j => by
    rw [hf]
    simp only
    rw [List.range_succ, List.filter_append, List.map_append]
    by_cases hd : ((dgN g).rc a && ((edgN g a).contains j && domB g j a)) = true
    · rw [if_pos hd]
      simp only [List.filter_cons, hd, if_true]
      simp
    · rw [if_neg hd]
      simp only [List.filter_cons, hd]
      simp
  clear hf
  refine aLoop_st (fun j : Nat => [(1, .ptr 0 0 0 0), (3, .own 1 (f j).length 0 (f j).length), (4, .d (.sl 1 (dataT (mkT n (predF g))))), (5, .d (.sl 1 (i64s (oI n o)))), (6, .d (.sl 1 (blD (reachN g)))), (7, aI .i64 a), (8, aI .i64 j)])
    (fun j => [gB g, prB (f j)]) (fun j => j ≤ n) (fun j => n - j) 0 (Sub.refl _ _ _) 2 (by omega) (by simp [hf0, cln_gB]) (by simp [hf0]) (by omega) ?_
  rintro j hj K2 hK2
  rcases Nat.lt_or_ge j n with hjlt | hjge
  case inr =>
    obtain rfl : j = n := by omega
    simp [hn, succ_wrap hlt hgl]
    exact hK (a + 1) (by omega) (by omega) (Sub.refl _ _ _) 2 (by omega) (by simp [hfe, cln_gB]) (by simp [hfe])
  have hfj := hfs j
  have hfl := hflen j (by omega)
  have hle := r35leads_af (mkT n (predF g)) a j (by simpa using hjlt) (by rw [mkT_row _ hjlt]; have := predF_len g j; omega)
  rw [mkT_row _ hjlt] at hle
  have hpe : decide (a ∈ predF g j) = (edgN g a).contains j := by
    rw [Bool.eq_iff_iff, decide_eq_true_eq, predF_mem]
    simp
    omega
  rw [hpe] at hle
  simp [hn, hjlt, hlt, hra1, hra2]
  cases hrc : (dgN g).rc a with
  | false =>
    rw [hrc] at hfj
    simp only [Bool.false_and, Bool.false_eq_true, if_false] at hfj
    simp [succ_wrap hjlt hgl]
    exact hK2 (j + 1) (by omega) (by omega) (Sub.refl _ _ _) 2 (by omega) (by simp [hfj, cln_gB]) (by simp [hfj])
  | true =>
    rw [hrc, Bool.true_and] at hfj
    have hd := r24dom_af g (o := o) (by omega) hsm (ho (by omega)) (a := j) (b := a) (by omega) (by omega) hrc
    rw [hn] at hd
    simp
    refine aCall_of hle (by kernel_rfl) (by simp) ?_
    cases hco : (edgN g a).contains j with
    | false =>
      rw [hco] at hfj
      simp only [Bool.false_and, Bool.false_eq_true, if_false] at hfj
      simp [succ_wrap hjlt hgl]
      exact hK2 (j + 1) (by omega) (by omega) (Sub.refl _ _ _) 2 (by omega) (by simp [hfj, cln_gB]) (by simp [hfj])
    | true =>
      rw [hco, Bool.true_and] at hfj
      by_cases haj : a = j
      · have hdj : domB g j a = true := by rw [haj]; exact domB_self g j
        rw [hdj] at hfj
        simp only [if_true] at hfj
        subst haj
        simp
        refine aRaw_app byt_28 ?_
        simp
        refine ⟨by unfold maxLen; omega, by omega, ?_⟩
        simp [succ_wrap hjlt hgl]
        refine hK2 (a + 1) (by omega) (by omega) (Sub.refl _ _ _) 2 (by omega) (by simp [hfj, cln_gB, prs]) (by simp [hfj])
      · have haj2 : ¬ (a : Int) = (j : Int) := by omega
        simp [haj2]
        refine aCall_of hd (by kernel_rfl) (by simp) ?_
        cases hdm : domB g j a with
        | false =>
          rw [hdm] at hfj
          simp only [Bool.false_eq_true, if_false] at hfj
          simp [succ_wrap hjlt hgl]
          exact hK2 (j + 1) (by omega) (by omega) (Sub.refl _ _ _) 2 (by omega) (by simp [hfj, cln_gB]) (by simp [hfj])
        | true =>
          rw [hdm] at hfj
          simp only [if_true] at hfj
          simp
          refine aRaw_app byt_28 ?_
          simp
          refine ⟨by unfold maxLen; omega, by omega, ?_⟩
          simp [succ_wrap hjlt hgl]
          refine hK2 (j + 1) (by omega) (by omega) (Sub.refl _ _ _) 2 (by omega) (by simp [hfj, cln_gB, prs]) (by simp [hfj])
end Go.Proofs.Ytngjcmeclhlfeaa

/- Contracts: the reference's Reducible; both answer the same. -/
namespace Go.Proofs.Ytngjcmeclhlfeaa
open Go.RowKit
/-- Each of these goes on to one of these. -/
def SuccSt (n : Nat) (R : Nat → Nat → Prop) (X : Nat → Prop) : Prop := ∀ b, X b → b < n ∧ ∃ m, X m ∧ R b m
open Classical in
theorem stuck_turn {n : Nat} {R : Nat → Nat → Prop} : ∀ (k : Nat) (X : Nat → Prop), SuccSt n R X → (∃ b, X b) → ((List.range n).filter fun b => decide (X b)).length ≤ k → ∃ Y : Nat → Prop, SuccSt n (fun a b => R b a) Y ∧ ∃ b, Y b
  | 0, X, hX, ⟨b, hb⟩, hk => by
    exfalso
    have : b ∈ (List.range n).filter fun b => decide (X b) := by simp [(hX b hb).1, hb]
    have h0 : ((List.range n).filter fun b => decide (X b)) = [] := List.length_eq_zero_iff.1 (by omega)
    rw [h0] at this
    cases this
  | k + 1, X, hX, ⟨b0, hb0⟩, hk => by
    by_cases hno : ∃ b, X b ∧ ∀ m, X m → ¬ R m b
    · obtain ⟨b, hb, hm⟩ := hno
      refine stuck_turn k (fun x => X x ∧ x ≠ b) (fun x hx => ?_) ?_ ?_
      · obtain ⟨h1, m, h2, h3⟩ := hX x hx.1
        exact ⟨h1, m, ⟨h2, fun e => hm x hx.1 (e ▸ h3)⟩, h3⟩
      · obtain ⟨_, m, h2, h3⟩ := hX b hb
        exact ⟨m, h2, fun e => hm b hb (e ▸ h3)⟩
      · have := filter_lt (fun x => decide (X x)) (fun x => decide (X x ∧ x ≠ b)) (fun x hx => by simp at hx ⊢; exact hx.1) b (by simpa using hb) (by simp) (List.range n) (by simpa using (hX b hb).1)
        have e : (fun x => @decide (X x ∧ x ≠ b) (propDecidable _)) = fun x => @decide (X x ∧ x ≠ b) instDecidableAnd := by funext x; congr
        rw [e]
        exact Nat.le_of_lt_succ (Nat.lt_of_lt_of_le this hk)
    · refine ⟨X, fun b hb => ⟨(hX b hb).1, ?_⟩, b0, hb0⟩
      exact Classical.byContradiction fun h => hno ⟨b, hb, fun m hm hR => h ⟨m, hm, hR⟩⟩
/-- An edge from what is reached that is no back edge. -/
def NB (g : Gr) (p b : Nat) : Prop := (dgN g).rc p = true ∧ b ∈ edgN g p ∧ domB g b p = false
theorem edge_rc {g : Gr} {p b : Nat} (hp : (dgN g).rc p = true) (hb : b ∈ edgN g p) : (dgN g).rc b = true := by
  have hpn := dgN_lt (edgOk g) hp
  have h0 : 0 < g.b.length := by omega
  exact (rc_iff h0 b).2 (.step ((rc_iff h0 p).1 hp) hb trivial)
theorem bkL_mem {g : Gr} {a b : Nat} : ∀ {n : Nat}, ((a : Int), (b : Int)) ∈ bkL g n ↔ a < n ∧ b ∈ bkRow g a
  | 0 => by simp [bkL]
  | n + 1 => by
    simp only [bkL, List.mem_append, bkL_mem (n := n), List.mem_map, Prod.mk.injEq]
    constructor
    · rintro (⟨h1, h2⟩ | ⟨x, h1, h2, h3⟩)
      · exact ⟨by omega, h2⟩
      · obtain rfl : n = a := by omega
        obtain rfl : x = b := by omega
        exact ⟨by omega, h1⟩
    · rintro ⟨h1, h2⟩
      rcases Nat.lt_or_ge a n with h | h
      · exact .inl ⟨h, h2⟩
      · obtain rfl : a = n := by omega
        exact .inr ⟨b, h2, rfl, rfl⟩
theorem bkRow_mem {g : Gr} {a b : Nat} : b ∈ bkRow g a ↔ (dgN g).rc a = true ∧ b < g.b.length ∧ b ∈ edgN g a ∧ domB g b a = true := by
  rw [bkRow_eq]
  simp
  constructor
  · rintro ⟨h1, h2, h3, h4⟩; exact ⟨h2, h1, h3, h4⟩
  · rintro ⟨h1, h2, h3, h4⟩; exact ⟨h2, h1, h3, h4⟩
theorem stuck_iff (g : Gr) (X : Nat → Prop) : StuckS (succT g) (bkL g g.b.length) (reachN g) X ↔ SuccSt g.b.length (NB g) X := by
  constructor
  · intro h b hb
    obtain ⟨h1, m, h2, h3, h4⟩ := h b hb
    have hbn : b < g.b.length := by have := (List.getElem?_eq_some_iff.1 h1).1; simpa using this
    rw [reachN_get hbn] at h1
    have hrc : (dgN g).rc b = true := Option.some.inj h1
    rw [show rowN (succT g) b = succR g g.b.length b from mkT_row _ hbn, succR_mem] at h2
    refine ⟨hbn, m, h3, hrc, h2.2, ?_⟩
    cases hd : domB g m b with
    | false => rfl
    | true => exact absurd (bkL_mem.2 ⟨hbn, bkRow_mem.2 ⟨hrc, h2.1, h2.2, hd⟩⟩) h4
  · intro h b hb
    obtain ⟨h1, m, h2, h3, h4, h5⟩ := h b hb
    refine ⟨by rw [reachN_get h1, h3], m, ?_, h2, fun hk => ?_⟩
    · rw [show rowN (succT g) b = succR g g.b.length b from mkT_row _ h1, succR_mem]
      exact ⟨dgN_lt (edgOk g) (edge_rc h3 h4), h4⟩
    · have := (bkRow_mem.1 (bkL_mem.1 hk).2).2.2.2
      rw [h5] at this
      cases this
theorem stuck_both (g : Gr) : (∀ X, StuckS (succT g) (bkL g g.b.length) (reachN g) X → ∀ b, ¬ X b) ↔ ∀ Y, SuccSt g.b.length (fun b p => NB g p b) Y → ∀ b, ¬ Y b := by
  constructor
  · intro h Y hY b hb
    obtain ⟨X, hX, c, hc⟩ := stuck_turn _ Y hY ⟨b, hb⟩ (Nat.le_refl _)
    exact h X ((stuck_iff g X).2 hX) c hc
  · intro h X hX b hb
    obtain ⟨Y, hY, c, hc⟩ := stuck_turn _ X ((stuck_iff g X).1 hX) ⟨b, hb⟩ (Nat.le_refl _)
    exact h Y hY c hc
/-- Does p hold b back? -/
def blkB (g : Gr) (G : List Bool) (b p : Nat) : Bool := (dgN g).rc p && !(G[p]?.getD true) && decide (p ≠ b) && !domB g b p
def heldB (g : Gr) (G : List Bool) (b : Nat) : Bool := (predF g b).any (blkB g G b)
/-- What stands in the middle. -/
structure GMid (g : Gr) (G : List Bool) : Prop where
  len : G.length = g.b.length
  keep : ∀ Y, SuccSt g.b.length (fun b p => NB g p b) Y → ∀ b, Y b → G[b]? = some false
theorem GMid.free {g : Gr} {G : List Bool} (h : GMid g G) {b : Nat} (hb : b < g.b.length) (hf : heldB g G b = false) : GMid g (G.set b true) := by
  refine ⟨by simp [h.len], fun Y hY c hc => ?_⟩
  have hk := h.keep Y hY
  by_cases hcb : b = c
  · subst hcb
    exfalso
    obtain ⟨_, p, h2, h3, h4, h5⟩ := hY b hc
    unfold heldB at hf
    rw [List.any_eq_false] at hf
    refine hf p (predF_mem.2 ⟨dgN_lt (edgOk g) h3, h4⟩) ?_
    have hpb : p ≠ b := fun e => by rw [e, domB_self] at h5; cases h5
    simp [blkB, h3, h5, hk p h2, hpb]
  · rw [List.getElem?_set_ne hcb]
    exact hk c hc
set_option maxRecDepth 100000 in
set_option maxHeartbeats 1000000 in
theorem r35red_af (g : Gr) (hg : GrFit g) (hsm : g.b.length ≤ 400) (r : Bool) (hr : r = true ↔ ∀ Y, SuccSt g.b.length (fun b p => NB g p b) Y → ∀ b, ¬ Y b) : AF Try.prog 12 [grV g] (aB r) := by
  have hgl : g.b.length ≤ maxLen := by unfold maxLen; omega
  obtain ⟨o, ho, _⟩ := dmTree_ex g hg (edgOk g)
  have hT := r24tree_af g hg hsm o ho
  have hR := r24reach_af g hg hsm
  have hP := r24preds_af g hg
  have hdom := fun (a b : Nat) (ha : a < g.b.length) (hb : b < g.b.length) (hrb : (dgN g).rc b = true) => r24dom_af g (o := o) (by omega) hsm (ho (by omega)) ha hb hrb
  have hra : ∀ a, a < g.b.length → (blD (reachN g))[a]? = some [D.v (.bool ((dgN g).rc a))] := fun a h => blD_get (reachN_get h)
  have hrl : (reachN g).length = g.b.length := reachN_len g
  have hrow0 : ∀ a, a < g.b.length → (dataT (mkT g.b.length (predF g)))[a]? = some [.sl 1 (i64s (nI (predF g a)))] := fun a h => by
    have := dataT_get (T := mkT g.b.length (predF g)) (k := a) (by simpa using h)
    rwa [mkT_row _ h] at this
  have hpm : ∀ a p, p ∈ predF g a → p < g.b.length := fun a p h => (predF_mem.1 h).1
  have hpl := predF_len g
  have hfree := fun (G : List Bool) (h : GMid g G) (b : Nat) => h.free (b := b)
  have hm0 : GMid g (List.replicate g.b.length false) := ⟨by simp, fun Y hY b hb => by simp [(hY b hb).1]⟩
  have hfin : ∀ G, GMid g G → (∀ b, b < g.b.length → G[b]? = some false → (dgN g).rc b = true → heldB g G b = true) → (r = true ↔ ∀ b, b < g.b.length → (dgN g).rc b = true → G[b]? = some true) := by
    intro G hG hst
    rw [hr]
    constructor
    · intro h b hb hrb
      cases hGb : G[b]?.getD true with
      | true => have := hG.len; simpa [show b < G.length by omega] using hGb
      | false =>
        exfalso
        refine h (fun x => (dgN g).rc x = true ∧ G[x]? = some false) (fun x hx => ?_) b ⟨hrb, ?_⟩
        · have hxn := dgN_lt (edgOk g) hx.1
          have h1 := hst x hxn hx.2 hx.1
          unfold heldB at h1
          rw [List.any_eq_true] at h1
          obtain ⟨p, hp, hp2⟩ := h1
          unfold blkB at hp2
          simp only [Bool.and_eq_true, Bool.not_eq_true', decide_eq_true_eq] at hp2
          have hpn := hpm x p hp
          refine ⟨hxn, p, ⟨hp2.1.1.1, ?_⟩, hp2.1.1.1, (predF_mem.1 hp).2, hp2.2⟩
          have h3 := hp2.1.1.2
          have := hG.len
          simpa [show p < G.length by omega] using h3
        · have := hG.len
          simpa [show b < G.length by omega] using hGb
    · intro h Y hY b hb
      have h1 := hG.keep Y hY b hb
      obtain ⟨h2, p, _, h3, h4, _⟩ := hY b hb
      rw [h b h2 (edge_rc h3 h4)] at h1
      cases h1
  have hheld : ∀ G b, heldB g G b = (predF g b).any (blkB g G b) := fun _ _ => rfl
  have hblk : ∀ G b p, blkB g G b p = ((dgN g).rc p && !(G[p]?.getD true) && decide (p ≠ b) && !domB g b p) := fun _ _ _ => rfl
  have hGl : ∀ G, GMid g G → G.length = g.b.length := fun G h => h.len
  clear hr
  generalize (dgN g).rc = rc at *
  generalize domB g = dm at *
  generalize predF g = pf at *
  generalize heldB g = held at *
  generalize blkB g = bk at *
  generalize hmid : GMid g = mid at *
  clear hmid
  obtain ⟨n, hn⟩ : ∃ n, g.b.length = n := ⟨_, rfl⟩
  rw [hn] at hgl
  simp only [hn] at hT hR hP hdom hra hrl hrow0 hpm hpl hm0 hfin hGl hfree hsm
  refine af_of Try.func12 rfl (by kernel_rfl) (by simp [Try.ntmps12]) fun _ => ?_; simp [Try.f12, Ex.d_eq]
  refine aCall_of hP (by kernel_rfl) (by simp) ?_
  simp
  refine aCall_of hT (by kernel_rfl) (by simp) ?_
  simp
  refine aCall_of hR (by kernel_rfl) (by simp) ?_
  simp [hn]
  refine aRaw_make (kl := .i64) (kc := .i64) (l := n) (c := n) (z := [.d (.v (.bool false))]) byt_46 (by simp) (by simp) (by simp) (Nat.le_refl _) hgl (by omega) ?_
  simp [hn]
  rw [show List.replicate n [AV.d (.v (.bool false))] = bEls (List.replicate n false) from by simp [bEls]]
  refine aLoop_st (α := List Bool × Bool) (fun q => [(1, .ptr 0 0 0 0), (3, .d (.sl 1 (dataT (mkT n pf)))), (4, .d (.sl 1 (i64s (oI n o)))), (5, .d (.sl 1 (blD (reachN g)))), (6, .own 1 0 0 n), (7, aB q.2)])
    (fun q => [gB g, dSn q.1]) (fun q => mid q.1 ∧ (q.2 = false → ∀ b, b < n → q.1[b]? = some false → rc b = true → held q.1 b = true)) (fun q => if q.2 = true then cntF q.1 + 1 else 0) (List.replicate n false, true) (Sub.refl _ _ _) 2 (by omega) (by simp [cln_gB]) (by simp) ⟨hm0, by simp⟩ ?_
  rintro ⟨G, ag⟩ ⟨hG, hst⟩ K hK
  simp only at hG hst hK ⊢
  have hGn := hGl G hG
  cases ag with
  | false =>
    have hst := hst rfl
    have hf := hfin G hG hst
    simp
    refine aLoop_st (fun b : Nat => [(1, .ptr 0 0 0 0), (5, .d (.sl 1 (blD (reachN g)))), (6, .own 1 0 0 n), (12, aI .i64 b)]) (fun _ => [gB g, dSn G]) (fun b => b ≤ n ∧ ∀ c, c < b → rc c = true → G[c]? = some true) (fun b => n - b) 0 (Sub.refl _ _ _) 2 (by omega) (by simp [cln_gB]) (by simp) ⟨by omega, fun c hc => by omega⟩ ?_
    rintro b ⟨hb, hall⟩ K2 hK2
    rcases Nat.lt_or_ge b n with hlt | hge
    case inr =>
      obtain rfl : b = n := by omega
      have : r = true := hf.2 fun c hc => hall c hc
      subst this
      simp [hn]
    have hrb := hra b hlt
    have hrb2 := (List.getElem?_eq_some_iff.1 hrb).2
    obtain ⟨x, hx⟩ : ∃ x, G[b]? = some x := ⟨_, List.getElem?_eq_getElem (by omega)⟩
    have hxe := bEls_get hx
    simp [hn, hlt, hrb, hrb2, hrl]
    cases hrc : rc b with
    | false =>
      simp [succ_wrap hlt hgl]
      refine hK2 (b + 1) ⟨by omega, fun c hc hrc2 => ?_⟩ (by omega) (Sub.refl _ _ _) 2 (by omega) (by simp [cln_gB]) (by simp)
      rcases Nat.lt_or_ge c b with h | h
      · exact hall c h hrc2
      · obtain rfl : c = b := by omega
        rw [hrc] at hrc2
        cases hrc2
    | true =>
      simp [hlt, hxe]
      cases x with
      | false =>
        have : r = false := by
          cases r with
          | false => rfl
          | true => have := hf.1 rfl b hlt hrc; rw [hx] at this; cases this
        subst this
        simp
      | true =>
        simp [succ_wrap hlt hgl]
        refine hK2 (b + 1) ⟨by omega, fun c hc hrc2 => ?_⟩ (by omega) (Sub.refl _ _ _) 2 (by omega) (by simp [cln_gB]) (by simp)
        rcases Nat.lt_or_ge c b with h | h
        · exact hall c h hrc2
        · obtain rfl : c = b := by omega
          exact hx
  | true =>
    clear hst
    simp
    refine aLoop_st (α := Nat × List Bool × Bool) (fun q => [(1, .ptr 0 0 0 0), (3, .d (.sl 1 (dataT (mkT n pf)))), (4, .d (.sl 1 (i64s (oI n o)))), (5, .d (.sl 1 (blD (reachN g)))), (6, .own 1 0 0 n), (7, aB q.2.2), (8, aI .i64 q.1)])
      (fun q => [gB g, dSn q.2.1]) (fun q => q.1 ≤ n ∧ mid q.2.1 ∧ (q.2.2 = false → q.2.1 = G ∧ ∀ b, b < q.1 → G[b]? = some false → rc b = true → held G b = true) ∧ (q.2.2 = true → cntF q.2.1 < cntF G) ∧ cntF q.2.1 ≤ cntF G)
      (fun q => n - q.1) (0, G, false) (Sub.refl _ _ _) 2 (by omega) (by simp [cln_gB]) (by simp) ⟨by simp, hG, by simp, by simp, by simp⟩ ?_
    rintro ⟨b, M, ag⟩ ⟨hb, hM, hf, ht, hle⟩ K2 hK2
    simp only at hb hM hf ht hle hK2 ⊢
    have hMn := hGl M hM
    rcases Nat.lt_or_ge b n with hlt | hge
    case inr =>
      obtain rfl : b = n := by omega
      simp [hn]
      refine hK (M, ag) ⟨hM, fun h c hc h1 h2 => ?_⟩ ?_ (Sub.refl _ _ _) 2 (by omega) (by simp [cln_gB]) (by simp)
      · obtain ⟨h3, h4⟩ := hf h
        simp only at h1 ⊢
        rw [h3] at h1 ⊢
        exact h4 c hc h1 h2
      · cases ag with
        | false => simp
        | true => have := ht rfl; simpa using this
    have hrb := hra b hlt
    have hrb2 := (List.getElem?_eq_some_iff.1 hrb).2
    obtain ⟨x, hx⟩ : ∃ x, M[b]? = some x := ⟨_, List.getElem?_eq_getElem (by omega)⟩
    have hxe := bEls_get hx
    -- nothing is done at this block
    have skip : (x = true ∨ rc b = false ∨ held M b = true) → ag = false → M = G ∧ ∀ c, c < b + 1 → G[c]? = some false → rc c = true → held G c = true := fun h1 h2 => by
      obtain ⟨h3, h4⟩ := hf h2
      refine ⟨h3, fun c hc h5 h6 => ?_⟩
      rcases Nat.lt_or_ge c b with h | h
      · exact h4 c h h5 h6
      · obtain rfl : c = b := by omega
        rw [h3] at hx h1
        rcases h1 with h1 | h1 | h1
        · rw [h5, h1] at hx; cases hx
        · rw [h1] at h6; cases h6
        · exact h1
    simp [hn, hlt, hxe]
    cases x with
    | true =>
      simp [succ_wrap hlt hgl]
      exact hK2 (b + 1, M, ag) ⟨by simp only; omega, hM, skip (.inl rfl), ht, hle⟩ (by simp only; omega) (Sub.refl _ _ _) 2 (by omega) (by simp [cln_gB]) (by simp)
    | false =>
      simp [hlt, hrb, hrb2, hrl]
      cases hrc : rc b with
      | false =>
        simp [succ_wrap hlt hgl]
        exact hK2 (b + 1, M, ag) ⟨by simp only; omega, hM, skip (.inr (.inl hrc)), ht, hle⟩ (by simp only; omega) (Sub.refl _ _ _) 2 (by omega) (by simp [cln_gB]) (by simp)
      | true =>
        have hpr := hrow0 b hlt
        have hpr2 := (List.getElem?_eq_some_iff.1 hpr).2
        have hpl2 := hpl b
        have hplm : (pf b).length ≤ maxLen := by omega
        have hdl : (dataT (mkT n pf)).length = n := by simp
        simp
        refine aLoop_st (fun k : Nat => [(1, .ptr 0 0 0 0), (3, .d (.sl 1 (dataT (mkT n pf)))), (4, .d (.sl 1 (i64s (oI n o)))), (5, .d (.sl 1 (blD (reachN g)))), (6, .own 1 0 0 n), (7, aB ag), (8, aI .i64 b), (9, aB (!((pf b).take k).any (bk M b))), (10, aI .i64 k)])
          (fun _ => [gB g, dSn M]) (fun k => k ≤ (pf b).length) (fun k => (pf b).length - k) 0 (Sub.refl _ _ _) 2 (by omega) (by simp [cln_gB]) (by simp) (by omega) ?_
        rintro k hk K3 hK3
        rcases Nat.lt_or_ge k (pf b).length with hklt | hkge
        case inr =>
          obtain rfl : k = (pf b).length := by omega
          rw [List.take_length]
          simp [hdl, hlt, hpr, hpr2]
          cases hany : (pf b).any (bk M b) with
          | true =>
            simp [succ_wrap hlt hgl]
            exact hK2 (b + 1, M, ag) ⟨by simp only; omega, hM, skip (.inr (.inr (by rw [hheld, hany]))), ht, hle⟩ (by simp only; omega) (Sub.refl _ _ _) 2 (by omega) (by simp [cln_gB]) (by simp)
          | false =>
            have hcs := cntF_set hx
            simp [hlt, hxe, bEls_set, succ_wrap hlt hgl]
            exact hK2 (b + 1, M.set b true, true) ⟨by simp only; omega, hfree M hM b hlt (by rw [hheld, hany]), fun h => by (cases h), fun _ => by simp only; omega, by simp only; omega⟩ (by simp only; omega) (Sub.refl _ _ _) 2 (by omega) (by simp [cln_gB]) (by simp)
        obtain ⟨p, hp⟩ : ∃ p, (pf b)[k]? = some p := ⟨_, List.getElem?_eq_getElem hklt⟩
        have hp2 := (List.getElem?_eq_some_iff.1 hp).2
        have hpn := hpm b p (List.mem_of_getElem? hp)
        have hstep : ((pf b).take (k + 1)).any (bk M b) = (((pf b).take k).any (bk M b) || bk M b p) := by
          rw [List.take_add_one, hp, List.any_append]
          simp
        have hrp := hra p hpn
        have hrp2 := (List.getElem?_eq_some_iff.1 hrp).2
        obtain ⟨y, hy⟩ : ∃ y, M[p]? = some y := ⟨_, List.getElem?_eq_getElem (by omega)⟩
        have hye := bEls_get hy
        have hbk := hblk M b p
        rw [hy] at hbk
        simp only [Option.getD_some] at hbk
        generalize ((pf b).take k).any (bk M b) = F at *
        simp [hdl, hlt, hpr, hpr2, hklt, hp, hp2, hpn, hrp, hrp2, hrl]
        cases hrcp : rc p with
        | false =>
          rw [hrcp] at hbk
          simp only [Bool.false_and] at hbk
          simp [succ_wrap hklt hplm]
          exact hK3 (k + 1) (by omega) (by omega) (Sub.refl _ _ _) 2 (by omega) (by simp [cln_gB]) (by simp [hstep, hbk])
        | true =>
          simp [hpn, hye]
          cases y with
          | true =>
            simp only [Bool.not_true, Bool.and_false, Bool.false_and] at hbk
            simp [succ_wrap hklt hplm]
            exact hK3 (k + 1) (by omega) (by omega) (Sub.refl _ _ _) 2 (by omega) (by simp [cln_gB]) (by simp [hstep, hbk])
          | false =>
            simp
            by_cases hpb : p = b
            · simp [hpb] at hbk
              simp [hpb, succ_wrap hklt hplm]
              exact hK3 (k + 1) (by omega) (by omega) (Sub.refl _ _ _) 2 (by omega) (by simp [cln_gB]) (by simp [hstep, hpb, hbk])
            · have hpbI : ¬ (p : Int) = (b : Int) := by omega
              have hd := hdom b p hlt hpn hrcp
              simp [hpbI]
              refine aCall_of hd (by kernel_rfl) (by simp) ?_
              cases hdm : dm b p with
              | true =>
                rw [hdm] at hbk
                simp only [Bool.not_true, Bool.and_false] at hbk
                simp [succ_wrap hklt hplm]
                exact hK3 (k + 1) (by omega) (by omega) (Sub.refl _ _ _) 2 (by omega) (by simp [cln_gB]) (by simp [hstep, hbk])
              | false =>
                rw [hrcp, hdm] at hbk
                simp [hpb] at hbk
                simp [succ_wrap hklt hplm]
                exact hK3 (k + 1) (by omega) (by omega) (Sub.refl _ _ _) 2 (by omega) (by simp [cln_gB]) (by simp [hstep, hbk])
/-- Both answer the same. -/
theorem red_both (g : Gr) (hg : GrFit g) (hsm : g.b.length ≤ 400) : ∃ r : Bool, (r = true ↔ ∀ Y, SuccSt g.b.length (fun b p => NB g p b) Y → ∀ b, ¬ Y b) ∧ AF Try.prog 11 [grV g] (aB r) ∧ AF Try.prog 12 [grV g] (aB r) := by
  have hbl := bkL_len g g.b.length
  have h1 : g.b.length * g.b.length ≤ 400 * 400 := Nat.mul_le_mul hsm hsm
  obtain ⟨r, hr, ha⟩ := lpred_ex g hg (bkL g g.b.length) (reachN g) (succT g) (by simp [succT]) (by unfold maxLen; omega) (by simp; omega) (lpback_af g hg hsm) (dmreach_af revOk g hg (edgOk g)) (lpedges_af g hg (edgOk g) hsm)
  have hr2 := hr.trans (stuck_both g)
  exact ⟨r, hr2, ha, r35red_af g hg hsm r hr2⟩
end Go.Proofs.Ytngjcmeclhlfeaa

/- Plain: natural loops: their blocks, their exits; sorted lists of numbers. No program in sight. -/
namespace Go.Proofs.Ytngjcmeclhlfeaa
/-- The blocks of the natural loop of h. -/
def InBody (g : Gr) (h x : Nat) : Prop := x = h ∨ ((dgN g).rc x = true ∧ ∃ a, h ∈ bkRow g a ∧ Pt (edgN g) (fun k => k ≠ h) x a)
open Classical in
noncomputable def bodyL (g : Gr) (h : Nat) : List Nat := (List.range g.b.length).filter fun x => decide (InBody g h x)
theorem bodyL_mem {g : Gr} {h x : Nat} : x ∈ bodyL g h ↔ x < g.b.length ∧ InBody g h x := by simp [bodyL]
theorem bodyL_len (g : Gr) (h : Nat) : (bodyL g h).length ≤ g.b.length := by
  have := List.length_filter_le (fun x => @decide (InBody g h x) (Classical.propDecidable _)) (List.range g.b.length)
  simpa [bodyL] using this
theorem InBody.rc {g : Gr} {h x : Nat} (hh : (dgN g).rc h = true) (hx : InBody g h x) : (dgN g).rc x = true := by
  rcases hx with rfl | ⟨h1, _⟩
  · exact hh
  · exact h1
theorem bkRow_rc {g : Gr} {a h : Nat} (hb : h ∈ bkRow g a) : (dgN g).rc a = true ∧ (dgN g).rc h = true := by
  obtain ⟨h1, h2, h3, h4⟩ := bkRow_mem.1 hb
  exact ⟨h1, edge_rc h1 h3⟩
/-- A predecessor of a block of the loop, but of its head, is in the loop. -/
theorem InBody.pred {g : Gr} {h x p : Nat} (hx : InBody g h x) (hxh : x ≠ h) (hp : (dgN g).rc p = true) (he : x ∈ edgN g p) : InBody g h p := by
  rcases hx with rfl | ⟨_, a, h1, h2⟩
  · exact absurd rfl hxh
  · by_cases hph : p = h
    · exact .inl hph
    · exact .inr ⟨hp, a, h1, Pt.cons hph he h2⟩
theorem InBody.src {g : Gr} {h a : Nat} (hb : h ∈ bkRow g a) : InBody g h a := by
  by_cases ha : a = h
  · exact .inl ha
  · exact .inr ⟨(bkRow_rc hb).1, a, hb, .refl ha⟩
/-- What holds the head and the sources, and is closed, holds the loop. -/
theorem body_least {g : Gr} {h : Nat} {S : Nat → Prop} (h1 : S h) (h2 : ∀ a, h ∈ bkRow g a → S a) (h3 : ∀ x p, S x → x ≠ h → (dgN g).rc p = true → x ∈ edgN g p → S p) {x : Nat} (hx : InBody g h x) : S x := by
  rcases hx with rfl | ⟨hr, a, hb, hp⟩
  · exact h1
  · have ha := h2 a hb
    have key : ∀ {x a : Nat}, Pt (edgN g) (fun k => k ≠ h) x a → (dgN g).rc x = true → S a → S x := by
      intro x a hp
      induction hp with
      | refl _ => exact fun _ h => h
      | @step b c hb h5 h6 ih =>
        intro hr hc
        have hrb : (dgN g).rc b = true := by
          have h0 : 0 < g.b.length := by have := dgN_lt (edgOk g) hr; omega
          exact (rc_iff h0 b).2 (Pt.trans ((rc_iff h0 x).1 hr) (hb.mono fun _ _ => trivial))
        exact ih hr (h3 c b hc h6 hrb h5)
    exact key hp hr ha
/-- The head dominates the loop. -/
theorem body_dom {g : Gr} {h x : Nat} (hh : (dgN g).rc h = true) (hx : InBody g h x) : domB g h x = true := by
  have h0 : 0 < g.b.length := by have := dgN_lt (edgOk g) hh; omega
  rw [domB_iff h0, dm_iff h0]
  rcases hx with rfl | ⟨hr, a, hb, hp⟩
  · exact fun hp => hp.last rfl
  · intro hq
    obtain ⟨_, _, _, hd⟩ := bkRow_mem.1 hb
    rw [domB_iff h0, dm_iff h0] at hd
    exact hd (hq.trans hp)
/-! ### ascending lists -/
theorem nI_inj {l m : List Nat} (h : nI l = nI m) : l = m := by
  have := congrArg (List.map Int.toNat) h
  simpa [nI, List.map_map, Function.comp_def] using this
theorem srt_pair (L : List Int) : (srt L).Pairwise fun a b => a ≤ b := by
  have hp : (srt L).Pairwise fun a b => (decide (a ≤ b)) = true := List.pairwise_mergeSort (fun a b c h1 h2 => by simp at *; omega) (fun a b => by simp; omega) _
  exact hp.imp fun h => by simpa using h
theorem srt_mem {L : List Int} {v : Int} : v ∈ srt L ↔ v ∈ L := by simp [srt]
theorem srt_nodup {L : List Int} (h : L.Nodup) : Asc (srt L) := by
  have hp : (srt L).Perm L := List.mergeSort_perm L _
  have hn : (srt L).Nodup := hp.nodup_iff.2 h
  have h1 := srt_pair L
  unfold Asc
  rw [List.pairwise_iff_getElem] at h1 ⊢
  intro i j hi hj hij
  have h2 := h1 i j hi hj hij
  have h3 : (srt L)[i] ≠ (srt L)[j] := fun e => by
    have := (List.getElem_inj hn).1 e
    omega
  omega
/-- Sorted and made one: ascending, each once. -/
theorem compact_srt (L : List Int) (M : List Int) (hM : Asc M) (hm : ∀ v, v ∈ M ↔ v ∈ L) : Lib.compact (srt L) = M ∧ M.length ≤ L.length := by
  have hp := srt_pair L
  have hmem : ∀ v, v ∈ srt L ↔ v ∈ L := fun v => srt_mem
  have hlen := srt_len L
  obtain ⟨S, hS⟩ : ∃ S, srt L = S := ⟨_, rfl⟩
  rw [hS] at hp hmem hlen ⊢
  have hs : ∀ (i j : Nat), i < j → j < S.toArray.size → S.toArray[i]! ≤ S.toArray[j]! := fun i j hij hj => by
    have hj' : j < S.length := by simpa using hj
    have := List.pairwise_iff_getElem.1 hp i j (by omega) hj' hij
    simpa [getElem!_pos, hj', show i < S.length by omega] using this
  obtain ⟨h1, h2, h3⟩ := compact_sorted hs S.length (by simp)
  have he : Lib.compact S = M := by
    refine asc_ext h1 hM fun v => ?_
    rw [hm, ← hmem]
    show v ∈ Lib.compactUpTo S.toArray S.length ↔ _
    rw [h2, List.mem_iff_getElem]
    constructor
    · rintro ⟨j, hj, e⟩
      exact ⟨j, hj, by simpa [getElem!_pos, hj] using e⟩
    · rintro ⟨j, hj, e⟩
      exact ⟨j, hj, by simpa [getElem!_pos, hj] using e⟩
  refine ⟨he, ?_⟩
  rw [← he, ← hlen]
  exact h3
/-! ### the search for a loop's blocks -/
/-- What stands in the middle of the search: the blocks found, those to be looked at. -/
structure BMid (g : Gr) (h : Nat) (F W : List Nat) : Prop where
  nd : F.Nodup
  each : ∀ x ∈ F, x < g.b.length ∧ InBody g h x
  hd : h ∈ F
  w : ∀ x ∈ W, x < g.b.length ∧ ((dgN g).rc x = true → InBody g h x)
  cl : ∀ x p, x ∈ F → x ≠ h → (dgN g).rc p = true → x ∈ edgN g p → p ∈ F ∨ p ∈ W
  sr : ∀ a, h ∈ bkRow g a → a ∈ F ∨ a ∈ W
theorem BMid.len {g : Gr} {h : Nat} {F W : List Nat} (m : BMid g h F W) : F.length ≤ g.b.length := nodup_len m.nd fun x hx => (m.each x hx).1
theorem BMid.done {g : Gr} {h : Nat} {F : List Nat} (m : BMid g h F []) : ∀ x, x ∈ F ↔ x ∈ bodyL g h := by
  intro x
  rw [bodyL_mem]
  refine ⟨m.each x, fun hx => ?_⟩
  refine body_least (S := fun x => x ∈ F) m.hd (fun a ha => ?_) (fun y p hy hyh hr he => ?_) hx.2
  · simpa using m.sr a ha
  · simpa using m.cl y p hy hyh hr he
/-- A block that is known already, or that is not reached, is dropped. -/
theorem BMid.drop {g : Gr} {h b : Nat} {F W : List Nat} (m : BMid g h F (W ++ [b])) (hb : b ∈ F ∨ (dgN g).rc b = false) : BMid g h F W := by
  refine ⟨m.nd, m.each, m.hd, fun x hx => m.w x (List.mem_append_left _ hx), fun x p hx hxh hr he => ?_, fun a ha => ?_⟩
  · rcases m.cl x p hx hxh hr he with h1 | h1
    · exact .inl h1
    · rcases List.mem_append.1 h1 with h1 | h1
      · exact .inr h1
      · simp at h1
        subst h1
        rcases hb with hb | hb
        · exact .inl hb
        · rw [hb] at hr; cases hr
  · rcases m.sr a ha with h1 | h1
    · exact .inl h1
    · rcases List.mem_append.1 h1 with h1 | h1
      · exact .inr h1
      · simp at h1
        subst h1
        rcases hb with hb | hb
        · exact .inl hb
        · rw [(bkRow_rc ha).1] at hb; cases hb
theorem BMid.take {g : Gr} {h b : Nat} {F W : List Nat} (m : BMid g h F (W ++ [b])) (hb : b ∉ F) (hr : (dgN g).rc b = true) : BMid g h (F ++ [b]) (W ++ predF g b) := by
  obtain ⟨hbn, hbb⟩ := m.w b (by simp)
  have hbb := hbb hr
  have hbh : b ≠ h := fun e => hb (e ▸ m.hd)
  refine ⟨?_, fun x hx => ?_, List.mem_append_left _ m.hd, fun x hx => ?_, fun x p hx hxh hr' he => ?_, fun a ha => ?_⟩
  · rw [List.nodup_append]
    exact ⟨m.nd, by simp, fun a ha c hc => by simp at hc; subst hc; exact fun e => hb (e ▸ ha)⟩
  · rcases List.mem_append.1 hx with hx | hx
    · exact m.each x hx
    · simp at hx; subst hx; exact ⟨hbn, hbb⟩
  · rcases List.mem_append.1 hx with hx | hx
    · exact m.w x (List.mem_append_left _ hx)
    · obtain ⟨h1, h2⟩ := predF_mem.1 hx
      exact ⟨h1, fun h3 => hbb.pred hbh h3 h2⟩
  · rcases List.mem_append.1 hx with hx | hx
    · rcases m.cl x p hx hxh hr' he with h1 | h1
      · exact .inl (List.mem_append_left _ h1)
      · rcases List.mem_append.1 h1 with h1 | h1
        · exact .inr (List.mem_append_left _ h1)
        · simp at h1; subst h1; exact .inl (by simp)
    · simp at hx
      subst hx
      exact .inr (List.mem_append_right _ (predF_mem.2 ⟨dgN_lt (edgOk g) hr', he⟩))
  · rcases m.sr a ha with h1 | h1
    · exact .inl (List.mem_append_left _ h1)
    · rcases List.mem_append.1 h1 with h1 | h1
      · exact .inr (List.mem_append_left _ h1)
      · simp at h1; subst h1; exact .inl (by simp)
/-! ### exits -/
open Classical in
noncomputable def exitL (g : Gr) (h : Nat) : List Nat := (List.range g.b.length).filter fun x => decide (x ∉ bodyL g h ∧ ∃ b ∈ bodyL g h, x ∈ edgN g b)
theorem exitL_mem {g : Gr} {h x : Nat} : x ∈ exitL g h ↔ x < g.b.length ∧ x ∉ bodyL g h ∧ ∃ b ∈ bodyL g h, x ∈ edgN g b := by simp [exitL]
theorem bodyL_asc (g : Gr) (h : Nat) : Asc (nI (bodyL g h)) := asc_range _ _
theorem exitL_asc (g : Gr) (h : Nat) : Asc (nI (exitL g h)) := asc_range _ _
theorem exitL_len (g : Gr) (h : Nat) : (exitL g h).length ≤ g.b.length := by
  have := List.length_filter_le (fun x => @decide (x ∉ bodyL g h ∧ ∃ b ∈ bodyL g h, x ∈ edgN g b) (Classical.propDecidable _)) (List.range g.b.length)
  simpa [exitL] using this
end Go.Proofs.Ytngjcmeclhlfeaa

/- Contracts: loops.body. -/
namespace Go.Proofs.Ytngjcmeclhlfeaa
open Go.RowKit
/-- Numbers as a set's entries. -/
def entS (F : List Nat) : List (Nat × Int × Bool) := F.mapIdx fun (i x : Nat) => (i, ((x : Nat) : Int), true)
theorem entS_app (F : List Nat) (b : Nat) : entS (F ++ [b]) = entS F ++ [(F.length, (b : Int), true)] := by simp [entS, List.mapIdx_append]
@[simp] theorem entS_len (F : List Nat) : (entS F).length = F.length := by simp [entS]
theorem entS_mem {F : List Nat} {p : Nat × Int × Bool} (h : p ∈ entS F) : ∃ x ∈ F, p.2 = ((x : Int), true) := by
  simp only [entS, List.mem_mapIdx] at h
  obtain ⟨i, hi, rfl⟩ := h
  exact ⟨F[i], List.getElem_mem hi, rfl⟩
theorem entS_has {F : List Nat} {x : Nat} (h : x ∈ F) : ∃ p ∈ entS F, p.2.1 = (x : Int) := by
  obtain ⟨i, hi, rfl⟩ := List.getElem_of_mem h
  exact ⟨(i, (F[i] : Int), true), List.mem_mapIdx.2 ⟨i, hi, rfl⟩, rfl⟩
theorem entS_keys (F : List Nat) : keysS (entS F) = nI F := by
  apply List.ext_getElem?
  intro i
  simp only [keysS, entS, nI, List.getElem?_map, List.getElem?_mapIdx]
  cases F[i]? <;> rfl
theorem entS_ok' : ∀ (n : Nat) {F : List Nat}, F.length = n → F.Nodup → SetOk F.length (entS F)
  | 0, F, hl, _ => by
    obtain rfl := List.length_eq_zero_iff.1 hl
    simp [entS, SetOk]
  | n + 1, F, hl, h => by
    rcases List.eq_nil_or_concat F with rfl | ⟨F', b, hF⟩
    · simp at hl
    · rw [List.concat_eq_append] at hF
      subst hF
      rw [List.nodup_append] at h
      rw [entS_app, List.length_append]
      refine setOk_add (entS_ok' n (by simpa using hl) h.1) fun x hx hk => ?_
      obtain ⟨y, hy, he⟩ := entS_mem hx
      rw [he] at hk
      simp at hk
      have : y = b := by omega
      exact h.2.2 y hy b (by simp) this
theorem entS_ok {F : List Nat} (h : F.Nodup) : SetOk F.length (entS F) := entS_ok' _ rfl h
theorem entS_in {F : List Nat} (h : F.Nodup) (x : Nat) : inS (entS F) (x : Int) = decide (x ∈ F) := by
  rw [Bool.eq_iff_iff, decide_eq_true_eq, inS_iff (entS_ok h) (fun p hp => by obtain ⟨y, _, he⟩ := entS_mem hp; rw [he])]
  constructor
  · rintro ⟨p, hp, hk⟩
    obtain ⟨y, hy, he⟩ := entS_mem hp
    rw [he] at hk
    simp at hk
    have : y = x := by omega
    exact this ▸ hy
  · intro hx; exact entS_has hx
theorem entS_new {F : List Nat} {b : Nat} (h : b ∉ F) : ∀ x ∈ entS F, x.2.1 ≠ (b : Int) := fun x hx hk => by
  obtain ⟨y, hy, he⟩ := entS_mem hx
  rw [he] at hk
  simp at hk
  have : y = b := by omega
  exact h (this ▸ hy)
theorem bkL_nat {g : Gr} {p : Int × Int} : ∀ {n : Nat}, p ∈ bkL g n → ∃ a b : Nat, p = ((a : Int), (b : Int)) ∧ a < n ∧ b ∈ bkRow g a
  | 0, h => by simp [bkL] at h
  | n + 1, h => by
    simp only [bkL, List.mem_append, List.mem_map] at h
    rcases h with h | ⟨b, hb, rfl⟩
    · obtain ⟨a, b, h1, h2, h3⟩ := bkL_nat h
      exact ⟨a, b, h1, by omega, h3⟩
    · exact ⟨n, b, rfl, by omega, hb⟩
/-- The sources of edges back to h. -/
def srcL (l : List (Int × Int)) (h : Nat) : List Nat := (l.filter fun p => decide (p.2 = (h : Int))).map fun p => p.1.toNat
theorem srcL_mem {g : Gr} {h a : Nat} : a ∈ srcL (bkL g g.b.length) h ↔ a < g.b.length ∧ h ∈ bkRow g a := by
  unfold srcL
  simp only [List.mem_map, List.mem_filter, decide_eq_true_eq]
  constructor
  · rintro ⟨p, ⟨hp, hk⟩, rfl⟩
    obtain ⟨x, y, rfl, h1, h2⟩ := bkL_nat hp
    simp at hk
    have : y = h := by omega
    subst this
    exact ⟨h1, h2⟩
  · rintro ⟨h1, h2⟩
    exact ⟨((a : Int), (h : Int)), ⟨bkL_mem.2 ⟨h1, h2⟩, rfl⟩, rfl⟩
theorem srcL_take {l : List (Int × Int)} {h j : Nat} {p : Int × Int} (hp : l[j]? = some p) : srcL (l.take (j + 1)) h = if p.2 = (h : Int) then srcL (l.take j) h ++ [p.1.toNat] else srcL (l.take j) h := by
  unfold srcL
  rw [List.take_add_one, hp, List.filter_append, List.map_append]
  by_cases hh : p.2 = (h : Int)
  · simp [hh]
  · simp [hh]
theorem srcL_len (l : List (Int × Int)) (h : Nat) : (srcL l h).length ≤ l.length := by
  unfold srcL
  rw [List.length_map]
  exact List.length_filter_le _ _
@[simp] theorem msB_cln (m v c : Nat) (L : List (Nat × Int × Bool)) : clnE m (msB v c L).els = (msB v c L).els := congrArg Blk.els (cln_msB m v c L)
theorem wf_small {x : Nat} (h : x < 1000000) : (Lit.int .i64 (x : Int)).wf = true := by
  simp [Lit.wf, IntKind.min, IntKind.max, IntKind.signed, IntKind.bits]
  omega
set_option maxRecDepth 100000 in
theorem lpbody_af (g : Gr) (hg : GrFit g) (hsm : g.b.length ≤ 400) (h : Nat) (hh : (dgN g).rc h = true) :
    AF Try.prog 38 [grV g, aI .i64 h, .d (.sl 2 (prs (bkL g g.b.length)))] (.d (.sl 1 (i64s (nI (bodyL g h))))) := by
  have hgl : g.b.length ≤ maxLen := by unfold maxLen; omega
  have hR := dmreach_af revOk g hg (edgOk g)
  have hP := dmpreds_af g hg (edgOk g) hsm
  rw [dataP_pred g (by have := (turn_keep hg (List.range g.b.length) (List.replicate g.b.length []) 0 (by simp)).1; simpa [turnN] using this)] at hP
  have u56 := Try.underlying56
  have u3 := Try.underlying3
  have hhn := dgN_lt (edgOk g) hh
  have hbl := bkL_len g g.b.length
  have hbl2 : g.b.length * g.b.length ≤ 400 * 400 := Nat.mul_le_mul hsm hsm
  have hsrc : ∀ a, a ∈ srcL (bkL g g.b.length) h ↔ a < g.b.length ∧ h ∈ bkRow g a := fun a => srcL_mem
  have hnat : ∀ p ∈ bkL g g.b.length, ∃ a b : Nat, p = ((a : Int), (b : Int)) := fun p hp => by obtain ⟨a, b, h1, _⟩ := bkL_nat hp; exact ⟨a, b, h1⟩
  have hm0 : BMid g h [h] (srcL (bkL g g.b.length) h) := ⟨by simp, fun x hx => by simp at hx; subst hx; exact ⟨hhn, .inl rfl⟩, by simp, fun x hx => ⟨((hsrc x).1 hx).1, fun _ => .src ((hsrc x).1 hx).2⟩,
    fun x p hx hxh => by simp at hx; exact absurd hx hxh, fun a ha => .inr ((hsrc a).2 ⟨dgN_lt (edgOk g) (bkRow_rc ha).1, ha⟩)⟩
  have hra : ∀ a, a < g.b.length → (blD (reachN g))[a]? = some [D.v (.bool ((dgN g).rc a))] := fun a h => blD_get (reachN_get h)
  have hrow0 : ∀ a, a < g.b.length → (dataT (mkT g.b.length (predF g)))[a]? = some [.sl 1 (i64s (nI (predF g a)))] := fun a h => by
    have := dataT_get (T := mkT g.b.length (predF g)) (k := a) (by simpa using h)
    rwa [mkT_row _ h] at this
  obtain ⟨n, hn⟩ : ∃ n, g.b.length = n := ⟨_, rfl⟩
  simp only [hn] at hP hgl hhn hbl hbl2 hsrc hnat hm0 hra hrow0 hsm ⊢
  generalize bkL g n = bk at *
  refine af_of Try.func38 rfl (by kernel_rfl) (by simp [Try.ntmps38]) fun _ => ?_; simp [Try.f38, Ex.d_eq]
  refine aRaw_makeS ?_
  simp
  refine aRaw_insS (L := []) (c := 0) (b := 1) (v := 0) (k := h) (v' := true) u56 u3 (by simp) (by simp) (by simp) rfl (by simp) ?_
  simp
  refine aCall_of hP (by kernel_rfl) (by simp) ?_
  simp
  refine aCall_of hR (by kernel_rfl) (by simp) ?_
  simp
  refine aLoop_st (fun j : Nat => [(1, aI .i64 h), (3, .ptr 0 0 0 0), (7, .mp 1 0), (8, .d (.sl 1 (dataT (mkT n (predF g))))), (9, .d (.sl 1 (blD (reachN g)))), (10, .own 2 (srcL (bk.take j) h).length 0 (srcL (bk.take j) h).length), (22, .d (.sl 2 (prs bk))), (23, aI .i64 bk.length), (24, aI .i64 j)])
    (fun j => [gB g, msB 0 1 (entS [h]), nbk (srcL (bk.take j) h).length (nI (srcL (bk.take j) h))]) (fun j => j ≤ bk.length) (fun j => bk.length - j) 0
    ((Sub.ghost 0 3 1).trans (Sub.slot (s := 10) (c := .own 2 0 0 0) (by simp; exact VLe.nil_own (k := ⟨0, true, 3, 1, []⟩) (by simp) rfl))) 3 (by omega) (by simp [cln_gB, cln_msB, srcL, entS]) (by simp [srcL, blD]) (by omega) ?_
  rintro j hj K hK
  have hsl : (srcL (bk.take j) h).length ≤ 160000 := by have := srcL_len (bk.take j) h; simp at this; omega
  rcases Nat.lt_or_ge j bk.length with hlt | hge
  case inl =>
    obtain ⟨p, hp⟩ : ∃ p, bk[j]? = some p := ⟨_, List.getElem?_eq_getElem hlt⟩
    have hp1 := prs_get hp
    have hp2 := (List.getElem?_eq_some_iff.1 hp1).2
    have hst := srcL_take (h := h) hp
    obtain ⟨a, b, rfl⟩ := hnat p (List.mem_of_getElem? hp)
    simp only [Int.toNat_natCast] at hst
    have hbm : bk.length ≤ maxLen := by unfold maxLen; omega
    simp [hlt, hp1, hp2]
    by_cases hbh : (b : Int) = (h : Int)
    · rw [if_pos hbh] at hst
      simp [hbh]
      refine aRaw_app byt_35 ?_
      simp
      refine ⟨by unfold maxLen; omega, by omega, ?_⟩
      simp [succ_wrap hlt hbm]
      exact hK (j + 1) (by omega) (by omega) (Sub.refl _ _ _) 3 (by omega) (by simp [cln_gB, cln_msB, hst]) (by simp [hst])
    · rw [if_neg hbh] at hst
      simp [hbh, succ_wrap hlt hbm]
      exact hK (j + 1) (by omega) (by omega) (Sub.refl _ _ _) 3 (by omega) (by simp [cln_gB, cln_msB, hst]) (by simp [hst])
  obtain rfl : j = bk.length := by omega
  rw [List.take_length] at hsl ⊢
  simp
  clear hK K
  refine aLoop_st (α := List Nat × List Nat × Nat) (fun q => [(7, .mp 1 0), (8, .d (.sl 1 (dataT (mkT n (predF g))))), (9, .d (.sl 1 (blD (reachN g)))), (10, .own 2 q.2.2 0 q.2.1.length)])
    (fun q => [gB g, msB 0 q.1.length (entS q.1), nbk q.2.2 (nI q.2.1)]) (fun q => BMid g h q.1 q.2.1 ∧ q.2.1.length ≤ 160000 + q.1.length * 400) (fun q => (n - q.1.length) * 401 + q.2.1.length) ([h], srcL bk h, (srcL bk h).length)
    (Sub.refl _ _ _) 3 (by omega) (by simp [cln_gB, cln_msB]) (by simp) ⟨hm0, by simp only; omega⟩ ?_
  rintro ⟨F, W, u⟩ ⟨hm, hWl⟩ K hK
  simp only at hm hWl hK ⊢
  have hFl := hm.len
  rw [hn] at hFl
  rcases List.eq_nil_or_concat W with rfl | ⟨W', b, hWb⟩
  · have hd := hm.done
    have hs : srt (keysS (entS F)) = nI (bodyL g h) := by
      rw [entS_keys]
      refine asc_ext (srt_nodup ?_) (bodyL_asc g h) fun v => ?_
      · have := hm.nd
        unfold nI
        exact this.map _ (fun a b hab he => hab (by omega))
      · rw [srt_mem, nI_mem, nI_mem]
        constructor
        · rintro ⟨x, hx, e⟩; exact ⟨x, (hd x).1 hx, e⟩
        · rintro ⟨x, hx, e⟩; exact ⟨x, (hd x).2 hx, e⟩
    have hbl3 := bodyL_len g h
    simp
    refine aCall_ofc (mkeys_ac (b := 1) (v := 0) (c := F.length) (L := entS F) rfl) (by kernel_rfl) ?_
    rintro _ _ ⟨rfl, rfl⟩
    simp
    have hso := msorted_ac (A := [gB g, msB 0 F.length (entS F), nbk u [], mbox 1 0]) (q := 3) (b := 1) (v := 0) (c := F.length) (L := entS F) rfl rfl (by simp; omega) (fun x hx => by
      obtain ⟨y, hy, he⟩ := entS_mem hx
      have := (hm.each y hy).1
      rw [he]
      exact wf_small (by omega))
    rw [hs] at hso
    refine aCall_ofc hso (by kernel_rfl) ?_
    rintro _ _ ⟨rfl, rfl⟩
    simp
  · rw [List.concat_eq_append] at hWb
    subst hWb
    obtain ⟨hbn, _⟩ := hm.w b (by simp)
    rw [hn] at hbn
    have hWb : (W' ++ [b]).length = W'.length + 1 := by simp
    have hin := entS_in hm.nd b
    have hrb := hra b hbn
    have hrb2 := (List.getElem?_eq_some_iff.1 hrb).2
    have hgt : (dEls (i64s (nI (W' ++ [b]))))[W'.length]? = some [aI .i64 b] := nbk_get (by simp [nI])
    have hw1 : IntKind.i64.wrap (W'.length : Int) = (W'.length : Int) := i64w (by simp at hWl; omega)
    have hcut : ∀ e : AEnv, Sub 0 e [gB g, msB 0 F.length (entS F), nbk u (nI W' ++ [(b : Int)])] e [gB g, msB 0 F.length (entS F), nbk u (nI W')] := fun e => by
      have := Sub.trunc (n := 0) (e := e) (A := [gB g, msB 0 F.length (entS F), nbk u (nI W' ++ [(b : Int)])]) (b := 2) W'.length (k := nbk u (nI W' ++ [(b : Int)])) rfl (show 3 < 1000000 by decide)
      have ht : (dEls (i64s (nI W' ++ [(b : Int)]))).take W'.length = dEls (i64s (nI W')) := by simp [dEls, i64s, nI]
      simp only [setEls, ht] at this
      exact this
    have happ : appT 3 1 [gB g, msB 0 (F.length + 1) (entS (F ++ [b])), nbk u (nI W' ++ [(b : Int)])] (.own 2 u 0 W'.length) (.d (.sl 1 (i64s (nI (predF g b))))) =
        some (.own 2 (u + 1) 0 (W'.length + (predF g b).length), [gB g, msB 0 (F.length + 1) (entS (F ++ [b])), nbk (u + 1) (nI (W' ++ predF g b))], W'.length + (predF g b).length) := by
      have ht : (dEls (i64s (nI W' ++ [(b : Int)]))).take W'.length = dEls (i64s (nI W')) := by simp [dEls, i64s, nI]
      have hall : (dEls (i64s (nI (predF g b)))).all (fun x => x.length == 1) = true := by simp [dEls, i64s]
      simp [appT, appA, elsOf, curB, setEls, dEls, i64s, nI]
    have hpr := hrow0 b hbn
    have hpr2 := (List.getElem?_eq_some_iff.1 hpr).2
    have hpl := predF_len g b
    rw [hn] at hpl
    have hwl : W'.length + 1 ≤ 160000 + F.length * 400 := by simpa using hWl
    have hl1 : (W'.length : Int) < (W'.length : Int) + 1 := by omega
    have hl2 : (W'.length : Int) ≤ (W'.length : Int) + 1 := by omega
    simp [hw1, hgt, hl1, hl2]
    refine aRaw_lookS (L := entS F) (c := F.length) (b := 1) (v := 0) (k := b) u56 u3 (by kernel_rfl) (by simp) (by simp) rfl ?_
    rw [hin]
    by_cases hbF : b ∈ F
    · simp [hbF]
      refine hK (F, W', u) ⟨hm.drop (.inl hbF), by simp only; omega⟩ (by simp only; simp) (hcut _) 3 (by omega) (by simp [cln_gB]) (by simp)
    · simp [hbF, hrb, hrb2, hn, hbn]
      cases hrc : (dgN g).rc b with
      | false =>
        simp
        refine hK (F, W', u) ⟨hm.drop (.inr hrc), by simp only; omega⟩ (by simp only; simp) (hcut _) 3 (by omega) (by simp [cln_gB]) (by simp)
      | true =>
        have hmt := hm.take hbF hrc
        have hFn := hmt.len
        rw [hn, List.length_append, List.length_singleton] at hFn
        simp
        refine aRaw_updS (L := entS F) (c := F.length) (b := 1) (v := 0) (k := b) (v' := true) u56 u3 (by simp) (by simp) (by simp) rfl (entS_new hbF) ?_
        rw [← entS_app]
        simp [hbn, hpr, hpr2]
        refine aRaw_appT byt_35 ?_
        refine ⟨.own 2 (u + 1) 0 (W'.length + (predF g b).length), [gB g, msB 0 (F.length + 1) (entS (F ++ [b])), nbk (u + 1) (nI (W' ++ predF g b))], W'.length + (predF g b).length, ?_, by unfold maxLen; omega, by omega, ?_⟩
        · simp
          simpa using happ
        simp
        refine hK (F ++ [b], W' ++ predF g b, u + 1) ⟨hmt, ?_⟩ ?_ (Sub.refl _ _ _) 3 (by omega) (by simp [cln_gB]) (by simp)
        · simp only [List.length_append, List.length_singleton]
          omega
        · simp only [List.length_append, List.length_singleton]
          have : n - F.length = (n - (F.length + 1)) + 1 := by omega
          rw [this, Nat.add_mul]
          omega
end Go.Proofs.Ytngjcmeclhlfeaa

/- Contracts: loops.exits, loops.Nest, the reference's inner and Nest. -/
namespace Go.Proofs.Ytngjcmeclhlfeaa
open Go.RowKit
/-- The edges that leave B, from the first i of its blocks. -/
def leavL (g : Gr) (B : List Nat) (b : Nat) : List Nat := (succR g g.b.length b).filter fun x => decide (x ∉ B)
def leavS (g : Gr) (B : List Nat) : List Nat → List Nat
  | [] => []
  | b :: l => leavL g B b ++ leavS g B l
theorem leavS_app (g : Gr) (B : List Nat) : ∀ l m : List Nat, leavS g B (l ++ m) = leavS g B l ++ leavS g B m
  | [], m => rfl
  | b :: l, m => by simp [leavS, leavS_app g B l m]
theorem leavS_mem {g : Gr} {B : List Nat} {x : Nat} : ∀ {l : List Nat}, x ∈ leavS g B l ↔ ∃ b ∈ l, x < g.b.length ∧ x ∈ edgN g b ∧ x ∉ B
  | [] => by simp [leavS]
  | b :: l => by
    simp only [leavS, List.mem_append, leavS_mem (l := l), leavL, List.mem_filter, succR_mem, decide_eq_true_eq, List.mem_cons]
    constructor
    · rintro (⟨⟨h1, h2⟩, h3⟩ | ⟨c, h1, h2⟩)
      · exact ⟨b, .inl rfl, h1, h2, h3⟩
      · exact ⟨c, .inr h1, h2⟩
    · rintro ⟨c, rfl | h1, h2, h3, h4⟩
      · exact .inl ⟨⟨h2, h3⟩, h4⟩
      · exact .inr ⟨c, h1, h2, h3, h4⟩
theorem leavL_len (g : Gr) (B : List Nat) (b : Nat) : (leavL g B b).length ≤ g.b.length := Nat.le_trans (List.length_filter_le _ _) (succR_len g _ _)
theorem leavS_len (g : Gr) (B : List Nat) : ∀ l : List Nat, (leavS g B l).length ≤ l.length * g.b.length
  | [] => by simp [leavS]
  | b :: l => by
    have h1 := leavS_len g B l
    have h2 := leavL_len g B b
    simp only [leavS, List.length_append, List.length_cons]
    rw [Nat.succ_mul]
    omega
set_option maxRecDepth 100000 in
theorem lpexits_af (g : Gr) (hsm : g.b.length ≤ 400) (h : Nat) :
    AF Try.prog 39 [.d (.sl 1 (dataT (succT g))), .d (.sl 1 (i64s (nI (bodyL g h))))] (.d (.sl 1 (i64s (nI (exitL g h))))) := by
  have hgl : g.b.length ≤ maxLen := by unfold maxLen; omega
  have hBl := bodyL_len g h
  have hBn : ∀ b ∈ bodyL g h, b < g.b.length := fun b hb => (bodyL_mem.1 hb).1
  obtain ⟨c1, c2⟩ := compact_srt (nI (leavS g (bodyL g h) (bodyL g h))) (nI (exitL g h)) (exitL_asc g h) fun v => by
    rw [nI_mem, nI_mem]
    constructor
    · rintro ⟨x, hx, e⟩
      obtain ⟨h1, h2, b, h3, h4⟩ := exitL_mem.1 hx
      exact ⟨x, leavS_mem.2 ⟨b, h3, h1, h4, h2⟩, e⟩
    · rintro ⟨x, hx, e⟩
      obtain ⟨b, h1, h2, h3, h4⟩ := leavS_mem.1 hx
      exact ⟨x, exitL_mem.2 ⟨h2, h4, b, h1, h3⟩, e⟩
  have hSl := leavS_len g (bodyL g h) (bodyL g h)
  have hrow0 : ∀ a, a < g.b.length → (dataT (succT g))[a]? = some [.sl 1 (i64s (nI (succR g g.b.length a)))] := fun a h => by
    have := dataT_get (T := succT g) (k := a) (by simpa [succT] using h)
    rwa [show rowN (succT g) a = succR g g.b.length a from mkT_row _ h] at this
  have hTl : (succT g).length = g.b.length := by simp [succT]
  have hXl := exitL_len g h
  generalize exitL g h = X at *
  generalize bodyL g h = B at *
  have hll := fun i => leavS_len g B (B.take i)
  have hsl := fun b => succR_len g g.b.length b
  have hmul : B.length * g.b.length ≤ 400 * 400 := Nat.mul_le_mul (by omega) hsm
  have hll2 : ∀ i, (leavS g B (B.take i)).length ≤ 160000 := fun i => Nat.le_trans (hll i) (Nat.le_trans (Nat.mul_le_mul_right _ (show (B.take i).length ≤ B.length by simp; omega)) hmul)
  obtain ⟨n, hn⟩ : ∃ n, g.b.length = n := ⟨_, rfl⟩
  have hlL : ∀ b, leavL g B b = (succR g n b).filter fun x => decide (x ∉ B) := fun b => by unfold leavL; rw [hn]
  simp only [hn] at hgl hBl hBn hrow0 hTl hXl hsl hsm
  have hBm : B.length ≤ maxLen := by omega
  refine af_of Try.func39 rfl (by kernel_rfl) (by simp [Try.ntmps39]) fun _ => ?_; simp [Try.f39, Ex.d_eq]
  refine aLoop_st (fun i : Nat => [(0, .d (.sl 1 (dataT (succT g)))), (1, .d (.sl 1 (i64s (nI B)))), (5, .own 0 (leavS g B (B.take i)).length 0 (leavS g B (B.take i)).length), (10, .d (.sl 1 (i64s (nI B)))), (11, aI .i64 B.length), (12, aI .i64 i)])
    (fun i => [nbk (leavS g B (B.take i)).length (nI (leavS g B (B.take i)))]) (fun i => i ≤ B.length) (fun i => B.length - i) 0
    ((Sub.ghost 0 3 1).trans (Sub.slot (s := 5) (c := .own 0 0 0 0) (by simp; exact VLe.nil_own (k := ⟨0, true, 3, 1, []⟩) (by simp) rfl))) 1 (by omega) (by simp [leavS]) (by simp [leavS]) (by omega) ?_
  rintro i hi K hK
  have hl1 := hll2 i
  rcases Nat.lt_or_ge i B.length with hlt | hge
  case inr =>
    obtain rfl : i = B.length := by omega
    rw [List.take_length] at hl1 ⊢
    have c4 := srt_len (nI (leavS g B B))
    have hsrt := sort_ac (nI (leavS g B B)) [nbk (leavS g B B).length (nI (leavS g B B))] 0 (leavS g B B).length 3 rfl (by simp; omega)
    have k2 := fun A hA => compact_ac (srt (nI (leavS g B B))) (nI X) A 0 (leavS g B B).length 3 hA (by rw [c4]; simp; omega) c1 (by rw [c4]; exact c2)
    rw [c4] at k2
    rw [show (nI (leavS g B B)).length = (leavS g B B).length by simp] at k2 hsrt c2
    simp
    refine aCall_ofc hsrt (by kernel_rfl) ?_
    rintro _ _ ⟨rfl, rfl⟩
    simp
    refine aCall_ofc (k2 _ rfl) (by kernel_rfl) ?_
    rintro _ _ ⟨rfl, rfl⟩
    have c3 : X.length ≤ (leavS g B B).length := by simpa using c2
    simp [c3]
  obtain ⟨b, hb⟩ : ∃ b, B[i]? = some b := ⟨_, List.getElem?_eq_getElem hlt⟩
  have hb2 := (List.getElem?_eq_some_iff.1 hb).2
  have hbn := hBn b (List.mem_of_getElem? hb)
  have hrow := hrow0 b hbn
  have hrow2 := (List.getElem?_eq_some_iff.1 hrow).2
  have hsl1 := hsl b
  have hslm : (succR g n b).length ≤ maxLen := by omega
  have hdl : (dataT (succT g)).length = n := by simp [hTl]
  simp [hlt, hb, hb2, hbn, hrow, hrow2, hdl]
  obtain ⟨f, hf⟩ : ∃ f : Nat → List Nat, f = fun j => leavS g B (B.take i) ++ ((succR g n b).take j).filter fun x => decide (x ∉ B) := ⟨_, rfl⟩
  have hf0 : f 0 = leavS g B (B.take i) := by rw [hf]; simp
  have hfe : f (succR g n b).length = leavS g B (B.take (i + 1)) := by
    rw [hf]
    simp only [List.take_length]
    rw [List.take_add_one, hb, leavS_app]
    simp [leavS, hlL]
  have hflen : ∀ j, (f j).length ≤ 170000 := fun j => by
    rw [hf]
    simp only [List.length_append]
    have h1 := List.length_filter_le (fun x => decide (x ∉ B)) ((succR g n b).take j)
    have h2 : ((succR g n b).take j).length ≤ (succR g n b).length := by simp; omega
    omega
  have hfs : ∀ (j x : Nat), (succR g n b)[j]? = some x → f (j + 1) = if x ∈ B then f j else f j ++ [x] := fun j x hx => by
    rw [hf]
    simp only
    rw [List.take_add_one, hx, List.filter_append]
    by_cases hd : x ∈ B
    · simp [hd]
    · simp [hd]
  clear hf
  refine aLoop_st (fun j : Nat => [(0, .d (.sl 1 (dataT (succT g)))), (1, .d (.sl 1 (i64s (nI B)))), (5, .own 0 (f j).length 0 (f j).length), (10, .d (.sl 1 (i64s (nI B)))), (11, aI .i64 B.length), (12, aI .i64 i),
      (19, .d (.sl 1 (i64s (nI (succR g n b))))), (20, aI .i64 (succR g n b).length), (21, aI .i64 j)])
    (fun j => [nbk (f j).length (nI (f j))]) (fun j => j ≤ (succR g n b).length) (fun j => (succR g n b).length - j) 0 (Sub.refl _ _ _) 1 (by omega) (by simp [hf0]) (by simp [hf0]) (by omega) ?_
  rintro j hj K2 hK2
  rcases Nat.lt_or_ge j (succR g n b).length with hjlt | hjge
  case inr =>
    obtain rfl : j = (succR g n b).length := by omega
    simp [succ_wrap hlt hBm]
    exact hK (i + 1) (by omega) (by omega) (Sub.refl _ _ _) 1 (by omega) (by simp [hfe]) (by simp [hfe])
  obtain ⟨x, hx⟩ : ∃ x, (succR g n b)[j]? = some x := ⟨_, List.getElem?_eq_getElem hjlt⟩
  have hx2 := (List.getElem?_eq_some_iff.1 hx).2
  have hfj := hfs j x hx
  have hfl := hflen j
  have hc := containsin_af (nI B) x (by simpa using hBm)
  rw [show decide ((x : Int) ∈ nI B) = decide (x ∈ B) by rw [Bool.eq_iff_iff, decide_eq_true_eq, decide_eq_true_eq, nI_not]] at hc
  simp [hjlt, hx, hx2]
  refine aCall_of hc (by kernel_rfl) (by simp) ?_
  by_cases hxB : x ∈ B
  · rw [if_pos hxB] at hfj
    simp [hxB, succ_wrap hjlt hslm]
    exact hK2 (j + 1) (by omega) (by omega) (Sub.refl _ _ _) 1 (by omega) (by simp [hfj]) (by simp [hfj])
  · rw [if_neg hxB] at hfj
    simp [hxB]
    refine aRaw_app byt_35 ?_
    simp
    refine ⟨by unfold maxLen; omega, by omega, ?_⟩
    simp [succ_wrap hjlt hslm]
    exact hK2 (j + 1) (by omega) (by omega) (Sub.refl _ _ _) 1 (by omega) (by simp [hfj]) (by simp [hfj])
/-! ### loops -/
structure Lp where
  hd : Int
  bd : List Int
  ex : List Int
  pa : Int
def Lp.d (l : Lp) : List D := [.v (.int .i64 l.hd), .sl 1 (i64s l.bd), .sl 1 (i64s l.ex), .v (.int .i64 l.pa)]
def lps (l : List Lp) : List (List D) := l.map Lp.d
@[simp] theorem lps_len (l : List Lp) : (lps l).length = l.length := by simp [lps]
theorem lps_get {l : List Lp} {i : Nat} {x : Lp} (h : l[i]? = some x) : (lps l)[i]? = some [.v (.int .i64 x.hd), .sl 1 (i64s x.bd), .sl 1 (i64s x.ex), .v (.int .i64 x.pa)] := by simp [lps, h, Lp.d]
/-- The innermost one: the first of those that hold b and are the shortest; but is left out. -/
def inStp (l : List Lp) (b but : Int) (best : Option Nat) (k : Nat) : Option Nat := match l[k]? with
  | none => best
  | some x => if (k : Int) ≠ but ∧ b ∈ x.bd then (match best with
    | none => some k
    | some c => if x.bd.length < ((l[c]?.map fun y => y.bd.length).getD 0) then some k else some c) else best
def inL (l : List Lp) (b but : Int) : Nat → Option Nat
  | 0 => none
  | k + 1 => inStp l b but (inL l b but k) k
theorem inL_lt {l : List Lp} {b but : Int} : ∀ {k : Nat}, ∀ c, inL l b but k = some c → c < l.length
  | 0, c, h => by cases h
  | k + 1, c, h => by
    rw [inL] at h
    unfold inStp at h
    split at h
    · exact inL_lt _ h
    · rename_i x hx
      split at h
      · split at h
        · obtain rfl := Option.some.inj h; exact (List.getElem?_eq_some_iff.1 hx).1
        · rename_i d hd
          split at h
          · obtain rfl := Option.some.inj h; exact (List.getElem?_eq_some_iff.1 hx).1
          · obtain rfl := Option.some.inj h; exact inL_lt _ hd
      · exact inL_lt _ h
set_option maxRecDepth 100000 in
theorem r35inner_af (l : List Lp) (b but : Int) (hl : l.length ≤ maxLen) (hb : ∀ x ∈ l, x.bd.length ≤ maxLen) : AF Try.prog 43 [.d (.sl 4 (lps l)), aI .i64 b, aI .i64 but] (aI .i64 (bV (inL l b but l.length))) := by
  refine af_of Try.func43 rfl (by kernel_rfl) (by simp [Try.ntmps43]) fun _ => ?_; simp [Try.f43, Ex.d_eq]
  refine aLoop_st (fun i : Nat => [(0, .d (.sl 4 (lps l))), (1, aI .i64 b), (2, aI .i64 but), (7, aI .i64 (bV (inL l b but i))), (8, aI .i64 i)]) (fun _ => []) (fun i => i ≤ l.length) (fun i => l.length - i) 0 (Sub.refl _ _ _) 0 (by omega) (by simp) (by simp [inL, bV]) (by omega) ?_
  rintro i hi K hK
  rcases Nat.lt_or_ge i l.length with hlt | hge
  case inr =>
    obtain rfl : i = l.length := by omega
    simp
  obtain ⟨x, hx⟩ : ∃ x, l[i]? = some x := ⟨_, List.getElem?_eq_getElem hlt⟩
  have hx1 := lps_get hx
  have hx2 := (List.getElem?_eq_some_iff.1 hx1).2
  have hxl := hb x (List.mem_of_getElem? hx)
  have hc := r35contains_af x.bd b hxl
  have hst : inL l b but (i + 1) = inStp l b but (inL l b but i) i := rfl
  have hlo := inL_lt (l := l) (b := b) (but := but) (k := i)
  unfold inStp at hst
  rw [hx] at hst
  simp only at hst
  simp [hlt]
  refine adraw [] (by kernel_rfl) (by kernel_rfl) (by kernel_rfl) (by kernel_rfl) ?_
  by_cases hbut : (i : Int) = but
  · rw [if_neg (by simp [hbut])] at hst
    subst hbut
    simp [hlt, succ_wrap hlt hl]
    exact hK (i + 1) (by omega) (by omega) (Sub.refl _ _ _) 0 (by omega) (by simp) (by simp [hst])
  simp [hbut, hlt, hx1, hx2]
  refine adC_of hc (by kernel_rfl) trivial (by simp) (by simp) ?_
  by_cases hin : b ∈ x.bd
  · rw [if_pos ⟨hbut, hin⟩] at hst
    simp [hin]
    generalize inL l b but i = bs at *
    cases bs with
    | none =>
      simp only at hst
      simp [bV, succ_wrap hlt hl]
      exact hK (i + 1) (by omega) (by omega) (Sub.refl _ _ _) 0 (by omega) (by simp) (by simp [hst, bV])
    | some c =>
      have hcl := hlo c rfl
      obtain ⟨y, hy⟩ : ∃ y, l[c]? = some y := ⟨_, List.getElem?_eq_getElem hcl⟩
      have hy1 := lps_get hy
      have hy2 := (List.getElem?_eq_some_iff.1 hy1).2
      simp only [hy, Option.map_some, Option.getD_some] at hst
      simp [bV, show ¬ (c : Int) < 0 by omega, hcl, hlt, hx1, hx2, hy1, hy2]
      by_cases hlt2 : x.bd.length < y.bd.length
      · rw [if_pos hlt2] at hst
        simp [hlt2, succ_wrap hlt hl]
        exact hK (i + 1) (by omega) (by omega) (Sub.refl _ _ _) 0 (by omega) (by simp) (by simp [hst, bV])
      · rw [if_neg hlt2] at hst
        simp [hlt2, succ_wrap hlt hl]
        exact hK (i + 1) (by omega) (by omega) (Sub.refl _ _ _) 0 (by omega) (by simp) (by simp [hst, bV])
  · rw [if_neg (by simp [hin])] at hst
    simp [hin, succ_wrap hlt hl]
    exact hK (i + 1) (by omega) (by omega) (Sub.refl _ _ _) 0 (by omega) (by simp) (by simp [hst])
theorem r35nest_af (l : List Lp) (b : Int) (hl : l.length ≤ maxLen) (hb : ∀ x ∈ l, x.bd.length ≤ maxLen) : AF Try.prog 17 [.d (.sl 4 (lps l)), aI .i64 b] (aI .i64 (bV (inL l b (-1) l.length))) := by
  refine af_of Try.func17 rfl (by kernel_rfl) (by simp [Try.ntmps17]) fun _ => ?_; simp [Try.f17, Ex.d_eq]
  refine aCall_of (r35inner_af l b (-1) hl hb) (by kernel_rfl) (by simp) ?_
  simp
set_option maxRecDepth 100000 in
theorem lpnest_af (l : List Lp) (b : Int) (hl : l.length ≤ maxLen) (hb : ∀ x ∈ l, x.bd.length ≤ maxLen) : AF Try.prog 16 [.d (.sl 4 (lps l)), aI .i64 b] (aI .i64 (bV (inL l b (-1) l.length))) := by
  refine af_of Try.func16 rfl (by kernel_rfl) (by simp [Try.ntmps16]) fun _ => ?_; simp [Try.f16, Ex.d_eq]
  refine aLoop_st (fun i : Nat => [(0, .d (.sl 4 (lps l))), (1, aI .i64 b), (5, aI .i64 (bV (inL l b (-1) i))), (8, .d (.sl 4 (lps l))), (9, aI .i64 l.length), (10, aI .i64 i)]) (fun _ => []) (fun i => i ≤ l.length) (fun i => l.length - i) 0 (Sub.refl _ _ _) 0 (by omega) (by simp) (by simp [inL, bV]) (by omega) ?_
  rintro i hi K hK
  rcases Nat.lt_or_ge i l.length with hlt | hge
  case inr =>
    obtain rfl : i = l.length := by omega
    simp
  obtain ⟨x, hx⟩ : ∃ x, l[i]? = some x := ⟨_, List.getElem?_eq_getElem hlt⟩
  have hx1 := lps_get hx
  have hx2 := (List.getElem?_eq_some_iff.1 hx1).2
  have hxl := hb x (List.mem_of_getElem? hx)
  have hc := containsin_af x.bd b hxl
  have hst : inL l b (-1) (i + 1) = inStp l b (-1) (inL l b (-1) i) i := rfl
  have hlo := inL_lt (l := l) (b := b) (but := -1) (k := i)
  unfold inStp at hst
  rw [hx] at hst
  simp only at hst
  simp [hlt, hx1, hx2]
  refine adraw [] (by kernel_rfl) (by kernel_rfl) (by kernel_rfl) (by kernel_rfl) ?_
  simp
  refine adC_of hc (by kernel_rfl) trivial (by simp) (by simp) ?_
  by_cases hin : b ∈ x.bd
  · rw [if_pos ⟨by omega, hin⟩] at hst
    simp [hin]
    generalize inL l b (-1) i = bs at *
    cases bs with
    | none =>
      simp only at hst
      simp [bV, succ_wrap hlt hl]
      exact hK (i + 1) (by omega) (by omega) (Sub.refl _ _ _) 0 (by omega) (by simp) (by simp [hst, bV])
    | some c =>
      have hcl := hlo c rfl
      obtain ⟨y, hy⟩ : ∃ y, l[c]? = some y := ⟨_, List.getElem?_eq_getElem hcl⟩
      have hy1 := lps_get hy
      have hy2 := (List.getElem?_eq_some_iff.1 hy1).2
      simp only [hy, Option.map_some, Option.getD_some] at hst
      simp [bV, show ¬ (c : Int) < 0 by omega, hcl, hlt, hx1, hx2, hy1, hy2]
      by_cases hlt2 : x.bd.length < y.bd.length
      · rw [if_pos hlt2] at hst
        simp [hlt2, succ_wrap hlt hl]
        exact hK (i + 1) (by omega) (by omega) (Sub.refl _ _ _) 0 (by omega) (by simp) (by simp [hst, bV])
      · rw [if_neg hlt2] at hst
        simp [hlt2, succ_wrap hlt hl]
        exact hK (i + 1) (by omega) (by omega) (Sub.refl _ _ _) 0 (by omega) (by simp) (by simp [hst, bV])
  · rw [if_neg (by simp [hin])] at hst
    simp [hin, succ_wrap hlt hl]
    exact hK (i + 1) (by omega) (by omega) (Sub.refl _ _ _) 0 (by omega) (by simp) (by simp [hst])
end Go.Proofs.Ytngjcmeclhlfeaa

/- Contracts: slices.ContainsFunc at pairs; loops.Find. -/
namespace Go.Proofs.Ytngjcmeclhlfeaa
open Go.RowKit
abbrev aPr (p : Int × Int) : AV := .agg [aI .i64 p.1, aI .i64 p.2]
/-- slices.IndexFunc at pairs, with a predicate that changes nothing. -/
theorem index_p_ac {f : Nat} {fs cs : List AV} {p : Int × Int → Bool} (A : AHeap) (l : List (Int × Int)) (hf : okF Try.prog f = true) (hp : ∀ a ∈ l, ∀ N, AC Try.prog f (fs ++ [aPr a] ++ cs) (A ++ N) (Same0 A (aB (p a)))) :
    AC Try.prog 60 [.d (.sl 2 (prs l)), .fn f fs cs] A (Same0 A (aI .i64 (match l.findIdx? p with | some i => (i : Int) | none => -1))) := by
  refine ac_of Try.func60 rfl (by kernel_rfl) (by simp [Try.ntmps60]) fun hb => ?_
  have n1 : l.length ≤ maxLen := by simpa using hb.1.1
  clear hb
  obtain ⟨R, hR⟩ : ∃ R : Int, (match l.findIdx? p with | some i => (i : Int) | none => -1) = R := ⟨_, rfl⟩
  rw [hR]
  simp [Try.f60]
  refine aLoop_of (α := Nat) (fun i e A' => i ≤ l.length ∧ (∃ N, A' = A ++ N) ∧ e 8 = aI .i64 i ∧ e 7 = aI .i64 l.length ∧ e 0 = .d (.sl 2 (prs l)) ∧ e 1 = .fn f fs cs ∧
    ∀ (j : Nat) (a : Int × Int), j < i → l[j]? = some a → p a = false) (fun i => l.length - i) 0 (Sub.refl _ _ _) ⟨by omega, ⟨[], by simp⟩, by simp, by simp, by simp, by simp, by intro j a hj; omega⟩ ?_
  rintro i e A' ⟨hi, ⟨N, rfl⟩, e8, e7, e0, e1, hall⟩ K hK
  simp [e8, e7]
  refine aCond_split (fun hlt => ?_) (fun hge => ?_)
  · simp at hlt
    have hi1 := List.getElem?_eq_getElem hlt
    have hi2 := prs_get hi1
    have hi3 := (List.getElem?_eq_some_iff.1 hi2).2
    simp [e0, e1, e8, hi1, hi2, hi3, hlt]
    refine aCall_ofc (hp l[i] (List.mem_of_getElem? hi1) N) hf ?_
    rintro _ _ ⟨rfl, N', rfl⟩
    simp
    refine aCond_split (fun ht => ?_) (fun hf => ?_)
    · have : l.findIdx? p = some i := by
        rw [List.findIdx?_eq_some_iff_getElem]
        exact ⟨hlt, ht, fun j hj => by simpa using hall j _ hj (List.getElem?_eq_getElem (by omega))⟩
      rw [this] at hR
      subst hR
      simp [Same0]
    · simp [e8, succ_wrap hlt n1]
      refine hK (i + 1) _ _ _ _ (Sub.refl _ _ _) ⟨by omega, ⟨N', rfl⟩, by simp, by simp [e7], by simp [e0], by simp [e1], fun j a hj ha => ?_⟩ (by omega)
      rcases Nat.lt_or_ge j i with h | h
      · exact hall j a h ha
      · obtain rfl : j = i := by omega
        rw [hi1] at ha
        obtain rfl := Option.some.inj ha
        exact hf
  · simp at hge
    have : l.findIdx? p = none := by
      rw [List.findIdx?_eq_none_iff]
      intro x hx
      obtain ⟨j, hj⟩ := List.getElem?_of_mem hx
      exact hall j x (by have := (List.getElem?_eq_some_iff.1 hj).1; omega) hj
    rw [this] at hR
    subst hR
    simp [Same0]
theorem contains_p_ac {f : Nat} {fs cs : List AV} {p : Int × Int → Bool} (A : AHeap) (l : List (Int × Int)) (hf : okF Try.prog f = true) (hp : ∀ a ∈ l, ∀ N, AC Try.prog f (fs ++ [aPr a] ++ cs) (A ++ N) (Same0 A (aB (p a)))) :
    AC Try.prog 36 [.d (.sl 2 (prs l)), .fn f fs cs] A (Same0 A (aB (l.any p))) := by
  refine ac_of Try.func36 rfl (by kernel_rfl) (by simp [Try.ntmps36]) fun hb => ?_
  simp [Try.f36]
  refine aCall_ofc (index_p_ac A l hf hp) (by simp) ?_
  rintro _ _ ⟨rfl, N, rfl⟩
  simp [Same0]
  cases h : l.findIdx? p with
  | none =>
    rw [List.findIdx?_eq_none_iff] at h
    simpa using h
  | some i =>
    rw [List.findIdx?_eq_some_iff_getElem] at h
    obtain ⟨hi, hp, _⟩ := h
    exact Eq.symm (List.any_eq_true.2 ⟨_, List.getElem_mem hi, hp⟩)
theorem find1_ac (B0 B1 : Blk) (h : Int) (a : Int × Int) (N : AHeap) : AC Try.prog 37 ([] ++ [aPr a] ++ [.ptr 2 0 0 0]) ([B0, B1, cInt h] ++ N) (Same0 [B0, B1, cInt h] (aB (decide (a.2 = h)))) := by
  refine ac_of Try.func37 rfl (by kernel_rfl) (by simp [Try.ntmps37]) fun _ => ?_
  simp [Try.f37, cInt, Same0]
abbrev lpB (v : Nat) (els : List (List AV)) : Blk := ⟨v, true, 37, 4, els⟩
theorem cloneLp_ac {A : AHeap} {b ver : Nat} {X : List (List D)} (hb : A[b]? = some (lpB ver (dEls X))) (hX : ∀ x ∈ X, x.length = 4) (hl : X.length ≤ 100000) (hne : X ≠ []) :
    AC Try.prog 40 [.own b ver 0 X.length] A (fun r A' => r = .own A.length 1 0 X.length ∧ A' = A ++ [lpB 1 (dEls X)]) := by
  have hbl := (List.getElem?_eq_some_iff.1 hb).1
  refine ac_of Try.func40 rfl (by kernel_rfl) (by simp [Try.ntmps40]) fun hbd => ?_
  clear hbd
  have hpos : 0 < X.length := List.length_pos_iff.2 hne
  have hcur : curB A b ver = some (lpB ver (dEls X)) := by simp [curB, hb]
  simp [Try.f40, hb]
  refine ⟨by kernel_rfl, fun r hr => ?_⟩
  have hrf : r = false := by
    cases r with
    | false => rfl
    | true =>
      rcases hr rfl with h | h
      · omega
      · rw [hcur] at h; cases h
  subst hrf
  simp
  refine aRaw_app byt_31 ?_
  have hall : ∀ x ∈ dEls X, x.length = 4 := fun x hx => by
    simp only [dEls, List.mem_map] at hx
    obtain ⟨y, hy, rfl⟩ := hx
    simpa using hX y hy
  simp [List.getElem?_append_left hbl, hb, hall]
  have ht : List.take X.length (dEls X) = dEls X := List.take_of_length_le (by simp)
  rw [if_pos hall]
  refine ⟨_, _, _, rfl, ?_, ?_, ?_⟩
  · unfold maxLen; omega
  · omega
  · simp
/-! ### the loops of a graph -/
/-- Does an edge lead back to h? -/
def isHd (g : Gr) (h : Nat) : Bool := (bkL g g.b.length).any fun p => decide (p.2 = (h : Int))
noncomputable def lpOf (g : Gr) (h : Nat) : Lp := ⟨h, nI (bodyL g h), nI (exitL g h), -1⟩
noncomputable def fnd0 (g : Gr) (O : List Nat) : List Lp := (O.filter (isHd g)).map (lpOf g)
theorem fnd0_take {g : Gr} {O : List Nat} {i h : Nat} (hh : O[i]? = some h) : fnd0 g (O.take (i + 1)) = if isHd g h = true then fnd0 g (O.take i) ++ [lpOf g h] else fnd0 g (O.take i) := by
  unfold fnd0
  rw [List.take_add_one, hh, List.filter_append, List.map_append]
  by_cases hd : isHd g h = true
  · simp [hd]
  · simp [hd]
theorem fnd0_len (g : Gr) (O : List Nat) : (fnd0 g O).length ≤ O.length := by
  unfold fnd0
  rw [List.length_map]
  exact List.length_filter_le _ _
theorem fnd0_mem {g : Gr} {O : List Nat} {x : Lp} (h : x ∈ fnd0 g O) : ∃ h ∈ O, isHd g h = true ∧ x = lpOf g h := by
  unfold fnd0 at h
  simp only [List.mem_map, List.mem_filter] at h
  obtain ⟨h, ⟨h1, h2⟩, rfl⟩ := h
  exact ⟨h, h1, h2, rfl⟩
/-- With the parents of the first k. -/
def withP (L : List Lp) (k : Nat) : List Lp := L.mapIdx fun i x => if i < k then ⟨x.hd, x.bd, x.ex, bV (inL L x.hd i L.length)⟩ else x
@[simp] theorem withP_len (L : List Lp) (k : Nat) : (withP L k).length = L.length := by simp [withP]
theorem withP_zero (L : List Lp) : withP L 0 = L := by
  apply List.ext_getElem?
  intro i
  simp [withP]
theorem withP_get {L : List Lp} {k : Nat} {x : Lp} (h : L[k]? = some x) : (withP L k)[k]? = some x := by simp [withP, h]
theorem withP_succ {L : List Lp} {k : Nat} {x : Lp} (h : L[k]? = some x) : withP L (k + 1) = (withP L k).set k ⟨x.hd, x.bd, x.ex, bV (inL L x.hd k L.length)⟩ := by
  apply List.ext_getElem?
  intro i
  have hk := (List.getElem?_eq_some_iff.1 h).1
  by_cases hik : k = i
  · subst hik
    rw [List.getElem?_set_self (by simpa using hk)]
    simp [withP, h]
  · rw [List.getElem?_set_ne hik]
    simp only [withP, List.getElem?_mapIdx]
    congr 1
    funext y
    by_cases h1 : i < k
    · rw [if_pos h1, if_pos (by omega)]
    · rw [if_neg h1, if_neg (by omega)]
/-- One is never found within itself, whether it is left out or has no blocks. -/
theorem inL_self (L M : List Lp) (b : Int) (k : Nat) (hlen : M.length = L.length) (hk : ∀ y, M[k]? = some y → y.bd = []) (ho : ∀ (i : Nat) (x y : Lp), i ≠ k → L[i]? = some x → M[i]? = some y → y.bd = x.bd) :
    ∀ m, inL M b (-1) m = inL L b k m ∧ inL L b k m ≠ some k
  | 0 => by simp [inL]
  | m + 1 => by
    obtain ⟨h1, h2⟩ := inL_self L M b k hlen hk ho m
    rw [inL, inL, h1]
    generalize inL L b k m = bs at *
    unfold inStp
    cases hM : M[m]? with
    | none =>
      have : L[m]? = none := by
        rw [List.getElem?_eq_none_iff] at hM ⊢
        omega
      rw [this]
      exact ⟨rfl, h2⟩
    | some y =>
      have hml : m < L.length := by rw [← hlen]; exact (List.getElem?_eq_some_iff.1 hM).1
      obtain ⟨x, hx⟩ : ∃ x, L[m]? = some x := ⟨_, List.getElem?_eq_getElem hml⟩
      rw [hx]
      simp only
      by_cases hmk : m = k
      · subst hmk
        have hky := hk y hM
        rw [if_neg (by simp [hky]), if_neg (by simp)]
        exact ⟨rfl, h2⟩
      · have hyx := ho m x y hmk hx hM
        rw [hyx]
        by_cases hb : b ∈ x.bd
        · rw [if_pos ⟨by omega, hb⟩, if_pos ⟨by omega, hb⟩]
          cases bs with
          | none => exact ⟨rfl, fun h => hmk (Option.some.inj h)⟩
          | some c =>
            have hck : c ≠ k := fun e => h2 (by rw [e])
            have : (M[c]?.map fun y => y.bd.length) = L[c]?.map fun y => y.bd.length := by
              cases hc : L[c]? with
              | none =>
                have : M[c]? = none := by
                  rw [List.getElem?_eq_none_iff] at hc ⊢
                  omega
                rw [this]
              | some z =>
                obtain ⟨z', hz'⟩ : ∃ z', M[c]? = some z' := ⟨_, List.getElem?_eq_getElem (by rw [hlen]; exact (List.getElem?_eq_some_iff.1 hc).1)⟩
                rw [hz']
                simp [ho c z z' hck hc hz']
            simp only [this]
            split
            · exact ⟨trivial, fun h => hmk (Option.some.inj h)⟩
            · exact ⟨trivial, h2⟩
        · rw [if_neg (by simp [hb]), if_neg (by simp [hb])]
          exact ⟨rfl, h2⟩
/-- The loops as the program finds them. -/
noncomputable def findL (g : Gr) : List Lp := withP (fnd0 g (ordN g)) (fnd0 g (ordN g)).length
theorem NLeS_set : ∀ {X Y : List (List D)} (k : Nat) (r : List D), NLeS X Y → (∀ y, Y[k]? = some y → NLeE r y) → NLeS (X.set k r) Y
  | [], Y, k, r, h, _ => by simpa using h
  | x :: X, Y, 0, r, h, hk => by
    simp only [NLeS] at h
    obtain ⟨y, ys, rfl, h1, h2⟩ := h
    exact ⟨y, ys, rfl, hk y rfl, h2⟩
  | x :: X, Y, k + 1, r, h, hk => by
    simp only [NLeS] at h
    obtain ⟨y, ys, rfl, h1, h2⟩ := h
    exact ⟨y, ys, rfl, h1, NLeS_set k r h2 fun z hz => hk z (by simpa using hz)⟩
theorem bodyL_max (g : Gr) (h : Nat) (hsm : g.b.length ≤ 400) : (nI (bodyL g h)).length ≤ maxLen := by
  have := bodyL_len g h
  simp
  unfold maxLen
  omega
theorem lps_set (l : List Lp) (k : Nat) (x : Lp) : (lps l).set k x.d = lps (l.set k x) := by simp [lps, List.map_set]
set_option maxRecDepth 100000 in
theorem lpfind_af (g : Gr) (hg : GrFit g) (hsm : g.b.length ≤ 400) : AF Try.prog 13 [grV g] (.d (.sl 4 (lps (findL g)))) := by
  have hgl : g.b.length ≤ maxLen := by unfold maxLen; omega
  have hB := lpback_af g hg hsm
  have hE := lpedges_af g hg (edgOk g) hsm
  have hO := dmOrder_af revOk g hg (edgOk g)
  have hOl := ordN_len (edgOk g) (g := g)
  have hOr : ∀ h ∈ ordN g, (dgN g).rc h = true := fun h hh => by show (ordN g).contains h = true; simpa using hh
  have hbody := fun h (hh : (dgN g).rc h = true) => lpbody_af g hg hsm h hh
  have hexit := fun h => lpexits_af g hsm h
  have hbm := fun h => bodyL_max g h hsm
  have hbl := bkL_len g g.b.length
  have hbl2 : g.b.length * g.b.length ≤ 400 * 400 := Nat.mul_le_mul hsm hsm
  have hFl := fun i => fnd0_len g ((ordN g).take i)
  have hFm := fun x (hx : x ∈ fnd0 g (ordN g)) => fnd0_mem hx
  have hft := fun (i h : Nat) (hh : (ordN g)[i]? = some h) => fnd0_take (g := g) hh
  have hisd : ∀ h, isHd g h = (bkL g g.b.length).any fun p => decide (p.2 = (h : Int)) := fun _ => rfl
  have hR : findL g = withP (fnd0 g (ordN g)) (fnd0 g (ordN g)).length := rfl
  have hbd : ∀ x ∈ fnd0 g (ordN g), x.bd.length ≤ maxLen := fun x hx => by
    obtain ⟨h, _, _, rfl⟩ := hFm x hx
    exact hbm h
  have hF0 : fnd0 g [] = [] := by simp [fnd0]
  generalize findL g = R at *
  generalize ordN g = O at *
  generalize bkL g g.b.length = bk at *
  generalize succT g = sT at *
  generalize isHd g = isH at *
  obtain ⟨F, hFd⟩ : ∃ F, fnd0 g = F := ⟨_, rfl⟩
  rw [hFd] at hFl hFm hft hR hbd hF0
  clear hFd
  have hOm : O.length ≤ maxLen := by omega
  subst hR
  refine af_of Try.func13 rfl (by kernel_rfl) (by simp [Try.ntmps13]) fun _ => ?_; simp [Try.f13, Ex.d_eq]
  refine aCall_of hB (by kernel_rfl) (by simp) ?_
  simp
  refine aCall_of hE (by kernel_rfl) (by simp) ?_
  simp
  refine aCall_of hO (by kernel_rfl) (by simp) ?_
  simp
  refine aLoop_st (fun i : Nat => [(1, .ptr 0 0 0 0), (3, .d (.sl 2 (prs bk))), (4, .d (.sl 1 (dataT sT))), (5, .own 1 (F (O.take i)).length 0 (F (O.take i)).length), (16, .d (.sl 1 (i64s (nI O)))), (17, aI .i64 O.length), (18, aI .i64 i)])
    (fun i => [gB g, lpB (F (O.take i)).length (dEls (lps (F (O.take i))))]) (fun i => i ≤ O.length) (fun i => O.length - i) 0
    ((Sub.ghost 0 37 4).trans (Sub.slot (s := 5) (c := .own 1 0 0 0) (by simp; exact VLe.nil_own (k := ⟨0, true, 37, 4, []⟩) (by simp) rfl))) 2 (by omega) (by simp [cln_gB, hF0, lps]) (by simp [hF0]) (by omega) ?_
  rintro i hi K hK
  have hFl1 := hFl i
  rcases Nat.lt_or_ge i O.length with hlt | hge
  case inl =>
    obtain ⟨h, hh⟩ : ∃ h, O[i]? = some h := ⟨_, List.getElem?_eq_getElem hlt⟩
    have hh2 := (List.getElem?_eq_some_iff.1 hh).2
    have hst := hft i h hh
    have hhr := hOr h (List.mem_of_getElem? hh)
    have hbk : bk.length ≤ maxLen := by unfold maxLen; omega
    simp [hlt, hh, hh2]
    refine aCall_ofc (contains_p_ac (p := fun p => decide (p.2 = (h : Int))) (fs := []) (cs := [.ptr 2 0 0 0]) [gB g, lpB (F (O.take i)).length (dEls (lps (F (O.take i)))), cInt h] bk (by kernel_rfl) (fun a ha N => find1_ac _ _ h a N)) (by kernel_rfl) ?_
    rintro _ _ ⟨rfl, N, rfl⟩
    rw [← hisd]
    cases hd : isH h with
    | false =>
      rw [hd] at hst
      simp only [Bool.false_eq_true, if_false] at hst
      simp [succ_wrap hlt hOm]
      exact hK (i + 1) (by omega) (by omega) (Sub.refl _ _ _) 2 (by omega) (by simp [hst, cln_gB]) (by simp [hst])
    | true =>
      rw [hd] at hst
      simp only [if_true] at hst
      simp [cInt]
      refine aCall_of (hbody h hhr) (by kernel_rfl) (by simp) ?_
      simp
      refine adraw2 8 [] (by kernel_rfl) (by kernel_rfl) (by kernel_rfl) (by kernel_rfl) (by kernel_rfl) ?_
      simp [cInt]
      refine adC_of (hexit h) (by kernel_rfl) trivial (by simp) (by simp) ?_
      simp
      refine aRaw_app byt_31 ?_
      have hF4 : (F (O.take i)).length ≤ 400 := by
        have : (O.take i).length ≤ O.length := by simp; omega
        omega
      simp
      refine ⟨by unfold maxLen; omega, by omega, ?_⟩
      simp [succ_wrap hlt hOm]
      refine hK (i + 1) (by omega) (by omega) (Sub.refl _ _ _) 2 (by omega) ?_ (by simp [hst])
      have hrow : dEls (lps (F (O.take i) ++ [lpOf g h])) = dEls (lps (F (O.take i))) ++ [[aI .i64 h, .d (.sl 1 (i64s (nI (bodyL g h)))), .d (.sl 1 (i64s (nI (exitL g h)))), aI .i64 (-1)]] := by simp [dEls, lps, Lp.d, lpOf]
      simp [hst, cln_gB, hrow]
  obtain rfl : i = O.length := by omega
  rw [List.take_length] at hFl1 ⊢
  clear hK
  obtain ⟨L, hL⟩ : ∃ L, F O = L := ⟨_, rfl⟩
  rw [hL] at hFl1 hbd ⊢
  clear hFl hft hFm hL hF0
  obtain ⟨m, hm⟩ : ∃ m, L.length = m := ⟨_, rfl⟩
  have hm1 : m ≤ 400 := by omega
  have hmm : m ≤ maxLen := by omega
  simp [hm]
  refine aLoop_st (fun k : Nat => [(5, .own 1 m 0 m), (40, aI .i64 m), (41, aI .i64 k)]) (fun k => [gB g, lpB m (dEls (lps (withP L k)))]) (fun k => k ≤ m) (fun k => m - k) 0 (Sub.refl _ _ _) 2 (by omega) (by simp [cln_gB, withP_zero]) (by simp) (by omega) ?_
  rintro k hk K2 hK2
  rcases Nat.lt_or_ge k m with hklt | hkge
  case inr =>
    obtain rfl : k = m := by omega
    have ht : (lps (withP L k)).take k = lps (withP L k) := List.take_of_length_le (by simp [hm])
    simp [hm, ht]
  obtain ⟨x, hx⟩ : ∃ x, L[k]? = some x := ⟨_, List.getElem?_eq_getElem (by omega)⟩
  have hPl : (withP L k).length = m := by simp [hm]
  have hPk := withP_get hx
  have hrow := lps_get hPk
  have hps := withP_succ hx
  rw [hm] at hps
  obtain ⟨W, hW⟩ : ∃ W, withP L k = W := ⟨_, rfl⟩
  have hself := inL_self L (W.set k ⟨x.hd, [], x.ex, x.pa⟩) x.hd k (by rw [List.length_set, ← hW]; simp) (fun y hy => by
    rw [List.getElem?_set_self (by rw [← hW]; simp; omega)] at hy
    obtain rfl := Option.some.inj hy
    rfl) (fun i a b hik ha hb => by
    rw [List.getElem?_set_ne (Ne.symm hik), ← hW] at hb
    simp only [withP, List.getElem?_mapIdx, ha, Option.map_some, Option.some.injEq] at hb
    subst hb
    split <;> rfl) m
  have hWb : ∀ y ∈ W, y.bd.length ≤ maxLen := fun y hy => by
    obtain ⟨i, hi⟩ := List.getElem?_of_mem hy
    rw [← hW] at hi
    simp only [withP, List.getElem?_mapIdx, Option.map_eq_some_iff] at hi
    obtain ⟨z, hz, rfl⟩ := hi
    have := hbd z (List.mem_of_getElem? hz)
    split <;> exact this
  rw [hW] at hPl hPk hrow hps ⊢
  clear hW
  have hnest := lpnest_af (W.set k ⟨x.hd, [], x.ex, x.pa⟩) x.hd (by simp; omega) (fun y hy => by
    rcases List.mem_or_eq_of_mem_set hy with h | rfl
    · exact hWb y h
    · simp)
  rw [List.length_set, hPl, hself.1] at hnest
  have hWl4 : ∀ y ∈ lps W, y.length = 4 := fun y hy => by
    simp only [lps, List.mem_map] at hy
    obtain ⟨z, _, rfl⟩ := hy
    rfl
  have hclone := cloneLp_ac (A := [gB g, lpB m (dEls (lps W))]) (b := 1) (ver := m) (X := lps W) rfl hWl4 (by simp; omega) (fun h => by
    have h1 : (lps W).length = 0 := by rw [h]; rfl
    rw [lps_len, hPl] at h1
    omega)
  rw [lps_len, hPl] at hclone
  have hg1 : (dEls (lps W))[k]? = some [aI .i64 x.hd, .d (.sl 1 (i64s x.bd)), .d (.sl 1 (i64s x.ex)), aI .i64 x.pa] := by simp [dEls, hrow]
  have hgk : k < m := hklt
  simp [hklt]
  refine aCall_ofc hclone (by kernel_rfl) ?_
  rintro _ _ ⟨rfl, rfl⟩
  simp [hklt, hg1]
  refine aCall_ofs hnest (by kernel_rfl) ?_ (by simp) ?_
  · have hset : (dEls (lps W)).set k [aI .i64 x.hd, .d (.v (.slice none 0 0)), .d (.sl 1 (i64s x.ex)), aI .i64 x.pa] = dEls ((lps W).set k [.v (.int .i64 x.hd), .v (.slice none 0 0), .sl 1 (i64s x.ex), .v (.int .i64 x.pa)]) := by simp [dEls, List.map_set]
    rw [hset]
    have ht : List.take m (dEls ((lps W).set k [.v (.int .i64 x.hd), .v (.slice none 0 0), .sl 1 (i64s x.ex), .v (.int .i64 x.pa)])) = dEls ((lps W).set k [.v (.int .i64 x.hd), .v (.slice none 0 0), .sl 1 (i64s x.ex), .v (.int .i64 x.pa)]) := List.take_of_length_le (by simp [hPl])
    have hn : NLeS ((lps W).set k [.v (.int .i64 x.hd), .v (.slice none 0 0), .sl 1 (i64s x.ex), .v (.int .i64 x.pa)]) (lps (W.set k ⟨x.hd, [], x.ex, x.pa⟩)) := by
      have h1 := NLeS_set (X := lps (W.set k ⟨x.hd, [], x.ex, x.pa⟩)) k [.v (.int .i64 x.hd), .v (.slice none 0 0), .sl 1 (i64s x.ex), .v (.int .i64 x.pa)] (NLeS.refl _) fun y hy => by
        rw [← lps_set, List.getElem?_set_self (by simp [hPl]; omega)] at hy
        obtain rfl := Option.some.inj hy
        exact ⟨_, _, rfl, rfl, _, _, rfl, ⟨rfl, rfl⟩, _, _, rfl, ⟨rfl, NLeS.refl _⟩, _, _, rfl, rfl, rfl⟩
      rwa [← lps_set, List.set_set, lps_set] at h1
    simp [ht, hPl]
    exact hn
  · simp [hklt, hg1]
    have hset : (dEls (lps W)).set k [aI .i64 x.hd, .d (.sl 1 (i64s x.bd)), .d (.sl 1 (i64s x.ex)), aI .i64 (bV (inL L x.hd k m))] = dEls (lps (W.set k ⟨x.hd, x.bd, x.ex, bV (inL L x.hd k m)⟩)) := by
      rw [← lps_set]
      simp [dEls, List.map_set, Lp.d]
    simp [hset, succ_wrap hklt hmm]
    exact hK2 (k + 1) (by omega) (by omega) (Sub.refl _ _ _) 2 (by omega) (by simp [hps, cln_gB]) (by simp)
end Go.Proofs.Ytngjcmeclhlfeaa

/- Contracts: the reference's search and its order. -/
namespace Go.Proofs.Ytngjcmeclhlfeaa
open Go.RowKit
/-- The search with a list of what has been seen. -/
abbrev LS2 := List Nat × List Nat
def dfsR (E : Nat → List Nat) : Nat → Nat → LS2 → LS2
  | 0, _, s => s
  | f + 1, k, s =>
    let r := (E k).foldl (fun s n => if n ∈ s.1 then s else dfsR E f n s) (s.1 ++ [k], s.2)
    (r.1, r.2 ++ [k])
def dfsQ (E : Nat → List Nat) (f : Nat) (s : LS2) (n : Nat) : LS2 := if n ∈ s.1 then s else dfsR E f n s
theorem dfsR_eq (E : Nat → List Nat) (f k : Nat) (s : LS2) : dfsR E (f + 1) k s = (((E k).foldl (dfsQ E f) (s.1 ++ [k], s.2)).1, ((E k).foldl (dfsQ E f) (s.1 ++ [k], s.2)).2 ++ [k]) := rfl
/-- Both stand at the same. -/
structure RS (n : Nat) (s : DS2) (t : LS2) : Prop where
  len : s.1.length = n
  nd : t.1.Nodup
  lt : ∀ x ∈ t.1, x < n
  eq : ∀ x, x < n → s.1[x]? = some (decide (x ∈ t.1))
  po : s.2 = t.2
theorem RS.size {n : Nat} {s : DS2} {t : LS2} (h : RS n s t) : t.1.length ≤ n := nodup_len h.nd h.lt
theorem dfs_rel {n : Nat} {E : Nat → List Nat} (hE : ∀ i, i < n → ∀ x ∈ E i, x < n) : ∀ (f k : Nat) (s : DS2) (t : LS2), RS n s t → k < n → k ∉ t.1 → RS n (dfsV E f k s) (dfsR E f k t)
  | 0, _, _, _, h, _, _ => h
  | f + 1, k, s, t, h, hk, hkt => by
    have h0 : RS n (s.1.set k true, s.2) (t.1 ++ [k], t.2) := by
      refine ⟨by simp [h.len], ?_, fun x hx => ?_, fun x hx => ?_, h.po⟩
      · rw [List.nodup_append]
        exact ⟨h.nd, by simp, fun a ha b hb => by simp at hb; subst hb; exact fun e => hkt (e ▸ ha)⟩
      · rcases List.mem_append.1 hx with hx | hx
        · exact h.lt x hx
        · simp at hx; omega
      · by_cases hxk : k = x
        · subst hxk
          rw [List.getElem?_set_self (by rw [h.len]; exact hk)]
          simp
        · rw [List.getElem?_set_ne hxk, h.eq x hx]
          have : ¬ x = k := fun e => hxk e.symm
          simp [this]
    have step : ∀ (s : DS2) (t : LS2) (x : Nat), x < n → RS n s t → RS n (dfsS E f s x) (dfsQ E f t x) := fun s t x hx h => by
      unfold dfsS dfsQ
      rw [h.eq x hx]
      by_cases hxt : x ∈ t.1
      · simp [hxt]; exact h
      · simp [hxt]; exact dfs_rel hE f x s t h hx hxt
    have fold : ∀ (l : List Nat) (s : DS2) (t : LS2), (∀ x ∈ l, x < n) → RS n s t → RS n (l.foldl (dfsS E f) s) (l.foldl (dfsQ E f) t) := by
      intro l
      induction l with
      | nil => exact fun s t _ h => h
      | cons x l ih =>
        intro s t hl h
        rw [List.foldl_cons, List.foldl_cons]
        exact ih _ _ (fun y hy => hl y (by simp [hy])) (step s t x (hl x (by simp)) h)
    have hf := fold (E k) _ _ (hE k hk) h0
    rw [dfsV_eq, dfsR_eq]
    exact ⟨hf.len, hf.nd, hf.lt, hf.eq, by simp only; rw [hf.po]⟩
abbrev scB (S P : List Nat) : Blk := ⟨0, true, 90, 2, [[.own 1 S.length 0 S.length, .own 2 P.length 0 P.length]]⟩
abbrev scZ : Blk := ⟨0, true, 90, 2, [[.d (.v (.slice none 0 0)), .d (.v (.slice none 0 0))]]⟩
abbrev vHp (B : Blk) (t : LS2) (N : AHeap) : AHeap := B :: nbk t.1.length (nI t.1) :: nbk t.2.length (nI t.2) :: N
abbrev scV (t : LS2) : AV := .agg [.own 1 t.1.length 0 t.1.length, .own 2 t.2.length 0 t.2.length]
set_option maxRecDepth 100000 in
set_option maxHeartbeats 1000000 in
theorem r24visit_ac (g : Gr) (hg : GrFit g) (B : Blk) : ∀ (f k : Nat) (s : DS2) (t : LS2) (N : AHeap), RS g.b.length s t → k < g.b.length → k ∉ t.1 → cntF s.1 ≤ f → s.2.length + cntF s.1 ≤ g.b.length →
    AC Try.prog 64 [grV g, aI .i64 k, scV t] (vHp B t N) (fun r A' => r = scV (dfsR (edgN g) f k t) ∧ ∃ N', A' = vHp B (dfsR (edgN g) f k t) (N ++ N'))
  | 0, k, s, t, N, h, hk, hkt, hf, _ => by
    have h1 := h.eq k hk
    have : s.1[k]? = some false := by rw [h1]; simp [hkt]
    have := cntF_set this
    omega
  | f + 1, k, s, t, N, h, hkn, hkt, hf, hsum => by
    have hgl : g.b.length ≤ maxLen := by have := hg.1; unfold maxLen; omega
    have hg1 := hg.1
    have hk : s.1[k]? = some false := by rw [h.eq k hkn]; simp [hkt]
    have hset := cntF_set hk
    have hE : ∀ x ∈ edgN g k, x < g.b.length := edgN_lt (edgOk g) k hkn
    have hEl := edgN_len hg k
    have n1 : (edgN g k).length ≤ maxLen := by unfold maxLen; omega
    have hkeep := fun i => fold_keep (edgN_lt (edgOk g)) f ((edgN g k).take i) (s.1.set k true, s.2) (fun x hx => hE x (List.mem_of_mem_take hx)) (by simpa using h.len) (by simp only; omega)
    have hce := r24edges_af g hg k hkn
    have hts := h.size
    have htp := h.po
    have htp2 := congrArg List.length htp
    -- both searches side by side
    have h0 : RS g.b.length (s.1.set k true, s.2) (t.1 ++ [k], t.2) := by
      refine ⟨by simp [h.len], ?_, fun x hx => ?_, fun x hx => ?_, h.po⟩
      · rw [List.nodup_append]
        exact ⟨h.nd, by simp, fun a ha b hb => by simp at hb; subst hb; exact fun e => hkt (e ▸ ha)⟩
      · rcases List.mem_append.1 hx with hx | hx
        · exact h.lt x hx
        · simp at hx; omega
      · by_cases hxk : k = x
        · subst hxk
          rw [List.getElem?_set_self (by rw [h.len]; exact hkn)]
          simp
        · rw [List.getElem?_set_ne hxk, h.eq x hx]
          have : ¬ x = k := fun e => hxk e.symm
          simp [this]
    have hrel : ∀ i, RS g.b.length (((edgN g k).take i).foldl (dfsS (edgN g) f) (s.1.set k true, s.2)) (((edgN g k).take i).foldl (dfsQ (edgN g) f) (t.1 ++ [k], t.2)) := by
      intro i
      have step : ∀ (s : DS2) (t : LS2) (x : Nat), x < g.b.length → RS g.b.length s t → RS g.b.length (dfsS (edgN g) f s x) (dfsQ (edgN g) f t x) := fun s t x hx h => by
        unfold dfsS dfsQ
        rw [h.eq x hx]
        by_cases hxt : x ∈ t.1
        · simp [hxt]; exact h
        · simp [hxt]; exact dfs_rel (edgN_lt (edgOk g)) f x s t h hx hxt
      have : ∀ (l : List Nat) (s : DS2) (t : LS2), (∀ x ∈ l, x < g.b.length) → RS g.b.length s t → RS g.b.length (l.foldl (dfsS (edgN g) f) s) (l.foldl (dfsQ (edgN g) f) t) := by
        intro l
        induction l with
        | nil => exact fun s t _ h => h
        | cons x l ih =>
          intro s t hl h
          rw [List.foldl_cons, List.foldl_cons]
          exact ih _ _ (fun y hy => hl y (by simp [hy])) (step s t x (hl x (by simp)) h)
      exact this _ _ _ (fun x hx => hE x (List.mem_of_mem_take hx)) h0
    refine ac_of Try.func64 rfl (by kernel_rfl) (by simp [Try.ntmps64]) fun hb => ?_
    clear hb
    rw [dfsR_eq]
    obtain ⟨S, P⟩ := t
    simp only at hts htp htp2 hkt h0 hrel ⊢
    simp [Try.f64]
    refine aRaw_app byt_35 ?_
    simp
    refine ⟨by unfold maxLen; omega, by omega, ?_⟩
    refine aCall_of hce (by kernel_rfl) (by simp) ?_
    simp
    obtain ⟨q, hq⟩ : ∃ q : Nat → LS2, q = fun i => ((edgN g k).take i).foldl (dfsQ (edgN g) f) (S ++ [k], P) := ⟨_, rfl⟩
    have hq0 : q 0 = (S ++ [k], P) := by rw [hq]; simp
    have hqe : q (edgN g k).length = (edgN g k).foldl (dfsQ (edgN g) f) (S ++ [k], P) := by rw [hq]; simp only [List.take_length]
    have hqs : ∀ (i x : Nat), (edgN g k)[i]? = some x → q (i + 1) = dfsQ (edgN g) f (q i) x := fun i x hx => by rw [hq]; exact foldl_take (dfsQ (edgN g) f) (edgN g k) i x (S ++ [k], P) hx
    have hqr : ∀ i, RS g.b.length (((edgN g k).take i).foldl (dfsS (edgN g) f) (s.1.set k true, s.2)) (q i) := fun i => by rw [hq]; exact hrel i
    rw [← hqe]
    clear hrel hq hqe
    generalize edgN g k = E at *
    refine aLoop_of (α := Nat) (fun i e A => i ≤ E.length ∧ (∃ N', A = vHp B (q i) (N ++ gB g :: scB (q i).1 (q i).2 :: scZ :: N')) ∧ e 1 = aI .i64 k ∧ e 3 = .ptr (N.length + 1 + 1 + 1) 0 0 0 ∧ e 5 = .ptr (N.length + 1 + 1 + 1 + 1) 0 0 0 ∧ e 6 = .ptr (N.length + 1 + 1 + 1 + 1 + 1) 0 0 0 ∧ e 7 = .d (.sl 1 (i64s (nI E))) ∧ e 8 = aI .i64 i)
      (fun i => E.length - i) 0 (Sub.refl _ _ _) ⟨by omega, ⟨[nbk 0 [(k : Int)]], by simp [hq0]⟩, by simp, by simp, by simp, by simp, by simp, by simp⟩ ?_
    rintro i e A ⟨hi, ⟨N', rfl⟩, e1, e3, e5, e6, e7, e8⟩ K hK
    have hri := hqr i
    have hrs := hri.size
    have hkp := hkeep i
    have h1 := hkp.sum
    have h2 := hkp.le
    simp only at h1 h2
    have hpl := congrArg List.length hri.po
    rcases Nat.lt_or_ge i E.length with hlt | hge
    case inr =>
      obtain rfl : i = E.length := by omega
      obtain ⟨T, hT⟩ : ∃ T, q E.length = T := ⟨_, rfl⟩
      rw [hT] at hrs hpl ⊢
      simp [e1, e3, e5, e6, e7, e8]
      refine aRaw_app byt_35 ?_
      simp [e1, e3, e5, e6]
      exact ⟨by unfold maxLen; omega, by omega⟩
    obtain ⟨x, hx⟩ : ∃ x, E[i]? = some x := ⟨_, List.getElem?_eq_getElem hlt⟩
    have hx2 := (List.getElem?_eq_some_iff.1 hx).2
    have hxn := hE x (List.mem_of_getElem? hx)
    have hst := hqs i x hx
    obtain ⟨Q, hQ⟩ : ∃ Q, (E.take i).foldl (dfsS (edgN g) f) (s.1.set k true, s.2) = Q := ⟨_, rfl⟩
    rw [hQ] at hri hkp h1 h2 hpl
    obtain ⟨T, hT⟩ : ∃ T, q i = T := ⟨_, rfl⟩
    rw [hT] at hri hrs hpl hst ⊢
    have hha := r24hasN_af T.1 x (by omega)
    simp [e1, e3, e5, e6, e7, e8, hlt]
    refine adraw [] (by kernel_rfl) (by kernel_rfl) (by kernel_rfl) (by kernel_rfl) ?_
    simp [e1, e3, e5, e6, e7, e8, hlt, hx, hx2]
    refine adC_ofs hha (by kernel_rfl) trivial (by simp) (by simp) (by simp) ?_
    by_cases hin : x ∈ T.1
    · have hq1 : q (i + 1) = T := by rw [hst]; unfold dfsQ; rw [if_pos hin]
      simp [hin, e8, succ_wrap hlt n1]
      exact hK (i + 1) _ _ _ _ (Sub.refl _ _ _) ⟨by omega, ⟨N', by rw [hq1]⟩, by simp [e1], by simp [e3], by simp [e5], by simp [e6], by simp [e7], by simp⟩ (by omega)
    · have hq1 : q (i + 1) = dfsR (edgN g) f x T := by rw [hst]; unfold dfsQ; rw [if_neg hin]
      simp [hin]
      refine adraw2 6 [] (by kernel_rfl) (by kernel_rfl) (by kernel_rfl) (by kernel_rfl) (by kernel_rfl) ?_
      simp [e1, e3, e5, e6, e7, e8, hlt, hx, hx2]
      refine aCall_ofc (r24visit_ac g hg B f x Q T (N ++ gB g :: scB T.1 T.2 :: scZ :: N') hri hxn hin (by omega) (by omega)) (by kernel_rfl) ?_
      rintro _ _ ⟨rfl, N2, rfl⟩
      simp [e1, e3, e5, e6, e7, e8, succ_wrap hlt n1]
      refine hK (i + 1) _ _ _ _ (Sub.refl _ _ _) ⟨by omega, ⟨N' ++ N2, by simp [hq1]⟩, by simp [e1], by simp [e3], by simp [e5], by simp [e6], by simp [e7], by simp⟩ (by omega)
theorem VLe.nil2 {A : AHeap} {b b' ver ver' : Nat} {k k' : Blk} (h : A[b]? = some k) (hv : ver = k.ver) (h' : A[b']? = some k') (hv' : ver' = k'.ver) : VLe A (.agg [.d (.v (.slice none 0 0)), .d (.v (.slice none 0 0))]) (.agg [.own b ver 0 0, .own b' ver' 0 0]) := by
  intro H ι w u hR hu
  have h1 := fun u => VLe.nil_own h hv H ι w u hR
  have h2 := fun u => VLe.nil_own h' hv' H ι w u hR
  obtain ⟨hs, hm⟩ := hu
  simp only [Shp] at hs
  obtain ⟨l, rfl, hs⟩ := hs
  simp only [ShpL] at hs
  obtain ⟨u1, l1, rfl, s1, u2, l2, rfl, s2, rfl⟩ := hs
  simp only [Mem] at hm
  obtain ⟨l', e, hm, ho⟩ := hm
  have : [u1, u2] = l' := by simpa using e
  subst this
  simp only [MemL] at hm
  obtain ⟨v1, k1, e1, m1, v2, k2, e2, m2, _⟩ := hm
  obtain ⟨rfl, rfl⟩ := List.cons.inj e1
  obtain ⟨rfl, rfl⟩ := List.cons.inj e2
  obtain ⟨p1, p2⟩ := h1 _ ⟨s1, m1⟩
  obtain ⟨p3, p4⟩ := h2 _ ⟨s2, m2⟩
  refine ⟨?_, ?_⟩
  · simp only [Shp]
    exact ⟨_, rfl, by simp only [ShpL]; exact ⟨_, _, rfl, p1, _, _, rfl, p3, rfl⟩⟩
  · simp only [Mem]
    exact ⟨_, rfl, by simp only [MemL]; exact ⟨_, _, rfl, p2, _, _, rfl, p4, rfl⟩, ho⟩
set_option maxRecDepth 100000 in
theorem r24order_af (g : Gr) (hg : GrFit g) : AF Try.prog 41 [grV g] (.d (.sl 1 (i64s (nI (ordN g))))) := by
  have hgl : g.b.length ≤ maxLen := by have := hg.1; unfold maxLen; omega
  have hg1 := hg.1
  refine af_of Try.func41 rfl (by kernel_rfl) (by simp [Try.ntmps41]) fun _ => ?_; simp [Try.f41, Ex.d_eq]
  by_cases h0 : g.b.length = 0
  · have hb : g.b = [] := List.eq_nil_of_length_eq_zero h0
    simp [ordN, hb]
  have hpos : 0 < g.b.length := by omega
  have hne : ¬ g.b = [] := fun h => by rw [h] at h0; exact h0 rfl
  have hrs : RS g.b.length (List.replicate g.b.length false, []) ([], []) := ⟨by simp, by simp, by simp, fun x hx => by simp [hx], rfl⟩
  have hv := r24visit_ac g hg (gB g) g.b.length 0 (List.replicate g.b.length false, []) ([], []) [] hrs hpos (by simp) (by simp only; rw [cntF_rep]; exact Nat.le_refl _) (by simp only; rw [cntF_rep]; simp)
  have hrel := dfs_rel (edgN_lt (edgOk g)) g.b.length 0 _ _ hrs hpos (by simp)
  have hpo : (dfsR (edgN g) g.b.length 0 ([], [])).2 = postN g := hrel.po.symm
  have hpl := postN_len (edgOk g) hpos
  have hord : nI (ordN g) = nI (postN g).reverse := by unfold ordN; rw [if_neg h0]
  obtain ⟨P, hP⟩ : ∃ P, postN g = P := ⟨_, rfl⟩
  obtain ⟨T, hT⟩ : ∃ T, dfsR (edgN g) g.b.length 0 ([], []) = T := ⟨_, rfl⟩
  rw [hT] at hv hpo
  rw [hP] at hpo hpl hord
  have hPl : P.length ≤ maxLen := by omega
  simp [hne]
  refine aCall_ofc (AC.pre (args' := [grV g, aI .i64 0, scV ([], [])]) (Sub.trans (Sub.ghost 0 3 1) (Sub.trans (Sub.ghost 0 3 1) (Sub.slot (s := 2) (c := scV ([], [])) (VLe.nil2 (k := ⟨0, true, 3, 1, []⟩) (k' := ⟨0, true, 3, 1, []⟩) rfl rfl rfl rfl)))) rfl hv) (by kernel_rfl) ?_
  rintro _ _ ⟨rfl, N, rfl⟩
  obtain ⟨S, P'⟩ := T
  simp only at hpo
  subst hpo
  rw [hord]
  have hw0 : IntKind.i64.wrap ((P'.length : Int) - 1) = (P'.length : Int) - 1 := i64w (by omega)
  simp [hw0]
  refine aLoop_st (fun j : Nat => [(3, .own 3 j 0 j), (4, .own 2 P'.length 0 P'.length), (5, aI .i64 ((P'.length : Int) - 1 - j))]) (fun j => [gB g, nbk S.length (nI S), nbk P'.length (nI P'), nbk j (nI (P'.reverse.take j))]) (fun j => j ≤ P'.length) (fun j => P'.length - j) 0
    ((Sub.take 3 (by omega)).trans ((Sub.ghost 0 3 1).trans (Sub.slot (s := 3) (c := .own 3 0 0 0) (by simp; exact VLe.nil_own (k := ⟨0, true, 3, 1, []⟩) (by simp) rfl)))) 4 (by omega) (by simp [cln_gB]) (by simp [hw0]) (by omega) ?_
  rintro j hj K hK
  rcases Nat.lt_or_ge j P'.length with hlt | hge
  case inr =>
    obtain rfl : j = P'.length := by omega
    have ht : (nI P'.reverse).take P'.length = nI P'.reverse := List.take_of_length_le (by simp)
    have hm1 : ¬ (P'.length : Int) ≤ (P'.length : Int) - 1 := by omega
    have ht2 : List.take P'.length (i64s (nI P'.reverse)) = i64s (nI P'.reverse) := List.take_of_length_le (by simp)
    have ht3 : P'.reverse.take P'.length = P'.reverse := List.take_of_length_le (by simp)
    rw [ht3]
    simp [hm1]
    simp at ht2
    simp [ht2]
  obtain ⟨x, hx⟩ : ∃ x, P'[P'.length - 1 - j]? = some x := ⟨_, List.getElem?_eq_getElem (by omega)⟩
  have hxe := nbk_get (X := nI P') (i := P'.length - 1 - j) (a := (x : Int)) (by simp [hx])
  have hrx : P'.reverse[j]? = some x := by rw [List.getElem?_reverse hlt, hx]
  have hst : nI (P'.reverse.take (j + 1)) = nI (P'.reverse.take j) ++ [(x : Int)] := by
    rw [List.take_add_one, hrx]
    simp
  have hm1 : (j : Int) ≤ (P'.length : Int) - 1 := by omega
  have hm2 : ((P'.length : Int) - 1 - (j : Int)).toNat = P'.length - 1 - j := by omega
  have hm3 : (P'.length : Int) - 1 - (j : Int) < (P'.length : Int) := by omega
  have hw1 : IntKind.i64.wrap ((P'.length : Int) - 1 - (j : Int) - 1) = (P'.length : Int) - 1 - ((j + 1 : Nat) : Int) := by rw [i64w (by omega)]; omega
  have ht : (nI (P'.reverse.take j)).length = j := by simp; omega
  have ht1 : min j P'.length = j := by omega
  simp [hm1, hm2, hm3, hxe]
  refine aRaw_app byt_35 ?_
  simp [ht1]
  refine ⟨by omega, by omega, ?_⟩
  simp [hw1]
  exact hK (j + 1) (by omega) (by omega) (Sub.refl _ _ _) 4 (by omega) (by simp [cln_gB, hst]) (by simp)
end Go.Proofs.Ytngjcmeclhlfeaa

/- Contracts: law 35's example, large. -/
namespace Go.Proofs.Ytngjcmeclhlfeaa
open Go.RowKit
/-- The chapter's first graph. -/
def exG : Gr := ⟨0, [⟨0, [⟨6, 0, 0, 1, 0, 0, [], []⟩]⟩, ⟨0, [⟨7, 0, 0, 1, 2, 0, [Ex.mk 2 0 0 0 []], []⟩]⟩, ⟨0, [⟨10, 0, 0, 0, 0, 0, [], []⟩]⟩]⟩
theorem l35g_af : AF Try.prog 24 [] (grV exG) := by
  refine af_of Try.func24 rfl (by kernel_rfl) (by simp [Try.ntmps24]) fun _ => ?_; simp [Try.f24, Ex.d_eq]
  simp [exG, Bl.d_eq, St.d_eq, Ex.d_eq]
theorem exG_fit : GrFit exG := ⟨by simp [exG], fun b hb => by
  simp [exG] at hb
  rcases hb with rfl | rfl | rfl <;> simp⟩
theorem exG_len : exG.b.length = 3 := rfl
theorem exG_e0 : edgN exG 0 = [1] := by kernel_rfl
theorem exG_e1 : edgN exG 1 = [1, 2] := by kernel_rfl
theorem exG_e2 : edgN exG 2 = [] := by kernel_rfl
theorem exG_ord : ordN exG = [0, 1, 2] := by kernel_rfl
theorem exG_b0 : bkRow exG 0 = [] := by kernel_rfl
theorem exG_b2 : bkRow exG 2 = [] := by kernel_rfl
theorem exG_back : bkL exG 3 = [(1, 1)] := by kernel_rfl
theorem exG_d1 : domB exG 1 1 = true := by kernel_rfl
theorem exG_in (x : Nat) : InBody exG 1 x ↔ x = 1 := by
  constructor
  · rintro (h | ⟨_, a, ha, hp⟩)
    · exact h
    · exfalso
      have han := dgN_lt (edgOk exG) (bkRow_rc ha).1
      rw [exG_len] at han
      have := hp.last
      rcases (show a = 0 ∨ a = 1 ∨ a = 2 by omega) with rfl | rfl | rfl
      · rw [exG_b0] at ha; cases ha
      · exact this rfl
      · rw [exG_b2] at ha; cases ha
  · rintro rfl; exact .inl rfl
theorem exG_body : bodyL exG 1 = [1] := by
  refine nI_inj (asc_ext (bodyL_asc exG 1) (by simp [Asc]) fun v => ?_)
  rw [nI_mem]
  constructor
  · rintro ⟨x, hx, rfl⟩
    rw [(exG_in x).1 (bodyL_mem.1 hx).2]
    simp
  · intro hv
    simp at hv
    subst hv
    exact ⟨1, bodyL_mem.2 ⟨by rw [exG_len]; omega, (exG_in 1).2 rfl⟩, rfl⟩
theorem exG_exit : exitL exG 1 = [2] := by
  refine nI_inj (asc_ext (exitL_asc exG 1) (by simp [Asc]) fun v => ?_)
  rw [nI_mem]
  constructor
  · rintro ⟨x, hx, rfl⟩
    obtain ⟨_, h2, b, h3, h4⟩ := exitL_mem.1 hx
    rw [exG_body] at h2 h3
    simp at h2 h3
    subst h3
    rw [exG_e1] at h4
    simp at h4
    rcases h4 with h4 | h4
    · exact absurd h4 h2
    · subst h4; simp
  · intro hv
    simp at hv
    subst hv
    exact ⟨2, exitL_mem.2 ⟨by rw [exG_len]; omega, by rw [exG_body]; simp, 1, by rw [exG_body]; simp, by rw [exG_e1]; simp⟩, rfl⟩
theorem exG_find : findL exG = [⟨1, [1], [2], -1⟩] := by
  have h1 : fnd0 exG (ordN exG) = [lpOf exG 1] := by
    unfold fnd0
    rw [exG_ord]
    have : ([0, 1, 2] : List Nat).filter (isHd exG) = [1] := by
      unfold isHd
      rw [show exG.b.length = 3 from rfl, exG_back]
      rfl
    rw [this]
    rfl
  unfold findL
  rw [h1]
  simp only [lpOf, exG_body, exG_exit]
  rfl
theorem exG_red (Y : Nat → Prop) (hY : SuccSt exG.b.length (fun b p => NB exG p b) Y) (b : Nat) : ¬ Y b := by
  have key : ∀ p c, NB exG p c → (p = 0 ∧ c = 1) ∨ (p = 1 ∧ c = 2) := by
    rintro p c ⟨h1, h2, h3⟩
    have hp := dgN_lt (edgOk exG) h1
    rw [exG_len] at hp
    rcases (show p = 0 ∨ p = 1 ∨ p = 2 by omega) with rfl | rfl | rfl
    · rw [exG_e0] at h2; simp at h2; exact .inl ⟨rfl, h2⟩
    · rw [exG_e1] at h2
      simp at h2
      rcases h2 with rfl | rfl
      · rw [exG_d1] at h3; cases h3
      · exact .inr ⟨rfl, rfl⟩
    · rw [exG_e2] at h2; cases h2
  have h0 : ¬ Y 0 := fun h => by
    obtain ⟨_, p, _, hp⟩ := hY 0 h
    rcases key p 0 hp with ⟨_, h⟩ | ⟨_, h⟩ <;> omega
  have h1 : ¬ Y 1 := fun h => by
    obtain ⟨_, p, hy, hp⟩ := hY 1 h
    rcases key p 1 hp with ⟨h2, _⟩ | ⟨_, h2⟩
    · subst h2; exact h0 hy
    · omega
  intro h
  obtain ⟨_, p, hy, hp⟩ := hY b h
  rcases key p b hp with ⟨h2, _⟩ | ⟨h2, _⟩
  · subst h2; exact h0 hy
  · subst h2; exact h1 hy
theorem l35ex_af : AF Try.prog 8 [] (aB true) := by
  have hB := lpback_af exG exG_fit (by rw [exG_len]; omega)
  rw [exG_len, exG_back] at hB
  have hF := lpfind_af exG exG_fit (by rw [exG_len]; omega)
  rw [exG_find] at hF
  obtain ⟨r, hr, hR, _⟩ := red_both exG exG_fit (by rw [exG_len]; omega)
  have : r = true := hr.2 exG_red
  subst this
  have hg := l35g_af
  generalize exG = g at *
  refine af_of Try.func8 rfl (by kernel_rfl) (by simp [Try.ntmps8]) fun _ => ?_; simp [Try.f8, Ex.d_eq]
  refine aCall_of hg (by kernel_rfl) (by simp) ?_
  simp
  refine aCall_of hB (by kernel_rfl) (by simp) ?_
  simp
  refine aCall_of hg (by kernel_rfl) (by simp) ?_
  simp
  refine aCall_of hF (by kernel_rfl) (by simp) ?_
  have hc3 : Try.prog.cellsOf 3 = 1 := by kernel_rfl
  have heq := eqIs_two (P := Try.prog) (el := 3) Try.underlying3 1 1 1 1
  simp [-eqIs, prs, lps, Lp.d, hc3, heq]
  change aSet _ _ _ _ _
  simp
  refine aCall_of hg (by kernel_rfl) (by simp) ?_
  simp
  refine aCall_of hR (by kernel_rfl) (by simp) ?_
  simp
/-- How many statements the first blocks have. -/
def lrgS : List Bl → Nat → Bool
  | [], _ => false
  | b :: l, n => if 300 < n + b.s.length then true else lrgS l (n + b.s.length)
def lrg35 (g : Gr) : Bool := decide (30 < g.b.length) || !smallG g 70 || lrgS g.b 0
theorem l35large_af (g : Gr) : AF Try.prog 7 [grV g] (aB (lrg35 g)) := by
  obtain ⟨R, hR⟩ : ∃ R, lrg35 g = R := ⟨_, rfl⟩
  rw [hR]
  unfold lrg35 at hR
  refine af_of Try.func7 rfl (by kernel_rfl) (by simp [Try.ntmps7]) fun _ => ?_; simp [Try.f7, Ex.d_eq]
  by_cases h3 : 30 < g.b.length
  · simp [h3] at hR
    subst hR
    simp [show (30 : Int) < g.b.length by omega]
  have hl : g.b.length ≤ maxLen := by unfold maxLen; omega
  simp [h3] at hR
  simp [show ¬ (30 : Int) < g.b.length by omega]
  refine aCall_of (smallg_af g 70 (by omega) (by omega)) (by kernel_rfl) (by simp) ?_
  cases hs : smallG g 70 with
  | false =>
    simp [hs] at hR
    subst hR
    simp
  | true =>
    have hfit := smallG_fit hs
    simp [hs] at hR
    simp
    refine aLoop_st (α := Nat × Nat) (fun p => [(1, .ptr 0 0 0 0), (3, aI .i64 p.2), (4, aI .i64 p.1)]) (fun _ => [gB g]) (fun p => p.1 ≤ g.b.length ∧ p.2 ≤ 300 ∧ lrgS (g.b.drop p.1) p.2 = R) (fun p => g.b.length - p.1) (0, 0) (Sub.refl _ _ _) 1 (by omega) (by simp [cln_gB]) (by simp) ⟨by omega, by omega, by simpa using hR⟩ ?_
    rintro ⟨i, n⟩ ⟨hi, hn, hx⟩ K hK
    simp only at hi hn hx hK ⊢
    rcases Nat.lt_or_ge i g.b.length with hlt | hge
    case inr =>
      obtain rfl : i = g.b.length := by omega
      simp [lrgS] at hx
      subst hx
      simp
    obtain ⟨b, hb⟩ : ∃ b, g.b[i]? = some b := ⟨_, List.getElem?_eq_getElem hlt⟩
    have hb2 := (List.getElem?_eq_some_iff.1 hb).2
    have hbl := (hfit.2.2 b (List.mem_of_getElem? hb)).1
    have hdrop : g.b.drop i = b :: g.b.drop (i + 1) := by rw [List.drop_eq_getElem_cons hlt, hb2]
    rw [hdrop, lrgS] at hx
    have hw : IntKind.i64.wrap ((n : Int) + (b.s.length : Int)) = ((n + b.s.length : Nat) : Int) := by rw [i64w (by omega)]; omega
    simp [hlt, hb, hb2, Bl.d_eq, hw]
    by_cases h4 : 300 < n + b.s.length
    · rw [if_pos h4] at hx
      subst hx
      simp [show (300 : Int) < (n : Int) + (b.s.length : Int) by omega]
    · rw [if_neg h4] at hx
      simp [show ¬ (300 : Int) < (n : Int) + (b.s.length : Int) by omega, succ_wrap hlt hl]
      exact hK (i + 1, n + b.s.length) ⟨by simp only; omega, by simp only; omega, hx⟩ (by simp only; omega) (Sub.refl _ _ _) 1 (by omega) (by simp [cln_gB]) (by simp)
theorem lrg35_fit {g : Gr} (h : lrg35 g = false) : GrFit g ∧ g.b.length ≤ 30 := by
  unfold lrg35 at h
  simp at h
  exact ⟨(smallG_fit h.1.2).1, h.1.1⟩
end Go.Proofs.Ytngjcmeclhlfeaa

/- The laws LoopsEdges, LoopsInnermost answer true. -/
namespace Go.Proofs.Ytngjcmeclhlfeaa
open Go.RowKit
set_option maxRecDepth 100000 in
theorem lawedges35_af (g : Gr) : AF Try.prog 3 [grV g] (aB true) := by
  have hx := l35ex_af
  have hl := l35large_af g
  refine af_of Try.func3 rfl (by kernel_rfl) (by simp [Try.ntmps3]) fun _ => ?_; simp [Try.f3, Ex.d_eq]
  refine aCall_of hl (by kernel_rfl) (by simp) ?_
  cases hc : lrg35 g with
  | true =>
    simp
    refine aCall_of hx (by kernel_rfl) (by simp) ?_
    simp
  | false =>
    obtain ⟨hg, h30⟩ := lrg35_fit hc
    have hsm : g.b.length ≤ 400 := by omega
    have hB := lpback_af g hg hsm
    have hB2 := r35back_af g hg hsm
    obtain ⟨r, _, hR, hR2⟩ := red_both g hg hsm
    have hbl := bkL_len g g.b.length
    have hbl2 : g.b.length * g.b.length ≤ 400 * 400 := Nat.mul_le_mul hsm hsm
    generalize bkL g g.b.length = bk at *
    have hbm : bk.length ≤ maxLen := by unfold maxLen; omega
    simp
    refine adraw [] (by kernel_rfl) (by kernel_rfl) (by kernel_rfl) (by kernel_rfl) ?_
    simp
    refine adC_of hB (by kernel_rfl) trivial (by simp) (by simp) ?_
    simp
    refine adC_of hB2 (by kernel_rfl) trivial (by simp) (by simp) ?_
    simp
    refine aLoop_st (fun i : Nat => [(1, .ptr 0 0 0 0), (3, .d (.sl 2 (prs bk))), (4, .d (.sl 2 (prs bk))), (5, aI .i64 i)]) (fun _ => [gB g]) (fun i => i ≤ bk.length) (fun i => bk.length - i) 0 (Sub.refl _ _ _) 1 (by omega) (by simp [cln_gB]) (by simp) (by omega) ?_
    rintro i hi K hK
    rcases Nat.lt_or_ge i bk.length with hlt | hge
    case inr =>
      obtain rfl : i = bk.length := by omega
      simp
      refine adraw [] (by kernel_rfl) (by kernel_rfl) (by kernel_rfl) (by kernel_rfl) ?_
      simp
      refine adC_of hR (by kernel_rfl) trivial (by simp) (by simp) ?_
      simp
      refine adC_of hR2 (by kernel_rfl) trivial (by simp) (by simp) ?_
      simp
      refine adC_of hx (by kernel_rfl) trivial (by simp) (by simp) ?_
      simp
    obtain ⟨p, hp⟩ : ∃ p, bk[i]? = some p := ⟨_, List.getElem?_eq_getElem hlt⟩
    have hp1 := prs_get hp
    have hp2 := (List.getElem?_eq_some_iff.1 hp1).2
    have hc3 : Try.prog.cellsOf 3 = 1 := by kernel_rfl
    have heq := eqIs_two (P := Try.prog) (el := 3) Try.underlying3 p.1 p.2 p.1 p.2
    simp [hlt]
    refine adraw [] (by kernel_rfl) (by kernel_rfl) (by kernel_rfl) (by kernel_rfl) ?_
    simp [-eqIs, hlt, hp1, hp2, hc3, heq]
    simp [succ_wrap hlt hbm]
    exact hK (i + 1) (by omega) (by omega) (Sub.refl _ _ _) 1 (by omega) (by simp [cln_gB]) (by simp)
end Go.Proofs.Ytngjcmeclhlfeaa

/- The law LoopsInnermost answers true. -/
namespace Go.Proofs.Ytngjcmeclhlfeaa
open Go.RowKit
abbrev rlB (v : Nat) (els : List (List AV)) : Blk := ⟨v, true, 38, 4, els⟩
theorem lps_bds : ∀ {l : List Lp}, BdS 4 (lps l) → ∀ x ∈ l, x.bd.length ≤ maxLen
  | [], _, x, hx => by cases hx
  | y :: l, h, x, hx => by
    have h : BdS 4 (y.d :: lps l) := h
    simp only [BdS] at h
    rcases List.mem_cons.1 hx with rfl | hx
    · have h1 := h.2.1
      simp only [Lp.d, BdE, BdD] at h1
      simpa using h1.2.1.1
    · exact lps_bds h.2.2 x hx
set_option maxRecDepth 100000 in
theorem lawinner35_af (l : List Lp) (b : Int) : AF Try.prog 5 [.d (.sl 4 (lps l)), aI .i64 b] (aB true) := by
  have hx := l35ex_af
  refine af_of Try.func5 rfl (by kernel_rfl) (by simp [Try.ntmps5]) fun hb => ?_
  have hall := lps_bds hb.1.2
  have hl : l.length ≤ maxLen := by simpa using hb.1.1
  clear hb
  simp [Try.f5]
  by_cases h1 : 100 < l.length
  · simp [show (100 : Int) < l.length by omega]
    refine aCall_of hx (by kernel_rfl) (by simp) ?_
    simp
  simp [show ¬ (100 : Int) < l.length by omega]
  refine aLoop_st (fun i : Nat => [(0, .d (.sl 4 (lps l))), (1, aI .i64 b), (5, .own 0 i 0 i), (6, aI .i64 i)]) (fun i => [rlB i (dEls (lps (l.take i)))]) (fun i => i ≤ l.length) (fun i => l.length - i) 0
    ((Sub.ghost 0 38 4).trans (Sub.slot (s := 5) (c := .own 0 0 0 0) (by simp; exact VLe.nil_own (k := ⟨0, true, 38, 4, []⟩) (by simp) rfl))) 1 (by omega) (by simp [lps]) (by simp) (by omega) ?_
  rintro i hi K hK
  rcases Nat.lt_or_ge i l.length with hlt | hge
  case inr =>
    obtain rfl : i = l.length := by omega
    have hn := lpnest_af l b hl hall
    have hn2 := r35nest_af l b hl hall
    have ht : List.take l.length (dEls (lps l)) = dEls (lps l) := List.take_of_length_le (by simp)
    rw [List.take_length]
    simp
    refine aCall_of hn (by kernel_rfl) (by simp) ?_
    simp
    refine aCall_ofs hn2 (by kernel_rfl) (by simp [ht]) (by simp) ?_
    simp
    refine aCall_of hx (by kernel_rfl) (by simp) ?_
    simp
  obtain ⟨x, hx1⟩ : ∃ x, l[i]? = some x := ⟨_, List.getElem?_eq_getElem hlt⟩
  have hr1 := lps_get hx1
  have hr2 := (List.getElem?_eq_some_iff.1 hr1).2
  have hst : lps (l.take (i + 1)) = lps (l.take i) ++ [x.d] := by
    rw [List.take_add_one, hx1]
    simp [lps]
  have hmin : min i l.length = i := by omega
  simp [hlt]
  refine adraw2 23 [] (by kernel_rfl) (by kernel_rfl) (by kernel_rfl) (by kernel_rfl) (by kernel_rfl) ?_
  simp [hlt, hr1, hr2]
  refine aRaw_app byt_33 ?_
  simp [hmin]
  refine ⟨by unfold maxLen; omega, by omega, ?_⟩
  simp [succ_wrap hlt hl]
  exact hK (i + 1) (by omega) (by omega) (Sub.refl _ _ _) 1 (by omega) (by simp [hst, Lp.d]) (by simp)
end Go.Proofs.Ytngjcmeclhlfeaa

/- Plain: natural loops lie apart or within each other. No program in sight. -/
namespace Go.Proofs.Ytngjcmeclhlfeaa
theorem dom_anti {g : Gr} (hg : GrFit g) {a b : Nat} (ha : (dgN g).rc a = true) (hb : (dgN g).rc b = true) (h1 : domB g a b = true) (h2 : domB g b a = true) (o : Nat → Option Nat) (ho : TreeOk g o) : a = b := by
  have h0 : 0 < g.b.length := by have := dgN_lt (edgOk g) ha; omega
  have hi := tree_inv ho
  rcases hi.anc ((tree_dom h0 ho hb).2 h1) with e | ⟨_, e⟩
  · exact e.symm
  · have := hi.le ((tree_dom h0 ho ha).2 h2)
    omega
theorem anc_total {o : Nat → Option Nat} {x a b : Nat} (h1 : Anc o x a) (h2 : Anc o x b) : Anc o a b ∨ Anc o b a := by
  induction h1 with
  | refl => exact .inl h2
  | @step x y z hxy hyz ih =>
    cases h2 with
    | refl => exact .inr (.step hxy hyz)
    | step h3 h4 =>
      rw [hxy] at h3
      obtain rfl := Option.some.inj h3
      exact ih h4
theorem three_ways {g : Gr} {h1 h2 : Nat} (hne : h1 ≠ h2) {y : Nat} (hp : Pt (edgN g) (fun _ => True) 0 y) :
    Pt (edgN g) (fun k => k ≠ h1) h2 y ∨ Pt (edgN g) (fun k => k ≠ h2) h1 y ∨ Pt (edgN g) (fun k => k ≠ h2) 0 y := by
  induction hp with
  | refl _ =>
    by_cases e : 0 = h2
    · rw [e]; exact .inl (.refl (Ne.symm hne))
    · exact .inr (.inr (.refl e))
  | @step b c _ he _ ih =>
    by_cases e2 : c = h2
    · rw [e2]; exact .inl (.refl (Ne.symm hne))
    · by_cases e1 : c = h1
      · rw [e1]; exact .inr (.inl (.refl hne))
      · rcases ih with ih | ih | ih
        · exact .inl (.step ih he e1)
        · exact .inr (.inl (.step ih he e2))
        · exact .inr (.inr (.step ih he e2))
theorem nested {g : Gr} (hg : GrFit g) {h1 h2 x : Nat} (o : Nat → Option Nat) (ho : TreeOk g o) (hr1 : (dgN g).rc h1 = true) (hr2 : (dgN g).rc h2 = true) (hne : h1 ≠ h2) (hx1 : InBody g h1 x) (hx2 : InBody g h2 x) (hd : domB g h1 h2 = true) :
    ∀ y, InBody g h2 y → InBody g h1 y := by
  have h0 : 0 < g.b.length := by have := dgN_lt (edgOk g) hr1; omega
  have hnd : ¬ domB g h2 h1 = true := fun h => hne (dom_anti hg hr1 hr2 hd h o ho)
  have hp1 : Pt (edgN g) (fun k => k ≠ h2) 0 h1 := by
    rw [domB_iff h0, dm_iff h0] at hnd
    exact Classical.byContradiction hnd
  have hdx : ¬ Pt (edgN g) (fun k => k ≠ h2) 0 x := by
    have := body_dom hr2 hx2
    rwa [domB_iff h0, dm_iff h0] at this
  have hxr := hx1.rc hr1
  have hpx : Pt (edgN g) (fun k => k ≠ h1) h2 x := by
    rcases three_ways hne ((rc_iff h0 x).1 hxr) with h | h | h
    · exact h
    · exact absurd (hp1.trans h) hdx
    · exact absurd h hdx
  obtain ⟨a, ha, hpa⟩ : ∃ a, h1 ∈ bkRow g a ∧ Pt (edgN g) (fun k => k ≠ h1) x a := by
    rcases hx1 with rfl | ⟨_, h⟩
    · exact absurd rfl hpx.last
    · exact h
  have hin : InBody g h1 h2 := .inr ⟨hr2, a, ha, hpx.trans hpa⟩
  intro y hy
  rcases hy with rfl | ⟨hyr, a2, ha2, hp2⟩
  · exact hin
  · obtain ⟨_, _, he2, _⟩ := bkRow_mem.1 ha2
    rcases hp2.avoid h1 with h | ⟨_, h⟩
    · refine .inr ⟨hyr, a, ha, ?_⟩
      have h3 : Pt (edgN g) (fun k => k ≠ h1) y a2 := h.mono fun k hk => hk.2
      exact (h3.step he2 (Ne.symm hne)).trans (hpx.trans hpa)
    · exfalso
      exact hnd (body_dom hr2 (.inr ⟨hr1, a2, ha2, h⟩))
theorem nested_or {g : Gr} (hg : GrFit g) {h1 h2 x : Nat} (o : Nat → Option Nat) (ho : TreeOk g o) (hr1 : (dgN g).rc h1 = true) (hr2 : (dgN g).rc h2 = true) (hne : h1 ≠ h2) (hx1 : InBody g h1 x) (hx2 : InBody g h2 x) :
    (∀ y, InBody g h2 y → InBody g h1 y) ∨ ∀ y, InBody g h1 y → InBody g h2 y := by
  have h0 : 0 < g.b.length := by have := dgN_lt (edgOk g) hr1; omega
  have hxr := hx1.rc hr1
  rcases anc_total ((tree_dom h0 ho hxr).2 (body_dom hr1 hx1)) ((tree_dom h0 ho hxr).2 (body_dom hr2 hx2)) with h | h
  · exact .inr (nested hg o ho hr2 hr1 (Ne.symm hne) hx2 hx1 ((tree_dom h0 ho hr1).1 h))
  · exact .inl (nested hg o ho hr1 hr2 hne hx1 hx2 ((tree_dom h0 ho hr2).1 h))
/-- How many blocks of one loop lie in the other. -/
def bothN (A B : List Nat) : Nat := (A.filter fun x => decide (x ∈ B)).length
theorem both_ok {g : Gr} (hg : GrFit g) {h1 h2 : Nat} (o : Nat → Option Nat) (ho : TreeOk g o) (hr1 : (dgN g).rc h1 = true) (hr2 : (dgN g).rc h2 = true) (hne : h1 ≠ h2) :
    bothN (bodyL g h1) (bodyL g h2) = 0 ∨ bothN (bodyL g h1) (bodyL g h2) = (bodyL g h1).length ∨ bothN (bodyL g h1) (bodyL g h2) = (bodyL g h2).length := by
  by_cases hc : ∃ x, InBody g h1 x ∧ InBody g h2 x
  · obtain ⟨x, hx1, hx2⟩ := hc
    right
    rcases nested_or hg o ho hr1 hr2 hne hx1 hx2 with h | h
    · right
      have : (bodyL g h1).filter (fun x => decide (x ∈ bodyL g h2)) = bodyL g h2 := by
        refine nI_inj (asc_ext ?_ (bodyL_asc g h2) fun v => ?_)
        · have h1 := bodyL_asc g h1
          unfold Asc nI at h1 ⊢
          rw [List.pairwise_map] at h1 ⊢
          exact h1.filter _
        · rw [nI_mem, nI_mem]
          constructor
          · rintro ⟨y, hy, e⟩
            rw [List.mem_filter, decide_eq_true_eq] at hy
            exact ⟨y, hy.2, e⟩
          · rintro ⟨y, hy, e⟩
            refine ⟨y, ?_, e⟩
            rw [List.mem_filter, decide_eq_true_eq]
            obtain ⟨h3, h4⟩ := bodyL_mem.1 hy
            exact ⟨bodyL_mem.2 ⟨h3, h y h4⟩, hy⟩
      unfold bothN
      rw [this]
    · left
      unfold bothN
      rw [List.filter_eq_self.2 fun y hy => by
        obtain ⟨h3, h4⟩ := bodyL_mem.1 hy
        simpa using bodyL_mem.2 ⟨h3, h y h4⟩]
  · left
    unfold bothN
    rw [List.length_eq_zero_iff, List.filter_eq_nil_iff]
    intro x hx hx2
    simp at hx2
    exact hc ⟨x, (bodyL_mem.1 hx).2, (bodyL_mem.1 hx2).2⟩
/-- What the law asks of the loop at a place. -/
structure LpOk (g : Gr) (L : List Lp) (i h : Nat) (pq : Option Nat) : Prop where
  hn : h < g.b.length
  hd : h ∈ bodyL g h
  pa : ∀ p, pq = some p → p ≠ i ∧ ∃ h', (∃ y, L[p]? = some y ∧ y.bd = nI (bodyL g h')) ∧ ∀ b ∈ bodyL g h, b ∈ bodyL g h'
  each : ∀ b ∈ bodyL g h, b < g.b.length ∧ (dgN g).rc b = true ∧ domB g h b = true ∧ (b ≠ h → ∀ p ∈ predF g b, (dgN g).rc p = true → p ∈ bodyL g h)
  both : ∀ k, k < i → ∃ h', (∃ y, L[k]? = some y ∧ y.bd = nI (bodyL g h')) ∧ (bothN (bodyL g h) (bodyL g h') = 0 ∨ bothN (bodyL g h) (bodyL g h') = (bodyL g h).length ∨ bothN (bodyL g h) (bodyL g h') = (bodyL g h').length)
theorem inL_in {l : List Lp} {b but : Int} : ∀ {k : Nat} (c : Nat), inL l b but k = some c → ∃ y, l[c]? = some y ∧ b ∈ y.bd
  | 0, c, h => by cases h
  | k + 1, c, h => by
    rw [inL] at h
    unfold inStp at h
    split at h
    · exact inL_in c h
    · rename_i x hx
      split at h
      · rename_i hb
        split at h
        · obtain rfl := Option.some.inj h; exact ⟨x, hx, hb.2⟩
        · rename_i d hd
          split at h
          · obtain rfl := Option.some.inj h; exact ⟨x, hx, hb.2⟩
          · obtain rfl := Option.some.inj h; exact inL_in _ hd
      · exact inL_in c h
theorem fnd0_nodup {g : Gr} {i k h h' : Nat} (hO : (ordN g).Nodup) (hi : ((ordN g).filter (isHd g))[i]? = some h) (hk : ((ordN g).filter (isHd g))[k]? = some h') (hik : i ≠ k) : h ≠ h' := by
  intro e
  subst e
  have hn : ((ordN g).filter (isHd g)).Nodup := hO.filter _
  exact hik ((List.getElem?_inj (List.getElem?_eq_some_iff.1 hi).1 hn).1 (hi.trans hk.symm))
theorem findL_ok {g : Gr} (hg : GrFit g) {i : Nat} {x : Lp} (hx : (findL g)[i]? = some x) : ∃ (h : Nat) (pq : Option Nat), x = ⟨(h : Int), nI (bodyL g h), nI (exitL g h), bV pq⟩ ∧ LpOk g (findL g) i h pq := by
  obtain ⟨L0, hL0⟩ : ∃ L0, fnd0 g (ordN g) = L0 := ⟨_, rfl⟩
  have hfd : findL g = withP L0 L0.length := by unfold findL; rw [hL0]
  rw [hfd] at hx
  simp only [withP, List.getElem?_mapIdx, Option.map_eq_some_iff] at hx
  obtain ⟨y, hy, rfl⟩ := hx
  have hil := (List.getElem?_eq_some_iff.1 hy).1
  rw [if_pos hil]
  have hget : ∀ (k : Nat) (z : Lp), L0[k]? = some z → ∃ h, ((ordN g).filter (isHd g))[k]? = some h ∧ z = lpOf g h ∧ (dgN g).rc h = true := fun k z hz => by
    rw [← hL0] at hz
    unfold fnd0 at hz
    rw [List.getElem?_map, Option.map_eq_some_iff] at hz
    obtain ⟨h, hh, rfl⟩ := hz
    have hm := (List.mem_filter.1 (List.mem_of_getElem? hh)).1
    exact ⟨h, hh, rfl, by show (ordN g).contains h = true; simpa using hm⟩
  have hfin : ∀ (k : Nat) (z : Lp), L0[k]? = some z → ∃ z', (findL g)[k]? = some z' ∧ z'.bd = z.bd := fun k z hz => by
    rw [hfd]
    simp only [withP, List.getElem?_mapIdx, hz, Option.map_some]
    refine ⟨_, rfl, ?_⟩
    split <;> rfl
  obtain ⟨h, hh, rfl, hr⟩ := hget i y hy
  have hhn := dgN_lt (edgOk g) hr
  have h0 : 0 < g.b.length := by omega
  obtain ⟨o, ho, _⟩ := dmTree_ex g hg (edgOk g)
  have ho := ho h0
  have hnd := ordN_nodup (edgOk g) h0
  have hhd : h ∈ bodyL g h := bodyL_mem.2 ⟨hhn, .inl rfl⟩
  refine ⟨h, inL L0 (h : Int) i L0.length, rfl, hhn, hhd, fun p hp => ?_, fun b hb => ?_, fun k hk => ?_⟩
  · have hpi := (inL_self L0 (L0.set i ⟨h, [], [], 0⟩) (h : Int) i (by simp) (fun z hz => by
      rw [List.getElem?_set_self hil] at hz
      obtain rfl := Option.some.inj hz
      rfl) (fun j a c hj ha hc => by
      rw [List.getElem?_set_ne (Ne.symm hj), ha] at hc
      obtain rfl := Option.some.inj hc
      rfl) L0.length).2
    have hne : p ≠ i := fun e => hpi (by rw [hp, e])
    obtain ⟨z, hz, hzb⟩ := inL_in p hp
    obtain ⟨h', hh', rfl, hr'⟩ := hget p z hz
    obtain ⟨z', hz', hbd⟩ := hfin p _ hz
    have hhh : h' ≠ h := fnd0_nodup hnd hh' hh hne
    have hin : InBody g h' h := by
      have : (h : Int) ∈ nI (bodyL g h') := hzb
      rw [nI_not] at this
      exact (bodyL_mem.1 this).2
    refine ⟨hne, h', ⟨z', hz', hbd⟩, fun b hb => ?_⟩
    obtain ⟨h3, h4⟩ := bodyL_mem.1 hb
    exact bodyL_mem.2 ⟨h3, nested hg o ho hr' hr hhh hin (.inl rfl) (body_dom hr' hin) b h4⟩
  · obtain ⟨h3, h4⟩ := bodyL_mem.1 hb
    refine ⟨h3, h4.rc hr, body_dom hr h4, fun hbh p hp hpr => ?_⟩
    obtain ⟨h5, h6⟩ := predF_mem.1 hp
    exact bodyL_mem.2 ⟨h5, h4.pred hbh hpr h6⟩
  · obtain ⟨z, hz⟩ : ∃ z, L0[k]? = some z := ⟨_, List.getElem?_eq_getElem (by omega)⟩
    obtain ⟨h', hh', rfl, hr'⟩ := hget k z hz
    obtain ⟨z', hz', hbd⟩ := hfin k _ hz
    exact ⟨h', ⟨z', hz', hbd⟩, both_ok hg o ho hr hr' (fnd0_nodup hnd hh hh' (by omega))⟩
end Go.Proofs.Ytngjcmeclhlfeaa

/- The law LoopsNest answers true. -/
namespace Go.Proofs.Ytngjcmeclhlfeaa
open Go.RowKit
set_option maxRecDepth 100000 in
set_option maxHeartbeats 1000000 in
theorem lawnest35_af (g : Gr) : AF Try.prog 6 [grV g] (aB true) := by
  have hx := l35ex_af
  have hl := l35large_af g
  refine af_of Try.func6 rfl (by kernel_rfl) (by simp [Try.ntmps6]) fun _ => ?_; simp [Try.f6, Ex.d_eq]
  refine aCall_of hl (by kernel_rfl) (by simp) ?_
  cases hc : lrg35 g with
  | true =>
    simp
    refine aCall_of hx (by kernel_rfl) (by simp) ?_
    simp
  | false =>
    obtain ⟨hg, h30⟩ := lrg35_fit hc
    have hsm : g.b.length ≤ 400 := by omega
    have hgl : g.b.length ≤ maxLen := by unfold maxLen; omega
    have hF := lpfind_af g hg hsm
    obtain ⟨o, ho, hT⟩ := dmTree_ex g hg (edgOk g)
    have hP := dmpreds_af g hg (edgOk g) hsm
    rw [dataP_pred g (by have := (turn_keep hg (List.range g.b.length) (List.replicate g.b.length []) 0 (by simp)).1; simpa [turnN] using this)] at hP
    have hR := dmreach_af revOk g hg (edgOk g)
    have hok := fun (i : Nat) (x : Lp) (h : (findL g)[i]? = some x) => findL_ok hg h
    have hLl : (findL g).length ≤ 400 := by
      have h1 := fnd0_len g (ordN g)
      have h2 := ordN_len (edgOk g) (g := g)
      have h3 : (findL g).length = (fnd0 g (ordN g)).length := by unfold findL; simp
      omega
    have hra : ∀ a, a < g.b.length → (blD (reachN g))[a]? = some [D.v (.bool ((dgN g).rc a))] := fun a h => blD_get (reachN_get h)
    have hrl : (reachN g).length = g.b.length := reachN_len g
    have hrow0 : ∀ a, a < g.b.length → (dataT (mkT g.b.length (predF g)))[a]? = some [.sl 1 (i64s (nI (predF g a)))] := fun a h => by
      have := dataT_get (T := mkT g.b.length (predF g)) (k := a) (by simpa using h)
      rwa [mkT_row _ h] at this
    have hdom := fun (a b : Nat) (ha : a < g.b.length) (hb : b < g.b.length) (hrb : (dgN g).rc b = true) => dom_af g (o := o) (by omega) hsm (ho (by omega)) ha hb hrb
    have hBl := fun h => bodyL_len g h
    have hpl := predF_len g
    have hpm : ∀ b p, p ∈ predF g b → p < g.b.length := fun b p h => (predF_mem.1 h).1
    generalize findL g = L at *
    have hLm : L.length ≤ maxLen := by unfold maxLen; omega
    obtain ⟨n, hn⟩ : ∃ n, g.b.length = n := ⟨_, rfl⟩
    simp only [hn] at hT hP hR hra hrl hrow0 hdom hBl hpl hpm hgl hsm
    simp
    refine aCall_of hF (by kernel_rfl) (by simp) ?_
    simp
    refine aCall_of hT (by kernel_rfl) (by simp) ?_
    simp
    refine aCall_of hP (by kernel_rfl) (by simp) ?_
    simp
    refine aCall_of hR (by kernel_rfl) (by simp) ?_
    simp [hn, hrl]
    refine aLoop_st (fun i : Nat => [(1, .ptr 0 0 0 0), (3, .d (.sl 4 (lps L))), (4, .d (.sl 1 (i64s (oI n o)))), (5, .d (.sl 1 (dataT (mkT n (predF g))))), (6, .d (.sl 1 (blD (reachN g)))), (7, aI .i64 i)]) (fun _ => [gB g])
      (fun i => i ≤ L.length) (fun i => L.length - i) 0 (Sub.refl _ _ _) 1 (by omega) (by simp [cln_gB]) (by simp [blD]) (by omega) ?_
    rintro i hi K hK
    rcases Nat.lt_or_ge i L.length with hlt | hge
    case inr =>
      obtain rfl : i = L.length := by omega
      simp
      refine aCall_of hx (by kernel_rfl) (by simp) ?_
      simp
    obtain ⟨x, hxi⟩ : ∃ x, L[i]? = some x := ⟨_, List.getElem?_eq_getElem hlt⟩
    obtain ⟨h, pq, rfl, hO⟩ := hok i x hxi
    have hr1 := lps_get hxi
    simp only at hr1
    have hr2 := (List.getElem?_eq_some_iff.1 hr1).2
    have hhn := hO.hn
    rw [hn] at hhn
    have hB1 := hBl h
    have hBm : (bodyL g h).length ≤ maxLen := by omega
    have hin1 := l35inN_af (bodyL g h) h hBm
    rw [show decide (h ∈ bodyL g h) = true by simpa using hO.hd] at hin1
    have hpi : ¬ bV pq = (i : Int) := by
      cases pq with
      | none => show ¬ (-1 : Int) = (i : Int); omega
      | some p => have := (hO.pa p rfl).1; show ¬ (p : Int) = (i : Int); omega
    have hpL : ¬ (L.length : Int) ≤ bV pq := by
      cases pq with
      | none => show ¬ (L.length : Int) ≤ -1; omega
      | some p =>
        obtain ⟨_, h', ⟨y, hy, _⟩, _⟩ := hO.pa p rfl
        have := (List.getElem?_eq_some_iff.1 hy).1
        show ¬ (L.length : Int) ≤ (p : Int)
        omega
    simp [hlt]
    refine adraw [] (by kernel_rfl) (by kernel_rfl) (by kernel_rfl) (by kernel_rfl) ?_
    simp [hlt, hr1, hr2]
    refine adC_of hin1 (by kernel_rfl) trivial (by simp) (by simp) ?_
    simp [hlt, hr1, hr2, hpi, hpL]
    have hPl : (dataT (mkT n (predF g))).length = n := by simp
    have hRl : (blD (reachN g)).length = n := by simp [hrl]
    refine aLoop_st (fun k : Nat => [(1, .ptr 0 0 0 0), (3, .d (.sl 4 (lps L))), (4, .d (.sl 1 (i64s (oI n o)))), (5, .d (.sl 1 (dataT (mkT n (predF g))))), (6, .d (.sl 1 (blD (reachN g)))), (7, aI .i64 i), (8, aI .i64 k)]) (fun _ => [gB g])
      (fun k => k ≤ (bodyL g h).length) (fun k => (bodyL g h).length - k) 0 (Sub.refl _ _ _) 1 (by omega) (by simp [cln_gB]) (by simp) (by omega) ?_
    rintro k hk K2 hK2
    rcases Nat.lt_or_ge k (bodyL g h).length with hklt | hkge
    case inl =>
      obtain ⟨b, hb⟩ : ∃ b, (bodyL g h)[k]? = some b := ⟨_, List.getElem?_eq_getElem hklt⟩
      have hb2 := (List.getElem?_eq_some_iff.1 hb).2
      have hbm := List.mem_of_getElem? hb
      obtain ⟨e1, e2, e3, e4⟩ := hO.each b hbm
      rw [hn] at e1
      have b1 : ¬ (b : Int) < 0 := by omega
      have b2 : ¬ (n : Int) ≤ (b : Int) := by omega
      have b3 : ¬ n ≤ b := by omega
      have hd := hdom h b hhn e1 e2
      rw [e3] at hd
      have hpr := hrow0 b e1
      have hpr2 := (List.getElem?_eq_some_iff.1 hpr).2
      have hpl1 := hpl b
      have hplm : (predF g b).length ≤ maxLen := by omega
      by_cases hbh : b = h
      · subst hbh
        simp [hlt, hr1, hr2, hklt, hb, hb2, b1, b2, b3, hPl]
        cases pq with
        | none =>
          have z0 : ¬ (0 : Int) ≤ bV none := by show ¬ (0 : Int) ≤ -1; omega
          simp [hlt, hr1, hr2, z0]
          refine aLoop_st (fun j : Nat => [(1, .ptr 0 0 0 0), (3, .d (.sl 4 (lps L))), (4, .d (.sl 1 (i64s (oI n o)))), (5, .d (.sl 1 (dataT (mkT n (predF g))))), (6, .d (.sl 1 (blD (reachN g)))), (7, aI .i64 i), (8, aI .i64 k), (9, aI .i64 b), (10, aI .i64 j)]) (fun _ => [gB g])
            (fun j => j ≤ (predF g b).length) (fun j => (predF g b).length - j) 0 (Sub.refl _ _ _) 1 (by omega) (by simp [cln_gB]) (by simp) (by omega) ?_
          rintro j hj K3 hK3
          rcases Nat.lt_or_ge j (predF g b).length with hjlt | hjge
          case inr =>
            obtain rfl : j = (predF g b).length := by omega
            simp [hlt, hr1, hr2, e1, hpr, hpr2, hPl, succ_wrap hklt hBm]
            exact hK2 (k + 1) (by omega) (by omega) (Sub.refl _ _ _) 1 (by omega) (by simp [cln_gB]) (by simp)
          obtain ⟨q, hq⟩ : ∃ q, (predF g b)[j]? = some q := ⟨_, List.getElem?_eq_getElem hjlt⟩
          have hq2 := (List.getElem?_eq_some_iff.1 hq).2
          have hqm := List.mem_of_getElem? hq
          have hqn := hpm b q hqm
          have hrq := hra q hqn
          have hrq2 := (List.getElem?_eq_some_iff.1 hrq).2
          have q1 : ¬ (q : Int) < 0 := by omega
          have q2 : ¬ (n : Int) ≤ (q : Int) := by omega
          have q3 : ¬ n ≤ q := by omega
          simp [hlt, hr1, hr2, e1, hpr, hpr2, hPl, hRl, hrl, hjlt, hq, hq2, q1, q2, q3]
          simp [hlt, hr1, hr2, hrl, succ_wrap hjlt hplm]
          exact hK3 (j + 1) (by omega) (by omega) (Sub.refl _ _ _) 1 (by omega) (by simp [cln_gB]) (by simp)
        | some p =>
          obtain ⟨_, h', ⟨y, hy, hyb⟩, hsub⟩ := hO.pa p rfl
          have hpl2 := (List.getElem?_eq_some_iff.1 hy).1
          have hy1 := lps_get hy
          rw [hyb] at hy1
          have hy2 := (List.getElem?_eq_some_iff.1 hy1).2
          have z0 : (0 : Int) ≤ bV (some p) := by show (0 : Int) ≤ (p : Int); omega
          have z1 : bV (some p) = (p : Int) := rfl
          have hin2 := l35inN_af (bodyL g h') b (by have := hBl h'; omega)
          rw [show decide (b ∈ bodyL g h') = true by simpa using hsub b hbm] at hin2
          simp [hlt, hr1, hr2, z1, hpl2, hy1, hy2]
          refine aCall_of hin2 (by kernel_rfl) (by simp) ?_
          simp
          refine aLoop_st (fun j : Nat => [(1, .ptr 0 0 0 0), (3, .d (.sl 4 (lps L))), (4, .d (.sl 1 (i64s (oI n o)))), (5, .d (.sl 1 (dataT (mkT n (predF g))))), (6, .d (.sl 1 (blD (reachN g)))), (7, aI .i64 i), (8, aI .i64 k), (9, aI .i64 b), (10, aI .i64 j)]) (fun _ => [gB g])
            (fun j => j ≤ (predF g b).length) (fun j => (predF g b).length - j) 0 (Sub.refl _ _ _) 1 (by omega) (by simp [cln_gB]) (by simp) (by omega) ?_
          rintro j hj K3 hK3
          rcases Nat.lt_or_ge j (predF g b).length with hjlt | hjge
          case inr =>
            obtain rfl : j = (predF g b).length := by omega
            simp [hlt, hr1, hr2, e1, hpr, hpr2, hPl, succ_wrap hklt hBm]
            exact hK2 (k + 1) (by omega) (by omega) (Sub.refl _ _ _) 1 (by omega) (by simp [cln_gB]) (by simp)
          obtain ⟨q, hq⟩ : ∃ q, (predF g b)[j]? = some q := ⟨_, List.getElem?_eq_getElem hjlt⟩
          have hq2 := (List.getElem?_eq_some_iff.1 hq).2
          have hqm := List.mem_of_getElem? hq
          have hqn := hpm b q hqm
          have hrq := hra q hqn
          have hrq2 := (List.getElem?_eq_some_iff.1 hrq).2
          have q1 : ¬ (q : Int) < 0 := by omega
          have q2 : ¬ (n : Int) ≤ (q : Int) := by omega
          have q3 : ¬ n ≤ q := by omega
          simp [hlt, hr1, hr2, e1, hpr, hpr2, hPl, hRl, hrl, hjlt, hq, hq2, q1, q2, q3]
          simp [hlt, hr1, hr2, hrl, succ_wrap hjlt hplm]
          exact hK3 (j + 1) (by omega) (by omega) (Sub.refl _ _ _) 1 (by omega) (by simp [cln_gB]) (by simp)
      · have hbhI : ¬ (b : Int) = (h : Int) := by omega
        simp [hlt, hr1, hr2, hklt, hb, hb2, b1, b2, b3, hPl, hbhI]
        refine aCall_of hd (by kernel_rfl) (by simp) ?_
        simp
        cases pq with
        | none =>
          have z0 : ¬ (0 : Int) ≤ bV none := by show ¬ (0 : Int) ≤ -1; omega
          simp [hlt, hr1, hr2, z0]
          refine aLoop_st (fun j : Nat => [(1, .ptr 0 0 0 0), (3, .d (.sl 4 (lps L))), (4, .d (.sl 1 (i64s (oI n o)))), (5, .d (.sl 1 (dataT (mkT n (predF g))))), (6, .d (.sl 1 (blD (reachN g)))), (7, aI .i64 i), (8, aI .i64 k), (9, aI .i64 b), (10, aI .i64 j)]) (fun _ => [gB g])
            (fun j => j ≤ (predF g b).length) (fun j => (predF g b).length - j) 0 (Sub.refl _ _ _) 1 (by omega) (by simp [cln_gB]) (by simp) (by omega) ?_
          rintro j hj K3 hK3
          rcases Nat.lt_or_ge j (predF g b).length with hjlt | hjge
          case inr =>
            obtain rfl : j = (predF g b).length := by omega
            simp [hlt, hr1, hr2, e1, hpr, hpr2, hPl, succ_wrap hklt hBm]
            exact hK2 (k + 1) (by omega) (by omega) (Sub.refl _ _ _) 1 (by omega) (by simp [cln_gB]) (by simp)
          obtain ⟨q, hq⟩ : ∃ q, (predF g b)[j]? = some q := ⟨_, List.getElem?_eq_getElem hjlt⟩
          have hq2 := (List.getElem?_eq_some_iff.1 hq).2
          have hqm := List.mem_of_getElem? hq
          have hqn := hpm b q hqm
          have hrq := hra q hqn
          have hrq2 := (List.getElem?_eq_some_iff.1 hrq).2
          have q1 : ¬ (q : Int) < 0 := by omega
          have q2 : ¬ (n : Int) ≤ (q : Int) := by omega
          have q3 : ¬ n ≤ q := by omega
          simp [hlt, hr1, hr2, e1, hpr, hpr2, hPl, hRl, hrl, hjlt, hq, hq2, q1, q2, q3]
          simp [hlt, hr1, hr2, hrl, hbhI, hqn, hrq, hrq2]
          cases hrcq : (dgN g).rc q with
          | false =>
            simp [succ_wrap hjlt hplm]
            exact hK3 (j + 1) (by omega) (by omega) (Sub.refl _ _ _) 1 (by omega) (by simp [cln_gB]) (by simp)
          | true =>
            have hin3 := l35inN_af (bodyL g h) q hBm
            rw [show decide (q ∈ bodyL g h) = true by simpa using e4 hbh q hqm hrcq] at hin3
            simp [hlt, hr1, hr2]
            refine aCall_of hin3 (by kernel_rfl) (by simp) ?_
            simp [succ_wrap hjlt hplm]
            exact hK3 (j + 1) (by omega) (by omega) (Sub.refl _ _ _) 1 (by omega) (by simp [cln_gB]) (by simp)
        | some p =>
          obtain ⟨_, h', ⟨y, hy, hyb⟩, hsub⟩ := hO.pa p rfl
          have hpl2 := (List.getElem?_eq_some_iff.1 hy).1
          have hy1 := lps_get hy
          rw [hyb] at hy1
          have hy2 := (List.getElem?_eq_some_iff.1 hy1).2
          have z0 : (0 : Int) ≤ bV (some p) := by show (0 : Int) ≤ (p : Int); omega
          have z1 : bV (some p) = (p : Int) := rfl
          have hin2 := l35inN_af (bodyL g h') b (by have := hBl h'; omega)
          rw [show decide (b ∈ bodyL g h') = true by simpa using hsub b hbm] at hin2
          simp [hlt, hr1, hr2, z1, hpl2, hy1, hy2]
          refine aCall_of hin2 (by kernel_rfl) (by simp) ?_
          simp
          refine aLoop_st (fun j : Nat => [(1, .ptr 0 0 0 0), (3, .d (.sl 4 (lps L))), (4, .d (.sl 1 (i64s (oI n o)))), (5, .d (.sl 1 (dataT (mkT n (predF g))))), (6, .d (.sl 1 (blD (reachN g)))), (7, aI .i64 i), (8, aI .i64 k), (9, aI .i64 b), (10, aI .i64 j)]) (fun _ => [gB g])
            (fun j => j ≤ (predF g b).length) (fun j => (predF g b).length - j) 0 (Sub.refl _ _ _) 1 (by omega) (by simp [cln_gB]) (by simp) (by omega) ?_
          rintro j hj K3 hK3
          rcases Nat.lt_or_ge j (predF g b).length with hjlt | hjge
          case inr =>
            obtain rfl : j = (predF g b).length := by omega
            simp [hlt, hr1, hr2, e1, hpr, hpr2, hPl, succ_wrap hklt hBm]
            exact hK2 (k + 1) (by omega) (by omega) (Sub.refl _ _ _) 1 (by omega) (by simp [cln_gB]) (by simp)
          obtain ⟨q, hq⟩ : ∃ q, (predF g b)[j]? = some q := ⟨_, List.getElem?_eq_getElem hjlt⟩
          have hq2 := (List.getElem?_eq_some_iff.1 hq).2
          have hqm := List.mem_of_getElem? hq
          have hqn := hpm b q hqm
          have hrq := hra q hqn
          have hrq2 := (List.getElem?_eq_some_iff.1 hrq).2
          have q1 : ¬ (q : Int) < 0 := by omega
          have q2 : ¬ (n : Int) ≤ (q : Int) := by omega
          have q3 : ¬ n ≤ q := by omega
          simp [hlt, hr1, hr2, e1, hpr, hpr2, hPl, hRl, hrl, hjlt, hq, hq2, q1, q2, q3]
          simp [hlt, hr1, hr2, hrl, hbhI, hqn, hrq, hrq2]
          cases hrcq : (dgN g).rc q with
          | false =>
            simp [succ_wrap hjlt hplm]
            exact hK3 (j + 1) (by omega) (by omega) (Sub.refl _ _ _) 1 (by omega) (by simp [cln_gB]) (by simp)
          | true =>
            have hin3 := l35inN_af (bodyL g h) q hBm
            rw [show decide (q ∈ bodyL g h) = true by simpa using e4 hbh q hqm hrcq] at hin3
            simp [hlt, hr1, hr2]
            refine aCall_of hin3 (by kernel_rfl) (by simp) ?_
            simp [succ_wrap hjlt hplm]
            exact hK3 (j + 1) (by omega) (by omega) (Sub.refl _ _ _) 1 (by omega) (by simp [cln_gB]) (by simp)
    obtain rfl : k = (bodyL g h).length := by omega
    simp [hlt, hr1, hr2]
    refine aLoop_st (fun k2 : Nat => [(1, .ptr 0 0 0 0), (3, .d (.sl 4 (lps L))), (4, .d (.sl 1 (i64s (oI n o)))), (5, .d (.sl 1 (dataT (mkT n (predF g))))), (6, .d (.sl 1 (blD (reachN g)))), (7, aI .i64 i), (12, aI .i64 k2)]) (fun _ => [gB g])
      (fun k2 => k2 ≤ i) (fun k2 => i - k2) 0 (Sub.refl _ _ _) 1 (by omega) (by simp [cln_gB]) (by simp) (by omega) ?_
    rintro k2 hk2 K4 hK4
    rcases Nat.lt_or_ge k2 i with hk2lt | hk2ge
    case inr =>
      obtain rfl : k2 = i := by omega
      simp [succ_wrap hlt hLm]
      exact hK (k2 + 1) (by omega) (by omega) (Sub.refl _ _ _) 1 (by omega) (by simp [cln_gB]) (by simp)
    obtain ⟨h', ⟨y, hy, hyb⟩, hboth⟩ := hO.both k2 hk2lt
    have hyl := (List.getElem?_eq_some_iff.1 hy).1
    have hy1 := lps_get hy
    rw [hyb] at hy1
    have hy2 := (List.getElem?_eq_some_iff.1 hy1).2
    have hB2 := hBl h'
    simp [hk2lt]
    refine aLoop_st (fun j : Nat => [(1, .ptr 0 0 0 0), (3, .d (.sl 4 (lps L))), (4, .d (.sl 1 (i64s (oI n o)))), (5, .d (.sl 1 (dataT (mkT n (predF g))))), (6, .d (.sl 1 (blD (reachN g)))), (7, aI .i64 i), (12, aI .i64 k2), (13, aI .i64 (bothN ((bodyL g h).take j) (bodyL g h'))), (14, aI .i64 j)]) (fun _ => [gB g])
      (fun j => j ≤ (bodyL g h).length) (fun j => (bodyL g h).length - j) 0 (Sub.refl _ _ _) 1 (by omega) (by simp [cln_gB]) (by simp [bothN]) (by omega) ?_
    rintro j hj K5 hK5
    rcases Nat.lt_or_ge j (bodyL g h).length with hjlt | hjge
    case inr =>
      obtain rfl : j = (bodyL g h).length := by omega
      rw [List.take_length]
      have him : i ≤ maxLen := by omega
      generalize bothN (bodyL g h) (bodyL g h') = m at *
      simp [hlt, hr1, hr2]
      by_cases m0 : m = 0
      · simp [m0, succ_wrap hk2lt him]
        exact hK4 (k2 + 1) (by omega) (by omega) (Sub.refl _ _ _) 1 (by omega) (by simp [cln_gB]) (by simp)
      · by_cases m1 : m = (bodyL g h).length
        · have m0' : ¬ bodyL g h = [] := fun e => m0 (by rw [m1, e]; rfl)
          simp [m1, m0', hlt, hr1, hr2, succ_wrap hk2lt him]
          exact hK4 (k2 + 1) (by omega) (by omega) (Sub.refl _ _ _) 1 (by omega) (by simp [cln_gB]) (by simp)
        · have m2 : m = (bodyL g h').length := by omega
          have m1I : ¬ (m : Int) = ((bodyL g h).length : Int) := by omega
          have m2I : (m : Int) = ((bodyL g h').length : Int) := by omega
          simp [m0, m1, m1I, hlt, hr1, hr2, hyl, hy1, hy2]
          simp [m2, succ_wrap hk2lt him]
          exact hK4 (k2 + 1) (by omega) (by omega) (Sub.refl _ _ _) 1 (by omega) (by simp [cln_gB]) (by simp)
    obtain ⟨b, hb⟩ : ∃ b, (bodyL g h)[j]? = some b := ⟨_, List.getElem?_eq_getElem hjlt⟩
    have hb2 := (List.getElem?_eq_some_iff.1 hb).2
    have hin4 := l35inN_af (bodyL g h') b (by omega)
    have hst : bothN ((bodyL g h).take (j + 1)) (bodyL g h') = bothN ((bodyL g h).take j) (bodyL g h') + if b ∈ bodyL g h' then 1 else 0 := by
      unfold bothN
      rw [List.take_add_one, hb, List.filter_append, List.length_append]
      by_cases hm : b ∈ bodyL g h'
      · simp [hm]
      · simp [hm]
    have hbl4 : bothN ((bodyL g h).take j) (bodyL g h') ≤ n := by
      unfold bothN
      refine Nat.le_trans (List.length_filter_le _ _) ?_
      simp
      omega
    simp [hlt, hr1, hr2, hjlt]
    refine adraw [] (by kernel_rfl) (by kernel_rfl) (by kernel_rfl) (by kernel_rfl) ?_
    simp [hlt, hr1, hr2, hjlt, hb, hb2, hyl, hy1, hy2]
    refine adC_of hin4 (by kernel_rfl) trivial (by simp) (by simp) ?_
    by_cases hm : b ∈ bodyL g h'
    · rw [if_pos hm] at hst
      have hw := succ_wrap (i := bothN ((bodyL g h).take j) (bodyL g h')) (n := n + 1) (by omega) (by unfold maxLen; omega)
      simp [hm, hw, succ_wrap hjlt hBm]
      exact hK5 (j + 1) (by omega) (by omega) (Sub.refl _ _ _) 1 (by omega) (by simp [cln_gB]) (by simp [hst])
    · rw [if_neg hm] at hst
      simp [hm, succ_wrap hjlt hBm]
      exact hK5 (j + 1) (by omega) (by omega) (Sub.refl _ _ _) 1 (by omega) (by simp [cln_gB]) (by simp [hst])
end Go.Proofs.Ytngjcmeclhlfeaa

/- Plain and contract: the reference's natural loop. -/
namespace Go.Proofs.Ytngjcmeclhlfeaa
open Go.RowKit
/-- What stands in the middle of the reference's search: a bool for each block, the list of those to be looked at. -/
structure WMid (g : Gr) (h : Nat) (Q : Nat → Prop) (I : List Bool) (W : List Nat) (i : Nat) : Prop where
  il : i ≤ W.length
  len : I.length = g.b.length
  nd : (h :: W).Nodup
  mem : ∀ x, x < g.b.length → (I[x]? = some true ↔ x = h ∨ x ∈ W)
  wl : ∀ x ∈ W, x < g.b.length ∧ InBody g h x
  sr : ∀ a, Q a → a = h ∨ a ∈ W
  cl : ∀ (j x p : Nat), j < i → W[j]? = some x → (dgN g).rc p = true → x ∈ edgN g p → p = h ∨ p ∈ W
theorem WMid.size {g : Gr} {h : Nat} {Q : Nat → Prop} {I : List Bool} {W : List Nat} {i : Nat} (m : WMid g h Q I W i) : W.length ≤ g.b.length := nodup_len (List.nodup_cons.1 m.nd).2 fun x hx => (m.wl x hx).1
theorem WMid.done {g : Gr} {h : Nat} {I : List Bool} {W : List Nat} (hh : h < g.b.length) (m : WMid g h (fun a => h ∈ bkRow g a) I W W.length) {x : Nat} (hx : x < g.b.length) : I[x]? = some true ↔ x ∈ bodyL g h := by
  rw [m.mem x hx, bodyL_mem]
  constructor
  · rintro (rfl | hw)
    · exact ⟨hx, .inl rfl⟩
    · exact ⟨hx, (m.wl x hw).2⟩
  · rintro ⟨_, hb⟩
    refine body_least (S := fun x => x = h ∨ x ∈ W) (.inl rfl) m.sr (fun y p hy hyh hr he => ?_) hb
    rcases hy with hy | hy
    · exact absurd hy hyh
    · obtain ⟨j, hj⟩ := List.getElem?_of_mem hy
      exact m.cl j y p (List.getElem?_eq_some_iff.1 hj).1 hj hr he
/-- One more block is found. -/
theorem WMid.add {g : Gr} {h q : Nat} {Q : Nat → Prop} {I : List Bool} {W : List Nat} {i : Nat} (m : WMid g h Q I W i) (hq : q < g.b.length) (hqI : I[q]? = some false) (hqb : InBody g h q) : WMid g h Q (I.set q true) (W ++ [q]) i := by
  have hqn : ¬ (q = h ∨ q ∈ W) := fun e => by
    rw [(m.mem q hq).2 e] at hqI
    cases hqI
  have hnd := List.nodup_cons.1 m.nd
  have hil := m.il
  refine ⟨by rw [List.length_append]; omega, by simp [m.len], ?_, fun x hx => ?_, fun x hx => ?_, fun a ha => ?_, fun j x p hj hjx hr he => ?_⟩
  · rw [← List.cons_append, List.nodup_append]
    refine ⟨m.nd, by simp, fun a ha b hb => ?_⟩
    simp at hb
    subst hb
    rintro rfl
    rcases List.mem_cons.1 ha with e | e
    · exact hqn (.inl e)
    · exact hqn (.inr e)
  · by_cases hxq : q = x
    · subst hxq
      rw [List.getElem?_set_self (by rw [m.len]; exact hq)]
      simp
    · rw [List.getElem?_set_ne hxq, m.mem x hx]
      have : ¬ x = q := fun e => hxq e.symm
      simp [this]
  · rcases List.mem_append.1 hx with hx | hx
    · exact m.wl x hx
    · simp at hx; subst hx; exact ⟨hq, hqb⟩
  · rcases m.sr a ha with e | e
    · exact .inl e
    · exact .inr (List.mem_append_left _ e)
  · rw [List.getElem?_append_left (by omega)] at hjx
    rcases m.cl j x p hj hjx hr he with e | e
    · exact .inl e
    · exact .inr (List.mem_append_left _ e)
theorem WMid.weak {g : Gr} {h : Nat} {Q Q' : Nat → Prop} {I : List Bool} {W : List Nat} {i : Nat} (m : WMid g h Q I W i) (hq : ∀ a, Q' a → a = h ∨ a ∈ W) : WMid g h Q' I W i := ⟨m.il, m.len, m.nd, m.mem, m.wl, hq, m.cl⟩
abbrev resZ : Blk := ⟨0, true, 38, 4, [[aI .i64 0, .d (.v (.slice none 0 0)), .d (.v (.slice none 0 0)), aI .i64 0]]⟩
set_option maxRecDepth 100000 in
set_option maxHeartbeats 1000000 in
theorem r35loop_af (g : Gr) (hg : GrFit g) (hsm : g.b.length ≤ 400) (h : Nat) (hh : (dgN g).rc h = true) :
    AF Try.prog 42 [grV g, .d (.sl 2 (prs (bkL g g.b.length))), .d (.sl 1 (dataT (mkT g.b.length (predF g)))), .d (.sl 1 (blD (reachN g))), aI .i64 h] (.agg [aI .i64 h, .d (.sl 1 (i64s (nI (bodyL g h)))), .d (.sl 1 (i64s (nI (exitL g h)))), aI .i64 (-1)]) := by
  have hgl : g.b.length ≤ maxLen := by unfold maxLen; omega
  have hhn := dgN_lt (edgOk g) hh
  have hbl := bkL_len g g.b.length
  have hbl2 : g.b.length * g.b.length ≤ 400 * 400 := Nat.mul_le_mul hsm hsm
  have hnat : ∀ p ∈ bkL g g.b.length, ∃ a b : Nat, p = ((a : Int), (b : Int)) ∧ a < g.b.length ∧ b ∈ bkRow g a := fun p hp => bkL_nat hp
  have hbkm : ∀ a, h ∈ bkRow g a → ((a : Int), (h : Int)) ∈ bkL g g.b.length := fun a ha => bkL_mem.2 ⟨dgN_lt (edgOk g) (bkRow_rc ha).1, ha⟩
  have hra : ∀ a, a < g.b.length → (blD (reachN g))[a]? = some [D.v (.bool ((dgN g).rc a))] := fun a h => blD_get (reachN_get h)
  have hrl : (reachN g).length = g.b.length := reachN_len g
  have hrow0 : ∀ a, a < g.b.length → (dataT (mkT g.b.length (predF g)))[a]? = some [.sl 1 (i64s (nI (predF g a)))] := fun a h => by
    have := dataT_get (T := mkT g.b.length (predF g)) (k := a) (by simpa using h)
    rwa [mkT_row _ h] at this
  have hpl := predF_len g
  have hpm : ∀ b p, p ∈ predF g b → p < g.b.length := fun b p h => (predF_mem.1 h).1
  obtain ⟨n, hn⟩ : ∃ n, g.b.length = n := ⟨_, rfl⟩
  simp only [hn] at hgl hhn hbl hbl2 hnat hbkm hra hrl hrow0 hpl hpm hsm ⊢
  generalize bkL g n = bk at *
  have hbm : bk.length ≤ maxLen := by unfold maxLen; omega
  have hm0 : WMid g h (fun a => ((a : Int), (h : Int)) ∈ bk.take 0) ((List.replicate n false).set h true) [] 0 := by
    refine ⟨by simp, by simp [hn], by simp, fun x hx => ?_, by simp, by simp, fun j x p hj => by omega⟩
    rw [hn] at hx
    by_cases hxh : h = x
    · subst hxh
      simp [hx]
    · rw [List.getElem?_set_ne hxh]
      have : ¬ x = h := fun e => hxh e.symm
      simp [hx, this]
  refine af_of Try.func42 rfl (by kernel_rfl) (by simp [Try.ntmps42]) fun _ => ?_; simp [Try.f42, Ex.d_eq]
  simp [hn]
  refine aRaw_make (kl := .i64) (kc := .i64) (l := n) (c := n) (z := [.d (.v (.bool false))]) byt_46 (by simp) (by simp) (by simp) (Nat.le_refl _) hgl (by omega) ?_
  rw [show List.replicate n [AV.d (.v (.bool false))] = bEls (List.replicate n false) from by simp [bEls]]
  have hb0 := bEls_get (S := List.replicate n false) (k := h) (b := false) (by simp [hhn])
  have hb02 := (List.getElem?_eq_some_iff.1 hb0).2
  simp [hhn, hb0, hb02, bEls_set]
  refine aLoop_st (α := Nat × List Bool × List Nat) (fun q => [(1, .d (.sl 2 (prs bk))), (2, .d (.sl 1 (dataT (mkT n (predF g))))), (3, .d (.sl 1 (blD (reachN g)))), (4, aI .i64 h), (5, .ptr 0 0 0 0), (10, .ptr 1 0 0 0), (11, .own 2 0 0 n), (12, .own 3 q.2.2.length 0 q.2.2.length), (13, aI .i64 q.1)]) (fun q => [gB g, resZ, dSn q.2.1, nbk q.2.2.length (nI q.2.2)])
    (fun q => q.1 ≤ bk.length ∧ WMid g h (fun a => ((a : Int), (h : Int)) ∈ bk.take q.1) q.2.1 q.2.2 0) (fun q => bk.length - q.1) (0, (List.replicate n false).set h true, [])
    ((Sub.ghost 0 3 1).trans (Sub.slot (s := 12) (c := .own 3 0 0 0) (by simp; exact VLe.nil_own (k := ⟨0, true, 3, 1, []⟩) (by simp) rfl))) 4 (by omega) (by simp [cln_gB]) (by simp [blD]) ⟨by simp, hm0⟩ ?_
  rintro ⟨i, I, W⟩ ⟨hi, hm⟩ K hK
  simp only at hi hm hK ⊢
  have hIl := hm.len
  have hWl := hm.size
  rw [hn] at hIl hWl
  rcases Nat.lt_or_ge i bk.length with hlt | hge
  case inl =>
    obtain ⟨p, hp⟩ : ∃ p, bk[i]? = some p := ⟨_, List.getElem?_eq_getElem hlt⟩
    have hp1 := prs_get hp
    have hp2 := (List.getElem?_eq_some_iff.1 hp1).2
    obtain ⟨a, b, rfl, han, hab⟩ := hnat p (List.mem_of_getElem? hp)
    have htk : ∀ c : Nat, ((c : Int), (h : Int)) ∈ bk.take (i + 1) → ((c : Int), (h : Int)) ∈ bk.take i ∨ (c = a ∧ b = h) := fun c hc => by
      rw [List.take_add_one, hp, List.mem_append] at hc
      rcases hc with hc | hc
      · exact .inl hc
      · right
        simp at hc
        omega
    obtain ⟨y, hy⟩ : ∃ y, I[a]? = some y := ⟨_, List.getElem?_eq_getElem (by omega)⟩
    have hye := bEls_get hy
    have hye2 := (List.getElem?_eq_some_iff.1 hye).2
    simp [hlt, hp1, hp2]
    by_cases hbh : b = h
    · have hbhI : (b : Int) = (h : Int) := by omega
      rw [hbh] at hab
      simp [hbh, hlt, hp1, hp2, han, hye, hye2]
      cases y with
      | true =>
        have hmm := (hm.mem a (by omega)).1 hy
        simp [succ_wrap hlt hbm]
        exact hK (i + 1, I, W) ⟨by simp only; omega, hm.weak fun c hc => (htk c hc).elim (hm.sr c) fun e => by rw [e.1]; exact hmm⟩ (by simp only; omega) (Sub.refl _ _ _) 4 (by omega) (by simp [cln_gB]) (by simp)
      | false =>
        have hma := hm.add (by omega) hy (.src hab)
        simp [hlt, hp1, hp2, han, hye, hye2, bEls_set]
        refine aRaw_app byt_35 ?_
        simp
        refine ⟨by unfold maxLen; omega, by omega, ?_⟩
        simp [succ_wrap hlt hbm]
        exact hK (i + 1, I.set a true, W ++ [a]) ⟨by simp only; omega, hma.weak fun c hc => (htk c hc).elim (fun e => (hm.sr c e).imp id (List.mem_append_left _)) fun e => by rw [e.1]; right; simp⟩ (by simp only; omega) (Sub.refl _ _ _) 4 (by omega) (by simp [cln_gB]) (by simp)
    · have hbhI : ¬ (b : Int) = (h : Int) := by omega
      simp [hbhI, succ_wrap hlt hbm]
      exact hK (i + 1, I, W) ⟨by simp only; omega, hm.weak fun c hc => (htk c hc).elim (hm.sr c) fun e => absurd e.2 hbh⟩ (by simp only; omega) (Sub.refl _ _ _) 4 (by omega) (by simp [cln_gB]) (by simp)
  obtain rfl : i = bk.length := by omega
  rw [List.take_length] at hm
  have hm1 : WMid g h (fun a => h ∈ bkRow g a) I W 0 := hm.weak fun a ha => hm.sr a (hbkm a ha)
  clear hK hm0 hm
  simp
  refine aLoop_st (α := Nat × List Bool × List Nat) (fun q => [(1, .d (.sl 2 (prs bk))), (2, .d (.sl 1 (dataT (mkT n (predF g))))), (3, .d (.sl 1 (blD (reachN g)))), (4, aI .i64 h), (5, .ptr 0 0 0 0), (10, .ptr 1 0 0 0), (11, .own 2 0 0 n), (12, .own 3 q.2.2.length 0 q.2.2.length), (14, aI .i64 q.1)]) (fun q => [gB g, resZ, dSn q.2.1, nbk q.2.2.length (nI q.2.2)])
    (fun q => WMid g h (fun a => h ∈ bkRow g a) q.2.1 q.2.2 q.1) (fun q => n - q.1) (0, I, W) (Sub.refl _ _ _) 4 (by omega) (by simp [cln_gB]) (by simp) hm1 ?_
  clear hm1 hIl hWl
  clear I W
  rintro ⟨i, I, W⟩ hm K2 hK2
  simp only at hm hK2 ⊢
  have hIl := hm.len
  have hWl := hm.size
  have hil := hm.il
  rw [hn] at hIl hWl
  rcases Nat.lt_or_ge i W.length with hlt | hge
  case inl =>
    obtain ⟨x, hx⟩ : ∃ x, W[i]? = some x := ⟨_, List.getElem?_eq_getElem hlt⟩
    obtain ⟨hxn, hxb⟩ := hm.wl x (List.mem_of_getElem? hx)
    rw [hn] at hxn
    have hxh : x ≠ h := fun e => by
      have := List.nodup_cons.1 hm.nd
      exact this.1 (e ▸ List.mem_of_getElem? hx)
    have hxe := nbk_get (X := nI W) (i := i) (a := (x : Int)) (by simp [hx])
    have hpr := hrow0 x hxn
    have hpr2 := (List.getElem?_eq_some_iff.1 hpr).2
    have hpl1 := hpl x
    have hplm : (predF g x).length ≤ maxLen := by omega
    have hPl : (dataT (mkT n (predF g))).length = n := by simp
    have hx2 := (List.getElem?_eq_some_iff.1 hx).2
    simp [hlt, hxe, hxn, hpr, hpr2, hPl, hx2]
    clear hx2
    refine aLoop_st (α := Nat × List Bool × List Nat) (fun q => [(1, .d (.sl 2 (prs bk))), (2, .d (.sl 1 (dataT (mkT n (predF g))))), (3, .d (.sl 1 (blD (reachN g)))), (4, aI .i64 h), (5, .ptr 0 0 0 0), (10, .ptr 1 0 0 0), (11, .own 2 0 0 n), (12, .own 3 q.2.2.length 0 q.2.2.length), (14, aI .i64 i), (15, .d (.sl 1 (i64s (nI (predF g x))))), (16, aI .i64 q.1)]) (fun q => [gB g, resZ, dSn q.2.1, nbk q.2.2.length (nI q.2.2)])
      (fun q => q.1 ≤ (predF g x).length ∧ WMid g h (fun a => h ∈ bkRow g a) q.2.1 q.2.2 i ∧ q.2.2[i]? = some x ∧ ∀ p ∈ (predF g x).take q.1, (dgN g).rc p = true → p = h ∨ p ∈ q.2.2) (fun q => (predF g x).length - q.1) (0, I, W) (Sub.refl _ _ _) 4 (by omega) (by simp [cln_gB]) (by simp) ⟨by simp, hm, hx, by simp⟩ ?_
    clear hx hxe hm hIl hWl hil hlt
    clear I W
    rintro ⟨k, I, W⟩ ⟨hk, hm, hx, hdn⟩ K3 hK3
    simp only at hk hm hx hdn hK3 ⊢
    have hIl := hm.len
    have hWl := hm.size
    have hil := hm.il
    have hlt : i < W.length := (List.getElem?_eq_some_iff.1 hx).1
    rw [hn] at hIl hWl
    rcases Nat.lt_or_ge k (predF g x).length with hklt | hkge
    case inr =>
      obtain rfl : k = (predF g x).length := by omega
      rw [List.take_length] at hdn
      have hmn : WMid g h (fun a => h ∈ bkRow g a) I W (i + 1) := ⟨by omega, hm.len, hm.nd, hm.mem, hm.wl, hm.sr, fun j y p hj hjy hr he => by
        rcases Nat.lt_or_ge j i with h1 | h1
        · exact hm.cl j y p h1 hjy hr he
        · obtain rfl : j = i := by omega
          rw [hx] at hjy
          obtain rfl := Option.some.inj hjy
          exact hdn p (predF_mem.2 ⟨dgN_lt (edgOk g) hr, he⟩) hr⟩
      simp [succ_wrap (i := i) (n := n) (by omega) hgl]
      exact hK2 (i + 1, I, W) hmn (by simp only; omega) (Sub.refl _ _ _) 4 (by omega) (by simp [cln_gB]) (by simp)
    obtain ⟨q, hq⟩ : ∃ q, (predF g x)[k]? = some q := ⟨_, List.getElem?_eq_getElem hklt⟩
    have hq2 := (List.getElem?_eq_some_iff.1 hq).2
    have hqm := List.mem_of_getElem? hq
    have hqn := hpm x q hqm
    have hrq := hra q hqn
    have hrq2 := (List.getElem?_eq_some_iff.1 hrq).2
    have hRl : (blD (reachN g)).length = n := by simp [hrl]
    have htk : ∀ c : Nat, c ∈ (predF g x).take (k + 1) → c ∈ (predF g x).take k ∨ c = q := fun c hc => by
      rw [List.take_add_one, hq, List.mem_append] at hc
      rcases hc with hc | hc
      · exact .inl hc
      · right; simpa using hc
    obtain ⟨y, hy⟩ : ∃ y, I[q]? = some y := ⟨_, List.getElem?_eq_getElem (by omega)⟩
    have hye := bEls_get hy
    have hye2 := (List.getElem?_eq_some_iff.1 hye).2
    simp [hklt, hq, hq2, hqn, hrq, hrq2, hRl, hrl]
    cases hrcq : (dgN g).rc q with
    | false =>
      simp [succ_wrap hklt hplm]
      exact hK3 (k + 1, I, W) ⟨by simp only; omega, hm, hx, fun c hc hr => (htk c hc).elim (fun e => hdn c e hr) fun e => by rw [e, hrcq] at hr; cases hr⟩ (by simp only; omega) (Sub.refl _ _ _) 4 (by omega) (by simp [cln_gB]) (by simp)
    | true =>
      simp [hklt, hq, hq2, hqn, hye, hye2]
      cases y with
      | true =>
        have hmm := (hm.mem q (by omega)).1 hy
        simp [succ_wrap hklt hplm]
        exact hK3 (k + 1, I, W) ⟨by simp only; omega, hm, hx, fun c hc hr => (htk c hc).elim (fun e => hdn c e hr) fun e => by rw [e]; exact hmm⟩ (by simp only; omega) (Sub.refl _ _ _) 4 (by omega) (by simp [cln_gB]) (by simp)
      | false =>
        have hma := hm.add (by omega) hy (hxb.pred hxh hrcq (predF_mem.1 hqm).2)
        simp [hklt, hq, hq2, hqn, hye, hye2, bEls_set]
        refine aRaw_app byt_35 ?_
        simp
        refine ⟨by unfold maxLen; omega, by omega, ?_⟩
        simp [succ_wrap hklt hplm]
        exact hK3 (k + 1, I.set q true, W ++ [q]) ⟨by simp only; omega, hma, by rw [List.getElem?_append_left hlt]; exact hx, fun c hc hr => (htk c hc).elim (fun e => (hdn c e hr).imp id (List.mem_append_left _)) fun e => by rw [e]; right; simp⟩ (by simp only; omega) (Sub.refl _ _ _) 4 (by omega) (by simp [cln_gB]) (by simp)
  obtain rfl : i = W.length := by omega
  have hdone := fun x (hx : x < n) => hm.done (by omega) (x := x) (by omega)
  clear hK2
  have hI : ∀ x, x < n → I[x]? = some (decide (x ∈ bodyL g h)) := fun x hx => by
    obtain ⟨y, hy⟩ : ∃ y, I[x]? = some y := ⟨_, List.getElem?_eq_getElem (by omega)⟩
    have h1 := hdone x hx
    rw [hy] at h1 ⊢
    cases y with
    | true => simp [h1.1 rfl]
    | false =>
      have : ¬ x ∈ bodyL g h := fun e => by have := h1.2 e; cases this
      simp [this]
  obtain ⟨fb, hfb⟩ : ∃ f : Nat → List Nat, f = fun m => (List.range m).filter fun x => decide (x ∈ bodyL g h) := ⟨_, rfl⟩
  obtain ⟨fe, hfe⟩ : ∃ f : Nat → List Nat, f = fun m => (List.range m).filter fun x => !decide (x ∈ bodyL g h) && (predF g x).any fun p => decide (p ∈ bodyL g h) := ⟨_, rfl⟩
  have hfb0 : fb 0 = [] := by rw [hfb]; rfl
  have hfe0 : fe 0 = [] := by rw [hfe]; rfl
  have hfbl : ∀ m, (fb m).length ≤ m := fun m => by
    rw [hfb]
    have := List.length_filter_le (fun x => decide (x ∈ bodyL g h)) (List.range m)
    simpa using this
  have hfel : ∀ m, (fe m).length ≤ m := fun m => by
    rw [hfe]
    have := List.length_filter_le (fun x => !decide (x ∈ bodyL g h) && (predF g x).any fun p => decide (p ∈ bodyL g h)) (List.range m)
    simpa using this
  have hfbs : ∀ m, fb (m + 1) = if m ∈ bodyL g h then fb m ++ [m] else fb m := fun m => by
    rw [hfb]
    simp only
    rw [List.range_succ, List.filter_append]
    by_cases hm : m ∈ bodyL g h
    · simp [hm]
    · simp [hm]
  have hfes : ∀ m, fe (m + 1) = if m ∈ bodyL g h then fe m else if ((predF g m).any fun p => decide (p ∈ bodyL g h)) = true then fe m ++ [m] else fe m := fun m => by
    rw [hfe]
    simp only
    rw [List.range_succ, List.filter_append]
    by_cases hm : m ∈ bodyL g h
    · rw [if_pos hm]
      simp only [List.filter_cons, decide_eq_true hm]
      simp
    · rw [if_neg hm]
      by_cases ha : ((predF g m).any fun p => decide (p ∈ bodyL g h)) = true
      · rw [if_pos ha]
        simp only [List.filter_cons, decide_eq_false hm, ha]
        simp
      · rw [if_neg ha]
        simp only [List.filter_cons, decide_eq_false hm, ha]
        simp
  have hfbe : fb n = bodyL g h := by
    rw [hfb]
    refine nI_inj (asc_ext (asc_range _ _) (bodyL_asc g h) fun v => ?_)
    rw [nI_mem, nI_mem]
    constructor
    · rintro ⟨x, hx, e⟩
      rw [List.mem_filter, decide_eq_true_eq] at hx
      exact ⟨x, hx.2, e⟩
    · rintro ⟨x, hx, e⟩
      have := (bodyL_mem.1 hx).1
      exact ⟨x, by rw [List.mem_filter, decide_eq_true_eq, List.mem_range]; exact ⟨by omega, hx⟩, e⟩
  have hfee : fe n = exitL g h := by
    rw [hfe]
    refine nI_inj (asc_ext (asc_range _ _) (exitL_asc g h) fun v => ?_)
    rw [nI_mem, nI_mem]
    constructor
    · rintro ⟨x, hx, e⟩
      rw [List.mem_filter, List.mem_range] at hx
      simp only [Bool.and_eq_true, Bool.not_eq_true', decide_eq_false_iff_not, List.any_eq_true, decide_eq_true_eq] at hx
      obtain ⟨hxn, hxb, p, hp, hpb⟩ := hx
      exact ⟨x, exitL_mem.2 ⟨by omega, hxb, p, hpb, (predF_mem.1 hp).2⟩, e⟩
    · rintro ⟨x, hx, e⟩
      obtain ⟨h1, h2, p, h3, h4⟩ := exitL_mem.1 hx
      refine ⟨x, ?_, e⟩
      rw [List.mem_filter, List.mem_range]
      simp only [Bool.and_eq_true, Bool.not_eq_true', decide_eq_false_iff_not, List.any_eq_true, decide_eq_true_eq]
      exact ⟨by omega, h2, p, predF_mem.2 ⟨(bodyL_mem.1 h3).1, h4⟩, h3⟩
  clear hfb hfe
  have hPl : (dataT (mkT n (predF g))).length = n := by simp
  simp
  refine aLoop_st (fun b : Nat => [(2, .d (.sl 1 (dataT (mkT n (predF g))))), (5, .ptr 0 0 0 0), (10, .ptr 1 0 0 0), (11, .own 2 0 0 n), (17, .ptr 4 0 0 0), (18, aI .i64 b)])
    (fun b => [gB g, resZ, dSn I, nbk W.length (nI W), ⟨0, true, 38, 4, [[aI .i64 h, .own 5 (fb b).length 0 (fb b).length, .own 6 (fe b).length 0 (fe b).length, aI .i64 (-1)]]⟩, nbk (fb b).length (nI (fb b)), nbk (fe b).length (nI (fe b))]) (fun b => b ≤ n) (fun b => n - b) 0
    ((Sub.ghost 0 3 1).trans ((Sub.ghost 0 3 1).trans ((Sub.cell (b := 4) (i := 0) (o := 1) (c := .d (.v (.slice none 0 0))) (c' := .own 5 0 0 0) (by simp; rfl) rfl rfl (VLe.nil_own (k := ⟨0, true, 3, 1, []⟩) (by simp) rfl)).trans (Sub.cell (b := 4) (i := 0) (o := 2) (x := [aI .i64 h, .own 5 0 0 0, .d (.v (.slice none 0 0)), aI .i64 (-1)]) (c := .d (.v (.slice none 0 0))) (c' := .own 6 0 0 0) (by simp [setEls]; rfl) (by simp) rfl (VLe.nil_own (k := ⟨0, true, 3, 1, []⟩) (by simp) rfl))))) 7 (by omega) (by simp [cln_gB, hfb0, hfe0, setEls]) (by simp) (by omega) ?_
  rintro b hb K3 hK3
  have hb1 := hfbl b
  have hb2 := hfel b
  rcases Nat.lt_or_ge b n with hblt | hbge
  case inr =>
    obtain rfl : b = n := by omega
    rw [hfbe, hfee] at *
    simp [hn]
  have hIb := bEls_get (hI b hblt)
  have hIb2 := (List.getElem?_eq_some_iff.1 hIb).2
  have hs1 := hfbs b
  have hs2 := hfes b
  simp [hn, hblt, hIb, hIb2]
  by_cases hbb : b ∈ bodyL g h
  · rw [if_pos hbb] at hs1 hs2
    simp [hbb]
    refine aRaw_app byt_35 ?_
    simp
    refine ⟨by unfold maxLen; omega, by omega, ?_⟩
    simp [succ_wrap hblt hgl]
    exact hK3 (b + 1) (by omega) (by omega) (Sub.refl _ _ _) 7 (by omega) (by simp [cln_gB, hs1, hs2]) (by simp)
  · rw [if_neg hbb] at hs1 hs2
    have hpr := hrow0 b hblt
    have hpr2 := (List.getElem?_eq_some_iff.1 hpr).2
    have hpl1 := hpl b
    have hplm : (predF g b).length ≤ maxLen := by omega
    simp [hbb]
    refine aLoop_st (fun k : Nat => [(2, .d (.sl 1 (dataT (mkT n (predF g))))), (5, .ptr 0 0 0 0), (10, .ptr 1 0 0 0), (11, .own 2 0 0 n), (17, .ptr 4 0 0 0), (18, aI .i64 b), (19, aB (((predF g b).take k).any fun p => decide (p ∈ bodyL g h))), (20, aI .i64 k)])
      (fun _ => [gB g, resZ, dSn I, nbk W.length (nI W), ⟨0, true, 38, 4, [[aI .i64 h, .own 5 (fb b).length 0 (fb b).length, .own 6 (fe b).length 0 (fe b).length, aI .i64 (-1)]]⟩, nbk (fb b).length (nI (fb b)), nbk (fe b).length (nI (fe b))]) (fun k => k ≤ (predF g b).length) (fun k => (predF g b).length - k) 0 (Sub.refl _ _ _) 7 (by omega) (by simp [cln_gB]) (by simp) (by omega) ?_
    rintro k hk K4 hK4
    rcases Nat.lt_or_ge k (predF g b).length with hklt | hkge
    case inr =>
      obtain rfl : k = (predF g b).length := by omega
      rw [List.take_length]
      simp [hblt, hpr, hpr2, hPl]
      cases hany : (predF g b).any fun p => decide (p ∈ bodyL g h) with
      | false =>
        rw [hany] at hs2
        simp only [Bool.false_eq_true, if_false] at hs2
        simp [succ_wrap hblt hgl]
        exact hK3 (b + 1) (by omega) (by omega) (Sub.refl _ _ _) 7 (by omega) (by simp [cln_gB, hs1, hs2]) (by simp)
      | true =>
        rw [hany] at hs2
        simp only [if_true] at hs2
        simp
        refine aRaw_app byt_35 ?_
        simp
        refine ⟨by unfold maxLen; omega, by omega, ?_⟩
        simp [succ_wrap hblt hgl]
        exact hK3 (b + 1) (by omega) (by omega) (Sub.refl _ _ _) 7 (by omega) (by simp [cln_gB, hs1, hs2]) (by simp)
    obtain ⟨q, hq⟩ : ∃ q, (predF g b)[k]? = some q := ⟨_, List.getElem?_eq_getElem hklt⟩
    have hq2 := (List.getElem?_eq_some_iff.1 hq).2
    have hqn := hpm b q (List.mem_of_getElem? hq)
    have hIq := bEls_get (hI q hqn)
    have hIq2 := (List.getElem?_eq_some_iff.1 hIq).2
    have hst : ((predF g b).take (k + 1)).any (fun p => decide (p ∈ bodyL g h)) = (((predF g b).take k).any (fun p => decide (p ∈ bodyL g h)) || decide (q ∈ bodyL g h)) := by
      rw [List.take_add_one, hq, List.any_append]
      simp
    generalize ((predF g b).take k).any (fun p => decide (p ∈ bodyL g h)) = F at *
    simp [hblt, hpr, hpr2, hPl, hklt]
    cases F with
    | true =>
      simp [succ_wrap hklt hplm]
      exact hK4 (k + 1) (by omega) (by omega) (Sub.refl _ _ _) 7 (by omega) (by simp [cln_gB]) (by simp [hst])
    | false =>
      simp [hblt, hpr, hpr2, hPl, hklt, hq, hq2, hqn, hIq, hIq2, succ_wrap hklt hplm]
      exact hK4 (k + 1) (by omega) (by omega) (Sub.refl _ _ _) 7 (by omega) (by simp [cln_gB]) (by simp [hst])
end Go.Proofs.Ytngjcmeclhlfeaa

/- The reference's Find; the law LoopsFinds answers true. -/
namespace Go.Proofs.Ytngjcmeclhlfeaa
open Go.RowKit
theorem inL_congr {L M : List Lp} (h : ∀ i : Nat, L[i]?.map Lp.bd = M[i]?.map Lp.bd) (b but : Int) : ∀ m, inL L b but m = inL M b but m
  | 0 => rfl
  | m + 1 => by
    rw [inL, inL, inL_congr h b but m]
    generalize inL M b but m = bs
    have hl : ∀ i : Nat, (L[i]?.map fun y : Lp => y.bd.length) = M[i]?.map fun y : Lp => y.bd.length := fun i => by
      have := congrArg (Option.map List.length) (h i)
      simpa [Option.map_map, Function.comp_def] using this
    unfold inStp
    have hm := h m
    cases hL : L[m]? with
    | none =>
      rw [hL] at hm
      cases hM : M[m]? with
      | none => rfl
      | some y => rw [hM] at hm; cases hm
    | some x =>
      rw [hL] at hm
      cases hM : M[m]? with
      | none => rw [hM] at hm; cases hm
      | some y =>
        rw [hM] at hm
        have hxy : x.bd = y.bd := by simpa using hm
        simp only [hxy]
        split
        · cases bs with
          | none => rfl
          | some c => simp only [hl c]
        · rfl
theorem withP_bd (L : List Lp) (k i : Nat) : (withP L k)[i]?.map Lp.bd = L[i]?.map Lp.bd := by
  simp only [withP, List.getElem?_mapIdx]
  cases L[i]? with
  | none => rfl
  | some x => simp only [Option.map_some]; split <;> rfl
set_option maxRecDepth 100000 in
set_option maxHeartbeats 1000000 in
theorem r35find_af (g : Gr) (hg : GrFit g) (hsm : g.b.length ≤ 400) : AF Try.prog 14 [grV g] (.d (.sl 4 (lps (findL g)))) := by
  have hgl : g.b.length ≤ maxLen := by unfold maxLen; omega
  have hB := r35back_af g hg hsm
  have hP := r24preds_af g hg
  have hR := r24reach_af g hg hsm
  have hO := r24order_af g hg
  have hOl := ordN_len (edgOk g) (g := g)
  have hOr : ∀ h ∈ ordN g, (dgN g).rc h = true := fun h hh => by show (ordN g).contains h = true; simpa using hh
  have hloop := fun h (hh : (dgN g).rc h = true) => r35loop_af g hg hsm h hh
  have hbm := fun h => bodyL_max g h hsm
  have hbl := bkL_len g g.b.length
  have hbl2 : g.b.length * g.b.length ≤ 400 * 400 := Nat.mul_le_mul hsm hsm
  have hFl := fun i => fnd0_len g ((ordN g).take i)
  have hFm := fun x (hx : x ∈ fnd0 g (ordN g)) => fnd0_mem hx
  have hft := fun (i h : Nat) (hh : (ordN g)[i]? = some h) => fnd0_take (g := g) hh
  have hisd : ∀ h, isHd g h = (bkL g g.b.length).any fun p => decide (p.2 = (h : Int)) := fun _ => rfl
  have hR2 : findL g = withP (fnd0 g (ordN g)) (fnd0 g (ordN g)).length := rfl
  have hbd : ∀ x ∈ fnd0 g (ordN g), x.bd.length ≤ maxLen := fun x hx => by
    obtain ⟨h, _, _, rfl⟩ := hFm x hx
    exact hbm h
  have hF0 : fnd0 g [] = [] := by simp [fnd0]
  generalize findL g = R at *
  generalize ordN g = O at *
  generalize bkL g g.b.length = bk at *
  generalize isHd g = isH at *
  obtain ⟨F, hFd⟩ : ∃ F, fnd0 g = F := ⟨_, rfl⟩
  rw [hFd] at hFl hFm hft hR2 hbd hF0
  clear hFd
  have hOm : O.length ≤ maxLen := by omega
  have hbk : bk.length ≤ maxLen := by unfold maxLen; omega
  subst hR2
  refine af_of Try.func14 rfl (by kernel_rfl) (by simp [Try.ntmps14]) fun _ => ?_; simp [Try.f14, Ex.d_eq]
  refine aCall_of hB (by kernel_rfl) (by simp) ?_
  simp
  refine aCall_of hP (by kernel_rfl) (by simp) ?_
  simp
  refine aCall_of hR (by kernel_rfl) (by simp) ?_
  simp
  refine aCall_of hO (by kernel_rfl) (by simp) ?_
  simp
  refine aLoop_st (fun i : Nat => [(1, .ptr 0 0 0 0), (3, .own 1 (F (O.take i)).length 0 (F (O.take i)).length), (4, .d (.sl 2 (prs bk))), (5, .d (.sl 1 (dataT (mkT g.b.length (predF g))))), (6, .d (.sl 1 (blD (reachN g)))), (7, .d (.sl 1 (i64s (nI O)))), (8, aI .i64 i)])
    (fun i => [gB g, rlB (F (O.take i)).length (dEls (lps (F (O.take i))))]) (fun i => i ≤ O.length) (fun i => O.length - i) 0
    ((Sub.ghost 0 38 4).trans (Sub.slot (s := 3) (c := .own 1 0 0 0) (by simp; exact VLe.nil_own (k := ⟨0, true, 38, 4, []⟩) (by simp) rfl))) 2 (by omega) (by simp [cln_gB, hF0, lps]) (by simp [hF0]) (by omega) ?_
  rintro i hi K hK
  have hFl1 := hFl i
  rcases Nat.lt_or_ge i O.length with hlt | hge
  case inl =>
    obtain ⟨h, hh⟩ : ∃ h, O[i]? = some h := ⟨_, List.getElem?_eq_getElem hlt⟩
    have hh2 := (List.getElem?_eq_some_iff.1 hh).2
    have hst := hft i h hh
    have hhr := hOr h (List.mem_of_getElem? hh)
    simp [hlt]
    refine aLoop_st (fun k : Nat => [(1, .ptr 0 0 0 0), (3, .own 1 (F (O.take i)).length 0 (F (O.take i)).length), (4, .d (.sl 2 (prs bk))), (5, .d (.sl 1 (dataT (mkT g.b.length (predF g))))), (6, .d (.sl 1 (blD (reachN g)))), (7, .d (.sl 1 (i64s (nI O)))), (8, aI .i64 i), (9, aB ((bk.take k).any fun p => decide (p.2 = (h : Int)))), (10, aI .i64 k)])
      (fun _ => [gB g, rlB (F (O.take i)).length (dEls (lps (F (O.take i))))]) (fun k => k ≤ bk.length) (fun k => bk.length - k) 0 (Sub.refl _ _ _) 2 (by omega) (by simp [cln_gB]) (by simp) (by omega) ?_
    rintro k hk K2 hK2
    rcases Nat.lt_or_ge k bk.length with hklt | hkge
    case inr =>
      obtain rfl : k = bk.length := by omega
      rw [List.take_length, ← hisd]
      simp
      cases hd : isH h with
      | false =>
        rw [hd] at hst
        simp only [Bool.false_eq_true, if_false] at hst
        simp [succ_wrap hlt hOm]
        exact hK (i + 1) (by omega) (by omega) (Sub.refl _ _ _) 2 (by omega) (by simp [hst, cln_gB]) (by simp [hst])
      | true =>
        rw [hd] at hst
        simp only [if_true] at hst
        simp
        refine adraw2 11 [] (by kernel_rfl) (by kernel_rfl) (by kernel_rfl) (by kernel_rfl) (by kernel_rfl) ?_
        simp [hlt, hh, hh2]
        refine adC_of (hloop h hhr) (by kernel_rfl) trivial (by simp) (by simp) ?_
        simp
        refine aRaw_app byt_33 ?_
        have hF4 : (F (O.take i)).length ≤ 400 := by
          have : (O.take i).length ≤ O.length := by simp; omega
          omega
        simp
        refine ⟨by unfold maxLen; omega, by omega, ?_⟩
        simp [succ_wrap hlt hOm]
        refine hK (i + 1) (by omega) (by omega) (Sub.refl _ _ _) 2 (by omega) ?_ (by simp [hst])
        have hrow : dEls (lps (F (O.take i) ++ [lpOf g h])) = dEls (lps (F (O.take i))) ++ [[aI .i64 h, .d (.sl 1 (i64s (nI (bodyL g h)))), .d (.sl 1 (i64s (nI (exitL g h)))), aI .i64 (-1)]] := by simp [dEls, lps, Lp.d, lpOf]
        simp [hst, cln_gB, hrow]
    obtain ⟨p, hp⟩ : ∃ p, bk[k]? = some p := ⟨_, List.getElem?_eq_getElem hklt⟩
    have hp1 := prs_get hp
    have hp2 := (List.getElem?_eq_some_iff.1 hp1).2
    have hstp : (bk.take (k + 1)).any (fun p => decide (p.2 = (h : Int))) = ((bk.take k).any (fun p => decide (p.2 = (h : Int))) || decide (p.2 = (h : Int))) := by
      rw [List.take_add_one, hp, List.any_append]
      simp
    generalize (bk.take k).any (fun p => decide (p.2 = (h : Int))) = V at *
    simp [hklt]
    refine adraw [] (by kernel_rfl) (by kernel_rfl) (by kernel_rfl) (by kernel_rfl) ?_
    cases V with
    | true =>
      simp [succ_wrap hklt hbk]
      exact hK2 (k + 1) (by omega) (by omega) (Sub.refl _ _ _) 2 (by omega) (by simp [cln_gB]) (by simp [hstp])
    | false =>
      simp [hklt, hp1, hp2, hlt, hh, hh2, succ_wrap hklt hbk]
      exact hK2 (k + 1) (by omega) (by omega) (Sub.refl _ _ _) 2 (by omega) (by simp [cln_gB]) (by simp [hstp])
  obtain rfl : i = O.length := by omega
  rw [List.take_length] at hFl1 ⊢
  clear hK
  obtain ⟨L, hL⟩ : ∃ L, F O = L := ⟨_, rfl⟩
  rw [hL] at hFl1 hbd ⊢
  clear hFl hft hFm hL hF0
  obtain ⟨m, hm⟩ : ∃ m, L.length = m := ⟨_, rfl⟩
  have hm1 : m ≤ 400 := by omega
  have hmm : m ≤ maxLen := by omega
  simp [hm]
  refine aLoop_st (fun k : Nat => [(3, .own 1 m 0 m), (11, aI .i64 k)]) (fun k => [gB g, rlB m (dEls (lps (withP L k)))]) (fun k => k ≤ m) (fun k => m - k) 0 (Sub.refl _ _ _) 2 (by omega) (by simp [cln_gB, withP_zero]) (by simp) (by omega) ?_
  rintro k hk K2 hK2
  rcases Nat.lt_or_ge k m with hklt | hkge
  case inr =>
    obtain rfl : k = m := by omega
    have ht : (lps (withP L k)).take k = lps (withP L k) := List.take_of_length_le (by simp [hm])
    simp [hm, ht]
  obtain ⟨x, hx⟩ : ∃ x, L[k]? = some x := ⟨_, List.getElem?_eq_getElem (by omega)⟩
  have hPl : (withP L k).length = m := by simp [hm]
  have hPk := withP_get hx
  have hrow := lps_get hPk
  have hps := withP_succ hx
  rw [hm] at hps
  have hin := inL_congr (withP_bd L k) x.hd k m
  obtain ⟨W, hW⟩ : ∃ W, withP L k = W := ⟨_, rfl⟩
  have hWb : ∀ y ∈ W, y.bd.length ≤ maxLen := fun y hy => by
    obtain ⟨i, hi⟩ := List.getElem?_of_mem hy
    rw [← hW] at hi
    simp only [withP, List.getElem?_mapIdx, Option.map_eq_some_iff] at hi
    obtain ⟨z, hz, rfl⟩ := hi
    have := hbd z (List.mem_of_getElem? hz)
    split <;> exact this
  rw [hW] at hPl hPk hrow hps hin ⊢
  clear hW
  have hinner := r35inner_af W x.hd k (by omega) hWb
  rw [hPl, hin] at hinner
  have hg1 : (dEls (lps W))[k]? = some [aI .i64 x.hd, .d (.sl 1 (i64s x.bd)), .d (.sl 1 (i64s x.ex)), aI .i64 x.pa] := by simp [dEls, hrow]
  have ht : List.take m (dEls (lps W)) = dEls (lps W) := List.take_of_length_le (by simp [hPl])
  simp [hklt, hg1]
  refine aCall_ofs hinner (by kernel_rfl) (by simp [ht, hPl]) (by simp) ?_
  simp [hklt, hg1]
  have hset : (dEls (lps W)).set k [aI .i64 x.hd, .d (.sl 1 (i64s x.bd)), .d (.sl 1 (i64s x.ex)), aI .i64 (bV (inL L x.hd k m))] = dEls (lps (W.set k ⟨x.hd, x.bd, x.ex, bV (inL L x.hd k m)⟩)) := by
    rw [← lps_set]
    simp [dEls, List.map_set, Lp.d]
  simp [hset, succ_wrap hklt hmm]
  exact hK2 (k + 1) (by omega) (by omega) (Sub.refl _ _ _) 2 (by omega) (by simp [hps, cln_gB]) (by simp)
end Go.Proofs.Ytngjcmeclhlfeaa

/- The law LoopsFinds answers true. -/
namespace Go.Proofs.Ytngjcmeclhlfeaa
open Go.RowKit
theorem l35numbers_af (l : List Int) (hl : l.length ≤ maxLen) : AF Try.prog 15 [.d (.sl 1 (i64s l)), .d (.sl 1 (i64s l))] (aB true) := by
  refine af_of Try.func15 rfl (by kernel_rfl) (by simp [Try.ntmps15]) fun _ => ?_; simp [Try.f15, Ex.d_eq]
  refine aLoop_st (fun i : Nat => [(0, .d (.sl 1 (i64s l))), (1, .d (.sl 1 (i64s l))), (5, aI .i64 i)]) (fun _ => []) (fun i => i ≤ l.length) (fun i => l.length - i) 0 (Sub.refl _ _ _) 0 (by omega) (by simp) (by simp) (by omega) ?_
  rintro i hi K hK
  rcases Nat.lt_or_ge i l.length with hlt | hge
  case inr =>
    obtain rfl : i = l.length := by omega
    simp
  obtain ⟨a, ha⟩ : ∃ a, l[i]? = some a := ⟨_, List.getElem?_eq_getElem hlt⟩
  have ha2 := (List.getElem?_eq_some_iff.1 ha).2
  simp [hlt]
  refine adraw [] (by kernel_rfl) (by kernel_rfl) (by kernel_rfl) (by kernel_rfl) ?_
  simp [hlt, ha, ha2, succ_wrap hlt hl]
  exact hK (i + 1) (by omega) (by omega) (Sub.refl _ _ _) 0 (by omega) (by simp) (by simp)
set_option maxRecDepth 100000 in
theorem lawfinds35_af (g : Gr) : AF Try.prog 4 [grV g] (aB true) := by
  have hx := l35ex_af
  have hl := l35large_af g
  refine af_of Try.func4 rfl (by kernel_rfl) (by simp [Try.ntmps4]) fun _ => ?_; simp [Try.f4, Ex.d_eq]
  refine aCall_of hl (by kernel_rfl) (by simp) ?_
  cases hc : lrg35 g with
  | true =>
    simp
    refine aCall_of hx (by kernel_rfl) (by simp) ?_
    simp
  | false =>
    obtain ⟨hg, h30⟩ := lrg35_fit hc
    have hsm : g.b.length ≤ 400 := by omega
    have hF := lpfind_af g hg hsm
    have hF2 := r35find_af g hg hsm
    have h2 := ordN_len (edgOk g) (g := g)
    have hLl : (findL g).length ≤ 400 := by
      have h1 := fnd0_len g (ordN g)
      have h3 : (findL g).length = (fnd0 g (ordN g)).length := by unfold findL; simp
      omega
    have hLb : ∀ x ∈ findL g, x.bd.length ≤ maxLen ∧ x.ex.length ≤ maxLen := fun x hx => by
      have : ∃ y ∈ fnd0 g (ordN g), x.bd = y.bd ∧ x.ex = y.ex := by
        unfold findL at hx
        obtain ⟨i, hi⟩ := List.getElem?_of_mem hx
        simp only [withP, List.getElem?_mapIdx, Option.map_eq_some_iff] at hi
        obtain ⟨y, hy, rfl⟩ := hi
        refine ⟨y, List.mem_of_getElem? hy, ?_⟩
        split <;> exact ⟨rfl, rfl⟩
      obtain ⟨y, hy, e1, e2⟩ := this
      obtain ⟨h, _, _, rfl⟩ := fnd0_mem hy
      rw [e1, e2]
      have h4 := bodyL_len g h
      have h5 := exitL_len g h
      simp only [lpOf, List.length_map]
      unfold maxLen
      omega
    generalize findL g = L at *
    have hLm : L.length ≤ maxLen := by unfold maxLen; omega
    simp
    refine adraw [] (by kernel_rfl) (by kernel_rfl) (by kernel_rfl) (by kernel_rfl) ?_
    simp
    refine adC_of hF (by kernel_rfl) trivial (by simp) (by simp) ?_
    simp
    refine adC_of hF2 (by kernel_rfl) trivial (by simp) (by simp) ?_
    simp
    refine aLoop_st (fun i : Nat => [(1, .ptr 0 0 0 0), (3, .d (.sl 4 (lps L))), (4, .d (.sl 4 (lps L))), (5, aI .i64 i)]) (fun _ => [gB g]) (fun i => i ≤ L.length) (fun i => L.length - i) 0 (Sub.refl _ _ _) 1 (by omega) (by simp [cln_gB]) (by simp) (by omega) ?_
    rintro i hi K hK
    rcases Nat.lt_or_ge i L.length with hlt | hge
    case inr =>
      obtain rfl : i = L.length := by omega
      simp
      refine aCall_of hx (by kernel_rfl) (by simp) ?_
      simp
    obtain ⟨x, hxi⟩ : ∃ x, L[i]? = some x := ⟨_, List.getElem?_eq_getElem hlt⟩
    obtain ⟨hb1, hb2⟩ := hLb x (List.mem_of_getElem? hxi)
    have hr1 := lps_get hxi
    have hr2 := (List.getElem?_eq_some_iff.1 hr1).2
    simp [hlt]
    refine adraw [] (by kernel_rfl) (by kernel_rfl) (by kernel_rfl) (by kernel_rfl) ?_
    simp [hlt, hr1, hr2]
    refine adC_of (l35numbers_af x.bd hb1) (by kernel_rfl) trivial (by simp) (by simp) ?_
    simp [hlt, hr1, hr2]
    refine adC_of (l35numbers_af x.ex hb2) (by kernel_rfl) trivial (by simp) (by simp) ?_
    simp [succ_wrap hlt hLm]
    exact hK (i + 1) (by omega) (by omega) (Sub.refl _ _ _) 1 (by omega) (by simp [cln_gB]) (by simp)
end Go.Proofs.Ytngjcmeclhlfeaa
