/- Texts that the claim leans on, laid one behind the other: Zo, Zp, Zq, Zr, Zs, Zt, Zu, Zv. -/
import Derived.Test.YtagkfkhagjlmpaaGreatZZ
import Derived.Test.YtagkfkhagjlmpaaGreatZP
set_option linter.unusedSimpArgs false
set_option linter.unusedVariables false
set_option linter.unnecessarySimpa false
/- Contracts: the reference of layer 24: nearest, Tree, Dominates; of layer 35: leads, BackEdges. -/
namespace Go.Proofs.YtagkfkhagjlmpaaGreat
open Go.RowKit
theorem fold_take_nst {T : List (List Nat)} {S : List Nat} {i a : Nat} {b : Option Nat} (h : S[i]? = some a) : (S.take (i + 1)).foldl (nstp T) b = nstp T ((S.take i).foldl (nstp T) b) a := foldl_take (nstp T) S i a b h
theorem fold_some {T : List (List Nat)} {n : Nat} : ∀ (S : List Nat) (b : Option Nat), (∀ a ∈ S, a < n) → (∀ c, b = some c → c < n) → ∀ c, S.foldl (nstp T) b = some c → c < n
  | [], b, _, hb, c, hc => hb c hc
  | a :: S, b, hS, hb, c, hc => by
    rw [List.foldl_cons] at hc
    refine fold_some S _ (fun x hx => hS x (by simp [hx])) (fun d hd => ?_) c hc
    unfold nstp at hd
    split at hd
    · obtain rfl := Option.some.inj hd; exact hS _ (by simp)
    · split at hd
      · obtain rfl := Option.some.inj hd; exact hS _ (by simp)
      · obtain rfl := Option.some.inj hd; exact hb _ rfl
theorem r24nearest_af (T : List (List Nat)) (b : Nat) (hb : b < T.length) (hT : ∀ a ∈ rowN T b, a < T.length) (hl : T.length ≤ 1000) (hll : ∀ x, (rowN T x).length ≤ 1000) : AF Tryz.prog 112 [.d (.sl 1 (dataT T)), aI .i64 b] (aI .i64 (bV (nst T b))) := by
  have hr1 := dataT_get hb
  have hr2 := (List.getElem?_eq_some_iff.1 hr1).2
  have hSl := hll b
  have hnst : nst T b = (rowN T b).foldl (nstp T) none := rfl
  obtain ⟨S, hS⟩ : ∃ S, rowN T b = S := ⟨_, rfl⟩
  rw [hS] at hr1 hT hSl hnst
  simp only [hS] at hr2
  rw [hnst]
  have hm : S.length ≤ maxLen := by unfold maxLen; omega
  refine af_of Tryz.func112 rfl (by kernel_rfl) (by simp [Tryz.ntmps112]) fun _ => ?_; simp [Tryz.f112, Ex.d_eq]
  refine aLoop_st (fun i : Nat => [(0, .d (.sl 1 (dataT T))), (1, aI .i64 b), (5, aI .i64 (bV ((S.take i).foldl (nstp T) none))), (6, aI .i64 i)]) (fun _ => []) (fun i => i ≤ S.length) (fun i => S.length - i) 0 (Sub.refl _ _ _) 0 (by omega) (by simp) (by simp [bV]) (by omega) ?_
  rintro i hi K hK
  rcases Nat.lt_or_ge i S.length with hlt | hge
  case inr =>
    obtain rfl : i = S.length := by omega
    simp [hb, hr1, hr2]
  obtain ⟨a, ha⟩ : ∃ a, S[i]? = some a := ⟨_, List.getElem?_eq_getElem hlt⟩
  have ha2 := (List.getElem?_eq_some_iff.1 ha).2
  have haT := hT a (List.mem_of_getElem? ha)
  have hst := fold_take_nst (T := T) (b := none) ha
  have hbest := fold_some (T := T) (n := T.length) (S.take i) none (fun x hx => hT x (List.mem_of_mem_take hx)) (fun c hc => by cases hc)
  have hra1 := dataT_get haT
  have hra2 := (List.getElem?_eq_some_iff.1 hra1).2
  simp [hb, hr1, hr2, hlt, ha, ha2]
  generalize (S.take i).foldl (nstp T) none = bs at *
  cases bs with
  | none =>
    refine adraw [] (by kernel_rfl) (by kernel_rfl) (by kernel_rfl) (by kernel_rfl) ?_; simp [Ex.d_eq]
    simp [bV, succ_wrap hlt hm]
    exact hK (i + 1) (by omega) (by omega) (Sub.refl _ _ _) 0 (by omega) (by simp) (by simp [hst, nstp, bV])
  | some c =>
    have hc := hbest c rfl
    have hrc1 := dataT_get hc
    have hrc2 := (List.getElem?_eq_some_iff.1 hrc1).2
    refine adraw [] (by kernel_rfl) (by kernel_rfl) (by kernel_rfl) (by kernel_rfl) ?_; simp [Ex.d_eq]
    by_cases hlt2 : (rowN T c).length < (rowN T a).length
    · simp [bV, show ¬ (c : Int) < 0 by omega, hc, haT, hra1, hra2, hrc1, hrc2, hlt2, succ_wrap hlt hm]
      exact hK (i + 1) (by omega) (by omega) (Sub.refl _ _ _) 0 (by omega) (by simp) (by simp [hst, nstp, bV, hlt2])
    · simp [bV, show ¬ (c : Int) < 0 by omega, hc, haT, hra1, hra2, hrc1, hrc2, hlt2, succ_wrap hlt hm]
      exact hK (i + 1) (by omega) (by omega) (Sub.refl _ _ _) 0 (by omega) (by simp) (by simp [hst, nstp, bV, hlt2])
/-- The reference's tree is the program's. -/
theorem r24tree_af (g : Gr) (hg : GrFit g) (hsm : g.b.length ≤ 400) (o : Nat → Option Nat) (ho : 0 < g.b.length → TreeOk g o) : AF Tryz.prog 62 [grV g] (.d (.sl 1 (i64s (oI g.b.length o)))) := by
  have hs := r24strict_af g hg hsm
  obtain ⟨n, hn⟩ : ∃ n, g.b.length = n := ⟨_, rfl⟩
  have hTl : (sdT g).length = n := by simp [sdT, hn]
  have hrow : ∀ x, (rowN (sdT g) x).length ≤ 1000 := fun x => by
    by_cases hx : x < g.b.length
    · rw [sdT_row hx]; have := sdL_len g g.b.length x; omega
    · simp [rowN, List.getElem?_eq_none (show (sdT g).length ≤ x by omega)]
  have hnm : n ≤ maxLen := by unfold maxLen; omega
  rw [hn]
  refine af_of Tryz.func62 rfl (by kernel_rfl) (by simp [Tryz.ntmps62]) fun _ => ?_; simp [Tryz.f62, Ex.d_eq]
  refine aCall_of hs (by kernel_rfl) (by simp) ?_
  simp
  refine aLoop_st (fun i : Nat => [(3, .d (.sl 1 (dataT (sdT g)))), (4, .own 1 i 0 i), (5, aI .i64 i)]) (fun i => [gB g, nbk i ((oI n o).take i)]) (fun i => i ≤ n) (fun i => n - i) 0
    ((Sub.ghost 0 3 1).trans (Sub.slot (s := 4) (c := .own 1 0 0 0) (by simp; exact VLe.nil_own (k := ⟨0, true, 3, 1, []⟩) (by simp) rfl))) 2 (by omega) (by simp [cln_gB]) (by simp) (by omega) ?_
  rintro i hi K hK
  have hol : (oI n o).length = n := by simp [oI]
  rcases Nat.lt_or_ge i n with hlt | hge
  case inr =>
    obtain rfl : i = n := by omega
    have ht : (oI i o).take i = oI i o := List.take_of_length_le (by omega)
    have ht2 : List.take i (i64s (oI i o)) = i64s (oI i o) := List.take_of_length_le (by simp [hol])
    simp [hTl, ht, ht2, hol]
  have hc := r24nearest_af (sdT g) i (by omega) (fun a ha => by rw [sdT_row (by omega)] at ha; have := (sdL_mem.1 ha).1; omega) (by omega) hrow
  rw [nst_tree (by omega) (ho (by omega)) (by omega), ← oV_bV] at hc
  have hst : (oI n o).take (i + 1) = (oI n o).take i ++ [oV o i] := by
    rw [List.take_add_one, oI_get o hlt]
    rfl
  have hmin : min i n = i := by omega
  simp [hTl, hlt]
  refine aCall_of hc (by kernel_rfl) (by simp) ?_
  simp
  refine aRaw_app byt_49 ?_
  have ht2 : List.take i (i64s ((oI n o).take i)) = i64s ((oI n o).take i) := List.take_of_length_le (by simp; omega)
  simp [hol, hmin, ht2]
  refine ⟨by omega, by omega, ?_⟩
  simp [succ_wrap hlt hnm]
  exact hK (i + 1) (by omega) (by omega) (Sub.refl _ _ _) 2 (by omega) (by simp [hst, cln_gB]) (by simp)
theorem r24dom_w (n : Nat) (o : Nat → Option Nat) (μ : Nat → Nat) (hμ : ∀ x y, o x = some y → y < n ∧ μ y < μ x) (a b : Nat) (ha : a < n) (hb : b < n) (hbn : μ b ≤ n) (hnm : n ≤ 1000000) (r : Bool) (hr : r = true ↔ Anc o b a) :
    AF Tryz.prog 65 [.d (.sl 1 (i64s (oI n o))), aI .i64 a, aI .i64 b] (aB r) := by
  have hnm2 : n + 1 ≤ maxLen := by unfold maxLen; omega
  have hlen : (oI n o).length = n := by simp [oI]
  have a1 : ¬ (a : Int) < 0 := by omega
  have a2 : ¬ (n : Int) ≤ (a : Int) := by omega
  refine af_of Tryz.func65 rfl (by kernel_rfl) (by simp [Tryz.ntmps65]) fun _ => ?_; simp [Tryz.f65, Ex.d_eq]
  simp [a1, a2, hlen]
  refine aLoop_st (α := Nat × Option Nat) (fun q => [(0, .d (.sl 1 (i64s (oI n o)))), (1, aI .i64 a), (2, aI .i64 (bV q.2)), (7, aI .i64 q.1)]) (fun _ => []) (fun q => q.1 ≤ n + 1 ∧ (∀ y, q.2 = some y → y < n ∧ μ y + q.1 ≤ n) ∧ (r = true ↔ ∃ y, q.2 = some y ∧ Anc o y a)) (fun q => n + 1 - q.1) (0, some b) (Sub.refl _ _ _) 0 (by omega) (by simp) (by simp [bV])
    ⟨by simp, fun y hy => by simp at hy; subst hy; exact ⟨hb, by simpa using hbn⟩, by simpa using hr⟩ ?_
  rintro ⟨i, q⟩ ⟨hi, hq, hrq⟩ K hK
  simp only at hi hq hrq hK ⊢
  cases q with
  | none =>
    have : r = false := by
      cases r with
      | false => rfl
      | true => obtain ⟨y, hy, _⟩ := hrq.1 rfl; cases hy
    subst this
    by_cases hin : i ≤ n
    · simp [hlen, bV, show (i : Int) ≤ (n : Int) by omega]
    · simp [hlen, bV, show ¬ (i : Int) ≤ (n : Int) by omega]
  | some y =>
    obtain ⟨hy, hμy⟩ := hq y rfl
    have hry : r = true ↔ Anc o y a := hrq.trans ⟨fun ⟨z, hz, h⟩ => by cases hz; exact h, fun h => ⟨y, rfl, h⟩⟩
    have hv := oV_get o hy
    rw [oV_bV] at hv
    have hv2 := (List.getElem?_eq_some_iff.1 hv).2
    have y2 : (y : Int) < (n : Int) := by omega
    have y3 : (i : Int) ≤ (n : Int) := by omega
    have hw : IntKind.i64.wrap ((i : Int) + 1) = ((i + 1 : Nat) : Int) := succ_wrap (i := i) (n := n + 1) (by omega) hnm2
    have hbv : bV (some y) = (y : Int) := rfl
    by_cases hay : a = y
    · subst hay
      have : r = true := hry.2 (.refl _)
      subst this
      simp [hlen, hbv, y2, y3]
    · have hay2 : ¬ (a : Int) = (y : Int) := by omega
      simp [hlen, hbv, y2, y3, hay2, hv, hv2, hy, hw]
      refine hK (i + 1, o y) ⟨by simp only; omega, fun z hz => ?_, hry.trans ?_⟩ (by simp only; omega) (Sub.refl _ _ _) 0 (by omega) (by simp) (by simp)
      · obtain ⟨h1, h2⟩ := hμ y z hz
        exact ⟨h1, by simp only; omega⟩
      · constructor
        · intro h
          cases hoy : o y with
          | none => exact absurd (h.none hoy) hay
          | some z => exact ⟨z, rfl, h.tail (fun h2 => hay h2.symm) hoy⟩
        · rintro ⟨z, hz, h⟩
          exact .step hz h
theorem r24dom_af (g : Gr) {o : Nat → Option Nat} (h0 : 0 < g.b.length) (hsm : g.b.length ≤ 400) (ho : TreeOk g o) {a b : Nat} (ha : a < g.b.length) (hb : b < g.b.length) (hr : (dgN g).rc b = true) :
    AF Tryz.prog 65 [.d (.sl 1 (i64s (oI g.b.length o))), aI .i64 a, aI .i64 b] (aB (domB g a b)) := by
  obtain ⟨h1, h2⟩ := tree_mu h0 ho
  exact r24dom_w g.b.length o (dgN g).pl h1 a b ha hb (h2 b) (by omega) _ (by rw [tree_dom h0 ho hr])
theorem r35leads_af (T : List (List Nat)) (a b : Nat) (hb : b < T.length) (hl : (rowN T b).length ≤ maxLen) : AF Tryz.prog 64 [.d (.sl 1 (dataT T)), aI .i64 a, aI .i64 b] (aB (decide (a ∈ rowN T b))) := by
  have h1 := dataT_get hb
  have h2 := (List.getElem?_eq_some_iff.1 h1).2
  refine af_of Tryz.func64 rfl (by kernel_rfl) (by simp [Tryz.ntmps64]) fun _ => ?_; simp [Tryz.f64, Ex.d_eq]
  simp [hb, h1, h2]
  refine aCall_of (r35containsN_af (rowN T b) a hl) (by kernel_rfl) (by simp) ?_
  simp
theorem bkRow_eq (g : Gr) (a : Nat) : bkRow g a = (List.range g.b.length).filter fun b => (dgN g).rc a && ((edgN g a).contains b && domB g b a) := by
  unfold bkRow succR
  by_cases h : (dgN g).rc a = true
  · rw [if_pos h, List.filter_filter]
    congr 1
    funext b
    rw [h, Bool.true_and, Bool.and_comm]
  · rw [if_neg h]
    symm
    rw [List.filter_eq_nil_iff]
    intro b _
    simp [h]
end Go.Proofs.YtagkfkhagjlmpaaGreat

/- Contracts: the reference's Reducible; both answer the same. -/
namespace Go.Proofs.YtagkfkhagjlmpaaGreat
open Go.RowKit
/-- Each of these goes on to one of these. -/
def SuccSt (n : Nat) (R : Nat → Nat → Prop) (X : Nat → Prop) : Prop := ∀ b, X b → b < n ∧ ∃ m, X m ∧ R b m
open Classical in
theorem stuck_turn {n : Nat} {R : Nat → Nat → Prop} : ∀ (k : Nat) (X : Nat → Prop), SuccSt n R X → (∃ b, X b) → ((List.range n).filter fun b => decide (X b)).length ≤ k → ∃ Y : Nat → Prop, SuccSt n (fun a b => R b a) Y ∧ ∃ b, Y b
  | 0, X, hX, ⟨b, hb⟩, hk => by
    exfalso
    have : b ∈ (List.range n).filter fun b => decide (X b) := by simp [(hX b hb).1, hb]
    have h0 : ((List.range n).filter fun b => decide (X b)) = [] := List.length_eq_zero_iff.1 (by omega)
    rw [h0] at this
    cases this
  | k + 1, X, hX, ⟨b0, hb0⟩, hk => by
    by_cases hno : ∃ b, X b ∧ ∀ m, X m → ¬ R m b
    · obtain ⟨b, hb, hm⟩ := hno
      refine stuck_turn k (fun x => X x ∧ x ≠ b) (fun x hx => ?_) ?_ ?_
      · obtain ⟨h1, m, h2, h3⟩ := hX x hx.1
        exact ⟨h1, m, ⟨h2, fun e => hm x hx.1 (e ▸ h3)⟩, h3⟩
      · obtain ⟨_, m, h2, h3⟩ := hX b hb
        exact ⟨m, h2, fun e => hm b hb (e ▸ h3)⟩
      · have := filter_lt (fun x => decide (X x)) (fun x => decide (X x ∧ x ≠ b)) (fun x hx => by simp at hx ⊢; exact hx.1) b (by simpa using hb) (by simp) (List.range n) (by simpa using (hX b hb).1)
        have e : (fun x => @decide (X x ∧ x ≠ b) (propDecidable _)) = fun x => @decide (X x ∧ x ≠ b) instDecidableAnd := by funext x; congr
        rw [e]
        exact Nat.le_of_lt_succ (Nat.lt_of_lt_of_le this hk)
    · refine ⟨X, fun b hb => ⟨(hX b hb).1, ?_⟩, b0, hb0⟩
      exact Classical.byContradiction fun h => hno ⟨b, hb, fun m hm hR => h ⟨m, hm, hR⟩⟩
/-- An edge from what is reached that is no back edge. -/
def NB (g : Gr) (p b : Nat) : Prop := (dgN g).rc p = true ∧ b ∈ edgN g p ∧ domB g b p = false
theorem edge_rc {g : Gr} {p b : Nat} (hp : (dgN g).rc p = true) (hb : b ∈ edgN g p) : (dgN g).rc b = true := by
  have hpn := dgN_lt (edgOk g) hp
  have h0 : 0 < g.b.length := by omega
  exact (rc_iff h0 b).2 (.step ((rc_iff h0 p).1 hp) hb trivial)
theorem bkL_mem {g : Gr} {a b : Nat} : ∀ {n : Nat}, ((a : Int), (b : Int)) ∈ bkL g n ↔ a < n ∧ b ∈ bkRow g a
  | 0 => by simp [bkL]
  | n + 1 => by
    simp only [bkL, List.mem_append, bkL_mem (n := n), List.mem_map, Prod.mk.injEq]
    constructor
    · rintro (⟨h1, h2⟩ | ⟨x, h1, h2, h3⟩)
      · exact ⟨by omega, h2⟩
      · obtain rfl : n = a := by omega
        obtain rfl : x = b := by omega
        exact ⟨by omega, h1⟩
    · rintro ⟨h1, h2⟩
      rcases Nat.lt_or_ge a n with h | h
      · exact .inl ⟨h, h2⟩
      · obtain rfl : a = n := by omega
        exact .inr ⟨b, h2, rfl, rfl⟩
theorem bkRow_mem {g : Gr} {a b : Nat} : b ∈ bkRow g a ↔ (dgN g).rc a = true ∧ b < g.b.length ∧ b ∈ edgN g a ∧ domB g b a = true := by
  rw [bkRow_eq]
  simp
  constructor
  · rintro ⟨h1, h2, h3, h4⟩; exact ⟨h2, h1, h3, h4⟩
  · rintro ⟨h1, h2, h3, h4⟩; exact ⟨h2, h1, h3, h4⟩
theorem stuck_iff (g : Gr) (X : Nat → Prop) : StuckS (succT g) (bkL g g.b.length) (reachN g) X ↔ SuccSt g.b.length (NB g) X := by
  constructor
  · intro h b hb
    obtain ⟨h1, m, h2, h3, h4⟩ := h b hb
    have hbn : b < g.b.length := by have := (List.getElem?_eq_some_iff.1 h1).1; simpa using this
    rw [reachN_get hbn] at h1
    have hrc : (dgN g).rc b = true := Option.some.inj h1
    rw [show rowN (succT g) b = succR g g.b.length b from mkT_row _ hbn, succR_mem] at h2
    refine ⟨hbn, m, h3, hrc, h2.2, ?_⟩
    cases hd : domB g m b with
    | false => rfl
    | true => exact absurd (bkL_mem.2 ⟨hbn, bkRow_mem.2 ⟨hrc, h2.1, h2.2, hd⟩⟩) h4
  · intro h b hb
    obtain ⟨h1, m, h2, h3, h4, h5⟩ := h b hb
    refine ⟨by rw [reachN_get h1, h3], m, ?_, h2, fun hk => ?_⟩
    · rw [show rowN (succT g) b = succR g g.b.length b from mkT_row _ h1, succR_mem]
      exact ⟨dgN_lt (edgOk g) (edge_rc h3 h4), h4⟩
    · have := (bkRow_mem.1 (bkL_mem.1 hk).2).2.2.2
      rw [h5] at this
      cases this
theorem stuck_both (g : Gr) : (∀ X, StuckS (succT g) (bkL g g.b.length) (reachN g) X → ∀ b, ¬ X b) ↔ ∀ Y, SuccSt g.b.length (fun b p => NB g p b) Y → ∀ b, ¬ Y b := by
  constructor
  · intro h Y hY b hb
    obtain ⟨X, hX, c, hc⟩ := stuck_turn _ Y hY ⟨b, hb⟩ (Nat.le_refl _)
    exact h X ((stuck_iff g X).2 hX) c hc
  · intro h X hX b hb
    obtain ⟨Y, hY, c, hc⟩ := stuck_turn _ X ((stuck_iff g X).1 hX) ⟨b, hb⟩ (Nat.le_refl _)
    exact h Y hY c hc
/-- What stands in the middle. -/
structure GMid (g : Gr) (G : List Bool) : Prop where
  len : G.length = g.b.length
  keep : ∀ Y, SuccSt g.b.length (fun b p => NB g p b) Y → ∀ b, Y b → G[b]? = some false
theorem lpred_one (g : Gr) (hg : GrFit g) (hsm : g.b.length ≤ 400) : ∃ r : Bool, (r = true ↔ ∀ Y, SuccSt g.b.length (fun b p => NB g p b) Y → ∀ b, ¬ Y b) ∧ AF Tryz.prog 13 [grV g] (aB r) := by
  have hbl := bkL_len g g.b.length
  have h1 : g.b.length * g.b.length ≤ 400 * 400 := Nat.mul_le_mul hsm hsm
  obtain ⟨r, hr, ha⟩ := lpred_ex g hg (bkL g g.b.length) (reachN g) (succT g) (by simp [succT]) (by unfold maxLen; omega) (by simp; omega) (lpback_af g hg hsm) (dmreach_af revOk g hg (edgOk g)) (lpedges_af g hg (edgOk g) hsm)
  exact ⟨r, hr.trans (stuck_both g), ha⟩
end Go.Proofs.YtagkfkhagjlmpaaGreat

/- Plain: natural loops: their blocks, their exits; sorted lists of numbers. No program in sight. -/
namespace Go.Proofs.YtagkfkhagjlmpaaGreat
/-- The blocks of the natural loop of h. -/
def InBody (g : Gr) (h x : Nat) : Prop := x = h ∨ ((dgN g).rc x = true ∧ ∃ a, h ∈ bkRow g a ∧ Pt (edgN g) (fun k => k ≠ h) x a)
open Classical in
noncomputable def bodyL (g : Gr) (h : Nat) : List Nat := (List.range g.b.length).filter fun x => decide (InBody g h x)
theorem bodyL_mem {g : Gr} {h x : Nat} : x ∈ bodyL g h ↔ x < g.b.length ∧ InBody g h x := by simp [bodyL]
theorem bodyL_len (g : Gr) (h : Nat) : (bodyL g h).length ≤ g.b.length := by
  have := List.length_filter_le (fun x => @decide (InBody g h x) (Classical.propDecidable _)) (List.range g.b.length)
  simpa [bodyL] using this
theorem InBody.rc {g : Gr} {h x : Nat} (hh : (dgN g).rc h = true) (hx : InBody g h x) : (dgN g).rc x = true := by
  rcases hx with rfl | ⟨h1, _⟩
  · exact hh
  · exact h1
theorem bkRow_rc {g : Gr} {a h : Nat} (hb : h ∈ bkRow g a) : (dgN g).rc a = true ∧ (dgN g).rc h = true := by
  obtain ⟨h1, h2, h3, h4⟩ := bkRow_mem.1 hb
  exact ⟨h1, edge_rc h1 h3⟩
/-- A predecessor of a block of the loop, but of its head, is in the loop. -/
theorem InBody.pred {g : Gr} {h x p : Nat} (hx : InBody g h x) (hxh : x ≠ h) (hp : (dgN g).rc p = true) (he : x ∈ edgN g p) : InBody g h p := by
  rcases hx with rfl | ⟨_, a, h1, h2⟩
  · exact absurd rfl hxh
  · by_cases hph : p = h
    · exact .inl hph
    · exact .inr ⟨hp, a, h1, Pt.cons hph he h2⟩
theorem InBody.src {g : Gr} {h a : Nat} (hb : h ∈ bkRow g a) : InBody g h a := by
  by_cases ha : a = h
  · exact .inl ha
  · exact .inr ⟨(bkRow_rc hb).1, a, hb, .refl ha⟩
/-- What holds the head and the sources, and is closed, holds the loop. -/
theorem body_least {g : Gr} {h : Nat} {S : Nat → Prop} (h1 : S h) (h2 : ∀ a, h ∈ bkRow g a → S a) (h3 : ∀ x p, S x → x ≠ h → (dgN g).rc p = true → x ∈ edgN g p → S p) {x : Nat} (hx : InBody g h x) : S x := by
  rcases hx with rfl | ⟨hr, a, hb, hp⟩
  · exact h1
  · have ha := h2 a hb
    have key : ∀ {x a : Nat}, Pt (edgN g) (fun k => k ≠ h) x a → (dgN g).rc x = true → S a → S x := by
      intro x a hp
      induction hp with
      | refl _ => exact fun _ h => h
      | @step b c hb h5 h6 ih =>
        intro hr hc
        have hrb : (dgN g).rc b = true := by
          have h0 : 0 < g.b.length := by have := dgN_lt (edgOk g) hr; omega
          exact (rc_iff h0 b).2 (Pt.trans ((rc_iff h0 x).1 hr) (hb.mono fun _ _ => trivial))
        exact ih hr (h3 c b hc h6 hrb h5)
    exact key hp hr ha
/-! ### ascending lists -/
theorem nI_inj {l m : List Nat} (h : nI l = nI m) : l = m := by
  have := congrArg (List.map Int.toNat) h
  simpa [nI, List.map_map, Function.comp_def] using this
theorem srt_pair (L : List Int) : (srt L).Pairwise fun a b => a ≤ b := by
  have hp : (srt L).Pairwise fun a b => (decide (a ≤ b)) = true := List.pairwise_mergeSort (fun a b c h1 h2 => by simp at *; omega) (fun a b => by simp; omega) _
  exact hp.imp fun h => by simpa using h
theorem srt_mem {L : List Int} {v : Int} : v ∈ srt L ↔ v ∈ L := by simp [srt]
theorem srt_nodup {L : List Int} (h : L.Nodup) : Asc (srt L) := by
  have hp : (srt L).Perm L := List.mergeSort_perm L _
  have hn : (srt L).Nodup := hp.nodup_iff.2 h
  have h1 := srt_pair L
  unfold Asc
  rw [List.pairwise_iff_getElem] at h1 ⊢
  intro i j hi hj hij
  have h2 := h1 i j hi hj hij
  have h3 : (srt L)[i] ≠ (srt L)[j] := fun e => by
    have := (List.getElem_inj hn).1 e
    omega
  omega
/-- Sorted and made one: ascending, each once. -/
theorem compact_srt (L : List Int) (M : List Int) (hM : Asc M) (hm : ∀ v, v ∈ M ↔ v ∈ L) : Lib.compact (srt L) = M ∧ M.length ≤ L.length := by
  have hp := srt_pair L
  have hmem : ∀ v, v ∈ srt L ↔ v ∈ L := fun v => srt_mem
  have hlen := srt_len L
  obtain ⟨S, hS⟩ : ∃ S, srt L = S := ⟨_, rfl⟩
  rw [hS] at hp hmem hlen ⊢
  have hs : ∀ (i j : Nat), i < j → j < S.toArray.size → S.toArray[i]! ≤ S.toArray[j]! := fun i j hij hj => by
    have hj' : j < S.length := by simpa using hj
    have := List.pairwise_iff_getElem.1 hp i j (by omega) hj' hij
    simpa [getElem!_pos, hj', show i < S.length by omega] using this
  obtain ⟨h1, h2, h3⟩ := compact_sorted hs S.length (by simp)
  have he : Lib.compact S = M := by
    refine asc_ext h1 hM fun v => ?_
    rw [hm, ← hmem]
    show v ∈ Lib.compactUpTo S.toArray S.length ↔ _
    rw [h2, List.mem_iff_getElem]
    constructor
    · rintro ⟨j, hj, e⟩
      exact ⟨j, hj, by simpa [getElem!_pos, hj] using e⟩
    · rintro ⟨j, hj, e⟩
      exact ⟨j, hj, by simpa [getElem!_pos, hj] using e⟩
  refine ⟨he, ?_⟩
  rw [← he, ← hlen]
  exact h3
/-! ### the search for a loop's blocks -/
/-- What stands in the middle of the search: the blocks found, those to be looked at. -/
structure BMid (g : Gr) (h : Nat) (F W : List Nat) : Prop where
  nd : F.Nodup
  each : ∀ x ∈ F, x < g.b.length ∧ InBody g h x
  hd : h ∈ F
  w : ∀ x ∈ W, x < g.b.length ∧ ((dgN g).rc x = true → InBody g h x)
  cl : ∀ x p, x ∈ F → x ≠ h → (dgN g).rc p = true → x ∈ edgN g p → p ∈ F ∨ p ∈ W
  sr : ∀ a, h ∈ bkRow g a → a ∈ F ∨ a ∈ W
theorem BMid.len {g : Gr} {h : Nat} {F W : List Nat} (m : BMid g h F W) : F.length ≤ g.b.length := nodup_len m.nd fun x hx => (m.each x hx).1
theorem BMid.done {g : Gr} {h : Nat} {F : List Nat} (m : BMid g h F []) : ∀ x, x ∈ F ↔ x ∈ bodyL g h := by
  intro x
  rw [bodyL_mem]
  refine ⟨m.each x, fun hx => ?_⟩
  refine body_least (S := fun x => x ∈ F) m.hd (fun a ha => ?_) (fun y p hy hyh hr he => ?_) hx.2
  · simpa using m.sr a ha
  · simpa using m.cl y p hy hyh hr he
/-- A block that is known already, or that is not reached, is dropped. -/
theorem BMid.drop {g : Gr} {h b : Nat} {F W : List Nat} (m : BMid g h F (W ++ [b])) (hb : b ∈ F ∨ (dgN g).rc b = false) : BMid g h F W := by
  refine ⟨m.nd, m.each, m.hd, fun x hx => m.w x (List.mem_append_left _ hx), fun x p hx hxh hr he => ?_, fun a ha => ?_⟩
  · rcases m.cl x p hx hxh hr he with h1 | h1
    · exact .inl h1
    · rcases List.mem_append.1 h1 with h1 | h1
      · exact .inr h1
      · simp at h1
        subst h1
        rcases hb with hb | hb
        · exact .inl hb
        · rw [hb] at hr; cases hr
  · rcases m.sr a ha with h1 | h1
    · exact .inl h1
    · rcases List.mem_append.1 h1 with h1 | h1
      · exact .inr h1
      · simp at h1
        subst h1
        rcases hb with hb | hb
        · exact .inl hb
        · rw [(bkRow_rc ha).1] at hb; cases hb
theorem BMid.take {g : Gr} {h b : Nat} {F W : List Nat} (m : BMid g h F (W ++ [b])) (hb : b ∉ F) (hr : (dgN g).rc b = true) : BMid g h (F ++ [b]) (W ++ predF g b) := by
  obtain ⟨hbn, hbb⟩ := m.w b (by simp)
  have hbb := hbb hr
  have hbh : b ≠ h := fun e => hb (e ▸ m.hd)
  refine ⟨?_, fun x hx => ?_, List.mem_append_left _ m.hd, fun x hx => ?_, fun x p hx hxh hr' he => ?_, fun a ha => ?_⟩
  · rw [List.nodup_append]
    exact ⟨m.nd, by simp, fun a ha c hc => by simp at hc; subst hc; exact fun e => hb (e ▸ ha)⟩
  · rcases List.mem_append.1 hx with hx | hx
    · exact m.each x hx
    · simp at hx; subst hx; exact ⟨hbn, hbb⟩
  · rcases List.mem_append.1 hx with hx | hx
    · exact m.w x (List.mem_append_left _ hx)
    · obtain ⟨h1, h2⟩ := predF_mem.1 hx
      exact ⟨h1, fun h3 => hbb.pred hbh h3 h2⟩
  · rcases List.mem_append.1 hx with hx | hx
    · rcases m.cl x p hx hxh hr' he with h1 | h1
      · exact .inl (List.mem_append_left _ h1)
      · rcases List.mem_append.1 h1 with h1 | h1
        · exact .inr (List.mem_append_left _ h1)
        · simp at h1; subst h1; exact .inl (by simp)
    · simp at hx
      subst hx
      exact .inr (List.mem_append_right _ (predF_mem.2 ⟨dgN_lt (edgOk g) hr', he⟩))
  · rcases m.sr a ha with h1 | h1
    · exact .inl (List.mem_append_left _ h1)
    · rcases List.mem_append.1 h1 with h1 | h1
      · exact .inr (List.mem_append_left _ h1)
      · simp at h1; subst h1; exact .inl (by simp)
/-! ### exits -/
open Classical in
noncomputable def exitL (g : Gr) (h : Nat) : List Nat := (List.range g.b.length).filter fun x => decide (x ∉ bodyL g h ∧ ∃ b ∈ bodyL g h, x ∈ edgN g b)
theorem exitL_mem {g : Gr} {h x : Nat} : x ∈ exitL g h ↔ x < g.b.length ∧ x ∉ bodyL g h ∧ ∃ b ∈ bodyL g h, x ∈ edgN g b := by simp [exitL]
theorem bodyL_asc (g : Gr) (h : Nat) : Asc (nI (bodyL g h)) := asc_range _ _
theorem exitL_asc (g : Gr) (h : Nat) : Asc (nI (exitL g h)) := asc_range _ _
theorem exitL_len (g : Gr) (h : Nat) : (exitL g h).length ≤ g.b.length := by
  have := List.length_filter_le (fun x => @decide (x ∉ bodyL g h ∧ ∃ b ∈ bodyL g h, x ∈ edgN g b) (Classical.propDecidable _)) (List.range g.b.length)
  simpa [exitL] using this
end Go.Proofs.YtagkfkhagjlmpaaGreat

/- Contracts: loops.body. -/
namespace Go.Proofs.YtagkfkhagjlmpaaGreat
open Go.RowKit
/-- Numbers as a set's entries. -/
def entS (F : List Nat) : List (Nat × Int × Bool) := F.mapIdx fun (i x : Nat) => (i, ((x : Nat) : Int), true)
theorem entS_app (F : List Nat) (b : Nat) : entS (F ++ [b]) = entS F ++ [(F.length, (b : Int), true)] := by simp [entS, List.mapIdx_append]
@[simp] theorem entS_len (F : List Nat) : (entS F).length = F.length := by simp [entS]
theorem entS_mem {F : List Nat} {p : Nat × Int × Bool} (h : p ∈ entS F) : ∃ x ∈ F, p.2 = ((x : Int), true) := by
  simp only [entS, List.mem_mapIdx] at h
  obtain ⟨i, hi, rfl⟩ := h
  exact ⟨F[i], List.getElem_mem hi, rfl⟩
theorem entS_has {F : List Nat} {x : Nat} (h : x ∈ F) : ∃ p ∈ entS F, p.2.1 = (x : Int) := by
  obtain ⟨i, hi, rfl⟩ := List.getElem_of_mem h
  exact ⟨(i, (F[i] : Int), true), List.mem_mapIdx.2 ⟨i, hi, rfl⟩, rfl⟩
theorem entS_keys (F : List Nat) : keysS (entS F) = nI F := by
  apply List.ext_getElem?
  intro i
  simp only [keysS, entS, nI, List.getElem?_map, List.getElem?_mapIdx]
  cases F[i]? <;> rfl
theorem entS_ok' : ∀ (n : Nat) {F : List Nat}, F.length = n → F.Nodup → SetOk F.length (entS F)
  | 0, F, hl, _ => by
    obtain rfl := List.length_eq_zero_iff.1 hl
    simp [entS, SetOk]
  | n + 1, F, hl, h => by
    rcases List.eq_nil_or_concat F with rfl | ⟨F', b, hF⟩
    · simp at hl
    · rw [List.concat_eq_append] at hF
      subst hF
      rw [List.nodup_append] at h
      rw [entS_app, List.length_append]
      refine setOk_add (entS_ok' n (by simpa using hl) h.1) fun x hx hk => ?_
      obtain ⟨y, hy, he⟩ := entS_mem hx
      rw [he] at hk
      simp at hk
      have : y = b := by omega
      exact h.2.2 y hy b (by simp) this
theorem entS_ok {F : List Nat} (h : F.Nodup) : SetOk F.length (entS F) := entS_ok' _ rfl h
theorem entS_in {F : List Nat} (h : F.Nodup) (x : Nat) : inS (entS F) (x : Int) = decide (x ∈ F) := by
  rw [Bool.eq_iff_iff, decide_eq_true_eq, inS_iff (entS_ok h) (fun p hp => by obtain ⟨y, _, he⟩ := entS_mem hp; rw [he])]
  constructor
  · rintro ⟨p, hp, hk⟩
    obtain ⟨y, hy, he⟩ := entS_mem hp
    rw [he] at hk
    simp at hk
    have : y = x := by omega
    exact this ▸ hy
  · intro hx; exact entS_has hx
theorem entS_new {F : List Nat} {b : Nat} (h : b ∉ F) : ∀ x ∈ entS F, x.2.1 ≠ (b : Int) := fun x hx hk => by
  obtain ⟨y, hy, he⟩ := entS_mem hx
  rw [he] at hk
  simp at hk
  have : y = b := by omega
  exact h (this ▸ hy)
theorem bkL_nat {g : Gr} {p : Int × Int} : ∀ {n : Nat}, p ∈ bkL g n → ∃ a b : Nat, p = ((a : Int), (b : Int)) ∧ a < n ∧ b ∈ bkRow g a
  | 0, h => by simp [bkL] at h
  | n + 1, h => by
    simp only [bkL, List.mem_append, List.mem_map] at h
    rcases h with h | ⟨b, hb, rfl⟩
    · obtain ⟨a, b, h1, h2, h3⟩ := bkL_nat h
      exact ⟨a, b, h1, by omega, h3⟩
    · exact ⟨n, b, rfl, by omega, hb⟩
/-- The sources of edges back to h. -/
def srcL (l : List (Int × Int)) (h : Nat) : List Nat := (l.filter fun p => decide (p.2 = (h : Int))).map fun p => p.1.toNat
theorem srcL_mem {g : Gr} {h a : Nat} : a ∈ srcL (bkL g g.b.length) h ↔ a < g.b.length ∧ h ∈ bkRow g a := by
  unfold srcL
  simp only [List.mem_map, List.mem_filter, decide_eq_true_eq]
  constructor
  · rintro ⟨p, ⟨hp, hk⟩, rfl⟩
    obtain ⟨x, y, rfl, h1, h2⟩ := bkL_nat hp
    simp at hk
    have : y = h := by omega
    subst this
    exact ⟨h1, h2⟩
  · rintro ⟨h1, h2⟩
    exact ⟨((a : Int), (h : Int)), ⟨bkL_mem.2 ⟨h1, h2⟩, rfl⟩, rfl⟩
theorem srcL_take {l : List (Int × Int)} {h j : Nat} {p : Int × Int} (hp : l[j]? = some p) : srcL (l.take (j + 1)) h = if p.2 = (h : Int) then srcL (l.take j) h ++ [p.1.toNat] else srcL (l.take j) h := by
  unfold srcL
  rw [List.take_add_one, hp, List.filter_append, List.map_append]
  by_cases hh : p.2 = (h : Int)
  · simp [hh]
  · simp [hh]
theorem srcL_len (l : List (Int × Int)) (h : Nat) : (srcL l h).length ≤ l.length := by
  unfold srcL
  rw [List.length_map]
  exact List.length_filter_le _ _
@[simp] theorem msB_cln (m v c : Nat) (L : List (Nat × Int × Bool)) : clnE m (msB v c L).els = (msB v c L).els := congrArg Blk.els (cln_msB m v c L)
theorem wf_small {x : Nat} (h : x < 1000000) : (Lit.int .i64 (x : Int)).wf = true := by
  simp [Lit.wf, IntKind.min, IntKind.max, IntKind.signed, IntKind.bits]
  omega
set_option maxRecDepth 100000 in
theorem lpbody_af (g : Gr) (hg : GrFit g) (hsm : g.b.length ≤ 400) (h : Nat) (hh : (dgN g).rc h = true) :
    AF Tryz.prog 49 [grV g, aI .i64 h, .d (.sl 2 (prs (bkL g g.b.length)))] (.d (.sl 1 (i64s (nI (bodyL g h))))) := by
  have hgl : g.b.length ≤ maxLen := by unfold maxLen; omega
  have hR := dmreach_af revOk g hg (edgOk g)
  have hP := dmpreds_af g hg (edgOk g) hsm
  rw [dataP_pred g (by have := (turn_keep hg (List.range g.b.length) (List.replicate g.b.length []) 0 (by simp)).1; simpa [turnN] using this)] at hP
  have u56 := Tryz.underlying75
  have u3 := Tryz.underlying3
  have hhn := dgN_lt (edgOk g) hh
  have hbl := bkL_len g g.b.length
  have hbl2 : g.b.length * g.b.length ≤ 400 * 400 := Nat.mul_le_mul hsm hsm
  have hsrc : ∀ a, a ∈ srcL (bkL g g.b.length) h ↔ a < g.b.length ∧ h ∈ bkRow g a := fun a => srcL_mem
  have hnat : ∀ p ∈ bkL g g.b.length, ∃ a b : Nat, p = ((a : Int), (b : Int)) := fun p hp => by obtain ⟨a, b, h1, _⟩ := bkL_nat hp; exact ⟨a, b, h1⟩
  have hm0 : BMid g h [h] (srcL (bkL g g.b.length) h) := ⟨by simp, fun x hx => by simp at hx; subst hx; exact ⟨hhn, .inl rfl⟩, by simp, fun x hx => ⟨((hsrc x).1 hx).1, fun _ => .src ((hsrc x).1 hx).2⟩,
    fun x p hx hxh => by simp at hx; exact absurd hx hxh, fun a ha => .inr ((hsrc a).2 ⟨dgN_lt (edgOk g) (bkRow_rc ha).1, ha⟩)⟩
  have hra : ∀ a, a < g.b.length → (blD (reachN g))[a]? = some [D.v (.bool ((dgN g).rc a))] := fun a h => blD_get (reachN_get h)
  have hrow0 : ∀ a, a < g.b.length → (dataT (mkT g.b.length (predF g)))[a]? = some [.sl 1 (i64s (nI (predF g a)))] := fun a h => by
    have := dataT_get (T := mkT g.b.length (predF g)) (k := a) (by simpa using h)
    rwa [mkT_row _ h] at this
  obtain ⟨n, hn⟩ : ∃ n, g.b.length = n := ⟨_, rfl⟩
  simp only [hn] at hP hgl hhn hbl hbl2 hsrc hnat hm0 hra hrow0 hsm ⊢
  generalize bkL g n = bk at *
  refine af_of Tryz.func49 rfl (by kernel_rfl) (by simp [Tryz.ntmps49]) fun _ => ?_; simp [Tryz.f49, Ex.d_eq]
  refine aRaw_makeS ?_
  simp
  refine aRaw_insS (L := []) (c := 0) (b := 1) (v := 0) (k := h) (v' := true) u56 u3 (by simp) (by simp) (by simp) rfl (by simp) ?_
  simp
  refine aCall_of hP (by kernel_rfl) (by simp) ?_
  simp
  refine aCall_of hR (by kernel_rfl) (by simp) ?_
  simp
  refine aLoop_st (fun j : Nat => [(1, aI .i64 h), (3, .ptr 0 0 0 0), (7, .mp 1 0), (8, .d (.sl 1 (dataT (mkT n (predF g))))), (9, .d (.sl 1 (blD (reachN g)))), (10, .own 2 (srcL (bk.take j) h).length 0 (srcL (bk.take j) h).length), (22, .d (.sl 2 (prs bk))), (23, aI .i64 bk.length), (24, aI .i64 j)])
    (fun j => [gB g, msB 0 1 (entS [h]), nbk (srcL (bk.take j) h).length (nI (srcL (bk.take j) h))]) (fun j => j ≤ bk.length) (fun j => bk.length - j) 0
    ((Sub.ghost 0 3 1).trans (Sub.slot (s := 10) (c := .own 2 0 0 0) (by simp; exact VLe.nil_own (k := ⟨0, true, 3, 1, []⟩) (by simp) rfl))) 3 (by omega) (by simp [cln_gB, cln_msB, srcL, entS]) (by simp [srcL, blD]) (by omega) ?_
  rintro j hj K hK
  have hsl : (srcL (bk.take j) h).length ≤ 160000 := by have := srcL_len (bk.take j) h; simp at this; omega
  rcases Nat.lt_or_ge j bk.length with hlt | hge
  case inl =>
    obtain ⟨p, hp⟩ : ∃ p, bk[j]? = some p := ⟨_, List.getElem?_eq_getElem hlt⟩
    have hp1 := prs_get hp
    have hp2 := (List.getElem?_eq_some_iff.1 hp1).2
    have hst := srcL_take (h := h) hp
    obtain ⟨a, b, rfl⟩ := hnat p (List.mem_of_getElem? hp)
    simp only [Int.toNat_natCast] at hst
    have hbm : bk.length ≤ maxLen := by unfold maxLen; omega
    simp [hlt, hp1, hp2]
    by_cases hbh : (b : Int) = (h : Int)
    · rw [if_pos hbh] at hst
      simp [hbh]
      refine aRaw_app byt_49 ?_
      simp
      refine ⟨by unfold maxLen; omega, by omega, ?_⟩
      simp [succ_wrap hlt hbm]
      exact hK (j + 1) (by omega) (by omega) (Sub.refl _ _ _) 3 (by omega) (by simp [cln_gB, cln_msB, hst]) (by simp [hst])
    · rw [if_neg hbh] at hst
      simp [hbh, succ_wrap hlt hbm]
      exact hK (j + 1) (by omega) (by omega) (Sub.refl _ _ _) 3 (by omega) (by simp [cln_gB, cln_msB, hst]) (by simp [hst])
  obtain rfl : j = bk.length := by omega
  rw [List.take_length] at hsl ⊢
  simp
  clear hK K
  refine aLoop_st (α := List Nat × List Nat × Nat) (fun q => [(7, .mp 1 0), (8, .d (.sl 1 (dataT (mkT n (predF g))))), (9, .d (.sl 1 (blD (reachN g)))), (10, .own 2 q.2.2 0 q.2.1.length)])
    (fun q => [gB g, msB 0 q.1.length (entS q.1), nbk q.2.2 (nI q.2.1)]) (fun q => BMid g h q.1 q.2.1 ∧ q.2.1.length ≤ 160000 + q.1.length * 400) (fun q => (n - q.1.length) * 401 + q.2.1.length) ([h], srcL bk h, (srcL bk h).length)
    (Sub.refl _ _ _) 3 (by omega) (by simp [cln_gB, cln_msB]) (by simp) ⟨hm0, by simp only; omega⟩ ?_
  rintro ⟨F, W, u⟩ ⟨hm, hWl⟩ K hK
  simp only at hm hWl hK ⊢
  have hFl := hm.len
  rw [hn] at hFl
  rcases List.eq_nil_or_concat W with rfl | ⟨W', b, hWb⟩
  · have hd := hm.done
    have hs : srt (keysS (entS F)) = nI (bodyL g h) := by
      rw [entS_keys]
      refine asc_ext (srt_nodup ?_) (bodyL_asc g h) fun v => ?_
      · have := hm.nd
        unfold nI
        exact this.map _ (fun a b hab he => hab (by omega))
      · rw [srt_mem, nI_mem, nI_mem]
        constructor
        · rintro ⟨x, hx, e⟩; exact ⟨x, (hd x).1 hx, e⟩
        · rintro ⟨x, hx, e⟩; exact ⟨x, (hd x).2 hx, e⟩
    have hbl3 := bodyL_len g h
    simp
    refine aCall_ofc (mkeys_ac (b := 1) (v := 0) (c := F.length) (L := entS F) rfl) (by kernel_rfl) ?_
    rintro _ _ ⟨rfl, rfl⟩
    simp
    have hso := msorted_ac (A := [gB g, msB 0 F.length (entS F), nbk u [], mbox 1 0]) (q := 3) (b := 1) (v := 0) (c := F.length) (L := entS F) rfl rfl (by simp; omega) (fun x hx => by
      obtain ⟨y, hy, he⟩ := entS_mem hx
      have := (hm.each y hy).1
      rw [he]
      exact wf_small (by omega))
    rw [hs] at hso
    refine aCall_ofc hso (by kernel_rfl) ?_
    rintro _ _ ⟨rfl, rfl⟩
    simp
  · rw [List.concat_eq_append] at hWb
    subst hWb
    obtain ⟨hbn, _⟩ := hm.w b (by simp)
    rw [hn] at hbn
    have hWb : (W' ++ [b]).length = W'.length + 1 := by simp
    have hin := entS_in hm.nd b
    have hrb := hra b hbn
    have hrb2 := (List.getElem?_eq_some_iff.1 hrb).2
    have hgt : (dEls (i64s (nI (W' ++ [b]))))[W'.length]? = some [aI .i64 b] := nbk_get (by simp [nI])
    have hw1 : IntKind.i64.wrap (W'.length : Int) = (W'.length : Int) := i64w (by simp at hWl; omega)
    have hcut : ∀ e : AEnv, Sub 0 e [gB g, msB 0 F.length (entS F), nbk u (nI W' ++ [(b : Int)])] e [gB g, msB 0 F.length (entS F), nbk u (nI W')] := fun e => by
      have := Sub.trunc (n := 0) (e := e) (A := [gB g, msB 0 F.length (entS F), nbk u (nI W' ++ [(b : Int)])]) (b := 2) W'.length (k := nbk u (nI W' ++ [(b : Int)])) rfl (show 3 < 1000000 by decide)
      have ht : (dEls (i64s (nI W' ++ [(b : Int)]))).take W'.length = dEls (i64s (nI W')) := by simp [dEls, i64s, nI]
      simp only [setEls, ht] at this
      exact this
    have happ : appT 3 1 [gB g, msB 0 (F.length + 1) (entS (F ++ [b])), nbk u (nI W' ++ [(b : Int)])] (.own 2 u 0 W'.length) (.d (.sl 1 (i64s (nI (predF g b))))) =
        some (.own 2 (u + 1) 0 (W'.length + (predF g b).length), [gB g, msB 0 (F.length + 1) (entS (F ++ [b])), nbk (u + 1) (nI (W' ++ predF g b))], W'.length + (predF g b).length) := by
      have ht : (dEls (i64s (nI W' ++ [(b : Int)]))).take W'.length = dEls (i64s (nI W')) := by simp [dEls, i64s, nI]
      have hall : (dEls (i64s (nI (predF g b)))).all (fun x => x.length == 1) = true := by simp [dEls, i64s]
      simp [appT, appA, elsOf, curB, setEls, dEls, i64s, nI]
    have hpr := hrow0 b hbn
    have hpr2 := (List.getElem?_eq_some_iff.1 hpr).2
    have hpl := predF_len g b
    rw [hn] at hpl
    have hwl : W'.length + 1 ≤ 160000 + F.length * 400 := by simpa using hWl
    have hl1 : (W'.length : Int) < (W'.length : Int) + 1 := by omega
    have hl2 : (W'.length : Int) ≤ (W'.length : Int) + 1 := by omega
    simp [hw1, hgt, hl1, hl2]
    refine aRaw_lookS (L := entS F) (c := F.length) (b := 1) (v := 0) (k := b) u56 u3 (by kernel_rfl) (by simp) (by simp) rfl ?_
    rw [hin]
    by_cases hbF : b ∈ F
    · simp [hbF]
      refine hK (F, W', u) ⟨hm.drop (.inl hbF), by simp only; omega⟩ (by simp only; simp) (hcut _) 3 (by omega) (by simp [cln_gB]) (by simp)
    · simp [hbF, hrb, hrb2, hn, hbn]
      cases hrc : (dgN g).rc b with
      | false =>
        simp
        refine hK (F, W', u) ⟨hm.drop (.inr hrc), by simp only; omega⟩ (by simp only; simp) (hcut _) 3 (by omega) (by simp [cln_gB]) (by simp)
      | true =>
        have hmt := hm.take hbF hrc
        have hFn := hmt.len
        rw [hn, List.length_append, List.length_singleton] at hFn
        simp
        refine aRaw_updS (L := entS F) (c := F.length) (b := 1) (v := 0) (k := b) (v' := true) u56 u3 (by simp) (by simp) (by simp) rfl (entS_new hbF) ?_
        rw [← entS_app]
        simp [hbn, hpr, hpr2]
        refine aRaw_appT byt_49 ?_
        refine ⟨.own 2 (u + 1) 0 (W'.length + (predF g b).length), [gB g, msB 0 (F.length + 1) (entS (F ++ [b])), nbk (u + 1) (nI (W' ++ predF g b))], W'.length + (predF g b).length, ?_, by unfold maxLen; omega, by omega, ?_⟩
        · simp
          simpa using happ
        simp
        refine hK (F ++ [b], W' ++ predF g b, u + 1) ⟨hmt, ?_⟩ ?_ (Sub.refl _ _ _) 3 (by omega) (by simp [cln_gB]) (by simp)
        · simp only [List.length_append, List.length_singleton]
          omega
        · simp only [List.length_append, List.length_singleton]
          have : n - F.length = (n - (F.length + 1)) + 1 := by omega
          rw [this, Nat.add_mul]
          omega
end Go.Proofs.YtagkfkhagjlmpaaGreat

/- Contracts: loops.exits, loops.Nest, the reference's inner and Nest. -/
namespace Go.Proofs.YtagkfkhagjlmpaaGreat
open Go.RowKit
/-- The edges that leave B, from the first i of its blocks. -/
def leavL (g : Gr) (B : List Nat) (b : Nat) : List Nat := (succR g g.b.length b).filter fun x => decide (x ∉ B)
def leavS (g : Gr) (B : List Nat) : List Nat → List Nat
  | [] => []
  | b :: l => leavL g B b ++ leavS g B l
theorem leavS_app (g : Gr) (B : List Nat) : ∀ l m : List Nat, leavS g B (l ++ m) = leavS g B l ++ leavS g B m
  | [], m => rfl
  | b :: l, m => by simp [leavS, leavS_app g B l m]
theorem leavS_mem {g : Gr} {B : List Nat} {x : Nat} : ∀ {l : List Nat}, x ∈ leavS g B l ↔ ∃ b ∈ l, x < g.b.length ∧ x ∈ edgN g b ∧ x ∉ B
  | [] => by simp [leavS]
  | b :: l => by
    simp only [leavS, List.mem_append, leavS_mem (l := l), leavL, List.mem_filter, succR_mem, decide_eq_true_eq, List.mem_cons]
    constructor
    · rintro (⟨⟨h1, h2⟩, h3⟩ | ⟨c, h1, h2⟩)
      · exact ⟨b, .inl rfl, h1, h2, h3⟩
      · exact ⟨c, .inr h1, h2⟩
    · rintro ⟨c, rfl | h1, h2, h3, h4⟩
      · exact .inl ⟨⟨h2, h3⟩, h4⟩
      · exact .inr ⟨c, h1, h2, h3, h4⟩
theorem leavL_len (g : Gr) (B : List Nat) (b : Nat) : (leavL g B b).length ≤ g.b.length := Nat.le_trans (List.length_filter_le _ _) (succR_len g _ _)
theorem leavS_len (g : Gr) (B : List Nat) : ∀ l : List Nat, (leavS g B l).length ≤ l.length * g.b.length
  | [] => by simp [leavS]
  | b :: l => by
    have h1 := leavS_len g B l
    have h2 := leavL_len g B b
    simp only [leavS, List.length_append, List.length_cons]
    rw [Nat.succ_mul]
    omega
set_option maxRecDepth 100000 in
theorem lpexits_af (g : Gr) (hsm : g.b.length ≤ 400) (h : Nat) :
    AF Tryz.prog 50 [.d (.sl 1 (dataT (succT g))), .d (.sl 1 (i64s (nI (bodyL g h))))] (.d (.sl 1 (i64s (nI (exitL g h))))) := by
  have hgl : g.b.length ≤ maxLen := by unfold maxLen; omega
  have hBl := bodyL_len g h
  have hBn : ∀ b ∈ bodyL g h, b < g.b.length := fun b hb => (bodyL_mem.1 hb).1
  obtain ⟨c1, c2⟩ := compact_srt (nI (leavS g (bodyL g h) (bodyL g h))) (nI (exitL g h)) (exitL_asc g h) fun v => by
    rw [nI_mem, nI_mem]
    constructor
    · rintro ⟨x, hx, e⟩
      obtain ⟨h1, h2, b, h3, h4⟩ := exitL_mem.1 hx
      exact ⟨x, leavS_mem.2 ⟨b, h3, h1, h4, h2⟩, e⟩
    · rintro ⟨x, hx, e⟩
      obtain ⟨b, h1, h2, h3, h4⟩ := leavS_mem.1 hx
      exact ⟨x, exitL_mem.2 ⟨h2, h4, b, h1, h3⟩, e⟩
  have hSl := leavS_len g (bodyL g h) (bodyL g h)
  have hrow0 : ∀ a, a < g.b.length → (dataT (succT g))[a]? = some [.sl 1 (i64s (nI (succR g g.b.length a)))] := fun a h => by
    have := dataT_get (T := succT g) (k := a) (by simpa [succT] using h)
    rwa [show rowN (succT g) a = succR g g.b.length a from mkT_row _ h] at this
  have hTl : (succT g).length = g.b.length := by simp [succT]
  have hXl := exitL_len g h
  generalize exitL g h = X at *
  generalize bodyL g h = B at *
  have hll := fun i => leavS_len g B (B.take i)
  have hsl := fun b => succR_len g g.b.length b
  have hmul : B.length * g.b.length ≤ 400 * 400 := Nat.mul_le_mul (by omega) hsm
  have hll2 : ∀ i, (leavS g B (B.take i)).length ≤ 160000 := fun i => Nat.le_trans (hll i) (Nat.le_trans (Nat.mul_le_mul_right _ (show (B.take i).length ≤ B.length by simp; omega)) hmul)
  obtain ⟨n, hn⟩ : ∃ n, g.b.length = n := ⟨_, rfl⟩
  have hlL : ∀ b, leavL g B b = (succR g n b).filter fun x => decide (x ∉ B) := fun b => by unfold leavL; rw [hn]
  simp only [hn] at hgl hBl hBn hrow0 hTl hXl hsl hsm
  have hBm : B.length ≤ maxLen := by omega
  refine af_of Tryz.func50 rfl (by kernel_rfl) (by simp [Tryz.ntmps50]) fun _ => ?_; simp [Tryz.f50, Ex.d_eq]
  refine aLoop_st (fun i : Nat => [(0, .d (.sl 1 (dataT (succT g)))), (1, .d (.sl 1 (i64s (nI B)))), (5, .own 0 (leavS g B (B.take i)).length 0 (leavS g B (B.take i)).length), (10, .d (.sl 1 (i64s (nI B)))), (11, aI .i64 B.length), (12, aI .i64 i)])
    (fun i => [nbk (leavS g B (B.take i)).length (nI (leavS g B (B.take i)))]) (fun i => i ≤ B.length) (fun i => B.length - i) 0
    ((Sub.ghost 0 3 1).trans (Sub.slot (s := 5) (c := .own 0 0 0 0) (by simp; exact VLe.nil_own (k := ⟨0, true, 3, 1, []⟩) (by simp) rfl))) 1 (by omega) (by simp [leavS]) (by simp [leavS]) (by omega) ?_
  rintro i hi K hK
  have hl1 := hll2 i
  rcases Nat.lt_or_ge i B.length with hlt | hge
  case inr =>
    obtain rfl : i = B.length := by omega
    rw [List.take_length] at hl1 ⊢
    have c4 := srt_len (nI (leavS g B B))
    have hsrt := sort_ac (nI (leavS g B B)) [nbk (leavS g B B).length (nI (leavS g B B))] 0 (leavS g B B).length 3 rfl (by simp; omega)
    have k2 := fun A hA => compact_ac (srt (nI (leavS g B B))) (nI X) A 0 (leavS g B B).length 3 hA (by rw [c4]; simp; omega) c1 (by rw [c4]; exact c2)
    rw [c4] at k2
    rw [show (nI (leavS g B B)).length = (leavS g B B).length by simp] at k2 hsrt c2
    simp
    refine aCall_ofc hsrt (by kernel_rfl) ?_
    rintro _ _ ⟨rfl, rfl⟩
    simp
    refine aCall_ofc (k2 _ rfl) (by kernel_rfl) ?_
    rintro _ _ ⟨rfl, rfl⟩
    have c3 : X.length ≤ (leavS g B B).length := by simpa using c2
    simp [c3]
  obtain ⟨b, hb⟩ : ∃ b, B[i]? = some b := ⟨_, List.getElem?_eq_getElem hlt⟩
  have hb2 := (List.getElem?_eq_some_iff.1 hb).2
  have hbn := hBn b (List.mem_of_getElem? hb)
  have hrow := hrow0 b hbn
  have hrow2 := (List.getElem?_eq_some_iff.1 hrow).2
  have hsl1 := hsl b
  have hslm : (succR g n b).length ≤ maxLen := by omega
  have hdl : (dataT (succT g)).length = n := by simp [hTl]
  simp [hlt, hb, hb2, hbn, hrow, hrow2, hdl]
  obtain ⟨f, hf⟩ : ∃ f : Nat → List Nat, f = fun j => leavS g B (B.take i) ++ ((succR g n b).take j).filter fun x => decide (x ∉ B) := ⟨_, rfl⟩
  have hf0 : f 0 = leavS g B (B.take i) := by rw [hf]; simp
  have hfe : f (succR g n b).length = leavS g B (B.take (i + 1)) := by
    rw [hf]
    simp only [List.take_length]
    rw [List.take_add_one, hb, leavS_app]
    simp [leavS, hlL]
  have hflen : ∀ j, (f j).length ≤ 170000 := fun j => by
    rw [hf]
    simp only [List.length_append]
    have h1 := List.length_filter_le (fun x => decide (x ∉ B)) ((succR g n b).take j)
    have h2 : ((succR g n b).take j).length ≤ (succR g n b).length := by simp; omega
    omega
  have hfs : ∀ (j x : Nat), (succR g n b)[j]? = some x → f (j + 1) = if x ∈ B then f j else f j ++ [x] := fun j x hx => by
    rw [hf]
    simp only
    rw [List.take_add_one, hx, List.filter_append]
    by_cases hd : x ∈ B
    · simp [hd]
    · simp [hd]
  clear hf
  refine aLoop_st (fun j : Nat => [(0, .d (.sl 1 (dataT (succT g)))), (1, .d (.sl 1 (i64s (nI B)))), (5, .own 0 (f j).length 0 (f j).length), (10, .d (.sl 1 (i64s (nI B)))), (11, aI .i64 B.length), (12, aI .i64 i),
      (19, .d (.sl 1 (i64s (nI (succR g n b))))), (20, aI .i64 (succR g n b).length), (21, aI .i64 j)])
    (fun j => [nbk (f j).length (nI (f j))]) (fun j => j ≤ (succR g n b).length) (fun j => (succR g n b).length - j) 0 (Sub.refl _ _ _) 1 (by omega) (by simp [hf0]) (by simp [hf0]) (by omega) ?_
  rintro j hj K2 hK2
  rcases Nat.lt_or_ge j (succR g n b).length with hjlt | hjge
  case inr =>
    obtain rfl : j = (succR g n b).length := by omega
    simp [succ_wrap hlt hBm]
    exact hK (i + 1) (by omega) (by omega) (Sub.refl _ _ _) 1 (by omega) (by simp [hfe]) (by simp [hfe])
  obtain ⟨x, hx⟩ : ∃ x, (succR g n b)[j]? = some x := ⟨_, List.getElem?_eq_getElem hjlt⟩
  have hx2 := (List.getElem?_eq_some_iff.1 hx).2
  have hfj := hfs j x hx
  have hfl := hflen j
  have hc := containsin_af (nI B) x (by simpa using hBm)
  rw [show decide ((x : Int) ∈ nI B) = decide (x ∈ B) by rw [Bool.eq_iff_iff, decide_eq_true_eq, decide_eq_true_eq, nI_not]] at hc
  simp [hjlt, hx, hx2]
  refine aCall_of hc (by kernel_rfl) (by simp) ?_
  by_cases hxB : x ∈ B
  · rw [if_pos hxB] at hfj
    simp [hxB, succ_wrap hjlt hslm]
    exact hK2 (j + 1) (by omega) (by omega) (Sub.refl _ _ _) 1 (by omega) (by simp [hfj]) (by simp [hfj])
  · rw [if_neg hxB] at hfj
    simp [hxB]
    refine aRaw_app byt_49 ?_
    simp
    refine ⟨by unfold maxLen; omega, by omega, ?_⟩
    simp [succ_wrap hjlt hslm]
    exact hK2 (j + 1) (by omega) (by omega) (Sub.refl _ _ _) 1 (by omega) (by simp [hfj]) (by simp [hfj])
/-! ### loops -/
structure Lp where
  hd : Int
  bd : List Int
  ex : List Int
  pa : Int
def Lp.d (l : Lp) : List D := [.v (.int .i64 l.hd), .sl 1 (i64s l.bd), .sl 1 (i64s l.ex), .v (.int .i64 l.pa)]
def lps (l : List Lp) : List (List D) := l.map Lp.d
@[simp] theorem lps_len (l : List Lp) : (lps l).length = l.length := by simp [lps]
theorem lps_get {l : List Lp} {i : Nat} {x : Lp} (h : l[i]? = some x) : (lps l)[i]? = some [.v (.int .i64 x.hd), .sl 1 (i64s x.bd), .sl 1 (i64s x.ex), .v (.int .i64 x.pa)] := by simp [lps, h, Lp.d]
/-- The innermost one: the first of those that hold b and are the shortest; but is left out. -/
def inStp (l : List Lp) (b but : Int) (best : Option Nat) (k : Nat) : Option Nat := match l[k]? with
  | none => best
  | some x => if (k : Int) ≠ but ∧ b ∈ x.bd then (match best with
    | none => some k
    | some c => if x.bd.length < ((l[c]?.map fun y => y.bd.length).getD 0) then some k else some c) else best
def inL (l : List Lp) (b but : Int) : Nat → Option Nat
  | 0 => none
  | k + 1 => inStp l b but (inL l b but k) k
theorem inL_lt {l : List Lp} {b but : Int} : ∀ {k : Nat}, ∀ c, inL l b but k = some c → c < l.length
  | 0, c, h => by cases h
  | k + 1, c, h => by
    rw [inL] at h
    unfold inStp at h
    split at h
    · exact inL_lt _ h
    · rename_i x hx
      split at h
      · split at h
        · obtain rfl := Option.some.inj h; exact (List.getElem?_eq_some_iff.1 hx).1
        · rename_i d hd
          split at h
          · obtain rfl := Option.some.inj h; exact (List.getElem?_eq_some_iff.1 hx).1
          · obtain rfl := Option.some.inj h; exact inL_lt _ hd
      · exact inL_lt _ h
set_option maxRecDepth 100000 in
theorem lpnest_af (l : List Lp) (b : Int) (hl : l.length ≤ maxLen) (hb : ∀ x ∈ l, x.bd.length ≤ maxLen) : AF Tryz.prog 52 [.d (.sl 4 (lps l)), aI .i64 b] (aI .i64 (bV (inL l b (-1) l.length))) := by
  refine af_of Tryz.func52 rfl (by kernel_rfl) (by simp [Tryz.ntmps52]) fun _ => ?_; simp [Tryz.f52, Ex.d_eq]
  refine aLoop_st (fun i : Nat => [(0, .d (.sl 4 (lps l))), (1, aI .i64 b), (5, aI .i64 (bV (inL l b (-1) i))), (8, .d (.sl 4 (lps l))), (9, aI .i64 l.length), (10, aI .i64 i)]) (fun _ => []) (fun i => i ≤ l.length) (fun i => l.length - i) 0 (Sub.refl _ _ _) 0 (by omega) (by simp) (by simp [inL, bV]) (by omega) ?_
  rintro i hi K hK
  rcases Nat.lt_or_ge i l.length with hlt | hge
  case inr =>
    obtain rfl : i = l.length := by omega
    simp
  obtain ⟨x, hx⟩ : ∃ x, l[i]? = some x := ⟨_, List.getElem?_eq_getElem hlt⟩
  have hx1 := lps_get hx
  have hx2 := (List.getElem?_eq_some_iff.1 hx1).2
  have hxl := hb x (List.mem_of_getElem? hx)
  have hc := containsin_af x.bd b hxl
  have hst : inL l b (-1) (i + 1) = inStp l b (-1) (inL l b (-1) i) i := rfl
  have hlo := inL_lt (l := l) (b := b) (but := -1) (k := i)
  unfold inStp at hst
  rw [hx] at hst
  simp only at hst
  simp [hlt, hx1, hx2]
  refine adraw [] (by kernel_rfl) (by kernel_rfl) (by kernel_rfl) (by kernel_rfl) ?_
  simp
  refine adC_of hc (by kernel_rfl) trivial (by simp) (by simp) ?_
  by_cases hin : b ∈ x.bd
  · rw [if_pos ⟨by omega, hin⟩] at hst
    simp [hin]
    generalize inL l b (-1) i = bs at *
    cases bs with
    | none =>
      simp only at hst
      simp [bV, succ_wrap hlt hl]
      exact hK (i + 1) (by omega) (by omega) (Sub.refl _ _ _) 0 (by omega) (by simp) (by simp [hst, bV])
    | some c =>
      have hcl := hlo c rfl
      obtain ⟨y, hy⟩ : ∃ y, l[c]? = some y := ⟨_, List.getElem?_eq_getElem hcl⟩
      have hy1 := lps_get hy
      have hy2 := (List.getElem?_eq_some_iff.1 hy1).2
      simp only [hy, Option.map_some, Option.getD_some] at hst
      simp [bV, show ¬ (c : Int) < 0 by omega, hcl, hlt, hx1, hx2, hy1, hy2]
      by_cases hlt2 : x.bd.length < y.bd.length
      · rw [if_pos hlt2] at hst
        simp [hlt2, succ_wrap hlt hl]
        exact hK (i + 1) (by omega) (by omega) (Sub.refl _ _ _) 0 (by omega) (by simp) (by simp [hst, bV])
      · rw [if_neg hlt2] at hst
        simp [hlt2, succ_wrap hlt hl]
        exact hK (i + 1) (by omega) (by omega) (Sub.refl _ _ _) 0 (by omega) (by simp) (by simp [hst, bV])
  · rw [if_neg (by simp [hin])] at hst
    simp [hin, succ_wrap hlt hl]
    exact hK (i + 1) (by omega) (by omega) (Sub.refl _ _ _) 0 (by omega) (by simp) (by simp [hst])
end Go.Proofs.YtagkfkhagjlmpaaGreat

/- Contracts: slices.ContainsFunc at pairs; loops.Find. -/
namespace Go.Proofs.YtagkfkhagjlmpaaGreat
open Go.RowKit
abbrev aPr (p : Int × Int) : AV := .agg [aI .i64 p.1, aI .i64 p.2]
/-- slices.IndexFunc at pairs, with a predicate that changes nothing. -/
theorem index_p_ac {f : Nat} {fs cs : List AV} {p : Int × Int → Bool} (A : AHeap) (l : List (Int × Int)) (hf : okF Tryz.prog f = true) (hp : ∀ a ∈ l, ∀ N, AC Tryz.prog f (fs ++ [aPr a] ++ cs) (A ++ N) (Same0 A (aB (p a)))) :
    AC Tryz.prog 92 [.d (.sl 2 (prs l)), .fn f fs cs] A (Same0 A (aI .i64 (match l.findIdx? p with | some i => (i : Int) | none => -1))) := by
  refine ac_of Tryz.func92 rfl (by kernel_rfl) (by simp [Tryz.ntmps92]) fun hb => ?_
  have n1 : l.length ≤ maxLen := by simpa using hb.1.1
  clear hb
  obtain ⟨R, hR⟩ : ∃ R : Int, (match l.findIdx? p with | some i => (i : Int) | none => -1) = R := ⟨_, rfl⟩
  rw [hR]
  simp [Tryz.f92]
  refine aLoop_of (α := Nat) (fun i e A' => i ≤ l.length ∧ (∃ N, A' = A ++ N) ∧ e 8 = aI .i64 i ∧ e 7 = aI .i64 l.length ∧ e 0 = .d (.sl 2 (prs l)) ∧ e 1 = .fn f fs cs ∧
    ∀ (j : Nat) (a : Int × Int), j < i → l[j]? = some a → p a = false) (fun i => l.length - i) 0 (Sub.refl _ _ _) ⟨by omega, ⟨[], by simp⟩, by simp, by simp, by simp, by simp, by intro j a hj; omega⟩ ?_
  rintro i e A' ⟨hi, ⟨N, rfl⟩, e8, e7, e0, e1, hall⟩ K hK
  simp [e8, e7]
  refine aCond_split (fun hlt => ?_) (fun hge => ?_)
  · simp at hlt
    have hi1 := List.getElem?_eq_getElem hlt
    have hi2 := prs_get hi1
    have hi3 := (List.getElem?_eq_some_iff.1 hi2).2
    simp [e0, e1, e8, hi1, hi2, hi3, hlt]
    refine aCall_ofc (hp l[i] (List.mem_of_getElem? hi1) N) hf ?_
    rintro _ _ ⟨rfl, N', rfl⟩
    simp
    refine aCond_split (fun ht => ?_) (fun hf => ?_)
    · have : l.findIdx? p = some i := by
        rw [List.findIdx?_eq_some_iff_getElem]
        exact ⟨hlt, ht, fun j hj => by simpa using hall j _ hj (List.getElem?_eq_getElem (by omega))⟩
      rw [this] at hR
      subst hR
      simp [Same0]
    · simp [e8, succ_wrap hlt n1]
      refine hK (i + 1) _ _ _ _ (Sub.refl _ _ _) ⟨by omega, ⟨N', rfl⟩, by simp, by simp [e7], by simp [e0], by simp [e1], fun j a hj ha => ?_⟩ (by omega)
      rcases Nat.lt_or_ge j i with h | h
      · exact hall j a h ha
      · obtain rfl : j = i := by omega
        rw [hi1] at ha
        obtain rfl := Option.some.inj ha
        exact hf
  · simp at hge
    have : l.findIdx? p = none := by
      rw [List.findIdx?_eq_none_iff]
      intro x hx
      obtain ⟨j, hj⟩ := List.getElem?_of_mem hx
      exact hall j x (by have := (List.getElem?_eq_some_iff.1 hj).1; omega) hj
    rw [this] at hR
    subst hR
    simp [Same0]
theorem contains_p_ac {f : Nat} {fs cs : List AV} {p : Int × Int → Bool} (A : AHeap) (l : List (Int × Int)) (hf : okF Tryz.prog f = true) (hp : ∀ a ∈ l, ∀ N, AC Tryz.prog f (fs ++ [aPr a] ++ cs) (A ++ N) (Same0 A (aB (p a)))) :
    AC Tryz.prog 47 [.d (.sl 2 (prs l)), .fn f fs cs] A (Same0 A (aB (l.any p))) := by
  refine ac_of Tryz.func47 rfl (by kernel_rfl) (by simp [Tryz.ntmps47]) fun hb => ?_
  simp [Tryz.f47]
  refine aCall_ofc (index_p_ac A l hf hp) (by simp) ?_
  rintro _ _ ⟨rfl, N, rfl⟩
  simp [Same0]
  cases h : l.findIdx? p with
  | none =>
    rw [List.findIdx?_eq_none_iff] at h
    simpa using h
  | some i =>
    rw [List.findIdx?_eq_some_iff_getElem] at h
    obtain ⟨hi, hp, _⟩ := h
    exact Eq.symm (List.any_eq_true.2 ⟨_, List.getElem_mem hi, hp⟩)
theorem find1_ac (B0 B1 : Blk) (h : Int) (a : Int × Int) (N : AHeap) : AC Tryz.prog 48 ([] ++ [aPr a] ++ [.ptr 2 0 0 0]) ([B0, B1, cInt h] ++ N) (Same0 [B0, B1, cInt h] (aB (decide (a.2 = h)))) := by
  refine ac_of Tryz.func48 rfl (by kernel_rfl) (by simp [Tryz.ntmps48]) fun _ => ?_
  simp [Tryz.f48, cInt, Same0]
abbrev lpB (v : Nat) (els : List (List AV)) : Blk := ⟨v, true, 58, 4, els⟩
theorem cloneLp_ac {A : AHeap} {b ver : Nat} {X : List (List D)} (hb : A[b]? = some (lpB ver (dEls X))) (hX : ∀ x ∈ X, x.length = 4) (hl : X.length ≤ 100000) (hne : X ≠ []) :
    AC Tryz.prog 51 [.own b ver 0 X.length] A (fun r A' => r = .own A.length 1 0 X.length ∧ A' = A ++ [lpB 1 (dEls X)]) := by
  have hbl := (List.getElem?_eq_some_iff.1 hb).1
  refine ac_of Tryz.func51 rfl (by kernel_rfl) (by simp [Tryz.ntmps51]) fun hbd => ?_
  clear hbd
  have hpos : 0 < X.length := List.length_pos_iff.2 hne
  have hcur : curB A b ver = some (lpB ver (dEls X)) := by simp [curB, hb]
  simp [Tryz.f51, hb]
  refine ⟨by kernel_rfl, fun r hr => ?_⟩
  have hrf : r = false := by
    cases r with
    | false => rfl
    | true =>
      rcases hr rfl with h | h
      · omega
      · rw [hcur] at h; cases h
  subst hrf
  simp
  refine aRaw_app byt_54 ?_
  have hall : ∀ x ∈ dEls X, x.length = 4 := fun x hx => by
    simp only [dEls, List.mem_map] at hx
    obtain ⟨y, hy, rfl⟩ := hx
    simpa using hX y hy
  simp [List.getElem?_append_left hbl, hb, hall]
  have ht : List.take X.length (dEls X) = dEls X := List.take_of_length_le (by simp)
  rw [if_pos hall]
  refine ⟨_, _, _, rfl, ?_, ?_, ?_⟩
  · unfold maxLen; omega
  · omega
  · simp
/-! ### the loops of a graph -/
/-- Does an edge lead back to h? -/
def isHd (g : Gr) (h : Nat) : Bool := (bkL g g.b.length).any fun p => decide (p.2 = (h : Int))
noncomputable def lpOf (g : Gr) (h : Nat) : Lp := ⟨h, nI (bodyL g h), nI (exitL g h), -1⟩
noncomputable def fnd0 (g : Gr) (O : List Nat) : List Lp := (O.filter (isHd g)).map (lpOf g)
theorem fnd0_take {g : Gr} {O : List Nat} {i h : Nat} (hh : O[i]? = some h) : fnd0 g (O.take (i + 1)) = if isHd g h = true then fnd0 g (O.take i) ++ [lpOf g h] else fnd0 g (O.take i) := by
  unfold fnd0
  rw [List.take_add_one, hh, List.filter_append, List.map_append]
  by_cases hd : isHd g h = true
  · simp [hd]
  · simp [hd]
theorem fnd0_len (g : Gr) (O : List Nat) : (fnd0 g O).length ≤ O.length := by
  unfold fnd0
  rw [List.length_map]
  exact List.length_filter_le _ _
theorem fnd0_mem {g : Gr} {O : List Nat} {x : Lp} (h : x ∈ fnd0 g O) : ∃ h ∈ O, isHd g h = true ∧ x = lpOf g h := by
  unfold fnd0 at h
  simp only [List.mem_map, List.mem_filter] at h
  obtain ⟨h, ⟨h1, h2⟩, rfl⟩ := h
  exact ⟨h, h1, h2, rfl⟩
/-- With the parents of the first k. -/
def withP (L : List Lp) (k : Nat) : List Lp := L.mapIdx fun i x => if i < k then ⟨x.hd, x.bd, x.ex, bV (inL L x.hd i L.length)⟩ else x
@[simp] theorem withP_len (L : List Lp) (k : Nat) : (withP L k).length = L.length := by simp [withP]
theorem withP_zero (L : List Lp) : withP L 0 = L := by
  apply List.ext_getElem?
  intro i
  simp [withP]
theorem withP_get {L : List Lp} {k : Nat} {x : Lp} (h : L[k]? = some x) : (withP L k)[k]? = some x := by simp [withP, h]
theorem withP_succ {L : List Lp} {k : Nat} {x : Lp} (h : L[k]? = some x) : withP L (k + 1) = (withP L k).set k ⟨x.hd, x.bd, x.ex, bV (inL L x.hd k L.length)⟩ := by
  apply List.ext_getElem?
  intro i
  have hk := (List.getElem?_eq_some_iff.1 h).1
  by_cases hik : k = i
  · subst hik
    rw [List.getElem?_set_self (by simpa using hk)]
    simp [withP, h]
  · rw [List.getElem?_set_ne hik]
    simp only [withP, List.getElem?_mapIdx]
    congr 1
    funext y
    by_cases h1 : i < k
    · rw [if_pos h1, if_pos (by omega)]
    · rw [if_neg h1, if_neg (by omega)]
/-- One is never found within itself, whether it is left out or has no blocks. -/
theorem inL_self (L M : List Lp) (b : Int) (k : Nat) (hlen : M.length = L.length) (hk : ∀ y, M[k]? = some y → y.bd = []) (ho : ∀ (i : Nat) (x y : Lp), i ≠ k → L[i]? = some x → M[i]? = some y → y.bd = x.bd) :
    ∀ m, inL M b (-1) m = inL L b k m ∧ inL L b k m ≠ some k
  | 0 => by simp [inL]
  | m + 1 => by
    obtain ⟨h1, h2⟩ := inL_self L M b k hlen hk ho m
    rw [inL, inL, h1]
    generalize inL L b k m = bs at *
    unfold inStp
    cases hM : M[m]? with
    | none =>
      have : L[m]? = none := by
        rw [List.getElem?_eq_none_iff] at hM ⊢
        omega
      rw [this]
      exact ⟨rfl, h2⟩
    | some y =>
      have hml : m < L.length := by rw [← hlen]; exact (List.getElem?_eq_some_iff.1 hM).1
      obtain ⟨x, hx⟩ : ∃ x, L[m]? = some x := ⟨_, List.getElem?_eq_getElem hml⟩
      rw [hx]
      simp only
      by_cases hmk : m = k
      · subst hmk
        have hky := hk y hM
        rw [if_neg (by simp [hky]), if_neg (by simp)]
        exact ⟨rfl, h2⟩
      · have hyx := ho m x y hmk hx hM
        rw [hyx]
        by_cases hb : b ∈ x.bd
        · rw [if_pos ⟨by omega, hb⟩, if_pos ⟨by omega, hb⟩]
          cases bs with
          | none => exact ⟨rfl, fun h => hmk (Option.some.inj h)⟩
          | some c =>
            have hck : c ≠ k := fun e => h2 (by rw [e])
            have : (M[c]?.map fun y => y.bd.length) = L[c]?.map fun y => y.bd.length := by
              cases hc : L[c]? with
              | none =>
                have : M[c]? = none := by
                  rw [List.getElem?_eq_none_iff] at hc ⊢
                  omega
                rw [this]
              | some z =>
                obtain ⟨z', hz'⟩ : ∃ z', M[c]? = some z' := ⟨_, List.getElem?_eq_getElem (by rw [hlen]; exact (List.getElem?_eq_some_iff.1 hc).1)⟩
                rw [hz']
                simp [ho c z z' hck hc hz']
            simp only [this]
            split
            · exact ⟨trivial, fun h => hmk (Option.some.inj h)⟩
            · exact ⟨trivial, h2⟩
        · rw [if_neg (by simp [hb]), if_neg (by simp [hb])]
          exact ⟨rfl, h2⟩
/-- The loops as the program finds them. -/
noncomputable def findL (g : Gr) : List Lp := withP (fnd0 g (ordN g)) (fnd0 g (ordN g)).length
theorem NLeS_set : ∀ {X Y : List (List D)} (k : Nat) (r : List D), NLeS X Y → (∀ y, Y[k]? = some y → NLeE r y) → NLeS (X.set k r) Y
  | [], Y, k, r, h, _ => by simpa using h
  | x :: X, Y, 0, r, h, hk => by
    simp only [NLeS] at h
    obtain ⟨y, ys, rfl, h1, h2⟩ := h
    exact ⟨y, ys, rfl, hk y rfl, h2⟩
  | x :: X, Y, k + 1, r, h, hk => by
    simp only [NLeS] at h
    obtain ⟨y, ys, rfl, h1, h2⟩ := h
    exact ⟨y, ys, rfl, h1, NLeS_set k r h2 fun z hz => hk z (by simpa using hz)⟩
theorem bodyL_max (g : Gr) (h : Nat) (hsm : g.b.length ≤ 400) : (nI (bodyL g h)).length ≤ maxLen := by
  have := bodyL_len g h
  simp
  unfold maxLen
  omega
theorem lps_set (l : List Lp) (k : Nat) (x : Lp) : (lps l).set k x.d = lps (l.set k x) := by simp [lps, List.map_set]
set_option maxRecDepth 100000 in
theorem lpfind_af (g : Gr) (hg : GrFit g) (hsm : g.b.length ≤ 400) : AF Tryz.prog 20 [grV g] (.d (.sl 4 (lps (findL g)))) := by
  have hgl : g.b.length ≤ maxLen := by unfold maxLen; omega
  have hB := lpback_af g hg hsm
  have hE := lpedges_af g hg (edgOk g) hsm
  have hO := dmOrder_af revOk g hg (edgOk g)
  have hOl := ordN_len (edgOk g) (g := g)
  have hOr : ∀ h ∈ ordN g, (dgN g).rc h = true := fun h hh => by show (ordN g).contains h = true; simpa using hh
  have hbody := fun h (hh : (dgN g).rc h = true) => lpbody_af g hg hsm h hh
  have hexit := fun h => lpexits_af g hsm h
  have hbm := fun h => bodyL_max g h hsm
  have hbl := bkL_len g g.b.length
  have hbl2 : g.b.length * g.b.length ≤ 400 * 400 := Nat.mul_le_mul hsm hsm
  have hFl := fun i => fnd0_len g ((ordN g).take i)
  have hFm := fun x (hx : x ∈ fnd0 g (ordN g)) => fnd0_mem hx
  have hft := fun (i h : Nat) (hh : (ordN g)[i]? = some h) => fnd0_take (g := g) hh
  have hisd : ∀ h, isHd g h = (bkL g g.b.length).any fun p => decide (p.2 = (h : Int)) := fun _ => rfl
  have hR : findL g = withP (fnd0 g (ordN g)) (fnd0 g (ordN g)).length := rfl
  have hbd : ∀ x ∈ fnd0 g (ordN g), x.bd.length ≤ maxLen := fun x hx => by
    obtain ⟨h, _, _, rfl⟩ := hFm x hx
    exact hbm h
  have hF0 : fnd0 g [] = [] := by simp [fnd0]
  generalize findL g = R at *
  generalize ordN g = O at *
  generalize bkL g g.b.length = bk at *
  generalize succT g = sT at *
  generalize isHd g = isH at *
  obtain ⟨F, hFd⟩ : ∃ F, fnd0 g = F := ⟨_, rfl⟩
  rw [hFd] at hFl hFm hft hR hbd hF0
  clear hFd
  have hOm : O.length ≤ maxLen := by omega
  subst hR
  refine af_of Tryz.func20 rfl (by kernel_rfl) (by simp [Tryz.ntmps20]) fun _ => ?_; simp [Tryz.f20, Ex.d_eq]
  refine aCall_of hB (by kernel_rfl) (by simp) ?_
  simp
  refine aCall_of hE (by kernel_rfl) (by simp) ?_
  simp
  refine aCall_of hO (by kernel_rfl) (by simp) ?_
  simp
  refine aLoop_st (fun i : Nat => [(1, .ptr 0 0 0 0), (3, .d (.sl 2 (prs bk))), (4, .d (.sl 1 (dataT sT))), (5, .own 1 (F (O.take i)).length 0 (F (O.take i)).length), (16, .d (.sl 1 (i64s (nI O)))), (17, aI .i64 O.length), (18, aI .i64 i)])
    (fun i => [gB g, lpB (F (O.take i)).length (dEls (lps (F (O.take i))))]) (fun i => i ≤ O.length) (fun i => O.length - i) 0
    ((Sub.ghost 0 58 4).trans (Sub.slot (s := 5) (c := .own 1 0 0 0) (by simp; exact VLe.nil_own (k := ⟨0, true, 58, 4, []⟩) (by simp) rfl))) 2 (by omega) (by simp [cln_gB, hF0, lps]) (by simp [hF0]) (by omega) ?_
  rintro i hi K hK
  have hFl1 := hFl i
  rcases Nat.lt_or_ge i O.length with hlt | hge
  case inl =>
    obtain ⟨h, hh⟩ : ∃ h, O[i]? = some h := ⟨_, List.getElem?_eq_getElem hlt⟩
    have hh2 := (List.getElem?_eq_some_iff.1 hh).2
    have hst := hft i h hh
    have hhr := hOr h (List.mem_of_getElem? hh)
    have hbk : bk.length ≤ maxLen := by unfold maxLen; omega
    simp [hlt, hh, hh2]
    refine aCall_ofc (contains_p_ac (p := fun p => decide (p.2 = (h : Int))) (fs := []) (cs := [.ptr 2 0 0 0]) [gB g, lpB (F (O.take i)).length (dEls (lps (F (O.take i)))), cInt h] bk (by kernel_rfl) (fun a ha N => find1_ac _ _ h a N)) (by kernel_rfl) ?_
    rintro _ _ ⟨rfl, N, rfl⟩
    rw [← hisd]
    cases hd : isH h with
    | false =>
      rw [hd] at hst
      simp only [Bool.false_eq_true, if_false] at hst
      simp [succ_wrap hlt hOm]
      exact hK (i + 1) (by omega) (by omega) (Sub.refl _ _ _) 2 (by omega) (by simp [hst, cln_gB]) (by simp [hst])
    | true =>
      rw [hd] at hst
      simp only [if_true] at hst
      simp [cInt]
      refine aCall_of (hbody h hhr) (by kernel_rfl) (by simp) ?_
      simp
      refine adraw2 8 [] (by kernel_rfl) (by kernel_rfl) (by kernel_rfl) (by kernel_rfl) (by kernel_rfl) ?_
      simp [cInt]
      refine adC_of (hexit h) (by kernel_rfl) trivial (by simp) (by simp) ?_
      simp
      refine aRaw_app byt_54 ?_
      have hF4 : (F (O.take i)).length ≤ 400 := by
        have : (O.take i).length ≤ O.length := by simp; omega
        omega
      simp
      refine ⟨by unfold maxLen; omega, by omega, ?_⟩
      simp [succ_wrap hlt hOm]
      refine hK (i + 1) (by omega) (by omega) (Sub.refl _ _ _) 2 (by omega) ?_ (by simp [hst])
      have hrow : dEls (lps (F (O.take i) ++ [lpOf g h])) = dEls (lps (F (O.take i))) ++ [[aI .i64 h, .d (.sl 1 (i64s (nI (bodyL g h)))), .d (.sl 1 (i64s (nI (exitL g h)))), aI .i64 (-1)]] := by simp [dEls, lps, Lp.d, lpOf]
      simp [hst, cln_gB, hrow]
  obtain rfl : i = O.length := by omega
  rw [List.take_length] at hFl1 ⊢
  clear hK
  obtain ⟨L, hL⟩ : ∃ L, F O = L := ⟨_, rfl⟩
  rw [hL] at hFl1 hbd ⊢
  clear hFl hft hFm hL hF0
  obtain ⟨m, hm⟩ : ∃ m, L.length = m := ⟨_, rfl⟩
  have hm1 : m ≤ 400 := by omega
  have hmm : m ≤ maxLen := by omega
  simp [hm]
  refine aLoop_st (fun k : Nat => [(5, .own 1 m 0 m), (40, aI .i64 m), (41, aI .i64 k)]) (fun k => [gB g, lpB m (dEls (lps (withP L k)))]) (fun k => k ≤ m) (fun k => m - k) 0 (Sub.refl _ _ _) 2 (by omega) (by simp [cln_gB, withP_zero]) (by simp) (by omega) ?_
  rintro k hk K2 hK2
  rcases Nat.lt_or_ge k m with hklt | hkge
  case inr =>
    obtain rfl : k = m := by omega
    have ht : (lps (withP L k)).take k = lps (withP L k) := List.take_of_length_le (by simp [hm])
    simp [hm, ht]
  obtain ⟨x, hx⟩ : ∃ x, L[k]? = some x := ⟨_, List.getElem?_eq_getElem (by omega)⟩
  have hPl : (withP L k).length = m := by simp [hm]
  have hPk := withP_get hx
  have hrow := lps_get hPk
  have hps := withP_succ hx
  rw [hm] at hps
  obtain ⟨W, hW⟩ : ∃ W, withP L k = W := ⟨_, rfl⟩
  have hself := inL_self L (W.set k ⟨x.hd, [], x.ex, x.pa⟩) x.hd k (by rw [List.length_set, ← hW]; simp) (fun y hy => by
    rw [List.getElem?_set_self (by rw [← hW]; simp; omega)] at hy
    obtain rfl := Option.some.inj hy
    rfl) (fun i a b hik ha hb => by
    rw [List.getElem?_set_ne (Ne.symm hik), ← hW] at hb
    simp only [withP, List.getElem?_mapIdx, ha, Option.map_some, Option.some.injEq] at hb
    subst hb
    split <;> rfl) m
  have hWb : ∀ y ∈ W, y.bd.length ≤ maxLen := fun y hy => by
    obtain ⟨i, hi⟩ := List.getElem?_of_mem hy
    rw [← hW] at hi
    simp only [withP, List.getElem?_mapIdx, Option.map_eq_some_iff] at hi
    obtain ⟨z, hz, rfl⟩ := hi
    have := hbd z (List.mem_of_getElem? hz)
    split <;> exact this
  rw [hW] at hPl hPk hrow hps ⊢
  clear hW
  have hnest := lpnest_af (W.set k ⟨x.hd, [], x.ex, x.pa⟩) x.hd (by simp; omega) (fun y hy => by
    rcases List.mem_or_eq_of_mem_set hy with h | rfl
    · exact hWb y h
    · simp)
  rw [List.length_set, hPl, hself.1] at hnest
  have hWl4 : ∀ y ∈ lps W, y.length = 4 := fun y hy => by
    simp only [lps, List.mem_map] at hy
    obtain ⟨z, _, rfl⟩ := hy
    rfl
  have hclone := cloneLp_ac (A := [gB g, lpB m (dEls (lps W))]) (b := 1) (ver := m) (X := lps W) rfl hWl4 (by simp; omega) (fun h => by
    have h1 : (lps W).length = 0 := by rw [h]; rfl
    rw [lps_len, hPl] at h1
    omega)
  rw [lps_len, hPl] at hclone
  have hg1 : (dEls (lps W))[k]? = some [aI .i64 x.hd, .d (.sl 1 (i64s x.bd)), .d (.sl 1 (i64s x.ex)), aI .i64 x.pa] := by simp [dEls, hrow]
  have hgk : k < m := hklt
  simp [hklt]
  refine aCall_ofc hclone (by kernel_rfl) ?_
  rintro _ _ ⟨rfl, rfl⟩
  simp [hklt, hg1]
  refine aCall_ofs hnest (by kernel_rfl) ?_ (by simp) ?_
  · have hset : (dEls (lps W)).set k [aI .i64 x.hd, .d (.v (.slice none 0 0)), .d (.sl 1 (i64s x.ex)), aI .i64 x.pa] = dEls ((lps W).set k [.v (.int .i64 x.hd), .v (.slice none 0 0), .sl 1 (i64s x.ex), .v (.int .i64 x.pa)]) := by simp [dEls, List.map_set]
    rw [hset]
    have ht : List.take m (dEls ((lps W).set k [.v (.int .i64 x.hd), .v (.slice none 0 0), .sl 1 (i64s x.ex), .v (.int .i64 x.pa)])) = dEls ((lps W).set k [.v (.int .i64 x.hd), .v (.slice none 0 0), .sl 1 (i64s x.ex), .v (.int .i64 x.pa)]) := List.take_of_length_le (by simp [hPl])
    have hn : NLeS ((lps W).set k [.v (.int .i64 x.hd), .v (.slice none 0 0), .sl 1 (i64s x.ex), .v (.int .i64 x.pa)]) (lps (W.set k ⟨x.hd, [], x.ex, x.pa⟩)) := by
      have h1 := NLeS_set (X := lps (W.set k ⟨x.hd, [], x.ex, x.pa⟩)) k [.v (.int .i64 x.hd), .v (.slice none 0 0), .sl 1 (i64s x.ex), .v (.int .i64 x.pa)] (NLeS.refl _) fun y hy => by
        rw [← lps_set, List.getElem?_set_self (by simp [hPl]; omega)] at hy
        obtain rfl := Option.some.inj hy
        exact ⟨_, _, rfl, rfl, _, _, rfl, ⟨rfl, rfl⟩, _, _, rfl, ⟨rfl, NLeS.refl _⟩, _, _, rfl, rfl, rfl⟩
      rwa [← lps_set, List.set_set, lps_set] at h1
    simp [ht, hPl]
    exact hn
  · simp [hklt, hg1]
    have hset : (dEls (lps W)).set k [aI .i64 x.hd, .d (.sl 1 (i64s x.bd)), .d (.sl 1 (i64s x.ex)), aI .i64 (bV (inL L x.hd k m))] = dEls (lps (W.set k ⟨x.hd, x.bd, x.ex, bV (inL L x.hd k m)⟩)) := by
      rw [← lps_set]
      simp [dEls, List.map_set, Lp.d]
    simp [hset, succ_wrap hklt hmm]
    exact hK2 (k + 1) (by omega) (by omega) (Sub.refl _ _ _) 2 (by omega) (by simp [hps, cln_gB]) (by simp)
end Go.Proofs.YtagkfkhagjlmpaaGreat

/- Contracts: the reference's search and its order. -/
namespace Go.Proofs.YtagkfkhagjlmpaaGreat
open Go.RowKit
/-- The search with a list of what has been seen. -/
abbrev LS2 := List Nat × List Nat
def dfsR (E : Nat → List Nat) : Nat → Nat → LS2 → LS2
  | 0, _, s => s
  | f + 1, k, s =>
    let r := (E k).foldl (fun s n => if n ∈ s.1 then s else dfsR E f n s) (s.1 ++ [k], s.2)
    (r.1, r.2 ++ [k])
def dfsQ (E : Nat → List Nat) (f : Nat) (s : LS2) (n : Nat) : LS2 := if n ∈ s.1 then s else dfsR E f n s
theorem dfsR_eq (E : Nat → List Nat) (f k : Nat) (s : LS2) : dfsR E (f + 1) k s = (((E k).foldl (dfsQ E f) (s.1 ++ [k], s.2)).1, ((E k).foldl (dfsQ E f) (s.1 ++ [k], s.2)).2 ++ [k]) := rfl
/-- Both stand at the same. -/
structure RS (n : Nat) (s : DS2) (t : LS2) : Prop where
  len : s.1.length = n
  nd : t.1.Nodup
  lt : ∀ x ∈ t.1, x < n
  eq : ∀ x, x < n → s.1[x]? = some (decide (x ∈ t.1))
  po : s.2 = t.2
theorem RS.size {n : Nat} {s : DS2} {t : LS2} (h : RS n s t) : t.1.length ≤ n := nodup_len h.nd h.lt
theorem dfs_rel {n : Nat} {E : Nat → List Nat} (hE : ∀ i, i < n → ∀ x ∈ E i, x < n) : ∀ (f k : Nat) (s : DS2) (t : LS2), RS n s t → k < n → k ∉ t.1 → RS n (dfsV E f k s) (dfsR E f k t)
  | 0, _, _, _, h, _, _ => h
  | f + 1, k, s, t, h, hk, hkt => by
    have h0 : RS n (s.1.set k true, s.2) (t.1 ++ [k], t.2) := by
      refine ⟨by simp [h.len], ?_, fun x hx => ?_, fun x hx => ?_, h.po⟩
      · rw [List.nodup_append]
        exact ⟨h.nd, by simp, fun a ha b hb => by simp at hb; subst hb; exact fun e => hkt (e ▸ ha)⟩
      · rcases List.mem_append.1 hx with hx | hx
        · exact h.lt x hx
        · simp at hx; omega
      · by_cases hxk : k = x
        · subst hxk
          rw [List.getElem?_set_self (by rw [h.len]; exact hk)]
          simp
        · rw [List.getElem?_set_ne hxk, h.eq x hx]
          have : ¬ x = k := fun e => hxk e.symm
          simp [this]
    have step : ∀ (s : DS2) (t : LS2) (x : Nat), x < n → RS n s t → RS n (dfsS E f s x) (dfsQ E f t x) := fun s t x hx h => by
      unfold dfsS dfsQ
      rw [h.eq x hx]
      by_cases hxt : x ∈ t.1
      · simp [hxt]; exact h
      · simp [hxt]; exact dfs_rel hE f x s t h hx hxt
    have fold : ∀ (l : List Nat) (s : DS2) (t : LS2), (∀ x ∈ l, x < n) → RS n s t → RS n (l.foldl (dfsS E f) s) (l.foldl (dfsQ E f) t) := by
      intro l
      induction l with
      | nil => exact fun s t _ h => h
      | cons x l ih =>
        intro s t hl h
        rw [List.foldl_cons, List.foldl_cons]
        exact ih _ _ (fun y hy => hl y (by simp [hy])) (step s t x (hl x (by simp)) h)
    have hf := fold (E k) _ _ (hE k hk) h0
    rw [dfsV_eq, dfsR_eq]
    exact ⟨hf.len, hf.nd, hf.lt, hf.eq, by simp only; rw [hf.po]⟩
abbrev scB (S P : List Nat) : Blk := ⟨0, true, 158, 2, [[.own 1 S.length 0 S.length, .own 2 P.length 0 P.length]]⟩
abbrev scZ : Blk := ⟨0, true, 158, 2, [[.d (.v (.slice none 0 0)), .d (.v (.slice none 0 0))]]⟩
abbrev vHp (B : Blk) (t : LS2) (N : AHeap) : AHeap := B :: nbk t.1.length (nI t.1) :: nbk t.2.length (nI t.2) :: N
abbrev scV (t : LS2) : AV := .agg [.own 1 t.1.length 0 t.1.length, .own 2 t.2.length 0 t.2.length]
set_option maxRecDepth 100000 in
set_option maxHeartbeats 1000000 in
theorem r24visit_ac (g : Gr) (hg : GrFit g) (B : Blk) : ∀ (f k : Nat) (s : DS2) (t : LS2) (N : AHeap), RS g.b.length s t → k < g.b.length → k ∉ t.1 → cntF s.1 ≤ f → s.2.length + cntF s.1 ≤ g.b.length →
    AC Tryz.prog 113 [grV g, aI .i64 k, scV t] (vHp B t N) (fun r A' => r = scV (dfsR (edgN g) f k t) ∧ ∃ N', A' = vHp B (dfsR (edgN g) f k t) (N ++ N'))
  | 0, k, s, t, N, h, hk, hkt, hf, _ => by
    have h1 := h.eq k hk
    have : s.1[k]? = some false := by rw [h1]; simp [hkt]
    have := cntF_set this
    omega
  | f + 1, k, s, t, N, h, hkn, hkt, hf, hsum => by
    have hgl : g.b.length ≤ maxLen := by have := hg.1; unfold maxLen; omega
    have hg1 := hg.1
    have hk : s.1[k]? = some false := by rw [h.eq k hkn]; simp [hkt]
    have hset := cntF_set hk
    have hE : ∀ x ∈ edgN g k, x < g.b.length := edgN_lt (edgOk g) k hkn
    have hEl := edgN_len hg k
    have n1 : (edgN g k).length ≤ maxLen := by unfold maxLen; omega
    have hkeep := fun i => fold_keep (edgN_lt (edgOk g)) f ((edgN g k).take i) (s.1.set k true, s.2) (fun x hx => hE x (List.mem_of_mem_take hx)) (by simpa using h.len) (by simp only; omega)
    have hce := r24edges_af g hg k hkn
    have hts := h.size
    have htp := h.po
    have htp2 := congrArg List.length htp
    -- both searches side by side
    have h0 : RS g.b.length (s.1.set k true, s.2) (t.1 ++ [k], t.2) := by
      refine ⟨by simp [h.len], ?_, fun x hx => ?_, fun x hx => ?_, h.po⟩
      · rw [List.nodup_append]
        exact ⟨h.nd, by simp, fun a ha b hb => by simp at hb; subst hb; exact fun e => hkt (e ▸ ha)⟩
      · rcases List.mem_append.1 hx with hx | hx
        · exact h.lt x hx
        · simp at hx; omega
      · by_cases hxk : k = x
        · subst hxk
          rw [List.getElem?_set_self (by rw [h.len]; exact hkn)]
          simp
        · rw [List.getElem?_set_ne hxk, h.eq x hx]
          have : ¬ x = k := fun e => hxk e.symm
          simp [this]
    have hrel : ∀ i, RS g.b.length (((edgN g k).take i).foldl (dfsS (edgN g) f) (s.1.set k true, s.2)) (((edgN g k).take i).foldl (dfsQ (edgN g) f) (t.1 ++ [k], t.2)) := by
      intro i
      have step : ∀ (s : DS2) (t : LS2) (x : Nat), x < g.b.length → RS g.b.length s t → RS g.b.length (dfsS (edgN g) f s x) (dfsQ (edgN g) f t x) := fun s t x hx h => by
        unfold dfsS dfsQ
        rw [h.eq x hx]
        by_cases hxt : x ∈ t.1
        · simp [hxt]; exact h
        · simp [hxt]; exact dfs_rel (edgN_lt (edgOk g)) f x s t h hx hxt
      have : ∀ (l : List Nat) (s : DS2) (t : LS2), (∀ x ∈ l, x < g.b.length) → RS g.b.length s t → RS g.b.length (l.foldl (dfsS (edgN g) f) s) (l.foldl (dfsQ (edgN g) f) t) := by
        intro l
        induction l with
        | nil => exact fun s t _ h => h
        | cons x l ih =>
          intro s t hl h
          rw [List.foldl_cons, List.foldl_cons]
          exact ih _ _ (fun y hy => hl y (by simp [hy])) (step s t x (hl x (by simp)) h)
      exact this _ _ _ (fun x hx => hE x (List.mem_of_mem_take hx)) h0
    refine ac_of Tryz.func113 rfl (by kernel_rfl) (by simp [Tryz.ntmps113]) fun hb => ?_
    clear hb
    rw [dfsR_eq]
    obtain ⟨S, P⟩ := t
    simp only at hts htp htp2 hkt h0 hrel ⊢
    simp [Tryz.f113]
    refine aRaw_app byt_49 ?_
    simp
    refine ⟨by unfold maxLen; omega, by omega, ?_⟩
    refine aCall_of hce (by kernel_rfl) (by simp) ?_
    simp
    obtain ⟨q, hq⟩ : ∃ q : Nat → LS2, q = fun i => ((edgN g k).take i).foldl (dfsQ (edgN g) f) (S ++ [k], P) := ⟨_, rfl⟩
    have hq0 : q 0 = (S ++ [k], P) := by rw [hq]; simp
    have hqe : q (edgN g k).length = (edgN g k).foldl (dfsQ (edgN g) f) (S ++ [k], P) := by rw [hq]; simp only [List.take_length]
    have hqs : ∀ (i x : Nat), (edgN g k)[i]? = some x → q (i + 1) = dfsQ (edgN g) f (q i) x := fun i x hx => by rw [hq]; exact foldl_take (dfsQ (edgN g) f) (edgN g k) i x (S ++ [k], P) hx
    have hqr : ∀ i, RS g.b.length (((edgN g k).take i).foldl (dfsS (edgN g) f) (s.1.set k true, s.2)) (q i) := fun i => by rw [hq]; exact hrel i
    rw [← hqe]
    clear hrel hq hqe
    generalize edgN g k = E at *
    refine aLoop_of (α := Nat) (fun i e A => i ≤ E.length ∧ (∃ N', A = vHp B (q i) (N ++ gB g :: scB (q i).1 (q i).2 :: scZ :: N')) ∧ e 1 = aI .i64 k ∧ e 3 = .ptr (N.length + 1 + 1 + 1) 0 0 0 ∧ e 5 = .ptr (N.length + 1 + 1 + 1 + 1) 0 0 0 ∧ e 6 = .ptr (N.length + 1 + 1 + 1 + 1 + 1) 0 0 0 ∧ e 7 = .d (.sl 1 (i64s (nI E))) ∧ e 8 = aI .i64 i)
      (fun i => E.length - i) 0 (Sub.refl _ _ _) ⟨by omega, ⟨[nbk 0 [(k : Int)]], by simp [hq0]⟩, by simp, by simp, by simp, by simp, by simp, by simp⟩ ?_
    rintro i e A ⟨hi, ⟨N', rfl⟩, e1, e3, e5, e6, e7, e8⟩ K hK
    have hri := hqr i
    have hrs := hri.size
    have hkp := hkeep i
    have h1 := hkp.sum
    have h2 := hkp.le
    simp only at h1 h2
    have hpl := congrArg List.length hri.po
    rcases Nat.lt_or_ge i E.length with hlt | hge
    case inr =>
      obtain rfl : i = E.length := by omega
      obtain ⟨T, hT⟩ : ∃ T, q E.length = T := ⟨_, rfl⟩
      rw [hT] at hrs hpl ⊢
      simp [e1, e3, e5, e6, e7, e8]
      refine aRaw_app byt_49 ?_
      simp [e1, e3, e5, e6]
      exact ⟨by unfold maxLen; omega, by omega⟩
    obtain ⟨x, hx⟩ : ∃ x, E[i]? = some x := ⟨_, List.getElem?_eq_getElem hlt⟩
    have hx2 := (List.getElem?_eq_some_iff.1 hx).2
    have hxn := hE x (List.mem_of_getElem? hx)
    have hst := hqs i x hx
    obtain ⟨Q, hQ⟩ : ∃ Q, (E.take i).foldl (dfsS (edgN g) f) (s.1.set k true, s.2) = Q := ⟨_, rfl⟩
    rw [hQ] at hri hkp h1 h2 hpl
    obtain ⟨T, hT⟩ : ∃ T, q i = T := ⟨_, rfl⟩
    rw [hT] at hri hrs hpl hst ⊢
    have hha := r24hasN_af T.1 x (by omega)
    simp [e1, e3, e5, e6, e7, e8, hlt]
    refine adraw [] (by kernel_rfl) (by kernel_rfl) (by kernel_rfl) (by kernel_rfl) ?_
    simp [e1, e3, e5, e6, e7, e8, hlt, hx, hx2]
    refine adC_ofs hha (by kernel_rfl) trivial (by simp) (by simp) (by simp) ?_
    by_cases hin : x ∈ T.1
    · have hq1 : q (i + 1) = T := by rw [hst]; unfold dfsQ; rw [if_pos hin]
      simp [hin, e8, succ_wrap hlt n1]
      exact hK (i + 1) _ _ _ _ (Sub.refl _ _ _) ⟨by omega, ⟨N', by rw [hq1]⟩, by simp [e1], by simp [e3], by simp [e5], by simp [e6], by simp [e7], by simp⟩ (by omega)
    · have hq1 : q (i + 1) = dfsR (edgN g) f x T := by rw [hst]; unfold dfsQ; rw [if_neg hin]
      simp [hin]
      refine adraw2 6 [] (by kernel_rfl) (by kernel_rfl) (by kernel_rfl) (by kernel_rfl) (by kernel_rfl) ?_
      simp [e1, e3, e5, e6, e7, e8, hlt, hx, hx2]
      refine aCall_ofc (r24visit_ac g hg B f x Q T (N ++ gB g :: scB T.1 T.2 :: scZ :: N') hri hxn hin (by omega) (by omega)) (by kernel_rfl) ?_
      rintro _ _ ⟨rfl, N2, rfl⟩
      simp [e1, e3, e5, e6, e7, e8, succ_wrap hlt n1]
      refine hK (i + 1) _ _ _ _ (Sub.refl _ _ _) ⟨by omega, ⟨N' ++ N2, by simp [hq1]⟩, by simp [e1], by simp [e3], by simp [e5], by simp [e6], by simp [e7], by simp⟩ (by omega)
theorem VLe.nil2 {A : AHeap} {b b' ver ver' : Nat} {k k' : Blk} (h : A[b]? = some k) (hv : ver = k.ver) (h' : A[b']? = some k') (hv' : ver' = k'.ver) : VLe A (.agg [.d (.v (.slice none 0 0)), .d (.v (.slice none 0 0))]) (.agg [.own b ver 0 0, .own b' ver' 0 0]) := by
  intro H ι w u hR hu
  have h1 := fun u => VLe.nil_own h hv H ι w u hR
  have h2 := fun u => VLe.nil_own h' hv' H ι w u hR
  obtain ⟨hs, hm⟩ := hu
  simp only [Shp] at hs
  obtain ⟨l, rfl, hs⟩ := hs
  simp only [ShpL] at hs
  obtain ⟨u1, l1, rfl, s1, u2, l2, rfl, s2, rfl⟩ := hs
  simp only [Mem] at hm
  obtain ⟨l', e, hm, ho⟩ := hm
  have : [u1, u2] = l' := by simpa using e
  subst this
  simp only [MemL] at hm
  obtain ⟨v1, k1, e1, m1, v2, k2, e2, m2, _⟩ := hm
  obtain ⟨rfl, rfl⟩ := List.cons.inj e1
  obtain ⟨rfl, rfl⟩ := List.cons.inj e2
  obtain ⟨p1, p2⟩ := h1 _ ⟨s1, m1⟩
  obtain ⟨p3, p4⟩ := h2 _ ⟨s2, m2⟩
  refine ⟨?_, ?_⟩
  · simp only [Shp]
    exact ⟨_, rfl, by simp only [ShpL]; exact ⟨_, _, rfl, p1, _, _, rfl, p3, rfl⟩⟩
  · simp only [Mem]
    exact ⟨_, rfl, by simp only [MemL]; exact ⟨_, _, rfl, p2, _, _, rfl, p4, rfl⟩, ho⟩
set_option maxRecDepth 100000 in
theorem r24order_af (g : Gr) (hg : GrFit g) : AF Tryz.prog 63 [grV g] (.d (.sl 1 (i64s (nI (ordN g))))) := by
  have hgl : g.b.length ≤ maxLen := by have := hg.1; unfold maxLen; omega
  have hg1 := hg.1
  refine af_of Tryz.func63 rfl (by kernel_rfl) (by simp [Tryz.ntmps63]) fun _ => ?_; simp [Tryz.f63, Ex.d_eq]
  by_cases h0 : g.b.length = 0
  · have hb : g.b = [] := List.eq_nil_of_length_eq_zero h0
    simp [ordN, hb]
  have hpos : 0 < g.b.length := by omega
  have hne : ¬ g.b = [] := fun h => by rw [h] at h0; exact h0 rfl
  have hrs : RS g.b.length (List.replicate g.b.length false, []) ([], []) := ⟨by simp, by simp, by simp, fun x hx => by simp [hx], rfl⟩
  have hv := r24visit_ac g hg (gB g) g.b.length 0 (List.replicate g.b.length false, []) ([], []) [] hrs hpos (by simp) (by simp only; rw [cntF_rep]; exact Nat.le_refl _) (by simp only; rw [cntF_rep]; simp)
  have hrel := dfs_rel (edgN_lt (edgOk g)) g.b.length 0 _ _ hrs hpos (by simp)
  have hpo : (dfsR (edgN g) g.b.length 0 ([], [])).2 = postN g := hrel.po.symm
  have hpl := postN_len (edgOk g) hpos
  have hord : nI (ordN g) = nI (postN g).reverse := by unfold ordN; rw [if_neg h0]
  obtain ⟨P, hP⟩ : ∃ P, postN g = P := ⟨_, rfl⟩
  obtain ⟨T, hT⟩ : ∃ T, dfsR (edgN g) g.b.length 0 ([], []) = T := ⟨_, rfl⟩
  rw [hT] at hv hpo
  rw [hP] at hpo hpl hord
  have hPl : P.length ≤ maxLen := by omega
  simp [hne]
  refine aCall_ofc (AC.pre (args' := [grV g, aI .i64 0, scV ([], [])]) (Sub.trans (Sub.ghost 0 3 1) (Sub.trans (Sub.ghost 0 3 1) (Sub.slot (s := 2) (c := scV ([], [])) (VLe.nil2 (k := ⟨0, true, 3, 1, []⟩) (k' := ⟨0, true, 3, 1, []⟩) rfl rfl rfl rfl)))) rfl hv) (by kernel_rfl) ?_
  rintro _ _ ⟨rfl, N, rfl⟩
  obtain ⟨S, P'⟩ := T
  simp only at hpo
  subst hpo
  rw [hord]
  have hw0 : IntKind.i64.wrap ((P'.length : Int) - 1) = (P'.length : Int) - 1 := i64w (by omega)
  simp [hw0]
  refine aLoop_st (fun j : Nat => [(3, .own 3 j 0 j), (4, .own 2 P'.length 0 P'.length), (5, aI .i64 ((P'.length : Int) - 1 - j))]) (fun j => [gB g, nbk S.length (nI S), nbk P'.length (nI P'), nbk j (nI (P'.reverse.take j))]) (fun j => j ≤ P'.length) (fun j => P'.length - j) 0
    ((Sub.take 3 (by omega)).trans ((Sub.ghost 0 3 1).trans (Sub.slot (s := 3) (c := .own 3 0 0 0) (by simp; exact VLe.nil_own (k := ⟨0, true, 3, 1, []⟩) (by simp) rfl)))) 4 (by omega) (by simp [cln_gB]) (by simp [hw0]) (by omega) ?_
  rintro j hj K hK
  rcases Nat.lt_or_ge j P'.length with hlt | hge
  case inr =>
    obtain rfl : j = P'.length := by omega
    have ht : (nI P'.reverse).take P'.length = nI P'.reverse := List.take_of_length_le (by simp)
    have hm1 : ¬ (P'.length : Int) ≤ (P'.length : Int) - 1 := by omega
    have ht2 : List.take P'.length (i64s (nI P'.reverse)) = i64s (nI P'.reverse) := List.take_of_length_le (by simp)
    have ht3 : P'.reverse.take P'.length = P'.reverse := List.take_of_length_le (by simp)
    rw [ht3]
    simp [hm1]
    simp at ht2
    simp [ht2]
  obtain ⟨x, hx⟩ : ∃ x, P'[P'.length - 1 - j]? = some x := ⟨_, List.getElem?_eq_getElem (by omega)⟩
  have hxe := nbk_get (X := nI P') (i := P'.length - 1 - j) (a := (x : Int)) (by simp [hx])
  have hrx : P'.reverse[j]? = some x := by rw [List.getElem?_reverse hlt, hx]
  have hst : nI (P'.reverse.take (j + 1)) = nI (P'.reverse.take j) ++ [(x : Int)] := by
    rw [List.take_add_one, hrx]
    simp
  have hm1 : (j : Int) ≤ (P'.length : Int) - 1 := by omega
  have hm2 : ((P'.length : Int) - 1 - (j : Int)).toNat = P'.length - 1 - j := by omega
  have hm3 : (P'.length : Int) - 1 - (j : Int) < (P'.length : Int) := by omega
  have hw1 : IntKind.i64.wrap ((P'.length : Int) - 1 - (j : Int) - 1) = (P'.length : Int) - 1 - ((j + 1 : Nat) : Int) := by rw [i64w (by omega)]; omega
  have ht : (nI (P'.reverse.take j)).length = j := by simp; omega
  have ht1 : min j P'.length = j := by omega
  simp [hm1, hm2, hm3, hxe]
  refine aRaw_app byt_49 ?_
  simp [ht1]
  refine ⟨by omega, by omega, ?_⟩
  simp [hw1]
  exact hK (j + 1) (by omega) (by omega) (Sub.refl _ _ _) 4 (by omega) (by simp [cln_gB, hst]) (by simp)
end Go.Proofs.YtagkfkhagjlmpaaGreat

/- Contracts: law 35's example, large. -/
namespace Go.Proofs.YtagkfkhagjlmpaaGreat
open Go.RowKit
/-- The chapter's first graph. -/
def exG : Gr := ⟨0, [⟨0, [⟨6, 0, 0, 1, 0, 0, [], []⟩]⟩, ⟨0, [⟨7, 0, 0, 1, 2, 0, [Ex.mk 2 0 0 0 []], []⟩]⟩, ⟨0, [⟨10, 0, 0, 0, 0, 0, [], []⟩]⟩]⟩
theorem l35g_af : AF Tryz.prog 19 [] (grV exG) := by
  refine af_of Tryz.func19 rfl (by kernel_rfl) (by simp [Tryz.ntmps19]) fun _ => ?_; simp [Tryz.f19, Ex.d_eq]
  simp [exG, Bl.d_eq, St.d_eq, Ex.d_eq]
theorem exG_fit : GrFit exG := ⟨by simp [exG], fun b hb => by
  simp [exG] at hb
  rcases hb with rfl | rfl | rfl <;> simp⟩
theorem exG_len : exG.b.length = 3 := rfl
theorem exG_e0 : edgN exG 0 = [1] := by kernel_rfl
theorem exG_e1 : edgN exG 1 = [1, 2] := by kernel_rfl
theorem exG_e2 : edgN exG 2 = [] := by kernel_rfl
theorem exG_ord : ordN exG = [0, 1, 2] := by kernel_rfl
theorem exG_b0 : bkRow exG 0 = [] := by kernel_rfl
theorem exG_b2 : bkRow exG 2 = [] := by kernel_rfl
theorem exG_back : bkL exG 3 = [(1, 1)] := by kernel_rfl
theorem exG_d1 : domB exG 1 1 = true := by kernel_rfl
theorem exG_in (x : Nat) : InBody exG 1 x ↔ x = 1 := by
  constructor
  · rintro (h | ⟨_, a, ha, hp⟩)
    · exact h
    · exfalso
      have han := dgN_lt (edgOk exG) (bkRow_rc ha).1
      rw [exG_len] at han
      have := hp.last
      rcases (show a = 0 ∨ a = 1 ∨ a = 2 by omega) with rfl | rfl | rfl
      · rw [exG_b0] at ha; cases ha
      · exact this rfl
      · rw [exG_b2] at ha; cases ha
  · rintro rfl; exact .inl rfl
theorem exG_body : bodyL exG 1 = [1] := by
  refine nI_inj (asc_ext (bodyL_asc exG 1) (by simp [Asc]) fun v => ?_)
  rw [nI_mem]
  constructor
  · rintro ⟨x, hx, rfl⟩
    rw [(exG_in x).1 (bodyL_mem.1 hx).2]
    simp
  · intro hv
    simp at hv
    subst hv
    exact ⟨1, bodyL_mem.2 ⟨by rw [exG_len]; omega, (exG_in 1).2 rfl⟩, rfl⟩
theorem exG_exit : exitL exG 1 = [2] := by
  refine nI_inj (asc_ext (exitL_asc exG 1) (by simp [Asc]) fun v => ?_)
  rw [nI_mem]
  constructor
  · rintro ⟨x, hx, rfl⟩
    obtain ⟨_, h2, b, h3, h4⟩ := exitL_mem.1 hx
    rw [exG_body] at h2 h3
    simp at h2 h3
    subst h3
    rw [exG_e1] at h4
    simp at h4
    rcases h4 with h4 | h4
    · exact absurd h4 h2
    · subst h4; simp
  · intro hv
    simp at hv
    subst hv
    exact ⟨2, exitL_mem.2 ⟨by rw [exG_len]; omega, by rw [exG_body]; simp, 1, by rw [exG_body]; simp, by rw [exG_e1]; simp⟩, rfl⟩
theorem exG_find : findL exG = [⟨1, [1], [2], -1⟩] := by
  have h1 : fnd0 exG (ordN exG) = [lpOf exG 1] := by
    unfold fnd0
    rw [exG_ord]
    have : ([0, 1, 2] : List Nat).filter (isHd exG) = [1] := by
      unfold isHd
      rw [show exG.b.length = 3 from rfl, exG_back]
      rfl
    rw [this]
    rfl
  unfold findL
  rw [h1]
  simp only [lpOf, exG_body, exG_exit]
  rfl
theorem exG_red (Y : Nat → Prop) (hY : SuccSt exG.b.length (fun b p => NB exG p b) Y) (b : Nat) : ¬ Y b := by
  have key : ∀ p c, NB exG p c → (p = 0 ∧ c = 1) ∨ (p = 1 ∧ c = 2) := by
    rintro p c ⟨h1, h2, h3⟩
    have hp := dgN_lt (edgOk exG) h1
    rw [exG_len] at hp
    rcases (show p = 0 ∨ p = 1 ∨ p = 2 by omega) with rfl | rfl | rfl
    · rw [exG_e0] at h2; simp at h2; exact .inl ⟨rfl, h2⟩
    · rw [exG_e1] at h2
      simp at h2
      rcases h2 with rfl | rfl
      · rw [exG_d1] at h3; cases h3
      · exact .inr ⟨rfl, rfl⟩
    · rw [exG_e2] at h2; cases h2
  have h0 : ¬ Y 0 := fun h => by
    obtain ⟨_, p, _, hp⟩ := hY 0 h
    rcases key p 0 hp with ⟨_, h⟩ | ⟨_, h⟩ <;> omega
  have h1 : ¬ Y 1 := fun h => by
    obtain ⟨_, p, hy, hp⟩ := hY 1 h
    rcases key p 1 hp with ⟨h2, _⟩ | ⟨_, h2⟩
    · subst h2; exact h0 hy
    · omega
  intro h
  obtain ⟨_, p, hy, hp⟩ := hY b h
  rcases key p b hp with ⟨h2, _⟩ | ⟨h2, _⟩
  · subst h2; exact h0 hy
  · subst h2; exact h1 hy
theorem l35ex_af : AF Tryz.prog 7 [] (aB true) := by
  have hB := lpback_af exG exG_fit (by rw [exG_len]; omega)
  rw [exG_len, exG_back] at hB
  have hF := lpfind_af exG exG_fit (by rw [exG_len]; omega)
  rw [exG_find] at hF
  obtain ⟨r, hr, hR⟩ := lpred_one exG exG_fit (by rw [exG_len]; omega)
  have : r = true := hr.2 exG_red
  subst this
  have hg := l35g_af
  generalize exG = g at *
  refine af_of Tryz.func7 rfl (by kernel_rfl) (by simp [Tryz.ntmps7]) fun _ => ?_; simp [Tryz.f7, Ex.d_eq]
  refine aCall_of hg (by kernel_rfl) (by simp) ?_
  simp
  refine aCall_of hB (by kernel_rfl) (by simp) ?_
  simp
  refine aCall_of hg (by kernel_rfl) (by simp) ?_
  simp
  refine aCall_of hF (by kernel_rfl) (by simp) ?_
  have hc3 : Tryz.prog.cellsOf 3 = 1 := by kernel_rfl
  have heq := eqIs_two (P := Tryz.prog) (el := 3) Tryz.underlying3 1 1 1 1
  simp [-eqIs, prs, lps, Lp.d, hc3, heq]
  change aSet _ _ _ _ _
  simp
  refine aCall_of hg (by kernel_rfl) (by simp) ?_
  simp
  refine aCall_of hR (by kernel_rfl) (by simp) ?_
  simp
/-- How many statements the first blocks have. -/
def lrgS : List Bl → Nat → Bool
  | [], _ => false
  | b :: l, n => if 300 < n + b.s.length then true else lrgS l (n + b.s.length)
def lrg35 (g : Gr) : Bool := decide (30 < g.b.length) || !smallG g 70 || lrgS g.b 0
theorem l35large_af (g : Gr) : AF Tryz.prog 5 [grV g] (aB (lrg35 g)) := by
  obtain ⟨R, hR⟩ : ∃ R, lrg35 g = R := ⟨_, rfl⟩
  rw [hR]
  unfold lrg35 at hR
  refine af_of Tryz.func5 rfl (by kernel_rfl) (by simp [Tryz.ntmps5]) fun _ => ?_; simp [Tryz.f5, Ex.d_eq]
  by_cases h3 : 30 < g.b.length
  · simp [h3] at hR
    subst hR
    simp [show (30 : Int) < g.b.length by omega]
  have hl : g.b.length ≤ maxLen := by unfold maxLen; omega
  simp [h3] at hR
  simp [show ¬ (30 : Int) < g.b.length by omega]
  refine aCall_of (smallg_af g 70 (by omega) (by omega)) (by kernel_rfl) (by simp) ?_
  cases hs : smallG g 70 with
  | false =>
    simp [hs] at hR
    subst hR
    simp
  | true =>
    have hfit := smallG_fit hs
    simp [hs] at hR
    simp
    refine aLoop_st (α := Nat × Nat) (fun p => [(1, .ptr 0 0 0 0), (3, aI .i64 p.2), (4, aI .i64 p.1)]) (fun _ => [gB g]) (fun p => p.1 ≤ g.b.length ∧ p.2 ≤ 300 ∧ lrgS (g.b.drop p.1) p.2 = R) (fun p => g.b.length - p.1) (0, 0) (Sub.refl _ _ _) 1 (by omega) (by simp [cln_gB]) (by simp) ⟨by omega, by omega, by simpa using hR⟩ ?_
    rintro ⟨i, n⟩ ⟨hi, hn, hx⟩ K hK
    simp only at hi hn hx hK ⊢
    rcases Nat.lt_or_ge i g.b.length with hlt | hge
    case inr =>
      obtain rfl : i = g.b.length := by omega
      simp [lrgS] at hx
      subst hx
      simp
    obtain ⟨b, hb⟩ : ∃ b, g.b[i]? = some b := ⟨_, List.getElem?_eq_getElem hlt⟩
    have hb2 := (List.getElem?_eq_some_iff.1 hb).2
    have hbl := (hfit.2.2 b (List.mem_of_getElem? hb)).1
    have hdrop : g.b.drop i = b :: g.b.drop (i + 1) := by rw [List.drop_eq_getElem_cons hlt, hb2]
    rw [hdrop, lrgS] at hx
    have hw : IntKind.i64.wrap ((n : Int) + (b.s.length : Int)) = ((n + b.s.length : Nat) : Int) := by rw [i64w (by omega)]; omega
    simp [hlt, hb, hb2, Bl.d_eq, hw]
    by_cases h4 : 300 < n + b.s.length
    · rw [if_pos h4] at hx
      subst hx
      simp [show (300 : Int) < (n : Int) + (b.s.length : Int) by omega]
    · rw [if_neg h4] at hx
      simp [show ¬ (300 : Int) < (n : Int) + (b.s.length : Int) by omega, succ_wrap hlt hl]
      exact hK (i + 1, n + b.s.length) ⟨by simp only; omega, by simp only; omega, hx⟩ (by simp only; omega) (Sub.refl _ _ _) 1 (by omega) (by simp [cln_gB]) (by simp)
theorem lrg35_fit {g : Gr} (h : lrg35 g = false) : GrFit g ∧ g.b.length ≤ 30 := by
  unfold lrg35 at h
  simp at h
  exact ⟨(smallG_fit h.1.2).1, h.1.1⟩
end Go.Proofs.YtagkfkhagjlmpaaGreat
