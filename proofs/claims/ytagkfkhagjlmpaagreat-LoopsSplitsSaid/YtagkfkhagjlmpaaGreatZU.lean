/- Texts that the claim leans on, laid one behind the other: Xe, Xf, Xh, Xi, Xj, Xk, Xg, Xl, Xm, Xn, Xo, Xp, Xq, Xr. -/
import Derived.Test.YtagkfkhagjlmpaaGreatZR
import Derived.Test.YtagkfkhagjlmpaaGreatAF
import Derived.Test.YtagkfkhagjlmpaaGreatZZ
import Derived.Test.YtagkfkhagjlmpaaGreatAB
import Derived.Test.YtagkfkhagjlmpaaGreatZP
set_option linter.unusedSimpArgs false
set_option linter.unusedVariables false
set_option linter.unnecessarySimpa false
/- Plain: the first retreating edge that is not a back edge. -/
namespace Go.Proofs.YtagkfkhagjlmpaaGreat
open Go.RowKit
/-- An edge that would be bad. -/
def qBad (g : Gr) (a b : Nat) : Bool := (edgN g a).contains b && !domB g b a
/-- Its target, of a's edges backwards: the first one in order. -/
def badAt (g : Gr) (i : Nat) : Option (Nat × Nat) := match (ordN g)[i]? with
  | some a => (((ordN g).take (i + 1)).find? (qBad g a)).map fun b => (a, b)
  | none => none
def badUp (g : Gr) (i : Nat) : Option (Nat × Nat) := (List.range i).findSome? (badAt g)
def badG (g : Gr) : Option (Nat × Nat) := badUp g (ordN g).length
theorem badUp_succ (g : Gr) (i : Nat) : badUp g (i + 1) = (badUp g i).or (badAt g i) := by
  unfold badUp
  rw [List.range_succ, List.findSome?_append]
  simp
theorem badUp_more {g : Gr} {i : Nat} {p : Nat × Nat} (h : badUp g i = some p) : ∀ j, badUp g (i + j) = some p
  | 0 => h
  | j + 1 => by rw [← Nat.add_assoc, badUp_succ, badUp_more h j]; rfl
theorem badG_at {g : Gr} {i a b : Nat} (h0 : badUp g i = none) (ha : (ordN g)[i]? = some a) (hb : ((ordN g).take (i + 1)).find? (qBad g a) = some b) : badG g = some (a, b) := by
  have hi := (List.getElem?_eq_some_iff.1 ha).1
  have h1 : badUp g (i + 1) = some (a, b) := by
    rw [badUp_succ, h0, badAt, ha]
    simp [hb]
  have := badUp_more h1 ((ordN g).length - (i + 1))
  rwa [show i + 1 + ((ordN g).length - (i + 1)) = (ordN g).length by omega] at this
theorem badUp_none {g : Gr} {i a : Nat} (h0 : badUp g i = none) (ha : (ordN g)[i]? = some a) (hb : ((ordN g).take (i + 1)).find? (qBad g a) = none) : badUp g (i + 1) = none := by
  rw [badUp_succ, h0, badAt, ha]
  simp [hb]
/-- The program's choice, of the edges one by one. -/
def bdstep (g : Gr) (a : Nat) (best : Option Nat) (b : Nat) : Option Nat := if decide ((ordN g).idxOf b ≤ (ordN g).idxOf a) && !domB g b a && (match best with | none => true | some c => decide ((ordN g).idxOf b < (ordN g).idxOf c)) then some b else best
def bdst (g : Gr) (a : Nat) (l : List Nat) : Option Nat := l.foldl (bdstep g a) none
theorem bdst_snoc (g : Gr) (a : Nat) (l : List Nat) (b : Nat) : bdst g a (l ++ [b]) = bdstep g a (bdst g a l) b := by simp [bdst]
/-- What the choice says. -/
theorem bdst_spec (g : Gr) (a : Nat) : ∀ (n : Nat) (l : List Nat), l.length = n → match bdst g a l with
    | none => ∀ b ∈ l, (ordN g).idxOf b ≤ (ordN g).idxOf a → domB g b a = true
    | some c => c ∈ l ∧ (ordN g).idxOf c ≤ (ordN g).idxOf a ∧ domB g c a = false ∧ ∀ b ∈ l, (ordN g).idxOf b ≤ (ordN g).idxOf a → domB g b a = false → (ordN g).idxOf c ≤ (ordN g).idxOf b
  | 0, l, h => by
    obtain rfl := List.eq_nil_of_length_eq_zero h
    simp [bdst]
  | n + 1, l, h => by
    have hne : l ≠ [] := fun e => by rw [e] at h; simp at h
    obtain ⟨m, b, rfl⟩ : ∃ m b, l = m ++ [b] := ⟨_, _, (List.dropLast_concat_getLast hne).symm⟩
    have ih := bdst_spec g a n m (by simpa using h)
    rw [bdst_snoc]
    unfold bdstep
    cases hm : bdst g a m with
    | none =>
      rw [hm] at ih
      simp only at ih
      by_cases h1 : (ordN g).idxOf b ≤ (ordN g).idxOf a
      · cases h2 : domB g b a with
        | true =>
          rw [if_neg (by simp [h2])]
          intro x hx hxa
          rcases List.mem_append.1 hx with h | h
          · exact ih x h hxa
          · obtain rfl : x = b := by simpa using h
            exact h2
        | false =>
          rw [if_pos (by simp [h1, h2])]
          refine ⟨by simp, h1, h2, fun x hx hxa hxd => ?_⟩
          rcases List.mem_append.1 hx with h | h
          · have := ih x h hxa
            rw [this] at hxd
            cases hxd
          · obtain rfl : x = b := by simpa using h
            exact Nat.le_refl _
      · rw [if_neg (by simp [h1])]
        intro x hx hxa
        rcases List.mem_append.1 hx with h | h
        · exact ih x h hxa
        · obtain rfl : x = b := by simpa using h
          exact absurd hxa h1
    | some c =>
      rw [hm] at ih
      obtain ⟨i1, i2, i3, i4⟩ := ih
      simp only
      by_cases h1 : (decide ((ordN g).idxOf b ≤ (ordN g).idxOf a) && !domB g b a && decide ((ordN g).idxOf b < (ordN g).idxOf c)) = true
      · rw [if_pos h1]
        simp only [Bool.and_eq_true, decide_eq_true_eq, Bool.not_eq_true'] at h1
        refine ⟨by simp, h1.1.1, h1.1.2, fun x hx hxa hxd => ?_⟩
        rcases List.mem_append.1 hx with h | h
        · have := i4 x h hxa hxd
          omega
        · obtain rfl : x = b := by simpa using h
          exact Nat.le_refl _
      · rw [if_neg h1]
        refine ⟨by simp [i1], i2, i3, fun x hx hxa hxd => ?_⟩
        rcases List.mem_append.1 hx with h | h
        · exact i4 x h hxa hxd
        · obtain rfl : x = b := by simpa using h
          simp only [Bool.and_eq_true, decide_eq_true_eq, Bool.not_eq_true', not_and] at h1
          have := h1 ⟨hxa, hxd⟩
          omega
theorem ord_lt {g : Gr} {x : Nat} (h : x ∈ ordN g) : x < g.b.length := dgN_lt (edgOk g) (by show (ordN g).contains x = true; simpa using h)
theorem ord_next {g : Gr} (h0 : 0 < g.b.length) {a b : Nat} (ha : a ∈ ordN g) (hb : b ∈ edgN g a) : b ∈ ordN g := by
  have hr : (dgN g).rc a = true := by show (ordN g).contains a = true; simpa using ha
  have := (rc_iff h0 b).2 (.step ((rc_iff h0 a).1 hr) hb trivial)
  have h2 : (ordN g).contains b = true := this
  simpa using h2
/-- The program's choice is the reference's. -/
theorem bdst_find {g : Gr} {i a : Nat} (h0 : 0 < g.b.length) (ha : (ordN g)[i]? = some a) : bdst g a (succR g g.b.length a) = ((ordN g).take (i + 1)).find? (qBad g a) := by
  have hnd := ordN_nodup (edgOk g) h0
  have hil := (List.getElem?_eq_some_iff.1 ha).1
  have hao := List.mem_of_getElem? ha
  have hia : (ordN g).idxOf a = i := by
    have h1 := (List.getElem?_eq_some_iff.1 ha).2
    rw [← h1]
    exact List.Nodup.idxOf_getElem hnd i hil
  have hsp := bdst_spec g a _ (succR g g.b.length a) rfl
  have hrow : ∀ b, b ∈ succR g g.b.length a ↔ b ∈ edgN g a := fun b => by
    rw [succR_mem]
    exact ⟨fun h => h.2, fun h => ⟨ord_lt (ord_next h0 hao h), h⟩⟩
  have htake : ∀ b, b ∈ (ordN g).take (i + 1) ↔ b ∈ ordN g ∧ (ordN g).idxOf b ≤ i := fun b => by
    constructor
    · intro hb
      obtain ⟨k, hk⟩ := List.getElem?_of_mem hb
      rw [List.getElem?_take] at hk
      split at hk
      case isFalse => cases hk
      rename_i hki
      have hk1 := (List.getElem?_eq_some_iff.1 hk).1
      have hk2 := (List.getElem?_eq_some_iff.1 hk).2
      refine ⟨List.mem_of_getElem? hk, ?_⟩
      rw [← hk2, List.Nodup.idxOf_getElem hnd k hk1]
      omega
    · rintro ⟨hb, hle⟩
      have hlt := List.idxOf_lt_length_iff.2 hb
      have hg : (ordN g)[(ordN g).idxOf b]? = some b := by rw [List.getElem?_eq_getElem hlt, List.getElem_idxOf hlt]
      refine List.mem_of_getElem? (i := (ordN g).idxOf b) ?_
      rw [List.getElem?_take, if_pos (by omega), hg]
  cases hm : bdst g a (succR g g.b.length a) with
  | none =>
    rw [hm] at hsp
    simp only at hsp
    symm
    rw [List.find?_eq_none]
    intro b hb
    simp only [qBad, Bool.and_eq_true, List.contains_iff_mem, Bool.not_eq_true', not_and]
    intro hbe hbd
    have := hsp b ((hrow b).2 hbe) (by rw [hia]; exact ((htake b).1 hb).2)
    rw [this] at hbd
    cases hbd
  | some c =>
    rw [hm] at hsp
    obtain ⟨h1, h2, h3, h4⟩ := hsp
    rw [hia] at h2
    have hce := (hrow c).1 h1
    have hco := ord_next h0 hao hce
    have hqc : qBad g a c = true := by simp [qBad, hce, h3]
    symm
    cases hf : ((ordN g).take (i + 1)).find? (qBad g a) with
    | none =>
      rw [List.find?_eq_none] at hf
      exact absurd hqc (hf c ((htake c).2 ⟨hco, h2⟩))
    | some d =>
      obtain ⟨hqd, l1, l2, hab, hno⟩ := List.find?_eq_some_iff_append.1 hf
      have hd : d ∈ (ordN g).take (i + 1) := by rw [hab]; simp
      obtain ⟨hdo, hdi⟩ := (htake d).1 hd
      simp only [qBad, Bool.and_eq_true, List.contains_iff_mem, Bool.not_eq_true'] at hqd
      have hle := h4 d ((hrow d).2 hqd.1) (by rw [hia]; exact hdi) hqd.2
      have hct : c ∈ (ordN g).take (i + 1) := (htake c).2 ⟨hco, h2⟩
      have hcd : c = d := by
        rw [hab, List.mem_append] at hct
        rcases hct with h | h
        · have := hno c h
          rw [hqc] at this
          cases this
        · rcases List.mem_cons.1 h with h | h
          · exact h
          · have hda : (ordN g).idxOf d = l1.length := by
              have hdt : (ordN g)[l1.length]? = some d := by
                have : ((ordN g).take (i + 1))[l1.length]? = some d := by rw [hab]; simp
                rw [List.getElem?_take] at this
                split at this
                · exact this
                · cases this
              have e1 := (List.getElem?_eq_some_iff.1 hdt)
              rw [← e1.2]
              exact List.Nodup.idxOf_getElem hnd _ e1.1
            obtain ⟨k, hk⟩ := List.getElem?_of_mem h
            have hct2 : (ordN g)[l1.length + (k + 1)]? = some c := by
              have : ((ordN g).take (i + 1))[l1.length + (k + 1)]? = some c := by rw [hab, List.getElem?_append_right (by omega)]; simpa using hk
              rw [List.getElem?_take] at this
              split at this
              · exact this
              · cases this
            have e1 := (List.getElem?_eq_some_iff.1 hct2)
            have e2 : (ordN g).idxOf c = l1.length + (k + 1) := by
              rw [← e1.2]
              exact List.Nodup.idxOf_getElem hnd _ e1.1
            omega
      rw [hcd]
theorem badAt_lt {g : Gr} {i a b : Nat} (h : badAt g i = some (a, b)) : a ∈ ordN g ∧ b ∈ ordN g ∧ b ∈ edgN g a ∧ domB g b a = false := by
  unfold badAt at h
  split at h
  case h_2 => cases h
  rename_i x hx
  rw [Option.map_eq_some_iff] at h
  obtain ⟨y, hy, he⟩ := h
  simp only [Prod.mk.injEq] at he
  obtain ⟨rfl, rfl⟩ := he
  have h1 := List.find?_some hy
  simp only [qBad, Bool.and_eq_true, List.contains_iff_mem, Bool.not_eq_true'] at h1
  exact ⟨List.mem_of_getElem? hx, List.mem_of_mem_take (List.mem_of_find?_eq_some hy), h1.1, h1.2⟩
theorem badG_lt {g : Gr} {a b : Nat} (h : badG g = some (a, b)) : a < g.b.length ∧ b < g.b.length ∧ b ∈ edgN g a ∧ domB g b a = false := by
  unfold badG badUp at h
  obtain ⟨i, hi, hb⟩ := List.exists_of_findSome?_eq_some h
  obtain ⟨h1, h2, h3, h4⟩ := badAt_lt hb
  exact ⟨ord_lt h1, ord_lt h2, h3, h4⟩
end Go.Proofs.YtagkfkhagjlmpaaGreat

/- Contracts: the reference of layer 35: bad. -/
namespace Go.Proofs.YtagkfkhagjlmpaaGreat
open Go.RowKit
theorem ordN_get {g : Gr} {i : Nat} (h : i < (ordN g).length) : ∃ a, (ordN g)[i]? = some a ∧ a ∈ ordN g ∧ a < g.b.length := by
  have ha := List.getElem?_eq_getElem h
  exact ⟨_, ha, List.mem_of_getElem? ha, ord_lt (List.mem_of_getElem? ha)⟩
def badV : Option (Nat × Nat) → List AV
  | some p => [aI .i64 p.1, aI .i64 p.2, aB true]
  | none => [aI .i64 0, aI .i64 0, aB false]
set_option maxRecDepth 100000 in
theorem r35bad_af (g : Gr) (hg : GrFit g) (hsm : g.b.length ≤ 400) (h0 : 0 < g.b.length) : AF Tryz.prog 26 [grV g] (.tup (badV (badG g))) := by
  have hgl : g.b.length ≤ maxLen := by unfold maxLen; omega
  obtain ⟨o, ho, _⟩ := dmTree_ex g hg (edgOk g)
  have hT := r24tree_af g hg hsm o ho
  have hO := r24order_af g hg
  have hP := r24preds_af g hg
  have hOl : (ordN g).length ≤ g.b.length := ordN_len (edgOk g)
  obtain ⟨n, hn⟩ : ∃ n, g.b.length = n := ⟨_, rfl⟩
  rw [hn] at hgl
  obtain ⟨O, hOe⟩ : ∃ O, ordN g = O := ⟨_, rfl⟩
  have hget : ∀ i, i < O.length → ∃ a, O[i]? = some a ∧ a ∈ O ∧ a < n := fun i hi => by rw [← hOe] at hi ⊢; rw [← hn]; exact ordN_get hi
  have hOm : O.length ≤ maxLen := by rw [hOe] at hOl; omega
  obtain ⟨R, hR⟩ : ∃ R, badG g = R := ⟨_, rfl⟩
  rw [hR]
  refine af_of Tryz.func26 rfl (by kernel_rfl) (by simp [Tryz.ntmps26]) fun _ => ?_; simp [Tryz.f26, Ex.d_eq]
  refine aCall_of hP (by kernel_rfl) (by simp) ?_
  simp
  refine aCall_of hT (by kernel_rfl) (by simp) ?_
  simp
  refine aCall_of hO (by kernel_rfl) (by simp) ?_
  simp [hn, hOe]
  refine aLoop_st (fun i : Nat => [(1, .ptr 0 0 0 0), (5, .d (.sl 1 (dataT (mkT n (predF g))))), (6, .d (.sl 1 (i64s (oI n o)))), (7, .d (.sl 1 (i64s (nI O)))), (8, aI .i64 i)])
    (fun _ => [gB g]) (fun i => i ≤ O.length ∧ badUp g i = none) (fun i => O.length - i) 0 (Sub.refl _ _ _) 1 (by omega) (by simp [cln_gB]) (by simp) ⟨by omega, rfl⟩ ?_
  rintro i ⟨hi, hbu⟩ K hK
  rcases Nat.lt_or_ge i O.length with hlt | hge
  case inr =>
    obtain rfl : i = O.length := by omega
    have : R = none := by rw [← hR, badG, hOe]; exact hbu
    subst this
    simp [badV]
  obtain ⟨a, ha, hao, han⟩ := hget i hlt
  have hag : (ordN g)[i]? = some a := by rw [hOe]; exact ha
  have ha2 := (List.getElem?_eq_some_iff.1 ha).2
  have hra : (dgN g).rc a = true := by show (ordN g).contains a = true; rw [hOe]; simpa using hao
  simp [hlt]
  refine aLoop_st (fun k : Nat => [(1, .ptr 0 0 0 0), (5, .d (.sl 1 (dataT (mkT n (predF g))))), (6, .d (.sl 1 (i64s (oI n o)))), (7, .d (.sl 1 (i64s (nI O)))), (8, aI .i64 i), (9, aI .i64 k)])
    (fun _ => [gB g]) (fun k => k ≤ i + 1 ∧ (O.take k).find? (qBad g a) = none) (fun k => i + 1 - k) 0 (Sub.refl _ _ _) 1 (by omega) (by simp [cln_gB]) (by simp) ⟨by omega, by simp⟩ ?_
  rintro k ⟨hk, hfn⟩ K2 hK2
  rcases Nat.lt_or_ge i k with hik | hik
  · obtain rfl : k = i + 1 := by omega
    have hnx := badUp_none hbu hag (by rw [hOe]; exact hfn)
    have h1 : ¬ (i : Int) + 1 ≤ (i : Int) := by omega
    simp [h1, succ_wrap hlt hOm]
    exact hK (i + 1) ⟨by omega, hnx⟩ (by omega) (Sub.refl _ _ _) 1 (by omega) (by simp [cln_gB]) (by simp)
  have hkl : k < O.length := by omega
  obtain ⟨b, hb, hbo, hbn⟩ := hget k hkl
  have hb2 := (List.getElem?_eq_some_iff.1 hb).2
  have hle := r35leads_af (mkT n (predF g)) a b (by simpa using hbn) (by rw [mkT_row _ hbn]; have := predF_len g b; omega)
  rw [mkT_row _ hbn] at hle
  have hpe : decide (a ∈ predF g b) = (edgN g a).contains b := by
    rw [Bool.eq_iff_iff, decide_eq_true_eq, predF_mem]
    simp
    omega
  rw [hpe] at hle
  have hd := r24dom_af g (o := o) (by omega) hsm (ho (by omega)) (a := b) (b := a) (by omega) (by omega) hra
  rw [hn] at hd
  have hts : (O.take (k + 1)).find? (qBad g a) = if qBad g a b = true then some b else none := by
    rw [List.take_add_one, hb, List.find?_append, hfn]
    by_cases hq : qBad g a b = true
    · simp [hq]
    · simp [hq]
  have hki : (k : Int) ≤ (i : Int) := by omega
  have hks : IntKind.i64.wrap ((k : Int) + 1) = ((k + 1 : Nat) : Int) := succ_wrap hkl hOm
  have hno : qBad g a b = false → (O.take (k + 1)).find? (qBad g a) = none := fun h => by rw [hts, h]; rfl
  simp [hki, hlt, hkl, ha, ha2, hb, hb2]
  refine aCall_of hle (by kernel_rfl) (by simp) ?_
  cases hco : (edgN g a).contains b with
  | false =>
    have hq : qBad g a b = false := by simp only [qBad, hco, Bool.false_and]
    simp [hks]
    exact hK2 (k + 1) ⟨by omega, hno hq⟩ (by omega) (Sub.refl _ _ _) 1 (by omega) (by simp [cln_gB]) (by simp)
  | true =>
    by_cases hab : a = b
    · have hq : qBad g a b = false := by simp only [qBad, hab, domB_self, Bool.not_true, Bool.and_false]
      subst hab
      simp [hks]
      exact hK2 (k + 1) ⟨by omega, hno hq⟩ (by omega) (Sub.refl _ _ _) 1 (by omega) (by simp [cln_gB]) (by simp)
    · have hab2 : ¬ (a : Int) = (b : Int) := by omega
      simp [hab2, hab]
      refine aCall_of hd (by kernel_rfl) (by simp) ?_
      cases hdm : domB g b a with
      | true =>
        have hq : qBad g a b = false := by simp only [qBad, hdm, Bool.not_true, Bool.and_false]
        simp [hks]
        exact hK2 (k + 1) ⟨by omega, hno hq⟩ (by omega) (Sub.refl _ _ _) 1 (by omega) (by simp [cln_gB]) (by simp)
      | false =>
        have hq : qBad g a b = true := by simp only [qBad, hco, hdm, Bool.not_false, Bool.and_self]
        have hfk : ((ordN g).take (i + 1)).find? (qBad g a) = some b := by
          have h1 : (O.take (k + 1)).find? (qBad g a) = some b := by rw [hts, if_pos hq]
          have h2 : O.take (i + 1) = O.take (k + 1) ++ (O.drop (k + 1)).take (i - k) := by
            rw [← List.take_add]
            congr 1
            omega
          rw [hOe, h2, List.find?_append, h1]
          rfl
        have hRs : R = some (a, b) := by rw [← hR]; exact badG_at hbu hag hfk
        subst hRs
        simp [badV]
end Go.Proofs.YtagkfkhagjlmpaaGreat

/- Contracts: the reference of layer 35: turned. -/
namespace Go.Proofs.YtagkfkhagjlmpaaGreat
open Go.RowKit
def swp (f t n : Int) : Int := if n = f then t else n
/-- A statement in which a block's number is replaced. -/
def rdS (s : St) (f t : Int) : St := { s with nx := if (s.op = 6 ∨ s.op = 7) ∧ s.nx = f then t else s.nx, el := if s.op = 7 ∧ s.el = f then t else s.el, cs := s.cs.map (swp f t) }
abbrev bSt (s : St) : Blk := ⟨0, true, 68, 8, [[aI .i64 s.op, aI .i64 s.va, aI .i64 s.wd, aI .i64 s.nx, aI .i64 s.el, aI .u32 s.tg, .d (.sl 5 (Ex.ds s.e)), .d (.sl 1 (i64s s.cs))]]⟩
abbrev zSt : Blk := ⟨0, true, 68, 8, [[aI .i64 0, aI .i64 0, aI .i64 0, aI .i64 0, aI .i64 0, aI .u32 0, .d (.v (.slice none 0 0)), .d (.v (.slice none 0 0))]]⟩
set_option maxRecDepth 100000 in
theorem r35turned_af (s : St) (f t : Int) (hc : s.cs.length ≤ 2000000) : AF Tryz.prog 27 [stV s, aI .i64 f, aI .i64 t] (stV (rdS s f t)) := by
  have hm : s.cs.length ≤ maxLen := by unfold maxLen; omega
  obtain ⟨R, hR⟩ : ∃ R, rdS s f t = R := ⟨_, rfl⟩
  rw [hR]
  refine af_of Tryz.func27 rfl (by kernel_rfl) (by simp [Tryz.ntmps27]) fun _ => ?_; simp [Tryz.f27, Ex.d_eq]
  obtain ⟨L, hL⟩ : ∃ L : Nat → List Int, L = fun i => (s.cs.take i).map (swp f t) := ⟨_, rfl⟩
  have hLl : ∀ i, i ≤ s.cs.length → (L i).length = i := fun i hi => by rw [hL]; simp; omega
  have hLs : ∀ i n, s.cs[i]? = some n → L (i + 1) = L i ++ [swp f t n] := fun i n hn => by rw [hL]; simp [List.take_add_one, hn]
  have hL0 : L 0 = [] := by rw [hL]; rfl
  have hLe : L s.cs.length = s.cs.map (swp f t) := by rw [hL]; simp
  clear hL
  refine aLoop_st (fun i : Nat => [(1, aI .i64 f), (2, aI .i64 t), (3, .ptr 0 0 0 0), (6, .ptr 1 0 0 0), (7, .own 2 i 0 i), (8, aI .i64 i)])
    (fun i => [bSt s, zSt, nbk i (L i)]) (fun i => i ≤ s.cs.length) (fun i => s.cs.length - i) 0
    ((Sub.ghost 0 3 1).trans (Sub.slot (s := 7) (c := .own 2 0 0 0) (by simp; exact VLe.nil_own (k := ⟨0, true, 3, 1, []⟩) (by simp) rfl))) 3 (by omega) (by simp [hL0]) (by simp) (by omega) ?_
  rintro i hi K hK
  have hLi := hLl i hi
  rcases Nat.lt_or_ge i s.cs.length with hlt | hge
  case inl =>
    obtain ⟨n, hn⟩ : ∃ n, s.cs[i]? = some n := ⟨_, List.getElem?_eq_getElem hlt⟩
    have hn2 := (List.getElem?_eq_some_iff.1 hn).2
    have hLn := hLs i n hn
    simp [hlt, hn, hn2]
    by_cases hnf : n = f
    · have hsw : swp f t n = t := if_pos hnf
      rw [hsw] at hLn
      subst hnf
      simp
      refine aRaw_app byt_49 ?_
      simp [hLi]
      refine ⟨by omega, by omega, ?_⟩
      simp [succ_wrap hlt hm]
      exact hK (i + 1) (by omega) (by omega) (Sub.refl _ _ _) 3 (by omega) (by simp [hLn]) (by simp)
    · have hsw : swp f t n = n := if_neg hnf
      rw [hsw] at hLn
      simp [hnf]
      refine aRaw_app byt_49 ?_
      simp [hLi]
      refine ⟨by omega, by omega, ?_⟩
      simp [succ_wrap hlt hm]
      exact hK (i + 1) (by omega) (by omega) (Sub.refl _ _ _) 3 (by omega) (by simp [hLn]) (by simp)
  obtain rfl : i = s.cs.length := by omega
  have hRc : R.cs = L s.cs.length := by rw [← hR, hLe]; rfl
  have hRs : R.op = s.op ∧ R.va = s.va ∧ R.wd = s.wd ∧ R.tg = s.tg ∧ R.e = s.e := by rw [← hR]; exact ⟨rfl, rfl, rfl, rfl, rfl⟩
  have hRn : R.nx = if (s.op = 6 ∨ s.op = 7) ∧ s.nx = f then t else s.nx := by rw [← hR]; rfl
  have hRe : R.el = if s.op = 7 ∧ s.el = f then t else s.el := by rw [← hR]; rfl
  obtain ⟨r1, r2, r3, r4, r5⟩ := hRs
  have hLt : List.take s.cs.length (i64s (L s.cs.length)) = i64s (L s.cs.length) := List.take_of_length_le (by simp [hLi])
  simp
  rw [r1, r2, r3, r4, r5, hRc, hRn, hRe]
  by_cases h6 : s.op = 6
  · by_cases hn : s.nx = f
    · simp [h6, hn, hLt, hLi]
    · simp [h6, hn, hLt, hLi]
  · by_cases h7 : s.op = 7
    · by_cases hn : s.nx = f
      · by_cases he : s.el = f
        · simp [h7, hn, he, hLt, hLi]
        · simp [h7, hn, he, hLt, hLi]
      · by_cases he : s.el = f
        · simp [h7, hn, he, hLt, hLi]
        · simp [h7, hn, he, hLt, hLi]
    · simp [h6, h7, hLt, hLi]
end Go.Proofs.YtagkfkhagjlmpaaGreat

/- Contracts: loops.redirect. -/
namespace Go.Proofs.YtagkfkhagjlmpaaGreat
open Go.RowKit
/-- A statement whose cases lie in block c. -/
abbrev rowO (s : St) (c : Nat) : List AV := [aI .i64 s.op, aI .i64 s.va, aI .i64 s.wd, aI .i64 s.nx, aI .i64 s.el, aI .u32 s.tg, .d (.sl 5 (Ex.ds s.e)), .own c 1 0 s.cs.length]
/-- The statements of a block of one's own; only the last one's cases are one's own, too. -/
abbrev sBk (L : List St) (s : St) (c : Nat) : Blk := ⟨1, true, 68, 8, dEls (sts L) ++ [rowO s c]⟩
/-- A heap in which two blocks are told. -/
def hp2 (A : AHeap) (x c : Nat) (S C : Blk) : AHeap := (A.set x S).set c C
theorem hp2_len (A : AHeap) (x c : Nat) (S C : Blk) : (hp2 A x c S C).length = A.length := by simp [hp2]
theorem hp2_x {A : AHeap} {x c : Nat} (hx : x < A.length) (hxc : x ≠ c) (S C : Blk) (N : AHeap) : (hp2 A x c S C ++ N)[x]? = some S := by
  rw [List.getElem?_append_left (by rw [hp2_len]; exact hx), hp2, List.getElem?_set_ne (Ne.symm hxc), List.getElem?_set_self hx]
theorem hp2_c {A : AHeap} {x c : Nat} (hc : c < A.length) (S C : Blk) (N : AHeap) : (hp2 A x c S C ++ N)[c]? = some C := by
  rw [List.getElem?_append_left (by rw [hp2_len]; exact hc), hp2, List.getElem?_set_self (by simpa using hc)]
theorem hp2_setx {A : AHeap} {x c : Nat} (hx : x < A.length) (hxc : x ≠ c) (S C S' : Blk) (N : AHeap) : (hp2 A x c S C ++ N).set x S' = hp2 A x c S' C ++ N := by
  rw [List.set_append_left _ _ (by rw [hp2_len]; exact hx), hp2, hp2, List.set_comm _ _ hxc.symm, List.set_set]
theorem hp2_setc {A : AHeap} {x c : Nat} (hc : c < A.length) (S C C' : Blk) (N : AHeap) : (hp2 A x c S C ++ N).set c C' = hp2 A x c S C' ++ N := by
  rw [List.set_append_left _ _ (by rw [hp2_len]; exact hc), hp2, hp2, List.set_set]
theorem hp2_end (A : AHeap) (x c : Nat) (S C K : Blk) : (hp2 A x c S C ++ [K])[A.length]? = some K := by
  rw [List.getElem?_append_right (by rw [hp2_len]; exact Nat.le_refl _), hp2_len]
  simp
theorem hp2_same {A : AHeap} {x c : Nat} {S C : Blk} (h1 : A[x]? = some S) (h2 : A[c]? = some C) : hp2 A x c S C = A := by
  rw [hp2, set_same h1, set_same h2]
set_option maxRecDepth 100000 in
theorem lpredir_ac (ad : Int) (L : List St) (s : St) (x c : Nat) (f t : Int) (A : AHeap) (hL : L.length ≤ 1000000) (hcl : s.cs.length ≤ 2000000) (hop : s.op ≠ 8 → s.cs = []) (hxc : x ≠ c) (h1 : A[x]? = some (sBk L s c)) (h2 : A[c]? = some (nbk 1 s.cs)) :
    AC Tryz.prog 24 [.agg [aI .u32 ad, .own x 1 0 (L.length + 1)], aI .i64 f, aI .i64 t] A (fun r A' => r = .tup [] ∧ A' = hp2 A x c (sBk L (rdS s f t) c) (nbk 1 (rdS s f t).cs) ++ [⟨0, true, 48, 2, [[aI .u32 ad, .own x 1 0 (L.length + 1)]]⟩]) := by
  have hx := (List.getElem?_eq_some_iff.1 h1).1
  have hc := (List.getElem?_eq_some_iff.1 h2).1
  have g1 := fun S C N => hp2_x hx hxc S C N
  have g2 := fun S C N => hp2_c (x := x) hc S C N
  have g3 := fun S C S' N => hp2_setx hx hxc S C S' N
  have g4 := fun S C C' N => hp2_setc (x := x) hc S C C' N
  have g5 := fun S C K => hp2_end A x c S C K
  have hA := hp2_same h1 h2
  have w1 : IntKind.i64.wrap (L.length : Int) = (L.length : Int) := i64w (n := (L.length : Int)) (by omega)
  have w2 : (L.length : Int) < (L.length : Int) + 1 := by omega
  have hl1 : ∀ r : List AV, (dEls (sts L) ++ [r])[L.length]? = some r := fun r => by rw [List.getElem?_append_right (by simp)]; simp
  have hl2 : ∀ r r' : List AV, (dEls (sts L) ++ [r]).set L.length r' = dEls (sts L) ++ [r'] := fun r r' => by rw [List.set_append_right _ _ (by simp)]; simp
  have hcs : s.op ≠ 8 → s.cs.map (swp f t) = s.cs := fun h => by rw [hop h]; rfl
  suffices h : AC Tryz.prog 24 [.agg [aI .u32 ad, .own x 1 0 (L.length + 1)], aI .i64 f, aI .i64 t] (hp2 A x c (sBk L s c) (nbk 1 s.cs)) (fun r A' => r = .tup [] ∧ A' = hp2 A x c (sBk L (rdS s f t) c) (nbk 1 (rdS s f t).cs) ++ [⟨0, true, 48, 2, [[aI .u32 ad, .own x 1 0 (L.length + 1)]]⟩]) by rwa [hA] at h
  refine ac_of Tryz.func24 rfl (by kernel_rfl) (by simp [Tryz.ntmps24]) fun hb => ?_
  clear hb
  simp [Tryz.f24, g1, g2, g3, g4, g5, hp2_len, w1, w2, hl1, hl2]
  by_cases h6 : s.op = 6
  · have c6 := hcs (by omega)
    by_cases hn : s.nx = f
    · simp [h6, hn, g1, g2, g3, g4, g5, hp2_len, w1, w2, hl1, hl2, rdS, c6]
    · simp [h6, hn, g1, g2, g3, g4, g5, hp2_len, w1, w2, hl1, hl2, rdS, c6]
      rw [← h6]
  by_cases h7 : s.op = 7
  · have c6 := hcs (by omega)
    by_cases hn : s.nx = f
    · by_cases he : s.el = f
      · simp [h7, hn, he, g1, g2, g3, g4, g5, hp2_len, w1, w2, hl1, hl2, rdS, c6]
      · simp [h7, hn, he, g1, g2, g3, g4, g5, hp2_len, w1, w2, hl1, hl2, rdS, c6]
    · by_cases he : s.el = f
      · simp [h7, hn, he, g1, g2, g3, g4, g5, hp2_len, w1, w2, hl1, hl2, rdS, c6]
      · simp [h7, hn, he, g1, g2, g3, g4, g5, hp2_len, w1, w2, hl1, hl2, rdS, c6]
        rw [← h7]
  by_cases h8 : s.op = 8
  case neg =>
    have c6 := hcs h8
    simp [h6, h7, h8, g1, g2, g3, g4, g5, hp2_len, w1, w2, hl1, hl2, rdS, c6]
  simp [h6, h7, h8, g1, g2, g3, g4, g5, hp2_len, w1, w2, hl1, hl2]
  have hm : s.cs.length ≤ maxLen := by unfold maxLen; omega
  obtain ⟨M, hM⟩ : ∃ M : Nat → List Int, M = fun i => (s.cs.take i).map (swp f t) ++ s.cs.drop i := ⟨_, rfl⟩
  have hMl : ∀ i, i ≤ s.cs.length → (M i).length = s.cs.length := fun i hi => by rw [hM]; simp; omega
  have hMg : ∀ i n, s.cs[i]? = some n → (M i)[i]? = some n := fun i n hn => by
    have hi := (List.getElem?_eq_some_iff.1 hn).1
    rw [hM]
    simp only
    rw [List.getElem?_append_right (by simp; omega)]
    simp [Nat.min_eq_left (Nat.le_of_lt hi), hn]
  have hMs : ∀ i n, s.cs[i]? = some n → (M i).set i (swp f t n) = M (i + 1) := fun i n hn => by
    have hi := (List.getElem?_eq_some_iff.1 hn).1
    have hd : s.cs.drop i = n :: s.cs.drop (i + 1) := by
      rw [List.drop_eq_getElem_cons hi, (List.getElem?_eq_some_iff.1 hn).2]
    rw [hM]
    simp only
    rw [hd, List.set_append_right _ _ (by simp; omega)]
    simp [Nat.min_eq_left (Nat.le_of_lt hi), List.take_add_one, hn]
  have hM0 : M 0 = s.cs := by rw [hM]; simp
  have hMe : M s.cs.length = s.cs.map (swp f t) := by rw [hM]; simp
  clear hM
  refine aLoop_of (α := Nat) (fun i e A' => i ≤ s.cs.length ∧ A' = hp2 A x c (sBk L s c) (nbk 1 (M i)) ++ [⟨0, true, 48, 2, [[aI .u32 ad, .own x 1 0 (L.length + 1)]]⟩] ∧ e 1 = aI .i64 f ∧ e 2 = aI .i64 t ∧ e 6 = .ptr x 1 L.length 0 ∧ e 55 = aI .i64 s.cs.length ∧ e 56 = aI .i64 i) (fun i => s.cs.length - i) 0 (Sub.refl _ _ _)
    ⟨by omega, by rw [hM0], by simp, by simp, by simp, by simp, by simp⟩ ?_
  rintro i e A' ⟨hi, rfl, e1, e2, e6, e55, e56⟩ K hK
  have hMi := hMl i hi
  rcases Nat.lt_or_ge i s.cs.length with hlt | hge
  case inr =>
    obtain rfl : i = s.cs.length := by omega
    have hr : rdS s f t = ⟨8, s.va, s.wd, s.nx, s.el, s.tg, s.e, s.cs.map (swp f t)⟩ := by simp [rdS, h8]
    simp [e55, e56, hr, hMe]
    have hs : sBk L ⟨8, s.va, s.wd, s.nx, s.el, s.tg, s.e, s.cs.map (swp f t)⟩ c = sBk L s c := by simp [h8]
    rw [hs]
  obtain ⟨n, hn⟩ : ∃ n, s.cs[i]? = some n := ⟨_, List.getElem?_eq_getElem hlt⟩
  have hn1 := hMg i n hn
  have hn2 := (List.getElem?_eq_some_iff.1 hn1).2
  have hn3 := hMs i n hn
  have hn4 : (dEls (i64s (M i))).set i [aI .i64 (swp f t n)] = dEls (i64s (M (i + 1))) := by rw [← hn3]; simp [dEls, i64s, List.map_set]
  simp [e1, e2, e6, e55, e56, hlt, g1, g2, g3, g4, g5, hp2_len, w1, w2, hl1, hl2, hMi, hn1, hn2]
  by_cases hnf : n = f
  · have hsw : swp f t n = t := if_pos hnf
    rw [hsw] at hn4
    simp [hnf, e1, e2, e6, e55, e56, hlt, g1, g2, g3, g4, g5, hp2_len, w1, w2, hl1, hl2, hMi, hn1, hn2, hn4, succ_wrap hlt hm]
    exact hK (i + 1) _ _ _ _ (Sub.refl _ _ _) ⟨by omega, rfl, by simp [e1], by simp [e2], by simp [e6], by simp [e55], by simp⟩ (by omega)
  · have hsw : swp f t n = n := if_neg hnf
    have hMn : M (i + 1) = M i := by rw [← hn3, hsw]; exact set_same hn1
    simp [hnf, e1, e2, e6, e55, e56, hlt, succ_wrap hlt hm]
    exact hK (i + 1) _ _ _ _ (Sub.refl _ _ _) ⟨by omega, by rw [hMn], by simp [e1], by simp [e2], by simp [e6], by simp [e55], by simp⟩ (by omega)
end Go.Proofs.YtagkfkhagjlmpaaGreat

/- Contracts: loops.own. -/
namespace Go.Proofs.YtagkfkhagjlmpaaGreat
open Go.RowKit
theorem lpcopied_af : ∀ (e : Ex), e.nodes ≤ 1000000000 → AF Tryz.prog 57 [exA e] (exA e) := by
  intro x
  induction x using Ex.ind with
  | h x ih =>
    intro hn
    have hlen := x.nodes_len
    have n1 : x.l.length ≤ maxLen := by unfold maxLen; omega
    refine af_of Tryz.func57 rfl (by kernel_rfl) (by simp [Tryz.ntmps57]) fun _ => ?_
    simp [Tryz.f57]
    refine aCall_ofc (clone_ac _ (Ex.ds x.l) (by simp; omega)) (by simp) ?_
    rintro _ _ ⟨rfl, rfl⟩
    simp
    refine aLoop_of (α := Nat) (fun i e A => i ≤ x.l.length ∧ A = [⟨0, true, 94, 5, [[aI .i64 x.op, aI .u32 x.n, aI .i64 x.v, aI .i64 x.wd, .own 2 1 0 x.l.length]]⟩, ⟨0, true, 94, 5, [[aI .i64 0, aI .u32 0, aI .i64 0, aI .i64 0, .d (.v (.slice none 0 0))]]⟩, ⟨1, true, 94, 5, dEls (Ex.ds x.l)⟩] ∧
      e 11 = aI .i64 i ∧ e 10 = aI .i64 x.l.length ∧ e 1 = .ptr 0 0 0 0 ∧ e 2 = .ptr 1 0 0 0) (fun i => x.l.length - i) 0 (Sub.refl _ _ _) ⟨by omega, by simp, by simp, by simp, by simp, by simp⟩ ?_
    rintro i e A ⟨hi, rfl, e11, e10, e1, e2⟩ K hK
    simp [e11, e10]
    refine aCond_split (fun hlt => ?_) (fun hge => ?_)
    · simp at hlt
      have hi1 := List.getElem?_eq_getElem hlt
      simp
      refine adraw [] (by kernel_rfl) (by kernel_rfl) (by kernel_rfl) (by kernel_rfl) ?_
      simp [e11, e1, hlt, hi1, Ex.d_eq]
      refine adC_of (ih _ (List.mem_of_getElem? hi1) (by have := Ex.nodes_mem (List.mem_of_getElem? hi1); omega)) (by simp) trivial (by simp) (by simp) ?_
      simp [hlt, Ex.d_eq, e11, succ_wrap hlt n1]
      exact hK (i + 1) _ _ _ _ (Sub.refl _ _ _) ⟨by omega, by simp; exact set_same (by simp [hlt, Ex.d_eq]), by simp, by simp [e10], by simp [e1], by simp [e2]⟩ (by omega)
    · simp at hge
      simp [e1, e2]
theorem apA {α : Type} (A M : List α) (k : Nat) : (A ++ M)[A.length + k]? = M[k]? := by rw [List.getElem?_append_right (by omega), Nat.add_sub_cancel_left]
theorem apA0 {α : Type} (A M : List α) : (A ++ M)[A.length]? = M[0]? := apA A M 0
theorem apS {α : Type} (A M : List α) (k : Nat) (v : α) : (A ++ M).set (A.length + k) v = A ++ M.set k v := by rw [List.set_append_right _ _ (by omega), Nat.add_sub_cancel_left]
theorem apS0 {α : Type} (A M : List α) (v : α) : (A ++ M).set A.length v = A ++ M.set 0 v := apS A M 0 v
abbrev fzB (k : Blk) : Blk := ⟨k.ver, false, k.ty, k.sz, k.els⟩
theorem frz_set {X : AHeap} {q : Nat} {k : Blk} (h : X[q]? = some k) : frz [q] X = X.set q (fzB k) := by
  have hq := (List.getElem?_eq_some_iff.1 h).1
  apply List.ext_getElem?
  intro j
  simp only [frz, List.getElem?_mapIdx, List.getElem?_set]
  by_cases hj : q = j
  · subst hj
    rw [h]
    simp [hq]
  · have : ¬ j = q := fun e => hj e.symm
    simp [hj, this]
/-- A statement's row, its cases so. -/
abbrev rowV (s : St) (cv : AV) : List AV := [aI .i64 s.op, aI .i64 s.va, aI .i64 s.wd, aI .i64 s.nx, aI .i64 s.el, aI .u32 s.tg, .d (.sl 5 (Ex.ds s.e)), cv]
abbrev rowE (s : St) (ev cv : AV) : List AV := [aI .i64 s.op, aI .i64 s.va, aI .i64 s.wd, aI .i64 s.nx, aI .i64 s.el, aI .u32 s.tg, ev, cv]
/-- What slices.Clone makes of such cases. -/
def ClnOk (A : AHeap) (cv : AV) (cs : List Int) : Prop := ∀ N, AC Tryz.prog 58 [cv] (A ++ N) (fun r A' => r = .own (A ++ N).length 1 0 cs.length ∧ A' = A ++ N ++ [nbk 1 cs])
def ClnS (A : AHeap) (sv : AV) (rows : List (List AV)) : Prop := ∀ N, AC Tryz.prog 55 [sv] (A ++ N) (fun r A' => r = .own (A ++ N).length 1 0 rows.length ∧ A' = A ++ N ++ [⟨1, true, 68, 8, rows⟩])
abbrev zBl : Blk := ⟨0, true, 48, 2, [[aI .u32 0, .d (.v (.slice none 0 0))]]⟩
abbrev bxB (ad : Int) (sv : AV) : Blk := ⟨0, true, 48, 2, [[aI .u32 ad, sv]]⟩
/-- What lies about behind a statement's copy. -/
abbrev bxX (y : Ex) : Blk := ⟨0, true, 94, 5, [[aI .i64 y.op, aI .u32 y.n, aI .i64 y.v, aI .i64 y.wd, .d (.sl 5 (Ex.ds y.l))]]⟩
def piece (x : AV) (w : Bool) (q : St) : List Blk := ⟨0, true, 68, 8, [rowV q x]⟩ :: ⟨1, false, 94, 5, dEls (Ex.ds q.e)⟩ :: (q.e.map bxX ++ [⟨1, w, 3, 1, dEls (i64s q.cs)⟩])
def pcD (L : List St) : List Blk := L.flatMap fun q => piece (.d (.sl 1 (i64s q.cs))) false q
theorem pcD_take {L : List St} {i : Nat} {q : St} (h : L[i]? = some q) : pcD (L.take (i + 1)) = pcD (L.take i) ++ piece (.d (.sl 1 (i64s q.cs))) false q := by
  rw [List.take_add_one, h]
  simp [pcD]
set_option maxRecDepth 100000 in
theorem lpown_ac (ad : Int) (L : List St) (s : St) (sv cv : AV) (A : AHeap) (hL : L.length ≤ 1000000) (he : ∀ q ∈ L ++ [s], q.e.length ≤ 1000000 ∧ (∀ y ∈ q.e, y.nodes ≤ 1000000000) ∧ q.cs.length ≤ 2000000) (hS : ClnS A sv (dEls (sts L) ++ [rowV s cv])) (hC : ClnOk A cv s.cs) :
    AC Tryz.prog 22 [.agg [aI .u32 ad, sv]] A (fun r A' => r = .agg [aI .u32 ad, .own (A.length + 2) 1 0 (L.length + 1)] ∧ A' = A ++ bxB ad (.own (A.length + 2) 1 0 (L.length + 1)) :: bxB ad (.own (A.length + 2) 1 0 (L.length + 1)) :: sBk L s (A.length + ((pcD L).length + (s.e.length + 1 + 1) + 1 + 1 + 1)) :: (pcD L ++ piece cv true s)) := by
  refine ac_of Tryz.func22 rfl (by kernel_rfl) (by simp [Tryz.ntmps22]) fun hb => ?_
  clear hb
  simp [Tryz.f22]
  refine aCall_ofc (hS _) (by simp) ?_
  rintro _ _ ⟨rfl, rfl⟩
  simp [apA, apA0, apS, apS0]
  refine aLoop_of (α := Nat) (fun i e H => i ≤ L.length + 1 ∧ (∃ S N, H = A ++ bxB ad (.own (A.length + 2) 1 0 (L.length + 1)) :: zBl :: S :: N ∧ (i ≤ L.length → S = ⟨1, true, 68, 8, dEls (sts L) ++ [rowV s cv]⟩ ∧ N = pcD (L.take i)) ∧
      (i = L.length + 1 → S = sBk L s (A.length + ((pcD L).length + (s.e.length + 1 + 1) + 1 + 1 + 1)) ∧ N = pcD L ++ piece cv true s)) ∧
    e 1 = .ptr A.length 0 0 0 ∧ e 2 = .ptr (A.length + 1) 0 0 0 ∧ e 12 = .own (A.length + 2) 1 0 (L.length + 1) ∧ e 13 = aI .i64 ((L.length + 1 : Nat) : Int) ∧ e 14 = aI .i64 i) (fun i => L.length + 1 - i) 0 (Sub.refl _ _ _)
    ⟨by omega, ⟨_, [], rfl, fun _ => ⟨rfl, by simp [pcD]⟩, fun h => by omega⟩, by simp, by simp, by simp, by simp, by simp⟩ ?_
  rintro i e H ⟨hi, ⟨S, N, rfl, hS1, hS2⟩, e1, e2, e12, e13, e14⟩ K hK
  rcases Nat.lt_or_ge i (L.length + 1) with hlt | hge
  case inr =>
    obtain rfl : i = L.length + 1 := by omega
    obtain ⟨rfl, rfl⟩ := hS2 rfl
    simp [e1, e2, e13, e14, apA, apA0, apS, apS0]
  obtain ⟨rfl, hNe⟩ := hS1 (by omega)
  clear hS1 hS2
  obtain ⟨q, x, hrow, hq, hcl, hx1, hx2⟩ : ∃ q x, (dEls (sts L) ++ [rowV s cv])[i]? = some (rowV q x) ∧ q ∈ L ++ [s] ∧ ClnOk A x q.cs ∧ (i < L.length → x = .d (.sl 1 (i64s q.cs)) ∧ L[i]? = some q) ∧ (i = L.length → q = s ∧ x = cv) := by
    rcases Nat.lt_or_ge i L.length with h | h
    · obtain ⟨q, hq⟩ : ∃ q, L[i]? = some q := ⟨_, List.getElem?_eq_getElem h⟩
      refine ⟨q, .d (.sl 1 (i64s q.cs)), ?_, by simp [List.mem_of_getElem? hq], fun N => ?_, fun _ => ⟨rfl, hq⟩, fun h2 => by omega⟩
      · rw [List.getElem?_append_left (by simpa using h)]
        simp [dEls, sts, hq, St.d_eq]
      · have hm := (he q (by simp [List.mem_of_getElem? hq])).2.2
        have := clone_in_ac (A ++ N) (i64s q.cs) (by simp; omega)
        rwa [i64s_len] at this
    · obtain rfl : i = L.length := by omega
      refine ⟨s, cv, ?_, by simp, hC, fun h2 => by omega, fun _ => ⟨rfl, rfl⟩⟩
      rw [List.getElem?_append_right (by simp)]
      simp
  have hil : i < (dEls (sts L) ++ [rowV s cv]).length := (List.getElem?_eq_some_iff.1 hrow).1
  have hrow2 := (List.getElem?_eq_some_iff.1 hrow).2
  have hlt2 : (i : Int) < (L.length : Int) + 1 := by omega
  simp [e1, e2, e12, e13, e14, hlt, hlt2, apA, apA0, apS, apS0, hrow, hrow2]
  have hqm := he q hq
  have hel : q.e.length ≤ maxLen := by unfold maxLen; omega
  refine adrawR [.ptr A.length 0 0 1, .own (A.length + 2) 1 0 (L.length + 1), aI .i64 i, .ptr (A.length + (N.length + 1 + 1 + 1)) 0 0 6, .d (.sl 5 (Ex.ds q.e)), .own (A.length + (N.length + 1 + 1 + 1 + 1)) 1 0 q.e.length, .ptr (A.length + 2) 1 i 0, .ptr (A.length + 2) 1 i 6, .any]
    [(0, A ++ bxB ad (.own (A.length + 2) 1 0 (L.length + 1)) :: zBl :: ⟨1, true, 68, 8, dEls (sts L) ++ [rowV s cv]⟩ :: (N ++ [⟨0, true, 68, 8, [rowV q x]⟩])),
     (32, A ++ bxB ad (.own (A.length + 2) 1 0 (L.length + 1)) :: zBl :: ⟨1, true, 68, 8, dEls (sts L) ++ [rowV s cv]⟩ :: (N ++ [⟨0, true, 68, 8, [rowV q x]⟩, ⟨1, true, 94, 5, dEls (Ex.ds q.e)⟩])),
     (288, A ++ bxB ad (.own (A.length + 2) 1 0 (L.length + 1)) :: zBl :: ⟨1, true, 68, 8, (dEls (sts L) ++ [rowV s cv]).set i (rowE q (.own (A.length + (N.length + 1 + 1 + 1 + 1)) 1 0 q.e.length) x)⟩ :: (N ++ [⟨0, true, 68, 8, [rowV q x]⟩, ⟨1, true, 94, 5, dEls (Ex.ds q.e)⟩]))]
    (by kernel_rfl) (by kernel_rfl) rfl rfl ?_ ?_
  · simp only [rowsR, List.mem_cons, List.not_mem_nil, or_false, forall_eq_or_imp, forall_eq]
    refine ⟨⟨?_, ?_, fun hmay => absurd hmay (Bool.eq_false_iff.1 (by kernel_rfl))⟩, ⟨?_, ?_, fun hmay => absurd hmay (Bool.eq_false_iff.1 (by kernel_rfl))⟩, ⟨?_, ?_, fun hmay => absurd hmay (Bool.eq_false_iff.1 (by kernel_rfl))⟩, ⟨?_, fun hmay => absurd hmay (Bool.eq_false_iff.1 (by kernel_rfl)), fun hmay => absurd hmay (Bool.eq_false_iff.1 (by kernel_rfl))⟩, ⟨?_, fun hmay => absurd hmay (Bool.eq_false_iff.1 (by kernel_rfl)), fun hmay => absurd hmay (Bool.eq_false_iff.1 (by kernel_rfl))⟩, ⟨?_, fun hmay => absurd hmay (Bool.eq_false_iff.1 (by kernel_rfl)), fun hmay => absurd hmay (Bool.eq_false_iff.1 (by kernel_rfl))⟩, ⟨fun hmay => absurd hmay (Bool.eq_false_iff.1 (by kernel_rfl)), ?_, fun hmay => absurd hmay (Bool.eq_false_iff.1 (by kernel_rfl))⟩, ⟨fun hmay => absurd hmay (Bool.eq_false_iff.1 (by kernel_rfl)), ?_, fun hmay => absurd hmay (Bool.eq_false_iff.1 (by kernel_rfl))⟩, ⟨fun hmay => absurd hmay (Bool.eq_false_iff.1 (by kernel_rfl)), ?_, fun hmay => absurd hmay (Bool.eq_false_iff.1 (by kernel_rfl))⟩, trivial⟩
    all_goals
      intro hmay
      clear hmay
      intro e' K' h A3 hA hk
      simp only [Op.operands, Call.operands] at h
      simp [still, heapM, putR, dvA] at h hA hk
      subst hA
      simp [h, e1, apA, apA0, apS, apS0, hrow, hrow2, hlt2]
      try exact hk
    refine aCall_ofc (clone_ac _ (Ex.ds q.e) (by simp; omega)) (by simp) ?_
    rintro _ _ ⟨rfl, rfl⟩
    simpa using hk
  simp [putR, apA, apA0, apS, apS0]
  have hs1 : ∀ r : List AV, ((dEls (sts L) ++ [rowV s cv]).set i r)[i]? = some r := fun r => List.getElem?_set_self hil
  refine aLoop_of (α := Nat) (fun j e H => j ≤ q.e.length ∧ (∃ M, M = (q.e.take j).map bxX ∧ H = A ++ bxB ad (.own (A.length + 2) 1 0 (L.length + 1)) :: zBl :: ⟨1, true, 68, 8, (dEls (sts L) ++ [rowV s cv]).set i (rowE q (.own (A.length + (N.length + 1 + 1 + 1 + 1)) 1 0 q.e.length) x)⟩ :: (N ++ ⟨0, true, 68, 8, [rowV q x]⟩ :: ⟨1, true, 94, 5, dEls (Ex.ds q.e)⟩ :: M)) ∧
    e 1 = .ptr A.length 0 0 0 ∧ e 2 = .ptr (A.length + 1) 0 0 0 ∧ e 3 = aI .i64 i ∧ e 4 = .ptr (A.length + (N.length + 1 + 1 + 1)) 0 0 0 ∧ e 12 = .own (A.length + 2) 1 0 (L.length + 1) ∧ e 13 = aI .i64 ((L.length + 1 : Nat) : Int) ∧ e 14 = aI .i64 i ∧ e 28 = .d (.sl 5 (Ex.ds q.e)) ∧ e 29 = aI .i64 q.e.length ∧ e 30 = aI .i64 j) (fun j => q.e.length - j) 0 (Sub.refl _ _ _)
    ⟨by omega, ⟨[], rfl, rfl⟩, by simp [e1], by simp [e2], by simp, by simp, by simp [e12], by simp [e13], by simp [e14], by simp, by simp, by simp⟩ ?_
  clear e1 e2 e12 e13 e14 e
  rintro j e H ⟨hj, ⟨M, hMe, rfl⟩, e1, e2, e3, e4, e12, e13, e14, e28, e29, e30⟩ K2 hK2
  rcases Nat.lt_or_ge j q.e.length with hjlt | hjge
  case inl =>
    obtain ⟨y, hy⟩ : ∃ y, q.e[j]? = some y := ⟨_, List.getElem?_eq_getElem hjlt⟩
    have hy2 := (List.getElem?_eq_some_iff.1 hy).2
    have hyn := hqm.2.1 y (List.mem_of_getElem? hy)
    simp [e1, e2, e3, e4, e12, e13, e14, e28, e29, e30, hjlt, hy, hy2, Ex.d_eq, apA, apA0, apS, apS0]
    refine adraw [] (by kernel_rfl) (by kernel_rfl) (by kernel_rfl) (by kernel_rfl) ?_
    simp [e1, e2, e3, e4, e12, e13, e14, e28, e29, e30, hjlt, hy, hy2, hlt2, hs1, hrow, hrow2, Ex.d_eq, apA, apA0, apS, apS0]
    refine adC_of (lpcopied_af y hyn) (by simp) trivial (by simp) (by simp [Ex.d_eq]) ?_
    have hset : (dEls (Ex.ds q.e)).set j [aI .i64 y.op, aI .u32 y.n, aI .i64 y.v, aI .i64 y.wd, .d (.sl 5 (Ex.ds y.l))] = dEls (Ex.ds q.e) := set_same (by simp [hjlt, hy2, Ex.d_eq])
    simp [hjlt, hset, e30, succ_wrap hjlt hel, Ex.d_eq, apA, apA0, apS, apS0]
    refine hK2 (j + 1) _ _ _ _ (Sub.refl _ _ _) ⟨by omega, ⟨M ++ [bxX y], by rw [hMe, List.take_add_one, hy]; simp, ?_⟩, by simp [e1], by simp [e2], by simp [e3], by simp [e4], by simp [e12], by simp [e13], by simp [e14], by simp [e28], by simp [e29], by simp⟩ (by omega)
    simp
  obtain rfl : j = q.e.length := by omega
  simp [e1, e2, e3, e4, e12, e13, e14, e28, e29, e30]
  refine adrawR [.ptr A.length 0 0 1, .own (A.length + 2) 1 0 (L.length + 1), aI .i64 i, .ptr (A.length + (N.length + 1 + 1 + 1)) 0 0 7, x, .own (A.length + (N.length + (M.length + 1 + 1) + 1 + 1 + 1)) 1 0 q.cs.length, .ptr (A.length + 2) 1 i 0, .ptr (A.length + 2) 1 i 7, .any]
    [(0, A ++ bxB ad (.own (A.length + 2) 1 0 (L.length + 1)) :: zBl :: ⟨1, true, 68, 8, (dEls (sts L) ++ [rowV s cv]).set i (rowE q (.own (A.length + (N.length + 1 + 1 + 1 + 1)) 1 0 q.e.length) x)⟩ :: (N ++ ⟨0, true, 68, 8, [rowV q x]⟩ :: ⟨1, true, 94, 5, dEls (Ex.ds q.e)⟩ :: M)),
     (32, A ++ bxB ad (.own (A.length + 2) 1 0 (L.length + 1)) :: zBl :: ⟨1, true, 68, 8, (dEls (sts L) ++ [rowV s cv]).set i (rowE q (.own (A.length + (N.length + 1 + 1 + 1 + 1)) 1 0 q.e.length) x)⟩ :: (N ++ ⟨0, true, 68, 8, [rowV q x]⟩ :: ⟨1, true, 94, 5, dEls (Ex.ds q.e)⟩ :: (M ++ [nbk 1 q.cs]))),
     (288, A ++ bxB ad (.own (A.length + 2) 1 0 (L.length + 1)) :: zBl :: ⟨1, true, 68, 8, (dEls (sts L) ++ [rowV s cv]).set i (rowE q (.own (A.length + (N.length + 1 + 1 + 1 + 1)) 1 0 q.e.length) (.own (A.length + (N.length + (M.length + 1 + 1) + 1 + 1 + 1)) 1 0 q.cs.length))⟩ :: (N ++ ⟨0, true, 68, 8, [rowV q x]⟩ :: ⟨1, true, 94, 5, dEls (Ex.ds q.e)⟩ :: (M ++ [nbk 1 q.cs])))]
    (by kernel_rfl) (by kernel_rfl) rfl rfl ?_ ?_
  · simp only [rowsR, List.mem_cons, List.not_mem_nil, or_false, forall_eq_or_imp, forall_eq]
    refine ⟨⟨?_, ?_, fun hmay => absurd hmay (Bool.eq_false_iff.1 (by kernel_rfl))⟩, ⟨?_, ?_, fun hmay => absurd hmay (Bool.eq_false_iff.1 (by kernel_rfl))⟩, ⟨?_, ?_, fun hmay => absurd hmay (Bool.eq_false_iff.1 (by kernel_rfl))⟩, ⟨?_, fun hmay => absurd hmay (Bool.eq_false_iff.1 (by kernel_rfl)), fun hmay => absurd hmay (Bool.eq_false_iff.1 (by kernel_rfl))⟩, ⟨?_, fun hmay => absurd hmay (Bool.eq_false_iff.1 (by kernel_rfl)), fun hmay => absurd hmay (Bool.eq_false_iff.1 (by kernel_rfl))⟩, ⟨?_, fun hmay => absurd hmay (Bool.eq_false_iff.1 (by kernel_rfl)), fun hmay => absurd hmay (Bool.eq_false_iff.1 (by kernel_rfl))⟩, ⟨fun hmay => absurd hmay (Bool.eq_false_iff.1 (by kernel_rfl)), ?_, fun hmay => absurd hmay (Bool.eq_false_iff.1 (by kernel_rfl))⟩, ⟨fun hmay => absurd hmay (Bool.eq_false_iff.1 (by kernel_rfl)), ?_, fun hmay => absurd hmay (Bool.eq_false_iff.1 (by kernel_rfl))⟩, ⟨fun hmay => absurd hmay (Bool.eq_false_iff.1 (by kernel_rfl)), ?_, fun hmay => absurd hmay (Bool.eq_false_iff.1 (by kernel_rfl))⟩, trivial⟩
    all_goals
      intro hmay
      clear hmay
      intro e' K' h A3 hA hk
      simp only [Op.operands, Call.operands] at h
      simp [still, heapM, putR, dvA] at h hA hk
      subst hA
      simp [h, e1, e3, e4, apA, apA0, apS, apS0, hs1, hrow, hrow2, hlt2]
      try exact hk
    refine aCall_ofc (by have := hcl (bxB ad (.own (A.length + 2) 1 0 (L.length + 1)) :: zBl :: ⟨1, true, 68, 8, (dEls (sts L) ++ [rowV s cv]).set i (rowE q (.own (A.length + (N.length + 1 + 1 + 1 + 1)) 1 0 q.e.length) x)⟩ :: (N ++ ⟨0, true, 68, 8, [rowV q x]⟩ :: ⟨1, true, 94, 5, dEls (Ex.ds q.e)⟩ :: M)); simpa using this) (by simp) ?_
    rintro _ _ ⟨rfl, rfl⟩
    simpa using hk
  simp [putR, e14, apA, apA0, apS, apS0]
  have hiw : IntKind.i64.wrap ((i : Int) + 1) = ((i + 1 : Nat) : Int) := succ_wrap (n := L.length + 1) hlt (by unfold maxLen; omega)
  clear hK2
  obtain ⟨rows, hrows⟩ : ∃ rows, dEls (sts L) ++ [rowV s cv] = rows := ⟨_, rfl⟩
  rw [hrows] at hK hrow hil hs1 ⊢
  obtain ⟨bx, hbx⟩ : ∃ bx, bxB ad (.own (A.length + 2) 1 0 (L.length + 1)) = bx := ⟨_, rfl⟩
  rw [hbx] at hK ⊢
  obtain ⟨qE, hqE⟩ : ∃ n, n = A.length + (N.length + 1 + 1 + 1 + 1) := ⟨_, rfl⟩
  obtain ⟨qC, hqC⟩ : ∃ n, n = A.length + (N.length + (M.length + 1 + 1) + 1 + 1 + 1) := ⟨_, rfl⟩
  rw [← hqE, ← hqC]
  have hset : ∀ r r' : List AV, (rows.set i r).set i r' = rows.set i r' := fun r r' => by simp
  have hMe2 : M = q.e.map bxX := by rw [hMe, List.take_length]
  obtain ⟨oE, hoE⟩ : ∃ v, AV.own qE 1 0 q.e.length = v := ⟨_, rfl⟩
  obtain ⟨oC, hoC⟩ : ∃ v, AV.own qC 1 0 q.cs.length = v := ⟨_, rfl⟩
  have hFS : ∀ S N', (A ++ bx :: zBl :: S :: N')[A.length + 2]? = some S := fun S N' => by rw [apA]; rfl
  have hFT : ∀ S S' N', (A ++ bx :: zBl :: S :: N').set (A.length + 2) S' = A ++ bx :: zBl :: S' :: N' := fun S S' N' => by rw [apS]; rfl
  have gE : ∀ S E R, (A ++ bx :: zBl :: S :: (N ++ ⟨0, true, 68, 8, [rowV q x]⟩ :: E :: R))[qE]? = some E := fun S E R => by
    rw [hqE, apA]
    simp [apA]
  have gE2 : ∀ S E E' R, (A ++ bx :: zBl :: S :: (N ++ ⟨0, true, 68, 8, [rowV q x]⟩ :: E :: R)).set qE E' = A ++ bx :: zBl :: S :: (N ++ ⟨0, true, 68, 8, [rowV q x]⟩ :: E' :: R) := fun S E E' R => by
    rw [hqE, apS]
    simp [apS]
  have gC : ∀ S E C, (A ++ bx :: zBl :: S :: (N ++ ⟨0, true, 68, 8, [rowV q x]⟩ :: E :: (M ++ [C])))[qC]? = some C := fun S E C => by
    rw [hqC, apA]
    simp [apA]
  have gC2 : ∀ S E C C', (A ++ bx :: zBl :: S :: (N ++ ⟨0, true, 68, 8, [rowV q x]⟩ :: E :: (M ++ [C]))).set qC C' = A ++ bx :: zBl :: S :: (N ++ ⟨0, true, 68, 8, [rowV q x]⟩ :: E :: (M ++ [C'])) := fun S E C C' => by
    rw [hqC, apS]
    simp [apS]
  have k1 : ∀ e, Sub A.length e (A ++ bx :: zBl :: ⟨1, true, 68, 8, rows.set i (rowE q (.own qE 1 0 q.e.length) (.own qC 1 0 q.cs.length))⟩ :: (N ++ ⟨0, true, 68, 8, [rowV q x]⟩ :: ⟨1, true, 94, 5, dEls (Ex.ds q.e)⟩ :: (M ++ [nbk 1 q.cs]))) e
      (A ++ bx :: zBl :: ⟨1, true, 68, 8, rows.set i (rowE q (.d (.sl 5 (Ex.ds q.e))) (.own qC 1 0 q.cs.length))⟩ :: (N ++ ⟨0, true, 68, 8, [rowV q x]⟩ :: ⟨1, false, 94, 5, dEls (Ex.ds q.e)⟩ :: (M ++ [nbk 1 q.cs]))) := fun e => by
    have g1 := Sub.frz (n := A.length) [qE] (e := e) (A := A ++ bx :: zBl :: ⟨1, true, 68, 8, rows.set i (rowE q (.own qE 1 0 q.e.length) (.own qC 1 0 q.cs.length))⟩ :: (N ++ ⟨0, true, 68, 8, [rowV q x]⟩ :: ⟨1, true, 94, 5, dEls (Ex.ds q.e)⟩ :: (M ++ [nbk 1 q.cs])))
    rw [frz_set (gE _ _ _), gE2] at g1
    have g2 := Sub.cell (n := A.length) (e := e) (i := i) (o := 6) (c' := .d (.sl 5 (Ex.ds q.e))) (hFS ⟨1, true, 68, 8, rows.set i (rowE q (.own qE 1 0 q.e.length) (.own qC 1 0 q.cs.length))⟩ (N ++ ⟨0, true, 68, 8, [rowV q x]⟩ :: ⟨1, false, 94, 5, dEls (Ex.ds q.e)⟩ :: (M ++ [nbk 1 q.cs]))) (hs1 _) rfl (VLe.rei (by simp [gE]))
    rw [hFT] at g2
    simp only [setEls, hset] at g2
    have g4 := g1.trans g2
    simp only [List.set_cons_succ, List.set_cons_zero] at g4
    exact g4
  rcases Nat.lt_or_ge i L.length with hi2 | hi2
  · obtain ⟨hxq, hLq⟩ := hx1 hi2
    have k2 : ∀ e, Sub A.length e (A ++ bx :: zBl :: ⟨1, true, 68, 8, rows.set i (rowE q (.d (.sl 5 (Ex.ds q.e))) (.own qC 1 0 q.cs.length))⟩ :: (N ++ ⟨0, true, 68, 8, [rowV q x]⟩ :: ⟨1, false, 94, 5, dEls (Ex.ds q.e)⟩ :: (M ++ [nbk 1 q.cs]))) e
        (A ++ bx :: zBl :: ⟨1, true, 68, 8, rows⟩ :: (N ++ ⟨0, true, 68, 8, [rowV q x]⟩ :: ⟨1, false, 94, 5, dEls (Ex.ds q.e)⟩ :: (M ++ [⟨1, false, 3, 1, dEls (i64s q.cs)⟩]))) := fun e => by
      have g1 := Sub.frz (n := A.length) [qC] (e := e) (A := A ++ bx :: zBl :: ⟨1, true, 68, 8, rows.set i (rowE q (.d (.sl 5 (Ex.ds q.e))) (.own qC 1 0 q.cs.length))⟩ :: (N ++ ⟨0, true, 68, 8, [rowV q x]⟩ :: ⟨1, false, 94, 5, dEls (Ex.ds q.e)⟩ :: (M ++ [nbk 1 q.cs])))
      rw [frz_set (gC _ _ _), gC2] at g1
      have g2 := Sub.cell (n := A.length) (e := e) (i := i) (o := 7) (c' := .d (.sl 1 (i64s q.cs))) (hFS ⟨1, true, 68, 8, rows.set i (rowE q (.d (.sl 5 (Ex.ds q.e))) (.own qC 1 0 q.cs.length))⟩ (N ++ ⟨0, true, 68, 8, [rowV q x]⟩ :: ⟨1, false, 94, 5, dEls (Ex.ds q.e)⟩ :: (M ++ [⟨1, false, 3, 1, dEls (i64s q.cs)⟩]))) (hs1 _) rfl (VLe.rei (by simp [gC]))
      rw [hFT] at g2
      simp only [setEls, hset] at g2
      have hback : rows.set i (rowE q (.d (.sl 5 (Ex.ds q.e))) (.d (.sl 1 (i64s q.cs)))) = rows := set_same (by rw [hrow, hxq])
      have g4 := g1.trans g2
      simp only [List.set_cons_succ, List.set_cons_zero] at g4
      rw [hback] at g4
      exact g4
    refine hK (i + 1) _ _ _ _ ((k1 _).trans (k2 _)) ⟨by omega, ⟨_, _, rfl, fun _ => ⟨rfl, ?_⟩, fun h => by omega⟩, by simp [e1], by simp [e2], by simp [e12], by simp [e13], by simp [hiw]⟩ (by omega)
    rw [pcD_take hLq, ← hNe, hMe2, hxq]
    rfl
  · obtain rfl : i = L.length := by omega
    obtain ⟨rfl, rfl⟩ := hx2 rfl
    rw [List.take_length] at hNe
    have hback : rows.set L.length (rowE q (.d (.sl 5 (Ex.ds q.e))) (.own qC 1 0 q.cs.length)) = dEls (sts L) ++ [rowO q qC] := by
      rw [← hrows, List.set_append_right _ _ (by simp)]
      simp
    have hqC2 : qC = A.length + ((pcD L).length + (q.e.length + 1 + 1) + 1 + 1 + 1) := by rw [hqC, hNe, hMe2, List.length_map]
    refine hK (L.length + 1) _ _ _ _ (k1 _) ⟨by omega, ⟨_, _, rfl, fun h => by omega, fun _ => ⟨?_, ?_⟩⟩, by simp [e1], by simp [e2], by simp [e12], by simp [e13], by simp [hiw]⟩ (by omega)
    · rw [hback, ← hqC2]
    · rw [hNe, hMe2]
      rfl
end Go.Proofs.YtagkfkhagjlmpaaGreat

/- Contracts: slices.Clone at slices of one's own: statements, numbers. -/
namespace Go.Proofs.YtagkfkhagjlmpaaGreat
open Go.RowKit
theorem clnS_d (A : AHeap) (L : List St) (s : St) (hL : L.length ≤ 1000000) : ClnS A (.d (.sl 8 (sts (L ++ [s])))) (dEls (sts L) ++ [rowV s (.d (.sl 1 (i64s s.cs)))]) := fun N => by
  have h := clone_st_ac (A ++ N) (sts (L ++ [s])) (by simp; omega)
  have he : dEls (sts (L ++ [s])) = dEls (sts L) ++ [rowV s (.d (.sl 1 (i64s s.cs)))] := by simp [dEls, sts, St.d_eq]
  rw [he] at h
  simpa using h
theorem clnOk_d (A : AHeap) (cs : List Int) (h : cs.length ≤ 2000000) : ClnOk A (.d (.sl 1 (i64s cs))) cs := fun N => by
  have := clone_in_ac (A ++ N) (i64s cs) (by simp; omega)
  rwa [i64s_len] at this
theorem clnS_o {A : AHeap} {x c : Nat} {L : List St} {s : St} (hL : L.length ≤ 1000000) (hb : A[x]? = some (sBk L s c)) : ClnS A (.own x 1 0 (L.length + 1)) (dEls (sts L) ++ [rowO s c]) := fun N => by
  have hxl := (List.getElem?_eq_some_iff.1 hb).1
  have hb2 : (A ++ N)[x]? = some (sBk L s c) := by rw [List.getElem?_append_left hxl]; exact hb
  obtain ⟨H, hH⟩ : ∃ H, A ++ N = H := ⟨_, rfl⟩
  rw [hH] at hb2 ⊢
  have hbl := (List.getElem?_eq_some_iff.1 hb2).1
  refine ac_of Tryz.func55 rfl (by kernel_rfl) (by simp [Tryz.ntmps55]) fun hbd => ?_
  clear hbd
  have hcur : curB H x 1 = some (sBk L s c) := by simp [curB, hb2]
  simp [Tryz.f55, hb2]
  refine ⟨by kernel_rfl, fun r hr => ?_⟩
  have hrf : r = false := by
    cases r with
    | false => rfl
    | true =>
      rcases hr rfl with h | h
      · omega
      · rw [hcur] at h; cases h
  subst hrf
  simp
  refine aRaw_app byt_46 ?_
  have hall : ∀ y ∈ dEls (sts L) ++ [rowO s c], y.length = 8 := fun y hy => by
    rcases List.mem_append.1 hy with h | h
    · simp only [dEls, sts, List.mem_map] at h
      obtain ⟨z, ⟨u, _, rfl⟩, rfl⟩ := h
      simp
    · obtain rfl : y = rowO s c := by simpa using h
      rfl
  have ht : List.take (L.length + 1) (dEls (sts L) ++ [rowO s c]) = dEls (sts L) ++ [rowO s c] := List.take_of_length_le (by simp)
  simp [List.getElem?_append_left hbl, hb2]
  rw [ht, if_pos hall]
  refine ⟨_, _, _, rfl, ?_, ?_, ?_⟩
  · unfold maxLen; omega
  · omega
  · simp
theorem clnOk_o {A : AHeap} {c : Nat} {cs : List Int} (hc : cs.length ≤ 2000000) (hb : A[c]? = some (nbk 1 cs)) : ClnOk A (.own c 1 0 cs.length) cs := fun N => by
  have hxl := (List.getElem?_eq_some_iff.1 hb).1
  have hb2 : (A ++ N)[c]? = some (nbk 1 cs) := by rw [List.getElem?_append_left hxl]; exact hb
  obtain ⟨H, hH⟩ : ∃ H, A ++ N = H := ⟨_, rfl⟩
  rw [hH] at hb2 ⊢
  have hbl := (List.getElem?_eq_some_iff.1 hb2).1
  refine AC.sub (R := fun r A' => (r = .own H.length 1 0 cs.length ∧ A' = H ++ [nbk 1 cs]) ∨ (r = .d (.v (.slice none 0 0)) ∧ cs = [] ∧ A' = H)) (ac_of Tryz.func58 rfl (by kernel_rfl) (by simp [Tryz.ntmps58]) fun hbd => ?_) ?_
  · clear hbd
    have hcur : curB H c 1 = some (nbk 1 cs) := by simp [curB, hb2]
    simp [Tryz.f58, hb2]
    refine ⟨by kernel_rfl, fun r hr => ?_⟩
    cases r with
    | true =>
      have : cs = [] := by
        rcases hr rfl with h | h
        · simpa using h
        · rw [hcur] at h; cases h
      subst this
      simp
    | false =>
      simp
      refine aRaw_app byt_49 ?_
      have hall : ∀ y ∈ dEls (i64s cs), y.length = 1 := fun y hy => by
        simp only [dEls, i64s, List.mem_map] at hy
        obtain ⟨z, ⟨u, _, rfl⟩, rfl⟩ := hy
        rfl
      simp [List.getElem?_append_left hbl, hb2]
      rw [if_pos hall]
      refine ⟨_, _, _, rfl, ?_, ?_, ?_⟩
      · unfold maxLen; omega
      · omega
      · simp
  · rintro r A' (⟨rfl, rfl⟩ | ⟨rfl, rfl, rfl⟩)
    · exact ⟨_, _, Sub.refl _ _ _, rfl, rfl⟩
    · refine ⟨_, _, (Sub.ghost 1 3 1).trans (Sub.env (e' := fun _ => .own A'.length 1 0 0) fun i => VLe.nil_own (k := ⟨1, true, 3, 1, []⟩) (by simp) rfl), ?_, ?_⟩ <;> simp
end Go.Proofs.YtagkfkhagjlmpaaGreat

/- Contracts: loops.retreating. -/
namespace Go.Proofs.YtagkfkhagjlmpaaGreat
open Go.RowKit
/-- A map from numbers to their places. -/
def plRows : Nat → List Nat → List (List AV)
  | _, [] => []
  | k, x :: l => [aI .i64 x, aI .i64 k] :: plRows (k + 1) l
theorem plRows_app : ∀ (k : Nat) (l : List Nat) (x : Nat), plRows k (l ++ [x]) = plRows k l ++ [[aI .i64 x, aI .i64 ((k + l.length : Nat) : Int)]]
  | k, [], x => by simp [plRows]
  | k, y :: l, x => by
    rw [List.cons_append, plRows, plRows_app (k + 1) l x, plRows, List.cons_append, List.length_cons, show k + 1 + l.length = k + (l.length + 1) by omega]
theorem find_pl (x : Nat) : ∀ (l : List Nat) (k i : Nat), findA (.int .i64) (.int .i64 x) (plRows k l) i = some (if x ∈ l then some (i + l.idxOf x, [aI .i64 ((k + l.idxOf x : Nat) : Int)]) else none)
  | [], k, i => by simp [plRows, findA]
  | y :: l, k, i => by
    have ih := find_pl x l (k + 1) (i + 1)
    by_cases hxy : x = y
    · subst hxy
      simp [plRows, findA, Instr.sameNow, List.idxOf_cons_self]
    · have h1 : ¬ (x : Int) = (y : Int) := by omega
      have h2 : ¬ (y : Int) = (x : Int) := by omega
      have h3 : (y == x) = false := by simp; omega
      have h4 : (y :: l).idxOf x = l.idxOf x + 1 := by rw [List.idxOf_cons, h3]; rfl
      rw [plRows]
      simp only [findA, Instr.sameNow]
      have h5 : ((x : Int) == (y : Int)) = false := by simpa using h1
      simp [h1, h2, h5, ih, hxy, h4]
      by_cases hm : x ∈ l
      · simp [hm]; constructor <;> omega
      · simp [hm]
abbrev plB (l : List Nat) : Blk := ⟨0, true, 1000001, 2, plRows 0 l⟩
def plc (l : List Nat) (x : Nat) : Nat := if x ∈ l then l.idxOf x else 0
theorem und_mii : Tryz.prog.underlying 109 = some (.map 3 3) := by kernel_rfl
theorem und_int : Tryz.prog.underlying 3 = some (.int .i64) := by kernel_rfl
theorem zv_int : zv Tryz.prog 3 = some (.int .i64 0) := by kernel_rfl
theorem upd_pl {A : AHeap} {b : Nat} {l : List Nat} {x : Nat} (hb : A[b]? = some (plB l)) (hx : x ∉ l) : updA Tryz.prog 109 A (.mp b 0) (aI .i64 x) (aI .i64 l.length) = some (A.set b (plB (l ++ [x]))) := by
  have hf := find_pl x l 0 0
  rw [if_neg hx] at hf
  unfold updA
  rw [und_mii]
  simp only [und_int]
  rw [hb]
  simp [plainK, cellsA, isAgg, Value.oneCell', hf, plB, plRows_app, setEls]
theorem look_pl {A : AHeap} {b : Nat} {l : List Nat} (hb : A[b]? = some (plB l)) (x : Nat) : lookupA Tryz.prog 109 A false (.mp b 0) (aI .i64 x) = some (aI .i64 (plc l x)) := by
  unfold lookupA
  rw [und_mii]
  simp only [und_int]
  rw [hb]
  have hf := find_pl x l 0 0
  by_cases hx : x ∈ l
  · rw [if_pos hx] at hf
    simp [plainK, hf, hx, plc, valM, okM]
  · rw [if_neg hx] at hf
    simp [plainK, hf, hx, plc, zeroM, zv_int, okM, Value.oneCell']
theorem cln_pl (m : Nat) : ∀ (k : Nat) (l : List Nat), clnE m (plRows k l) = plRows k l
  | k, [] => rfl
  | k, x :: l => by
    have ih := cln_pl m (k + 1) l
    simp only [clnE] at ih ⊢
    simp [plRows, ih]
def retV : Option (Nat × Nat) → AV
  | some p => .tup [.agg [aI .i64 p.1, aI .i64 p.2], aB true]
  | none => .tup [.agg [aI .i64 0, aI .i64 0], aB false]
abbrev prZ : Blk := ⟨0, true, 56, 2, [[aI .i64 0, aI .i64 0]]⟩
set_option maxRecDepth 100000 in
theorem lpretr_af (g : Gr) (hg : GrFit g) (hsm : g.b.length ≤ 400) (h0 : 0 < g.b.length) : AF Tryz.prog 23 [grV g] (retV (badG g)) := by
  have hgl : g.b.length ≤ maxLen := by unfold maxLen; omega
  obtain ⟨o, ho, hT⟩ := dmTree_ex g hg (edgOk g)
  have hO := dmOrder_af revOk g hg (edgOk g)
  have hE := lpedges_af g hg (edgOk g) hsm
  have hOl : (ordN g).length ≤ g.b.length := ordN_len (edgOk g)
  have hnd := ordN_nodup (edgOk g) h0
  obtain ⟨n, hn⟩ : ∃ n, g.b.length = n := ⟨_, rfl⟩
  rw [hn] at hgl
  obtain ⟨O, hOe⟩ : ∃ O, ordN g = O := ⟨_, rfl⟩
  have hget : ∀ i, i < O.length → ∃ a, O[i]? = some a ∧ a ∈ O ∧ a < n := fun i hi => by rw [← hOe] at hi ⊢; rw [← hn]; exact ordN_get hi
  have hOm : O.length ≤ maxLen := by rw [hOe] at hOl; omega
  rw [hOe] at hnd
  obtain ⟨R, hR⟩ : ∃ R, badG g = R := ⟨_, rfl⟩
  rw [hR]
  have hdl : (dataT (succT g)).length = n := by simp [dataT, succT, hn]
  refine af_of Tryz.func23 rfl (by kernel_rfl) (by simp [Tryz.ntmps23]) fun _ => ?_; simp [Tryz.f23, Ex.d_eq]
  refine aCall_of hO (by kernel_rfl) (by simp) ?_
  simp [hOe]
  refine aRaw_makeMap (tg := 1000001) (sz := 2) (by kernel_rfl) ?_
  simp
  refine aLoop_st (fun i : Nat => [(1, .ptr 0 0 0 0), (2, .ptr 1 0 0 0), (4, .d (.sl 1 (i64s (nI O)))), (5, .mp 2 0), (18, .d (.sl 1 (i64s (nI O)))), (19, aI .i64 O.length), (20, aI .i64 i)])
    (fun i => [gB g, prZ, plB (O.take i)]) (fun i => i ≤ O.length) (fun i => O.length - i) 0 (Sub.refl _ _ _) 3 (by omega) (by simp [cln_gB, plRows]) (by simp) (by omega) ?_
  rintro i hi K hK
  rcases Nat.lt_or_ge i O.length with hlt | hge
  case inl =>
    obtain ⟨a, ha, hao, han⟩ := hget i hlt
    have ha2 := (List.getElem?_eq_some_iff.1 ha).2
    have hts : O.take (i + 1) = O.take i ++ [a] := by rw [List.take_add_one, ha]; rfl
    have hnot : a ∉ O.take i := fun hm => by
      obtain ⟨k, hk⟩ := List.getElem?_of_mem hm
      rw [List.getElem?_take] at hk
      split at hk
      case isFalse => cases hk
      rename_i hki
      have e1 := List.getElem?_eq_some_iff.1 hk
      have e2 := List.getElem?_eq_some_iff.1 ha
      have f1 := List.Nodup.idxOf_getElem hnd k e1.1
      have f2 := List.Nodup.idxOf_getElem hnd i e2.1
      rw [e1.2] at f1
      rw [e2.2] at f2
      omega
    have hup := upd_pl (A := [gB g, prZ, plB (O.take i)]) (b := 2) (l := O.take i) (x := a) rfl hnot
    rw [List.length_take, Nat.min_eq_left (by omega), ← hts] at hup
    simp [hlt, ha, ha2]
    refine aRaw_mapUpdate (A' := [gB g, prZ, plB (O.take (i + 1))]) (by simpa using hup) ?_
    simp [succ_wrap hlt hOm]
    exact hK (i + 1) (by omega) (by omega) (Sub.refl _ _ _) 3 (by omega) (by simp [cln_gB, cln_pl]) (by simp)
  obtain rfl : i = O.length := by omega
  clear hK
  rw [List.take_length]
  simp
  refine aCall_of hT (by kernel_rfl) (by simp) ?_
  simp
  refine aCall_of hE (by kernel_rfl) (by simp) ?_
  simp [hn]
  refine aLoop_st (fun i : Nat => [(1, .ptr 0 0 0 0), (2, .ptr 1 0 0 0), (4, .d (.sl 1 (i64s (nI O)))), (5, .mp 2 0), (8, .d (.sl 1 (i64s (oI n o)))), (9, .d (.sl 1 (dataT (succT g)))), (33, .d (.sl 1 (i64s (nI O)))), (34, aI .i64 O.length), (35, aI .i64 i)])
    (fun i => [gB g, prZ, plB O]) (fun i => i ≤ O.length ∧ badUp g i = none) (fun i => O.length - i) 0 (Sub.refl _ _ _) 3 (by omega) (by simp [cln_gB, cln_pl]) (by simp) ⟨by omega, rfl⟩ ?_
  rintro i ⟨hi, hbu⟩ K hK
  rcases Nat.lt_or_ge i O.length with hlt | hge
  case inr =>
    obtain rfl : i = O.length := by omega
    have : R = none := by rw [← hR, badG, hOe]; exact hbu
    subst this
    simp [retV]
  obtain ⟨a, ha, hao, han⟩ := hget i hlt
  have hag : (ordN g)[i]? = some a := by rw [hOe]; exact ha
  have ha2 := (List.getElem?_eq_some_iff.1 ha).2
  have hra : (dgN g).rc a = true := by show (ordN g).contains a = true; rw [hOe]; simpa using hao
  have hsr : rowN (succT g) a = succR g n a := by rw [succT, hn]; exact mkT_row _ han
  have hrow := dataT_get (T := succT g) (k := a) (by simp [succT]; omega)
  rw [hsr] at hrow
  have hrow2 := (List.getElem?_eq_some_iff.1 hrow).2
  have hbf := bdst_find h0 hag
  rw [hn] at hbf
  obtain ⟨S, hS⟩ : ∃ S, succR g n a = S := ⟨_, rfl⟩
  have hSl : S.length ≤ n := by rw [← hS]; exact succR_len g n a
  have hSo : ∀ b ∈ S, b ∈ O ∧ b < n := fun b hb => by
    rw [← hS] at hb
    have := succR_mem.1 hb
    refine ⟨?_, this.1⟩
    rw [← hOe]
    exact ord_next h0 (by rw [hOe]; exact hao) this.2
  have hSm : S.length ≤ maxLen := by omega
  rw [hS] at hrow hbf
  simp only [hS] at hrow2
  have hpa : plc O a = O.idxOf a := if_pos hao
  simp [hlt, ha, ha2, hdl, han, hrow, hrow2]
  refine aLoop_st (fun j : Nat => [(1, .ptr 0 0 0 0), (2, .ptr 1 0 0 0), (4, .d (.sl 1 (i64s (nI O)))), (5, .mp 2 0), (8, .d (.sl 1 (i64s (oI n o)))), (9, .d (.sl 1 (dataT (succT g)))), (11, aI .i64 a), (12, aI .i64 (bV (bdst g a (S.take j)))), (33, .d (.sl 1 (i64s (nI O)))), (34, aI .i64 O.length), (35, aI .i64 i), (42, .d (.sl 1 (i64s (nI S)))), (43, aI .i64 S.length), (44, aI .i64 j)])
    (fun i => [gB g, prZ, plB O]) (fun j => j ≤ S.length) (fun j => S.length - j) 0 (Sub.refl _ _ _) 3 (by omega) (by simp [cln_gB, cln_pl]) (by simp [bdst, bV]) (by omega) ?_
  rintro j hj K2 hK2
  rcases Nat.lt_or_ge j S.length with hjlt | hjge
  case inr =>
    obtain rfl : j = S.length := by omega
    rw [List.take_length]
    cases hb : bdst g a S with
    | none =>
      rw [hb] at hbf
      have hnx := badUp_none hbu hag hbf.symm
      simp [bV, succ_wrap hlt hOm]
      exact hK (i + 1) ⟨by omega, hnx⟩ (by omega) (Sub.refl _ _ _) 3 (by omega) (by simp [cln_gB, cln_pl]) (by simp)
    | some b =>
      rw [hb] at hbf
      have hRs : R = some (a, b) := by rw [← hR]; exact badG_at hbu hag hbf.symm
      subst hRs
      simp [bV, retV, show (0 : Int) ≤ (b : Int) by omega]
  obtain ⟨b, hb⟩ : ∃ b, S[j]? = some b := ⟨_, List.getElem?_eq_getElem hjlt⟩
  have hb2 := (List.getElem?_eq_some_iff.1 hb).2
  obtain ⟨hbo, hbn⟩ := hSo b (List.mem_of_getElem? hb)
  have hpb : plc O b = O.idxOf b := if_pos hbo
  have hd := dom_af g (o := o) (by omega) hsm (ho (by omega)) (a := b) (b := a) (by omega) (by omega) hra
  rw [hn] at hd
  have hst : bdst g a (S.take (j + 1)) = bdstep g a (bdst g a (S.take j)) b := by rw [List.take_add_one, hb]; exact bdst_snoc g a _ b
  have hc : ∀ c, bdst g a (S.take j) = some c → c ∈ O := fun c hc => by
    have := bdst_spec g a _ (S.take j) rfl
    rw [hc] at this
    exact (hSo c (List.mem_of_mem_take this.1)).1
  obtain ⟨B, hB⟩ : ∃ B, bdst g a (S.take j) = B := ⟨_, rfl⟩
  rw [hB] at hst hc ⊢
  have hK3 : ∀ B', bdstep g a B b = B' → ∀ (e : AEnv), (∀ p ∈ [(1, AV.ptr 0 0 0 0), (2, .ptr 1 0 0 0), (4, .d (.sl 1 (i64s (nI O)))), (5, .mp 2 0), (8, .d (.sl 1 (i64s (oI n o)))), (9, .d (.sl 1 (dataT (succT g)))), (11, aI .i64 a), (12, aI .i64 (bV B')), (33, .d (.sl 1 (i64s (nI O)))), (34, aI .i64 O.length), (35, aI .i64 i), (42, .d (.sl 1 (i64s (nI S)))), (43, aI .i64 S.length), (44, aI .i64 ((j + 1 : Nat) : Int))], cln 3 (e p.1) = p.2) → K2 e [gB g, prZ, plB O] := fun B' hB' e he =>
    hK2 (j + 1) (by omega) (by omega) (Sub.refl _ _ _) 3 (by omega) (by simp [cln_gB, cln_pl]) (by rw [hst, hB']; exact he)
  have hjs : IntKind.i64.wrap ((j : Int) + 1) = ((j + 1 : Nat) : Int) := succ_wrap hjlt hSm
  simp [hjlt, hb, hb2]
  refine aRaw_lookup (r := aI .i64 (plc O b)) (by simpa using look_pl (A := [gB g, prZ, plB O]) (b := 2) (l := O) rfl b) ?_
  simp
  refine aRaw_lookup (r := aI .i64 (plc O a)) (by simpa using look_pl (A := [gB g, prZ, plB O]) (b := 2) (l := O) rfl a) ?_
  simp [hpa, hpb]
  by_cases hle : O.idxOf b ≤ O.idxOf a
  case neg =>
    have hBb : bdstep g a B b = B := by unfold bdstep; rw [hOe, if_neg (by simp [hle])]
    simp [hle, hjs]
    exact hK3 B hBb _ (by simp)
  simp [hle]
  refine aCall_of hd (by kernel_rfl) (by simp) ?_
  cases hdm : domB g b a with
  | true =>
    have hBb : bdstep g a B b = B := by unfold bdstep; rw [hOe, if_neg (by simp [hdm])]
    simp [hjs]
    exact hK3 B hBb _ (by simp)
  | false =>
    cases B with
    | none =>
      have hBb : bdstep g a none b = some b := by unfold bdstep; rw [hOe, if_pos (by simp [hdm, hle])]
      simp [bV, hjs]
      exact hK3 (some b) hBb _ (by simp [bV])
    | some c =>
      have hco := hc c rfl
      have hpc : plc O c = O.idxOf c := if_pos hco
      simp [bV, show ¬ (c : Int) < 0 by omega]
      refine aRaw_lookup (r := aI .i64 (plc O b)) (by simpa using look_pl (A := [gB g, prZ, plB O]) (b := 2) (l := O) rfl b) ?_
      simp
      refine aRaw_lookup (r := aI .i64 (plc O c)) (by simpa using look_pl (A := [gB g, prZ, plB O]) (b := 2) (l := O) rfl c) ?_
      by_cases hlt2 : O.idxOf b < O.idxOf c
      · have hBb : bdstep g a (some c) b = some b := by unfold bdstep; rw [hOe, if_pos (by simp [hdm, hle, hlt2])]
        simp [hpc, hpb, hlt2, hjs]
        exact hK3 (some b) hBb _ (by simp [bV])
      · have hBb : bdstep g a (some c) b = some c := by unfold bdstep; rw [hOe, if_neg (by simp [hlt2])]
        simp [hpc, hpb, hlt2, hjs]
        exact hK3 (some c) hBb _ (by simp [bV])
end Go.Proofs.YtagkfkhagjlmpaaGreat

/- Plain: splitting; the graph of one's own, as data. -/
namespace Go.Proofs.YtagkfkhagjlmpaaGreat
open Go.RowKit
/-- A block whose last statement is turned. -/
def rdB (b : Bl) (f t : Int) : Bl := match b.s.getLast? with
  | some s => ⟨b.ad, b.s.dropLast ++ [rdS s f t]⟩
  | none => b
theorem rdB_eq {b : Bl} {L : List St} {s : St} (h : b.s = L ++ [s]) (f t : Int) : rdB b f t = ⟨b.ad, L ++ [rdS s f t]⟩ := by
  unfold rdB
  rw [h]
  simp
/-- Block t is copied, and the edge from a leads to the copy. -/
def stpG (G : Gr) (a t : Nat) : Gr := match G.b[t]?, G.b[a]? with
  | some bt, some ba => ⟨G.ad, (G.b ++ [bt]).set a (rdB ba t G.b.length)⟩
  | _, _ => G
def splF : Nat → Gr → Nat → Option Gr
  | 0, _, _ => none
  | f + 1, G, c => match badG G with
    | none => some G
    | some (a, t) => match G.b[t]? with
      | some bt => if 256 ≤ G.b.length ∨ 1024 < c + bt.s.length then none else splF f (stpG G a t) (c + bt.s.length)
      | none => none
/-- What all blocks keep. -/
def BlOk (b : Bl) : Prop := ∃ L s, b.s = L ++ [s] ∧ (s.op ≠ 8 → s.cs = []) ∧ L.length ≤ 1000000 - 1 ∧ ∀ q ∈ L ++ [s], q.e.length ≤ 1000000 ∧ (∀ y ∈ q.e, y.nodes ≤ 1000000000) ∧ q.cs.length ≤ 2000000
theorem blOk_rd {b : Bl} (h : BlOk b) (f t : Int) : BlOk (rdB b f t) := by
  obtain ⟨L, s, h1, h2, h3, h4⟩ := h
  rw [rdB_eq h1]
  refine ⟨L, rdS s f t, rfl, fun h => ?_, h3, fun q hq => ?_⟩
  · have : s.cs = [] := h2 h
    simp [rdS, this]
  · rcases List.mem_append.1 hq with h | h
    · exact h4 q (by simp [h])
    · obtain rfl : q = rdS s f t := by simpa using h
      have := h4 s (by simp)
      exact ⟨this.1, this.2.1, by simpa [rdS] using this.2.2⟩
theorem stpG_len {G : Gr} {a t : Nat} (ha : a < G.b.length) (ht : t < G.b.length) : (stpG G a t).b.length = G.b.length + 1 := by
  unfold stpG
  rw [List.getElem?_eq_getElem ha, List.getElem?_eq_getElem ht]
  simp
theorem stpG_ok {G : Gr} (h : ∀ b ∈ G.b, BlOk b) (a t : Nat) : ∀ b ∈ (stpG G a t).b, BlOk b := by
  unfold stpG
  split
  · rename_i bt ba h1 h2
    intro b hb
    rcases List.mem_or_eq_of_mem_set hb with h3 | h3
    · rcases List.mem_append.1 h3 with h4 | h4
      · exact h b h4
      · obtain rfl : b = bt := by simpa using h4
        exact h _ (List.mem_of_getElem? h1)
    · rw [h3]
      exact blOk_rd (h _ (List.mem_of_getElem? h2)) _ _
  · exact h
theorem blOk_fit {G : Gr} (hl : G.b.length ≤ 1000) (h : ∀ b ∈ G.b, BlOk b) : GrFit G := by
  refine ⟨by omega, fun b hb => ?_⟩
  obtain ⟨L, s, h1, h2, h3, h4⟩ := h b hb
  rw [h1]
  refine ⟨by simp; omega, fun q hq => ?_⟩
  have := h4 q hq
  exact ⟨this.1, this.2.2⟩
/-- Where a block's statements lie, and its last one's cases. -/
structure OB where
  b : Bl
  x : Nat
  c : Nat
def rowsOB (T : List OB) : List (List AV) := T.map fun t => [aI .u32 t.b.ad, .own t.x 1 0 t.b.s.length]
structure OkT (H : AHeap) (T : List OB) : Prop where
  at' : ∀ t ∈ T, ∃ L s, t.b.s = L ++ [s] ∧ H[t.x]? = some (sBk L s t.c) ∧ H[t.c]? = some (nbk 1 s.cs) ∧ 3 < t.x ∧ t.x < t.c
  dis : ∀ (i j : Nat) (t u : OB), T[i]? = some t → T[j]? = some u → i ≠ j → t.x ≠ u.x ∧ t.x ≠ u.c ∧ t.c ≠ u.x ∧ t.c ≠ u.c
theorem rei_sts (H : AHeap) (d : Nat) (L : List St) (s : St) (c : Nat) (hc : H[c]? = some (nbk 1 s.cs)) : omap (fun x => omap (reiD false H (d + 1)) x) (dEls (sts L) ++ [rowO s c]) = some (sts (L ++ [s])) := by
  refine omap_ext (by simp) fun i a r ha hr => ?_
  rcases Nat.lt_or_ge i L.length with hi | hi
  · rw [List.getElem?_append_left (by simpa using hi)] at ha
    obtain ⟨q, hq⟩ : ∃ q, L[i]? = some q := ⟨_, List.getElem?_eq_getElem hi⟩
    have ha' : a = (St.d q).map AV.d := by simpa [dEls, sts, hq] using ha.symm
    have hr' : r = St.d q := by
      rw [sts_app, List.getElem?_append_left (by simpa using hi), sts_get, hq] at hr
      exact (Option.some.inj hr).symm
    rw [ha', hr']
    simp [omap, reiD, St.d_eq]
  · have hil : i < (sts (L ++ [s])).length := (List.getElem?_eq_some_iff.1 hr).1
    obtain rfl : i = L.length := by simp at hil; omega
    rw [List.getElem?_append_right (by simp)] at ha
    have ha' : a = rowO s c := by simpa using ha.symm
    have hr' : r = St.d s := by simpa using hr.symm
    rw [ha', hr']
    simp [omap, reiD, St.d_eq, hc]
theorem rei_bls (H : AHeap) (d : Nat) (T : List OB) (h : OkT H T) : omap (fun x => omap (reiD false H (d + 2)) x) (rowsOB T) = some (bls' (T.map OB.b)) := by
  refine omap_ext (by simp [rowsOB]) fun i a r ha hr => ?_
  simp only [rowsOB, List.getElem?_map, Option.map_eq_some_iff] at ha
  obtain ⟨t, ht, rfl⟩ := ha
  have hr' : r = Bl.d t.b := by simpa [ht] using hr.symm
  rw [hr']
  obtain ⟨L, s, h1, h2, h3, _⟩ := h.at' t (List.mem_of_getElem? ht)
  have hr2 := rei_sts H d L s t.c h3
  have ht2 : List.take (L.length + 1) (dEls (sts L) ++ [rowO s t.c]) = dEls (sts L) ++ [rowO s t.c] := List.take_of_length_le (by simp)
  simp [omap, reiD, Bl.d_eq, h1, h2, ht2, hr2]
end Go.Proofs.YtagkfkhagjlmpaaGreat

/- The graph of one's own: what its heap keeps. -/
namespace Go.Proofs.YtagkfkhagjlmpaaGreat
open Go.RowKit
theorem OkT.keep {H H' : AHeap} {T : List OB} (h : OkT H T) (hk : ∀ j, 3 < j → j < H.length → H'[j]? = H[j]?) : OkT H' T := by
  refine ⟨fun t ht => ?_, h.dis⟩
  obtain ⟨L, s, h1, h2, h3, h4, h5⟩ := h.at' t ht
  exact ⟨L, s, h1, by rw [hk _ h4 (List.getElem?_eq_some_iff.1 h2).1]; exact h2, by rw [hk _ (by omega) (List.getElem?_eq_some_iff.1 h3).1]; exact h3, h4, h5⟩
theorem OkT.lt {H : AHeap} {T : List OB} (h : OkT H T) {t : OB} (ht : t ∈ T) : 3 < t.x ∧ t.x < t.c ∧ t.c < H.length := by
  obtain ⟨L, s, h1, h2, h3, h4, h5⟩ := h.at' t ht
  exact ⟨h4, h5, (List.getElem?_eq_some_iff.1 h3).1⟩
theorem OkT.add {H H' : AHeap} {T : List OB} (h : OkT H T) (hk : ∀ j, 3 < j → j < H.length → H'[j]? = H[j]?) {b : Bl} {x c : Nat} {L : List St} {s : St} (hb : b.s = L ++ [s]) (hx : H.length ≤ x) (hx3 : 3 < x) (hxc : x < c) (h1 : H'[x]? = some (sBk L s c)) (h2 : H'[c]? = some (nbk 1 s.cs)) : OkT H' (T ++ [⟨b, x, c⟩]) := by
  have hk2 := h.keep hk
  refine ⟨fun t ht => ?_, fun i j t u hi hj hij => ?_⟩
  · rcases List.mem_append.1 ht with h3 | h3
    · exact hk2.at' t h3
    · obtain rfl : t = ⟨b, x, c⟩ := by simpa using h3
      exact ⟨L, s, hb, h1, h2, hx3, hxc⟩
  · have cs : ∀ (k : Nat) (q : OB), (T ++ [⟨b, x, c⟩])[k]? = some q → (k < T.length ∧ T[k]? = some q) ∨ (k = T.length ∧ q = ⟨b, x, c⟩) := fun k q hq => by
      rcases Nat.lt_or_ge k T.length with hk3 | hk3
      · rw [List.getElem?_append_left hk3] at hq
        exact .inl ⟨hk3, hq⟩
      · have hl := (List.getElem?_eq_some_iff.1 hq).1
        have hkl : k = T.length := by simp at hl; omega
        subst hkl
        rw [List.getElem?_append_right (Nat.le_refl _)] at hq
        simp at hq
        exact .inr ⟨rfl, hq.symm⟩
    rcases cs i t hi with ⟨i1, i2⟩ | ⟨i1, rfl⟩ <;> rcases cs j u hj with ⟨j1, j2⟩ | ⟨j1, rfl⟩
    · exact h.dis i j t u i2 j2 hij
    · have := h.lt (List.mem_of_getElem? i2)
      simp only
      omega
    · have := h.lt (List.mem_of_getElem? j2)
      simp only
      omega
    · omega
theorem OkT.turn {H : AHeap} {T : List OB} (h : OkT H T) {a : Nat} {t : OB} (ha : T[a]? = some t) {L : List St} {s : St} (hs : t.b.s = L ++ [s]) (f u : Int) (N : AHeap) :
    OkT (hp2 H t.x t.c (sBk L (rdS s f u) t.c) (nbk 1 (rdS s f u).cs) ++ N) (T.set a ⟨rdB t.b f u, t.x, t.c⟩) := by
  have ht := h.lt (List.mem_of_getElem? ha)
  have hxl : t.x < H.length := by omega
  have hxc : t.x ≠ t.c := by omega
  have hal := (List.getElem?_eq_some_iff.1 ha).1
  have hget : ∀ (k : Nat) (q : OB), (T.set a ⟨rdB t.b f u, t.x, t.c⟩)[k]? = some q → (k = a ∧ q = ⟨rdB t.b f u, t.x, t.c⟩) ∨ (k ≠ a ∧ T[k]? = some q) := fun k q hq => by
    rw [List.getElem?_set] at hq
    by_cases hka : a = k
    · subst hka
      simp [hal] at hq
      exact .inl ⟨rfl, hq.symm⟩
    · rw [if_neg hka] at hq
      exact .inr ⟨fun e => hka e.symm, hq⟩
  refine ⟨fun q hq => ?_, fun i j q r hi hj hij => ?_⟩
  · obtain ⟨k, hk⟩ := List.getElem?_of_mem hq
    rcases hget k q hk with ⟨_, rfl⟩ | ⟨hka, hk2⟩
    · exact ⟨L, rdS s f u, by rw [rdB_eq hs], hp2_x hxl hxc _ _ _, hp2_c ht.2.2 _ _ _, ht.1, ht.2.1⟩
    · obtain ⟨L', s', h1, h2, h3, h4, h5⟩ := h.at' q (List.mem_of_getElem? hk2)
      have hd := h.dis k a q t hk2 ha hka
      have q1 := (List.getElem?_eq_some_iff.1 h2).1
      have q2 := (List.getElem?_eq_some_iff.1 h3).1
      refine ⟨L', s', h1, ?_, ?_, h4, h5⟩
      · rw [List.getElem?_append_left (by rw [hp2_len]; exact q1), hp2, List.getElem?_set_ne (Ne.symm hd.2.1), List.getElem?_set_ne (Ne.symm hd.1)]
        exact h2
      · rw [List.getElem?_append_left (by rw [hp2_len]; exact q2), hp2, List.getElem?_set_ne (Ne.symm hd.2.2.2), List.getElem?_set_ne (Ne.symm hd.2.2.1)]
        exact h3
  · rcases hget i q hi with ⟨i1, rfl⟩ | ⟨i1, i2⟩ <;> rcases hget j r hj with ⟨j1, rfl⟩ | ⟨j1, j2⟩
    · omega
    · exact h.dis a j t r ha j2 (Ne.symm j1)
    · exact h.dis i a q t i2 ha i1
    · exact h.dis i j q r i2 j2 hij
end Go.Proofs.YtagkfkhagjlmpaaGreat

/- Contracts: loops.Split. -/
namespace Go.Proofs.YtagkfkhagjlmpaaGreat
open Go.RowKit
/-- What lies behind the heap when a block has been copied. -/
def newB (A : AHeap) (ad : Int) (L : List St) (s : St) (cv : AV) : AHeap := bxB ad (.own (A.length + 2) 1 0 (L.length + 1)) :: bxB ad (.own (A.length + 2) 1 0 (L.length + 1)) :: sBk L s (A.length + ((pcD L).length + (s.e.length + 1 + 1) + 1 + 1 + 1)) :: (pcD L ++ piece cv true s)
def newC (A : AHeap) (L : List St) (s : St) : Nat := A.length + ((pcD L).length + (s.e.length + 1 + 1) + 1 + 1 + 1)
theorem newB_x (A : AHeap) (ad : Int) (L : List St) (s : St) (cv : AV) (R : AHeap) : (A ++ (newB A ad L s cv ++ R))[A.length + 2]? = some (sBk L s (newC A L s)) := by
  rw [apA]
  rfl
theorem newB_c (A : AHeap) (ad : Int) (L : List St) (s : St) (cv : AV) (R : AHeap) : (A ++ (newB A ad L s cv ++ R))[newC A L s]? = some (nbk 1 s.cs) := by
  rw [newC, apA]
  simp [newB, apA, piece, List.append_assoc]
abbrev oGr (ad : Int) (v : Nat) : Blk := ⟨0, true, 25, 2, [[aI .u32 ad, .own 3 v 0 v]]⟩
abbrev zGr : Blk := ⟨0, true, 25, 2, [[aI .u32 0, .d (.v (.slice none 0 0))]]⟩
abbrev bsB (v : Nat) (T : List OB) : Blk := ⟨v, true, 48, 2, rowsOB T⟩
def cntS (l : List Bl) : Nat := (l.map fun b => b.s.length).sum
def spV : Option Gr → AV
  | some G => .tup [grV G, aI .i64 0]
  | none => .tup [grV ⟨0, []⟩, aI .i64 6]
theorem newB_len {A B : AHeap} (h : A.length = B.length) (ad : Int) (L : List St) (s : St) (cv : AV) : newB A ad L s cv = newB B ad L s cv := by simp only [newB, h]
theorem newC_len {A B : AHeap} (h : A.length = B.length) (L : List St) (s : St) : newC A L s = newC B L s := by simp only [newC, h]
theorem keep4 {a1 a2 a3 a4 b1 b2 b3 b4 : Blk} {N R : AHeap} {j : Nat} (h3 : 3 < j) (hj : j < N.length + 4) : (a1 :: a2 :: a3 :: a4 :: (N ++ R))[j]? = (b1 :: b2 :: b3 :: b4 :: N)[j]? := by
  obtain ⟨k, rfl⟩ : ∃ k, j = k + 1 + 1 + 1 + 1 := ⟨j - 4, by omega⟩
  simp only [List.getElem?_cons_succ]
  exact List.getElem?_append_left (by omega)
theorem cntS_take {l : List Bl} {i : Nat} {b : Bl} (h : l[i]? = some b) : cntS (l.take (i + 1)) = cntS (l.take i) + b.s.length := by
  rw [List.take_add_one, h]
  simp [cntS]
theorem cntS_le (l : List Bl) (i : Nat) : cntS (l.take i) ≤ cntS l := by
  have h : cntS (l.take i) + cntS (l.drop i) = cntS l := by
    simp only [cntS]
    rw [← List.sum_append, ← List.map_append, List.take_append_drop]
  omega
theorem rowsOB_len (T : List OB) : (rowsOB T).length = T.length := by simp [rowsOB]
theorem splF_some {f : Nat} {G : Gr} {c a t : Nat} {bt : Bl} (h : badG G = some (a, t)) (hb : G.b[t]? = some bt) : splF (f + 1) G c = if 256 ≤ G.b.length ∨ 1024 < c + bt.s.length then none else splF f (stpG G a t) (c + bt.s.length) := by
  rw [splF, h]
  simp only [hb]
theorem set4 {a1 a2 a3 a4 v : Blk} {R : AHeap} {x : Nat} (h : 3 < x) : (a1 :: a2 :: a3 :: a4 :: R).set x v = a1 :: a2 :: a3 :: a4 :: R.set (x - 4) v := by
  obtain ⟨k, rfl⟩ : ∃ k, x = k + 1 + 1 + 1 + 1 := ⟨x - 4, by omega⟩
  simp
theorem hp2_4 {a1 a2 a3 a4 S C : Blk} {R : AHeap} {x c : Nat} (hx : 3 < x) (hc : 3 < c) : hp2 (a1 :: a2 :: a3 :: a4 :: R) x c S C = a1 :: a2 :: a3 :: a4 :: hp2 R (x - 4) (c - 4) S C := by
  rw [hp2, set4 hx, set4 hc, hp2]
set_option maxRecDepth 100000 in
theorem lpsplit_af (g : Gr) (hg : GrFit g) (hsm : g.b.length ≤ 200) (hok : grErr g = 0 → ∀ b ∈ g.b, BlOk b) (hc : cntS g.b ≤ 1000000) : AF Tryz.prog 8 [grV g] (if grErr g = 0 then spV (splF 300 g (cntS g.b)) else .tup [grV ⟨0, []⟩, aI .i64 (grErr g)]) := by
  have hgl : g.b.length ≤ maxLen := by unfold maxLen; omega
  have hE := ilcheckg_af g hg
  refine af_of Tryz.func8 rfl (by kernel_rfl) (by simp [Tryz.ntmps8]) fun _ => ?_; simp [Tryz.f8, Ex.d_eq]
  refine aCall_of hE (by kernel_rfl) (by simp) ?_
  by_cases he : grErr g = 0
  case neg => simp [he]
  have h0 : 0 < g.b.length := Nat.pos_of_ne_zero fun h => by simp only [grErr, h] at he; split at he <;> simp at he
  have hB := hok he
  simp [he]
  obtain ⟨n, hn⟩ : ∃ n, g.b.length = n := ⟨_, rfl⟩
  have hst : ∀ e, Sub 0 e [gB g, zGr, ⟨0, true, 25, 2, [[aI .u32 g.ad, .d (.v (.slice none 0 0))]]⟩] e [gB g, zGr, oGr g.ad 0, bsB 0 []] := fun e => by
    have g1 := Sub.ghost (n := 0) (e := e) 0 48 2 (A := [gB g, zGr, ⟨0, true, 25, 2, [[aI .u32 g.ad, .d (.v (.slice none 0 0))]]⟩])
    have g2 := Sub.cell (n := 0) (e := e) (A := [gB g, zGr, ⟨0, true, 25, 2, [[aI .u32 g.ad, .d (.v (.slice none 0 0))]]⟩, ⟨0, true, 48, 2, []⟩]) (b := 2) (i := 0) (o := 1) rfl rfl rfl (VLe.nil_own (b := 3) (ver := 0) (k := ⟨0, true, 48, 2, []⟩) rfl rfl)
    exact g1.trans g2
  refine aLoop_of (α := Nat) (fun i e H => i ≤ n ∧ (∃ T N, H = [gB g, zGr, oGr g.ad i, bsB i T] ++ N ∧ T.map OB.b = g.b.take i ∧ OkT H T) ∧ e 1 = .ptr 0 0 0 0 ∧ e 2 = .ptr 1 0 0 0 ∧ e 5 = .ptr 2 0 0 0 ∧ e 6 = aI .i64 (cntS (g.b.take i)) ∧ e 21 = .d (.sl 2 (bls' g.b)) ∧ e 22 = aI .i64 n ∧ e 23 = aI .i64 i) (fun i => n - i) 0 (hst _)
    ⟨by omega, ⟨[], [], rfl, by simp, ⟨fun t ht => by simp at ht, fun i j t u hi => by simp at hi⟩⟩, by simp, by simp, by simp, by simp [cntS], by simp, by simp [hn], by simp⟩ ?_
  rintro i e H ⟨hi, ⟨T, N, rfl, hT, hOk⟩, e1, e2, e5, e6, e21, e22, e23⟩ K hK
  have hTl : T.length = i := by
    have := congrArg List.length hT
    simp at this
    omega
  have hcl := cntS_le g.b i
  rcases Nat.lt_or_ge i n with hlt | hge
  case inl =>
    have hlt' : i < g.b.length := by omega
    obtain ⟨b, hb⟩ : ∃ b, g.b[i]? = some b := ⟨_, List.getElem?_eq_getElem hlt'⟩
    have hb2 := (List.getElem?_eq_some_iff.1 hb).2
    obtain ⟨L, s, hbs, hs8, hLl, hq⟩ := hB b (List.mem_of_getElem? hb)
    have hct := cntS_take hb
    have hcl2 := cntS_le g.b (i + 1)
    simp [e1, e2, e5, e6, e21, e22, e23, hlt, hlt', hb, hb2, Bl.d_eq]
    obtain ⟨bb, hbb⟩ : ∃ bb : Blk, bxB b.ad (.d (.sl 8 (sts b.s))) = bb := ⟨_, rfl⟩
    obtain ⟨W, hW⟩ : ∃ W, newB (gB g :: zGr :: oGr g.ad i :: bsB i T :: (N ++ [bb])) b.ad L s (.d (.sl 1 (i64s s.cs))) = W := ⟨_, rfl⟩
    have hown := lpown_ac b.ad L s (.d (.sl 8 (sts b.s))) (.d (.sl 1 (i64s s.cs))) (gB g :: zGr :: oGr g.ad i :: bsB i T :: (N ++ [bb])) (by omega) hq (by rw [hbs]; exact clnS_d _ L s (by omega)) (clnOk_d _ s.cs (hq s (by simp)).2.2)
    have hl5 : (gB g :: zGr :: oGr g.ad i :: bsB i T :: (N ++ [bb])).length = N.length + 5 := by simp
    replace hown : AC Tryz.prog 22 [.agg [aI .u32 b.ad, .d (.sl 8 (sts b.s))]] (gB g :: zGr :: oGr g.ad i :: bsB i T :: (N ++ [bb])) (fun r A' => r = .agg [aI .u32 b.ad, .own (N.length + 7) 1 0 (L.length + 1)] ∧ A' = gB g :: zGr :: oGr g.ad i :: bsB i T :: (N ++ bb :: W)) := hown.mono fun r A' h => by
      obtain ⟨h1, h2⟩ := h
      rw [hl5] at h1
      refine ⟨h1, ?_⟩
      have h3 : A' = (gB g :: zGr :: oGr g.ad i :: bsB i T :: (N ++ [bb])) ++ W := by rw [h2, ← hW]; rfl
      rw [h3]
      simp
    rw [show (⟨0, true, 48, 2, [[aI .u32 b.ad, .d (.sl 8 (sts b.s))]]⟩ : Blk) = bb from hbb]
    have hbb2 : bb.els = [[aI .u32 b.ad, .d (.sl 8 (sts b.s))]] ∧ bb.ver = 0 ∧ bb.ty = 48 ∧ bb.sz = 2 := by rw [← hbb]; exact ⟨rfl, rfl, rfl, rfl⟩
    obtain ⟨bb1, bb2, bb3, bb4⟩ := hbb2
    have hrl := rowsOB_len T
    refine adrawR [.ptr 2 0 0 1, .own 3 i 0 i, .agg [aI .u32 b.ad, .d (.sl 8 (sts b.s))], .agg [aI .u32 b.ad, .own (N.length + 7) 1 0 (L.length + 1)], .own (N.length + (W.length + 1) + 1 + 1 + 1 + 1) 0 0 1, .own 3 (i + 1) 0 (i + 1), .ptr 2 0 0 1, .any]
      [(0, gB g :: zGr :: oGr g.ad i :: bsB i T :: (N ++ [bb])), (8, gB g :: zGr :: oGr g.ad i :: bsB i T :: (N ++ bb :: W)), (24, gB g :: zGr :: oGr g.ad i :: bsB i T :: (N ++ bb :: (W ++ [⟨0, true, 48, 2, [[aI .u32 b.ad, .own (N.length + 7) 1 0 (L.length + 1)]]⟩]))),
       (56, gB g :: zGr :: oGr g.ad i :: ⟨i + 1, true, 48, 2, rowsOB T ++ [[aI .u32 b.ad, .own (N.length + 7) 1 0 (L.length + 1)]]⟩ :: (N ++ bb :: (W ++ [⟨0, true, 48, 2, [[aI .u32 b.ad, .own (N.length + 7) 1 0 (L.length + 1)]]⟩]))),
       (184, gB g :: zGr :: oGr g.ad (i + 1) :: ⟨i + 1, true, 48, 2, rowsOB T ++ [[aI .u32 b.ad, .own (N.length + 7) 1 0 (L.length + 1)]]⟩ :: (N ++ bb :: (W ++ [⟨0, true, 48, 2, [[aI .u32 b.ad, .own (N.length + 7) 1 0 (L.length + 1)]]⟩])))]
      (by kernel_rfl) (by kernel_rfl) rfl rfl ?_ ?_
    · simp only [rowsR, List.mem_cons, List.not_mem_nil, or_false, forall_eq_or_imp, forall_eq]
      refine ⟨⟨?_, ?_, ?_, fun hmay => absurd hmay (Bool.eq_false_iff.1 (by kernel_rfl)), fun hmay => absurd hmay (Bool.eq_false_iff.1 (by kernel_rfl))⟩, ⟨?_, ?_, ?_, fun hmay => absurd hmay (Bool.eq_false_iff.1 (by kernel_rfl)), fun hmay => absurd hmay (Bool.eq_false_iff.1 (by kernel_rfl))⟩, ⟨?_, fun hmay => absurd hmay (Bool.eq_false_iff.1 (by kernel_rfl)), fun hmay => absurd hmay (Bool.eq_false_iff.1 (by kernel_rfl)), fun hmay => absurd hmay (Bool.eq_false_iff.1 (by kernel_rfl)), fun hmay => absurd hmay (Bool.eq_false_iff.1 (by kernel_rfl))⟩, ⟨?_, fun hmay => absurd hmay (Bool.eq_false_iff.1 (by kernel_rfl)), fun hmay => absurd hmay (Bool.eq_false_iff.1 (by kernel_rfl)), fun hmay => absurd hmay (Bool.eq_false_iff.1 (by kernel_rfl)), fun hmay => absurd hmay (Bool.eq_false_iff.1 (by kernel_rfl))⟩, ⟨fun hmay => absurd hmay (Bool.eq_false_iff.1 (by kernel_rfl)), ?_, fun hmay => absurd hmay (Bool.eq_false_iff.1 (by kernel_rfl)), fun hmay => absurd hmay (Bool.eq_false_iff.1 (by kernel_rfl)), fun hmay => absurd hmay (Bool.eq_false_iff.1 (by kernel_rfl))⟩, ⟨fun hmay => absurd hmay (Bool.eq_false_iff.1 (by kernel_rfl)), fun hmay => absurd hmay (Bool.eq_false_iff.1 (by kernel_rfl)), ?_, fun hmay => absurd hmay (Bool.eq_false_iff.1 (by kernel_rfl)), fun hmay => absurd hmay (Bool.eq_false_iff.1 (by kernel_rfl))⟩, ⟨fun hmay => absurd hmay (Bool.eq_false_iff.1 (by kernel_rfl)), fun hmay => absurd hmay (Bool.eq_false_iff.1 (by kernel_rfl)), fun hmay => absurd hmay (Bool.eq_false_iff.1 (by kernel_rfl)), ?_, fun hmay => absurd hmay (Bool.eq_false_iff.1 (by kernel_rfl))⟩, ⟨fun hmay => absurd hmay (Bool.eq_false_iff.1 (by kernel_rfl)), fun hmay => absurd hmay (Bool.eq_false_iff.1 (by kernel_rfl)), fun hmay => absurd hmay (Bool.eq_false_iff.1 (by kernel_rfl)), ?_, fun hmay => absurd hmay (Bool.eq_false_iff.1 (by kernel_rfl))⟩, trivial⟩
      all_goals
        intro hmay
        clear hmay
        intro e' K' h A3 hA hk
        simp only [Op.operands, Call.operands] at h
        simp [still, heapM, putR, dvA] at h hA hk
        subst hA
        simp [h, e1, e2, e5, apA, apA0, apS, apS0, bb1, bb2, bb3, bb4, hrl, hTl]
        try exact hk
      · refine aCall_ofc hown (by simp) ?_
        rintro _ _ ⟨rfl, rfl⟩
        exact hk
      · refine aRaw_app byt_23 ?_
        have hmx : i < maxLen := by unfold maxLen at hgl ⊢; omega
        simp [h, hrl, hTl]
        refine ⟨by omega, by omega, ?_⟩
        exact hk
    simp [putR, e6, e23, apA, apA0, apS, apS0, bb1, bb2, bb3, bb4, hrl, hTl]
    have hw1 : IntKind.i64.wrap ((cntS (g.b.take i) : Int) + (b.s.length : Int)) = ((cntS (g.b.take (i + 1)) : Nat) : Int) := by rw [hct]; exact i64w (by omega)
    have hiw : IntKind.i64.wrap ((i : Int) + 1) = ((i + 1 : Nat) : Int) := succ_wrap hlt (by omega)
    have hA' : ∀ a3 a4, (gB g :: zGr :: a3 :: a4 :: (N ++ [bb])).length = N.length + 5 := fun a3 a4 => by simp
    obtain ⟨T', hT'⟩ : ∃ T', T' = T ++ [(⟨b, N.length + 7, newC (gB g :: zGr :: oGr g.ad i :: bsB i T :: (N ++ [bb])) L s⟩ : OB)] := ⟨_, rfl⟩
    have hrT : rowsOB T' = rowsOB T ++ [[aI .u32 b.ad, .own (N.length + 7) 1 0 (L.length + 1)]] := by rw [hT']; simp [rowsOB, hbs]
    have hx1 := newB_x (gB g :: zGr :: oGr g.ad (i + 1) :: bsB (i + 1) T' :: (N ++ [bb])) b.ad L s (.d (.sl 1 (i64s s.cs))) [⟨0, true, 48, 2, [[aI .u32 b.ad, .own (N.length + 7) 1 0 (L.length + 1)]]⟩]
    have hx2 := newB_c (gB g :: zGr :: oGr g.ad (i + 1) :: bsB (i + 1) T' :: (N ++ [bb])) b.ad L s (.d (.sl 1 (i64s s.cs))) [⟨0, true, 48, 2, [[aI .u32 b.ad, .own (N.length + 7) 1 0 (L.length + 1)]]⟩]
    have hle : (gB g :: zGr :: oGr g.ad (i + 1) :: bsB (i + 1) T' :: (N ++ [bb])).length = (gB g :: zGr :: oGr g.ad i :: bsB i T :: (N ++ [bb])).length := by simp
    rw [newB_len hle, hW, newC_len hle] at hx1 hx2
    rw [hA'] at hx1
    have hcgt : N.length + 7 < newC (gB g :: zGr :: oGr g.ad i :: bsB i T :: (N ++ [bb])) L s := by unfold newC; rw [hl5]; omega
    have happ : (gB g :: zGr :: oGr g.ad (i + 1) :: bsB (i + 1) T' :: (N ++ [bb])) ++ (W ++ [⟨0, true, 48, 2, [[aI .u32 b.ad, .own (N.length + 7) 1 0 (L.length + 1)]]⟩]) = gB g :: zGr :: oGr g.ad (i + 1) :: bsB (i + 1) T' :: (N ++ bb :: (W ++ [⟨0, true, 48, 2, [[aI .u32 b.ad, .own (N.length + 7) 1 0 (L.length + 1)]]⟩])) := by simp
    rw [happ] at hx1 hx2
    refine hK (i + 1) _ _ _ _ (Sub.refl _ _ _) ⟨by omega, ⟨T', N ++ bb :: (W ++ [⟨0, true, 48, 2, [[aI .u32 b.ad, .own (N.length + 7) 1 0 (L.length + 1)]]⟩]), ?_, ?_, ?_⟩, by simp [e1], by simp [e2], by simp [e5], ?_, by simp [e21], by simp [e22], ?_⟩ (by omega)
    · rw [← hrT]; simp
    · rw [hT', List.take_add_one, hb]; simp [hT]
    · rw [← hrT, hT'] at *
      refine hOk.add (fun j h3 hj => ?_) hbs (by simp) (by omega) hcgt hx1 hx2
      exact keep4 h3 (by simpa using hj)
    · simp [hw1]
    · simp [hiw]
  obtain rfl : i = n := by omega
  clear hK
  have hTg : T.map OB.b = g.b := by rw [hT, ← hn, List.take_length]
  have hcg : cntS (g.b.take i) = cntS g.b := by rw [← hn, List.take_length]
  rw [hcg] at e6
  obtain ⟨R, hR⟩ : ∃ R, splF 300 g (cntS g.b) = R := ⟨_, rfl⟩
  rw [hR]
  simp [e22, e23]
  refine aLoop_of (α := Nat × Gr × Nat) (fun q e H => q.1 + q.2.1.b.length ≥ 257 ∧ q.2.1.ad = g.ad ∧ 0 < q.2.1.b.length ∧ q.2.1.b.length ≤ 256 ∧ (∀ b ∈ q.2.1.b, BlOk b) ∧ q.2.2 ≤ 2000000 ∧ splF q.1 q.2.1 q.2.2 = R ∧ (∃ T N, H = gB g :: zGr :: oGr g.ad q.2.1.b.length :: bsB q.2.1.b.length T :: N ∧ T.map OB.b = q.2.1.b ∧ OkT H T) ∧
      e 1 = .ptr 0 0 0 0 ∧ e 2 = .ptr 1 0 0 0 ∧ e 5 = .ptr 2 0 0 0 ∧ e 6 = aI .i64 q.2.2) (fun q => q.1) (300, g, cntS g.b) (Sub.refl _ _ _)
    ⟨by simp only; omega, rfl, h0, by simp only; omega, hB, by simp only; omega, hR, ⟨T, N, by simp [hn], hTg, by simpa using hOk⟩, by simp [e1], by simp [e2], by simp [e5], by simp [e6]⟩ ?_
  clear e1 e2 e5 e6 e21 e22 e23 hOk hT hTg hTl T N e
  rintro ⟨f, G, c⟩ e H ⟨hf, hGa, hG0, hG2, hGb, hc2, hsp, ⟨T, N, rfl, hT, hOk⟩, e1, e2, e5, e6⟩ K hK
  simp only at hf hGa hG0 hG2 hGb hc2 hsp hT hOk hK e6 ⊢
  have hTl : T.length = G.b.length := by rw [← hT, List.length_map]
  have hfit := blOk_fit (G := G) (by omega) hGb
  have hre := lpretr_af G hfit (by omega) hG0
  have hr8 := rei_bls _ 6 T hOk
  have hr7 := rei_bls _ 5 T hOk
  have hr9 := rei_bls _ 7 T hOk
  rw [hT] at hr7 hr8 hr9
  have htk : List.take G.b.length (rowsOB T) = rowsOB T := List.take_of_length_le (by rw [rowsOB_len]; omega)
  have hrl := rowsOB_len T
  obtain ⟨f, rfl⟩ : ∃ f', f = f' + 1 := ⟨f - 1, by omega⟩
  simp [e1, e2, e5, e6]
  refine aCall_ofs hre (by kernel_rfl) (by simp [htk, hrl, hTl, hr7, hr8, hr9, hGa]) (by cases badG G <;> simp [retV, scal]) ?_
  cases hbad : badG G with
  | none =>
    have hRs : R = some G := by rw [← hsp, splF, hbad]
    subst hRs
    simp [retV, e1, e2, e5, e6, spV]
    have hOk' : OkT (gB g :: ⟨0, true, 25, 2, [[aI .u32 g.ad, .own 3 G.b.length 0 G.b.length]]⟩ :: oGr g.ad G.b.length :: bsB G.b.length T :: (N ++ [⟨0, true, 56, 2, [[aI .i64 0, aI .i64 0]]⟩])) T := hOk.keep fun j h3 hj => keep4 h3 (by simpa using hj)
    have h8 := rei_bls _ 6 T hOk'
    rw [hT] at h8
    simp [hrl, hTl, htk, h8, hGa]
  | some p =>
    obtain ⟨a, t⟩ := p
    obtain ⟨ha, ht, _, _⟩ := badG_lt hbad
    obtain ⟨oa, hoa⟩ : ∃ o, T[a]? = some o := ⟨_, List.getElem?_eq_getElem (by omega)⟩
    obtain ⟨ot, hot⟩ : ∃ o, T[t]? = some o := ⟨_, List.getElem?_eq_getElem (by omega)⟩
    have hba : G.b[a]? = some oa.b := by rw [← hT, List.getElem?_map, hoa]; rfl
    have hbt : G.b[t]? = some ot.b := by rw [← hT, List.getElem?_map, hot]; rfl
    have hra1 : (rowsOB T)[a]? = some [aI .u32 oa.b.ad, .own oa.x 1 0 oa.b.s.length] := by simp [rowsOB, hoa]
    have hrt1 : (rowsOB T)[t]? = some [aI .u32 ot.b.ad, .own ot.x 1 0 ot.b.s.length] := by simp [rowsOB, hot]
    have hra2 := (List.getElem?_eq_some_iff.1 hra1).2
    have hrt2 := (List.getElem?_eq_some_iff.1 hrt1).2
    obtain ⟨L, s, hbs, ht1, ht2, ht3, ht4⟩ := hOk.at' ot (List.mem_of_getElem? hot)
    obtain ⟨hs8, hLl, hq⟩ : (s.op ≠ 8 → s.cs = []) ∧ L.length ≤ 1000000 - 1 ∧ ∀ q ∈ L ++ [s], q.e.length ≤ 1000000 ∧ (∀ y ∈ q.e, y.nodes ≤ 1000000000) ∧ q.cs.length ≤ 2000000 := by
      obtain ⟨L', s', h1, h2, h3, h4⟩ := hGb ot.b (List.mem_of_getElem? hbt)
      rw [hbs] at h1
      have h5 := List.append_inj' h1 rfl
      obtain ⟨rfl, h6⟩ := h5
      obtain rfl : s = s' := by simpa using h6
      exact ⟨h2, h3, h4⟩
    have hX : ∀ a1 a2 a3 a4 R, (a1 :: a2 :: a3 :: a4 :: (N ++ R))[ot.x]? = some (sBk L s ot.c) := fun a1 a2 a3 a4 R => (keep4 (R := R) ht3 (by simpa using (List.getElem?_eq_some_iff.1 ht1).1)).trans ht1
    have hXc : ∀ a1 a2 a3 a4 R, (a1 :: a2 :: a3 :: a4 :: (N ++ R))[ot.c]? = some (nbk 1 s.cs) := fun a1 a2 a3 a4 R => (keep4 (R := R) (by omega) (by simpa using (List.getElem?_eq_some_iff.1 ht2).1)).trans ht2
    have hsl : ot.b.s.length = L.length + 1 := by rw [hbs]; simp
    have hw1 : IntKind.i64.wrap ((c : Int) + ((L.length : Int) + 1)) = ((c + ot.b.s.length : Nat) : Int) := by rw [hsl]; exact i64w (by omega)
    simp [retV, e1, e2, e5, e6, apA, apA0, ha, ht, hra1, hra2, hrt1, hrt2, hrl, hTl, hsl, hw1, hX]
    by_cases hlim : 256 ≤ G.b.length ∨ 1024 < c + ot.b.s.length
    · have hRs : R = none := by rw [← hsp, splF_some hbad hbt, if_pos hlim]
      subst hRs
      by_cases h256 : 256 ≤ G.b.length
      · have h256' : (256 : Int) ≤ (G.b.length : Int) := by omega
        simp [h256', e1, e2, spV]
      · have h256' : ¬ (256 : Int) ≤ (G.b.length : Int) := by omega
        have h1024 : (1024 : Int) < (c : Int) + ((L.length : Int) + 1) := by omega
        simp [h256', h1024, e1, e2, spV]
    have hRs : splF f (stpG G a t) (c + ot.b.s.length) = R := by rw [← hsp, splF_some hbad hbt, if_neg hlim]
    have h256' : ¬ (256 : Int) ≤ (G.b.length : Int) := by omega
    have h1024 : ¬ (1024 : Int) < (c : Int) + ((L.length : Int) + 1) := by omega
    simp [h256', h1024, e1, e2]
    obtain ⟨tb, htb⟩ : ∃ tb : Blk, (⟨0, true, 56, 2, [[aI .i64 a, aI .i64 t]]⟩ : Blk) = tb := ⟨_, rfl⟩
    obtain ⟨W, hW⟩ : ∃ W, newB (gB g :: zGr :: oGr g.ad G.b.length :: bsB G.b.length T :: (N ++ [tb])) ot.b.ad L s (.own ot.c 1 0 s.cs.length) = W := ⟨_, rfl⟩
    have hown := lpown_ac ot.b.ad L s (.own ot.x 1 0 (L.length + 1)) (.own ot.c 1 0 s.cs.length) (gB g :: zGr :: oGr g.ad G.b.length :: bsB G.b.length T :: (N ++ [tb])) (by omega) hq (clnS_o (by omega) (hX _ _ _ _ _)) (clnOk_o (hq s (by simp)).2.2 (hXc _ _ _ _ _))
    have hl5 : (gB g :: zGr :: oGr g.ad G.b.length :: bsB G.b.length T :: (N ++ [tb])).length = N.length + 5 := by simp
    replace hown : AC Tryz.prog 22 [.agg [aI .u32 ot.b.ad, .own ot.x 1 0 (L.length + 1)]] (gB g :: zGr :: oGr g.ad G.b.length :: bsB G.b.length T :: (N ++ [tb])) (fun r A' => r = .agg [aI .u32 ot.b.ad, .own (N.length + 7) 1 0 (L.length + 1)] ∧ A' = gB g :: zGr :: oGr g.ad G.b.length :: bsB G.b.length T :: (N ++ tb :: W)) := hown.mono fun r A' h => by
      obtain ⟨h1, h2⟩ := h
      rw [hl5] at h1
      refine ⟨h1, ?_⟩
      have h3 : A' = (gB g :: zGr :: oGr g.ad G.b.length :: bsB G.b.length T :: (N ++ [tb])) ++ W := by rw [h2, ← hW]; rfl
      rw [h3]
      simp
    rw [htb]
    have htb2 : tb.els = [[aI .i64 a, aI .i64 t]] ∧ tb.ver = 0 ∧ tb.ty = 56 ∧ tb.sz = 2 := by rw [← htb]; exact ⟨rfl, rfl, rfl, rfl⟩
    obtain ⟨tb1, tb2, tb3, tb4⟩ := htb2
    refine adrawR [.ptr 2 0 0 1, .own 3 G.b.length 0 G.b.length, .ptr 2 0 0 1, .own 3 G.b.length 0 G.b.length, .ptr (N.length + 1 + 1 + 1 + 1) 0 0 1, aI .i64 t, .ptr 3 G.b.length t 0, .agg [aI .u32 ot.b.ad, .own ot.x 1 0 (L.length + 1)], .agg [aI .u32 ot.b.ad, .own (N.length + 7) 1 0 (L.length + 1)], .own (N.length + (W.length + 1) + 1 + 1 + 1 + 1) 0 0 1, .own 3 (G.b.length + 1) 0 (G.b.length + 1), .ptr 2 0 0 1, .any]
      [(0, gB g :: zGr :: oGr g.ad G.b.length :: bsB G.b.length T :: (N ++ [tb])), (256, gB g :: zGr :: oGr g.ad G.b.length :: bsB G.b.length T :: (N ++ tb :: W)), (768, gB g :: zGr :: oGr g.ad G.b.length :: bsB G.b.length T :: (N ++ tb :: (W ++ [⟨0, true, 48, 2, [[aI .u32 ot.b.ad, .own (N.length + 7) 1 0 (L.length + 1)]]⟩]))),
       (1792, gB g :: zGr :: oGr g.ad G.b.length :: ⟨G.b.length + 1, true, 48, 2, rowsOB T ++ [[aI .u32 ot.b.ad, .own (N.length + 7) 1 0 (L.length + 1)]]⟩ :: (N ++ tb :: (W ++ [⟨0, true, 48, 2, [[aI .u32 ot.b.ad, .own (N.length + 7) 1 0 (L.length + 1)]]⟩]))),
       (5888, gB g :: zGr :: oGr g.ad (G.b.length + 1) :: ⟨G.b.length + 1, true, 48, 2, rowsOB T ++ [[aI .u32 ot.b.ad, .own (N.length + 7) 1 0 (L.length + 1)]]⟩ :: (N ++ tb :: (W ++ [⟨0, true, 48, 2, [[aI .u32 ot.b.ad, .own (N.length + 7) 1 0 (L.length + 1)]]⟩])))]
      (by kernel_rfl) (by kernel_rfl) rfl rfl ?_ ?_
    · simp only [rowsR, List.mem_cons, List.not_mem_nil, or_false, forall_eq_or_imp, forall_eq]
      refine ⟨⟨?_, ?_, ?_, fun hmay => absurd hmay (Bool.eq_false_iff.1 (by kernel_rfl)), fun hmay => absurd hmay (Bool.eq_false_iff.1 (by kernel_rfl))⟩, ⟨?_, ?_, ?_, fun hmay => absurd hmay (Bool.eq_false_iff.1 (by kernel_rfl)), fun hmay => absurd hmay (Bool.eq_false_iff.1 (by kernel_rfl))⟩, ⟨?_, fun hmay => absurd hmay (Bool.eq_false_iff.1 (by kernel_rfl)), fun hmay => absurd hmay (Bool.eq_false_iff.1 (by kernel_rfl)), fun hmay => absurd hmay (Bool.eq_false_iff.1 (by kernel_rfl)), fun hmay => absurd hmay (Bool.eq_false_iff.1 (by kernel_rfl))⟩, ⟨?_, fun hmay => absurd hmay (Bool.eq_false_iff.1 (by kernel_rfl)), fun hmay => absurd hmay (Bool.eq_false_iff.1 (by kernel_rfl)), fun hmay => absurd hmay (Bool.eq_false_iff.1 (by kernel_rfl)), fun hmay => absurd hmay (Bool.eq_false_iff.1 (by kernel_rfl))⟩, ⟨?_, fun hmay => absurd hmay (Bool.eq_false_iff.1 (by kernel_rfl)), fun hmay => absurd hmay (Bool.eq_false_iff.1 (by kernel_rfl)), fun hmay => absurd hmay (Bool.eq_false_iff.1 (by kernel_rfl)), fun hmay => absurd hmay (Bool.eq_false_iff.1 (by kernel_rfl))⟩, ⟨?_, fun hmay => absurd hmay (Bool.eq_false_iff.1 (by kernel_rfl)), fun hmay => absurd hmay (Bool.eq_false_iff.1 (by kernel_rfl)), fun hmay => absurd hmay (Bool.eq_false_iff.1 (by kernel_rfl)), fun hmay => absurd hmay (Bool.eq_false_iff.1 (by kernel_rfl))⟩, ⟨?_, fun hmay => absurd hmay (Bool.eq_false_iff.1 (by kernel_rfl)), fun hmay => absurd hmay (Bool.eq_false_iff.1 (by kernel_rfl)), fun hmay => absurd hmay (Bool.eq_false_iff.1 (by kernel_rfl)), fun hmay => absurd hmay (Bool.eq_false_iff.1 (by kernel_rfl))⟩, ⟨?_, fun hmay => absurd hmay (Bool.eq_false_iff.1 (by kernel_rfl)), fun hmay => absurd hmay (Bool.eq_false_iff.1 (by kernel_rfl)), fun hmay => absurd hmay (Bool.eq_false_iff.1 (by kernel_rfl)), fun hmay => absurd hmay (Bool.eq_false_iff.1 (by kernel_rfl))⟩, ⟨?_, fun hmay => absurd hmay (Bool.eq_false_iff.1 (by kernel_rfl)), fun hmay => absurd hmay (Bool.eq_false_iff.1 (by kernel_rfl)), fun hmay => absurd hmay (Bool.eq_false_iff.1 (by kernel_rfl)), fun hmay => absurd hmay (Bool.eq_false_iff.1 (by kernel_rfl))⟩, ⟨fun hmay => absurd hmay (Bool.eq_false_iff.1 (by kernel_rfl)), ?_, fun hmay => absurd hmay (Bool.eq_false_iff.1 (by kernel_rfl)), fun hmay => absurd hmay (Bool.eq_false_iff.1 (by kernel_rfl)), fun hmay => absurd hmay (Bool.eq_false_iff.1 (by kernel_rfl))⟩, ⟨fun hmay => absurd hmay (Bool.eq_false_iff.1 (by kernel_rfl)), fun hmay => absurd hmay (Bool.eq_false_iff.1 (by kernel_rfl)), ?_, fun hmay => absurd hmay (Bool.eq_false_iff.1 (by kernel_rfl)), fun hmay => absurd hmay (Bool.eq_false_iff.1 (by kernel_rfl))⟩, ⟨fun hmay => absurd hmay (Bool.eq_false_iff.1 (by kernel_rfl)), fun hmay => absurd hmay (Bool.eq_false_iff.1 (by kernel_rfl)), fun hmay => absurd hmay (Bool.eq_false_iff.1 (by kernel_rfl)), ?_, fun hmay => absurd hmay (Bool.eq_false_iff.1 (by kernel_rfl))⟩, ⟨fun hmay => absurd hmay (Bool.eq_false_iff.1 (by kernel_rfl)), fun hmay => absurd hmay (Bool.eq_false_iff.1 (by kernel_rfl)), fun hmay => absurd hmay (Bool.eq_false_iff.1 (by kernel_rfl)), ?_, fun hmay => absurd hmay (Bool.eq_false_iff.1 (by kernel_rfl))⟩, trivial⟩
      all_goals
        intro hmay
        clear hmay
        intro e' K' h A3 hA hk
        simp only [Op.operands, Call.operands] at h
        simp [still, heapM, putR, dvA] at h hA hk
        subst hA
        simp [h, e1, e2, e5, apA, apA0, apS, apS0, tb1, tb2, tb3, tb4, hrl, hTl, ht, hrt1, hrt2, hsl]
        try exact hk
      · refine aCall_ofc hown (by simp) ?_
        rintro _ _ ⟨rfl, rfl⟩
        exact hk
      · refine aRaw_app byt_23 ?_
        have hmx : G.b.length < maxLen := by unfold maxLen; omega
        simp [h, hrl, hTl]
        refine ⟨by omega, by omega, ?_⟩
        exact hk
    obtain ⟨La, sa, hbsa, ha1, ha2, ha3, ha4⟩ := hOk.at' oa (List.mem_of_getElem? hoa)
    obtain ⟨hsa8, hLal, hqa⟩ : (sa.op ≠ 8 → sa.cs = []) ∧ La.length ≤ 1000000 - 1 ∧ ∀ q ∈ La ++ [sa], q.e.length ≤ 1000000 ∧ (∀ y ∈ q.e, y.nodes ≤ 1000000000) ∧ q.cs.length ≤ 2000000 := by
      obtain ⟨L', s', h1, h2, h3, h4⟩ := hGb oa.b (List.mem_of_getElem? hba)
      rw [hbsa] at h1
      have h5 := List.append_inj' h1 rfl
      obtain ⟨rfl, h6⟩ := h5
      obtain rfl : sa = s' := by simpa using h6
      exact ⟨h2, h3, h4⟩
    have hsla : oa.b.s.length = La.length + 1 := by rw [hbsa]; simp
    obtain ⟨T', hT'⟩ : ∃ T', T' = T ++ [(⟨ot.b, N.length + 7, newC (gB g :: zGr :: oGr g.ad G.b.length :: bsB G.b.length T :: (N ++ [tb])) L s⟩ : OB)] := ⟨_, rfl⟩
    have hrT : rowsOB T' = rowsOB T ++ [[aI .u32 ot.b.ad, .own (N.length + 7) 1 0 (L.length + 1)]] := by rw [hT']; simp [rowsOB, hsl]
    have hx1 := newB_x (gB g :: zGr :: oGr g.ad (G.b.length + 1) :: bsB (G.b.length + 1) T' :: (N ++ [tb])) ot.b.ad L s (.own ot.c 1 0 s.cs.length) [⟨0, true, 48, 2, [[aI .u32 ot.b.ad, .own (N.length + 7) 1 0 (L.length + 1)]]⟩]
    have hx2 := newB_c (gB g :: zGr :: oGr g.ad (G.b.length + 1) :: bsB (G.b.length + 1) T' :: (N ++ [tb])) ot.b.ad L s (.own ot.c 1 0 s.cs.length) [⟨0, true, 48, 2, [[aI .u32 ot.b.ad, .own (N.length + 7) 1 0 (L.length + 1)]]⟩]
    have hle : (gB g :: zGr :: oGr g.ad (G.b.length + 1) :: bsB (G.b.length + 1) T' :: (N ++ [tb])).length = (gB g :: zGr :: oGr g.ad G.b.length :: bsB G.b.length T :: (N ++ [tb])).length := by simp
    rw [newB_len hle, hW, newC_len hle] at hx1 hx2
    rw [hle, hl5] at hx1
    have hcgt : N.length + 7 < newC (gB g :: zGr :: oGr g.ad G.b.length :: bsB G.b.length T :: (N ++ [tb])) L s := by unfold newC; rw [hl5]; omega
    have happ : (gB g :: zGr :: oGr g.ad (G.b.length + 1) :: bsB (G.b.length + 1) T' :: (N ++ [tb])) ++ (W ++ [⟨0, true, 48, 2, [[aI .u32 ot.b.ad, .own (N.length + 7) 1 0 (L.length + 1)]]⟩]) = gB g :: zGr :: oGr g.ad (G.b.length + 1) :: bsB (G.b.length + 1) T' :: (N ++ tb :: (W ++ [⟨0, true, 48, 2, [[aI .u32 ot.b.ad, .own (N.length + 7) 1 0 (L.length + 1)]]⟩])) := by simp
    rw [happ] at hx1 hx2
    obtain ⟨N2, hN2⟩ : ∃ N2 : AHeap, N ++ tb :: (W ++ [⟨0, true, 48, 2, [[aI .u32 ot.b.ad, .own (N.length + 7) 1 0 (L.length + 1)]]⟩]) = N2 := ⟨_, rfl⟩
    have hOk2 : OkT (gB g :: zGr :: oGr g.ad (G.b.length + 1) :: bsB (G.b.length + 1) T' :: N2) T' := by
      rw [← hN2]
      have := hOk.add (H' := gB g :: zGr :: oGr g.ad (G.b.length + 1) :: bsB (G.b.length + 1) T' :: (N ++ tb :: (W ++ [⟨0, true, 48, 2, [[aI .u32 ot.b.ad, .own (N.length + 7) 1 0 (L.length + 1)]]⟩]))) (fun j h3 hj => keep4 h3 (by simpa using hj)) hbs (by simp) (by omega) hcgt hx1 hx2
      rwa [← hT'] at this
    have hoa2 : T'[a]? = some oa := by rw [hT', List.getElem?_append_left (by omega)]; exact hoa
    have hb1 : (gB g :: zGr :: oGr g.ad (G.b.length + 1) :: bsB (G.b.length + 1) T' :: N2)[oa.x]? = some (sBk La sa oa.c) := by rw [← hN2]; exact (keep4 ha3 (by simpa using (List.getElem?_eq_some_iff.1 ha1).1)).trans ha1
    have hb2 : (gB g :: zGr :: oGr g.ad (G.b.length + 1) :: bsB (G.b.length + 1) T' :: N2)[oa.c]? = some (nbk 1 sa.cs) := by rw [← hN2]; exact (keep4 (by omega) (by simpa using (List.getElem?_eq_some_iff.1 ha2).1)).trans ha2
    have hred := lpredir_ac oa.b.ad La sa oa.x oa.c (t : Int) (G.b.length : Int) _ (by omega) (hqa sa (by simp)).2.2 hsa8 (by omega) hb1 hb2
    have hturn := hOk2.turn hoa2 hbsa (t : Int) (G.b.length : Int) [⟨0, true, 48, 2, [[aI .u32 oa.b.ad, .own oa.x 1 0 (La.length + 1)]]⟩]
    have hrT1 : (rowsOB T')[a]? = some [aI .u32 oa.b.ad, .own oa.x 1 0 (La.length + 1)] := by simp [rowsOB, hoa2, hsla]
    have hrT2 := (List.getElem?_eq_some_iff.1 hrT1).2
    have hrTl : (rowsOB T').length = G.b.length + 1 := by rw [rowsOB_len, hT']; simp [hTl]
    have hm1 : IntKind.i64.wrap (G.b.length : Int) = (G.b.length : Int) := i64w (by omega)
    have ha5 : a < G.b.length + 1 := by omega
    have ha6 : (a : Int) < (G.b.length : Int) + 1 := by omega
    have htN : ∀ a1 a2 a3 a4 : Blk, (a1 :: a2 :: a3 :: a4 :: N2)[N.length + 1 + 1 + 1 + 1]? = some tb := fun a1 a2 a3 a4 => by rw [← hN2]; simp
    simp [putR, e5, apA, apA0, apS, apS0, tb1, tb2, tb3, tb4, hrl, hTl]
    rw [← hrT, hN2]
    refine adrawR [.ptr 2 0 0 1, .own 3 (G.b.length + 1) 0 (G.b.length + 1), .ptr (N.length + 1 + 1 + 1 + 1) 0 0 0, aI .i64 a, .ptr 3 (G.b.length + 1) a 0, .agg [aI .u32 oa.b.ad, .own oa.x 1 0 (La.length + 1)], .ptr (N.length + 1 + 1 + 1 + 1) 0 0 1, aI .i64 t, .ptr 2 0 0 1, .own 3 (G.b.length + 1) 0 (G.b.length + 1), aI .i64 ((G.b.length : Int) + 1), aI .i64 G.b.length, .tup []]
      [(0, gB g :: zGr :: oGr g.ad (G.b.length + 1) :: bsB (G.b.length + 1) T' :: N2),
       (4096, hp2 (gB g :: zGr :: oGr g.ad (G.b.length + 1) :: bsB (G.b.length + 1) T' :: N2) oa.x oa.c (sBk La (rdS sa t G.b.length) oa.c) (nbk 1 (rdS sa t G.b.length).cs) ++ [⟨0, true, 48, 2, [[aI .u32 oa.b.ad, .own oa.x 1 0 (La.length + 1)]]⟩])]
      (by kernel_rfl) (by kernel_rfl) rfl rfl ?_ ?_
    · simp only [rowsR, List.mem_cons, List.not_mem_nil, or_false, forall_eq_or_imp, forall_eq]
      refine ⟨⟨?_, fun hmay => absurd hmay (Bool.eq_false_iff.1 (by kernel_rfl))⟩, ⟨?_, fun hmay => absurd hmay (Bool.eq_false_iff.1 (by kernel_rfl))⟩, ⟨?_, fun hmay => absurd hmay (Bool.eq_false_iff.1 (by kernel_rfl))⟩, ⟨?_, fun hmay => absurd hmay (Bool.eq_false_iff.1 (by kernel_rfl))⟩, ⟨?_, fun hmay => absurd hmay (Bool.eq_false_iff.1 (by kernel_rfl))⟩, ⟨?_, fun hmay => absurd hmay (Bool.eq_false_iff.1 (by kernel_rfl))⟩, ⟨?_, fun hmay => absurd hmay (Bool.eq_false_iff.1 (by kernel_rfl))⟩, ⟨?_, fun hmay => absurd hmay (Bool.eq_false_iff.1 (by kernel_rfl))⟩, ⟨?_, fun hmay => absurd hmay (Bool.eq_false_iff.1 (by kernel_rfl))⟩, ⟨?_, fun hmay => absurd hmay (Bool.eq_false_iff.1 (by kernel_rfl))⟩, ⟨?_, fun hmay => absurd hmay (Bool.eq_false_iff.1 (by kernel_rfl))⟩, ⟨?_, fun hmay => absurd hmay (Bool.eq_false_iff.1 (by kernel_rfl))⟩, ⟨?_, fun hmay => absurd hmay (Bool.eq_false_iff.1 (by kernel_rfl))⟩, trivial⟩
      all_goals
        intro hmay
        clear hmay
        intro e' K' h A3 hA hk
        simp only [Op.operands, Call.operands] at h
        simp [still, heapM, putR, dvA] at h hA hk
        subst hA
        simp [h, e1, e2, e5, apA, apA0, apS, apS0, tb1, tb2, tb3, tb4, hrTl, hrT1, hrT2, ha5, ha6, hm1, htN]
        try exact hk
      refine aCall_ofc hred (by simp) ?_
      rintro _ _ ⟨rfl, rfl⟩
      exact hk
    simp only [putR]
    have hstp : stpG G a t = ⟨G.ad, (G.b ++ [ot.b]).set a (rdB oa.b t G.b.length)⟩ := by
      unfold stpG
      rw [hbt, hba]
    have hsl2 := stpG_len (G := G) (a := a) (t := t) ha ht
    have hrT3 : rowsOB (T'.set a ⟨rdB oa.b t G.b.length, oa.x, oa.c⟩) = rowsOB T' := by
      have h1 : rowsOB (T'.set a ⟨rdB oa.b t G.b.length, oa.x, oa.c⟩) = (rowsOB T').set a [aI .u32 (rdB oa.b t G.b.length).ad, .own oa.x 1 0 (rdB oa.b t G.b.length).s.length] := by simp [rowsOB, List.map_set]
      rw [h1, rdB_eq hbsa]
      exact set_same (by simpa using hrT1)
    have hmap : (T'.set a ⟨rdB oa.b t G.b.length, oa.x, oa.c⟩).map OB.b = (stpG G a t).b := by
      rw [hstp, List.map_set, hT', List.map_append, hT]
      rfl
    have hcw : ((c : Int) + ((L.length : Int) + 1)) = ((c + ot.b.s.length : Nat) : Int) := by rw [hsl]; omega
    refine hK (f, stpG G a t, c + ot.b.s.length) _ _ _ _ (Sub.refl _ _ _) ⟨?_, ?_, ?_, ?_, stpG_ok hGb a t, ?_, hRs, ⟨T'.set a ⟨rdB oa.b t G.b.length, oa.x, oa.c⟩, hp2 N2 (oa.x - 4) (oa.c - 4) (sBk La (rdS sa t G.b.length) oa.c) (nbk 1 (rdS sa t G.b.length).cs) ++ [⟨0, true, 48, 2, [[aI .u32 oa.b.ad, .own oa.x 1 0 (La.length + 1)]]⟩], ?_, hmap, ?_⟩, by simp [e1], by simp [e2], by simp [e5], ?_⟩ (by simp)
    · simp only; omega
    · rw [hstp]; exact hGa
    · simp only; omega
    · simp only; omega
    · simp only; omega
    · rw [hp2_4 ha3 (by omega), hsl2]
      simp [hrT3]
    · exact hturn
    · simp [e6, hsl]
end Go.Proofs.YtagkfkhagjlmpaaGreat

/- The reference's graph of one's own: its blocks' statements lie in blocks of one's own. -/
namespace Go.Proofs.YtagkfkhagjlmpaaGreat
open Go.RowKit
structure OS where
  b : Bl
  x : Nat
abbrev sqB (l : List St) : Blk := ⟨0, true, 68, 8, dEls (sts l)⟩
def rowsOS (T : List OS) : List (List AV) := T.map fun t => [aI .u32 t.b.ad, .own t.x 0 0 t.b.s.length]
theorem rowsOS_len (T : List OS) : (rowsOS T).length = T.length := by simp [rowsOS]
structure OkS (H : AHeap) (T : List OS) : Prop where
  at' : ∀ t ∈ T, H[t.x]? = some (sqB t.b.s) ∧ 3 < t.x
  dis : ∀ (i j : Nat) (t u : OS), T[i]? = some t → T[j]? = some u → i ≠ j → t.x ≠ u.x
theorem rei_os (H : AHeap) (d : Nat) (T : List OS) (h : OkS H T) : omap (fun x => omap (reiD false H (d + 2)) x) (rowsOS T) = some (bls' (T.map OS.b)) := by
  refine omap_ext (by simp [rowsOS]) fun i a r ha hr => ?_
  simp only [rowsOS, List.getElem?_map, Option.map_eq_some_iff] at ha
  obtain ⟨t, ht, rfl⟩ := ha
  have hr' : r = Bl.d t.b := by simpa [ht] using hr.symm
  rw [hr']
  obtain ⟨h2, _⟩ := h.at' t (List.mem_of_getElem? ht)
  have ht2 : List.take t.b.s.length (dEls (sts t.b.s)) = dEls (sts t.b.s) := List.take_of_length_le (by simp)
  simp [omap, reiD, Bl.d_eq, h2, ht2]
theorem OkS.keep {H H' : AHeap} {T : List OS} (h : OkS H T) (hk : ∀ j, 3 < j → j < H.length → H'[j]? = H[j]?) : OkS H' T := by
  refine ⟨fun t ht => ?_, h.dis⟩
  obtain ⟨h1, h2⟩ := h.at' t ht
  exact ⟨by rw [hk _ h2 (List.getElem?_eq_some_iff.1 h1).1]; exact h1, h2⟩
theorem OkS.add {H H' : AHeap} {T : List OS} (h : OkS H T) (hk : ∀ j, 3 < j → j < H.length → H'[j]? = H[j]?) {b : Bl} {x : Nat} (hx : H.length ≤ x) (hx3 : 3 < x) (h1 : H'[x]? = some (sqB b.s)) : OkS H' (T ++ [⟨b, x⟩]) := by
  have hk2 := h.keep hk
  have hlt : ∀ t ∈ T, t.x < H.length := fun t ht => (List.getElem?_eq_some_iff.1 (h.at' t ht).1).1
  refine ⟨fun t ht => ?_, fun i j t u hi hj hij => ?_⟩
  · rcases List.mem_append.1 ht with h3 | h3
    · exact hk2.at' t h3
    · obtain rfl : t = ⟨b, x⟩ := by simpa using h3
      exact ⟨h1, hx3⟩
  · have cs : ∀ (k : Nat) (q : OS), (T ++ [⟨b, x⟩])[k]? = some q → (k < T.length ∧ T[k]? = some q) ∨ (k = T.length ∧ q = ⟨b, x⟩) := fun k q hq => by
      rcases Nat.lt_or_ge k T.length with hk3 | hk3
      · rw [List.getElem?_append_left hk3] at hq
        exact .inl ⟨hk3, hq⟩
      · have hl := (List.getElem?_eq_some_iff.1 hq).1
        have hkl : k = T.length := by simp at hl; omega
        subst hkl
        rw [List.getElem?_append_right (Nat.le_refl _)] at hq
        simp at hq
        exact .inr ⟨rfl, hq.symm⟩
    rcases cs i t hi with ⟨i1, i2⟩ | ⟨i1, rfl⟩ <;> rcases cs j u hj with ⟨j1, j2⟩ | ⟨j1, rfl⟩
    · exact h.dis i j t u i2 j2 hij
    · have := hlt _ (List.mem_of_getElem? i2)
      simp only
      omega
    · have := hlt _ (List.mem_of_getElem? j2)
      simp only
      omega
    · omega
theorem OkS.turn {H : AHeap} {T : List OS} (h : OkS H T) {a : Nat} {t : OS} (ha : T[a]? = some t) (b : Bl) : OkS (H.set t.x (sqB b.s)) (T.set a ⟨b, t.x⟩) := by
  have ht := h.at' t (List.mem_of_getElem? ha)
  have hxl := (List.getElem?_eq_some_iff.1 ht.1).1
  have hal := (List.getElem?_eq_some_iff.1 ha).1
  have hget : ∀ (k : Nat) (q : OS), (T.set a ⟨b, t.x⟩)[k]? = some q → (k = a ∧ q = ⟨b, t.x⟩) ∨ (k ≠ a ∧ T[k]? = some q) := fun k q hq => by
    rw [List.getElem?_set] at hq
    by_cases hka : a = k
    · subst hka
      simp [hal] at hq
      exact .inl ⟨rfl, hq.symm⟩
    · rw [if_neg hka] at hq
      exact .inr ⟨fun e => hka e.symm, hq⟩
  refine ⟨fun q hq => ?_, fun i j q r hi hj hij => ?_⟩
  · obtain ⟨k, hk⟩ := List.getElem?_of_mem hq
    rcases hget k q hk with ⟨_, rfl⟩ | ⟨hka, hk2⟩
    · exact ⟨List.getElem?_set_self hxl, ht.2⟩
    · obtain ⟨h1, h2⟩ := h.at' q (List.mem_of_getElem? hk2)
      have hd := h.dis k a q t hk2 ha hka
      exact ⟨by rw [List.getElem?_set_ne (Ne.symm hd)]; exact h1, h2⟩
  · rcases hget i q hi with ⟨i1, rfl⟩ | ⟨i1, i2⟩ <;> rcases hget j r hj with ⟨j1, rfl⟩ | ⟨j1, j2⟩
    · omega
    · exact h.dis a j t r ha j2 (Ne.symm j1)
    · exact h.dis i a q t i2 ha i1
    · exact h.dis i j q r i2 j2 hij
abbrev bsS (v : Nat) (T : List OS) : Blk := ⟨v, true, 48, 2, rowsOS T⟩
set_option maxRecDepth 100000 in
theorem r35split_af (g : Gr) (hg : GrFit g) (hsm : g.b.length ≤ 200) (hok : grErr g = 0 → ∀ b ∈ g.b, BlOk b) (hc : cntS g.b ≤ 1000000) : AF Tryz.prog 9 [grV g] (if grErr g = 0 then spV (splF 300 g (cntS g.b)) else .tup [grV ⟨0, []⟩, aI .i64 (grErr g)]) := by
  have hgl : g.b.length ≤ maxLen := by unfold maxLen; omega
  have hE := r19checkg_af g hg
  refine af_of Tryz.func9 rfl (by kernel_rfl) (by simp [Tryz.ntmps9]) fun _ => ?_; simp [Tryz.f9, Ex.d_eq]
  refine aCall_of hE (by kernel_rfl) (by simp) ?_
  by_cases he : grErr g = 0
  case neg => simp [he]
  have h0 : 0 < g.b.length := Nat.pos_of_ne_zero fun h => by simp only [grErr, h] at he; split at he <;> simp at he
  have hB := hok he
  simp [he]
  obtain ⟨n, hn⟩ : ∃ n, g.b.length = n := ⟨_, rfl⟩
  have hst : ∀ e, Sub 0 e [gB g, zGr, ⟨0, true, 25, 2, [[aI .u32 g.ad, .d (.v (.slice none 0 0))]]⟩] e [gB g, zGr, oGr g.ad 0, bsS 0 []] := fun e => by
    have g1 := Sub.ghost (n := 0) (e := e) 0 48 2 (A := [gB g, zGr, ⟨0, true, 25, 2, [[aI .u32 g.ad, .d (.v (.slice none 0 0))]]⟩])
    have g2 := Sub.cell (n := 0) (e := e) (A := [gB g, zGr, ⟨0, true, 25, 2, [[aI .u32 g.ad, .d (.v (.slice none 0 0))]]⟩, ⟨0, true, 48, 2, []⟩]) (b := 2) (i := 0) (o := 1) rfl rfl rfl (VLe.nil_own (b := 3) (ver := 0) (k := ⟨0, true, 48, 2, []⟩) rfl rfl)
    exact g1.trans g2
  refine aLoop_of (α := Nat) (fun i e H => i ≤ n ∧ (∃ T N, H = gB g :: zGr :: oGr g.ad i :: bsS i T :: N ∧ T.map OS.b = g.b.take i ∧ OkS H T) ∧ e 1 = .ptr 0 0 0 0 ∧ e 2 = .ptr 1 0 0 0 ∧ e 5 = .ptr 2 0 0 0 ∧ e 6 = aI .i64 (cntS (g.b.take i)) ∧ e 7 = aI .i64 i) (fun i => n - i) 0 (hst _)
    ⟨by omega, ⟨[], [], rfl, by simp, ⟨fun t ht => by simp at ht, fun i j t u hi => by simp at hi⟩⟩, by simp, by simp, by simp, by simp [cntS], by simp⟩ ?_
  rintro i e H ⟨hi, ⟨T, N, rfl, hT, hOk⟩, e1, e2, e5, e6, e7⟩ K hK
  have hTl : T.length = i := by
    have := congrArg List.length hT
    simp at this
    omega
  have hcl := cntS_le g.b i
  have hrl := rowsOS_len T
  rcases Nat.lt_or_ge i n with hlt | hge
  case inl =>
    have hlt' : i < g.b.length := by omega
    obtain ⟨b, hb⟩ : ∃ b, g.b[i]? = some b := ⟨_, List.getElem?_eq_getElem hlt'⟩
    have hb2 := (List.getElem?_eq_some_iff.1 hb).2
    obtain ⟨L, s, hbs, hs8, hLl, hq⟩ := hB b (List.mem_of_getElem? hb)
    have hct := cntS_take hb
    have hcl2 := cntS_le g.b (i + 1)
    simp [e1, e2, e5, e6, e7, hlt, hlt', hb, hb2, Bl.d_eq]
    refine adraw2 8 [] (by kernel_rfl) (by kernel_rfl) (by kernel_rfl) (by kernel_rfl) (by kernel_rfl) ?_
    simp [e1, e2, e5, e6, e7, hlt, hlt', hb, hb2, Bl.d_eq]
    refine aRaw_app byt_46 ?_
    have hall : ∀ y ∈ dEls (sts b.s), y.length = 8 := fun y hy => by
      simp only [dEls, sts, List.mem_map] at hy
      obtain ⟨z, ⟨u, _, rfl⟩, rfl⟩ := hy
      simp
    have hbl : b.s.length ≤ 1000000 := by rw [hbs]; simp; omega
    simp
    rw [if_pos hall]
    refine ⟨_, _, _, rfl, by unfold maxLen; omega, by omega, ?_⟩
    simp [e1, e2, e5, e6, e7]
    refine aRaw_app byt_23 ?_
    simp [hrl, hTl, e5]
    refine ⟨by unfold maxLen at hgl ⊢; omega, by omega, ?_⟩
    have hw1 : IntKind.i64.wrap ((cntS (g.b.take i) : Int) + (b.s.length : Int)) = ((cntS (g.b.take (i + 1)) : Nat) : Int) := by rw [hct]; exact i64w (by omega)
    have hiw : IntKind.i64.wrap ((i : Int) + 1) = ((i + 1 : Nat) : Int) := succ_wrap hlt (by omega)
    simp [e1, e2, e5, e6, e7, hw1, hiw]
    obtain ⟨T', hT'⟩ : ∃ T', T' = T ++ [(⟨b, N.length + 1 + 1 + 1 + 1 + 1⟩ : OS)] := ⟨_, rfl⟩
    have hrT : rowsOS T' = rowsOS T ++ [[aI .u32 b.ad, .own (N.length + 1 + 1 + 1 + 1 + 1) 0 0 b.s.length]] := by rw [hT']; simp [rowsOS]
    refine hK (i + 1) _ _ _ _ (Sub.refl _ _ _) ⟨by omega, ⟨T', N ++ [⟨0, true, 48, 2, [[aI .u32 b.ad, .own (N.length + 1 + 1 + 1 + 1 + 1) 0 0 b.s.length]]⟩, sqB b.s, ⟨0, true, 48, 2, [[aI .u32 b.ad, .own (N.length + 1 + 1 + 1 + 1 + 1) 0 0 b.s.length]]⟩], ?_, ?_, ?_⟩, by simp [e1], by simp [e2], by simp [e5], by simp, by simp⟩ (by omega)
    · rw [← hrT]
    · rw [hT', List.take_add_one, hb]; simp [hT]
    · rw [← hrT, hT']
      refine hOk.add (fun j h3 hj => keep4 h3 (by simpa using hj)) (by simp) (by omega) ?_
      simp
  obtain rfl : i = n := by omega
  clear hK
  have hTg : T.map OS.b = g.b := by rw [hT, ← hn, List.take_length]
  have hcg : cntS (g.b.take i) = cntS g.b := by rw [← hn, List.take_length]
  rw [hcg] at e6
  obtain ⟨R, hR⟩ : ∃ R, splF 300 g (cntS g.b) = R := ⟨_, rfl⟩
  rw [hR]
  simp [e1, e7, hn]
  refine aLoop_of (α := Nat × Gr × Nat) (fun q e H => q.1 + q.2.1.b.length ≥ 257 ∧ q.2.1.ad = g.ad ∧ 0 < q.2.1.b.length ∧ q.2.1.b.length ≤ 256 ∧ (∀ b ∈ q.2.1.b, BlOk b) ∧ q.2.2 ≤ 2000000 ∧ splF q.1 q.2.1 q.2.2 = R ∧ (∃ T N, H = gB g :: zGr :: oGr g.ad q.2.1.b.length :: bsS q.2.1.b.length T :: N ∧ T.map OS.b = q.2.1.b ∧ OkS H T) ∧
      e 1 = .ptr 0 0 0 0 ∧ e 2 = .ptr 1 0 0 0 ∧ e 5 = .ptr 2 0 0 0 ∧ e 6 = aI .i64 q.2.2) (fun q => q.1) (300, g, cntS g.b) (Sub.refl _ _ _)
    ⟨by simp only; omega, rfl, h0, by simp only; omega, hB, by simp only; omega, hR, ⟨T, N, by simp [hn], hTg, by simpa using hOk⟩, by simp [e1], by simp [e2], by simp [e5], by simp [e6]⟩ ?_
  clear e1 e2 e5 e6 e7 hOk hT hTg hTl hrl T N e
  rintro ⟨f, G, c⟩ e H ⟨hf, hGa, hG0, hG2, hGb, hc2, hsp, ⟨T, N, rfl, hT, hOk⟩, e1, e2, e5, e6⟩ K hK
  simp only at hf hGa hG0 hG2 hGb hc2 hsp hT hOk hK e6 ⊢
  have hTl : T.length = G.b.length := by rw [← hT, List.length_map]
  have hfit := blOk_fit (G := G) (by omega) hGb
  have hre := r35bad_af G hfit (by omega) hG0
  have hr8 := rei_os _ 6 T hOk
  rw [hT] at hr8
  have htk : List.take G.b.length (rowsOS T) = rowsOS T := List.take_of_length_le (by rw [rowsOS_len]; omega)
  have hrl := rowsOS_len T
  obtain ⟨f, rfl⟩ : ∃ f', f = f' + 1 := ⟨f - 1, by omega⟩
  simp [e1, e2, e5, e6]
  refine aCall_ofs hre (by kernel_rfl) (by simp [htk, hrl, hTl, hr8, hGa]) (by cases badG G <;> simp [badV, scal]) ?_
  cases hbad : badG G with
  | none =>
    have hRs : R = some G := by rw [← hsp, splF, hbad]
    subst hRs
    simp [badV, e1, e2, e5, e6, spV]
    have hOk' : OkS (gB g :: ⟨0, true, 25, 2, [[aI .u32 g.ad, .own 3 G.b.length 0 G.b.length]]⟩ :: oGr g.ad G.b.length :: bsS G.b.length T :: (N ++ [])) T := hOk.keep fun j h3 hj => keep4 h3 (by simpa using hj)
    have h8 := rei_os _ 6 T hOk'
    rw [hT] at h8
    simp only [List.append_nil] at h8
    simp [hrl, hTl, htk, h8, hGa]
  | some p =>
    obtain ⟨a, t⟩ := p
    obtain ⟨ha, ht, _, _⟩ := badG_lt hbad
    obtain ⟨oa, hoa⟩ : ∃ o, T[a]? = some o := ⟨_, List.getElem?_eq_getElem (by omega)⟩
    obtain ⟨ot, hot⟩ : ∃ o, T[t]? = some o := ⟨_, List.getElem?_eq_getElem (by omega)⟩
    have hba : G.b[a]? = some oa.b := by rw [← hT, List.getElem?_map, hoa]; rfl
    have hbt : G.b[t]? = some ot.b := by rw [← hT, List.getElem?_map, hot]; rfl
    have hra1 : (rowsOS T)[a]? = some [aI .u32 oa.b.ad, .own oa.x 0 0 oa.b.s.length] := by simp [rowsOS, hoa]
    have hrt1 : (rowsOS T)[t]? = some [aI .u32 ot.b.ad, .own ot.x 0 0 ot.b.s.length] := by simp [rowsOS, hot]
    have hra2 := (List.getElem?_eq_some_iff.1 hra1).2
    have hrt2 := (List.getElem?_eq_some_iff.1 hrt1).2
    obtain ⟨ht1, ht3⟩ := hOk.at' ot (List.mem_of_getElem? hot)
    have hX : ∀ a1 a2 a3 a4 R, (a1 :: a2 :: a3 :: a4 :: (N ++ R))[ot.x]? = some (sqB ot.b.s) := fun a1 a2 a3 a4 R => (keep4 (R := R) ht3 (by simpa using (List.getElem?_eq_some_iff.1 ht1).1)).trans ht1
    have hX0 : ∀ a1 a2 a3 a4, (a1 :: a2 :: a3 :: a4 :: N)[ot.x]? = some (sqB ot.b.s) := fun a1 a2 a3 a4 => by have := hX a1 a2 a3 a4 []; rwa [List.append_nil] at this
    have hol : ot.b.s.length ≤ 1000000 := by
      obtain ⟨L', s', h1, h2, h3, h4⟩ := hGb ot.b (List.mem_of_getElem? hbt)
      rw [h1]; simp; omega
    have hw1 : IntKind.i64.wrap ((c : Int) + (ot.b.s.length : Int)) = ((c + ot.b.s.length : Nat) : Int) := i64w (by omega)
    simp [badV, e1, e2, e5, e6, ha, ht, hra1, hra2, hrt1, hrt2, hrl, hTl, hw1, hX0]
    by_cases hlim : 256 ≤ G.b.length ∨ 1024 < c + ot.b.s.length
    · have hRs : R = none := by rw [← hsp, splF_some hbad hbt, if_pos hlim]
      subst hRs
      by_cases h256 : 256 ≤ G.b.length
      · have h256' : (256 : Int) ≤ (G.b.length : Int) := by omega
        simp [h256', e1, e2, spV]
      · have h256' : ¬ (256 : Int) ≤ (G.b.length : Int) := by omega
        have h1024 : (1024 : Int) < (c : Int) + (ot.b.s.length : Int) := by omega
        simp [h256', h1024, e1, e2, spV]
    have hRs : splF f (stpG G a t) (c + ot.b.s.length) = R := by rw [← hsp, splF_some hbad hbt, if_neg hlim]
    have h256' : ¬ (256 : Int) ≤ (G.b.length : Int) := by omega
    have h1024 : ¬ (1024 : Int) < (c : Int) + (ot.b.s.length : Int) := by omega
    simp [h256', h1024, e1, e2, e5, ha, ht, hra1, hra2, hrt1, hrt2, hrl, hTl, hX, hX0]
    refine adraw2 8 [] (by kernel_rfl) (by kernel_rfl) (by kernel_rfl) (by kernel_rfl) (by kernel_rfl) ?_
    simp [e1, e2, e5, ha, ht, hra1, hra2, hrt1, hrt2, hrl, hTl, hX, hX0]
    refine aRaw_app byt_46 ?_
    have hall : ∀ y ∈ dEls (sts ot.b.s), y.length = 8 := fun y hy => by
      simp only [dEls, sts, List.mem_map] at hy
      obtain ⟨z, ⟨u, _, rfl⟩, rfl⟩ := hy
      simp
    simp [hX, hX0]
    rw [if_pos hall]
    refine ⟨_, _, _, rfl, by unfold maxLen; omega, by omega, ?_⟩
    simp [e1, e2, e5]
    refine aRaw_app byt_23 ?_
    simp [hrl, hTl, e5]
    refine ⟨by unfold maxLen; omega, by omega, ?_⟩
    obtain ⟨T', hT'⟩ : ∃ T', T' = T ++ [(⟨ot.b, N.length + 1 + 1 + 1 + 1 + 1⟩ : OS)] := ⟨_, rfl⟩
    have hrT : rowsOS T' = rowsOS T ++ [[aI .u32 ot.b.ad, .own (N.length + 1 + 1 + 1 + 1 + 1) 0 0 ot.b.s.length]] := by rw [hT']; simp [rowsOS]
    have hoa2 : T'[a]? = some oa := by rw [hT', List.getElem?_append_left (by omega)]; exact hoa
    have hrT1 : (rowsOS T')[a]? = some [aI .u32 oa.b.ad, .own oa.x 0 0 oa.b.s.length] := by simp [rowsOS, hoa2]
    have hrT2 := (List.getElem?_eq_some_iff.1 hrT1).2
    have hrTl : (rowsOS T').length = G.b.length + 1 := by rw [rowsOS_len, hT']; simp [hTl]
    have ha5 : a < G.b.length + 1 := by omega
    have ha6 : (a : Int) < (G.b.length : Int) + 1 := by omega
    obtain ⟨ha1, ha3⟩ := hOk.at' oa (List.mem_of_getElem? hoa)
    have hXa : ∀ a1 a2 a3 a4 R, (a1 :: a2 :: a3 :: a4 :: (N ++ R))[oa.x]? = some (sqB oa.b.s) := fun a1 a2 a3 a4 R => (keep4 (R := R) ha3 (by simpa using (List.getElem?_eq_some_iff.1 ha1).1)).trans ha1
    obtain ⟨La, sa, hbsa, hsa8, hLal, hqa⟩ := hGb oa.b (List.mem_of_getElem? hba)
    have hsla : oa.b.s.length = La.length + 1 := by rw [hbsa]; simp
    have hm1 : IntKind.i64.wrap (G.b.length : Int) = (G.b.length : Int) := i64w (by omega)
    have hL1 : IntKind.i64.wrap (La.length : Int) = (La.length : Int) := i64w (by omega)
    have hL2 : (La.length : Int) < (La.length : Int) + 1 := by omega
    have hsg : oa.b.s[La.length]? = some sa := by rw [hbsa, List.getElem?_append_right (Nat.le_refl _)]; simp
    have hsg2 := (List.getElem?_eq_some_iff.1 hsg).2
    have hcs := (hqa sa (by simp)).2.2
    rw [hsla] at hrT1
    simp only [hsla] at hrT2
    rw [← hrT]
    simp [e1, e2, e5, hrT1, hrT2, hrTl, ha5, ha6, hXa, hL1]
    refine adraw [] (by kernel_rfl) (by kernel_rfl) (by kernel_rfl) (by kernel_rfl) ?_
    simp [e1, e2, e5, hrT1, hrT2, hrTl, ha5, ha6, hXa, hL1, hL2, hsla, hsg, hsg2, hm1, St.d_eq]
    refine ⟨by have := (List.getElem?_eq_some_iff.1 ha1).1; simp at this; omega, adC_of (r35turned_af sa (t : Int) (G.b.length : Int) hcs) (by kernel_rfl) trivial (by simp) (by simp) ?_⟩
    simp [e1, e2, e5, hrT1, hrT2, hrTl, ha5, ha6, hXa, hL1, hL2, hsla, hsg, hsg2, hm1]
    simp only [St.d_eq, List.map_cons, List.map_nil, List.set_cons_zero, List.set_cons_succ]
    obtain ⟨s2, hs2⟩ : ∃ s2, rdS sa (t : Int) (G.b.length : Int) = s2 := ⟨_, rfl⟩
    rw [hs2]
    have hfin : (⟨0, true, 68, 8, (dEls (sts oa.b.s)).set La.length [aI .i64 s2.op, aI .i64 s2.va, aI .i64 s2.wd, aI .i64 s2.nx, aI .i64 s2.el, aI .u32 s2.tg, .d (.sl 5 (Ex.ds s2.e)), .d (.sl 1 (i64s s2.cs))]⟩ : Blk) = sqB (rdB oa.b (t : Int) (G.b.length : Int)).s := by
      rw [rdB_eq hbsa, hbsa, hs2]
      have h1 : dEls (sts (La ++ [sa])) = dEls (sts La) ++ [(St.d sa).map AV.d] := by simp [dEls, sts]
      have h2 : dEls (sts (La ++ [s2])) = dEls (sts La) ++ [(St.d s2).map AV.d] := by simp [dEls, sts]
      simp only [h1, h2]
      rw [List.set_append_right _ _ (by simp)]
      simp [St.d_eq]
    have hOk2 : OkS (gB g :: zGr :: oGr g.ad (G.b.length + 1) :: bsS (G.b.length + 1) T' :: (N ++ [⟨0, true, 48, 2, [[aI .u32 ot.b.ad, .own (N.length + 1 + 1 + 1 + 1 + 1) 0 0 ot.b.s.length]]⟩, sqB ot.b.s, ⟨0, true, 48, 2, [[aI .u32 ot.b.ad, .own (N.length + 1 + 1 + 1 + 1 + 1) 0 0 ot.b.s.length]]⟩])) T' := by
      have := hOk.add (H' := gB g :: zGr :: oGr g.ad (G.b.length + 1) :: bsS (G.b.length + 1) T' :: (N ++ [⟨0, true, 48, 2, [[aI .u32 ot.b.ad, .own (N.length + 1 + 1 + 1 + 1 + 1) 0 0 ot.b.s.length]]⟩, sqB ot.b.s, ⟨0, true, 48, 2, [[aI .u32 ot.b.ad, .own (N.length + 1 + 1 + 1 + 1 + 1) 0 0 ot.b.s.length]]⟩])) (b := ot.b) (x := N.length + 1 + 1 + 1 + 1 + 1) (fun j h3 hj => keep4 h3 (by simpa using hj)) (by simp) (by omega) (by simp [apA])
      rwa [← hT'] at this
    have hturn := hOk2.turn hoa2 (rdB oa.b (t : Int) (G.b.length : Int))
    have hstp : stpG G a t = ⟨G.ad, (G.b ++ [ot.b]).set a (rdB oa.b t G.b.length)⟩ := by
      unfold stpG
      rw [hbt, hba]
    have hsl2 := stpG_len (G := G) (a := a) (t := t) ha ht
    have hrT3 : rowsOS (T'.set a ⟨rdB oa.b t G.b.length, oa.x⟩) = rowsOS T' := by
      have h1 : rowsOS (T'.set a ⟨rdB oa.b t G.b.length, oa.x⟩) = (rowsOS T').set a [aI .u32 (rdB oa.b t G.b.length).ad, .own oa.x 0 0 (rdB oa.b t G.b.length).s.length] := by simp [rowsOS, List.map_set]
      rw [h1, rdB_eq hbsa]
      exact set_same (by simpa using hrT1)
    have hmap : (T'.set a ⟨rdB oa.b t G.b.length, oa.x⟩).map OS.b = (stpG G a t).b := by
      rw [hstp, List.map_set, hT', List.map_append, hT]
      rfl
    rw [hfin]
    refine hK (f, stpG G a t, c + ot.b.s.length) _ _ _ _ (Sub.refl _ _ _) ⟨?_, ?_, ?_, ?_, stpG_ok hGb a t, ?_, hRs, ⟨T'.set a ⟨rdB oa.b t G.b.length, oa.x⟩, (N ++ [⟨0, true, 48, 2, [[aI .u32 ot.b.ad, .own (N.length + 1 + 1 + 1 + 1 + 1) 0 0 ot.b.s.length]]⟩, sqB ot.b.s, ⟨0, true, 48, 2, [[aI .u32 ot.b.ad, .own (N.length + 1 + 1 + 1 + 1 + 1) 0 0 ot.b.s.length]]⟩]).set (oa.x - 4) (sqB (rdB oa.b (t : Int) (G.b.length : Int)).s), ?_, hmap, ?_⟩, by simp [e1], by simp [e2], by simp [e5], ?_⟩ (by simp)
    · simp only; omega
    · rw [hstp]; exact hGa
    · simp only; omega
    · simp only; omega
    · simp only; omega
    · rw [set4 ha3, hsl2]
      simp [hrT3]
    · exact hturn
    · simp [e6]
end Go.Proofs.YtagkfkhagjlmpaaGreat

/- A well-formed graph's blocks. -/
namespace Go.Proofs.YtagkfkhagjlmpaaGreat
open Go.RowKit
theorem stsErr_at : ∀ {l : List St}, stsErr l = 0 → ∀ s ∈ l, stErr s = 0
  | [], _, s, hs => by cases hs
  | a :: l, h, s, hs => by
    simp only [stsErr] at h
    split at h
    · rename_i h0
      rcases List.mem_cons.1 hs with rfl | hs
      · exact h0
      · exact stsErr_at h s hs
    · exact absurd h ‹_›
theorem blOk_of {g : Gr} (hg : GrFit g) (hn : ∀ b ∈ g.b, ∀ s ∈ b.s, ∀ e ∈ s.e, e.nodes ≤ 1000000000) (he : grErr g = 0) : ∀ b ∈ g.b, BlOk b := by
  intro b hb
  unfold grErr at he
  split at he
  · cases he
  split at he
  · cases he
  rename_i h1 h2
  have hcl : closedB g.b.length b = true := by
    have : g.b.all (closedB g.b.length) = true := by
      cases h : g.b.all (closedB g.b.length) with
      | true => rfl
      | false => exact absurd (.inr h) h2
    exact List.all_eq_true.1 this b hb
  unfold closedB at hcl
  split at hcl
  case h_2 => cases hcl
  rename_i s hs
  obtain ⟨L, hL⟩ : ∃ L, b.s = L ++ [s] := by
    obtain ⟨ys, hys⟩ := List.getLast?_eq_some_iff.1 hs
    exact ⟨ys, hys⟩
  have hst := stsErr_at (blsErr_mem he b hb)
  have hf := hg.2 b hb
  refine ⟨L, s, hL, fun h8 => ?_, ?_, fun q hq => ?_⟩
  · have h3 := hst s (by rw [hL]; simp)
    unfold stErr at h3
    split at h3
    case isFalse => cases h3
    split at h3
    case isFalse => exact absurd h3 ‹_›
    split at h3
    case isFalse => cases h3
    rename_i hfb
    unfold fieldsB at hfb
    simp only [Bool.and_eq_true] at hfb
    have h4 := hfb.2
    rw [if_neg h8] at h4
    simpa using h4
  · have := hf.1
    rw [hL] at this
    simp at this
    omega
  · rw [← hL] at hq
    exact ⟨(hf.2 q hq).1, hn b hb q hq, (hf.2 q hq).2⟩
theorem lrgS_cnt : ∀ {l : List Bl} {n : Nat}, lrgS l n = false → n ≤ 300 → n + cntS l ≤ 300
  | [], n, _, h => by simpa [cntS] using h
  | b :: l, n, h, hn => by
    unfold lrgS at h
    split at h
    · cases h
    · rename_i h1
      have := lrgS_cnt h (by omega)
      simp only [cntS, List.map_cons, List.sum_cons] at this ⊢
      omega
theorem splF_ok : ∀ (f : Nat) (G : Gr) (c : Nat) (G' : Gr), (∀ b ∈ G.b, BlOk b) → G.b.length ≤ 256 → splF f G c = some G' → (∀ b ∈ G'.b, BlOk b) ∧ G'.b.length ≤ 256
  | 0, G, c, G', _, _, h => by cases h
  | f + 1, G, c, G', hB, hl, h => by
    cases hb : badG G with
    | none =>
      rw [splF, hb] at h
      obtain rfl := Option.some.inj h
      exact ⟨hB, hl⟩
    | some p =>
      obtain ⟨a, t⟩ := p
      obtain ⟨ha, ht, _, _⟩ := badG_lt hb
      rw [splF_some hb (List.getElem?_eq_getElem ht)] at h
      split at h
      · cases h
      · rename_i hn
        exact splF_ok f _ _ G' (stpG_ok hB a t) (by rw [stpG_len ha ht]; omega) h
end Go.Proofs.YtagkfkhagjlmpaaGreat

/- Law 35: tame. -/
namespace Go.Proofs.YtagkfkhagjlmpaaGreat
open Go.RowKit
def edS (g : Gr) : Nat → Nat
  | 0 => 0
  | i + 1 => edS g i + (edgN g i).length
theorem edS_le {g : Gr} (hg : GrFit g) : ∀ i, edS g i ≤ i * 2000000
  | 0 => by simp [edS]
  | i + 1 => by
    have := edS_le hg i
    have := edgN_len hg i
    simp only [edS]
    omega
def tameB (g : Gr) : Bool := decide (g.b.length ≤ 10) && decide (edS g (min g.b.length 11) ≤ g.b.length + 5)
theorem l35tame_af (g : Gr) (hg : GrFit g) : AF Tryz.prog 6 [grV g] (aB (tameB g)) := by
  have hgl := hg.1
  obtain ⟨R, hR⟩ : ∃ R, tameB g = R := ⟨_, rfl⟩
  rw [hR]
  refine af_of Tryz.func6 rfl (by kernel_rfl) (by simp [Tryz.ntmps6]) fun _ => ?_; simp [Tryz.f6, Ex.d_eq]
  refine aLoop_st (fun i : Nat => [(1, .ptr 0 0 0 0), (3, aI .i64 (edS g i)), (4, aI .i64 i)]) (fun _ => [gB g]) (fun i => i ≤ min g.b.length 11) (fun i => 11 - i) 0 (Sub.refl _ _ _) 1 (by omega) (by simp [cln_gB]) (by simp [edS]) (by omega) ?_
  rintro i hi K hK
  have he := edS_le hg i
  have hE := edgN_len hg i
  rcases Nat.lt_or_ge i (min g.b.length 11) with hlt | hge
  · have h1 : i < g.b.length := by omega
    have h2 : (i : Int) ≤ 10 := by omega
    have hc := r24edges_af g hg i h1
    have hw : IntKind.i64.wrap ((edS g i : Int) + ((edgN g i).length : Int)) = ((edS g (i + 1) : Nat) : Int) := by simp only [edS]; exact i64w (by omega)
    have hiw : IntKind.i64.wrap ((i : Int) + 1) = ((i + 1 : Nat) : Int) := i64w (by omega)
    simp [h1, h2]
    refine aCall_of hc (by kernel_rfl) (by simp) ?_
    simp [hw, hiw]
    exact hK (i + 1) (by omega) (by omega) (Sub.refl _ _ _) 1 (by omega) (by simp [cln_gB]) (by simp)
  · obtain rfl : i = min g.b.length 11 := by omega
    have hl5 : IntKind.i64.wrap ((g.b.length : Int) + 5) = (g.b.length : Int) + 5 := i64w (by omega)
    by_cases h10 : g.b.length ≤ 10
    · have hm : min g.b.length 11 = g.b.length := by omega
      have h10' : (g.b.length : Int) ≤ 10 := by omega
      rw [hm] at *
      by_cases h5 : edS g g.b.length ≤ g.b.length + 5
      · have h5' : (edS g g.b.length : Int) ≤ (g.b.length : Int) + 5 := by omega
        have : R = true := by rw [← hR, tameB, show min g.b.length 11 = g.b.length by omega]; simp [h10, h5]
        subst this
        simp [h10', hl5, h5']
      · have h5' : ¬ (edS g g.b.length : Int) ≤ (g.b.length : Int) + 5 := by omega
        have : R = false := by rw [← hR, tameB, show min g.b.length 11 = g.b.length by omega]; simp [h5]
        subst this
        simp [h10', hl5, h5']
    · have hm : min g.b.length 11 = 11 := by omega
      have h10' : ¬ (g.b.length : Int) ≤ 10 := by omega
      have h11 : 11 ≤ g.b.length := by omega
      have : R = false := by rw [← hR]; simp [tameB, h10]
      subst this
      rw [hm] at *
      by_cases h12 : 11 < g.b.length
      · have h12' : (11 : Int) < (g.b.length : Int) := by omega
        simp [h10', h12']
      · have h12' : ¬ (11 : Int) < (g.b.length : Int) := by omega
        simp [h10', h12']
end Go.Proofs.YtagkfkhagjlmpaaGreat

/- The law LoopsSplits answers true. -/
namespace Go.Proofs.YtagkfkhagjlmpaaGreat
open Go.RowKit
theorem blOk_len {G : Gr} (hl : G.b.length ≤ 256) (h : ∀ b ∈ G.b, BlOk b) : G.b.length ≤ maxLen ∧ ∀ b ∈ G.b, b.s.length ≤ maxLen ∧ ∀ s ∈ b.s, s.e.length ≤ maxLen ∧ s.cs.length ≤ maxLen :=
  fit_len (blOk_fit (by omega) h)
theorem lrg35_ok {g : Gr} (h : lrg35 g = false) : (grErr g = 0 → ∀ b ∈ g.b, BlOk b) ∧ cntS g.b ≤ 300 := by
  unfold lrg35 at h
  simp at h
  obtain ⟨h1, h2, h3⟩ := smallG_fit h.1.2
  refine ⟨fun he => blOk_of h1 (fun b hb s hs e hem => ?_) he, ?_⟩
  · have h4 := ((h3 b hb).2 s hs).2.2.1
    have h5 := Ex.nodess_mem hem
    omega
  · have := lrgS_cnt h.2 (by omega)
    omega
set_option maxRecDepth 100000 in
theorem lawsplits35_af (g : Gr) : AF Tryz.prog 3 [grV g] (aB true) := by
  have hx := l35ex_af
  have hl := l35large_af g
  refine af_of Tryz.func3 rfl (by kernel_rfl) (by simp [Tryz.ntmps3]) fun _ => ?_; simp [Tryz.f3, Ex.d_eq]
  refine aCall_of hl (by kernel_rfl) (by simp) ?_
  cases hc : lrg35 g with
  | true =>
    simp
    refine aCall_of hx (by kernel_rfl) (by simp) ?_
    simp
  | false =>
    obtain ⟨hg, h30⟩ := lrg35_fit hc
    obtain ⟨hok, hcn⟩ := lrg35_ok hc
    have ht := l35tame_af g hg
    simp
    refine aCall_of ht (by kernel_rfl) (by simp) ?_
    cases htm : tameB g with
    | false =>
      simp
      refine aCall_of hx (by kernel_rfl) (by simp) ?_
      simp
    | true =>
      have hS := lpsplit_af g hg (by omega) hok (by omega)
      have hR := r35split_af g hg (by omega) hok (by omega)
      obtain ⟨G, e, hv, hG⟩ : ∃ (G : Gr) (e : Int), (if grErr g = 0 then spV (splF 300 g (cntS g.b)) else .tup [grV ⟨0, []⟩, aI .i64 (grErr g)]) = .tup [grV G, aI .i64 e] ∧ (G.b.length ≤ maxLen ∧ ∀ b ∈ G.b, b.s.length ≤ maxLen ∧ ∀ s ∈ b.s, s.e.length ≤ maxLen ∧ s.cs.length ≤ maxLen) := by
        by_cases he : grErr g = 0
        · rw [if_pos he]
          cases hs : splF 300 g (cntS g.b) with
          | none => exact ⟨⟨0, []⟩, 6, rfl, by simp⟩
          | some G =>
            obtain ⟨h1, h2⟩ := splF_ok _ _ _ _ (hok he) (by omega) hs
            exact ⟨G, 0, rfl, blOk_len h2 h1⟩
        · rw [if_neg he]
          exact ⟨⟨0, []⟩, _, rfl, by simp⟩
      rw [hv] at hS hR
      have hq := q23samegr_af G hG.1 hG.2
      simp
      refine aCall_of hS (by kernel_rfl) (by simp) ?_
      simp
      refine aCall_of hR (by kernel_rfl) (by simp) ?_
      simp
      refine aCall_of hq (by kernel_rfl) (by simp) ?_
      simp
      refine aCall_of hx (by kernel_rfl) (by simp) ?_
      simp
end Go.Proofs.YtagkfkhagjlmpaaGreat
