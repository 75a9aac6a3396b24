import Derived.Test.YtagkfkhagjlmpaaGreatZZ
import Derived.Test.YtagkfkhagjlmpaaGreatAF
import Derived.Test.YtagkfkhagjlmpaaGreatAB
import Derived.Test.YtagkfkhagjlmpaaGreatZP
import Derived.Test.YtagkfkhagjlmpaaGreatZT
set_option linter.all false
namespace Go.Proofs.YtagkfkhagjlmpaaGreat
open Go.RowKit
theorem bkRow_eq (g : Gr) (a : Nat) : bkRow g a = (List.range g.b.length).filter fun b => (dgN g).rc a && ((edgN g a).contains b && domB g b a) := by
 unfold bkRow succR
 by_cases h : (dgN g).rc a = true
 ·rw [if_pos h, List.filter_filter]
  congr 1
  funext b
  rw [h, Bool.true_and, Bool.and_comm]
 ·rw [if_neg h]
  symm
  rw [List.filter_eq_nil_iff]
  intro b _
  simp [h]
def qBad (g : Gr) (a b : Nat) : Bool := (edgN g a).contains b && !domB g b a
def badAt (g : Gr) (i : Nat) : Option (Nat × Nat) := match (ordN g)[i]? with
 | some a => (((ordN g).take (i + 1)).find? (qBad g a)).map fun b => (a, b)
 | none => none
def badUp (g : Gr) (i : Nat) : Option (Nat × Nat) := (List.range i).findSome? (badAt g)
def badG (g : Gr) : Option (Nat × Nat) := badUp g (ordN g).length
theorem badUp_succ (g : Gr) (i : Nat) : badUp g (i + 1) = (badUp g i).or (badAt g i) := by
 unfold badUp
 rw [List.range_succ, List.findSome?_append]
 simp
theorem badUp_more {g : Gr} {i : Nat} {p : Nat × Nat} (h : badUp g i = some p) : ∀ j, badUp g (i + j) = some p
 | 0 => h
 | j + 1 => by rw [← Nat.add_assoc, badUp_succ, badUp_more h j]; rfl
theorem badG_at {g : Gr} {i a b : Nat} (h0 : badUp g i = none) (ha : (ordN g)[i]? = some a) (hb : ((ordN g).take (i + 1)).find? (qBad g a) = some b) : badG g = some (a, b) := by
 have hi := (gSI.1 ha).1
 have h1 : badUp g (i + 1) = some (a, b) := by
  rw [badUp_succ, h0, badAt, ha]
  simp [hb]
 have := badUp_more h1 ((ordN g).length - (i + 1))
 rwa [show i + 1 + ((ordN g).length - (i + 1)) = (ordN g).length by omega] at this
theorem badUp_none {g : Gr} {i a : Nat} (h0 : badUp g i = none) (ha : (ordN g)[i]? = some a) (hb : ((ordN g).take (i + 1)).find? (qBad g a) = none) : badUp g (i + 1) = none := by
 rw [badUp_succ, h0, badAt, ha]
 simp [hb]
def bdstep (g : Gr) (a : Nat) (best : Option Nat) (b : Nat) : Option Nat := if decide ((ordN g).idxOf b ≤ (ordN g).idxOf a) && !domB g b a && (match best with | none => true | some c => decide ((ordN g).idxOf b < (ordN g).idxOf c)) then some b else best
def bdst (g : Gr) (a : Nat) (l : List Nat) : Option Nat := l.foldl (bdstep g a) none
theorem bdst_snoc (g : Gr) (a : Nat) (l : List Nat) (b : Nat) : bdst g a (l ++ [b]) = bdstep g a (bdst g a l) b := by simp [bdst]
theorem bdst_spec (g : Gr) (a : Nat) : ∀ (n : Nat) (l : List Nat), l.length = n → match bdst g a l with
  | none => ∀ b ∈ l, (ordN g).idxOf b ≤ (ordN g).idxOf a → domB g b a = true
  | some c => c ∈ l ∧ (ordN g).idxOf c ≤ (ordN g).idxOf a ∧ domB g c a = false ∧ ∀ b ∈ l, (ordN g).idxOf b ≤ (ordN g).idxOf a → domB g b a = false → (ordN g).idxOf c ≤ (ordN g).idxOf b
 | 0, l, h => by
   obtain rfl := List.eq_nil_of_length_eq_zero h
   simp [bdst]
 | n + 1, l, h => by
   have hne : l ≠ [] := fun e => by rw [e] at h; simp at h
   obtain ⟨m, b, rfl⟩ : ∃ m b, l = m ++ [b] := ⟨_, _, (List.dropLast_concat_getLast hne).symm⟩
   have ih := bdst_spec g a n m (by simpa using h)
   rw [bdst_snoc]
   unfold bdstep
   cases hm : bdst g a m with
   | none =>
     rw [hm] at ih
     simp only at ih
     by_cases h1 : (ordN g).idxOf b ≤ (ordN g).idxOf a
     ·cases h2 : domB g b a with
      | true =>
        rw [if_neg (by simp [h2])]
        intro x hx hxa
        rcases List.mem_append.1 hx with h | h
        ·exact ih x h hxa
        ·obtain rfl : x = b := by simpa using h
         exact h2
      | false =>
        rw [if_pos (by simp [h1, h2])]
        refine ⟨by simp, h1, h2, fun x hx hxa hxd => ?_⟩
        rcases List.mem_append.1 hx with h | h
        ·have := ih x h hxa
         rw [this] at hxd
         cases hxd
        ·obtain rfl : x = b := by simpa using h
         exact Nat.le_refl _
     ·rw [if_neg (by simp [h1])]
      intro x hx hxa
      rcases List.mem_append.1 hx with h | h
      ·exact ih x h hxa
      ·obtain rfl : x = b := by simpa using h
       exact absurd hxa h1
   | some c =>
     rw [hm] at ih
     obtain ⟨i1, i2, i3, i4⟩ := ih
     simp only
     by_cases h1 : (decide ((ordN g).idxOf b ≤ (ordN g).idxOf a) && !domB g b a && decide ((ordN g).idxOf b < (ordN g).idxOf c)) = true
     ·rw [if_pos h1]
      simp only [Bool.and_eq_true, decide_eq_true_eq, Bool.not_eq_true'] at h1
      refine ⟨by simp, h1.1.1, h1.1.2, fun x hx hxa hxd => ?_⟩
      rcases List.mem_append.1 hx with h | h
      ·have := i4 x h hxa hxd
       omega
      ·obtain rfl : x = b := by simpa using h
       exact Nat.le_refl _
     ·rw [if_neg h1]
      refine ⟨by simp [i1], i2, i3, fun x hx hxa hxd => ?_⟩
      rcases List.mem_append.1 hx with h | h
      ·exact i4 x h hxa hxd
      ·obtain rfl : x = b := by simpa using h
       simp only [Bool.and_eq_true, decide_eq_true_eq, Bool.not_eq_true', not_and] at h1
       have := h1 ⟨hxa, hxd⟩
       omega
theorem ord_lt {g : Gr} {x : Nat} (h : x ∈ ordN g) : x < g.b.length := dgN_lt (edgOk g) (by show (ordN g).contains x = true; simpa using h)
theorem ord_next {g : Gr} (h0 : 0 < g.b.length) {a b : Nat} (ha : a ∈ ordN g) (hb : b ∈ edgN g a) : b ∈ ordN g := by
 have hr : (dgN g).rc a = true := by show (ordN g).contains a = true; simpa using ha
 have := (rc_iff h0 b).2 (.step ((rc_iff h0 a).1 hr) hb trivial)
 have h2 : (ordN g).contains b = true := this
 simpa using h2
theorem bdst_find {g : Gr} {i a : Nat} (h0 : 0 < g.b.length) (ha : (ordN g)[i]? = some a) : bdst g a (succR g g.b.length a) = ((ordN g).take (i + 1)).find? (qBad g a) := by
 have hnd := ordN_nodup (edgOk g) h0
 have hil := (gSI.1 ha).1
 have hao := gMO ha
 have hia : (ordN g).idxOf a = i := by
  have h1 := (gSI.1 ha).2
  rw [← h1]
  exact List.Nodup.idxOf_getElem hnd i hil
 have hsp := bdst_spec g a _ (succR g g.b.length a) rfl
 have hrow : ∀ b, b ∈ succR g g.b.length a ↔ b ∈ edgN g a := fun b => by
  rw [succR_mem]
  exact ⟨fun h => h.2, fun h => ⟨ord_lt (ord_next h0 hao h), h⟩⟩
 have htake : ∀ b, b ∈ (ordN g).take (i + 1) ↔ b ∈ ordN g ∧ (ordN g).idxOf b ≤ i := fun b => by
  constructor
  ·intro hb
   obtain ⟨k, hk⟩ := List.getElem?_of_mem hb
   rw [List.getElem?_take] at hk
   split at hk
   case isFalse => cases hk
   rename_i hki
   have hk1 := (gSI.1 hk).1
   have hk2 := (gSI.1 hk).2
   refine ⟨gMO hk, ?_⟩
   rw [← hk2, List.Nodup.idxOf_getElem hnd k hk1]
   omega
  ·rintro ⟨hb, hle⟩
   have hlt := List.idxOf_lt_length_iff.2 hb
   have hg : (ordN g)[(ordN g).idxOf b]? = some b := by rw [gEG hlt, List.getElem_idxOf hlt]
   refine gMO (i := (ordN g).idxOf b) ?_
   rw [List.getElem?_take, if_pos (by omega), hg]
 cases hm : bdst g a (succR g g.b.length a) with
 | none =>
   rw [hm] at hsp
   simp only at hsp
   symm
   rw [List.find?_eq_none]
   intro b hb
   simp only [qBad, Bool.and_eq_true, List.contains_iff_mem, Bool.not_eq_true', not_and]
   intro hbe hbd
   have := hsp b ((hrow b).2 hbe) (by rw [hia]; exact ((htake b).1 hb).2)
   rw [this] at hbd
   cases hbd
 | some c =>
   rw [hm] at hsp
   obtain ⟨h1, h2, h3, h4⟩ := hsp
   rw [hia] at h2
   have hce := (hrow c).1 h1
   have hco := ord_next h0 hao hce
   have hqc : qBad g a c = true := by simp [qBad, hce, h3]
   symm
   cases hf : ((ordN g).take (i + 1)).find? (qBad g a) with
   | none =>
     rw [List.find?_eq_none] at hf
     exact absurd hqc (hf c ((htake c).2 ⟨hco, h2⟩))
   | some d =>
     obtain ⟨hqd, l1, l2, hab, hno⟩ := List.find?_eq_some_iff_append.1 hf
     have hd : d ∈ (ordN g).take (i + 1) := by rw [hab]; simp
     obtain ⟨hdo, hdi⟩ := (htake d).1 hd
     simp only [qBad, Bool.and_eq_true, List.contains_iff_mem, Bool.not_eq_true'] at hqd
     have hle := h4 d ((hrow d).2 hqd.1) (by rw [hia]; exact hdi) hqd.2
     have hct : c ∈ (ordN g).take (i + 1) := (htake c).2 ⟨hco, h2⟩
     have hcd : c = d := by
      rw [hab, List.mem_append] at hct
      rcases hct with h | h
      ·have := hno c h
       rw [hqc] at this
       cases this
      ·rcases List.mem_cons.1 h with h | h
       ·exact h
       ·have hda : (ordN g).idxOf d = l1.length := by
         have hdt : (ordN g)[l1.length]? = some d := by
          have : ((ordN g).take (i + 1))[l1.length]? = some d := by rw [hab]; simp
          rw [List.getElem?_take] at this
          split at this
          ·exact this
          ·cases this
         have e1 := (gSI.1 hdt)
         rw [← e1.2]
         exact List.Nodup.idxOf_getElem hnd _ e1.1
        obtain ⟨k, hk⟩ := List.getElem?_of_mem h
        have hct2 : (ordN g)[l1.length + (k + 1)]? = some c := by
         have : ((ordN g).take (i + 1))[l1.length + (k + 1)]? = some c := by rw [hab, List.getElem?_append_right (by omega)]; simpa using hk
         rw [List.getElem?_take] at this
         split at this
         ·exact this
         ·cases this
        have e1 := (gSI.1 hct2)
        have e2 : (ordN g).idxOf c = l1.length + (k + 1) := by
         rw [← e1.2]
         exact List.Nodup.idxOf_getElem hnd _ e1.1
        omega
     rw [hcd]
theorem badAt_lt {g : Gr} {i a b : Nat} (h : badAt g i = some (a, b)) : a ∈ ordN g ∧ b ∈ ordN g ∧ b ∈ edgN g a ∧ domB g b a = false := by
 unfold badAt at h
 split at h
 case h_2 => cases h
 rename_i x hx
 rw [Option.map_eq_some_iff] at h
 obtain ⟨y, hy, he⟩ := h
 simp only [Prod.mk.injEq] at he
 obtain ⟨rfl, rfl⟩ := he
 have h1 := List.find?_some hy
 simp only [qBad, Bool.and_eq_true, List.contains_iff_mem, Bool.not_eq_true'] at h1
 exact ⟨gMO hx, List.mem_of_mem_take (List.mem_of_find?_eq_some hy), h1.1, h1.2⟩
theorem badG_lt {g : Gr} {a b : Nat} (h : badG g = some (a, b)) : a < g.b.length ∧ b < g.b.length ∧ b ∈ edgN g a ∧ domB g b a = false := by
 unfold badG badUp at h
 obtain ⟨i, hi, hb⟩ := List.exists_of_findSome?_eq_some h
 obtain ⟨h1, h2, h3, h4⟩ := badAt_lt hb
 exact ⟨ord_lt h1, ord_lt h2, h3, h4⟩
def SuccSt (n : Nat) (R : Nat → Nat → Prop) (X : Nat → Prop) : Prop := ∀ b, X b → b < n ∧ ∃ m, X m ∧ R b m
open Classical in
theorem stuck_turn {n : Nat} {R : Nat → Nat → Prop} : ∀ (k : Nat) (X : Nat → Prop), SuccSt n R X → (∃ b, X b) → ((List.range n).filter fun b => decide (X b)).length ≤ k → ∃ Y : Nat → Prop, SuccSt n (fun a b => R b a) Y ∧ ∃ b, Y b
 | 0, X, hX, ⟨b, hb⟩, hk => by
   exfalso
   have : b ∈ (List.range n).filter fun b => decide (X b) := by simp [(hX b hb).1, hb]
   have h0 : ((List.range n).filter fun b => decide (X b)) = [] := List.length_eq_zero_iff.1 (by omega)
   rw [h0] at this
   cases this
 | k + 1, X, hX, ⟨b0, hb0⟩, hk => by
   by_cases hno : ∃ b, X b ∧ ∀ m, X m → ¬ R m b
   ·obtain ⟨b, hb, hm⟩ := hno
    refine stuck_turn k (fun x => X x ∧ x ≠ b) (fun x hx => ?_) ?_ ?_
    ·obtain ⟨h1, m, h2, h3⟩ := hX x hx.1
     exact ⟨h1, m, ⟨h2, fun e => hm x hx.1 (e ▸ h3)⟩, h3⟩
    ·obtain ⟨_, m, h2, h3⟩ := hX b hb
     exact ⟨m, h2, fun e => hm b hb (e ▸ h3)⟩
    ·have := filter_lt (fun x => decide (X x)) (fun x => decide (X x ∧ x ≠ b)) (fun x hx => by simp at hx ⊢; exact hx.1) b (by simpa using hb) (by simp) (List.range n) (by simpa using (hX b hb).1)
     have e : (fun x => @decide (X x ∧ x ≠ b) (propDecidable _)) = fun x => @decide (X x ∧ x ≠ b) instDecidableAnd := by funext x; congr
     rw [e]
     exact Nat.le_of_lt_succ (Nat.lt_of_lt_of_le this hk)
   ·refine ⟨X, fun b hb => ⟨(hX b hb).1, ?_⟩, b0, hb0⟩
    exact Classical.byContradiction fun h => hno ⟨b, hb, fun m hm hR => h ⟨m, hm, hR⟩⟩
def NB (g : Gr) (p b : Nat) : Prop := (dgN g).rc p = true ∧ b ∈ edgN g p ∧ domB g b p = false
theorem edge_rc {g : Gr} {p b : Nat} (hp : (dgN g).rc p = true) (hb : b ∈ edgN g p) : (dgN g).rc b = true := by
 have hpn := dgN_lt (edgOk g) hp
 have h0 : 0 < g.b.length := by omega
 exact (rc_iff h0 b).2 (.step ((rc_iff h0 p).1 hp) hb trivial)
theorem bkL_mem {g : Gr} {a b : Nat} : ∀ {n : Nat}, ((a : Int), (b : Int)) ∈ bkL g n ↔ a < n ∧ b ∈ bkRow g a
 | 0 => by simp [bkL]
 | n + 1 => by
   simp only [bkL, List.mem_append, bkL_mem (n := n), List.mem_map, Prod.mk.injEq]
   constructor
   ·rintro (⟨h1, h2⟩ | ⟨x, h1, h2, h3⟩)
    ·exact ⟨by omega, h2⟩
    ·obtain rfl : n = a := by omega
     obtain rfl : x = b := by omega
     exact ⟨by omega, h1⟩
   ·rintro ⟨h1, h2⟩
    rcases Nat.lt_or_ge a n with h | h
    ·exact .inl ⟨h, h2⟩
    ·obtain rfl : a = n := by omega
     exact .inr ⟨b, h2, rfl, rfl⟩
theorem bkRow_mem {g : Gr} {a b : Nat} : b ∈ bkRow g a ↔ (dgN g).rc a = true ∧ b < g.b.length ∧ b ∈ edgN g a ∧ domB g b a = true := by
 rw [bkRow_eq]
 simp
 constructor
 ·rintro ⟨h1, h2, h3, h4⟩; exact ⟨h2, h1, h3, h4⟩
 ·rintro ⟨h1, h2, h3, h4⟩; exact ⟨h2, h1, h3, h4⟩
theorem stuck_iff (g : Gr) (X : Nat → Prop) : StuckS (succT g) (bkL g g.b.length) (reachN g) X ↔ SuccSt g.b.length (NB g) X := by
 constructor
 ·intro h b hb
  obtain ⟨h1, m, h2, h3, h4⟩ := h b hb
  have hbn : b < g.b.length := by have := (gSI.1 h1).1; simpa using this
  rw [reachN_get hbn] at h1
  have hrc : (dgN g).rc b = true := oSI h1
  rw [show rowN (succT g) b = succR g g.b.length b from mkT_row _ hbn, succR_mem] at h2
  refine ⟨hbn, m, h3, hrc, h2.2, ?_⟩
  cases hd : domB g m b with
  | false => rfl
  | true => exact absurd (bkL_mem.2 ⟨hbn, bkRow_mem.2 ⟨hrc, h2.1, h2.2, hd⟩⟩) h4
 ·intro h b hb
  obtain ⟨h1, m, h2, h3, h4, h5⟩ := h b hb
  refine ⟨by rw [reachN_get h1, h3], m, ?_, h2, fun hk => ?_⟩
  ·rw [show rowN (succT g) b = succR g g.b.length b from mkT_row _ h1, succR_mem]
   exact ⟨dgN_lt (edgOk g) (edge_rc h3 h4), h4⟩
  ·have := (bkRow_mem.1 (bkL_mem.1 hk).2).2.2.2
   rw [h5] at this
   cases this
theorem stuck_both (g : Gr) : (∀ X, StuckS (succT g) (bkL g g.b.length) (reachN g) X → ∀ b, ¬ X b) ↔ ∀ Y, SuccSt g.b.length (fun b p => NB g p b) Y → ∀ b, ¬ Y b := by
 constructor
 ·intro h Y hY b hb
  obtain ⟨X, hX, c, hc⟩ := stuck_turn _ Y hY ⟨b, hb⟩ (Nat.le_refl _)
  exact h X ((stuck_iff g X).2 hX) c hc
 ·intro h X hX b hb
  obtain ⟨Y, hY, c, hc⟩ := stuck_turn _ X ((stuck_iff g X).1 hX) ⟨b, hb⟩ (Nat.le_refl _)
  exact h Y hY c hc
theorem lpred_one (g : Gr) (hg : GrFit g) (hsm : g.b.length ≤ 400) : ∃ r : Bool, (r = true ↔ ∀ Y, SuccSt g.b.length (fun b p => NB g p b) Y → ∀ b, ¬ Y b) ∧ AF Tryz.prog 13 [grV g] (aB r) := by
 have hbl := bkL_len g g.b.length
 have h1 : g.b.length * g.b.length ≤ 400 * 400 := Nat.mul_le_mul hsm hsm
 obtain ⟨r, hr, ha⟩ := lpred_ex g hg (bkL g g.b.length) (reachN g) (succT g) (by simp [succT]) (by unfold maxLen; omega) (by simp; omega) (lpback_af g hg hsm) (dmreach_af revOk g hg (edgOk g)) (lpedges_af g hg (edgOk g) hsm)
 exact ⟨r, hr.trans (stuck_both g), ha⟩
def TE (E : Nat → List Nat) (u v : Nat) : Prop := v ∈ E u ∧ Pt E (fun x => x ≠ v) 0 u
inductive TP (E : Nat → List Nat) : Nat → Nat → Prop
 | refl (a : Nat) : TP E a a
 | head {a b c : Nat} : TE E a b → TP E b c → TP E a c
theorem TP.end' {E : Nat → List Nat} {a b : Nat} (h : TP E a b) : b = a ∨ ∃ m, TP E a m ∧ TE E m b := by
 induction h with
 | refl a => exact .inl rfl
 | @head a b c h1 h2 ih =>
   rcases ih with rfl | ⟨m, h3, h4⟩
   ·exact .inr ⟨a, .refl a, h1⟩
   ·exact .inr ⟨m, .head h1 h3, h4⟩
theorem fold_pre {E : Nat → List Nat} {f : Nat} (hd : ∀ (k : Nat) (s : DS2), ∃ M, (dfsV E f k s).2 = s.2 ++ M) : ∀ (l : List Nat) (q : DS2), ∃ M, (l.foldl (dfsS E f) q).2 = q.2 ++ M
 | [], q => ⟨[], by simp⟩
 | y :: l, q => by
   rw [List.foldl_cons]
   obtain ⟨M, hM⟩ := fold_pre hd l (dfsS E f q y)
   unfold dfsS at hM ⊢
   split at hM
   ·rw [if_pos ‹_›]
    exact ⟨M, hM⟩
   ·rw [if_neg ‹_›]
    obtain ⟨M1, h1⟩ := hd y q
    exact ⟨M1 ++ M, by rw [hM, h1]; simp⟩
theorem dfs_pre {E : Nat → List Nat} : ∀ (f k : Nat) (s : DS2), ∃ M, (dfsV E f k s).2 = s.2 ++ M
 | 0, k, s => ⟨[], by simp [dfsV]⟩
 | f + 1, k, s => by
   rw [dfsV_eq]
   obtain ⟨M, hM⟩ := fold_pre (dfs_pre f) (E k) (s.1.set k true, s.2)
   exact ⟨M ++ [k], by rw [hM]; simp⟩
theorem dfs_back {n : Nat} {E : Nat → List Nat} (hE : ∀ i, i < n → ∀ x ∈ E i, x < n) : ∀ (f k : Nat) (s : DS2), s.1.length = n → k < n → s.1[k]? = some false → cntF s.1 ≤ f → Pt E (fun x => s.1[x]? = some true ∨ x = k) 0 k →
  ∀ M, (dfsV E f k s).2 = s.2 ++ M → ∀ A a C, M = A ++ a :: C → TP E k a ∧ ∀ b ∈ E a, b ∈ A ∨ s.1[b]? = some true ∨ TP E b a
 | 0, k, s, _, _, hk, hf, _ => by
   have := cntF_set hk
   omega
 | f + 1, k, s, hl, hkn, hk, hf, hp => by
   intro M hM A a C hA
   have hset := cntF_set hk
   have hkl : k < s.1.length := by omega
   have key : ∀ (l : List Nat) (q : DS2), (∀ x ∈ l, x ∈ E k) → q.1.length = n → cntF q.1 ≤ f → Pt E (fun x => q.1[x]? = some true) 0 k → ∀ M, (l.foldl (dfsS E f) q).2 = q.2 ++ M → ∀ A a C, M = A ++ a :: C → TP E k a ∧ ∀ b ∈ E a, b ∈ A ∨ q.1[b]? = some true ∨ TP E b a := by
    intro l
    induction l with
    | nil =>
      intro q _ _ _ _ M hM A a C hA
      simp at hM
      rw [hM] at hA
      simp at hA
    | cons y l ih =>
      intro q hx hql hqc hqp M hM A a C hA
      have hye := hx y (by simp)
      have hy := hE k hkn y hye
      obtain ⟨b, hb⟩ : ∃ b, q.1[y]? = some b := ⟨_, gEG (by omega)⟩
      rw [List.foldl_cons] at hM
      cases b with
      | true =>
        have hd : dfsS E f q y = q := by unfold dfsS; rw [hb]; rfl
        rw [hd] at hM
        exact ih q (fun z hz => hx z (by simp [hz])) hql hqc hqp M hM A a C hA
      | false =>
        have hd : dfsS E f q y = dfsV E f y q := by unfold dfsS; rw [hb]; rfl
        have hk' := dfsV_keep hE f y q hql hy hb hqc
        obtain ⟨M1', a1, _⟩ := dfs_found hE f y q hql hy hb hqc
        obtain ⟨M1, hM1⟩ : ∃ M1, M1 = M1' ++ [y] := ⟨_, rfl⟩
        rw [← hM1] at a1
        rw [hd] at hM
        obtain ⟨M2, h2⟩ := fold_pre (dfs_pre f) l (dfsV E f y q)
        have hpost := a1.post
        rw [h2, hpost, List.append_assoc] at hM
        have hMM := List.append_cancel_left hM
        have hky : TE E k y := ⟨hye, hqp.mono fun x hx e => by rw [e, hb] at hx; cases hx⟩
        rw [← hMM] at hA
        rcases List.append_eq_append_iff.1 hA with ⟨B, e1, e2⟩ | ⟨B, e1, e2⟩
        ·-- behind the first
         have hsq : ∀ x, (dfsV E f y q).1[x]? = some true ↔ q.1[x]? = some true ∨ x ∈ M1 := a1.seen
         obtain ⟨g1, g2⟩ := ih (dfsV E f y q) (fun z hz => hx z (by simp [hz])) hk'.1 (by omega) (hqp.mono fun x hx => (hsq x).2 (.inl hx)) M2 h2 B a C e2
         refine ⟨g1, fun b hb => ?_⟩
         rcases g2 b hb with h | h | h
         ·exact .inl (by rw [e1]; exact List.mem_append_right _ h)
         ·rcases (hsq b).1 h with h | h
          ·exact .inr (.inl h)
          ·exact .inl (by rw [e1]; exact List.mem_append_left _ h)
         ·exact .inr (.inr h)
        ·cases B with
         | nil =>
           simp only [List.nil_append] at e2
           simp only [List.append_nil] at e1
           have hsq : ∀ x, (dfsV E f y q).1[x]? = some true ↔ q.1[x]? = some true ∨ x ∈ M1 := a1.seen
           obtain ⟨g1, g2⟩ := ih (dfsV E f y q) (fun z hz => hx z (by simp [hz])) hk'.1 (by omega) (hqp.mono fun x hx => (hsq x).2 (.inl hx)) M2 h2 [] a C (by rw [← e2]; rfl)
           refine ⟨g1, fun b hb => ?_⟩
           rcases g2 b hb with h | h | h
           ·cases h
           ·rcases (hsq b).1 h with h | h
            ·exact .inr (.inl h)
            ·exact .inl (by rw [← e1]; exact h)
           ·exact .inr (.inr h)
         | cons z B =>
           simp only [List.cons_append, List.cons.injEq] at e2
           obtain ⟨rfl, e3⟩ := e2
           obtain ⟨g1, g2⟩ := dfs_back hE f y q hql hy hb hqc (.step (hqp.mono fun x hx => .inl hx) hye (.inr rfl)) M1 hpost A a B e1
           exact ⟨.head hky g1, g2⟩
   have hse : ∀ x, (s.1.set k true)[x]? = some true ↔ s.1[x]? = some true ∨ x = k := fun x => by
    by_cases hxk : x = k
    ·subst hxk
     rw [gSS hkl]
     simp
    ·rw [gSN (Ne.symm hxk)]
     simp [hxk]
   have hps : Pt E (fun x => (s.1.set k true)[x]? = some true) 0 k := hp.mono fun x hx => (hse x).2 hx
   obtain ⟨M0, h0⟩ := fold_pre (dfs_pre f) (E k) (s.1.set k true, s.2)
   have hMk : M = M0 ++ [k] := by
    rw [dfsV_eq] at hM
    have h0' : (List.foldl (dfsS E f) (s.fst.set k true, s.snd) (E k)).snd = s.2 ++ M0 := h0
    simp only [h0', List.append_assoc] at hM
    exact (List.append_cancel_left hM).symm
   have hkey := key (E k) (s.1.set k true, s.2) (fun x hx => hx) (by simp [hl]) (by simp only; omega) hps M0 h0
   rw [hMk] at hA
   rcases List.append_eq_append_iff.1 hA with ⟨B, e1, e2⟩ | ⟨B, e1, e2⟩
   ·-- k itself
    have hB : B = [] ∧ a = k ∧ C = [] := by
     cases B with
     | nil => simp at e2; exact ⟨rfl, e2.1.symm, e2.2⟩
     | cons z B => simp at e2
    obtain ⟨rfl, rfl, rfl⟩ := hB
    refine ⟨.refl _, fun b hb => ?_⟩
    obtain ⟨M', a1, _⟩ := dfs_found hE (f + 1) a s hl hkn hk hf
    have hsn := (a1.seen b).1 (a1.cl a (by simp) b hb)
    have hpost := a1.post
    rw [hM] at hpost
    have hMM := List.append_cancel_left hpost
    rw [hMk] at hMM
    have hM0 : M0 = M' := (List.append_inj' hMM rfl).1
    rcases hsn with h | h
    ·exact .inr (.inl h)
    ·rcases List.mem_append.1 h with h | h
     ·exact .inl (by rw [e1, hM0]; simpa using h)
     ·rw [List.mem_singleton.1 h]
      exact .inr (.inr (.refl _))
   ·cases B with
    | nil =>
      simp only [List.nil_append, List.cons.injEq] at e2
      simp only [List.append_nil] at e1
      obtain ⟨rfl, rfl⟩ := e2
      refine ⟨.refl _, fun b hb => ?_⟩
      obtain ⟨M', a1, _⟩ := dfs_found hE (f + 1) a s hl hkn hk hf
      have hsn := (a1.seen b).1 (a1.cl a (by simp) b hb)
      have hpost := a1.post
      rw [hM] at hpost
      have hMM := List.append_cancel_left hpost
      rw [hMk] at hMM
      have hM0 : M0 = M' := (List.append_inj' hMM rfl).1
      rcases hsn with h | h
      ·exact .inr (.inl h)
      ·rcases List.mem_append.1 h with h | h
       ·exact .inl (by rw [← e1, hM0]; exact h)
       ·rw [List.mem_singleton.1 h]
        exact .inr (.inr (.refl _))
    | cons z B =>
      simp only [List.cons_append, List.cons.injEq] at e2
      obtain ⟨rfl, _⟩ := e2
      obtain ⟨g1, g2⟩ := hkey A a B e1
      refine ⟨g1, fun b hb => ?_⟩
      rcases g2 b hb with h | h | h
      ·exact .inl h
      ·rcases (hse b).1 h with h | rfl
       ·exact .inr (.inl h)
       ·exact .inr (.inr g1)
      ·exact .inr (.inr h)
theorem ord_back {g : Gr} (h0 : 0 < g.b.length) {a b : Nat} (ha : a ∈ ordN g) (hb : b ∈ edgN g a) (hi : (ordN g).idxOf b ≤ (ordN g).idxOf a) : TP (edgN g) b a := by
 have hnd := ordN_nodup (edgOk g) h0
 have hr : ordN g = (postN g).reverse := by unfold ordN; rw [if_neg (by omega)]
 have ham : a ∈ postN g := by rw [hr] at ha; exact List.mem_reverse.1 ha
 obtain ⟨A, C, hA⟩ := List.append_of_mem ham
 have hB := dfs_back (edgN_lt (edgOk g)) g.b.length 0 (List.replicate g.b.length false, []) (by simp) h0 (by simp [h0]) (by simp only; rw [cntF_rep]; exact Nat.le_refl _) (.refl (.inr rfl)) (postN g) (by simp [postN]) A a C hA
 rcases hB.2 b hb with h | h | h
 ·exfalso
  rw [hr, hA] at hi hnd
  simp only [List.reverse_append, List.reverse_cons, List.append_assoc, List.singleton_append] at hi hnd
  have hd := List.nodup_append.1 hnd
  have haC : a ∉ C.reverse := fun hx => hd.2.2 a hx a List.mem_cons_self rfl
  have hbA : b ∈ A.reverse := List.mem_reverse.2 h
  have hbC : b ∉ C.reverse := fun hx => hd.2.2 b hx b (List.mem_cons_of_mem _ hbA) rfl
  have hba : a ≠ b := fun e => by
   have := (List.nodup_cons.1 hd.2.1).1
   rw [e] at this
   exact this hbA
  rw [List.idxOf_append, List.idxOf_append, if_neg hbC, if_neg haC, List.idxOf_cons_self, List.idxOf_cons, show (a == b) = false by simpa using hba, cond_false] at hi
  omega
 ·simp only [List.getElem?_replicate] at h
  split at h <;> cases h
 ·exact h
theorem bad_stuck {g : Gr} {a b : Nat} (h : badG g = some (a, b)) : ∃ Y, SuccSt g.b.length (fun b p => NB g p b) Y ∧ Y b := by
 unfold badG badUp at h
 obtain ⟨i, hi, hb⟩ := List.exists_of_findSome?_eq_some h
 obtain ⟨h1, h2, h3, h4⟩ := badAt_lt hb
 have h0 : 0 < g.b.length := by have := ord_lt h1; omega
 have hai : (ordN g)[i]? = some a ∧ b ∈ (ordN g).take (i + 1) := by
  unfold badAt at hb
  cases hx : (ordN g)[i]? with
  | none => rw [hx] at hb; cases hb
  | some x =>
    rw [hx] at hb
    simp only [Option.map_eq_some_iff, Prod.mk.injEq] at hb
    obtain ⟨y, hy, rfl, rfl⟩ := hb
    exact ⟨rfl, List.mem_of_find?_eq_some hy⟩
 have hia : (ordN g).idxOf a = i := by
  obtain ⟨hil, he⟩ := gSI.1 hai.1
  rw [← he]
  exact List.Nodup.idxOf_getElem (ordN_nodup (edgOk g) h0) i hil
 have hib : (ordN g).idxOf b ≤ i := by
  obtain ⟨j, hj, he⟩ := List.mem_iff_getElem.1 hai.2
  rw [List.getElem_take] at he
  have hjl : j < (ordN g).length := by rw [List.length_take] at hj; omega
  have : (ordN g).idxOf b = j := by rw [← he]; exact List.Nodup.idxOf_getElem (ordN_nodup (edgOk g) h0) j hjl
  rw [List.length_take] at hj
  omega
 have hT := ord_back h0 h1 h3 (by omega)
 have hnb : ∀ m x, TE (edgN g) m x → NB g m x := fun m x ⟨t1, t2⟩ => by
  refine ⟨(rc_iff h0 m).2 (t2.mono fun _ _ => trivial), t1, ?_⟩
  cases hd : domB g x m with
  | false => rfl
  | true => exact absurd t2 ((dm_iff h0 x m).1 ((domB_iff h0 x m).1 hd))
 have hrca : (dgN g).rc a = true := by show (ordN g).contains a = true; simpa using h1
 have hTE : TE (edgN g) a b := ⟨h3, Classical.byContradiction fun hn => by
  have := (domB_iff h0 b a).2 ((dm_iff h0 b a).2 hn)
  rw [h4] at this
  cases this⟩
 refine ⟨fun x => TP (edgN g) b x ∧ TP (edgN g) x a, fun x ⟨x1, x2⟩ => ?_, .refl _, hT⟩
 rcases x1.end' with rfl | ⟨m, m1, m2⟩
 ·exact ⟨ord_lt h2, a, ⟨hT, .refl _⟩, hnb a x hTE⟩
 ·have hN := hnb m x m2
  exact ⟨dgN_lt (edgOk g) (edge_rc hN.1 hN.2.1), m, ⟨m1, .head m2 x2⟩, hN⟩
theorem bad_none {g : Gr} (h : badG g = none) : ∀ Y, SuccSt g.b.length (fun b p => NB g p b) Y → ∀ b, ¬ Y b := by
 intro Y hY
 have hedge : ∀ m b, NB g m b → (ordN g).idxOf m < (ordN g).idxOf b := by
  intro m b ⟨n1, n2, n3⟩
  have hm : m ∈ ordN g := by have : (ordN g).contains m = true := n1; simpa using this
  have hb : b ∈ ordN g := by have : (ordN g).contains b = true := edge_rc n1 n2; simpa using this
  have hil := List.idxOf_lt_length_of_mem hm
  have hjl := List.idxOf_lt_length_of_mem hb
  refine Classical.byContradiction fun hn => ?_
  have hle : (ordN g).idxOf b ≤ (ordN g).idxOf m := by omega
  unfold badG badUp at h
  have hnone := List.findSome?_eq_none_iff.1 h ((ordN g).idxOf m) (List.mem_range.2 hil)
  unfold badAt at hnone
  rw [gEG hil, List.getElem_idxOf] at hnone
  simp only [Option.map_eq_none_iff, List.find?_eq_none] at hnone
  have hbt : b ∈ (ordN g).take ((ordN g).idxOf m + 1) := by
   rw [List.mem_iff_getElem]
   refine ⟨(ordN g).idxOf b, by rw [List.length_take]; omega, ?_⟩
   rw [List.getElem_take, List.getElem_idxOf]
  have := hnone b hbt
  simp [qBad, n2, n3] at this
 have : ∀ (k b : Nat), (ordN g).idxOf b ≤ k → ¬ Y b := by
  intro k
  induction k with
  | zero =>
    intro b hb hYb
    obtain ⟨_, m, hm, hN⟩ := hY b hYb
    have := hedge m b hN
    omega
  | succ k ih =>
    intro b hb hYb
    obtain ⟨_, m, hm, hN⟩ := hY b hYb
    have := hedge m b hN
    exact ih m (by omega) hm
 exact fun b => this _ b (Nat.le_refl _)
def InBody (g : Gr) (h x : Nat) : Prop := x = h ∨ ((dgN g).rc x = true ∧ ∃ a, h ∈ bkRow g a ∧ Pt (edgN g) (fun k => k ≠ h) x a)
open Classical in
noncomputable def bodyL (g : Gr) (h : Nat) : List Nat := (List.range g.b.length).filter fun x => decide (InBody g h x)
theorem bodyL_mem {g : Gr} {h x : Nat} : x ∈ bodyL g h ↔ x < g.b.length ∧ InBody g h x := by simp [bodyL]
theorem bodyL_len (g : Gr) (h : Nat) : (bodyL g h).length ≤ g.b.length := by
 have := List.length_filter_le (fun x => @decide (InBody g h x) (Classical.propDecidable _)) (List.range g.b.length)
 simpa [bodyL] using this
theorem bkRow_rc {g : Gr} {a h : Nat} (hb : h ∈ bkRow g a) : (dgN g).rc a = true ∧ (dgN g).rc h = true := by
 obtain ⟨h1, h2, h3, h4⟩ := bkRow_mem.1 hb
 exact ⟨h1, edge_rc h1 h3⟩
theorem InBody.pred {g : Gr} {h x p : Nat} (hx : InBody g h x) (hxh : x ≠ h) (hp : (dgN g).rc p = true) (he : x ∈ edgN g p) : InBody g h p := by
 rcases hx with rfl | ⟨_, a, h1, h2⟩
 ·exact absurd rfl hxh
 ·by_cases hph : p = h
  ·exact .inl hph
  ·exact .inr ⟨hp, a, h1, Pt.cons hph he h2⟩
theorem InBody.src {g : Gr} {h a : Nat} (hb : h ∈ bkRow g a) : InBody g h a := by
 by_cases ha : a = h
 ·exact .inl ha
 ·exact .inr ⟨(bkRow_rc hb).1, a, hb, .refl ha⟩
theorem body_least {g : Gr} {h : Nat} {S : Nat → Prop} (h1 : S h) (h2 : ∀ a, h ∈ bkRow g a → S a) (h3 : ∀ x p, S x → x ≠ h → (dgN g).rc p = true → x ∈ edgN g p → S p) {x : Nat} (hx : InBody g h x) : S x := by
 rcases hx with rfl | ⟨hr, a, hb, hp⟩
 ·exact h1
 ·have ha := h2 a hb
  have key : ∀ {x a : Nat}, Pt (edgN g) (fun k => k ≠ h) x a → (dgN g).rc x = true → S a → S x := by
   intro x a hp
   induction hp with
   | refl _ => exact fun _ h => h
   | @step b c hb h5 h6 ih =>
     intro hr hc
     have hrb : (dgN g).rc b = true := by
      have h0 : 0 < g.b.length := by have := dgN_lt (edgOk g) hr; omega
      exact (rc_iff h0 b).2 (Pt.trans ((rc_iff h0 x).1 hr) (hb.mono fun _ _ => trivial))
     exact ih hr (h3 c b hc h6 hrb h5)
  exact key hp hr ha
theorem nI_inj {l m : List Nat} (h : nI l = nI m) : l = m := by
 have := congrArg (List.map Int.toNat) h
 simpa [nI, List.map_map, Function.comp_def] using this
theorem srt_pair (L : List Int) : (srt L).Pairwise fun a b => a ≤ b := by
 have hp : (srt L).Pairwise fun a b => (decide (a ≤ b)) = true := List.pairwise_mergeSort (fun a b c h1 h2 => by simp at *; omega) (fun a b => by simp; omega) _
 exact hp.imp fun h => by simpa using h
theorem srt_mem {L : List Int} {v : Int} : v ∈ srt L ↔ v ∈ L := by simp [srt]
theorem srt_nodup {L : List Int} (h : L.Nodup) : Asc (srt L) := by
 have hp : (srt L).Perm L := List.mergeSort_perm L _
 have hn : (srt L).Nodup := hp.nodup_iff.2 h
 have h1 := srt_pair L
 unfold Asc
 rw [List.pairwise_iff_getElem] at h1 ⊢
 intro i j hi hj hij
 have h2 := h1 i j hi hj hij
 have h3 : (srt L)[i] ≠ (srt L)[j] := fun e => by
  have := (List.getElem_inj hn).1 e
  omega
 omega
theorem compact_srt (L : List Int) (M : List Int) (hM : Asc M) (hm : ∀ v, v ∈ M ↔ v ∈ L) : Lib.compact (srt L) = M ∧ M.length ≤ L.length := by
 have hp := srt_pair L
 have hmem : ∀ v, v ∈ srt L ↔ v ∈ L := fun v => srt_mem
 have hlen := srt_len L
 obtain ⟨S, hS⟩ : ∃ S, srt L = S := ⟨_, rfl⟩
 rw [hS] at hp hmem hlen ⊢
 have hs : ∀ (i j : Nat), i < j → j < S.toArray.size → S.toArray[i]! ≤ S.toArray[j]! := fun i j hij hj => by
  have hj' : j < S.length := by simpa using hj
  have := List.pairwise_iff_getElem.1 hp i j (by omega) hj' hij
  simpa [getElem!_pos, hj', show i < S.length by omega] using this
 obtain ⟨h1, h2, h3⟩ := compact_sorted hs S.length (by simp)
 have he : Lib.compact S = M := by
  refine asc_ext h1 hM fun v => ?_
  rw [hm, ← hmem]
  show v ∈ Lib.compactUpTo S.toArray S.length ↔ _
  rw [h2, List.mem_iff_getElem]
  constructor
  ·rintro ⟨j, hj, e⟩
   exact ⟨j, hj, by simpa [getElem!_pos, hj] using e⟩
  ·rintro ⟨j, hj, e⟩
   exact ⟨j, hj, by simpa [getElem!_pos, hj] using e⟩
 refine ⟨he, ?_⟩
 rw [← he, ← hlen]
 exact h3
structure BMid (g : Gr) (h : Nat) (F W : List Nat) : Prop where
 nd : F.Nodup
 each : ∀ x ∈ F, x < g.b.length ∧ InBody g h x
 hd : h ∈ F
 w : ∀ x ∈ W, x < g.b.length ∧ ((dgN g).rc x = true → InBody g h x)
 cl : ∀ x p, x ∈ F → x ≠ h → (dgN g).rc p = true → x ∈ edgN g p → p ∈ F ∨ p ∈ W
 sr : ∀ a, h ∈ bkRow g a → a ∈ F ∨ a ∈ W
theorem BMid.len {g : Gr} {h : Nat} {F W : List Nat} (m : BMid g h F W) : F.length ≤ g.b.length := nodup_len m.nd fun x hx => (m.each x hx).1
theorem BMid.done {g : Gr} {h : Nat} {F : List Nat} (m : BMid g h F []) : ∀ x, x ∈ F ↔ x ∈ bodyL g h := by
 intro x
 rw [bodyL_mem]
 refine ⟨m.each x, fun hx => ?_⟩
 refine body_least (S := fun x => x ∈ F) m.hd (fun a ha => ?_) (fun y p hy hyh hr he => ?_) hx.2
 ·simpa using m.sr a ha
 ·simpa using m.cl y p hy hyh hr he
theorem BMid.drop {g : Gr} {h b : Nat} {F W : List Nat} (m : BMid g h F (W ++ [b])) (hb : b ∈ F ∨ (dgN g).rc b = false) : BMid g h F W := by
 refine ⟨m.nd, m.each, m.hd, fun x hx => m.w x (List.mem_append_left _ hx), fun x p hx hxh hr he => ?_, fun a ha => ?_⟩
 ·rcases m.cl x p hx hxh hr he with h1 | h1
  ·exact .inl h1
  ·rcases List.mem_append.1 h1 with h1 | h1
   ·exact .inr h1
   ·simp at h1
    subst h1
    rcases hb with hb | hb
    ·exact .inl hb
    ·rw [hb] at hr; cases hr
 ·rcases m.sr a ha with h1 | h1
  ·exact .inl h1
  ·rcases List.mem_append.1 h1 with h1 | h1
   ·exact .inr h1
   ·simp at h1
    subst h1
    rcases hb with hb | hb
    ·exact .inl hb
    ·rw [(bkRow_rc ha).1] at hb; cases hb
theorem BMid.take {g : Gr} {h b : Nat} {F W : List Nat} (m : BMid g h F (W ++ [b])) (hb : b ∉ F) (hr : (dgN g).rc b = true) : BMid g h (F ++ [b]) (W ++ predF g b) := by
 obtain ⟨hbn, hbb⟩ := m.w b (by simp)
 have hbb := hbb hr
 have hbh : b ≠ h := fun e => hb (e ▸ m.hd)
 refine ⟨?_, fun x hx => ?_, List.mem_append_left _ m.hd, fun x hx => ?_, fun x p hx hxh hr' he => ?_, fun a ha => ?_⟩
 ·rw [List.nodup_append]
  exact ⟨m.nd, by simp, fun a ha c hc => by simp at hc; subst hc; exact fun e => hb (e ▸ ha)⟩
 ·rcases List.mem_append.1 hx with hx | hx
  ·exact m.each x hx
  ·simp at hx; subst hx; exact ⟨hbn, hbb⟩
 ·rcases List.mem_append.1 hx with hx | hx
  ·exact m.w x (List.mem_append_left _ hx)
  ·obtain ⟨h1, h2⟩ := predF_mem.1 hx
   exact ⟨h1, fun h3 => hbb.pred hbh h3 h2⟩
 ·rcases List.mem_append.1 hx with hx | hx
  ·rcases m.cl x p hx hxh hr' he with h1 | h1
   ·exact .inl (List.mem_append_left _ h1)
   ·rcases List.mem_append.1 h1 with h1 | h1
    ·exact .inr (List.mem_append_left _ h1)
    ·simp at h1; subst h1; exact .inl (by simp)
  ·simp at hx
   subst hx
   exact .inr (List.mem_append_right _ (predF_mem.2 ⟨dgN_lt (edgOk g) hr', he⟩))
 ·rcases m.sr a ha with h1 | h1
  ·exact .inl (List.mem_append_left _ h1)
  ·rcases List.mem_append.1 h1 with h1 | h1
   ·exact .inr (List.mem_append_left _ h1)
   ·simp at h1; subst h1; exact .inl (by simp)
open Classical in
noncomputable def exitL (g : Gr) (h : Nat) : List Nat := (List.range g.b.length).filter fun x => decide (x ∉ bodyL g h ∧ ∃ b ∈ bodyL g h, x ∈ edgN g b)
theorem exitL_mem {g : Gr} {h x : Nat} : x ∈ exitL g h ↔ x < g.b.length ∧ x ∉ bodyL g h ∧ ∃ b ∈ bodyL g h, x ∈ edgN g b := by simp [exitL]
theorem bodyL_asc (g : Gr) (h : Nat) : Asc (nI (bodyL g h)) := asc_range _ _
theorem exitL_asc (g : Gr) (h : Nat) : Asc (nI (exitL g h)) := asc_range _ _
theorem exitL_len (g : Gr) (h : Nat) : (exitL g h).length ≤ g.b.length := by
 have := List.length_filter_le (fun x => @decide (x ∉ bodyL g h ∧ ∃ b ∈ bodyL g h, x ∈ edgN g b) (Classical.propDecidable _)) (List.range g.b.length)
 simpa [exitL] using this
def entS (F : List Nat) : List (Nat × Int × Bool) := F.mapIdx fun (i x : Nat) => (i, ((x : Nat) : Int), true)
theorem entS_app (F : List Nat) (b : Nat) : entS (F ++ [b]) = entS F ++ [(F.length, (b : Int), true)] := by simp [entS, List.mapIdx_append]
@[simp] theorem entS_len (F : List Nat) : (entS F).length = F.length := by simp [entS]
theorem entS_mem {F : List Nat} {p : Nat × Int × Bool} (h : p ∈ entS F) : ∃ x ∈ F, p.2 = ((x : Int), true) := by
 simp only [entS, List.mem_mapIdx] at h
 obtain ⟨i, hi, rfl⟩ := h
 exact ⟨F[i], List.getElem_mem hi, rfl⟩
theorem entS_has {F : List Nat} {x : Nat} (h : x ∈ F) : ∃ p ∈ entS F, p.2.1 = (x : Int) := by
 obtain ⟨i, hi, rfl⟩ := List.getElem_of_mem h
 exact ⟨(i, (F[i] : Int), true), List.mem_mapIdx.2 ⟨i, hi, rfl⟩, rfl⟩
theorem entS_keys (F : List Nat) : keysS (entS F) = nI F := by
 apply List.ext_getElem?
 intro i
 simp only [keysS, entS, nI, List.getElem?_map, List.getElem?_mapIdx]
 cases F[i]? <;> rfl
theorem entS_ok' : ∀ (n : Nat) {F : List Nat}, F.length = n → F.Nodup → SetOk F.length (entS F)
 | 0, F, hl, _ => by
   obtain rfl := List.length_eq_zero_iff.1 hl
   simp [entS, SetOk]
 | n + 1, F, hl, h => by
   rcases List.eq_nil_or_concat F with rfl | ⟨F', b, hF⟩
   ·simp at hl
   ·rw [List.concat_eq_append] at hF
    subst hF
    rw [List.nodup_append] at h
    rw [entS_app, List.length_append]
    refine setOk_add (entS_ok' n (by simpa using hl) h.1) fun x hx hk => ?_
    obtain ⟨y, hy, he⟩ := entS_mem hx
    rw [he] at hk
    simp at hk
    have : y = b := by omega
    exact h.2.2 y hy b (by simp) this
theorem entS_ok {F : List Nat} (h : F.Nodup) : SetOk F.length (entS F) := entS_ok' _ rfl h
theorem entS_in {F : List Nat} (h : F.Nodup) (x : Nat) : inS (entS F) (x : Int) = decide (x ∈ F) := by
 rw [Bool.eq_iff_iff, decide_eq_true_eq, inS_iff (entS_ok h) (fun p hp => by obtain ⟨y, _, he⟩ := entS_mem hp; rw [he])]
 constructor
 ·rintro ⟨p, hp, hk⟩
  obtain ⟨y, hy, he⟩ := entS_mem hp
  rw [he] at hk
  simp at hk
  have : y = x := by omega
  exact this ▸ hy
 ·intro hx; exact entS_has hx
theorem entS_new {F : List Nat} {b : Nat} (h : b ∉ F) : ∀ x ∈ entS F, x.2.1 ≠ (b : Int) := fun x hx hk => by
 obtain ⟨y, hy, he⟩ := entS_mem hx
 rw [he] at hk
 simp at hk
 have : y = b := by omega
 exact h (this ▸ hy)
theorem bkL_nat {g : Gr} {p : Int × Int} : ∀ {n : Nat}, p ∈ bkL g n → ∃ a b : Nat, p = ((a : Int), (b : Int)) ∧ a < n ∧ b ∈ bkRow g a
 | 0, h => by simp [bkL] at h
 | n + 1, h => by
   simp only [bkL, List.mem_append, List.mem_map] at h
   rcases h with h | ⟨b, hb, rfl⟩
   ·obtain ⟨a, b, h1, h2, h3⟩ := bkL_nat h
    exact ⟨a, b, h1, by omega, h3⟩
   ·exact ⟨n, b, rfl, by omega, hb⟩
def srcL (l : List (Int × Int)) (h : Nat) : List Nat := (l.filter fun p => decide (p.2 = (h : Int))).map fun p => p.1.toNat
theorem srcL_mem {g : Gr} {h a : Nat} : a ∈ srcL (bkL g g.b.length) h ↔ a < g.b.length ∧ h ∈ bkRow g a := by
 unfold srcL
 simp only [List.mem_map, List.mem_filter, decide_eq_true_eq]
 constructor
 ·rintro ⟨p, ⟨hp, hk⟩, rfl⟩
  obtain ⟨x, y, rfl, h1, h2⟩ := bkL_nat hp
  simp at hk
  have : y = h := by omega
  subst this
  exact ⟨h1, h2⟩
 ·rintro ⟨h1, h2⟩
  exact ⟨((a : Int), (h : Int)), ⟨bkL_mem.2 ⟨h1, h2⟩, rfl⟩, rfl⟩
theorem srcL_take {l : List (Int × Int)} {h j : Nat} {p : Int × Int} (hp : l[j]? = some p) : srcL (l.take (j + 1)) h = if p.2 = (h : Int) then srcL (l.take j) h ++ [p.1.toNat] else srcL (l.take j) h := by
 unfold srcL
 rw [List.take_add_one, hp, List.filter_append, List.map_append]
 by_cases hh : p.2 = (h : Int)
 ·simp [hh]
 ·simp [hh]
theorem srcL_len (l : List (Int × Int)) (h : Nat) : (srcL l h).length ≤ l.length := by
 unfold srcL
 rw [List.length_map]
 exact List.length_filter_le _ _
@[simp] theorem msB_cln (m v c : Nat) (L : List (Nat × Int × Bool)) : clnE m (msB v c L).els = (msB v c L).els := congrArg Blk.els (cln_msB m v c L)
theorem wf_small {x : Nat} (h : x < 1000000) : (Lit.int .i64 (x : Int)).wf = true := by
 simp [Lit.wf, IntKind.min, IntKind.max, IntKind.signed, IntKind.bits]
 omega
set_option maxRecDepth 100000 in
theorem lpbody_af (g : Gr) (hg : GrFit g) (hsm : g.b.length ≤ 400) (h : Nat) (hh : (dgN g).rc h = true) :
  AF Tryz.prog 49 [grV g, aI .i64 h, .d (.sl 2 (prs (bkL g g.b.length)))] (.d (.sl 1 (i64s (nI (bodyL g h))))) := by
 have hgl : g.b.length ≤ maxLen := by unfold maxLen; omega
 have hR := dmreach_af revOk g hg (edgOk g)
 have hP := dmpreds_af g hg (edgOk g) hsm
 rw [dataP_pred g (by have := (turn_keep hg (List.range g.b.length) (List.replicate g.b.length []) 0 (by simp)).1; simpa [turnN] using this)] at hP
 have u56 := Tryz.underlying75
 have u3 := Tryz.underlying3
 have hhn := dgN_lt (edgOk g) hh
 have hbl := bkL_len g g.b.length
 have hbl2 : g.b.length * g.b.length ≤ 400 * 400 := Nat.mul_le_mul hsm hsm
 have hsrc : ∀ a, a ∈ srcL (bkL g g.b.length) h ↔ a < g.b.length ∧ h ∈ bkRow g a := fun a => srcL_mem
 have hnat : ∀ p ∈ bkL g g.b.length, ∃ a b : Nat, p = ((a : Int), (b : Int)) := fun p hp => by obtain ⟨a, b, h1, _⟩ := bkL_nat hp; exact ⟨a, b, h1⟩
 have hm0 : BMid g h [h] (srcL (bkL g g.b.length) h) := ⟨by simp, fun x hx => by simp at hx; subst hx; exact ⟨hhn, .inl rfl⟩, by simp, fun x hx => ⟨((hsrc x).1 hx).1, fun _ => .src ((hsrc x).1 hx).2⟩,
  fun x p hx hxh => by simp at hx; exact absurd hx hxh, fun a ha => .inr ((hsrc a).2 ⟨dgN_lt (edgOk g) (bkRow_rc ha).1, ha⟩)⟩
 have hra : ∀ a, a < g.b.length → (blD (reachN g))[a]? = some [D.v (.bool ((dgN g).rc a))] := fun a h => blD_get (reachN_get h)
 have hrow0 : ∀ a, a < g.b.length → (dataT (mkT g.b.length (predF g)))[a]? = some [.sl 1 (i64s (nI (predF g a)))] := fun a h => by
  have := dataT_get (T := mkT g.b.length (predF g)) (k := a) (by simpa using h)
  rwa [mkT_row _ h] at this
 obtain ⟨n, hn⟩ : ∃ n, g.b.length = n := ⟨_, rfl⟩
 simp only [hn] at hP hgl hhn hbl hbl2 hsrc hnat hm0 hra hrow0 hsm ⊢
 generalize bkL g n = bk at *
 refine af_of Tryz.func49 rfl (by kernel_rfl) (by simp [Tryz.ntmps49]) fun _ => ?_; simp [Tryz.f49, Ex.d_eq]
 refine aRaw_makeS ?_
 simp
 refine aRaw_insS (L := []) (c := 0) (b := 1) (v := 0) (k := h) (v' := true) u56 u3 (by simp) (by simp) (by simp) rfl (by simp) ?_
 simp
 refine aCall_of hP (by kernel_rfl) (by simp) ?_
 simp
 refine aCall_of hR (by kernel_rfl) (by simp) ?_
 simp
 refine aLoop_st (fun j : Nat => [(1, aI .i64 h), (3, .ptr 0 0 0 0), (7, .mp 1 0), (8, .d (.sl 1 (dataT (mkT n (predF g))))), (9, .d (.sl 1 (blD (reachN g)))), (10, .own 2 (srcL (bk.take j) h).length 0 (srcL (bk.take j) h).length), (22, .d (.sl 2 (prs bk))), (23, aI .i64 bk.length), (24, aI .i64 j)])
  (fun j => [gB g, msB 0 1 (entS [h]), nbk (srcL (bk.take j) h).length (nI (srcL (bk.take j) h))]) (fun j => j ≤ bk.length) (fun j => bk.length - j) 0
  ((Sub.ghost 0 3 1).trans (Sub.slot (s := 10) (c := .own 2 0 0 0) (by simp; exact VLe.nil_own (k := ⟨0, true, 3, 1, []⟩) (by simp) rfl))) 3 (by omega) (by simp [cln_gB, cln_msB, srcL, entS]) (by simp [srcL, blD]) (by omega) ?_
 rintro j hj K hK
 have hsl : (srcL (bk.take j) h).length ≤ 160000 := by have := srcL_len (bk.take j) h; simp at this; omega
 rcases Nat.lt_or_ge j bk.length with hlt | hge
 case inl =>
  obtain ⟨p, hp⟩ : ∃ p, bk[j]? = some p := ⟨_, gEG hlt⟩
  have hp1 := prs_get hp
  have hp2 := (gSI.1 hp1).2
  have hst := srcL_take (h := h) hp
  obtain ⟨a, b, rfl⟩ := hnat p (gMO hp)
  simp only [Int.toNat_natCast] at hst
  have hbm : bk.length ≤ maxLen := by unfold maxLen; omega
  simp [hlt, hp1, hp2]
  by_cases hbh : (b : Int) = (h : Int)
  ·rw [if_pos hbh] at hst
   simp [hbh]
   refine aRaw_app byt_49 ?_
   simp
   refine ⟨by unfold maxLen; omega, by omega, ?_⟩
   simp [succ_wrap hlt hbm]
   exact hK (j + 1) (by omega) (by omega) (Sub.refl _ _ _) 3 (by omega) (by simp [cln_gB, cln_msB, hst]) (by simp [hst])
  ·rw [if_neg hbh] at hst
   simp [hbh, succ_wrap hlt hbm]
   exact hK (j + 1) (by omega) (by omega) (Sub.refl _ _ _) 3 (by omega) (by simp [cln_gB, cln_msB, hst]) (by simp [hst])
 obtain rfl : j = bk.length := by omega
 rw [List.take_length] at hsl ⊢
 simp
 clear hK K
 refine aLoop_st (α := List Nat × List Nat × Nat) (fun q => [(7, .mp 1 0), (8, .d (.sl 1 (dataT (mkT n (predF g))))), (9, .d (.sl 1 (blD (reachN g)))), (10, .own 2 q.2.2 0 q.2.1.length)])
  (fun q => [gB g, msB 0 q.1.length (entS q.1), nbk q.2.2 (nI q.2.1)]) (fun q => BMid g h q.1 q.2.1 ∧ q.2.1.length ≤ 160000 + q.1.length * 400) (fun q => (n - q.1.length) * 401 + q.2.1.length) ([h], srcL bk h, (srcL bk h).length)
  (Sub.refl _ _ _) 3 (by omega) (by simp [cln_gB, cln_msB]) (by simp) ⟨hm0, by simp only; omega⟩ ?_
 rintro ⟨F, W, u⟩ ⟨hm, hWl⟩ K hK
 simp only at hm hWl hK ⊢
 have hFl := hm.len
 rw [hn] at hFl
 rcases List.eq_nil_or_concat W with rfl | ⟨W', b, hWb⟩
 ·have hd := hm.done
  have hs : srt (keysS (entS F)) = nI (bodyL g h) := by
   rw [entS_keys]
   refine asc_ext (srt_nodup ?_) (bodyL_asc g h) fun v => ?_
   ·have := hm.nd
    unfold nI
    exact this.map _ (fun a b hab he => hab (by omega))
   ·rw [srt_mem, nI_mem, nI_mem]
    constructor
    ·rintro ⟨x, hx, e⟩; exact ⟨x, (hd x).1 hx, e⟩
    ·rintro ⟨x, hx, e⟩; exact ⟨x, (hd x).2 hx, e⟩
  have hbl3 := bodyL_len g h
  simp
  refine aCall_ofc (mkeys_ac (b := 1) (v := 0) (c := F.length) (L := entS F) rfl) (by kernel_rfl) ?_
  rintro _ _ ⟨rfl, rfl⟩
  simp
  have hso := msorted_ac (A := [gB g, msB 0 F.length (entS F), nbk u [], mbox 1 0]) (q := 3) (b := 1) (v := 0) (c := F.length) (L := entS F) rfl rfl (by simp; omega) (fun x hx => by
   obtain ⟨y, hy, he⟩ := entS_mem hx
   have := (hm.each y hy).1
   rw [he]
   exact wf_small (by omega))
  rw [hs] at hso
  refine aCall_ofc hso (by kernel_rfl) ?_
  rintro _ _ ⟨rfl, rfl⟩
  simp
 ·rw [List.concat_eq_append] at hWb
  subst hWb
  obtain ⟨hbn, _⟩ := hm.w b (by simp)
  rw [hn] at hbn
  have hWb : (W' ++ [b]).length = W'.length + 1 := by simp
  have hin := entS_in hm.nd b
  have hrb := hra b hbn
  have hrb2 := (gSI.1 hrb).2
  have hgt : (dEls (i64s (nI (W' ++ [b]))))[W'.length]? = some [aI .i64 b] := nbk_get (by simp [nI])
  have hw1 : IntKind.i64.wrap (W'.length : Int) = (W'.length : Int) := i64w (by simp at hWl; omega)
  have hcut : ∀ e : AEnv, Sub 0 e [gB g, msB 0 F.length (entS F), nbk u (nI W' ++ [(b : Int)])] e [gB g, msB 0 F.length (entS F), nbk u (nI W')] := fun e => by
   have := Sub.trunc (n := 0) (e := e) (A := [gB g, msB 0 F.length (entS F), nbk u (nI W' ++ [(b : Int)])]) (b := 2) W'.length (k := nbk u (nI W' ++ [(b : Int)])) rfl (show 3 < 1000000 by decide)
   have ht : (dEls (i64s (nI W' ++ [(b : Int)]))).take W'.length = dEls (i64s (nI W')) := by simp [dEls, i64s, nI]
   simp only [setEls, ht] at this
   exact this
  have happ : appT 3 1 [gB g, msB 0 (F.length + 1) (entS (F ++ [b])), nbk u (nI W' ++ [(b : Int)])] (.own 2 u 0 W'.length) (.d (.sl 1 (i64s (nI (predF g b))))) =
    some (.own 2 (u + 1) 0 (W'.length + (predF g b).length), [gB g, msB 0 (F.length + 1) (entS (F ++ [b])), nbk (u + 1) (nI (W' ++ predF g b))], W'.length + (predF g b).length) := by
   have ht : (dEls (i64s (nI W' ++ [(b : Int)]))).take W'.length = dEls (i64s (nI W')) := by simp [dEls, i64s, nI]
   have hall : (dEls (i64s (nI (predF g b)))).all (fun x => x.length == 1) = true := by simp [dEls, i64s]
   simp [appT, appA, elsOf, curB, setEls, dEls, i64s, nI]
  have hpr := hrow0 b hbn
  have hpr2 := (gSI.1 hpr).2
  have hpl := predF_len g b
  rw [hn] at hpl
  have hwl : W'.length + 1 ≤ 160000 + F.length * 400 := by simpa using hWl
  have hl1 : (W'.length : Int) < (W'.length : Int) + 1 := by omega
  have hl2 : (W'.length : Int) ≤ (W'.length : Int) + 1 := by omega
  simp [hw1, hgt, hl1, hl2]
  refine aRaw_lookS (L := entS F) (c := F.length) (b := 1) (v := 0) (k := b) u56 u3 (by kernel_rfl) (by simp) (by simp) rfl ?_
  rw [hin]
  by_cases hbF : b ∈ F
  ·simp [hbF]
   refine hK (F, W', u) ⟨hm.drop (.inl hbF), by simp only; omega⟩ (by simp only; simp) (hcut _) 3 (by omega) (by simp [cln_gB]) (by simp)
  ·simp [hbF, hrb, hrb2, hn, hbn]
   cases hrc : (dgN g).rc b with
   | false =>
     simp
     refine hK (F, W', u) ⟨hm.drop (.inr hrc), by simp only; omega⟩ (by simp only; simp) (hcut _) 3 (by omega) (by simp [cln_gB]) (by simp)
   | true =>
     have hmt := hm.take hbF hrc
     have hFn := hmt.len
     rw [hn, List.length_append, List.length_singleton] at hFn
     simp
     refine aRaw_updS (L := entS F) (c := F.length) (b := 1) (v := 0) (k := b) (v' := true) u56 u3 (by simp) (by simp) (by simp) rfl (entS_new hbF) ?_
     rw [← entS_app]
     simp [hbn, hpr, hpr2]
     refine aRaw_appT byt_49 ?_
     refine ⟨.own 2 (u + 1) 0 (W'.length + (predF g b).length), [gB g, msB 0 (F.length + 1) (entS (F ++ [b])), nbk (u + 1) (nI (W' ++ predF g b))], W'.length + (predF g b).length, ?_, by unfold maxLen; omega, by omega, ?_⟩
     ·simp
      simpa using happ
     simp
     refine hK (F ++ [b], W' ++ predF g b, u + 1) ⟨hmt, ?_⟩ ?_ (Sub.refl _ _ _) 3 (by omega) (by simp [cln_gB]) (by simp)
     ·simp only [List.length_append, List.length_singleton]
      omega
     ·simp only [List.length_append, List.length_singleton]
      have : n - F.length = (n - (F.length + 1)) + 1 := by omega
      rw [this, Nat.add_mul]
      omega
def leavL (g : Gr) (B : List Nat) (b : Nat) : List Nat := (succR g g.b.length b).filter fun x => decide (x ∉ B)
def leavS (g : Gr) (B : List Nat) : List Nat → List Nat
 | [] => []
 | b :: l => leavL g B b ++ leavS g B l
theorem leavS_app (g : Gr) (B : List Nat) : ∀ l m : List Nat, leavS g B (l ++ m) = leavS g B l ++ leavS g B m
 | [], m => rfl
 | b :: l, m => by simp [leavS, leavS_app g B l m]
theorem leavS_mem {g : Gr} {B : List Nat} {x : Nat} : ∀ {l : List Nat}, x ∈ leavS g B l ↔ ∃ b ∈ l, x < g.b.length ∧ x ∈ edgN g b ∧ x ∉ B
 | [] => by simp [leavS]
 | b :: l => by
   simp only [leavS, List.mem_append, leavS_mem (l := l), leavL, List.mem_filter, succR_mem, decide_eq_true_eq, List.mem_cons]
   constructor
   ·rintro (⟨⟨h1, h2⟩, h3⟩ | ⟨c, h1, h2⟩)
    ·exact ⟨b, .inl rfl, h1, h2, h3⟩
    ·exact ⟨c, .inr h1, h2⟩
   ·rintro ⟨c, rfl | h1, h2, h3, h4⟩
    ·exact .inl ⟨⟨h2, h3⟩, h4⟩
    ·exact .inr ⟨c, h1, h2, h3, h4⟩
theorem leavL_len (g : Gr) (B : List Nat) (b : Nat) : (leavL g B b).length ≤ g.b.length := Nat.le_trans (List.length_filter_le _ _) (succR_len g _ _)
theorem leavS_len (g : Gr) (B : List Nat) : ∀ l : List Nat, (leavS g B l).length ≤ l.length * g.b.length
 | [] => by simp [leavS]
 | b :: l => by
   have h1 := leavS_len g B l
   have h2 := leavL_len g B b
   simp only [leavS, List.length_append, List.length_cons]
   rw [Nat.succ_mul]
   omega
set_option maxRecDepth 100000 in
theorem lpexits_af (g : Gr) (hsm : g.b.length ≤ 400) (h : Nat) :
  AF Tryz.prog 50 [.d (.sl 1 (dataT (succT g))), .d (.sl 1 (i64s (nI (bodyL g h))))] (.d (.sl 1 (i64s (nI (exitL g h))))) := by
 have hgl : g.b.length ≤ maxLen := by unfold maxLen; omega
 have hBl := bodyL_len g h
 have hBn : ∀ b ∈ bodyL g h, b < g.b.length := fun b hb => (bodyL_mem.1 hb).1
 obtain ⟨c1, c2⟩ := compact_srt (nI (leavS g (bodyL g h) (bodyL g h))) (nI (exitL g h)) (exitL_asc g h) fun v => by
  rw [nI_mem, nI_mem]
  constructor
  ·rintro ⟨x, hx, e⟩
   obtain ⟨h1, h2, b, h3, h4⟩ := exitL_mem.1 hx
   exact ⟨x, leavS_mem.2 ⟨b, h3, h1, h4, h2⟩, e⟩
  ·rintro ⟨x, hx, e⟩
   obtain ⟨b, h1, h2, h3, h4⟩ := leavS_mem.1 hx
   exact ⟨x, exitL_mem.2 ⟨h2, h4, b, h1, h3⟩, e⟩
 have hSl := leavS_len g (bodyL g h) (bodyL g h)
 have hrow0 : ∀ a, a < g.b.length → (dataT (succT g))[a]? = some [.sl 1 (i64s (nI (succR g g.b.length a)))] := fun a h => by
  have := dataT_get (T := succT g) (k := a) (by simpa [succT] using h)
  rwa [show rowN (succT g) a = succR g g.b.length a from mkT_row _ h] at this
 have hTl : (succT g).length = g.b.length := by simp [succT]
 have hXl := exitL_len g h
 generalize exitL g h = X at *
 generalize bodyL g h = B at *
 have hll := fun i => leavS_len g B (B.take i)
 have hsl := fun b => succR_len g g.b.length b
 have hmul : B.length * g.b.length ≤ 400 * 400 := Nat.mul_le_mul (by omega) hsm
 have hll2 : ∀ i, (leavS g B (B.take i)).length ≤ 160000 := fun i => Nat.le_trans (hll i) (Nat.le_trans (Nat.mul_le_mul_right _ (show (B.take i).length ≤ B.length by simp; omega)) hmul)
 obtain ⟨n, hn⟩ : ∃ n, g.b.length = n := ⟨_, rfl⟩
 have hlL : ∀ b, leavL g B b = (succR g n b).filter fun x => decide (x ∉ B) := fun b => by unfold leavL; rw [hn]
 simp only [hn] at hgl hBl hBn hrow0 hTl hXl hsl hsm
 have hBm : B.length ≤ maxLen := by omega
 refine af_of Tryz.func50 rfl (by kernel_rfl) (by simp [Tryz.ntmps50]) fun _ => ?_; simp [Tryz.f50, Ex.d_eq]
 refine aLoop_st (fun i : Nat => [(0, .d (.sl 1 (dataT (succT g)))), (1, .d (.sl 1 (i64s (nI B)))), (5, .own 0 (leavS g B (B.take i)).length 0 (leavS g B (B.take i)).length), (10, .d (.sl 1 (i64s (nI B)))), (11, aI .i64 B.length), (12, aI .i64 i)])
  (fun i => [nbk (leavS g B (B.take i)).length (nI (leavS g B (B.take i)))]) (fun i => i ≤ B.length) (fun i => B.length - i) 0
  ((Sub.ghost 0 3 1).trans (Sub.slot (s := 5) (c := .own 0 0 0 0) (by simp; exact VLe.nil_own (k := ⟨0, true, 3, 1, []⟩) (by simp) rfl))) 1 (by omega) (by simp [leavS]) (by simp [leavS]) (by omega) ?_
 rintro i hi K hK
 have hl1 := hll2 i
 rcases Nat.lt_or_ge i B.length with hlt | hge
 case inr =>
  obtain rfl : i = B.length := by omega
  rw [List.take_length] at hl1 ⊢
  have c4 := srt_len (nI (leavS g B B))
  have hsrt := sort_ac (nI (leavS g B B)) [nbk (leavS g B B).length (nI (leavS g B B))] 0 (leavS g B B).length 3 rfl (by simp; omega)
  have k2 := fun A hA => compact_ac (srt (nI (leavS g B B))) (nI X) A 0 (leavS g B B).length 3 hA (by rw [c4]; simp; omega) c1 (by rw [c4]; exact c2)
  rw [c4] at k2
  rw [show (nI (leavS g B B)).length = (leavS g B B).length by simp] at k2 hsrt c2
  simp
  refine aCall_ofc hsrt (by kernel_rfl) ?_
  rintro _ _ ⟨rfl, rfl⟩
  simp
  refine aCall_ofc (k2 _ rfl) (by kernel_rfl) ?_
  rintro _ _ ⟨rfl, rfl⟩
  have c3 : X.length ≤ (leavS g B B).length := by simpa using c2
  simp [c3]
 obtain ⟨b, hb⟩ : ∃ b, B[i]? = some b := ⟨_, gEG hlt⟩
 have hb2 := (gSI.1 hb).2
 have hbn := hBn b (gMO hb)
 have hrow := hrow0 b hbn
 have hrow2 := (gSI.1 hrow).2
 have hsl1 := hsl b
 have hslm : (succR g n b).length ≤ maxLen := by omega
 have hdl : (dataT (succT g)).length = n := by simp [hTl]
 simp [hlt, hb, hb2, hbn, hrow, hrow2, hdl]
 obtain ⟨f, hf⟩ : ∃ f : Nat → List Nat, f = fun j => leavS g B (B.take i) ++ ((succR g n b).take j).filter fun x => decide (x ∉ B) := ⟨_, rfl⟩
 have hf0 : f 0 = leavS g B (B.take i) := by rw [hf]; simp
 have hfe : f (succR g n b).length = leavS g B (B.take (i + 1)) := by
  rw [hf]
  simp only [List.take_length]
  rw [List.take_add_one, hb, leavS_app]
  simp [leavS, hlL]
 have hflen : ∀ j, (f j).length ≤ 170000 := fun j => by
  rw [hf]
  simp only [List.length_append]
  have h1 := List.length_filter_le (fun x => decide (x ∉ B)) ((succR g n b).take j)
  have h2 : ((succR g n b).take j).length ≤ (succR g n b).length := by simp; omega
  omega
 have hfs : ∀ (j x : Nat), (succR g n b)[j]? = some x → f (j + 1) = if x ∈ B then f j else f j ++ [x] := fun j x hx => by
  rw [hf]
  simp only
  rw [List.take_add_one, hx, List.filter_append]
  by_cases hd : x ∈ B
  ·simp [hd]
  ·simp [hd]
 clear hf
 refine aLoop_st (fun j : Nat => [(0, .d (.sl 1 (dataT (succT g)))), (1, .d (.sl 1 (i64s (nI B)))), (5, .own 0 (f j).length 0 (f j).length), (10, .d (.sl 1 (i64s (nI B)))), (11, aI .i64 B.length), (12, aI .i64 i),
   (19, .d (.sl 1 (i64s (nI (succR g n b))))), (20, aI .i64 (succR g n b).length), (21, aI .i64 j)])
  (fun j => [nbk (f j).length (nI (f j))]) (fun j => j ≤ (succR g n b).length) (fun j => (succR g n b).length - j) 0 (Sub.refl _ _ _) 1 (by omega) (by simp [hf0]) (by simp [hf0]) (by omega) ?_
 rintro j hj K2 hK2
 rcases Nat.lt_or_ge j (succR g n b).length with hjlt | hjge
 case inr =>
  obtain rfl : j = (succR g n b).length := by omega
  simp [succ_wrap hlt hBm]
  exact hK (i + 1) (by omega) (by omega) (Sub.refl _ _ _) 1 (by omega) (by simp [hfe]) (by simp [hfe])
 obtain ⟨x, hx⟩ : ∃ x, (succR g n b)[j]? = some x := ⟨_, gEG hjlt⟩
 have hx2 := (gSI.1 hx).2
 have hfj := hfs j x hx
 have hfl := hflen j
 have hc := containsin_af (nI B) x (by simpa using hBm)
 rw [show decide ((x : Int) ∈ nI B) = decide (x ∈ B) by rw [Bool.eq_iff_iff, decide_eq_true_eq, decide_eq_true_eq, nI_not]] at hc
 simp [hjlt, hx, hx2]
 refine aCall_of hc (by kernel_rfl) (by simp) ?_
 by_cases hxB : x ∈ B
 ·rw [if_pos hxB] at hfj
  simp [hxB, succ_wrap hjlt hslm]
  exact hK2 (j + 1) (by omega) (by omega) (Sub.refl _ _ _) 1 (by omega) (by simp [hfj]) (by simp [hfj])
 ·rw [if_neg hxB] at hfj
  simp [hxB]
  refine aRaw_app byt_49 ?_
  simp
  refine ⟨by unfold maxLen; omega, by omega, ?_⟩
  simp [succ_wrap hjlt hslm]
  exact hK2 (j + 1) (by omega) (by omega) (Sub.refl _ _ _) 1 (by omega) (by simp [hfj]) (by simp [hfj])
structure Lp where
 hd : Int
 bd : List Int
 ex : List Int
 pa : Int
def Lp.d (l : Lp) : List D := [.v (.int .i64 l.hd), .sl 1 (i64s l.bd), .sl 1 (i64s l.ex), .v (.int .i64 l.pa)]
def lps (l : List Lp) : List (List D) := l.map Lp.d
@[simp] theorem lps_len (l : List Lp) : (lps l).length = l.length := by simp [lps]
theorem lps_get {l : List Lp} {i : Nat} {x : Lp} (h : l[i]? = some x) : (lps l)[i]? = some [.v (.int .i64 x.hd), .sl 1 (i64s x.bd), .sl 1 (i64s x.ex), .v (.int .i64 x.pa)] := by simp [lps, h, Lp.d]
def inStp (l : List Lp) (b but : Int) (best : Option Nat) (k : Nat) : Option Nat := match l[k]? with
 | none => best
 | some x => if (k : Int) ≠ but ∧ b ∈ x.bd then (match best with
   | none => some k
   | some c => if x.bd.length < ((l[c]?.map fun y => y.bd.length).getD 0) then some k else some c) else best
def inL (l : List Lp) (b but : Int) : Nat → Option Nat
 | 0 => none
 | k + 1 => inStp l b but (inL l b but k) k
theorem inL_lt {l : List Lp} {b but : Int} : ∀ {k : Nat}, ∀ c, inL l b but k = some c → c < l.length
 | 0, c, h => by cases h
 | k + 1, c, h => by
   rw [inL] at h
   unfold inStp at h
   split at h
   ·exact inL_lt _ h
   ·rename_i x hx
    split at h
    ·split at h
     ·obtain rfl := oSI h; exact (gSI.1 hx).1
     ·rename_i d hd
      split at h
      ·obtain rfl := oSI h; exact (gSI.1 hx).1
      ·obtain rfl := oSI h; exact inL_lt _ hd
    ·exact inL_lt _ h
set_option maxRecDepth 100000 in
theorem lpnest_af (l : List Lp) (b : Int) (hl : l.length ≤ maxLen) (hb : ∀ x ∈ l, x.bd.length ≤ maxLen) : AF Tryz.prog 52 [.d (.sl 4 (lps l)), aI .i64 b] (aI .i64 (bV (inL l b (-1) l.length))) := by
 refine af_of Tryz.func52 rfl (by kernel_rfl) (by simp [Tryz.ntmps52]) fun _ => ?_; simp [Tryz.f52, Ex.d_eq]
 refine aLoop_st (fun i : Nat => [(0, .d (.sl 4 (lps l))), (1, aI .i64 b), (5, aI .i64 (bV (inL l b (-1) i))), (8, .d (.sl 4 (lps l))), (9, aI .i64 l.length), (10, aI .i64 i)]) (fun _ => []) (fun i => i ≤ l.length) (fun i => l.length - i) 0 (Sub.refl _ _ _) 0 (by omega) (by simp) (by simp [inL, bV]) (by omega) ?_
 rintro i hi K hK
 rcases Nat.lt_or_ge i l.length with hlt | hge
 case inr =>
  obtain rfl : i = l.length := by omega
  simp
 obtain ⟨x, hx⟩ : ∃ x, l[i]? = some x := ⟨_, gEG hlt⟩
 have hx1 := lps_get hx
 have hx2 := (gSI.1 hx1).2
 have hxl := hb x (gMO hx)
 have hc := containsin_af x.bd b hxl
 have hst : inL l b (-1) (i + 1) = inStp l b (-1) (inL l b (-1) i) i := rfl
 have hlo := inL_lt (l := l) (b := b) (but := -1) (k := i)
 unfold inStp at hst
 rw [hx] at hst
 simp only at hst
 simp [hlt, hx1, hx2]
 refine adraw [] (by kernel_rfl) (by kernel_rfl) (by kernel_rfl) (by kernel_rfl) ?_
 simp
 refine adC_of hc (by kernel_rfl) trivial (by simp) (by simp) ?_
 by_cases hin : b ∈ x.bd
 ·rw [if_pos ⟨by omega, hin⟩] at hst
  simp [hin]
  generalize inL l b (-1) i = bs at *
  cases bs with
  | none =>
    simp only at hst
    simp [bV, succ_wrap hlt hl]
    exact hK (i + 1) (by omega) (by omega) (Sub.refl _ _ _) 0 (by omega) (by simp) (by simp [hst, bV])
  | some c =>
    have hcl := hlo c rfl
    obtain ⟨y, hy⟩ : ∃ y, l[c]? = some y := ⟨_, gEG hcl⟩
    have hy1 := lps_get hy
    have hy2 := (gSI.1 hy1).2
    simp only [hy, Option.map_some, Option.getD_some] at hst
    simp [bV, show ¬ (c : Int) < 0 by omega, hcl, hlt, hx1, hx2, hy1, hy2]
    by_cases hlt2 : x.bd.length < y.bd.length
    ·rw [if_pos hlt2] at hst
     simp [hlt2, succ_wrap hlt hl]
     exact hK (i + 1) (by omega) (by omega) (Sub.refl _ _ _) 0 (by omega) (by simp) (by simp [hst, bV])
    ·rw [if_neg hlt2] at hst
     simp [hlt2, succ_wrap hlt hl]
     exact hK (i + 1) (by omega) (by omega) (Sub.refl _ _ _) 0 (by omega) (by simp) (by simp [hst, bV])
 ·rw [if_neg (by simp [hin])] at hst
  simp [hin, succ_wrap hlt hl]
  exact hK (i + 1) (by omega) (by omega) (Sub.refl _ _ _) 0 (by omega) (by simp) (by simp [hst])
abbrev aPr (p : Int × Int) : AV := .agg [aI .i64 p.1, aI .i64 p.2]
theorem index_p_ac {f : Nat} {fs cs : List AV} {p : Int × Int → Bool} (A : AHeap) (l : List (Int × Int)) (hf : okF Tryz.prog f = true) (hp : ∀ a ∈ l, ∀ N, AC Tryz.prog f (fs ++ [aPr a] ++ cs) (A ++ N) (Same0 A (aB (p a)))) :
  AC Tryz.prog 92 [.d (.sl 2 (prs l)), .fn f fs cs] A (Same0 A (aI .i64 (match l.findIdx? p with | some i => (i : Int) | none => -1))) := by
 refine ac_of Tryz.func92 rfl (by kernel_rfl) (by simp [Tryz.ntmps92]) fun hb => ?_
 have n1 : l.length ≤ maxLen := by simpa using hb.1.1
 clear hb
 obtain ⟨R, hR⟩ : ∃ R : Int, (match l.findIdx? p with | some i => (i : Int) | none => -1) = R := ⟨_, rfl⟩
 rw [hR]
 simp [Tryz.f92]
 refine aLoop_of (α := Nat) (fun i e A' => i ≤ l.length ∧ (∃ N, A' = A ++ N) ∧ e 8 = aI .i64 i ∧ e 7 = aI .i64 l.length ∧ e 0 = .d (.sl 2 (prs l)) ∧ e 1 = .fn f fs cs ∧
  ∀ (j : Nat) (a : Int × Int), j < i → l[j]? = some a → p a = false) (fun i => l.length - i) 0 (Sub.refl _ _ _) ⟨by omega, ⟨[], by simp⟩, by simp, by simp, by simp, by simp, by intro j a hj; omega⟩ ?_
 rintro i e A' ⟨hi, ⟨N, rfl⟩, e8, e7, e0, e1, hall⟩ K hK
 simp [e8, e7]
 refine aCond_split (fun hlt => ?_) (fun hge => ?_)
 ·simp at hlt
  have hi1 := gEG hlt
  have hi2 := prs_get hi1
  have hi3 := (gSI.1 hi2).2
  simp [e0, e1, e8, hi1, hi2, hi3, hlt]
  refine aCall_ofc (hp l[i] (gMO hi1) N) hf ?_
  rintro _ _ ⟨rfl, N', rfl⟩
  simp
  refine aCond_split (fun ht => ?_) (fun hf => ?_)
  ·have : l.findIdx? p = some i := by
    rw [List.findIdx?_eq_some_iff_getElem]
    exact ⟨hlt, ht, fun j hj => by simpa using hall j _ hj (gEG (by omega))⟩
   rw [this] at hR
   subst hR
   simp [Same0]
  ·simp [e8, succ_wrap hlt n1]
   refine hK (i + 1) _ _ _ _ (Sub.refl _ _ _) ⟨by omega, ⟨N', rfl⟩, by simp, by simp [e7], by simp [e0], by simp [e1], fun j a hj ha => ?_⟩ (by omega)
   rcases Nat.lt_or_ge j i with h | h
   ·exact hall j a h ha
   ·obtain rfl : j = i := by omega
    rw [hi1] at ha
    obtain rfl := oSI ha
    exact hf
 ·simp at hge
  have : l.findIdx? p = none := by
   rw [List.findIdx?_eq_none_iff]
   intro x hx
   obtain ⟨j, hj⟩ := List.getElem?_of_mem hx
   exact hall j x (by have := (gSI.1 hj).1; omega) hj
  rw [this] at hR
  subst hR
  simp [Same0]
theorem contains_p_ac {f : Nat} {fs cs : List AV} {p : Int × Int → Bool} (A : AHeap) (l : List (Int × Int)) (hf : okF Tryz.prog f = true) (hp : ∀ a ∈ l, ∀ N, AC Tryz.prog f (fs ++ [aPr a] ++ cs) (A ++ N) (Same0 A (aB (p a)))) :
  AC Tryz.prog 47 [.d (.sl 2 (prs l)), .fn f fs cs] A (Same0 A (aB (l.any p))) := by
 refine ac_of Tryz.func47 rfl (by kernel_rfl) (by simp [Tryz.ntmps47]) fun hb => ?_
 simp [Tryz.f47]
 refine aCall_ofc (index_p_ac A l hf hp) (by simp) ?_
 rintro _ _ ⟨rfl, N, rfl⟩
 simp [Same0]
 cases h : l.findIdx? p with
 | none =>
   rw [List.findIdx?_eq_none_iff] at h
   simpa using h
 | some i =>
   rw [List.findIdx?_eq_some_iff_getElem] at h
   obtain ⟨hi, hp, _⟩ := h
   exact Eq.symm (List.any_eq_true.2 ⟨_, List.getElem_mem hi, hp⟩)
theorem find1_ac (B0 B1 : Blk) (h : Int) (a : Int × Int) (N : AHeap) : AC Tryz.prog 48 ([] ++ [aPr a] ++ [.ptr 2 0 0 0]) ([B0, B1, cInt h] ++ N) (Same0 [B0, B1, cInt h] (aB (decide (a.2 = h)))) := by
 refine ac_of Tryz.func48 rfl (by kernel_rfl) (by simp [Tryz.ntmps48]) fun _ => ?_
 simp [Tryz.f48, cInt, Same0]
abbrev lpB (v : Nat) (els : List (List AV)) : Blk := ⟨v, true, 58, 4, els⟩
theorem cloneLp_ac {A : AHeap} {b ver : Nat} {X : List (List D)} (hb : A[b]? = some (lpB ver (dEls X))) (hX : ∀ x ∈ X, x.length = 4) (hl : X.length ≤ 100000) (hne : X ≠ []) :
  AC Tryz.prog 51 [.own b ver 0 X.length] A (fun r A' => r = .own A.length 1 0 X.length ∧ A' = A ++ [lpB 1 (dEls X)]) := by
 have hbl := (gSI.1 hb).1
 refine ac_of Tryz.func51 rfl (by kernel_rfl) (by simp [Tryz.ntmps51]) fun hbd => ?_
 clear hbd
 have hpos : 0 < X.length := List.length_pos_iff.2 hne
 have hcur : curB A b ver = some (lpB ver (dEls X)) := by simp [curB, hb]
 simp [Tryz.f51, hb]
 refine ⟨by kernel_rfl, fun r hr => ?_⟩
 have hrf : r = false := by
  cases r with
  | false => rfl
  | true =>
    rcases hr rfl with h | h
    ·omega
    ·rw [hcur] at h; cases h
 subst hrf
 simp
 refine aRaw_app byt_54 ?_
 have hall : ∀ x ∈ dEls X, x.length = 4 := fun x hx => by
  simp only [dEls, List.mem_map] at hx
  obtain ⟨y, hy, rfl⟩ := hx
  simpa using hX y hy
 simp [gAL hbl, hb, hall]
 have ht : List.take X.length (dEls X) = dEls X := List.take_of_length_le (by simp)
 rw [if_pos hall]
 refine ⟨_, _, _, rfl, ?_, ?_, ?_⟩
 ·unfold maxLen; omega
 ·omega
 ·simp
def isHd (g : Gr) (h : Nat) : Bool := (bkL g g.b.length).any fun p => decide (p.2 = (h : Int))
noncomputable def lpOf (g : Gr) (h : Nat) : Lp := ⟨h, nI (bodyL g h), nI (exitL g h), -1⟩
noncomputable def fnd0 (g : Gr) (O : List Nat) : List Lp := (O.filter (isHd g)).map (lpOf g)
theorem fnd0_take {g : Gr} {O : List Nat} {i h : Nat} (hh : O[i]? = some h) : fnd0 g (O.take (i + 1)) = if isHd g h = true then fnd0 g (O.take i) ++ [lpOf g h] else fnd0 g (O.take i) := by
 unfold fnd0
 rw [List.take_add_one, hh, List.filter_append, List.map_append]
 by_cases hd : isHd g h = true
 ·simp [hd]
 ·simp [hd]
theorem fnd0_len (g : Gr) (O : List Nat) : (fnd0 g O).length ≤ O.length := by
 unfold fnd0
 rw [List.length_map]
 exact List.length_filter_le _ _
theorem fnd0_mem {g : Gr} {O : List Nat} {x : Lp} (h : x ∈ fnd0 g O) : ∃ h ∈ O, isHd g h = true ∧ x = lpOf g h := by
 unfold fnd0 at h
 simp only [List.mem_map, List.mem_filter] at h
 obtain ⟨h, ⟨h1, h2⟩, rfl⟩ := h
 exact ⟨h, h1, h2, rfl⟩
def withP (L : List Lp) (k : Nat) : List Lp := L.mapIdx fun i x => if i < k then ⟨x.hd, x.bd, x.ex, bV (inL L x.hd i L.length)⟩ else x
@[simp] theorem withP_len (L : List Lp) (k : Nat) : (withP L k).length = L.length := by simp [withP]
theorem withP_zero (L : List Lp) : withP L 0 = L := by
 apply List.ext_getElem?
 intro i
 simp [withP]
theorem withP_get {L : List Lp} {k : Nat} {x : Lp} (h : L[k]? = some x) : (withP L k)[k]? = some x := by simp [withP, h]
theorem withP_succ {L : List Lp} {k : Nat} {x : Lp} (h : L[k]? = some x) : withP L (k + 1) = (withP L k).set k ⟨x.hd, x.bd, x.ex, bV (inL L x.hd k L.length)⟩ := by
 apply List.ext_getElem?
 intro i
 have hk := (gSI.1 h).1
 by_cases hik : k = i
 ·subst hik
  rw [gSS (by simpa using hk)]
  simp [withP, h]
 ·rw [gSN hik]
  simp only [withP, List.getElem?_mapIdx]
  congr 1
  funext y
  by_cases h1 : i < k
  ·rw [if_pos h1, if_pos (by omega)]
  ·rw [if_neg h1, if_neg (by omega)]
theorem inL_self (L M : List Lp) (b : Int) (k : Nat) (hlen : M.length = L.length) (hk : ∀ y, M[k]? = some y → y.bd = []) (ho : ∀ (i : Nat) (x y : Lp), i ≠ k → L[i]? = some x → M[i]? = some y → y.bd = x.bd) :
  ∀ m, inL M b (-1) m = inL L b k m ∧ inL L b k m ≠ some k
 | 0 => by simp [inL]
 | m + 1 => by
   obtain ⟨h1, h2⟩ := inL_self L M b k hlen hk ho m
   rw [inL, inL, h1]
   generalize inL L b k m = bs at *
   unfold inStp
   cases hM : M[m]? with
   | none =>
     have : L[m]? = none := by
      rw [List.getElem?_eq_none_iff] at hM ⊢
      omega
     rw [this]
     exact ⟨rfl, h2⟩
   | some y =>
     have hml : m < L.length := by rw [← hlen]; exact (gSI.1 hM).1
     obtain ⟨x, hx⟩ : ∃ x, L[m]? = some x := ⟨_, gEG hml⟩
     rw [hx]
     simp only
     by_cases hmk : m = k
     ·subst hmk
      have hky := hk y hM
      rw [if_neg (by simp [hky]), if_neg (by simp)]
      exact ⟨rfl, h2⟩
     ·have hyx := ho m x y hmk hx hM
      rw [hyx]
      by_cases hb : b ∈ x.bd
      ·rw [if_pos ⟨by omega, hb⟩, if_pos ⟨by omega, hb⟩]
       cases bs with
       | none => exact ⟨rfl, fun h => hmk (oSI h)⟩
       | some c =>
         have hck : c ≠ k := fun e => h2 (by rw [e])
         have : (M[c]?.map fun y => y.bd.length) = L[c]?.map fun y => y.bd.length := by
          cases hc : L[c]? with
          | none =>
            have : M[c]? = none := by
             rw [List.getElem?_eq_none_iff] at hc ⊢
             omega
            rw [this]
          | some z =>
            obtain ⟨z', hz'⟩ : ∃ z', M[c]? = some z' := ⟨_, gEG (by rw [hlen]; exact (gSI.1 hc).1)⟩
            rw [hz']
            simp [ho c z z' hck hc hz']
         simp only [this]
         split
         ·exact ⟨trivial, fun h => hmk (oSI h)⟩
         ·exact ⟨trivial, h2⟩
      ·rw [if_neg (by simp [hb]), if_neg (by simp [hb])]
       exact ⟨rfl, h2⟩
noncomputable def findL (g : Gr) : List Lp := withP (fnd0 g (ordN g)) (fnd0 g (ordN g)).length
theorem NLeS_set : ∀ {X Y : List (List D)} (k : Nat) (r : List D), NLeS X Y → (∀ y, Y[k]? = some y → NLeE r y) → NLeS (X.set k r) Y
 | [], Y, k, r, h, _ => by simpa using h
 | x :: X, Y, 0, r, h, hk => by
   simp only [NLeS] at h
   obtain ⟨y, ys, rfl, h1, h2⟩ := h
   exact ⟨y, ys, rfl, hk y rfl, h2⟩
 | x :: X, Y, k + 1, r, h, hk => by
   simp only [NLeS] at h
   obtain ⟨y, ys, rfl, h1, h2⟩ := h
   exact ⟨y, ys, rfl, h1, NLeS_set k r h2 fun z hz => hk z (by simpa using hz)⟩
theorem bodyL_max (g : Gr) (h : Nat) (hsm : g.b.length ≤ 400) : (nI (bodyL g h)).length ≤ maxLen := by
 have := bodyL_len g h
 simp
 unfold maxLen
 omega
theorem lps_set (l : List Lp) (k : Nat) (x : Lp) : (lps l).set k x.d = lps (l.set k x) := by simp [lps, List.map_set]
set_option maxRecDepth 100000 in
theorem lpfind_af (g : Gr) (hg : GrFit g) (hsm : g.b.length ≤ 400) : AF Tryz.prog 20 [grV g] (.d (.sl 4 (lps (findL g)))) := by
 have hgl : g.b.length ≤ maxLen := by unfold maxLen; omega
 have hB := lpback_af g hg hsm
 have hE := lpedges_af g hg (edgOk g) hsm
 have hO := dmOrder_af revOk g hg (edgOk g)
 have hOl := ordN_len (edgOk g) (g := g)
 have hOr : ∀ h ∈ ordN g, (dgN g).rc h = true := fun h hh => by show (ordN g).contains h = true; simpa using hh
 have hbody := fun h (hh : (dgN g).rc h = true) => lpbody_af g hg hsm h hh
 have hexit := fun h => lpexits_af g hsm h
 have hbm := fun h => bodyL_max g h hsm
 have hbl := bkL_len g g.b.length
 have hbl2 : g.b.length * g.b.length ≤ 400 * 400 := Nat.mul_le_mul hsm hsm
 have hFl := fun i => fnd0_len g ((ordN g).take i)
 have hFm := fun x (hx : x ∈ fnd0 g (ordN g)) => fnd0_mem hx
 have hft := fun (i h : Nat) (hh : (ordN g)[i]? = some h) => fnd0_take (g := g) hh
 have hisd : ∀ h, isHd g h = (bkL g g.b.length).any fun p => decide (p.2 = (h : Int)) := fun _ => rfl
 have hR : findL g = withP (fnd0 g (ordN g)) (fnd0 g (ordN g)).length := rfl
 have hbd : ∀ x ∈ fnd0 g (ordN g), x.bd.length ≤ maxLen := fun x hx => by
  obtain ⟨h, _, _, rfl⟩ := hFm x hx
  exact hbm h
 have hF0 : fnd0 g [] = [] := by simp [fnd0]
 generalize findL g = R at *
 generalize ordN g = O at *
 generalize bkL g g.b.length = bk at *
 generalize succT g = sT at *
 generalize isHd g = isH at *
 obtain ⟨F, hFd⟩ : ∃ F, fnd0 g = F := ⟨_, rfl⟩
 rw [hFd] at hFl hFm hft hR hbd hF0
 clear hFd
 have hOm : O.length ≤ maxLen := by omega
 subst hR
 refine af_of Tryz.func20 rfl (by kernel_rfl) (by simp [Tryz.ntmps20]) fun _ => ?_; simp [Tryz.f20, Ex.d_eq]
 refine aCall_of hB (by kernel_rfl) (by simp) ?_
 simp
 refine aCall_of hE (by kernel_rfl) (by simp) ?_
 simp
 refine aCall_of hO (by kernel_rfl) (by simp) ?_
 simp
 refine aLoop_st (fun i : Nat => [(1, .ptr 0 0 0 0), (3, .d (.sl 2 (prs bk))), (4, .d (.sl 1 (dataT sT))), (5, .own 1 (F (O.take i)).length 0 (F (O.take i)).length), (16, .d (.sl 1 (i64s (nI O)))), (17, aI .i64 O.length), (18, aI .i64 i)])
  (fun i => [gB g, lpB (F (O.take i)).length (dEls (lps (F (O.take i))))]) (fun i => i ≤ O.length) (fun i => O.length - i) 0
  ((Sub.ghost 0 58 4).trans (Sub.slot (s := 5) (c := .own 1 0 0 0) (by simp; exact VLe.nil_own (k := ⟨0, true, 58, 4, []⟩) (by simp) rfl))) 2 (by omega) (by simp [cln_gB, hF0, lps]) (by simp [hF0]) (by omega) ?_
 rintro i hi K hK
 have hFl1 := hFl i
 rcases Nat.lt_or_ge i O.length with hlt | hge
 case inl =>
  obtain ⟨h, hh⟩ : ∃ h, O[i]? = some h := ⟨_, gEG hlt⟩
  have hh2 := (gSI.1 hh).2
  have hst := hft i h hh
  have hhr := hOr h (gMO hh)
  have hbk : bk.length ≤ maxLen := by unfold maxLen; omega
  simp [hlt, hh, hh2]
  refine aCall_ofc (contains_p_ac (p := fun p => decide (p.2 = (h : Int))) (fs := []) (cs := [.ptr 2 0 0 0]) [gB g, lpB (F (O.take i)).length (dEls (lps (F (O.take i)))), cInt h] bk (by kernel_rfl) (fun a ha N => find1_ac _ _ h a N)) (by kernel_rfl) ?_
  rintro _ _ ⟨rfl, N, rfl⟩
  rw [← hisd]
  cases hd : isH h with
  | false =>
    rw [hd] at hst
    simp only [Bool.false_eq_true, if_false] at hst
    simp [succ_wrap hlt hOm]
    exact hK (i + 1) (by omega) (by omega) (Sub.refl _ _ _) 2 (by omega) (by simp [hst, cln_gB]) (by simp [hst])
  | true =>
    rw [hd] at hst
    simp only [if_true] at hst
    simp [cInt]
    refine aCall_of (hbody h hhr) (by kernel_rfl) (by simp) ?_
    simp
    refine adraw2 8 [] (by kernel_rfl) (by kernel_rfl) (by kernel_rfl) (by kernel_rfl) (by kernel_rfl) ?_
    simp [cInt]
    refine adC_of (hexit h) (by kernel_rfl) trivial (by simp) (by simp) ?_
    simp
    refine aRaw_app byt_54 ?_
    have hF4 : (F (O.take i)).length ≤ 400 := by
     have : (O.take i).length ≤ O.length := by simp; omega
     omega
    simp
    refine ⟨by unfold maxLen; omega, by omega, ?_⟩
    simp [succ_wrap hlt hOm]
    refine hK (i + 1) (by omega) (by omega) (Sub.refl _ _ _) 2 (by omega) ?_ (by simp [hst])
    have hrow : dEls (lps (F (O.take i) ++ [lpOf g h])) = dEls (lps (F (O.take i))) ++ [[aI .i64 h, .d (.sl 1 (i64s (nI (bodyL g h)))), .d (.sl 1 (i64s (nI (exitL g h)))), aI .i64 (-1)]] := by simp [dEls, lps, Lp.d, lpOf]
    simp [hst, cln_gB, hrow]
 obtain rfl : i = O.length := by omega
 rw [List.take_length] at hFl1 ⊢
 clear hK
 obtain ⟨L, hL⟩ : ∃ L, F O = L := ⟨_, rfl⟩
 rw [hL] at hFl1 hbd ⊢
 clear hFl hft hFm hL hF0
 obtain ⟨m, hm⟩ : ∃ m, L.length = m := ⟨_, rfl⟩
 have hm1 : m ≤ 400 := by omega
 have hmm : m ≤ maxLen := by omega
 simp [hm]
 refine aLoop_st (fun k : Nat => [(5, .own 1 m 0 m), (40, aI .i64 m), (41, aI .i64 k)]) (fun k => [gB g, lpB m (dEls (lps (withP L k)))]) (fun k => k ≤ m) (fun k => m - k) 0 (Sub.refl _ _ _) 2 (by omega) (by simp [cln_gB, withP_zero]) (by simp) (by omega) ?_
 rintro k hk K2 hK2
 rcases Nat.lt_or_ge k m with hklt | hkge
 case inr =>
  obtain rfl : k = m := by omega
  have ht : (lps (withP L k)).take k = lps (withP L k) := List.take_of_length_le (by simp [hm])
  simp [hm, ht]
 obtain ⟨x, hx⟩ : ∃ x, L[k]? = some x := ⟨_, gEG (by omega)⟩
 have hPl : (withP L k).length = m := by simp [hm]
 have hPk := withP_get hx
 have hrow := lps_get hPk
 have hps := withP_succ hx
 rw [hm] at hps
 obtain ⟨W, hW⟩ : ∃ W, withP L k = W := ⟨_, rfl⟩
 have hself := inL_self L (W.set k ⟨x.hd, [], x.ex, x.pa⟩) x.hd k (by rw [List.length_set, ← hW]; simp) (fun y hy => by
  rw [gSS (by rw [← hW]; simp; omega)] at hy
  obtain rfl := oSI hy
  rfl) (fun i a b hik ha hb => by
  rw [gSN (Ne.symm hik), ← hW] at hb
  simp only [withP, List.getElem?_mapIdx, ha, Option.map_some, Option.some.injEq] at hb
  subst hb
  split <;> rfl) m
 have hWb : ∀ y ∈ W, y.bd.length ≤ maxLen := fun y hy => by
  obtain ⟨i, hi⟩ := List.getElem?_of_mem hy
  rw [← hW] at hi
  simp only [withP, List.getElem?_mapIdx, Option.map_eq_some_iff] at hi
  obtain ⟨z, hz, rfl⟩ := hi
  have := hbd z (gMO hz)
  split <;> exact this
 rw [hW] at hPl hPk hrow hps ⊢
 clear hW
 have hnest := lpnest_af (W.set k ⟨x.hd, [], x.ex, x.pa⟩) x.hd (by simp; omega) (fun y hy => by
  rcases List.mem_or_eq_of_mem_set hy with h | rfl
  ·exact hWb y h
  ·simp)
 rw [List.length_set, hPl, hself.1] at hnest
 have hWl4 : ∀ y ∈ lps W, y.length = 4 := fun y hy => by
  simp only [lps, List.mem_map] at hy
  obtain ⟨z, _, rfl⟩ := hy
  rfl
 have hclone := cloneLp_ac (A := [gB g, lpB m (dEls (lps W))]) (b := 1) (ver := m) (X := lps W) rfl hWl4 (by simp; omega) (fun h => by
  have h1 : (lps W).length = 0 := by rw [h]; rfl
  rw [lps_len, hPl] at h1
  omega)
 rw [lps_len, hPl] at hclone
 have hg1 : (dEls (lps W))[k]? = some [aI .i64 x.hd, .d (.sl 1 (i64s x.bd)), .d (.sl 1 (i64s x.ex)), aI .i64 x.pa] := by simp [dEls, hrow]
 have hgk : k < m := hklt
 simp [hklt]
 refine aCall_ofc hclone (by kernel_rfl) ?_
 rintro _ _ ⟨rfl, rfl⟩
 simp [hklt, hg1]
 refine aCall_ofs hnest (by kernel_rfl) ?_ (by simp) ?_
 ·have hset : (dEls (lps W)).set k [aI .i64 x.hd, .d (.v (.slice none 0 0)), .d (.sl 1 (i64s x.ex)), aI .i64 x.pa] = dEls ((lps W).set k [.v (.int .i64 x.hd), .v (.slice none 0 0), .sl 1 (i64s x.ex), .v (.int .i64 x.pa)]) := by simp [dEls, List.map_set]
  rw [hset]
  have ht : List.take m (dEls ((lps W).set k [.v (.int .i64 x.hd), .v (.slice none 0 0), .sl 1 (i64s x.ex), .v (.int .i64 x.pa)])) = dEls ((lps W).set k [.v (.int .i64 x.hd), .v (.slice none 0 0), .sl 1 (i64s x.ex), .v (.int .i64 x.pa)]) := List.take_of_length_le (by simp [hPl])
  have hn : NLeS ((lps W).set k [.v (.int .i64 x.hd), .v (.slice none 0 0), .sl 1 (i64s x.ex), .v (.int .i64 x.pa)]) (lps (W.set k ⟨x.hd, [], x.ex, x.pa⟩)) := by
   have h1 := NLeS_set (X := lps (W.set k ⟨x.hd, [], x.ex, x.pa⟩)) k [.v (.int .i64 x.hd), .v (.slice none 0 0), .sl 1 (i64s x.ex), .v (.int .i64 x.pa)] (NLeS.refl _) fun y hy => by
    rw [← lps_set, gSS (by simp [hPl]; omega)] at hy
    obtain rfl := oSI hy
    exact ⟨_, _, rfl, rfl, _, _, rfl, ⟨rfl, rfl⟩, _, _, rfl, ⟨rfl, NLeS.refl _⟩, _, _, rfl, rfl, rfl⟩
   rwa [← lps_set, List.set_set, lps_set] at h1
  simp [ht, hPl]
  exact hn
 ·simp [hklt, hg1]
  have hset : (dEls (lps W)).set k [aI .i64 x.hd, .d (.sl 1 (i64s x.bd)), .d (.sl 1 (i64s x.ex)), aI .i64 (bV (inL L x.hd k m))] = dEls (lps (W.set k ⟨x.hd, x.bd, x.ex, bV (inL L x.hd k m)⟩)) := by
   rw [← lps_set]
   simp [dEls, List.map_set, Lp.d]
  simp [hset, succ_wrap hklt hmm]
  exact hK2 (k + 1) (by omega) (by omega) (Sub.refl _ _ _) 2 (by omega) (by simp [hps, cln_gB]) (by simp)
theorem ordN_get {g : Gr} {i : Nat} (h : i < (ordN g).length) : ∃ a, (ordN g)[i]? = some a ∧ a ∈ ordN g ∧ a < g.b.length := by
 have ha := gEG h
 exact ⟨_, ha, gMO ha, ord_lt (gMO ha)⟩
def swp (f t n : Int) : Int := if n = f then t else n
def rdS (s : St) (f t : Int) : St := { s with nx := if (s.op = 6 ∨ s.op = 7) ∧ s.nx = f then t else s.nx, el := if s.op = 7 ∧ s.el = f then t else s.el, cs := s.cs.map (swp f t) }
abbrev rowO (s : St) (c : Nat) : List AV := [aI .i64 s.op, aI .i64 s.va, aI .i64 s.wd, aI .i64 s.nx, aI .i64 s.el, aI .u32 s.tg, .d (.sl 5 (Ex.ds s.e)), .own c 1 0 s.cs.length]
abbrev sBk (L : List St) (s : St) (c : Nat) : Blk := ⟨1, true, 68, 8, dEls (sts L) ++ [rowO s c]⟩
def hp2 (A : AHeap) (x c : Nat) (S C : Blk) : AHeap := (A.set x S).set c C
theorem hp2_len (A : AHeap) (x c : Nat) (S C : Blk) : (hp2 A x c S C).length = A.length := by simp [hp2]
theorem hp2_x {A : AHeap} {x c : Nat} (hx : x < A.length) (hxc : x ≠ c) (S C : Blk) (N : AHeap) : (hp2 A x c S C ++ N)[x]? = some S := by
 rw [gAL (by rw [hp2_len]; exact hx), hp2, gSN (Ne.symm hxc), gSS hx]
theorem hp2_c {A : AHeap} {x c : Nat} (hc : c < A.length) (S C : Blk) (N : AHeap) : (hp2 A x c S C ++ N)[c]? = some C := by
 rw [gAL (by rw [hp2_len]; exact hc), hp2, gSS (by simpa using hc)]
theorem hp2_setx {A : AHeap} {x c : Nat} (hx : x < A.length) (hxc : x ≠ c) (S C S' : Blk) (N : AHeap) : (hp2 A x c S C ++ N).set x S' = hp2 A x c S' C ++ N := by
 rw [List.set_append_left _ _ (by rw [hp2_len]; exact hx), hp2, hp2, List.set_comm _ _ hxc.symm, List.set_set]
theorem hp2_setc {A : AHeap} {x c : Nat} (hc : c < A.length) (S C C' : Blk) (N : AHeap) : (hp2 A x c S C ++ N).set c C' = hp2 A x c S C' ++ N := by
 rw [List.set_append_left _ _ (by rw [hp2_len]; exact hc), hp2, hp2, List.set_set]
theorem hp2_end (A : AHeap) (x c : Nat) (S C K : Blk) : (hp2 A x c S C ++ [K])[A.length]? = some K := by
 rw [List.getElem?_append_right (by rw [hp2_len]; exact Nat.le_refl _), hp2_len]
 simp
theorem hp2_same {A : AHeap} {x c : Nat} {S C : Blk} (h1 : A[x]? = some S) (h2 : A[c]? = some C) : hp2 A x c S C = A := by
 rw [hp2, set_same h1, set_same h2]
set_option maxRecDepth 100000 in
theorem lpredir_ac (ad : Int) (L : List St) (s : St) (x c : Nat) (f t : Int) (A : AHeap) (hL : L.length ≤ 1000000) (hcl : s.cs.length ≤ 2000000) (hop : s.op ≠ 8 → s.cs = []) (hxc : x ≠ c) (h1 : A[x]? = some (sBk L s c)) (h2 : A[c]? = some (nbk 1 s.cs)) :
  AC Tryz.prog 24 [.agg [aI .u32 ad, .own x 1 0 (L.length + 1)], aI .i64 f, aI .i64 t] A (fun r A' => r = .tup [] ∧ A' = hp2 A x c (sBk L (rdS s f t) c) (nbk 1 (rdS s f t).cs) ++ [⟨0, true, 48, 2, [[aI .u32 ad, .own x 1 0 (L.length + 1)]]⟩]) := by
 have hx := (gSI.1 h1).1
 have hc := (gSI.1 h2).1
 have g1 := fun S C N => hp2_x hx hxc S C N
 have g2 := fun S C N => hp2_c (x := x) hc S C N
 have g3 := fun S C S' N => hp2_setx hx hxc S C S' N
 have g4 := fun S C C' N => hp2_setc (x := x) hc S C C' N
 have g5 := fun S C K => hp2_end A x c S C K
 have hA := hp2_same h1 h2
 have w1 : IntKind.i64.wrap (L.length : Int) = (L.length : Int) := i64w (n := (L.length : Int)) (by omega)
 have w2 : (L.length : Int) < (L.length : Int) + 1 := by omega
 have hl1 : ∀ r : List AV, (dEls (sts L) ++ [r])[L.length]? = some r := fun r => by rw [List.getElem?_append_right (by simp)]; simp
 have hl2 : ∀ r r' : List AV, (dEls (sts L) ++ [r]).set L.length r' = dEls (sts L) ++ [r'] := fun r r' => by rw [List.set_append_right _ _ (by simp)]; simp
 have hcs : s.op ≠ 8 → s.cs.map (swp f t) = s.cs := fun h => by rw [hop h]; rfl
 suffices h : AC Tryz.prog 24 [.agg [aI .u32 ad, .own x 1 0 (L.length + 1)], aI .i64 f, aI .i64 t] (hp2 A x c (sBk L s c) (nbk 1 s.cs)) (fun r A' => r = .tup [] ∧ A' = hp2 A x c (sBk L (rdS s f t) c) (nbk 1 (rdS s f t).cs) ++ [⟨0, true, 48, 2, [[aI .u32 ad, .own x 1 0 (L.length + 1)]]⟩]) by rwa [hA] at h
 refine ac_of Tryz.func24 rfl (by kernel_rfl) (by simp [Tryz.ntmps24]) fun hb => ?_
 clear hb
 simp [Tryz.f24, g1, g2, g3, g4, g5, hp2_len, w1, w2, hl1, hl2]
 by_cases h6 : s.op = 6
 ·have c6 := hcs (by omega)
  by_cases hn : s.nx = f
  ·simp [h6, hn, g1, g2, g3, g4, g5, hp2_len, w1, w2, hl1, hl2, rdS, c6]
  ·simp [h6, hn, g1, g2, g3, g4, g5, hp2_len, w1, w2, hl1, hl2, rdS, c6]
   rw [← h6]
 by_cases h7 : s.op = 7
 ·have c6 := hcs (by omega)
  by_cases hn : s.nx = f
  ·by_cases he : s.el = f
   ·simp [h7, hn, he, g1, g2, g3, g4, g5, hp2_len, w1, w2, hl1, hl2, rdS, c6]
   ·simp [h7, hn, he, g1, g2, g3, g4, g5, hp2_len, w1, w2, hl1, hl2, rdS, c6]
  ·by_cases he : s.el = f
   ·simp [h7, hn, he, g1, g2, g3, g4, g5, hp2_len, w1, w2, hl1, hl2, rdS, c6]
   ·simp [h7, hn, he, g1, g2, g3, g4, g5, hp2_len, w1, w2, hl1, hl2, rdS, c6]
    rw [← h7]
 by_cases h8 : s.op = 8
 case neg =>
  have c6 := hcs h8
  simp [h6, h7, h8, g1, g2, g3, g4, g5, hp2_len, w1, w2, hl1, hl2, rdS, c6]
 simp [h6, h7, h8, g1, g2, g3, g4, g5, hp2_len, w1, w2, hl1, hl2]
 have hm : s.cs.length ≤ maxLen := by unfold maxLen; omega
 obtain ⟨M, hM⟩ : ∃ M : Nat → List Int, M = fun i => (s.cs.take i).map (swp f t) ++ s.cs.drop i := ⟨_, rfl⟩
 have hMl : ∀ i, i ≤ s.cs.length → (M i).length = s.cs.length := fun i hi => by rw [hM]; simp; omega
 have hMg : ∀ i n, s.cs[i]? = some n → (M i)[i]? = some n := fun i n hn => by
  have hi := (gSI.1 hn).1
  rw [hM]
  simp only
  rw [List.getElem?_append_right (by simp; omega)]
  simp [Nat.min_eq_left (Nat.le_of_lt hi), hn]
 have hMs : ∀ i n, s.cs[i]? = some n → (M i).set i (swp f t n) = M (i + 1) := fun i n hn => by
  have hi := (gSI.1 hn).1
  have hd : s.cs.drop i = n :: s.cs.drop (i + 1) := by
   rw [List.drop_eq_getElem_cons hi, (gSI.1 hn).2]
  rw [hM]
  simp only
  rw [hd, List.set_append_right _ _ (by simp; omega)]
  simp [Nat.min_eq_left (Nat.le_of_lt hi), List.take_add_one, hn]
 have hM0 : M 0 = s.cs := by rw [hM]; simp
 have hMe : M s.cs.length = s.cs.map (swp f t) := by rw [hM]; simp
 clear hM
 refine aLoop_of (α := Nat) (fun i e A' => i ≤ s.cs.length ∧ A' = hp2 A x c (sBk L s c) (nbk 1 (M i)) ++ [⟨0, true, 48, 2, [[aI .u32 ad, .own x 1 0 (L.length + 1)]]⟩] ∧ e 1 = aI .i64 f ∧ e 2 = aI .i64 t ∧ e 6 = .ptr x 1 L.length 0 ∧ e 55 = aI .i64 s.cs.length ∧ e 56 = aI .i64 i) (fun i => s.cs.length - i) 0 (Sub.refl _ _ _)
  ⟨by omega, by rw [hM0], by simp, by simp, by simp, by simp, by simp⟩ ?_
 rintro i e A' ⟨hi, rfl, e1, e2, e6, e55, e56⟩ K hK
 have hMi := hMl i hi
 rcases Nat.lt_or_ge i s.cs.length with hlt | hge
 case inr =>
  obtain rfl : i = s.cs.length := by omega
  have hr : rdS s f t = ⟨8, s.va, s.wd, s.nx, s.el, s.tg, s.e, s.cs.map (swp f t)⟩ := by simp [rdS, h8]
  simp [e55, e56, hr, hMe]
  have hs : sBk L ⟨8, s.va, s.wd, s.nx, s.el, s.tg, s.e, s.cs.map (swp f t)⟩ c = sBk L s c := by simp [h8]
  rw [hs]
 obtain ⟨n, hn⟩ : ∃ n, s.cs[i]? = some n := ⟨_, gEG hlt⟩
 have hn1 := hMg i n hn
 have hn2 := (gSI.1 hn1).2
 have hn3 := hMs i n hn
 have hn4 : (dEls (i64s (M i))).set i [aI .i64 (swp f t n)] = dEls (i64s (M (i + 1))) := by rw [← hn3]; simp [dEls, i64s, List.map_set]
 simp [e1, e2, e6, e55, e56, hlt, g1, g2, g3, g4, g5, hp2_len, w1, w2, hl1, hl2, hMi, hn1, hn2]
 by_cases hnf : n = f
 ·have hsw : swp f t n = t := if_pos hnf
  rw [hsw] at hn4
  simp [hnf, e1, e2, e6, e55, e56, hlt, g1, g2, g3, g4, g5, hp2_len, w1, w2, hl1, hl2, hMi, hn1, hn2, hn4, succ_wrap hlt hm]
  exact hK (i + 1) _ _ _ _ (Sub.refl _ _ _) ⟨by omega, rfl, by simp [e1], by simp [e2], by simp [e6], by simp [e55], by simp⟩ (by omega)
 ·have hsw : swp f t n = n := if_neg hnf
  have hMn : M (i + 1) = M i := by rw [← hn3, hsw]; exact set_same hn1
  simp [hnf, e1, e2, e6, e55, e56, hlt, succ_wrap hlt hm]
  exact hK (i + 1) _ _ _ _ (Sub.refl _ _ _) ⟨by omega, by rw [hMn], by simp [e1], by simp [e2], by simp [e6], by simp [e55], by simp⟩ (by omega)
theorem lpcopied_af : ∀ (e : Ex), e.nodes ≤ 1000000000 → AF Tryz.prog 57 [exA e] (exA e) := by
 intro x
 induction x using Ex.ind with
 | h x ih =>
   intro hn
   have hlen := x.nodes_len
   have n1 : x.l.length ≤ maxLen := by unfold maxLen; omega
   refine af_of Tryz.func57 rfl (by kernel_rfl) (by simp [Tryz.ntmps57]) fun _ => ?_
   simp [Tryz.f57]
   refine aCall_ofc (clone_ac _ (Ex.ds x.l) (by simp; omega)) (by simp) ?_
   rintro _ _ ⟨rfl, rfl⟩
   simp
   refine aLoop_of (α := Nat) (fun i e A => i ≤ x.l.length ∧ A = [⟨0, true, 94, 5, [[aI .i64 x.op, aI .u32 x.n, aI .i64 x.v, aI .i64 x.wd, .own 2 1 0 x.l.length]]⟩, ⟨0, true, 94, 5, [[aI .i64 0, aI .u32 0, aI .i64 0, aI .i64 0, .d (.v (.slice none 0 0))]]⟩, ⟨1, true, 94, 5, dEls (Ex.ds x.l)⟩] ∧
    e 11 = aI .i64 i ∧ e 10 = aI .i64 x.l.length ∧ e 1 = .ptr 0 0 0 0 ∧ e 2 = .ptr 1 0 0 0) (fun i => x.l.length - i) 0 (Sub.refl _ _ _) ⟨by omega, by simp, by simp, by simp, by simp, by simp⟩ ?_
   rintro i e A ⟨hi, rfl, e11, e10, e1, e2⟩ K hK
   simp [e11, e10]
   refine aCond_split (fun hlt => ?_) (fun hge => ?_)
   ·simp at hlt
    have hi1 := gEG hlt
    simp
    refine adraw [] (by kernel_rfl) (by kernel_rfl) (by kernel_rfl) (by kernel_rfl) ?_
    simp [e11, e1, hlt, hi1, Ex.d_eq]
    refine adC_of (ih _ (gMO hi1) (by have := Ex.nodes_mem (gMO hi1); omega)) (by simp) trivial (by simp) (by simp) ?_
    simp [hlt, Ex.d_eq, e11, succ_wrap hlt n1]
    exact hK (i + 1) _ _ _ _ (Sub.refl _ _ _) ⟨by omega, by simp; exact set_same (by simp [hlt, Ex.d_eq]), by simp, by simp [e10], by simp [e1], by simp [e2]⟩ (by omega)
   ·simp at hge
    simp [e1, e2]
theorem apA {α : Type} (A M : List α) (k : Nat) : (A ++ M)[A.length + k]? = M[k]? := by rw [List.getElem?_append_right (by omega), Nat.add_sub_cancel_left]
theorem apA0 {α : Type} (A M : List α) : (A ++ M)[A.length]? = M[0]? := apA A M 0
theorem apS {α : Type} (A M : List α) (k : Nat) (v : α) : (A ++ M).set (A.length + k) v = A ++ M.set k v := by rw [List.set_append_right _ _ (by omega), Nat.add_sub_cancel_left]
theorem apS0 {α : Type} (A M : List α) (v : α) : (A ++ M).set A.length v = A ++ M.set 0 v := apS A M 0 v
abbrev fzB (k : Blk) : Blk := ⟨k.ver, false, k.ty, k.sz, k.els⟩
theorem frz_set {X : AHeap} {q : Nat} {k : Blk} (h : X[q]? = some k) : frz [q] X = X.set q (fzB k) := by
 have hq := (gSI.1 h).1
 apply List.ext_getElem?
 intro j
 simp only [frz, List.getElem?_mapIdx, List.getElem?_set]
 by_cases hj : q = j
 ·subst hj
  rw [h]
  simp [hq]
 ·have : ¬ j = q := fun e => hj e.symm
  simp [hj, this]
abbrev rowV (s : St) (cv : AV) : List AV := [aI .i64 s.op, aI .i64 s.va, aI .i64 s.wd, aI .i64 s.nx, aI .i64 s.el, aI .u32 s.tg, .d (.sl 5 (Ex.ds s.e)), cv]
abbrev rowE (s : St) (ev cv : AV) : List AV := [aI .i64 s.op, aI .i64 s.va, aI .i64 s.wd, aI .i64 s.nx, aI .i64 s.el, aI .u32 s.tg, ev, cv]
def ClnOk (A : AHeap) (cv : AV) (cs : List Int) : Prop := ∀ N, AC Tryz.prog 58 [cv] (A ++ N) (fun r A' => r = .own (A ++ N).length 1 0 cs.length ∧ A' = A ++ N ++ [nbk 1 cs])
def ClnS (A : AHeap) (sv : AV) (rows : List (List AV)) : Prop := ∀ N, AC Tryz.prog 55 [sv] (A ++ N) (fun r A' => r = .own (A ++ N).length 1 0 rows.length ∧ A' = A ++ N ++ [⟨1, true, 68, 8, rows⟩])
abbrev zBl : Blk := ⟨0, true, 48, 2, [[aI .u32 0, .d (.v (.slice none 0 0))]]⟩
abbrev bxB (ad : Int) (sv : AV) : Blk := ⟨0, true, 48, 2, [[aI .u32 ad, sv]]⟩
abbrev bxX (y : Ex) : Blk := ⟨0, true, 94, 5, [[aI .i64 y.op, aI .u32 y.n, aI .i64 y.v, aI .i64 y.wd, .d (.sl 5 (Ex.ds y.l))]]⟩
def piece (x : AV) (w : Bool) (q : St) : List Blk := ⟨0, true, 68, 8, [rowV q x]⟩ :: ⟨1, false, 94, 5, dEls (Ex.ds q.e)⟩ :: (q.e.map bxX ++ [⟨1, w, 3, 1, dEls (i64s q.cs)⟩])
def pcD (L : List St) : List Blk := L.flatMap fun q => piece (.d (.sl 1 (i64s q.cs))) false q
theorem pcD_take {L : List St} {i : Nat} {q : St} (h : L[i]? = some q) : pcD (L.take (i + 1)) = pcD (L.take i) ++ piece (.d (.sl 1 (i64s q.cs))) false q := by
 rw [List.take_add_one, h]
 simp [pcD]
set_option maxRecDepth 100000 in
theorem lpown_ac (ad : Int) (L : List St) (s : St) (sv cv : AV) (A : AHeap) (hL : L.length ≤ 1000000) (he : ∀ q ∈ L ++ [s], q.e.length ≤ 1000000 ∧ (∀ y ∈ q.e, y.nodes ≤ 1000000000) ∧ q.cs.length ≤ 2000000) (hS : ClnS A sv (dEls (sts L) ++ [rowV s cv])) (hC : ClnOk A cv s.cs) :
  AC Tryz.prog 22 [.agg [aI .u32 ad, sv]] A (fun r A' => r = .agg [aI .u32 ad, .own (A.length + 2) 1 0 (L.length + 1)] ∧ A' = A ++ bxB ad (.own (A.length + 2) 1 0 (L.length + 1)) :: bxB ad (.own (A.length + 2) 1 0 (L.length + 1)) :: sBk L s (A.length + ((pcD L).length + (s.e.length + 1 + 1) + 1 + 1 + 1)) :: (pcD L ++ piece cv true s)) := by
 refine ac_of Tryz.func22 rfl (by kernel_rfl) (by simp [Tryz.ntmps22]) fun hb => ?_
 clear hb
 simp [Tryz.f22]
 refine aCall_ofc (hS _) (by simp) ?_
 rintro _ _ ⟨rfl, rfl⟩
 simp [apA, apA0, apS, apS0]
 refine aLoop_of (α := Nat) (fun i e H => i ≤ L.length + 1 ∧ (∃ S N, H = A ++ bxB ad (.own (A.length + 2) 1 0 (L.length + 1)) :: zBl :: S :: N ∧ (i ≤ L.length → S = ⟨1, true, 68, 8, dEls (sts L) ++ [rowV s cv]⟩ ∧ N = pcD (L.take i)) ∧
   (i = L.length + 1 → S = sBk L s (A.length + ((pcD L).length + (s.e.length + 1 + 1) + 1 + 1 + 1)) ∧ N = pcD L ++ piece cv true s)) ∧
  e 1 = .ptr A.length 0 0 0 ∧ e 2 = .ptr (A.length + 1) 0 0 0 ∧ e 12 = .own (A.length + 2) 1 0 (L.length + 1) ∧ e 13 = aI .i64 ((L.length + 1 : Nat) : Int) ∧ e 14 = aI .i64 i) (fun i => L.length + 1 - i) 0 (Sub.refl _ _ _)
  ⟨by omega, ⟨_, [], rfl, fun _ => ⟨rfl, by simp [pcD]⟩, fun h => by omega⟩, by simp, by simp, by simp, by simp, by simp⟩ ?_
 rintro i e H ⟨hi, ⟨S, N, rfl, hS1, hS2⟩, e1, e2, e12, e13, e14⟩ K hK
 rcases Nat.lt_or_ge i (L.length + 1) with hlt | hge
 case inr =>
  obtain rfl : i = L.length + 1 := by omega
  obtain ⟨rfl, rfl⟩ := hS2 rfl
  simp [e1, e2, e13, e14, apA, apA0, apS, apS0]
 obtain ⟨rfl, hNe⟩ := hS1 (by omega)
 clear hS1 hS2
 obtain ⟨q, x, hrow, hq, hcl, hx1, hx2⟩ : ∃ q x, (dEls (sts L) ++ [rowV s cv])[i]? = some (rowV q x) ∧ q ∈ L ++ [s] ∧ ClnOk A x q.cs ∧ (i < L.length → x = .d (.sl 1 (i64s q.cs)) ∧ L[i]? = some q) ∧ (i = L.length → q = s ∧ x = cv) := by
  rcases Nat.lt_or_ge i L.length with h | h
  ·obtain ⟨q, hq⟩ : ∃ q, L[i]? = some q := ⟨_, gEG h⟩
   refine ⟨q, .d (.sl 1 (i64s q.cs)), ?_, by simp [gMO hq], fun N => ?_, fun _ => ⟨rfl, hq⟩, fun h2 => by omega⟩
   ·rw [gAL (by simpa using h)]
    simp [dEls, sts, hq, St.d_eq]
   ·have hm := (he q (by simp [gMO hq])).2.2
    have := clone_in_ac (A ++ N) (i64s q.cs) (by simp; omega)
    rwa [i64s_len] at this
  ·obtain rfl : i = L.length := by omega
   refine ⟨s, cv, ?_, by simp, hC, fun h2 => by omega, fun _ => ⟨rfl, rfl⟩⟩
   rw [List.getElem?_append_right (by simp)]
   simp
 have hil : i < (dEls (sts L) ++ [rowV s cv]).length := (gSI.1 hrow).1
 have hrow2 := (gSI.1 hrow).2
 have hlt2 : (i : Int) < (L.length : Int) + 1 := by omega
 simp [e1, e2, e12, e13, e14, hlt, hlt2, apA, apA0, apS, apS0, hrow, hrow2]
 have hqm := he q hq
 have hel : q.e.length ≤ maxLen := by unfold maxLen; omega
 refine adrawR [.ptr A.length 0 0 1, .own (A.length + 2) 1 0 (L.length + 1), aI .i64 i, .ptr (A.length + (N.length + 1 + 1 + 1)) 0 0 6, .d (.sl 5 (Ex.ds q.e)), .own (A.length + (N.length + 1 + 1 + 1 + 1)) 1 0 q.e.length, .ptr (A.length + 2) 1 i 0, .ptr (A.length + 2) 1 i 6, .any]
  [(0, A ++ bxB ad (.own (A.length + 2) 1 0 (L.length + 1)) :: zBl :: ⟨1, true, 68, 8, dEls (sts L) ++ [rowV s cv]⟩ :: (N ++ [⟨0, true, 68, 8, [rowV q x]⟩])),
   (32, A ++ bxB ad (.own (A.length + 2) 1 0 (L.length + 1)) :: zBl :: ⟨1, true, 68, 8, dEls (sts L) ++ [rowV s cv]⟩ :: (N ++ [⟨0, true, 68, 8, [rowV q x]⟩, ⟨1, true, 94, 5, dEls (Ex.ds q.e)⟩])),
   (288, A ++ bxB ad (.own (A.length + 2) 1 0 (L.length + 1)) :: zBl :: ⟨1, true, 68, 8, (dEls (sts L) ++ [rowV s cv]).set i (rowE q (.own (A.length + (N.length + 1 + 1 + 1 + 1)) 1 0 q.e.length) x)⟩ :: (N ++ [⟨0, true, 68, 8, [rowV q x]⟩, ⟨1, true, 94, 5, dEls (Ex.ds q.e)⟩]))]
  (by kernel_rfl) (by kernel_rfl) rfl rfl ?_ ?_
 ·simp only [rowsR, List.mem_cons, List.not_mem_nil, or_false, forall_eq_or_imp, forall_eq]
  refine ⟨⟨?_, ?_, nmy (by kernel_rfl)⟩, ⟨?_, ?_, nmy (by kernel_rfl)⟩, ⟨?_, ?_, nmy (by kernel_rfl)⟩, ⟨?_, nmy (by kernel_rfl), nmy (by kernel_rfl)⟩, ⟨?_, nmy (by kernel_rfl), nmy (by kernel_rfl)⟩, ⟨?_, nmy (by kernel_rfl), nmy (by kernel_rfl)⟩, ⟨nmy (by kernel_rfl), ?_, nmy (by kernel_rfl)⟩, ⟨nmy (by kernel_rfl), ?_, nmy (by kernel_rfl)⟩, ⟨nmy (by kernel_rfl), ?_, nmy (by kernel_rfl)⟩, trivial⟩
  all_goals
   intro hmay
   clear hmay
   intro e' K' h A3 hA hk
   simp only [Op.operands, Call.operands] at h
   simp [still, heapM, putR, dvA] at h hA hk
   subst hA
   simp [h, e1, apA, apA0, apS, apS0, hrow, hrow2, hlt2]
   try exact hk
  refine aCall_ofc (clone_ac _ (Ex.ds q.e) (by simp; omega)) (by simp) ?_
  rintro _ _ ⟨rfl, rfl⟩
  simpa using hk
 simp [putR, apA, apA0, apS, apS0]
 have hs1 : ∀ r : List AV, ((dEls (sts L) ++ [rowV s cv]).set i r)[i]? = some r := fun r => gSS hil
 refine aLoop_of (α := Nat) (fun j e H => j ≤ q.e.length ∧ (∃ M, M = (q.e.take j).map bxX ∧ H = A ++ bxB ad (.own (A.length + 2) 1 0 (L.length + 1)) :: zBl :: ⟨1, true, 68, 8, (dEls (sts L) ++ [rowV s cv]).set i (rowE q (.own (A.length + (N.length + 1 + 1 + 1 + 1)) 1 0 q.e.length) x)⟩ :: (N ++ ⟨0, true, 68, 8, [rowV q x]⟩ :: ⟨1, true, 94, 5, dEls (Ex.ds q.e)⟩ :: M)) ∧
  e 1 = .ptr A.length 0 0 0 ∧ e 2 = .ptr (A.length + 1) 0 0 0 ∧ e 3 = aI .i64 i ∧ e 4 = .ptr (A.length + (N.length + 1 + 1 + 1)) 0 0 0 ∧ e 12 = .own (A.length + 2) 1 0 (L.length + 1) ∧ e 13 = aI .i64 ((L.length + 1 : Nat) : Int) ∧ e 14 = aI .i64 i ∧ e 28 = .d (.sl 5 (Ex.ds q.e)) ∧ e 29 = aI .i64 q.e.length ∧ e 30 = aI .i64 j) (fun j => q.e.length - j) 0 (Sub.refl _ _ _)
  ⟨by omega, ⟨[], rfl, rfl⟩, by simp [e1], by simp [e2], by simp, by simp, by simp [e12], by simp [e13], by simp [e14], by simp, by simp, by simp⟩ ?_
 clear e1 e2 e12 e13 e14 e
 rintro j e H ⟨hj, ⟨M, hMe, rfl⟩, e1, e2, e3, e4, e12, e13, e14, e28, e29, e30⟩ K2 hK2
 rcases Nat.lt_or_ge j q.e.length with hjlt | hjge
 case inl =>
  obtain ⟨y, hy⟩ : ∃ y, q.e[j]? = some y := ⟨_, gEG hjlt⟩
  have hy2 := (gSI.1 hy).2
  have hyn := hqm.2.1 y (gMO hy)
  simp [e1, e2, e3, e4, e12, e13, e14, e28, e29, e30, hjlt, hy, hy2, Ex.d_eq, apA, apA0, apS, apS0]
  refine adraw [] (by kernel_rfl) (by kernel_rfl) (by kernel_rfl) (by kernel_rfl) ?_
  simp [e1, e2, e3, e4, e12, e13, e14, e28, e29, e30, hjlt, hy, hy2, hlt2, hs1, hrow, hrow2, Ex.d_eq, apA, apA0, apS, apS0]
  refine adC_of (lpcopied_af y hyn) (by simp) trivial (by simp) (by simp [Ex.d_eq]) ?_
  have hset : (dEls (Ex.ds q.e)).set j [aI .i64 y.op, aI .u32 y.n, aI .i64 y.v, aI .i64 y.wd, .d (.sl 5 (Ex.ds y.l))] = dEls (Ex.ds q.e) := set_same (by simp [hjlt, hy2, Ex.d_eq])
  simp [hjlt, hset, e30, succ_wrap hjlt hel, Ex.d_eq, apA, apA0, apS, apS0]
  refine hK2 (j + 1) _ _ _ _ (Sub.refl _ _ _) ⟨by omega, ⟨M ++ [bxX y], by rw [hMe, List.take_add_one, hy]; simp, ?_⟩, by simp [e1], by simp [e2], by simp [e3], by simp [e4], by simp [e12], by simp [e13], by simp [e14], by simp [e28], by simp [e29], by simp⟩ (by omega)
  simp
 obtain rfl : j = q.e.length := by omega
 simp [e1, e2, e3, e4, e12, e13, e14, e28, e29, e30]
 refine adrawR [.ptr A.length 0 0 1, .own (A.length + 2) 1 0 (L.length + 1), aI .i64 i, .ptr (A.length + (N.length + 1 + 1 + 1)) 0 0 7, x, .own (A.length + (N.length + (M.length + 1 + 1) + 1 + 1 + 1)) 1 0 q.cs.length, .ptr (A.length + 2) 1 i 0, .ptr (A.length + 2) 1 i 7, .any]
  [(0, A ++ bxB ad (.own (A.length + 2) 1 0 (L.length + 1)) :: zBl :: ⟨1, true, 68, 8, (dEls (sts L) ++ [rowV s cv]).set i (rowE q (.own (A.length + (N.length + 1 + 1 + 1 + 1)) 1 0 q.e.length) x)⟩ :: (N ++ ⟨0, true, 68, 8, [rowV q x]⟩ :: ⟨1, true, 94, 5, dEls (Ex.ds q.e)⟩ :: M)),
   (32, A ++ bxB ad (.own (A.length + 2) 1 0 (L.length + 1)) :: zBl :: ⟨1, true, 68, 8, (dEls (sts L) ++ [rowV s cv]).set i (rowE q (.own (A.length + (N.length + 1 + 1 + 1 + 1)) 1 0 q.e.length) x)⟩ :: (N ++ ⟨0, true, 68, 8, [rowV q x]⟩ :: ⟨1, true, 94, 5, dEls (Ex.ds q.e)⟩ :: (M ++ [nbk 1 q.cs]))),
   (288, A ++ bxB ad (.own (A.length + 2) 1 0 (L.length + 1)) :: zBl :: ⟨1, true, 68, 8, (dEls (sts L) ++ [rowV s cv]).set i (rowE q (.own (A.length + (N.length + 1 + 1 + 1 + 1)) 1 0 q.e.length) (.own (A.length + (N.length + (M.length + 1 + 1) + 1 + 1 + 1)) 1 0 q.cs.length))⟩ :: (N ++ ⟨0, true, 68, 8, [rowV q x]⟩ :: ⟨1, true, 94, 5, dEls (Ex.ds q.e)⟩ :: (M ++ [nbk 1 q.cs])))]
  (by kernel_rfl) (by kernel_rfl) rfl rfl ?_ ?_
 ·simp only [rowsR, List.mem_cons, List.not_mem_nil, or_false, forall_eq_or_imp, forall_eq]
  refine ⟨⟨?_, ?_, nmy (by kernel_rfl)⟩, ⟨?_, ?_, nmy (by kernel_rfl)⟩, ⟨?_, ?_, nmy (by kernel_rfl)⟩, ⟨?_, nmy (by kernel_rfl), nmy (by kernel_rfl)⟩, ⟨?_, nmy (by kernel_rfl), nmy (by kernel_rfl)⟩, ⟨?_, nmy (by kernel_rfl), nmy (by kernel_rfl)⟩, ⟨nmy (by kernel_rfl), ?_, nmy (by kernel_rfl)⟩, ⟨nmy (by kernel_rfl), ?_, nmy (by kernel_rfl)⟩, ⟨nmy (by kernel_rfl), ?_, nmy (by kernel_rfl)⟩, trivial⟩
  all_goals
   intro hmay
   clear hmay
   intro e' K' h A3 hA hk
   simp only [Op.operands, Call.operands] at h
   simp [still, heapM, putR, dvA] at h hA hk
   subst hA
   simp [h, e1, e3, e4, apA, apA0, apS, apS0, hs1, hrow, hrow2, hlt2]
   try exact hk
  refine aCall_ofc (by have := hcl (bxB ad (.own (A.length + 2) 1 0 (L.length + 1)) :: zBl :: ⟨1, true, 68, 8, (dEls (sts L) ++ [rowV s cv]).set i (rowE q (.own (A.length + (N.length + 1 + 1 + 1 + 1)) 1 0 q.e.length) x)⟩ :: (N ++ ⟨0, true, 68, 8, [rowV q x]⟩ :: ⟨1, true, 94, 5, dEls (Ex.ds q.e)⟩ :: M)); simpa using this) (by simp) ?_
  rintro _ _ ⟨rfl, rfl⟩
  simpa using hk
 simp [putR, e14, apA, apA0, apS, apS0]
 have hiw : IntKind.i64.wrap ((i : Int) + 1) = ((i + 1 : Nat) : Int) := succ_wrap (n := L.length + 1) hlt (by unfold maxLen; omega)
 clear hK2
 obtain ⟨rows, hrows⟩ : ∃ rows, dEls (sts L) ++ [rowV s cv] = rows := ⟨_, rfl⟩
 rw [hrows] at hK hrow hil hs1 ⊢
 obtain ⟨bx, hbx⟩ : ∃ bx, bxB ad (.own (A.length + 2) 1 0 (L.length + 1)) = bx := ⟨_, rfl⟩
 rw [hbx] at hK ⊢
 obtain ⟨qE, hqE⟩ : ∃ n, n = A.length + (N.length + 1 + 1 + 1 + 1) := ⟨_, rfl⟩
 obtain ⟨qC, hqC⟩ : ∃ n, n = A.length + (N.length + (M.length + 1 + 1) + 1 + 1 + 1) := ⟨_, rfl⟩
 rw [← hqE, ← hqC]
 have hset : ∀ r r' : List AV, (rows.set i r).set i r' = rows.set i r' := fun r r' => by simp
 have hMe2 : M = q.e.map bxX := by rw [hMe, List.take_length]
 obtain ⟨oE, hoE⟩ : ∃ v, AV.own qE 1 0 q.e.length = v := ⟨_, rfl⟩
 obtain ⟨oC, hoC⟩ : ∃ v, AV.own qC 1 0 q.cs.length = v := ⟨_, rfl⟩
 have hFS : ∀ S N', (A ++ bx :: zBl :: S :: N')[A.length + 2]? = some S := fun S N' => by rw [apA]; rfl
 have hFT : ∀ S S' N', (A ++ bx :: zBl :: S :: N').set (A.length + 2) S' = A ++ bx :: zBl :: S' :: N' := fun S S' N' => by rw [apS]; rfl
 have gE : ∀ S E R, (A ++ bx :: zBl :: S :: (N ++ ⟨0, true, 68, 8, [rowV q x]⟩ :: E :: R))[qE]? = some E := fun S E R => by
  rw [hqE, apA]
  simp [apA]
 have gE2 : ∀ S E E' R, (A ++ bx :: zBl :: S :: (N ++ ⟨0, true, 68, 8, [rowV q x]⟩ :: E :: R)).set qE E' = A ++ bx :: zBl :: S :: (N ++ ⟨0, true, 68, 8, [rowV q x]⟩ :: E' :: R) := fun S E E' R => by
  rw [hqE, apS]
  simp [apS]
 have gC : ∀ S E C, (A ++ bx :: zBl :: S :: (N ++ ⟨0, true, 68, 8, [rowV q x]⟩ :: E :: (M ++ [C])))[qC]? = some C := fun S E C => by
  rw [hqC, apA]
  simp [apA]
 have gC2 : ∀ S E C C', (A ++ bx :: zBl :: S :: (N ++ ⟨0, true, 68, 8, [rowV q x]⟩ :: E :: (M ++ [C]))).set qC C' = A ++ bx :: zBl :: S :: (N ++ ⟨0, true, 68, 8, [rowV q x]⟩ :: E :: (M ++ [C'])) := fun S E C C' => by
  rw [hqC, apS]
  simp [apS]
 have k1 : ∀ e, Sub A.length e (A ++ bx :: zBl :: ⟨1, true, 68, 8, rows.set i (rowE q (.own qE 1 0 q.e.length) (.own qC 1 0 q.cs.length))⟩ :: (N ++ ⟨0, true, 68, 8, [rowV q x]⟩ :: ⟨1, true, 94, 5, dEls (Ex.ds q.e)⟩ :: (M ++ [nbk 1 q.cs]))) e
   (A ++ bx :: zBl :: ⟨1, true, 68, 8, rows.set i (rowE q (.d (.sl 5 (Ex.ds q.e))) (.own qC 1 0 q.cs.length))⟩ :: (N ++ ⟨0, true, 68, 8, [rowV q x]⟩ :: ⟨1, false, 94, 5, dEls (Ex.ds q.e)⟩ :: (M ++ [nbk 1 q.cs]))) := fun e => by
  have g1 := Sub.frz (n := A.length) [qE] (e := e) (A := A ++ bx :: zBl :: ⟨1, true, 68, 8, rows.set i (rowE q (.own qE 1 0 q.e.length) (.own qC 1 0 q.cs.length))⟩ :: (N ++ ⟨0, true, 68, 8, [rowV q x]⟩ :: ⟨1, true, 94, 5, dEls (Ex.ds q.e)⟩ :: (M ++ [nbk 1 q.cs])))
  rw [frz_set (gE _ _ _), gE2] at g1
  have g2 := Sub.cell (n := A.length) (e := e) (i := i) (o := 6) (c' := .d (.sl 5 (Ex.ds q.e))) (hFS ⟨1, true, 68, 8, rows.set i (rowE q (.own qE 1 0 q.e.length) (.own qC 1 0 q.cs.length))⟩ (N ++ ⟨0, true, 68, 8, [rowV q x]⟩ :: ⟨1, false, 94, 5, dEls (Ex.ds q.e)⟩ :: (M ++ [nbk 1 q.cs]))) (hs1 _) rfl (VLe.rei (by simp [gE]))
  rw [hFT] at g2
  simp only [setEls, hset] at g2
  have g4 := g1.trans g2
  simp only [List.set_cons_succ, List.set_cons_zero] at g4
  exact g4
 rcases Nat.lt_or_ge i L.length with hi2 | hi2
 ·obtain ⟨hxq, hLq⟩ := hx1 hi2
  have k2 : ∀ e, Sub A.length e (A ++ bx :: zBl :: ⟨1, true, 68, 8, rows.set i (rowE q (.d (.sl 5 (Ex.ds q.e))) (.own qC 1 0 q.cs.length))⟩ :: (N ++ ⟨0, true, 68, 8, [rowV q x]⟩ :: ⟨1, false, 94, 5, dEls (Ex.ds q.e)⟩ :: (M ++ [nbk 1 q.cs]))) e
    (A ++ bx :: zBl :: ⟨1, true, 68, 8, rows⟩ :: (N ++ ⟨0, true, 68, 8, [rowV q x]⟩ :: ⟨1, false, 94, 5, dEls (Ex.ds q.e)⟩ :: (M ++ [⟨1, false, 3, 1, dEls (i64s q.cs)⟩]))) := fun e => by
   have g1 := Sub.frz (n := A.length) [qC] (e := e) (A := A ++ bx :: zBl :: ⟨1, true, 68, 8, rows.set i (rowE q (.d (.sl 5 (Ex.ds q.e))) (.own qC 1 0 q.cs.length))⟩ :: (N ++ ⟨0, true, 68, 8, [rowV q x]⟩ :: ⟨1, false, 94, 5, dEls (Ex.ds q.e)⟩ :: (M ++ [nbk 1 q.cs])))
   rw [frz_set (gC _ _ _), gC2] at g1
   have g2 := Sub.cell (n := A.length) (e := e) (i := i) (o := 7) (c' := .d (.sl 1 (i64s q.cs))) (hFS ⟨1, true, 68, 8, rows.set i (rowE q (.d (.sl 5 (Ex.ds q.e))) (.own qC 1 0 q.cs.length))⟩ (N ++ ⟨0, true, 68, 8, [rowV q x]⟩ :: ⟨1, false, 94, 5, dEls (Ex.ds q.e)⟩ :: (M ++ [⟨1, false, 3, 1, dEls (i64s q.cs)⟩]))) (hs1 _) rfl (VLe.rei (by simp [gC]))
   rw [hFT] at g2
   simp only [setEls, hset] at g2
   have hback : rows.set i (rowE q (.d (.sl 5 (Ex.ds q.e))) (.d (.sl 1 (i64s q.cs)))) = rows := set_same (by rw [hrow, hxq])
   have g4 := g1.trans g2
   simp only [List.set_cons_succ, List.set_cons_zero] at g4
   rw [hback] at g4
   exact g4
  refine hK (i + 1) _ _ _ _ ((k1 _).trans (k2 _)) ⟨by omega, ⟨_, _, rfl, fun _ => ⟨rfl, ?_⟩, fun h => by omega⟩, by simp [e1], by simp [e2], by simp [e12], by simp [e13], by simp [hiw]⟩ (by omega)
  rw [pcD_take hLq, ← hNe, hMe2, hxq]
  rfl
 ·obtain rfl : i = L.length := by omega
  obtain ⟨rfl, rfl⟩ := hx2 rfl
  rw [List.take_length] at hNe
  have hback : rows.set L.length (rowE q (.d (.sl 5 (Ex.ds q.e))) (.own qC 1 0 q.cs.length)) = dEls (sts L) ++ [rowO q qC] := by
   rw [← hrows, List.set_append_right _ _ (by simp)]
   simp
  have hqC2 : qC = A.length + ((pcD L).length + (q.e.length + 1 + 1) + 1 + 1 + 1) := by rw [hqC, hNe, hMe2, List.length_map]
  refine hK (L.length + 1) _ _ _ _ (k1 _) ⟨by omega, ⟨_, _, rfl, fun h => by omega, fun _ => ⟨?_, ?_⟩⟩, by simp [e1], by simp [e2], by simp [e12], by simp [e13], by simp [hiw]⟩ (by omega)
  ·rw [hback, ← hqC2]
  ·rw [hNe, hMe2]
   rfl
theorem clnS_d (A : AHeap) (L : List St) (s : St) (hL : L.length ≤ 1000000) : ClnS A (.d (.sl 8 (sts (L ++ [s])))) (dEls (sts L) ++ [rowV s (.d (.sl 1 (i64s s.cs)))]) := fun N => by
 have h := clone_st_ac (A ++ N) (sts (L ++ [s])) (by simp; omega)
 have he : dEls (sts (L ++ [s])) = dEls (sts L) ++ [rowV s (.d (.sl 1 (i64s s.cs)))] := by simp [dEls, sts, St.d_eq]
 rw [he] at h
 simpa using h
theorem clnOk_d (A : AHeap) (cs : List Int) (h : cs.length ≤ 2000000) : ClnOk A (.d (.sl 1 (i64s cs))) cs := fun N => by
 have := clone_in_ac (A ++ N) (i64s cs) (by simp; omega)
 rwa [i64s_len] at this
theorem clnS_o {A : AHeap} {x c : Nat} {L : List St} {s : St} (hL : L.length ≤ 1000000) (hb : A[x]? = some (sBk L s c)) : ClnS A (.own x 1 0 (L.length + 1)) (dEls (sts L) ++ [rowO s c]) := fun N => by
 have hxl := (gSI.1 hb).1
 have hb2 : (A ++ N)[x]? = some (sBk L s c) := by rw [gAL hxl]; exact hb
 obtain ⟨H, hH⟩ : ∃ H, A ++ N = H := ⟨_, rfl⟩
 rw [hH] at hb2 ⊢
 have hbl := (gSI.1 hb2).1
 refine ac_of Tryz.func55 rfl (by kernel_rfl) (by simp [Tryz.ntmps55]) fun hbd => ?_
 clear hbd
 have hcur : curB H x 1 = some (sBk L s c) := by simp [curB, hb2]
 simp [Tryz.f55, hb2]
 refine ⟨by kernel_rfl, fun r hr => ?_⟩
 have hrf : r = false := by
  cases r with
  | false => rfl
  | true =>
    rcases hr rfl with h | h
    ·omega
    ·rw [hcur] at h; cases h
 subst hrf
 simp
 refine aRaw_app byt_46 ?_
 have hall : ∀ y ∈ dEls (sts L) ++ [rowO s c], y.length = 8 := fun y hy => by
  rcases List.mem_append.1 hy with h | h
  ·simp only [dEls, sts, List.mem_map] at h
   obtain ⟨z, ⟨u, _, rfl⟩, rfl⟩ := h
   simp
  ·obtain rfl : y = rowO s c := by simpa using h
   rfl
 have ht : List.take (L.length + 1) (dEls (sts L) ++ [rowO s c]) = dEls (sts L) ++ [rowO s c] := List.take_of_length_le (by simp)
 simp [gAL hbl, hb2]
 rw [ht, if_pos hall]
 refine ⟨_, _, _, rfl, ?_, ?_, ?_⟩
 ·unfold maxLen; omega
 ·omega
 ·simp
theorem clnOk_o {A : AHeap} {c : Nat} {cs : List Int} (hc : cs.length ≤ 2000000) (hb : A[c]? = some (nbk 1 cs)) : ClnOk A (.own c 1 0 cs.length) cs := fun N => by
 have hxl := (gSI.1 hb).1
 have hb2 : (A ++ N)[c]? = some (nbk 1 cs) := by rw [gAL hxl]; exact hb
 obtain ⟨H, hH⟩ : ∃ H, A ++ N = H := ⟨_, rfl⟩
 rw [hH] at hb2 ⊢
 have hbl := (gSI.1 hb2).1
 refine AC.sub (R := fun r A' => (r = .own H.length 1 0 cs.length ∧ A' = H ++ [nbk 1 cs]) ∨ (r = .d (.v (.slice none 0 0)) ∧ cs = [] ∧ A' = H)) (ac_of Tryz.func58 rfl (by kernel_rfl) (by simp [Tryz.ntmps58]) fun hbd => ?_) ?_
 ·clear hbd
  have hcur : curB H c 1 = some (nbk 1 cs) := by simp [curB, hb2]
  simp [Tryz.f58, hb2]
  refine ⟨by kernel_rfl, fun r hr => ?_⟩
  cases r with
  | true =>
    have : cs = [] := by
     rcases hr rfl with h | h
     ·simpa using h
     ·rw [hcur] at h; cases h
    subst this
    simp
  | false =>
    simp
    refine aRaw_app byt_49 ?_
    have hall : ∀ y ∈ dEls (i64s cs), y.length = 1 := fun y hy => by
     simp only [dEls, i64s, List.mem_map] at hy
     obtain ⟨z, ⟨u, _, rfl⟩, rfl⟩ := hy
     rfl
    simp [gAL hbl, hb2]
    rw [if_pos hall]
    refine ⟨_, _, _, rfl, ?_, ?_, ?_⟩
    ·unfold maxLen; omega
    ·omega
    ·simp
 ·rintro r A' (⟨rfl, rfl⟩ | ⟨rfl, rfl, rfl⟩)
  ·exact ⟨_, _, Sub.refl _ _ _, rfl, rfl⟩
  ·refine ⟨_, _, (Sub.ghost 1 3 1).trans (Sub.env (e' := fun _ => .own A'.length 1 0 0) fun i => VLe.nil_own (k := ⟨1, true, 3, 1, []⟩) (by simp) rfl), ?_, ?_⟩ <;> simp
def plRows : Nat → List Nat → List (List AV)
 | _, [] => []
 | k, x :: l => [aI .i64 x, aI .i64 k] :: plRows (k + 1) l
theorem plRows_app : ∀ (k : Nat) (l : List Nat) (x : Nat), plRows k (l ++ [x]) = plRows k l ++ [[aI .i64 x, aI .i64 ((k + l.length : Nat) : Int)]]
 | k, [], x => by simp [plRows]
 | k, y :: l, x => by
   rw [List.cons_append, plRows, plRows_app (k + 1) l x, plRows, List.cons_append, List.length_cons, show k + 1 + l.length = k + (l.length + 1) by omega]
theorem find_pl (x : Nat) : ∀ (l : List Nat) (k i : Nat), findA (.int .i64) (.int .i64 x) (plRows k l) i = some (if x ∈ l then some (i + l.idxOf x, [aI .i64 ((k + l.idxOf x : Nat) : Int)]) else none)
 | [], k, i => by simp [plRows, findA]
 | y :: l, k, i => by
   have ih := find_pl x l (k + 1) (i + 1)
   by_cases hxy : x = y
   ·subst hxy
    simp [plRows, findA, Instr.sameNow, List.idxOf_cons_self]
   ·have h1 : ¬ (x : Int) = (y : Int) := by omega
    have h2 : ¬ (y : Int) = (x : Int) := by omega
    have h3 : (y == x) = false := by simp; omega
    have h4 : (y :: l).idxOf x = l.idxOf x + 1 := by rw [List.idxOf_cons, h3]; rfl
    rw [plRows]
    simp only [findA, Instr.sameNow]
    have h5 : ((x : Int) == (y : Int)) = false := by simpa using h1
    simp [h1, h2, h5, ih, hxy, h4]
    by_cases hm : x ∈ l
    ·simp [hm]; constructor <;> omega
    ·simp [hm]
abbrev plB (l : List Nat) : Blk := ⟨0, true, 1000001, 2, plRows 0 l⟩
def plc (l : List Nat) (x : Nat) : Nat := if x ∈ l then l.idxOf x else 0
theorem und_mii : Tryz.prog.underlying 109 = some (.map 3 3) := by kernel_rfl
theorem und_int : Tryz.prog.underlying 3 = some (.int .i64) := by kernel_rfl
theorem zv_int : zv Tryz.prog 3 = some (.int .i64 0) := by kernel_rfl
theorem upd_pl {A : AHeap} {b : Nat} {l : List Nat} {x : Nat} (hb : A[b]? = some (plB l)) (hx : x ∉ l) : updA Tryz.prog 109 A (.mp b 0) (aI .i64 x) (aI .i64 l.length) = some (A.set b (plB (l ++ [x]))) := by
 have hf := find_pl x l 0 0
 rw [if_neg hx] at hf
 unfold updA
 rw [und_mii]
 simp only [und_int]
 rw [hb]
 simp [plainK, cellsA, isAgg, Value.oneCell', hf, plB, plRows_app, setEls]
theorem look_pl {A : AHeap} {b : Nat} {l : List Nat} (hb : A[b]? = some (plB l)) (x : Nat) : lookupA Tryz.prog 109 A false (.mp b 0) (aI .i64 x) = some (aI .i64 (plc l x)) := by
 unfold lookupA
 rw [und_mii]
 simp only [und_int]
 rw [hb]
 have hf := find_pl x l 0 0
 by_cases hx : x ∈ l
 ·rw [if_pos hx] at hf
  simp [plainK, hf, hx, plc, valM, okM]
 ·rw [if_neg hx] at hf
  simp [plainK, hf, hx, plc, zeroM, zv_int, okM, Value.oneCell']
theorem cln_pl (m : Nat) : ∀ (k : Nat) (l : List Nat), clnE m (plRows k l) = plRows k l
 | k, [] => rfl
 | k, x :: l => by
   have ih := cln_pl m (k + 1) l
   simp only [clnE] at ih ⊢
   simp [plRows, ih]
def retV : Option (Nat × Nat) → AV
 | some p => .tup [.agg [aI .i64 p.1, aI .i64 p.2], aB true]
 | none => .tup [.agg [aI .i64 0, aI .i64 0], aB false]
abbrev prZ : Blk := ⟨0, true, 56, 2, [[aI .i64 0, aI .i64 0]]⟩
set_option maxRecDepth 100000 in
theorem lpretr_af (g : Gr) (hg : GrFit g) (hsm : g.b.length ≤ 400) (h0 : 0 < g.b.length) : AF Tryz.prog 23 [grV g] (retV (badG g)) := by
 have hgl : g.b.length ≤ maxLen := by unfold maxLen; omega
 obtain ⟨o, ho, hT⟩ := dmTree_ex g hg (edgOk g)
 have hO := dmOrder_af revOk g hg (edgOk g)
 have hE := lpedges_af g hg (edgOk g) hsm
 have hOl : (ordN g).length ≤ g.b.length := ordN_len (edgOk g)
 have hnd := ordN_nodup (edgOk g) h0
 obtain ⟨n, hn⟩ : ∃ n, g.b.length = n := ⟨_, rfl⟩
 rw [hn] at hgl
 obtain ⟨O, hOe⟩ : ∃ O, ordN g = O := ⟨_, rfl⟩
 have hget : ∀ i, i < O.length → ∃ a, O[i]? = some a ∧ a ∈ O ∧ a < n := fun i hi => by rw [← hOe] at hi ⊢; rw [← hn]; exact ordN_get hi
 have hOm : O.length ≤ maxLen := by rw [hOe] at hOl; omega
 rw [hOe] at hnd
 obtain ⟨R, hR⟩ : ∃ R, badG g = R := ⟨_, rfl⟩
 rw [hR]
 have hdl : (dataT (succT g)).length = n := by simp [dataT, succT, hn]
 refine af_of Tryz.func23 rfl (by kernel_rfl) (by simp [Tryz.ntmps23]) fun _ => ?_; simp [Tryz.f23, Ex.d_eq]
 refine aCall_of hO (by kernel_rfl) (by simp) ?_
 simp [hOe]
 refine aRaw_makeMap (tg := 1000001) (sz := 2) (by kernel_rfl) ?_
 simp
 refine aLoop_st (fun i : Nat => [(1, .ptr 0 0 0 0), (2, .ptr 1 0 0 0), (4, .d (.sl 1 (i64s (nI O)))), (5, .mp 2 0), (18, .d (.sl 1 (i64s (nI O)))), (19, aI .i64 O.length), (20, aI .i64 i)])
  (fun i => [gB g, prZ, plB (O.take i)]) (fun i => i ≤ O.length) (fun i => O.length - i) 0 (Sub.refl _ _ _) 3 (by omega) (by simp [cln_gB, plRows]) (by simp) (by omega) ?_
 rintro i hi K hK
 rcases Nat.lt_or_ge i O.length with hlt | hge
 case inl =>
  obtain ⟨a, ha, hao, han⟩ := hget i hlt
  have ha2 := (gSI.1 ha).2
  have hts : O.take (i + 1) = O.take i ++ [a] := by rw [List.take_add_one, ha]; rfl
  have hnot : a ∉ O.take i := fun hm => by
   obtain ⟨k, hk⟩ := List.getElem?_of_mem hm
   rw [List.getElem?_take] at hk
   split at hk
   case isFalse => cases hk
   rename_i hki
   have e1 := gSI.1 hk
   have e2 := gSI.1 ha
   have f1 := List.Nodup.idxOf_getElem hnd k e1.1
   have f2 := List.Nodup.idxOf_getElem hnd i e2.1
   rw [e1.2] at f1
   rw [e2.2] at f2
   omega
  have hup := upd_pl (A := [gB g, prZ, plB (O.take i)]) (b := 2) (l := O.take i) (x := a) rfl hnot
  rw [List.length_take, Nat.min_eq_left (by omega), ← hts] at hup
  simp [hlt, ha, ha2]
  refine aRaw_mapUpdate (A' := [gB g, prZ, plB (O.take (i + 1))]) (by simpa using hup) ?_
  simp [succ_wrap hlt hOm]
  exact hK (i + 1) (by omega) (by omega) (Sub.refl _ _ _) 3 (by omega) (by simp [cln_gB, cln_pl]) (by simp)
 obtain rfl : i = O.length := by omega
 clear hK
 rw [List.take_length]
 simp
 refine aCall_of hT (by kernel_rfl) (by simp) ?_
 simp
 refine aCall_of hE (by kernel_rfl) (by simp) ?_
 simp [hn]
 refine aLoop_st (fun i : Nat => [(1, .ptr 0 0 0 0), (2, .ptr 1 0 0 0), (4, .d (.sl 1 (i64s (nI O)))), (5, .mp 2 0), (8, .d (.sl 1 (i64s (oI n o)))), (9, .d (.sl 1 (dataT (succT g)))), (33, .d (.sl 1 (i64s (nI O)))), (34, aI .i64 O.length), (35, aI .i64 i)])
  (fun i => [gB g, prZ, plB O]) (fun i => i ≤ O.length ∧ badUp g i = none) (fun i => O.length - i) 0 (Sub.refl _ _ _) 3 (by omega) (by simp [cln_gB, cln_pl]) (by simp) ⟨by omega, rfl⟩ ?_
 rintro i ⟨hi, hbu⟩ K hK
 rcases Nat.lt_or_ge i O.length with hlt | hge
 case inr =>
  obtain rfl : i = O.length := by omega
  have : R = none := by rw [← hR, badG, hOe]; exact hbu
  subst this
  simp [retV]
 obtain ⟨a, ha, hao, han⟩ := hget i hlt
 have hag : (ordN g)[i]? = some a := by rw [hOe]; exact ha
 have ha2 := (gSI.1 ha).2
 have hra : (dgN g).rc a = true := by show (ordN g).contains a = true; rw [hOe]; simpa using hao
 have hsr : rowN (succT g) a = succR g n a := by rw [succT, hn]; exact mkT_row _ han
 have hrow := dataT_get (T := succT g) (k := a) (by simp [succT]; omega)
 rw [hsr] at hrow
 have hrow2 := (gSI.1 hrow).2
 have hbf := bdst_find h0 hag
 rw [hn] at hbf
 obtain ⟨S, hS⟩ : ∃ S, succR g n a = S := ⟨_, rfl⟩
 have hSl : S.length ≤ n := by rw [← hS]; exact succR_len g n a
 have hSo : ∀ b ∈ S, b ∈ O ∧ b < n := fun b hb => by
  rw [← hS] at hb
  have := succR_mem.1 hb
  refine ⟨?_, this.1⟩
  rw [← hOe]
  exact ord_next h0 (by rw [hOe]; exact hao) this.2
 have hSm : S.length ≤ maxLen := by omega
 rw [hS] at hrow hbf
 simp only [hS] at hrow2
 have hpa : plc O a = O.idxOf a := if_pos hao
 simp [hlt, ha, ha2, hdl, han, hrow, hrow2]
 refine aLoop_st (fun j : Nat => [(1, .ptr 0 0 0 0), (2, .ptr 1 0 0 0), (4, .d (.sl 1 (i64s (nI O)))), (5, .mp 2 0), (8, .d (.sl 1 (i64s (oI n o)))), (9, .d (.sl 1 (dataT (succT g)))), (11, aI .i64 a), (12, aI .i64 (bV (bdst g a (S.take j)))), (33, .d (.sl 1 (i64s (nI O)))), (34, aI .i64 O.length), (35, aI .i64 i), (42, .d (.sl 1 (i64s (nI S)))), (43, aI .i64 S.length), (44, aI .i64 j)])
  (fun i => [gB g, prZ, plB O]) (fun j => j ≤ S.length) (fun j => S.length - j) 0 (Sub.refl _ _ _) 3 (by omega) (by simp [cln_gB, cln_pl]) (by simp [bdst, bV]) (by omega) ?_
 rintro j hj K2 hK2
 rcases Nat.lt_or_ge j S.length with hjlt | hjge
 case inr =>
  obtain rfl : j = S.length := by omega
  rw [List.take_length]
  cases hb : bdst g a S with
  | none =>
    rw [hb] at hbf
    have hnx := badUp_none hbu hag hbf.symm
    simp [bV, succ_wrap hlt hOm]
    exact hK (i + 1) ⟨by omega, hnx⟩ (by omega) (Sub.refl _ _ _) 3 (by omega) (by simp [cln_gB, cln_pl]) (by simp)
  | some b =>
    rw [hb] at hbf
    have hRs : R = some (a, b) := by rw [← hR]; exact badG_at hbu hag hbf.symm
    subst hRs
    simp [bV, retV, show (0 : Int) ≤ (b : Int) by omega]
 obtain ⟨b, hb⟩ : ∃ b, S[j]? = some b := ⟨_, gEG hjlt⟩
 have hb2 := (gSI.1 hb).2
 obtain ⟨hbo, hbn⟩ := hSo b (gMO hb)
 have hpb : plc O b = O.idxOf b := if_pos hbo
 have hd := dom_af g (o := o) (by omega) hsm (ho (by omega)) (a := b) (b := a) (by omega) (by omega) hra
 rw [hn] at hd
 have hst : bdst g a (S.take (j + 1)) = bdstep g a (bdst g a (S.take j)) b := by rw [List.take_add_one, hb]; exact bdst_snoc g a _ b
 have hc : ∀ c, bdst g a (S.take j) = some c → c ∈ O := fun c hc => by
  have := bdst_spec g a _ (S.take j) rfl
  rw [hc] at this
  exact (hSo c (List.mem_of_mem_take this.1)).1
 obtain ⟨B, hB⟩ : ∃ B, bdst g a (S.take j) = B := ⟨_, rfl⟩
 rw [hB] at hst hc ⊢
 have hK3 : ∀ B', bdstep g a B b = B' → ∀ (e : AEnv), (∀ p ∈ [(1, AV.ptr 0 0 0 0), (2, .ptr 1 0 0 0), (4, .d (.sl 1 (i64s (nI O)))), (5, .mp 2 0), (8, .d (.sl 1 (i64s (oI n o)))), (9, .d (.sl 1 (dataT (succT g)))), (11, aI .i64 a), (12, aI .i64 (bV B')), (33, .d (.sl 1 (i64s (nI O)))), (34, aI .i64 O.length), (35, aI .i64 i), (42, .d (.sl 1 (i64s (nI S)))), (43, aI .i64 S.length), (44, aI .i64 ((j + 1 : Nat) : Int))], cln 3 (e p.1) = p.2) → K2 e [gB g, prZ, plB O] := fun B' hB' e he =>
  hK2 (j + 1) (by omega) (by omega) (Sub.refl _ _ _) 3 (by omega) (by simp [cln_gB, cln_pl]) (by rw [hst, hB']; exact he)
 have hjs : IntKind.i64.wrap ((j : Int) + 1) = ((j + 1 : Nat) : Int) := succ_wrap hjlt hSm
 simp [hjlt, hb, hb2]
 refine aRaw_lookup (r := aI .i64 (plc O b)) (by simpa using look_pl (A := [gB g, prZ, plB O]) (b := 2) (l := O) rfl b) ?_
 simp
 refine aRaw_lookup (r := aI .i64 (plc O a)) (by simpa using look_pl (A := [gB g, prZ, plB O]) (b := 2) (l := O) rfl a) ?_
 simp [hpa, hpb]
 by_cases hle : O.idxOf b ≤ O.idxOf a
 case neg =>
  have hBb : bdstep g a B b = B := by unfold bdstep; rw [hOe, if_neg (by simp [hle])]
  simp [hle, hjs]
  exact hK3 B hBb _ (by simp)
 simp [hle]
 refine aCall_of hd (by kernel_rfl) (by simp) ?_
 cases hdm : domB g b a with
 | true =>
   have hBb : bdstep g a B b = B := by unfold bdstep; rw [hOe, if_neg (by simp [hdm])]
   simp [hjs]
   exact hK3 B hBb _ (by simp)
 | false =>
   cases B with
   | none =>
     have hBb : bdstep g a none b = some b := by unfold bdstep; rw [hOe, if_pos (by simp [hdm, hle])]
     simp [bV, hjs]
     exact hK3 (some b) hBb _ (by simp [bV])
   | some c =>
     have hco := hc c rfl
     have hpc : plc O c = O.idxOf c := if_pos hco
     simp [bV, show ¬ (c : Int) < 0 by omega]
     refine aRaw_lookup (r := aI .i64 (plc O b)) (by simpa using look_pl (A := [gB g, prZ, plB O]) (b := 2) (l := O) rfl b) ?_
     simp
     refine aRaw_lookup (r := aI .i64 (plc O c)) (by simpa using look_pl (A := [gB g, prZ, plB O]) (b := 2) (l := O) rfl c) ?_
     by_cases hlt2 : O.idxOf b < O.idxOf c
     ·have hBb : bdstep g a (some c) b = some b := by unfold bdstep; rw [hOe, if_pos (by simp [hdm, hle, hlt2])]
      simp [hpc, hpb, hlt2, hjs]
      exact hK3 (some b) hBb _ (by simp [bV])
     ·have hBb : bdstep g a (some c) b = some c := by unfold bdstep; rw [hOe, if_neg (by simp [hlt2])]
      simp [hpc, hpb, hlt2, hjs]
      exact hK3 (some c) hBb _ (by simp [bV])
def rdB (b : Bl) (f t : Int) : Bl := match b.s.getLast? with
 | some s => ⟨b.ad, b.s.dropLast ++ [rdS s f t]⟩
 | none => b
theorem rdB_eq {b : Bl} {L : List St} {s : St} (h : b.s = L ++ [s]) (f t : Int) : rdB b f t = ⟨b.ad, L ++ [rdS s f t]⟩ := by
 unfold rdB
 rw [h]
 simp
def stpG (G : Gr) (a t : Nat) : Gr := match G.b[t]?, G.b[a]? with
 | some bt, some ba => ⟨G.ad, (G.b ++ [bt]).set a (rdB ba t G.b.length)⟩
 | _, _ => G
def splF : Nat → Gr → Nat → Option Gr
 | 0, _, _ => none
 | f + 1, G, c => match badG G with
   | none => some G
   | some (a, t) => match G.b[t]? with
     | some bt => if 256 ≤ G.b.length ∨ 1024 < c + bt.s.length then none else splF f (stpG G a t) (c + bt.s.length)
     | none => none
def BlOk (b : Bl) : Prop := ∃ L s, b.s = L ++ [s] ∧ (s.op ≠ 8 → s.cs = []) ∧ L.length ≤ 1000000 - 1 ∧ ∀ q ∈ L ++ [s], q.e.length ≤ 1000000 ∧ (∀ y ∈ q.e, y.nodes ≤ 1000000000) ∧ q.cs.length ≤ 2000000
theorem blOk_rd {b : Bl} (h : BlOk b) (f t : Int) : BlOk (rdB b f t) := by
 obtain ⟨L, s, h1, h2, h3, h4⟩ := h
 rw [rdB_eq h1]
 refine ⟨L, rdS s f t, rfl, fun h => ?_, h3, fun q hq => ?_⟩
 ·have : s.cs = [] := h2 h
  simp [rdS, this]
 ·rcases List.mem_append.1 hq with h | h
  ·exact h4 q (by simp [h])
  ·obtain rfl : q = rdS s f t := by simpa using h
   have := h4 s (by simp)
   exact ⟨this.1, this.2.1, by simpa [rdS] using this.2.2⟩
theorem stpG_len {G : Gr} {a t : Nat} (ha : a < G.b.length) (ht : t < G.b.length) : (stpG G a t).b.length = G.b.length + 1 := by
 unfold stpG
 rw [gEG ha, gEG ht]
 simp
theorem stpG_ok {G : Gr} (h : ∀ b ∈ G.b, BlOk b) (a t : Nat) : ∀ b ∈ (stpG G a t).b, BlOk b := by
 unfold stpG
 split
 ·rename_i bt ba h1 h2
  intro b hb
  rcases List.mem_or_eq_of_mem_set hb with h3 | h3
  ·rcases List.mem_append.1 h3 with h4 | h4
   ·exact h b h4
   ·obtain rfl : b = bt := by simpa using h4
    exact h _ (gMO h1)
  ·rw [h3]
   exact blOk_rd (h _ (gMO h2)) _ _
 ·exact h
theorem blOk_fit {G : Gr} (hl : G.b.length ≤ 1000) (h : ∀ b ∈ G.b, BlOk b) : GrFit G := by
 refine ⟨by omega, fun b hb => ?_⟩
 obtain ⟨L, s, h1, h2, h3, h4⟩ := h b hb
 rw [h1]
 refine ⟨by simp; omega, fun q hq => ?_⟩
 have := h4 q hq
 exact ⟨this.1, this.2.2⟩
structure OB where
 b : Bl
 x : Nat
 c : Nat
def rowsOB (T : List OB) : List (List AV) := T.map fun t => [aI .u32 t.b.ad, .own t.x 1 0 t.b.s.length]
structure OkT (H : AHeap) (T : List OB) : Prop where
 at' : ∀ t ∈ T, ∃ L s, t.b.s = L ++ [s] ∧ H[t.x]? = some (sBk L s t.c) ∧ H[t.c]? = some (nbk 1 s.cs) ∧ 3 < t.x ∧ t.x < t.c
 dis : ∀ (i j : Nat) (t u : OB), T[i]? = some t → T[j]? = some u → i ≠ j → t.x ≠ u.x ∧ t.x ≠ u.c ∧ t.c ≠ u.x ∧ t.c ≠ u.c
theorem rei_sts (H : AHeap) (d : Nat) (L : List St) (s : St) (c : Nat) (hc : H[c]? = some (nbk 1 s.cs)) : omap (fun x => omap (reiD false H (d + 1)) x) (dEls (sts L) ++ [rowO s c]) = some (sts (L ++ [s])) := by
 refine omap_ext (by simp) fun i a r ha hr => ?_
 rcases Nat.lt_or_ge i L.length with hi | hi
 ·rw [gAL (by simpa using hi)] at ha
  obtain ⟨q, hq⟩ : ∃ q, L[i]? = some q := ⟨_, gEG hi⟩
  have ha' : a = (St.d q).map AV.d := by simpa [dEls, sts, hq] using ha.symm
  have hr' : r = St.d q := by
   rw [sts_app, gAL (by simpa using hi), sts_get, hq] at hr
   exact (oSI hr).symm
  rw [ha', hr']
  simp [omap, reiD, St.d_eq]
 ·have hil : i < (sts (L ++ [s])).length := (gSI.1 hr).1
  obtain rfl : i = L.length := by simp at hil; omega
  rw [List.getElem?_append_right (by simp)] at ha
  have ha' : a = rowO s c := by simpa using ha.symm
  have hr' : r = St.d s := by simpa using hr.symm
  rw [ha', hr']
  simp [omap, reiD, St.d_eq, hc]
theorem rei_bls (H : AHeap) (d : Nat) (T : List OB) (h : OkT H T) : omap (fun x => omap (reiD false H (d + 2)) x) (rowsOB T) = some (bls' (T.map OB.b)) := by
 refine omap_ext (by simp [rowsOB]) fun i a r ha hr => ?_
 simp only [rowsOB, List.getElem?_map, Option.map_eq_some_iff] at ha
 obtain ⟨t, ht, rfl⟩ := ha
 have hr' : r = Bl.d t.b := by simpa [ht] using hr.symm
 rw [hr']
 obtain ⟨L, s, h1, h2, h3, _⟩ := h.at' t (gMO ht)
 have hr2 := rei_sts H d L s t.c h3
 have ht2 : List.take (L.length + 1) (dEls (sts L) ++ [rowO s t.c]) = dEls (sts L) ++ [rowO s t.c] := List.take_of_length_le (by simp)
 simp [omap, reiD, Bl.d_eq, h1, h2, ht2, hr2]
theorem OkT.keep {H H' : AHeap} {T : List OB} (h : OkT H T) (hk : ∀ j, 3 < j → j < H.length → H'[j]? = H[j]?) : OkT H' T := by
 refine ⟨fun t ht => ?_, h.dis⟩
 obtain ⟨L, s, h1, h2, h3, h4, h5⟩ := h.at' t ht
 exact ⟨L, s, h1, by rw [hk _ h4 (gSI.1 h2).1]; exact h2, by rw [hk _ (by omega) (gSI.1 h3).1]; exact h3, h4, h5⟩
theorem OkT.lt {H : AHeap} {T : List OB} (h : OkT H T) {t : OB} (ht : t ∈ T) : 3 < t.x ∧ t.x < t.c ∧ t.c < H.length := by
 obtain ⟨L, s, h1, h2, h3, h4, h5⟩ := h.at' t ht
 exact ⟨h4, h5, (gSI.1 h3).1⟩
theorem OkT.add {H H' : AHeap} {T : List OB} (h : OkT H T) (hk : ∀ j, 3 < j → j < H.length → H'[j]? = H[j]?) {b : Bl} {x c : Nat} {L : List St} {s : St} (hb : b.s = L ++ [s]) (hx : H.length ≤ x) (hx3 : 3 < x) (hxc : x < c) (h1 : H'[x]? = some (sBk L s c)) (h2 : H'[c]? = some (nbk 1 s.cs)) : OkT H' (T ++ [⟨b, x, c⟩]) := by
 have hk2 := h.keep hk
 refine ⟨fun t ht => ?_, fun i j t u hi hj hij => ?_⟩
 ·rcases List.mem_append.1 ht with h3 | h3
  ·exact hk2.at' t h3
  ·obtain rfl : t = ⟨b, x, c⟩ := by simpa using h3
   exact ⟨L, s, hb, h1, h2, hx3, hxc⟩
 ·have cs : ∀ (k : Nat) (q : OB), (T ++ [⟨b, x, c⟩])[k]? = some q → (k < T.length ∧ T[k]? = some q) ∨ (k = T.length ∧ q = ⟨b, x, c⟩) := fun k q hq => by
   rcases Nat.lt_or_ge k T.length with hk3 | hk3
   ·rw [gAL hk3] at hq
    exact .inl ⟨hk3, hq⟩
   ·have hl := (gSI.1 hq).1
    have hkl : k = T.length := by simp at hl; omega
    subst hkl
    rw [List.getElem?_append_right (Nat.le_refl _)] at hq
    simp at hq
    exact .inr ⟨rfl, hq.symm⟩
  rcases cs i t hi with ⟨i1, i2⟩ | ⟨i1, rfl⟩ <;> rcases cs j u hj with ⟨j1, j2⟩ | ⟨j1, rfl⟩
  ·exact h.dis i j t u i2 j2 hij
  ·have := h.lt (gMO i2)
   simp only
   omega
  ·have := h.lt (gMO j2)
   simp only
   omega
  ·omega
theorem OkT.turn {H : AHeap} {T : List OB} (h : OkT H T) {a : Nat} {t : OB} (ha : T[a]? = some t) {L : List St} {s : St} (hs : t.b.s = L ++ [s]) (f u : Int) (N : AHeap) :
  OkT (hp2 H t.x t.c (sBk L (rdS s f u) t.c) (nbk 1 (rdS s f u).cs) ++ N) (T.set a ⟨rdB t.b f u, t.x, t.c⟩) := by
 have ht := h.lt (gMO ha)
 have hxl : t.x < H.length := by omega
 have hxc : t.x ≠ t.c := by omega
 have hal := (gSI.1 ha).1
 have hget : ∀ (k : Nat) (q : OB), (T.set a ⟨rdB t.b f u, t.x, t.c⟩)[k]? = some q → (k = a ∧ q = ⟨rdB t.b f u, t.x, t.c⟩) ∨ (k ≠ a ∧ T[k]? = some q) := fun k q hq => by
  rw [List.getElem?_set] at hq
  by_cases hka : a = k
  ·subst hka
   simp [hal] at hq
   exact .inl ⟨rfl, hq.symm⟩
  ·rw [if_neg hka] at hq
   exact .inr ⟨fun e => hka e.symm, hq⟩
 refine ⟨fun q hq => ?_, fun i j q r hi hj hij => ?_⟩
 ·obtain ⟨k, hk⟩ := List.getElem?_of_mem hq
  rcases hget k q hk with ⟨_, rfl⟩ | ⟨hka, hk2⟩
  ·exact ⟨L, rdS s f u, by rw [rdB_eq hs], hp2_x hxl hxc _ _ _, hp2_c ht.2.2 _ _ _, ht.1, ht.2.1⟩
  ·obtain ⟨L', s', h1, h2, h3, h4, h5⟩ := h.at' q (gMO hk2)
   have hd := h.dis k a q t hk2 ha hka
   have q1 := (gSI.1 h2).1
   have q2 := (gSI.1 h3).1
   refine ⟨L', s', h1, ?_, ?_, h4, h5⟩
   ·rw [gAL (by rw [hp2_len]; exact q1), hp2, gSN (Ne.symm hd.2.1), gSN (Ne.symm hd.1)]
    exact h2
   ·rw [gAL (by rw [hp2_len]; exact q2), hp2, gSN (Ne.symm hd.2.2.2), gSN (Ne.symm hd.2.2.1)]
    exact h3
 ·rcases hget i q hi with ⟨i1, rfl⟩ | ⟨i1, i2⟩ <;> rcases hget j r hj with ⟨j1, rfl⟩ | ⟨j1, j2⟩
  ·omega
  ·exact h.dis a j t r ha j2 (Ne.symm j1)
  ·exact h.dis i a q t i2 ha i1
  ·exact h.dis i j q r i2 j2 hij
def newB (A : AHeap) (ad : Int) (L : List St) (s : St) (cv : AV) : AHeap := bxB ad (.own (A.length + 2) 1 0 (L.length + 1)) :: bxB ad (.own (A.length + 2) 1 0 (L.length + 1)) :: sBk L s (A.length + ((pcD L).length + (s.e.length + 1 + 1) + 1 + 1 + 1)) :: (pcD L ++ piece cv true s)
def newC (A : AHeap) (L : List St) (s : St) : Nat := A.length + ((pcD L).length + (s.e.length + 1 + 1) + 1 + 1 + 1)
theorem newB_x (A : AHeap) (ad : Int) (L : List St) (s : St) (cv : AV) (R : AHeap) : (A ++ (newB A ad L s cv ++ R))[A.length + 2]? = some (sBk L s (newC A L s)) := by
 rw [apA]
 rfl
theorem newB_c (A : AHeap) (ad : Int) (L : List St) (s : St) (cv : AV) (R : AHeap) : (A ++ (newB A ad L s cv ++ R))[newC A L s]? = some (nbk 1 s.cs) := by
 rw [newC, apA]
 simp [newB, apA, piece, List.append_assoc]
abbrev oGr (ad : Int) (v : Nat) : Blk := ⟨0, true, 25, 2, [[aI .u32 ad, .own 3 v 0 v]]⟩
abbrev zGr : Blk := ⟨0, true, 25, 2, [[aI .u32 0, .d (.v (.slice none 0 0))]]⟩
abbrev bsB (v : Nat) (T : List OB) : Blk := ⟨v, true, 48, 2, rowsOB T⟩
def cntS (l : List Bl) : Nat := (l.map fun b => b.s.length).sum
def spV : Option Gr → AV
 | some G => .tup [grV G, aI .i64 0]
 | none => .tup [grV ⟨0, []⟩, aI .i64 6]
theorem newB_len {A B : AHeap} (h : A.length = B.length) (ad : Int) (L : List St) (s : St) (cv : AV) : newB A ad L s cv = newB B ad L s cv := by simp only [newB, h]
theorem newC_len {A B : AHeap} (h : A.length = B.length) (L : List St) (s : St) : newC A L s = newC B L s := by simp only [newC, h]
theorem keep4 {a1 a2 a3 a4 b1 b2 b3 b4 : Blk} {N R : AHeap} {j : Nat} (h3 : 3 < j) (hj : j < N.length + 4) : (a1 :: a2 :: a3 :: a4 :: (N ++ R))[j]? = (b1 :: b2 :: b3 :: b4 :: N)[j]? := by
 obtain ⟨k, rfl⟩ : ∃ k, j = k + 1 + 1 + 1 + 1 := ⟨j - 4, by omega⟩
 simp only [List.getElem?_cons_succ]
 exact gAL (by omega)
theorem cntS_take {l : List Bl} {i : Nat} {b : Bl} (h : l[i]? = some b) : cntS (l.take (i + 1)) = cntS (l.take i) + b.s.length := by
 rw [List.take_add_one, h]
 simp [cntS]
theorem cntS_le (l : List Bl) (i : Nat) : cntS (l.take i) ≤ cntS l := by
 have h : cntS (l.take i) + cntS (l.drop i) = cntS l := by
  simp only [cntS]
  rw [← List.sum_append, ← List.map_append, List.take_append_drop]
 omega
theorem rowsOB_len (T : List OB) : (rowsOB T).length = T.length := by simp [rowsOB]
theorem splF_some {f : Nat} {G : Gr} {c a t : Nat} {bt : Bl} (h : badG G = some (a, t)) (hb : G.b[t]? = some bt) : splF (f + 1) G c = if 256 ≤ G.b.length ∨ 1024 < c + bt.s.length then none else splF f (stpG G a t) (c + bt.s.length) := by
 rw [splF, h]
 simp only [hb]
theorem set4 {a1 a2 a3 a4 v : Blk} {R : AHeap} {x : Nat} (h : 3 < x) : (a1 :: a2 :: a3 :: a4 :: R).set x v = a1 :: a2 :: a3 :: a4 :: R.set (x - 4) v := by
 obtain ⟨k, rfl⟩ : ∃ k, x = k + 1 + 1 + 1 + 1 := ⟨x - 4, by omega⟩
 simp
theorem hp2_4 {a1 a2 a3 a4 S C : Blk} {R : AHeap} {x c : Nat} (hx : 3 < x) (hc : 3 < c) : hp2 (a1 :: a2 :: a3 :: a4 :: R) x c S C = a1 :: a2 :: a3 :: a4 :: hp2 R (x - 4) (c - 4) S C := by
 rw [hp2, set4 hx, set4 hc, hp2]
set_option maxRecDepth 100000 in
theorem lpsplit_af (g : Gr) (hg : GrFit g) (hsm : g.b.length ≤ 200) (hok : grErr g = 0 → ∀ b ∈ g.b, BlOk b) (hc : cntS g.b ≤ 1000000) : AF Tryz.prog 8 [grV g] (if grErr g = 0 then spV (splF 300 g (cntS g.b)) else .tup [grV ⟨0, []⟩, aI .i64 (grErr g)]) := by
 have hgl : g.b.length ≤ maxLen := by unfold maxLen; omega
 have hE := ilcheckg_af g hg
 refine af_of Tryz.func8 rfl (by kernel_rfl) (by simp [Tryz.ntmps8]) fun _ => ?_; simp [Tryz.f8, Ex.d_eq]
 refine aCall_of hE (by kernel_rfl) (by simp) ?_
 by_cases he : grErr g = 0
 case neg => simp [he]
 have h0 : 0 < g.b.length := Nat.pos_of_ne_zero fun h => by simp only [grErr, h] at he; split at he <;> simp at he
 have hB := hok he
 simp [he]
 obtain ⟨n, hn⟩ : ∃ n, g.b.length = n := ⟨_, rfl⟩
 have hst : ∀ e, Sub 0 e [gB g, zGr, ⟨0, true, 25, 2, [[aI .u32 g.ad, .d (.v (.slice none 0 0))]]⟩] e [gB g, zGr, oGr g.ad 0, bsB 0 []] := fun e => by
  have g1 := Sub.ghost (n := 0) (e := e) 0 48 2 (A := [gB g, zGr, ⟨0, true, 25, 2, [[aI .u32 g.ad, .d (.v (.slice none 0 0))]]⟩])
  have g2 := Sub.cell (n := 0) (e := e) (A := [gB g, zGr, ⟨0, true, 25, 2, [[aI .u32 g.ad, .d (.v (.slice none 0 0))]]⟩, ⟨0, true, 48, 2, []⟩]) (b := 2) (i := 0) (o := 1) rfl rfl rfl (VLe.nil_own (b := 3) (ver := 0) (k := ⟨0, true, 48, 2, []⟩) rfl rfl)
  exact g1.trans g2
 refine aLoop_of (α := Nat) (fun i e H => i ≤ n ∧ (∃ T N, H = [gB g, zGr, oGr g.ad i, bsB i T] ++ N ∧ T.map OB.b = g.b.take i ∧ OkT H T) ∧ e 1 = .ptr 0 0 0 0 ∧ e 2 = .ptr 1 0 0 0 ∧ e 5 = .ptr 2 0 0 0 ∧ e 6 = aI .i64 (cntS (g.b.take i)) ∧ e 21 = .d (.sl 2 (bls' g.b)) ∧ e 22 = aI .i64 n ∧ e 23 = aI .i64 i) (fun i => n - i) 0 (hst _)
  ⟨by omega, ⟨[], [], rfl, by simp, ⟨fun t ht => by simp at ht, fun i j t u hi => by simp at hi⟩⟩, by simp, by simp, by simp, by simp [cntS], by simp, by simp [hn], by simp⟩ ?_
 rintro i e H ⟨hi, ⟨T, N, rfl, hT, hOk⟩, e1, e2, e5, e6, e21, e22, e23⟩ K hK
 have hTl : T.length = i := by
  have := congrArg List.length hT
  simp at this
  omega
 have hcl := cntS_le g.b i
 rcases Nat.lt_or_ge i n with hlt | hge
 case inl =>
  have hlt' : i < g.b.length := by omega
  obtain ⟨b, hb⟩ : ∃ b, g.b[i]? = some b := ⟨_, gEG hlt'⟩
  have hb2 := (gSI.1 hb).2
  obtain ⟨L, s, hbs, hs8, hLl, hq⟩ := hB b (gMO hb)
  have hct := cntS_take hb
  have hcl2 := cntS_le g.b (i + 1)
  simp [e1, e2, e5, e6, e21, e22, e23, hlt, hlt', hb, hb2, Bl.d_eq]
  obtain ⟨bb, hbb⟩ : ∃ bb : Blk, bxB b.ad (.d (.sl 8 (sts b.s))) = bb := ⟨_, rfl⟩
  obtain ⟨W, hW⟩ : ∃ W, newB (gB g :: zGr :: oGr g.ad i :: bsB i T :: (N ++ [bb])) b.ad L s (.d (.sl 1 (i64s s.cs))) = W := ⟨_, rfl⟩
  have hown := lpown_ac b.ad L s (.d (.sl 8 (sts b.s))) (.d (.sl 1 (i64s s.cs))) (gB g :: zGr :: oGr g.ad i :: bsB i T :: (N ++ [bb])) (by omega) hq (by rw [hbs]; exact clnS_d _ L s (by omega)) (clnOk_d _ s.cs (hq s (by simp)).2.2)
  have hl5 : (gB g :: zGr :: oGr g.ad i :: bsB i T :: (N ++ [bb])).length = N.length + 5 := by simp
  replace hown : AC Tryz.prog 22 [.agg [aI .u32 b.ad, .d (.sl 8 (sts b.s))]] (gB g :: zGr :: oGr g.ad i :: bsB i T :: (N ++ [bb])) (fun r A' => r = .agg [aI .u32 b.ad, .own (N.length + 7) 1 0 (L.length + 1)] ∧ A' = gB g :: zGr :: oGr g.ad i :: bsB i T :: (N ++ bb :: W)) := hown.mono fun r A' h => by
   obtain ⟨h1, h2⟩ := h
   rw [hl5] at h1
   refine ⟨h1, ?_⟩
   have h3 : A' = (gB g :: zGr :: oGr g.ad i :: bsB i T :: (N ++ [bb])) ++ W := by rw [h2, ← hW]; rfl
   rw [h3]
   simp
  rw [show (⟨0, true, 48, 2, [[aI .u32 b.ad, .d (.sl 8 (sts b.s))]]⟩ : Blk) = bb from hbb]
  have hbb2 : bb.els = [[aI .u32 b.ad, .d (.sl 8 (sts b.s))]] ∧ bb.ver = 0 ∧ bb.ty = 48 ∧ bb.sz = 2 := by rw [← hbb]; exact ⟨rfl, rfl, rfl, rfl⟩
  obtain ⟨bb1, bb2, bb3, bb4⟩ := hbb2
  have hrl := rowsOB_len T
  refine adrawR [.ptr 2 0 0 1, .own 3 i 0 i, .agg [aI .u32 b.ad, .d (.sl 8 (sts b.s))], .agg [aI .u32 b.ad, .own (N.length + 7) 1 0 (L.length + 1)], .own (N.length + (W.length + 1) + 1 + 1 + 1 + 1) 0 0 1, .own 3 (i + 1) 0 (i + 1), .ptr 2 0 0 1, .any]
   [(0, gB g :: zGr :: oGr g.ad i :: bsB i T :: (N ++ [bb])), (8, gB g :: zGr :: oGr g.ad i :: bsB i T :: (N ++ bb :: W)), (24, gB g :: zGr :: oGr g.ad i :: bsB i T :: (N ++ bb :: (W ++ [⟨0, true, 48, 2, [[aI .u32 b.ad, .own (N.length + 7) 1 0 (L.length + 1)]]⟩]))),
    (56, gB g :: zGr :: oGr g.ad i :: ⟨i + 1, true, 48, 2, rowsOB T ++ [[aI .u32 b.ad, .own (N.length + 7) 1 0 (L.length + 1)]]⟩ :: (N ++ bb :: (W ++ [⟨0, true, 48, 2, [[aI .u32 b.ad, .own (N.length + 7) 1 0 (L.length + 1)]]⟩]))),
    (184, gB g :: zGr :: oGr g.ad (i + 1) :: ⟨i + 1, true, 48, 2, rowsOB T ++ [[aI .u32 b.ad, .own (N.length + 7) 1 0 (L.length + 1)]]⟩ :: (N ++ bb :: (W ++ [⟨0, true, 48, 2, [[aI .u32 b.ad, .own (N.length + 7) 1 0 (L.length + 1)]]⟩])))]
   (by kernel_rfl) (by kernel_rfl) rfl rfl ?_ ?_
  ·simp only [rowsR, List.mem_cons, List.not_mem_nil, or_false, forall_eq_or_imp, forall_eq]
   refine ⟨⟨?_, ?_, ?_, nmy (by kernel_rfl), nmy (by kernel_rfl)⟩, ⟨?_, ?_, ?_, nmy (by kernel_rfl), nmy (by kernel_rfl)⟩, ⟨?_, nmy (by kernel_rfl), nmy (by kernel_rfl), nmy (by kernel_rfl), nmy (by kernel_rfl)⟩, ⟨?_, nmy (by kernel_rfl), nmy (by kernel_rfl), nmy (by kernel_rfl), nmy (by kernel_rfl)⟩, ⟨nmy (by kernel_rfl), ?_, nmy (by kernel_rfl), nmy (by kernel_rfl), nmy (by kernel_rfl)⟩, ⟨nmy (by kernel_rfl), nmy (by kernel_rfl), ?_, nmy (by kernel_rfl), nmy (by kernel_rfl)⟩, ⟨nmy (by kernel_rfl), nmy (by kernel_rfl), nmy (by kernel_rfl), ?_, nmy (by kernel_rfl)⟩, ⟨nmy (by kernel_rfl), nmy (by kernel_rfl), nmy (by kernel_rfl), ?_, nmy (by kernel_rfl)⟩, trivial⟩
   all_goals
    intro hmay
    clear hmay
    intro e' K' h A3 hA hk
    simp only [Op.operands, Call.operands] at h
    simp [still, heapM, putR, dvA] at h hA hk
    subst hA
    simp [h, e1, e2, e5, apA, apA0, apS, apS0, bb1, bb2, bb3, bb4, hrl, hTl]
    try exact hk
   ·refine aCall_ofc hown (by simp) ?_
    rintro _ _ ⟨rfl, rfl⟩
    exact hk
   ·refine aRaw_app byt_23 ?_
    have hmx : i < maxLen := by unfold maxLen at hgl ⊢; omega
    simp [h, hrl, hTl]
    refine ⟨by omega, by omega, ?_⟩
    exact hk
  simp [putR, e6, e23, apA, apA0, apS, apS0, bb1, bb2, bb3, bb4, hrl, hTl]
  have hw1 : IntKind.i64.wrap ((cntS (g.b.take i) : Int) + (b.s.length : Int)) = ((cntS (g.b.take (i + 1)) : Nat) : Int) := by rw [hct]; exact i64w (by omega)
  have hiw : IntKind.i64.wrap ((i : Int) + 1) = ((i + 1 : Nat) : Int) := succ_wrap hlt (by omega)
  have hA' : ∀ a3 a4, (gB g :: zGr :: a3 :: a4 :: (N ++ [bb])).length = N.length + 5 := fun a3 a4 => by simp
  obtain ⟨T', hT'⟩ : ∃ T', T' = T ++ [(⟨b, N.length + 7, newC (gB g :: zGr :: oGr g.ad i :: bsB i T :: (N ++ [bb])) L s⟩ : OB)] := ⟨_, rfl⟩
  have hrT : rowsOB T' = rowsOB T ++ [[aI .u32 b.ad, .own (N.length + 7) 1 0 (L.length + 1)]] := by rw [hT']; simp [rowsOB, hbs]
  have hx1 := newB_x (gB g :: zGr :: oGr g.ad (i + 1) :: bsB (i + 1) T' :: (N ++ [bb])) b.ad L s (.d (.sl 1 (i64s s.cs))) [⟨0, true, 48, 2, [[aI .u32 b.ad, .own (N.length + 7) 1 0 (L.length + 1)]]⟩]
  have hx2 := newB_c (gB g :: zGr :: oGr g.ad (i + 1) :: bsB (i + 1) T' :: (N ++ [bb])) b.ad L s (.d (.sl 1 (i64s s.cs))) [⟨0, true, 48, 2, [[aI .u32 b.ad, .own (N.length + 7) 1 0 (L.length + 1)]]⟩]
  have hle : (gB g :: zGr :: oGr g.ad (i + 1) :: bsB (i + 1) T' :: (N ++ [bb])).length = (gB g :: zGr :: oGr g.ad i :: bsB i T :: (N ++ [bb])).length := by simp
  rw [newB_len hle, hW, newC_len hle] at hx1 hx2
  rw [hA'] at hx1
  have hcgt : N.length + 7 < newC (gB g :: zGr :: oGr g.ad i :: bsB i T :: (N ++ [bb])) L s := by unfold newC; rw [hl5]; omega
  have happ : (gB g :: zGr :: oGr g.ad (i + 1) :: bsB (i + 1) T' :: (N ++ [bb])) ++ (W ++ [⟨0, true, 48, 2, [[aI .u32 b.ad, .own (N.length + 7) 1 0 (L.length + 1)]]⟩]) = gB g :: zGr :: oGr g.ad (i + 1) :: bsB (i + 1) T' :: (N ++ bb :: (W ++ [⟨0, true, 48, 2, [[aI .u32 b.ad, .own (N.length + 7) 1 0 (L.length + 1)]]⟩])) := by simp
  rw [happ] at hx1 hx2
  refine hK (i + 1) _ _ _ _ (Sub.refl _ _ _) ⟨by omega, ⟨T', N ++ bb :: (W ++ [⟨0, true, 48, 2, [[aI .u32 b.ad, .own (N.length + 7) 1 0 (L.length + 1)]]⟩]), ?_, ?_, ?_⟩, by simp [e1], by simp [e2], by simp [e5], ?_, by simp [e21], by simp [e22], ?_⟩ (by omega)
  ·rw [← hrT]; simp
  ·rw [hT', List.take_add_one, hb]; simp [hT]
  ·rw [← hrT, hT'] at *
   refine hOk.add (fun j h3 hj => ?_) hbs (by simp) (by omega) hcgt hx1 hx2
   exact keep4 h3 (by simpa using hj)
  ·simp [hw1]
  ·simp [hiw]
 obtain rfl : i = n := by omega
 clear hK
 have hTg : T.map OB.b = g.b := by rw [hT, ← hn, List.take_length]
 have hcg : cntS (g.b.take i) = cntS g.b := by rw [← hn, List.take_length]
 rw [hcg] at e6
 obtain ⟨R, hR⟩ : ∃ R, splF 300 g (cntS g.b) = R := ⟨_, rfl⟩
 rw [hR]
 simp [e22, e23]
 refine aLoop_of (α := Nat × Gr × Nat) (fun q e H => q.1 + q.2.1.b.length ≥ 257 ∧ q.2.1.ad = g.ad ∧ 0 < q.2.1.b.length ∧ q.2.1.b.length ≤ 256 ∧ (∀ b ∈ q.2.1.b, BlOk b) ∧ q.2.2 ≤ 2000000 ∧ splF q.1 q.2.1 q.2.2 = R ∧ (∃ T N, H = gB g :: zGr :: oGr g.ad q.2.1.b.length :: bsB q.2.1.b.length T :: N ∧ T.map OB.b = q.2.1.b ∧ OkT H T) ∧
   e 1 = .ptr 0 0 0 0 ∧ e 2 = .ptr 1 0 0 0 ∧ e 5 = .ptr 2 0 0 0 ∧ e 6 = aI .i64 q.2.2) (fun q => q.1) (300, g, cntS g.b) (Sub.refl _ _ _)
  ⟨by simp only; omega, rfl, h0, by simp only; omega, hB, by simp only; omega, hR, ⟨T, N, by simp [hn], hTg, by simpa using hOk⟩, by simp [e1], by simp [e2], by simp [e5], by simp [e6]⟩ ?_
 clear e1 e2 e5 e6 e21 e22 e23 hOk hT hTg hTl T N e
 rintro ⟨f, G, c⟩ e H ⟨hf, hGa, hG0, hG2, hGb, hc2, hsp, ⟨T, N, rfl, hT, hOk⟩, e1, e2, e5, e6⟩ K hK
 simp only at hf hGa hG0 hG2 hGb hc2 hsp hT hOk hK e6 ⊢
 have hTl : T.length = G.b.length := by rw [← hT, List.length_map]
 have hfit := blOk_fit (G := G) (by omega) hGb
 have hre := lpretr_af G hfit (by omega) hG0
 have hr8 := rei_bls _ 6 T hOk
 have hr7 := rei_bls _ 5 T hOk
 have hr9 := rei_bls _ 7 T hOk
 rw [hT] at hr7 hr8 hr9
 have htk : List.take G.b.length (rowsOB T) = rowsOB T := List.take_of_length_le (by rw [rowsOB_len]; omega)
 have hrl := rowsOB_len T
 obtain ⟨f, rfl⟩ : ∃ f', f = f' + 1 := ⟨f - 1, by omega⟩
 simp [e1, e2, e5, e6]
 refine aCall_ofs hre (by kernel_rfl) (by simp [htk, hrl, hTl, hr7, hr8, hr9, hGa]) (by cases badG G <;> simp [retV, scal]) ?_
 cases hbad : badG G with
 | none =>
   have hRs : R = some G := by rw [← hsp, splF, hbad]
   subst hRs
   simp [retV, e1, e2, e5, e6, spV]
   have hOk' : OkT (gB g :: ⟨0, true, 25, 2, [[aI .u32 g.ad, .own 3 G.b.length 0 G.b.length]]⟩ :: oGr g.ad G.b.length :: bsB G.b.length T :: (N ++ [⟨0, true, 56, 2, [[aI .i64 0, aI .i64 0]]⟩])) T := hOk.keep fun j h3 hj => keep4 h3 (by simpa using hj)
   have h8 := rei_bls _ 6 T hOk'
   rw [hT] at h8
   simp [hrl, hTl, htk, h8, hGa]
 | some p =>
   obtain ⟨a, t⟩ := p
   obtain ⟨ha, ht, _, _⟩ := badG_lt hbad
   obtain ⟨oa, hoa⟩ : ∃ o, T[a]? = some o := ⟨_, gEG (by omega)⟩
   obtain ⟨ot, hot⟩ : ∃ o, T[t]? = some o := ⟨_, gEG (by omega)⟩
   have hba : G.b[a]? = some oa.b := by rw [← hT, List.getElem?_map, hoa]; rfl
   have hbt : G.b[t]? = some ot.b := by rw [← hT, List.getElem?_map, hot]; rfl
   have hra1 : (rowsOB T)[a]? = some [aI .u32 oa.b.ad, .own oa.x 1 0 oa.b.s.length] := by simp [rowsOB, hoa]
   have hrt1 : (rowsOB T)[t]? = some [aI .u32 ot.b.ad, .own ot.x 1 0 ot.b.s.length] := by simp [rowsOB, hot]
   have hra2 := (gSI.1 hra1).2
   have hrt2 := (gSI.1 hrt1).2
   obtain ⟨L, s, hbs, ht1, ht2, ht3, ht4⟩ := hOk.at' ot (gMO hot)
   obtain ⟨hs8, hLl, hq⟩ : (s.op ≠ 8 → s.cs = []) ∧ L.length ≤ 1000000 - 1 ∧ ∀ q ∈ L ++ [s], q.e.length ≤ 1000000 ∧ (∀ y ∈ q.e, y.nodes ≤ 1000000000) ∧ q.cs.length ≤ 2000000 := by
    obtain ⟨L', s', h1, h2, h3, h4⟩ := hGb ot.b (gMO hbt)
    rw [hbs] at h1
    have h5 := List.append_inj' h1 rfl
    obtain ⟨rfl, h6⟩ := h5
    obtain rfl : s = s' := by simpa using h6
    exact ⟨h2, h3, h4⟩
   have hX : ∀ a1 a2 a3 a4 R, (a1 :: a2 :: a3 :: a4 :: (N ++ R))[ot.x]? = some (sBk L s ot.c) := fun a1 a2 a3 a4 R => (keep4 (R := R) ht3 (by simpa using (gSI.1 ht1).1)).trans ht1
   have hXc : ∀ a1 a2 a3 a4 R, (a1 :: a2 :: a3 :: a4 :: (N ++ R))[ot.c]? = some (nbk 1 s.cs) := fun a1 a2 a3 a4 R => (keep4 (R := R) (by omega) (by simpa using (gSI.1 ht2).1)).trans ht2
   have hsl : ot.b.s.length = L.length + 1 := by rw [hbs]; simp
   have hw1 : IntKind.i64.wrap ((c : Int) + ((L.length : Int) + 1)) = ((c + ot.b.s.length : Nat) : Int) := by rw [hsl]; exact i64w (by omega)
   simp [retV, e1, e2, e5, e6, apA, apA0, ha, ht, hra1, hra2, hrt1, hrt2, hrl, hTl, hsl, hw1, hX]
   by_cases hlim : 256 ≤ G.b.length ∨ 1024 < c + ot.b.s.length
   ·have hRs : R = none := by rw [← hsp, splF_some hbad hbt, if_pos hlim]
    subst hRs
    by_cases h256 : 256 ≤ G.b.length
    ·have h256' : (256 : Int) ≤ (G.b.length : Int) := by omega
     simp [h256', e1, e2, spV]
    ·have h256' : ¬ (256 : Int) ≤ (G.b.length : Int) := by omega
     have h1024 : (1024 : Int) < (c : Int) + ((L.length : Int) + 1) := by omega
     simp [h256', h1024, e1, e2, spV]
   have hRs : splF f (stpG G a t) (c + ot.b.s.length) = R := by rw [← hsp, splF_some hbad hbt, if_neg hlim]
   have h256' : ¬ (256 : Int) ≤ (G.b.length : Int) := by omega
   have h1024 : ¬ (1024 : Int) < (c : Int) + ((L.length : Int) + 1) := by omega
   simp [h256', h1024, e1, e2]
   obtain ⟨tb, htb⟩ : ∃ tb : Blk, (⟨0, true, 56, 2, [[aI .i64 a, aI .i64 t]]⟩ : Blk) = tb := ⟨_, rfl⟩
   obtain ⟨W, hW⟩ : ∃ W, newB (gB g :: zGr :: oGr g.ad G.b.length :: bsB G.b.length T :: (N ++ [tb])) ot.b.ad L s (.own ot.c 1 0 s.cs.length) = W := ⟨_, rfl⟩
   have hown := lpown_ac ot.b.ad L s (.own ot.x 1 0 (L.length + 1)) (.own ot.c 1 0 s.cs.length) (gB g :: zGr :: oGr g.ad G.b.length :: bsB G.b.length T :: (N ++ [tb])) (by omega) hq (clnS_o (by omega) (hX _ _ _ _ _)) (clnOk_o (hq s (by simp)).2.2 (hXc _ _ _ _ _))
   have hl5 : (gB g :: zGr :: oGr g.ad G.b.length :: bsB G.b.length T :: (N ++ [tb])).length = N.length + 5 := by simp
   replace hown : AC Tryz.prog 22 [.agg [aI .u32 ot.b.ad, .own ot.x 1 0 (L.length + 1)]] (gB g :: zGr :: oGr g.ad G.b.length :: bsB G.b.length T :: (N ++ [tb])) (fun r A' => r = .agg [aI .u32 ot.b.ad, .own (N.length + 7) 1 0 (L.length + 1)] ∧ A' = gB g :: zGr :: oGr g.ad G.b.length :: bsB G.b.length T :: (N ++ tb :: W)) := hown.mono fun r A' h => by
    obtain ⟨h1, h2⟩ := h
    rw [hl5] at h1
    refine ⟨h1, ?_⟩
    have h3 : A' = (gB g :: zGr :: oGr g.ad G.b.length :: bsB G.b.length T :: (N ++ [tb])) ++ W := by rw [h2, ← hW]; rfl
    rw [h3]
    simp
   rw [htb]
   have htb2 : tb.els = [[aI .i64 a, aI .i64 t]] ∧ tb.ver = 0 ∧ tb.ty = 56 ∧ tb.sz = 2 := by rw [← htb]; exact ⟨rfl, rfl, rfl, rfl⟩
   obtain ⟨tb1, tb2, tb3, tb4⟩ := htb2
   refine adrawR [.ptr 2 0 0 1, .own 3 G.b.length 0 G.b.length, .ptr 2 0 0 1, .own 3 G.b.length 0 G.b.length, .ptr (N.length + 1 + 1 + 1 + 1) 0 0 1, aI .i64 t, .ptr 3 G.b.length t 0, .agg [aI .u32 ot.b.ad, .own ot.x 1 0 (L.length + 1)], .agg [aI .u32 ot.b.ad, .own (N.length + 7) 1 0 (L.length + 1)], .own (N.length + (W.length + 1) + 1 + 1 + 1 + 1) 0 0 1, .own 3 (G.b.length + 1) 0 (G.b.length + 1), .ptr 2 0 0 1, .any]
    [(0, gB g :: zGr :: oGr g.ad G.b.length :: bsB G.b.length T :: (N ++ [tb])), (256, gB g :: zGr :: oGr g.ad G.b.length :: bsB G.b.length T :: (N ++ tb :: W)), (768, gB g :: zGr :: oGr g.ad G.b.length :: bsB G.b.length T :: (N ++ tb :: (W ++ [⟨0, true, 48, 2, [[aI .u32 ot.b.ad, .own (N.length + 7) 1 0 (L.length + 1)]]⟩]))),
     (1792, gB g :: zGr :: oGr g.ad G.b.length :: ⟨G.b.length + 1, true, 48, 2, rowsOB T ++ [[aI .u32 ot.b.ad, .own (N.length + 7) 1 0 (L.length + 1)]]⟩ :: (N ++ tb :: (W ++ [⟨0, true, 48, 2, [[aI .u32 ot.b.ad, .own (N.length + 7) 1 0 (L.length + 1)]]⟩]))),
     (5888, gB g :: zGr :: oGr g.ad (G.b.length + 1) :: ⟨G.b.length + 1, true, 48, 2, rowsOB T ++ [[aI .u32 ot.b.ad, .own (N.length + 7) 1 0 (L.length + 1)]]⟩ :: (N ++ tb :: (W ++ [⟨0, true, 48, 2, [[aI .u32 ot.b.ad, .own (N.length + 7) 1 0 (L.length + 1)]]⟩])))]
    (by kernel_rfl) (by kernel_rfl) rfl rfl ?_ ?_
   ·simp only [rowsR, List.mem_cons, List.not_mem_nil, or_false, forall_eq_or_imp, forall_eq]
    refine ⟨⟨?_, ?_, ?_, nmy (by kernel_rfl), nmy (by kernel_rfl)⟩, ⟨?_, ?_, ?_, nmy (by kernel_rfl), nmy (by kernel_rfl)⟩, ⟨?_, nmy (by kernel_rfl), nmy (by kernel_rfl), nmy (by kernel_rfl), nmy (by kernel_rfl)⟩, ⟨?_, nmy (by kernel_rfl), nmy (by kernel_rfl), nmy (by kernel_rfl), nmy (by kernel_rfl)⟩, ⟨?_, nmy (by kernel_rfl), nmy (by kernel_rfl), nmy (by kernel_rfl), nmy (by kernel_rfl)⟩, ⟨?_, nmy (by kernel_rfl), nmy (by kernel_rfl), nmy (by kernel_rfl), nmy (by kernel_rfl)⟩, ⟨?_, nmy (by kernel_rfl), nmy (by kernel_rfl), nmy (by kernel_rfl), nmy (by kernel_rfl)⟩, ⟨?_, nmy (by kernel_rfl), nmy (by kernel_rfl), nmy (by kernel_rfl), nmy (by kernel_rfl)⟩, ⟨?_, nmy (by kernel_rfl), nmy (by kernel_rfl), nmy (by kernel_rfl), nmy (by kernel_rfl)⟩, ⟨nmy (by kernel_rfl), ?_, nmy (by kernel_rfl), nmy (by kernel_rfl), nmy (by kernel_rfl)⟩, ⟨nmy (by kernel_rfl), nmy (by kernel_rfl), ?_, nmy (by kernel_rfl), nmy (by kernel_rfl)⟩, ⟨nmy (by kernel_rfl), nmy (by kernel_rfl), nmy (by kernel_rfl), ?_, nmy (by kernel_rfl)⟩, ⟨nmy (by kernel_rfl), nmy (by kernel_rfl), nmy (by kernel_rfl), ?_, nmy (by kernel_rfl)⟩, trivial⟩
    all_goals
     intro hmay
     clear hmay
     intro e' K' h A3 hA hk
     simp only [Op.operands, Call.operands] at h
     simp [still, heapM, putR, dvA] at h hA hk
     subst hA
     simp [h, e1, e2, e5, apA, apA0, apS, apS0, tb1, tb2, tb3, tb4, hrl, hTl, ht, hrt1, hrt2, hsl]
     try exact hk
    ·refine aCall_ofc hown (by simp) ?_
     rintro _ _ ⟨rfl, rfl⟩
     exact hk
    ·refine aRaw_app byt_23 ?_
     have hmx : G.b.length < maxLen := by unfold maxLen; omega
     simp [h, hrl, hTl]
     refine ⟨by omega, by omega, ?_⟩
     exact hk
   obtain ⟨La, sa, hbsa, ha1, ha2, ha3, ha4⟩ := hOk.at' oa (gMO hoa)
   obtain ⟨hsa8, hLal, hqa⟩ : (sa.op ≠ 8 → sa.cs = []) ∧ La.length ≤ 1000000 - 1 ∧ ∀ q ∈ La ++ [sa], q.e.length ≤ 1000000 ∧ (∀ y ∈ q.e, y.nodes ≤ 1000000000) ∧ q.cs.length ≤ 2000000 := by
    obtain ⟨L', s', h1, h2, h3, h4⟩ := hGb oa.b (gMO hba)
    rw [hbsa] at h1
    have h5 := List.append_inj' h1 rfl
    obtain ⟨rfl, h6⟩ := h5
    obtain rfl : sa = s' := by simpa using h6
    exact ⟨h2, h3, h4⟩
   have hsla : oa.b.s.length = La.length + 1 := by rw [hbsa]; simp
   obtain ⟨T', hT'⟩ : ∃ T', T' = T ++ [(⟨ot.b, N.length + 7, newC (gB g :: zGr :: oGr g.ad G.b.length :: bsB G.b.length T :: (N ++ [tb])) L s⟩ : OB)] := ⟨_, rfl⟩
   have hrT : rowsOB T' = rowsOB T ++ [[aI .u32 ot.b.ad, .own (N.length + 7) 1 0 (L.length + 1)]] := by rw [hT']; simp [rowsOB, hsl]
   have hx1 := newB_x (gB g :: zGr :: oGr g.ad (G.b.length + 1) :: bsB (G.b.length + 1) T' :: (N ++ [tb])) ot.b.ad L s (.own ot.c 1 0 s.cs.length) [⟨0, true, 48, 2, [[aI .u32 ot.b.ad, .own (N.length + 7) 1 0 (L.length + 1)]]⟩]
   have hx2 := newB_c (gB g :: zGr :: oGr g.ad (G.b.length + 1) :: bsB (G.b.length + 1) T' :: (N ++ [tb])) ot.b.ad L s (.own ot.c 1 0 s.cs.length) [⟨0, true, 48, 2, [[aI .u32 ot.b.ad, .own (N.length + 7) 1 0 (L.length + 1)]]⟩]
   have hle : (gB g :: zGr :: oGr g.ad (G.b.length + 1) :: bsB (G.b.length + 1) T' :: (N ++ [tb])).length = (gB g :: zGr :: oGr g.ad G.b.length :: bsB G.b.length T :: (N ++ [tb])).length := by simp
   rw [newB_len hle, hW, newC_len hle] at hx1 hx2
   rw [hle, hl5] at hx1
   have hcgt : N.length + 7 < newC (gB g :: zGr :: oGr g.ad G.b.length :: bsB G.b.length T :: (N ++ [tb])) L s := by unfold newC; rw [hl5]; omega
   have happ : (gB g :: zGr :: oGr g.ad (G.b.length + 1) :: bsB (G.b.length + 1) T' :: (N ++ [tb])) ++ (W ++ [⟨0, true, 48, 2, [[aI .u32 ot.b.ad, .own (N.length + 7) 1 0 (L.length + 1)]]⟩]) = gB g :: zGr :: oGr g.ad (G.b.length + 1) :: bsB (G.b.length + 1) T' :: (N ++ tb :: (W ++ [⟨0, true, 48, 2, [[aI .u32 ot.b.ad, .own (N.length + 7) 1 0 (L.length + 1)]]⟩])) := by simp
   rw [happ] at hx1 hx2
   obtain ⟨N2, hN2⟩ : ∃ N2 : AHeap, N ++ tb :: (W ++ [⟨0, true, 48, 2, [[aI .u32 ot.b.ad, .own (N.length + 7) 1 0 (L.length + 1)]]⟩]) = N2 := ⟨_, rfl⟩
   have hOk2 : OkT (gB g :: zGr :: oGr g.ad (G.b.length + 1) :: bsB (G.b.length + 1) T' :: N2) T' := by
    rw [← hN2]
    have := hOk.add (H' := gB g :: zGr :: oGr g.ad (G.b.length + 1) :: bsB (G.b.length + 1) T' :: (N ++ tb :: (W ++ [⟨0, true, 48, 2, [[aI .u32 ot.b.ad, .own (N.length + 7) 1 0 (L.length + 1)]]⟩]))) (fun j h3 hj => keep4 h3 (by simpa using hj)) hbs (by simp) (by omega) hcgt hx1 hx2
    rwa [← hT'] at this
   have hoa2 : T'[a]? = some oa := by rw [hT', gAL (by omega)]; exact hoa
   have hb1 : (gB g :: zGr :: oGr g.ad (G.b.length + 1) :: bsB (G.b.length + 1) T' :: N2)[oa.x]? = some (sBk La sa oa.c) := by rw [← hN2]; exact (keep4 ha3 (by simpa using (gSI.1 ha1).1)).trans ha1
   have hb2 : (gB g :: zGr :: oGr g.ad (G.b.length + 1) :: bsB (G.b.length + 1) T' :: N2)[oa.c]? = some (nbk 1 sa.cs) := by rw [← hN2]; exact (keep4 (by omega) (by simpa using (gSI.1 ha2).1)).trans ha2
   have hred := lpredir_ac oa.b.ad La sa oa.x oa.c (t : Int) (G.b.length : Int) _ (by omega) (hqa sa (by simp)).2.2 hsa8 (by omega) hb1 hb2
   have hturn := hOk2.turn hoa2 hbsa (t : Int) (G.b.length : Int) [⟨0, true, 48, 2, [[aI .u32 oa.b.ad, .own oa.x 1 0 (La.length + 1)]]⟩]
   have hrT1 : (rowsOB T')[a]? = some [aI .u32 oa.b.ad, .own oa.x 1 0 (La.length + 1)] := by simp [rowsOB, hoa2, hsla]
   have hrT2 := (gSI.1 hrT1).2
   have hrTl : (rowsOB T').length = G.b.length + 1 := by rw [rowsOB_len, hT']; simp [hTl]
   have hm1 : IntKind.i64.wrap (G.b.length : Int) = (G.b.length : Int) := i64w (by omega)
   have ha5 : a < G.b.length + 1 := by omega
   have ha6 : (a : Int) < (G.b.length : Int) + 1 := by omega
   have htN : ∀ a1 a2 a3 a4 : Blk, (a1 :: a2 :: a3 :: a4 :: N2)[N.length + 1 + 1 + 1 + 1]? = some tb := fun a1 a2 a3 a4 => by rw [← hN2]; simp
   simp [putR, e5, apA, apA0, apS, apS0, tb1, tb2, tb3, tb4, hrl, hTl]
   rw [← hrT, hN2]
   refine adrawR [.ptr 2 0 0 1, .own 3 (G.b.length + 1) 0 (G.b.length + 1), .ptr (N.length + 1 + 1 + 1 + 1) 0 0 0, aI .i64 a, .ptr 3 (G.b.length + 1) a 0, .agg [aI .u32 oa.b.ad, .own oa.x 1 0 (La.length + 1)], .ptr (N.length + 1 + 1 + 1 + 1) 0 0 1, aI .i64 t, .ptr 2 0 0 1, .own 3 (G.b.length + 1) 0 (G.b.length + 1), aI .i64 ((G.b.length : Int) + 1), aI .i64 G.b.length, .tup []]
    [(0, gB g :: zGr :: oGr g.ad (G.b.length + 1) :: bsB (G.b.length + 1) T' :: N2),
     (4096, hp2 (gB g :: zGr :: oGr g.ad (G.b.length + 1) :: bsB (G.b.length + 1) T' :: N2) oa.x oa.c (sBk La (rdS sa t G.b.length) oa.c) (nbk 1 (rdS sa t G.b.length).cs) ++ [⟨0, true, 48, 2, [[aI .u32 oa.b.ad, .own oa.x 1 0 (La.length + 1)]]⟩])]
    (by kernel_rfl) (by kernel_rfl) rfl rfl ?_ ?_
   ·simp only [rowsR, List.mem_cons, List.not_mem_nil, or_false, forall_eq_or_imp, forall_eq]
    refine ⟨⟨?_, nmy (by kernel_rfl)⟩, ⟨?_, nmy (by kernel_rfl)⟩, ⟨?_, nmy (by kernel_rfl)⟩, ⟨?_, nmy (by kernel_rfl)⟩, ⟨?_, nmy (by kernel_rfl)⟩, ⟨?_, nmy (by kernel_rfl)⟩, ⟨?_, nmy (by kernel_rfl)⟩, ⟨?_, nmy (by kernel_rfl)⟩, ⟨?_, nmy (by kernel_rfl)⟩, ⟨?_, nmy (by kernel_rfl)⟩, ⟨?_, nmy (by kernel_rfl)⟩, ⟨?_, nmy (by kernel_rfl)⟩, ⟨?_, nmy (by kernel_rfl)⟩, trivial⟩
    all_goals
     intro hmay
     clear hmay
     intro e' K' h A3 hA hk
     simp only [Op.operands, Call.operands] at h
     simp [still, heapM, putR, dvA] at h hA hk
     subst hA
     simp [h, e1, e2, e5, apA, apA0, apS, apS0, tb1, tb2, tb3, tb4, hrTl, hrT1, hrT2, ha5, ha6, hm1, htN]
     try exact hk
    refine aCall_ofc hred (by simp) ?_
    rintro _ _ ⟨rfl, rfl⟩
    exact hk
   simp only [putR]
   have hstp : stpG G a t = ⟨G.ad, (G.b ++ [ot.b]).set a (rdB oa.b t G.b.length)⟩ := by
    unfold stpG
    rw [hbt, hba]
   have hsl2 := stpG_len (G := G) (a := a) (t := t) ha ht
   have hrT3 : rowsOB (T'.set a ⟨rdB oa.b t G.b.length, oa.x, oa.c⟩) = rowsOB T' := by
    have h1 : rowsOB (T'.set a ⟨rdB oa.b t G.b.length, oa.x, oa.c⟩) = (rowsOB T').set a [aI .u32 (rdB oa.b t G.b.length).ad, .own oa.x 1 0 (rdB oa.b t G.b.length).s.length] := by simp [rowsOB, List.map_set]
    rw [h1, rdB_eq hbsa]
    exact set_same (by simpa using hrT1)
   have hmap : (T'.set a ⟨rdB oa.b t G.b.length, oa.x, oa.c⟩).map OB.b = (stpG G a t).b := by
    rw [hstp, List.map_set, hT', List.map_append, hT]
    rfl
   have hcw : ((c : Int) + ((L.length : Int) + 1)) = ((c + ot.b.s.length : Nat) : Int) := by rw [hsl]; omega
   refine hK (f, stpG G a t, c + ot.b.s.length) _ _ _ _ (Sub.refl _ _ _) ⟨?_, ?_, ?_, ?_, stpG_ok hGb a t, ?_, hRs, ⟨T'.set a ⟨rdB oa.b t G.b.length, oa.x, oa.c⟩, hp2 N2 (oa.x - 4) (oa.c - 4) (sBk La (rdS sa t G.b.length) oa.c) (nbk 1 (rdS sa t G.b.length).cs) ++ [⟨0, true, 48, 2, [[aI .u32 oa.b.ad, .own oa.x 1 0 (La.length + 1)]]⟩], ?_, hmap, ?_⟩, by simp [e1], by simp [e2], by simp [e5], ?_⟩ (by simp)
   ·simp only; omega
   ·rw [hstp]; exact hGa
   ·simp only; omega
   ·simp only; omega
   ·simp only; omega
   ·rw [hp2_4 ha3 (by omega), hsl2]
    simp [hrT3]
   ·exact hturn
   ·simp [e6, hsl]
def exG : Gr := ⟨0, [⟨0, [⟨6, 0, 0, 1, 0, 0, [], []⟩]⟩, ⟨0, [⟨7, 0, 0, 1, 2, 0, [Ex.mk 2 0 0 0 []], []⟩]⟩, ⟨0, [⟨10, 0, 0, 0, 0, 0, [], []⟩]⟩]⟩
theorem l35g_af : AF Tryz.prog 19 [] (grV exG) := by
 refine af_of Tryz.func19 rfl (by kernel_rfl) (by simp [Tryz.ntmps19]) fun _ => ?_; simp [Tryz.f19, Ex.d_eq]
 simp [exG, Bl.d_eq, St.d_eq, Ex.d_eq]
theorem exG_fit : GrFit exG := ⟨by simp [exG], fun b hb => by
 simp [exG] at hb
 rcases hb with rfl | rfl | rfl <;> simp⟩
theorem exG_len : exG.b.length = 3 := rfl
theorem exG_e0 : edgN exG 0 = [1] := by kernel_rfl
theorem exG_e1 : edgN exG 1 = [1, 2] := by kernel_rfl
theorem exG_e2 : edgN exG 2 = [] := by kernel_rfl
theorem exG_ord : ordN exG = [0, 1, 2] := by kernel_rfl
theorem exG_b0 : bkRow exG 0 = [] := by kernel_rfl
theorem exG_b2 : bkRow exG 2 = [] := by kernel_rfl
theorem exG_back : bkL exG 3 = [(1, 1)] := by kernel_rfl
theorem exG_d1 : domB exG 1 1 = true := by kernel_rfl
theorem exG_in (x : Nat) : InBody exG 1 x ↔ x = 1 := by
 constructor
 ·rintro (h | ⟨_, a, ha, hp⟩)
  ·exact h
  ·exfalso
   have han := dgN_lt (edgOk exG) (bkRow_rc ha).1
   rw [exG_len] at han
   have := hp.last
   rcases (show a = 0 ∨ a = 1 ∨ a = 2 by omega) with rfl | rfl | rfl
   ·rw [exG_b0] at ha; cases ha
   ·exact this rfl
   ·rw [exG_b2] at ha; cases ha
 ·rintro rfl; exact .inl rfl
theorem exG_body : bodyL exG 1 = [1] := by
 refine nI_inj (asc_ext (bodyL_asc exG 1) (by simp [Asc]) fun v => ?_)
 rw [nI_mem]
 constructor
 ·rintro ⟨x, hx, rfl⟩
  rw [(exG_in x).1 (bodyL_mem.1 hx).2]
  simp
 ·intro hv
  simp at hv
  subst hv
  exact ⟨1, bodyL_mem.2 ⟨by rw [exG_len]; omega, (exG_in 1).2 rfl⟩, rfl⟩
theorem exG_exit : exitL exG 1 = [2] := by
 refine nI_inj (asc_ext (exitL_asc exG 1) (by simp [Asc]) fun v => ?_)
 rw [nI_mem]
 constructor
 ·rintro ⟨x, hx, rfl⟩
  obtain ⟨_, h2, b, h3, h4⟩ := exitL_mem.1 hx
  rw [exG_body] at h2 h3
  simp at h2 h3
  subst h3
  rw [exG_e1] at h4
  simp at h4
  rcases h4 with h4 | h4
  ·exact absurd h4 h2
  ·subst h4; simp
 ·intro hv
  simp at hv
  subst hv
  exact ⟨2, exitL_mem.2 ⟨by rw [exG_len]; omega, by rw [exG_body]; simp, 1, by rw [exG_body]; simp, by rw [exG_e1]; simp⟩, rfl⟩
theorem exG_find : findL exG = [⟨1, [1], [2], -1⟩] := by
 have h1 : fnd0 exG (ordN exG) = [lpOf exG 1] := by
  unfold fnd0
  rw [exG_ord]
  have : ([0, 1, 2] : List Nat).filter (isHd exG) = [1] := by
   unfold isHd
   rw [show exG.b.length = 3 from rfl, exG_back]
   rfl
  rw [this]
  rfl
 unfold findL
 rw [h1]
 simp only [lpOf, exG_body, exG_exit]
 rfl
theorem exG_red (Y : Nat → Prop) (hY : SuccSt exG.b.length (fun b p => NB exG p b) Y) (b : Nat) : ¬ Y b := by
 have key : ∀ p c, NB exG p c → (p = 0 ∧ c = 1) ∨ (p = 1 ∧ c = 2) := by
  rintro p c ⟨h1, h2, h3⟩
  have hp := dgN_lt (edgOk exG) h1
  rw [exG_len] at hp
  rcases (show p = 0 ∨ p = 1 ∨ p = 2 by omega) with rfl | rfl | rfl
  ·rw [exG_e0] at h2; simp at h2; exact .inl ⟨rfl, h2⟩
  ·rw [exG_e1] at h2
   simp at h2
   rcases h2 with rfl | rfl
   ·rw [exG_d1] at h3; cases h3
   ·exact .inr ⟨rfl, rfl⟩
  ·rw [exG_e2] at h2; cases h2
 have h0 : ¬ Y 0 := fun h => by
  obtain ⟨_, p, _, hp⟩ := hY 0 h
  rcases key p 0 hp with ⟨_, h⟩ | ⟨_, h⟩ <;> omega
 have h1 : ¬ Y 1 := fun h => by
  obtain ⟨_, p, hy, hp⟩ := hY 1 h
  rcases key p 1 hp with ⟨h2, _⟩ | ⟨_, h2⟩
  ·subst h2; exact h0 hy
  ·omega
 intro h
 obtain ⟨_, p, hy, hp⟩ := hY b h
 rcases key p b hp with ⟨h2, _⟩ | ⟨h2, _⟩
 ·subst h2; exact h0 hy
 ·subst h2; exact h1 hy
theorem l35ex_af : AF Tryz.prog 7 [] (aB true) := by
 have hB := lpback_af exG exG_fit (by rw [exG_len]; omega)
 rw [exG_len, exG_back] at hB
 have hF := lpfind_af exG exG_fit (by rw [exG_len]; omega)
 rw [exG_find] at hF
 obtain ⟨r, hr, hR⟩ := lpred_one exG exG_fit (by rw [exG_len]; omega)
 have : r = true := hr.2 exG_red
 subst this
 have hg := l35g_af
 generalize exG = g at *
 refine af_of Tryz.func7 rfl (by kernel_rfl) (by simp [Tryz.ntmps7]) fun _ => ?_; simp [Tryz.f7, Ex.d_eq]
 refine aCall_of hg (by kernel_rfl) (by simp) ?_
 simp
 refine aCall_of hB (by kernel_rfl) (by simp) ?_
 simp
 refine aCall_of hg (by kernel_rfl) (by simp) ?_
 simp
 refine aCall_of hF (by kernel_rfl) (by simp) ?_
 have hc3 : Tryz.prog.cellsOf 3 = 1 := by kernel_rfl
 have heq := eqIs_two (P := Tryz.prog) (el := 3) Tryz.underlying3 1 1 1 1
 simp [-eqIs, prs, lps, Lp.d, hc3, heq]
 change aSet _ _ _ _ _
 simp
 refine aCall_of hg (by kernel_rfl) (by simp) ?_
 simp
 refine aCall_of hR (by kernel_rfl) (by simp) ?_
 simp
def lrgS : List Bl → Nat → Bool
 | [], _ => false
 | b :: l, n => if 300 < n + b.s.length then true else lrgS l (n + b.s.length)
def lrg35 (g : Gr) : Bool := decide (30 < g.b.length) || !smallG g 70 || lrgS g.b 0
theorem l35large_af (g : Gr) : AF Tryz.prog 5 [grV g] (aB (lrg35 g)) := by
 obtain ⟨R, hR⟩ : ∃ R, lrg35 g = R := ⟨_, rfl⟩
 rw [hR]
 unfold lrg35 at hR
 refine af_of Tryz.func5 rfl (by kernel_rfl) (by simp [Tryz.ntmps5]) fun _ => ?_; simp [Tryz.f5, Ex.d_eq]
 by_cases h3 : 30 < g.b.length
 ·simp [h3] at hR
  subst hR
  simp [show (30 : Int) < g.b.length by omega]
 have hl : g.b.length ≤ maxLen := by unfold maxLen; omega
 simp [h3] at hR
 simp [show ¬ (30 : Int) < g.b.length by omega]
 refine aCall_of (smallg_af g 70 (by omega) (by omega)) (by kernel_rfl) (by simp) ?_
 cases hs : smallG g 70 with
 | false =>
   simp [hs] at hR
   subst hR
   simp
 | true =>
   have hfit := smallG_fit hs
   simp [hs] at hR
   simp
   refine aLoop_st (α := Nat × Nat) (fun p => [(1, .ptr 0 0 0 0), (3, aI .i64 p.2), (4, aI .i64 p.1)]) (fun _ => [gB g]) (fun p => p.1 ≤ g.b.length ∧ p.2 ≤ 300 ∧ lrgS (g.b.drop p.1) p.2 = R) (fun p => g.b.length - p.1) (0, 0) (Sub.refl _ _ _) 1 (by omega) (by simp [cln_gB]) (by simp) ⟨by omega, by omega, by simpa using hR⟩ ?_
   rintro ⟨i, n⟩ ⟨hi, hn, hx⟩ K hK
   simp only at hi hn hx hK ⊢
   rcases Nat.lt_or_ge i g.b.length with hlt | hge
   case inr =>
    obtain rfl : i = g.b.length := by omega
    simp [lrgS] at hx
    subst hx
    simp
   obtain ⟨b, hb⟩ : ∃ b, g.b[i]? = some b := ⟨_, gEG hlt⟩
   have hb2 := (gSI.1 hb).2
   have hbl := (hfit.2.2 b (gMO hb)).1
   have hdrop : g.b.drop i = b :: g.b.drop (i + 1) := by rw [List.drop_eq_getElem_cons hlt, hb2]
   rw [hdrop, lrgS] at hx
   have hw : IntKind.i64.wrap ((n : Int) + (b.s.length : Int)) = ((n + b.s.length : Nat) : Int) := by rw [i64w (by omega)]; omega
   simp [hlt, hb, hb2, Bl.d_eq, hw]
   by_cases h4 : 300 < n + b.s.length
   ·rw [if_pos h4] at hx
    subst hx
    simp [show (300 : Int) < (n : Int) + (b.s.length : Int) by omega]
   ·rw [if_neg h4] at hx
    simp [show ¬ (300 : Int) < (n : Int) + (b.s.length : Int) by omega, succ_wrap hlt hl]
    exact hK (i + 1, n + b.s.length) ⟨by simp only; omega, by simp only; omega, hx⟩ (by simp only; omega) (Sub.refl _ _ _) 1 (by omega) (by simp [cln_gB]) (by simp)
theorem lrg35_fit {g : Gr} (h : lrg35 g = false) : GrFit g ∧ g.b.length ≤ 30 := by
 unfold lrg35 at h
 simp at h
 exact ⟨(smallG_fit h.1.2).1, h.1.1⟩
theorem stsErr_at : ∀ {l : List St}, stsErr l = 0 → ∀ s ∈ l, stErr s = 0
 | [], _, s, hs => by cases hs
 | a :: l, h, s, hs => by
   simp only [stsErr] at h
   split at h
   ·rename_i h0
    rcases List.mem_cons.1 hs with rfl | hs
    ·exact h0
    ·exact stsErr_at h s hs
   ·exact absurd h ‹_›
theorem blOk_of {g : Gr} (hg : GrFit g) (hn : ∀ b ∈ g.b, ∀ s ∈ b.s, ∀ e ∈ s.e, e.nodes ≤ 1000000000) (he : grErr g = 0) : ∀ b ∈ g.b, BlOk b := by
 intro b hb
 unfold grErr at he
 split at he
 ·cases he
 split at he
 ·cases he
 rename_i h1 h2
 have hcl : closedB g.b.length b = true := by
  have : g.b.all (closedB g.b.length) = true := by
   cases h : g.b.all (closedB g.b.length) with
   | true => rfl
   | false => exact absurd (.inr h) h2
  exact List.all_eq_true.1 this b hb
 unfold closedB at hcl
 split at hcl
 case h_2 => cases hcl
 rename_i s hs
 obtain ⟨L, hL⟩ : ∃ L, b.s = L ++ [s] := by
  obtain ⟨ys, hys⟩ := List.getLast?_eq_some_iff.1 hs
  exact ⟨ys, hys⟩
 have hst := stsErr_at (blsErr_mem he b hb)
 have hf := hg.2 b hb
 refine ⟨L, s, hL, fun h8 => ?_, ?_, fun q hq => ?_⟩
 ·have h3 := hst s (by rw [hL]; simp)
  unfold stErr at h3
  split at h3
  case isFalse => cases h3
  split at h3
  case isFalse => exact absurd h3 ‹_›
  split at h3
  case isFalse => cases h3
  rename_i hfb
  unfold fieldsB at hfb
  simp only [Bool.and_eq_true] at hfb
  have h4 := hfb.2
  rw [if_neg h8] at h4
  simpa using h4
 ·have := hf.1
  rw [hL] at this
  simp at this
  omega
 ·rw [← hL] at hq
  exact ⟨(hf.2 q hq).1, hn b hb q hq, (hf.2 q hq).2⟩
theorem lrgS_cnt : ∀ {l : List Bl} {n : Nat}, lrgS l n = false → n ≤ 300 → n + cntS l ≤ 300
 | [], n, _, h => by simpa [cntS] using h
 | b :: l, n, h, hn => by
   unfold lrgS at h
   split at h
   ·cases h
   ·rename_i h1
    have := lrgS_cnt h (by omega)
    simp only [cntS, List.map_cons, List.sum_cons] at this ⊢
    omega
theorem splF_ok : ∀ (f : Nat) (G : Gr) (c : Nat) (G' : Gr), (∀ b ∈ G.b, BlOk b) → G.b.length ≤ 256 → splF f G c = some G' → (∀ b ∈ G'.b, BlOk b) ∧ G'.b.length ≤ 256
 | 0, G, c, G', _, _, h => by cases h
 | f + 1, G, c, G', hB, hl, h => by
   cases hb : badG G with
   | none =>
     rw [splF, hb] at h
     obtain rfl := oSI h
     exact ⟨hB, hl⟩
   | some p =>
     obtain ⟨a, t⟩ := p
     obtain ⟨ha, ht, _, _⟩ := badG_lt hb
     rw [splF_some hb (gEG ht)] at h
     split at h
     ·cases h
     ·rename_i hn
      exact splF_ok f _ _ G' (stpG_ok hB a t) (by rw [stpG_len ha ht]; omega) h
structure GOk (G : Gr) : Prop where
 pos : 0 < G.b.length
 len : G.b.length ≤ 256
 cnt : stN G.b ≤ 1024
 cl : ∀ b ∈ G.b, closedB G.b.length b = true
 er : ∀ b ∈ G.b, ∀ s ∈ b.s, stErr s = 0
theorem stsErr_of : ∀ {l : List St}, (∀ s ∈ l, stErr s = 0) → stsErr l = 0
 | [], _ => rfl
 | a :: l, h => by
   simp only [stsErr]
   rw [if_pos (h a (by simp))]
   exact stsErr_of fun s hs => h s (by simp [hs])
theorem blsErr_of : ∀ {l : List Bl}, (∀ b ∈ l, ∀ s ∈ b.s, stErr s = 0) → blsErr l = 0
 | [], _ => rfl
 | a :: l, h => by
   simp only [blsErr]
   rw [if_pos (stsErr_of (h a (by simp)))]
   exact blsErr_of fun b hb => h b (by simp [hb])
theorem gOk_of {g : Gr} (h : grErr g = 0) : GOk g := by
 unfold grErr at h
 split at h
 ·cases h
 split at h
 ·cases h
 rename_i h1 h2
 refine ⟨by omega, by omega, by omega, fun b hb => ?_, fun b hb s hs => stsErr_at (blsErr_mem h b hb) s hs⟩
 have : g.b.all (closedB g.b.length) = true := by
  cases h' : g.b.all (closedB g.b.length) with
  | true => rfl
  | false => exact absurd (.inr h') h2
 exact List.all_eq_true.1 this b hb
theorem GOk.err {g : Gr} (h : GOk g) : grErr g = 0 := by
 unfold grErr
 have h1 := h.pos
 have h2 := h.len
 have h3 := h.cnt
 rw [if_neg (by omega), if_neg, blsErr_of h.er]
 rintro (h4 | h4)
 ·omega
 ·rw [List.all_eq_true.2 h.cl] at h4
  cases h4
theorem stN_cnt : ∀ l : List Bl, stN l = cntS l
 | [] => rfl
 | b :: l => by simp [stN, stN_cnt l, cntS]
theorem closed_mk {n : Nat} {b : Bl} {L : List St} {e : St} (hL : b.s = L ++ [e]) (h1 : termB e = true) (h2 : ∀ s ∈ L, termB s = false) (h3 : ∀ k ∈ tgts e, 0 ≤ k ∧ k < (n : Int)) : closedB n b = true := by
 unfold closedB
 rw [hL, List.getLast?_concat]
 simp only [Bool.and_eq_true, Bool.not_eq_true']
 refine ⟨⟨h1, ?_⟩, ?_⟩
 ·rw [List.any_eq_false]
  intro s hs
  have hs : s ∈ L := by simpa using hs
  simp [h2 s hs]
 ·rw [List.any_eq_false]
  intro k hk
  have := h3 k hk
  simp
  omega
theorem rdS_op (s : St) (f t : Int) : (rdS s f t).op = s.op := rfl
theorem fields_cs {s : St} (h : stErr s = 0) (h8 : s.op ≠ 8) : s.cs = [] := by
 unfold stErr at h
 split at h
 case isFalse => cases h
 split at h
 case isFalse => exact absurd h ‹_›
 split at h
 case isFalse => cases h
 rename_i hf
 unfold fieldsB at hf
 simp only [Bool.and_eq_true] at hf
 have h4 := hf.2
 rw [if_neg h8] at h4
 simpa using h4
theorem rdS_err {s : St} (h : stErr s = 0) (f t : Int) : stErr (rdS s f t) = 0 := by
 unfold stErr at h ⊢
 have e1 : (rdS s f t).op = s.op := rfl
 have e2 : (rdS s f t).e = s.e := rfl
 rw [e1, e2]
 split at h
 case isFalse => cases h
 rw [if_pos ‹_›]
 split at h
 case isFalse => exact absurd h ‹_›
 rw [if_pos ‹_›]
 split at h
 case isFalse => cases h
 rename_i hf
 rw [if_pos]
 unfold fieldsB at hf ⊢
 simp only [Bool.and_eq_true] at hf ⊢
 obtain ⟨⟨⟨⟨⟨q1, q2⟩, q3⟩, q4⟩, q5⟩, q6⟩ := hf
 refine ⟨⟨⟨⟨⟨q1, q2⟩, ?_⟩, ?_⟩, q5⟩, ?_⟩
 ·simp only [rdS]
  by_cases ho : s.op = 6 ∨ s.op = 7
  ·rcases ho with ho | ho <;> simp [ho]
  ·rw [if_neg (fun h => ho h.1)]
   exact q3
 ·simp only [rdS]
  by_cases ho : s.op = 7
  ·simp [ho]
  ·rw [if_neg (fun h => ho h.1)]
   exact q4
 ·by_cases ho : s.op = 8
  ·rw [if_pos ho] at q6
   have e3 : (rdS s f t).op = 8 := ho
   have e4 : (rdS s f t).cs.length = s.cs.length := by simp [rdS]
   rw [if_pos e3, e4]
   exact q6
  ·rw [if_neg ho] at q6
   have e3 : ¬ (rdS s f t).op = 8 := ho
   have e5 : s.cs = [] := by simpa using q6
   have e4 : (rdS s f t).cs = [] := by simp [rdS, e5]
   rw [if_neg e3, e4]
   simp
theorem rdS_tgts {s : St} {f t k : Int} (h : k ∈ tgts (rdS s f t)) : k = t ∨ k ∈ tgts s := by
 unfold tgts at h ⊢
 rw [rdS_op] at h
 split at h
 ·rename_i h6
  simp only [rdS, List.mem_singleton] at h
  split at h
  ·exact .inl h
  ·exact .inr (by rw [if_pos h6]; simp [h])
 rename_i h6
 split at h
 ·rename_i h7
  rw [if_neg h6, if_pos h7]
  simp only [rdS, List.mem_cons, List.not_mem_nil, or_false] at h
  rcases h with h | h
  ·split at h
   ·exact .inl h
   ·exact .inr (by simp [h])
  ·split at h
   ·exact .inl h
   ·exact .inr (by simp [h])
 rename_i h7
 split at h
 ·rename_i h8
  rw [if_neg h6, if_neg h7, if_pos h8]
  simp only [rdS, List.mem_map] at h
  obtain ⟨x, hx, rfl⟩ := h
  unfold swp
  split
  ·exact .inl rfl
  ·exact .inr hx
 ·cases h
structure StMap (π : Nat → Nat) (s s' : St) : Prop where
 op : s'.op = s.op
 va : s'.va = s.va
 wd : s'.wd = s.wd
 tg : s'.tg = s.tg
 e : s'.e = s.e
 nx : s.op = 6 ∨ s.op = 7 → s.nx.toNat = π s'.nx.toNat
 el : s.op = 7 → s.el.toNat = π s'.el.toNat
 cl : s'.cs.length = s.cs.length
 cs : s.op = 8 → ∀ i, i < s.cs.length → (s.cs.getD i 0).toNat = π (s'.cs.getD i 0).toNat
structure Cov (π : Nat → Nat) (g G : Gr) : Prop where
 ad : G.ad = g.ad
 z : π 0 = 0
 blk : ∀ (b' : Nat) (B' : Bl), G.b[b']? = some B' → ∃ B : Bl, g.b[π b']? = some B ∧ B'.ad = B.ad ∧ B'.s.length = B.s.length ∧ ∀ (i : Nat) (s s' : St), B.s[i]? = some s → B'.s[i]? = some s' → StMap π s s'
theorem cov_refl (g : Gr) : Cov id g g := ⟨rfl, rfl, fun b' B' h => ⟨B', h, rfl, rfl, fun i s s' h1 h2 => by
 rw [h1] at h2
 obtain rfl := oSI h2
 exact ⟨rfl, rfl, rfl, rfl, rfl, fun _ => rfl, fun _ => rfl, rfl, fun _ _ _ => rfl⟩⟩⟩
theorem StMap.far {π π' : Nat → Nat} {s s' : St} {n : Nat} (h : StMap π s s') (hT : ∀ k ∈ tgts s', 0 ≤ k ∧ k < (n : Int)) (hπ : ∀ x, x < n → π' x = π x) : StMap π' s s' := by
 have ho := h.op
 refine ⟨h.op, h.va, h.wd, h.tg, h.e, fun h67 => ?_, fun h7 => ?_, h.cl, fun h8 i hi => ?_⟩
 ·have hm : s'.nx ∈ tgts s' := by rcases h67 with e | e <;> simp [tgts, ho, e]
  have := hT _ hm
  rw [hπ _ (by omega)]
  exact h.nx h67
 ·have hm : s'.el ∈ tgts s' := by simp [tgts, ho, h7]
  have := hT _ hm
  rw [hπ _ (by omega)]
  exact h.el h7
 ·have hil : i < s'.cs.length := by rw [h.cl]; exact hi
  have hm : s'.cs.getD i 0 ∈ tgts s' := by
   rw [List.getD_eq_getElem?_getD, gEG hil]
   simp [tgts, ho, h8]
  have := hT _ hm
  rw [hπ _ (by omega)]
  exact h.cs h8 i hi
theorem StMap.turn {π π' : Nat → Nat} {s s' : St} {n t : Nat} (h : StMap π s s') (hT : ∀ k ∈ tgts s', 0 ≤ k ∧ k < (n : Int)) (hπ : ∀ x, x < n → π' x = π x) (hn : π' n = π t) : StMap π' s (rdS s' t n) := by
 have h2 := h.far hT hπ
 have ho := h.op
 refine ⟨h.op, h.va, h.wd, h.tg, h.e, fun h67 => ?_, fun h7 => ?_, by simp [rdS, h.cl], fun h8 i hi => ?_⟩
 ·simp only [rdS]
  split
  ·rename_i hc
   rw [Int.toNat_natCast, hn, h.nx h67, hc.2, Int.toNat_natCast]
  ·exact h2.nx h67
 ·simp only [rdS]
  split
  ·rename_i hc
   rw [Int.toNat_natCast, hn, h.el h7, hc.2, Int.toNat_natCast]
  ·exact h2.el h7
 ·have hil : i < s'.cs.length := by rw [h.cl]; exact hi
  have e1 : (rdS s' (t : Int) (n : Int)).cs.getD i 0 = swp t n (s'.cs.getD i 0) := by
   simp only [rdS, List.getD_eq_getElem?_getD, List.getElem?_map, gEG hil, Option.map_some, Option.getD_some]
  rw [e1]
  unfold swp
  split
  ·rename_i hc
   rw [Int.toNat_natCast, hn, h.cs h8 i hi, hc, Int.toNat_natCast]
  ·exact h2.cs h8 i hi
theorem stp_cov {π : Nat → Nat} {g G : Gr} (hG : GOk G) (hC : Cov π g G) {a t : Nat} {ba bt : Bl} (ha : G.b[a]? = some ba) (ht : G.b[t]? = some bt) (hl : G.b.length < 256) (hc : cntS G.b + bt.s.length ≤ 1024) :
  GOk (stpG G a t) ∧ Cov (fun x => if x = G.b.length then π t else π x) g (stpG G a t) ∧ cntS (stpG G a t).b = cntS G.b + bt.s.length := by
 obtain ⟨n, hn⟩ : ∃ n, G.b.length = n := ⟨_, rfl⟩
 have hal := (gSI.1 ha).1
 have htl := (gSI.1 ht).1
 have hG0 := hG.pos
 have hma := gMO ha
 have hmt := gMO ht
 obtain ⟨L, e, hL, c1, c2, c3⟩ := closed_end (hG.cl ba hma)
 have hst : stpG G a t = ⟨G.ad, (G.b ++ [bt]).set a (⟨ba.ad, L ++ [rdS e t n]⟩ : Bl)⟩ := by
  unfold stpG
  rw [ht, ha]
  simp only [rdB_eq hL, hn]
 have hlen : ((G.b ++ [bt]).set a (⟨ba.ad, L ++ [rdS e t n]⟩ : Bl)).length = n + 1 := by simp [hn]
 have hcnt : cntS ((G.b ++ [bt]).set a (⟨ba.ad, L ++ [rdS e t n]⟩ : Bl)) = cntS G.b + bt.s.length := by
  have h1 : ((G.b ++ [bt]).set a (⟨ba.ad, L ++ [rdS e t n]⟩ : Bl)).map (fun b => b.s.length) = (G.b ++ [bt]).map fun b => b.s.length := by
   rw [List.map_set]
   refine set_same ?_
   rw [List.getElem?_map, gAL hal, ha]
   simp [hL]
  unfold cntS
  rw [h1]
  simp
 rw [hst]
 have hat : ∀ (b' : Nat) (B' : Bl), ((G.b ++ [bt]).set a (⟨ba.ad, L ++ [rdS e t n]⟩ : Bl))[b']? = some B' → (b' = a ∧ B' = ⟨ba.ad, L ++ [rdS e t n]⟩) ∨ (b' ≠ a ∧ b' = n ∧ B' = bt) ∨ (b' ≠ a ∧ b' < n ∧ G.b[b']? = some B') := fun b' B' h => by
  by_cases hba : b' = a
  ·subst hba
   rw [gSS (by simp; omega)] at h
   exact .inl ⟨rfl, (oSI h).symm⟩
  ·rw [gSN (Ne.symm hba)] at h
   have h1 := (gSI.1 h).1
   simp only [List.length_append, List.length_singleton, hn] at h1
   by_cases hbn : b' = n
   ·subst hbn
    rw [← hn] at h
    rw [List.getElem?_concat_length] at h
    exact .inr (.inl ⟨hba, rfl, (oSI h).symm⟩)
   ·rw [gAL (by omega)] at h
    exact .inr (.inr ⟨hba, by omega, h⟩)
 have hcl : ∀ b ∈ G.b, closedB (n + 1) b = true := fun b hb => by
  obtain ⟨L, e, h1, h2, h3, h4⟩ := closed_end (hG.cl b hb)
  exact closed_mk h1 h2 h3 fun k hk => by have := h4 k hk; rw [hn] at this; omega
 obtain ⟨π', hπ'⟩ : ∃ p, (fun x => if x = G.b.length then π t else π x) = p := ⟨_, rfl⟩
 rw [hπ']
 have hπ : ∀ x, x < n → π' x = π x := fun x hx => by rw [← hπ']; simp only; rw [if_neg (by omega)]
 have hπn : π' n = π t := by rw [← hπ']; simp only; rw [if_pos hn.symm]
 clear hπ'
 refine ⟨⟨by simp only [hlen]; omega, by simp only [hlen]; omega, by simp only [stN_cnt, hcnt]; exact hc, fun b hb => ?_, fun b hb s hs => ?_⟩, ⟨hC.ad, ?_, fun b' B' hB' => ?_⟩, hcnt⟩
 ·simp only [hlen] at hb ⊢
  obtain ⟨b', hb'⟩ := List.mem_iff_getElem?.1 hb
  rcases hat b' b hb' with ⟨_, rfl⟩ | ⟨_, _, rfl⟩ | ⟨_, _, h⟩
  ·refine closed_mk rfl (by exact c1) c2 fun k hk => ?_
   rcases rdS_tgts hk with rfl | h
   ·omega
   ·have := c3 k h; rw [hn] at this; omega
  ·exact hcl _ hmt
  ·exact hcl _ (gMO h)
 ·obtain ⟨b', hb'⟩ := List.mem_iff_getElem?.1 hb
  rcases hat b' b hb' with ⟨_, rfl⟩ | ⟨_, _, rfl⟩ | ⟨_, _, h⟩
  ·rcases List.mem_append.1 hs with h | h
   ·exact hG.er ba hma s (by rw [hL]; exact List.mem_append_left _ h)
   ·rw [List.mem_singleton.1 h]
    exact rdS_err (hG.er ba hma e (by rw [hL]; simp)) _ _
  ·exact hG.er _ hmt s hs
  ·exact hG.er _ (gMO h) s hs
 ·rw [hπ 0 (by omega)]
  exact hC.z
 ·rcases hat b' B' hB' with ⟨rfl, rfl⟩ | ⟨_, rfl, rfl⟩ | ⟨_, hlt, h⟩
  ·obtain ⟨B, k1, k2, k3, k4⟩ := hC.blk b' ba ha
   refine ⟨B, by rw [hπ b' (by omega)]; exact k1, k2, by rw [← k3, hL]; simp, fun i s s' h1 h2 => ?_⟩
   rcases Nat.lt_or_ge i L.length with hi | hi
   ·simp only at h2
    rw [gAL hi] at h2
    have h3 : ba.s[i]? = some s' := by rw [hL, gAL hi]; exact h2
    refine (k4 i s s' h1 h3).far (n := n) ?_ hπ
    have := (closed_at (hG.cl ba hma) h3).1
    rwa [hn] at this
   ·have hil := (gSI.1 h2).1
    simp only [List.length_append, List.length_singleton] at hil
    obtain rfl : i = L.length := by omega
    simp only [List.getElem?_concat_length] at h2
    obtain rfl := oSI h2
    have h3 : ba.s[L.length]? = some e := by rw [hL, List.getElem?_concat_length]
    exact (k4 _ s e h1 h3).turn (by rwa [hn] at c3) hπ hπn
  ·obtain ⟨B, k1, k2, k3, k4⟩ := hC.blk t B' ht
   refine ⟨B, by rw [hπn]; exact k1, k2, k3, fun i s s' h1 h2 => (k4 i s s' h1 h2).far (n := b') ?_ hπ⟩
   have := (closed_at (hG.cl B' hmt) h2).1
   rwa [hn] at this
  ·obtain ⟨B, k1, k2, k3, k4⟩ := hC.blk b' B' h
   refine ⟨B, by rw [hπ b' hlt]; exact k1, k2, k3, fun i s s' h1 h2 => (k4 i s s' h1 h2).far (n := n) ?_ hπ⟩
   have := (closed_at (hG.cl B' (gMO h)) h2).1
   rwa [hn] at this
theorem spl_cov {g : Gr} : ∀ (f : Nat) (G : Gr) (c : Nat) (π : Nat → Nat) (G' : Gr), GOk G → cntS G.b = c → Cov π g G → splF f G c = some G' → ∃ π', GOk G' ∧ Cov π' g G' ∧ badG G' = none
 | 0, G, c, π, G', _, _, _, h => by cases h
 | f + 1, G, c, π, G', hG, hc, hC, h => by
   cases hb : badG G with
   | none =>
     rw [splF, hb] at h
     obtain rfl := oSI h
     exact ⟨π, hG, hC, hb⟩
   | some p =>
     obtain ⟨a, t⟩ := p
     obtain ⟨ha, ht, _, _⟩ := badG_lt hb
     rw [splF_some hb (gEG ht)] at h
     split at h
     ·cases h
     ·rename_i hn
      obtain ⟨q1, q2, q3⟩ := stp_cov hG hC (gEG ha) (gEG ht) (by omega) (by omega)
      exact spl_cov f _ _ _ G' q1 (by rw [q3, hc]) q2 h
theorem spl_red {g : Gr} {f c : Nat} (h : badG g = none) : splF (f + 1) g c = some g := by rw [splF, h]
theorem firG_zero {f : Nat → Gr → Int} : ∀ {l : List Gr} {i : Nat}, firG f i l = 0 ↔ ∀ (j : Nat) (x : Gr), l[j]? = some x → f (i + j) x = 0
 | [], i => by simp [firG]
 | a :: l, i => by
   simp only [firG]
   by_cases h0 : f i a = 0
   ·rw [if_neg (by simpa using h0), firG_zero]
    constructor
    ·intro h j x hx
     cases j with
     | zero => simp at hx; subst hx; exact h0
     | succ j => have := h j x (by simpa using hx); rwa [show i + (j + 1) = i + 1 + j by omega]
    ·intro h j x hx
     have := h (j + 1) x (by simpa using hx)
     rwa [show i + (j + 1) = i + 1 + j by omega] at this
   ·rw [if_pos (by simpa using h0)]
    exact ⟨fun h => absurd h h0, fun h => h 0 a rfl⟩
theorem prErr_gr {gs : List Gr} {ss : List Sec} {en : Int} (h : prErr gs ss en = 0) : secErr ss = 0 ∧ gs.length ≤ 64 ∧ (∀ (j : Nat) (g : Gr), gs[j]? = some g → gr1 gs j g = 0) ∧ gs.any (fun a => decide (a.ad = en)) = true := by
 unfold prErr at h
 split at h
 ·exact absurd h ‹_›
 split at h
 ·cases h
 split at h
 ·exact absurd h ‹_›
 split at h
 case isFalse => cases h
 rename_i h1 h2 h3 h4
 refine ⟨by simpa using h1, by omega, fun j g hg => ?_, h4⟩
 have := firG_zero.1 (by simpa using h3) j g hg
 simpa using this
theorem gr1_ok {gs : List Gr} {j : Nat} {g : Gr} (h : gr1 gs j g = 0) : grErr g = 0 := by
 unfold gr1 at h
 split at h
 ·exact absurd h ‹_›
 ·rename_i h0
  simpa using h0
theorem any_ad (l : List Gr) (y : Int) : l.any (fun a => decide (a.ad = y)) = (l.map Gr.ad).any fun a => decide (a = y) := by
 induction l with
 | nil => rfl
 | cons a l ih => simp [ih]
theorem prErr_set {gs : List Gr} {ss : List Sec} {en : Int} (h : prErr gs ss en = 0) {k : Nat} {g G : Gr} (hg : gs[k]? = some g) (had : G.ad = g.ad) (hG : grErr G = 0) : prErr (gs.set k G) ss en = 0 := by
 obtain ⟨h1, h2, h3, h4⟩ := prErr_gr h
 have hm : (gs.set k G).map Gr.ad = gs.map Gr.ad := by
  rw [List.map_set]
  exact set_same (by simp [hg, had])
 unfold prErr
 rw [if_neg (by simpa using h1), if_neg (by simp; omega), if_neg, if_pos]
 ·rw [any_ad, hm, ← any_ad]
  exact h4
 ·simp only [ne_eq, Decidable.not_not]
  refine firG_zero.2 fun j x hx => ?_
  rw [Nat.zero_add]
  have hkl := (gSI.1 hg).1
  have hex : ∃ y, gs[j]? = some y ∧ x.ad = y.ad ∧ grErr x = 0 := by
   by_cases hjk : k = j
   ·subst hjk
    rw [gSS hkl] at hx
    obtain rfl := oSI hx
    exact ⟨g, hg, had, hG⟩
   ·rw [gSN hjk] at hx
    exact ⟨x, hx, rfl, gr1_ok (h3 j x hx)⟩
  obtain ⟨y, hy, hxy, hxe⟩ := hex
  have h5 := h3 j y hy
  unfold gr1 at h5 ⊢
  rw [if_neg (by simpa using hxe)]
  split at h5
  ·exact absurd h5 ‹_›
  split at h5
  ·cases h5
  ·rename_i h6
   rw [if_neg]
   rw [any_ad] at h6 ⊢
   rw [List.map_take, hm, hxy, ← List.map_take]
   exact h6
theorem atN_lk {gs : List Gr} {x k : Int} : ∀ {n : Nat}, lkL x (atN gs n) = some k → ∃ j : Nat, k = j ∧ j < n
 | 0, h => by simp [atN, lkL] at h
 | n + 1, h => by
   rw [atN, lkL_up] at h
   split at h
   ·exact ⟨n, (oSI h).symm, by omega⟩
   ·obtain ⟨j, h1, h2⟩ := atN_lk h
    exact ⟨j, h1, by omega⟩
theorem atN_some {gs : List Gr} {x : Int} : ∀ {n : Nat}, (∃ j g, j < n ∧ gs[j]? = some g ∧ g.ad = x) → (lkL x (atN gs n)).isSome = true
 | 0, ⟨j, _, h, _⟩ => by omega
 | n + 1, ⟨j, g, h1, h2, h3⟩ => by
   rw [atN, lkL_up]
   split
   ·rfl
   ·rename_i hne
    refine atN_some ⟨j, g, ?_, h2, h3⟩
    rcases Nat.lt_or_ge j n with h | h
    ·exact h
    ·obtain rfl : j = n := by omega
     rw [h2] at hne
     exact absurd h3 hne
theorem atN_set {gs : List Gr} {k : Nat} {g G : Gr} (hg : gs[k]? = some g) (had : G.ad = g.ad) : ∀ n, atN (gs.set k G) n = atN gs n
 | 0 => rfl
 | n + 1 => by
   have hkl := (gSI.1 hg).1
   rw [atN, atN, atN_set hg had n]
   by_cases hk : k = n
   ·subst hk
    rw [gSS hkl, hg]
    simp [had]
   ·rw [gSN hk]
theorem en_some {gs : List Gr} {ss : List Sec} {en : Int} (h : prErr gs ss en = 0) : (lkL en (atN gs gs.length)).isSome = true := by
 obtain ⟨_, _, _, h4⟩ := prErr_gr h
 obtain ⟨g, hg, he⟩ := List.any_eq_true.1 h4
 obtain ⟨j, hj⟩ := List.mem_iff_getElem?.1 hg
 exact atN_some ⟨j, g, (gSI.1 hj).1, hj, by simpa using he⟩
theorem pgOk_of {gs : List Gr} {ss : List Sec} {en : Int} (h : prErr gs ss en = 0) (hN : ∀ g ∈ gs, ∀ b ∈ g.b, ∀ s ∈ b.s, ∀ e ∈ s.e, OkN e) : PgOk gs (atN gs gs.length) := by
 obtain ⟨_, h2, h3, _⟩ := prErr_gr h
 have hG : ∀ g ∈ gs, GOk g := fun g hg => by
  obtain ⟨j, hj⟩ := List.mem_iff_getElem?.1 hg
  exact gOk_of (gr1_ok (h3 j g hj))
 have hst : ∀ {l : List Bl} {b : Bl}, b ∈ l → b.s.length ≤ stN l := by
  intro l
  induction l with
  | nil => intro b hb; cases hb
  | cons a l ih =>
    intro b hb
    simp only [stN]
    rcases List.mem_cons.1 hb with rfl | hb
    ·omega
    ·have := ih hb; omega
 refine ⟨fun g hg => (hG g hg).cl, fun g hg => (hG g hg).er, hN, ⟨h2, fun g hg => ⟨(hG g hg).len, fun b hb => ?_⟩⟩, fun x k hk => ?_⟩
 ·have := (hG g hg).cnt
  have := hst hb
  omega
 ·obtain ⟨j, rfl, hj⟩ := atN_lk hk
  have hg : gs[j]? = some gs[j] := gEG hj
  have hp := (hG _ (gMO hg)).pos
  exact ⟨by omega, by omega, gs[j], gs[j].b[0], by simpa using hg, gEG hp⟩
def Qk (k n : Nat) (π : Nat → Nat) : Nat → Nat → Nat → Prop := fun g b b' => if g = k then b = π b' ∧ b' < n else b' = b
theorem pg_sim {gs : List Gr} {k : Nat} {g G : Gr} {π : Nat → Nat} (hg : gs[k]? = some g) (he : ∀ b ∈ g.b, ∀ s ∈ b.s, stErr s = 0) (hG : GOk G) (hC : Cov π g G) : PgSim (Qk k G.b.length π) gs (gs.set k G) := by
 have hkl := (gSI.1 hg).1
 refine ⟨fun i b b' hQ G0 B h1 h2 => ?_, fun i G0 h1 => ?_⟩
 ·unfold Qk at hQ
  by_cases hik : i = k
  ·subst hik
   rw [if_pos rfl] at hQ
   obtain ⟨rfl, hbl⟩ := hQ
   rw [hg] at h1
   obtain rfl := oSI h1
   obtain ⟨B', hB'⟩ : ∃ B', G.b[b']? = some B' := ⟨_, gEG hbl⟩
   obtain ⟨B1, k1, k2, k3, k4⟩ := hC.blk b' B' hB'
   rw [h2] at k1
   obtain rfl := oSI k1
   refine ⟨G, B', gSS hkl, hB', k2, fun j s hs => ?_⟩
   have hjl := (gSI.1 hs).1
   obtain ⟨s', hs'⟩ : ∃ s', B'.s[j]? = some s' := ⟨_, gEG (by omega)⟩
   have hM := k4 j s s' hs hs'
   have hT := (closed_at (hG.cl B' (gMO hB')) hs').1
   have ho := hM.op
   have hQi : ∀ (x : Nat) (y : Int), x = π y.toNat → 0 ≤ y ∧ y < (G.b.length : Int) → Qk i G.b.length π i x y.toNat := fun x y h1 h2 => by
    unfold Qk
    rw [if_pos rfl]
    exact ⟨h1, by omega⟩
   refine ⟨s', hs', hM.op, hM.va, hM.wd, hM.tg, hM.e, fun h67 => hQi _ _ (hM.nx h67) (hT _ ?_), fun h7 => hQi _ _ (hM.el h7) (hT _ ?_), hM.cl, fun q hq => ?_⟩
   ·rcases h67 with e | e <;> simp [tgts, ho, e]
   ·simp [tgts, ho, h7]
   ·by_cases h8 : s.op = 8
    ·refine hQi _ _ (hM.cs h8 q hq) (hT _ ?_)
     rw [List.getD_eq_getElem?_getD, gEG (by rw [hM.cl]; exact hq)]
     simp [tgts, ho, h8]
    ·have := fields_cs (he B (gMO h2) s (gMO hs)) h8
     rw [this] at hq
     simp at hq
  ·rw [if_neg hik] at hQ
   subst hQ
   refine ⟨G0, B, by rw [gSN (Ne.symm hik)]; exact h1, h2, rfl, fun j s hs => ⟨s, hs, rfl, rfl, rfl, rfl, rfl, fun _ => ?_, fun _ => ?_, rfl, fun _ _ => ?_⟩⟩
   all_goals
    unfold Qk
    rw [if_neg hik]
 ·unfold Qk
  split
  ·exact ⟨hC.z.symm, hG.pos⟩
  ·rfl
theorem trc_same {gs : List Gr} {ss : List Sec} {en : Int} {inp : List Int} (steps : Int) (h : prErr gs ss en = 0) (hN : ∀ g ∈ gs, ∀ b ∈ g.b, ∀ s ∈ b.s, ∀ e ∈ s.e, OkN e) (hin : ∀ n ∈ inp, R32 n) {k : Nat} {g G : Gr} {π : Nat → Nat} (hg : gs[k]? = some g) (hG : GOk G) (hC : Cov π g G) :
  (trcR (gs.set k G) ss en inp steps).1 = (trcR gs ss en inp steps).1 ∧ (trcR (gs.set k G) ss en inp steps).2.tr = (trcR gs ss en inp steps).2.tr ∧ (trcR (gs.set k G) ss en inp steps).2.out = (trcR gs ss en inp steps).2.out ∧ (trcR (gs.set k G) ss en inp steps).2.n = (trcR gs ss en inp steps).2.n := by
 have hp := pgOk_of h hN
 have hen := en_some h
 have hS := pg_sim hg (hp.se g (gMO hg)) hG hC
 have hI := ini_inv (R := regL ss) hp hin hen 0
 obtain ⟨g0, b0, hg0, hb0⟩ := ini_at hp hen
 have hi0 : ini0 (gs.set k G) (regL ss) en inp 0 = ini0 gs (regL ss) en inp 0 := by unfold ini0; rw [atN_set hg hC.ad, List.length_set]
 have hs0 : SimR (Qk k G.b.length π) (entR gs (ini0 gs (regL ss) en inp 0) 0) (entR (gs.set k G) (ini0 gs (regL ss) en inp 0) 0) :=
  SimR.entR hS (σ := ini0 gs (regL ss) en inp 0) (σ' := ini0 gs (regL ss) en inp 0) (F := []) (t := ⟨((lkL en (atN gs gs.length)).getD 0).toNat, 0, 0, 0, []⟩) ⟨rfl, rfl, rfl, rfl, rfl, rfl, rfl, ⟨⟨rfl, rfl, rfl, hS.ent _ g0 hg0⟩, trivial⟩⟩ rfl hg0 hb0 (hS.ent _ g0 hg0)
 unfold trcR
 rw [hi0, atN_set hg hC.ad, List.length_set]
 obtain ⟨r1, r2⟩ := run_sim hp hS (R := regL ss) (stepsN steps) 0 hI hs0
 exact ⟨r1, r2.tr, r2.out, r2.n⟩
theorem cov_ex {g G : Gr} {π : Nat → Nat} (hC : Cov π g G) {P : Ex → Prop} (h : ∀ b ∈ g.b, ∀ s ∈ b.s, ∀ e ∈ s.e, P e) : ∀ b ∈ G.b, ∀ s ∈ b.s, ∀ e ∈ s.e, P e := by
 intro b hb s hs e he
 obtain ⟨b', hb'⟩ := List.mem_iff_getElem?.1 hb
 obtain ⟨i, hi⟩ := List.mem_iff_getElem?.1 hs
 obtain ⟨B, k1, k2, k3, k4⟩ := hC.blk b' b hb'
 have hil := (gSI.1 hi).1
 have h1 : B.s[i]? = some (B.s[i]'(by omega)) := gEG (by omega)
 have hM := k4 i _ s h1 hi
 rw [hM.e] at he
 exact h B (gMO k1) _ (gMO h1) e he
def edS (g : Gr) : Nat → Nat
 | 0 => 0
 | i + 1 => edS g i + (edgN g i).length
theorem edS_le {g : Gr} (hg : GrFit g) : ∀ i, edS g i ≤ i * 2000000
 | 0 => by simp [edS]
 | i + 1 => by
   have := edS_le hg i
   have := edgN_len hg i
   simp only [edS]
   omega
def tameB (g : Gr) : Bool := decide (g.b.length ≤ 10) && decide (edS g (min g.b.length 11) ≤ g.b.length + 5)
theorem l35tame_af (g : Gr) (hg : GrFit g) : AF Tryz.prog 6 [grV g] (aB (tameB g)) := by
 have hgl := hg.1
 obtain ⟨R, hR⟩ : ∃ R, tameB g = R := ⟨_, rfl⟩
 rw [hR]
 refine af_of Tryz.func6 rfl (by kernel_rfl) (by simp [Tryz.ntmps6]) fun _ => ?_; simp [Tryz.f6, Ex.d_eq]
 refine aLoop_st (fun i : Nat => [(1, .ptr 0 0 0 0), (3, aI .i64 (edS g i)), (4, aI .i64 i)]) (fun _ => [gB g]) (fun i => i ≤ min g.b.length 11) (fun i => 11 - i) 0 (Sub.refl _ _ _) 1 (by omega) (by simp [cln_gB]) (by simp [edS]) (by omega) ?_
 rintro i hi K hK
 have he := edS_le hg i
 have hE := edgN_len hg i
 rcases Nat.lt_or_ge i (min g.b.length 11) with hlt | hge
 ·have h1 : i < g.b.length := by omega
  have h2 : (i : Int) ≤ 10 := by omega
  have hc := r24edges_af g hg i h1
  have hw : IntKind.i64.wrap ((edS g i : Int) + ((edgN g i).length : Int)) = ((edS g (i + 1) : Nat) : Int) := by simp only [edS]; exact i64w (by omega)
  have hiw : IntKind.i64.wrap ((i : Int) + 1) = ((i + 1 : Nat) : Int) := i64w (by omega)
  simp [h1, h2]
  refine aCall_of hc (by kernel_rfl) (by simp) ?_
  simp [hw, hiw]
  exact hK (i + 1) (by omega) (by omega) (Sub.refl _ _ _) 1 (by omega) (by simp [cln_gB]) (by simp)
 ·obtain rfl : i = min g.b.length 11 := by omega
  have hl5 : IntKind.i64.wrap ((g.b.length : Int) + 5) = (g.b.length : Int) + 5 := i64w (by omega)
  by_cases h10 : g.b.length ≤ 10
  ·have hm : min g.b.length 11 = g.b.length := by omega
   have h10' : (g.b.length : Int) ≤ 10 := by omega
   rw [hm] at *
   by_cases h5 : edS g g.b.length ≤ g.b.length + 5
   ·have h5' : (edS g g.b.length : Int) ≤ (g.b.length : Int) + 5 := by omega
    have : R = true := by rw [← hR, tameB, show min g.b.length 11 = g.b.length by omega]; simp [h10, h5]
    subst this
    simp [h10', hl5, h5']
   ·have h5' : ¬ (edS g g.b.length : Int) ≤ (g.b.length : Int) + 5 := by omega
    have : R = false := by rw [← hR, tameB, show min g.b.length 11 = g.b.length by omega]; simp [h5]
    subst this
    simp [h10', hl5, h5']
  ·have hm : min g.b.length 11 = 11 := by omega
   have h10' : ¬ (g.b.length : Int) ≤ 10 := by omega
   have h11 : 11 ≤ g.b.length := by omega
   have : R = false := by rw [← hR]; simp [tameB, h10]
   subst this
   rw [hm] at *
   by_cases h12 : 11 < g.b.length
   ·have h12' : (11 : Int) < (g.b.length : Int) := by omega
    simp [h10', h12']
   ·have h12' : ¬ (11 : Int) < (g.b.length : Int) := by omega
    simp [h10', h12']
theorem blOk_len {G : Gr} (hl : G.b.length ≤ 256) (h : ∀ b ∈ G.b, BlOk b) : G.b.length ≤ maxLen ∧ ∀ b ∈ G.b, b.s.length ≤ maxLen ∧ ∀ s ∈ b.s, s.e.length ≤ maxLen ∧ s.cs.length ≤ maxLen :=
 fit_len (blOk_fit (by omega) h)
theorem lrg35_ok {g : Gr} (h : lrg35 g = false) : (grErr g = 0 → ∀ b ∈ g.b, BlOk b) ∧ cntS g.b ≤ 300 := by
 unfold lrg35 at h
 simp at h
 obtain ⟨h1, h2, h3⟩ := smallG_fit h.1.2
 refine ⟨fun he => blOk_of h1 (fun b hb s hs e hem => ?_) he, ?_⟩
 ·have h4 := ((h3 b hb).2 s hs).2.2.1
  have h5 := Ex.nodess_mem hem
  omega
 ·have := lrgS_cnt h.2 (by omega)
  omega
theorem lgG_small : ∀ {l : List Gr} {n m : Nat}, lgG l n = some m → ∀ g ∈ l, smallG g 70 = true
 | [], _, _, _, g, hg => by cases hg
 | a :: l, n, m, h, g, hg => by
   simp only [lgG] at h
   split at h
   ·cases h
   rename_i h1
   split at h
   ·cases h
   ·rcases List.mem_cons.1 hg with rfl | hg
    ·cases hs : smallG g 70 with
     | true => rfl
     | false => exact absurd (.inr hs) h1
    ·exact lgG_small h g hg
theorem lgS_small : ∀ {l : List Sec} {n m : Nat}, lgS l n = some m → ∀ s ∈ l, s.da.length / 10 ≤ 3000
 | [], _, _, _, g, hg => by cases hg
 | a :: l, n, m, h, g, hg => by
   simp only [lgS] at h
   split at h
   ·cases h
   ·rcases List.mem_cons.1 hg with rfl | hg
    ·omega
    ·exact lgS_small h g hg
theorem lrg20_ok {gs : List Gr} {ss : List Sec} {steps : Int} (h : lrg20 gs ss steps = false) : (∀ g ∈ gs, GrFit g) ∧ ∀ s ∈ ss, s.da.length ≤ 1000000 := by
 unfold lrg20 at h
 split at h
 ·cases h
 split at h
 ·cases h
 ·rename_i m hm
  cases hs : lgS ss m with
  | none => rw [hs] at h; cases h
  | some q => exact ⟨fun g hg => (smallG_fit (lgG_small hm g hg)).1, fun s hsm => by have := lgS_small hs s hsm; omega⟩
theorem entR_len (gs : List Gr) (σ : RSt) (b : Nat) : (entR gs σ b).tr.length ≤ σ.tr.length + 1 ∧ (entR gs σ b).out = σ.out := by
 unfold entR
 split
 ·exact ⟨by simp, rfl⟩
 ·exact ⟨by omega, rfl⟩
theorem stepS_len (gs : List Gr) (ats : List (Int × Int)) (R : List Reg) (m : Nat) (σ : RSt) : (stepS gs ats R m σ).2.tr.length ≤ σ.tr.length + 1 ∧ (stepS gs ats R m σ).2.out.length ≤ σ.out.length + 1 := by
 unfold stepS
 split
 ·exact ⟨Nat.le_succ _, Nat.le_succ _⟩
 rename_i s _
 have e1 : (begS σ).tr = σ.tr := rfl
 have e2 : (begS σ).out = σ.out := rfl
 rw [← e1, ← e2]
 obtain ⟨τ, hτ⟩ : ∃ τ, begS σ = τ := ⟨_, rfl⟩
 rw [hτ]
 have he : ∀ b, (entR gs τ b).tr.length ≤ τ.tr.length + 1 ∧ (entR gs τ b).out.length ≤ τ.out.length + 1 := fun b => by
  obtain ⟨q1, q2⟩ := entR_len gs τ b
  exact ⟨q1, by rw [q2]; omega⟩
 have hz : τ.tr.length ≤ τ.tr.length + 1 ∧ τ.out.length ≤ τ.out.length + 1 := ⟨by omega, by omega⟩
 unfold doS
 split
 ·unfold storeS
  split
  ·exact hz
  split
  ·exact hz
  ·exact hz
 split
 ·unfold callS
  split
  ·exact hz
  split
  ·exact hz
  ·obtain ⟨q1, q2⟩ := entR_len gs { τ with fs := τ.fs ++ [⟨(‹Int› : Int).toNat, 0, 0, m, []⟩] } 0
   exact ⟨q1, by rw [q2]; exact hz.2⟩
 split
 ·unfold jumpS
  split
  ·exact he _
  split
  ·exact hz
  split
  ·split
   ·exact hz
   ·exact he _
  split
  ·exact he _
  ·exact he _
 split
 ·exact hz
 split
 ·exact hz
 unfold plainS
 split
 ·split
  ·exact hz
  ·exact ⟨by show (setS τ _ _).tr.length ≤ _; rw [setS_tr]; exact hz.1, by show (setS τ _ _).out.length ≤ _; rw [setS_out]; exact hz.2⟩
 split
 ·exact hz
 split
 ·exact hz
 split
 ·exact ⟨hz.1, by simp⟩
 ·exact ⟨by rw [setS_tr]; exact hz.1, by rw [setS_out]; exact hz.2⟩
theorem runS_len (gs : List Gr) (ats : List (Int × Int)) (R : List Reg) : ∀ (n : Nat) (σ : RSt), (runS gs ats R n σ).2.tr.length ≤ σ.tr.length + n ∧ (runS gs ats R n σ).2.out.length ≤ σ.out.length + n
 | 0, σ => by
   simp only [runS]
   split <;> exact ⟨Nat.le_refl _, Nat.le_refl _⟩
 | n + 1, σ => by
   obtain ⟨q1, q2⟩ := stepS_len gs ats R 0 σ
   simp only [runS]
   split
   ·exact ⟨Nat.le_add_right _ _, Nat.le_add_right _ _⟩
   split
   ·exact ⟨by omega, by omega⟩
   ·obtain ⟨r1, r2⟩ := runS_len gs ats R n (stepS gs ats R 0 σ).2
    exact ⟨by omega, by omega⟩
theorem trcR_len (gs : List Gr) (ss : List Sec) (en : Int) (inp : List Int) (steps : Int) : (trcR gs ss en inp steps).2.tr.length ≤ maxLen ∧ (trcR gs ss en inp steps).2.out.length ≤ maxLen := by
 have h1 := runS_len gs (atN gs gs.length) (regL ss) (stepsN steps) (entR gs (ini0 gs (regL ss) en inp 0) 0)
 obtain ⟨h2, h3⟩ := entR_len gs (ini0 gs (regL ss) en inp 0) 0
 rw [h3] at h1
 have h4 : (ini0 gs (regL ss) en inp 0).tr = [] := rfl
 have h5 : (ini0 gs (regL ss) en inp 0).out = [] := rfl
 rw [h4] at h2
 rw [h5] at h1
 simp only [List.length_nil] at h1 h2
 have h6 : stepsN steps ≤ 65536 := by unfold stepsN; omega
 unfold trcR maxLen
 omega
theorem grs_app (l m : List Gr) : grs (l ++ m) = grs l ++ grs m := by simp [grs]
abbrev qPB (ss : List Sec) (en : Int) (i : Nat) : Blk := ⟨0, true, 35, 3, [[.own 3 i 0 i, .d (.sl 5 (secs ss)), aI .u32 en]]⟩
abbrev gsPB (i : Nat) (l : List Gr) : Blk := ⟨i, true, 25, 2, dEls (grs l)⟩
set_option maxRecDepth 100000 in
theorem lawsame35_af (gs : List Gr) (ss : List Sec) (en : Int) (k : Int) (inp : List Int) (steps : Int) (hgm : gs.length ≤ maxLen) (him : inp.length ≤ maxLen) (hN : ∀ g ∈ gs, ∀ b ∈ g.b, ∀ s ∈ b.s, ∀ e ∈ s.e, OkN e) (hin : ∀ n ∈ inp, R32 n)
  (hs : ∀ s ∈ ss, (0 ≤ s.ad ∧ s.ad < 4294967296) ∧ s.da.length ≤ maxLen ∧ s.nm.size ≤ maxLen) : AF Tryz.prog 4 [prV gs ss en, aI .i64 k, .d (.sl 1 (u32d inp)), aI .i64 steps] (aB true) := by
 have hx := l35ex_af
 have hL20 := l20largeE_af gs ss en steps (fun s h => (hs s h).2.1)
 have hL2 := hL20
 unfold prV at hL20 ⊢
 refine af_of Tryz.func4 rfl (by kernel_rfl) (by simp [Tryz.ntmps4]) fun _ => ?_; simp [Tryz.f4, Ex.d_eq]
 by_cases hk0 : k < 0
 ·simp [hk0]
  refine aCall_of hx (by kernel_rfl) (by simp) ?_
  simp
 by_cases hk1 : (gs.length : Int) ≤ k
 ·simp [hk0, hk1]
  refine aCall_of hx (by kernel_rfl) (by simp) ?_
  simp
 by_cases hk2 : 20 < gs.length
 ·simp [hk0, hk1, show (20 : Int) < gs.length by omega]
  refine aCall_of hx (by kernel_rfl) (by simp) ?_
  simp
 by_cases hk3 : 600 < steps
 ·simp [hk0, hk1, show ¬ (20 : Int) < gs.length by omega, hk3]
  refine aCall_of hx (by kernel_rfl) (by simp) ?_
  simp
 by_cases hk4 : 1000 < inp.length
 ·simp [hk0, hk1, show ¬ (20 : Int) < gs.length by omega, hk3, show (1000 : Int) < inp.length by omega]
  refine aCall_of hx (by kernel_rfl) (by simp) ?_
  simp
 obtain ⟨n, rfl⟩ : ∃ n : Nat, k = n := ⟨k.toNat, by omega⟩
 have hnl : n < gs.length := by omega
 obtain ⟨g, hg⟩ : ∃ g, gs[n]? = some g := ⟨_, gEG hnl⟩
 have hg2 := (gSI.1 hg).2
 have hgm2 := gMO hg
 simp [hk0, hk1, show ¬ (20 : Int) < gs.length by omega, hk3, show ¬ (1000 : Int) < inp.length by omega, hg, hg2, hnl, Gr.d_eq]
 refine aCall_of (l35large_af g) (by kernel_rfl) (by simp) ?_
 cases hc : lrg35 g with
 | true =>
   simp
   refine aCall_of hx (by kernel_rfl) (by simp) ?_
   simp
 | false =>
 obtain ⟨hgf, h30⟩ := lrg35_fit hc
 obtain ⟨hok, hcn⟩ := lrg35_ok hc
 simp [hg, hg2, hnl, Gr.d_eq]
 refine aCall_of (l35tame_af g hgf) (by kernel_rfl) (by simp) ?_
 cases htm : tameB g with
 | false =>
   simp
   refine aCall_of hx (by kernel_rfl) (by simp) ?_
   simp
 | true =>
 simp [hg, hg2, hnl, Gr.d_eq]
 refine aCall_of hL20 (by kernel_rfl) (by simp) ?_
 cases h20 : lrg20 gs ss steps with
 | true =>
   simp
   refine aCall_of hx (by kernel_rfl) (by simp) ?_
   simp
 | false =>
 obtain ⟨hgfit, hsd⟩ := lrg20_ok h20
 have hsfit : ∀ s ∈ ss, SecFit s := fun s h => ⟨(hs s h).1, hsd s h, (hs s h).2.2⟩
 have hck := ichk_af gs ss en hgfit hsfit
 have hck2 := hck
 unfold prV at hck
 simp
 refine aCall_of hck (by kernel_rfl) (by simp) ?_
 by_cases hpe : prErr gs ss en = 0
 case neg =>
  simp [hpe]
  refine aCall_of hx (by kernel_rfl) (by simp) ?_
  simp
 simp [hpe, hg, hg2, hnl, Gr.d_eq]
 obtain ⟨_, hgl64, hgr, _⟩ := prErr_gr hpe
 have hge := gr1_ok (hgr n g hg)
 have hGO := gOk_of hge
 have hS := lpsplit_af g hgf (by omega) hok (by omega)
 rw [if_pos hge] at hS
 refine aCall_of hS (by kernel_rfl) (by simp) ?_
 obtain ⟨r, hr, hR⟩ := lpred_one g hgf (by omega)
 cases hsp : splF 300 g (cntS g.b) with
 | none =>
   have hrf : r = false := by
    cases r with
    | false => rfl
    | true =>
      have h1 := hr.1 rfl
      cases hb : badG g with
      | none => rw [spl_red hb] at hsp; cases hsp
      | some p =>
        obtain ⟨a, b⟩ := p
        obtain ⟨Y, y1, y2⟩ := bad_stuck hb
        exact absurd y2 (h1 Y y1 b)
   subst hrf
   simp [spV, hg, hg2, hnl, Gr.d_eq]
   refine aCall_of hR (by kernel_rfl) (by simp) ?_
   simp
   refine aCall_of hx (by kernel_rfl) (by simp) ?_
   simp
 | some G =>
 obtain ⟨π, hGo, hCv, hbad⟩ := spl_cov 300 g _ id G hGO rfl (cov_refl g) hsp
 obtain ⟨hGb, hG256⟩ := splF_ok 300 g _ G (hok hge) (by omega) hsp
 have hGfit := blOk_fit (G := G) (by omega) hGb
 obtain ⟨r', hr', hR'⟩ := lpred_one G hGfit (by omega)
 have hrt : r' = true := hr'.2 (bad_none hbad)
 subst hrt
 have hGl := blOk_len hG256 hGb
 have hq := q23samegr_af G hGl.1 hGl.2
 simp [spV]
 refine adraw [] (by kernel_rfl) (by kernel_rfl) (by kernel_rfl) (by kernel_rfl) ?_
 simp
 refine adC_of hR' (by kernel_rfl) trivial (by simp) (by simp) ?_
 simp [hg, hg2, hnl, Gr.d_eq]
 refine adC_of hR (by kernel_rfl) trivial (by simp) (by simp) ?_
 have hrg : r = true → G = g := fun h => by
  subst h
  have h1 := hr.1 rfl
  cases hb : badG g with
  | none => rw [spl_red hb] at hsp; exact (oSI hsp).symm
  | some p =>
    obtain ⟨a, b⟩ := p
    obtain ⟨Y, y1, y2⟩ := bad_stuck hb
    exact absurd y2 (h1 Y y1 b)
 have hdE : ∀ l : List Gr, List.map (fun x => List.map (cln 4) x) (dEls (grs l)) = dEls (grs l) := fun l => map_fix.2 fun x hx => map_fix.2 fun c hc => by
  obtain ⟨y, _, rfl⟩ := List.mem_map.1 hx
  obtain ⟨z, _, rfl⟩ := List.mem_map.1 hc
  rfl
 have dE1 : ∀ x : Gr, dEls (grs [x]) = [[.d (.v (.int .u32 x.ad)), .d (.sl 2 (bls' x.b))]] := fun x => rfl
 have hst : ∀ e, Sub 0 e [pgB gs ss en, grB G, ⟨0, true, 35, 3, [[.d (.v (.slice none 0 0)), .d (.sl 5 (secs ss)), aI .u32 en]]⟩] e [pgB gs ss en, grB G, qPB ss en 0, gsPB 0 []] := fun e => by
  have g1 := Sub.ghost (n := 0) (e := e) 0 25 2 (A := [pgB gs ss en, grB G, ⟨0, true, 35, 3, [[.d (.v (.slice none 0 0)), .d (.sl 5 (secs ss)), aI .u32 en]]⟩])
  have g2 := Sub.cell (n := 0) (e := e) (A := [pgB gs ss en, grB G, ⟨0, true, 35, 3, [[.d (.v (.slice none 0 0)), .d (.sl 5 (secs ss)), aI .u32 en]]⟩, ⟨0, true, 25, 2, []⟩]) (b := 2) (i := 0) (o := 0) rfl rfl rfl (VLe.nil_own (b := 3) (ver := 0) (k := ⟨0, true, 25, 2, []⟩) rfl rfl)
  exact g1.trans g2
 cases r
 case' true =>
  simp [hg, hg2, hnl, Gr.d_eq]
  refine adC_of (by have := hq; rw [hrg rfl] at this; exact this) (by kernel_rfl) trivial (by simp) (by simp [hrg rfl]) ?_
  simp
 case' false => simp
 all_goals
  refine aLoop_st (fun i : Nat => [(1, aI .i64 n), (2, .d (.sl 1 (u32d inp))), (3, aI .i64 steps), (4, .ptr 0 0 0 0), (9, .ptr 1 0 0 0), (11, .ptr 2 0 0 0), (12, aI .i64 i)]) (fun i => [pgB gs ss en, grB G, qPB ss en i, gsPB i ((gs.set n G).take i)]) (fun i => i ≤ gs.length) (fun i => gs.length - i) 0 (hst _) 4 (by omega) (by simp [clnB, clnE, cln]; rfl) (by simp [cln]) (by omega) ?_
  clear hst
  rintro i hi K hK
  rcases Nat.lt_or_ge i gs.length with hlt | hge
  case inl =>
   obtain ⟨gi, hgi⟩ : ∃ gi, gs[i]? = some gi := ⟨_, gEG hlt⟩
   have hgi2 := (gSI.1 hgi).2
   have htl : ((gs.set n G).take i).length = i := by simp; omega
   by_cases hin' : i = n
   ·subst hin'
    simp [hlt, hgi, hgi2, hg, hg2, Gr.d_eq, htl]
    refine aRaw_app byt_32 ?_
    simp [htl]
    refine ⟨by unfold maxLen; omega, by omega, ?_⟩
    have htk : (gs.set i G).take (i + 1) = (gs.set i G).take i ++ [G] := by rw [List.take_add_one, gSS hlt]; rfl
    simp [htl, succ_wrap hlt hgm]
    refine hK (i + 1) (by omega) (by omega) (Sub.refl _ _ _) 4 (by omega) ?_ (by simp [cln])
    rw [htk]
    simp [clnB, clnE, cln, grs_app, Gr.d_eq, hdE, dE1]
   ·simp [hlt, hgi, hgi2, Gr.d_eq, show ¬ ((i : Int) = n) by omega, htl]
    refine adraw3 8 255 [] (by kernel_rfl) rfl byt_32 (by kernel_rfl) (by kernel_rfl) (by kernel_rfl) (by kernel_rfl) (by kernel_rfl) ?_
    simp [hlt, hgi, hgi2, Gr.d_eq, htl]
    refine ⟨by simp [stabL_cons, stab1], ?_⟩
    try simp [hlt, hgi, hgi2, Gr.d_eq, htl]
    refine ⟨by unfold maxLen; omega, by omega, ?_⟩
    have htk : (gs.set n G).take (i + 1) = (gs.set n G).take i ++ [gi] := by rw [List.take_add_one, gSN (Ne.symm hin'), hgi]; rfl
    simp [htl, succ_wrap hlt hgm]
    refine hK (i + 1) (by omega) (by omega) (Sub.refl _ _ _) 4 (by omega) ?_ (by simp [cln])
    rw [htk]
    simp [clnB, clnE, cln, grs_app, Gr.d_eq, hdE, dE1]
  obtain rfl : i = gs.length := by omega
  clear hK
  have hGg : ∀ x ∈ gs.set n G, x = G ∨ x ∈ gs := fun x hx => (List.mem_or_eq_of_mem_set hx).symm
  have hT1 := itrace_af gs ss en inp steps hgfit hsfit hpe (by omega) hin (pgOk_of hpe hN) (en_some hpe)
  have hpe2 := prErr_set hpe hg hCv.ad hGo.err
  have hN2 : ∀ x ∈ gs.set n G, ∀ b ∈ x.b, ∀ s ∈ b.s, ∀ e ∈ s.e, OkN e := fun x hx => by
   rcases hGg x hx with rfl | h
   ·exact cov_ex hCv (hN g hgm2)
   ·exact hN x h
  have hT2 := itrace_af (gs.set n G) ss en inp steps (fun x hx => by
   rcases hGg x hx with rfl | h
   ·exact hGfit
   ·exact hgfit x h) hsfit hpe2 (by omega) hin (pgOk_of hpe2 hN2) (en_some hpe2)
  obtain ⟨s1, s2, s3, s4⟩ := trc_same steps hpe hN hin hg hGo hCv
  obtain ⟨l1, l2⟩ := trcR_len gs ss en inp steps
  obtain ⟨X, hX⟩ : ∃ X, trcR gs ss en inp steps = X := ⟨_, rfl⟩
  obtain ⟨Y, hY⟩ : ∃ Y, trcR (gs.set n G) ss en inp steps = Y := ⟨_, rfl⟩
  rw [hX] at hT1 s1 s2 s3 s4 l1 l2
  rw [hY] at hT2 s1 s2 s3 s4
  unfold viewS at hT1 hT2
  rw [s1, s2, s3, s4] at hT2
  unfold prV at hT1 hT2
  have hsm := r20sameres_af X.1 X.2.n X.2.out l2
  clear hX hY s1 s2 s3 s4
  obtain ⟨er, σX⟩ := X
  simp only at hT1 hT2 l1 l2 hsm
  have htake : List.take gs.length (gs.set n G) = gs.set n G := List.take_of_length_le (by simp)
  simp [htake]
  refine aCall_of hT1 (by kernel_rfl) (by simp) ?_
  simp
  refine aCall_ofz [3] hT2 (by kernel_rfl) (by simp [frz, htake]) ?_
  simp [frz]
  refine aCall_of hsm (by kernel_rfl) (by simp) ?_
  simp
  refine aLoop_st (fun i : Nat => [(13, .d (.sl 1 (u32d σX.tr))), (15, .d (.sl 1 (u32d σX.tr))), (17, aI .i64 i)]) (fun _ => []) (fun i => i ≤ σX.tr.length) (fun i => σX.tr.length - i) 0 (Sub.refl _ _ _) 0 (by omega) (by simp) (by simp [cln]) (by omega) ?_
  rintro i hi K hK
  rcases Nat.lt_or_ge i σX.tr.length with hlt | hge
  case inl =>
   obtain ⟨y, hy⟩ : ∃ y, σX.tr[i]? = some y := ⟨_, gEG hlt⟩
   have hy2 := (gSI.1 hy).2
   simp [hlt, hy, hy2]
   refine adraw [] (by kernel_rfl) (by kernel_rfl) (by kernel_rfl) (by kernel_rfl) ?_
   simp [hlt, hy, hy2, succ_wrap hlt l1]
   exact hK (i + 1) (by omega) (by omega) (Sub.refl _ _ _) 0 (by omega) (by simp) (by simp [cln])
  obtain rfl : i = σX.tr.length := by omega
  simp
  refine aCall_of hx (by kernel_rfl) (by simp) ?_
  simp
end Go.Proofs.YtagkfkhagjlmpaaGreat
