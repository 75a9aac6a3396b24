/- Texts that the claim leans on, laid one behind the other: Qa, Qb, Qc, Qd, Qf, Qg, Qh. -/
import Derived.Test.YtlidimmfpfockaaGreatDoorZS
import Derived.Test.YtlidimmfpfockaaGreatDoorZK
import Derived.Lib.ItoaNum
import Derived.Test.YtlidimmfpfockaaGreatDoorZP
import Derived.Test.YtlidimmfpfockaaGreatDoorZB
import Derived.Test.YtlidimmfpfockaaGreatDoorAm
import Derived.Test.YtlidimmfpfockaaGreatDoorAp
import Derived.Test.YtlidimmfpfockaaGreatDoorZH
import Derived.Test.YtlidimmfpfockaaGreatDoorZM
import Derived.Test.YtlidimmfpfockaaGreatDoorZG
set_option linter.unusedSimpArgs false
set_option linter.unusedVariables false
set_option linter.unnecessarySimpa false
/- The texts of expressions, as lists of bytes: which expressions have the same. No program in sight. -/
namespace Go.Proofs.YtlidimmfpfockaaGreatDoor
open Go.RowKit
/-- A number that an int holds. -/
def I64 (n : Int) : Prop := -9223372036854775808 ≤ n ∧ n ≤ 9223372036854775807
/-- A digit of base 16. -/
def hexD (d : Nat) : UInt8 := if d < 10 then UInt8.ofNat (48 + d) else UInt8.ofNat (87 + d)
/-- A number's digits of base 16. -/
def hexL (u : Nat) : List UInt8 := if h : u < 16 then [hexD u] else hexL (u / 16) ++ [hexD (u % 16)]
termination_by u
decreasing_by omega
theorem hexL_lt {u : Nat} (h : u < 16) : hexL u = [hexD u] := by rw [hexL, dif_pos h]
theorem hexL_ge {u : Nat} (h : ¬ u < 16) : hexL u = hexL (u / 16) ++ [hexD (u % 16)] := by rw [hexL, dif_neg h]
theorem dec_lt {u : Nat} (h : u < 10) : Lib.decDigits u = [UInt8.ofNat (48 + u)] := by rw [Lib.decDigits, dif_pos h]
theorem dec_ge {u : Nat} (h : ¬ u < 10) : Lib.decDigits u = Lib.decDigits (u / 10) ++ [UInt8.ofNat (48 + u % 10)] := by rw [Lib.decDigits, dif_neg h]
/-- A number as a text. -/
def xInt (n : Int) : List UInt8 := Lib.itoa n
def xNum (n : Int) : List UInt8 := if n ≤ 9 then xInt n else 48 :: 120 :: hexL n.toNat
def flagC (v : Int) : UInt8 := if v = 8 then 122 else if v = 9 then 110 else if v = 10 then 99 else 118
def xVar (v : Int) : List UInt8 := if v < 8 then 114 :: xInt v else if v < 12 then [102, flagC v] else 116 :: xInt v
def xSym (op : Int) : List UInt8 :=
  if op = 3 then [43] else if op = 4 then [45] else if op = 5 then [42] else if op = 6 then [38] else if op = 7 then [124] else if op = 8 then [94] else if op = 9 then [60, 60]
  else if op = 10 then [62, 62] else if op = 11 then [62, 62, 115] else if op = 12 then [61, 61] else if op = 13 then [33, 61] else if op = 14 then [60, 115] else [60]
/-- The text of an expression. -/
def xEx : Ex → List UInt8
  | .mk op n v _ [] => if op = 1 then xNum n else xVar v
  | .mk op _ _ w [a] => if op = 16 then 33 :: xEx a else if op = 17 then 45 :: xEx a else if op = 18 then [108, 111, 97, 100] ++ xInt w ++ [40] ++ xEx a ++ [41]
    else [115, 101, 120, 116] ++ xInt w ++ [40] ++ xEx a ++ [41]
  | .mk op _ _ _ [a, b] => [40] ++ xEx a ++ [32] ++ xSym op ++ [32] ++ xEx b ++ [41]
  | _ => []
theorem xEx_con (n : Int) : xEx (eCon n) = xNum n := rfl
theorem xEx_var (v : Int) : xEx (eVar v) = xVar v := rfl
theorem xEx_one (op w : Int) (a : Ex) : xEx (.mk op 0 0 w [a]) = if op = 16 then 33 :: xEx a else if op = 17 then 45 :: xEx a else if op = 18 then [108, 111, 97, 100] ++ xInt w ++ [40] ++ xEx a ++ [41]
    else [115, 101, 120, 116] ++ xInt w ++ [40] ++ xEx a ++ [41] := rfl
theorem xEx_two (op : Int) (a b : Ex) : xEx (eTwo op a b) = [40] ++ xEx a ++ [32] ++ xSym op ++ [32] ++ xEx b ++ [41] := rfl
/-! ### digits -/
def isHex (c : UInt8) : Bool := decide (48 ≤ c.toNat ∧ c.toNat ≤ 57 ∨ 97 ≤ c.toNat ∧ c.toNat ≤ 102)
def isDec (c : UInt8) : Bool := decide (48 ≤ c.toNat ∧ c.toNat ≤ 57)
theorem nat8 {n : Nat} (h : n < 256) : (UInt8.ofNat n).toNat = n := by
  rw [UInt8.toNat_ofNat']
  exact Nat.mod_eq_of_lt h
theorem hexD_nat {d : Nat} (h : d < 16) : (hexD d).toNat = if d < 10 then 48 + d else 87 + d := by
  unfold hexD
  split <;> rw [nat8 (by omega)]
theorem hexD_hex {d : Nat} (h : d < 16) : isHex (hexD d) = true := by
  unfold isHex
  rw [hexD_nat h]
  split <;> simp <;> omega
theorem hexD_inj {d k : Nat} (h : d < 16) (h2 : k < 16) (he : hexD d = hexD k) : d = k := by
  have := congrArg UInt8.toNat he
  rw [hexD_nat h, hexD_nat h2] at this
  split at this <;> split at this <;> omega
theorem hexL_hex (u : Nat) : (hexL u).all isHex = true := by
  induction u using Nat.strongRecOn with
  | _ u ih =>
    by_cases h : u < 16
    · rw [hexL_lt h]
      simp [hexD_hex h]
    · rw [hexL_ge h, List.all_append, ih _ (by omega)]
      simp [hexD_hex (show u % 16 < 16 by omega)]
theorem hexL_pos (u : Nat) : hexL u ≠ [] := by
  by_cases h : u < 16
  · rw [hexL_lt h]; simp
  · rw [hexL_ge h]; simp
theorem hexL_inj : ∀ (u v : Nat), hexL u = hexL v → u = v := by
  intro u
  induction u using Nat.strongRecOn with
  | _ u ih =>
    intro v h
    by_cases h1 : u < 16
    · by_cases h2 : v < 16
      · rw [hexL_lt h1, hexL_lt h2] at h
        exact hexD_inj h1 h2 (by simpa using h)
      · rw [hexL_lt h1, hexL_ge h2] at h
        have := congrArg List.length h
        simp [hexL_pos] at this
    · by_cases h2 : v < 16
      · rw [hexL_ge h1, hexL_lt h2] at h
        have := congrArg List.length h
        simp [hexL_pos] at this
      · rw [hexL_ge h1, hexL_ge h2] at h
        have h3 := List.append_inj' h rfl
        have h4 := ih _ (by omega) _ h3.1
        have h5 := hexD_inj (by omega) (by omega) (List.cons.inj h3.2).1
        omega
theorem dec_dec (u : Nat) : (Lib.decDigits u).all isDec = true := by
  induction u using Nat.strongRecOn with
  | _ u ih =>
    by_cases h : u < 10
    · rw [dec_lt h]
      simp only [List.all_cons, List.all_nil, Bool.and_true, isDec, nat8 (show 48 + u < 256 by omega)]
      simp
      omega
    · rw [dec_ge h, List.all_append, ih _ (by omega)]
      simp only [List.all_cons, List.all_nil, Bool.and_true, Bool.true_and, isDec, nat8 (show 48 + u % 10 < 256 by omega)]
      simp
      omega
theorem dec_pos (u : Nat) : Lib.decDigits u ≠ [] := by
  by_cases h : u < 10
  · rw [dec_lt h]; simp
  · rw [dec_ge h]; simp
theorem dec_inj : ∀ (u v : Nat), Lib.decDigits u = Lib.decDigits v → u = v := by
  intro u
  induction u using Nat.strongRecOn with
  | _ u ih =>
    intro v h
    have hd : ∀ {d k : Nat}, d < 10 → k < 10 → UInt8.ofNat (48 + d) = UInt8.ofNat (48 + k) → d = k := by
      intro d k h1 h2 he
      have := congrArg UInt8.toNat he
      rw [nat8 (by omega), nat8 (by omega)] at this
      omega
    by_cases h1 : u < 10
    · by_cases h2 : v < 10
      · rw [dec_lt h1, dec_lt h2] at h
        exact hd h1 h2 (List.cons.inj h).1
      · rw [dec_lt h1, dec_ge h2] at h
        have := congrArg List.length h
        simp [dec_pos] at this
    · by_cases h2 : v < 10
      · rw [dec_ge h1, dec_lt h2] at h
        have := congrArg List.length h
        simp [dec_pos] at this
      · rw [dec_ge h1, dec_ge h2] at h
        have h3 := List.append_inj' h rfl
        have h4 := ih _ (by omega) _ h3.1
        have h5 := hd (by omega) (by omega) (List.cons.inj h3.2).1
        omega
/-- What all of one class precede is told by where the class ends. -/
theorem cut_unique {p : UInt8 → Bool} : ∀ {l m s t : List UInt8}, l.all p = true → m.all p = true → (∀ c ∈ s.head?, p c = false) → (∀ c ∈ t.head?, p c = false) → l ++ s = m ++ t → l = m ∧ s = t
  | [], [], _, _, _, _, _, _, h => ⟨rfl, h⟩
  | [], c :: m, s, t, _, h2, h3, _, h => by
    simp only [List.nil_append, List.cons_append] at h
    have := h3 c (by rw [h]; rfl)
    simp only [List.all_cons, Bool.and_eq_true] at h2
    rw [h2.1] at this
    exact absurd this (by simp)
  | c :: l, [], s, t, h1, _, _, h4, h => by
    simp only [List.nil_append, List.cons_append] at h
    have := h4 c (by rw [← h]; rfl)
    simp only [List.all_cons, Bool.and_eq_true] at h1
    rw [h1.1] at this
    exact absurd this (by simp)
  | c :: l, d :: m, s, t, h1, h2, h3, h4, h => by
    simp only [List.cons_append, List.cons.injEq] at h
    simp only [List.all_cons, Bool.and_eq_true] at h1 h2
    have := cut_unique h1.2 h2.2 h3 h4 h.2
    exact ⟨by rw [h.1, this.1], this.2⟩
/-- What may follow an expression: nothing, a space, a bracket, a comma. -/
def stopB (s : List UInt8) : Prop := ∀ c ∈ s.head?, c = 32 ∨ c = 41 ∨ c = 44
theorem stop_hex {s : List UInt8} (h : stopB s) : ∀ c ∈ s.head?, isHex c = false := by
  intro c hc
  rcases h c hc with rfl | rfl | rfl <;> rfl
theorem stop_dec {s : List UInt8} (h : stopB s) : ∀ c ∈ s.head?, isDec c = false := by
  intro c hc
  rcases h c hc with rfl | rfl | rfl <;> rfl
theorem stop_32 (s : List UInt8) : stopB (32 :: s) := fun c hc => by simp at hc; exact .inl hc.symm
theorem stop_41 (s : List UInt8) : stopB (41 :: s) := fun c hc => by simp at hc; exact .inr (.inl hc.symm)
theorem xInt_nat {n : Int} (h : 0 ≤ n) : xInt n = Lib.decDigits n.toNat := by
  unfold xInt Lib.itoa
  rw [if_neg (by omega)]
theorem xInt_unique {n m : Int} {s t : List UInt8} (hn : 0 ≤ n) (hm : 0 ≤ m) (hs : ∀ c ∈ s.head?, isDec c = false) (ht : ∀ c ∈ t.head?, isDec c = false) (h : xInt n ++ s = xInt m ++ t) : n = m ∧ s = t := by
  rw [xInt_nat hn, xInt_nat hm] at h
  obtain ⟨h1, h2⟩ := cut_unique (dec_dec _) (dec_dec _) hs ht h
  have := dec_inj _ _ h1
  exact ⟨by omega, h2⟩
theorem xNum_unique {n m : Int} {s t : List UInt8} (hn : 0 ≤ n) (hm : 0 ≤ m) (hs : stopB s) (ht : stopB t) (h : xNum n ++ s = xNum m ++ t) : n = m ∧ s = t := by
  have h120 : ∀ {s : List UInt8} {k : Nat} {r : List UInt8}, stopB s → k < 10 → [UInt8.ofNat (48 + k)] ++ s ≠ 48 :: 120 :: r := by
    intro s k r hs _ hh
    simp only [List.singleton_append, List.cons.injEq] at hh
    have := hs 120 (by rw [hh.2]; rfl)
    revert this
    decide
  unfold xNum at h
  by_cases h1 : n ≤ 9
  · rw [if_pos h1] at h
    by_cases h2 : m ≤ 9
    · rw [if_pos h2] at h
      exact xInt_unique hn hm (stop_dec hs) (stop_dec ht) h
    · rw [if_neg h2, xInt_nat hn, dec_lt (by omega)] at h
      exact absurd h (h120 hs (by omega))
  · rw [if_neg h1] at h
    by_cases h2 : m ≤ 9
    · rw [if_pos h2, xInt_nat hm, dec_lt (by omega)] at h
      exact absurd h.symm (h120 ht (by omega))
    · rw [if_neg h2] at h
      simp only [List.cons_append, List.cons.injEq, true_and] at h
      obtain ⟨h3, h4⟩ := cut_unique (hexL_hex _) (hexL_hex _) (stop_hex hs) (stop_hex ht) h
      have := hexL_inj _ _ h3
      exact ⟨by omega, h4⟩
theorem xVar_unique {n m : Int} {s t : List UInt8} (hn : 0 ≤ n) (hm : 0 ≤ m) (hs : stopB s) (ht : stopB t) (h : xVar n ++ s = xVar m ++ t) : n = m ∧ s = t := by
  unfold xVar at h
  split at h <;> split at h <;> (try split at h) <;> (try split at h)
  all_goals simp only [List.cons_append, List.cons.injEq, List.nil_append] at h
  all_goals first
    | exact absurd h.1 (by decide)
    | exact xInt_unique hn hm (stop_dec hs) (stop_dec ht) h.2
    | skip
  · refine ⟨?_, h.2.2⟩
    have h1 := h.2.1
    rename_i g1 g2 g3 g4
    rcases (show n = 8 ∨ n = 9 ∨ n = 10 ∨ n = 11 by omega) with rfl | rfl | rfl | rfl <;> rcases (show m = 8 ∨ m = 9 ∨ m = 10 ∨ m = 11 by omega) with rfl | rfl | rfl | rfl <;>
      first | rfl | (exact absurd h1 (by decide))
theorem sym_unique {a b : Int} {s t : List UInt8} (h1 : 3 ≤ a ∧ a ≤ 15) (h2 : 3 ≤ b ∧ b ≤ 15) (h : xSym a ++ 32 :: s = xSym b ++ 32 :: t) : a = b ∧ s = t := by
  have h3 : ∀ {a : Int}, 3 ≤ a ∧ a ≤ 15 → (xSym a).all (fun c => !(c == 32)) = true := by
    intro a ha
    rcases (show a = 3 ∨ a = 4 ∨ a = 5 ∨ a = 6 ∨ a = 7 ∨ a = 8 ∨ a = 9 ∨ a = 10 ∨ a = 11 ∨ a = 12 ∨ a = 13 ∨ a = 14 ∨ a = 15 by omega) with rfl | rfl | rfl | rfl | rfl | rfl | rfl | rfl | rfl | rfl | rfl | rfl | rfl <;> decide
  obtain ⟨h4, h5⟩ := cut_unique (h3 h1) (h3 h2) (fun c hc => by simp at hc; subst hc; rfl) (fun c hc => by simp at hc; subst hc; rfl) h
  refine ⟨?_, (List.cons.inj h5).2⟩
  rcases (show a = 3 ∨ a = 4 ∨ a = 5 ∨ a = 6 ∨ a = 7 ∨ a = 8 ∨ a = 9 ∨ a = 10 ∨ a = 11 ∨ a = 12 ∨ a = 13 ∨ a = 14 ∨ a = 15 by omega) with rfl | rfl | rfl | rfl | rfl | rfl | rfl | rfl | rfl | rfl | rfl | rfl | rfl <;>
  rcases (show b = 3 ∨ b = 4 ∨ b = 5 ∨ b = 6 ∨ b = 7 ∨ b = 8 ∨ b = 9 ∨ b = 10 ∨ b = 11 ∨ b = 12 ∨ b = 13 ∨ b = 14 ∨ b = 15 by omega) with rfl | rfl | rfl | rfl | rfl | rfl | rfl | rfl | rfl | rfl | rfl | rfl | rfl <;>
  first | rfl | (exact absurd h4 (by decide))
/-! ### the texts tell the expressions apart -/
/-- Which kind of text it is, by its first byte. -/
def kindX (e : Ex) : Nat := if e.op = 1 then 0 else if e.op = 2 then 1 else if e.op = 16 then 2 else if e.op = 17 then 3 else if e.op = 18 then 4 else if e.op = 19 then 5 else 6
def kindC (c : UInt8) : Nat := if isDec c then 0 else if c = 114 ∨ c = 102 ∨ c = 116 then 1 else if c = 33 then 2 else if c = 45 then 3 else if c = 108 then 4 else if c = 115 then 5 else 6
theorem dec_head (u : Nat) : ∃ c r, Lib.decDigits u = c :: r ∧ isDec c = true := by
  have h := dec_dec u
  cases hl : Lib.decDigits u with
  | nil => exact absurd hl (dec_pos u)
  | cons c r =>
    rw [hl] at h
    simp only [List.all_cons, Bool.and_eq_true] at h
    exact ⟨c, r, rfl, h.1⟩
theorem kind_head {e : Ex} (hf : formB e = true) (hn : OkN e) : ∃ c r, xEx e = c :: r ∧ kindC c = kindX e := by
  have hop := form_op hf
  by_cases h1 : e.op = 1
  · have hk : kindX e = 0 := by simp [kindX, h1]
    have h0 := hn.n.1
    rw [hk, form_con hf h1, xEx_con]
    unfold xNum
    split
    · obtain ⟨c, r, hc, hd⟩ := dec_head e.n.toNat
      rw [xInt_nat h0, hc]
      exact ⟨c, r, rfl, by simp [kindC, hd]⟩
    · exact ⟨48, _, rfl, by decide⟩
  by_cases h2 : e.op = 2
  · have hk : kindX e = 1 := by simp [kindX, h2]
    have hx : xEx e = xVar e.v := by conv => lhs; rw [(form_var hf h2).1, xEx_var]
    rw [hk, hx]
    unfold xVar
    split
    · exact ⟨114, _, rfl, by decide⟩
    split
    · exact ⟨102, _, rfl, by decide⟩
    · exact ⟨116, _, rfl, by decide⟩
  by_cases h15 : e.op ≤ 15
  · obtain ⟨he, _, _⟩ := two_parts hf (by omega) h15
    have hk : kindX e = 6 := by
      unfold kindX
      rw [if_neg h1, if_neg h2, if_neg (by omega), if_neg (by omega), if_neg (by omega), if_neg (by omega)]
    rw [hk, he, xEx_two]
    exact ⟨40, _, rfl, by decide⟩
  · have he := (form_one3 hf (by omega)).1
    rw [he, xEx_one]
    rcases (show e.op = 16 ∨ e.op = 17 ∨ e.op = 18 ∨ e.op = 19 by omega) with k | k | k | k <;> rw [k] <;> simp only [reduceIte, Int.reduceEq]
    · exact ⟨33, _, rfl, show kindC 33 = 2 by decide⟩
    · exact ⟨45, _, rfl, show kindC 45 = 3 by decide⟩
    · exact ⟨108, _, rfl, show kindC 108 = 4 by decide⟩
    · exact ⟨115, _, rfl, show kindC 115 = 5 by decide⟩
theorem wid_unique {n m : Int} {s t : List UInt8} (hn : 0 ≤ n) (hm : 0 ≤ m) (h : xInt n ++ 40 :: s = xInt m ++ 40 :: t) : n = m ∧ s = t := by
  obtain ⟨h1, h2⟩ := xInt_unique hn hm (fun c hc => by simp at hc; subst hc; rfl) (fun c hc => by simp at hc; subst hc; rfl) h
  exact ⟨h1, (List.cons.inj h2).2⟩
theorem xEx_unique : ∀ (a b : Ex) (s t : List UInt8), formB a = true → formB b = true → OkN a → OkN b → stopB s → stopB t → xEx a ++ s = xEx b ++ t → a = b ∧ s = t := by
  intro a
  induction a using Ex.ind with
  | h a ih =>
  intro b s t ha hb na nb hs ht h
  have hopa := form_op ha
  have hopb := form_op hb
  have hk : kindX a = kindX b := by
    obtain ⟨c, r, hc, h1⟩ := kind_head ha na
    obtain ⟨d, q, hd, h2⟩ := kind_head hb nb
    rw [hc, hd] at h
    simp only [List.cons_append, List.cons.injEq] at h
    rw [← h1, ← h2, h.1]
  unfold kindX at hk
  by_cases h1 : a.op = 1
  · rw [if_pos h1] at hk
    have k1 : b.op = 1 := by
      rcases Decidable.em (b.op = 1) with h | h
      · exact h
      · rw [if_neg h] at hk
        repeat' split at hk
        all_goals omega
    rw [form_con ha h1, form_con hb k1] at h ⊢
    rw [xEx_con, xEx_con] at h
    obtain ⟨h3, h4⟩ := xNum_unique na.n.1 nb.n.1 hs ht h
    exact ⟨by rw [h3], h4⟩
  rw [if_neg h1] at hk
  by_cases h2 : a.op = 2
  · rw [if_pos h2] at hk
    have k1 : b.op = 2 := by
      rcases Decidable.em (b.op = 2) with h | h
      · exact h
      · rw [if_neg h] at hk
        repeat' split at hk
        all_goals omega
    obtain ⟨e1, p1, _⟩ := form_var ha h2
    obtain ⟨e2, p2, _⟩ := form_var hb k1
    rw [e1, e2] at h ⊢
    rw [xEx_var, xEx_var] at h
    obtain ⟨h3, h4⟩ := xVar_unique p1 p2 hs ht h
    exact ⟨by rw [h3], h4⟩
  rw [if_neg h2] at hk
  by_cases h15 : a.op ≤ 15
  · have k15 : 3 ≤ b.op ∧ b.op ≤ 15 := by
      rw [if_neg (by omega), if_neg (by omega), if_neg (by omega), if_neg (by omega)] at hk
      repeat' split at hk
      all_goals omega
    obtain ⟨ea, ax, ay⟩ := two_parts ha (by omega) h15
    obtain ⟨eb, bx, by'⟩ := two_parts hb k15.1 k15.2
    have la : a.l = [a.x, a.y] := by have := congrArg Ex.l ea; simpa using this
    have lb : b.l = [b.x, b.y] := by have := congrArg Ex.l eb; simpa using this
    have e1 : xEx a = [40] ++ xEx a.x ++ [32] ++ xSym a.op ++ [32] ++ xEx a.y ++ [41] := by conv => lhs; rw [ea, xEx_two]
    have e2 : xEx b = [40] ++ xEx b.x ++ [32] ++ xSym b.op ++ [32] ++ xEx b.y ++ [41] := by conv => lhs; rw [eb, xEx_two]
    rw [e1, e2] at h
    simp only [List.append_assoc, List.cons_append, List.nil_append, List.cons.injEq, true_and] at h
    obtain ⟨x1, x2⟩ := ih a.x (by rw [la]; simp) b.x _ _ ax bx (na.l _ (by rw [la]; simp)) (nb.l _ (by rw [lb]; simp)) (stop_32 _) (stop_32 _) h
    obtain ⟨o1, o2⟩ := sym_unique ⟨by omega, h15⟩ k15 (List.cons.inj x2).2
    obtain ⟨y1, y2⟩ := ih a.y (by rw [la]; simp) b.y _ _ ay by' (na.l _ (by rw [la]; simp)) (nb.l _ (by rw [lb]; simp)) (stop_41 _) (stop_41 _) o2
    exact ⟨by rw [ea, eb, x1, o1, y1], (List.cons.inj y2).2⟩
  have k16 : b.op = a.op := by
    rcases (show a.op = 16 ∨ a.op = 17 ∨ a.op = 18 ∨ a.op = 19 by omega) with k | k | k | k <;> rw [k] at hk ⊢ <;> simp only [reduceIte, Int.reduceEq] at hk <;> (repeat' split at hk) <;> omega
  obtain ⟨ea, ax, _⟩ := form_one3 ha (by omega)
  obtain ⟨eb, bx, _⟩ := form_one3 hb (by omega)
  rw [k16] at eb
  have la : a.l = [a.x] := by have := congrArg Ex.l ea; simpa using this
  have lb : b.l = [b.x] := by have := congrArg Ex.l eb; simpa using this
  have wa : a.op = 18 ∨ a.op = 19 → 0 ≤ a.wd := fun h => by obtain ⟨_, _, _, hw⟩ := form_wide ha h; omega
  have wb : a.op = 18 ∨ a.op = 19 → 0 ≤ b.wd := fun h => by obtain ⟨_, _, _, hw⟩ := form_wide hb (by rw [k16]; exact h); omega
  have hx := fun s t => ih a.x (by rw [la]; simp) b.x s t ax bx (na.l _ (by rw [la]; simp)) (nb.l _ (by rw [lb]; simp))
  have e1 : xEx a = xEx (.mk a.op 0 0 a.wd [a.x]) := by conv => lhs; rw [ea]
  have e2 : xEx b = xEx (.mk a.op 0 0 b.wd [b.x]) := by conv => lhs; rw [eb]
  rw [e1, e2, xEx_one, xEx_one] at h
  rcases (show a.op = 16 ∨ a.op = 17 ∨ a.op = 18 ∨ a.op = 19 by omega) with k | k | k | k
  · rw [k] at h ea eb
    simp only [reduceIte, List.cons_append, List.cons.injEq, true_and] at h
    obtain ⟨h3, h4⟩ := hx s t hs ht h
    have w1 : a.wd = 0 := by have := (form_all ha).1; rw [k, okE_one (.inl rfl)] at this; exact this.2.2.1
    have w2 : b.wd = 0 := by have := (form_all hb).1; rw [k16, k, okE_one (.inl rfl)] at this; exact this.2.2.1
    exact ⟨by rw [ea, eb, h3, w1, w2], h4⟩
  · rw [k] at h ea eb
    simp only [reduceIte, Int.reduceEq, List.cons_append, List.cons.injEq, true_and] at h
    obtain ⟨h3, h4⟩ := hx s t hs ht h
    have w1 : a.wd = 0 := by have := (form_all ha).1; rw [k, okE_one (.inr rfl)] at this; exact this.2.2.1
    have w2 : b.wd = 0 := by have := (form_all hb).1; rw [k16, k, okE_one (.inr rfl)] at this; exact this.2.2.1
    exact ⟨by rw [ea, eb, h3, w1, w2], h4⟩
  · have w1 := wa (.inl k)
    have w2 := wb (.inl k)
    rw [k] at h ea eb
    simp only [reduceIte, Int.reduceEq, List.append_assoc, List.cons_append, List.nil_append, List.cons.injEq, true_and] at h
    obtain ⟨h3, h4⟩ := wid_unique w1 w2 h
    obtain ⟨h5, h6⟩ := hx _ _ (stop_41 _) (stop_41 _) h4
    exact ⟨by rw [ea, eb, h3, h5], (List.cons.inj h6).2⟩
  · have w1 := wa (.inr k)
    have w2 := wb (.inr k)
    rw [k] at h ea eb
    simp only [reduceIte, Int.reduceEq, List.append_assoc, List.cons_append, List.nil_append, List.cons.injEq, true_and] at h
    obtain ⟨h3, h4⟩ := wid_unique w1 w2 h
    obtain ⟨h5, h6⟩ := hx _ _ (stop_41 _) (stop_41 _) h4
    exact ⟨by rw [ea, eb, h3, h5], (List.cons.inj h6).2⟩
/-- Two well-formed expressions have the same text exactly if they are the same. -/
theorem xEx_inj {a b : Ex} (ha : formB a = true) (hb : formB b = true) (na : OkN a) (nb : OkN b) : xEx a = xEx b ↔ a = b := by
  constructor
  · intro h
    exact (xEx_unique a b [] [] ha hb na nb (fun c hc => by simp at hc) (fun c hc => by simp at hc) (by rw [h])).1
  · rintro rfl; rfl
/-! ### lengths -/
theorem dec_len (u : Nat) (h : u < 18446744073709551616) : (Lib.decDigits u).length ≤ 20 := by
  have : ∀ k u : Nat, u < 10 ^ (k + 1) → (Lib.decDigits u).length ≤ k + 1 := by
    intro k
    induction k with
    | zero => intro u hu; rw [dec_lt (by simpa using hu)]; simp
    | succ k ih =>
      intro u hu
      by_cases h : u < 10
      · rw [dec_lt h]; simp
      · rw [dec_ge h]
        have := ih (u / 10) (by rw [Nat.div_lt_iff_lt_mul (by omega)]; rw [Nat.pow_succ] at hu; exact hu)
        simp
        omega
  exact this 19 u (by omega)
theorem xInt_len (n : Int) (h : -9223372036854775808 ≤ n ∧ n ≤ 9223372036854775807) : (xInt n).length ≤ 21 := by
  unfold xInt Lib.itoa
  split
  · have := dec_len n.natAbs (by omega)
    simp
    omega
  · have := dec_len n.toNat (by omega)
    omega
theorem hexL_len (u : Nat) (h : u < 4294967296) : (hexL u).length ≤ 8 := by
  have : ∀ k u : Nat, u < 16 ^ (k + 1) → (hexL u).length ≤ k + 1 := by
    intro k
    induction k with
    | zero => intro u hu; rw [hexL_lt (by simpa using hu)]; simp
    | succ k ih =>
      intro u hu
      by_cases h : u < 16
      · rw [hexL_lt h]; simp
      · rw [hexL_ge h]
        have := ih (u / 16) (by rw [Nat.div_lt_iff_lt_mul (by omega)]; rw [Nat.pow_succ] at hu; exact hu)
        simp
        omega
  exact this 7 u (by omega)
theorem xNum_len (n : Int) (h : R32 n) : (xNum n).length ≤ 21 := by
  have h1 := h.1
  have h2 := h.2
  unfold xNum
  split
  · exact xInt_len n (by omega)
  · have := hexL_len n.toNat (by omega)
    simp
    omega
theorem xVar_len (v : Int) (h : -9223372036854775808 ≤ v ∧ v ≤ 9223372036854775807) : (xVar v).length ≤ 22 := by
  have := xInt_len v h
  unfold xVar
  split
  · simp; omega
  split <;> simp
  omega
theorem xSym_len (op : Int) : (xSym op).length ≤ 3 := by
  unfold xSym
  repeat' split
  all_goals simp
theorem xEx_len : ∀ e : Ex, formB e = true → OkN e → (xEx e).length ≤ 30 * e.nodes := by
  intro e
  induction e using Ex.ind with
  | h e ih =>
  intro hf hn
  have hop := form_op hf
  have hp := e.nodes_pos
  by_cases h1 : e.op = 1
  · have : xEx e = xNum e.n := by conv => lhs; rw [form_con hf h1, xEx_con]
    rw [this]
    have := xNum_len e.n hn.n
    omega
  by_cases h2 : e.op = 2
  · obtain ⟨h3, h4, h5⟩ := form_var hf h2
    have h6 := xVar_len e.v (by omega)
    have : xEx e = xVar e.v := by conv => lhs; rw [h3, xEx_var]
    rw [this]
    omega
  by_cases h15 : e.op ≤ 15
  · obtain ⟨he, hx, hy⟩ := two_parts hf (by omega) h15
    have la : e.l = [e.x, e.y] := by have := congrArg Ex.l he; simpa using this
    have a1 := ih e.x (by rw [la]; simp) hx (hn.l _ (by rw [la]; simp))
    have a2 := ih e.y (by rw [la]; simp) hy (hn.l _ (by rw [la]; simp))
    have a3 := xSym_len e.op
    have e1 : xEx e = [40] ++ xEx e.x ++ [32] ++ xSym e.op ++ [32] ++ xEx e.y ++ [41] := by conv => lhs; rw [he, xEx_two]
    have e2 : e.nodes = e.x.nodes + e.y.nodes + 1 := by conv => lhs; rw [he, nodes_two]
    rw [e1, e2]
    simp
    omega
  · obtain ⟨he, hx, _, e2, _⟩ := form_one3 hf (by omega)
    have la : e.l = [e.x] := by have := congrArg Ex.l he; simpa using this
    have a1 := ih e.x (by rw [la]; simp) hx (hn.l _ (by rw [la]; simp))
    have e1 : xEx e = xEx (.mk e.op 0 0 e.wd [e.x]) := by conv => lhs; rw [he]
    have hw : e.op = 18 ∨ e.op = 19 → (xInt e.wd).length ≤ 21 := fun h => by
      obtain ⟨_, _, _, hw⟩ := form_wide hf h
      exact xInt_len e.wd (by omega)
    rw [e1, e2, xEx_one]
    split
    · simp; omega
    split
    · simp; omega
    split
    · rename_i k
      have := hw (.inl k)
      simp; omega
    · have := hw (.inr (by omega))
      simp; omega
end Go.Proofs.YtlidimmfpfockaaGreatDoor

/- Contracts: il's numbers, names and texts. -/
namespace Go.Proofs.YtlidimmfpfockaaGreatDoor
open Go.RowKit
/-- Bytes as a string. -/
abbrev bs (l : List UInt8) : ByteArray := ⟨l.toArray⟩
theorem tab_pow {w : World} (h : GbIs w) : Lib.TabIs Tryz.prog w "internal/strconv.uint64pow10" .u64 Lib.pow10Tab := by
  obtain ⟨t, f, he⟩ := (h (0, Lib.pow10Tab.map fun z => Value.int .u64 z) (by simp [GB])).2.2
  have hg : Tryz.prog.globalNamed "internal/strconv.uint64pow10" = some 0 := by kernel_rfl
  unfold Lib.TabIs World.var?
  rw [hg]
  simp only [Option.bind_some, he]
theorem ext_grow (w : World) (k : Nat) (os : Array Obj) : Ext w (Go.Sort.grow (w.drewN k) os) := by
  refine ⟨rfl, rfl, rfl, ?_, fun i hi => ?_⟩
  · show w.heap.size ≤ (w.heap ++ os).size
    simp
  · show (w.heap ++ os)[i]? = w.heap[i]?
    exact Array.getElem?_append_left hi
theorem itoaW_af (n : Int) (h : -9223372036854775808 ≤ n ∧ n ≤ 9223372036854775807) : AF Tryz.prog 63 [aI .i64 n] (aS (bs (xInt n))) := by
  show AF Tryz.prog 63 [aI .i64 n] (aS ⟨(Lib.itoa n).toArray⟩)
  intro H w vs hH hs hm
  simp only [ShpL] at hs
  obtain ⟨u1, l1, rfl, s1, rfl⟩ := hs
  simp only [Shp] at s1
  subst s1
  refine (Sh_strconv_Itoa n h.1 h.2 w (tab_pow hH.2.1)).mono ?_
  rintro en w' ⟨rfl, k, os, rfl⟩
  exact ⟨_, rfl, ⟨by simp [Shp], by simp [Mem, Rd, Value.oneCell']⟩, ext_grow w k os⟩
end Go.Proofs.YtlidimmfpfockaaGreatDoor

/- Contract: strconv.FormatUint in base 16. -/
namespace Go.Proofs.YtlidimmfpfockaaGreatDoor
open Go.RowKit
/-- Bytes, as a slice's elements. -/
def b8s (l : List Int) : List (List AV) := l.map fun n => [aI .u8 n]
@[simp] theorem b8s_len (l : List Int) : (b8s l).length = l.length := by simp [b8s]
theorem b8s_set (l : List Int) (i : Nat) (n : Int) : (b8s l).set i [aI .u8 n] = b8s (l.set i n) := by simp [b8s, List.map_set]
abbrev digs : ByteArray := ⟨#[48, 49, 50, 51, 52, 53, 54, 55, 56, 57, 97, 98, 99, 100, 101, 102, 103, 104, 105, 106, 107, 108, 109, 110, 111, 112, 113, 114, 115, 116, 117, 118, 119, 120, 121, 122]⟩
theorem digs_at : ∀ d : Fin 16, digs[d.val]? = some (hexD d.val) := by decide +kernel
theorem digs_get {d : Nat} (h : d < 16) : digs[d]? = some (hexD d) := digs_at ⟨d, h⟩
theorem and15 {m : Nat} (h : m < 18446744073709551616) : andI .u64 (m : Int) 15 = ((m % 16 : Nat) : Int) := by
  have e1 : BitVec.ofInt 64 (m : Int) = BitVec.ofNat 64 m := by simp
  have e2 : BitVec.ofInt 64 15 = BitVec.ofNat 64 15 := by simp
  have h2 : m &&& 15 = m % 16 := Nat.and_two_pow_sub_one_eq_mod m 4
  unfold andI
  rw [show IntKind.u64.bits = 64 from rfl, e1, e2]
  simp only [BitVec.toNat_and, BitVec.toNat_ofNat]
  rw [Nat.mod_eq_of_lt (show m < 2 ^ 64 by omega), Nat.mod_eq_of_lt (show 15 < 2 ^ 64 by omega), h2]
  simp [IntKind.wrap, IntKind.signed, IntKind.bits]
  omega
theorem shr4 (m : Nat) : shrI .u64 (m : Int) 4 = ((m / 16 : Nat) : Int) := by
  unfold shrI
  simp [IntKind.bits]
  rw [Int.fdiv_eq_ediv_of_nonneg _ (by omega)]
theorem p2_16 : AF Tryz.prog 258 [aI .i64 16] (aB true) := xtrue_af xnone_ok (lf := 100) (n := 10) (by kernel_rfl)
theorem tzu_af : AF Tryz.prog 259 [aI .u64 16] (aI .i64 4) := by
  refine af_of Tryz.func259 rfl (by kernel_rfl) (by simp [Tryz.ntmps259]) fun _ => ?_; simp [Tryz.f259, Ex.d_eq]
  refine aCall_of (tz64_af) (by simp) (by simp [Ex.d_eq]) ?_; simp [Ex.d_eq]
set_option maxRecDepth 100000 in
theorem fmtbits_af (u : Nat) (hu : u < 18446744073709551616) : AF Tryz.prog 222 [.d (.v (.slice none 0 0)), aI .u64 u, aI .i64 16, aB false, aB false] (.tup [.d (.v (.slice none 0 0)), aS (bs (hexL u))]) := by
  have w16 : IntKind.u64.wrap 16 = 16 := by decide +kernel
  have w15 : IntKind.u64.wrap 15 = 15 := by decide +kernel
  have w4 : IntKind.u64.wrap 4 = 4 := by decide +kernel
  obtain ⟨T, hT⟩ : ∃ T, hexL u = T := ⟨_, rfl⟩
  rw [hT]
  refine af_of Tryz.func222 rfl (by kernel_rfl) (by simp [Tryz.ntmps222]) fun _ => ?_; simp [Tryz.f222, Ex.d_eq]
  refine aCall_of (p2_16) (by simp) (by simp [Ex.d_eq]) ?_; simp [Ex.d_eq]
  simp [w16]
  refine aCall_of (tzu_af) (by simp) (by simp [Ex.d_eq, w16]) ?_; simp [w16, w15, w4]
  have hz : (List.replicate 65 [aI .u8 0]) = b8s (List.replicate 65 0) := by simp [b8s]
  try rw [hz]
  refine aLoop_of (α := Nat × Nat × List Int) (fun q e A => q.2.1 ≤ 65 ∧ 49 < q.2.1 ∧ q.1 < 16 ^ (q.2.1 - 49) ∧ q.2.2.length = 65 ∧ T = hexL q.1 ++ (q.2.2.drop q.2.1).map (fun n => UInt8.ofNat n.toNat) ∧
    A = [⟨0, true, 203, 1, b8s q.2.2⟩] ∧ e 1 = aI .u64 q.1 ∧ e 12 = .ptr 0 0 0 0 ∧ e 13 = aI .i64 q.2.1 ∧ e 14 = aI .u64 4 ∧ e 15 = aI .u64 16 ∧ e 16 = aI .u64 15 ∧ e 3 = aB false ∧ e 4 = aB false ∧ e 10 = .d (.v (.slice none 0 0))) (fun q => q.1) (u, 65, List.replicate 65 0) (Sub.refl _ _ _)
    ⟨by simp, by simp, by simp; omega, by simp, by simp [hT], by simp [b8s], by simp, by simp, by simp, by simp, by simp, by simp, by simp, by simp, by simp⟩ ?_
  rintro ⟨m, i, L⟩ e A ⟨hi, hi2, hm, hL, hx, rfl, e1, e12, e13, e14, e15, e16, e3, e4, e10⟩ K hK
  simp only at hi hi2 hm hL hx
  have hm64 : m < 18446744073709551616 := by
    have : (16 : Nat) ^ (i - 49) ≤ 16 ^ 16 := Nat.pow_le_pow_right (by omega) (by omega)
    omega
  obtain ⟨j, rfl⟩ : ∃ j, i = j + 1 := ⟨i - 1, by omega⟩
  have hjL : j < L.length := by omega
  have hd := digs_get (d := m % 16) (by omega)
  have hh : (hexD (m % 16)).toNat < 256 := (hexD (m % 16)).toNat_lt
  have hg : (b8s L)[j]? = some [aI .u8 L[j]] := by simp [b8s, hjL]
  have hset : (b8s L).set j [aI .u8 ((hexD (m % 16)).toNat : Int)] = b8s (L.set j ((hexD (m % 16)).toNat : Int)) := b8s_set _ _ _
  have hdr : (L.set j ((hexD (m % 16)).toNat : Int)).drop j = ((hexD (m % 16)).toNat : Int) :: L.drop (j + 1) := by
    rw [List.drop_eq_getElem_cons (by simpa using hjL)]
    simp [List.drop_set]
  by_cases h16 : m < 16
  · have hmm : m % 16 = m := Nat.mod_eq_of_lt h16
    rw [hmm] at hd hset hdr
    simp at e1 e13
    simp [e1, e15, show ¬ (16 : Int) ≤ m by omega, e13, e12, e3, e4, e10, i64w (n := (j : Int)) (by omega), hd, hg, hL, hset, show (j : Int) < 65 by omega]
    simp [show (j : Int) ≤ 65 by omega, show 0 < j by omega, show j < 65 by omega, maxLen]
    refine aRaw_b2s Tryz.underlying91 Tryz.underlying5 Tryz.underlying9 (xs := (L.set j ((hexD m).toNat : Int)).drop j) ?_ ?_
    · simp
      refine ⟨by omega, ?_⟩
      rw [List.take_of_length_le (by simp [hL])]
      simp [b8s, List.map_set]
    · have hfin : strOfNums ((L.set j ((hexD m).toNat : Int)).drop j) = bs T := by
        rw [hdr, hx, hexL_lt h16]
        simp [strOfNums]
      rw [hfin]
      simp [e10]
  · simp at e1 e13
    have ht : ((m : Int) % 16).toNat = m % 16 := by omega
    simp [e1, e15, show (16 : Int) ≤ m by omega, e13, e12, e16, e14, i64w (n := (j : Int)) (by omega), and15 hm64, shr4, show (0 : Int) ≤ (m : Int) % 16 by omega, ht, hd, hg, hL, hset, show (j : Int) < 65 by omega]
    refine hK (m / 16, j, L.set j ((hexD (m % 16)).toNat : Int)) _ _ _ _ (Sub.refl _ _ _) ⟨by simp only; omega, ?_, ?_, by simp [hL], ?_, by simp, by simp, by simp [e12], by simp, by simp [e14], by simp [e15], by simp [e16], by simp [e3], by simp [e4], by simp [e10]⟩ (by simp only; omega)
    · simp only
      rcases Nat.lt_or_ge 49 j with h | h
      · exact h
      · have : j + 1 - 49 = 1 := by omega
        rw [this] at hm
        omega
    · simp only
      have : j + 1 - 49 = (j - 49) + 1 := by
        rcases Nat.lt_or_ge 49 j with h | h
        · omega
        · omega
      rw [this, Nat.pow_succ] at hm
      exact Nat.div_lt_of_lt_mul (by omega)
    · simp only
      rw [hdr, hx, hexL_ge h16]
      simp
theorem fmt16_af (u : Nat) (hu : u < 18446744073709551616) : AF Tryz.prog 133 [aI .u64 u, aI .i64 16] (aS (bs (hexL u))) := by
  have h : AF Tryz.prog 180 [aI .u64 u, aI .i64 16] (aS (bs (hexL u))) := by
    refine af_of Tryz.func180 rfl (by kernel_rfl) (by simp [Tryz.ntmps180]) fun _ => ?_; simp [Tryz.f180, Ex.d_eq]
    refine aCall_of (fmtbits_af u hu) (by simp) (by simp [Ex.d_eq]) ?_; simp [Ex.d_eq]
  refine af_of Tryz.func133 rfl (by kernel_rfl) (by simp [Tryz.ntmps133]) fun _ => ?_; simp [Tryz.f133, Ex.d_eq]
  refine aCall_of (h) (by simp) (by simp [Ex.d_eq]) ?_; simp [Ex.d_eq]
end Go.Proofs.YtlidimmfpfockaaGreatDoor

/- Contracts: il's numbers, names and texts. -/
namespace Go.Proofs.YtlidimmfpfockaaGreatDoor
open Go.RowKit
theorem ilconstant_af (n : Int) (hn : R32 n) : AF Tryz.prog 64 [aI .u32 n] (aS (bs (xNum n))) := by
  have h0 := hn.1
  have h1 := hn.2
  unfold xNum
  by_cases h : n ≤ 9
  · refine af_of Tryz.func64 rfl (by kernel_rfl) (by simp [Tryz.ntmps64]) fun _ => ?_; simp [Tryz.f64, Ex.d_eq]
    simp [h, i64w (n := n) (by omega)]
    refine aCall_of (itoaW_af n (by omega)) (by simp) (by simp [Ex.d_eq]) ?_; simp [Ex.d_eq]
  · obtain ⟨u, rfl⟩ : ∃ u : Nat, n = u := ⟨n.toNat, by omega⟩
    have hl := hexL_len u (by omega)
    have hw : IntKind.u64.wrap (u : Int) = u := by
      simp [IntKind.wrap, IntKind.signed, IntKind.bits]
      omega
    refine af_of Tryz.func64 rfl (by kernel_rfl) (by simp [Tryz.ntmps64]) fun _ => ?_; simp [Tryz.f64, Ex.d_eq]
    simp [h, hw]
    refine aCall_of (fmt16_af u (by omega)) (by simp) (by simp [Ex.d_eq]) ?_; simp [Ex.d_eq]
    refine aCall_ofs (iljoin_af [bs [48, 120], bs (hexL u)] (by simp; omega) (by simp)) (by simp) (by simp [Ex.d_eq]) (by simp) ?_; simp [Ex.d_eq]
    simp [cat]
theorem varnameW_af (v : Int) (h : 0 ≤ v ∧ v < 65536) : AF Tryz.prog 61 [aI .i64 v] (aS (bs (xVar v))) := by
  have hl := xInt_len v (by omega)
  unfold xVar
  by_cases h8 : v < 8
  · refine af_of Tryz.func61 rfl (by kernel_rfl) (by simp [Tryz.ntmps61]) fun _ => ?_; simp [Tryz.f61, Ex.d_eq]
    simp [h8]
    refine aCall_of (itoaW_af v (by omega)) (by simp) (by simp [Ex.d_eq]) ?_; simp [Ex.d_eq]
    refine aCall_ofs (iljoin_af [bs [114], bs (xInt v)] (by simp; omega) (by simp)) (by simp) (by simp [Ex.d_eq]) (by simp) ?_; simp [Ex.d_eq]
    simp [cat]
  by_cases h12 : v < 12
  · rcases (show v = 8 ∨ v = 9 ∨ v = 10 ∨ v = 11 by omega) with rfl | rfl | rfl | rfl
    · have hz : (⟨#[122, 110, 99, 118]⟩ : ByteArray).size = 4 := rfl
      have hx : (⟨#[122, 110, 99, 118]⟩ : ByteArray).extract 0 1 = ⟨#[122]⟩ := by decide +kernel
      refine af_of Tryz.func61 rfl (by kernel_rfl) (by simp [Tryz.ntmps61]) fun _ => ?_; simp [Tryz.f61, Ex.d_eq]
      simp [hz, hx]
      refine aCall_ofs (iljoin_af [bs [102], bs [122]] (by simp) (by simp)) (by simp) (by simp [Ex.d_eq]) (by simp) ?_; simp [Ex.d_eq]
      simp [cat, flagC]
    · have hz : (⟨#[122, 110, 99, 118]⟩ : ByteArray).size = 4 := rfl
      have hx : (⟨#[122, 110, 99, 118]⟩ : ByteArray).extract 1 2 = ⟨#[110]⟩ := by decide +kernel
      refine af_of Tryz.func61 rfl (by kernel_rfl) (by simp [Tryz.ntmps61]) fun _ => ?_; simp [Tryz.f61, Ex.d_eq]
      simp [hz, hx]
      refine aCall_ofs (iljoin_af [bs [102], bs [110]] (by simp) (by simp)) (by simp) (by simp [Ex.d_eq]) (by simp) ?_; simp [Ex.d_eq]
      simp [cat, flagC]
    · have hz : (⟨#[122, 110, 99, 118]⟩ : ByteArray).size = 4 := rfl
      have hx : (⟨#[122, 110, 99, 118]⟩ : ByteArray).extract 2 3 = ⟨#[99]⟩ := by decide +kernel
      refine af_of Tryz.func61 rfl (by kernel_rfl) (by simp [Tryz.ntmps61]) fun _ => ?_; simp [Tryz.f61, Ex.d_eq]
      simp [hz, hx]
      refine aCall_ofs (iljoin_af [bs [102], bs [99]] (by simp) (by simp)) (by simp) (by simp [Ex.d_eq]) (by simp) ?_; simp [Ex.d_eq]
      simp [cat, flagC]
    · have hz : (⟨#[122, 110, 99, 118]⟩ : ByteArray).size = 4 := rfl
      have hx : (⟨#[122, 110, 99, 118]⟩ : ByteArray).extract 3 4 = ⟨#[118]⟩ := by decide +kernel
      refine af_of Tryz.func61 rfl (by kernel_rfl) (by simp [Tryz.ntmps61]) fun _ => ?_; simp [Tryz.f61, Ex.d_eq]
      simp [hz, hx]
      refine aCall_ofs (iljoin_af [bs [102], bs [118]] (by simp) (by simp)) (by simp) (by simp [Ex.d_eq]) (by simp) ?_; simp [Ex.d_eq]
      simp [cat, flagC]
  · refine af_of Tryz.func61 rfl (by kernel_rfl) (by simp [Tryz.ntmps61]) fun _ => ?_; simp [Tryz.f61, Ex.d_eq]
    simp [h8, h12]
    refine aCall_of (itoaW_af v (by omega)) (by simp) (by simp [Ex.d_eq]) ?_; simp [Ex.d_eq]
    refine aCall_ofs (iljoin_af [bs [116], bs (xInt v)] (by simp; omega) (by simp)) (by simp) (by simp [Ex.d_eq]) (by simp) ?_; simp [Ex.d_eq]
    simp [cat]
theorem ilsymbol_af (op : Int) (h3 : 3 ≤ op) (h15 : op ≤ 15) : AF Tryz.prog 131 [aI .i64 op] (aS (bs (xSym op))) := by
  rcases (show op = 3 ∨ op = 4 ∨ op = 5 ∨ op = 6 ∨ op = 7 ∨ op = 8 ∨ op = 9 ∨ op = 10 ∨ op = 11 ∨ op = 12 ∨ op = 13 ∨ op = 14 ∨ op = 15 by omega) with rfl | rfl | rfl | rfl | rfl | rfl | rfl | rfl | rfl | rfl | rfl | rfl | rfl
  all_goals
    refine af_of Tryz.func131 rfl (by kernel_rfl) (by simp [Tryz.ntmps131]) fun _ => ?_; simp [Tryz.f131, Ex.d_eq]
    try simp [xSym]
theorem iltext_af : ∀ e : Ex, formB e = true → OkN e → e.nodes ≤ 1000000 → AF Tryz.prog 62 [exA e] (aS (bs (xEx e))) := by
  intro e
  induction e using Ex.ind with
  | h e ih =>
  intro hf hn hs
  have hop := form_op hf
  by_cases h1 : e.op = 1
  · have h0 := hn.n
    obtain ⟨m, rfl⟩ : ∃ m, e = eCon m := ⟨_, form_con hf h1⟩
    rw [xEx_con]
    refine af_of Tryz.func62 rfl (by kernel_rfl) (by simp [Tryz.ntmps62]) fun _ => ?_; simp [Tryz.f62, Ex.d_eq]
    refine aCall_of (ilconstant_af m h0) (by simp) (by simp [Ex.d_eq]) ?_; simp [Ex.d_eq]
  by_cases h2 : e.op = 2
  · obtain ⟨he, hv⟩ := form_var hf h2
    obtain ⟨v, hvv⟩ : ∃ v, e.v = v := ⟨_, rfl⟩
    rw [hvv] at he hv
    subst he
    rw [xEx_var]
    refine af_of Tryz.func62 rfl (by kernel_rfl) (by simp [Tryz.ntmps62]) fun _ => ?_; simp [Tryz.f62, Ex.d_eq]
    refine aCall_of (varnameW_af v hv) (by simp) (by simp [Ex.d_eq]) ?_; simp [Ex.d_eq]
  by_cases h15 : e.op ≤ 15
  · obtain ⟨op, hoe⟩ : ∃ op, e.op = op := ⟨_, rfl⟩
    obtain ⟨a, b, he, ha, hb⟩ := form_two' hf hoe (by omega) (by omega)
    rw [hoe] at h1 h2 h15 hop
    subst he
    clear hoe
    simp only [nodes_two] at hs
    have na := hn.l a (by simp)
    have nb := hn.l b (by simp)
    have ca := ih a (by simp) ha na (by omega)
    have cb := ih b (by simp) hb nb (by omega)
    have la := xEx_len a ha na
    have lb := xEx_len b hb nb
    have ls := xSym_len op
    rw [xEx_two]
    refine af_of Tryz.func62 rfl (by kernel_rfl) (by simp [Tryz.ntmps62]) fun _ => ?_; simp [Tryz.f62, Ex.d_eq]
    simp [h1, h2, show ¬ op = 16 by omega, show ¬ op = 17 by omega, show ¬ op = 18 by omega, show ¬ op = 19 by omega]
    refine adraw [] (by kernel_rfl) (by kernel_rfl) (by kernel_rfl) (by kernel_rfl) ?_; simp [Ex.d_eq]
    refine adC_of (ca) (by simp) trivial (by simp) (by simp [Ex.d_eq]) ?_; simp [Ex.d_eq]
    refine adC_of (ilsymbol_af op (by omega) h15) (by simp) trivial (by simp) (by simp [Ex.d_eq]) ?_; simp [Ex.d_eq]
    refine adC_of (cb) (by simp) trivial (by simp) (by simp [Ex.d_eq]) ?_; simp [Ex.d_eq]
    refine adC_ofs (iljoin_af [bs [40], bs (xEx a), bs [32], bs (xSym op), bs [32], bs (xEx b), bs [41]] (by simp; omega) (by simp)) (by simp) trivial (by simp) (by simp [Ex.d_eq]) (by simp) ?_; simp [Ex.d_eq]
    simp [cat]
  obtain ⟨op, hoe⟩ : ∃ op, e.op = op := ⟨_, rfl⟩
  obtain ⟨w, hwe⟩ : ∃ w, e.wd = w := ⟨_, rfl⟩
  obtain ⟨a, hae⟩ : ∃ a, e.x = a := ⟨_, rfl⟩
  obtain ⟨he, ha, _, hnd, _⟩ := form_one3 hf (by omega)
  have hw : op = 18 ∨ op = 19 → w = 1 ∨ w = 2 ∨ w = 4 := fun h => by
    obtain ⟨_, _, _, hw⟩ := form_wide hf (by rw [hoe]; exact h)
    omega
  rw [hoe, hwe, hae] at he
  rw [hae] at ha hnd
  rw [hoe] at h1 h2 h15 hop
  clear hoe hwe hae
  subst he
  have na := hn.l a (by simp)
  have ca := ih a (by simp) ha na (by omega)
  have la := xEx_len a ha na
  rw [xEx_one]
  rcases (show op = 16 ∨ op = 17 ∨ op = 18 ∨ op = 19 by omega) with rfl | rfl | rfl | rfl
  · refine af_of Tryz.func62 rfl (by kernel_rfl) (by simp [Tryz.ntmps62]) fun _ => ?_; simp [Tryz.f62, Ex.d_eq]
    refine aCall_of (ca) (by simp) (by simp [Ex.d_eq]) ?_; simp [Ex.d_eq]
    refine aCall_ofs (iljoin_af [bs [33], bs (xEx a)] (by simp; omega) (by simp)) (by simp) (by simp [Ex.d_eq]) (by simp) ?_; simp [Ex.d_eq]
    simp [cat]
  · refine af_of Tryz.func62 rfl (by kernel_rfl) (by simp [Tryz.ntmps62]) fun _ => ?_; simp [Tryz.f62, Ex.d_eq]
    refine aCall_of (ca) (by simp) (by simp [Ex.d_eq]) ?_; simp [Ex.d_eq]
    refine aCall_ofs (iljoin_af [bs [45], bs (xEx a)] (by simp; omega) (by simp)) (by simp) (by simp [Ex.d_eq]) (by simp) ?_; simp [Ex.d_eq]
    simp [cat]
  · have lw := xInt_len w (by omega)
    refine af_of Tryz.func62 rfl (by kernel_rfl) (by simp [Tryz.ntmps62]) fun _ => ?_; simp [Tryz.f62, Ex.d_eq]
    refine adraw [] (by kernel_rfl) (by kernel_rfl) (by kernel_rfl) (by kernel_rfl) ?_; simp [Ex.d_eq]
    refine adC_of (itoaW_af w (by omega)) (by simp) trivial (by simp) (by simp [Ex.d_eq]) ?_; simp [Ex.d_eq]
    refine adC_of (ca) (by simp) trivial (by simp) (by simp [Ex.d_eq]) ?_; simp [Ex.d_eq]
    refine adC_ofs (iljoin_af [bs [108, 111, 97, 100], bs (xInt w), bs [40], bs (xEx a), bs [41]] (by simp; omega) (by simp)) (by simp) trivial (by simp) (by simp [Ex.d_eq]) (by simp) ?_; simp [Ex.d_eq]
    simp [cat]
  · have lw := xInt_len w (by omega)
    refine af_of Tryz.func62 rfl (by kernel_rfl) (by simp [Tryz.ntmps62]) fun _ => ?_; simp [Tryz.f62, Ex.d_eq]
    refine adraw [] (by kernel_rfl) (by kernel_rfl) (by kernel_rfl) (by kernel_rfl) ?_; simp [Ex.d_eq]
    refine adC_of (itoaW_af w (by omega)) (by simp) trivial (by simp) (by simp [Ex.d_eq]) ?_; simp [Ex.d_eq]
    refine adC_of (ca) (by simp) trivial (by simp) (by simp [Ex.d_eq]) ?_; simp [Ex.d_eq]
    refine adC_ofs (iljoin_af [bs [115, 101, 120, 116], bs (xInt w), bs [40], bs (xEx a), bs [41]] (by simp; omega) (by simp)) (by simp) trivial (by simp) (by simp [Ex.d_eq]) (by simp) ?_; simp [Ex.d_eq]
    simp [cat]
/-- What Print answers. -/
def prE (e : Ex) : List UInt8 := if shalB 64 e = true ∧ formB e = true then xEx e else []
theorem ilprint_af (e : Ex) (hn : OkN e) (hs : e.nodes ≤ 1000000) : AF Tryz.prog 16 [exA e] (aS (bs (prE e))) := by
  have hc := check_af e
  unfold prE
  by_cases h1 : shalB 64 e = true
  · by_cases h2 : formB e = true
    · rw [if_pos h1, if_pos h2] at hc
      rw [if_pos ⟨h1, h2⟩]
      refine af_of Tryz.func16 rfl (by kernel_rfl) (by simp [Tryz.ntmps16]) fun _ => ?_; simp [Tryz.f16, Ex.d_eq]
      refine aCall_of (hc) (by simp) (by simp [Ex.d_eq]) ?_; simp [Ex.d_eq]
      refine aCall_of (iltext_af e h2 hn hs) (by simp) (by simp [Ex.d_eq]) ?_; simp [Ex.d_eq]
    · rw [if_pos h1, if_neg h2] at hc
      rw [if_neg (fun h => h2 h.2)]
      refine af_of Tryz.func16 rfl (by kernel_rfl) (by simp [Tryz.ntmps16]) fun _ => ?_; simp [Tryz.f16, Ex.d_eq]
      refine aCall_of (hc) (by simp) (by simp [Ex.d_eq]) ?_; simp [Ex.d_eq]
  · rw [if_neg h1] at hc
    rw [if_neg (fun h => h1 h.1)]
    refine af_of Tryz.func16 rfl (by kernel_rfl) (by simp [Tryz.ntmps16]) fun _ => ?_; simp [Tryz.f16, Ex.d_eq]
    refine aCall_of (hc) (by simp) (by simp [Ex.d_eq]) ?_; simp [Ex.d_eq]
end Go.Proofs.YtlidimmfpfockaaGreatDoor

/- Contracts: il's text of a statement. -/
namespace Go.Proofs.YtlidimmfpfockaaGreatDoor
open Go.RowKit
theorem bytes_beqQ (t s : ByteArray) : (t.toList == s.toList) = decide (t = s) := by
  rw [ByteArray.toList_eq, ByteArray.toList_eq, Bool.eq_iff_iff]
  simp only [beq_iff_eq, decide_eq_true_eq]
  exact ⟨fun h => by cases t; cases s; simp only [ByteArray.mk.injEq]; exact Array.toList_inj.1 h, fun h => by rw [h]⟩
/-- A statement's numbers fit. -/
structure StFit (s : St) : Prop where
  nx : I64 s.nx
  el : I64 s.el
  tg : R32 s.tg
  e : ∀ x ∈ s.e, OkN x
  cs : ∀ n ∈ s.cs, I64 n
def xList (l : List Int) : List UInt8 := l.flatMap fun n => 44 :: 32 :: xInt n
/-- The text of a well-formed statement. -/
def xSt (s : St) : List UInt8 :=
  if s.op = 1 then xVar s.va ++ [32, 61, 32] ++ xEx (s.e.getD 0 eNil)
  else if s.op = 2 then [115, 116, 111, 114, 101] ++ xInt s.wd ++ [32] ++ xEx (s.e.getD 0 eNil) ++ [44, 32] ++ xEx (s.e.getD 1 eNil)
  else if s.op = 3 then xVar s.va ++ [32, 61, 32, 105, 110]
  else if s.op = 4 then [111, 117, 116, 32] ++ xEx (s.e.getD 0 eNil)
  else if s.op = 5 then [99, 97, 108, 108, 32] ++ xNum s.tg
  else if s.op = 6 then [106, 117, 109, 112, 32] ++ xInt s.nx
  else if s.op = 7 then [98, 114, 97, 110, 99, 104, 32] ++ xEx (s.e.getD 0 eNil) ++ xList [s.nx, s.el]
  else if s.op = 8 then [115, 119, 105, 116, 99, 104, 32] ++ xEx (s.e.getD 0 eNil) ++ xList s.cs
  else if s.op = 9 then [114, 101, 116, 117, 114, 110]
  else [104, 97, 108, 116]
/-- What PrintStmt answers. -/
def prSt (s : St) : List UInt8 := if stErr s = 0 then xSt s else []
theorem stErr_ok {s : St} (h : stErr s = 0) : exprsN s.op = s.e.length ∧ (∀ e ∈ s.e, shalB 64 e = true ∧ formB e = true) ∧ fieldsB s = true := by
  unfold stErr at h
  split at h
  case isFalse => omega
  rename_i h1
  split at h
  case isFalse h2 => exact absurd h h2
  rename_i h2
  split at h
  case isFalse => omega
  rename_i h3
  refine ⟨h1, fun e he => ?_, h3⟩
  have h4 := exsErr_mem h2 e he
  unfold exErr at h4
  split at h4
  · rename_i h5
    split at h4
    · rename_i h6; exact ⟨h5, h6⟩
    · omega
  · omega
/-- The forms of a well-formed statement. -/
theorem stErr_form {s : St} (h : stErr s = 0) :
    (s.op = 1 ∨ s.op = 4 ∨ s.op = 7 ∨ s.op = 8) ∧ (∃ a, s.e = [a]) ∨ s.op = 2 ∧ (∃ a b, s.e = [a, b]) ∨ (s.op = 3 ∨ s.op = 5 ∨ s.op = 6 ∨ s.op = 9 ∨ s.op = 10) ∧ s.e = [] := by
  obtain ⟨h1, _, _⟩ := stErr_ok h
  unfold exprsN at h1
  split at h1
  · rename_i h2
    refine .inl ⟨h2, ?_⟩
    match hl : s.e, h1 with
    | [a], _ => exact ⟨a, rfl⟩
    | [], h1 => simp at h1
    | _ :: _ :: _, h1 => simp at h1; omega
  split at h1
  · rename_i h2
    refine .inr (.inl ⟨h2, ?_⟩)
    match hl : s.e, h1 with
    | [a, b], _ => exact ⟨a, b, rfl⟩
    | [], h1 => simp at h1
    | [_], h1 => simp at h1
    | _ :: _ :: _ :: _, h1 => simp at h1; omega
  split at h1
  · rename_i h2
    refine .inr (.inr ⟨h2, ?_⟩)
    exact List.length_eq_zero_iff.1 (by omega)
  · omega
theorem xList_len {l : List Int} (h : ∀ n ∈ l, I64 n) : (xList l).length ≤ 23 * l.length := by
  induction l with
  | nil => simp [xList]
  | cons n l ih =>
    have h1 := ih fun m hm => h m (by simp [hm])
    have h2 := xInt_len n (h n (by simp))
    simp only [xList, List.flatMap_cons, List.length_append, List.length_cons] at h1 ⊢
    omega
theorem illist_af (l : List Int) (hl : l.length ≤ 1000000) (hi : ∀ n ∈ l, I64 n) : AF Tryz.prog 65 [.d (.sl 1 (i64s l))] (aS (bs (xList l))) := by
  have n1 : l.length ≤ maxLen := by unfold maxLen; omega
  refine af_of Tryz.func65 rfl (by kernel_rfl) (by simp [Tryz.ntmps65]) fun _ => ?_; simp [Tryz.f65, Ex.d_eq]
  refine aLoop_of (α := Nat) (fun i e A => i ≤ l.length ∧ A = [] ∧ e 8 = aI .i64 i ∧ e 7 = aI .i64 l.length ∧ e 6 = .d (.sl 1 (i64s l)) ∧ e 3 = aS (bs (xList (l.take i)))) (fun i => l.length - i) 0 (Sub.refl _ _ _)
    ⟨by omega, by simp, by simp, by simp, by simp, by simp [xList]⟩ ?_
  rintro i e A ⟨hi2, rfl, e8, e7, e6, e3⟩ K hK
  rcases Nat.lt_or_ge i l.length with hlt | hge
  case inr =>
    obtain rfl : i = l.length := by omega
    rw [List.take_length] at e3
    simp [e8, e7, e3]
  obtain ⟨y, hy⟩ : ∃ y, l[i]? = some y := ⟨_, List.getElem?_eq_getElem hlt⟩
  have hy2 := (List.getElem?_eq_some_iff.1 hy).2
  have hyi := hi y (List.mem_of_getElem? hy)
  have h1 := xList_len (l := l.take i) fun n hn => hi n (List.mem_of_mem_take hn)
  have h2 := xInt_len y hyi
  rw [List.length_take] at h1
  have htk : xList (l.take (i + 1)) = xList (l.take i) ++ (44 :: 32 :: xInt y) := by
    rw [List.take_add_one, hy]
    simp [xList]
  simp [e8, e7, e6, e3, hlt, hy, hy2]
  refine aCall_of (itoaW_af y hyi) (by simp) (by simp [Ex.d_eq]) ?_; simp [Ex.d_eq]
  refine aCall_ofs (iljoin_af [bs (xList (l.take i)), bs [44, 32], bs (xInt y)] (by simp; omega) (by simp)) (by simp) (by simp [Ex.d_eq]) (by simp) ?_; simp [Ex.d_eq]
  simp [e8, succ_wrap hlt n1]
  refine hK (i + 1) _ _ _ _ (Sub.take 0 (Nat.zero_le _)) ⟨by omega, by simp, by simp, by simp [e7], by simp [e6], by simp [cat, htk]⟩ (by omega)
set_option maxRecDepth 100000 in
theorem ilprintst_af (s : St) (hl : s.e.length ≤ 1000000) (hf : StFit s) (hn : ∀ e ∈ s.e, e.nodes ≤ 1000000) : AF Tryz.prog 13 [stV s] (aS (bs (prSt s))) := by
  have hc := ilcheckst_af s (by unfold maxLen; omega)
  unfold prSt
  by_cases h0 : stErr s = 0
  case neg =>
    rw [if_neg h0]
    refine af_of Tryz.func13 rfl (by kernel_rfl) (by simp [Tryz.ntmps13]) fun _ => ?_; simp [Tryz.f13, Ex.d_eq]
    refine aCall_of (hc) (by simp) (by simp [Ex.d_eq]) ?_; simp [Ex.d_eq]
    simp [h0]
  rw [if_pos h0]
  rw [h0] at hc
  obtain ⟨_, h2, h3⟩ := stErr_ok h0
  have hfm := stErr_form h0
  obtain ⟨hnx, hel, htg, hoe, hcs⟩ := hf
  have hcl : s.op = 8 → s.cs.length ≤ 64 := fun h => by
    simp [fieldsB, h] at h3
    omega
  have hwd : s.op = 2 → s.wd = 1 ∨ s.wd = 2 ∨ s.wd = 4 := fun h => by
    simp [fieldsB, h] at h3
    omega
  have hva : s.op = 1 ∨ s.op = 3 → 0 ≤ s.va ∧ s.va < 65536 := fun h => by
    rcases h with h | h <;> simp [fieldsB, h] at h3 <;> omega
  obtain ⟨op, va, wd, nx, el, tg, E, cs⟩ := s
  simp only at *
  have hx : ∀ e ∈ E, AF Tryz.prog 62 [exA e] (aS (bs (xEx e))) ∧ (xEx e).length ≤ 30000000 := fun e he => by
    have h4 := (h2 e he).2
    refine ⟨iltext_af e h4 (hoe e he) (hn e he), ?_⟩
    have := xEx_len e h4 (hoe e he)
    have := hn e he
    omega
  rcases hfm with ⟨ho, a, rfl⟩ | ⟨rfl, a, b, rfl⟩ | ⟨ho, rfl⟩
  · obtain ⟨xa, la⟩ := hx a (by simp)
    rcases ho with rfl | rfl | rfl | rfl
    · have hv := hva (.inl rfl)
      have lv := xVar_len va (by omega)
      refine af_of Tryz.func13 rfl (by kernel_rfl) (by simp [Tryz.ntmps13]) fun _ => ?_; simp [Tryz.f13, Ex.d_eq]
      refine aCall_of (hc) (by simp) (by simp [Ex.d_eq]) ?_; simp [Ex.d_eq]
      refine adraw [] (by kernel_rfl) (by kernel_rfl) (by kernel_rfl) (by kernel_rfl) ?_; simp [Ex.d_eq]
      refine adC_of (varnameW_af va hv) (by simp) trivial (by simp) (by simp [Ex.d_eq]) ?_; simp [Ex.d_eq]
      refine adC_of (xa) (by simp) trivial (by simp) (by simp [Ex.d_eq]) ?_; simp [Ex.d_eq]
      refine adC_ofs (iljoin_af [bs (xVar va), bs [32, 61, 32], bs (xEx a)] (by simp; omega) (by simp)) (by simp) trivial (by simp) (by simp [Ex.d_eq]) (by simp) ?_; simp [Ex.d_eq]
      simp [cat, xSt]
    · refine af_of Tryz.func13 rfl (by kernel_rfl) (by simp [Tryz.ntmps13]) fun _ => ?_; simp [Tryz.f13, Ex.d_eq]
      refine aCall_of (hc) (by simp) (by simp [Ex.d_eq]) ?_; simp [Ex.d_eq]
      refine aCall_of (xa) (by simp) (by simp [Ex.d_eq]) ?_; simp [Ex.d_eq]
      refine aCall_ofs (iljoin_af [bs [111, 117, 116, 32], bs (xEx a)] (by simp; omega) (by simp)) (by simp) (by simp [Ex.d_eq]) (by simp) ?_; simp [Ex.d_eq]
      simp [cat, xSt]
    · have l2 := xList_len (l := [nx, el]) (by simp; exact ⟨hnx, hel⟩)
      simp only [List.length_cons, List.length_nil] at l2
      refine af_of Tryz.func13 rfl (by kernel_rfl) (by simp [Tryz.ntmps13]) fun _ => ?_; simp [Tryz.f13, Ex.d_eq]
      refine aCall_of (hc) (by simp) (by simp [Ex.d_eq]) ?_; simp [Ex.d_eq]
      refine adraw [] (by kernel_rfl) (by kernel_rfl) (by kernel_rfl) (by kernel_rfl) ?_; simp [Ex.d_eq]
      refine adC_of (xa) (by simp) trivial (by simp) (by simp [Ex.d_eq]) ?_; simp [Ex.d_eq]
      refine adC_ofs (illist_af [nx, el] (by simp) (by simp; exact ⟨hnx, hel⟩)) (by simp) trivial (by simp) (by simp [Ex.d_eq]) (by simp) ?_; simp [Ex.d_eq]
      refine adC_ofs (iljoin_af [bs [98, 114, 97, 110, 99, 104, 32], bs (xEx a), bs (xList [nx, el])] (by simp; omega) (by simp)) (by simp) trivial (by simp) (by simp [Ex.d_eq]) (by simp) ?_; simp [Ex.d_eq]
      simp [cat, xSt]
    · have l1 := hcl rfl
      have l2 := xList_len hcs
      refine af_of Tryz.func13 rfl (by kernel_rfl) (by simp [Tryz.ntmps13]) fun _ => ?_; simp [Tryz.f13, Ex.d_eq]
      refine aCall_of (hc) (by simp) (by simp [Ex.d_eq]) ?_; simp [Ex.d_eq]
      refine adraw [] (by kernel_rfl) (by kernel_rfl) (by kernel_rfl) (by kernel_rfl) ?_; simp [Ex.d_eq]
      refine adC_of (xa) (by simp) trivial (by simp) (by simp [Ex.d_eq]) ?_; simp [Ex.d_eq]
      refine adC_of (illist_af cs (by omega) hcs) (by simp) trivial (by simp) (by simp [Ex.d_eq]) ?_; simp [Ex.d_eq]
      refine adC_ofs (iljoin_af [bs [115, 119, 105, 116, 99, 104, 32], bs (xEx a), bs (xList cs)] (by simp; omega) (by simp)) (by simp) trivial (by simp) (by simp [Ex.d_eq]) (by simp) ?_; simp [Ex.d_eq]
      simp [cat, xSt]
  · obtain ⟨xa, la⟩ := hx a (by simp)
    obtain ⟨xb, lb⟩ := hx b (by simp)
    have hw := hwd rfl
    have lw := xInt_len wd (by omega)
    refine af_of Tryz.func13 rfl (by kernel_rfl) (by simp [Tryz.ntmps13]) fun _ => ?_; simp [Tryz.f13, Ex.d_eq]
    refine aCall_of (hc) (by simp) (by simp [Ex.d_eq]) ?_; simp [Ex.d_eq]
    refine adraw [] (by kernel_rfl) (by kernel_rfl) (by kernel_rfl) (by kernel_rfl) ?_; simp [Ex.d_eq]
    refine adC_of (itoaW_af wd (by omega)) (by simp) trivial (by simp) (by simp [Ex.d_eq]) ?_; simp [Ex.d_eq]
    refine adC_of (xa) (by simp) trivial (by simp) (by simp [Ex.d_eq]) ?_; simp [Ex.d_eq]
    refine adC_of (xb) (by simp) trivial (by simp) (by simp [Ex.d_eq]) ?_; simp [Ex.d_eq]
    refine adC_ofs (iljoin_af [bs [115, 116, 111, 114, 101], bs (xInt wd), bs [32], bs (xEx a), bs [44, 32], bs (xEx b)] (by simp; omega) (by simp)) (by simp) trivial (by simp) (by simp [Ex.d_eq]) (by simp) ?_; simp [Ex.d_eq]
    simp [cat, xSt]
  · rcases ho with rfl | rfl | rfl | rfl | rfl
    · have hv := hva (.inr rfl)
      have lv := xVar_len va (by omega)
      refine af_of Tryz.func13 rfl (by kernel_rfl) (by simp [Tryz.ntmps13]) fun _ => ?_; simp [Tryz.f13, Ex.d_eq]
      refine aCall_of (hc) (by simp) (by simp [Ex.d_eq]) ?_; simp [Ex.d_eq]
      refine aCall_of (varnameW_af va hv) (by simp) (by simp [Ex.d_eq]) ?_; simp [Ex.d_eq]
      refine aCall_ofs (iljoin_af [bs (xVar va), bs [32, 61, 32, 105, 110]] (by simp; omega) (by simp)) (by simp) (by simp [Ex.d_eq]) (by simp) ?_; simp [Ex.d_eq]
      simp [cat, xSt]
    · have lt := xNum_len tg htg
      refine af_of Tryz.func13 rfl (by kernel_rfl) (by simp [Tryz.ntmps13]) fun _ => ?_; simp [Tryz.f13, Ex.d_eq]
      refine aCall_of (hc) (by simp) (by simp [Ex.d_eq]) ?_; simp [Ex.d_eq]
      refine aCall_of (ilconstant_af tg htg) (by simp) (by simp [Ex.d_eq]) ?_; simp [Ex.d_eq]
      refine aCall_ofs (iljoin_af [bs [99, 97, 108, 108, 32], bs (xNum tg)] (by simp; omega) (by simp)) (by simp) (by simp [Ex.d_eq]) (by simp) ?_; simp [Ex.d_eq]
      simp [cat, xSt]
    · have lt := xInt_len nx hnx
      refine af_of Tryz.func13 rfl (by kernel_rfl) (by simp [Tryz.ntmps13]) fun _ => ?_; simp [Tryz.f13, Ex.d_eq]
      refine aCall_of (hc) (by simp) (by simp [Ex.d_eq]) ?_; simp [Ex.d_eq]
      refine aCall_of (itoaW_af nx hnx) (by simp) (by simp [Ex.d_eq]) ?_; simp [Ex.d_eq]
      refine aCall_ofs (iljoin_af [bs [106, 117, 109, 112, 32], bs (xInt nx)] (by simp; omega) (by simp)) (by simp) (by simp [Ex.d_eq]) (by simp) ?_; simp [Ex.d_eq]
      simp [cat, xSt]
    · refine af_of Tryz.func13 rfl (by kernel_rfl) (by simp [Tryz.ntmps13]) fun _ => ?_; simp [Tryz.f13, Ex.d_eq]
      refine aCall_of (hc) (by simp) (by simp [Ex.d_eq]) ?_; simp [Ex.d_eq]
      simp [xSt]
    · refine af_of Tryz.func13 rfl (by kernel_rfl) (by simp [Tryz.ntmps13]) fun _ => ?_; simp [Tryz.f13, Ex.d_eq]
      refine aCall_of (hc) (by simp) (by simp [Ex.d_eq]) ?_; simp [Ex.d_eq]
      simp [xSt]
/-- The text of a well-formed statement is not empty. -/
theorem xSt_ne (s : St) : xSt s ≠ [] := by
  unfold xSt
  repeat' split
  all_goals first
    | simp
    | (unfold xVar; repeat' split)
  all_goals simp
end Go.Proofs.YtlidimmfpfockaaGreatDoor

/- Contracts: the reference's numbers, names and texts. -/
namespace Go.Proofs.YtlidimmfpfockaaGreatDoor
open Go.RowKit
@[simp] theorem bs_app (a b : List UInt8) : bs a ++ bs b = bs (a ++ b) := by
  apply ByteArray.ext
  simp
@[simp] theorem bs_size (l : List UInt8) : (bs l).size = l.length := by simp [ByteArray.size]
theorem sz_ok {α : Type} {x : Int} {a b : α} (h : x ≤ 9223372036854775807) : (if 9223372036854775807 < x then a else b) = b := if_neg (by omega)
theorem str_one {n : Nat} (h : n < 256) : strOfNums [(n : Int)] = bs [UInt8.ofNat n] := by
  simp [strOfNums]
theorem u8_small {n : Int} (h : 0 ≤ n ∧ n < 256) : IntKind.u8.wrap n = n := by
  simp [IntKind.wrap, IntKind.signed, IntKind.bits]
  omega
theorem tdiv10 {n : Nat} : ((n : Nat) : Int).tdiv 10 = ((n / 10 : Nat) : Int) := by
  rw [Int.tdiv_eq_ediv_of_nonneg (by omega)]
  omega
theorem tmod10 {n : Nat} : ((n : Nat) : Int).tmod 10 = ((n % 10 : Nat) : Int) := by
  rw [Int.tmod_eq_emod_of_nonneg (by omega)]
  omega
theorem dec_nat (u : Nat) : Lib.decDigits u = (if u < 10 then [] else Lib.decDigits (u / 10)) ++ [UInt8.ofNat (48 + u % 10)] := by
  by_cases h : u < 10
  · rw [dec_lt h, if_pos h, Nat.mod_eq_of_lt h]
    rfl
  · rw [dec_ge h, if_neg h]
set_option maxRecDepth 100000 in
theorem r19decimal_nat (u : Nat) (hu : u ≤ 9223372036854775807) : AF Tryz.prog 69 [aI .i64 u] (aS (bs (Lib.decDigits u))) := by
  obtain ⟨R, hR⟩ : ∃ R, Lib.decDigits u = R := ⟨_, rfl⟩
  rw [hR]
  have hm : ∀ n : Nat, ((48 + n % 10 : Nat) : Int) = 48 + ((n : Int) % 10) := fun n => by omega
  refine af_of Tryz.func69 rfl (by kernel_rfl) (by simp [Tryz.ntmps69]) fun _ => ?_; simp [Tryz.f69, Ex.d_eq]
  simp [show ¬ (u : Int) < 0 by omega, tmod10, i64w (n := 48 + (u : Int) % 10) (by omega), u8_small (n := 48 + (u : Int) % 10) (by omega)]
  refine aRaw_b2s Tryz.underlying91 Tryz.underlying5 Tryz.underlying9 (xs := [((48 + u % 10 : Nat) : Int)]) (by simp) ?_
  rw [str_one (by omega)]
  simp
  refine aLoop_of (α := Nat) (fun m e A => m ≤ u ∧ A = [] ∧ e 0 = aI .i64 m ∧ ∃ S, e 4 = aS (bs S) ∧ (if m < 10 then [] else Lib.decDigits (m / 10)) ++ S = R) (fun m => m) u (Sub.take 0 (Nat.zero_le _))
    ⟨Nat.le_refl _, by simp, by simp, [UInt8.ofNat (48 + u % 10)], by simp, by rw [← dec_nat]; exact hR⟩ ?_
  rintro m e A ⟨hmu, rfl, e0, S, e4, hS⟩ K hK
  by_cases h10 : m < 10
  · rw [if_pos h10] at hS
    simp at hS
    subst hS
    simp [e0, e4, show ¬ (10 : Int) ≤ m by omega]
  · rw [if_neg h10] at hS
    have hk : ((m / 10 : Nat) : Int) = (m : Int) / 10 := by omega
    simp [e0, e4, show (10 : Int) ≤ m by omega, tdiv10, i64w (n := (m : Int) / 10) (by omega), Int.tmod_eq_emod_of_nonneg (show (0 : Int) ≤ (m : Int) / 10 by omega), i64w (n := 48 + (m : Int) / 10 % 10) (by omega), u8_small (n := 48 + (m : Int) / 10 % 10) (by omega)]
    refine aRaw_b2s Tryz.underlying91 Tryz.underlying5 Tryz.underlying9 (xs := [((48 + m / 10 % 10 : Nat) : Int)]) (by simp) ?_
    rw [str_one (by omega)]
    have hSl : S.length ≤ 20 := by
      have h1 := congrArg List.length hS
      have h2 := dec_len u (by omega)
      rw [← hR] at h1
      simp at h1
      omega
    simp (disch := omega) [e4, sz_ok]
    refine hK (m / 10) _ _ _ _ (Sub.take 0 (Nat.zero_le _)) ?_ (by omega)
    refine ⟨by omega, by simp, by simp, UInt8.ofNat (48 + m / 10 % 10) :: S, by simp, ?_⟩
    rw [← hS, dec_nat (m / 10)]
    simp
set_option maxRecDepth 100000 in
theorem r19decimal_neg : ∀ (u : Nat), 0 < u → u ≤ 9223372036854775808 → AF Tryz.prog 69 [aI .i64 (-(u : Int))] (aS (bs (45 :: Lib.decDigits u))) := by
  intro u
  induction u using Nat.strongRecOn with
  | _ u ih =>
  intro h0 hu
  have hq : (-(u : Int)).tdiv 10 = -((u / 10 : Nat) : Int) := by
    rw [Int.neg_tdiv, tdiv10]
  have h48 : 48 + -((u / 10 : Nat) : Int) * 10 - -(u : Int) = ((48 + u % 10 : Nat) : Int) := by omega
  obtain ⟨q, hq2⟩ : ∃ q, u / 10 = q := ⟨_, rfl⟩
  obtain ⟨r, hr2⟩ : ∃ r, u % 10 = r := ⟨_, rfl⟩
  rw [hq2] at hq h48
  rw [hr2] at h48
  have w1 : IntKind.i64.wrap (-(q : Int)) = -(q : Int) := i64w (by omega)
  have w2 : IntKind.i64.wrap (-(q : Int) * 10) = -(q : Int) * 10 := i64w (by omega)
  have w3 : IntKind.i64.wrap (48 + -(q : Int) * 10) = 48 + -(q : Int) * 10 := i64w (by omega)
  have w4 : IntKind.i64.wrap (48 + -(q : Int) * 10 + (u : Int)) = 48 + (r : Int) := by rw [i64w (by omega)]; omega
  have w5 : IntKind.u8.wrap (48 + (r : Int)) = 48 + (r : Int) := u8_small (by omega)
  refine af_of Tryz.func69 rfl (by kernel_rfl) (by simp [Tryz.ntmps69]) fun _ => ?_; simp [Tryz.f69, Ex.d_eq]
  simp [h0, hq, w1, w2, w3, w4, w5]
  refine aRaw_b2s Tryz.underlying91 Tryz.underlying5 Tryz.underlying9 (xs := [((48 + r : Nat) : Int)]) (by simp) ?_
  rw [str_one (by omega)]
  simp
  have hdl := dec_len u (by omega)
  by_cases h10 : u < 10
  · have hr3 : r = u := by omega
    simp (disch := first | omega | (simp; done)) [show (u : Int) < 10 by omega, sz_ok]
    rw [dec_lt h10, hr3]
    simp
  · have hrec := ih q (by omega) (by omega) (by omega)
    have hql := dec_len q (by omega)
    simp [show ¬ (u : Int) < 10 by omega, hq, w1]
    refine aCall_of (hrec) (by simp) (by simp [Ex.d_eq]) ?_; simp [Ex.d_eq]
    simp (disch := first | omega | (simp; done)) [sz_ok]
    rw [dec_ge h10, hq2, hr2]
    simp
theorem r19decimal_af (n : Int) (h : I64 n) : AF Tryz.prog 69 [aI .i64 n] (aS (bs (xInt n))) := by
  unfold xInt Lib.itoa
  obtain ⟨h1, h2⟩ := h
  split
  · have := r19decimal_neg n.natAbs (by omega) (by omega)
    rwa [show -((n.natAbs : Nat) : Int) = n by omega] at this
  · have := r19decimal_nat n.toNat (by omega)
    rwa [show ((n.toNat : Nat) : Int) = n by omega] at this
theorem hex_nat (u : Nat) : hexL u = (if u < 16 then [] else hexL (u / 16)) ++ [hexD (u % 16)] := by
  by_cases h : u < 16
  · rw [hexL_lt h, if_pos h, Nat.mod_eq_of_lt h]
    rfl
  · rw [hexL_ge h, if_neg h]
abbrev digs16 : ByteArray := ⟨#[48, 49, 50, 51, 52, 53, 54, 55, 56, 57, 97, 98, 99, 100, 101, 102]⟩
theorem digs16_fin : ∀ d : Fin 16, digs16.extract d.val (d.val + 1) = bs [hexD d.val] := by decide +kernel
theorem digs16_ext {d : Nat} (h : d < 16) : digs16.extract d (d + 1) = bs [hexD d] := digs16_fin ⟨d, h⟩
set_option maxRecDepth 100000 in
theorem r19number_af (n : Int) (hn : R32 n) : AF Tryz.prog 70 [aI .u32 n] (aS (bs (xNum n))) := by
  have h0 := hn.1
  have h1 := hn.2
  obtain ⟨u, rfl⟩ : ∃ u : Nat, n = u := ⟨n.toNat, by omega⟩
  unfold xNum
  by_cases h9 : u ≤ 9
  · rw [if_pos (by omega)]
    refine af_of Tryz.func70 rfl (by kernel_rfl) (by simp [Tryz.ntmps70]) fun _ => ?_; simp [Tryz.f70, Ex.d_eq]
    simp [show (u : Int) ≤ 9 by omega, i64w (n := (u : Int)) (by omega)]
    refine aCall_of (r19decimal_af u ⟨by omega, by omega⟩) (by simp) (by simp [Ex.d_eq]) ?_; simp [Ex.d_eq]
  rw [if_neg (by omega)]
  obtain ⟨R, hR⟩ : ∃ R, hexL (u : Int).toNat = R := ⟨_, rfl⟩
  rw [hR]
  simp only [Int.toNat_natCast] at hR
  have hRl := hexL_len u (by omega)
  rw [hR] at hRl
  have hz : digs16.size = 16 := rfl
  refine af_of Tryz.func70 rfl (by kernel_rfl) (by simp [Tryz.ntmps70]) fun _ => ?_; simp [Tryz.f70, Ex.d_eq]
  simp [show ¬ (u : Int) ≤ 9 by omega]
  refine aLoop_of (α := Nat) (fun m e A => m ≤ u ∧ A = [] ∧ e 0 = aI .u32 m ∧ e 3 = aS digs16 ∧ ∃ S, e 4 = aS (bs S) ∧ (if m = 0 then [] else hexL m) ++ S = R) (fun m => m) u (Sub.refl _ _ _)
    ⟨Nat.le_refl _, by simp, by simp, by simp, [], by simp, by rw [if_neg (by omega)]; simpa using hR⟩ ?_
  rintro m e A ⟨hmu, rfl, e0, e3, S, e4, hS⟩ K hK
  by_cases hm0 : m = 0
  · subst hm0
    simp at hS
    subst hS
    simp (disch := first | omega | (simp; done)) [e0, e4, sz_ok]
  · rw [if_neg hm0] at hS
    have hSl : S.length ≤ 8 := by
      have := congrArg List.length hS
      simp at this
      omega
    have hd := digs16_ext (d := m % 16) (by omega)
    have t1 : (m : Int).tmod 16 = ((m % 16 : Nat) : Int) := by rw [Int.tmod_eq_emod_of_nonneg (by omega)]; omega
    have t2 : (m : Int).tdiv 16 = ((m / 16 : Nat) : Int) := by rw [Int.tdiv_eq_ediv_of_nonneg (by omega)]; omega
    obtain ⟨d, hdd⟩ : ∃ d, m % 16 = d := ⟨_, rfl⟩
    rw [hdd] at t1 hd
    have hd16 : d < 16 := by omega
    have hwr : IntKind.u32.wrap ((m : Int) / 16) = (m : Int) / 16 := by rw [u32e]; omega
    simp (disch := omega) [hwr, e0, e3, e4, sz_ok, show 0 < m by omega, t1, t2, i64w (n := (d : Int)) (by omega), i64w (n := (d : Int) + 1) (by omega), hz, hd, show (0 : Int) ≤ (d : Int) + 1 by omega, show (d : Int) + 1 ≤ 16 by omega, show (d : Int) ≤ (d : Int) + 1 by omega]
    refine hK (m / 16) _ _ _ _ (Sub.refl _ _ _) ⟨by omega, rfl, by simp, by simp [e3], hexD d :: S, by simp, ?_⟩ (by omega)
    rw [← hS, hex_nat m, hdd]
    by_cases h16 : m < 16
    · rw [if_pos h16, if_pos (by omega)]
      simp
    · rw [if_neg h16, if_neg (by omega)]
      simp
theorem r19varname_af (v : Int) (h : 0 ≤ v ∧ v < 65536) : AF Tryz.prog 67 [aI .i64 v] (aS (bs (xVar v))) := by
  have hl := xInt_len v (by omega)
  unfold xVar
  by_cases h8 : v < 8
  · refine af_of Tryz.func67 rfl (by kernel_rfl) (by simp [Tryz.ntmps67]) fun _ => ?_; simp [Tryz.f67, Ex.d_eq]
    simp [h8]
    refine aCall_of (r19decimal_af v ⟨by omega, by omega⟩) (by simp) (by simp [Ex.d_eq]) ?_; simp [Ex.d_eq]
    simp (disch := first | omega | (simp; done)) [sz_ok]
  by_cases h12 : v < 12
  · rcases (show v = 8 ∨ v = 9 ∨ v = 10 ∨ v = 11 by omega) with rfl | rfl | rfl | rfl
    all_goals
      refine af_of Tryz.func67 rfl (by kernel_rfl) (by simp [Tryz.ntmps67]) fun _ => ?_; simp [Tryz.f67, Ex.d_eq]
      simp [flagC]
  · refine af_of Tryz.func67 rfl (by kernel_rfl) (by simp [Tryz.ntmps67]) fun _ => ?_; simp [Tryz.f67, Ex.d_eq]
    simp [h8, h12]
    refine aCall_of (r19decimal_af v ⟨by omega, by omega⟩) (by simp) (by simp [Ex.d_eq]) ?_; simp [Ex.d_eq]
    simp (disch := first | omega | (simp; done)) [sz_ok]
theorem r19symbol_af (op : Int) (h3 : 3 ≤ op) (h15 : op ≤ 15) : AF Tryz.prog 137 [aI .i64 op] (aS (bs (xSym op))) := by
  rcases (show op = 3 ∨ op = 4 ∨ op = 5 ∨ op = 6 ∨ op = 7 ∨ op = 8 ∨ op = 9 ∨ op = 10 ∨ op = 11 ∨ op = 12 ∨ op = 13 ∨ op = 14 ∨ op = 15 by omega) with rfl | rfl | rfl | rfl | rfl | rfl | rfl | rfl | rfl | rfl | rfl | rfl | rfl
  all_goals
    refine af_of Tryz.func137 rfl (by kernel_rfl) (by simp [Tryz.ntmps137]) fun _ => ?_; simp [Tryz.f137, Ex.d_eq]
    try simp [xSym]
theorem r19text_af : ∀ e : Ex, formB e = true → OkN e → e.nodes ≤ 1000000 → AF Tryz.prog 68 [exA e] (aS (bs (xEx e))) := by
  intro e
  induction e using Ex.ind with
  | h e ih =>
  intro hf hn hs
  have hop := form_op hf
  by_cases h1 : e.op = 1
  · have h0 := hn.n
    obtain ⟨m, rfl⟩ : ∃ m, e = eCon m := ⟨_, form_con hf h1⟩
    rw [xEx_con]
    refine af_of Tryz.func68 rfl (by kernel_rfl) (by simp [Tryz.ntmps68]) fun _ => ?_; simp [Tryz.f68, Ex.d_eq]
    refine aCall_of (r19number_af m h0) (by simp) (by simp [Ex.d_eq]) ?_; simp [Ex.d_eq]
  by_cases h2 : e.op = 2
  · obtain ⟨he, hv⟩ := form_var hf h2
    obtain ⟨v, hvv⟩ : ∃ v, e.v = v := ⟨_, rfl⟩
    rw [hvv] at he hv
    subst he
    rw [xEx_var]
    refine af_of Tryz.func68 rfl (by kernel_rfl) (by simp [Tryz.ntmps68]) fun _ => ?_; simp [Tryz.f68, Ex.d_eq]
    refine aCall_of (r19varname_af v hv) (by simp) (by simp [Ex.d_eq]) ?_; simp [Ex.d_eq]
  by_cases h15 : e.op ≤ 15
  · obtain ⟨op, hoe⟩ : ∃ op, e.op = op := ⟨_, rfl⟩
    obtain ⟨a, b, he, ha, hb⟩ := form_two' hf hoe (by omega) (by omega)
    rw [hoe] at h1 h2 h15 hop
    subst he
    clear hoe
    simp only [nodes_two] at hs
    have na := hn.l a (by simp)
    have nb := hn.l b (by simp)
    have ca := ih a (by simp) ha na (by omega)
    have cb := ih b (by simp) hb nb (by omega)
    have la := xEx_len a ha na
    have lb := xEx_len b hb nb
    have ls := xSym_len op
    rw [xEx_two]
    refine af_of Tryz.func68 rfl (by kernel_rfl) (by simp [Tryz.ntmps68]) fun _ => ?_; simp [Tryz.f68, Ex.d_eq]
    simp [h1, h2, show ¬ op = 16 by omega, show ¬ op = 17 by omega, show ¬ op = 18 by omega, show ¬ op = 19 by omega]
    refine adraw [] (by kernel_rfl) (by kernel_rfl) (by kernel_rfl) (by kernel_rfl) ?_; simp [Ex.d_eq]
    refine adC_of (ca) (by simp) trivial (by simp) (by simp [Ex.d_eq]) ?_; simp [Ex.d_eq]
    simp (disch := first | omega | (simp; done)) [sz_ok]
    refine adC_of (r19symbol_af op (by omega) h15) (by simp) trivial (by simp) (by simp [Ex.d_eq]) ?_; simp [Ex.d_eq]
    simp (disch := first | omega | (simp; done)) [sz_ok, Ex.d_eq]
    refine adC_of (cb) (by simp) trivial (by simp) (by simp [Ex.d_eq]) ?_; simp [Ex.d_eq]
    simp (disch := first | omega | (simp; done)) [sz_ok]
  obtain ⟨op, hoe⟩ : ∃ op, e.op = op := ⟨_, rfl⟩
  obtain ⟨w, hwe⟩ : ∃ w, e.wd = w := ⟨_, rfl⟩
  obtain ⟨a, hae⟩ : ∃ a, e.x = a := ⟨_, rfl⟩
  obtain ⟨he, ha, _, hnd, _⟩ := form_one3 hf (by omega)
  have hw : op = 18 ∨ op = 19 → w = 1 ∨ w = 2 ∨ w = 4 := fun h => by
    obtain ⟨_, _, _, hw⟩ := form_wide hf (by rw [hoe]; exact h)
    omega
  rw [hoe, hwe, hae] at he
  rw [hae] at ha hnd
  rw [hoe] at h1 h2 h15 hop
  clear hoe hwe hae
  subst he
  have na := hn.l a (by simp)
  have ca := ih a (by simp) ha na (by omega)
  have la := xEx_len a ha na
  rw [xEx_one]
  rcases (show op = 16 ∨ op = 17 ∨ op = 18 ∨ op = 19 by omega) with rfl | rfl | rfl | rfl
  · refine af_of Tryz.func68 rfl (by kernel_rfl) (by simp [Tryz.ntmps68]) fun _ => ?_; simp [Tryz.f68, Ex.d_eq]
    refine aCall_of (ca) (by simp) (by simp [Ex.d_eq]) ?_; simp [Ex.d_eq]
    simp (disch := first | omega | (simp; done)) [sz_ok]
  · refine af_of Tryz.func68 rfl (by kernel_rfl) (by simp [Tryz.ntmps68]) fun _ => ?_; simp [Tryz.f68, Ex.d_eq]
    refine aCall_of (ca) (by simp) (by simp [Ex.d_eq]) ?_; simp [Ex.d_eq]
    simp (disch := first | omega | (simp; done)) [sz_ok]
  · have lw := xInt_len w (by omega)
    refine af_of Tryz.func68 rfl (by kernel_rfl) (by simp [Tryz.ntmps68]) fun _ => ?_; simp [Tryz.f68, Ex.d_eq]
    refine adraw [] (by kernel_rfl) (by kernel_rfl) (by kernel_rfl) (by kernel_rfl) ?_; simp [Ex.d_eq]
    refine adC_of (r19decimal_af w ⟨by omega, by omega⟩) (by simp) trivial (by simp) (by simp [Ex.d_eq]) ?_; simp [Ex.d_eq]
    simp (disch := first | omega | (simp; done)) [sz_ok]
    refine adC_of (ca) (by simp) trivial (by simp) (by simp [Ex.d_eq]) ?_; simp [Ex.d_eq]
    simp (disch := first | omega | (simp; done)) [sz_ok]
  · have lw := xInt_len w (by omega)
    refine af_of Tryz.func68 rfl (by kernel_rfl) (by simp [Tryz.ntmps68]) fun _ => ?_; simp [Tryz.f68, Ex.d_eq]
    refine adraw [] (by kernel_rfl) (by kernel_rfl) (by kernel_rfl) (by kernel_rfl) ?_; simp [Ex.d_eq]
    refine adC_of (r19decimal_af w ⟨by omega, by omega⟩) (by simp) trivial (by simp) (by simp [Ex.d_eq]) ?_; simp [Ex.d_eq]
    simp (disch := first | omega | (simp; done)) [sz_ok]
    refine adC_of (ca) (by simp) trivial (by simp) (by simp [Ex.d_eq]) ?_; simp [Ex.d_eq]
    simp (disch := first | omega | (simp; done)) [sz_ok]
theorem rprint_af (e : Ex) (hn : OkN e) (hs : e.nodes ≤ 1000000) : AF Tryz.prog 17 [exA e] (aS (bs (prE e))) := by
  have hc := rcheck_af e
  unfold prE
  by_cases h1 : shalB 64 e = true
  · by_cases h2 : formB e = true
    · rw [if_pos h1, if_pos h2] at hc
      rw [if_pos ⟨h1, h2⟩]
      refine af_of Tryz.func17 rfl (by kernel_rfl) (by simp [Tryz.ntmps17]) fun _ => ?_; simp [Tryz.f17, Ex.d_eq]
      refine aCall_of (hc) (by simp) (by simp [Ex.d_eq]) ?_; simp [Ex.d_eq]
      refine aCall_of (r19text_af e h2 hn hs) (by simp) (by simp [Ex.d_eq]) ?_; simp [Ex.d_eq]
    · rw [if_pos h1, if_neg h2] at hc
      rw [if_neg (fun h => h2 h.2)]
      refine af_of Tryz.func17 rfl (by kernel_rfl) (by simp [Tryz.ntmps17]) fun _ => ?_; simp [Tryz.f17, Ex.d_eq]
      refine aCall_of (hc) (by simp) (by simp [Ex.d_eq]) ?_; simp [Ex.d_eq]
  · rw [if_neg h1] at hc
    rw [if_neg (fun h => h1 h.1)]
    refine af_of Tryz.func17 rfl (by kernel_rfl) (by simp [Tryz.ntmps17]) fun _ => ?_; simp [Tryz.f17, Ex.d_eq]
    refine aCall_of (hc) (by simp) (by simp [Ex.d_eq]) ?_; simp [Ex.d_eq]
theorem r19list_af (l : List Int) (hl : l.length ≤ 1000000) (hi : ∀ n ∈ l, I64 n) : AF Tryz.prog 71 [.d (.sl 1 (i64s l))] (aS (bs (xList l))) := by
  have n1 : l.length ≤ maxLen := by unfold maxLen; omega
  refine af_of Tryz.func71 rfl (by kernel_rfl) (by simp [Tryz.ntmps71]) fun _ => ?_; simp [Tryz.f71, Ex.d_eq]
  refine aLoop_of (α := Nat) (fun i e A => i ≤ l.length ∧ A = [] ∧ e 4 = aI .i64 i ∧ e 0 = .d (.sl 1 (i64s l)) ∧ e 3 = aS (bs (xList (l.take i)))) (fun i => l.length - i) 0 (Sub.refl _ _ _)
    ⟨by omega, by simp, by simp, by simp, by simp [xList]⟩ ?_
  rintro i e A ⟨hi2, rfl, e4, e0, e3⟩ K hK
  rcases Nat.lt_or_ge i l.length with hlt | hge
  case inr =>
    obtain rfl : i = l.length := by omega
    rw [List.take_length] at e3
    simp [e4, e0, e3]
  obtain ⟨y, hy⟩ : ∃ y, l[i]? = some y := ⟨_, List.getElem?_eq_getElem hlt⟩
  have hy2 := (List.getElem?_eq_some_iff.1 hy).2
  have hyi := hi y (List.mem_of_getElem? hy)
  have h1 := xList_len (l := l.take i) fun n hn => hi n (List.mem_of_mem_take hn)
  have h2 := xInt_len y hyi
  rw [List.length_take] at h1
  have htk : xList (l.take (i + 1)) = xList (l.take i) ++ (44 :: 32 :: xInt y) := by
    rw [List.take_add_one, hy]
    simp [xList]
  simp [e4, e0, e3, hlt, hy, hy2]
  simp (disch := omega) [e4, e0, e3, hlt, hy, hy2, sz_ok]
  simp [e4, e0, e3, hlt, hy, hy2]
  trace_state
  refine aCall_of (r19decimal_af y hyi) (by simp) (by simp [Ex.d_eq]) ?_; simp [Ex.d_eq]
  simp (disch := omega) [e4, succ_wrap hlt n1, sz_ok]
  refine hK (i + 1) _ _ _ _ (Sub.refl _ _ _) ⟨by omega, by simp, by simp, by simp [e0], by simp [htk]⟩ (by omega)
set_option maxRecDepth 100000 in
theorem r19printst_af (s : St) (hl : s.e.length ≤ 1000000) (hf : StFit s) (hn : ∀ e ∈ s.e, e.nodes ≤ 1000000) : AF Tryz.prog 14 [stV s] (aS (bs (prSt s))) := by
  have hc := r19checkst_af s (by unfold maxLen; omega)
  unfold prSt
  by_cases h0 : stErr s = 0
  case neg =>
    rw [if_neg h0]
    refine af_of Tryz.func14 rfl (by kernel_rfl) (by simp [Tryz.ntmps14]) fun _ => ?_; simp [Tryz.f14, Ex.d_eq]
    refine aCall_of (hc) (by simp) (by simp [Ex.d_eq]) ?_; simp [Ex.d_eq]
    simp [h0]
  rw [if_pos h0]
  rw [h0] at hc
  obtain ⟨_, h2, h3⟩ := stErr_ok h0
  have hfm := stErr_form h0
  obtain ⟨hnx, hel, htg, hoe, hcs⟩ := hf
  have hcl : s.op = 8 → s.cs.length ≤ 64 := fun h => by
    simp [fieldsB, h] at h3
    omega
  have hwd : s.op = 2 → s.wd = 1 ∨ s.wd = 2 ∨ s.wd = 4 := fun h => by
    simp [fieldsB, h] at h3
    omega
  have hva : s.op = 1 ∨ s.op = 3 → 0 ≤ s.va ∧ s.va < 65536 := fun h => by
    rcases h with h | h <;> simp [fieldsB, h] at h3 <;> omega
  obtain ⟨op, va, wd, nx, el, tg, E, cs⟩ := s
  simp only at *
  have hx : ∀ e ∈ E, AF Tryz.prog 68 [exA e] (aS (bs (xEx e))) ∧ (xEx e).length ≤ 30000000 := fun e he => by
    have h4 := (h2 e he).2
    refine ⟨r19text_af e h4 (hoe e he) (hn e he), ?_⟩
    have := xEx_len e h4 (hoe e he)
    have := hn e he
    omega
  rcases hfm with ⟨ho, a, rfl⟩ | ⟨rfl, a, b, rfl⟩ | ⟨ho, rfl⟩
  · obtain ⟨xa, la⟩ := hx a (by simp)
    rcases ho with rfl | rfl | rfl | rfl
    · have hv := hva (.inl rfl)
      have lv := xVar_len va (by omega)
      refine af_of Tryz.func14 rfl (by kernel_rfl) (by simp [Tryz.ntmps14]) fun _ => ?_; simp [Tryz.f14, Ex.d_eq]
      refine aCall_of (hc) (by simp) (by simp [Ex.d_eq]) ?_; simp [Ex.d_eq]
      refine adraw [] (by kernel_rfl) (by kernel_rfl) (by kernel_rfl) (by kernel_rfl) ?_; simp [Ex.d_eq]
      refine adC_of (r19varname_af va hv) (by simp) trivial (by simp) (by simp [Ex.d_eq]) ?_; simp [Ex.d_eq]
      simp (disch := first | omega | (simp; done)) [sz_ok]
      refine adC_of (xa) (by simp) trivial (by simp) (by simp [Ex.d_eq]) ?_; simp [Ex.d_eq]
      simp (disch := first | omega | (simp; done)) [sz_ok, xSt]
    · refine af_of Tryz.func14 rfl (by kernel_rfl) (by simp [Tryz.ntmps14]) fun _ => ?_; simp [Tryz.f14, Ex.d_eq]
      refine aCall_of (hc) (by simp) (by simp [Ex.d_eq]) ?_; simp [Ex.d_eq]
      refine aCall_of (xa) (by simp) (by simp [Ex.d_eq]) ?_; simp [Ex.d_eq]
      simp (disch := first | omega | (simp; done)) [sz_ok, xSt]
    · have l2 := xInt_len nx hnx
      have l3 := xInt_len el hel
      refine af_of Tryz.func14 rfl (by kernel_rfl) (by simp [Tryz.ntmps14]) fun _ => ?_; simp [Tryz.f14, Ex.d_eq]
      refine aCall_of (hc) (by simp) (by simp [Ex.d_eq]) ?_; simp [Ex.d_eq]
      refine adraw [] (by kernel_rfl) (by kernel_rfl) (by kernel_rfl) (by kernel_rfl) ?_; simp [Ex.d_eq]
      refine adC_of (xa) (by simp) trivial (by simp) (by simp [Ex.d_eq]) ?_; simp [Ex.d_eq]
      simp (disch := first | omega | (simp; done)) [sz_ok]
      refine adC_of (r19decimal_af nx hnx) (by simp) trivial (by simp) (by simp [Ex.d_eq]) ?_; simp [Ex.d_eq]
      simp (disch := first | omega | (simp; done)) [sz_ok]
      refine adC_of (r19decimal_af el hel) (by simp) trivial (by simp) (by simp [Ex.d_eq]) ?_; simp [Ex.d_eq]
      simp (disch := first | omega | (simp; done)) [sz_ok, xSt, xList]
    · have l1 := hcl rfl
      have l2 := xList_len hcs
      refine af_of Tryz.func14 rfl (by kernel_rfl) (by simp [Tryz.ntmps14]) fun _ => ?_; simp [Tryz.f14, Ex.d_eq]
      refine aCall_of (hc) (by simp) (by simp [Ex.d_eq]) ?_; simp [Ex.d_eq]
      refine adraw [] (by kernel_rfl) (by kernel_rfl) (by kernel_rfl) (by kernel_rfl) ?_; simp [Ex.d_eq]
      refine adC_of (xa) (by simp) trivial (by simp) (by simp [Ex.d_eq]) ?_; simp [Ex.d_eq]
      simp (disch := first | omega | (simp; done)) [sz_ok]
      refine adC_of (r19list_af cs (by omega) hcs) (by simp) trivial (by simp) (by simp [Ex.d_eq]) ?_; simp [Ex.d_eq]
      simp (disch := first | omega | (simp; done)) [sz_ok, xSt]
  · obtain ⟨xa, la⟩ := hx a (by simp)
    obtain ⟨xb, lb⟩ := hx b (by simp)
    have hw := hwd rfl
    have lw := xInt_len wd (by omega)
    refine af_of Tryz.func14 rfl (by kernel_rfl) (by simp [Tryz.ntmps14]) fun _ => ?_; simp [Tryz.f14, Ex.d_eq]
    refine aCall_of (hc) (by simp) (by simp [Ex.d_eq]) ?_; simp [Ex.d_eq]
    refine adraw [] (by kernel_rfl) (by kernel_rfl) (by kernel_rfl) (by kernel_rfl) ?_; simp [Ex.d_eq]
    refine adC_of (r19decimal_af wd ⟨by omega, by omega⟩) (by simp) trivial (by simp) (by simp [Ex.d_eq]) ?_; simp [Ex.d_eq]
    simp (disch := first | omega | (simp; done)) [sz_ok]
    refine adC_of (xa) (by simp) trivial (by simp) (by simp [Ex.d_eq]) ?_; simp [Ex.d_eq]
    simp (disch := first | omega | (simp; done)) [sz_ok]
    refine adC_of (xb) (by simp) trivial (by simp) (by simp [Ex.d_eq]) ?_; simp [Ex.d_eq]
    simp (disch := first | omega | (simp; done)) [sz_ok, xSt]
  · rcases ho with rfl | rfl | rfl | rfl | rfl
    · have hv := hva (.inr rfl)
      have lv := xVar_len va (by omega)
      refine af_of Tryz.func14 rfl (by kernel_rfl) (by simp [Tryz.ntmps14]) fun _ => ?_; simp [Tryz.f14, Ex.d_eq]
      refine aCall_of (hc) (by simp) (by simp [Ex.d_eq]) ?_; simp [Ex.d_eq]
      refine aCall_of (r19varname_af va hv) (by simp) (by simp [Ex.d_eq]) ?_; simp [Ex.d_eq]
      simp (disch := first | omega | (simp; done)) [sz_ok, xSt]
    · have lt := xNum_len tg htg
      refine af_of Tryz.func14 rfl (by kernel_rfl) (by simp [Tryz.ntmps14]) fun _ => ?_; simp [Tryz.f14, Ex.d_eq]
      refine aCall_of (hc) (by simp) (by simp [Ex.d_eq]) ?_; simp [Ex.d_eq]
      refine aCall_of (r19number_af tg htg) (by simp) (by simp [Ex.d_eq]) ?_; simp [Ex.d_eq]
      simp (disch := first | omega | (simp; done)) [sz_ok, xSt]
    · have lt := xInt_len nx hnx
      refine af_of Tryz.func14 rfl (by kernel_rfl) (by simp [Tryz.ntmps14]) fun _ => ?_; simp [Tryz.f14, Ex.d_eq]
      refine aCall_of (hc) (by simp) (by simp [Ex.d_eq]) ?_; simp [Ex.d_eq]
      refine aCall_of (r19decimal_af nx hnx) (by simp) (by simp [Ex.d_eq]) ?_; simp [Ex.d_eq]
      simp (disch := first | omega | (simp; done)) [sz_ok, xSt]
    · refine af_of Tryz.func14 rfl (by kernel_rfl) (by simp [Tryz.ntmps14]) fun _ => ?_; simp [Tryz.f14, Ex.d_eq]
      refine aCall_of (hc) (by simp) (by simp [Ex.d_eq]) ?_; simp [Ex.d_eq]
      simp [xSt]
    · refine af_of Tryz.func14 rfl (by kernel_rfl) (by simp [Tryz.ntmps14]) fun _ => ?_; simp [Tryz.f14, Ex.d_eq]
      refine aCall_of (hc) (by simp) (by simp [Ex.d_eq]) ?_; simp [Ex.d_eq]
      simp [xSt]
end Go.Proofs.YtlidimmfpfockaaGreatDoor

/- Contracts: the laws IlText and IlStmtText answer true. -/
namespace Go.Proofs.YtlidimmfpfockaaGreatDoor
open Go.RowKit
theorem small_n3q {e : Ex} {m : Int} (h : 0 ≤ nodI e m 3000) : e.nodes ≤ 3000 := by
  have := (nodI_le e m 3000 (by omega)).2
  omega
theorem bs_inj {a b : List UInt8} : bs a = bs b ↔ a = b := by
  constructor
  · intro h
    have := congrArg (fun x => x.data.toList) h
    simpa using this
  · rintro rfl; rfl
theorem bs_nil {a : List UInt8} : bs a = (⟨#[]⟩ : ByteArray) ↔ a = [] := bs_inj (b := [])
/-- Texts are the same just where the expressions are, where there is a text. -/
theorem prE_same {a b : Ex} (na : OkN a) (nb : OkN b) (ha : prE a ≠ []) (hb : prE b ≠ []) : (prE a = prE b) ↔ sameB a b = true := by
  unfold prE at *
  split at ha
  case isFalse => exact absurd rfl ha
  rename_i h1
  split at hb
  case isFalse => exact absurd rfl hb
  rename_i h2
  rw [if_pos h1, if_pos h2, xEx_inj h1.2 h2.2 na nb, sameB_iff]
theorem lawtext19_af (a b : Ex) (na : OkN a) (nb : OkN b) : AF Tryz.prog 4 [exA a, exA b] (aB true) := by
  refine af_of Tryz.func4 rfl (by kernel_rfl) (by simp [Tryz.ntmps4]) fun _ => ?_; simp [Tryz.f4, Ex.d_eq]
  refine aCall_of (small_af a 70 (by omega) (by omega)) (by simp) (by simp [Ex.d_eq]) ?_; simp [Ex.d_eq]
  by_cases hs : 0 ≤ nodI a 70 3000
  case neg =>
    simp [hs]
    refine aCall_of (l19ex_af) (by simp) (by simp [Ex.d_eq]) ?_; simp [Ex.d_eq]
  have hna := small_n3q hs
  simp [hs]
  refine aCall_of (small_af b 70 (by omega) (by omega)) (by simp) (by simp [Ex.d_eq]) ?_; simp [Ex.d_eq]
  by_cases hs2 : 0 ≤ nodI b 70 3000
  case neg =>
    simp [hs2]
    refine aCall_of (l19ex_af) (by simp) (by simp [Ex.d_eq]) ?_; simp [Ex.d_eq]
  have hnb := small_n3q hs2
  simp [hs2]
  have c1 := ilprint_af a na (by omega)
  have c2 := ilprint_af b nb (by omega)
  have c3 := rprint_af a na (by omega)
  have c4 := rprint_af b nb (by omega)
  have hsame := prE_same na nb
  have cs := same_af a b
  obtain ⟨p, hp⟩ : ∃ p, prE a = p := ⟨_, rfl⟩
  obtain ⟨q, hq⟩ : ∃ q, prE b = q := ⟨_, rfl⟩
  rw [hp] at c1 c3 hsame
  rw [hq] at c2 c4 hsame
  refine adraw [] (by kernel_rfl) (by kernel_rfl) (by kernel_rfl) (by kernel_rfl) ?_; simp [Ex.d_eq]
  refine adC_of (c1) (by simp) trivial (by simp) (by simp [Ex.d_eq]) ?_; simp [Ex.d_eq]
  refine adC_of (c2) (by simp) trivial (by simp) (by simp [Ex.d_eq]) ?_; simp [Ex.d_eq]
  refine aCall_of (c3) (by simp) (by simp [Ex.d_eq]) ?_; simp [Ex.d_eq]
  refine aCall_of (c4) (by simp) (by simp [Ex.d_eq]) ?_; simp [Ex.d_eq]
  by_cases hp0 : p = []
  · simp [bytes_beqQ, bs_nil, hp0]
    refine aCall_of (l19ex_af) (by simp) (by simp [Ex.d_eq]) ?_; simp [Ex.d_eq]
  have hpe : p.isEmpty = false := by
    cases p with
    | nil => exact absurd rfl hp0
    | cons => rfl
  by_cases hq0 : q = []
  · simp [bytes_beqQ, bs_nil, hp0, hpe, hq0]
    refine aCall_of (l19ex_af) (by simp) (by simp [Ex.d_eq]) ?_; simp [Ex.d_eq]
  have hqe : q.isEmpty = false := by
    cases q with
    | nil => exact absurd rfl hq0
    | cons => rfl
  have hs3 := hsame hp0 hq0
  by_cases hpq : p = q
  · rw [hs3.1 hpq] at cs
    subst hpq
    simp [bytes_beqQ, bs_nil, hp0, hpe]
    refine aCall_of (cs) (by simp) (by simp [Ex.d_eq]) ?_; simp [Ex.d_eq]
    refine aCall_of (l19ex_af) (by simp) (by simp [Ex.d_eq]) ?_; simp [Ex.d_eq]
  · have hb : sameB a b = false := by
      cases h : sameB a b with
      | false => rfl
      | true => exact absurd (hs3.2 h) hpq
    rw [hb] at cs
    simp [bytes_beqQ, bs_nil, bs_inj, hp0, hq0, hpe, hqe, hpq]
    refine aCall_of (cs) (by simp) (by simp [Ex.d_eq]) ?_; simp [Ex.d_eq]
    simp [show (p == q) = false by simpa using hpq]
    refine aCall_of (l19ex_af) (by simp) (by simp [Ex.d_eq]) ?_; simp [Ex.d_eq]
theorem lawsttext19_af (s : St) (hf : StFit s) : AF Tryz.prog 3 [stV s] (aB true) := by
  have c0 := smallg_af ⟨0, [⟨0, [s]⟩]⟩ 70 (by omega) (by omega)
  obtain ⟨B, hB⟩ : ∃ B, smallG ⟨0, [⟨0, [s]⟩]⟩ 70 = B := ⟨_, rfl⟩
  rw [hB] at c0
  refine af_of Tryz.func3 rfl (by kernel_rfl) (by simp [Tryz.ntmps3]) fun _ => ?_; simp [Tryz.f3, Ex.d_eq]
  refine aCall_ofs c0 (by simp) (by simp [Ex.d_eq, St.d_eq, Bl.d_eq]) (by simp) ?_; simp [Ex.d_eq]
  cases B
  · simp
    refine aCall_of (l19ex_af) (by simp) (by simp [Ex.d_eq]) ?_; simp [Ex.d_eq]
  · obtain ⟨hg, _, h3⟩ := smallG_fit hB
    obtain ⟨_, h4⟩ := h3 ⟨0, [s]⟩ (by simp)
    obtain ⟨h5, h6, h7, _⟩ := h4 s (by simp)
    have hn : ∀ e ∈ s.e, e.nodes ≤ 1000000 := fun e he => by have := Ex.nodess_mem he; omega
    have c1 := ilprintst_af s (by omega) hf hn
    have c2 := r19printst_af s (by omega) hf hn
    obtain ⟨p, hp⟩ : ∃ p, prSt s = p := ⟨_, rfl⟩
    rw [hp] at c1 c2
    simp
    refine adraw [] (by kernel_rfl) (by kernel_rfl) (by kernel_rfl) (by kernel_rfl) ?_; simp [Ex.d_eq]
    refine adC_of (c1) (by simp) trivial (by simp) (by simp [Ex.d_eq]) ?_; simp [Ex.d_eq]
    refine adC_of (c2) (by simp) trivial (by simp) (by simp [Ex.d_eq]) ?_; simp [Ex.d_eq]
    refine adC_of (l19ex_af) (by simp) trivial (by simp) (by simp [Ex.d_eq]) ?_; simp [Ex.d_eq]
end Go.Proofs.YtlidimmfpfockaaGreatDoor
