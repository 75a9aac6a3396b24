/- Texts that the claim leans on, laid one behind the other: Hb, Hc, Hd, He, Hf, Hg. -/
import Derived.Test.YtlfkighdmheniaaGreatDoorZG
import Derived.Test.YtlfkighdmheniaaGreatDoorAn
import Derived.Test.YtlfkighdmheniaaGreatDoorZD
set_option linter.unusedSimpArgs false
set_option linter.unusedVariables false
set_option linter.unnecessarySimpa false
/- Contracts: idiom's small functions: is, orders, by, shifts, multiple, product, high, extended. -/
namespace Go.Proofs.YtlfkighdmheniaaGreatDoor
open Go.RowKit
@[simp] theorem NLeE_dx (a : Ex) : NLeE [.v (.int .i64 a.op), .v (.int .u32 a.n), .v (.int .i64 a.v), .v (.int .i64 a.wd), .sl 5 (Ex.ds a.l)] a.d ↔ True := by
  rw [Ex.d_eq]
  simp
/-- The empty expression. -/
abbrev eNil : Ex := .mk 0 0 0 0 []
/-- An expression and whether there is one. -/
abbrev oA (e : Ex) (r : Option Ex) : AV := .tup [exA (r.getD e), aB r.isSome]
theorem is_af (e : Ex) (n : Int) : AF Tryz.prog 85 [exA e, aI .u32 n] (aB (isB e n)) := by
  refine af_of Tryz.func85 rfl (by kernel_rfl) (by simp [Tryz.ntmps85]) fun _ => ?_; simp [Tryz.f85, Ex.d_eq]
  refine aG_split (fun g1 => ?_) (fun g1 => by simp at g1; simp [isB, g1])
  simp at g1
  simp [isB, g1]
/-- What orders returns, as data. -/
def ordD (l : List (Ex × Ex)) : List (List D) := l.map fun p => Ex.d p.1 ++ Ex.d p.2
theorem orders_af (e : Ex) (op : Int) : AF Tryz.prog 84 [exA e, aI .i64 op] (.d (.sl 10 (ordD (ordS e op)))) := by
  refine af_of Tryz.func84 rfl (by kernel_rfl) (by simp [Tryz.ntmps84]) fun _ => ?_; simp [Tryz.f84, Ex.d_eq]
  refine aG_split (fun g1 => ?_) (fun g1 => by simp at g1; simp [ordS, g1, ordD])
  simp at g1
  simp [g1]
  obtain ⟨o, n, v, w, l⟩ := e
  simp only [Ex.op_mk] at g1
  subst g1
  by_cases hl : l.length = 2
  case neg => simp [ordS, hl, ordD, show ¬ ((l.length : Int) = 2) by omega]
  match l, hl with
  | [a, b], _ =>
  simp
  refine adraw [] (by kernel_rfl) (by kernel_rfl) (by kernel_rfl) (by kernel_rfl) ?_; simp [Ex.d_eq]
  have hord : ordS (Ex.mk o n v w [a, b]) o = (a, b) :: (if comB o = true then [(b, a)] else []) := by simp [ordS]
  rw [hord]
  by_cases hc : o = 3 ∨ o = 5 ∨ o = 6 ∨ o = 7 ∨ o = 8
  · rcases hc with rfl | rfl | rfl | rfl | rfl <;>
    · simp
      refine adraw2 11 [] (by kernel_rfl) (by kernel_rfl) (by kernel_rfl) (by kernel_rfl) (by kernel_rfl) ?_
      simp [Ex.d_eq]
      refine aRaw_app byt_91 ?_
      simp [Ex.d_eq, ordD, comB, maxLen]
  · have h3 : ¬ o = 3 := by omega
    have h5 : ¬ o = 5 := by omega
    have h6 : ¬ o = 6 := by omega
    have h7 : ¬ o = 7 := by omega
    have h8 : ¬ o = 8 := by omega
    simp [h3, h5, h6, h7, h8, ordD, comB, Ex.d_eq]
/-- The rows of orders. -/
theorem ord_cases (e : Ex) (op : Int) : ordS e op = [] ∨ (∃ a b, ordS e op = [(a, b)]) ∨ ∃ a b, ordS e op = [(a, b), (b, a)] := by
  unfold ordS
  split
  · split
    · exact .inr (.inr ⟨_, _, rfl⟩)
    · exact .inr (.inl ⟨_, _, rfl⟩)
  · exact .inl rfl
theorem by_af (e : Ex) (op n : Int) : AF Tryz.prog 83 [exA e, aI .i64 op, aI .u32 n] (.tup [exA ((byS e op n).getD eNil), aB (byS e op n).isSome]) := by
  refine af_of Tryz.func83 rfl (by kernel_rfl) (by simp [Tryz.ntmps83]) fun _ => ?_; simp [Tryz.f83, Ex.d_eq]
  refine aCall_of (orders_af e op) (by simp) (by simp [Ex.d_eq]) ?_; simp [Ex.d_eq]
  unfold byS
  rcases ord_cases e op with h | ⟨a, b, h⟩ | ⟨a, b, h⟩ <;> rw [h]
  · simp [ordD]
    refine aLoop_iter 1 ?_; simp [Ex.d_eq]
  · simp [ordD]
    refine aLoop_iter 2 ?_; simp [Ex.d_eq]
    refine aCall_of (is_af b n) (by simp) (by simp [Ex.d_eq]) ?_; simp [Ex.d_eq]
    by_cases h1 : isB b n = true <;> simp [h1, Ex.d_eq]
  · simp [ordD]
    refine aLoop_iter 3 ?_; simp [Ex.d_eq]
    refine aCall_of (is_af b n) (by simp) (by simp [Ex.d_eq]) ?_; simp [Ex.d_eq]
    by_cases h1 : isB b n = true
    · simp [h1, Ex.d_eq]
    · simp [h1, Ex.d_eq]
      refine aCall_of (is_af a n) (by simp) (by simp [Ex.d_eq]) ?_; simp [Ex.d_eq]
      by_cases h2 : isB a n = true <;> simp [h1, h2, Ex.d_eq]
end Go.Proofs.YtlfkighdmheniaaGreatDoor

/- Contracts: idiom's matchers. -/
namespace Go.Proofs.YtlfkighdmheniaaGreatDoor
open Go.RowKit
theorem form_two' {e : Ex} {op : Int} (h : formB e = true) (ho : e.op = op) (h3 : 3 ≤ op) (h15 : op ≤ 15) : ∃ a b, e = eTwo op a b ∧ formB a = true ∧ formB b = true := by
  subst ho
  exact form_two h h3 h15
theorem form_one' {e : Ex} (h : formB e = true) (ho : e.op = 17) : ∃ a, e = eOne 17 a ∧ formB a = true := by
  obtain ⟨a, he, ha⟩ := form_one h (.inr ho)
  rw [ho] at he
  exact ⟨a, he, ha⟩
abbrev shA (r : Option (Ex × Int)) : AV := .tup [exA ((r.map (·.1)).getD eNil), aI .u32 ((r.map (·.2)).getD 0), aB r.isSome]
theorem shifts_af (e : Ex) (op : Int) (hf : formB e = true) (h3 : 3 ≤ op) (h15 : op ≤ 15) : AF Tryz.prog 90 [exA e, aI .i64 op] (shA (shS e op)) := by
  by_cases h : e.op = op
  case neg =>
    refine af_of Tryz.func90 rfl (by kernel_rfl) (by simp [Tryz.ntmps90]) fun _ => ?_; simp [Tryz.f90, Ex.d_eq]
    simp [h, shS]
  obtain ⟨a, b, rfl, ha, hb⟩ := form_two' hf h h3 h15
  refine af_of Tryz.func90 rfl (by kernel_rfl) (by simp [Tryz.ntmps90]) fun _ => ?_; simp [Tryz.f90, Ex.d_eq]
  by_cases h1 : b.op = 1
  case neg => simp [h1, shS]
  by_cases h2 : 1 ≤ b.n
  case neg => simp [h1, show b.n < 1 by omega, h2, shS]
  by_cases h4 : b.n ≤ 31
  case neg => simp [h1, show ¬ b.n < 1 by omega, h2, show 31 < b.n by omega, h4, shS]
  simp [h1, show ¬ b.n < 1 by omega, h2, show ¬ 31 < b.n by omega, h4, shS]
  refine adraw [(9, 5), (9, 8)] (by kernel_rfl) (by kernel_rfl) (by kernel_rfl) (by kernel_rfl) ?_; simp [Ex.d_eq]
theorem multiple_af (e : Ex) (hf : formB e = true) : AF Tryz.prog 80 [exA e] (.tup [exA (mulS e).1, aI .u32 (mulS e).2]) := by
  by_cases h : e.op = 5
  · obtain ⟨a, b, rfl, ha, hb⟩ := form_two' hf h (by omega) (by omega)
    refine af_of Tryz.func80 rfl (by kernel_rfl) (by simp [Tryz.ntmps80]) fun _ => ?_; simp [Tryz.f80, Ex.d_eq]
    refine aCall_of (shifts_af (eTwo 5 a b) 9 hf (by omega) (by omega)) (by simp) (by simp [Ex.d_eq]) ?_; simp [Ex.d_eq]
    have hs : shS (eTwo 5 a b) 9 = none := by simp [shS]
    simp [hs, mulS]
    by_cases h1 : b.op = 1
    · simp [h1]
      refine adraw [(9, 5), (9, 8)] (by kernel_rfl) (by kernel_rfl) (by kernel_rfl) (by kernel_rfl) ?_; simp [Ex.d_eq]
    · simp [h1]
      by_cases h2 : a.op = 1
      · simp [h2]
        refine adraw [(9, 5), (9, 8)] (by kernel_rfl) (by kernel_rfl) (by kernel_rfl) (by kernel_rfl) ?_; simp [Ex.d_eq]
      · simp [h2, Ex.d_eq]
  · refine af_of Tryz.func80 rfl (by kernel_rfl) (by simp [Tryz.ntmps80]) fun _ => ?_; simp [Tryz.f80, Ex.d_eq]
    refine aCall_of (shifts_af e 9 hf (by omega) (by omega)) (by simp) (by simp [Ex.d_eq]) ?_; simp [Ex.d_eq]
    unfold mulS
    cases hs : shS e 9 with
    | none => simp [h]
    | some p =>
      obtain ⟨x, k⟩ := p
      obtain ⟨_, _, h1, h2, _⟩ := sh_some hs
      simp [show 0 ≤ k by omega, pw]
theorem product_af (x : Ex) (n : Int) (hn : x.nodes ≤ 1000000000) : AF Tryz.prog 82 [exA x, aI .u32 n] (exA (eTwo 5 x (eCon n))) := by
  refine af_of Tryz.func82 rfl (by kernel_rfl) (by simp [Tryz.ntmps82]) fun _ => ?_; simp [Tryz.f82, Ex.d_eq]
  refine adraw [] (by kernel_rfl) (by kernel_rfl) (by kernel_rfl) (by kernel_rfl) ?_; simp [Ex.d_eq]
  refine adC_of (const_af n) (by simp) trivial (by simp) (by simp [Ex.d_eq]) ?_; simp [Ex.d_eq]
  refine adC_of (two_af 5 x (eCon n) hn (by simp)) (by simp) trivial (by simp) (by simp [Ex.d_eq]) ?_; simp [Ex.d_eq]
theorem high_af (e : Ex) (op : Int) (hf : formB e = true) (h3 : 3 ≤ op) (h15 : op ≤ 15) : AF Tryz.prog 89 [exA e, aI .i64 op] (.tup [exA (((shS e op).map (·.1)).getD eNil), aB (hiS e op).isSome]) := by
  refine af_of Tryz.func89 rfl (by kernel_rfl) (by simp [Tryz.ntmps89]) fun _ => ?_; simp [Tryz.f89, Ex.d_eq]
  refine aCall_of (shifts_af e op hf h3 h15) (by simp) (by simp [Ex.d_eq]) ?_; simp [Ex.d_eq]
  unfold hiS
  cases hs : shS e op with
  | none => simp
  | some p =>
    obtain ⟨x, k⟩ := p
    by_cases hk : k = 31 <;> simp [hk]
theorem pw24 : pw 24 = 16777216 := by decide +kernel
theorem pw16 : pw 16 = 65536 := by decide +kernel
theorem extended_af (e : Ex) (op : Int) (hf : formB e = true) (h3 : 3 ≤ op) (h15 : op ≤ 15) : AF Tryz.prog 88 [exA e, aI .i64 op] (.tup [exA (((extS e op).map (·.1)).getD e), aI .i64 (((extS e op).map (·.2)).getD 0)]) := by
  refine af_of Tryz.func88 rfl (by kernel_rfl) (by simp [Tryz.ntmps88]) fun _ => ?_; simp [Tryz.f88, Ex.d_eq]
  refine aLoop_iter 3 ?_; simp [Ex.d_eq]
  refine aCall_of (shifts_af e op hf h3 h15) (by simp) (by simp [Ex.d_eq]) ?_; simp [Ex.d_eq]
  unfold extS
  cases hs : shS e op with
  | none =>
    simp
    refine aCall_of (shifts_af e op hf h3 h15) (by simp) (by simp [Ex.d_eq]) ?_; simp [Ex.d_eq]
    simp [hs]
  | some p =>
    obtain ⟨x, k⟩ := p
    have hx := (sh_part hf h3 h15 hs).1
    have p24 : shlI .u32 1 24 = 16777216 := pw24
    have p16 : shlI .u32 1 16 = 65536 := pw16
    by_cases h24 : k = 24
    · subst h24
      simp
      refine aCall_of (multiple_af x hx) (by simp) (by simp [Ex.d_eq]) ?_; simp [Ex.d_eq]
      simp [p24]
      by_cases hc : (mulS x).2 = 16777216
      · simp [hc, Ex.d_eq]
      · simp [hc, Ex.d_eq]
        refine aCall_of (shifts_af e op hf h3 h15) (by simp) (by simp [Ex.d_eq]) ?_; simp [Ex.d_eq]
        simp [hs, Ex.d_eq]
    · by_cases h16 : k = 16
      · subst h16
        simp
        refine aCall_of (shifts_af e op hf h3 h15) (by simp) (by simp [Ex.d_eq]) ?_; simp [Ex.d_eq]
        simp [hs, Ex.d_eq]
        refine aCall_of (multiple_af x hx) (by simp) (by simp [Ex.d_eq]) ?_; simp [Ex.d_eq]
        simp [p16]
        by_cases hc : (mulS x).2 = 65536
        · simp [hc, Ex.d_eq]
        · simp [hc, Ex.d_eq]
      · simp [h24, h16, Ex.d_eq]
        refine aCall_of (shifts_af e op hf h3 h15) (by simp) (by simp [Ex.d_eq]) ?_; simp [Ex.d_eq]
        simp [hs, h16, Ex.d_eq]
theorem sum_af (e : Ex) (op : Int) (hf : formB e = true) (ho : op = 3 ∨ op = 4) (hn : e.nodes ≤ 1000000000) : AF Tryz.prog 43 [exA e, aI .i64 op] (oA e (sumS e op)) := by
  by_cases h : e.op = op
  case neg =>
    refine af_of Tryz.func43 rfl (by kernel_rfl) (by simp [Tryz.ntmps43]) fun _ => ?_; simp [Tryz.f43, Ex.d_eq]
    simp [h, sumS]
  obtain ⟨a, b, rfl, ha, hb⟩ := form_two' hf h (by omega) (by omega)
  have hm := (mul_part ha).nodes
  simp only [nodes_two] at hn
  refine af_of Tryz.func43 rfl (by kernel_rfl) (by simp [Tryz.ntmps43]) fun _ => ?_; simp [Tryz.f43, Ex.d_eq]
  refine aCall_of (multiple_af a ha) (by simp) (by simp [Ex.d_eq]) ?_; simp [Ex.d_eq]
  refine aCall_of (multiple_af b hb) (by simp) (by simp [Ex.d_eq]) ?_; simp [Ex.d_eq]
  simp [sumS]
  by_cases h1 : (mulS a).1.op = 1
  · simp [h1]
  simp [h1]
  refine aCall_of (same_af (mulS a).1 (mulS b).1) (by simp) (by simp [Ex.d_eq]) ?_; simp [Ex.d_eq]
  by_cases h2 : sameB (mulS a).1 (mulS b).1 = true
  case neg => simp [h2]
  simp [h2]
  rcases ho with rfl | rfl
  · simp
    refine aCall_of (product_af (mulS a).1 (IntKind.u32.wrap ((mulS a).2 + (mulS b).2)) (by omega)) (by simp) (by simp [Ex.d_eq]) ?_; simp [Ex.d_eq]
  · simp
    by_cases h3 : (mulS a).2 = (mulS b).2
    · simp [h3]
    · simp [h3]
      refine aCall_of (product_af (mulS a).1 (IntKind.u32.wrap ((mulS a).2 - (mulS b).2)) (by omega)) (by simp) (by simp [Ex.d_eq]) ?_; simp [Ex.d_eq]
theorem neg_af (e : Ex) (hn : e.nodes ≤ 1000000000) : AF Tryz.prog 44 [exA e] (oA e (negS e)) := by
  refine af_of Tryz.func44 rfl (by kernel_rfl) (by simp [Tryz.ntmps44]) fun _ => ?_; simp [Tryz.f44, Ex.d_eq]
  refine aCall_of (by_af e 3 1) (by simp) (by simp [Ex.d_eq]) ?_; simp [Ex.d_eq]
  unfold negS
  cases h1 : byS e 3 1 with
  | none => simp
  | some a =>
    simp
    refine aCall_of (by_af a 8 4294967295) (by simp) (by simp [Ex.d_eq]) ?_; simp [Ex.d_eq]
    cases h2 : byS a 8 4294967295 with
    | none => simp [all32]
    | some x => simp [all32, Ex.d_eq]
theorem ord_two (op : Int) (a b : Ex) : ordS (eTwo op a b) op = (a, b) :: (if comB op = true then [(b, a)] else []) := by simp [ordS]
theorem ord_not {e : Ex} {op : Int} (h : ¬ e.op = op) : ordS e op = [] := by simp [ordS, h]
theorem inverted_af (e : Ex) (hf : formB e = true) (hn : e.nodes ≤ 1000000000) : AF Tryz.prog 45 [exA e] (oA e (invS e)) := by
  by_cases h3 : e.op = 3
  · obtain ⟨a, b, rfl, ha, hb⟩ := form_two' hf h3 (by omega) (by omega)
    have ho : ordS (eTwo 3 a b) 3 = [(a, b), (b, a)] := by simp [ord_two, comB]
    simp only [nodes_two] at hn
    refine af_of Tryz.func45 rfl (by kernel_rfl) (by simp [Tryz.ntmps45]) fun _ => ?_; simp [Tryz.f45, Ex.d_eq]
    refine aCall_of (orders_af (eTwo 3 a b) 3) (by simp) (by simp [Ex.d_eq]) ?_; simp [Ex.d_eq]
    rw [ho]
    simp [ordD]
    refine aLoop_iter 3 ?_; simp [Ex.d_eq]
    refine aCall_of (is_af b 4294967295) (by simp) (by simp [Ex.d_eq]) ?_; simp [Ex.d_eq]
    have two : ∀ x y : Ex, x.nodes ≤ 1000000000 → isB y 4294967295 = true → x.op = 17 → formB x = true → ∃ c, x = eOne 17 c ∧ c.nodes ≤ 1000000000 := fun x y hx _ h17 hf => by
      obtain ⟨c, rfl, _⟩ := form_one' hf h17
      exact ⟨c, rfl, by simp at hx; omega⟩
    by_cases h1 : isB b 4294967295 = true ∧ a.op = 17
    · obtain ⟨h1, h2⟩ := h1
      obtain ⟨c, rfl, hc⟩ := two a b (by omega) h1 h2 ha
      simp [h1]
      refine adraw [] (by kernel_rfl) (by kernel_rfl) (by kernel_rfl) (by kernel_rfl) ?_; simp [Ex.d_eq]
      refine adC_of (const_af 4294967295) (by simp) trivial (by simp) (by simp [Ex.d_eq]) ?_; simp [Ex.d_eq]
      refine adC_of (two_af 8 c (eCon 4294967295) hc (by simp)) (by simp) trivial (by simp) (by simp [Ex.d_eq]) ?_; simp [Ex.d_eq]
      simp [invS, ho, h1, Ex.d_eq]
    · cases hb1 : isB b 4294967295
      · simp [Ex.d_eq]
        refine aCall_of (is_af a 4294967295) (by simp) (by simp [Ex.d_eq]) ?_; simp [Ex.d_eq]
        cases ha1 : isB a 4294967295
        · simp [hb1, ha1, invS, ho]
        · by_cases h2 : b.op = 17
          · obtain ⟨c, rfl, hc⟩ := two b a (by omega) ha1 h2 hb
            simp
            refine adraw [] (by kernel_rfl) (by kernel_rfl) (by kernel_rfl) (by kernel_rfl) ?_; simp [Ex.d_eq]
            refine adC_of (const_af 4294967295) (by simp) trivial (by simp) (by simp [Ex.d_eq]) ?_; simp [Ex.d_eq]
            refine adC_of (two_af 8 c (eCon 4294967295) hc (by simp)) (by simp) trivial (by simp) (by simp [Ex.d_eq]) ?_; simp [Ex.d_eq]
            simp [hb1, ha1, invS, ho, Ex.d_eq]
          · simp [hb1, ha1, h2, invS, ho]
      · have h17 : ¬ a.op = 17 := fun h => h1 ⟨hb1, h⟩
        simp [h17, Ex.d_eq]
        refine aCall_of (is_af a 4294967295) (by simp) (by simp [Ex.d_eq]) ?_; simp [Ex.d_eq]
        cases ha1 : isB a 4294967295
        · simp [hb1, h17, ha1, invS, ho]
        · by_cases h2 : b.op = 17
          · obtain ⟨c, rfl, hc⟩ := two b a (by omega) ha1 h2 hb
            simp
            refine adraw [] (by kernel_rfl) (by kernel_rfl) (by kernel_rfl) (by kernel_rfl) ?_; simp [Ex.d_eq]
            refine adC_of (const_af 4294967295) (by simp) trivial (by simp) (by simp [Ex.d_eq]) ?_; simp [Ex.d_eq]
            refine adC_of (two_af 8 c (eCon 4294967295) hc (by simp)) (by simp) trivial (by simp) (by simp [Ex.d_eq]) ?_; simp [Ex.d_eq]
            simp [hb1, h17, ha1, invS, ho, Ex.d_eq]
          · simp [hb1, h17, ha1, h2, invS, ho]
  by_cases h4 : e.op = 4
  · obtain ⟨a, b, rfl, ha, hb⟩ := form_two' hf h4 (by omega) (by omega)
    have ho : ordS (eTwo 4 a b) 3 = [] := ord_not (by simp)
    simp only [nodes_two] at hn
    refine af_of Tryz.func45 rfl (by kernel_rfl) (by simp [Tryz.ntmps45]) fun _ => ?_; simp [Tryz.f45, Ex.d_eq]
    refine aCall_of (orders_af (eTwo 4 a b) 3) (by simp) (by simp [Ex.d_eq]) ?_; simp [Ex.d_eq]
    rw [ho]
    simp [ordD]
    refine aLoop_iter 1 ?_; simp [Ex.d_eq]
    refine aCall_of (is_af b 1) (by simp) (by simp [Ex.d_eq]) ?_; simp [Ex.d_eq]
    by_cases h1 : isB b 1 = true
    case neg => simp [h1, invS, ho]
    simp [h1]
    by_cases h2 : a.op = 17
    case neg => simp [h2, invS, ho]
    obtain ⟨c, rfl, hc⟩ := form_one' ha h2
    simp at hn
    simp
    refine adraw [] (by kernel_rfl) (by kernel_rfl) (by kernel_rfl) (by kernel_rfl) ?_; simp [Ex.d_eq]
    refine adC_of (const_af 4294967295) (by simp) trivial (by simp) (by simp [Ex.d_eq]) ?_; simp [Ex.d_eq]
    refine adC_of (two_af 8 c (eCon 4294967295) (by omega) (by simp)) (by simp) trivial (by simp) (by simp [Ex.d_eq]) ?_; simp [Ex.d_eq]
    simp [invS, ho, h1, Ex.d_eq]
  · refine af_of Tryz.func45 rfl (by kernel_rfl) (by simp [Tryz.ntmps45]) fun _ => ?_; simp [Tryz.f45, Ex.d_eq]
    refine aCall_of (orders_af e 3) (by simp) (by simp [Ex.d_eq]) ?_; simp [Ex.d_eq]
    rw [ord_not h3]
    simp [ordD]
    refine aLoop_iter 1 ?_; simp [Ex.d_eq]
    simp [invS, ord_not h3, h4]
end Go.Proofs.YtlfkighdmheniaaGreatDoor

/- Contracts: slices.ContainsFunc at pairs of expressions; idiom's matchers, continued. -/
namespace Go.Proofs.YtlfkighdmheniaaGreatDoor
open Go.RowKit
/-- A pair of expressions, by value. -/
@[simp] def rowA (p : Ex × Ex) : AV := .agg [aI .i64 p.1.op, aI .u32 p.1.n, aI .i64 p.1.v, aI .i64 p.1.wd, .d (.sl 5 (Ex.ds p.1.l)), aI .i64 p.2.op, aI .u32 p.2.n, aI .i64 p.2.v, aI .i64 p.2.wd, .d (.sl 5 (Ex.ds p.2.l))]
@[simp] theorem ordD_len (l : List (Ex × Ex)) : (ordD l).length = l.length := by simp [ordD]
@[simp] theorem ordD_get (l : List (Ex × Ex)) (i : Nat) : (ordD l)[i]? = (l[i]?).map fun p => Ex.d p.1 ++ Ex.d p.2 := by simp [ordD]
@[simp] theorem ordD_at (l : List (Ex × Ex)) (i : Nat) (h : i < (ordD l).length) : (ordD l)[i] = Ex.d (l[i]'(by simpa using h)).1 ++ Ex.d (l[i]'(by simpa using h)).2 := by simp [ordD]
/-- slices.IndexFunc, at pairs of expressions, with a predicate that changes nothing. -/
theorem indexFunc2_ac {f : Nat} {cs : List AV} {p : Ex × Ex → Bool} (A : AHeap) (hA : A.map (clnB A.length) = A) (hcs : cs.map (cln A.length) = cs) (l : List (Ex × Ex)) (hf : okF Tryz.prog f = true) (hp : ∀ a ∈ l, AC Tryz.prog f ([rowA a] ++ cs) A (Same0 A (aB (p a)))) :
    AC Tryz.prog 105 [.d (.sl 10 (ordD l)), .fn f [] cs] A (Same0 A (aI .i64 (match l.findIdx? p with | some i => (i : Int) | none => -1))) := by
  refine ac_of Tryz.func105 rfl (by kernel_rfl) (by simp [Tryz.ntmps105]) fun hb => ?_
  have n1 : l.length ≤ maxLen := by simpa using hb.1.1
  clear hb
  obtain ⟨R, hR⟩ : ∃ R : Int, (match l.findIdx? p with | some i => (i : Int) | none => -1) = R := ⟨_, rfl⟩
  rw [hR]
  simp [Tryz.f105]
  refine aLoop_of (α := Nat) (fun i e A' => i ≤ l.length ∧ A' = A ∧ e 8 = aI .i64 i ∧ e 7 = aI .i64 l.length ∧ e 0 = .d (.sl 10 (ordD l)) ∧ e 1 = .fn f [] cs ∧
    ∀ (j : Nat) (a : Ex × Ex), j < i → l[j]? = some a → p a = false) (fun i => l.length - i) 0 (Sub.refl _ _ _) ⟨by omega, rfl, by simp, by simp, by simp, by simp, by intro j a hj; omega⟩ ?_
  rintro i e A' ⟨hi, rfl, e8, e7, e0, e1, hall⟩ K hK
  simp [e8, e7]
  refine aCond_split (fun hlt => ?_) (fun hge => ?_)
  · simp at hlt
    have hi1 := List.getElem?_eq_getElem hlt
    simp [e0, e1, e8, hi1, Ex.d_eq]
    refine aCall_ofc (hp l[i] (List.mem_of_getElem? hi1)) hf ?_
    rintro _ _ ⟨rfl, N', rfl⟩
    simp
    refine aCond_split (fun ht => ?_) (fun hf => ?_)
    · have : l.findIdx? p = some i := by
        rw [List.findIdx?_eq_some_iff_getElem]
        exact ⟨hlt, ht, fun j hj => by simpa using hall j _ hj (List.getElem?_eq_getElem (by omega))⟩
      rw [this] at hR
      subst hR
      simp [Same0]
    · simp [e8, succ_wrap hlt n1]
      refine hK (i + 1) _ _ _ _ (Sub.take A'.length (Nat.le_refl _)) ⟨by omega, by simp [hA], by simp, by simp [e7], by simp [e0], by simp [e1, clnL_map, hcs], fun j a hj ha => ?_⟩ (by omega)
      rcases Nat.lt_or_ge j i with h | h
      · exact hall j a h ha
      · obtain rfl : j = i := by omega
        rw [hi1] at ha
        obtain rfl := Option.some.inj ha
        exact hf
  · simp at hge
    have : l.findIdx? p = none := by
      rw [List.findIdx?_eq_none_iff]
      intro x hx
      obtain ⟨j, hj⟩ := List.getElem?_of_mem hx
      exact hall j x (by have := (List.getElem?_eq_some_iff.1 hj).1; omega) hj
    rw [this] at hR
    subst hR
    simp [Same0]
theorem containsFunc2_ac {f : Nat} {cs : List AV} {p : Ex × Ex → Bool} (A : AHeap) (hA : A.map (clnB A.length) = A) (hcs : cs.map (cln A.length) = cs) (l : List (Ex × Ex)) (hf : okF Tryz.prog f = true) (hp : ∀ a ∈ l, AC Tryz.prog f ([rowA a] ++ cs) A (Same0 A (aB (p a)))) :
    AC Tryz.prog 91 [.d (.sl 10 (ordD l)), .fn f [] cs] A (Same0 A (aB (l.any p))) := by
  refine ac_of Tryz.func91 rfl (by kernel_rfl) (by simp [Tryz.ntmps91]) fun hb => ?_
  simp [Tryz.f91]
  refine aCall_ofc (indexFunc2_ac A hA hcs l hf hp) (by simp) ?_
  rintro _ _ ⟨rfl, N, rfl⟩
  simp [Same0]
  cases h : l.findIdx? p with
  | none =>
    rw [List.findIdx?_eq_none_iff] at h
    simpa using h
  | some i =>
    rw [List.findIdx?_eq_some_iff_getElem] at h
    obtain ⟨hi, hp, _⟩ := h
    have := List.any_eq_true.2 ⟨_, List.getElem_mem hi, hp⟩
    simp [this]
theorem signed_af (e : Ex) (hf : formB e = true) : AF Tryz.prog 46 [exA e] (oA e (sgnS e)) := by
  refine af_of Tryz.func46 rfl (by kernel_rfl) (by simp [Tryz.ntmps46]) fun _ => ?_; simp [Tryz.f46, Ex.d_eq]
  refine aCall_of (extended_af e 11 hf (by omega) (by omega)) (by simp) (by simp [Ex.d_eq]) ?_; simp [Ex.d_eq]
  unfold sgnS
  cases h : extS e 11 with
  | none => simp
  | some p =>
    obtain ⟨x, w⟩ := p
    obtain ⟨_, _, _, _, hw⟩ := ext_some hf (.inr rfl) h
    simp [show ¬ w = 0 by omega, Ex.d_eq]
theorem zeroed_af (e : Ex) (hf : formB e = true) (hn : e.nodes ≤ 1000000000) : AF Tryz.prog 47 [exA e] (oA e (zerS e)) := by
  refine af_of Tryz.func47 rfl (by kernel_rfl) (by simp [Tryz.ntmps47]) fun _ => ?_; simp [Tryz.f47, Ex.d_eq]
  refine aCall_of (extended_af e 10 hf (by omega) (by omega)) (by simp) (by simp [Ex.d_eq]) ?_; simp [Ex.d_eq]
  unfold zerS
  cases h : extS e 10 with
  | none => simp
  | some p =>
    obtain ⟨x, w⟩ := p
    obtain ⟨_, _, hx, _, hw⟩ := ext_some hf (.inl rfl) h
    have p8 : shlI .u32 1 8 = 256 := by decide +kernel
    have p16 : shlI .u32 1 16 = 65536 := pw16
    rcases hw with rfl | rfl
    · simp [Ex.d_eq]
      refine adraw [] (by kernel_rfl) (by kernel_rfl) (by kernel_rfl) (by kernel_rfl) ?_; simp [Ex.d_eq]
      simp [p8]
      refine adC_of (const_af 255) (by simp) trivial (by simp) (by simp [Ex.d_eq]) ?_; simp [Ex.d_eq]
      refine adC_of (two_af 6 x (eCon 255) (by omega) (by simp)) (by simp) trivial (by simp) (by simp [Ex.d_eq]) ?_; simp [Ex.d_eq]
    · simp [Ex.d_eq]
      refine adraw [] (by kernel_rfl) (by kernel_rfl) (by kernel_rfl) (by kernel_rfl) ?_; simp [Ex.d_eq]
      simp [p16]
      refine adC_of (const_af 65535) (by simp) trivial (by simp) (by simp [Ex.d_eq]) ?_; simp [Ex.d_eq]
      refine adC_of (two_af 6 x (eCon 65535) (by omega) (by simp)) (by simp) trivial (by simp) (by simp [Ex.d_eq]) ?_; simp [Ex.d_eq]
theorem nonzero_af (e : Ex) (hf : formB e = true) (hn : e.nodes ≤ 1000000000) : AF Tryz.prog 48 [exA e] (oA e (nzS e)) := by
  refine af_of Tryz.func48 rfl (by kernel_rfl) (by simp [Tryz.ntmps48]) fun _ => ?_; simp [Tryz.f48, Ex.d_eq]
  refine aCall_of (high_af e 10 hf (by omega) (by omega)) (by simp) (by simp [Ex.d_eq]) ?_; simp [Ex.d_eq]
  unfold nzS
  cases h : hiS e 10 with
  | none => simp
  | some a =>
    have hs := hi_some h
    obtain ⟨ha, _, hn', _⟩ := sh_part hf (by omega) (by omega) hs
    simp [hs]
    refine aCall_of (orders_af a 7) (by simp) (by simp [Ex.d_eq]) ?_; simp [Ex.d_eq]
    by_cases h7 : a.op = 7
    case neg =>
      rw [ord_not h7]
      simp [ordD]
      refine aLoop_iter 1 ?_; simp [Ex.d_eq]
    obtain ⟨x, y, rfl, hx, hy⟩ := form_two' ha h7 (by omega) (by omega)
    have ho : ordS (eTwo 7 x y) 7 = [(x, y), (y, x)] := by simp [ord_two, comB]
    simp at hn'
    rw [ho]
    simp [ordD]
    refine aLoop_iter 3 ?_; simp [Ex.d_eq]
    have fin : ∀ z : Ex, z.nodes ≤ 1000000000 → True := fun _ _ => trivial
    refine adraw [] (by kernel_rfl) (by kernel_rfl) (by kernel_rfl) (by kernel_rfl) ?_; simp [Ex.d_eq]
    by_cases h1 : y.op = 17
    case neg =>
      simp [h1]
      refine adraw [] (by kernel_rfl) (by kernel_rfl) (by kernel_rfl) (by kernel_rfl) ?_; simp [Ex.d_eq]
      by_cases h2 : x.op = 17
      case neg => simp [h1, h2]
      obtain ⟨c, rfl, hc⟩ := form_one' hx h2
      simp [Ex.d_eq]
      refine adC_of (same_af c y) (by simp) trivial (by simp) (by simp [Ex.d_eq]) ?_; simp [Ex.d_eq]
      cases h3 : sameB c y
      · simp [h1, h3]
      · simp [h1, h3]
        refine adraw [] (by kernel_rfl) (by kernel_rfl) (by kernel_rfl) (by kernel_rfl) ?_; simp [Ex.d_eq]
        refine adC_of (const_af 0) (by simp) trivial (by simp) (by simp [Ex.d_eq]) ?_; simp [Ex.d_eq]
        refine adC_of (two_af 13 y (eCon 0) (by omega) (by simp)) (by simp) trivial (by simp) (by simp [Ex.d_eq]) ?_; simp [Ex.d_eq]
    obtain ⟨c, rfl, hc⟩ := form_one' hy h1
    simp at hn'
    simp [Ex.d_eq]
    refine adC_of (same_af c x) (by simp) trivial (by simp) (by simp [Ex.d_eq]) ?_; simp [Ex.d_eq]
    cases h3 : sameB c x
    case true =>
      simp [h3]
      refine adraw [] (by kernel_rfl) (by kernel_rfl) (by kernel_rfl) (by kernel_rfl) ?_; simp [Ex.d_eq]
      refine adC_of (const_af 0) (by simp) trivial (by simp) (by simp [Ex.d_eq]) ?_; simp [Ex.d_eq]
      refine adC_of (two_af 13 x (eCon 0) (by omega) (by simp)) (by simp) trivial (by simp) (by simp [Ex.d_eq]) ?_; simp [Ex.d_eq]
    simp [Ex.d_eq]
    refine adraw [] (by kernel_rfl) (by kernel_rfl) (by kernel_rfl) (by kernel_rfl) ?_; simp [Ex.d_eq]
    by_cases h2 : x.op = 17
    case neg => simp [h2, h3]
    obtain ⟨d, rfl, hd⟩ := form_one' hx h2
    simp [Ex.d_eq]
    refine adC_of (same_af d (eOne 17 c)) (by simp) trivial (by simp) (by simp [Ex.d_eq]) ?_; simp [Ex.d_eq]
    cases h4 : sameB d (eOne 17 c)
    · simp [h3, h4]
    · simp [h3, h4]
      refine adraw [] (by kernel_rfl) (by kernel_rfl) (by kernel_rfl) (by kernel_rfl) ?_; simp [Ex.d_eq]
      refine adC_of (const_af 0) (by simp) trivial (by simp) (by simp [Ex.d_eq]) ?_; simp [Ex.d_eq]
      refine adC_of (two_af 13 (eOne 17 c) (eCon 0) (by simp; omega) (by simp)) (by simp) trivial (by simp) (by simp [Ex.d_eq]) ?_; simp [Ex.d_eq]
theorem rest_af (e : Ex) (hf : formB e = true) (hn : e.nodes ≤ 1000000000) : AF Tryz.prog 49 [exA e] (oA e (restS e)) := by
  by_cases h : e.op = 4
  case neg =>
    refine af_of Tryz.func49 rfl (by kernel_rfl) (by simp [Tryz.ntmps49]) fun _ => ?_; simp [Tryz.f49, Ex.d_eq]
    simp [h, restS]
  obtain ⟨a, b, rfl, ha, hb⟩ := form_two' hf h (by omega) (by omega)
  have hp := mul_part hb
  simp only [nodes_two] at hn
  refine af_of Tryz.func49 rfl (by kernel_rfl) (by simp [Tryz.ntmps49]) fun _ => ?_; simp [Tryz.f49, Ex.d_eq]
  refine aCall_of (multiple_af b hb) (by simp) (by simp [Ex.d_eq]) ?_; simp [Ex.d_eq]
  refine aCall_of (shifts_af (mulS b).1 10 hp.form (by omega) (by omega)) (by simp) (by simp [Ex.d_eq]) ?_; simp [Ex.d_eq]
  unfold restS
  cases hs : shS (mulS b).1 10 with
  | none =>
    simp [hs]
    refine adraw [] (by kernel_rfl) (by kernel_rfl) (by kernel_rfl) (by kernel_rfl) ?_; simp [Ex.d_eq]
  | some p =>
    obtain ⟨x, k⟩ := p
    obtain ⟨_, _, h1, h2, _⟩ := sh_some hs
    obtain ⟨_, _, hxn, _⟩ := sh_part hp.form (by omega) (by omega) hs
    have := hp.nodes
    have hk : 0 ≤ k := by omega
    simp [hs]
    refine adraw [] (by kernel_rfl) (by kernel_rfl) (by kernel_rfl) (by kernel_rfl) ?_; simp [Ex.d_eq]
    simp [hk]
    by_cases h4 : (mulS b).2 = shlI .u32 1 k
    case neg => simp [h4, pw]
    simp [h4, pw]
    refine adC_of (same_af x a) (by simp) trivial (by simp) (by simp [Ex.d_eq]) ?_; simp [Ex.d_eq]
    cases h5 : sameB x a
    · simp [Ex.d_eq]
    · simp [Ex.d_eq]
      refine adraw [] (by kernel_rfl) (by kernel_rfl) (by kernel_rfl) (by kernel_rfl) ?_; simp [Ex.d_eq]
      simp [hk]
      refine adC_of (const_af (IntKind.u32.wrap (shlI .u32 1 k - 1))) (by simp) trivial (by simp) (by simp [Ex.d_eq]) ?_; simp [Ex.d_eq]
      refine adC_of (two_af 6 x (eCon (IntKind.u32.wrap (shlI .u32 1 k - 1))) (by omega) (by simp)) (by simp) trivial (by simp) (by simp [Ex.d_eq]) ?_; simp [Ex.d_eq]
theorem negative_af (e : Ex) (hf : formB e = true) (hn : e.nodes ≤ 1000000000) : AF Tryz.prog 50 [exA e] (oA e (signS e)) := by
  refine af_of Tryz.func50 rfl (by kernel_rfl) (by simp [Tryz.ntmps50]) fun _ => ?_; simp [Tryz.f50, Ex.d_eq]
  refine aCall_of (high_af e 10 hf (by omega) (by omega)) (by simp) (by simp [Ex.d_eq]) ?_; simp [Ex.d_eq]
  unfold signS
  cases h : hiS e 10 with
  | none => simp
  | some a =>
    have hs := hi_some h
    obtain ⟨ha, _, hn', _⟩ := sh_part hf (by omega) (by omega) hs
    simp [hs]
    refine adraw [] (by kernel_rfl) (by kernel_rfl) (by kernel_rfl) (by kernel_rfl) ?_; simp [Ex.d_eq]
    refine adC_of (const_af 0) (by simp) trivial (by simp) (by simp [Ex.d_eq]) ?_; simp [Ex.d_eq]
    refine adC_of (two_af 14 a (eCon 0) (by omega) (by simp)) (by simp) trivial (by simp) (by simp [Ex.d_eq]) ?_; simp [Ex.d_eq]
theorem shifted_af (e : Ex) (hf : formB e = true) (hn : e.nodes ≤ 1000000000) : AF Tryz.prog 51 [exA e] (oA e (shfS e)) := by
  refine af_of Tryz.func51 rfl (by kernel_rfl) (by simp [Tryz.ntmps51]) fun _ => ?_; simp [Tryz.f51, Ex.d_eq]
  refine aCall_of (shifts_af e 9 hf (by omega) (by omega)) (by simp) (by simp [Ex.d_eq]) ?_; simp [Ex.d_eq]
  unfold shfS
  cases h : shS e 9 with
  | none => simp
  | some p =>
    obtain ⟨x, k⟩ := p
    obtain ⟨_, _, h1, h2, _⟩ := sh_some h
    obtain ⟨_, _, hxn, _⟩ := sh_part hf (by omega) (by omega) h
    simp [show 0 ≤ k by omega]
    refine aCall_of (product_af x (shlI .u32 1 k) (by omega)) (by simp) (by simp [Ex.d_eq]) ?_; simp [Ex.d_eq]
    simp [pw]
end Go.Proofs.YtlfkighdmheniaaGreatDoor

/- Contracts: idiom's matchers of absolute values, minima and maxima. -/
namespace Go.Proofs.YtlfkighdmheniaaGreatDoor
open Go.RowKit
/-- A box of an expression. -/
abbrev exB (e : Ex) : Blk := ⟨0, true, 42, 5, [[aI .i64 e.op, aI .u32 e.n, aI .i64 e.v, aI .i64 e.wd, .d (.sl 5 (Ex.ds e.l))]]⟩
theorem mag1_ac (x a s : Ex) (p : Ex × Ex) : AC Tryz.prog 92 ([rowA p] ++ [.ptr 1 0 0 0, .ptr 0 0 0 0]) [exB (eTwo 4 a s), exB x] (Same0 [exB (eTwo 4 a s), exB x] (aB (sameB p.1 x && sameB p.2 s))) := by
  refine ac_of Tryz.func92 rfl (by kernel_rfl) (by simp [Tryz.ntmps92]) fun _ => ?_
  simp [Tryz.f92]
  refine adraw [] (by kernel_rfl) (by kernel_rfl) (by kernel_rfl) (by kernel_rfl) ?_; simp [Ex.d_eq]
  refine adC_of (same_af p.1 x) (by simp) trivial (by simp) (by simp [Ex.d_eq]) ?_; simp [Ex.d_eq]
  cases h1 : sameB p.1 x
  · simp [Same0]
  · simp [Ex.d_eq]
    refine adC_of (same_af p.2 s) (by simp) trivial (by simp) (by simp [Ex.d_eq]) ?_; simp [Ex.d_eq]
    simp [Same0]
theorem magnitude_af (e : Ex) (hf : formB e = true) : AF Tryz.prog 52 [exA e] (aB (absB e)) := by
  by_cases h : e.op = 4
  case neg =>
    refine af_of Tryz.func52 rfl (by kernel_rfl) (by simp [Tryz.ntmps52]) fun _ => ?_; simp [Tryz.f52, Ex.d_eq]
    simp [h, absB]
  obtain ⟨a, b, rfl, ha, hb⟩ := form_two' hf h (by omega) (by omega)
  refine af_of Tryz.func52 rfl (by kernel_rfl) (by simp [Tryz.ntmps52]) fun _ => ?_; simp [Tryz.f52, Ex.d_eq]
  refine aCall_of (high_af b 11 hb (by omega) (by omega)) (by simp) (by simp [Ex.d_eq]) ?_; simp [Ex.d_eq]
  unfold absB
  cases hs : hiS b 11 with
  | none => simp [hs]
  | some x =>
    simp [hs, hi_some hs]
    refine aCall_of (orders_af a 8) (by simp) (by simp [Ex.d_eq]) ?_; simp [Ex.d_eq]
    simp only [← Ex.d_eq a, ← Ex.d_eq b]
    refine aCall_ofc (containsFunc2_ac [exB (eTwo 4 a b), exB x] (by simp) (by simp) (ordS a 8) (p := fun p => sameB p.1 x && sameB p.2 b) (by simp) fun p _ => mag1_ac x a b p).drop (by simp) ?_
    rintro _ _ ⟨rfl, rfl⟩
    simp
theorem sel1_ac (x y z : Ex) (b0 b1 : Blk) (p : Ex × Ex) : AC Tryz.prog 93 ([rowA p] ++ [.ptr 2 0 0 0, .ptr 3 0 0 0]) [b0, b1, exB x, exB y, exB z] (Same0 [b0, b1, exB x, exB y, exB z] (aB (sameB p.1 x && sameB p.2 y))) := by
  refine ac_of Tryz.func93 rfl (by kernel_rfl) (by simp [Tryz.ntmps93]) fun _ => ?_
  simp [Tryz.f93]
  refine aCall_of (same_af p.1 x) (by simp) (by simp) ?_; simp
  cases h1 : sameB p.1 x
  · simp [Same0]
  · simp
    refine aCall_of (same_af p.2 y) (by simp) (by simp) ?_; simp
    simp [Same0]
theorem selects_af (e : Ex) (g : Bool) (hf : formB e = true) : AF Tryz.prog 53 [exA e, aB g] (aB (selB e g)) := by
  refine af_of Tryz.func53 rfl (by kernel_rfl) (by simp [Tryz.ntmps53]) fun _ => ?_
  simp [Tryz.f53]
  refine aCall_of (orders_af e 8) (by simp) (by simp) ?_; simp
  have hrows : ∀ p ∈ ordS e 8, formB p.2 = true := fun p hp => (ord_mem hf (by omega) (by omega) hp).2.1
  have hlen : ∀ (e : Ex) (op : Int), (ordS e op).length ≤ 2 := fun e op => by rcases ord_cases e op with h | ⟨a, b, h⟩ | ⟨a, b, h⟩ <;> simp [h]
  obtain ⟨R, hR⟩ : ∃ R, selB e g = R := ⟨_, rfl⟩
  rw [hR]
  unfold selB at hR
  have hl2 := hlen e 8
  generalize ordS e 8 = l at *
  refine aLoop_of (α := Nat) (fun i s A => i ≤ l.length ∧ A = [] ∧ s 14 = .d (.sl 10 (ordD l)) ∧ s 15 = aI .i64 l.length ∧ s 16 = aI .i64 i ∧ s 1 = aB g ∧
    ∀ p ∈ l.take i, ((ordS p.2 6).any fun q => decide (q.2.op = 17) && decide (q.2.x.op = 14) && ((ordS q.1 8).any fun r => sameB r.1 q.2.x.x && sameB r.2 q.2.x.y) && sameB p.1 (if g then q.2.x.x else q.2.x.y)) = false)
    (fun i => l.length - i) 0 (Sub.take 0 (Nat.le_refl _)) ⟨by omega, by simp, by simp, by simp, by simp, by simp, by simp⟩ ?_
  rintro i s A ⟨hi, rfl, s14, s15, s16, s1, hall⟩ K hK
  rcases Nat.lt_or_ge i l.length with hlt | hge
  case inr =>
    obtain rfl : i = l.length := by omega
    rw [List.take_length] at hall
    have : R = false := by rw [← hR, List.any_eq_false]; intro p hp; rw [hall p hp]; simp
    subst this
    simp [s15, s16]
  obtain ⟨p, hp⟩ : ∃ p, l[i]? = some p := ⟨_, List.getElem?_eq_getElem hlt⟩
  have hpm := List.mem_of_getElem? hp
  have hpf := hrows p hpm
  have hp2 := (List.getElem?_eq_some_iff.1 hp).2
  simp [s14, s15, s16, hlt, hp, hp2, Ex.d_eq]
  refine aCall_of (orders_af p.2 6) (by simp) (by simp) ?_; simp
  have hq : ∀ q ∈ ordS p.2 6, formB q.1 = true ∧ formB q.2 = true := fun q hq => by
    obtain ⟨h1, h2, _⟩ := ord_mem hpf (by omega) (by omega) hq
    exact ⟨h1, h2⟩
  have hm2 := hlen p.2 6
  obtain ⟨Q, hQ⟩ : ∃ Q, ((ordS p.2 6).any fun q => decide (q.2.op = 17) && decide (q.2.x.op = 14) && ((ordS q.1 8).any fun r => sameB r.1 q.2.x.x && sameB r.2 q.2.x.y) && sameB p.1 (if g then q.2.x.x else q.2.x.y)) = Q := ⟨_, rfl⟩
  have hQt : Q = true → R = true := fun h => by
    rw [← hR, List.any_eq_true]
    exact ⟨p, hpm, by rw [hQ, h]⟩
  obtain ⟨m, hmo⟩ : ∃ m, ordS p.2 6 = m := ⟨_, rfl⟩
  rw [hmo] at hQ hq hm2 ⊢
  refine aLoop_of (α := Nat) (fun k s A => k ≤ m.length ∧ A = [⟨0, true, 93, 10, [[aI .i64 p.1.op, aI .u32 p.1.n, aI .i64 p.1.v, aI .i64 p.1.wd, .d (.sl 5 (Ex.ds p.1.l)), aI .i64 p.2.op, aI .u32 p.2.n, aI .i64 p.2.v, aI .i64 p.2.wd, .d (.sl 5 (Ex.ds p.2.l))]]⟩] ∧
    s 14 = .d (.sl 10 (ordD l)) ∧ s 15 = aI .i64 l.length ∧ s 16 = aI .i64 i ∧ s 1 = aB g ∧ s 6 = .ptr 0 0 0 0 ∧ s 22 = .d (.sl 10 (ordD m)) ∧ s 23 = aI .i64 m.length ∧ s 24 = aI .i64 k ∧
    ∀ q ∈ m.take k, (decide (q.2.op = 17) && decide (q.2.x.op = 14) && ((ordS q.1 8).any fun r => sameB r.1 q.2.x.x && sameB r.2 q.2.x.y) && sameB p.1 (if g then q.2.x.x else q.2.x.y)) = false)
    (fun k => m.length - k) 0 (Sub.refl _ _ _) ⟨by omega, by simp, by simp [s14], by simp [s15], by simp [s16], by simp [s1], by simp, by simp, by simp, by simp, by simp⟩ ?_
  rintro k s A ⟨hk, rfl, s14, s15, s16, s1, s6, s22, s23, s24, hallq⟩ K' hK'
  rcases Nat.lt_or_ge k m.length with hlt2 | hge2
  case inr =>
    obtain rfl : k = m.length := by omega
    rw [List.take_length] at hallq
    have : Q = false := by rw [← hQ, List.any_eq_false]; intro q hq; rw [hallq q hq]; simp
    subst this
    simp [s23, s24, s16, i64w (n := (i : Int) + 1) (by omega)]
    refine hK (i + 1) _ _ _ _ (Sub.take 0 (Nat.le_refl _)) ⟨by omega, by simp, by simp [s14], by simp [s15], by simp, by simp [s1], fun p' hp' => ?_⟩ (by omega)
    rw [List.take_add_one, hp] at hp'
    rcases List.mem_append.1 hp' with hp' | hp'
    · exact hall p' hp'
    · obtain rfl : p' = p := by simpa using hp'
      rw [hmo]; exact hQ
  obtain ⟨q, hqk⟩ : ∃ q, m[k]? = some q := ⟨_, List.getElem?_eq_getElem hlt2⟩
  have hqm := List.mem_of_getElem? hqk
  obtain ⟨hq1, hq2⟩ := hq q hqm
  obtain ⟨C, hC⟩ : ∃ C, (decide (q.2.op = 17) && decide (q.2.x.op = 14) && ((ordS q.1 8).any fun r => sameB r.1 q.2.x.x && sameB r.2 q.2.x.y) && sameB p.1 (if g then q.2.x.x else q.2.x.y)) = C := ⟨_, rfl⟩
  have hnext : C = false → ∀ q' ∈ m.take (k + 1), (decide (q'.2.op = 17) && decide (q'.2.x.op = 14) && ((ordS q'.1 8).any fun r => sameB r.1 q'.2.x.x && sameB r.2 q'.2.x.y) && sameB p.1 (if g then q'.2.x.x else q'.2.x.y)) = false := fun h q' hq' => by
    rw [List.take_add_one, hqk] at hq'
    rcases List.mem_append.1 hq' with hq' | hq'
    · exact hallq q' hq'
    · obtain rfl : q' = q := by simpa using hq'
      rw [hC, h]
  have hyes : C = true → R = true := fun h => hQt (by
    rw [← hQ, List.any_eq_true]
    exact ⟨q, hqm, by rw [hC, h]⟩)
  have hqk2 := (List.getElem?_eq_some_iff.1 hqk).2
  simp [s22, s23, s24, hlt2, hqk, hqk2, Ex.d_eq]
  by_cases h17 : q.2.op = 17
  case neg =>
    have : C = false := by rw [← hC]; simp [h17]
    simp [h17, s24, i64w (n := (k : Int) + 1) (by omega)]
    exact hK' (k + 1) _ _ _ _ (Sub.take 1 (Nat.zero_le _)) ⟨by omega, by simp, by simp [s14], by simp [s15], by simp [s16], by simp [s1], by simp [s6], by simp [s22], by simp [s23], by simp, hnext this⟩ (by omega)
  obtain ⟨u, hu, huf⟩ := form_one' hq2 h17
  have hux : q.2.x = u := by rw [hu]; rfl
  have hul : q.2.l = [u] := by rw [hu]; rfl
  rw [hux] at hC
  simp [h17, hul, Ex.d_eq]
  by_cases h14 : u.op = 14
  case neg =>
    have : C = false := by rw [← hC]; simp [h14]
    simp [h14, s24, i64w (n := (k : Int) + 1) (by omega)]
    exact hK' (k + 1) _ _ _ _ (Sub.take 1 (Nat.zero_le _)) ⟨by omega, by simp, by simp [s14], by simp [s15], by simp [s16], by simp [s1], by simp [s6], by simp [s22], by simp [s23], by simp, hnext this⟩ (by omega)
  obtain ⟨x, y, rfl, hx, hy⟩ := form_two' huf h14 (by omega) (by omega)
  simp at hC
  simp [Ex.d_eq]
  refine adraw [(18, 10), (18, 13), (18, 15)] (by kernel_rfl) (by kernel_rfl) (by kernel_rfl) (by kernel_rfl) ?_; simp [Ex.d_eq]
  simp [s1]
  cases g
  · simp [s6, Ex.d_eq]
    refine aCall_of (orders_af q.1 8) (by simp) (by simp) ?_; simp
    refine aCall_ofc (containsFunc2_ac _ (by simp) (by simp) (ordS q.1 8) (p := fun r => sameB r.1 x && sameB r.2 y) (by simp) fun r _ => sel1_ac x y y _ _ r).drop (by simp) ?_
    rintro _ _ ⟨rfl, rfl⟩
    simp
    cases hB : (ordS q.1 8).any fun r => sameB r.1 x && sameB r.2 y
    · have : C = false := by rw [← hC]; simp [hB]
      simp [s24, i64w (n := (k : Int) + 1) (by omega)]
      exact hK' (k + 1) _ _ _ _ (Sub.take 1 (Nat.zero_le _)) ⟨by omega, by simp, by simp [s14], by simp [s15], by simp [s16], by simp [s1], by simp [s6], by simp [s22], by simp [s23], by simp, hnext this⟩ (by omega)
    · simp [s6]
      refine aCall_of (same_af p.1 y) (by simp) (by simp) ?_; simp
      cases hS : sameB p.1 y
      · have : C = false := by rw [← hC]; simp [hS]
        simp [s24, i64w (n := (k : Int) + 1) (by omega)]
        exact hK' (k + 1) _ _ _ _ (Sub.take 1 (Nat.zero_le _)) ⟨by omega, by simp, by simp [s14], by simp [s15], by simp [s16], by simp [s1], by simp [s6], by simp [s22], by simp [s23], by simp, hnext this⟩ (by omega)
      · have : C = true := by rw [← hC, h17, hB]; simp [hS]
        have := hyes this
        subst this
        simp
  · simp [s6, Ex.d_eq]
    refine aCall_of (orders_af q.1 8) (by simp) (by simp) ?_; simp
    refine aCall_ofc (containsFunc2_ac _ (by simp) (by simp) (ordS q.1 8) (p := fun r => sameB r.1 x && sameB r.2 y) (by simp) fun r _ => sel1_ac x y x _ _ r).drop (by simp) ?_
    rintro _ _ ⟨rfl, rfl⟩
    simp
    cases hB : (ordS q.1 8).any fun r => sameB r.1 x && sameB r.2 y
    · have : C = false := by rw [← hC]; simp [hB]
      simp [s24, i64w (n := (k : Int) + 1) (by omega)]
      exact hK' (k + 1) _ _ _ _ (Sub.take 1 (Nat.zero_le _)) ⟨by omega, by simp, by simp [s14], by simp [s15], by simp [s16], by simp [s1], by simp [s6], by simp [s22], by simp [s23], by simp, hnext this⟩ (by omega)
    · simp [s6]
      refine aCall_of (same_af p.1 x) (by simp) (by simp) ?_; simp
      cases hS : sameB p.1 x
      · have : C = false := by rw [← hC]; simp [hS]
        simp [s24, i64w (n := (k : Int) + 1) (by omega)]
        exact hK' (k + 1) _ _ _ _ (Sub.take 1 (Nat.zero_le _)) ⟨by omega, by simp, by simp [s14], by simp [s15], by simp [s16], by simp [s1], by simp [s6], by simp [s22], by simp [s23], by simp, hnext this⟩ (by omega)
      · have : C = true := by rw [← hC, h17, hB]; simp [hS]
        have := hyes this
        subst this
        simp
end Go.Proofs.YtlfkighdmheniaaGreatDoor

/- Contracts: idiom's apply, rewritten, own, Expr. -/
namespace Go.Proofs.YtlfkighdmheniaaGreatDoor
open Go.RowKit
theorem apply_af (i : Nat) (hi : i < 13) (e : Ex) (hf : formB e = true) (hn : e.nodes ≤ 1000000000) : AF Tryz.prog 30 [aI .i64 i, exA e] (oA e (applyS i e)) := by
  match i, hi with
  | 0, _ =>
    refine af_of Tryz.func30 rfl (by kernel_rfl) (by simp [Tryz.ntmps30]) fun _ => ?_; simp [Tryz.f30]
    refine aCall_of (sum_af e 3 hf (.inl rfl) hn) (by simp) (by simp) ?_; simp [applyS]
  | 1, _ =>
    refine af_of Tryz.func30 rfl (by kernel_rfl) (by simp [Tryz.ntmps30]) fun _ => ?_; simp [Tryz.f30]
    refine aCall_of (sum_af e 4 hf (.inr rfl) hn) (by simp) (by simp) ?_; simp [applyS]
  | 2, _ =>
    refine af_of Tryz.func30 rfl (by kernel_rfl) (by simp [Tryz.ntmps30]) fun _ => ?_; simp [Tryz.f30]
    refine aCall_of (neg_af e hn) (by simp) (by simp) ?_; simp [applyS]
  | 3, _ =>
    refine af_of Tryz.func30 rfl (by kernel_rfl) (by simp [Tryz.ntmps30]) fun _ => ?_; simp [Tryz.f30]
    refine aCall_of (inverted_af e hf hn) (by simp) (by simp) ?_; simp [applyS]
  | 4, _ =>
    refine af_of Tryz.func30 rfl (by kernel_rfl) (by simp [Tryz.ntmps30]) fun _ => ?_; simp [Tryz.f30]
    refine aCall_of (signed_af e hf) (by simp) (by simp) ?_; simp [applyS]
  | 5, _ =>
    refine af_of Tryz.func30 rfl (by kernel_rfl) (by simp [Tryz.ntmps30]) fun _ => ?_; simp [Tryz.f30]
    refine aCall_of (zeroed_af e hf hn) (by simp) (by simp) ?_; simp [applyS]
  | 6, _ =>
    refine af_of Tryz.func30 rfl (by kernel_rfl) (by simp [Tryz.ntmps30]) fun _ => ?_; simp [Tryz.f30]
    refine aCall_of (nonzero_af e hf hn) (by simp) (by simp) ?_; simp [applyS]
  | 7, _ =>
    refine af_of Tryz.func30 rfl (by kernel_rfl) (by simp [Tryz.ntmps30]) fun _ => ?_; simp [Tryz.f30]
    refine aCall_of (rest_af e hf hn) (by simp) (by simp) ?_; simp [applyS]
  | 8, _ =>
    refine af_of Tryz.func30 rfl (by kernel_rfl) (by simp [Tryz.ntmps30]) fun _ => ?_; simp [Tryz.f30]
    refine aCall_of (negative_af e hf hn) (by simp) (by simp) ?_; simp [applyS]
  | 9, _ =>
    refine af_of Tryz.func30 rfl (by kernel_rfl) (by simp [Tryz.ntmps30]) fun _ => ?_; simp [Tryz.f30]
    refine aCall_of (shifted_af e hf hn) (by simp) (by simp) ?_; simp [applyS]
  | 10, _ =>
    refine af_of Tryz.func30 rfl (by kernel_rfl) (by simp [Tryz.ntmps30]) fun _ => ?_; simp [Tryz.f30]
    refine adraw [] (by kernel_rfl) (by kernel_rfl) (by kernel_rfl) (by kernel_rfl) ?_; simp
    refine adC_of (magnitude_af e hf) (by simp) trivial (by simp) (by simp) ?_; simp [applyS]
    cases absB e <;> simp
  | 11, _ =>
    refine af_of Tryz.func30 rfl (by kernel_rfl) (by simp [Tryz.ntmps30]) fun _ => ?_; simp [Tryz.f30]
    refine adraw [] (by kernel_rfl) (by kernel_rfl) (by kernel_rfl) (by kernel_rfl) ?_; simp
    refine adC_of (selects_af e false hf) (by simp) trivial (by simp) (by simp) ?_; simp [applyS]
    cases selB e false <;> simp
  | 12, _ =>
    refine af_of Tryz.func30 rfl (by kernel_rfl) (by simp [Tryz.ntmps30]) fun _ => ?_; simp [Tryz.f30]
    refine adraw [] (by kernel_rfl) (by kernel_rfl) (by kernel_rfl) (by kernel_rfl) ?_; simp
    refine adC_of (selects_af e true hf) (by simp) trivial (by simp) (by simp) ?_; simp [applyS]
    cases selB e true <;> simp
theorem own28_af : ∀ (e : Ex), e.nodes ≤ 1000000000 → AF Tryz.prog 27 [exA e] (exA e) := by
  intro x
  induction x using Ex.ind with
  | h x ih =>
    intro hn
    have hlen := x.nodes_len
    have n1 : x.l.length ≤ maxLen := by unfold maxLen; omega
    refine af_of Tryz.func27 rfl (by kernel_rfl) (by simp [Tryz.ntmps27]) fun _ => ?_
    simp [Tryz.f27]
    refine aCall_ofc (clone_ac _ (Ex.ds x.l) (by simp; omega)) (by simp) ?_
    rintro _ _ ⟨rfl, rfl⟩
    simp
    refine aLoop_of (α := Nat) (fun i e A => i ≤ x.l.length ∧ A = [⟨0, true, 42, 5, [[aI .i64 x.op, aI .u32 x.n, aI .i64 x.v, aI .i64 x.wd, .own 2 1 0 x.l.length]]⟩, ⟨0, true, 42, 5, [[aI .i64 0, aI .u32 0, aI .i64 0, aI .i64 0, .d (.v (.slice none 0 0))]]⟩, ⟨1, true, 42, 5, dEls (Ex.ds x.l)⟩] ∧
      e 11 = aI .i64 i ∧ e 10 = aI .i64 x.l.length ∧ e 1 = .ptr 0 0 0 0 ∧ e 2 = .ptr 1 0 0 0) (fun i => x.l.length - i) 0 (Sub.refl _ _ _) ⟨by omega, by simp, by simp, by simp, by simp, by simp⟩ ?_
    rintro i e A ⟨hi, rfl, e11, e10, e1, e2⟩ K hK
    simp [e11, e10]
    refine aCond_split (fun hlt => ?_) (fun hge => ?_)
    · simp at hlt
      have hi1 := List.getElem?_eq_getElem hlt
      simp
      refine adraw [] (by kernel_rfl) (by kernel_rfl) (by kernel_rfl) (by kernel_rfl) ?_
      simp [e11, e1, hlt, hi1, Ex.d_eq]
      refine adC_of (ih _ (List.mem_of_getElem? hi1) (by have := Ex.nodes_mem (List.mem_of_getElem? hi1); omega)) (by simp) trivial (by simp) (by simp) ?_
      simp [hlt, Ex.d_eq, e11, succ_wrap hlt n1]
      exact hK (i + 1) _ _ _ _ (Sub.refl _ _ _) ⟨by omega, by simp; exact set_same (by simp [hlt, Ex.d_eq]), by simp, by simp [e10], by simp [e1], by simp [e2]⟩ (by omega)
    · simp at hge
      simp [e1, e2]
/-- The box of the zero expression. -/
abbrev nilB : Blk := ⟨0, true, 42, 5, [[aI .i64 0, aI .u32 0, aI .i64 0, aI .i64 0, .d (.v (.slice none 0 0))]]⟩
/-- The expression's box, its operands written no more: data. -/
theorem sub_box (o n v w : Int) (M : List Ex) (e : AEnv) :
    Sub 0 e [⟨0, true, 42, 5, [[aI .i64 o, aI .u32 n, aI .i64 v, aI .i64 w, .own 2 1 0 M.length]]⟩, nilB, ⟨1, true, 42, 5, dEls (Ex.ds M)⟩] (fun i => cln 2 (e i)) [exB (.mk o n v w M), nilB] := by
  have g1 := Sub.frz (n := 0) [2] (e := e) (A := [⟨0, true, 42, 5, [[aI .i64 o, aI .u32 n, aI .i64 v, aI .i64 w, .own 2 1 0 M.length]]⟩, nilB, ⟨1, true, 42, 5, dEls (Ex.ds M)⟩])
  have hv : reiV true [⟨0, true, 42, 5, [[aI .i64 o, aI .u32 n, aI .i64 v, aI .i64 w, .own 2 1 0 M.length]]⟩, nilB, ⟨1, false, 42, 5, dEls (Ex.ds M)⟩] 9 (.own 2 1 0 M.length) = some (.d (.sl 5 (Ex.ds M))) := by simp
  have g2 := Sub.cell (n := 0) (e := e) (A := [⟨0, true, 42, 5, [[aI .i64 o, aI .u32 n, aI .i64 v, aI .i64 w, .own 2 1 0 M.length]]⟩, nilB, ⟨1, false, 42, 5, dEls (Ex.ds M)⟩]) (b := 0) (i := 0) (o := 4) rfl rfl rfl (VLe.rei hv)
  have g3 := Sub.take (n := 0) 2 (by omega) (e := e) (A := [exB (.mk o n v w M), nilB, ⟨1, false, 42, 5, dEls (Ex.ds M)⟩])
  simp at g3
  exact (g1.trans g2).trans g3
theorem first_step (e : Ex) (i n : Nat) : firstS e i (n + 1) = match applyS i e with
    | some x => some (i, x)
    | none => firstS e (i + 1) n := rfl
theorem rewritten_af : ∀ (k : Nat) (x : Ex), formB x = true → x.wt ≤ k → x.nodes ≤ 1000000 → AF Tryz.prog 28 [exA x] (.tup [exA (rwF k x).1, aB (rwF k x).2]) := by
  intro k
  induction k with
  | zero => intro e _ h; have := wt_pos e; omega
  | succ k ih =>
    intro x hf hw hn
    have hlen := x.nodes_len
    have n1 : x.l.length ≤ maxLen := by unfold maxLen; omega
    have hch : ∀ y ∈ x.l, formB y = true ∧ y.wt ≤ k ∧ y.nodes ≤ 1000000 := fun y hy => ⟨(form_all hf).2 y hy, by have := wt_mem hy; omega, by have := Ex.nodes_mem hy; omega⟩
    refine af_of Tryz.func28 rfl (by kernel_rfl) (by simp [Tryz.ntmps28]) fun _ => ?_
    simp [Tryz.f28]
    refine aCall_ofc (clone_ac _ (Ex.ds x.l) (by simp; omega)) (by simp) ?_
    rintro _ _ ⟨rfl, rfl⟩
    simp
    refine aLoop_of (α := Nat) (fun i e A => i ≤ x.l.length ∧ (∃ L : List Ex, A = [⟨0, true, 42, 5, [[aI .i64 x.op, aI .u32 x.n, aI .i64 x.v, aI .i64 x.wd, .own 2 1 0 x.l.length]]⟩, ⟨0, true, 42, 5, [[aI .i64 0, aI .u32 0, aI .i64 0, aI .i64 0, .d (.v (.slice none 0 0))]]⟩, ⟨1, true, 42, 5, dEls (Ex.ds L)⟩] ∧ L.length = x.l.length ∧
        ∀ j : Nat, L[j]? = if j < i then (x.l[j]?).map (fun y => (rwF k y).1) else x.l[j]?) ∧
      e 20 = aI .i64 i ∧ e 19 = aI .i64 x.l.length ∧ e 1 = .ptr 0 0 0 0 ∧ e 2 = .ptr 1 0 0 0 ∧ e 4 = aB ((x.l.take i).any fun y => (rwF k y).2)) (fun i => x.l.length - i) 0 (Sub.refl _ _ _)
      ⟨by omega, ⟨x.l, by simp, rfl, by simp⟩, by simp, by simp, by simp, by simp, by simp⟩ ?_
    rintro i e A ⟨hi, ⟨L, rfl, hL, hLj⟩, e20, e19, e1, e2, e4⟩ K hK
    rcases Nat.lt_or_ge i x.l.length with hlt | hge
    case inl =>
      obtain ⟨y, hy⟩ : ∃ y, x.l[i]? = some y := ⟨_, List.getElem?_eq_getElem hlt⟩
      have hLi : L[i]? = some y := by rw [hLj, if_neg (by omega), hy]
      have hLi2 := (List.getElem?_eq_some_iff.1 hLi).2
      have hlt' : i < L.length := by omega
      obtain ⟨y1, y2, y3⟩ := hch y (List.mem_of_getElem? hy)
      simp [e20, e19, e1, hlt, hlt', hL, hLi, hLi2, Ex.d_eq]
      refine aCall_of (ih y y1 y2 y3) (by simp) (by simp) ?_
      have hL' : ∀ (z : Ex), (dEls (Ex.ds L)).set i [aI .i64 z.op, aI .u32 z.n, aI .i64 z.v, aI .i64 z.wd, .d (.sl 5 (Ex.ds z.l))] = dEls (Ex.ds (L.set i z)) := fun z => by
        rw [show [aI .i64 z.op, aI .u32 z.n, aI .i64 z.v, aI .i64 z.wd, .d (.sl 5 (Ex.ds z.l))] = (Ex.d z).map AV.d by simp [Ex.d_eq], dEls_set]
        simp [Ex.ds_map, List.map_set]
      have hset : ∀ j : Nat, (L.set i (rwF k y).1)[j]? = if j < i + 1 then (x.l[j]?).map (fun y => (rwF k y).1) else x.l[j]? := fun j => by
        rw [List.getElem?_set]
        by_cases hij : i = j
        · subst hij
          simp [hlt', hy]
        · rw [if_neg hij, hLj]
          by_cases hj : j < i
          · rw [if_pos hj, if_pos (by omega)]
          · rw [if_neg hj, if_neg (by omega)]
      have hany : (x.l.take (i + 1)).any (fun y => (rwF k y).2) = ((x.l.take i).any (fun y => (rwF k y).2) || (rwF k y).2) := by
        rw [List.take_add_one, hy, List.any_append]
        simp
      simp [e1, e4, hlt, hlt', hL, hLi2, Ex.d_eq, hL']
      cases hC : (x.l.take i).any fun y => (rwF k y).2
      · simp [e20, succ_wrap hlt n1]
        refine hK (i + 1) _ _ _ _ (Sub.take 3 (Nat.zero_le _)) ⟨by omega, ⟨L.set i (rwF k y).1, by simp, by simpa using hL, hset⟩, by simp, by simp [e19], by simp [e1], by simp [e2], by simp [hany, hC]⟩ (by omega)
      · simp [e20, succ_wrap hlt n1]
        refine hK (i + 1) _ _ _ _ (Sub.take 3 (Nat.zero_le _)) ⟨by omega, ⟨L.set i (rwF k y).1, by simp, by simpa using hL, hset⟩, by simp, by simp [e19], by simp [e1], by simp [e2], by simp [hany, hC]⟩ (by omega)
    obtain rfl : i = x.l.length := by omega
    obtain rfl : L = x.l.map fun y => (rwF k y).1 := by
      refine List.ext_getElem? fun j => ?_
      rw [hLj, List.getElem?_map]
      by_cases hj : j < x.l.length
      · rw [if_pos hj]
      · rw [if_neg hj, List.getElem?_eq_none (by omega)]
        rfl
    rw [List.take_length] at e4
    have hok := rw_ok (k + 1) x hf hw
    obtain ⟨M, hM⟩ : ∃ M, x.l.map (fun y => (rwF k y).1) = M := ⟨_, rfl⟩
    have hMf : formB (.mk x.op x.n x.v x.wd M) = true := by
      rw [← hM]
      exact form_map (f := fun y => (rwF k y).1) hf fun y hy => (rw_ok k y (hch y hy).1 (hch y hy).2.1).form
    have hmeas := map_meas (f := fun y => (rwF k y).1) x.l fun y hy => by
      have := rw_ok k y (hch y hy).1 (hch y hy).2.1
      exact ⟨this.wt, this.nodes, this.depth⟩
    have hMw : (Ex.mk x.op x.n x.v x.wd M).wt ≤ k + 1 := by rw [wt_mk, ← hM]; rw [wt_eq x] at hw; omega
    have hMn : (Ex.mk x.op x.n x.v x.wd M).nodes ≤ 1000000 := by rw [nodes_eq, ← hM]; rw [nodes_eq x] at hn; simp only [Ex.l_mk]; omega
    have hMl : x.l.length = M.length := by rw [← hM]; simp
    obtain ⟨X, hX⟩ : ∃ X, Ex.mk x.op x.n x.v x.wd M = X := ⟨_, rfl⟩
    have hR : rwF (k + 1) x = match firstS X 0 10 with
        | some (_, y) => ((rwF k y).1, true)
        | none => (X, x.l.any fun y => (rwF k y).2) := by
      rw [← hX, ← hM]
      rfl
    obtain ⟨F, hF0⟩ : ∃ F, firstS X 0 10 = F := ⟨_, rfl⟩
    rw [hR, hF0]
    simp [e20, e19]
    rw [hM, hMl]
    refine aLoop_of (α := Nat) (fun i e A => i ≤ 10 ∧ A = [exB X, ⟨0, true, 42, 5, [[aI .i64 0, aI .u32 0, aI .i64 0, aI .i64 0, .d (.v (.slice none 0 0))]]⟩] ∧
      e 42 = aI .i64 i ∧ e 1 = .ptr 0 0 0 0 ∧ e 2 = .ptr 1 0 0 0 ∧ e 4 = aB (x.l.any fun y => (rwF k y).2) ∧ firstS X i (10 - i) = F) (fun i => 10 - i) 0 (sub_box _ _ _ _ M _)
      ⟨by omega, by rw [hX], by simp, by simp [e1], by simp [e2], by simp [e4], hF0⟩ ?_
    rintro i e A ⟨hi, rfl, e42, e1, e2, e4, hF⟩ K hK
    rcases Nat.lt_or_ge i 10 with hlt | hge
    case inr =>
      obtain rfl : i = 10 := by omega
      rw [show firstS X 10 (10 - 10) = none from rfl] at hF
      subst hF
      simp [e42, e1, e2, e4]
    obtain ⟨m, hm⟩ : ∃ m, 10 - i = m + 1 := ⟨10 - i - 1, by omega⟩
    rw [hm, first_step] at hF
    rw [hX] at hMf hMn hMw
    simp [e42, e1, e2, e4, show (i : Int) < 10 by omega]
    refine aCall_of (apply_af i (by omega) X hMf (by omega)) (by simp) (by simp) ?_
    simp
    cases hap : applyS i X with
    | none =>
      rw [hap] at hF
      simp [e42, i64w (n := (i : Int) + 1) (by omega)]
      exact hK (i + 1) _ _ _ _ (Sub.take 2 (Nat.zero_le _)) ⟨by omega, by simp, by simp, by simp [e1], by simp [e2], by simp [e4], by rw [show 10 - (i + 1) = m by omega]; exact hF⟩ (by omega)
    | some y =>
      rw [hap] at hF
      subst hF
      have hl := apply_less hMf i hlt hap
      simp [e1, e2]
      refine aCall_of (ih y hl.form (by have := hl.wt; omega) (by have := hl.nodes; omega)) (by simp) (by simp) ?_
      simp [e2]
end Go.Proofs.YtlfkighdmheniaaGreatDoor

/- Contracts: idiom's Expr, Match, Names. -/
namespace Go.Proofs.YtlfkighdmheniaaGreatDoor
open Go.RowKit
def checkB (e : Ex) : Bool := shalB 64 e && formB e
/-- What idiom.Expr answers. -/
def exprS (e : Ex) : Ex × Bool := if checkB e = true then rwF e.wt e else (e, false)
theorem check28_af (e : Ex) : AF Tryz.prog 26 [exA e] (aI .i64 (if checkB e = true then 0 else if shalB 64 e = true then 2 else 20)) := by
  have h := check_af e
  unfold checkB
  cases h1 : shalB 64 e <;> cases h2 : formB e <;> simpa [h1, h2] using h
theorem expr_af (e : Ex) (hn : e.nodes ≤ 1000000) : AF Tryz.prog 11 [exA e] (.tup [exA (exprS e).1, aB (exprS e).2]) := by
  refine af_of Tryz.func11 rfl (by kernel_rfl) (by simp [Tryz.ntmps11]) fun _ => ?_
  simp [Tryz.f11]
  refine aCall_of (check28_af e) (by simp) (by simp) ?_; simp
  unfold exprS
  cases hc : checkB e
  · by_cases h1 : shalB 64 e = true
    · simp [h1]
      refine aCall_of (own28_af e (by omega)) (by simp) (by simp) ?_; simp
    · simp [h1]
      refine aCall_of (own28_af e (by omega)) (by simp) (by simp) ?_; simp
  · simp
    have hf : formB e = true := by simp only [checkB, Bool.and_eq_true] at hc; exact hc.2
    refine aCall_of (rewritten_af e.wt e hf (Nat.le_refl _) hn) (by simp) (by simp) ?_; simp
    have := (rw_ok e.wt e hf (Nat.le_refl _)).nodes
    refine aCall_of (own28_af (rwF e.wt e).1 (by omega)) (by simp) (by simp) ?_; simp
/-- The names of the table. -/
def nmL : List ByteArray := [⟨#[109, 117, 108, 45, 97, 100, 100]⟩, ⟨#[109, 117, 108, 45, 115, 117, 98]⟩, ⟨#[110, 101, 103, 97, 116, 105, 111, 110]⟩, ⟨#[99, 111, 109, 112, 108, 101, 109, 101, 110, 116]⟩, ⟨#[115, 105, 103, 110, 45, 101, 120, 116, 101, 110, 100]⟩, ⟨#[122, 101, 114, 111, 45, 101, 120, 116, 101, 110, 100]⟩, ⟨#[110, 111, 116, 45, 122, 101, 114, 111]⟩, ⟨#[114, 101, 109, 97, 105, 110, 100, 101, 114]⟩, ⟨#[115, 105, 103, 110]⟩, ⟨#[109, 117, 108, 45, 115, 104, 105, 102, 116]⟩, ⟨#[97, 98, 115, 111, 108, 117, 116, 101]⟩, ⟨#[109, 105, 110, 105, 109, 117, 109]⟩, ⟨#[109, 97, 120, 105, 109, 117, 109]⟩]
def nm (i : Nat) : ByteArray := nmL.getD i ⟨#[]⟩
def namesB : ByteArray := ⟨#[109, 117, 108, 45, 97, 100, 100, 32, 109, 117, 108, 45, 115, 117, 98, 32, 110, 101, 103, 97, 116, 105, 111, 110, 32, 99, 111, 109, 112, 108, 101, 109, 101, 110, 116, 32, 115, 105, 103, 110, 45, 101, 120, 116, 101, 110, 100, 32, 122, 101, 114, 111, 45, 101, 120, 116, 101, 110, 100, 32, 110, 111, 116, 45, 122, 101, 114, 111, 32, 114, 101, 109, 97, 105, 110, 100, 101, 114, 32, 115, 105, 103, 110, 32, 109, 117, 108, 45, 115, 104, 105, 102, 116, 32, 97, 98, 115, 111, 108, 117, 116, 101, 32, 109, 105, 110, 105, 109, 117, 109, 32, 109, 97, 120, 105, 109, 117, 109]⟩
theorem gb_space : ((0, Lib.asciiSpaceTab.map fun z => Value.int .u8 z) : Nat × List Value) ∈ GB := by simp [GB]
theorem fields_af (s : ByteArray) (hs : s.size < 4294967281) (hascii : ∀ (j : Nat) b, s.data.toList[j]? = some b → b.toNat < 128) (hl : (Lib.fields s.data.toList).length ≤ 1000) :
    AF Tryz.prog 33 [aS s] (.d (.sl 1 (strs ((Lib.fields s.data.toList).map fun l => ⟨l.toArray⟩)))) := by
  intro H w vs hH hs' _
  simp only [ShpL] at hs'
  obtain ⟨u1, l1, rfl, s1, rfl⟩ := hs'
  simp only [Shp] at s1
  subst s1
  have hT : ∀ c : Nat, c < 256 → w.cell? ⟨0, c, none⟩ = some (.int .u8 (if Lib.isSp (UInt8.ofNat c) then 1 else 0)) := fun c hc =>
    (hH.2.1 _ gb_space).2 c _ (by simp [Lib.asciiSpaceTab, hc])
  refine (Any.strings_Fields_core Sh_lays157 (by kernel_rfl) s w hs hascii hT).mono ?_
  rintro en w' ⟨rfl, rfl⟩
  obtain ⟨F, hF⟩ : ∃ F, Lib.fields s.data.toList = F := ⟨_, rfl⟩
  rw [hF] at hl ⊢
  have hlen : (strs (F.map fun l => (⟨l.toArray⟩ : ByteArray))).length = F.length := by simp [strs]
  refine ⟨_, rfl, ⟨?_, ?_⟩, (Ext.refl w).alloc _⟩
  · simp only [Shp, hlen]
    exact ⟨_, _, rfl, Nat.le_refl _, .inr ⟨_, _, rfl⟩⟩
  · simp only [Mem, Rd, hlen]
    refine ⟨_, _, rfl, Nat.le_refl _, by unfold maxLen; omega, .inr ⟨_, _, rfl, ⟨by rw [size_push]; omega, fun h => by have := hH.1 _ h; omega⟩, RdS.of fun i x hi => ?_⟩⟩
    simp only [strs, List.map_map, List.getElem?_map, Option.map_eq_some_iff, Function.comp] at hi
    obtain ⟨l, hl', rfl⟩ := hi
    refine ⟨rfl, ?_⟩
    simp only [RdE, Rd, and_true, Nat.zero_add, Nat.mul_one]
    exact ⟨_, by rw [cell_in (heap_push w _)]; simp [hl'], rfl, rfl⟩
theorem names_af : AF Tryz.prog 19 [] (.d (.sl 1 (strs nmL))) := by
  refine af_of Tryz.func19 rfl (by kernel_rfl) (by simp [Tryz.ntmps19]) fun _ => ?_
  simp [Tryz.f19]
  refine aCall_of (fields_af namesB (by decide +kernel) (fun j b h => by
    have : (namesB.data.toList.all fun b => decide (b.toNat < 128)) = true := by decide +kernel
    simpa using List.all_eq_true.1 this b (List.mem_of_getElem? h)) (by decide +kernel)) (by simp) (by simp [namesB]) ?_
  rw [show (Lib.fields namesB.data.toList).map (fun l => (⟨l.toArray⟩ : ByteArray)) = nmL by decide +kernel]
  simp
/-- What idiom.Match answers. -/
def matchA (e : Ex) : AV := match (if checkB e = true then firstS e 0 13 else none) with
  | some (i, _) => .tup [aS (nm i), aB true]
  | none => .tup [aS ⟨#[]⟩, aB false]
theorem match_af (e : Ex) (hn : e.nodes ≤ 1000000) : AF Tryz.prog 15 [exA e] (matchA e) := by
  refine af_of Tryz.func15 rfl (by kernel_rfl) (by simp [Tryz.ntmps15]) fun _ => ?_
  simp [Tryz.f15]
  refine aCall_of (check28_af e) (by simp) (by simp) ?_; simp
  unfold matchA
  cases hc : checkB e
  · by_cases h1 : shalB 64 e = true <;> simp [h1]
  have hf : formB e = true := by simp only [checkB, Bool.and_eq_true] at hc; exact hc.2
  simp
  obtain ⟨F, hF0⟩ : ∃ F, firstS e 0 13 = F := ⟨_, rfl⟩
  rw [hF0]
  refine aLoop_of (α := Nat) (fun i s A => i ≤ 13 ∧ A = [exB e] ∧ s 11 = aI .i64 i ∧ s 1 = .ptr 0 0 0 0 ∧ s 4 = aI .i64 (-1) ∧ firstS e i (13 - i) = F) (fun i => 13 - i) 0 (Sub.refl _ _ _)
    ⟨by omega, by simp, by simp, by simp, by simp, hF0⟩ ?_
  rintro i s A ⟨hi, rfl, s11, s1, s4, hF⟩ K hK
  rcases Nat.lt_or_ge i 13 with hlt | hge
  case inr =>
    obtain rfl : i = 13 := by omega
    rw [show firstS e 13 (13 - 13) = none from rfl] at hF
    subst hF
    simp [s11, s1, s4]
  obtain ⟨m, hm⟩ : ∃ m, 13 - i = m + 1 := ⟨13 - i - 1, by omega⟩
  rw [hm, first_step] at hF
  simp [s11, s1, s4, show (i : Int) < 13 by omega]
  refine aCall_of (apply_af i hlt e hf (by omega)) (by simp) (by simp) ?_; simp
  cases hap : applyS i e with
  | none =>
    rw [hap] at hF
    simp [s11, i64w (n := (i : Int) + 1) (by omega)]
    exact hK (i + 1) _ _ _ _ (Sub.take 1 (Nat.zero_le _)) ⟨by omega, by simp, by simp, by simp [s1], by simp [s4], by rw [show 13 - (i + 1) = m by omega]; exact hF⟩ (by omega)
  | some y =>
    rw [hap] at hF
    subst hF
    have hnm : nmL[i]? = some (nm i) := by
      unfold nm
      rw [List.getD_eq_getElem?_getD, List.getElem?_eq_getElem (show i < nmL.length from hlt)]
      rfl
    have hnm2 := (List.getElem?_eq_some_iff.1 hnm).2
    simp [show ¬ (i : Int) < 0 by omega]
    refine aCall_of names_af (by simp) (by simp) ?_; simp [strs, hnm, hnm2, show i < nmL.length from hlt]
end Go.Proofs.YtlfkighdmheniaaGreatDoor
