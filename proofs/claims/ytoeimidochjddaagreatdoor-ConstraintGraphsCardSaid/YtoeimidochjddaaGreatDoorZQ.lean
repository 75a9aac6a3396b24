/- Texts that the claim leans on, laid one behind the other: Na, Qa, Qb, Qc, Hb, Hc, Qd, Qf. -/
import Derived.Test.YtoeimidochjddaaGreatDoorZG
import Derived.Test.YtoeimidochjddaaGreatDoorZK
import Derived.Lib.ItoaNum
import Derived.Test.YtoeimidochjddaaGreatDoorZP
import Derived.Test.YtoeimidochjddaaGreatDoorZD
import Derived.Test.YtoeimidochjddaaGreatDoorAm
import Derived.Test.YtoeimidochjddaaGreatDoorAp
import Derived.Test.YtoeimidochjddaaGreatDoorAn
import Derived.Test.YtoeimidochjddaaGreatDoorZM
set_option linter.unusedSimpArgs false
set_option linter.unusedVariables false
set_option linter.unnecessarySimpa false
/- The simplification as plain functions on expression trees; it ends, and what it answers is no greater and stays. No program in sight. -/
namespace Go.Proofs.YtoeimidochjddaaGreatDoor
open Go.RowKit
/-! ### it ends -/
def lcW : List Ex → Nat
  | [a, b] => if a.op = 1 ∧ b.op ≠ 1 then 1 else 0
  | _ => 0
/-- The weight of an expression, for the rules. -/
def sw : Ex → Nat
  | .mk o _ _ _ l => 4 + (if o = 4 ∨ o = 16 then 1 else 0) + lcW l + sws l
where sws : List Ex → Nat
  | [] => 0
  | e :: l => sw e + sws l
theorem sw_one (op w : Int) (a : Ex) : sw (.mk op 0 0 w [a]) = 4 + (if op = 4 ∨ op = 16 then 1 else 0) + sw a := by
  simp only [sw, lcW, sw.sws]; omega
/-- A replacement: well-formed, lighter, no greater. -/
structure SLess (x e : Ex) : Prop where
  form : formB x = true
  sw : sw x < sw e
  nodes : x.nodes ≤ e.nodes
  depth : x.depth ≤ e.depth
theorem nodes_one' (op w : Int) (a : Ex) : (Ex.mk op 0 0 w [a]).nodes = a.nodes + 1 := by simp [Ex.nodes, Ex.nodess]
theorem depth_one' (op w : Int) (a : Ex) : (Ex.mk op 0 0 w [a]).depth = a.depth + 1 := by simp [Ex.depth, Ex.depths]
/-- An operator with one operand. -/
theorem form_one3 {e : Ex} (h : formB e = true) (h3 : 16 ≤ e.op) : e = .mk e.op 0 0 e.wd [e.x] ∧ formB e.x = true ∧ sw e = 4 + (if e.op = 4 ∨ e.op = 16 then 1 else 0) + sw e.x ∧ e.nodes = e.x.nodes + 1 ∧ e.depth = e.x.depth + 1 := by
  have hop := form_op h
  have hone : ∃ a, e = .mk e.op 0 0 e.wd [a] ∧ formB a = true := by
    rcases (show e.op = 16 ∨ e.op = 17 ∨ e.op = 18 ∨ e.op = 19 by omega) with ho | ho | ho | ho
    · obtain ⟨a, he, ha⟩ := form_one h (.inl ho)
      exact ⟨a, by conv => lhs; rw [he]
                   rw [he]; rfl, ha⟩
    · obtain ⟨a, he, ha⟩ := form_one h (.inr ho)
      exact ⟨a, by conv => lhs; rw [he]
                   rw [he]; rfl, ha⟩
    · obtain ⟨a, he, ha, _⟩ := form_wide h (.inl ho); exact ⟨a, he, ha⟩
    · obtain ⟨a, he, ha, _⟩ := form_wide h (.inr ho); exact ⟨a, he, ha⟩
  obtain ⟨a, he, ha⟩ := hone
  have hx : e.x = a := by rw [he]; rfl
  rw [hx]
  refine ⟨he, ha, ?_, ?_, ?_⟩
  · have := congrArg sw he
    rwa [sw_one] at this
  · have := congrArg Ex.nodes he
    rwa [nodes_one'] at this
  · have := congrArg Ex.depth he
    rwa [depth_one'] at this
end Go.Proofs.YtoeimidochjddaaGreatDoor

/- The texts of expressions, as lists of bytes: which expressions have the same. No program in sight. -/
namespace Go.Proofs.YtoeimidochjddaaGreatDoor
open Go.RowKit
/-- A number that an int holds. -/
def I64 (n : Int) : Prop := -9223372036854775808 ≤ n ∧ n ≤ 9223372036854775807
/-- A digit of base 16. -/
def hexD (d : Nat) : UInt8 := if d < 10 then UInt8.ofNat (48 + d) else UInt8.ofNat (87 + d)
/-- A number's digits of base 16. -/
def hexL (u : Nat) : List UInt8 := if h : u < 16 then [hexD u] else hexL (u / 16) ++ [hexD (u % 16)]
termination_by u
decreasing_by omega
theorem hexL_lt {u : Nat} (h : u < 16) : hexL u = [hexD u] := by rw [hexL, dif_pos h]
theorem hexL_ge {u : Nat} (h : ¬ u < 16) : hexL u = hexL (u / 16) ++ [hexD (u % 16)] := by rw [hexL, dif_neg h]
theorem dec_lt {u : Nat} (h : u < 10) : Lib.decDigits u = [UInt8.ofNat (48 + u)] := by rw [Lib.decDigits, dif_pos h]
theorem dec_ge {u : Nat} (h : ¬ u < 10) : Lib.decDigits u = Lib.decDigits (u / 10) ++ [UInt8.ofNat (48 + u % 10)] := by rw [Lib.decDigits, dif_neg h]
/-- A number as a text. -/
def xInt (n : Int) : List UInt8 := Lib.itoa n
def xNum (n : Int) : List UInt8 := if n ≤ 9 then xInt n else 48 :: 120 :: hexL n.toNat
def flagC (v : Int) : UInt8 := if v = 8 then 122 else if v = 9 then 110 else if v = 10 then 99 else 118
def xVar (v : Int) : List UInt8 := if v < 8 then 114 :: xInt v else if v < 12 then [102, flagC v] else 116 :: xInt v
def xSym (op : Int) : List UInt8 :=
  if op = 3 then [43] else if op = 4 then [45] else if op = 5 then [42] else if op = 6 then [38] else if op = 7 then [124] else if op = 8 then [94] else if op = 9 then [60, 60]
  else if op = 10 then [62, 62] else if op = 11 then [62, 62, 115] else if op = 12 then [61, 61] else if op = 13 then [33, 61] else if op = 14 then [60, 115] else [60]
/-- The text of an expression. -/
def xEx : Ex → List UInt8
  | .mk op n v _ [] => if op = 1 then xNum n else xVar v
  | .mk op _ _ w [a] => if op = 16 then 33 :: xEx a else if op = 17 then 45 :: xEx a else if op = 18 then [108, 111, 97, 100] ++ xInt w ++ [40] ++ xEx a ++ [41]
    else [115, 101, 120, 116] ++ xInt w ++ [40] ++ xEx a ++ [41]
  | .mk op _ _ _ [a, b] => [40] ++ xEx a ++ [32] ++ xSym op ++ [32] ++ xEx b ++ [41]
  | _ => []
theorem xEx_con (n : Int) : xEx (eCon n) = xNum n := rfl
theorem xEx_var (v : Int) : xEx (eVar v) = xVar v := rfl
theorem xEx_one (op w : Int) (a : Ex) : xEx (.mk op 0 0 w [a]) = if op = 16 then 33 :: xEx a else if op = 17 then 45 :: xEx a else if op = 18 then [108, 111, 97, 100] ++ xInt w ++ [40] ++ xEx a ++ [41]
    else [115, 101, 120, 116] ++ xInt w ++ [40] ++ xEx a ++ [41] := rfl
theorem xEx_two (op : Int) (a b : Ex) : xEx (eTwo op a b) = [40] ++ xEx a ++ [32] ++ xSym op ++ [32] ++ xEx b ++ [41] := rfl
/-! ### digits -/
theorem xInt_nat {n : Int} (h : 0 ≤ n) : xInt n = Lib.decDigits n.toNat := by
  unfold xInt Lib.itoa
  rw [if_neg (by omega)]
/-! ### the texts tell the expressions apart -/
/-! ### lengths -/
theorem dec_len (u : Nat) (h : u < 18446744073709551616) : (Lib.decDigits u).length ≤ 20 := by
  have : ∀ k u : Nat, u < 10 ^ (k + 1) → (Lib.decDigits u).length ≤ k + 1 := by
    intro k
    induction k with
    | zero => intro u hu; rw [dec_lt (by simpa using hu)]; simp
    | succ k ih =>
      intro u hu
      by_cases h : u < 10
      · rw [dec_lt h]; simp
      · rw [dec_ge h]
        have := ih (u / 10) (by rw [Nat.div_lt_iff_lt_mul (by omega)]; rw [Nat.pow_succ] at hu; exact hu)
        simp
        omega
  exact this 19 u (by omega)
theorem xInt_len (n : Int) (h : -9223372036854775808 ≤ n ∧ n ≤ 9223372036854775807) : (xInt n).length ≤ 21 := by
  unfold xInt Lib.itoa
  split
  · have := dec_len n.natAbs (by omega)
    simp
    omega
  · have := dec_len n.toNat (by omega)
    omega
theorem hexL_len (u : Nat) (h : u < 4294967296) : (hexL u).length ≤ 8 := by
  have : ∀ k u : Nat, u < 16 ^ (k + 1) → (hexL u).length ≤ k + 1 := by
    intro k
    induction k with
    | zero => intro u hu; rw [hexL_lt (by simpa using hu)]; simp
    | succ k ih =>
      intro u hu
      by_cases h : u < 16
      · rw [hexL_lt h]; simp
      · rw [hexL_ge h]
        have := ih (u / 16) (by rw [Nat.div_lt_iff_lt_mul (by omega)]; rw [Nat.pow_succ] at hu; exact hu)
        simp
        omega
  exact this 7 u (by omega)
theorem xNum_len (n : Int) (h : R32 n) : (xNum n).length ≤ 21 := by
  have h1 := h.1
  have h2 := h.2
  unfold xNum
  split
  · exact xInt_len n (by omega)
  · have := hexL_len n.toNat (by omega)
    simp
    omega
theorem xVar_len (v : Int) (h : -9223372036854775808 ≤ v ∧ v ≤ 9223372036854775807) : (xVar v).length ≤ 22 := by
  have := xInt_len v h
  unfold xVar
  split
  · simp; omega
  split <;> simp
  omega
theorem xSym_len (op : Int) : (xSym op).length ≤ 3 := by
  unfold xSym
  repeat' split
  all_goals simp
theorem xEx_len : ∀ e : Ex, formB e = true → OkN e → (xEx e).length ≤ 30 * e.nodes := by
  intro e
  induction e using Ex.ind with
  | h e ih =>
  intro hf hn
  have hop := form_op hf
  have hp := e.nodes_pos
  by_cases h1 : e.op = 1
  · have : xEx e = xNum e.n := by conv => lhs; rw [form_con hf h1, xEx_con]
    rw [this]
    have := xNum_len e.n hn.n
    omega
  by_cases h2 : e.op = 2
  · obtain ⟨h3, h4, h5⟩ := form_var hf h2
    have h6 := xVar_len e.v (by omega)
    have : xEx e = xVar e.v := by conv => lhs; rw [h3, xEx_var]
    rw [this]
    omega
  by_cases h15 : e.op ≤ 15
  · obtain ⟨he, hx, hy⟩ := two_parts hf (by omega) h15
    have la : e.l = [e.x, e.y] := by have := congrArg Ex.l he; simpa using this
    have a1 := ih e.x (by rw [la]; simp) hx (hn.l _ (by rw [la]; simp))
    have a2 := ih e.y (by rw [la]; simp) hy (hn.l _ (by rw [la]; simp))
    have a3 := xSym_len e.op
    have e1 : xEx e = [40] ++ xEx e.x ++ [32] ++ xSym e.op ++ [32] ++ xEx e.y ++ [41] := by conv => lhs; rw [he, xEx_two]
    have e2 : e.nodes = e.x.nodes + e.y.nodes + 1 := by conv => lhs; rw [he, nodes_two]
    rw [e1, e2]
    simp
    omega
  · obtain ⟨he, hx, _, e2, _⟩ := form_one3 hf (by omega)
    have la : e.l = [e.x] := by have := congrArg Ex.l he; simpa using this
    have a1 := ih e.x (by rw [la]; simp) hx (hn.l _ (by rw [la]; simp))
    have e1 : xEx e = xEx (.mk e.op 0 0 e.wd [e.x]) := by conv => lhs; rw [he]
    have hw : e.op = 18 ∨ e.op = 19 → (xInt e.wd).length ≤ 21 := fun h => by
      obtain ⟨_, _, _, hw⟩ := form_wide hf h
      exact xInt_len e.wd (by omega)
    rw [e1, e2, xEx_one]
    split
    · simp; omega
    split
    · simp; omega
    split
    · rename_i k
      have := hw (.inl k)
      simp; omega
    · have := hw (.inr (by omega))
      simp; omega
end Go.Proofs.YtoeimidochjddaaGreatDoor

/- Contracts: il's numbers, names and texts. -/
namespace Go.Proofs.YtoeimidochjddaaGreatDoor
open Go.RowKit
/-- Bytes as a string. -/
abbrev bs (l : List UInt8) : ByteArray := ⟨l.toArray⟩
theorem tab_pow {w : World} (h : GbIs w) : Lib.TabIs Tryz.prog w "internal/strconv.uint64pow10" .u64 Lib.pow10Tab := by
  obtain ⟨t, f, he⟩ := (h (2, Lib.pow10Tab.map fun z => Value.int .u64 z) (by simp [GB])).2.2
  have hg : Tryz.prog.globalNamed "internal/strconv.uint64pow10" = some 2 := by kernel_rfl
  unfold Lib.TabIs World.var?
  rw [hg]
  simp only [Option.bind_some, he]
theorem ext_grow (w : World) (k : Nat) (os : Array Obj) : Ext w (Go.Sort.grow (w.drewN k) os) := by
  refine ⟨rfl, rfl, rfl, ?_, fun i hi => ?_⟩
  · show w.heap.size ≤ (w.heap ++ os).size
    simp
  · show (w.heap ++ os)[i]? = w.heap[i]?
    exact Array.getElem?_append_left hi
theorem itoaW_af (n : Int) (h : -9223372036854775808 ≤ n ∧ n ≤ 9223372036854775807) : AF Tryz.prog 51 [aI .i64 n] (aS (bs (xInt n))) := by
  show AF Tryz.prog 51 [aI .i64 n] (aS ⟨(Lib.itoa n).toArray⟩)
  intro H w vs hH hs hm
  simp only [ShpL] at hs
  obtain ⟨u1, l1, rfl, s1, rfl⟩ := hs
  simp only [Shp] at s1
  subst s1
  refine (Sh_strconv_Itoa n h.1 h.2 w (tab_pow hH.2.1)).mono ?_
  rintro en w' ⟨rfl, k, os, rfl⟩
  exact ⟨_, rfl, ⟨by simp [Shp], by simp [Mem, Rd, Value.oneCell']⟩, ext_grow w k os⟩
end Go.Proofs.YtoeimidochjddaaGreatDoor

/- Contract: strconv.FormatUint in base 16. -/
namespace Go.Proofs.YtoeimidochjddaaGreatDoor
open Go.RowKit
/-- Bytes, as a slice's elements. -/
def b8s (l : List Int) : List (List AV) := l.map fun n => [aI .u8 n]
@[simp] theorem b8s_len (l : List Int) : (b8s l).length = l.length := by simp [b8s]
theorem b8s_set (l : List Int) (i : Nat) (n : Int) : (b8s l).set i [aI .u8 n] = b8s (l.set i n) := by simp [b8s, List.map_set]
abbrev digs : ByteArray := ⟨#[48, 49, 50, 51, 52, 53, 54, 55, 56, 57, 97, 98, 99, 100, 101, 102, 103, 104, 105, 106, 107, 108, 109, 110, 111, 112, 113, 114, 115, 116, 117, 118, 119, 120, 121, 122]⟩
theorem digs_at : ∀ d : Fin 16, digs[d.val]? = some (hexD d.val) := by decide +kernel
theorem digs_get {d : Nat} (h : d < 16) : digs[d]? = some (hexD d) := digs_at ⟨d, h⟩
theorem and15 {m : Nat} (h : m < 18446744073709551616) : andI .u64 (m : Int) 15 = ((m % 16 : Nat) : Int) := by
  have e1 : BitVec.ofInt 64 (m : Int) = BitVec.ofNat 64 m := by simp
  have e2 : BitVec.ofInt 64 15 = BitVec.ofNat 64 15 := by simp
  have h2 : m &&& 15 = m % 16 := Nat.and_two_pow_sub_one_eq_mod m 4
  unfold andI
  rw [show IntKind.u64.bits = 64 from rfl, e1, e2]
  simp only [BitVec.toNat_and, BitVec.toNat_ofNat]
  rw [Nat.mod_eq_of_lt (show m < 2 ^ 64 by omega), Nat.mod_eq_of_lt (show 15 < 2 ^ 64 by omega), h2]
  simp [IntKind.wrap, IntKind.signed, IntKind.bits]
  omega
theorem shr4 (m : Nat) : shrI .u64 (m : Int) 4 = ((m / 16 : Nat) : Int) := by
  unfold shrI
  simp [IntKind.bits]
  rw [Int.fdiv_eq_ediv_of_nonneg _ (by omega)]
theorem p2_16 : AF Tryz.prog 261 [aI .i64 16] (aB true) := xtrue_af xnone_ok (lf := 100) (n := 10) (by kernel_rfl)
theorem tzu_af : AF Tryz.prog 262 [aI .u64 16] (aI .i64 4) := by
  refine af_of Tryz.func262 rfl (by kernel_rfl) (by simp [Tryz.ntmps262]) fun _ => ?_; simp [Tryz.f262, Ex.d_eq]
  refine aCall_of (tz64_af) (by simp) (by simp [Ex.d_eq]) ?_; simp [Ex.d_eq]
set_option maxRecDepth 100000 in
theorem fmtbits_af (u : Nat) (hu : u < 18446744073709551616) : AF Tryz.prog 229 [.d (.v (.slice none 0 0)), aI .u64 u, aI .i64 16, aB false, aB false] (.tup [.d (.v (.slice none 0 0)), aS (bs (hexL u))]) := by
  have w16 : IntKind.u64.wrap 16 = 16 := by decide +kernel
  have w15 : IntKind.u64.wrap 15 = 15 := by decide +kernel
  have w4 : IntKind.u64.wrap 4 = 4 := by decide +kernel
  obtain ⟨T, hT⟩ : ∃ T, hexL u = T := ⟨_, rfl⟩
  rw [hT]
  refine af_of Tryz.func229 rfl (by kernel_rfl) (by simp [Tryz.ntmps229]) fun _ => ?_; simp [Tryz.f229, Ex.d_eq]
  refine aCall_of (p2_16) (by simp) (by simp [Ex.d_eq]) ?_; simp [Ex.d_eq]
  simp [w16]
  refine aCall_of (tzu_af) (by simp) (by simp [Ex.d_eq, w16]) ?_; simp [w16, w15, w4]
  have hz : (List.replicate 65 [aI .u8 0]) = b8s (List.replicate 65 0) := by simp [b8s]
  try rw [hz]
  refine aLoop_of (α := Nat × Nat × List Int) (fun q e A => q.2.1 ≤ 65 ∧ 49 < q.2.1 ∧ q.1 < 16 ^ (q.2.1 - 49) ∧ q.2.2.length = 65 ∧ T = hexL q.1 ++ (q.2.2.drop q.2.1).map (fun n => UInt8.ofNat n.toNat) ∧
    A = [⟨0, true, 305, 1, b8s q.2.2⟩] ∧ e 1 = aI .u64 q.1 ∧ e 12 = .ptr 0 0 0 0 ∧ e 13 = aI .i64 q.2.1 ∧ e 14 = aI .u64 4 ∧ e 15 = aI .u64 16 ∧ e 16 = aI .u64 15 ∧ e 3 = aB false ∧ e 4 = aB false ∧ e 10 = .d (.v (.slice none 0 0))) (fun q => q.1) (u, 65, List.replicate 65 0) (Sub.refl _ _ _)
    ⟨by simp, by simp, by simp; omega, by simp, by simp [hT], by simp [b8s], by simp, by simp, by simp, by simp, by simp, by simp, by simp, by simp, by simp⟩ ?_
  rintro ⟨m, i, L⟩ e A ⟨hi, hi2, hm, hL, hx, rfl, e1, e12, e13, e14, e15, e16, e3, e4, e10⟩ K hK
  simp only at hi hi2 hm hL hx
  have hm64 : m < 18446744073709551616 := by
    have : (16 : Nat) ^ (i - 49) ≤ 16 ^ 16 := Nat.pow_le_pow_right (by omega) (by omega)
    omega
  obtain ⟨j, rfl⟩ : ∃ j, i = j + 1 := ⟨i - 1, by omega⟩
  have hjL : j < L.length := by omega
  have hd := digs_get (d := m % 16) (by omega)
  have hh : (hexD (m % 16)).toNat < 256 := (hexD (m % 16)).toNat_lt
  have hg : (b8s L)[j]? = some [aI .u8 L[j]] := by simp [b8s, hjL]
  have hset : (b8s L).set j [aI .u8 ((hexD (m % 16)).toNat : Int)] = b8s (L.set j ((hexD (m % 16)).toNat : Int)) := b8s_set _ _ _
  have hdr : (L.set j ((hexD (m % 16)).toNat : Int)).drop j = ((hexD (m % 16)).toNat : Int) :: L.drop (j + 1) := by
    rw [List.drop_eq_getElem_cons (by simpa using hjL)]
    simp [List.drop_set]
  by_cases h16 : m < 16
  · have hmm : m % 16 = m := Nat.mod_eq_of_lt h16
    rw [hmm] at hd hset hdr
    simp at e1 e13
    simp [e1, e15, show ¬ (16 : Int) ≤ m by omega, e13, e12, e3, e4, e10, i64w (n := (j : Int)) (by omega), hd, hg, hL, hset, show (j : Int) < 65 by omega]
    simp [show (j : Int) ≤ 65 by omega, show 0 < j by omega, show j < 65 by omega, maxLen]
    refine aRaw_b2s Tryz.underlying153 Tryz.underlying5 Tryz.underlying9 (xs := (L.set j ((hexD m).toNat : Int)).drop j) ?_ ?_
    · simp
      refine ⟨by omega, ?_⟩
      rw [List.take_of_length_le (by simp [hL])]
      simp [b8s, List.map_set]
    · have hfin : strOfNums ((L.set j ((hexD m).toNat : Int)).drop j) = bs T := by
        rw [hdr, hx, hexL_lt h16]
        simp [strOfNums]
      rw [hfin]
      simp [e10]
  · simp at e1 e13
    have ht : ((m : Int) % 16).toNat = m % 16 := by omega
    simp [e1, e15, show (16 : Int) ≤ m by omega, e13, e12, e16, e14, i64w (n := (j : Int)) (by omega), and15 hm64, shr4, show (0 : Int) ≤ (m : Int) % 16 by omega, ht, hd, hg, hL, hset, show (j : Int) < 65 by omega]
    refine hK (m / 16, j, L.set j ((hexD (m % 16)).toNat : Int)) _ _ _ _ (Sub.refl _ _ _) ⟨by simp only; omega, ?_, ?_, by simp [hL], ?_, by simp, by simp, by simp [e12], by simp, by simp [e14], by simp [e15], by simp [e16], by simp [e3], by simp [e4], by simp [e10]⟩ (by simp only; omega)
    · simp only
      rcases Nat.lt_or_ge 49 j with h | h
      · exact h
      · have : j + 1 - 49 = 1 := by omega
        rw [this] at hm
        omega
    · simp only
      have : j + 1 - 49 = (j - 49) + 1 := by
        rcases Nat.lt_or_ge 49 j with h | h
        · omega
        · omega
      rw [this, Nat.pow_succ] at hm
      exact Nat.div_lt_of_lt_mul (by omega)
    · simp only
      rw [hdr, hx, hexL_ge h16]
      simp
theorem fmt16_af (u : Nat) (hu : u < 18446744073709551616) : AF Tryz.prog 198 [aI .u64 u, aI .i64 16] (aS (bs (hexL u))) := by
  have h : AF Tryz.prog 235 [aI .u64 u, aI .i64 16] (aS (bs (hexL u))) := by
    refine af_of Tryz.func235 rfl (by kernel_rfl) (by simp [Tryz.ntmps235]) fun _ => ?_; simp [Tryz.f235, Ex.d_eq]
    refine aCall_of (fmtbits_af u hu) (by simp) (by simp [Ex.d_eq]) ?_; simp [Ex.d_eq]
  refine af_of Tryz.func198 rfl (by kernel_rfl) (by simp [Tryz.ntmps198]) fun _ => ?_; simp [Tryz.f198, Ex.d_eq]
  refine aCall_of (h) (by simp) (by simp [Ex.d_eq]) ?_; simp [Ex.d_eq]
end Go.Proofs.YtoeimidochjddaaGreatDoor

/- Contracts: idiom's small functions: is, orders, by, shifts, multiple, product, high, extended. -/
namespace Go.Proofs.YtoeimidochjddaaGreatDoor
open Go.RowKit
@[simp] theorem NLeE_dx (a : Ex) : NLeE [.v (.int .i64 a.op), .v (.int .u32 a.n), .v (.int .i64 a.v), .v (.int .i64 a.wd), .sl 5 (Ex.ds a.l)] a.d ↔ True := by
  rw [Ex.d_eq]
  simp
/-- The empty expression. -/
abbrev eNil : Ex := .mk 0 0 0 0 []
end Go.Proofs.YtoeimidochjddaaGreatDoor

/- Contracts: idiom's matchers. -/
namespace Go.Proofs.YtoeimidochjddaaGreatDoor
open Go.RowKit
theorem form_two' {e : Ex} {op : Int} (h : formB e = true) (ho : e.op = op) (h3 : 3 ≤ op) (h15 : op ≤ 15) : ∃ a b, e = eTwo op a b ∧ formB a = true ∧ formB b = true := by
  subst ho
  exact form_two h h3 h15
end Go.Proofs.YtoeimidochjddaaGreatDoor

/- Contracts: il's numbers, names and texts. -/
namespace Go.Proofs.YtoeimidochjddaaGreatDoor
open Go.RowKit
theorem ilconstant_af (n : Int) (hn : R32 n) : AF Tryz.prog 142 [aI .u32 n] (aS (bs (xNum n))) := by
  have h0 := hn.1
  have h1 := hn.2
  unfold xNum
  by_cases h : n ≤ 9
  · refine af_of Tryz.func142 rfl (by kernel_rfl) (by simp [Tryz.ntmps142]) fun _ => ?_; simp [Tryz.f142, Ex.d_eq]
    simp [h, i64w (n := n) (by omega)]
    refine aCall_of (itoaW_af n (by omega)) (by simp) (by simp [Ex.d_eq]) ?_; simp [Ex.d_eq]
  · obtain ⟨u, rfl⟩ : ∃ u : Nat, n = u := ⟨n.toNat, by omega⟩
    have hl := hexL_len u (by omega)
    have hw : IntKind.u64.wrap (u : Int) = u := by
      simp [IntKind.wrap, IntKind.signed, IntKind.bits]
      omega
    refine af_of Tryz.func142 rfl (by kernel_rfl) (by simp [Tryz.ntmps142]) fun _ => ?_; simp [Tryz.f142, Ex.d_eq]
    simp [h, hw]
    refine aCall_of (fmt16_af u (by omega)) (by simp) (by simp [Ex.d_eq]) ?_; simp [Ex.d_eq]
    refine aCall_ofs (iljoin_af [bs [48, 120], bs (hexL u)] (by simp; omega) (by simp)) (by simp) (by simp [Ex.d_eq]) (by simp) ?_; simp [Ex.d_eq]
    simp [cat]
theorem varnameW_af (v : Int) (h : 0 ≤ v ∧ v < 65536) : AF Tryz.prog 140 [aI .i64 v] (aS (bs (xVar v))) := by
  have hl := xInt_len v (by omega)
  unfold xVar
  by_cases h8 : v < 8
  · refine af_of Tryz.func140 rfl (by kernel_rfl) (by simp [Tryz.ntmps140]) fun _ => ?_; simp [Tryz.f140, Ex.d_eq]
    simp [h8]
    refine aCall_of (itoaW_af v (by omega)) (by simp) (by simp [Ex.d_eq]) ?_; simp [Ex.d_eq]
    refine aCall_ofs (iljoin_af [bs [114], bs (xInt v)] (by simp; omega) (by simp)) (by simp) (by simp [Ex.d_eq]) (by simp) ?_; simp [Ex.d_eq]
    simp [cat]
  by_cases h12 : v < 12
  · rcases (show v = 8 ∨ v = 9 ∨ v = 10 ∨ v = 11 by omega) with rfl | rfl | rfl | rfl
    · have hz : (⟨#[122, 110, 99, 118]⟩ : ByteArray).size = 4 := rfl
      have hx : (⟨#[122, 110, 99, 118]⟩ : ByteArray).extract 0 1 = ⟨#[122]⟩ := by decide +kernel
      refine af_of Tryz.func140 rfl (by kernel_rfl) (by simp [Tryz.ntmps140]) fun _ => ?_; simp [Tryz.f140, Ex.d_eq]
      simp [hz, hx]
      refine aCall_ofs (iljoin_af [bs [102], bs [122]] (by simp) (by simp)) (by simp) (by simp [Ex.d_eq]) (by simp) ?_; simp [Ex.d_eq]
      simp [cat, flagC]
    · have hz : (⟨#[122, 110, 99, 118]⟩ : ByteArray).size = 4 := rfl
      have hx : (⟨#[122, 110, 99, 118]⟩ : ByteArray).extract 1 2 = ⟨#[110]⟩ := by decide +kernel
      refine af_of Tryz.func140 rfl (by kernel_rfl) (by simp [Tryz.ntmps140]) fun _ => ?_; simp [Tryz.f140, Ex.d_eq]
      simp [hz, hx]
      refine aCall_ofs (iljoin_af [bs [102], bs [110]] (by simp) (by simp)) (by simp) (by simp [Ex.d_eq]) (by simp) ?_; simp [Ex.d_eq]
      simp [cat, flagC]
    · have hz : (⟨#[122, 110, 99, 118]⟩ : ByteArray).size = 4 := rfl
      have hx : (⟨#[122, 110, 99, 118]⟩ : ByteArray).extract 2 3 = ⟨#[99]⟩ := by decide +kernel
      refine af_of Tryz.func140 rfl (by kernel_rfl) (by simp [Tryz.ntmps140]) fun _ => ?_; simp [Tryz.f140, Ex.d_eq]
      simp [hz, hx]
      refine aCall_ofs (iljoin_af [bs [102], bs [99]] (by simp) (by simp)) (by simp) (by simp [Ex.d_eq]) (by simp) ?_; simp [Ex.d_eq]
      simp [cat, flagC]
    · have hz : (⟨#[122, 110, 99, 118]⟩ : ByteArray).size = 4 := rfl
      have hx : (⟨#[122, 110, 99, 118]⟩ : ByteArray).extract 3 4 = ⟨#[118]⟩ := by decide +kernel
      refine af_of Tryz.func140 rfl (by kernel_rfl) (by simp [Tryz.ntmps140]) fun _ => ?_; simp [Tryz.f140, Ex.d_eq]
      simp [hz, hx]
      refine aCall_ofs (iljoin_af [bs [102], bs [118]] (by simp) (by simp)) (by simp) (by simp [Ex.d_eq]) (by simp) ?_; simp [Ex.d_eq]
      simp [cat, flagC]
  · refine af_of Tryz.func140 rfl (by kernel_rfl) (by simp [Tryz.ntmps140]) fun _ => ?_; simp [Tryz.f140, Ex.d_eq]
    simp [h8, h12]
    refine aCall_of (itoaW_af v (by omega)) (by simp) (by simp [Ex.d_eq]) ?_; simp [Ex.d_eq]
    refine aCall_ofs (iljoin_af [bs [116], bs (xInt v)] (by simp; omega) (by simp)) (by simp) (by simp [Ex.d_eq]) (by simp) ?_; simp [Ex.d_eq]
    simp [cat]
theorem ilsymbol_af (op : Int) (h3 : 3 ≤ op) (h15 : op ≤ 15) : AF Tryz.prog 197 [aI .i64 op] (aS (bs (xSym op))) := by
  rcases (show op = 3 ∨ op = 4 ∨ op = 5 ∨ op = 6 ∨ op = 7 ∨ op = 8 ∨ op = 9 ∨ op = 10 ∨ op = 11 ∨ op = 12 ∨ op = 13 ∨ op = 14 ∨ op = 15 by omega) with rfl | rfl | rfl | rfl | rfl | rfl | rfl | rfl | rfl | rfl | rfl | rfl | rfl
  all_goals
    refine af_of Tryz.func197 rfl (by kernel_rfl) (by simp [Tryz.ntmps197]) fun _ => ?_; simp [Tryz.f197, Ex.d_eq]
    try simp [xSym]
theorem iltext_af : ∀ e : Ex, formB e = true → OkN e → e.nodes ≤ 1000000 → AF Tryz.prog 141 [exA e] (aS (bs (xEx e))) := by
  intro e
  induction e using Ex.ind with
  | h e ih =>
  intro hf hn hs
  have hop := form_op hf
  by_cases h1 : e.op = 1
  · have h0 := hn.n
    obtain ⟨m, rfl⟩ : ∃ m, e = eCon m := ⟨_, form_con hf h1⟩
    rw [xEx_con]
    refine af_of Tryz.func141 rfl (by kernel_rfl) (by simp [Tryz.ntmps141]) fun _ => ?_; simp [Tryz.f141, Ex.d_eq]
    refine aCall_of (ilconstant_af m h0) (by simp) (by simp [Ex.d_eq]) ?_; simp [Ex.d_eq]
  by_cases h2 : e.op = 2
  · obtain ⟨he, hv⟩ := form_var hf h2
    obtain ⟨v, hvv⟩ : ∃ v, e.v = v := ⟨_, rfl⟩
    rw [hvv] at he hv
    subst he
    rw [xEx_var]
    refine af_of Tryz.func141 rfl (by kernel_rfl) (by simp [Tryz.ntmps141]) fun _ => ?_; simp [Tryz.f141, Ex.d_eq]
    refine aCall_of (varnameW_af v hv) (by simp) (by simp [Ex.d_eq]) ?_; simp [Ex.d_eq]
  by_cases h15 : e.op ≤ 15
  · obtain ⟨op, hoe⟩ : ∃ op, e.op = op := ⟨_, rfl⟩
    obtain ⟨a, b, he, ha, hb⟩ := form_two' hf hoe (by omega) (by omega)
    rw [hoe] at h1 h2 h15 hop
    subst he
    clear hoe
    simp only [nodes_two] at hs
    have na := hn.l a (by simp)
    have nb := hn.l b (by simp)
    have ca := ih a (by simp) ha na (by omega)
    have cb := ih b (by simp) hb nb (by omega)
    have la := xEx_len a ha na
    have lb := xEx_len b hb nb
    have ls := xSym_len op
    rw [xEx_two]
    refine af_of Tryz.func141 rfl (by kernel_rfl) (by simp [Tryz.ntmps141]) fun _ => ?_; simp [Tryz.f141, Ex.d_eq]
    simp [h1, h2, show ¬ op = 16 by omega, show ¬ op = 17 by omega, show ¬ op = 18 by omega, show ¬ op = 19 by omega]
    refine adraw [] (by kernel_rfl) (by kernel_rfl) (by kernel_rfl) (by kernel_rfl) ?_; simp [Ex.d_eq]
    refine adC_of (ca) (by simp) trivial (by simp) (by simp [Ex.d_eq]) ?_; simp [Ex.d_eq]
    refine adC_of (ilsymbol_af op (by omega) h15) (by simp) trivial (by simp) (by simp [Ex.d_eq]) ?_; simp [Ex.d_eq]
    refine adC_of (cb) (by simp) trivial (by simp) (by simp [Ex.d_eq]) ?_; simp [Ex.d_eq]
    refine adC_ofs (iljoin_af [bs [40], bs (xEx a), bs [32], bs (xSym op), bs [32], bs (xEx b), bs [41]] (by simp; omega) (by simp)) (by simp) trivial (by simp) (by simp [Ex.d_eq]) (by simp) ?_; simp [Ex.d_eq]
    simp [cat]
  obtain ⟨op, hoe⟩ : ∃ op, e.op = op := ⟨_, rfl⟩
  obtain ⟨w, hwe⟩ : ∃ w, e.wd = w := ⟨_, rfl⟩
  obtain ⟨a, hae⟩ : ∃ a, e.x = a := ⟨_, rfl⟩
  obtain ⟨he, ha, _, hnd, _⟩ := form_one3 hf (by omega)
  have hw : op = 18 ∨ op = 19 → w = 1 ∨ w = 2 ∨ w = 4 := fun h => by
    obtain ⟨_, _, _, hw⟩ := form_wide hf (by rw [hoe]; exact h)
    omega
  rw [hoe, hwe, hae] at he
  rw [hae] at ha hnd
  rw [hoe] at h1 h2 h15 hop
  clear hoe hwe hae
  subst he
  have na := hn.l a (by simp)
  have ca := ih a (by simp) ha na (by omega)
  have la := xEx_len a ha na
  rw [xEx_one]
  rcases (show op = 16 ∨ op = 17 ∨ op = 18 ∨ op = 19 by omega) with rfl | rfl | rfl | rfl
  · refine af_of Tryz.func141 rfl (by kernel_rfl) (by simp [Tryz.ntmps141]) fun _ => ?_; simp [Tryz.f141, Ex.d_eq]
    refine aCall_of (ca) (by simp) (by simp [Ex.d_eq]) ?_; simp [Ex.d_eq]
    refine aCall_ofs (iljoin_af [bs [33], bs (xEx a)] (by simp; omega) (by simp)) (by simp) (by simp [Ex.d_eq]) (by simp) ?_; simp [Ex.d_eq]
    simp [cat]
  · refine af_of Tryz.func141 rfl (by kernel_rfl) (by simp [Tryz.ntmps141]) fun _ => ?_; simp [Tryz.f141, Ex.d_eq]
    refine aCall_of (ca) (by simp) (by simp [Ex.d_eq]) ?_; simp [Ex.d_eq]
    refine aCall_ofs (iljoin_af [bs [45], bs (xEx a)] (by simp; omega) (by simp)) (by simp) (by simp [Ex.d_eq]) (by simp) ?_; simp [Ex.d_eq]
    simp [cat]
  · have lw := xInt_len w (by omega)
    refine af_of Tryz.func141 rfl (by kernel_rfl) (by simp [Tryz.ntmps141]) fun _ => ?_; simp [Tryz.f141, Ex.d_eq]
    refine adraw [] (by kernel_rfl) (by kernel_rfl) (by kernel_rfl) (by kernel_rfl) ?_; simp [Ex.d_eq]
    refine adC_of (itoaW_af w (by omega)) (by simp) trivial (by simp) (by simp [Ex.d_eq]) ?_; simp [Ex.d_eq]
    refine adC_of (ca) (by simp) trivial (by simp) (by simp [Ex.d_eq]) ?_; simp [Ex.d_eq]
    refine adC_ofs (iljoin_af [bs [108, 111, 97, 100], bs (xInt w), bs [40], bs (xEx a), bs [41]] (by simp; omega) (by simp)) (by simp) trivial (by simp) (by simp [Ex.d_eq]) (by simp) ?_; simp [Ex.d_eq]
    simp [cat]
  · have lw := xInt_len w (by omega)
    refine af_of Tryz.func141 rfl (by kernel_rfl) (by simp [Tryz.ntmps141]) fun _ => ?_; simp [Tryz.f141, Ex.d_eq]
    refine adraw [] (by kernel_rfl) (by kernel_rfl) (by kernel_rfl) (by kernel_rfl) ?_; simp [Ex.d_eq]
    refine adC_of (itoaW_af w (by omega)) (by simp) trivial (by simp) (by simp [Ex.d_eq]) ?_; simp [Ex.d_eq]
    refine adC_of (ca) (by simp) trivial (by simp) (by simp [Ex.d_eq]) ?_; simp [Ex.d_eq]
    refine adC_ofs (iljoin_af [bs [115, 101, 120, 116], bs (xInt w), bs [40], bs (xEx a), bs [41]] (by simp; omega) (by simp)) (by simp) trivial (by simp) (by simp [Ex.d_eq]) (by simp) ?_; simp [Ex.d_eq]
    simp [cat]
end Go.Proofs.YtoeimidochjddaaGreatDoor

/- Contracts: il's text of a statement. -/
namespace Go.Proofs.YtoeimidochjddaaGreatDoor
open Go.RowKit
/-- A statement's numbers fit. -/
structure StFit (s : St) : Prop where
  nx : I64 s.nx
  el : I64 s.el
  tg : R32 s.tg
  e : ∀ x ∈ s.e, OkN x
  cs : ∀ n ∈ s.cs, I64 n
def xList (l : List Int) : List UInt8 := l.flatMap fun n => 44 :: 32 :: xInt n
/-- The text of a well-formed statement. -/
def xSt (s : St) : List UInt8 :=
  if s.op = 1 then xVar s.va ++ [32, 61, 32] ++ xEx (s.e.getD 0 eNil)
  else if s.op = 2 then [115, 116, 111, 114, 101] ++ xInt s.wd ++ [32] ++ xEx (s.e.getD 0 eNil) ++ [44, 32] ++ xEx (s.e.getD 1 eNil)
  else if s.op = 3 then xVar s.va ++ [32, 61, 32, 105, 110]
  else if s.op = 4 then [111, 117, 116, 32] ++ xEx (s.e.getD 0 eNil)
  else if s.op = 5 then [99, 97, 108, 108, 32] ++ xNum s.tg
  else if s.op = 6 then [106, 117, 109, 112, 32] ++ xInt s.nx
  else if s.op = 7 then [98, 114, 97, 110, 99, 104, 32] ++ xEx (s.e.getD 0 eNil) ++ xList [s.nx, s.el]
  else if s.op = 8 then [115, 119, 105, 116, 99, 104, 32] ++ xEx (s.e.getD 0 eNil) ++ xList s.cs
  else if s.op = 9 then [114, 101, 116, 117, 114, 110]
  else [104, 97, 108, 116]
/-- What PrintStmt answers. -/
def prSt (s : St) : List UInt8 := if stErr s = 0 then xSt s else []
theorem stErr_ok {s : St} (h : stErr s = 0) : exprsN s.op = s.e.length ∧ (∀ e ∈ s.e, shalB 64 e = true ∧ formB e = true) ∧ fieldsB s = true := by
  unfold stErr at h
  split at h
  case isFalse => omega
  rename_i h1
  split at h
  case isFalse h2 => exact absurd h h2
  rename_i h2
  split at h
  case isFalse => omega
  rename_i h3
  refine ⟨h1, fun e he => ?_, h3⟩
  have h4 := exsErr_mem h2 e he
  unfold exErr at h4
  split at h4
  · rename_i h5
    split at h4
    · rename_i h6; exact ⟨h5, h6⟩
    · omega
  · omega
/-- The forms of a well-formed statement. -/
theorem stErr_form {s : St} (h : stErr s = 0) :
    (s.op = 1 ∨ s.op = 4 ∨ s.op = 7 ∨ s.op = 8) ∧ (∃ a, s.e = [a]) ∨ s.op = 2 ∧ (∃ a b, s.e = [a, b]) ∨ (s.op = 3 ∨ s.op = 5 ∨ s.op = 6 ∨ s.op = 9 ∨ s.op = 10) ∧ s.e = [] := by
  obtain ⟨h1, _, _⟩ := stErr_ok h
  unfold exprsN at h1
  split at h1
  · rename_i h2
    refine .inl ⟨h2, ?_⟩
    match hl : s.e, h1 with
    | [a], _ => exact ⟨a, rfl⟩
    | [], h1 => simp at h1
    | _ :: _ :: _, h1 => simp at h1; omega
  split at h1
  · rename_i h2
    refine .inr (.inl ⟨h2, ?_⟩)
    match hl : s.e, h1 with
    | [a, b], _ => exact ⟨a, b, rfl⟩
    | [], h1 => simp at h1
    | [_], h1 => simp at h1
    | _ :: _ :: _ :: _, h1 => simp at h1; omega
  split at h1
  · rename_i h2
    refine .inr (.inr ⟨h2, ?_⟩)
    exact List.length_eq_zero_iff.1 (by omega)
  · omega
theorem xList_len {l : List Int} (h : ∀ n ∈ l, I64 n) : (xList l).length ≤ 23 * l.length := by
  induction l with
  | nil => simp [xList]
  | cons n l ih =>
    have h1 := ih fun m hm => h m (by simp [hm])
    have h2 := xInt_len n (h n (by simp))
    simp only [xList, List.flatMap_cons, List.length_append, List.length_cons] at h1 ⊢
    omega
theorem illist_af (l : List Int) (hl : l.length ≤ 1000000) (hi : ∀ n ∈ l, I64 n) : AF Tryz.prog 143 [.d (.sl 1 (i64s l))] (aS (bs (xList l))) := by
  have n1 : l.length ≤ maxLen := by unfold maxLen; omega
  refine af_of Tryz.func143 rfl (by kernel_rfl) (by simp [Tryz.ntmps143]) fun _ => ?_; simp [Tryz.f143, Ex.d_eq]
  refine aLoop_of (α := Nat) (fun i e A => i ≤ l.length ∧ A = [] ∧ e 8 = aI .i64 i ∧ e 7 = aI .i64 l.length ∧ e 6 = .d (.sl 1 (i64s l)) ∧ e 3 = aS (bs (xList (l.take i)))) (fun i => l.length - i) 0 (Sub.refl _ _ _)
    ⟨by omega, by simp, by simp, by simp, by simp, by simp [xList]⟩ ?_
  rintro i e A ⟨hi2, rfl, e8, e7, e6, e3⟩ K hK
  rcases Nat.lt_or_ge i l.length with hlt | hge
  case inr =>
    obtain rfl : i = l.length := by omega
    rw [List.take_length] at e3
    simp [e8, e7, e3]
  obtain ⟨y, hy⟩ : ∃ y, l[i]? = some y := ⟨_, List.getElem?_eq_getElem hlt⟩
  have hy2 := (List.getElem?_eq_some_iff.1 hy).2
  have hyi := hi y (List.mem_of_getElem? hy)
  have h1 := xList_len (l := l.take i) fun n hn => hi n (List.mem_of_mem_take hn)
  have h2 := xInt_len y hyi
  rw [List.length_take] at h1
  have htk : xList (l.take (i + 1)) = xList (l.take i) ++ (44 :: 32 :: xInt y) := by
    rw [List.take_add_one, hy]
    simp [xList]
  simp [e8, e7, e6, e3, hlt, hy, hy2]
  refine aCall_of (itoaW_af y hyi) (by simp) (by simp [Ex.d_eq]) ?_; simp [Ex.d_eq]
  refine aCall_ofs (iljoin_af [bs (xList (l.take i)), bs [44, 32], bs (xInt y)] (by simp; omega) (by simp)) (by simp) (by simp [Ex.d_eq]) (by simp) ?_; simp [Ex.d_eq]
  simp [e8, succ_wrap hlt n1]
  refine hK (i + 1) _ _ _ _ (Sub.take 0 (Nat.zero_le _)) ⟨by omega, by simp, by simp, by simp [e7], by simp [e6], by simp [cat, htk]⟩ (by omega)
set_option maxRecDepth 100000 in
theorem ilprintst_af (s : St) (hl : s.e.length ≤ 1000000) (hf : StFit s) (hn : ∀ e ∈ s.e, e.nodes ≤ 1000000) : AF Tryz.prog 69 [stV s] (aS (bs (prSt s))) := by
  have hc := ilcheckst_af s (by unfold maxLen; omega)
  unfold prSt
  by_cases h0 : stErr s = 0
  case neg =>
    rw [if_neg h0]
    refine af_of Tryz.func69 rfl (by kernel_rfl) (by simp [Tryz.ntmps69]) fun _ => ?_; simp [Tryz.f69, Ex.d_eq]
    refine aCall_of (hc) (by simp) (by simp [Ex.d_eq]) ?_; simp [Ex.d_eq]
    simp [h0]
  rw [if_pos h0]
  rw [h0] at hc
  obtain ⟨_, h2, h3⟩ := stErr_ok h0
  have hfm := stErr_form h0
  obtain ⟨hnx, hel, htg, hoe, hcs⟩ := hf
  have hcl : s.op = 8 → s.cs.length ≤ 64 := fun h => by
    simp [fieldsB, h] at h3
    omega
  have hwd : s.op = 2 → s.wd = 1 ∨ s.wd = 2 ∨ s.wd = 4 := fun h => by
    simp [fieldsB, h] at h3
    omega
  have hva : s.op = 1 ∨ s.op = 3 → 0 ≤ s.va ∧ s.va < 65536 := fun h => by
    rcases h with h | h <;> simp [fieldsB, h] at h3 <;> omega
  obtain ⟨op, va, wd, nx, el, tg, E, cs⟩ := s
  simp only at *
  have hx : ∀ e ∈ E, AF Tryz.prog 141 [exA e] (aS (bs (xEx e))) ∧ (xEx e).length ≤ 30000000 := fun e he => by
    have h4 := (h2 e he).2
    refine ⟨iltext_af e h4 (hoe e he) (hn e he), ?_⟩
    have := xEx_len e h4 (hoe e he)
    have := hn e he
    omega
  rcases hfm with ⟨ho, a, rfl⟩ | ⟨rfl, a, b, rfl⟩ | ⟨ho, rfl⟩
  · obtain ⟨xa, la⟩ := hx a (by simp)
    rcases ho with rfl | rfl | rfl | rfl
    · have hv := hva (.inl rfl)
      have lv := xVar_len va (by omega)
      refine af_of Tryz.func69 rfl (by kernel_rfl) (by simp [Tryz.ntmps69]) fun _ => ?_; simp [Tryz.f69, Ex.d_eq]
      refine aCall_of (hc) (by simp) (by simp [Ex.d_eq]) ?_; simp [Ex.d_eq]
      refine adraw [] (by kernel_rfl) (by kernel_rfl) (by kernel_rfl) (by kernel_rfl) ?_; simp [Ex.d_eq]
      refine adC_of (varnameW_af va hv) (by simp) trivial (by simp) (by simp [Ex.d_eq]) ?_; simp [Ex.d_eq]
      refine adC_of (xa) (by simp) trivial (by simp) (by simp [Ex.d_eq]) ?_; simp [Ex.d_eq]
      refine adC_ofs (iljoin_af [bs (xVar va), bs [32, 61, 32], bs (xEx a)] (by simp; omega) (by simp)) (by simp) trivial (by simp) (by simp [Ex.d_eq]) (by simp) ?_; simp [Ex.d_eq]
      simp [cat, xSt]
    · refine af_of Tryz.func69 rfl (by kernel_rfl) (by simp [Tryz.ntmps69]) fun _ => ?_; simp [Tryz.f69, Ex.d_eq]
      refine aCall_of (hc) (by simp) (by simp [Ex.d_eq]) ?_; simp [Ex.d_eq]
      refine aCall_of (xa) (by simp) (by simp [Ex.d_eq]) ?_; simp [Ex.d_eq]
      refine aCall_ofs (iljoin_af [bs [111, 117, 116, 32], bs (xEx a)] (by simp; omega) (by simp)) (by simp) (by simp [Ex.d_eq]) (by simp) ?_; simp [Ex.d_eq]
      simp [cat, xSt]
    · have l2 := xList_len (l := [nx, el]) (by simp; exact ⟨hnx, hel⟩)
      simp only [List.length_cons, List.length_nil] at l2
      refine af_of Tryz.func69 rfl (by kernel_rfl) (by simp [Tryz.ntmps69]) fun _ => ?_; simp [Tryz.f69, Ex.d_eq]
      refine aCall_of (hc) (by simp) (by simp [Ex.d_eq]) ?_; simp [Ex.d_eq]
      refine adraw [] (by kernel_rfl) (by kernel_rfl) (by kernel_rfl) (by kernel_rfl) ?_; simp [Ex.d_eq]
      refine adC_of (xa) (by simp) trivial (by simp) (by simp [Ex.d_eq]) ?_; simp [Ex.d_eq]
      refine adC_ofs (illist_af [nx, el] (by simp) (by simp; exact ⟨hnx, hel⟩)) (by simp) trivial (by simp) (by simp [Ex.d_eq]) (by simp) ?_; simp [Ex.d_eq]
      refine adC_ofs (iljoin_af [bs [98, 114, 97, 110, 99, 104, 32], bs (xEx a), bs (xList [nx, el])] (by simp; omega) (by simp)) (by simp) trivial (by simp) (by simp [Ex.d_eq]) (by simp) ?_; simp [Ex.d_eq]
      simp [cat, xSt]
    · have l1 := hcl rfl
      have l2 := xList_len hcs
      refine af_of Tryz.func69 rfl (by kernel_rfl) (by simp [Tryz.ntmps69]) fun _ => ?_; simp [Tryz.f69, Ex.d_eq]
      refine aCall_of (hc) (by simp) (by simp [Ex.d_eq]) ?_; simp [Ex.d_eq]
      refine adraw [] (by kernel_rfl) (by kernel_rfl) (by kernel_rfl) (by kernel_rfl) ?_; simp [Ex.d_eq]
      refine adC_of (xa) (by simp) trivial (by simp) (by simp [Ex.d_eq]) ?_; simp [Ex.d_eq]
      refine adC_of (illist_af cs (by omega) hcs) (by simp) trivial (by simp) (by simp [Ex.d_eq]) ?_; simp [Ex.d_eq]
      refine adC_ofs (iljoin_af [bs [115, 119, 105, 116, 99, 104, 32], bs (xEx a), bs (xList cs)] (by simp; omega) (by simp)) (by simp) trivial (by simp) (by simp [Ex.d_eq]) (by simp) ?_; simp [Ex.d_eq]
      simp [cat, xSt]
  · obtain ⟨xa, la⟩ := hx a (by simp)
    obtain ⟨xb, lb⟩ := hx b (by simp)
    have hw := hwd rfl
    have lw := xInt_len wd (by omega)
    refine af_of Tryz.func69 rfl (by kernel_rfl) (by simp [Tryz.ntmps69]) fun _ => ?_; simp [Tryz.f69, Ex.d_eq]
    refine aCall_of (hc) (by simp) (by simp [Ex.d_eq]) ?_; simp [Ex.d_eq]
    refine adraw [] (by kernel_rfl) (by kernel_rfl) (by kernel_rfl) (by kernel_rfl) ?_; simp [Ex.d_eq]
    refine adC_of (itoaW_af wd (by omega)) (by simp) trivial (by simp) (by simp [Ex.d_eq]) ?_; simp [Ex.d_eq]
    refine adC_of (xa) (by simp) trivial (by simp) (by simp [Ex.d_eq]) ?_; simp [Ex.d_eq]
    refine adC_of (xb) (by simp) trivial (by simp) (by simp [Ex.d_eq]) ?_; simp [Ex.d_eq]
    refine adC_ofs (iljoin_af [bs [115, 116, 111, 114, 101], bs (xInt wd), bs [32], bs (xEx a), bs [44, 32], bs (xEx b)] (by simp; omega) (by simp)) (by simp) trivial (by simp) (by simp [Ex.d_eq]) (by simp) ?_; simp [Ex.d_eq]
    simp [cat, xSt]
  · rcases ho with rfl | rfl | rfl | rfl | rfl
    · have hv := hva (.inr rfl)
      have lv := xVar_len va (by omega)
      refine af_of Tryz.func69 rfl (by kernel_rfl) (by simp [Tryz.ntmps69]) fun _ => ?_; simp [Tryz.f69, Ex.d_eq]
      refine aCall_of (hc) (by simp) (by simp [Ex.d_eq]) ?_; simp [Ex.d_eq]
      refine aCall_of (varnameW_af va hv) (by simp) (by simp [Ex.d_eq]) ?_; simp [Ex.d_eq]
      refine aCall_ofs (iljoin_af [bs (xVar va), bs [32, 61, 32, 105, 110]] (by simp; omega) (by simp)) (by simp) (by simp [Ex.d_eq]) (by simp) ?_; simp [Ex.d_eq]
      simp [cat, xSt]
    · have lt := xNum_len tg htg
      refine af_of Tryz.func69 rfl (by kernel_rfl) (by simp [Tryz.ntmps69]) fun _ => ?_; simp [Tryz.f69, Ex.d_eq]
      refine aCall_of (hc) (by simp) (by simp [Ex.d_eq]) ?_; simp [Ex.d_eq]
      refine aCall_of (ilconstant_af tg htg) (by simp) (by simp [Ex.d_eq]) ?_; simp [Ex.d_eq]
      refine aCall_ofs (iljoin_af [bs [99, 97, 108, 108, 32], bs (xNum tg)] (by simp; omega) (by simp)) (by simp) (by simp [Ex.d_eq]) (by simp) ?_; simp [Ex.d_eq]
      simp [cat, xSt]
    · have lt := xInt_len nx hnx
      refine af_of Tryz.func69 rfl (by kernel_rfl) (by simp [Tryz.ntmps69]) fun _ => ?_; simp [Tryz.f69, Ex.d_eq]
      refine aCall_of (hc) (by simp) (by simp [Ex.d_eq]) ?_; simp [Ex.d_eq]
      refine aCall_of (itoaW_af nx hnx) (by simp) (by simp [Ex.d_eq]) ?_; simp [Ex.d_eq]
      refine aCall_ofs (iljoin_af [bs [106, 117, 109, 112, 32], bs (xInt nx)] (by simp; omega) (by simp)) (by simp) (by simp [Ex.d_eq]) (by simp) ?_; simp [Ex.d_eq]
      simp [cat, xSt]
    · refine af_of Tryz.func69 rfl (by kernel_rfl) (by simp [Tryz.ntmps69]) fun _ => ?_; simp [Tryz.f69, Ex.d_eq]
      refine aCall_of (hc) (by simp) (by simp [Ex.d_eq]) ?_; simp [Ex.d_eq]
      simp [xSt]
    · refine af_of Tryz.func69 rfl (by kernel_rfl) (by simp [Tryz.ntmps69]) fun _ => ?_; simp [Tryz.f69, Ex.d_eq]
      refine aCall_of (hc) (by simp) (by simp [Ex.d_eq]) ?_; simp [Ex.d_eq]
      simp [xSt]
/-- The text of a well-formed statement is not empty. -/
theorem xSt_ne (s : St) : xSt s ≠ [] := by
  unfold xSt
  repeat' split
  all_goals first
    | simp
    | (unfold xVar; repeat' split)
  all_goals simp
end Go.Proofs.YtoeimidochjddaaGreatDoor
