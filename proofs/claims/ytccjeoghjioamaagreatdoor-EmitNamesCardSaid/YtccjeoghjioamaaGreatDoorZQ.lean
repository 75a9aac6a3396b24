/- Texts that the claim leans on, laid one behind the other: Na, Qa, Qb, Qc, Hb, Hc, Qd, Qf, Qg. -/
import Derived.Test.YtccjeoghjioamaaGreatDoorZM
import Derived.Test.YtccjeoghjioamaaGreatDoorZK
import Derived.Lib.ItoaNum
import Derived.Test.YtccjeoghjioamaaGreatDoorZP
import Derived.Test.YtccjeoghjioamaaGreatDoorZD
import Derived.Test.YtccjeoghjioamaaGreatDoorAm
import Derived.Test.YtccjeoghjioamaaGreatDoorAp
import Derived.Test.YtccjeoghjioamaaGreatDoorAn
set_option linter.unusedSimpArgs false
set_option linter.unusedVariables false
set_option linter.unnecessarySimpa false
/- The simplification as plain functions on expression trees; it ends, and what it answers is no greater and stays. No program in sight. -/
namespace Go.Proofs.YtccjeoghjioamaaGreatDoor
open Go.RowKit
/-! ### it ends -/
def lcW : List Ex → Nat
  | [a, b] => if a.op = 1 ∧ b.op ≠ 1 then 1 else 0
  | _ => 0
/-- The weight of an expression, for the rules. -/
def sw : Ex → Nat
  | .mk o _ _ _ l => 4 + (if o = 4 ∨ o = 16 then 1 else 0) + lcW l + sws l
where sws : List Ex → Nat
  | [] => 0
  | e :: l => sw e + sws l
/-- A replacement: well-formed, lighter, no greater. -/
structure SLess (x e : Ex) : Prop where
  form : formB x = true
  sw : sw x < sw e
  nodes : x.nodes ≤ e.nodes
  depth : x.depth ≤ e.depth
end Go.Proofs.YtccjeoghjioamaaGreatDoor

/- The texts of expressions, as lists of bytes: which expressions have the same. No program in sight. -/
namespace Go.Proofs.YtccjeoghjioamaaGreatDoor
open Go.RowKit
/-- A number that an int holds. -/
def I64 (n : Int) : Prop := -9223372036854775808 ≤ n ∧ n ≤ 9223372036854775807
theorem dec_lt {u : Nat} (h : u < 10) : Lib.decDigits u = [UInt8.ofNat (48 + u)] := by rw [Lib.decDigits, dif_pos h]
theorem dec_ge {u : Nat} (h : ¬ u < 10) : Lib.decDigits u = Lib.decDigits (u / 10) ++ [UInt8.ofNat (48 + u % 10)] := by rw [Lib.decDigits, dif_neg h]
/-- A number as a text. -/
def xInt (n : Int) : List UInt8 := Lib.itoa n
def flagC (v : Int) : UInt8 := if v = 8 then 122 else if v = 9 then 110 else if v = 10 then 99 else 118
def xVar (v : Int) : List UInt8 := if v < 8 then 114 :: xInt v else if v < 12 then [102, flagC v] else 116 :: xInt v
/-! ### digits -/
theorem xInt_nat {n : Int} (h : 0 ≤ n) : xInt n = Lib.decDigits n.toNat := by
  unfold xInt Lib.itoa
  rw [if_neg (by omega)]
/-! ### the texts tell the expressions apart -/
/-! ### lengths -/
theorem dec_len (u : Nat) (h : u < 18446744073709551616) : (Lib.decDigits u).length ≤ 20 := by
  have : ∀ k u : Nat, u < 10 ^ (k + 1) → (Lib.decDigits u).length ≤ k + 1 := by
    intro k
    induction k with
    | zero => intro u hu; rw [dec_lt (by simpa using hu)]; simp
    | succ k ih =>
      intro u hu
      by_cases h : u < 10
      · rw [dec_lt h]; simp
      · rw [dec_ge h]
        have := ih (u / 10) (by rw [Nat.div_lt_iff_lt_mul (by omega)]; rw [Nat.pow_succ] at hu; exact hu)
        simp
        omega
  exact this 19 u (by omega)
end Go.Proofs.YtccjeoghjioamaaGreatDoor

/- Contracts: il's numbers, names and texts. -/
namespace Go.Proofs.YtccjeoghjioamaaGreatDoor
open Go.RowKit
/-- Bytes as a string. -/
abbrev bs (l : List UInt8) : ByteArray := ⟨l.toArray⟩
theorem tab_pow {w : World} (h : GbIs w) : Lib.TabIs Tryz.prog w "internal/strconv.uint64pow10" .u64 Lib.pow10Tab := by
  obtain ⟨t, f, he⟩ := (h.1 (2, Lib.pow10Tab.map fun z => Value.int .u64 z) (by simp [GB])).2.2
  have hg : Tryz.prog.globalNamed "internal/strconv.uint64pow10" = some 2 := by kernel_rfl
  unfold Lib.TabIs World.var?
  rw [hg]
  simp only [Option.bind_some, he]
theorem ext_grow (w : World) (k : Nat) (os : Array Obj) : Ext w (Go.Sort.grow (w.drewN k) os) := by
  refine ⟨rfl, rfl, rfl, ?_, fun i hi => ?_⟩
  · show w.heap.size ≤ (w.heap ++ os).size
    simp
  · show (w.heap ++ os)[i]? = w.heap[i]?
    exact Array.getElem?_append_left hi
theorem itoaW_af (n : Int) (h : -9223372036854775808 ≤ n ∧ n ≤ 9223372036854775807) : AF Tryz.prog 28 [aI .i64 n] (aS (bs (xInt n))) := by
  show AF Tryz.prog 28 [aI .i64 n] (aS ⟨(Lib.itoa n).toArray⟩)
  intro H w vs hH hs hm
  simp only [ShpL] at hs
  obtain ⟨u1, l1, rfl, s1, rfl⟩ := hs
  simp only [Shp] at s1
  subst s1
  refine (Sh_strconv_Itoa n h.1 h.2 w (tab_pow hH.2.1)).mono ?_
  rintro en w' ⟨rfl, k, os, rfl⟩
  exact ⟨_, rfl, ⟨by simp [Shp], by simp [Mem, Rd, Value.oneCell']⟩, ext_grow w k os⟩
end Go.Proofs.YtccjeoghjioamaaGreatDoor

/- Contract: strconv.FormatUint in base 16. -/
namespace Go.Proofs.YtccjeoghjioamaaGreatDoor
open Go.RowKit
/-- Bytes, as a slice's elements. -/
def b8s (l : List Int) : List (List AV) := l.map fun n => [aI .u8 n]
@[simp] theorem b8s_len (l : List Int) : (b8s l).length = l.length := by simp [b8s]
end Go.Proofs.YtccjeoghjioamaaGreatDoor

/- Contracts: idiom's small functions: is, orders, by, shifts, multiple, product, high, extended. -/
namespace Go.Proofs.YtccjeoghjioamaaGreatDoor
open Go.RowKit
@[simp] theorem NLeE_dx (a : Ex) : NLeE [.v (.int .i64 a.op), .v (.int .u32 a.n), .v (.int .i64 a.v), .v (.int .i64 a.wd), .sl 5 (Ex.ds a.l)] a.d ↔ True := by
  rw [Ex.d_eq]
  simp
end Go.Proofs.YtccjeoghjioamaaGreatDoor

/- Contracts: idiom's matchers. -/
namespace Go.Proofs.YtccjeoghjioamaaGreatDoor
open Go.RowKit
end Go.Proofs.YtccjeoghjioamaaGreatDoor

/- Contracts: il's numbers, names and texts. -/
namespace Go.Proofs.YtccjeoghjioamaaGreatDoor
open Go.RowKit
end Go.Proofs.YtccjeoghjioamaaGreatDoor

/- Contracts: il's text of a statement. -/
namespace Go.Proofs.YtccjeoghjioamaaGreatDoor
open Go.RowKit
/-- A statement's numbers fit. -/
structure StFit (s : St) : Prop where
  nx : I64 s.nx
  el : I64 s.el
  tg : R32 s.tg
  e : ∀ x ∈ s.e, OkN x
  cs : ∀ n ∈ s.cs, I64 n
end Go.Proofs.YtccjeoghjioamaaGreatDoor

/- Contracts: the reference's numbers, names and texts. -/
namespace Go.Proofs.YtccjeoghjioamaaGreatDoor
open Go.RowKit
@[simp] theorem bs_app (a b : List UInt8) : bs a ++ bs b = bs (a ++ b) := by
  apply ByteArray.ext
  simp
@[simp] theorem bs_size (l : List UInt8) : (bs l).size = l.length := by simp [ByteArray.size]
theorem sz_ok {α : Type} {x : Int} {a b : α} (h : x ≤ 9223372036854775807) : (if 9223372036854775807 < x then a else b) = b := if_neg (by omega)
theorem str_one {n : Nat} (h : n < 256) : strOfNums [(n : Int)] = bs [UInt8.ofNat n] := by
  simp [strOfNums]
theorem u8_small {n : Int} (h : 0 ≤ n ∧ n < 256) : IntKind.u8.wrap n = n := by
  simp [IntKind.wrap, IntKind.signed, IntKind.bits]
  omega
theorem tdiv10 {n : Nat} : ((n : Nat) : Int).tdiv 10 = ((n / 10 : Nat) : Int) := by
  rw [Int.tdiv_eq_ediv_of_nonneg (by omega)]
  omega
theorem tmod10 {n : Nat} : ((n : Nat) : Int).tmod 10 = ((n % 10 : Nat) : Int) := by
  rw [Int.tmod_eq_emod_of_nonneg (by omega)]
  omega
end Go.Proofs.YtccjeoghjioamaaGreatDoor
