/- Texts that the claim leans on, laid one behind the other: Mn, Ms, Mj, Ml, Mo, Mt, Ma, Mc, Mb. -/
import Derived.Test.YtjglpamdliplbaaDoorZM
import Derived.Test.YtjglpamdliplbaaDoorAp
import Derived.Test.YtjglpamdliplbaaDoorSh
import Derived.Test.YtjglpamdliplbaaDoorBa
import Derived.Test.YtjglpamdliplbaaDoorZG
import Derived.Test.YtjglpamdliplbaaDoorAt
import Derived.Test.YtjglpamdliplbaaDoorZD
import Derived.Test.YtjglpamdliplbaaDoorAn
import Derived.WalkMore
import Derived.BigFrame
import Derived.Test.YtjglpamdliplbaaDoorZB
import Derived.Test.YtjglpamdliplbaaDoorAs
import Derived.Test.YtjglpamdliplbaaDoorAu
set_option linter.unusedSimpArgs false
set_option linter.unusedVariables false
set_option linter.unnecessarySimpa false
/- Contract: the reference's Insert. -/
namespace Go.Proofs.YtjglpamdliplbaaDoor
open Go.RowKit
/-- An expression's box. -/
abbrev bxE (e : Ex) : Blk := ⟨0, true, 39, 5, [[aI .i64 e.op, aI .u32 e.n, aI .i64 e.v, aI .i64 e.wd, .d (.sl 5 (Ex.ds e.l))]]⟩
end Go.Proofs.YtjglpamdliplbaaDoor

/- Contracts: slices.Sort and slices.Compact at numbers, on a slice of one's own. -/
namespace Go.Proofs.YtjglpamdliplbaaDoor
open Go.RowKit
section
variable {H : Nat → Prop} {ι : Place} {A : AHeap} {w w' : World}
end
end Go.Proofs.YtjglpamdliplbaaDoor

/- Contract: il.Size, by il.visit with a closure that counts. -/
namespace Go.Proofs.YtjglpamdliplbaaDoor
open Go.RowKit
end Go.Proofs.YtjglpamdliplbaaDoor

/- Contracts: the closures of il.Fresh, il.visit with them. -/
namespace Go.Proofs.YtjglpamdliplbaaDoor
open Go.RowKit
end Go.Proofs.YtjglpamdliplbaaDoor

/- The variables of an expression: in the order in which they stand; ascending, each once. No program in sight. -/
namespace Go.Proofs.YtjglpamdliplbaaDoor
open Go.RowKit
end Go.Proofs.YtjglpamdliplbaaDoor

/- Contract: il.Vars. -/
namespace Go.Proofs.YtjglpamdliplbaaDoor
open Go.RowKit
end Go.Proofs.YtjglpamdliplbaaDoor

/- Contract: math/bits.TrailingZeros64(16), off the table that the row lists; the calls that the example of layer 19 takes by contract. -/
namespace Go.Proofs.YtjglpamdliplbaaDoor
open Go.RowKit
theorem tz64_16 (w : World) (hG : GbIs w) : Calls Tryd.prog 147 #[.int .u64 16] w fun e w' => e = .returned (.int .i64 4) ∧ w' = w := by
  have hc : w.cell? ⟨3, 15, none⟩ = some (.int .u8 4) := (hG (3, deB64.map fun z => Value.int .u8 z) (by simp [GB])).2.1 15 _ (by simp [deB64])
  have hi : IntKind.u64.wrap (bits BinOp.and IntKind.u64 16 (IntKind.u64.wrap (-16)) * 285870213051353865) / 288230376151711744 = 15 := by decide +kernel
  go_enter Tryd.func147, Tryd.ntmps147
  go_wp2
  · go_ret
    exact ⟨rfl, rfl⟩
theorem tz64_af : AF Tryd.prog 147 [aI .u64 16] (aI .i64 4) := by
  intro H w vs hH hs hm
  simp only [ShpL] at hs
  obtain ⟨u1, l1, rfl, s1, rfl⟩ := hs
  simp only [Shp] at s1
  subst s1
  refine (tz64_16 w hH.2.1).mono ?_
  rintro en w' ⟨rfl, rfl⟩
  exact ⟨_, rfl, ⟨by simp [Shp], by simp [Mem, Rd, Value.oneCell']⟩, Ext.refl _⟩
/-- Strings, out of a slice's elements. -/
def strsOf : List (List D) → Option (List ByteArray)
  | [] => some []
  | [.v (.string s)] :: l => (strsOf l).map (s :: ·)
  | _ :: _ => none
theorem strsOf_spec : ∀ {l : List (List D)} {m : List ByteArray}, strsOf l = some m → l = strs m
  | [], m, h => by simp [strsOf] at h; subst h; rfl
  | [.v (.string s)] :: l, m, h => by
    simp only [strsOf, Option.map_eq_some_iff] at h
    obtain ⟨m', h', rfl⟩ := h
    rw [strsOf_spec h']
    rfl
/-- The calls that are taken by contract. -/
def orc19 : XF := fun f args A =>
  if f = 42 then (match omap (reiV false A 9) args with
    | some [.d (.sl 1 xs)] => (match strsOf xs with
      | some l => if (l.flatMap fun x => x.data.toList).length ≤ 1000000000 ∧ l.length ≤ 1000000000 then some (aS (cat l), A) else none
      | none => none)
    | _ => none)
  else if f = 38 then (match args with
    | [.d (.v (.int .i64 (.ofNat n)))] => if n < 10 then some (aS ⟨#[UInt8.ofNat (48 + n)]⟩, A) else none
    | _ => none)
  else if f = 147 then (match args with
    | [.d (.v (.int .u64 n))] => if n = 16 then some (aI .i64 4, A) else none
    | _ => none)
  else none
theorem orc19_ok : XFok Tryd.prog orc19 := by
  intro f args A r A' h
  unfold orc19 at h
  split at h
  · rename_i hf
    subst hf
    split at h
    · rename_i xs h0
      split at h
      · rename_i l hl
        split at h
        · rename_i hc
          simp only [Option.some.injEq, Prod.mk.injEq] at h
          obtain ⟨rfl, rfl⟩ := h
          obtain rfl := strsOf_spec hl
          exact ⟨by kernel_rfl, AF.acs (iljoin_af l hc.1 hc.2) (by rw [h0]; exact NLeL.refl _) rfl⟩
        · cases h
      · cases h
    · cases h
  · split at h
    · rename_i hf
      subst hf
      split at h
      · rename_i n
        split at h
        · rename_i hn
          simp only [Option.some.injEq, Prod.mk.injEq] at h
          obtain ⟨rfl, rfl⟩ := h
          have h1 := itoa_af n (by omega)
          have h2 : Lib.decDigits n = [UInt8.ofNat (48 + n)] := by rw [Lib.decDigits]; simp; omega
          rw [h2] at h1
          exact ⟨by kernel_rfl, AF.acs h1 (by simp [omap, reiV, argO]) rfl⟩
        · cases h
      · cases h
    · split at h
      · rename_i hf
        subst hf
        split at h
        · split at h
          · rename_i hn
            subst hn
            simp only [Option.some.injEq, Prod.mk.injEq] at h
            obtain ⟨rfl, rfl⟩ := h
            exact ⟨by kernel_rfl, AF.acs tz64_af (by simp [omap, reiV, argO]) rfl⟩
          · cases h
        · cases h
      · cases h
end Go.Proofs.YtjglpamdliplbaaDoor

/- Contracts: il.Load, il.Replace. -/
namespace Go.Proofs.YtjglpamdliplbaaDoor
open Go.RowKit
theorem load_af (n : Int) (a : Ex) (ha : a.nodes ≤ 1000000000) : AF Tryd.prog 22 [aI .i64 n, exA a] (exA (.mk 18 0 0 n [a])) := by
  refine af_of Tryd.func22 rfl (by kernel_rfl) (by simp [Tryd.ntmps22]) fun _ => ?_
  simp [Tryd.f22]
  refine aCall_of (own_af a ha) (by simp) (by simp [Ex.d_eq]) ?_
  simp [Ex.d_eq]
end Go.Proofs.YtjglpamdliplbaaDoor

/- Contract: the example of layer 19 holds. -/
namespace Go.Proofs.YtjglpamdliplbaaDoor
open Go.RowKit
end Go.Proofs.YtjglpamdliplbaaDoor
