/- Texts that the claim leans on, laid one behind the other: Ma, Mc, Mb, Mf, Mn, Mj, Ml, Mo, Mp. -/
import Derived.Test.YtlidimmfpfockaaGreatDoorZB
import Derived.Test.YtlidimmfpfockaaGreatDoorAn
import Derived.WalkMore
import Derived.BigFrame
import Derived.Test.YtlidimmfpfockaaGreatDoorAs
import Derived.Test.YtlidimmfpfockaaGreatDoorZM
import Derived.Test.YtlidimmfpfockaaGreatDoorAu
import Derived.Test.YtlidimmfpfockaaGreatDoorZG
import Derived.Test.YtlidimmfpfockaaGreatDoorAp
import Derived.Test.YtlidimmfpfockaaGreatDoorBa
import Derived.Test.YtlidimmfpfockaaGreatDoorAt
set_option linter.unusedSimpArgs false
set_option linter.unusedVariables false
set_option linter.unnecessarySimpa false
/- Contract: math/bits.TrailingZeros64(16), off the table that the row lists; the calls that the example of layer 19 takes by contract. -/
namespace Go.Proofs.YtlidimmfpfockaaGreatDoor
open Go.RowKit
theorem tz64_16 (w : World) (hG : GbIs w) : Calls Tryz.prog 269 #[.int .u64 16] w fun e w' => e = .returned (.int .i64 4) ∧ w' = w := by
  have hc : w.cell? ⟨3, 15, none⟩ = some (.int .u8 4) := (hG (3, deB64.map fun z => Value.int .u8 z) (by simp [GB])).2.1 15 _ (by simp [deB64])
  have hi : IntKind.u64.wrap (bits BinOp.and IntKind.u64 16 (IntKind.u64.wrap (-16)) * 285870213051353865) / 288230376151711744 = 15 := by decide +kernel
  go_enter Tryz.func269, Tryz.ntmps269
  go_wp2
  · go_ret
    exact ⟨rfl, rfl⟩
theorem tz64_af : AF Tryz.prog 269 [aI .u64 16] (aI .i64 4) := by
  intro H w vs hH hs hm
  simp only [ShpL] at hs
  obtain ⟨u1, l1, rfl, s1, rfl⟩ := hs
  simp only [Shp] at s1
  subst s1
  refine (tz64_16 w hH.2.1).mono ?_
  rintro en w' ⟨rfl, rfl⟩
  exact ⟨_, rfl, ⟨by simp [Shp], by simp [Mem, Rd, Value.oneCell']⟩, Ext.refl _⟩
/-- Strings, out of a slice's elements. -/
def strsOf : List (List D) → Option (List ByteArray)
  | [] => some []
  | [.v (.string s)] :: l => (strsOf l).map (s :: ·)
  | _ :: _ => none
theorem strsOf_spec : ∀ {l : List (List D)} {m : List ByteArray}, strsOf l = some m → l = strs m
  | [], m, h => by simp [strsOf] at h; subst h; rfl
  | [.v (.string s)] :: l, m, h => by
    simp only [strsOf, Option.map_eq_some_iff] at h
    obtain ⟨m', h', rfl⟩ := h
    rw [strsOf_spec h']
    rfl
/-- The calls that are taken by contract. -/
def orc19 : XF := fun f args A =>
  if f = 60 then (match omap (reiV false A 9) args with
    | some [.d (.sl 1 xs)] => (match strsOf xs with
      | some l => if (l.flatMap fun x => x.data.toList).length ≤ 1000000000 ∧ l.length ≤ 1000000000 then some (aS (cat l), A) else none
      | none => none)
    | _ => none)
  else if f = 63 then (match args with
    | [.d (.v (.int .i64 (.ofNat n)))] => if n < 10 then some (aS ⟨#[UInt8.ofNat (48 + n)]⟩, A) else none
    | _ => none)
  else if f = 269 then (match args with
    | [.d (.v (.int .u64 n))] => if n = 16 then some (aI .i64 4, A) else none
    | _ => none)
  else none
theorem orc19_ok : XFok Tryz.prog orc19 := by
  intro f args A r A' h
  unfold orc19 at h
  split at h
  · rename_i hf
    subst hf
    split at h
    · rename_i xs h0
      split at h
      · rename_i l hl
        split at h
        · rename_i hc
          simp only [Option.some.injEq, Prod.mk.injEq] at h
          obtain ⟨rfl, rfl⟩ := h
          obtain rfl := strsOf_spec hl
          exact ⟨by kernel_rfl, AF.acs (iljoin_af l hc.1 hc.2) (by rw [h0]; exact NLeL.refl _) rfl⟩
        · cases h
      · cases h
    · cases h
  · split at h
    · rename_i hf
      subst hf
      split at h
      · rename_i n
        split at h
        · rename_i hn
          simp only [Option.some.injEq, Prod.mk.injEq] at h
          obtain ⟨rfl, rfl⟩ := h
          have h1 := itoa_af n (by omega)
          have h2 : Lib.decDigits n = [UInt8.ofNat (48 + n)] := by rw [Lib.decDigits]; simp; omega
          rw [h2] at h1
          exact ⟨by kernel_rfl, AF.acs h1 (by simp [omap, reiV, argO]) rfl⟩
        · cases h
      · cases h
    · split at h
      · rename_i hf
        subst hf
        split at h
        · split at h
          · rename_i hn
            subst hn
            simp only [Option.some.injEq, Prod.mk.injEq] at h
            obtain ⟨rfl, rfl⟩ := h
            exact ⟨by kernel_rfl, AF.acs tz64_af (by simp [omap, reiV, argO]) rfl⟩
          · cases h
        · cases h
      · cases h
end Go.Proofs.YtlidimmfpfockaaGreatDoor

/- Contracts: il.Load, il.Replace. -/
namespace Go.Proofs.YtlidimmfpfockaaGreatDoor
open Go.RowKit
theorem load_af (n : Int) (a : Ex) (ha : a.nodes ≤ 1000000000) : AF Tryz.prog 56 [aI .i64 n, exA a] (exA (.mk 18 0 0 n [a])) := by
  refine af_of Tryz.func56 rfl (by kernel_rfl) (by simp [Tryz.ntmps56]) fun _ => ?_
  simp [Tryz.f56]
  refine aCall_of (own_af a ha) (by simp) (by simp [Ex.d_eq]) ?_
  simp [Ex.d_eq]
/-- A variable replaced by an expression. -/
def repl (v : Int) (b : Ex) : Ex → Ex
  | .mk o n w wd l => if o = 2 ∧ w = v ∧ l.length = 0 then b else .mk o n w wd (repls v b l)
where repls (v : Int) (b : Ex) : List Ex → List Ex
  | [] => []
  | e :: l => repl v b e :: repls v b l
theorem repls_map (v : Int) (b : Ex) : ∀ l, repl.repls v b l = l.map (repl v b)
  | [] => rfl
  | e :: l => by simp only [repl.repls, List.map_cons, repls_map v b l]
theorem repl_eq (v : Int) (b e : Ex) : repl v b e = if e.op = 2 ∧ e.v = v ∧ e.l.length = 0 then b else .mk e.op e.n e.v e.wd (e.l.map (repl v b)) := by
  obtain ⟨o, n, w, wd, l⟩ := e
  simp only [repl, repls_map]
  rfl
theorem replace_af (v : Int) (b : Ex) (hb : b.nodes ≤ 1000000000) : ∀ (e : Ex), e.nodes ≤ 1000000000 → AF Tryz.prog 48 [exA e, aI .i64 v, exA b] (exA (repl v b e)) := by
  intro x
  induction x using Ex.ind with
  | h x ih =>
    intro hn
    have hlen := x.nodes_len
    have n1 : x.l.length ≤ maxLen := by unfold maxLen; omega
    refine af_of Tryz.func48 rfl (by kernel_rfl) (by simp [Tryz.ntmps48]) fun _ => ?_
    simp [Tryz.f48]
    rw [repl_eq]
    by_cases hv : x.op = 2 ∧ x.v = v ∧ x.l.length = 0
    · rw [if_pos hv]
      simp [hv.1, hv.2.1, hv.2.2]
      refine aCall_of (own_af b hb) (by simp) (by simp [Ex.d_eq]) ?_; simp [Ex.d_eq]
    rw [if_neg hv]
    have hc : x.op ≠ 2 ∨ (x.op = 2 ∧ x.v ≠ v) ∨ (x.op = 2 ∧ x.v = v ∧ x.l.length ≠ 0) := by
      by_cases h1 : x.op = 2
      · by_cases h2 : x.v = v
        · exact .inr (.inr ⟨h1, h2, fun h3 => hv ⟨h1, h2, h3⟩⟩)
        · exact .inr (.inl ⟨h1, h2⟩)
      · exact .inl h1
    clear hv
    rcases hc with hc | ⟨hc, hc2⟩ | ⟨hc, hc2, hc3⟩
    case' inl => simp [hc]
    case' inr.inl => simp [hc, hc2]
    case' inr.inr => simp [hc, hc2, hc3]
    all_goals
      refine aCall_ofc (clone_ac _ (Ex.ds x.l) (by simp; omega)) (by simp) ?_
      rintro _ _ ⟨rfl, rfl⟩
      simp
      refine aLoop_of (α := Nat) (fun i e A => i ≤ x.l.length ∧ (∃ L : List Ex, A = [⟨0, true, 38, 5, [[aI .i64 x.op, aI .u32 x.n, aI .i64 x.v, aI .i64 x.wd, .own 3 1 0 x.l.length]]⟩, ⟨0, true, 38, 5, [[aI .i64 b.op, aI .u32 b.n, aI .i64 b.v, aI .i64 b.wd, .d (.sl 5 (Ex.ds b.l))]]⟩, ⟨0, true, 38, 5, [[aI .i64 0, aI .u32 0, aI .i64 0, aI .i64 0, .d (.v (.slice none 0 0))]]⟩, ⟨1, true, 38, 5, dEls (Ex.ds L)⟩] ∧ L.length = x.l.length ∧
          ∀ j : Nat, L[j]? = if j < i then (x.l[j]?).map (repl v b) else x.l[j]?) ∧
        e 32 = aI .i64 i ∧ e 31 = aI .i64 x.l.length ∧ e 1 = aI .i64 v ∧ e 3 = .ptr 0 0 0 0 ∧ e 5 = .ptr 1 0 0 0 ∧ e 6 = .ptr 2 0 0 0) (fun i => x.l.length - i) 0 (Sub.refl _ _ _)
        ⟨by omega, ⟨x.l, by simp [hc] <;> exact hc2.symm, rfl, by simp⟩, by simp, by simp, by simp, by simp, by simp, by simp⟩ ?_
      rintro i e A ⟨hi, ⟨L, rfl, hL, hLj⟩, e32, e31, e1, e3, e5, e6⟩ K hK
      rcases Nat.lt_or_ge i x.l.length with hlt | hge
      case inl =>
        obtain ⟨y, hy⟩ : ∃ y, x.l[i]? = some y := ⟨_, List.getElem?_eq_getElem hlt⟩
        have hLi : L[i]? = some y := by rw [hLj, if_neg (by omega), hy]
        have hLi2 := (List.getElem?_eq_some_iff.1 hLi).2
        have hlt' : i < L.length := by omega
        simp [e32, e31, hlt]
        refine adraw [] (by kernel_rfl) (by kernel_rfl) (by kernel_rfl) (by kernel_rfl) ?_
        simp [e32, e31, e1, e3, e5, hlt, hlt', hL, hLi, hLi2, Ex.d_eq]
        refine adC_of (ih y (List.mem_of_getElem? hy) (by have := Ex.nodes_mem (List.mem_of_getElem? hy); omega)) (by simp) trivial (by simp) (by simp) ?_
        have hL' : ∀ (z : Ex), (dEls (Ex.ds L)).set i [aI .i64 z.op, aI .u32 z.n, aI .i64 z.v, aI .i64 z.wd, .d (.sl 5 (Ex.ds z.l))] = dEls (Ex.ds (L.set i z)) := fun z => by
          rw [show [aI .i64 z.op, aI .u32 z.n, aI .i64 z.v, aI .i64 z.wd, .d (.sl 5 (Ex.ds z.l))] = (Ex.d z).map AV.d by simp [Ex.d_eq], dEls_set]
          simp [Ex.ds_map, List.map_set]
        have hset : ∀ j : Nat, (L.set i (repl v b y))[j]? = if j < i + 1 then (x.l[j]?).map (repl v b) else x.l[j]? := fun j => by
          rw [List.getElem?_set]
          by_cases hij : i = j
          · subst hij
            simp [hlt', hy]
          · rw [if_neg hij, hLj]
            by_cases hj : j < i
            · rw [if_pos hj, if_pos (by omega)]
            · rw [if_neg hj, if_neg (by omega)]
        simp [hlt, hlt', hL, hLi2, Ex.d_eq, hL', e32, succ_wrap hlt n1]
        refine hK (i + 1) _ _ _ _ (Sub.refl _ _ _) ⟨by omega, ⟨L.set i (repl v b y), by simp, by simpa using hL, hset⟩, by simp, by simp [e31], by simp [e1], by simp [e3], by simp [e5], by simp [e6]⟩ (by omega)
      obtain rfl : i = x.l.length := by omega
      obtain rfl : L = x.l.map (repl v b) := by
        refine List.ext_getElem? fun j => ?_
        rw [hLj, List.getElem?_map]
        by_cases hj : j < x.l.length
        · rw [if_pos hj]
        · rw [if_neg hj, List.getElem?_eq_none (by omega)]
          rfl
      have nl : NLeS (List.take x.l.length (Ex.ds (List.map (repl v b) x.l))) (Ex.ds (List.map (repl v b) x.l)) := by
        rw [List.take_of_length_le (by simp)]; exact NLeS.refl _
      simp [e32, e31, e3, e6, Ex.d_eq, hc]
      first | exact nl | exact ⟨hc2, nl⟩
end Go.Proofs.YtlidimmfpfockaaGreatDoor

/- Contract: the example of layer 19 holds. -/
namespace Go.Proofs.YtlidimmfpfockaaGreatDoor
open Go.RowKit
abbrev tE : Ex := eTwo 4 (eVar 2) (eCon 1)
abbrev tG (n : Int) : Gr := ⟨0, [⟨0, [⟨6, 0, 0, n, 0, 0, [], []⟩]⟩]⟩
theorem vars19 : AF Tryz.prog 52 [exA (eTwo 5 tE tE)] (.d (.sl 1 (i64s [2]))) := xres_af orc19_ok (lf := 100) (n := 60) (by kernel_rfl)
theorem size19 : AF Tryz.prog 53 [exA (eTwo 5 tE tE)] (aI .i64 7) := xres_af orc19_ok (lf := 100) (n := 60) (by kernel_rfl)
theorem print19a : AF Tryz.prog 16 [exA (eTwo 3 (eVar 1) (eCon 10))] (aS ⟨#[40, 114, 49, 32, 43, 32, 48, 120, 97, 41]⟩) := xres_af orc19_ok (lf := 100) (n := 60) (by kernel_rfl)
theorem print19b : AF Tryz.prog 16 [exA (eTwo 5 tE tE)] (aS ⟨#[40, 40, 114, 50, 32, 45, 32, 49, 41, 32, 42, 32, 40, 114, 50, 32, 45, 32, 49, 41, 41]⟩) := xres_af orc19_ok (lf := 100) (n := 60) (by kernel_rfl)
theorem print19c : AF Tryz.prog 16 [exA (.mk 18 0 0 1 [eVar 7])] (aS ⟨#[108, 111, 97, 100, 49, 40, 114, 55, 41]⟩) := xres_af orc19_ok (lf := 100) (n := 60) (by kernel_rfl)
theorem check19 : AF Tryz.prog 54 [exA (eVar (-1))] (aI .i64 2) := xres_af orc19_ok (lf := 100) (n := 60) (by kernel_rfl)
theorem checkg19a : AF Tryz.prog 55 [grV (tG 1)] (aI .i64 18) := xres_af orc19_ok (lf := 100) (n := 60) (by kernel_rfl)
theorem checkg19b : AF Tryz.prog 55 [grV (tG 0)] (aI .i64 0) := xres_af orc19_ok (lf := 100) (n := 60) (by kernel_rfl)
theorem fresh19 : AF Tryz.prog 57 [grV (tG 0)] (aI .i64 12) := xres_af orc19_ok (lf := 100) (n := 60) (by kernel_rfl)
theorem succ19 : AF Tryz.prog 58 [blV ⟨0, [⟨6, 0, 0, 0, 0, 0, [], []⟩]⟩] (.d (.sl 1 (i64s [0]))) := xres_af orc19_ok (lf := 100) (n := 60) (by kernel_rfl)
theorem printst19 : AF Tryz.prog 13 [stV ⟨6, 0, 0, 0, 0, 0, [], []⟩] (aS ⟨#[106, 117, 109, 112, 32, 48]⟩) := xres_af orc19_ok (lf := 100) (n := 60) (by kernel_rfl)
theorem l19ex_af : AF Tryz.prog 12 [] (aB true) := by
  refine af_of Tryz.func12 rfl (by kernel_rfl) (by simp [Tryz.ntmps12]) fun _ => ?_; simp [Tryz.f12, Ex.d_eq]
  refine aCall_of (var_af 1) (by simp) (by simp [Ex.d_eq]) ?_; simp [Ex.d_eq]
  refine aCall_of (var_af 1) (by simp) (by simp [Ex.d_eq]) ?_; simp [Ex.d_eq]
  refine aCall_of (two_af 5 (eVar 1) (eVar 1) (by simp) (by simp)) (by simp) (by simp [Ex.d_eq]) ?_; simp [Ex.d_eq]
  refine aCall_of (var_af 2) (by simp) (by simp [Ex.d_eq]) ?_; simp [Ex.d_eq]
  refine aCall_of (const_af 1) (by simp) (by simp [Ex.d_eq]) ?_; simp [Ex.d_eq]
  refine aCall_of (two_af 4 (eVar 2) (eCon 1) (by simp) (by simp)) (by simp) (by simp [Ex.d_eq]) ?_; simp [Ex.d_eq]
  have hr := replace_af 1 tE (by simp) (eTwo 5 (eVar 1) (eVar 1)) (by simp)
  rw [show repl 1 tE (eTwo 5 (eVar 1) (eVar 1)) = eTwo 5 tE tE by rfl] at hr
  refine aCall_of hr (by simp) (by simp [Ex.d_eq]) ?_; simp [Ex.d_eq]
  refine aCall_of vars19 (by simp) (by simp [Ex.d_eq]) ?_; simp [Ex.d_eq]
  refine aCall_of (var_af 1) (by simp) (by simp [Ex.d_eq]) ?_; simp [Ex.d_eq]
  refine aCall_of (const_af 10) (by simp) (by simp [Ex.d_eq]) ?_; simp [Ex.d_eq]
  refine aCall_of (two_af 3 (eVar 1) (eCon 10) (by simp) (by simp)) (by simp) (by simp [Ex.d_eq]) ?_; simp [Ex.d_eq]
  refine aCall_of print19a (by simp) (by simp [Ex.d_eq]) ?_; simp [Ex.d_eq]
  refine aCall_of print19b (by simp) (by simp [Ex.d_eq]) ?_; simp [Ex.d_eq]
  refine aCall_of size19 (by simp) (by simp [Ex.d_eq]) ?_; simp [Ex.d_eq]
  refine aCall_of (var_af (-1)) (by simp) (by simp [Ex.d_eq]) ?_; simp [Ex.d_eq]
  refine aCall_of check19 (by simp) (by simp [Ex.d_eq]) ?_; simp [Ex.d_eq]
  refine aCall_ofz [1, 2, 3, 4, 5, 6] checkg19a (by simp) (by simp [frz, Ex.d_eq, Bl.d_eq, St.d_eq]) ?_; simp [frz, Ex.d_eq]
  refine aCall_ofz [1, 2, 3, 4, 5, 6] checkg19b (by simp) (by simp [frz, Ex.d_eq, Bl.d_eq, St.d_eq]) ?_; simp [frz, Ex.d_eq]
  refine aCall_of (var_af 7) (by simp) (by simp [Ex.d_eq]) ?_; simp [Ex.d_eq]
  refine aCall_of (load_af 1 (eVar 7) (by simp)) (by simp) (by simp [Ex.d_eq]) ?_; simp [Ex.d_eq]
  refine aCall_of print19c (by simp) (by simp [Ex.d_eq]) ?_; simp [Ex.d_eq]
  refine aCall_of fresh19 (by simp) (by simp [Ex.d_eq, Bl.d_eq, St.d_eq]) ?_; simp [Ex.d_eq]
  refine aCall_of succ19 (by simp) (by simp [Ex.d_eq, Bl.d_eq, St.d_eq]) ?_; simp [Ex.d_eq]
  refine aCall_of printst19 (by simp) (by simp [Ex.d_eq, Bl.d_eq, St.d_eq]) ?_; simp [Ex.d_eq]
end Go.Proofs.YtlidimmfpfockaaGreatDoor

/- Contract: the law IlConstructors answers true. -/
namespace Go.Proofs.YtlidimmfpfockaaGreatDoor
open Go.RowKit
theorem r19load_af (n : Int) (a : Ex) : AF Tryz.prog 74 [aI .i64 n, exA a] (exA (.mk 18 0 0 n [a])) := by
  refine af_of Tryz.func74 rfl (by kernel_rfl) (by simp [Tryz.ntmps74]) fun _ => ?_
  simp [Tryz.f74, Ex.d_eq]
end Go.Proofs.YtlidimmfpfockaaGreatDoor

/- Contract: the reference's Insert. -/
namespace Go.Proofs.YtlidimmfpfockaaGreatDoor
open Go.RowKit
end Go.Proofs.YtlidimmfpfockaaGreatDoor

/- Contract: il.Size, by il.visit with a closure that counts. -/
namespace Go.Proofs.YtlidimmfpfockaaGreatDoor
open Go.RowKit
end Go.Proofs.YtlidimmfpfockaaGreatDoor

/- Contracts: the closures of il.Fresh, il.visit with them. -/
namespace Go.Proofs.YtlidimmfpfockaaGreatDoor
open Go.RowKit
end Go.Proofs.YtlidimmfpfockaaGreatDoor

/- The variables of an expression: in the order in which they stand; ascending, each once. No program in sight. -/
namespace Go.Proofs.YtlidimmfpfockaaGreatDoor
open Go.RowKit
end Go.Proofs.YtlidimmfpfockaaGreatDoor

/- Contract: the reference's Vars. -/
namespace Go.Proofs.YtlidimmfpfockaaGreatDoor
open Go.RowKit
end Go.Proofs.YtlidimmfpfockaaGreatDoor
