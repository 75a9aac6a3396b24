/- Texts that the claim leans on, laid one behind the other: Ma, Mc, Mb, Mf, Mn, Mj, Ml, Mo, Mp. -/
import Derived.Test.YtlidimmfpfockaaGreatDoorZB
import Derived.Test.YtlidimmfpfockaaGreatDoorAn
import Derived.WalkMore
import Derived.BigFrame
import Derived.Test.YtlidimmfpfockaaGreatDoorAs
import Derived.Test.YtlidimmfpfockaaGreatDoorZM
import Derived.Test.YtlidimmfpfockaaGreatDoorAu
import Derived.Test.YtlidimmfpfockaaGreatDoorZG
import Derived.Test.YtlidimmfpfockaaGreatDoorAp
import Derived.Test.YtlidimmfpfockaaGreatDoorBa
import Derived.Test.YtlidimmfpfockaaGreatDoorAt
set_option linter.unusedSimpArgs false
set_option linter.unusedVariables false
set_option linter.unnecessarySimpa false
/- Contract: math/bits.TrailingZeros64(16), off the table that the row lists; the calls that the example of layer 19 takes by contract. -/
namespace Go.Proofs.YtlidimmfpfockaaGreatDoor
open Go.RowKit
theorem tz64_16 (w : World) (hG : GbIs w) : Calls Tryz.prog 269 #[.int .u64 16] w fun e w' => e = .returned (.int .i64 4) ∧ w' = w := by
  have hc : w.cell? ⟨3, 15, none⟩ = some (.int .u8 4) := (hG (3, deB64.map fun z => Value.int .u8 z) (by simp [GB])).2.1 15 _ (by simp [deB64])
  have hi : IntKind.u64.wrap (bits BinOp.and IntKind.u64 16 (IntKind.u64.wrap (-16)) * 285870213051353865) / 288230376151711744 = 15 := by decide +kernel
  go_enter Tryz.func269, Tryz.ntmps269
  go_wp2
  · go_ret
    exact ⟨rfl, rfl⟩
theorem tz64_af : AF Tryz.prog 269 [aI .u64 16] (aI .i64 4) := by
  intro H w vs hH hs hm
  simp only [ShpL] at hs
  obtain ⟨u1, l1, rfl, s1, rfl⟩ := hs
  simp only [Shp] at s1
  subst s1
  refine (tz64_16 w hH.2.1).mono ?_
  rintro en w' ⟨rfl, rfl⟩
  exact ⟨_, rfl, ⟨by simp [Shp], by simp [Mem, Rd, Value.oneCell']⟩, Ext.refl _⟩
/-- Strings, out of a slice's elements. -/
def strsOf : List (List D) → Option (List ByteArray)
  | [] => some []
  | [.v (.string s)] :: l => (strsOf l).map (s :: ·)
  | _ :: _ => none
theorem strsOf_spec : ∀ {l : List (List D)} {m : List ByteArray}, strsOf l = some m → l = strs m
  | [], m, h => by simp [strsOf] at h; subst h; rfl
  | [.v (.string s)] :: l, m, h => by
    simp only [strsOf, Option.map_eq_some_iff] at h
    obtain ⟨m', h', rfl⟩ := h
    rw [strsOf_spec h']
    rfl
/-- The calls that are taken by contract. -/
def orc19 : XF := fun f args A =>
  if f = 60 then (match omap (reiV false A 9) args with
    | some [.d (.sl 1 xs)] => (match strsOf xs with
      | some l => if (l.flatMap fun x => x.data.toList).length ≤ 1000000000 ∧ l.length ≤ 1000000000 then some (aS (cat l), A) else none
      | none => none)
    | _ => none)
  else if f = 63 then (match args with
    | [.d (.v (.int .i64 (.ofNat n)))] => if n < 10 then some (aS ⟨#[UInt8.ofNat (48 + n)]⟩, A) else none
    | _ => none)
  else if f = 269 then (match args with
    | [.d (.v (.int .u64 n))] => if n = 16 then some (aI .i64 4, A) else none
    | _ => none)
  else none
theorem orc19_ok : XFok Tryz.prog orc19 := by
  intro f args A r A' h
  unfold orc19 at h
  split at h
  · rename_i hf
    subst hf
    split at h
    · rename_i xs h0
      split at h
      · rename_i l hl
        split at h
        · rename_i hc
          simp only [Option.some.injEq, Prod.mk.injEq] at h
          obtain ⟨rfl, rfl⟩ := h
          obtain rfl := strsOf_spec hl
          exact ⟨by kernel_rfl, AF.acs (iljoin_af l hc.1 hc.2) (by rw [h0]; exact NLeL.refl _) rfl⟩
        · cases h
      · cases h
    · cases h
  · split at h
    · rename_i hf
      subst hf
      split at h
      · rename_i n
        split at h
        · rename_i hn
          simp only [Option.some.injEq, Prod.mk.injEq] at h
          obtain ⟨rfl, rfl⟩ := h
          have h1 := itoa_af n (by omega)
          have h2 : Lib.decDigits n = [UInt8.ofNat (48 + n)] := by rw [Lib.decDigits]; simp; omega
          rw [h2] at h1
          exact ⟨by kernel_rfl, AF.acs h1 (by simp [omap, reiV, argO]) rfl⟩
        · cases h
      · cases h
    · split at h
      · rename_i hf
        subst hf
        split at h
        · split at h
          · rename_i hn
            subst hn
            simp only [Option.some.injEq, Prod.mk.injEq] at h
            obtain ⟨rfl, rfl⟩ := h
            exact ⟨by kernel_rfl, AF.acs tz64_af (by simp [omap, reiV, argO]) rfl⟩
          · cases h
        · cases h
      · cases h
end Go.Proofs.YtlidimmfpfockaaGreatDoor

/- Contracts: il.Load, il.Replace. -/
namespace Go.Proofs.YtlidimmfpfockaaGreatDoor
open Go.RowKit
theorem load_af (n : Int) (a : Ex) (ha : a.nodes ≤ 1000000000) : AF Tryz.prog 56 [aI .i64 n, exA a] (exA (.mk 18 0 0 n [a])) := by
  refine af_of Tryz.func56 rfl (by kernel_rfl) (by simp [Tryz.ntmps56]) fun _ => ?_
  simp [Tryz.f56]
  refine aCall_of (own_af a ha) (by simp) (by simp [Ex.d_eq]) ?_
  simp [Ex.d_eq]
/-- A variable replaced by an expression. -/
def repl (v : Int) (b : Ex) : Ex → Ex
  | .mk o n w wd l => if o = 2 ∧ w = v ∧ l.length = 0 then b else .mk o n w wd (repls v b l)
where repls (v : Int) (b : Ex) : List Ex → List Ex
  | [] => []
  | e :: l => repl v b e :: repls v b l
theorem repls_map (v : Int) (b : Ex) : ∀ l, repl.repls v b l = l.map (repl v b)
  | [] => rfl
  | e :: l => by simp only [repl.repls, List.map_cons, repls_map v b l]
theorem repl_eq (v : Int) (b e : Ex) : repl v b e = if e.op = 2 ∧ e.v = v ∧ e.l.length = 0 then b else .mk e.op e.n e.v e.wd (e.l.map (repl v b)) := by
  obtain ⟨o, n, w, wd, l⟩ := e
  simp only [repl, repls_map]
  rfl
theorem replace_af (v : Int) (b : Ex) (hb : b.nodes ≤ 1000000000) : ∀ (e : Ex), e.nodes ≤ 1000000000 → AF Tryz.prog 48 [exA e, aI .i64 v, exA b] (exA (repl v b e)) := by
  intro x
  induction x using Ex.ind with
  | h x ih =>
    intro hn
    have hlen := x.nodes_len
    have n1 : x.l.length ≤ maxLen := by unfold maxLen; omega
    refine af_of Tryz.func48 rfl (by kernel_rfl) (by simp [Tryz.ntmps48]) fun _ => ?_
    simp [Tryz.f48]
    rw [repl_eq]
    by_cases hv : x.op = 2 ∧ x.v = v ∧ x.l.length = 0
    · rw [if_pos hv]
      simp [hv.1, hv.2.1, hv.2.2]
      refine aCall_of (own_af b hb) (by simp) (by simp [Ex.d_eq]) ?_; simp [Ex.d_eq]
    rw [if_neg hv]
    have hc : x.op ≠ 2 ∨ (x.op = 2 ∧ x.v ≠ v) ∨ (x.op = 2 ∧ x.v = v ∧ x.l.length ≠ 0) := by
      by_cases h1 : x.op = 2
      · by_cases h2 : x.v = v
        · exact .inr (.inr ⟨h1, h2, fun h3 => hv ⟨h1, h2, h3⟩⟩)
        · exact .inr (.inl ⟨h1, h2⟩)
      · exact .inl h1
    clear hv
    rcases hc with hc | ⟨hc, hc2⟩ | ⟨hc, hc2, hc3⟩
    case' inl => simp [hc]
    case' inr.inl => simp [hc, hc2]
    case' inr.inr => simp [hc, hc2, hc3]
    all_goals
      refine aCall_ofc (clone_ac _ (Ex.ds x.l) (by simp; omega)) (by simp) ?_
      rintro _ _ ⟨rfl, rfl⟩
      simp
      refine aLoop_of (α := Nat) (fun i e A => i ≤ x.l.length ∧ (∃ L : List Ex, A = [⟨0, true, 38, 5, [[aI .i64 x.op, aI .u32 x.n, aI .i64 x.v, aI .i64 x.wd, .own 3 1 0 x.l.length]]⟩, ⟨0, true, 38, 5, [[aI .i64 b.op, aI .u32 b.n, aI .i64 b.v, aI .i64 b.wd, .d (.sl 5 (Ex.ds b.l))]]⟩, ⟨0, true, 38, 5, [[aI .i64 0, aI .u32 0, aI .i64 0, aI .i64 0, .d (.v (.slice none 0 0))]]⟩, ⟨1, true, 38, 5, dEls (Ex.ds L)⟩] ∧ L.length = x.l.length ∧
          ∀ j : Nat, L[j]? = if j < i then (x.l[j]?).map (repl v b) else x.l[j]?) ∧
        e 32 = aI .i64 i ∧ e 31 = aI .i64 x.l.length ∧ e 1 = aI .i64 v ∧ e 3 = .ptr 0 0 0 0 ∧ e 5 = .ptr 1 0 0 0 ∧ e 6 = .ptr 2 0 0 0) (fun i => x.l.length - i) 0 (Sub.refl _ _ _)
        ⟨by omega, ⟨x.l, by simp [hc] <;> exact hc2.symm, rfl, by simp⟩, by simp, by simp, by simp, by simp, by simp, by simp⟩ ?_
      rintro i e A ⟨hi, ⟨L, rfl, hL, hLj⟩, e32, e31, e1, e3, e5, e6⟩ K hK
      rcases Nat.lt_or_ge i x.l.length with hlt | hge
      case inl =>
        obtain ⟨y, hy⟩ : ∃ y, x.l[i]? = some y := ⟨_, List.getElem?_eq_getElem hlt⟩
        have hLi : L[i]? = some y := by rw [hLj, if_neg (by omega), hy]
        have hLi2 := (List.getElem?_eq_some_iff.1 hLi).2
        have hlt' : i < L.length := by omega
        simp [e32, e31, hlt]
        refine adraw [] (by kernel_rfl) (by kernel_rfl) (by kernel_rfl) (by kernel_rfl) ?_
        simp [e32, e31, e1, e3, e5, hlt, hlt', hL, hLi, hLi2, Ex.d_eq]
        refine adC_of (ih y (List.mem_of_getElem? hy) (by have := Ex.nodes_mem (List.mem_of_getElem? hy); omega)) (by simp) trivial (by simp) (by simp) ?_
        have hL' : ∀ (z : Ex), (dEls (Ex.ds L)).set i [aI .i64 z.op, aI .u32 z.n, aI .i64 z.v, aI .i64 z.wd, .d (.sl 5 (Ex.ds z.l))] = dEls (Ex.ds (L.set i z)) := fun z => by
          rw [show [aI .i64 z.op, aI .u32 z.n, aI .i64 z.v, aI .i64 z.wd, .d (.sl 5 (Ex.ds z.l))] = (Ex.d z).map AV.d by simp [Ex.d_eq], dEls_set]
          simp [Ex.ds_map, List.map_set]
        have hset : ∀ j : Nat, (L.set i (repl v b y))[j]? = if j < i + 1 then (x.l[j]?).map (repl v b) else x.l[j]? := fun j => by
          rw [List.getElem?_set]
          by_cases hij : i = j
          · subst hij
            simp [hlt', hy]
          · rw [if_neg hij, hLj]
            by_cases hj : j < i
            · rw [if_pos hj, if_pos (by omega)]
            · rw [if_neg hj, if_neg (by omega)]
        simp [hlt, hlt', hL, hLi2, Ex.d_eq, hL', e32, succ_wrap hlt n1]
        refine hK (i + 1) _ _ _ _ (Sub.refl _ _ _) ⟨by omega, ⟨L.set i (repl v b y), by simp, by simpa using hL, hset⟩, by simp, by simp [e31], by simp [e1], by simp [e3], by simp [e5], by simp [e6]⟩ (by omega)
      obtain rfl : i = x.l.length := by omega
      obtain rfl : L = x.l.map (repl v b) := by
        refine List.ext_getElem? fun j => ?_
        rw [hLj, List.getElem?_map]
        by_cases hj : j < x.l.length
        · rw [if_pos hj]
        · rw [if_neg hj, List.getElem?_eq_none (by omega)]
          rfl
      have nl : NLeS (List.take x.l.length (Ex.ds (List.map (repl v b) x.l))) (Ex.ds (List.map (repl v b) x.l)) := by
        rw [List.take_of_length_le (by simp)]; exact NLeS.refl _
      simp [e32, e31, e3, e6, Ex.d_eq, hc]
      first | exact nl | exact ⟨hc2, nl⟩
end Go.Proofs.YtlidimmfpfockaaGreatDoor

/- Contract: the example of layer 19 holds. -/
namespace Go.Proofs.YtlidimmfpfockaaGreatDoor
open Go.RowKit
abbrev tE : Ex := eTwo 4 (eVar 2) (eCon 1)
abbrev tG (n : Int) : Gr := ⟨0, [⟨0, [⟨6, 0, 0, n, 0, 0, [], []⟩]⟩]⟩
theorem vars19 : AF Tryz.prog 52 [exA (eTwo 5 tE tE)] (.d (.sl 1 (i64s [2]))) := xres_af orc19_ok (lf := 100) (n := 60) (by kernel_rfl)
theorem size19 : AF Tryz.prog 53 [exA (eTwo 5 tE tE)] (aI .i64 7) := xres_af orc19_ok (lf := 100) (n := 60) (by kernel_rfl)
theorem print19a : AF Tryz.prog 16 [exA (eTwo 3 (eVar 1) (eCon 10))] (aS ⟨#[40, 114, 49, 32, 43, 32, 48, 120, 97, 41]⟩) := xres_af orc19_ok (lf := 100) (n := 60) (by kernel_rfl)
theorem print19b : AF Tryz.prog 16 [exA (eTwo 5 tE tE)] (aS ⟨#[40, 40, 114, 50, 32, 45, 32, 49, 41, 32, 42, 32, 40, 114, 50, 32, 45, 32, 49, 41, 41]⟩) := xres_af orc19_ok (lf := 100) (n := 60) (by kernel_rfl)
theorem print19c : AF Tryz.prog 16 [exA (.mk 18 0 0 1 [eVar 7])] (aS ⟨#[108, 111, 97, 100, 49, 40, 114, 55, 41]⟩) := xres_af orc19_ok (lf := 100) (n := 60) (by kernel_rfl)
theorem check19 : AF Tryz.prog 54 [exA (eVar (-1))] (aI .i64 2) := xres_af orc19_ok (lf := 100) (n := 60) (by kernel_rfl)
theorem checkg19a : AF Tryz.prog 55 [grV (tG 1)] (aI .i64 18) := xres_af orc19_ok (lf := 100) (n := 60) (by kernel_rfl)
theorem checkg19b : AF Tryz.prog 55 [grV (tG 0)] (aI .i64 0) := xres_af orc19_ok (lf := 100) (n := 60) (by kernel_rfl)
theorem fresh19 : AF Tryz.prog 57 [grV (tG 0)] (aI .i64 12) := xres_af orc19_ok (lf := 100) (n := 60) (by kernel_rfl)
theorem succ19 : AF Tryz.prog 58 [blV ⟨0, [⟨6, 0, 0, 0, 0, 0, [], []⟩]⟩] (.d (.sl 1 (i64s [0]))) := xres_af orc19_ok (lf := 100) (n := 60) (by kernel_rfl)
theorem printst19 : AF Tryz.prog 13 [stV ⟨6, 0, 0, 0, 0, 0, [], []⟩] (aS ⟨#[106, 117, 109, 112, 32, 48]⟩) := xres_af orc19_ok (lf := 100) (n := 60) (by kernel_rfl)
theorem l19ex_af : AF Tryz.prog 12 [] (aB true) := by
  refine af_of Tryz.func12 rfl (by kernel_rfl) (by simp [Tryz.ntmps12]) fun _ => ?_; simp [Tryz.f12, Ex.d_eq]
  refine aCall_of (var_af 1) (by simp) (by simp [Ex.d_eq]) ?_; simp [Ex.d_eq]
  refine aCall_of (var_af 1) (by simp) (by simp [Ex.d_eq]) ?_; simp [Ex.d_eq]
  refine aCall_of (two_af 5 (eVar 1) (eVar 1) (by simp) (by simp)) (by simp) (by simp [Ex.d_eq]) ?_; simp [Ex.d_eq]
  refine aCall_of (var_af 2) (by simp) (by simp [Ex.d_eq]) ?_; simp [Ex.d_eq]
  refine aCall_of (const_af 1) (by simp) (by simp [Ex.d_eq]) ?_; simp [Ex.d_eq]
  refine aCall_of (two_af 4 (eVar 2) (eCon 1) (by simp) (by simp)) (by simp) (by simp [Ex.d_eq]) ?_; simp [Ex.d_eq]
  have hr := replace_af 1 tE (by simp) (eTwo 5 (eVar 1) (eVar 1)) (by simp)
  rw [show repl 1 tE (eTwo 5 (eVar 1) (eVar 1)) = eTwo 5 tE tE by rfl] at hr
  refine aCall_of hr (by simp) (by simp [Ex.d_eq]) ?_; simp [Ex.d_eq]
  refine aCall_of vars19 (by simp) (by simp [Ex.d_eq]) ?_; simp [Ex.d_eq]
  refine aCall_of (var_af 1) (by simp) (by simp [Ex.d_eq]) ?_; simp [Ex.d_eq]
  refine aCall_of (const_af 10) (by simp) (by simp [Ex.d_eq]) ?_; simp [Ex.d_eq]
  refine aCall_of (two_af 3 (eVar 1) (eCon 10) (by simp) (by simp)) (by simp) (by simp [Ex.d_eq]) ?_; simp [Ex.d_eq]
  refine aCall_of print19a (by simp) (by simp [Ex.d_eq]) ?_; simp [Ex.d_eq]
  refine aCall_of print19b (by simp) (by simp [Ex.d_eq]) ?_; simp [Ex.d_eq]
  refine aCall_of size19 (by simp) (by simp [Ex.d_eq]) ?_; simp [Ex.d_eq]
  refine aCall_of (var_af (-1)) (by simp) (by simp [Ex.d_eq]) ?_; simp [Ex.d_eq]
  refine aCall_of check19 (by simp) (by simp [Ex.d_eq]) ?_; simp [Ex.d_eq]
  refine aCall_ofz [1, 2, 3, 4, 5, 6] checkg19a (by simp) (by simp [frz, Ex.d_eq, Bl.d_eq, St.d_eq]) ?_; simp [frz, Ex.d_eq]
  refine aCall_ofz [1, 2, 3, 4, 5, 6] checkg19b (by simp) (by simp [frz, Ex.d_eq, Bl.d_eq, St.d_eq]) ?_; simp [frz, Ex.d_eq]
  refine aCall_of (var_af 7) (by simp) (by simp [Ex.d_eq]) ?_; simp [Ex.d_eq]
  refine aCall_of (load_af 1 (eVar 7) (by simp)) (by simp) (by simp [Ex.d_eq]) ?_; simp [Ex.d_eq]
  refine aCall_of print19c (by simp) (by simp [Ex.d_eq]) ?_; simp [Ex.d_eq]
  refine aCall_of fresh19 (by simp) (by simp [Ex.d_eq, Bl.d_eq, St.d_eq]) ?_; simp [Ex.d_eq]
  refine aCall_of succ19 (by simp) (by simp [Ex.d_eq, Bl.d_eq, St.d_eq]) ?_; simp [Ex.d_eq]
  refine aCall_of printst19 (by simp) (by simp [Ex.d_eq, Bl.d_eq, St.d_eq]) ?_; simp [Ex.d_eq]
end Go.Proofs.YtlidimmfpfockaaGreatDoor

/- Contract: the law IlConstructors answers true. -/
namespace Go.Proofs.YtlidimmfpfockaaGreatDoor
open Go.RowKit
theorem r19load_af (n : Int) (a : Ex) : AF Tryz.prog 74 [aI .i64 n, exA a] (exA (.mk 18 0 0 n [a])) := by
  refine af_of Tryz.func74 rfl (by kernel_rfl) (by simp [Tryz.ntmps74]) fun _ => ?_
  simp [Tryz.f74, Ex.d_eq]
theorem ckv {e : Ex} {c : Prop} [Decidable c] (hd : e.depth ≤ 64) (hf : formB e = true ↔ c) : AF Tryz.prog 54 [exA e] (aI .i64 (if c then 0 else 2)) := by
  have := check_af e
  rw [if_pos ((shal_iff 64 e).2 hd)] at this
  simp only [hf] at this
  exact this
theorem rckv {e : Ex} (hd : e.depth ≤ 64) : AF Tryz.prog 30 [exA e] (aI .i64 (if formB e = true then 0 else 2)) := by
  have := rcheck_af e
  rw [if_pos ((shal_iff 64 e).2 hd)] at this
  exact this
theorem form_two_iff {op : Int} {a b : Ex} (fa : formB a = true) (fb : formB b = true) : formB (eTwo op a b) = true ↔ 3 ≤ op ∧ op ≤ 15 := by
  rw [formB_eq]
  simp only [eTwo_op, eTwo_n, eTwo_v, eTwo_wd, eTwo_l, List.all_cons, fa, fb, List.all_nil, Bool.and_true, List.length_cons, List.length_nil]
  unfold okE
  constructor
  · intro h
    by_cases hc : 3 ≤ op ∧ op ≤ 15
    · exact hc
    · exfalso
      revert h
      rw [if_neg hc]
      repeat' split
      all_goals simp
  · intro h
    rw [if_neg (by omega), if_neg (by omega), if_pos h]
    rfl
theorem form_load_iff {wd : Int} {a : Ex} (fa : formB a = true) : formB (.mk 18 0 0 wd [a]) = true ↔ wd = 1 ∨ wd = 2 ∨ wd = 4 := by
  rw [formB_eq]
  simp [okE, fa, or_assoc]
theorem form_var_iff {v : Int} : formB (eVar v) = true ↔ 0 ≤ v ∧ v < 65536 := by
  rw [formB_eq]
  simp [okE]
  constructor
  · rintro ⟨h1, h2⟩
    exact ⟨of_decide_eq_true h1, of_decide_eq_true h2⟩
  · rintro ⟨h1, h2⟩
    exact ⟨decide_eq_true h1, decide_eq_true h2⟩
end Go.Proofs.YtlidimmfpfockaaGreatDoor

/- Contract: the reference's Insert. -/
namespace Go.Proofs.YtlidimmfpfockaaGreatDoor
open Go.RowKit
/-- An expression's box. -/
abbrev bxE (e : Ex) : Blk := ⟨0, true, 38, 5, [[aI .i64 e.op, aI .u32 e.n, aI .i64 e.v, aI .i64 e.wd, .d (.sl 5 (Ex.ds e.l))]]⟩
/-- How many numbers stand ahead of n. -/
def lowN (n : Int) : List Int → Nat
  | [] => 0
  | a :: l => if a < n then lowN n l + 1 else 0
/-- A number put into an ascending list. -/
def insL (l : List Int) (n : Int) : List Int := if l[lowN n l]? = some n then l else l.take (lowN n l) ++ n :: l.drop (lowN n l)
theorem lowN_spec (n : Int) : ∀ l : List Int, lowN n l ≤ l.length ∧ (∀ (i : Nat) (a : Int), i < lowN n l → l[i]? = some a → a < n) ∧ ∀ a, l[lowN n l]? = some a → n ≤ a
  | [] => by simp [lowN]
  | b :: l => by
    obtain ⟨h1, h2, h3⟩ := lowN_spec n l
    by_cases h : b < n
    · simp only [lowN, if_pos h]
      refine ⟨by simp; omega, fun i a hi ha => ?_, fun a ha => h3 a (by simpa using ha)⟩
      cases i with
      | zero => simp at ha; omega
      | succ i => exact h2 i a (by omega) (by simpa using ha)
    · simp only [lowN, if_neg h]
      refine ⟨by omega, fun i a hi => by omega, fun a ha => by simp at ha; omega⟩
theorem i64s_take (l : List Int) (n : Nat) : (i64s l).take n = i64s (l.take n) := by simp [i64s]
theorem i64s_drop (l : List Int) (n : Nat) : (i64s l).drop n = i64s (l.drop n) := by simp [i64s]
theorem dEls_i64 (l : List Int) : (∀ x, x ∈ dEls (i64s l) → x.length = 1) ↔ True := by
  refine iff_true_intro fun x hx => ?_
  simp only [dEls, i64s, List.map_map, List.mem_map] at hx
  obtain ⟨n, _, rfl⟩ := hx
  rfl
end Go.Proofs.YtlidimmfpfockaaGreatDoor

/- Contract: il.Size, by il.visit with a closure that counts. -/
namespace Go.Proofs.YtlidimmfpfockaaGreatDoor
open Go.RowKit
abbrev cellI (n : Int) : Blk := ⟨0, true, 3, 1, [[aI .i64 n]]⟩
theorem size1_ac (x : Ex) (b0 : Blk) (n : Int) (N : AHeap) (h0 : 0 ≤ n) (hn : n ≤ 1000000000) :
    AC Tryz.prog 121 [exA x, .ptr 1 0 0 0] (b0 :: cellI n :: N) (fun r A' => r = .tup [] ∧ ∃ N', A' = b0 :: cellI (n + 1) :: (N ++ N')) := by
  refine ac_of Tryz.func121 rfl (by kernel_rfl) (by simp [Tryz.ntmps121]) fun hb => ?_
  simp [Tryz.f121, i64w (n := n + 1) (by omega)]
theorem visit_ac : ∀ (x : Ex) (b0 : Blk) (n : Int) (N : AHeap), 0 ≤ n → n + x.nodes ≤ 1000000000 →
    AC Tryz.prog 117 [exA x, .fn 121 [] [.ptr 1 0 0 0]] (b0 :: cellI n :: N) (fun r A' => r = .tup [] ∧ ∃ N', A' = b0 :: cellI (n + (x.nodes : Nat)) :: (N ++ N')) := by
  intro x
  induction x using Ex.ind with
  | h x ih =>
    intro b0 n N h0 hn
    have hlen := x.nodes_len
    have n1 : x.l.length ≤ maxLen := by unfold maxLen; omega
    have hne : x.nodes = Ex.nodess x.l + 1 := by cases x; rfl
    refine ac_of Tryz.func117 rfl (by kernel_rfl) (by simp [Tryz.ntmps117]) fun hb => ?_
    simp [Tryz.f117]
    refine aCall_ofc (size1_ac x b0 n _ h0 (by omega)) (by simp) ?_
    rintro _ _ ⟨rfl, N1, rfl⟩
    simp
    refine aLoop_of (α := Nat) (fun i e A => i ≤ x.l.length ∧ (∃ N', A = b0 :: cellI (n + 1 + (Ex.nodess (x.l.take i) : Nat)) :: (N ++ N')) ∧
      e 12 = aI .i64 i ∧ e 11 = aI .i64 x.l.length ∧ e 10 = .d (.sl 5 (Ex.ds x.l)) ∧ e 1 = .fn 121 [] [.ptr 1 0 0 0]) (fun i => x.l.length - i) 0 (Sub.refl _ _ _)
      ⟨by omega, ⟨_, by simp [Ex.nodess]; rfl⟩, by simp, by simp, by simp, by simp⟩ ?_
    rintro i e A ⟨hi, ⟨N', rfl⟩, e12, e11, e10, e1⟩ K hK
    rcases Nat.lt_or_ge i x.l.length with hlt | hge
    case inr =>
      obtain rfl : i = x.l.length := by omega
      rw [List.take_length]
      simp [e12, e11]
      rw [hne]
      simp
      omega
    obtain ⟨y, hy⟩ : ∃ y, x.l[i]? = some y := ⟨_, List.getElem?_eq_getElem hlt⟩
    have hy2 := (List.getElem?_eq_some_iff.1 hy).2
    have hm := Ex.nodess_mem (List.mem_of_getElem? hy)
    have ht := nodess_take hy
    have hle : Ex.nodess (x.l.take (i + 1)) ≤ Ex.nodess x.l := by
      have := List.take_append_drop (i + 1) x.l
      have h2 : Ex.nodess (x.l.take (i + 1) ++ x.l.drop (i + 1)) = Ex.nodess (x.l.take (i + 1)) + Ex.nodess (x.l.drop (i + 1)) := by
        generalize x.l.take (i + 1) = a
        induction a with
        | nil => simp [Ex.nodess]
        | cons y a iha => simp only [List.cons_append, Ex.nodess, iha]; omega
      rw [this] at h2
      omega
    simp [e12, e11, e10, e1, hlt, hy, hy2, Ex.d_eq]
    refine aCall_ofc (ih y (List.mem_of_getElem? hy) b0 (n + 1 + (Ex.nodess (x.l.take i) : Nat)) _ (by omega) (by omega)) (by simp) ?_
    rintro _ _ ⟨rfl, N2, rfl⟩
    simp [e12, succ_wrap hlt n1]
    refine hK (i + 1) _ _ _ _ (Sub.refl _ _ _) ⟨by omega, ⟨_, by rw [ht]; simp; constructor; omega; rfl⟩, by simp, by simp [e11], by simp [e10], by simp [e1]⟩ (by omega)
theorem ilsize_af (x : Ex) (hn : x.nodes ≤ 1000000000) : AF Tryz.prog 53 [exA x] (aI .i64 x.nodes) := by
  refine af_of Tryz.func53 rfl (by kernel_rfl) (by simp [Tryz.ntmps53]) fun _ => ?_
  simp [Tryz.f53]
  refine aCall_ofc (visit_ac x _ 0 [] (by omega) (by omega)) (by simp) ?_
  rintro _ _ ⟨rfl, N', rfl⟩
  simp
end Go.Proofs.YtlidimmfpfockaaGreatDoor

/- Contracts: the closures of il.Fresh, il.visit with them. -/
namespace Go.Proofs.YtlidimmfpfockaaGreatDoor
open Go.RowKit
abbrev cellF : Blk := ⟨0, true, 118, 1, [[.fn 125 [] [.ptr 1 0 0 0]]]⟩
/-- The first variable that is not used, after one more. -/
def seeI (n v : Int) : Int := if n ≤ v then (if 65535 < v then 65535 else v) + 1 else n
def seeE (n : Int) : Ex → Int
  | .mk o _ w _ l => seeEs (if o = 2 then seeI n w else n) l
where seeEs (n : Int) : List Ex → Int
  | [] => n
  | e :: l => seeEs (seeE n e) l
theorem seeI_range {n v : Int} (h0 : 0 ≤ n) (h1 : n ≤ 65536) : 0 ≤ seeI n v ∧ seeI n v ≤ 65536 := by
  unfold seeI
  split
  · split <;> omega
  · omega
theorem fresh1_ac (b0 b2 : Blk) (v n : Int) (N : AHeap) (h0 : 0 ≤ n) (h1 : n ≤ 65536) : AC Tryz.prog 125 [aI .i64 v, .ptr 1 0 0 0] (b0 :: cellI n :: b2 :: N) (fun r A' => r = .tup [] ∧ ∃ N', A' = b0 :: cellI (seeI n v) :: b2 :: (N ++ N')) := by
  refine ac_of Tryz.func125 rfl (by kernel_rfl) (by simp [Tryz.ntmps125]) fun hb => ?_
  have hr := seeI_range (v := v) h0 h1
  unfold seeI at *
  by_cases h : n ≤ v
  · rw [if_pos h] at hr ⊢
    simp [Tryz.f125, h]
    refine aRaw_min (k := .i64) (k' := .i64) (a := v) (b := 65535) (by simp) (by simp) ?_
    generalize (if 65535 < v then (65535 : Int) else v) = m at *
    simp [i64w (n := m + 1) (by omega)]
  · simp [Tryz.f125, h]
theorem fresh2_ac (x : Ex) (b0 : Blk) (n : Int) (N : AHeap) (h0 : 0 ≤ n) (h1 : n ≤ 65536) : AC Tryz.prog 126 [exA x, .ptr 2 0 0 0] (b0 :: cellI n :: cellF :: N) (fun r A' => r = .tup [] ∧ ∃ N', A' = b0 :: cellI (if x.op = 2 then seeI n x.v else n) :: cellF :: (N ++ N')) := by
  refine ac_of Tryz.func126 rfl (by kernel_rfl) (by simp [Tryz.ntmps126]) fun hb => ?_
  by_cases h : x.op = 2
  · simp [Tryz.f126, h]
    refine aCall_ofc (fresh1_ac b0 cellF x.v n _ h0 h1) (by simp) ?_
    rintro _ _ ⟨rfl, N1, rfl⟩
    simp
  · simp [Tryz.f126, h]
theorem seeE_range : ∀ (x : Ex) (n : Int), 0 ≤ n → n ≤ 65536 → 0 ≤ seeE n x ∧ seeE n x ≤ 65536 := by
  intro x
  induction x using Ex.ind with
  | h x ih =>
  obtain ⟨o, k, w, wd, l⟩ := x
  intro n h0 h1
  have hl : ∀ l : List Ex, (∀ x ∈ l, ∀ (n : Int), 0 ≤ n → n ≤ 65536 → 0 ≤ seeE n x ∧ seeE n x ≤ 65536) → ∀ n : Int, 0 ≤ n → n ≤ 65536 → 0 ≤ seeE.seeEs n l ∧ seeE.seeEs n l ≤ 65536 := by
    intro l
    induction l with
    | nil => intro _ n h0 h1; simp only [seeE.seeEs]; omega
    | cons a l ihl =>
      intro h n h0 h1
      have := h a (by simp) n h0 h1
      simp only [seeE.seeEs]
      exact ihl (fun x hx => h x (by simp [hx])) _ this.1 this.2
  simp only [seeE]
  have hr := seeI_range (v := w) h0 h1
  split
  · exact hl l ih _ hr.1 hr.2
  · exact hl l ih _ h0 h1
theorem seeEs_take {l : List Ex} {i : Nat} {x : Ex} (h : l[i]? = some x) (n : Int) : seeE.seeEs n (l.take (i + 1)) = seeE (seeE.seeEs n (l.take i)) x := by
  induction l generalizing i n with
  | nil => simp at h
  | cons a l ih =>
    cases i with
    | zero => simp at h; subst h; simp [seeE.seeEs]
    | succ i => simp only [List.take_succ_cons, seeE.seeEs, ih (by simpa using h)]
theorem seeEs_range : ∀ (l : List Ex) (n : Int), 0 ≤ n → n ≤ 65536 → 0 ≤ seeE.seeEs n l ∧ seeE.seeEs n l ≤ 65536
  | [], n, h0, h1 => by simp only [seeE.seeEs]; omega
  | a :: l, n, h0, h1 => by
    have := seeE_range a n h0 h1
    simp only [seeE.seeEs]
    exact seeEs_range l _ this.1 this.2
theorem visitF_ac : ∀ (x : Ex) (b0 : Blk) (n : Int) (N : AHeap), 0 ≤ n → n ≤ 65536 → x.nodes ≤ 1000000000 →
    AC Tryz.prog 117 [exA x, .fn 126 [] [.ptr 2 0 0 0]] (b0 :: cellI n :: cellF :: N) (fun r A' => r = .tup [] ∧ ∃ N', A' = b0 :: cellI (seeE n x) :: cellF :: (N ++ N')) := by
  intro x
  induction x using Ex.ind with
  | h x ih =>
    intro b0 n N h0 h1 hn
    have hlen := x.nodes_len
    have n1 : x.l.length ≤ maxLen := by unfold maxLen; omega
    have hne : seeE n x = seeE.seeEs (if x.op = 2 then seeI n x.v else n) x.l := by cases x; rfl
    rw [hne]
    have hr : 0 ≤ (if x.op = 2 then seeI n x.v else n) ∧ (if x.op = 2 then seeI n x.v else n) ≤ 65536 := by
      split
      · exact seeI_range h0 h1
      · omega
    have c2 := fun N => fresh2_ac x b0 n N h0 h1
    generalize (if x.op = 2 then seeI n x.v else n) = m at *
    refine ac_of Tryz.func117 rfl (by kernel_rfl) (by simp [Tryz.ntmps117]) fun hb => ?_
    simp [Tryz.f117]
    refine aCall_ofc (c2 _) (by simp) ?_
    rintro _ _ ⟨rfl, N1, rfl⟩
    simp
    refine aLoop_of (α := Nat) (fun i e A => i ≤ x.l.length ∧ (∃ N', A = b0 :: cellI (seeE.seeEs m (x.l.take i)) :: cellF :: (N ++ N')) ∧
      e 12 = aI .i64 i ∧ e 11 = aI .i64 x.l.length ∧ e 10 = .d (.sl 5 (Ex.ds x.l)) ∧ e 1 = .fn 126 [] [.ptr 2 0 0 0]) (fun i => x.l.length - i) 0 (Sub.refl _ _ _)
      ⟨by omega, ⟨_, by simp [seeE.seeEs]; rfl⟩, by simp, by simp, by simp, by simp⟩ ?_
    rintro i e A ⟨hi, ⟨N', rfl⟩, e12, e11, e10, e1⟩ K hK
    rcases Nat.lt_or_ge i x.l.length with hlt | hge
    case inr =>
      obtain rfl : i = x.l.length := by omega
      rw [List.take_length]
      simp [e12, e11]
    obtain ⟨y, hy⟩ : ∃ y, x.l[i]? = some y := ⟨_, List.getElem?_eq_getElem hlt⟩
    have hy2 := (List.getElem?_eq_some_iff.1 hy).2
    have hm := Ex.nodes_mem (List.mem_of_getElem? hy)
    have ht := seeEs_take hy m
    have hrr := seeEs_range (x.l.take i) m hr.1 hr.2
    rw [show x.l.take (i + 1) = x.l.take (i + 1) from rfl] at ht
    generalize hq : seeE.seeEs m (x.l.take i) = q at *
    simp [e12, e11, e10, e1, hlt, hy, hy2, Ex.d_eq]
    refine aCall_ofc (ih y (List.mem_of_getElem? hy) b0 q _ hrr.1 hrr.2 (by omega)) (by simp) ?_
    rintro _ _ ⟨rfl, N2, rfl⟩
    simp [e12, succ_wrap hlt n1]
    refine hK (i + 1) _ _ _ _ (Sub.refl _ _ _) ⟨by omega, ⟨_, by rw [ht]⟩, by simp, by simp [e11], by simp [e10], by simp [e1]⟩ (by omega)
end Go.Proofs.YtlidimmfpfockaaGreatDoor

/- The variables of an expression: in the order in which they stand; ascending, each once. No program in sight. -/
namespace Go.Proofs.YtlidimmfpfockaaGreatDoor
open Go.RowKit
/-- The variables, in the order in which they stand. -/
def occ : Ex → List Int
  | .mk o _ w _ l => (if o = 2 then [w] else []) ++ occs l
where occs : List Ex → List Int
  | [] => []
  | e :: l => occ e ++ occs l
/-- The variables, ascending, each once. -/
def varsR : Ex → List Int
  | .mk o _ w _ l => varsRs (if o = 2 then [w] else []) l
where varsRs (out : List Int) : List Ex → List Int
  | [] => out
  | e :: l => varsRs ((varsR e).foldl insL out) l
theorem occ_eq (e : Ex) : occ e = (if e.op = 2 then [e.v] else []) ++ occ.occs e.l := by cases e; rfl
theorem varsR_eq (e : Ex) : varsR e = varsR.varsRs (if e.op = 2 then [e.v] else []) e.l := by cases e; rfl
def Asc (l : List Int) : Prop := l.Pairwise (· < ·)
def insR (n : Int) : List Int → List Int
  | [] => [n]
  | a :: l => if a < n then a :: insR n l else if a = n then a :: l else n :: a :: l
theorem insL_eq (n : Int) : ∀ l : List Int, insL l n = insR n l
  | [] => by simp [insL, insR, lowN]
  | a :: l => by
    have ih := insL_eq n l
    unfold insL at ih ⊢
    by_cases h : a < n
    · simp only [lowN, if_pos h, insR, List.getElem?_cons_succ, List.take_succ_cons, List.drop_succ_cons]
      rw [← ih]
      split <;> simp
    · simp only [lowN, if_neg h, insR, List.getElem?_cons_zero, List.take_zero, List.drop_zero, Option.some.injEq, List.nil_append]
theorem insR_mem (n v : Int) : ∀ l : List Int, v ∈ insR n l ↔ v = n ∨ v ∈ l
  | [] => by simp [insR]
  | a :: l => by
    simp only [insR]
    split
    · simp only [List.mem_cons, insR_mem n v l]
      constructor
      · rintro (h | h | h)
        · exact .inr (.inl h)
        · exact .inl h
        · exact .inr (.inr h)
      · rintro (h | h | h)
        · exact .inr (.inl h)
        · exact .inl h
        · exact .inr (.inr h)
    · split
      · rename_i h
        subst h
        simp only [List.mem_cons]
        constructor
        · exact .inr
        · rintro (h | h)
          · exact .inl h
          · exact h
      · simp only [List.mem_cons]
theorem insR_asc (n : Int) : ∀ {l : List Int}, Asc l → Asc (insR n l)
  | [], _ => by simp [insR, Asc]
  | a :: l, h => by
    obtain ⟨h1, h2⟩ := List.pairwise_cons.1 h
    have ih := insR_asc n h2
    simp only [insR]
    split
    · refine List.pairwise_cons.2 ⟨fun v hv => ?_, ih⟩
      rcases (insR_mem n v l).1 hv with rfl | hv
      · assumption
      · exact h1 v hv
    · split
      · exact h
      · refine List.pairwise_cons.2 ⟨fun v hv => ?_, h⟩
        rcases List.mem_cons.1 hv with rfl | hv
        · omega
        · have := h1 v hv
          omega
theorem insR_len (n : Int) : ∀ l : List Int, (insR n l).length ≤ l.length + 1
  | [] => by simp [insR]
  | a :: l => by
    have := insR_len n l
    simp only [insR]
    split
    · simp; omega
    · split <;> simp
theorem insL_mem {n v : Int} {l : List Int} : v ∈ insL l n ↔ v = n ∨ v ∈ l := by rw [insL_eq, insR_mem]
theorem insL_asc {n : Int} {l : List Int} (h : Asc l) : Asc (insL l n) := by rw [insL_eq]; exact insR_asc n h
theorem insL_len (l : List Int) (n : Int) : (insL l n).length ≤ l.length + 1 := by rw [insL_eq]; exact insR_len n l
theorem fold_mem {v : Int} : ∀ {m l : List Int}, v ∈ m.foldl insL l ↔ v ∈ l ∨ v ∈ m
  | [], l => by simp
  | a :: m, l => by
    simp only [List.foldl_cons, fold_mem (m := m), insL_mem, List.mem_cons]
    constructor
    · rintro ((h | h) | h)
      · exact .inr (.inl h)
      · exact .inl h
      · exact .inr (.inr h)
    · rintro (h | h | h)
      · exact .inl (.inr h)
      · exact .inl (.inl h)
      · exact .inr h
theorem fold_asc : ∀ {m l : List Int}, Asc l → Asc (m.foldl insL l)
  | [], _, h => h
  | a :: m, l, h => by
    rw [List.foldl_cons]
    exact fold_asc (m := m) (insL_asc h)
theorem fold_len : ∀ (m l : List Int), (m.foldl insL l).length ≤ l.length + m.length
  | [], l => by simp
  | a :: m, l => by
    have h1 := fold_len m (insL l a)
    have h2 := insL_len l a
    simp only [List.foldl_cons, List.length_cons]
    omega
theorem varsR_all : ∀ e : Ex, (∀ v, v ∈ varsR e ↔ v ∈ occ e) ∧ Asc (varsR e) ∧ (varsR e).length ≤ e.nodes := by
  intro e
  induction e using Ex.ind with
  | h e ih =>
  have hl : ∀ (l : List Ex), (∀ x ∈ l, (∀ v, v ∈ varsR x ↔ v ∈ occ x) ∧ Asc (varsR x) ∧ (varsR x).length ≤ x.nodes) → ∀ out : List Int, Asc out →
      (∀ v, v ∈ varsR.varsRs out l ↔ v ∈ out ∨ v ∈ occ.occs l) ∧ Asc (varsR.varsRs out l) ∧ (varsR.varsRs out l).length ≤ out.length + Ex.nodess l := by
    intro l
    induction l with
    | nil => intro _ out h; simp [varsR.varsRs, occ.occs, h]
    | cons a l ihl =>
      intro h out ho
      obtain ⟨a1, a2, a3⟩ := h a (by simp)
      obtain ⟨b1, b2, b3⟩ := ihl (fun x hx => h x (by simp [hx])) ((varsR a).foldl insL out) (fold_asc ho)
      have b4 := fold_len (varsR a) out
      refine ⟨fun v => ?_, b2, ?_⟩
      · simp only [varsR.varsRs, occ.occs, b1 v, fold_mem, a1 v, List.mem_append]
        exact or_assoc
      · simp only [varsR.varsRs, Ex.nodess]
        omega
  have h0 : Asc (if e.op = 2 then [e.v] else []) := by split <;> simp [Asc]
  have h1 : (if e.op = 2 then [e.v] else []).length ≤ 1 := by split <;> simp
  obtain ⟨c1, c2, c3⟩ := hl e.l ih _ h0
  have hne : e.nodes = Ex.nodess e.l + 1 := by cases e; rfl
  rw [varsR_eq, occ_eq, hne]
  refine ⟨fun v => by rw [c1 v, List.mem_append], c2, by omega⟩
theorem varsR_mem {e : Ex} {v : Int} : v ∈ varsR e ↔ v ∈ occ e := (varsR_all e).1 v
theorem varsR_asc (e : Ex) : Asc (varsR e) := (varsR_all e).2.1
theorem varsR_len (e : Ex) : (varsR e).length ≤ e.nodes := (varsR_all e).2.2
theorem varsRs_take {l : List Ex} {i : Nat} {x : Ex} (h : l[i]? = some x) (out : List Int) : varsR.varsRs out (l.take (i + 1)) = (varsR x).foldl insL (varsR.varsRs out (l.take i)) := by
  induction l generalizing i out with
  | nil => simp at h
  | cons a l ih =>
    cases i with
    | zero => simp at h; subst h; simp [varsR.varsRs]
    | succ i => simp only [List.take_succ_cons, varsR.varsRs, ih (by simpa using h)]
theorem varsRs_len : ∀ (l : List Ex) (out : List Int), (varsR.varsRs out l).length ≤ out.length + Ex.nodess l
  | [], out => by simp [varsR.varsRs]
  | a :: l, out => by
    have h1 := varsRs_len l ((varsR a).foldl insL out)
    have h2 := fold_len (varsR a) out
    have h3 := varsR_len a
    simp only [varsR.varsRs, Ex.nodess]
    omega
/-- Ascending lists of the same members are the same. -/
theorem asc_ext : ∀ {l m : List Int}, Asc l → Asc m → (∀ v, v ∈ l ↔ v ∈ m) → l = m
  | [], [], _, _, _ => rfl
  | [], b :: m, _, _, h => absurd ((h b).2 (by simp)) (by simp)
  | a :: l, [], _, _, h => absurd ((h a).1 (by simp)) (by simp)
  | a :: l, b :: m, h1, h2, h => by
    obtain ⟨p1, p2⟩ := List.pairwise_cons.1 h1
    obtain ⟨q1, q2⟩ := List.pairwise_cons.1 h2
    have e1 : a = b := by
      have x := (h a).1 (by simp)
      have y := (h b).2 (by simp)
      rcases List.mem_cons.1 x with rfl | x
      · rfl
      rcases List.mem_cons.1 y with rfl | y
      · rfl
      have := q1 a x
      have := p1 b y
      omega
    subst e1
    rw [asc_ext p2 q2 fun v => ?_]
    constructor
    · intro hv
      have := p1 v hv
      rcases List.mem_cons.1 ((h v).1 (by simp [hv])) with rfl | hv
      · omega
      · exact hv
    · intro hv
      have := q1 v hv
      rcases List.mem_cons.1 ((h v).2 (by simp [hv])) with rfl | hv
      · omega
      · exact hv
theorem asc_last {l : List Int} {M : Int} (h : Asc l) (hM : l.getLast? = some M) : M ∈ l ∧ ∀ v ∈ l, v ≤ M := by
  obtain ⟨ys, rfl⟩ := List.getLast?_eq_some_iff.1 hM
  refine ⟨by simp, fun v hv => ?_⟩
  rcases List.mem_append.1 hv with hv | hv
  · have := (List.pairwise_append.1 h).2.2 v hv M (by simp)
    omega
  · simp at hv
    omega
theorem seeE_occ : ∀ (e : Ex) (n : Int), seeE n e = (occ e).foldl seeI n := by
  intro e
  induction e using Ex.ind with
  | h e ih =>
  obtain ⟨o, k, w, wd, l⟩ := e
  intro n
  have hl : ∀ l : List Ex, (∀ x ∈ l, ∀ n : Int, seeE n x = (occ x).foldl seeI n) → ∀ n : Int, seeE.seeEs n l = (occ.occs l).foldl seeI n := by
    intro l
    induction l with
    | nil => intro _ n; rfl
    | cons a l ihl => intro h n; simp only [seeE.seeEs, occ.occs, List.foldl_append, h a (by simp), ihl fun x hx => h x (by simp [hx])]
  simp only [seeE, occ, List.foldl_append, hl l ih]
  split <;> rfl
theorem seeI_max {n v : Int} (h : n ≤ 65536) : seeI n v = max n (min v 65535 + 1) := by
  unfold seeI
  split
  · split <;> omega
  · omega
/-- The greatest variable decides. -/
theorem foldl_see {M : Int} : ∀ {L : List Int} {n : Int}, n ≤ 65536 → M ∈ L → (∀ v ∈ L, v ≤ M) → L.foldl seeI n = seeI n M
  | [], n, _, h, _ => by cases h
  | a :: L, n, hn, hM, hle => by
    have ha := hle a (by simp)
    have h1 := seeI_max (v := a) hn
    rw [List.foldl_cons]
    by_cases hL : M ∈ L
    · rw [foldl_see (n := seeI n a) (by omega) hL fun v hv => hle v (by simp [hv]), seeI_max (n := seeI n a) (v := M) (by omega), seeI_max (v := M) hn]
      omega
    · obtain rfl : M = a := by
        rcases List.mem_cons.1 hM with h | h
        · exact h
        · exact absurd h hL
      have : ∀ (L : List Int) (k : Int), k ≤ 65536 → min M 65535 + 1 ≤ k → (∀ v ∈ L, v ≤ M) → L.foldl seeI k = k := by
        intro L
        induction L with
        | nil => intro k _ _ _; rfl
        | cons b L ihL =>
          intro k h1 h2 h3
          have hb := h3 b (by simp)
          have : seeI k b = k := by rw [seeI_max h1]; omega
          rw [List.foldl_cons, this]
          exact ihL k h1 h2 fun v hv => h3 v (by simp [hv])
      exact this L _ (by omega) (by omega) fun v hv => hle v (by simp [hv])
/-- What the reference sees of an expression: its greatest variable. -/
theorem see_last {e : Ex} {n : Int} (hn : n ≤ 65536) : seeE n e = match (varsR e).getLast? with
    | some M => seeI n M
    | none => n := by
  rw [seeE_occ]
  cases h : (varsR e).getLast? with
  | none =>
    have h0 : varsR e = [] := List.getLast?_eq_none_iff.1 h
    have : occ e = [] := List.eq_nil_iff_forall_not_mem.2 fun v hv => by
      have := varsR_mem.2 hv
      rw [h0] at this
      cases this
    rw [this]
    rfl
  | some M =>
    obtain ⟨h1, h2⟩ := asc_last (varsR_asc e) h
    exact foldl_see hn (varsR_mem.1 h1) fun v hv => h2 v (varsR_mem.2 hv)
end Go.Proofs.YtlidimmfpfockaaGreatDoor

/- Contract: the reference's Vars. -/
namespace Go.Proofs.YtlidimmfpfockaaGreatDoor
open Go.RowKit
theorem fold_take (l : List Int) (k : Nat) (n : Int) (o : List Int) (h : l[k]? = some n) : (l.take (k + 1)).foldl insL o = insL ((l.take k).foldl insL o) n := by
  rw [List.take_add_one, h, List.foldl_append]
  rfl
end Go.Proofs.YtlidimmfpfockaaGreatDoor
