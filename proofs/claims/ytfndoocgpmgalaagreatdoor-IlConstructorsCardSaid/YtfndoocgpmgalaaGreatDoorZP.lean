/- Texts that the claim leans on, laid one behind the other: Ma, Mc, Mb, Mg, Mh, Mf. -/
import Derived.Test.YtfndoocgpmgalaaGreatDoorZD
import Derived.Test.YtfndoocgpmgalaaGreatDoorAn
import Derived.WalkMore
import Derived.BigFrame
import Derived.Test.YtfndoocgpmgalaaGreatDoorZB
import Derived.Test.YtfndoocgpmgalaaGreatDoorAs
import Derived.Test.YtfndoocgpmgalaaGreatDoorZM
import Derived.Test.YtfndoocgpmgalaaGreatDoorAu
import Derived.Test.YtfndoocgpmgalaaGreatDoorZK
import Derived.Test.YtfndoocgpmgalaaGreatDoorZG
set_option linter.unusedSimpArgs false
set_option linter.unusedVariables false
set_option linter.unnecessarySimpa false
/- Contract: math/bits.TrailingZeros64(16), off the table that the row lists; the calls that the example of layer 19 takes by contract. -/
namespace Go.Proofs.YtfndoocgpmgalaaGreatDoor
open Go.RowKit
theorem tz64_16 (w : World) (hG : GbIs w) : Calls Tryz.prog 193 #[.int .u64 16] w fun e w' => e = .returned (.int .i64 4) ∧ w' = w := by
  have hc : w.cell? ⟨3, 15, none⟩ = some (.int .u8 4) := (hG (3, deB64.map fun z => Value.int .u8 z) (by simp [GB])).2 15 _ (by simp [deB64])
  have hi : IntKind.u64.wrap (bits BinOp.and IntKind.u64 16 (IntKind.u64.wrap (-16)) * 285870213051353865) / 288230376151711744 = 15 := by decide +kernel
  go_enter Tryz.func193, Tryz.ntmps193
  go_wp2
  · go_ret
    exact ⟨rfl, rfl⟩
theorem tz64_af : AF Tryz.prog 193 [aI .u64 16] (aI .i64 4) := by
  intro H w vs hH hs hm
  simp only [ShpL] at hs
  obtain ⟨u1, l1, rfl, s1, rfl⟩ := hs
  simp only [Shp] at s1
  subst s1
  refine (tz64_16 w hH.2.1).mono ?_
  rintro en w' ⟨rfl, rfl⟩
  exact ⟨_, rfl, ⟨by simp [Shp], by simp [Mem, Rd, Value.oneCell']⟩, Ext.refl _⟩
/-- Strings, out of a slice's elements. -/
def strsOf : List (List D) → Option (List ByteArray)
  | [] => some []
  | [.v (.string s)] :: l => (strsOf l).map (s :: ·)
  | _ :: _ => none
theorem strsOf_spec : ∀ {l : List (List D)} {m : List ByteArray}, strsOf l = some m → l = strs m
  | [], m, h => by simp [strsOf] at h; subst h; rfl
  | [.v (.string s)] :: l, m, h => by
    simp only [strsOf, Option.map_eq_some_iff] at h
    obtain ⟨m', h', rfl⟩ := h
    rw [strsOf_spec h']
    rfl
/-- The calls that are taken by contract. -/
def orc19 : XF := fun f args A =>
  if f = 67 then (match omap (reiV false A 9) args with
    | some [.d (.sl 1 xs)] => (match strsOf xs with
      | some l => if (l.flatMap fun x => x.data.toList).length ≤ 1000000000 ∧ l.length ≤ 1000000000 then some (aS (cat l), A) else none
      | none => none)
    | _ => none)
  else if f = 70 then (match args with
    | [.d (.v (.int .i64 (.ofNat n)))] => if n < 10 then some (aS ⟨#[UInt8.ofNat (48 + n)]⟩, A) else none
    | _ => none)
  else if f = 193 then (match args with
    | [.d (.v (.int .u64 n))] => if n = 16 then some (aI .i64 4, A) else none
    | _ => none)
  else none
theorem orc19_ok : XFok Tryz.prog orc19 := by
  intro f args A r A' h
  unfold orc19 at h
  split at h
  · rename_i hf
    subst hf
    split at h
    · rename_i xs h0
      split at h
      · rename_i l hl
        split at h
        · rename_i hc
          simp only [Option.some.injEq, Prod.mk.injEq] at h
          obtain ⟨rfl, rfl⟩ := h
          obtain rfl := strsOf_spec hl
          exact ⟨by kernel_rfl, AF.acs (iljoin_af l hc.1 hc.2) (by rw [h0]; exact NLeL.refl _) rfl⟩
        · cases h
      · cases h
    · cases h
  · split at h
    · rename_i hf
      subst hf
      split at h
      · rename_i n
        split at h
        · rename_i hn
          simp only [Option.some.injEq, Prod.mk.injEq] at h
          obtain ⟨rfl, rfl⟩ := h
          have h1 := itoa_af n (by omega)
          have h2 : Lib.decDigits n = [UInt8.ofNat (48 + n)] := by rw [Lib.decDigits]; simp; omega
          rw [h2] at h1
          exact ⟨by kernel_rfl, AF.acs h1 (by simp [omap, reiV, argO]) rfl⟩
        · cases h
      · cases h
    · split at h
      · rename_i hf
        subst hf
        split at h
        · split at h
          · rename_i hn
            subst hn
            simp only [Option.some.injEq, Prod.mk.injEq] at h
            obtain ⟨rfl, rfl⟩ := h
            exact ⟨by kernel_rfl, AF.acs tz64_af (by simp [omap, reiV, argO]) rfl⟩
          · cases h
        · cases h
      · cases h
end Go.Proofs.YtfndoocgpmgalaaGreatDoor

/- Contracts: il.Load, il.Replace. -/
namespace Go.Proofs.YtfndoocgpmgalaaGreatDoor
open Go.RowKit
theorem load_af (n : Int) (a : Ex) (ha : a.nodes ≤ 1000000000) : AF Tryz.prog 27 [aI .i64 n, exA a] (exA (.mk 18 0 0 n [a])) := by
  refine af_of Tryz.func27 rfl (by kernel_rfl) (by simp [Tryz.ntmps27]) fun _ => ?_
  simp [Tryz.f27]
  refine aCall_of (own_af a ha) (by simp) (by simp [Ex.d_eq]) ?_
  simp [Ex.d_eq]
/-- A variable replaced by an expression. -/
def repl (v : Int) (b : Ex) : Ex → Ex
  | .mk o n w wd l => if o = 2 ∧ w = v ∧ l.length = 0 then b else .mk o n w wd (repls v b l)
where repls (v : Int) (b : Ex) : List Ex → List Ex
  | [] => []
  | e :: l => repl v b e :: repls v b l
theorem repls_map (v : Int) (b : Ex) : ∀ l, repl.repls v b l = l.map (repl v b)
  | [] => rfl
  | e :: l => by simp only [repl.repls, List.map_cons, repls_map v b l]
theorem repl_eq (v : Int) (b e : Ex) : repl v b e = if e.op = 2 ∧ e.v = v ∧ e.l.length = 0 then b else .mk e.op e.n e.v e.wd (e.l.map (repl v b)) := by
  obtain ⟨o, n, w, wd, l⟩ := e
  simp only [repl, repls_map]
  rfl
theorem replace_af (v : Int) (b : Ex) (hb : b.nodes ≤ 1000000000) : ∀ (e : Ex), e.nodes ≤ 1000000000 → AF Tryz.prog 16 [exA e, aI .i64 v, exA b] (exA (repl v b e)) := by
  intro x
  induction x using Ex.ind with
  | h x ih =>
    intro hn
    have hlen := x.nodes_len
    have n1 : x.l.length ≤ maxLen := by unfold maxLen; omega
    refine af_of Tryz.func16 rfl (by kernel_rfl) (by simp [Tryz.ntmps16]) fun _ => ?_
    simp [Tryz.f16]
    rw [repl_eq]
    by_cases hv : x.op = 2 ∧ x.v = v ∧ x.l.length = 0
    · rw [if_pos hv]
      simp [hv.1, hv.2.1, hv.2.2]
      refine aCall_of (own_af b hb) (by simp) (by simp [Ex.d_eq]) ?_; simp [Ex.d_eq]
    rw [if_neg hv]
    have hc : x.op ≠ 2 ∨ (x.op = 2 ∧ x.v ≠ v) ∨ (x.op = 2 ∧ x.v = v ∧ x.l.length ≠ 0) := by
      by_cases h1 : x.op = 2
      · by_cases h2 : x.v = v
        · exact .inr (.inr ⟨h1, h2, fun h3 => hv ⟨h1, h2, h3⟩⟩)
        · exact .inr (.inl ⟨h1, h2⟩)
      · exact .inl h1
    clear hv
    rcases hc with hc | ⟨hc, hc2⟩ | ⟨hc, hc2, hc3⟩
    case' inl => simp [hc]
    case' inr.inl => simp [hc, hc2]
    case' inr.inr => simp [hc, hc2, hc3]
    all_goals
      refine aCall_ofc (clone_ac _ (Ex.ds x.l) (by simp; omega)) (by simp) ?_
      rintro _ _ ⟨rfl, rfl⟩
      simp
      refine aLoop_of (α := Nat) (fun i e A => i ≤ x.l.length ∧ (∃ L : List Ex, A = [⟨0, true, 25, 5, [[aI .i64 x.op, aI .u32 x.n, aI .i64 x.v, aI .i64 x.wd, .own 3 1 0 x.l.length]]⟩, ⟨0, true, 25, 5, [[aI .i64 b.op, aI .u32 b.n, aI .i64 b.v, aI .i64 b.wd, .d (.sl 5 (Ex.ds b.l))]]⟩, ⟨0, true, 25, 5, [[aI .i64 0, aI .u32 0, aI .i64 0, aI .i64 0, .d (.v (.slice none 0 0))]]⟩, ⟨1, true, 25, 5, dEls (Ex.ds L)⟩] ∧ L.length = x.l.length ∧
          ∀ j : Nat, L[j]? = if j < i then (x.l[j]?).map (repl v b) else x.l[j]?) ∧
        e 32 = aI .i64 i ∧ e 31 = aI .i64 x.l.length ∧ e 1 = aI .i64 v ∧ e 3 = .ptr 0 0 0 0 ∧ e 5 = .ptr 1 0 0 0 ∧ e 6 = .ptr 2 0 0 0) (fun i => x.l.length - i) 0 (Sub.refl _ _ _)
        ⟨by omega, ⟨x.l, by simp [hc] <;> exact hc2.symm, rfl, by simp⟩, by simp, by simp, by simp, by simp, by simp, by simp⟩ ?_
      rintro i e A ⟨hi, ⟨L, rfl, hL, hLj⟩, e32, e31, e1, e3, e5, e6⟩ K hK
      rcases Nat.lt_or_ge i x.l.length with hlt | hge
      case inl =>
        obtain ⟨y, hy⟩ : ∃ y, x.l[i]? = some y := ⟨_, List.getElem?_eq_getElem hlt⟩
        have hLi : L[i]? = some y := by rw [hLj, if_neg (by omega), hy]
        have hLi2 := (List.getElem?_eq_some_iff.1 hLi).2
        have hlt' : i < L.length := by omega
        simp [e32, e31, hlt]
        refine adraw [] (by kernel_rfl) (by kernel_rfl) (by kernel_rfl) (by kernel_rfl) ?_
        simp [e32, e31, e1, e3, e5, hlt, hlt', hL, hLi, hLi2, Ex.d_eq]
        refine adC_of (ih y (List.mem_of_getElem? hy) (by have := Ex.nodes_mem (List.mem_of_getElem? hy); omega)) (by simp) trivial (by simp) (by simp) ?_
        have hL' : ∀ (z : Ex), (dEls (Ex.ds L)).set i [aI .i64 z.op, aI .u32 z.n, aI .i64 z.v, aI .i64 z.wd, .d (.sl 5 (Ex.ds z.l))] = dEls (Ex.ds (L.set i z)) := fun z => by
          rw [show [aI .i64 z.op, aI .u32 z.n, aI .i64 z.v, aI .i64 z.wd, .d (.sl 5 (Ex.ds z.l))] = (Ex.d z).map AV.d by simp [Ex.d_eq], dEls_set]
          simp [Ex.ds_map, List.map_set]
        have hset : ∀ j : Nat, (L.set i (repl v b y))[j]? = if j < i + 1 then (x.l[j]?).map (repl v b) else x.l[j]? := fun j => by
          rw [List.getElem?_set]
          by_cases hij : i = j
          · subst hij
            simp [hlt', hy]
          · rw [if_neg hij, hLj]
            by_cases hj : j < i
            · rw [if_pos hj, if_pos (by omega)]
            · rw [if_neg hj, if_neg (by omega)]
        simp [hlt, hlt', hL, hLi2, Ex.d_eq, hL', e32, succ_wrap hlt n1]
        refine hK (i + 1) _ _ _ _ (Sub.refl _ _ _) ⟨by omega, ⟨L.set i (repl v b y), by simp, by simpa using hL, hset⟩, by simp, by simp [e31], by simp [e1], by simp [e3], by simp [e5], by simp [e6]⟩ (by omega)
      obtain rfl : i = x.l.length := by omega
      obtain rfl : L = x.l.map (repl v b) := by
        refine List.ext_getElem? fun j => ?_
        rw [hLj, List.getElem?_map]
        by_cases hj : j < x.l.length
        · rw [if_pos hj]
        · rw [if_neg hj, List.getElem?_eq_none (by omega)]
          rfl
      have nl : NLeS (List.take x.l.length (Ex.ds (List.map (repl v b) x.l))) (Ex.ds (List.map (repl v b) x.l)) := by
        rw [List.take_of_length_le (by simp)]; exact NLeS.refl _
      simp [e32, e31, e3, e6, Ex.d_eq, hc]
      first | exact nl | exact ⟨hc2, nl⟩
end Go.Proofs.YtfndoocgpmgalaaGreatDoor

/- Contract: the example of layer 19 holds. -/
namespace Go.Proofs.YtfndoocgpmgalaaGreatDoor
open Go.RowKit
abbrev tE : Ex := eTwo 4 (eVar 2) (eCon 1)
abbrev tG (n : Int) : Gr := ⟨0, [⟨0, [⟨6, 0, 0, n, 0, 0, [], []⟩]⟩]⟩
theorem vars19 : AF Tryz.prog 40 [exA (eTwo 5 tE tE)] (.d (.sl 1 (i64s [2]))) := xres_af orc19_ok (lf := 100) (n := 60) (by kernel_rfl)
theorem size19 : AF Tryz.prog 38 [exA (eTwo 5 tE tE)] (aI .i64 7) := xres_af orc19_ok (lf := 100) (n := 60) (by kernel_rfl)
theorem print19a : AF Tryz.prog 42 [exA (eTwo 3 (eVar 1) (eCon 10))] (aS ⟨#[40, 114, 49, 32, 43, 32, 48, 120, 97, 41]⟩) := xres_af orc19_ok (lf := 100) (n := 60) (by kernel_rfl)
theorem print19b : AF Tryz.prog 42 [exA (eTwo 5 tE tE)] (aS ⟨#[40, 40, 114, 50, 32, 45, 32, 49, 41, 32, 42, 32, 40, 114, 50, 32, 45, 32, 49, 41, 41]⟩) := xres_af orc19_ok (lf := 100) (n := 60) (by kernel_rfl)
theorem print19c : AF Tryz.prog 42 [exA (.mk 18 0 0 1 [eVar 7])] (aS ⟨#[108, 111, 97, 100, 49, 40, 114, 55, 41]⟩) := xres_af orc19_ok (lf := 100) (n := 60) (by kernel_rfl)
theorem check19 : AF Tryz.prog 29 [exA (eVar (-1))] (aI .i64 2) := xres_af orc19_ok (lf := 100) (n := 60) (by kernel_rfl)
theorem checkg19a : AF Tryz.prog 18 [grV (tG 1)] (aI .i64 18) := xres_af orc19_ok (lf := 100) (n := 60) (by kernel_rfl)
theorem checkg19b : AF Tryz.prog 18 [grV (tG 0)] (aI .i64 0) := xres_af orc19_ok (lf := 100) (n := 60) (by kernel_rfl)
theorem fresh19 : AF Tryz.prog 32 [grV (tG 0)] (aI .i64 12) := xres_af orc19_ok (lf := 100) (n := 60) (by kernel_rfl)
theorem succ19 : AF Tryz.prog 34 [blV ⟨0, [⟨6, 0, 0, 0, 0, 0, [], []⟩]⟩] (.d (.sl 1 (i64s [0]))) := xres_af orc19_ok (lf := 100) (n := 60) (by kernel_rfl)
theorem printst19 : AF Tryz.prog 30 [stV ⟨6, 0, 0, 0, 0, 0, [], []⟩] (aS ⟨#[106, 117, 109, 112, 32, 48]⟩) := xres_af orc19_ok (lf := 100) (n := 60) (by kernel_rfl)
theorem l19ex_af : AF Tryz.prog 14 [] (aB true) := by
  refine af_of Tryz.func14 rfl (by kernel_rfl) (by simp [Tryz.ntmps14]) fun _ => ?_; simp [Tryz.f14, Ex.d_eq]
  refine aCall_of (var_af 1) (by simp) (by simp [Ex.d_eq]) ?_; simp [Ex.d_eq]
  refine aCall_of (var_af 1) (by simp) (by simp [Ex.d_eq]) ?_; simp [Ex.d_eq]
  refine aCall_of (two_af 5 (eVar 1) (eVar 1) (by simp) (by simp)) (by simp) (by simp [Ex.d_eq]) ?_; simp [Ex.d_eq]
  refine aCall_of (var_af 2) (by simp) (by simp [Ex.d_eq]) ?_; simp [Ex.d_eq]
  refine aCall_of (const_af 1) (by simp) (by simp [Ex.d_eq]) ?_; simp [Ex.d_eq]
  refine aCall_of (two_af 4 (eVar 2) (eCon 1) (by simp) (by simp)) (by simp) (by simp [Ex.d_eq]) ?_; simp [Ex.d_eq]
  have hr := replace_af 1 tE (by simp) (eTwo 5 (eVar 1) (eVar 1)) (by simp)
  rw [show repl 1 tE (eTwo 5 (eVar 1) (eVar 1)) = eTwo 5 tE tE by rfl] at hr
  refine aCall_of hr (by simp) (by simp [Ex.d_eq]) ?_; simp [Ex.d_eq]
  refine aCall_of vars19 (by simp) (by simp [Ex.d_eq]) ?_; simp [Ex.d_eq]
  refine aCall_of (var_af 1) (by simp) (by simp [Ex.d_eq]) ?_; simp [Ex.d_eq]
  refine aCall_of (const_af 10) (by simp) (by simp [Ex.d_eq]) ?_; simp [Ex.d_eq]
  refine aCall_of (two_af 3 (eVar 1) (eCon 10) (by simp) (by simp)) (by simp) (by simp [Ex.d_eq]) ?_; simp [Ex.d_eq]
  refine aCall_of print19a (by simp) (by simp [Ex.d_eq]) ?_; simp [Ex.d_eq]
  refine aCall_of print19b (by simp) (by simp [Ex.d_eq]) ?_; simp [Ex.d_eq]
  refine aCall_of size19 (by simp) (by simp [Ex.d_eq]) ?_; simp [Ex.d_eq]
  refine aCall_of (var_af (-1)) (by simp) (by simp [Ex.d_eq]) ?_; simp [Ex.d_eq]
  refine aCall_of check19 (by simp) (by simp [Ex.d_eq]) ?_; simp [Ex.d_eq]
  refine aCall_ofz [1, 2, 3, 4, 5, 6] checkg19a (by simp) (by simp [frz, Ex.d_eq, Bl.d_eq, St.d_eq]) ?_; simp [frz, Ex.d_eq]
  refine aCall_ofz [1, 2, 3, 4, 5, 6] checkg19b (by simp) (by simp [frz, Ex.d_eq, Bl.d_eq, St.d_eq]) ?_; simp [frz, Ex.d_eq]
  refine aCall_of (var_af 7) (by simp) (by simp [Ex.d_eq]) ?_; simp [Ex.d_eq]
  refine aCall_of (load_af 1 (eVar 7) (by simp)) (by simp) (by simp [Ex.d_eq]) ?_; simp [Ex.d_eq]
  refine aCall_of print19c (by simp) (by simp [Ex.d_eq]) ?_; simp [Ex.d_eq]
  refine aCall_of fresh19 (by simp) (by simp [Ex.d_eq, Bl.d_eq, St.d_eq]) ?_; simp [Ex.d_eq]
  refine aCall_of succ19 (by simp) (by simp [Ex.d_eq, Bl.d_eq, St.d_eq]) ?_; simp [Ex.d_eq]
  refine aCall_of printst19 (by simp) (by simp [Ex.d_eq, Bl.d_eq, St.d_eq]) ?_; simp [Ex.d_eq]
end Go.Proofs.YtfndoocgpmgalaaGreatDoor

/- Contract: the law IlReplace answers true. -/
namespace Go.Proofs.YtfndoocgpmgalaaGreatDoor
open Go.RowKit
def vmix (w s : Int) : Int := xorI .u32 (IntKind.u32.wrap (IntKind.u32.wrap w * 2654435761)) s
def vload (x wd s : Int) : Int := xorI .u32 (IntKind.u32.wrap (IntKind.u32.wrap (x + IntKind.u32.wrap wd) * 2246822519)) s
/-- A value of an expression, where the variable v has the value n. -/
def valS (v n s : Int) : Ex → Int
  | .mk o k w wd l => valC o k w wd (valSs l)
where
  valC (o k w wd : Int) (xs : List Int) : Int :=
    if o = 1 then k else if o = 2 then (if w = v then n else vmix w s) else match xs with
      | [] => 0
      | x :: ys => if o = 16 then (if x = 0 then 1 else 0) else if o = 17 then IntKind.u32.wrap (-x) else if o = 18 then vload x wd s else if o = 19 then rEx x wd else match ys with
        | [] => 0
        | y :: _ => apR o x y
  valSs : List Ex → List Int
    | [] => []
    | e :: l => valS v n s e :: valSs l
section
variable (v n s : Int)
theorem val_con (k : Int) : valS v n s (eCon k) = k := by simp [eCon, valS, valS.valC]
theorem val_var (w : Int) : valS v n s (eVar w) = if w = v then n else vmix w s := by simp [eVar, valS, valS.valC]
theorem val_two (op : Int) (a b : Ex) (h3 : 3 ≤ op) (h15 : op ≤ 15) : valS v n s (eTwo op a b) = apR op (valS v n s a) (valS v n s b) := by
  simp [eTwo, valS, valS.valC, valS.valSs, show ¬ op = 1 by omega, show ¬ op = 2 by omega, show ¬ op = 16 by omega, show ¬ op = 17 by omega, show ¬ op = 18 by omega, show ¬ op = 19 by omega]
theorem val_one (op : Int) (a : Ex) (h : op = 16 ∨ op = 17) : valS v n s (eOne op a) = if op = 16 then (if valS v n s a = 0 then 1 else 0) else IntKind.u32.wrap (-valS v n s a) := by
  rcases h with rfl | rfl <;> simp [eOne, valS, valS.valC, valS.valSs]
theorem val_wide (op wd : Int) (a : Ex) (h : op = 18 ∨ op = 19) : valS v n s (.mk op 0 0 wd [a]) = if op = 18 then vload (valS v n s a) wd s else rEx (valS v n s a) wd := by
  rcases h with rfl | rfl <;> simp [valS, valS.valC, valS.valSs]
/-- A variable that is replaced has the value of what stands there. -/
theorem val_repl (b : Ex) : ∀ e : Ex, formB e = true → valS v n s (repl v b e) = valS v (valS v n s b) s e := by
  intro e
  induction e using Ex.ind with
  | h e ih =>
  intro hf
  have hop := form_op hf
  by_cases h1 : e.op = 1
  · have hr : repl v b (eCon e.n) = eCon e.n := by rw [repl_eq, if_neg (by simp)]; rfl
    rw [form_con hf h1, hr, val_con, val_con]
  by_cases h2 : e.op = 2
  · rw [(form_var hf h2).1, val_var]
    by_cases hv : e.v = v
    · have hr : repl v b (eVar e.v) = b := by rw [repl_eq, if_pos (by simp [hv])]
      rw [hr, if_pos hv]
    · have hr : repl v b (eVar e.v) = eVar e.v := by rw [repl_eq, if_neg (by simp [hv])]; rfl
      rw [hr, val_var, if_neg hv, if_neg hv]
  by_cases h15 : e.op ≤ 15
  · obtain ⟨a, c, he, ha, hc⟩ := form_two hf (by omega) h15
    have la : a ∈ e.l := by rw [he]; simp
    have lc : c ∈ e.l := by rw [he]; simp
    rw [repl_eq, if_neg (fun h => h2 h.1)]
    have : Ex.mk e.op e.n e.v e.wd (e.l.map (repl v b)) = eTwo e.op (repl v b a) (repl v b c) := by rw [he]; rfl
    rw [this, val_two _ _ _ _ _ _ (by omega) h15, ih a la ha, ih c lc hc]
    conv => rhs; rw [he]
    rw [val_two _ _ _ _ _ _ (by omega) h15]
  by_cases h17 : e.op ≤ 17
  · obtain ⟨a, he, ha⟩ := form_one hf (by omega)
    have la : a ∈ e.l := by rw [he]; simp
    rw [repl_eq, if_neg (fun h => h2 h.1)]
    have : Ex.mk e.op e.n e.v e.wd (e.l.map (repl v b)) = eOne e.op (repl v b a) := by rw [he]; rfl
    rw [this, val_one _ _ _ _ _ (by omega), ih a la ha]
    conv => rhs; rw [he]
    rw [val_one _ _ _ _ _ (by omega)]
  · obtain ⟨a, he, ha, _⟩ := form_wide hf (by omega)
    have la : a ∈ e.l := by rw [he]; simp
    rw [repl_eq, if_neg (fun h => h2 h.1)]
    have : Ex.mk e.op e.n e.v e.wd (e.l.map (repl v b)) = .mk e.op 0 0 e.wd [repl v b a] := by rw [he]; rfl
    rw [this, val_wide _ _ _ _ _ _ (by omega), ih a la ha]
    conv => rhs; rw [he]
    rw [val_wide _ _ _ _ _ _ (by omega)]
end
end Go.Proofs.YtfndoocgpmgalaaGreatDoor

/- Contract: the law IlReplace answers true. -/
namespace Go.Proofs.YtfndoocgpmgalaaGreatDoor
open Go.RowKit
theorem vmix_r32 (w s : Int) : R32 (vmix w s) := r32_wrap _
theorem vload_r32 (x w s : Int) : R32 (vload x w s) := r32_wrap _
section
variable {v n s : Int} (hn : R32 n) (hs : R32 s)
include hn
theorem val_r32 : ∀ e : Ex, OkN e → formB e = true → R32 (valS v n s e) := by
  intro e
  induction e using Ex.ind with
  | h e ih =>
  intro hk hf
  have hop := form_op hf
  have hl := hk.l
  by_cases h1 : e.op = 1
  · rw [form_con hf h1, val_con]
    exact hk.n
  by_cases h2 : e.op = 2
  · rw [(form_var hf h2).1, val_var]
    exact ite_r32 hn (vmix_r32 _ _)
  by_cases h15 : e.op ≤ 15
  · obtain ⟨a, c, he, ha, hc⟩ := form_two hf (by omega) h15
    have la : a ∈ e.l := by rw [he]; simp
    have lc : c ∈ e.l := by rw [he]; simp
    rw [he, val_two _ _ _ _ _ _ (by omega) h15]
    exact apR_r32 (ih a la (hl a la) ha) (ih c lc (hl c lc) hc)
  by_cases h17 : e.op ≤ 17
  · obtain ⟨a, he, ha⟩ := form_one hf (by omega)
    rw [he, val_one _ _ _ _ _ (by omega)]
    exact ite_r32 (ite_r32 ⟨by omega, by omega⟩ r32_0) (r32_wrap _)
  · obtain ⟨a, he, ha, _⟩ := form_wide hf (by omega)
    have la : a ∈ e.l := by rw [he]; simp
    rw [he, val_wide _ _ _ _ _ _ (by omega)]
    exact ite_r32 (vload_r32 _ _ _) (rEx_r32 (ih a la (hl a la) ha))
theorem value_af : ∀ e : Ex, OkN e → formB e = true → AF Tryz.prog 15 [exA e, aI .i64 v, aI .u32 n, aI .u32 s] (aI .u32 (valS v n s e)) := by
  intro e
  induction e using Ex.ind with
  | h e ih =>
  intro hk hf
  have hop := form_op hf
  have hl := hk.l
  by_cases h1 : e.op = 1
  · rw [form_con hf h1, val_con]
    refine af_of Tryz.func15 rfl (by kernel_rfl) (by simp [Tryz.ntmps15]) fun _ => ?_; simp [Tryz.f15, Ex.d_eq]
  by_cases h2 : e.op = 2
  · rw [(form_var hf h2).1, val_var]
    refine af_of Tryz.func15 rfl (by kernel_rfl) (by simp [Tryz.ntmps15]) fun _ => ?_; simp [Tryz.f15, Ex.d_eq]
    by_cases hv : e.v = v
    · simp [hv]
    · simp [hv, vmix]
  by_cases h15 : e.op ≤ 15
  · obtain ⟨op, ho⟩ : ∃ op, e.op = op := ⟨_, rfl⟩
    obtain ⟨a, c, he, ha, hc⟩ := form_two hf (by omega) h15
    have la : a ∈ e.l := by rw [he]; simp
    have lc : c ∈ e.l := by rw [he]; simp
    have ia := ih a la (hl a la) ha
    have ic := ih c lc (hl c lc) hc
    have ra := val_r32 (v := v) (s := s) hn a (hl a la) ha
    have rc := val_r32 (v := v) (s := s) hn c (hl c lc) hc
    rw [ho] at he h1 h2 h15 hop
    rw [he, val_two _ _ _ _ _ _ (by omega) h15]
    refine af_of Tryz.func15 rfl (by kernel_rfl) (by simp [Tryz.ntmps15]) fun _ => ?_; simp [Tryz.f15, Ex.d_eq]
    simp [h1, h2]
    refine aCall_of ia (by simp) (by simp [Ex.d_eq]) ?_; simp [Ex.d_eq]
    simp [show ¬ op = 16 by omega, show ¬ op = 17 by omega, show ¬ op = 18 by omega, show ¬ op = 19 by omega, Ex.d_eq]
    refine adraw [] (by kernel_rfl) (by kernel_rfl) (by kernel_rfl) (by kernel_rfl) ?_; simp [Ex.d_eq]
    refine adC_of ic (by simp) trivial (by simp) (by simp [Ex.d_eq]) ?_; simp [Ex.d_eq]
    refine adC_of (r01apply_af ra rc op ⟨by omega, h15⟩) (by simp) trivial (by simp) (by simp [Ex.d_eq]) ?_; simp [Ex.d_eq]
  by_cases h17 : e.op ≤ 17
  · obtain ⟨a, he, ha⟩ := form_one hf (by omega)
    have la : a ∈ e.l := by rw [he]; simp
    have ia := ih a la (hl a la) ha
    rcases (show e.op = 16 ∨ e.op = 17 by omega) with ho | ho
    · rw [ho] at he
      rw [he, val_one _ _ _ _ _ (.inl rfl)]
      refine af_of Tryz.func15 rfl (by kernel_rfl) (by simp [Tryz.ntmps15]) fun _ => ?_; simp [Tryz.f15, Ex.d_eq]
      refine aCall_of ia (by simp) (by simp [Ex.d_eq]) ?_; simp [Ex.d_eq]
      by_cases h0 : valS v n s a = 0
      · simp [h0]
      · simp [h0]
    · rw [ho] at he
      rw [he, val_one _ _ _ _ _ (.inr rfl)]
      refine af_of Tryz.func15 rfl (by kernel_rfl) (by simp [Tryz.ntmps15]) fun _ => ?_; simp [Tryz.f15, Ex.d_eq]
      refine aCall_of ia (by simp) (by simp [Ex.d_eq]) ?_; simp [Ex.d_eq]
  · obtain ⟨a, he, ha, _⟩ := form_wide hf (by omega)
    have la : a ∈ e.l := by rw [he]; simp
    have ia := ih a la (hl a la) ha
    have ra := val_r32 (v := v) (s := s) hn a (hl a la) ha
    rcases (show e.op = 18 ∨ e.op = 19 by omega) with ho | ho
    · rw [ho] at he
      rw [he, val_wide _ _ _ _ _ _ (.inl rfl)]
      refine af_of Tryz.func15 rfl (by kernel_rfl) (by simp [Tryz.ntmps15]) fun _ => ?_; simp [Tryz.f15, Ex.d_eq]
      refine aCall_of ia (by simp) (by simp [Ex.d_eq]) ?_; simp [Ex.d_eq]
      simp [vload]
    · rw [ho] at he
      rw [he, val_wide _ _ _ _ _ _ (.inr rfl)]
      refine af_of Tryz.func15 rfl (by kernel_rfl) (by simp [Tryz.ntmps15]) fun _ => ?_; simp [Tryz.f15, Ex.d_eq]
      refine aCall_of ia (by simp) (by simp [Ex.d_eq]) ?_; simp [Ex.d_eq]
      refine aCall_of (r01ext_af ra e.wd) (by simp) (by simp [Ex.d_eq]) ?_; simp [Ex.d_eq]
end
theorem repl_form {v : Int} {b : Ex} (hb : formB b = true) : ∀ e : Ex, formB e = true → formB (repl v b e) = true := by
  intro e
  induction e using Ex.ind with
  | h e ih =>
  intro hf
  rw [repl_eq]
  split
  · exact hb
  · obtain ⟨h1, h2⟩ := form_all hf
    rw [formB_eq]
    simp only [Ex.op_mk, Ex.n_mk, Ex.v_mk, Ex.wd_mk, Ex.l_mk, List.length_map, h1, Bool.true_and, List.all_eq_true, List.mem_map]
    rintro x ⟨y, hy, rfl⟩
    exact ih y hy (h2 y hy)
theorem repl_okN {v : Int} {b : Ex} (hb : OkN b) : ∀ e : Ex, OkN e → OkN (repl v b e) := by
  intro e
  induction e using Ex.ind with
  | h e ih =>
  intro hk
  rw [repl_eq]
  split
  · exact hb
  · refine .mk hk.n ?_
    simp only [Ex.l_mk, List.mem_map]
    rintro x ⟨y, hy, rfl⟩
    exact ih y hy (hk.l y hy)
theorem chk0 {e : Ex} (h : (if shalB 64 e = true then (if formB e = true then (0 : Int) else 2) else 20) = 0) : formB e = true := by
  split at h
  · split at h
    · assumption
    · omega
  · omega
theorem lawrepl19_af (e b : Ex) (v s : Int) (hs : R32 s) (ke : OkN e) (kb : OkN b) : AF Tryz.prog 3 [exA e, aI .i64 v, exA b, aI .u32 s] (aB true) := by
  have ca := small_af e 12 (by omega) (by omega)
  have cb := small_af b 12 (by omega) (by omega)
  have ra := rcheck_af e
  have rb := rcheck_af b
  refine af_of Tryz.func3 rfl (by kernel_rfl) (by simp [Tryz.ntmps3]) fun _ => ?_; simp [Tryz.f3, Ex.d_eq]
  cases hsa : decide (0 ≤ nodI e 12 3000) <;> rw [hsa] at ca
  · refine aCall_of ca (by simp) (by simp [Ex.d_eq]) ?_; simp [Ex.d_eq]
    refine aCall_of l19ex_af (by simp) (by simp [Ex.d_eq]) ?_; simp [Ex.d_eq]
  refine aCall_of ca (by simp) (by simp [Ex.d_eq]) ?_; simp [Ex.d_eq]
  cases hsb : decide (0 ≤ nodI b 12 3000) <;> rw [hsb] at cb
  · refine aCall_of cb (by simp) (by simp [Ex.d_eq]) ?_; simp [Ex.d_eq]
    refine aCall_of l19ex_af (by simp) (by simp [Ex.d_eq]) ?_; simp [Ex.d_eq]
  refine aCall_of cb (by simp) (by simp [Ex.d_eq]) ?_; simp [Ex.d_eq]
  have ha : e.nodes ≤ 3000 := by
    have := nodI_le e 12 3000 (by omega)
    have h0 : 0 ≤ nodI e 12 3000 := by simpa using hsa
    omega
  have hb : b.nodes ≤ 3000 := by
    have := nodI_le b 12 3000 (by omega)
    have h0 : 0 ≤ nodI b 12 3000 := by simpa using hsb
    omega
  obtain ⟨x, hx⟩ : ∃ x, (if shalB 64 e = true then (if formB e = true then (0 : Int) else 2) else 20) = x := ⟨_, rfl⟩
  obtain ⟨y, hy⟩ : ∃ y, (if shalB 64 b = true then (if formB b = true then (0 : Int) else 2) else 20) = y := ⟨_, rfl⟩
  rw [hx] at ra
  rw [hy] at rb
  refine aCall_of ra (by simp) (by simp [Ex.d_eq]) ?_; simp [Ex.d_eq]
  by_cases x0 : x = 0
  case neg =>
    simp [x0]
    refine aCall_of l19ex_af (by simp) (by simp [Ex.d_eq]) ?_; simp [Ex.d_eq]
  simp [x0]
  refine aCall_of rb (by simp) (by simp [Ex.d_eq]) ?_; simp [Ex.d_eq]
  by_cases y0 : y = 0
  case neg =>
    simp [y0]
    refine aCall_of l19ex_af (by simp) (by simp [Ex.d_eq]) ?_; simp [Ex.d_eq]
  simp [y0]
  have fe := chk0 (hx.trans x0)
  have fb := chk0 (hy.trans y0)
  have hm := val_repl v (vmix v s) s b e fe
  have rm := val_r32 (v := v) (s := s) (vmix_r32 v s) b kb fb
  have c1 := value_af (v := v) (s := s) (vmix_r32 v s) b kb fb
  have c2 := value_af (v := v) (s := s) (vmix_r32 v s) (repl v b e) (repl_okN kb e ke) (repl_form fb e fe)
  have c3 := value_af (v := v) (s := s) rm e ke fe
  rw [hm] at c2
  generalize valS v (valS v (vmix v s) s b) s e = z at *
  generalize valS v (vmix v s) s b = u at *
  have cr := replace_af v b (by omega) e (by omega)
  generalize repl v b e = q at *
  unfold vmix at c1 c2
  refine aCall_of c1 (by simp) (by simp [Ex.d_eq]) ?_; simp [Ex.d_eq]
  refine adraw [] (by kernel_rfl) (by kernel_rfl) (by kernel_rfl) (by kernel_rfl) ?_; simp [Ex.d_eq]
  refine adC_of cr (by simp) trivial (by simp) (by simp [Ex.d_eq]) ?_; simp [Ex.d_eq]
  refine adC_of c2 (by simp) trivial (by simp) (by simp [Ex.d_eq]) ?_; simp [Ex.d_eq]
  refine adC_of c3 (by simp) trivial (by simp) (by simp [Ex.d_eq]) ?_; simp [Ex.d_eq]
  refine adC_of l19ex_af (by simp) trivial (by simp) (by simp [Ex.d_eq]) ?_; simp [Ex.d_eq]
end Go.Proofs.YtfndoocgpmgalaaGreatDoor

/- Contract: the law IlConstructors answers true. -/
namespace Go.Proofs.YtfndoocgpmgalaaGreatDoor
open Go.RowKit
theorem r19load_af (n : Int) (a : Ex) : AF Tryz.prog 28 [aI .i64 n, exA a] (exA (.mk 18 0 0 n [a])) := by
  refine af_of Tryz.func28 rfl (by kernel_rfl) (by simp [Tryz.ntmps28]) fun _ => ?_
  simp [Tryz.f28, Ex.d_eq]
theorem ckv {e : Ex} {c : Prop} [Decidable c] (hd : e.depth ≤ 64) (hf : formB e = true ↔ c) : AF Tryz.prog 29 [exA e] (aI .i64 (if c then 0 else 2)) := by
  have := check_af e
  rw [if_pos ((shal_iff 64 e).2 hd)] at this
  simp only [hf] at this
  exact this
theorem rckv {e : Ex} (hd : e.depth ≤ 64) : AF Tryz.prog 13 [exA e] (aI .i64 (if formB e = true then 0 else 2)) := by
  have := rcheck_af e
  rw [if_pos ((shal_iff 64 e).2 hd)] at this
  exact this
theorem form_two_iff {op : Int} {a b : Ex} (fa : formB a = true) (fb : formB b = true) : formB (eTwo op a b) = true ↔ 3 ≤ op ∧ op ≤ 15 := by
  rw [formB_eq]
  simp only [eTwo_op, eTwo_n, eTwo_v, eTwo_wd, eTwo_l, List.all_cons, fa, fb, List.all_nil, Bool.and_true, List.length_cons, List.length_nil]
  unfold okE
  constructor
  · intro h
    by_cases hc : 3 ≤ op ∧ op ≤ 15
    · exact hc
    · exfalso
      revert h
      rw [if_neg hc]
      repeat' split
      all_goals simp
  · intro h
    rw [if_neg (by omega), if_neg (by omega), if_pos h]
    rfl
theorem form_load_iff {wd : Int} {a : Ex} (fa : formB a = true) : formB (.mk 18 0 0 wd [a]) = true ↔ wd = 1 ∨ wd = 2 ∨ wd = 4 := by
  rw [formB_eq]
  simp [okE, fa, or_assoc]
theorem form_var_iff {v : Int} : formB (eVar v) = true ↔ 0 ≤ v ∧ v < 65536 := by
  rw [formB_eq]
  simp [okE]
  constructor
  · rintro ⟨h1, h2⟩
    exact ⟨of_decide_eq_true h1, of_decide_eq_true h2⟩
  · rintro ⟨h1, h2⟩
    exact ⟨decide_eq_true h1, decide_eq_true h2⟩
theorem lawcons19_af (op n v wd : Int) (a b : Ex) : AF Tryz.prog 5 [aI .i64 op, aI .u32 n, aI .i64 v, aI .i64 wd, exA a, exA b] (aB true) := by
  have ca := small_af a 12 (by omega) (by omega)
  have cb := small_af b 12 (by omega) (by omega)
  refine af_of Tryz.func5 rfl (by kernel_rfl) (by simp [Tryz.ntmps5]) fun _ => ?_; simp [Tryz.f5, Ex.d_eq]
  cases hsa : decide (0 ≤ nodI a 12 3000) <;> rw [hsa] at ca
  · refine aCall_of ca (by simp) (by simp [Ex.d_eq]) ?_; simp [Ex.d_eq]
    refine aCall_of l19ex_af (by simp) (by simp [Ex.d_eq]) ?_; simp [Ex.d_eq]
  refine aCall_of ca (by simp) (by simp [Ex.d_eq]) ?_; simp [Ex.d_eq]
  cases hsb : decide (0 ≤ nodI b 12 3000) <;> rw [hsb] at cb
  · refine aCall_of cb (by simp) (by simp [Ex.d_eq]) ?_; simp [Ex.d_eq]
    refine aCall_of l19ex_af (by simp) (by simp [Ex.d_eq]) ?_; simp [Ex.d_eq]
  refine aCall_of cb (by simp) (by simp [Ex.d_eq]) ?_; simp [Ex.d_eq]
  have ha : a.nodes ≤ 3000 ∧ a.depth ≤ 12 := by
    have := nodI_le a 12 3000 (by omega)
    have h0 : 0 ≤ nodI a 12 3000 := by simpa using hsa
    omega
  have hb : b.nodes ≤ 3000 ∧ b.depth ≤ 12 := by
    have := nodI_le b 12 3000 (by omega)
    have h0 : 0 ≤ nodI b 12 3000 := by simpa using hsb
    omega
  refine adraw [] (by kernel_rfl) (by kernel_rfl) (by kernel_rfl) (by kernel_rfl) ?_; simp [Ex.d_eq]
  refine adC_of (const_af n) (by simp) trivial (by simp) (by simp [Ex.d_eq]) ?_; simp [Ex.d_eq]
  refine adC_of (r19const_af n) (by simp) trivial (by simp) (by simp [Ex.d_eq]) ?_; simp [Ex.d_eq]
  refine adC_of (refsame_af (eCon n) (eCon n)) (by simp) trivial (by simp) (by simp [Ex.d_eq]) ?_; simp [Ex.d_eq]
  simp [sameB_refl]
  refine adC_of (var_af v) (by simp) trivial (by simp) (by simp [Ex.d_eq]) ?_; simp [Ex.d_eq]
  refine adC_of (r19var_af v) (by simp) trivial (by simp) (by simp [Ex.d_eq]) ?_; simp [Ex.d_eq]
  refine adC_of (refsame_af (eVar v) (eVar v)) (by simp) trivial (by simp) (by simp [Ex.d_eq]) ?_; simp [Ex.d_eq]
  simp [sameB_refl]
  refine adC_of (two_af op a b (by omega) (by omega)) (by simp) trivial (by simp) (by simp [Ex.d_eq]) ?_; simp [Ex.d_eq]
  refine adC_of (r19two_af op a b) (by simp) trivial (by simp) (by simp [Ex.d_eq]) ?_; simp [Ex.d_eq]
  refine adC_of (refsame_af (eTwo op a b) (eTwo op a b)) (by simp) trivial (by simp) (by simp [Ex.d_eq]) ?_; simp [Ex.d_eq]
  simp [sameB_refl]
  refine adC_of (load_af wd a (by omega)) (by simp) trivial (by simp) (by simp [Ex.d_eq]) ?_; simp [Ex.d_eq]
  refine adC_of (r19load_af wd a) (by simp) trivial (by simp) (by simp [Ex.d_eq]) ?_; simp [Ex.d_eq]
  refine adC_of (refsame_af (.mk 18 0 0 wd [a]) (.mk 18 0 0 wd [a])) (by simp) trivial (by simp) (by simp [Ex.d_eq]) ?_; simp [Ex.d_eq]
  simp [sameB_refl]
  have ka := rckv (e := a) (by omega)
  have kb := rckv (e := b) (by omega)
  by_cases fa : formB a = true
  case neg =>
    rw [if_neg fa] at ka
    refine aCall_of ka (by simp) (by simp [Ex.d_eq]) ?_; simp [Ex.d_eq]
    refine aCall_of l19ex_af (by simp) (by simp [Ex.d_eq]) ?_; simp [Ex.d_eq]
  rw [if_pos fa] at ka
  refine aCall_of ka (by simp) (by simp [Ex.d_eq]) ?_; simp [Ex.d_eq]
  by_cases fb : formB b = true
  case neg =>
    rw [if_neg fb] at kb
    refine aCall_of kb (by simp) (by simp [Ex.d_eq]) ?_; simp [Ex.d_eq]
    refine aCall_of l19ex_af (by simp) (by simp [Ex.d_eq]) ?_; simp [Ex.d_eq]
  rw [if_pos fb] at kb
  refine aCall_of kb (by simp) (by simp [Ex.d_eq]) ?_; simp [Ex.d_eq]
  have k1 := ckv (e := eCon n) (c := True) (by simp) (by simp [form_eCon])
  rw [if_pos trivial] at k1
  have k2 := ckv (e := eTwo op a b) (by rw [depth_two]; omega) (form_two_iff fa fb)
  have k3 := ckv (e := .mk 18 0 0 wd [a]) (by simp [Ex.depth, Ex.depths]; omega) (form_load_iff fa)
  have k4 := ckv (e := eVar v) (by simp [eVar, Ex.depth, Ex.depths]) form_var_iff
  have q1 : 3 ≤ op ∨ ¬ 3 ≤ op := by omega
  have q2 : wd = 1 ∨ wd = 2 ∨ (¬ wd = 1 ∧ ¬ wd = 2) := by omega
  have q3 : 0 ≤ v ∨ ¬ 0 ≤ v := by omega
  rcases q1 with q1 | q1
  all_goals
    simp [q1] at k2 ⊢
    refine aCall_of (const_af n) (by simp) (by simp [Ex.d_eq]) ?_; simp [Ex.d_eq]
    refine aCall_of k1 (by simp) (by simp [Ex.d_eq]) ?_; simp [Ex.d_eq]
    refine aCall_of (two_af op a b (by omega) (by omega)) (by simp) (by simp [Ex.d_eq]) ?_; simp [Ex.d_eq]
    refine aCall_of k2 (by simp) (by simp [Ex.d_eq]) ?_; simp [Ex.d_eq]
    refine aCall_of (load_af wd a (by omega)) (by simp) (by simp [Ex.d_eq]) ?_; simp [Ex.d_eq]
    rcases q2 with rfl | rfl | ⟨w1, w2⟩
    all_goals
      first | simp [w1, w2] at k3 | simp at k3
      refine aCall_of k3 (by simp) (by simp [Ex.d_eq]) ?_; simp [Ex.d_eq]
      try simp [w1, w2]
      refine aCall_of (var_af v) (by simp) (by simp [Ex.d_eq]) ?_; simp [Ex.d_eq]
      refine aCall_of k4 (by simp) (by simp [Ex.d_eq]) ?_; simp [Ex.d_eq]
      rcases q3 with q3 | q3
      · simp [q3]
        refine aCall_of l19ex_af (by simp) (by simp [Ex.d_eq]) ?_; simp [Ex.d_eq]
      · simp [q3]
        refine aCall_of l19ex_af (by simp) (by simp [Ex.d_eq]) ?_; simp [Ex.d_eq]
end Go.Proofs.YtfndoocgpmgalaaGreatDoor
