/- Texts that the claim leans on, laid one behind the other: Ma, Mc, Mb, Mi, Mj, Mk. -/
import Derived.Test.YtfndoocgpmgalaaDoorZD
import Derived.Test.YtfndoocgpmgalaaDoorAn
import Derived.WalkMore
import Derived.BigFrame
import Derived.Test.YtfndoocgpmgalaaDoorZB
import Derived.Test.YtfndoocgpmgalaaDoorAs
import Derived.Test.YtfndoocgpmgalaaDoorZM
import Derived.Test.YtfndoocgpmgalaaDoorAu
import Derived.Test.YtfndoocgpmgalaaDoorZG
import Derived.Test.YtfndoocgpmgalaaDoorAr
import Derived.Test.YtfndoocgpmgalaaDoorBa
set_option linter.unusedSimpArgs false
set_option linter.unusedVariables false
set_option linter.unnecessarySimpa false
/- Contract: math/bits.TrailingZeros64(16), off the table that the row lists; the calls that the example of layer 19 takes by contract. -/
namespace Go.Proofs.YtfndoocgpmgalaaDoor
open Go.RowKit
theorem tz64_16 (w : World) (hG : GbIs w) : Calls Tryd.prog 133 #[.int .u64 16] w fun e w' => e = .returned (.int .i64 4) ∧ w' = w := by
  have hc : w.cell? ⟨3, 15, none⟩ = some (.int .u8 4) := (hG (3, deB64.map fun z => Value.int .u8 z) (by simp [GB])).2 15 _ (by simp [deB64])
  have hi : IntKind.u64.wrap (bits BinOp.and IntKind.u64 16 (IntKind.u64.wrap (-16)) * 285870213051353865) / 288230376151711744 = 15 := by decide +kernel
  go_enter Tryd.func133, Tryd.ntmps133
  go_wp2
  · go_ret
    exact ⟨rfl, rfl⟩
theorem tz64_af : AF Tryd.prog 133 [aI .u64 16] (aI .i64 4) := by
  intro H w vs hH hs hm
  simp only [ShpL] at hs
  obtain ⟨u1, l1, rfl, s1, rfl⟩ := hs
  simp only [Shp] at s1
  subst s1
  refine (tz64_16 w hH.2.1).mono ?_
  rintro en w' ⟨rfl, rfl⟩
  exact ⟨_, rfl, ⟨by simp [Shp], by simp [Mem, Rd, Value.oneCell']⟩, Ext.refl _⟩
/-- Strings, out of a slice's elements. -/
def strsOf : List (List D) → Option (List ByteArray)
  | [] => some []
  | [.v (.string s)] :: l => (strsOf l).map (s :: ·)
  | _ :: _ => none
theorem strsOf_spec : ∀ {l : List (List D)} {m : List ByteArray}, strsOf l = some m → l = strs m
  | [], m, h => by simp [strsOf] at h; subst h; rfl
  | [.v (.string s)] :: l, m, h => by
    simp only [strsOf, Option.map_eq_some_iff] at h
    obtain ⟨m', h', rfl⟩ := h
    rw [strsOf_spec h']
    rfl
/-- The calls that are taken by contract. -/
def orc19 : XF := fun f args A =>
  if f = 58 then (match omap (reiV false A 9) args with
    | some [.d (.sl 1 xs)] => (match strsOf xs with
      | some l => if (l.flatMap fun x => x.data.toList).length ≤ 1000000000 ∧ l.length ≤ 1000000000 then some (aS (cat l), A) else none
      | none => none)
    | _ => none)
  else if f = 60 then (match args with
    | [.d (.v (.int .i64 (.ofNat n)))] => if n < 10 then some (aS ⟨#[UInt8.ofNat (48 + n)]⟩, A) else none
    | _ => none)
  else if f = 133 then (match args with
    | [.d (.v (.int .u64 n))] => if n = 16 then some (aI .i64 4, A) else none
    | _ => none)
  else none
theorem orc19_ok : XFok Tryd.prog orc19 := by
  intro f args A r A' h
  unfold orc19 at h
  split at h
  · rename_i hf
    subst hf
    split at h
    · rename_i xs h0
      split at h
      · rename_i l hl
        split at h
        · rename_i hc
          simp only [Option.some.injEq, Prod.mk.injEq] at h
          obtain ⟨rfl, rfl⟩ := h
          obtain rfl := strsOf_spec hl
          exact ⟨by kernel_rfl, AF.acs (iljoin_af l hc.1 hc.2) (by rw [h0]; exact NLeL.refl _) rfl⟩
        · cases h
      · cases h
    · cases h
  · split at h
    · rename_i hf
      subst hf
      split at h
      · rename_i n
        split at h
        · rename_i hn
          simp only [Option.some.injEq, Prod.mk.injEq] at h
          obtain ⟨rfl, rfl⟩ := h
          have h1 := itoa_af n (by omega)
          have h2 : Lib.decDigits n = [UInt8.ofNat (48 + n)] := by rw [Lib.decDigits]; simp; omega
          rw [h2] at h1
          exact ⟨by kernel_rfl, AF.acs h1 (by simp [omap, reiV, argO]) rfl⟩
        · cases h
      · cases h
    · split at h
      · rename_i hf
        subst hf
        split at h
        · split at h
          · rename_i hn
            subst hn
            simp only [Option.some.injEq, Prod.mk.injEq] at h
            obtain ⟨rfl, rfl⟩ := h
            exact ⟨by kernel_rfl, AF.acs tz64_af (by simp [omap, reiV, argO]) rfl⟩
          · cases h
        · cases h
      · cases h
end Go.Proofs.YtfndoocgpmgalaaDoor

/- Contracts: il.Load, il.Replace. -/
namespace Go.Proofs.YtfndoocgpmgalaaDoor
open Go.RowKit
theorem load_af (n : Int) (a : Ex) (ha : a.nodes ≤ 1000000000) : AF Tryd.prog 28 [aI .i64 n, exA a] (exA (.mk 18 0 0 n [a])) := by
  refine af_of Tryd.func28 rfl (by kernel_rfl) (by simp [Tryd.ntmps28]) fun _ => ?_
  simp [Tryd.f28]
  refine aCall_of (own_af a ha) (by simp) (by simp [Ex.d_eq]) ?_
  simp [Ex.d_eq]
/-- A variable replaced by an expression. -/
def repl (v : Int) (b : Ex) : Ex → Ex
  | .mk o n w wd l => if o = 2 ∧ w = v ∧ l.length = 0 then b else .mk o n w wd (repls v b l)
where repls (v : Int) (b : Ex) : List Ex → List Ex
  | [] => []
  | e :: l => repl v b e :: repls v b l
theorem repls_map (v : Int) (b : Ex) : ∀ l, repl.repls v b l = l.map (repl v b)
  | [] => rfl
  | e :: l => by simp only [repl.repls, List.map_cons, repls_map v b l]
theorem repl_eq (v : Int) (b e : Ex) : repl v b e = if e.op = 2 ∧ e.v = v ∧ e.l.length = 0 then b else .mk e.op e.n e.v e.wd (e.l.map (repl v b)) := by
  obtain ⟨o, n, w, wd, l⟩ := e
  simp only [repl, repls_map]
  rfl
theorem replace_af (v : Int) (b : Ex) (hb : b.nodes ≤ 1000000000) : ∀ (e : Ex), e.nodes ≤ 1000000000 → AF Tryd.prog 15 [exA e, aI .i64 v, exA b] (exA (repl v b e)) := by
  intro x
  induction x using Ex.ind with
  | h x ih =>
    intro hn
    have hlen := x.nodes_len
    have n1 : x.l.length ≤ maxLen := by unfold maxLen; omega
    refine af_of Tryd.func15 rfl (by kernel_rfl) (by simp [Tryd.ntmps15]) fun _ => ?_
    simp [Tryd.f15]
    rw [repl_eq]
    by_cases hv : x.op = 2 ∧ x.v = v ∧ x.l.length = 0
    · rw [if_pos hv]
      simp [hv.1, hv.2.1, hv.2.2]
      refine aCall_of (own_af b hb) (by simp) (by simp [Ex.d_eq]) ?_; simp [Ex.d_eq]
    rw [if_neg hv]
    have hc : x.op ≠ 2 ∨ (x.op = 2 ∧ x.v ≠ v) ∨ (x.op = 2 ∧ x.v = v ∧ x.l.length ≠ 0) := by
      by_cases h1 : x.op = 2
      · by_cases h2 : x.v = v
        · exact .inr (.inr ⟨h1, h2, fun h3 => hv ⟨h1, h2, h3⟩⟩)
        · exact .inr (.inl ⟨h1, h2⟩)
      · exact .inl h1
    clear hv
    rcases hc with hc | ⟨hc, hc2⟩ | ⟨hc, hc2, hc3⟩
    case' inl => simp [hc]
    case' inr.inl => simp [hc, hc2]
    case' inr.inr => simp [hc, hc2, hc3]
    all_goals
      refine aCall_ofc (clone_ac _ (Ex.ds x.l) (by simp; omega)) (by simp) ?_
      rintro _ _ ⟨rfl, rfl⟩
      simp
      refine aLoop_of (α := Nat) (fun i e A => i ≤ x.l.length ∧ (∃ L : List Ex, A = [⟨0, true, 25, 5, [[aI .i64 x.op, aI .u32 x.n, aI .i64 x.v, aI .i64 x.wd, .own 3 1 0 x.l.length]]⟩, ⟨0, true, 25, 5, [[aI .i64 b.op, aI .u32 b.n, aI .i64 b.v, aI .i64 b.wd, .d (.sl 5 (Ex.ds b.l))]]⟩, ⟨0, true, 25, 5, [[aI .i64 0, aI .u32 0, aI .i64 0, aI .i64 0, .d (.v (.slice none 0 0))]]⟩, ⟨1, true, 25, 5, dEls (Ex.ds L)⟩] ∧ L.length = x.l.length ∧
          ∀ j : Nat, L[j]? = if j < i then (x.l[j]?).map (repl v b) else x.l[j]?) ∧
        e 32 = aI .i64 i ∧ e 31 = aI .i64 x.l.length ∧ e 1 = aI .i64 v ∧ e 3 = .ptr 0 0 0 0 ∧ e 5 = .ptr 1 0 0 0 ∧ e 6 = .ptr 2 0 0 0) (fun i => x.l.length - i) 0 (Sub.refl _ _ _)
        ⟨by omega, ⟨x.l, by simp [hc] <;> exact hc2.symm, rfl, by simp⟩, by simp, by simp, by simp, by simp, by simp, by simp⟩ ?_
      rintro i e A ⟨hi, ⟨L, rfl, hL, hLj⟩, e32, e31, e1, e3, e5, e6⟩ K hK
      rcases Nat.lt_or_ge i x.l.length with hlt | hge
      case inl =>
        obtain ⟨y, hy⟩ : ∃ y, x.l[i]? = some y := ⟨_, List.getElem?_eq_getElem hlt⟩
        have hLi : L[i]? = some y := by rw [hLj, if_neg (by omega), hy]
        have hLi2 := (List.getElem?_eq_some_iff.1 hLi).2
        have hlt' : i < L.length := by omega
        simp [e32, e31, hlt]
        refine adraw [] (by kernel_rfl) (by kernel_rfl) (by kernel_rfl) (by kernel_rfl) ?_
        simp [e32, e31, e1, e3, e5, hlt, hlt', hL, hLi, hLi2, Ex.d_eq]
        refine adC_of (ih y (List.mem_of_getElem? hy) (by have := Ex.nodes_mem (List.mem_of_getElem? hy); omega)) (by simp) trivial (by simp) (by simp) ?_
        have hL' : ∀ (z : Ex), (dEls (Ex.ds L)).set i [aI .i64 z.op, aI .u32 z.n, aI .i64 z.v, aI .i64 z.wd, .d (.sl 5 (Ex.ds z.l))] = dEls (Ex.ds (L.set i z)) := fun z => by
          rw [show [aI .i64 z.op, aI .u32 z.n, aI .i64 z.v, aI .i64 z.wd, .d (.sl 5 (Ex.ds z.l))] = (Ex.d z).map AV.d by simp [Ex.d_eq], dEls_set]
          simp [Ex.ds_map, List.map_set]
        have hset : ∀ j : Nat, (L.set i (repl v b y))[j]? = if j < i + 1 then (x.l[j]?).map (repl v b) else x.l[j]? := fun j => by
          rw [List.getElem?_set]
          by_cases hij : i = j
          · subst hij
            simp [hlt', hy]
          · rw [if_neg hij, hLj]
            by_cases hj : j < i
            · rw [if_pos hj, if_pos (by omega)]
            · rw [if_neg hj, if_neg (by omega)]
        simp [hlt, hlt', hL, hLi2, Ex.d_eq, hL', e32, succ_wrap hlt n1]
        refine hK (i + 1) _ _ _ _ (Sub.refl _ _ _) ⟨by omega, ⟨L.set i (repl v b y), by simp, by simpa using hL, hset⟩, by simp, by simp [e31], by simp [e1], by simp [e3], by simp [e5], by simp [e6]⟩ (by omega)
      obtain rfl : i = x.l.length := by omega
      obtain rfl : L = x.l.map (repl v b) := by
        refine List.ext_getElem? fun j => ?_
        rw [hLj, List.getElem?_map]
        by_cases hj : j < x.l.length
        · rw [if_pos hj]
        · rw [if_neg hj, List.getElem?_eq_none (by omega)]
          rfl
      have nl : NLeS (List.take x.l.length (Ex.ds (List.map (repl v b) x.l))) (Ex.ds (List.map (repl v b) x.l)) := by
        rw [List.take_of_length_le (by simp)]; exact NLeS.refl _
      simp [e32, e31, e3, e6, Ex.d_eq, hc]
      first | exact nl | exact ⟨hc2, nl⟩
end Go.Proofs.YtfndoocgpmgalaaDoor

/- Contract: the example of layer 19 holds. -/
namespace Go.Proofs.YtfndoocgpmgalaaDoor
open Go.RowKit
abbrev tE : Ex := eTwo 4 (eVar 2) (eCon 1)
abbrev tG (n : Int) : Gr := ⟨0, [⟨0, [⟨6, 0, 0, n, 0, 0, [], []⟩]⟩]⟩
theorem vars19 : AF Tryd.prog 25 [exA (eTwo 5 tE tE)] (.d (.sl 1 (i64s [2]))) := xres_af orc19_ok (lf := 100) (n := 60) (by kernel_rfl)
theorem size19 : AF Tryd.prog 19 [exA (eTwo 5 tE tE)] (aI .i64 7) := xres_af orc19_ok (lf := 100) (n := 60) (by kernel_rfl)
theorem print19a : AF Tryd.prog 26 [exA (eTwo 3 (eVar 1) (eCon 10))] (aS ⟨#[40, 114, 49, 32, 43, 32, 48, 120, 97, 41]⟩) := xres_af orc19_ok (lf := 100) (n := 60) (by kernel_rfl)
theorem print19b : AF Tryd.prog 26 [exA (eTwo 5 tE tE)] (aS ⟨#[40, 40, 114, 50, 32, 45, 32, 49, 41, 32, 42, 32, 40, 114, 50, 32, 45, 32, 49, 41, 41]⟩) := xres_af orc19_ok (lf := 100) (n := 60) (by kernel_rfl)
theorem print19c : AF Tryd.prog 26 [exA (.mk 18 0 0 1 [eVar 7])] (aS ⟨#[108, 111, 97, 100, 49, 40, 114, 55, 41]⟩) := xres_af orc19_ok (lf := 100) (n := 60) (by kernel_rfl)
theorem check19 : AF Tryd.prog 8 [exA (eVar (-1))] (aI .i64 2) := xres_af orc19_ok (lf := 100) (n := 60) (by kernel_rfl)
theorem checkg19a : AF Tryd.prog 27 [grV (tG 1)] (aI .i64 18) := xres_af orc19_ok (lf := 100) (n := 60) (by kernel_rfl)
theorem checkg19b : AF Tryd.prog 27 [grV (tG 0)] (aI .i64 0) := xres_af orc19_ok (lf := 100) (n := 60) (by kernel_rfl)
theorem fresh19 : AF Tryd.prog 29 [grV (tG 0)] (aI .i64 12) := xres_af orc19_ok (lf := 100) (n := 60) (by kernel_rfl)
theorem succ19 : AF Tryd.prog 30 [blV ⟨0, [⟨6, 0, 0, 0, 0, 0, [], []⟩]⟩] (.d (.sl 1 (i64s [0]))) := xres_af orc19_ok (lf := 100) (n := 60) (by kernel_rfl)
theorem printst19 : AF Tryd.prog 31 [stV ⟨6, 0, 0, 0, 0, 0, [], []⟩] (aS ⟨#[106, 117, 109, 112, 32, 48]⟩) := xres_af orc19_ok (lf := 100) (n := 60) (by kernel_rfl)
theorem l19ex_af : AF Tryd.prog 7 [] (aB true) := by
  refine af_of Tryd.func7 rfl (by kernel_rfl) (by simp [Tryd.ntmps7]) fun _ => ?_; simp [Tryd.f7, Ex.d_eq]
  refine aCall_of (var_af 1) (by simp) (by simp [Ex.d_eq]) ?_; simp [Ex.d_eq]
  refine aCall_of (var_af 1) (by simp) (by simp [Ex.d_eq]) ?_; simp [Ex.d_eq]
  refine aCall_of (two_af 5 (eVar 1) (eVar 1) (by simp) (by simp)) (by simp) (by simp [Ex.d_eq]) ?_; simp [Ex.d_eq]
  refine aCall_of (var_af 2) (by simp) (by simp [Ex.d_eq]) ?_; simp [Ex.d_eq]
  refine aCall_of (const_af 1) (by simp) (by simp [Ex.d_eq]) ?_; simp [Ex.d_eq]
  refine aCall_of (two_af 4 (eVar 2) (eCon 1) (by simp) (by simp)) (by simp) (by simp [Ex.d_eq]) ?_; simp [Ex.d_eq]
  have hr := replace_af 1 tE (by simp) (eTwo 5 (eVar 1) (eVar 1)) (by simp)
  rw [show repl 1 tE (eTwo 5 (eVar 1) (eVar 1)) = eTwo 5 tE tE by rfl] at hr
  refine aCall_of hr (by simp) (by simp [Ex.d_eq]) ?_; simp [Ex.d_eq]
  refine aCall_of vars19 (by simp) (by simp [Ex.d_eq]) ?_; simp [Ex.d_eq]
  refine aCall_of (var_af 1) (by simp) (by simp [Ex.d_eq]) ?_; simp [Ex.d_eq]
  refine aCall_of (const_af 10) (by simp) (by simp [Ex.d_eq]) ?_; simp [Ex.d_eq]
  refine aCall_of (two_af 3 (eVar 1) (eCon 10) (by simp) (by simp)) (by simp) (by simp [Ex.d_eq]) ?_; simp [Ex.d_eq]
  refine aCall_of print19a (by simp) (by simp [Ex.d_eq]) ?_; simp [Ex.d_eq]
  refine aCall_of print19b (by simp) (by simp [Ex.d_eq]) ?_; simp [Ex.d_eq]
  refine aCall_of size19 (by simp) (by simp [Ex.d_eq]) ?_; simp [Ex.d_eq]
  refine aCall_of (var_af (-1)) (by simp) (by simp [Ex.d_eq]) ?_; simp [Ex.d_eq]
  refine aCall_of check19 (by simp) (by simp [Ex.d_eq]) ?_; simp [Ex.d_eq]
  refine aCall_ofz [1, 2, 3, 4, 5, 6] checkg19a (by simp) (by simp [frz, Ex.d_eq, Bl.d_eq, St.d_eq]) ?_; simp [frz, Ex.d_eq]
  refine aCall_ofz [1, 2, 3, 4, 5, 6] checkg19b (by simp) (by simp [frz, Ex.d_eq, Bl.d_eq, St.d_eq]) ?_; simp [frz, Ex.d_eq]
  refine aCall_of (var_af 7) (by simp) (by simp [Ex.d_eq]) ?_; simp [Ex.d_eq]
  refine aCall_of (load_af 1 (eVar 7) (by simp)) (by simp) (by simp [Ex.d_eq]) ?_; simp [Ex.d_eq]
  refine aCall_of print19c (by simp) (by simp [Ex.d_eq]) ?_; simp [Ex.d_eq]
  refine aCall_of fresh19 (by simp) (by simp [Ex.d_eq, Bl.d_eq, St.d_eq]) ?_; simp [Ex.d_eq]
  refine aCall_of succ19 (by simp) (by simp [Ex.d_eq, Bl.d_eq, St.d_eq]) ?_; simp [Ex.d_eq]
  refine aCall_of printst19 (by simp) (by simp [Ex.d_eq, Bl.d_eq, St.d_eq]) ?_; simp [Ex.d_eq]
end Go.Proofs.YtfndoocgpmgalaaDoor

/- Contracts: how often a variable occurs; the reference's Replace. -/
namespace Go.Proofs.YtfndoocgpmgalaaDoor
open Go.RowKit
/-- How often a variable occurs. -/
def cntV (v : Int) : Ex → Nat
  | .mk o _ w _ l => (if o = 2 ∧ w = v ∧ l.length = 0 then 1 else 0) + cntVs l
where cntVs : List Ex → Nat
  | [] => 0
  | e :: l => cntV v e + cntVs l
theorem cntV_eq (v : Int) (e : Ex) : cntV v e = (if e.op = 2 ∧ e.v = v ∧ e.l.length = 0 then 1 else 0) + cntV.cntVs v e.l := by cases e; rfl
theorem cntVs_take (v : Int) {l : List Ex} {i : Nat} {x : Ex} (h : l[i]? = some x) : cntV.cntVs v (l.take (i + 1)) = cntV.cntVs v (l.take i) + cntV v x := by
  induction l generalizing i with
  | nil => simp at h
  | cons a l ih =>
    cases i with
    | zero => simp at h; subst h; simp [cntV.cntVs]
    | succ i => simp only [List.take_succ_cons, cntV.cntVs, ih (by simpa using h)]; omega
theorem cntVs_take_le (v : Int) : ∀ (l : List Ex) (i : Nat), cntV.cntVs v (l.take i) ≤ cntV.cntVs v l
  | [], i => by simp
  | a :: l, 0 => by simp [cntV.cntVs]
  | a :: l, i + 1 => by simp only [List.take_succ_cons, cntV.cntVs]; have := cntVs_take_le v l i; omega
theorem cntV_le (v : Int) : ∀ e : Ex, cntV v e ≤ e.nodes := by
  intro e
  induction e using Ex.ind with
  | h e ih =>
  obtain ⟨o, n, w, wd, l⟩ := e
  have : ∀ l : List Ex, (∀ x ∈ l, cntV v x ≤ x.nodes) → cntV.cntVs v l ≤ Ex.nodess l := by
    intro l
    induction l with
    | nil => simp [cntV.cntVs]
    | cons a l ihl => intro h; simp only [cntV.cntVs, Ex.nodess]; have := h a (by simp); have := ihl fun x hx => h x (by simp [hx]); omega
  have := this l ih
  simp only [cntV, Ex.nodes]
  split <;> omega
theorem count_af (v : Int) : ∀ (e : Ex), e.nodes ≤ 1000000000 → AF Tryd.prog 16 [exA e, aI .i64 v] (aI .i64 (cntV v e)) := by
  intro x
  induction x using Ex.ind with
  | h x ih =>
    intro hn
    have hlen := x.nodes_len
    have n1 : x.l.length ≤ maxLen := by unfold maxLen; omega
    have hcl := cntV_le v x
    refine af_of Tryd.func16 rfl (by kernel_rfl) (by simp [Tryd.ntmps16]) fun _ => ?_
    simp [Tryd.f16]
    have hq := cntV_eq v x
    obtain ⟨c, hc⟩ : ∃ c : Nat, (if x.op = 2 ∧ x.v = v ∧ x.l.length = 0 then 1 else 0) = c := ⟨_, rfl⟩
    rw [hc] at hq
    have hloop : ∀ {K : AKont} {e : AEnv}, True := fun {_ _} => trivial
    have hcs : (x.op ≠ 2 ∧ c = 0) ∨ (x.op = 2 ∧ x.v ≠ v ∧ c = 0) ∨ (x.op = 2 ∧ x.v = v ∧ x.l.length ≠ 0 ∧ c = 0) ∨ (x.op = 2 ∧ x.v = v ∧ x.l.length = 0 ∧ c = 1) := by
      by_cases h1 : x.op = 2
      · by_cases h2 : x.v = v
        · by_cases h3 : x.l.length = 0
          · rw [if_pos ⟨h1, h2, h3⟩] at hc; exact .inr (.inr (.inr ⟨h1, h2, h3, hc.symm⟩))
          · rw [if_neg (fun h => h3 h.2.2)] at hc; exact .inr (.inr (.inl ⟨h1, h2, h3, hc.symm⟩))
        · rw [if_neg (fun h => h2 h.2.1)] at hc; exact .inr (.inl ⟨h1, h2, hc.symm⟩)
      · rw [if_neg (fun h => h1 h.1)] at hc; exact .inl ⟨h1, hc.symm⟩
    clear hc hloop
    rcases hcs with ⟨h1, hc⟩ | ⟨h1, h2, hc⟩ | ⟨h1, h2, h3, hc⟩ | ⟨h1, h2, h3, hc⟩
    case' inl => simp [h1]
    case' inr.inl => simp [h1, h2]
    case' inr.inr.inl => simp [h1, h2, h3]
    case' inr.inr.inr => simp [h1, h2, h3]
    all_goals
      refine aLoop_of (α := Nat) (fun i g A => i ≤ x.l.length ∧ A = [⟨0, true, 25, 5, [[aI .i64 x.op, aI .u32 x.n, aI .i64 x.v, aI .i64 x.wd, .d (.sl 5 (Ex.ds x.l))]]⟩] ∧ g 2 = .ptr 0 0 0 0 ∧ g 1 = aI .i64 v ∧ g 6 = aI .i64 i ∧ g 5 = aI .i64 (c + cntV.cntVs v (x.l.take i) : Nat)) (fun i => x.l.length - i) 0 (Sub.refl _ _ _)
        ⟨by omega, by simp [h1] <;> exact h2.symm, by simp, by simp, by simp, by simp [cntV.cntVs, hc]⟩ ?_
      rintro i g A ⟨hi, rfl, g2, g1, g6, g5⟩ K hK
      rcases Nat.lt_or_ge i x.l.length with hlt | hge
      case inr =>
        obtain rfl : i = x.l.length := by omega
        rw [List.take_length] at g5
        simp [g1, g2, g5, g6, hq]
      obtain ⟨y, hy⟩ : ∃ y, x.l[i]? = some y := ⟨_, List.getElem?_eq_getElem hlt⟩
      have hy' := (List.getElem?_eq_some_iff.1 hy).2
      have hm := Ex.nodes_mem (List.mem_of_getElem? hy)
      have ht := cntVs_take v hy
      have hle := cntVs_take_le v x.l (i + 1)
      simp [g1, g2, g5, g6, hlt, hy, hy', Ex.d_eq]
      refine aCall_of (ih y (List.mem_of_getElem? hy) (by omega)) (by simp) (by simp) ?_
      simp [g5, g6, succ_wrap hlt n1, i64w (n := (c : Int) + cntV.cntVs v (x.l.take i) + cntV v y) (by omega)]
      refine hK (i + 1) _ _ _ _ (Sub.refl _ _ _) ⟨by omega, by simp [Ex.d_eq], by simp [g2], by simp [g1], by simp, by rw [ht]; simp; omega⟩ (by omega)
theorem r19replace_af (v : Int) (b : Ex) : ∀ (e : Ex), e.nodes ≤ 1000000000 → AF Tryd.prog 18 [exA e, aI .i64 v, exA b] (exA (repl v b e)) := by
  intro x
  induction x using Ex.ind with
  | h x ih =>
    intro hn
    have hlen := x.nodes_len
    have n1 : x.l.length ≤ maxLen := by unfold maxLen; omega
    refine af_of Tryd.func18 rfl (by kernel_rfl) (by simp [Tryd.ntmps18]) fun _ => ?_
    simp [Tryd.f18]
    rw [repl_eq]
    by_cases hv : x.op = 2 ∧ x.v = v ∧ x.l.length = 0
    · rw [if_pos hv]
      simp [hv.1, hv.2.1, hv.2.2]
    rw [if_neg hv]
    have hc : x.op ≠ 2 ∨ (x.op = 2 ∧ x.v ≠ v) ∨ (x.op = 2 ∧ x.v = v ∧ x.l.length ≠ 0) := by
      by_cases h1 : x.op = 2
      · by_cases h2 : x.v = v
        · exact .inr (.inr ⟨h1, h2, fun h3 => hv ⟨h1, h2, h3⟩⟩)
        · exact .inr (.inl ⟨h1, h2⟩)
      · exact .inl h1
    clear hv
    rcases hc with hc | ⟨hc, hc2⟩ | ⟨hc, hc2, hc3⟩
    case' inl => simp [hc]
    case' inr.inl => simp [hc, hc2]
    case' inr.inr => simp [hc, hc2, hc3]
    all_goals
      refine aLoop_of (α := Nat) (fun i e A => i ≤ x.l.length ∧ A = [⟨0, true, 25, 5, [[aI .i64 x.op, aI .u32 x.n, aI .i64 x.v, aI .i64 x.wd, .d (.sl 5 (Ex.ds x.l))]]⟩, ⟨0, true, 25, 5, [[aI .i64 b.op, aI .u32 b.n, aI .i64 b.v, aI .i64 b.wd, .d (.sl 5 (Ex.ds b.l))]]⟩, ⟨0, true, 25, 5, [[aI .i64 0, aI .u32 0, aI .i64 0, aI .i64 0, .d (.v (.slice none 0 0))]]⟩, ⟨i, true, 25, 5, dEls (Ex.ds ((x.l.take i).map (repl v b)))⟩] ∧
        e 8 = aI .i64 i ∧ e 7 = .own 3 i 0 i ∧ e 1 = aI .i64 v ∧ e 3 = .ptr 0 0 0 0 ∧ e 5 = .ptr 1 0 0 0 ∧ e 6 = .ptr 2 0 0 0) (fun i => x.l.length - i) 0 ((Sub.ghost 0 25 5).trans (Sub.slot (s := 7) (c := .own 3 0 0 0) ?_))
        ⟨by omega, by simp [hc] <;> exact hc2.symm, by simp, by simp, by simp, by simp, by simp, by simp⟩ ?_
      · simp
        exact VLe.nil_own (k := ⟨0, true, 25, 5, []⟩) (by simp) rfl
      rintro i e A ⟨hi, rfl, e8, e7, e1, e3, e5, e6⟩ K hK
      rcases Nat.lt_or_ge i x.l.length with hlt | hge
      case inl =>
        obtain ⟨y, hy⟩ : ∃ y, x.l[i]? = some y := ⟨_, List.getElem?_eq_getElem hlt⟩
        have hy2 := (List.getElem?_eq_some_iff.1 hy).2
        have hmin : min i x.l.length = i := by omega
        simp [e8, e7, e1, e3, e5, hlt, hy, hy2, Ex.d_eq]
        refine adraw2 10 [] (by kernel_rfl) (by kernel_rfl) (by kernel_rfl) (by kernel_rfl) (by kernel_rfl) ?_
        simp [e8, e7, e1, e3, e5, hlt, hy, hy2, Ex.d_eq]
        refine adC_of (ih y (List.mem_of_getElem? hy) (by have := Ex.nodes_mem (List.mem_of_getElem? hy); omega)) (by simp) trivial (by simp) (by simp) ?_
        simp [e7, e8, Ex.d_eq, hmin]
        refine aRaw_app byt_23 ?_
        simp [e7, e8, Ex.d_eq, hmin]
        refine ⟨by unfold maxLen; omega, by omega, ?_⟩
        simp [e8, succ_wrap hlt n1]
        have hels : dEls (Ex.ds (List.map (repl v b) (List.take (i + 1) x.l))) = dEls (Ex.ds (List.map (repl v b) (List.take i x.l))) ++ [[aI .i64 (repl v b y).op, aI .u32 (repl v b y).n, aI .i64 (repl v b y).v, aI .i64 (repl v b y).wd, .d (.sl 5 (Ex.ds (repl v b y).l))]] := by
          rw [List.take_add_one, hy]
          simp [Ex.ds_map, dEls, Ex.d_eq]
        refine hK (i + 1) _ _ _ _ (Sub.take 4 (Nat.zero_le _)) ⟨by omega, by rw [hels]; simp, by simp, by simp, by simp [e1], by simp [e3], by simp [e5], by simp [e6]⟩ (by omega)
      obtain rfl : i = x.l.length := by omega
      rw [List.take_length]
      have nl : NLeS (List.take x.l.length (Ex.ds (List.map (repl v b) x.l))) (Ex.ds (List.map (repl v b) x.l)) := by
        rw [List.take_of_length_le (by simp)]; exact NLeS.refl _
      simp [e7, e8, e3, e6, Ex.d_eq, hc]
      first | exact nl | exact ⟨hc2, nl⟩
end Go.Proofs.YtfndoocgpmgalaaDoor

/- Contract: il.Size, by il.visit with a closure that counts. -/
namespace Go.Proofs.YtfndoocgpmgalaaDoor
open Go.RowKit
abbrev cellI (n : Int) : Blk := ⟨0, true, 3, 1, [[aI .i64 n]]⟩
theorem size1_ac (x : Ex) (b0 : Blk) (n : Int) (N : AHeap) (h0 : 0 ≤ n) (hn : n ≤ 1000000000) :
    AC Tryd.prog 47 [exA x, .ptr 1 0 0 0] (b0 :: cellI n :: N) (fun r A' => r = .tup [] ∧ ∃ N', A' = b0 :: cellI (n + 1) :: (N ++ N')) := by
  refine ac_of Tryd.func47 rfl (by kernel_rfl) (by simp [Tryd.ntmps47]) fun hb => ?_
  simp [Tryd.f47, i64w (n := n + 1) (by omega)]
theorem visit_ac : ∀ (x : Ex) (b0 : Blk) (n : Int) (N : AHeap), 0 ≤ n → n + x.nodes ≤ 1000000000 →
    AC Tryd.prog 46 [exA x, .fn 47 [] [.ptr 1 0 0 0]] (b0 :: cellI n :: N) (fun r A' => r = .tup [] ∧ ∃ N', A' = b0 :: cellI (n + (x.nodes : Nat)) :: (N ++ N')) := by
  intro x
  induction x using Ex.ind with
  | h x ih =>
    intro b0 n N h0 hn
    have hlen := x.nodes_len
    have n1 : x.l.length ≤ maxLen := by unfold maxLen; omega
    have hne : x.nodes = Ex.nodess x.l + 1 := by cases x; rfl
    refine ac_of Tryd.func46 rfl (by kernel_rfl) (by simp [Tryd.ntmps46]) fun hb => ?_
    simp [Tryd.f46]
    refine aCall_ofc (size1_ac x b0 n _ h0 (by omega)) (by simp) ?_
    rintro _ _ ⟨rfl, N1, rfl⟩
    simp
    refine aLoop_of (α := Nat) (fun i e A => i ≤ x.l.length ∧ (∃ N', A = b0 :: cellI (n + 1 + (Ex.nodess (x.l.take i) : Nat)) :: (N ++ N')) ∧
      e 12 = aI .i64 i ∧ e 11 = aI .i64 x.l.length ∧ e 10 = .d (.sl 5 (Ex.ds x.l)) ∧ e 1 = .fn 47 [] [.ptr 1 0 0 0]) (fun i => x.l.length - i) 0 (Sub.refl _ _ _)
      ⟨by omega, ⟨_, by simp [Ex.nodess]; rfl⟩, by simp, by simp, by simp, by simp⟩ ?_
    rintro i e A ⟨hi, ⟨N', rfl⟩, e12, e11, e10, e1⟩ K hK
    rcases Nat.lt_or_ge i x.l.length with hlt | hge
    case inr =>
      obtain rfl : i = x.l.length := by omega
      rw [List.take_length]
      simp [e12, e11]
      rw [hne]
      simp
      omega
    obtain ⟨y, hy⟩ : ∃ y, x.l[i]? = some y := ⟨_, List.getElem?_eq_getElem hlt⟩
    have hy2 := (List.getElem?_eq_some_iff.1 hy).2
    have hm := Ex.nodess_mem (List.mem_of_getElem? hy)
    have ht := nodess_take hy
    have hle : Ex.nodess (x.l.take (i + 1)) ≤ Ex.nodess x.l := by
      have := List.take_append_drop (i + 1) x.l
      have h2 : Ex.nodess (x.l.take (i + 1) ++ x.l.drop (i + 1)) = Ex.nodess (x.l.take (i + 1)) + Ex.nodess (x.l.drop (i + 1)) := by
        generalize x.l.take (i + 1) = a
        induction a with
        | nil => simp [Ex.nodess]
        | cons y a iha => simp only [List.cons_append, Ex.nodess, iha]; omega
      rw [this] at h2
      omega
    simp [e12, e11, e10, e1, hlt, hy, hy2, Ex.d_eq]
    refine aCall_ofc (ih y (List.mem_of_getElem? hy) b0 (n + 1 + (Ex.nodess (x.l.take i) : Nat)) _ (by omega) (by omega)) (by simp) ?_
    rintro _ _ ⟨rfl, N2, rfl⟩
    simp [e12, succ_wrap hlt n1]
    refine hK (i + 1) _ _ _ _ (Sub.refl _ _ _) ⟨by omega, ⟨_, by rw [ht]; simp; constructor; omega; rfl⟩, by simp, by simp [e11], by simp [e10], by simp [e1]⟩ (by omega)
theorem ilsize_af (x : Ex) (hn : x.nodes ≤ 1000000000) : AF Tryd.prog 19 [exA x] (aI .i64 x.nodes) := by
  refine af_of Tryd.func19 rfl (by kernel_rfl) (by simp [Tryd.ntmps19]) fun _ => ?_
  simp [Tryd.f19]
  refine aCall_ofc (visit_ac x _ 0 [] (by omega) (by omega)) (by simp) ?_
  rintro _ _ ⟨rfl, N', rfl⟩
  simp
end Go.Proofs.YtfndoocgpmgalaaDoor

/- Contract: the law IlReplaceSize answers true. -/
namespace Go.Proofs.YtfndoocgpmgalaaDoor
open Go.RowKit
theorem repl_plain (v : Int) (b : Ex) : ∀ e : Ex, ((repl v b e).nodes : Int) = e.nodes + cntV v e * ((b.nodes : Int) - 1) ∧ cntV v (repl v b e) = cntV v e * cntV v b ∧ (cntV v e = 0 → repl v b e = e) := by
  intro e
  induction e using Ex.ind with
  | h e ih =>
  obtain ⟨o, n, w, wd, l⟩ := e
  by_cases hv : o = 2 ∧ w = v ∧ l.length = 0
  · obtain rfl : l = [] := List.eq_nil_of_length_eq_zero hv.2.2
    have hr : repl v b (.mk o n w wd []) = b := by rw [repl_eq]; exact if_pos hv
    have hc : cntV v (.mk o n w wd []) = 1 := by rw [cntV_eq]; simp [hv.1, hv.2.1, cntV.cntVs]
    rw [hr, hc]
    refine ⟨?_, by omega, fun h => by omega⟩
    simp [Ex.nodes, Ex.nodess]
    omega
  · have hr : repl v b (.mk o n w wd l) = .mk o n w wd (l.map (repl v b)) := by rw [repl_eq]; exact if_neg hv
    have hc : cntV v (.mk o n w wd l) = cntV.cntVs v l := by rw [cntV_eq]; show (if o = 2 ∧ w = v ∧ l.length = 0 then 1 else 0) + cntV.cntVs v l = _; rw [if_neg hv]; omega
    have hc2 : cntV v (.mk o n w wd (l.map (repl v b))) = cntV.cntVs v (l.map (repl v b)) := by rw [cntV_eq]; show (if o = 2 ∧ w = v ∧ (l.map (repl v b)).length = 0 then 1 else 0) + cntV.cntVs v (l.map (repl v b)) = _; rw [if_neg (by rw [List.length_map]; exact hv)]; omega
    have hl : ∀ l : List Ex, (∀ x ∈ l, ((repl v b x).nodes : Int) = x.nodes + cntV v x * ((b.nodes : Int) - 1) ∧ cntV v (repl v b x) = cntV v x * cntV v b ∧ (cntV v x = 0 → repl v b x = x)) →
        ((Ex.nodess (l.map (repl v b)) : Nat) : Int) = Ex.nodess l + cntV.cntVs v l * ((b.nodes : Int) - 1) ∧ cntV.cntVs v (l.map (repl v b)) = cntV.cntVs v l * cntV v b ∧ (cntV.cntVs v l = 0 → l.map (repl v b) = l) := by
      intro l
      induction l with
      | nil => intro _; simp [Ex.nodess, cntV.cntVs]
      | cons a l ihl =>
        intro h
        obtain ⟨a1, a2, a3⟩ := h a (by simp)
        obtain ⟨l1, l2, l3⟩ := ihl fun x hx => h x (by simp [hx])
        simp only [List.map_cons, Ex.nodess, cntV.cntVs]
        refine ⟨?_, ?_, fun h0 => ?_⟩
        · simp only [Int.natCast_add, Int.add_mul, a1, l1]
          omega
        · rw [Nat.add_mul, a2, l2]
        · rw [a3 (by omega), l3 (by omega)]
    obtain ⟨h1, h2, h3⟩ := hl l ih
    rw [hr, hc, hc2]
    refine ⟨?_, h2, fun h0 => by rw [h3 h0]⟩
    simp only [Ex.nodes, Int.natCast_add, h1]
    omega
theorem lawrsize19_af (e b : Ex) (v : Int) : AF Tryd.prog 5 [exA e, aI .i64 v, exA b] (aB true) := by
  have ca := small_af e 12 (by omega) (by omega)
  have cb := small_af b 12 (by omega) (by omega)
  refine af_of Tryd.func5 rfl (by kernel_rfl) (by simp [Tryd.ntmps5]) fun _ => ?_; simp [Tryd.f5, Ex.d_eq]
  cases hsa : decide (0 ≤ nodI e 12 3000) <;> rw [hsa] at ca
  · refine aCall_of ca (by simp) (by simp [Ex.d_eq]) ?_; simp [Ex.d_eq]
    refine aCall_of l19ex_af (by simp) (by simp [Ex.d_eq]) ?_; simp [Ex.d_eq]
  refine aCall_of ca (by simp) (by simp [Ex.d_eq]) ?_; simp [Ex.d_eq]
  cases hsb : decide (0 ≤ nodI b 12 3000) <;> rw [hsb] at cb
  · refine aCall_of cb (by simp) (by simp [Ex.d_eq]) ?_; simp [Ex.d_eq]
    refine aCall_of l19ex_af (by simp) (by simp [Ex.d_eq]) ?_; simp [Ex.d_eq]
  refine aCall_of cb (by simp) (by simp [Ex.d_eq]) ?_; simp [Ex.d_eq]
  have ha : e.nodes ≤ 3000 := by
    have := nodI_le e 12 3000 (by omega)
    have h0 : 0 ≤ nodI e 12 3000 := by simpa using hsa
    omega
  have hb : b.nodes ≤ 3000 := by
    have := nodI_le b 12 3000 (by omega)
    have h0 : 0 ≤ nodI b 12 3000 := by simpa using hsb
    omega
  have hb1 : 1 ≤ b.nodes := by cases b; simp [Ex.nodes]
  obtain ⟨p1, p2, p3⟩ := repl_plain v b e
  have hce := cntV_le v e
  have hcb := cntV_le v b
  have q0 : (0 : Int) ≤ cntV v e * ((b.nodes : Int) - 1) := Int.mul_nonneg (by omega) (by omega)
  have q1 : (cntV v e : Int) * ((b.nodes : Int) - 1) ≤ 3000 * 3000 := Int.mul_le_mul (by omega) (by omega) (by omega) (by omega)
  have q2 : cntV v e * cntV v b ≤ 3000 * 3000 := Nat.mul_le_mul (by omega) (by omega)
  have cr := replace_af v b (by omega) e (by omega)
  have cr2 := r19replace_af v b e (by omega)
  have cn := count_af v e (by omega)
  have cnb := count_af v b (by omega)
  have cnq := count_af v (repl v b e) (by omega)
  have se := ilsize_af e (by omega)
  have sb := ilsize_af b (by omega)
  have sq := ilsize_af (repl v b e) (by omega)
  have cs := refsame_af (repl v b e) (repl v b e)
  have cm := same_af (repl v b e) e
  rw [p1] at sq
  rw [p2] at cnq
  have cm2 : cntV v e = 0 → AF Tryd.prog 20 [exA (repl v b e), exA e] (aB true) := fun h => by
    rw [p3 h] at cm ⊢
    rwa [sameB_refl] at cm
  rw [sameB_refl] at cs
  clear cm p1 p2 p3
  generalize repl v b e = q at *
  refine aCall_of cr (by simp) (by simp [Ex.d_eq]) ?_; simp [Ex.d_eq]
  refine aCall_of cn (by simp) (by simp [Ex.d_eq]) ?_; simp [Ex.d_eq]
  refine adraw [] (by kernel_rfl) (by kernel_rfl) (by kernel_rfl) (by kernel_rfl) ?_; simp [Ex.d_eq]
  refine adC_of cr2 (by simp) trivial (by simp) (by simp [Ex.d_eq]) ?_; simp [Ex.d_eq]
  refine adC_of cs (by simp) trivial (by simp) (by simp [Ex.d_eq]) ?_; simp [Ex.d_eq]
  refine adC_of sq (by simp) trivial (by simp) (by simp [Ex.d_eq]) ?_; simp [Ex.d_eq]
  refine adC_of se (by simp) trivial (by simp) (by simp [Ex.d_eq]) ?_; simp [Ex.d_eq]
  refine adC_of sb (by simp) trivial (by simp) (by simp [Ex.d_eq]) ?_; simp [Ex.d_eq]
  simp [i64w (n := (b.nodes : Int) - 1) (by omega), i64w (n := (cntV v e : Int) * ((b.nodes : Int) - 1)) (by omega), i64w (n := (e.nodes : Int) + (cntV v e : Int) * ((b.nodes : Int) - 1)) (by omega)]
  refine adC_of cnq (by simp) trivial (by simp) (by simp [Ex.d_eq]) ?_; simp [Ex.d_eq]
  refine adC_of cnb (by simp) trivial (by simp) (by simp [Ex.d_eq]) ?_; simp [Ex.d_eq]
  have q3 : ((cntV v e : Int) * (cntV v b : Int)) = ((cntV v e * cntV v b : Nat) : Int) := by simp
  simp [i64w (n := (cntV v e : Int) * (cntV v b : Int)) (by rw [q3]; omega)]
  by_cases h0 : 0 < cntV v e
  · simp [h0]
    refine adC_of l19ex_af (by simp) trivial (by simp) (by simp [Ex.d_eq]) ?_; simp [Ex.d_eq]
  · have h0' : cntV v e = 0 := by omega
    simp [h0']
    refine adC_of (cm2 h0') (by simp) trivial (by simp) (by simp [Ex.d_eq]) ?_; simp [Ex.d_eq]
    refine adC_of l19ex_af (by simp) trivial (by simp) (by simp [Ex.d_eq]) ?_; simp [Ex.d_eq]
end Go.Proofs.YtfndoocgpmgalaaDoor
