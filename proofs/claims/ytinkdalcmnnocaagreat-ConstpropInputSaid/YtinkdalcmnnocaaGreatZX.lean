import Derived.Test.YtinkdalcmnnocaaGreatZY
import Derived.Test.YtinkdalcmnnocaaGreatZV
import Derived.Test.YtinkdalcmnnocaaGreatZS
import Derived.Test.YtinkdalcmnnocaaGreatAp
set_option linter.all false
namespace Go.Proofs.YtinkdalcmnnocaaGreat
open Go.RowKit
structure OneB (s : Ss) (B : Bl) (V1 : List (Int × Int × Int)) : Prop where
 b : s.g.b = [B]
 p : s.ph = [[]]
 o : 12 < s.og.length ∧ s.og.length ≤ 1000
 g : GrFit s.g
 e : grErr s.g = 0
 ed : edgN s.g 0 = []
 el : ∀ t ∈ B.s, t.e.length ≤ maxLen ∧ ∀ x ∈ t.e, x.nodes ≤ 1000000
 d : ∀ (j : Nat) (t : St), B.s[j]? = some t → asB t = true → dfOk s (dfP B.s j) t.va = true
 L : ∀ v q, lk2 v (dfP B.s B.s.length) = some q → q.1 = 0
 u : ∀ (j : Nat) (t : St), B.s[j]? = some t → ∀ x ∈ t.e, ∀ v ∈ varsR x, knB s v = true ∧ usB (dfP B.s B.s.length) v j = true
 n : ∀ t ∈ B.s, ∀ e ∈ t.e, OkN e
 f : ∀ t ∈ B.s, ∀ e ∈ t.e, formB e = true
 h1 : ∀ t ∈ B.s, t.op = 1 → t.e = [exAt t 0]
 op : ∀ t ∈ B.s, t.op ≠ 6 ∧ t.op ≠ 7 ∧ t.op ≠ 8
 v1 : viP (vI 12, false) B.s = (V1, true)
 v2 : viP (V1, false) B.s = (V1, false)
theorem OneB.chk {s : Ss} {B : Bl} {V1 : List (Int × Int × Int)} (h : OneB s B V1) : AF Tryz.prog 13 [ssV s] (aI .i64 0) := ssaCheck_af s B h.b h.p h.o.1 h.g h.e h.ed h.el h.d h.L h.u
theorem OneB.pre {s : Ss} {B : Bl} {V1 : List (Int × Int × Int)} (h : OneB s B V1) : AF Tryz.prog 23 [grV s.g] (.d (.sl 1 (dataP (turnN s.g)))) := dmpreds_af s.g h.g (edgOk s.g) (by rw [h.b]; simp)
theorem OneB.ana {s : Ss} {B : Bl} {V1 : List (Int × Int × Int)} (h : OneB s B V1) {A : AHeap} (hcl : ClH A) : AC Tryz.prog 14 [ssV s] A (fun r A' => r = .ptr (A.length + 4) 0 0 0 ∧ A' = hpA A s V1 true (dataP (turnN s.g)) false) :=
 cpAnalyze_ac h.b _ h.pre hcl (by rw [h.p]; rfl) (by have := (h.g.2 B (by rw [h.b]; simp)).1; unfold maxLen; omega) h.n h.f h.h1 h.op h.v1 h.v2
def setR (x : Int × Int) : List D := [.v (.bool (decide (x.1 = 0))), .v (.bool (decide (x.1 = 2))), .v (.int .u32 (if x.1 = 1 then x.2 else 0)), .v (.int .u32 (if x.1 = 1 then x.2 else 0)), .v (.int .u32 0)]
def setsR (V : List (Int × Int × Int)) (n i : Nat) : List (List D) := (List.range n).map fun j => if j < i then setR (gtV V j) else [.v (.bool false), .v (.bool false), .v (.int .u32 0), .v (.int .u32 0), .v (.int .u32 0)]
abbrev cseB (V : List (Int × Int × Int)) (n i : Nat) : Blk := ⟨0, true, 47, 5, dEls (setsR V n i)⟩
theorem setsR_len (V : List (Int × Int × Int)) (n i : Nat) : (setsR V n i).length = n := by simp [setsR]
theorem setsR_all (V : List (Int × Int × Int)) (n i : Nat) : (setsR V n i).take n = setsR V n i := List.take_of_length_le (by rw [setsR_len]; exact Nat.le_refl _)
theorem setsR_zero (V : List (Int × Int × Int)) (n : Nat) : dEls (setsR V n 0) = List.replicate n [aB false, aB false, aI .u32 0, aI .u32 0, aI .u32 0] := by
 rw [List.eq_replicate_iff]
 refine ⟨by simp [dEls, setsR], fun x hx => ?_⟩
 simp only [dEls, setsR, List.map_map, List.mem_map] at hx
 obtain ⟨j, _, rfl⟩ := hx
 simp
theorem setsR_at (V : List (Int × Int × Int)) {n i : Nat} (h : i < n) : (setsR V n i)[i]? = some [.v (.bool false), .v (.bool false), .v (.int .u32 0), .v (.int .u32 0), .v (.int .u32 0)] := by
 simp [setsR, h]
theorem setsR_next (V : List (Int × Int × Int)) {n i : Nat} (h : i < n) : (dEls (setsR V n i)).set i ((setR (gtV V i)).map .d) = dEls (setsR V n (i + 1)) := by
 apply List.ext_getElem?
 intro j
 rw [List.getElem?_set]
 by_cases hij : i = j
 ·subst hij
  simp [dEls, setsR, h]
 ·rw [if_neg hij]
  simp only [dEls, setsR, List.getElem?_map]
  cases hj : (List.range n)[j]? with
  | none => rfl
  | some q =>
    have : q = j := by
     rw [List.getElem?_range (by simpa using (gSI.1 hj).1)] at hj
     exact (oSI hj).symm
    subst this
    simp only [Option.map_some]
    by_cases h1 : q < i
    ·rw [if_pos h1, if_pos (by omega)]
    ·rw [if_neg h1, if_neg (by omega)]
set_option maxRecDepth 100000 in
theorem cpValues_af {s : Ss} {B : Bl} {V1 : List (Int × Int × Int)} (h : OneB s B V1) : AF Tryz.prog 7 [ssV s] (.d (.sl 5 (setsR V1 s.og.length s.og.length))) := by
 obtain ⟨ho1, ho2⟩ := h.o
 have hl1 : s.og.length ≤ maxLen := by unfold maxLen; omega
 have c1 := h.chk
 have c2 := h.ana (A := [ssB s]) (fun b hb => by obtain rfl := List.mem_singleton.1 hb; simp [clnB, clnE, cln])
 refine af_of Tryz.func7 rfl (by kernel_rfl) (by simp [Tryz.ntmps7]) fun _ => ?_; simp [Tryz.f7, Ex.d_eq]
 refine aCall_of c1 (by kernel_rfl) (by simp) ?_
 simp
 refine aCall_ofc c2 (by kernel_rfl) ?_
 rintro _ _ ⟨rfl, rfl⟩
 simp
 refine aRaw_make (kl := .i64) (kc := .i64) (l := s.og.length) (c := s.og.length) (z := [aB false, aB false, aI .u32 0, aI .u32 0, aI .u32 0]) byt_41 (by simp) (by simp) (by simp) (by omega) hl1 (by omega) ?_
 simp
 obtain ⟨pr, hpr⟩ : ∃ pr, dataP (turnN s.g) = pr := ⟨_, rfl⟩
 rw [hpr]
 have hz : (⟨0, true, 47, 5, List.replicate s.og.length [aB false, aB false, aI .u32 0, aI .u32 0, aI .u32 0]⟩ : Blk) = cseB V1 s.og.length 0 := by
  simp only [cseB, setsR_zero]
 refine aLoop_of (α := Nat) (fun i e A' => i ≤ s.og.length ∧ (∃ N, A' = hpA [ssB s] s V1 true pr false ++ cseB V1 s.og.length i :: N) ∧ e 3 = .ptr 5 0 0 0 ∧ e 4 = .own 6 0 0 s.og.length ∧ e 17 = aI .i64 s.og.length ∧ e 18 = aI .i64 i) (fun i => s.og.length - i) 0 (Sub.refl _ _ _)
  ⟨by omega, ⟨[], by rw [← hz]; simp⟩, by simp, by simp, by simp, by simp⟩ ?_
 rintro i e A' ⟨hi, ⟨N, rfl⟩, e3, e4, e17, e18⟩ K hK
 rcases Nat.lt_or_ge i s.og.length with hlt | hge
 case inr =>
  obtain rfl : i = s.og.length := by omega
  simp [e3, e4, e17, e18, setsR_all, setsR_len]
 have hat := setsR_at V1 hlt
 have hat2 := (gSI.1 hat).2
 simp [e3, e4, e17, e18, hlt]
 refine aRaw_lookup (r := lvV (gtV V1 i)) ?_ ?_
 ·have hl := look_m2 (A := hpA [ssB s] s V1 true pr false ++ cseB V1 s.og.length i :: N) (b := 2) (ver := 1) (k1 := .i64) (k2 := .u32) (L := V1) und_vals (by kernel_rfl) zv_val rfl (i : Int) false
  simpa [okM, gtV] using hl
 obtain ⟨x, hx⟩ : ∃ x, gtV V1 (i : Int) = x := ⟨_, rfl⟩
 rw [hx]
 simp [e3, e4, e17, e18, hlt, lap, lap0, las, las0]
 have hnx := setsR_next V1 hlt
 rw [hx] at hnx
 by_cases x0 : x.1 = 0
 ·simp [setR, x0] at hnx
  simp [x0, e3, e4, e17, e18, hlt, setsR_len, hat, hat2, succ_wrap hlt hl1]
  refine hK (i + 1) _ _ _ _ (Sub.refl _ _ _) ⟨by omega, ⟨N ++ [lvBk x], ?_⟩, by simp [e3], by simp [e4], by simp [e17], by simp⟩ (by omega)
  simp [x0]
  exact hnx
 simp [x0]
 by_cases x1 : x.1 = 1
 ·simp [setR, x1] at hnx
  simp [x1]
  refine adraw [(10, 7)] (by kernel_rfl) (by kernel_rfl) (by kernel_rfl) (by kernel_rfl) ?_
  simp [e3, e4, e17, e18, hlt, setsR_len, hat, hat2, succ_wrap hlt hl1, lap, lap0, lateOk_cons]
  refine hK (i + 1) _ _ _ _ (Sub.refl _ _ _) ⟨by omega, ⟨N ++ [lvBk x], ?_⟩, by simp [e3], by simp [e4], by simp [e17], by simp⟩ (by omega)
  simp [x1]
  exact hnx
 by_cases x2 : x.1 = 2
 ·simp [setR, x2] at hnx
  simp [x2, e3, e4, e17, e18, hlt, setsR_len, hat, hat2, succ_wrap hlt hl1]
  refine hK (i + 1) _ _ _ _ (Sub.refl _ _ _) ⟨by omega, ⟨N ++ [lvBk x], ?_⟩, by simp [e3], by simp [e4], by simp [e17], by simp⟩ (by omega)
  simp [x2]
  exact hnx
 ·simp [setR, x0, x1, x2] at hnx
  have hsm : (dEls (setsR V1 s.og.length i)).set i [.d (.v (.bool false)), .d (.v (.bool false)), .d (.v (.int .u32 0)), .d (.v (.int .u32 0)), .d (.v (.int .u32 0))] = dEls (setsR V1 s.og.length i) := set_same (by simp [dEls, hat])
  rw [hsm] at hnx
  simp [x0, x1, x2, e3, e4, e17, e18, hlt, setsR_len, hat, hat2, succ_wrap hlt hl1]
  refine hK (i + 1) _ _ _ _ (Sub.refl _ _ _) ⟨by omega, ⟨N ++ [lvBk x], ?_⟩, by simp [e3], by simp [e4], by simp [e17], by simp⟩ (by omega)
  simp [x0]
  exact hnx
theorem und_mii : Tryz.prog.underlying 65 = some (.map 3 3) := by kernel_rfl
theorem zv_i64 : zv Tryz.prog 3 = some (.int .i64 0) := by kernel_rfl
abbrev cyB (C : List (Int × Int)) : Blk := mpB .i64 .i64 C
def rtF (C : List (Int × Int)) : Nat → Int → Int
 | 0, v => v
 | n + 1, v => match lkL v C with
   | some w => rtF C n w
   | none => v
section
variable {A : AHeap} {c : Nat} {C : List (Int × Int)}
set_option maxRecDepth 100000 in
theorem cpRoot_ac (hc : A[c]? = some (cyB C)) (hl : C.length ≤ 1000) (v : Int) : AC Tryz.prog 36 [.mp c 0, aI .i64 v] A (fun r A' => r = aI .i64 (rtF C (C.length + 1) v) ∧ A' = A) := by
 obtain ⟨R, hR⟩ : ∃ R, rtF C (C.length + 1) v = R := ⟨_, rfl⟩
 rw [hR]
 have hlk := fun v : Int => look_mp (A := A) und_mii Tryz.underlying3 zv_i64 hc v true
 refine ac_of Tryz.func36 rfl (by kernel_rfl) (by simp [Tryz.ntmps36]) fun _ => ?_
 simp [Tryz.f36]
 refine .inr ?_
 refine aRaw_lenM (r := aI .i64 C.length) ?_ ?_
 ·simp [lenM, hc, mpB, mpR]
 have hw : IntKind.i64.wrap ((C.length : Int) + 1) = ((C.length + 1 : Nat) : Int) := i64w (by omega)
 simp [hw]
 refine aLoop_of (α := Nat × Int) (fun q e A' => A' = A ∧ q.1 ≤ C.length + 1 ∧ rtF C (C.length + 1 - q.1) q.2 = R ∧ e 0 = .mp c 0 ∧ e 1 = aI .i64 q.2 ∧ e 9 = aI .i64 (C.length + 1 : Nat) ∧ e 10 = aI .i64 q.1) (fun q => C.length + 1 - q.1) (0, v) (Sub.refl _ _ _)
  ⟨rfl, by simp, by simpa using hR, by simp, by simp, by simp, by simp⟩ ?_
 rintro ⟨i, u⟩ e A' ⟨rfl, hi, hr, e0, e1, e9, e10⟩ K hK
 simp only at hi hr e1 e10 hK
 rcases Nat.lt_or_ge i (C.length + 1) with hlt | hge
 case inr =>
  obtain rfl : i = C.length + 1 := by omega
  rw [Nat.sub_self, rtF] at hr
  subst hr
  simp [e0, e1, e9, e10]
 have hlt' : (i : Int) < (C.length : Int) + 1 := by omega
 rw [show C.length + 1 - i = (C.length - i) + 1 by omega, rtF] at hr
 simp [e0, e1, e9, e10, hlt']
 refine aRaw_lookup (r := okM true (aI .i64 ((lkL u C).getD 0)) (lkL u C).isSome) (by simpa [e0, e1] using hlk u) ?_
 cases hq : lkL u C with
 | none =>
   rw [hq] at hr
   simp only at hr
   subst hr
   simp [okM, e0, e1, e9, e10]
 | some w =>
   rw [hq] at hr
   simp only at hr
   have hw2 : IntKind.i64.wrap ((i : Int) + 1) = ((i + 1 : Nat) : Int) := i64w (by omega)
   simp [okM, e0, e1, e9, e10, hw2]
   exact hK (i + 1, w) _ _ _ _ (Sub.refl _ _ _) ⟨rfl, by simp only; omega, by simp only; rw [show C.length + 1 - (i + 1) = C.length - i by omega]; exact hr, by simp [e0], by simp, by simp [e9], by simp⟩ (by simp only; omega)
abbrev st1B (t : St) (x : Ex) : Blk := ⟨0, true, 40, 8, [[aI .i64 1, aI .i64 t.va, aI .i64 t.wd, aI .i64 t.nx, aI .i64 t.el, aI .u32 t.tg, .d (.sl 5 [[.v (.int .i64 2), .v (.int .u32 x.n), .v (.int .i64 x.v), .v (.int .i64 x.wd), .sl 5 (Ex.ds x.l)]]), .d (.sl 1 (i64s t.cs))]]⟩
def cpS (C : List (Int × Int)) (t : St) : List (Int × Int) := if ((t.op = 1 ∧ 12 < t.va) ∧ (exAt t 0).op = 2) ∧ 12 ≤ (exAt t 0).v then upL t.va (exAt t 0).v C else C
def cpP (l : List St) : List (Int × Int) := l.foldl cpS []
theorem cpP_take {l : List St} {i : Nat} {t : St} (h : l[i]? = some t) : cpP (l.take (i + 1)) = cpS (cpP (l.take i)) t := by
 unfold cpP
 rw [List.take_add_one, h, List.foldl_append]
 rfl
variable {b mv me eb : Nat} {s : Ss} {pr : List (List D)} {ch : Bool} {V : List (Int × Int × Int)} {B : Bl}
set_option maxRecDepth 100000 in
theorem cpCopies_ac (hb : A[b]? = some (anB s mv (.own eb 1 0 1) me pr ch)) (he : A[eb]? = some (xeB [true])) (hB : s.g.b = [B]) (hl : B.s.length ≤ maxLen) (h1 : ∀ t ∈ B.s, t.op = 1 → t.e = [exAt t 0]) :
 AC Tryz.prog 15 [.ptr b 0 0 0] A (fun r A' => r = .mp A.length 0 ∧ ∃ N, A' = A ++ cyB (cpP B.s) :: N) := by
 have hbM : ∀ M, (A ++ M)[b]? = some (anB s mv (.own eb 1 0 1) me pr ch) := fun M => lapl hb
 have heM : ∀ M, (A ++ M)[eb]? = some (xeB [true]) := fun M => lapl he
 refine ac_of Tryz.func15 rfl (by kernel_rfl) (by simp [Tryz.ntmps15]) fun _ => ?_
 simp [Tryz.f15]
 refine aRaw_makeMap (tg := 1000001) (sz := 2) (by kernel_rfl) ?_
 simp [hbM, hB]
 refine aLoop_iter 2 ?_
 simp [hbM, hB, Bl.d_eq, lap, lap0]
 refine aLoop_of (α := Nat) (fun i e A' => i ≤ B.s.length ∧ (∃ N, A' = A ++ cyB (cpP (B.s.take i)) :: N) ∧ e 0 = .ptr b 0 0 0 ∧ e 3 = .mp A.length 0 ∧ e 4 = aI .i64 0 ∧ e 14 = .d (.sl 2 (bls' [B])) ∧ e 15 = aI .i64 1 ∧ e 16 = aI .i64 0 ∧ e 22 = .d (.sl 8 (sts B.s)) ∧ e 23 = aI .i64 B.s.length ∧ e 24 = aI .i64 i) (fun i => B.s.length - i) 0 (Sub.refl _ _ _)
  ⟨by omega, ⟨[blkB1 B], by simp [cpP, mpB, mpR, Bl.d_eq]⟩, by simp, by simp, by simp, by simp [Bl.d_eq], by simp, by simp, by simp, by simp, by simp⟩ ?_
 rintro i e A' ⟨hi, ⟨N, rfl⟩, e0, e3, e4, e14, e15, e16, e22, e23, e24⟩ K hK
 rcases Nat.lt_or_ge i B.s.length with hlt | hge
 case inr =>
  obtain rfl : i = B.s.length := by omega
  simp [e0, e3, e4, e14, e15, e16, e22, e23, e24, List.take_length]
 obtain ⟨t, ht⟩ : ∃ t, B.s[i]? = some t := ⟨_, gEG hlt⟩
 have ht2 := (gSI.1 ht).2
 have htm := gMO ht
 have hst := cpP_take ht
 obtain ⟨C, hC⟩ : ∃ C, cpP (B.s.take i) = C := ⟨_, rfl⟩
 rw [hC] at hst
 simp [hC, e0, e3, e4, e14, e15, e16, e22, e23, e24, hlt, ht, ht2, St.d_eq, hbM, heM, lap, lap0]
 by_cases o1 : t.op = 1
 ·have hte := h1 t htm o1
  obtain ⟨x, hxe⟩ : ∃ x, exAt t 0 = x := ⟨_, rfl⟩
  rw [hxe] at hte
  unfold cpS at hst
  rw [hxe] at hst
  simp [o1, hte, Ex.d_eq]
  by_cases h2 : 12 < t.va
  case neg =>
   rw [if_neg (fun h => h2 h.1.1.2)] at hst
   have hw := succ_wrap hlt hl
   simp [h2, e0, e3, e4, e14, e15, e16, e22, e23, e24, hw]
   refine hK (i + 1) _ _ _ _ (Sub.refl _ _ _) ⟨by omega, ⟨_, by rw [hst]⟩, by simp [e0], by simp [e3], by simp [e4], by simp [e14], by simp [e15], by simp [e16], by simp [e22], by simp [e23], by simp⟩ (by omega)
  by_cases h3 : x.op = 2
  case neg =>
   rw [if_neg (fun h => h3 h.1.2)] at hst
   have hw := succ_wrap hlt hl
   simp [h2, h3, hte, Ex.d_eq, lap, lap0, e0, e3, e4, e14, e15, e16, e22, e23, e24, hw]
   refine hK (i + 1) _ _ _ _ (Sub.refl _ _ _) ⟨by omega, ⟨_, by rw [hst]⟩, by simp [e0], by simp [e3], by simp [e4], by simp [e14], by simp [e15], by simp [e16], by simp [e22], by simp [e23], by simp⟩ (by omega)
  by_cases h4 : 12 ≤ x.v
  case neg =>
   rw [if_neg (fun h => h4 h.2)] at hst
   have hw := succ_wrap hlt hl
   simp [h2, h3, h4, hte, Ex.d_eq, lap, lap0, e0, e3, e4, e14, e15, e16, e22, e23, e24, hw]
   refine hK (i + 1) _ _ _ _ (Sub.refl _ _ _) ⟨by omega, ⟨_, by rw [hst]⟩, by simp [e0], by simp [e3], by simp [e4], by simp [e14], by simp [e15], by simp [e16], by simp [e22], by simp [e23], by simp⟩ (by omega)
  rw [if_pos ⟨⟨⟨o1, h2⟩, h3⟩, h4⟩] at hst
  simp [h2, h3, h4, hte, Ex.d_eq, lap, lap0]
  refine adraw2 8 [] (by kernel_rfl) (by kernel_rfl) (by kernel_rfl) (by kernel_rfl) (by kernel_rfl) ?_
  simp [e3, lap, lap0]
  refine aRaw_mapUpdate (A' := A ++ cyB (upL t.va x.v C) :: (N ++ [st1B t x])) ?_ ?_
  ·have hup := upd_mp (P := Tryz.prog) (t := 65) (A := A ++ cyB C :: (N ++ [st1B t x])) (b := A.length) (L := C) und_mii Tryz.underlying3 (lap0 _ _) t.va x.v
   rw [las0] at hup
   simpa [h3, e3] using hup
  have hw := succ_wrap hlt hl
  simp [e0, e3, e4, e14, e15, e16, e22, e23, e24, hw]
  refine hK (i + 1) _ _ _ _ (Sub.refl _ _ _) ⟨by omega, ⟨_, by rw [hst]⟩, by simp [e0], by simp [e3], by simp [e4], by simp [e14], by simp [e15], by simp [e16], by simp [e22], by simp [e23], by simp⟩ (by omega)
 ·have hst2 : cpP (B.s.take (i + 1)) = C := by rw [hst]; unfold cpS; rw [if_neg (fun h => o1 h.1.1.1)]
  clear hst
  have hst := hst2
  simp [o1]
  have hw := succ_wrap hlt hl
  simp [e0, e3, e4, e14, e15, e16, e22, e23, e24, hw]
  refine hK (i + 1) _ _ _ _ (Sub.refl _ _ _) ⟨by omega, ⟨_, by rw [hst]⟩, by simp [e0], by simp [e3], by simp [e4], by simp [e14], by simp [e15], by simp [e16], by simp [e22], by simp [e23], by simp⟩ (by omega)
set_option maxRecDepth 100000 in
theorem cpBranches_ac (hb : A[b]? = some (anB s mv (.own eb 1 0 1) me pr ch)) (he : A[eb]? = some (xeB [true])) (hB : s.g.b = [B]) {L : List St} {t : St} (hL : B.s = L ++ [t]) (hl : B.s.length ≤ maxLen) (h7 : t.op ≠ 7) (h8 : t.op ≠ 8) :
 AC Tryz.prog 17 [.ptr b 0 0 0] A (Same0 A (.d (.v (.slice none 0 0)))) := by
 have hbM : ∀ M, (A ++ M)[b]? = some (anB s mv (.own eb 1 0 1) me pr ch) := fun M => lapl hb
 have heM : ∀ M, (A ++ M)[eb]? = some (xeB [true]) := fun M => lapl he
 have hw : IntKind.i64.wrap ((B.s.length : Int) - 1) = (L.length : Int) := by
  rw [hL] at hl ⊢
  simp at hl ⊢
  unfold maxLen at hl
  exact i64w (by omega)
 have ht : B.s[L.length]? = some t := by rw [hL]; simp
 have hlt := (gSI.1 ht).1
 have ht2 := (gSI.1 ht).2
 refine ac_of Tryz.func17 rfl (by kernel_rfl) (by simp [Tryz.ntmps17]) fun _ => ?_
 simp [Tryz.f17, hb, hB]
 refine aLoop_iter 2 ?_
 simp [hb, hbM, heM, hB, Bl.d_eq, lap, lap0, hw, ht, ht2, hlt, St.d_eq, h7, h8, Same0]
end
def rwE (V : List (Int × Int × Int)) (C : List (Int × Int)) : Ex → Ex
 | .mk o n v w l => if o = 2 then (if 12 ≤ v ∧ (gtV V v).1 = 1 then eCon (gtV V v).2 else eVar (rtF C (C.length + 1) v)) else .mk o n v w (rwL l)
where rwL : List Ex → List Ex
 | [] => []
 | e :: l => rwE V C e :: rwL l
theorem rwL_map (V : List (Int × Int × Int)) (C : List (Int × Int)) : ∀ l : List Ex, rwE.rwL V C l = l.map (rwE V C)
 | [] => rfl
 | e :: l => by simp only [rwE.rwL, rwL_map V C l, List.map_cons]
def mdL {α : Type} (f : α → α) (l : List α) (q : Nat) : List α := (l.take q).map f ++ l.drop q
theorem mdL_at {α : Type} (f : α → α) {l : List α} {q : Nat} {x : α} (h : l[q]? = some x) : (mdL f l q)[q]? = some x := by
 have hl := (gSI.1 h).1
 unfold mdL
 rw [List.getElem?_append_right (by simp; omega)]
 simp [show min q l.length = q by omega, h]
theorem mdL_len {α : Type} (f : α → α) (l : List α) {q : Nat} (h : q ≤ l.length) : (mdL f l q).length = l.length := by
 unfold mdL
 simp
 omega
theorem mdL_next {α : Type} (f : α → α) {l : List α} {q : Nat} {x : α} (h : l[q]? = some x) : (mdL f l q).set q (f x) = mdL f l (q + 1) := by
 have hl := (gSI.1 h).1
 unfold mdL
 rw [List.set_append_right _ _ (by simp; omega), List.take_add_one, h]
 simp only [List.length_map, List.length_take, show min q l.length = q by omega, Nat.sub_self, List.map_append, Option.toList_some, List.map_cons, List.map_nil, List.append_assoc]
 congr 1
 rw [List.drop_eq_getElem_cons hl, List.set_cons_zero]
 rfl
theorem frz_get2 (Bs : List Nat) (A : AHeap) (i : Nat) : (frz Bs A)[i]? = (A[i]?).map fun k => if Bs.contains i then ⟨k.ver, false, k.ty, k.sz, k.els⟩ else k := by
 unfold frz
 rw [List.getElem?_mapIdx]
theorem frz_apj (A M : AHeap) (j : Nat) : frz [A.length + j] (A ++ M) = A ++ frz [j] M := by
 apply List.ext_getElem?
 intro i
 rw [frz_get2]
 rcases Nat.lt_or_ge i A.length with h | h
 ·rw [gAL h, gAL h]
  have : ([A.length + j] : List Nat).contains i = false := by simp; omega
  rw [this]
  simp
 ·rw [List.getElem?_append_right h, List.getElem?_append_right h, frz_get2]
  have : ([A.length + j] : List Nat).contains i = ([j] : List Nat).contains (i - A.length) := by
   rw [Bool.eq_iff_iff]
   simp
   omega
  rw [this]
theorem frz_two (a b : Blk) (k : Blk) (N : AHeap) : frz [2] (a :: b :: k :: N) = a :: b :: ⟨k.ver, false, k.ty, k.sz, k.els⟩ :: N := by
 apply List.ext_getElem?
 intro i
 rw [frz_get2]
 match i with
 | 0 => simp
 | 1 => simp
 | 2 => simp
 | i + 3 =>
   have : ([2] : List Nat).contains (i + 3) = false := by simp
   rw [this]
   simp
abbrev nxB : Blk := fldB 0 0 0 0 nilS
section
variable {A : AHeap} {b mv me c : Nat} {s : Ss} {X : AV} {pr : List (List D)} {ch : Bool} {V : List (Int × Int × Int)} {C : List (Int × Int)}
set_option maxRecDepth 100000 in
set_option maxHeartbeats 0 in
theorem cpRewrite_ac (hb : A[b]? = some (anB s mv X me pr ch)) (hm : A[mv]? = some (vlB V)) (hc : A[c]? = some (cyB C)) (hcl : C.length ≤ 1000) : ∀ e : Ex, e.nodes ≤ 1000000 → ∀ M, AC Tryz.prog 34 [.ptr b 0 0 0, exA e, .mp c 0] (A ++ M) (Same0 (A ++ M) (exA (rwE V C e))) := by
 intro e
 induction e using Ex.ind with
 | h e ih =>
 intro hnd M
 obtain ⟨B, hB⟩ : ∃ B, A ++ M = B := ⟨_, rfl⟩
 have hbB : B[b]? = some (anB s mv X me pr ch) := by rw [← hB]; exact lapl hb
 have hmB : B[mv]? = some (vlB V) := by rw [← hB]; exact lapl hm
 have hcB : B[c]? = some (cyB C) := by rw [← hB]; exact lapl hc
 have hbM : ∀ M, (B ++ M)[b]? = some (anB s mv X me pr ch) := fun M => lapl hbB
 have hl := fun (v : Int) (M : AHeap) => look_m2 (A := B ++ M) und_vals (by kernel_rfl) zv_val (lapl hmB) v false
 have ih' : ∀ x ∈ e.l, ∀ N, AC Tryz.prog 34 [.ptr b 0 0 0, exA x, .mp c 0] (B ++ N) (Same0 (B ++ N) (exA (rwE V C x))) := fun x hx N => by
  have := ih x hx (by have := Ex.nodes_mem hx; omega) (M ++ N)
  rw [← hB]
  simpa using this
 rw [hB]
 have hnl := e.nodes_len
 obtain ⟨o, n, v, w, l⟩ := e
 simp only [Ex.op_mk, Ex.n_mk, Ex.v_mk, Ex.wd_mk, Ex.l_mk] at ih' hnl
 by_cases o2 : o = 2
 ·obtain ⟨R, hR⟩ : ∃ R, rwE V C (.mk o n v w l) = R := ⟨_, rfl⟩
  rw [hR]
  rw [rwE, if_pos o2] at hR
  refine ac_of Tryz.func34 rfl (by kernel_rfl) (by simp [Tryz.ntmps34]) fun _ => ?_
  simp [Tryz.f34, o2, lap, lap0]
  refine adrawR [.ptr b 0 0 0, .ptr b 0 0 0, .ptr b 0 0 4, .mp mv 1, .ptr B.length 0 0 2, aI .i64 v, lvV (gtV V v), .ptr (B.length + 2) 0 0 0, .any]
   [(0, B ++ [exB (.mk o n v w l), nxB]), (128, B ++ [exB (.mk o n v w l), nxB, lvBk (0, 0)]), (384, B ++ [exB (.mk o n v w l), nxB, lvBk (gtV V v)])]
   (by kernel_rfl) (by kernel_rfl) (by simp [heapM, o2]) rfl ?_ ?_
  ·simp only [rowsR, List.mem_cons, List.not_mem_nil, or_false, forall_eq_or_imp, forall_eq]
   refine ⟨⟨?r0_0, ?r0_128, nmy (by kernel_rfl)⟩, ⟨?r1_0, ?r1_128, nmy (by kernel_rfl)⟩, ⟨?r2_0, ?r2_128, nmy (by kernel_rfl)⟩, ⟨?r3_0, ?r3_128, nmy (by kernel_rfl)⟩, ⟨?r4_0, ?r4_128, nmy (by kernel_rfl)⟩, ⟨?r5_0, ?r5_128, nmy (by kernel_rfl)⟩, ⟨?r6_0, ?r6_128, nmy (by kernel_rfl)⟩, ⟨?r7_0, nmy (by kernel_rfl), nmy (by kernel_rfl)⟩, ⟨nmy (by kernel_rfl), ?r8_128, nmy (by kernel_rfl)⟩, trivial⟩
   case r0_0 | r0_128 | r1_0 | r1_128 | r2_0 | r2_128 | r3_0 | r3_128 | r4_0 | r4_128 | r5_0 | r5_128 | r7_0 | r8_128 =>
    intro hmay
    clear hmay
    intro e' K' h A4 hA hk
    simp only [Op.operands, Call.operands] at h
    try simp [still, heapM, putR, dvA] at h
    simp [still, heapM, putR, dvA] at hA hk
    subst hA
    try simp [h, hbM, lap, lap0, las, las0]
    try exact hk
   case r6_0 | r6_128 =>
    intro hmay
    clear hmay
    intro e' K' h A4 hA hk
    simp only [Op.operands, Call.operands] at h
    try simp [still, heapM, putR, dvA] at h
    simp [still, heapM, putR, dvA] at hA hk
    subst hA
    exact aRaw_lookup (r := lvV (gtV V v)) (by first | simpa [okM, gtV, h] using hl v [exB (.mk o n v w l), nxB] | simpa [okM, gtV, h] using hl v [exB (.mk o n v w l), nxB, lvBk (0, 0)]) hk
  obtain ⟨x, hx⟩ : ∃ x, gtV V v = x := ⟨_, rfl⟩
  rw [hx] at hR ⊢
  simp [putR, lap, lap0]
  by_cases h12 : 12 ≤ v
  ·by_cases h1 : x.1 = 1
   ·rw [if_pos ⟨h12, h1⟩] at hR
    subst hR
    simp [h12, h1, lap, lap0]
    refine aCall_of (const_af x.2) (by kernel_rfl) (by simp) ?_
    simp [lap, lap0, las, las0, Same0]
   ·rw [if_neg (fun h => h1 h.2)] at hR
    subst hR
    simp [h12, h1, lap, lap0]
    refine aCall_ofc (cpRoot_ac (lapl hcB) hcl v) (by kernel_rfl) ?_
    rintro _ _ ⟨rfl, rfl⟩
    simp
    refine aCall_of (var_af (rtF C (C.length + 1) v)) (by kernel_rfl) (by simp) ?_
    simp [lap, lap0, las, las0, Same0]
  ·rw [if_neg (fun h => h12 h.1)] at hR
   subst hR
   simp [h12, lap, lap0]
   refine aCall_ofc (cpRoot_ac (lapl hcB) hcl v) (by kernel_rfl) ?_
   rintro _ _ ⟨rfl, rfl⟩
   simp
   refine aCall_of (var_af (rtF C (C.length + 1) v)) (by kernel_rfl) (by simp) ?_
   simp [lap, lap0, las, las0, Same0]
 have hll : l.length ≤ 1000000 := by omega
 have hR : rwE V C (.mk o n v w l) = .mk o n v w (l.map (rwE V C)) := by rw [rwE, if_neg o2, rwL_map]
 rw [hR]
 refine AC.sub (R := fun r A' => r = .agg [aI .i64 o, aI .u32 n, aI .i64 v, aI .i64 w, .own (B.length + 2) 1 0 l.length] ∧ ∃ Y Z N, A' = B ++ Y :: Z :: ⟨1, true, 37, 5, dEls (Ex.ds (l.map (rwE V C)))⟩ :: N) ?_ ?_
 ·refine ac_of Tryz.func34 rfl (by kernel_rfl) (by simp [Tryz.ntmps34]) fun _ => ?_
  simp [Tryz.f34, o2, lap, lap0]
  refine aCall_ofc (clone_ac _ (Ex.ds l) (by simp; omega)) (by kernel_rfl) ?_
  rintro _ _ ⟨rfl, rfl⟩
  simp
  refine aLoop_of (α := Nat) (fun q e A' => q ≤ l.length ∧ (∃ N, A' = B ++ exB (.mk o n v w l) :: nxB :: ⟨1, true, 37, 5, dEls (Ex.ds (mdL (rwE V C) l q))⟩ :: N) ∧ e 0 = .ptr b 0 0 0 ∧ e 2 = .mp c 0 ∧ e 4 = .ptr B.length 0 0 0 ∧ e 6 = .ptr (B.length + 1) 0 0 0 ∧ e 8 = .own (B.length + 2) 1 0 l.length ∧ e 40 = aI .i64 l.length ∧ e 41 = aI .i64 q) (fun q => l.length - q) 0 (Sub.refl _ _ _)
   ⟨by omega, ⟨[], by simp [mdL]⟩, by simp, by simp, by simp, by simp, by simp, by simp, by simp⟩ ?_
  rintro q e A' ⟨hq, ⟨N, rfl⟩, e0, e2, e4, e6, e8, e40, e41⟩ K hK
  rcases Nat.lt_or_ge q l.length with hlt | hge
  case inr =>
   obtain rfl : q = l.length := by omega
   simp [e0, e2, e4, e6, e8, e40, e41, lap, lap0, las, las0, mdL]
  obtain ⟨x, hx⟩ : ∃ x, l[q]? = some x := ⟨_, gEG hlt⟩
  have hxm := gMO hx
  have hat : (mdL (rwE V C) l q)[q]? = some x := mdL_at _ hx
  have hat2 := (gSI.1 hat).2
  have hlen := mdL_len (rwE V C) l hq
  simp [e0, e2, e4, e6, e8, e40, e41, hlt, lap, lap0, hlen, hat, hat2, Ex.d_eq]
  refine aCall_ofc (ih' x hxm _) (by kernel_rfl) ?_
  rintro _ _ ⟨rfl, N2, rfl⟩
  have hnx := mdL_next (rwE V C) hx
  have hset : (dEls (Ex.ds (mdL (rwE V C) l q))).set q [aI .i64 (rwE V C x).op, aI .u32 (rwE V C x).n, aI .i64 (rwE V C x).v, aI .i64 (rwE V C x).wd, .d (.sl 5 (Ex.ds (rwE V C x).l))] = dEls (Ex.ds (mdL (rwE V C) l (q + 1))) := by
   rw [← hnx, show [aI .i64 (rwE V C x).op, aI .u32 (rwE V C x).n, aI .i64 (rwE V C x).v, aI .i64 (rwE V C x).wd, .d (.sl 5 (Ex.ds (rwE V C x).l))] = (Ex.d (rwE V C x)).map AV.d by simp [Ex.d_eq], dEls_set, Ex.ds_map, Ex.ds_map, List.map_set]
  simp [e0, e2, e4, e6, e8, e40, e41, hlt, lap, lap0, las, las0, hlen, hat, hat2, Ex.d_eq, succ_wrap hlt (by unfold maxLen; omega : l.length ≤ maxLen)]
  refine hK (q + 1) _ _ _ _ (Sub.refl _ _ _) ⟨by omega, ⟨N ++ N2, ?_⟩, by simp [e0], by simp [e2], by simp [e4], by simp [e6], by simp [e8], by simp [e40], by simp⟩ (by omega)
  rw [hset]
 ·rintro r A' ⟨rfl, Y, Z, N, rfl⟩
  have g1 := Sub.frz (n := B.length) [B.length + 2] (e := fun _ => .agg [aI .i64 o, aI .u32 n, aI .i64 v, aI .i64 w, .own (B.length + 2) 1 0 l.length]) (A := B ++ Y :: Z :: ⟨1, true, 37, 5, dEls (Ex.ds (l.map (rwE V C)))⟩ :: N)
  rw [frz_apj, frz_two] at g1
  have hv : reiV true (B ++ Y :: Z :: ⟨1, false, 37, 5, dEls (Ex.ds (l.map (rwE V C)))⟩ :: N) 9 (.agg [aI .i64 o, aI .u32 n, aI .i64 v, aI .i64 w, .own (B.length + 2) 1 0 l.length]) = some (exA (.mk o n v w (l.map (rwE V C)))) := by
   have h := Ex.ds_all (l.map (rwE V C))
   rw [List.length_map] at h
   simp [lap, h]
  exact ⟨_, _, g1.trans (Sub.env fun _ => VLe.rei hv), rfl, _, rfl⟩
end
def rwSt (V : List (Int × Int × Int)) (C : List (Int × Int)) (t : St) : St := { t with e := t.e.map (rwE V C) }
def cgE (V : List (Int × Int × Int)) (C : List (Int × Int)) (l : List Ex) : Nat := (l.filter fun x => !sameB (rwE V C x) x).length
def cgS (V : List (Int × Int × Int)) (C : List (Int × Int)) (l : List St) : Nat := (l.map fun t => cgE V C t.e).sum
theorem cgE_take {V : List (Int × Int × Int)} {C : List (Int × Int)} {l : List Ex} {i : Nat} {x : Ex} (h : l[i]? = some x) : cgE V C (l.take (i + 1)) = cgE V C (l.take i) + if sameB (rwE V C x) x = true then 0 else 1 := by
 unfold cgE
 rw [List.take_add_one, h, List.filter_append, List.length_append]
 cases hs : sameB (rwE V C x) x <;> simp [hs]
theorem cgS_take {V : List (Int × Int × Int)} {C : List (Int × Int)} {l : List St} {i : Nat} {t : St} (h : l[i]? = some t) : cgS V C (l.take (i + 1)) = cgS V C (l.take i) + cgE V C t.e := by
 unfold cgS
 rw [List.take_add_one, h, List.map_append, List.sum_append]
 simp
theorem cgE_le (V : List (Int × Int × Int)) (C : List (Int × Int)) (l : List Ex) : cgE V C l ≤ l.length := List.length_filter_le _ _
abbrev smB (V : List (Int × Int × Int)) (C : List (Int × Int)) (l : List St) (i : Nat) : Blk := ⟨1, true, 40, 8, dEls (sts (mdL (rwSt V C) l i))⟩
abbrev csB (t : St) : Blk := ⟨1, true, 3, 1, dEls (i64s t.cs)⟩
abbrev rowB (L : List St) (i : Nat) (t : St) (S1 S2 : AV) : Blk := ⟨1, true, 40, 8, (dEls (sts L)).set i [aI .i64 t.op, aI .i64 t.va, aI .i64 t.wd, aI .i64 t.nx, aI .i64 t.el, aI .u32 t.tg, S1, S2]⟩
theorem frz_hd (k : Blk) (N : AHeap) : frz [0] (k :: N) = ⟨k.ver, false, k.ty, k.sz, k.els⟩ :: N := by
 apply List.ext_getElem?
 intro i
 rw [frz_get2]
 match i with
 | 0 => simp
 | i + 1 =>
   have : ([0] : List Nat).contains (i + 1) = false := by simp
   rw [this]
   simp
theorem frzS {n j : Nat} {e : AEnv} {A M : AHeap} {k : Blk} (h : A.length = j) : Sub n e (A ++ k :: M) e (A ++ ⟨k.ver, false, k.ty, k.sz, k.els⟩ :: M) := by
 have := Sub.frz (n := n) [A.length + 0] (e := e) (A := A ++ k :: M)
 rwa [frz_apj, frz_hd] at this
theorem step_sub {A A' A'' N M : AHeap} {q i : Nat} {V : List (Int × Int × Int)} {C : List (Int × Int)} {S : List St} {t : St} (n : Nat) (e : AEnv) (hql : q < A.length) (ht : S[i]? = some t) (hA' : A' = A.set q (smB V C S i) ++ N)
 (hM : A'' = A' ++ ⟨1, true, 37, 5, dEls (Ex.ds (mdL (rwE V C) t.e t.e.length))⟩ :: M) :
 Sub n e (A''.set q (rowB (mdL (rwSt V C) S i) i t (.own A'.length 1 0 t.e.length) (.own A''.length 1 0 t.cs.length)) ++ [csB t]) e
  (A.set q (smB V C S (i + 1)) ++ (N ++ ⟨1, false, 37, 5, dEls (Ex.ds (mdL (rwE V C) t.e t.e.length))⟩ :: (M ++ [⟨1, false, 3, 1, dEls (i64s t.cs)⟩]))) := by
 have hlA : ∀ Z, (A.set q Z ++ N).length = A'.length := fun Z => by rw [hA']; simp
 have hil := (gSI.1 ht).1
 have hlen := mdL_len (rwSt V C) S (Nat.le_of_lt hil)
 have hnx := mdL_next (rwSt V C) ht
 obtain ⟨Z, hZ⟩ : ∃ Z, rowB (mdL (rwSt V C) S i) i t (.own A'.length 1 0 t.e.length) (.own A''.length 1 0 t.cs.length) = Z := ⟨_, rfl⟩
 have h0 : A''.set q Z ++ [csB t] = (A.set q Z ++ N) ++ ⟨1, true, 37, 5, dEls (Ex.ds (mdL (rwE V C) t.e t.e.length))⟩ :: (M ++ [csB t]) := by
  rw [hM, hA', List.set_append_left _ _ (by simp; omega), List.set_append_left _ _ (by simp; omega), List.set_set]
  simp
 have h1 : (A.set q Z ++ N) ++ ⟨1, false, 37, 5, dEls (Ex.ds (mdL (rwE V C) t.e t.e.length))⟩ :: (M ++ [csB t]) = ((A.set q Z ++ N) ++ ⟨1, false, 37, 5, dEls (Ex.ds (mdL (rwE V C) t.e t.e.length))⟩ :: M) ++ csB t :: [] := by simp
 have hlM : ((A.set q Z ++ N) ++ (⟨1, false, 37, 5, dEls (Ex.ds (mdL (rwE V C) t.e t.e.length))⟩ : Blk) :: M).length = A''.length := by rw [hM, List.length_append, hlA]; simp
 rw [hZ, h0]
 refine (frzS (hlA Z)).trans ?_
 rw [h1]
 refine (frzS hlM).trans ?_
 obtain ⟨F, hF⟩ : ∃ F, ((A.set q Z ++ N) ++ (⟨1, false, 37, 5, dEls (Ex.ds (mdL (rwE V C) t.e t.e.length))⟩ : Blk) :: M) ++ (⟨1, false, 3, 1, dEls (i64s t.cs)⟩ : Blk) :: [] = F := ⟨_, rfl⟩
 have hFq : F[q]? = some Z := by rw [← hF]; exact lapl (lapl (lapl (gSS hql)))
 have hFa : F[A'.length]? = some ⟨1, false, 37, 5, dEls (Ex.ds (mdL (rwE V C) t.e t.e.length))⟩ := by rw [← hF, ← hlA Z]; exact lapl (lap0 _ _)
 have hFb : F[A''.length]? = some ⟨1, false, 3, 1, dEls (i64s t.cs)⟩ := by rw [← hF, ← hlM]; exact lap0 _ _
 have hfin : ∀ Y, F.set q Y = A.set q Y ++ (N ++ ⟨1, false, 37, 5, dEls (Ex.ds (mdL (rwE V C) t.e t.e.length))⟩ :: (M ++ [⟨1, false, 3, 1, dEls (i64s t.cs)⟩])) := fun Y => by
  rw [← hF, List.set_append_left _ _ (by simp; omega), List.set_append_left _ _ (by simp; omega), List.set_append_left _ _ (by simp; omega), List.set_set]
  simp
 have hxl : (dEls (sts (mdL (rwSt V C) S i))).length = S.length := by simp [hlen]
 simp only [h1, hF]
 have c1 := Sub.cell (n := n) (e := e) (A := F) (b := q) (i := i) (o := 6) (c' := .d (.sl 5 (Ex.ds (mdL (rwE V C) t.e t.e.length)))) hFq (by rw [← hZ]; exact gSS (by omega)) rfl (VLe.rei (by
  have h := Ex.ds_all (mdL (rwE V C) t.e t.e.length)
  rw [mdL_len _ _ (Nat.le_refl _)] at h
  simp [hFa, h, mdL_len]))
 refine c1.trans ?_
 have hF1q : ∀ Y, (F.set q Y)[q]? = some Y := fun Y => gSS (gSI.1 hFq).1
 have c2 := Sub.cell (n := n) (e := e) (A := F.set q (setEls Z (Z.els.set i ([aI .i64 t.op, aI .i64 t.va, aI .i64 t.wd, aI .i64 t.nx, aI .i64 t.el, aI .u32 t.tg, AV.own A'.length 1 0 t.e.length, AV.own A''.length 1 0 t.cs.length].set 6 (.d (.sl 5 (Ex.ds (mdL (rwE V C) t.e t.e.length)))))))) (b := q) (i := i) (o := 7) (c' := .d (.sl 1 (i64s t.cs))) (hF1q _) (by rw [← hZ]; exact gSS (by simp; omega)) rfl (VLe.rei (by
  rw [List.length_append] at hlM
  simp [gSN (show q ≠ A''.length by rw [hM, hA']; simp; omega), hFb]))
 refine c2.trans ?_
 rw [List.set_set, hfin]
 have hset : (dEls (sts (mdL (rwSt V C) S i))).set i [aI .i64 t.op, aI .i64 t.va, aI .i64 t.wd, aI .i64 t.nx, aI .i64 t.el, aI .u32 t.tg, .d (.sl 5 (Ex.ds (t.e.map (rwE V C)))), .d (.sl 1 (i64s t.cs))] = dEls (sts (mdL (rwSt V C) S (i + 1))) := by
  rw [← hnx, show [aI .i64 t.op, aI .i64 t.va, aI .i64 t.wd, aI .i64 t.nx, aI .i64 t.el, aI .u32 t.tg, .d (.sl 5 (Ex.ds (t.e.map (rwE V C)))), .d (.sl 1 (i64s t.cs))] = (St.d (rwSt V C t)).map AV.d by simp [St.d_eq, rwSt], dEls_set, sts, sts, List.map_set]
 have hall : mdL (rwE V C) t.e t.e.length = t.e.map (rwE V C) := by simp [mdL]
 rw [← hZ, hall]
 simp [setEls, hset]
 exact Sub.refl _ _ _
section
variable {A : AHeap} {b mv me c bb q : Nat} {s : Ss} {X : AV} {pr : List (List D)} {ch : Bool} {V : List (Int × Int × Int)} {C : List (Int × Int)} {B : Bl}
set_option maxRecDepth 100000 in
set_option maxHeartbeats 0 in
theorem cpChange_ac (hb : A[b]? = some (anB s mv X me pr ch)) (hm : A[mv]? = some (vlB V)) (hc : A[c]? = some (cyB C)) (hcl : C.length ≤ 1000) (hbb : A[bb]? = some ⟨0, true, 34, 2, [[aI .u32 B.ad, .own q 1 0 B.s.length]]⟩)
 (hq : A[q]? = some (smB V C B.s 0)) (n1 : b ≠ q) (n2 : mv ≠ q) (n3 : c ≠ q) (n4 : bb ≠ q) (hl : B.s.length ≤ 10000) (hel : ∀ t ∈ B.s, t.e.length ≤ 10000 ∧ t.cs.length ≤ 1000000 ∧ ∀ x ∈ t.e, x.nodes ≤ 1000000) :
 AC Tryz.prog 19 [.ptr b 0 0 0, .ptr bb 0 0 0, .d (.v (.slice none 0 0)), .mp c 0] A (Same0 (A.set q (smB V C B.s B.s.length)) (aI .i64 (cgS V C B.s))) := by
 have hlm : B.s.length ≤ maxLen := by unfold maxLen; omega
 have hql := (gSI.1 hq).1
 refine ac_of Tryz.func19 rfl (by kernel_rfl) (by simp [Tryz.ntmps19]) fun _ => ?_
 simp [Tryz.f19, hbb, hq]
 refine aLoop_of (α := Nat) (fun i e A' => i ≤ B.s.length ∧ (∃ N, A' = A.set q (smB V C B.s i) ++ N) ∧ e 0 = .ptr b 0 0 0 ∧ e 1 = .ptr bb 0 0 0 ∧ e 2 = .d (.v (.slice none 0 0)) ∧ e 3 = .mp c 0 ∧ e 9 = aI .i64 (cgS V C (B.s.take i)) ∧ e 22 = aI .i64 B.s.length ∧ e 23 = aI .i64 i ∧ cgS V C (B.s.take i) ≤ i * 10000) (fun i => B.s.length - i) 0 (Sub.refl _ _ _)
  ⟨by omega, ⟨[], by rw [set_same hq, List.append_nil]⟩, by simp, by simp, by simp, by simp, by simp [cgS], by simp, by simp, by simp [cgS]⟩ ?_
 rintro i e A' ⟨hi, ⟨N, hA'⟩, e0, e1, e2, e3, e9, e22, e23, hcg⟩ K hK
 rcases Nat.lt_or_ge i B.s.length with hlt | hge
 case inr =>
  obtain rfl : i = B.s.length := by omega
  rw [List.take_length] at e9
  simp [e0, e1, e2, e3, e9, e22, e23]
  refine aLoop_iter 1 ?_
  simp [e9]
  exact ⟨rfl, N, hA'⟩
 have hpre : ∀ j x, j ≠ q → A[j]? = some x → A'[j]? = some x := fun j x hj hx => by rw [hA']; exact lapl (by rw [gSN (Ne.symm hj)]; exact hx)
 have f1 := hpre b _ n1 hb
 have f2 := hpre mv _ n2 hm
 have f3 := hpre c _ n3 hc
 have f4 := hpre bb _ n4 hbb
 have f5 : A'[q]? = some (smB V C B.s i) := by rw [hA']; exact lapl (gSS hql)
 obtain ⟨t, ht⟩ : ∃ t, B.s[i]? = some t := ⟨_, gEG hlt⟩
 have htm := gMO ht
 obtain ⟨t1, t2, t3⟩ := hel t htm
 have hat : (mdL (rwSt V C) B.s i)[i]? = some t := mdL_at _ ht
 have hat2 := (gSI.1 hat).2
 have hlen := mdL_len (rwSt V C) B.s hi
 simp [e0, e1, e2, e3, e9, e22, e23, hlt, f4, f5, hlen, hat, hat2, St.d_eq]
 refine aCall_ofc (clone_ac _ (Ex.ds t.e) (by simp; omega)) (by kernel_rfl) ?_
 rintro _ _ ⟨rfl, rfl⟩
 simp [e0, e1, e2, e3, e9, e22, e23]
 obtain ⟨cg, hcge⟩ : ∃ cg, cgS V C (B.s.take i) = cg := ⟨_, rfl⟩
 rw [hcge] at e9 hcg
 refine aLoop_of (α := Nat) (fun k e A'' => k ≤ t.e.length ∧ (∃ M, A'' = A' ++ ⟨1, true, 37, 5, dEls (Ex.ds (mdL (rwE V C) t.e k))⟩ :: M) ∧ e 0 = .ptr b 0 0 0 ∧ e 1 = .ptr bb 0 0 0 ∧ e 2 = .d (.v (.slice none 0 0)) ∧ e 3 = .mp c 0 ∧ e 9 = aI .i64 (cg + cgE V C (t.e.take k) : Nat) ∧ e 10 = aI .i64 i ∧ e 11 = .own A'.length 1 0 t.e.length ∧ e 22 = aI .i64 B.s.length ∧ e 23 = aI .i64 i ∧ e 36 = aI .i64 t.e.length ∧ e 37 = aI .i64 k) (fun k => t.e.length - k) 0 (Sub.refl _ _ _)
  ⟨by omega, ⟨[], by simp [mdL]⟩, by simp [e0], by simp [e1], by simp [e2], by simp [e3], by simp [e9, cgE], by simp, by simp, by simp [e22], by simp [e23], by simp, by simp⟩ ?_
 clear e0 e1 e2 e3 e9 e22 e23
 rintro k e' A'' ⟨hk, ⟨M, hM⟩, e0, e1, e2, e3, e9, e10, e11, e22, e23, e36, e37⟩ K2 hK2
 have g1 : A''[b]? = some (anB s mv X me pr ch) := by rw [hM]; exact lapl f1
 have g2 : A''[mv]? = some (vlB V) := by rw [hM]; exact lapl f2
 have g3 : A''[c]? = some (cyB C) := by rw [hM]; exact lapl f3
 have g4 : A''[bb]? = some ⟨0, true, 34, 2, [[aI .u32 B.ad, .own q 1 0 B.s.length]]⟩ := by rw [hM]; exact lapl f4
 have g5 : A''[q]? = some (smB V C B.s i) := by rw [hM]; exact lapl f5
 have g6 : A''[A'.length]? = some ⟨1, true, 37, 5, dEls (Ex.ds (mdL (rwE V C) t.e k))⟩ := by rw [hM]; exact lap0 _ _
 have hcek := cgE_le V C (t.e.take k)
 rw [List.length_take] at hcek
 rcases Nat.lt_or_ge k t.e.length with hlt2 | hge2
 case inr =>
  obtain rfl : k = t.e.length := by omega
  rw [List.take_length] at e9
  have hgql := (gSI.1 g5).1
  simp [e0, e1, e2, e3, e9, e10, e11, e22, e23, e36, e37, g4, g5, hlt, hlen, hat, hat2, St.d_eq]
  have hq4 : ∀ Z M, (A''.set q Z ++ M)[bb]? = some ⟨0, true, 34, 2, [[aI .u32 B.ad, .own q 1 0 B.s.length]]⟩ := fun Z M => lapl (by rw [gSN (Ne.symm n4)]; exact g4)
  have hq5 : ∀ Z M, (A''.set q Z ++ M)[q]? = some Z := fun Z M => lapl (gSS hgql)
  have hq4' : ∀ Z, (A''.set q Z)[bb]? = some ⟨0, true, 34, 2, [[aI .u32 B.ad, .own q 1 0 B.s.length]]⟩ := fun Z => by rw [gSN (Ne.symm n4)]; exact g4
  have hq5' : ∀ Z, (A''.set q Z)[q]? = some Z := fun Z => gSS hgql
  have hcc := clone_in_ac (A''.set q (rowB (mdL (rwSt V C) B.s i) i t (.own A'.length 1 0 t.e.length) (.d (.sl 1 (i64s t.cs))))) (i64s t.cs) (by simp; omega)
  have hss : ∀ Z M Z2, (A''.set q Z ++ M).set q Z2 = A''.set q Z2 ++ M := fun Z M Z2 => by rw [List.set_append_left _ _ (by simpa using hgql), List.set_set]
  refine adrawR [.ptr bb 0 0 0, .ptr bb 0 0 0, .ptr bb 0 0 1, .own q 1 0 B.s.length, aI .i64 i, .ptr bb 0 0 0, .ptr bb 0 0 0, .ptr bb 0 0 1, .own q 1 0 B.s.length, aI .i64 i, .ptr q 1 i 0, .ptr q 1 i 7, .d (.sl 1 (i64s t.cs)), .own A''.length 1 0 t.cs.length, .ptr q 1 i 0, .ptr q 1 i 7, .any]
   [(0, A''.set q (rowB (mdL (rwSt V C) B.s i) i t (.own A'.length 1 0 t.e.length) (.d (.sl 1 (i64s t.cs))))), (8192, A''.set q (rowB (mdL (rwSt V C) B.s i) i t (.own A'.length 1 0 t.e.length) (.d (.sl 1 (i64s t.cs)))) ++ [csB t]),
    (73728, A''.set q (rowB (mdL (rwSt V C) B.s i) i t (.own A'.length 1 0 t.e.length) (.own A''.length 1 0 t.cs.length)) ++ [csB t])]
   (by kernel_rfl) (by kernel_rfl) (by simp [heapM]) rfl ?_ ?_
  ·simp only [rowsR, List.mem_cons, List.not_mem_nil, or_false, forall_eq_or_imp, forall_eq]
   refine ⟨⟨?t0_0, ?t0_8192, nmy (by kernel_rfl)⟩, ⟨?t1_0, ?t1_8192, nmy (by kernel_rfl)⟩, ⟨?t2_0, ?t2_8192, nmy (by kernel_rfl)⟩, ⟨?t3_0, ?t3_8192, nmy (by kernel_rfl)⟩, ⟨?t4_0, ?t4_8192, nmy (by kernel_rfl)⟩, ⟨?t5_0, nmy (by kernel_rfl), nmy (by kernel_rfl)⟩, ⟨?t6_0, nmy (by kernel_rfl), nmy (by kernel_rfl)⟩, ⟨?t7_0, nmy (by kernel_rfl), nmy (by kernel_rfl)⟩, ⟨?t8_0, nmy (by kernel_rfl), nmy (by kernel_rfl)⟩, ⟨?t9_0, nmy (by kernel_rfl), nmy (by kernel_rfl)⟩, ⟨?t10_0, nmy (by kernel_rfl), nmy (by kernel_rfl)⟩, ⟨?t11_0, nmy (by kernel_rfl), nmy (by kernel_rfl)⟩, ⟨?t12_0, nmy (by kernel_rfl), nmy (by kernel_rfl)⟩, ⟨?t13_0, nmy (by kernel_rfl), nmy (by kernel_rfl)⟩, ⟨nmy (by kernel_rfl), ?t14_8192, nmy (by kernel_rfl)⟩, ⟨nmy (by kernel_rfl), ?t15_8192, nmy (by kernel_rfl)⟩, ⟨nmy (by kernel_rfl), ?t16_8192, nmy (by kernel_rfl)⟩, trivial⟩
   case t0_0 | t0_8192 | t1_0 | t1_8192 | t2_0 | t2_8192 | t3_0 | t3_8192 | t4_0 | t4_8192 | t5_0 | t6_0 | t7_0 | t8_0 | t9_0 | t10_0 | t11_0 | t12_0 | t14_8192 | t15_8192 =>
    intro hmay
    clear hmay
    intro e' K' h A4 hA hk
    simp only [Op.operands, Call.operands] at h
    try simp [still, heapM, putR, dvA] at h
    simp [still, heapM, putR, dvA] at hA hk
    subst hA
    try simp [h, e1, e10, hq4, hq5, hq4', hq5', hlt, hlen]
    try exact hk
   case t13_0 =>
    intro hmay
    clear hmay
    intro e' K' h A4 hA hk
    simp only [Op.operands, Call.operands] at h
    try simp [still, heapM, putR, dvA] at h
    simp [still, heapM, putR, dvA] at hA hk
    subst hA
    simp [h]
    refine aCall_ofc hcc (by kernel_rfl) ?_
    rintro _ _ ⟨rfl, rfl⟩
    simpa using hk
   case t16_8192 =>
    intro hmay
    clear hmay
    intro e' K' h A4 hA hk
    simp only [Op.operands, Call.operands] at h
    try simp [still, heapM, putR, dvA] at h
    simp [still, heapM, putR, dvA] at hA hk
    subst hA
    simp [h, hq5, hss, hlt, hlen]
    exact hk
  simp [putR, e0, e1, e2, e3, e9, e10, e11, e22, e23, succ_wrap hlt hlm]
  have hsub := fun n e => step_sub (V := V) (C := C) n e hql ht hA' hM
  refine hK (i + 1) _ _ _ _ (hsub _ _) ⟨by omega, ⟨_, rfl⟩, by simp [e0], by simp [e1], by simp [e2], by simp [e3], ?_, by simp [e22], by simp, ?_⟩ (by omega)
  ·simp [e9, cgS_take ht, hcge]
  ·rw [cgS_take ht, hcge]
   have := cgE_le V C t.e
   omega
 obtain ⟨x, hx⟩ : ∃ x, t.e[k]? = some x := ⟨_, gEG hlt2⟩
 have hxm := gMO hx
 have hxt : (mdL (rwE V C) t.e k)[k]? = some x := mdL_at _ hx
 have hxt2 := (gSI.1 hxt).2
 have hxl := mdL_len (rwE V C) t.e hk
 simp [e0, e1, e2, e3, e9, e10, e11, e22, e23, e36, e37, hlt2, g6, hxl, hxt, hxt2, Ex.d_eq]
 have cR := cpRewrite_ac (A := A'') g1 g2 g3 hcl x (t3 x hxm) []
 rw [List.append_nil] at cR
 refine aCall_ofc cR (by kernel_rfl) ?_
 rintro _ _ ⟨rfl, N2, rfl⟩
 simp [e0, e1, e2, e3, e9, e10, e11, e22, e23, e36, e37]
 have hxA : ∀ M, (A'' ++ M)[A'.length]? = some ⟨1, true, 37, 5, dEls (Ex.ds (mdL (rwE V C) t.e k))⟩ := fun M => lapl g6
 refine adrawR [exA (rwE V C x), .own A'.length 1 0 t.e.length, aI .i64 k, .ptr A'.length 1 k 0, exA x, aB (sameB (rwE V C x) x), aB (!sameB (rwE V C x) x)]
  [(0, A'' ++ (N2 ++ [exB (rwE V C x)])), (32, A'' ++ (N2 ++ [exB (rwE V C x)]))] (by kernel_rfl) (by kernel_rfl) (by simp [heapM]) rfl ?_ ?_
 ·simp only [rowsR, List.mem_cons, List.not_mem_nil, or_false, forall_eq_or_imp, forall_eq]
  refine ⟨⟨?u0_0, nmy (by kernel_rfl)⟩, ⟨?u1_0, nmy (by kernel_rfl)⟩, ⟨?u2_0, nmy (by kernel_rfl)⟩, ⟨?u3_0, nmy (by kernel_rfl)⟩, ⟨?u4_0, nmy (by kernel_rfl)⟩, ⟨?u5_0, nmy (by kernel_rfl)⟩, ⟨nmy (by kernel_rfl), ?u6_32⟩, trivial⟩
  case u0_0 | u1_0 | u2_0 | u3_0 | u4_0 | u6_32 =>
   intro hmay
   clear hmay
   intro e' K' h A4 hA hk
   simp only [Op.operands, Call.operands] at h
   try simp [still, heapM, putR, dvA] at h
   simp [still, heapM, putR, dvA] at hA hk
   subst hA
   try simp [h, hxA, lap, lap0, hlt2, hxl, hxt, hxt2, Ex.d_eq, e11, e37, e10]
   try exact hk
  case u5_0 =>
   intro hmay
   clear hmay
   intro e' K' h A4 hA hk
   simp only [Op.operands, Call.operands] at h
   try simp [still, heapM, putR, dvA] at h
   simp [still, heapM, putR, dvA] at hA hk
   subst hA
   refine aCall_of (same_af (rwE V C x) x) ?_ ?_ ?_
   ·kernel_rfl
   ·simp [h]
   ·simpa using hk
 have hxA2 : ∀ M Z, (A'' ++ M).set A'.length Z = A''.set A'.length Z ++ M := fun M Z => by rw [List.set_append_left _ _ (gSI.1 g6).1]
 have hnx := mdL_next (rwE V C) hx
 have hset : (dEls (Ex.ds (mdL (rwE V C) t.e k))).set k [aI .i64 (rwE V C x).op, aI .u32 (rwE V C x).n, aI .i64 (rwE V C x).v, aI .i64 (rwE V C x).wd, .d (.sl 5 (Ex.ds (rwE V C x).l))] = dEls (Ex.ds (mdL (rwE V C) t.e (k + 1))) := by
  rw [← hnx, show [aI .i64 (rwE V C x).op, aI .u32 (rwE V C x).n, aI .i64 (rwE V C x).v, aI .i64 (rwE V C x).wd, .d (.sl 5 (Ex.ds (rwE V C x).l))] = (Ex.d (rwE V C x)).map AV.d by simp [Ex.d_eq], dEls_set, Ex.ds_map, Ex.ds_map, List.map_set]
 have hfin : ∀ Y, (A''.set A'.length ⟨1, true, 37, 5, dEls (Ex.ds (mdL (rwE V C) t.e (k + 1)))⟩ ++ Y) = A' ++ ⟨1, true, 37, 5, dEls (Ex.ds (mdL (rwE V C) t.e (k + 1)))⟩ :: (M ++ Y) := fun Y => by
  rw [hM, List.set_append_right _ _ (Nat.le_refl _)]
  simp
 cases hsm : sameB (rwE V C x) x
 case true =>
  simp [putR, hsm, e0, e1, e2, e3, e9, e10, e11, e22, e23, e36, e37, hxA, hxA2, hlt2, hxl, hxt, hxt2, hset, Ex.d_eq, succ_wrap hlt2 (by unfold maxLen; omega : t.e.length ≤ maxLen), hfin]
  refine hK2 (k + 1) _ _ _ _ (Sub.refl _ _ _) ⟨by omega, ⟨_, rfl⟩, by simp [e0], by simp [e1], by simp [e2], by simp [e3], ?_, by simp [e10], by simp [e11], by simp [e22], by simp [e23], by simp [e36], by simp⟩ (by omega)
  simp [e9, cgE_take hx, hsm]
 case false =>
  have hw : IntKind.i64.wrap ((cg : Int) + (cgE V C (t.e.take k) : Nat) + 1) = ((cg : Int) + (cgE V C (t.e.take k) : Nat) + 1) := i64w (by omega)
  simp [putR, hsm, e0, e1, e2, e3, e9, e10, e11, e22, e23, e36, e37, hxA, hxA2, hlt2, hxl, hxt, hxt2, hset, Ex.d_eq, succ_wrap hlt2 (by unfold maxLen; omega : t.e.length ≤ maxLen), hfin]
  refine hK2 (k + 1) _ _ _ _ (Sub.refl _ _ _) ⟨by omega, ⟨_, rfl⟩, by simp [e0], by simp [e1], by simp [e2], by simp [e3], ?_, by simp [e10], by simp [e11], by simp [e22], by simp [e23], by simp [e36], by simp⟩ (by omega)
  rw [Int.add_assoc] at hw
  simp [cgE_take hx, hsm, hw, Int.add_assoc]
end
set_option maxRecDepth 100000 in
theorem cpKeep_af (P1 P2 : List (List D)) : AF Tryz.prog 24 [.d (.v (.slice none 0 0)), .d (.sl 1 P1), .d (.sl 1 P2)] (.d (.v (.slice none 0 0))) := by
 refine af_of Tryz.func24 rfl (by kernel_rfl) (by simp [Tryz.ntmps24]) fun _ => ?_
 simp [Tryz.f24]
 refine aLoop_iter 1 ?_
 simp
theorem frz_one {A N : AHeap} {q : Nat} {Z : Blk} (h : q < A.length) : frz [q] (A.set q Z ++ N) = A.set q ⟨Z.ver, false, Z.ty, Z.sz, Z.els⟩ ++ N := by
 apply List.ext_getElem?
 intro i
 rw [frz_get2]
 rcases Nat.lt_or_ge i A.length with h1 | h1
 ·rw [gAL (by simpa using h1), gAL (by simpa using h1), List.getElem?_set, List.getElem?_set]
  by_cases hi : q = i
  ·subst hi
   simp [h]
  ·simp [hi, show ¬ i = q from fun h => hi h.symm]
 ·rw [List.getElem?_append_right (by simpa using h1), List.getElem?_append_right (by simpa using h1)]
  have : ([q] : List Nat).contains i = false := by simp; omega
  rw [this]
  simp
abbrev bkF (a : Int) (X : List (List D)) : Blk := ⟨0, true, 34, 2, [[aI .u32 a, .d (.sl 8 X)]]⟩
abbrev smF (L : List St) : Blk := ⟨1, false, 40, 8, dEls (sts L)⟩
section
variable {A : AHeap} {b mv me c bb q : Nat} {s : Ss} {X : AV} {pr : List (List D)} {ch : Bool} {V : List (Int × Int × Int)} {C : List (Int × Int)} {B : Bl}
set_option maxRecDepth 100000 in
theorem cpChange_at (hb : A[b]? = some (anB s mv X me pr ch)) (hm : A[mv]? = some (vlB V)) (hc : A[c]? = some (cyB C)) (hcl : C.length ≤ 1000) (hbb : A[bb]? = some ⟨0, true, 34, 2, [[aI .u32 B.ad, .own q 1 0 B.s.length]]⟩)
 (hq : A[q]? = some (smB V C B.s 0)) (n1 : b ≠ q) (n2 : mv ≠ q) (n3 : c ≠ q) (n4 : bb ≠ q) (hl : B.s.length ≤ 10000) (hel : ∀ t ∈ B.s, t.e.length ≤ 10000 ∧ t.cs.length ≤ 1000000 ∧ ∀ x ∈ t.e, x.nodes ≤ 1000000) (hC : ClH A) :
 AC Tryz.prog 19 [.ptr b 0 0 0, .ptr bb 0 0 0, .d (.v (.slice none 0 0)), .mp c 0] A (AtH ((A.set q (smF (B.s.map (rwSt V C)))).set bb (bkF B.ad (sts (B.s.map (rwSt V C))))) (aI .i64 (cgS V C B.s))) := by
 have hql := (gSI.1 hq).1
 have hbl := (gSI.1 hbb).1
 have hall : mdL (rwSt V C) B.s B.s.length = B.s.map (rwSt V C) := by simp [mdL]
 refine AC.exact ((hC.set ?_).set ?_) (by simp) (by simp [cln]) ((cpChange_ac hb hm hc hcl hbb hq n1 n2 n3 n4 hl hel).sub ?_)
 ·simp [clnB]
 ·simp [clnB, clnE, cln]
 ·rintro r A' ⟨rfl, N, rfl⟩
  have hsm : smB V C B.s B.s.length = ⟨1, true, 40, 8, dEls (sts (B.s.map (rwSt V C)))⟩ := by simp only [smB, hall]
  rw [hsm]
  refine ⟨_, _, ?_, rfl, N, rfl⟩
  refine (Sub.frz [q]).trans ?_
  rw [frz_one hql]
  have c1 := Sub.cell (n := A.length) (e := fun _ => aI .i64 (cgS V C B.s : Int)) (A := A.set q (smF (B.s.map (rwSt V C))) ++ N) (b := bb) (i := 0) (o := 1) (c' := .d (.sl 8 (sts (B.s.map (rwSt V C))))) (lapl (by rw [gSN (Ne.symm n4)]; exact hbb)) rfl rfl (VLe.rei (by
   have h := sts_all (B.s.map (rwSt V C))
   rw [List.length_map] at h
   simp [lapl (gSS hql : (A.set q (smF (B.s.map (rwSt V C))))[q]? = _), h]))
  refine c1.trans ?_
  rw [List.set_append_left _ _ (by simpa using hbl)]
  exact Sub.refl _ _ _
end
def prG (s : Ss) (B : Bl) (V1 : List (Int × Int × Int)) : Gr := ⟨s.g.ad, [⟨B.ad, B.s.map (rwSt V1 (cpP B.s))⟩]⟩
abbrev zSs : Blk := ⟨0, true, 31, 4, [[aI .u32 0, .d (.v (.slice none 0 0)), .d (.v (.slice none 0 0)), .d (.v (.slice none 0 0))]]⟩
abbrev nilV : AV := .d (.v (.slice none 0 0))
abbrev osB (a : Int) (G P : AV) (O : List (List D)) : Blk := ⟨0, true, 31, 4, [[aI .u32 a, G, P, .d (.sl 1 O)]]⟩
abbrev nlP : Blk := ⟨0, true, 70, 1, [[nilV]]⟩
theorem preds_one {g : Gr} (hg : GrFit g) (h1 : g.b.length = 1) : ∃ l, dataP (turnN g) = [[.sl 1 (i64s l)]] := by
 have hl := (turn_keep hg (List.range g.b.length) (List.replicate g.b.length []) 0 (by simp)).1
 have : (turnN g).length = 1 := by rw [h1] at hl; simpa [turnN, h1] using hl
 obtain ⟨a, ha⟩ := List.length_eq_one_iff.1 this
 exact ⟨cmpI a, by rw [ha]; rfl⟩
theorem cgS_le (V : List (Int × Int × Int)) (C : List (Int × Int)) : ∀ l : List St, (∀ t ∈ l, t.e.length ≤ 10000) → cgS V C l ≤ l.length * 10000
 | [], _ => by simp [cgS]
 | t :: l, h => by
   have h1 := cgS_le V C l fun t ht => h t (List.mem_cons_of_mem _ ht)
   have h2 := h t (by simp)
   have h3 := cgE_le V C t.e
   have h4 : cgS V C (t :: l) = cgE V C t.e + cgS V C l := by simp [cgS]
   rw [h4, List.length_cons]
   omega
theorem cpCopies_at {A : AHeap} {b mv me eb : Nat} {s : Ss} {pr : List (List D)} {ch : Bool} {B : Bl} (hb : A[b]? = some (anB s mv (.own eb 1 0 1) me pr ch)) (he : A[eb]? = some (xeB [true])) (hB : s.g.b = [B]) (hl : B.s.length ≤ maxLen) (h1 : ∀ t ∈ B.s, t.op = 1 → t.e = [exAt t 0]) (hC : ClH A) :
 AC Tryz.prog 15 [.ptr b 0 0 0] A (fun r A' => r = .mp A.length 0 ∧ A' = A ++ [cyB (cpP B.s)]) := by
 refine (cpCopies_ac hb he hB hl h1).sub ?_
 rintro r A' ⟨rfl, N, rfl⟩
 refine ⟨_, _, Sub.take (A.length + 1) (by omega), by simp [cln], ?_⟩
 have h2 : ClH (A ++ [cyB (cpP B.s)]) := hC.app fun b hb => by
  obtain rfl := List.mem_singleton.1 hb
  exact cln_mpB _ _ _ _
 have h3 : List.take (A.length + 1) (A ++ cyB (cpP B.s) :: N) = A ++ [cyB (cpP B.s)] := by
  rw [List.take_append]
  simp
  exact List.take_of_length_le (by omega)
 rw [h3]
 have := h2.fix
 simpa using this
set_option maxRecDepth 100000 in
set_option maxHeartbeats 0 in
theorem cpProp_af {s : Ss} {B : Bl} {V1 : List (Int × Int × Int)} (h : OneB s B V1) {L : List St} {t : St} (hL : B.s = L ++ [t]) (h7 : t.op ≠ 7) (h8 : t.op ≠ 8) (hC : (cpP B.s).length ≤ 1000) (hl : B.s.length ≤ 10000)
 (hel : ∀ t ∈ B.s, t.e.length ≤ 10000 ∧ t.cs.length ≤ 1000000 ∧ ∀ x ∈ t.e, x.nodes ≤ 1000000) (hg2 : GrFit (prG s B V1)) :
 AF Tryz.prog 8 [ssV s] (.tup [ssV ⟨prG s B V1, [[]], s.og⟩, aI .i64 (cgS V1 (cpP B.s) B.s), aI .i64 0]) := by
 obtain ⟨ho1, ho2⟩ := h.o
 have hlm : B.s.length ≤ maxLen := by unfold maxLen; omega
 have c1 := h.chk
 have c2 := h.ana (A := [ssB s, zSs]) (fun b hb => by
  simp only [List.mem_cons, List.not_mem_nil, or_false] at hb
  rcases hb with rfl | rfl <;> simp [clnB, clnE, cln])
 refine af_of Tryz.func8 rfl (by kernel_rfl) (by simp [Tryz.ntmps8]) fun _ => ?_
 simp [Tryz.f8]
 refine aCall_of c1 (by kernel_rfl) (by simp) ?_
 simp
 refine aCall_ofc c2 (by kernel_rfl) ?_
 rintro _ _ ⟨rfl, rfl⟩
 simp
 obtain ⟨pr, hpr⟩ : ∃ pr, dataP (turnN s.g) = pr := ⟨_, rfl⟩
 rw [hpr]
 obtain ⟨C, hCe⟩ : ∃ C, cpP B.s = C := ⟨_, rfl⟩
 have hH : ClH (hpA [ssB s, zSs] s V1 true pr false) := hpA_cl (fun b hb => by
  simp only [List.mem_cons, List.not_mem_nil, or_false] at hb
  rcases hb with rfl | rfl <;> simp [clnB, clnE, cln]) _ _ _ _ _
 have c3 := cpCopies_at (A := hpA [ssB s, zSs] s V1 true pr false) (b := 6) rfl (eb := 4) rfl h.b hlm h.h1 hH
 rw [hCe] at c3 hC ⊢
 refine aCall_ofc c3 (by kernel_rfl) ?_
 rintro _ _ ⟨rfl, rfl⟩
 simp
 obtain ⟨og, hog⟩ : ∃ og, s.og = og := ⟨_, rfl⟩
 refine adrawR [.ptr 0 0 0 0, .ptr 0 0 0 0, aI .u32 s.g.ad, .agg [aI .u32 s.g.ad, .d (.v (.slice none 0 0))], .ptr 0 0 0 3, .d (.sl 1 (i64s s.og)), .d (.sl 1 (i64s s.og)), .agg [aI .u32 s.g.ad, .d (.v (.slice none 0 0)), .d (.v (.slice none 0 0)), .d (.sl 1 (i64s s.og))], .ptr 8 0 0 0, .any]
  [(0, hpA [ssB s, zSs] s V1 true pr false ++ [cyB C]), (64, hpA [ssB s, zSs] s V1 true pr false ++ [cyB C]), (256, hpA [ssB s, zSs] s V1 true pr false ++ [cyB C, zSs]), (320, hpA [ssB s, zSs] s V1 true pr false ++ [cyB C, zSs]), (832, hpA [ssB s, zSs] s V1 true pr false ++ [cyB C, osB s.g.ad nilV nilV (i64s s.og)])]
  (by kernel_rfl) (by kernel_rfl) (by simp [heapM]) rfl ?_ ?_
 ·simp only [rowsR, List.mem_cons, List.not_mem_nil, or_false, forall_eq_or_imp, forall_eq]
  refine ⟨⟨?a0_0, ?a0_64, ?a0_256, ?a0_320, nmy (by kernel_rfl)⟩, ⟨?a1_0, ?a1_64, ?a1_256, ?a1_320, nmy (by kernel_rfl)⟩, ⟨?a2_0, ?a2_64, ?a2_256, ?a2_320, nmy (by kernel_rfl)⟩, ⟨?a3_0, ?a3_64, ?a3_256, ?a3_320, nmy (by kernel_rfl)⟩, ⟨?a4_0, nmy (by kernel_rfl), ?a4_256, nmy (by kernel_rfl), nmy (by kernel_rfl)⟩, ⟨?a5_0, nmy (by kernel_rfl), ?a5_256, nmy (by kernel_rfl), nmy (by kernel_rfl)⟩, ⟨?a6_0, nmy (by kernel_rfl), ?a6_256, nmy (by kernel_rfl), nmy (by kernel_rfl)⟩, ⟨nmy (by kernel_rfl), ?a7_64, nmy (by kernel_rfl), ?a7_320, nmy (by kernel_rfl)⟩, ⟨?a8_0, ?a8_64, nmy (by kernel_rfl), nmy (by kernel_rfl), nmy (by kernel_rfl)⟩, ⟨nmy (by kernel_rfl), nmy (by kernel_rfl), nmy (by kernel_rfl), ?a9_320, nmy (by kernel_rfl)⟩, trivial⟩
  case a0_0 | a0_64 | a0_256 | a0_320 | a1_0 | a1_64 | a1_256 | a1_320 | a2_0 | a2_64 | a2_256 | a2_320 | a3_0 | a3_64 | a3_256 | a3_320 | a4_0 | a4_256 | a5_0 | a5_256 | a7_64 | a7_320 | a8_0 | a8_64 | a9_320 =>
   intro hmay
   clear hmay
   intro e' K' h A4 hA hk
   simp only [Op.operands, Call.operands] at h
   try simp [still, heapM, putR, dvA] at h
   simp [still, heapM, putR, dvA] at hA hk
   subst hA
   try simp [h]
   try exact hk
  case a6_0 | a6_256 =>
   intro hmay
   clear hmay
   intro e' K' h A4 hA hk
   simp only [Op.operands, Call.operands] at h
   try simp [still, heapM, putR, dvA] at h
   simp [still, heapM, putR, dvA] at hA hk
   subst hA
   refine aCall_of (clone_in_af (i64s s.og) (by simp; omega)) (by kernel_rfl) (by simp [h]) ?_
   simpa using hk
 simp [putR]
 have hH2 : ClH [ssB s, zSs, ssB s, vlB V1, xeB [true], edB0, anB s 3 (.own 4 1 0 1) 5 pr false, cyB C, osB s.g.ad nilV nilV (i64s s.og)] := by
  refine ClH.app (H := hpA [ssB s, zSs] s V1 true pr false) hH (N := [cyB C, osB s.g.ad nilV nilV (i64s s.og)]) (fun b hb => ?_)
  simp only [List.mem_cons, List.not_mem_nil, or_false] at hb
  rcases hb with rfl | rfl
  ·exact cln_mpB _ _ _ _
  ·simp [clnB, clnE, cln]
 have c4 := AC.exact hH2 rfl rfl (cpBranches_ac (A := [ssB s, zSs, ssB s, vlB V1, xeB [true], edB0, anB s 3 (.own 4 1 0 1) 5 pr false, cyB C, osB s.g.ad nilV nilV (i64s s.og)]) (b := 6) rfl (eb := 4) rfl h.b hL hlm h7 h8)
 refine aCall_ofc c4 (by kernel_rfl) ?_
 rintro _ _ ⟨rfl, rfl⟩
 have hsb := h.b
 have hsp := h.p
 simp [hsb]
 refine aLoop_iter 2 ?_
 simp [hsb, Bl.d_eq]
 refine aCall_ofc (clone_st_ac _ (sts B.s) (by simp; omega)) (by kernel_rfl) ?_
 rintro _ _ ⟨rfl, rfl⟩
 simp [hsb, hsp]
 refine aLoop_iter 1 ?_
 simp [hsb, hsp]
 have hH3 : ClH [ssB s, zSs, ssB s, vlB V1, xeB [true], edB0, anB s 3 (.own 4 1 0 1) 5 pr false, cyB C, osB s.g.ad nilV nilV (i64s s.og), ⟨0, true, 34, 2, [[aI .u32 B.ad, .own 10 1 0 B.s.length]]⟩, smB V1 C B.s 0] := by
  refine ClH.app (H := [ssB s, zSs, ssB s, vlB V1, xeB [true], edB0, anB s 3 (.own 4 1 0 1) 5 pr false, cyB C, osB s.g.ad nilV nilV (i64s s.og)]) hH2 (N := [⟨0, true, 34, 2, [[aI .u32 B.ad, .own 10 1 0 B.s.length]]⟩, smB V1 C B.s 0]) (fun b hb => ?_)
  simp only [List.mem_cons, List.not_mem_nil, or_false] at hb
  rcases hb with rfl | rfl
  ·simp [clnB, clnE, cln]
  ·simp [clnB]
 have c5 := cpChange_at (A := [ssB s, zSs, ssB s, vlB V1, xeB [true], edB0, anB s 3 (.own 4 1 0 1) 5 pr false, cyB C, osB s.g.ad nilV nilV (i64s s.og), ⟨0, true, 34, 2, [[aI .u32 B.ad, .own 10 1 0 B.s.length]]⟩, smB V1 C B.s 0]) (b := 6) (mv := 3) (c := 7) (bb := 9) (q := 10) (C := C) (B := B) (V := V1) rfl rfl rfl hC rfl rfl (by omega) (by omega) (by omega) (by omega) hl hel hH3
 have hm0 : smB V1 C B.s 0 = ⟨1, true, 40, 8, dEls (sts B.s)⟩ := by simp [smB, mdL]
 simp only [List.set_cons_succ, List.set_cons_zero] at c5
 rw [hm0] at c5
 refine aCall_ofc c5 (by kernel_rfl) ?_
 rintro _ _ ⟨rfl, rfl⟩
 simp
 refine aCall_of (containsin_af [] 0 (by unfold maxLen; simp)) (by kernel_rfl) (by simp) ?_
 simp
 refine aRaw_app byt_26 ?_
 simp
 refine ⟨by unfold maxLen; omega, ?_⟩
 refine aRaw_app byt_24 ?_
 simp
 refine ⟨by unfold maxLen; omega, ?_⟩
 obtain ⟨l1, hl1⟩ := preds_one h.g (by rw [h.b]; rfl)
 obtain ⟨l2, hl2⟩ := preds_one hg2 (by simp [prG])
 refine aCall_ofz [12] (dmpreds_af (prG s B V1) hg2 (edgOk _) (by simp [prG])) (by kernel_rfl) (by simp [frz, prG, hCe, Bl.d_eq]) ?_
 rw [hl2]
 rw [hl1] at hpr
 subst hpr
 simp [frz]
 refine aLoop_iter 2 ?_
 simp
 refine adrawR [.ptr 8 0 0 2, .own 14 0 0 1, aI .i64 0, .ptr 8 0 0 2, .own 14 0 0 1, aI .i64 0, .ptr 14 0 0 0, nilV, .ptr 6 0 0 0, .ptr 6 0 0 0, .ptr 6 0 0 7, .d (.sl 1 [[.sl 1 (i64s l1)]]), aI .i64 0, .ip [.sl 1 (i64s l1)], .d (.sl 1 (i64s l1)), .d (.sl 1 [[.sl 1 (i64s l2)]]), aI .i64 0, .ip [.sl 1 (i64s l2)], .d (.sl 1 (i64s l2)), nilV, .ptr 14 0 0 0, .any]
  [(0, [ssB s, zSs, ssB s, vlB V1, xeB [true], edB0, anB s 3 (.own 4 1 0 1) 5 [[.sl 1 (i64s l1)]] false, cyB C, ⟨0, true, 31, 4, [[aI .u32 s.g.ad, .own 12 0 0 1, .own 14 0 0 1, .d (.sl 1 (i64s s.og))]]⟩, bkF B.ad (sts (B.s.map (rwSt V1 C))), smF (B.s.map (rwSt V1 C)), bkF B.ad (sts (B.s.map (rwSt V1 C))), ⟨0, false, 34, 2, [[aI .u32 B.ad, .d (.sl 8 (sts (B.s.map (rwSt V1 C))))]]⟩, nlP, nlP]), (524288, [ssB s, zSs, ssB s, vlB V1, xeB [true], edB0, anB s 3 (.own 4 1 0 1) 5 [[.sl 1 (i64s l1)]] false, cyB C, ⟨0, true, 31, 4, [[aI .u32 s.g.ad, .own 12 0 0 1, .own 14 0 0 1, .d (.sl 1 (i64s s.og))]]⟩, bkF B.ad (sts (B.s.map (rwSt V1 C))), smF (B.s.map (rwSt V1 C)), bkF B.ad (sts (B.s.map (rwSt V1 C))), ⟨0, false, 34, 2, [[aI .u32 B.ad, .d (.sl 8 (sts (B.s.map (rwSt V1 C))))]]⟩, nlP, nlP]), (2621440, [ssB s, zSs, ssB s, vlB V1, xeB [true], edB0, anB s 3 (.own 4 1 0 1) 5 [[.sl 1 (i64s l1)]] false, cyB C, ⟨0, true, 31, 4, [[aI .u32 s.g.ad, .own 12 0 0 1, .own 14 0 0 1, .d (.sl 1 (i64s s.og))]]⟩, bkF B.ad (sts (B.s.map (rwSt V1 C))), smF (B.s.map (rwSt V1 C)), bkF B.ad (sts (B.s.map (rwSt V1 C))), ⟨0, false, 34, 2, [[aI .u32 B.ad, .d (.sl 8 (sts (B.s.map (rwSt V1 C))))]]⟩, nlP, nlP])]
  (by kernel_rfl) (by kernel_rfl) (by simp [heapM]) rfl ?_ ?_
 ·simp only [rowsR, List.mem_cons, List.not_mem_nil, or_false, forall_eq_or_imp, forall_eq]
  refine ⟨⟨?b0_0, ?b0_524288, nmy (by kernel_rfl)⟩, ⟨?b1_0, ?b1_524288, nmy (by kernel_rfl)⟩, ⟨?b2_0, ?b2_524288, nmy (by kernel_rfl)⟩, ⟨?b3_0, nmy (by kernel_rfl), nmy (by kernel_rfl)⟩, ⟨?b4_0, nmy (by kernel_rfl), nmy (by kernel_rfl)⟩, ⟨?b5_0, nmy (by kernel_rfl), nmy (by kernel_rfl)⟩, ⟨?b6_0, nmy (by kernel_rfl), nmy (by kernel_rfl)⟩, ⟨?b7_0, nmy (by kernel_rfl), nmy (by kernel_rfl)⟩, ⟨?b8_0, nmy (by kernel_rfl), nmy (by kernel_rfl)⟩, ⟨?b9_0, nmy (by kernel_rfl), nmy (by kernel_rfl)⟩, ⟨?b10_0, nmy (by kernel_rfl), nmy (by kernel_rfl)⟩, ⟨?b11_0, nmy (by kernel_rfl), nmy (by kernel_rfl)⟩, ⟨?b12_0, nmy (by kernel_rfl), nmy (by kernel_rfl)⟩, ⟨?b13_0, nmy (by kernel_rfl), nmy (by kernel_rfl)⟩, ⟨?b14_0, nmy (by kernel_rfl), nmy (by kernel_rfl)⟩, ⟨?b15_0, nmy (by kernel_rfl), nmy (by kernel_rfl)⟩, ⟨?b16_0, nmy (by kernel_rfl), nmy (by kernel_rfl)⟩, ⟨?b17_0, nmy (by kernel_rfl), nmy (by kernel_rfl)⟩, ⟨?b18_0, nmy (by kernel_rfl), nmy (by kernel_rfl)⟩, ⟨?b19_0, nmy (by kernel_rfl), nmy (by kernel_rfl)⟩, ⟨nmy (by kernel_rfl), ?b20_524288, nmy (by kernel_rfl)⟩, ⟨nmy (by kernel_rfl), ?b21_524288, nmy (by kernel_rfl)⟩, trivial⟩
  case b0_0 | b0_524288 | b1_0 | b1_524288 | b2_0 | b2_524288 | b3_0 | b4_0 | b5_0 | b6_0 | b7_0 | b8_0 | b9_0 | b10_0 | b11_0 | b12_0 | b13_0 | b14_0 | b15_0 | b16_0 | b17_0 | b18_0 | b20_524288 | b21_524288 =>
   intro hmay
   clear hmay
   intro e' K' h A4 hA hk
   simp only [Op.operands, Call.operands] at h
   try simp [still, heapM, putR, dvA] at h
   simp [still, heapM, putR, dvA] at hA hk
   subst hA
   try simp [h]
   try exact hk
  case b19_0 =>
   intro hmay
   clear hmay
   intro e' K' h A4 hA hk
   simp only [Op.operands, Call.operands] at h
   try simp [still, heapM, putR, dvA] at h
   simp [still, heapM, putR, dvA] at hA hk
   subst hA
   refine aCall_of (cpKeep_af (i64s l1) (i64s l2)) (by kernel_rfl) (by simp [h]) ?_
   simpa using hk
 simp [putR]
 have hle := cgS_le V1 C B.s fun t ht => (hel t ht).1
 refine ⟨⟨rfl, ?_⟩, i64w (by omega)⟩
 simp [prG, hCe, Bl.d_eq]
def adW (a b : Int) : Int := IntKind.u32.wrap (a + b)
def adE (v x : Int) : Ex := eTwo 3 (eVar v) (eCon x)
def asg (v : Int) (e : Ex) : St := ⟨1, v, 0, 0, 0, 0, [e], []⟩
def hlS : St := ⟨10, 0, 0, 0, 0, 0, [], []⟩
def moR : Nat → List Int → List St
 | _, [] => []
 | k, x :: l => asg (13 + k : Nat) (adE (12 + k : Nat) x) :: moR (k + 1) l
def mo1 (k : Nat) (a x : Int) : Int × Int × Int := ((13 + k : Nat), 1, adW a x)
theorem mo1_1 (k : Nat) (a x : Int) : (mo1 k a x).1 = (13 + k : Nat) := rfl
theorem mo1_2 (k : Nat) (a x : Int) : (mo1 k a x).2 = (1, adW a x) := rfl
def moV : Nat → Int → List Int → List (Int × Int × Int)
 | _, _, [] => []
 | k, a, x :: l => mo1 k a x :: moV (k + 1) (adW a x) l
theorem moR_len : ∀ (k : Nat) (l : List Int), (moR k l).length = l.length
 | _, [] => rfl
 | k, x :: l => by simp [moR, moR_len (k + 1) l]
theorem moR_at : ∀ (k : Nat) (l : List Int) (j : Nat), (moR k l)[j]? = (l[j]?).map fun x => asg (13 + (k + j) : Nat) (adE (12 + (k + j) : Nat) x)
 | _, [], j => by simp [moR]
 | k, x :: l, 0 => by simp [moR]
 | k, x :: l, j + 1 => by
   rw [moR, List.getElem?_cons_succ, moR_at (k + 1) l j, List.getElem?_cons_succ]
   have : k + 1 + j = k + (j + 1) := by omega
   rw [this]
theorem lk2_app (v : Int) : ∀ (L M : List (Int × Int × Int)), lk2 v (L ++ M) = match lk2 v L with | some q => some q | none => lk2 v M
 | [], M => rfl
 | p :: L, M => by
   simp only [List.cons_append, lk2]
   split
   ·rfl
   ·exact lk2_app v L M
theorem up2_none (v : Int) (q : Int × Int) : ∀ L : List (Int × Int × Int), lk2 v L = none → up2 v q L = L ++ [(v, q)]
 | [], _ => rfl
 | p :: L, h => by
   simp only [lk2] at h
   split at h
   ·cases h
   ·rename_i hn
    simp only [up2, if_neg hn, up2_none v q L h, List.cons_append]
theorem vlE_ad {V : List (Int × Int × Int)} {v a x : Int} (h : gtV V v = (1, a)) : vlE V (adE v x) = (1, adW a x) := by
 have e1 : vlE V (eVar v) = (1, a) := by simp [eVar, vlE, h]
 have e2 : vlE V (eCon x) = (1, x) := by simp [eCon, vlE]
 simp only [adE, eTwo, vlE, e1, e2]
 simp [evC, evX, eCon, appI, appL, adW]
theorem mo_first : ∀ (l : List Int) (k : Nat) (a : Int) (V : List (Int × Int × Int)) (c : Bool), gtV V (12 + k : Nat) = (1, a) → (∀ v : Int, (13 + k : Nat) ≤ v → lk2 v V = none) → viP (V, c) (moR k l) = (V ++ moV k a l, c || !l.isEmpty)
 | [], k, a, V, c, _, _ => by simp [moR, moV, viP]
 | x :: l, k, a, V, c, hg, hn => by
   have h1 := hn (13 + k : Nat) (Int.le_refl _)
   have hv : gtV V (13 + k : Nat) = (0, 0) := by simp only [gtV, h1, Option.getD_none]
   have hj : jnV (0, 0) (1, adW a x) = (1, adW a x) := by simp [jnV]
   have hc : chV V (13 + k : Nat) (1, adW a x) = true := by
    simp only [chV, hv, hj]
    simp
    omega
   have hs : viS (V, c) (asg (13 + k : Nat) (adE (12 + k : Nat) x)) = (V ++ [mo1 k a x], true) := by
    simp only [viS, asg, exAt, List.getD_cons_zero, if_true, vlE_ad hg, stV2, hc, hv, hj, up2_none _ _ _ h1, Bool.or_true]
    rfl
   have hg2 : gtV (V ++ [mo1 k a x]) (12 + (k + 1) : Nat) = (1, adW a x) := by
    have : ((12 + (k + 1) : Nat) : Int) = (13 + k : Nat) := by omega
    rw [this]
    simp only [gtV, lk2_app, h1, lk2, mo1_1, mo1_2, if_true, Option.getD_some]
   have hn2 : ∀ v : Int, (13 + (k + 1) : Nat) ≤ v → lk2 v (V ++ [mo1 k a x]) = none := fun v hv => by
    rw [lk2_app, hn v (by omega)]
    simp only [lk2]
    rw [if_neg (by rw [mo1_1]; omega)]
   have ih := mo_first l (k + 1) (adW a x) _ true hg2 hn2
   unfold viP at ih ⊢
   rw [moR, List.foldl_cons, hs, ih, moV]
   simp
theorem mo_get : ∀ (l : List Int) (k : Nat) (a : Int) (V : List (Int × Int × Int)), (∀ v : Int, (13 + k : Nat) ≤ v → lk2 v V = none) → ∀ p ∈ moV k a l, gtV (V ++ moV k a l) p.1 = p.2
 | [], k, a, V, _, p, hp => by simp [moV] at hp
 | x :: l, k, a, V, hn, p, hp => by
   have h1 := hn (13 + k : Nat) (Int.le_refl _)
   rw [moV] at hp ⊢
   rcases List.mem_cons.1 hp with rfl | hp
   ·simp only [gtV, lk2_app, h1, lk2, mo1_1, mo1_2, if_true, Option.getD_some]
   ·have hn2 : ∀ v : Int, (13 + (k + 1) : Nat) ≤ v → lk2 v (V ++ [mo1 k a x]) = none := fun v hv => by
     rw [lk2_app, hn v (by omega)]
     simp only [lk2]
     rw [if_neg (by rw [mo1_1]; omega)]
    have := mo_get l (k + 1) (adW a x) _ hn2 p hp
    simpa using this
theorem mo_second : ∀ (l : List Int) (k : Nat) (a : Int) (V : List (Int × Int × Int)) (c : Bool), gtV V (12 + k : Nat) = (1, a) → (∀ p ∈ moV k a l, gtV V p.1 = p.2) → viP (V, c) (moR k l) = (V, c)
 | [], k, a, V, c, _, _ => by simp [moR, viP]
 | x :: l, k, a, V, c, hg, hm => by
   have h1 := hm (mo1 k a x) (by simp [moV])
   simp only [mo1_1, mo1_2] at h1
   have hj : jnV (1, adW a x) (1, adW a x) = (1, adW a x) := by simp [jnV]
   have hc : chV V (13 + k : Nat) (1, adW a x) = false := by simp only [chV, h1, hj]; simp
   have hs : viS (V, c) (asg (13 + k : Nat) (adE (12 + k : Nat) x)) = (V, c) := by
    simp only [viS, asg, exAt, List.getD_cons_zero, if_true, vlE_ad hg, stV2, hc, Bool.or_false]
    simp
   have hg2 : gtV V (12 + (k + 1) : Nat) = (1, adW a x) := by
    have : ((12 + (k + 1) : Nat) : Int) = (13 + k : Nat) := by omega
    rw [this, h1]
   have ih := mo_second l (k + 1) (adW a x) V c hg2 (fun p hp => hm p (by rw [moV]; exact List.mem_cons_of_mem _ hp))
   unfold viP at ih ⊢
   rw [moR, List.foldl_cons, hs, ih]
theorem mo_last : ∀ (l : List Int) (k : Nat) (a : Int) (V : List (Int × Int × Int)), gtV V (12 + k : Nat) = (1, a) → (∀ v : Int, (13 + k : Nat) ≤ v → lk2 v V = none) → gtV (V ++ moV k a l) (12 + (k + l.length) : Nat) = (1, l.foldl adW a)
 | [], k, a, V, hg, _ => by simpa [moV] using hg
 | x :: l, k, a, V, hg, hn => by
   have h1 := hn (13 + k : Nat) (Int.le_refl _)
   have hg2 : gtV (V ++ [mo1 k a x]) (12 + (k + 1) : Nat) = (1, adW a x) := by
    have : ((12 + (k + 1) : Nat) : Int) = (13 + k : Nat) := by omega
    rw [this]
    simp only [gtV, lk2_app, h1, lk2, mo1_1, mo1_2, if_true, Option.getD_some]
   have hn2 : ∀ v : Int, (13 + (k + 1) : Nat) ≤ v → lk2 v (V ++ [mo1 k a x]) = none := fun v hv => by
    rw [lk2_app, hn v (by omega)]
    simp only [lk2]
    rw [if_neg (by rw [mo1_1]; omega)]
   have ih := mo_last l (k + 1) (adW a x) _ hg2 hn2
   rw [moV, List.foldl_cons, ← ih, List.append_assoc, List.length_cons]
   have : 12 + (k + (l.length + 1)) = 12 + (k + 1 + l.length) := by omega
   rw [this]
   rfl
theorem lk2_none {v : Int} : ∀ {L : List (Int × Int × Int)}, (∀ p ∈ L, p.1 ≠ v) → lk2 v L = none
 | [], _ => rfl
 | p :: L, h => by
   simp only [lk2]
   rw [if_neg (h p (by simp)), lk2_none fun q hq => h q (List.mem_cons_of_mem _ hq)]
theorem vI_none : ∀ v : Int, (13 + 0 : Nat) ≤ v → lk2 v (vI 12) = none := fun v hv => by
 refine lk2_none fun p hp => ?_
 have : ∀ p ∈ vI 12, p.1 ≤ 12 := by decide
 have := this p hp
 omega
theorem vI_12 : gtV (vI 12) (12 + 0 : Nat) = (1, 0) := by decide
def moB (l : List Int) : Bl := ⟨0, moR 0 l ++ [hlS]⟩
def moS (l : List Int) : Ss := ⟨⟨0, [moB l]⟩, [[]], (List.range (13 + l.length)).map Int.ofNat⟩
theorem moB_lt (l : List Int) {j : Nat} {x : Int} (h : l[j]? = some x) : (moB l).s[j]? = some (asg (13 + j : Nat) (adE (12 + j : Nat) x)) := by
 have hj := (gSI.1 h).1
 simp only [moB]
 rw [gAL (by rw [moR_len]; exact hj), moR_at, h, Nat.zero_add]
 rfl
theorem moB_eq (l : List Int) : (moB l).s[l.length]? = some hlS := by
 simp only [moB]
 rw [List.getElem?_append_right (by rw [moR_len]; exact Nat.le_refl _), moR_len, Nat.sub_self]
 rfl
theorem moB_len (l : List Int) : (moB l).s.length = l.length + 1 := by simp [moB, moR_len]
theorem moB_mem {l : List Int} {j : Nat} {t : St} (h : (moB l).s[j]? = some t) : (∃ x, l[j]? = some x ∧ t = asg (13 + j : Nat) (adE (12 + j : Nat) x)) ∨ (j = l.length ∧ t = hlS) := by
 have hj := (gSI.1 h).1
 rw [moB_len] at hj
 rcases Nat.lt_or_ge j l.length with h1 | h1
 ·have hx : l[j]? = some l[j] := gEG h1
  rw [moB_lt l hx] at h
  exact .inl ⟨_, hx, (oSI h).symm⟩
 ·obtain rfl : j = l.length := by omega
  rw [moB_eq] at h
  exact .inr ⟨rfl, (oSI h).symm⟩
theorem moB_in {l : List Int} {t : St} (h : t ∈ (moB l).s) : (∃ (j : Nat) (x : Int), l[j]? = some x ∧ t = asg (13 + j : Nat) (adE (12 + j : Nat) x)) ∨ t = hlS := by
 obtain ⟨j, hj⟩ := List.getElem?_of_mem h
 rcases moB_mem hj with ⟨x, h1, h2⟩ | ⟨_, h2⟩
 ·exact .inl ⟨j, x, h1, h2⟩
 ·exact .inr h2
theorem mo_df (l : List Int) (v : Int) : ∀ j : Nat, j ≤ l.length → lk2 v (dfP (moB l).s j) = if 13 ≤ v ∧ v < 13 + j then some (0, v - 13) else none
 | 0, _ => by
   rw [if_neg (by omega)]
   rfl
 | j + 1, h => by
   have ih := mo_df l v j (by omega)
   have hx : l[j]? = some l[j] := gEG (by omega)
   have h1 : dfP (moB l).s (j + 1) = up2 (13 + j : Nat) (0, j) (dfP (moB l).s j) := by
    have hd : dfAdd (dfP (moB l).s j) (13 + j : Nat) (0, (j : Int)) = up2 (13 + j : Nat) (0, (j : Int)) (dfP (moB l).s j) := by rw [dfAdd, if_pos (by omega)]
    rw [dfP, moB_lt l hx]
    exact hd
   rw [h1, lk2_up, ih]
   by_cases hv : v = (13 + j : Nat)
   ·rw [if_pos hv.symm, if_pos (by omega)]
    have : v - 13 = (j : Int) := by omega
    rw [this]
   ·rw [if_neg (Ne.symm hv)]
    by_cases h2 : 13 ≤ v ∧ v < 13 + j
    ·rw [if_pos h2, if_pos (by omega)]
    ·rw [if_neg h2, if_neg (by omega)]
theorem mo_dl (l : List Int) : dfP (moB l).s (l.length + 1) = dfP (moB l).s l.length := by
 rw [dfP, moB_eq]
 rfl
theorem ad_err {v x : Int} (h1 : 0 ≤ v) (h2 : v < 65536) : exErr (adE v x) = 0 := by
 have hs : shalB 64 (adE v x) = true := rfl
 have hf : formB (adE v x) = true := by simp [formB_eq, adE, eTwo, eVar, eCon, okE, h1, h2]
 simp [exErr, hs, hf]
theorem ad_form {v x : Int} (h1 : 0 ≤ v) (h2 : v < 65536) : formB (adE v x) = true := by simp [formB_eq, adE, eTwo, eVar, eCon, okE, h1, h2]
theorem ad_vars (v x : Int) : varsR (adE v x) = [v] := by
 simp [adE, eTwo, eVar, eCon, varsR, varsR.varsRs, insL]
theorem moG (l : List Int) (hl : l.length ≤ 30) : GrFit (moS l).g := by
 refine ⟨by simp [moS], fun b hb => ?_⟩
 obtain rfl : b = moB l := by simpa [moS] using hb
 refine ⟨by rw [moB_len]; omega, fun t ht => ?_⟩
 rcases moB_in ht with ⟨j, x, _, rfl⟩ | rfl <;> simp [asg, hlS]
theorem moE (l : List Int) (hl : l.length ≤ 30) : grErr (moS l).g = 0 := by
 have h1 : ∀ t ∈ (moB l).s, stErr t = 0 := fun t ht => by
  rcases moB_in ht with ⟨j, x, hx, rfl⟩ | rfl
  ·have hj := (gSI.1 hx).1
   have he := ad_err (v := (12 + j : Nat)) (x := x) (by omega) (by omega)
   have hf : fieldsB (asg (13 + j : Nat) (adE (12 + j : Nat) x)) = true := by
    have a1 : (0 : Int) ≤ (13 + j : Nat) := by omega
    have a2 : ((13 + j : Nat) : Int) < 65536 := by omega
    simp only [fieldsB, asg, a1, a2]
    rfl
   have hx2 : exsErr (asg (13 + j : Nat) (adE (12 + j : Nat) x)).e = 0 := by
    show (if exErr (adE (12 + j : Nat) x) = 0 then 0 else exErr (adE (12 + j : Nat) x)) = 0
    rw [he]
    rfl
   rw [stErr, hx2, hf]
   rfl
  ·decide
 have h2 : ∀ L : List St, (∀ t ∈ L, stErr t = 0) → stsErr L = 0 := by
  intro L hL
  induction L with
  | nil => rfl
  | cons t L ih => rw [stsErr, if_pos (hL t (by simp)), ih fun x hx => hL x (List.mem_cons_of_mem _ hx)]
 have h3 := h2 _ h1
 have hlast : (moB l).s.getLast? = some hlS := by simp [moB]
 have htake : (moB l).s.take ((moB l).s.length - 1) = moR 0 l := by simp [moB]
 have hany : (moR 0 l).any termB = false := by
  rw [List.any_eq_false]
  intro t ht
  obtain ⟨j, hj⟩ := List.getElem?_of_mem ht
  rw [moR_at] at hj
  cases hx : l[j]? with
  | none => rw [hx] at hj; cases hj
  | some x =>
    rw [hx] at hj
    obtain rfl := oSI hj
    simp [asg, termB]
 have hcl : closedB 1 (moB l) = true := by
  simp only [closedB, hlast, htake, hany]
  rfl
 have hn := moB_len l
 simp only [moS, grErr, stN, blsErr, h3, List.all_cons, List.all_nil, List.length_singleton, hcl, hn]
 simp
 omega
theorem moOne (l : List Int) (hl : l.length ≤ 30) (h0 : l ≠ []) (hr : ∀ x ∈ l, R32 x) : OneB (moS l) (moB l) (vI 12 ++ moV 0 0 l) where
 b := rfl
 p := rfl
 o := by simp [moS]; omega
 g := moG l hl
 e := moE l hl
 ed := by
  have hlast : (moB l).s.getLast? = some hlS := by simp [moB]
  simp [edgN, moS, succL, hlast, hlS, tgts]
 el := fun t ht => by
  rcases moB_in ht with ⟨j, x, _, rfl⟩ | rfl
  ·refine ⟨by simp [asg, maxLen], fun y hy => ?_⟩
   obtain rfl : y = _ := by simpa [asg] using hy
   have : ∀ v : Int, (adE v x).nodes = 3 := fun _ => rfl
   rw [this]
   omega
  ·simp [hlS]
 d := fun j t ht ha => by
   rcases moB_mem ht with ⟨x, hx, rfl⟩ | ⟨_, rfl⟩
   ·have hj := (gSI.1 hx).1
    have := mo_df l (13 + j : Nat) j (by omega)
    rw [if_neg (by omega)] at this
    have a1 : knB (moS l) (13 + j : Nat) = true := by
     simp only [knB, moS, List.length_map, List.length_range]
     simp
     omega
    have a2 : ¬ ((13 + j : Nat) : Int) = 12 := by omega
    simp only [dfOk, asg, this, a1, a2]
    simp
   ·simp [asB, hlS] at ha
 L := fun v q h => by
   rw [moB_len, mo_dl, mo_df l v _ (Nat.le_refl _)] at h
   split at h
   ·rw [← oSI h]
   ·cases h
 u := fun j t ht x hx v hv => by
   rcases moB_mem ht with ⟨y, hy, rfl⟩ | ⟨_, rfl⟩
   ·have hj := (gSI.1 hy).1
    obtain rfl : x = _ := by simpa [asg] using hx
    rw [ad_vars, List.mem_singleton] at hv
    subst hv
    refine ⟨by simp [knB, moS]; omega, ?_⟩
    rw [moB_len, mo_dl, usB, mo_df l _ _ (Nat.le_refl _)]
    by_cases hj0 : j = 0
    ·subst hj0
     simp
    ·rw [if_pos (by omega)]
     simp
     omega
   ·simp [hlS] at hx
 n := fun t ht e he => by
   rcases moB_in ht with ⟨j, x, hx, rfl⟩ | rfl
   ·obtain rfl : e = _ := by simpa [asg] using he
    exact okN_two (.mk r32_0 (by simp [eVar])) (okN_con (hr x (gMO hx)))
   ·simp [hlS] at he
 f := fun t ht e he => by
   rcases moB_in ht with ⟨j, x, hx, rfl⟩ | rfl
   ·have hj := (gSI.1 hx).1
    obtain rfl : e = _ := by simpa [asg] using he
    exact ad_form (by omega) (by omega)
   ·simp [hlS] at he
 h1 := fun t ht ho => by
  rcases moB_in ht with ⟨j, x, _, rfl⟩ | rfl
  ·rfl
  ·simp [hlS] at ho
 op := fun t ht => by
  rcases moB_in ht with ⟨j, x, _, rfl⟩ | rfl <;> simp [asg, hlS]
 v1 := by
  have := mo_first l 0 0 (vI 12) false vI_12 vI_none
  unfold viP at this ⊢
  simp only [moB, List.foldl_append, this]
  cases l with
  | nil => exact absurd rfl h0
  | cons a l => rfl
 v2 := by
  have h12 : gtV (vI 12 ++ moV 0 0 l) (12 + 0 : Nat) = (1, 0) := by
   have h := vI_12
   simp only [gtV] at h ⊢
   rw [lk2_app]
   cases hq : lk2 ((12 + 0 : Nat) : Int) (vI 12) with
   | none => rw [hq] at h; cases h
   | some q => rw [hq] at h; exact h
  have := mo_second l 0 0 (vI 12 ++ moV 0 0 l) false h12 (mo_get l 0 0 (vI 12) vI_none)
  unfold viP at this ⊢
  simp only [moB, List.foldl_append, this]
  rfl
theorem ad_chg {V : List (Int × Int × Int)} {C : List (Int × Int)} {v a x : Int} (h : gtV V v = (1, a)) (h12 : 12 ≤ v) : cgE V C [adE v x] = 1 := by
 have h1 : rwE V C (adE v x) = eTwo 3 (eCon a) (rwE V C (eCon x)) := by
  have h2 : rwE V C (eVar v) = eCon a := by simp [eVar, rwE, h, h12]
  simp only [adE, eTwo, rwE, rwL_map, List.map_cons, List.map_nil, h2]
  simp
 have h3 : sameB (rwE V C (adE v x)) (adE v x) = false := by
  rw [h1, Bool.eq_false_iff, Ne, sameB_iff]
  simp [adE, eTwo, eCon, eVar]
 simp [cgE, h3]
theorem mo_chg {C : List (Int × Int)} : ∀ (l : List Int) (k : Nat) (a : Int) (V : List (Int × Int × Int)), gtV V (12 + k : Nat) = (1, a) → (∀ p ∈ moV k a l, gtV V p.1 = p.2) → cgS V C (moR k l) = l.length
 | [], k, a, V, _, _ => by simp [moR, cgS]
 | x :: l, k, a, V, hg, hm => by
   have h1 := hm (mo1 k a x) (by simp [moV])
   simp only [mo1_1, mo1_2] at h1
   have hg2 : gtV V (12 + (k + 1) : Nat) = (1, adW a x) := by
    have : ((12 + (k + 1) : Nat) : Int) = (13 + k : Nat) := by omega
    rw [this, h1]
   have ih := mo_chg (C := C) l (k + 1) (adW a x) V hg2 (fun p hp => hm p (by rw [moV]; exact List.mem_cons_of_mem _ hp))
   have h2 : cgS V C (moR k (x :: l)) = cgE V C [adE (12 + k : Nat) x] + cgS V C (moR (k + 1) l) := by simp [cgS, moR, asg]
   rw [h2, ih, ad_chg hg (by omega), List.length_cons]
   omega
theorem mo_cp (l : List Int) : cpP (moB l).s = [] := by
 have h : ∀ (L : List St), (∀ t ∈ L, (exAt t 0).op ≠ 2) → L.foldl cpS [] = [] := by
  intro L hL
  induction L with
  | nil => rfl
  | cons t L ih =>
    have h1 : cpS [] t = [] := by
     unfold cpS
     rw [if_neg (fun h => hL t (by simp) h.1.2)]
    rw [List.foldl_cons, h1, ih fun x hx => hL x (List.mem_cons_of_mem _ hx)]
 refine h _ fun t ht => ?_
 rcases moB_in ht with ⟨j, x, _, rfl⟩ | rfl
 ·simp [exAt, asg, adE, eTwo]
 ·simp [exAt, hlS]
theorem mo_12 (l : List Int) : gtV (vI 12 ++ moV 0 0 l) (12 + 0 : Nat) = (1, 0) := by
 have h := vI_12
 simp only [gtV] at h ⊢
 rw [lk2_app]
 cases hq : lk2 ((12 + 0 : Nat) : Int) (vI 12) with
 | none => rw [hq] at h; cases h
 | some q => rw [hq] at h; exact h
theorem mo_tot (l : List Int) : cgS (vI 12 ++ moV 0 0 l) [] (moB l).s = l.length := by
 have h1 := mo_chg (C := []) l 0 0 (vI 12 ++ moV 0 0 l) (mo_12 l) (mo_get l 0 0 (vI 12) vI_none)
 have h2 : cgS (vI 12 ++ moV 0 0 l) [] (moB l).s = cgS (vI 12 ++ moV 0 0 l) [] (moR 0 l) + 0 := by
  simp [cgS, moB, hlS, cgE]
 rw [h2, h1, Nat.add_zero]
theorem prG_fit {s : Ss} {B : Bl} {V1 : List (Int × Int × Int)} (hb : s.g.b = [B]) (hg : GrFit s.g) : GrFit (prG s B V1) := by
 have h := hg.2 B (by rw [hb]; simp)
 refine ⟨by simp [prG], fun b hb => ?_⟩
 obtain rfl : b = _ := List.mem_singleton.1 hb
 refine ⟨by simpa using h.1, fun t ht => ?_⟩
 obtain ⟨u, hu, rfl⟩ := List.mem_map.1 ht
 have := h.2 u hu
 simpa [rwSt] using this
theorem mo_values {l : List Int} (hl : l.length ≤ 30) (h0 : l ≠ []) (hr : ∀ x ∈ l, R32 x) : AF Tryz.prog 7 [ssV (moS l)] (.d (.sl 5 (setsR (vI 12 ++ moV 0 0 l) (13 + l.length) (13 + l.length)))) := by
 have := cpValues_af (moOne l hl h0 hr)
 have h2 : (moS l).og.length = 13 + l.length := by simp [moS]
 rwa [h2] at this
theorem mo_prop {l : List Int} (hl : l.length ≤ 30) (h0 : l ≠ []) (hr : ∀ x ∈ l, R32 x) : ∃ g, AF Tryz.prog 8 [ssV (moS l)] (.tup [ssV ⟨g, [[]], (moS l).og⟩, aI .i64 l.length, aI .i64 0]) := by
 have h := moOne l hl h0 hr
 have := cpProp_af h (L := moR 0 l) (t := hlS) rfl (by simp [hlS]) (by simp [hlS]) (by rw [mo_cp]; simp) (by rw [moB_len]; omega)
  (fun t ht => by
   rcases moB_in ht with ⟨j, x, _, rfl⟩ | rfl
   ·refine ⟨by simp [asg], by simp [asg], fun y hy => ?_⟩
    obtain rfl : y = _ := by simpa [asg] using hy
    have : ∀ v : Int, (adE v x).nodes = 3 := fun _ => rfl
    rw [this]
    omega
   ·simp [hlS])
  (prG_fit rfl h.g)
 rw [mo_cp, mo_tot] at this
 exact ⟨_, this⟩
theorem mo_set (l : List Int) : (setsR (vI 12 ++ moV 0 0 l) (13 + l.length) (13 + l.length))[12 + l.length]? = some (setR (1, l.foldl adW 0)) := by
 have h := mo_last l 0 0 (vI 12) vI_12 vI_none
 rw [Nat.zero_add] at h
 have h1 : (List.range (13 + l.length))[12 + l.length]? = some (12 + l.length) := List.getElem?_range (by omega)
 simp only [setsR, List.getElem?_map, h1, Option.map_some]
 rw [if_pos (by omega), h]
theorem number27_af (n : Int) : AF Tryz.prog 10 [aI .u32 n] (exA (.mk 1 n 0 0 [])) := by
 refine af_of Tryz.func10 rfl (by kernel_rfl) (by simp [Tryz.ntmps10]) fun _ => ?_; simp [Tryz.f10, Ex.d_eq]
theorem two27_af (op v n : Int) : AF Tryz.prog 6 [aI .i64 op, aI .i64 v, aI .u32 n] (exA (.mk op 0 0 0 [.mk 2 0 v 0 [], .mk 1 n 0 0 []])) := by
 refine af_of Tryz.func6 rfl (by kernel_rfl) (by simp [Tryz.ntmps6]) fun _ => ?_; simp [Tryz.f6, Ex.d_eq]
 refine aCall_of (number27_af n) (by simp) (by simp [Ex.d_eq]) ?_; simp [Ex.d_eq]
theorem step_mo {e : AEnv} {B0 B1 B2 B3 Y : Blk} {k v : Nat} (va : AV) (E : Ex) (X : List (List D)) (hX : X.length = k) :
 Sub 0 e [B0, B1, B2, B3, ⟨v, true, 40, 8, dEls X ++ [[aI .i64 1, va, aI .i64 0, aI .i64 0, aI .i64 0, aI .u32 0, .own 5 0 0 1, nilV]]⟩, exB E, Y] e
  [B0, B1, B2, B3, ⟨v, true, 40, 8, dEls X ++ [[aI .i64 1, va, aI .i64 0, aI .i64 0, aI .i64 0, aI .u32 0, .d (.sl 5 (Ex.ds [E])), .d (.sl 1 [])]]⟩, ⟨0, false, 37, 5, dEls (Ex.ds [E])⟩, Y] := by
 have h := sub_reiT (n := 0) (e := e) (A := [B0, B1, B2, B3, ⟨v, true, 40, 8, dEls X ++ [[aI .i64 1, va, aI .i64 0, aI .i64 0, aI .i64 0, aI .u32 0, .own 5 0 0 1, nilV]]⟩, exB E, Y]) [5] (b := 4) (i := k) (o := 6)
  (k := ⟨v, true, 40, 8, dEls X ++ [[aI .i64 1, va, aI .i64 0, aI .i64 0, aI .i64 0, aI .u32 0, .own 5 0 0 1, nilV]]⟩) (x := [aI .i64 1, va, aI .i64 0, aI .i64 0, aI .i64 0, aI .u32 0, .own 5 0 0 1, nilV]) (c := .own 5 0 0 1) (c' := .d (.sl 5 (Ex.ds [E]))) (by simp [frz]) (by simp [hX]) rfl (by simp [frz, Ex.d_eq])
 have h2 := Sub.cell (n := 0) (e := e) (A := [B0, B1, B2, B3, ⟨v, true, 40, 8, dEls X ++ [[aI .i64 1, va, aI .i64 0, aI .i64 0, aI .i64 0, aI .u32 0, .d (.sl 5 (Ex.ds [E])), nilV]]⟩, ⟨0, false, 37, 5, dEls (Ex.ds [E])⟩, Y]) (b := 4) (i := k) (o := 7)
  (k := ⟨v, true, 40, 8, dEls X ++ [[aI .i64 1, va, aI .i64 0, aI .i64 0, aI .i64 0, aI .u32 0, .d (.sl 5 (Ex.ds [E])), nilV]]⟩) (x := [aI .i64 1, va, aI .i64 0, aI .i64 0, aI .i64 0, aI .u32 0, .d (.sl 5 (Ex.ds [E])), nilV]) (c := nilV) (c' := .d (.sl 1 [])) rfl (by simp [hX]) rfl (VLe.nil_sl 1)
 refine Sub.trans (by simpa [frz, setEls, hX, Ex.d_eq] using h) (by simpa [setEls, hX, Ex.d_eq] using h2)
theorem moR_app : ∀ (k : Nat) (l : List Int) (x : Int), moR k (l ++ [x]) = moR k l ++ [asg (13 + (k + l.length) : Nat) (adE (12 + (k + l.length) : Nat) x)]
 | k, [], x => by simp [moR]
 | k, y :: l, x => by
   have : k + 1 + l.length = k + (l.length + 1) := by omega
   simp only [List.cons_append, moR, moR_app (k + 1) l x, List.length_cons, this]
theorem NLeS_app : ∀ (a a' : List (List D)) {b b' : List (List D)}, NLeS a a' → NLeS b b' → NLeS (a ++ b) (a' ++ b')
 | [], [], _, _, _, h => h
 | [], _ :: _, _, _, h, _ => by have := NLeS.len h; simp at this
 | _ :: _, [], _, _, h, _ => by have := NLeS.len h; simp at this
 | x :: a, y :: a', _, _, h, k => by
   rw [NLeS_cons] at h
   simp only [List.cons_append, NLeS_cons]
   exact ⟨h.1, NLeS_app a a' h.2 k⟩
theorem sn_bool (x y : Bool) : Instr.sameNow .bool (.bool x) (.bool y) = some (decide (x = y)) := by
 cases x <;> cases y <;> rfl
abbrev ogF (i : Nat) : List (List D) := i64s ((List.range i).map Int.ofNat)
set_option maxRecDepth 100000 in
set_option maxHeartbeats 0 in
theorem lawmore27_af (l : List Int) (hr : ∀ x ∈ l, R32 x) : AF Tryz.prog 3 [.d (.sl 1 (u32d l))] (aB true) := by
 refine af_of Tryz.func3 rfl (by kernel_rfl) (by simp [Tryz.ntmps3]) fun _ => ?_; simp [Tryz.f3, Ex.d_eq]
 by_cases h0 : l = []
 ·simp [h0]
  refine aCall_of l27ex_af (by simp) (by simp [Ex.d_eq]) ?_; simp [Ex.d_eq]
 by_cases h30 : 30 < l.length
 ·have h30' : (30 : Int) < l.length := by omega
  simp [h0, h30']
  refine aCall_of l27ex_af (by simp) (by simp [Ex.d_eq]) ?_; simp [Ex.d_eq]
 have h30' : ¬ (30 : Int) < l.length := by omega
 simp [h0, h30']
 refine aRaw_make (kl := .i64) (kc := .i64) (l := 1) (c := 1) (z := [nilV]) byt_24 (by simp) (by simp) (by simp) (by omega) (by unfold maxLen; omega) (by omega) ?_
 simp
 refine aLoop_st (fun i : Nat => [(0, .d (.sl 1 (u32d l))), (3, .ptr 1 0 0 0), (4, aI .i64 i)])
  (fun i => [⟨0, true, 70, 1, [[nilV]]⟩, ⟨0, true, 31, 4, [[aI .u32 0, nilV, .own 0 0 0 1, .own 2 i 0 i]]⟩, ⟨i, true, 3, 1, dEls (ogF i)⟩])
  (fun i => i ≤ 13 + l.length) (fun i => 13 + l.length - i) 0 ((Sub.ghost 0 3 1).trans (Sub.cell (b := 1) (i := 0) (o := 3) (c := nilV) (c' := .own 2 0 0 0) rfl rfl rfl (VLe.nil_own (k := ⟨0, true, 3, 1, []⟩) (by simp) rfl))) 3 (by omega) (by simp [setEls, ogF]) (by simp) (by omega) ?_
 rintro i hi K hK
 have hw12 : IntKind.i64.wrap (12 + (l.length : Int)) = 12 + (l.length : Int) := i64w (by omega)
 rcases Nat.lt_or_ge i (13 + l.length) with hlt | hge
 case inl =>
  have hle : (i : Int) ≤ 12 + (l.length : Int) := by omega
  simp [hw12, hle]
  refine aRaw_app byt_29 ?_
  simp [succ_wrap hlt (by unfold maxLen; omega : 13 + l.length ≤ maxLen)]
  refine ⟨by unfold maxLen; omega, by omega, ?_⟩
  refine hK (i + 1) (by omega) (by omega) (Sub.refl _ _ _) 3 (by omega) ?_ ?_
  ·simp [List.range_succ, i64s]
  ·simp
 obtain rfl : i = 13 + l.length := by omega
 have hle : ¬ ((13 + l.length : Nat) : Int) ≤ 12 + (l.length : Int) := by omega
 simp [hw12, hle]
 obtain ⟨N, hN⟩ : ∃ N, 13 + l.length = N := ⟨_, rfl⟩
 refine aLoop_st (fun k : Nat => [(0, .d (.sl 1 (u32d l))), (3, .ptr 1 0 0 0), (5, .ptr 3 0 0 0), (6, aI .u32 ((l.take k).foldl adW 0)), (7, aI .i64 k)])
  (fun k => [⟨0, true, 70, 1, [[nilV]]⟩, ⟨0, true, 31, 4, [[aI .u32 0, nilV, .own 0 0 0 1, .own 2 N 0 N]]⟩, ⟨N, true, 3, 1, dEls (ogF N)⟩, ⟨0, true, 34, 2, [[aI .u32 0, .own 4 k 0 k]]⟩, ⟨k, true, 40, 8, dEls (sts (moR 0 (l.take k)))⟩])
  (fun k => k ≤ l.length) (fun k => l.length - k) 0 ((Sub.ghost 0 40 8).trans (Sub.cell (b := 3) (i := 0) (o := 1) (c := nilV) (c' := .own 4 0 0 0) rfl rfl rfl (VLe.nil_own (k := ⟨0, true, 40, 8, []⟩) (by simp) rfl))) 5 (by omega) (by simp [setEls, moR, hN]) (by simp) (by omega) ?_
 rintro k hk K2 hK2
 rcases Nat.lt_or_ge k l.length with hlt | hge
 case inl =>
  obtain ⟨x, hx⟩ : ∃ x, l[k]? = some x := ⟨_, gEG hlt⟩
  have hx2 := (gSI.1 hx).2
  obtain ⟨E, hE⟩ : ∃ E, adE (12 + k : Nat) x = E := ⟨_, rfl⟩
  have c2 : AF Tryz.prog 6 [aI .i64 3, aI .i64 (12 + k : Nat), aI .u32 x] (exA E) := by rw [← hE]; exact two27_af 3 _ x
  have hE2 : adE (12 + (k : Int)) x = E := by rw [← hE]; rfl
  have hw13 : IntKind.i64.wrap (13 + (k : Int)) = 13 + (k : Int) := i64w (by omega)
  have hw12b : IntKind.i64.wrap (12 + (k : Int)) = 12 + (k : Int) := i64w (by omega)
  have hlen : (moR 0 (l.take k)).length = k := by rw [moR_len]; simp; omega
  simp [hlt]
  refine adrawR [.ptr 3 0 0 1, .own 4 k 0 k, aI .i64 k, aI .i64 (13 + k : Nat), aI .i64 k, aI .i64 (12 + k : Nat), .d (.sl 1 (u32d l)), aI .i64 k, .ip [.v (.int .u32 x)], aI .u32 x, exA E, .own 5 0 0 1, .agg [aI .i64 1, aI .i64 (13 + k : Nat), aI .i64 0, aI .i64 0, aI .i64 0, aI .u32 0, .own 5 0 0 1, nilV], .own 6 0 0 1, .own 4 (k + 1) 0 (k + 1), .ptr 3 0 0 1, .any]
   [(0, [⟨0, true, 70, 1, [[nilV]]⟩, ⟨0, true, 31, 4, [[aI .u32 0, nilV, .own 0 0 0 1, .own 2 N 0 N]]⟩, ⟨N, true, 3, 1, dEls (ogF N)⟩, ⟨0, true, 34, 2, [[aI .u32 0, .own 4 k 0 k]]⟩, ⟨k, true, 40, 8, dEls (sts (moR 0 (l.take k)))⟩]), (1024, [⟨0, true, 70, 1, [[nilV]]⟩, ⟨0, true, 31, 4, [[aI .u32 0, nilV, .own 0 0 0 1, .own 2 N 0 N]]⟩, ⟨N, true, 3, 1, dEls (ogF N)⟩, ⟨0, true, 34, 2, [[aI .u32 0, .own 4 k 0 k]]⟩, ⟨k, true, 40, 8, dEls (sts (moR 0 (l.take k)))⟩]), (3072, [⟨0, true, 70, 1, [[nilV]]⟩, ⟨0, true, 31, 4, [[aI .u32 0, nilV, .own 0 0 0 1, .own 2 N 0 N]]⟩, ⟨N, true, 3, 1, dEls (ogF N)⟩, ⟨0, true, 34, 2, [[aI .u32 0, .own 4 k 0 k]]⟩, ⟨k, true, 40, 8, dEls (sts (moR 0 (l.take k)))⟩, exB E]), (11264, [⟨0, true, 70, 1, [[nilV]]⟩, ⟨0, true, 31, 4, [[aI .u32 0, nilV, .own 0 0 0 1, .own 2 N 0 N]]⟩, ⟨N, true, 3, 1, dEls (ogF N)⟩, ⟨0, true, 34, 2, [[aI .u32 0, .own 4 k 0 k]]⟩, ⟨k, true, 40, 8, dEls (sts (moR 0 (l.take k)))⟩, exB E, ⟨0, true, 40, 8, [[aI .i64 1, aI .i64 (13 + k : Nat), aI .i64 0, aI .i64 0, aI .i64 0, aI .u32 0, .own 5 0 0 1, nilV]]⟩]), (27648, [⟨0, true, 70, 1, [[nilV]]⟩, ⟨0, true, 31, 4, [[aI .u32 0, nilV, .own 0 0 0 1, .own 2 N 0 N]]⟩, ⟨N, true, 3, 1, dEls (ogF N)⟩, ⟨0, true, 34, 2, [[aI .u32 0, .own 4 k 0 k]]⟩, ⟨k + 1, true, 40, 8, dEls (sts (moR 0 (l.take k))) ++ [[aI .i64 1, aI .i64 (13 + k : Nat), aI .i64 0, aI .i64 0, aI .i64 0, aI .u32 0, .own 5 0 0 1, nilV]]⟩, exB E, ⟨0, true, 40, 8, [[aI .i64 1, aI .i64 (13 + k : Nat), aI .i64 0, aI .i64 0, aI .i64 0, aI .u32 0, .own 5 0 0 1, nilV]]⟩]), (93184, [⟨0, true, 70, 1, [[nilV]]⟩, ⟨0, true, 31, 4, [[aI .u32 0, nilV, .own 0 0 0 1, .own 2 N 0 N]]⟩, ⟨N, true, 3, 1, dEls (ogF N)⟩, ⟨0, true, 34, 2, [[aI .u32 0, .own 4 (k + 1) 0 (k + 1)]]⟩, ⟨k + 1, true, 40, 8, dEls (sts (moR 0 (l.take k))) ++ [[aI .i64 1, aI .i64 (13 + k : Nat), aI .i64 0, aI .i64 0, aI .i64 0, aI .u32 0, .own 5 0 0 1, nilV]]⟩, exB E, ⟨0, true, 40, 8, [[aI .i64 1, aI .i64 (13 + k : Nat), aI .i64 0, aI .i64 0, aI .i64 0, aI .u32 0, .own 5 0 0 1, nilV]]⟩])]
   (by kernel_rfl) (by kernel_rfl) (by simp [heapM]) rfl ?_ ?_
  ·simp only [rowsR, List.mem_cons, List.not_mem_nil, or_false, forall_eq_or_imp, forall_eq]
   refine ⟨⟨?d0_0, ?d0_1024, ?d0_3072, ?d0_11264, nmy (by kernel_rfl), nmy (by kernel_rfl)⟩, ⟨?d1_0, ?d1_1024, ?d1_3072, ?d1_11264, nmy (by kernel_rfl), nmy (by kernel_rfl)⟩, ⟨?d2_0, ?d2_1024, ?d2_3072, nmy (by kernel_rfl), nmy (by kernel_rfl), nmy (by kernel_rfl)⟩, ⟨?d3_0, ?d3_1024, ?d3_3072, nmy (by kernel_rfl), nmy (by kernel_rfl), nmy (by kernel_rfl)⟩, ⟨?d4_0, nmy (by kernel_rfl), nmy (by kernel_rfl), nmy (by kernel_rfl), nmy (by kernel_rfl), nmy (by kernel_rfl)⟩, ⟨?d5_0, nmy (by kernel_rfl), nmy (by kernel_rfl), nmy (by kernel_rfl), nmy (by kernel_rfl), nmy (by kernel_rfl)⟩, ⟨?d6_0, nmy (by kernel_rfl), nmy (by kernel_rfl), nmy (by kernel_rfl), nmy (by kernel_rfl), nmy (by kernel_rfl)⟩, ⟨?d7_0, nmy (by kernel_rfl), nmy (by kernel_rfl), nmy (by kernel_rfl), nmy (by kernel_rfl), nmy (by kernel_rfl)⟩, ⟨?d8_0, nmy (by kernel_rfl), nmy (by kernel_rfl), nmy (by kernel_rfl), nmy (by kernel_rfl), nmy (by kernel_rfl)⟩, ⟨?d9_0, nmy (by kernel_rfl), nmy (by kernel_rfl), nmy (by kernel_rfl), nmy (by kernel_rfl), nmy (by kernel_rfl)⟩, ⟨?d10_0, nmy (by kernel_rfl), nmy (by kernel_rfl), nmy (by kernel_rfl), nmy (by kernel_rfl), nmy (by kernel_rfl)⟩, ⟨nmy (by kernel_rfl), ?d11_1024, nmy (by kernel_rfl), nmy (by kernel_rfl), nmy (by kernel_rfl), nmy (by kernel_rfl)⟩, ⟨nmy (by kernel_rfl), nmy (by kernel_rfl), ?d12_3072, nmy (by kernel_rfl), nmy (by kernel_rfl), nmy (by kernel_rfl)⟩, ⟨nmy (by kernel_rfl), nmy (by kernel_rfl), ?d13_3072, nmy (by kernel_rfl), nmy (by kernel_rfl), nmy (by kernel_rfl)⟩, ⟨nmy (by kernel_rfl), nmy (by kernel_rfl), nmy (by kernel_rfl), ?d14_11264, nmy (by kernel_rfl), nmy (by kernel_rfl)⟩, ⟨nmy (by kernel_rfl), nmy (by kernel_rfl), nmy (by kernel_rfl), nmy (by kernel_rfl), ?d15_27648, nmy (by kernel_rfl)⟩, ⟨nmy (by kernel_rfl), nmy (by kernel_rfl), nmy (by kernel_rfl), nmy (by kernel_rfl), ?d16_27648, nmy (by kernel_rfl)⟩, trivial⟩
   case d0_0 | d0_1024 | d0_3072 | d0_11264 | d1_0 | d1_1024 | d1_3072 | d1_11264 | d2_0 | d2_1024 | d2_3072 | d3_0 | d3_1024 | d3_3072 | d4_0 | d5_0 | d6_0 | d7_0 | d8_0 | d9_0 | d11_1024 | d12_3072 | d13_3072 | d15_27648 | d16_27648 =>
    intro hmay
    clear hmay
    intro e' K' h A4 hA hk
    simp only [Op.operands, Call.operands] at h
    try simp [still, heapM, putR, dvA] at h
    simp [still, heapM, putR, dvA] at hA hk
    subst hA
    try simp [h, hx, hx2, hlt, hw13, hw12b]
    try exact hk
   case d10_0 =>
    intro hmay
    clear hmay
    intro e' K' h A4 hA hk
    simp only [Op.operands, Call.operands] at h
    try simp [still, heapM, putR, dvA] at h
    simp [still, heapM, putR, dvA] at hA hk
    subst hA
    refine aCall_of c2 (by kernel_rfl) (by simp [h]) ?_
    simpa using hk
   case d14_11264 =>
    intro hmay
    clear hmay
    intro e' K' h A4 hA hk
    simp only [Op.operands, Call.operands] at h
    try simp [still, heapM, putR, dvA] at h
    simp [still, heapM, putR, dvA] at hA hk
    subst hA
    refine aRaw_app byt_32 ?_
    simp [h, hlen]
    refine ⟨by unfold maxLen; omega, by omega, ?_⟩
    exact hk
  simp [putR, hx, hx2, hlt, succ_wrap hlt (by unfold maxLen; omega : l.length ≤ maxLen)]
  refine hK2 (k + 1) (by omega) (by omega) (step_mo (k := k) _ E (sts (moR 0 (l.take k))) (by rw [sts_len]; exact hlen)) 5 (by omega) ?_ ?_
  ·have ht : l.take (k + 1) = l.take k ++ [x] := by rw [List.take_add_one, hx]; rfl
   rw [ht, moR_app]
   simp [hE2, asg, St.d_eq, Ex.d_eq, show min k l.length = k by omega]
  ·have ht : l.take (k + 1) = l.take k ++ [x] := by rw [List.take_add_one, hx]; rfl
   rw [ht]
   simp [adW]
 obtain rfl : k = l.length := by omega
 rw [List.take_length]
 simp
 refine aRaw_app byt_32 ?_
 have hlen : (moR 0 l).length = l.length := moR_len 0 l
 simp [hlen]
 refine ⟨by unfold maxLen; omega, by omega, ?_⟩
 obtain ⟨X, hX⟩ : ∃ X : List (List D), X = sts (moR 0 l) ++ [[.v (.int .i64 10), .v (.int .i64 0), .v (.int .i64 0), .v (.int .i64 0), .v (.int .i64 0), .v (.int .u32 0), .v (.slice none 0 0), .v (.slice none 0 0)]] := ⟨_, rfl⟩
 have hXl : X.length = l.length + 1 := by rw [hX]; simp [hlen]
 have hXe : dEls (sts (moR 0 l)) ++ [[AV.d (.v (.int .i64 10)), .d (.v (.int .i64 0)), .d (.v (.int .i64 0)), .d (.v (.int .i64 0)), .d (.v (.int .i64 0)), .d (.v (.int .u32 0)), .d (.v (.slice none 0 0)), .d (.v (.slice none 0 0))]] = dEls X := by rw [hX]; simp [dEls]
 have hXn : NLeS X (sts (moB l).s) := by
  rw [hX]
  simp only [moB, sts_app]
  refine NLeS_app _ _ (NLeS.refl _) ?_
  simp [hlS, St.d_eq]
 have hXt : X.take (l.length + 1) = X := List.take_of_length_le (by omega)
 rw [hXe]
 have hne : l ≠ [] := fun h => h0 h
 have c3 := mo_values (by omega) hne hr
 obtain ⟨g, c4⟩ := mo_prop (by omega) hne hr
 have hset := mo_set l
 obtain ⟨Y, hY⟩ : ∃ Y, setsR (vI 12 ++ moV 0 0 l) (13 + l.length) (13 + l.length) = Y := ⟨_, rfl⟩
 have hYl : Y.length = N := by rw [← hY, setsR_len, hN]
 rw [hY] at c3 hset
 have hwN : IntKind.i64.wrap ((N : Int) - 1) = ((12 + l.length : Nat) : Int) := by rw [i64w (by omega)]; omega
 obtain ⟨q, hq⟩ : ∃ q, 12 + l.length = q := ⟨_, rfl⟩
 have hqN : q < N := by omega
 rw [hq] at hset hwN
 have hset2 := (gSI.1 hset).2
 have hog : i64s (moS l).og = ogF N := by rw [← hN]; rfl
 have hogt : (ogF N).take N = ogF N := List.take_of_length_le (by simp)
 have hn1 : NLeS [[.v (.int .u32 0), .sl 8 X]] (bls' (moS l).g.b) := by simpa [moS, Bl.d_eq, moB] using hXn
 have hn2 : NLeS [[.v (.slice none 0 0)]] (phss (moS l).ph) := by simp [moS]
 have hn3 : NLeS (ogF N) (i64s (moS l).og) := by rw [hog]; exact NLeS.refl _
 refine aCall_ofz [0, 2, 4, 6] c3 (by kernel_rfl) ?_ ?_
 ·simp [frz, hXt, hXl, hogt]
  exact ⟨rfl, hn1, hn2, hn3⟩
 simp [frz]
 refine aCall_of c4 (by kernel_rfl) ?_ ?_
 ·simp [hXt, hXl, hogt]
  exact ⟨rfl, hn1, hn2, hn3⟩
 simp
 simp [hYl, hwN, hset, hset2, hqN, setR, sn_int, sn_bool]
 change aSet _ _ _ _ _
 simp
 refine aCall_of l27ex_af (by simp) (by simp [Ex.d_eq]) ?_; simp [Ex.d_eq]
def ipB (n r : Int) : Bl := ⟨0, [⟨3, 13, 0, 0, 0, 0, [], []⟩, asg 14 (eVar 13), asg 15 (adE 14 n), asg 16 (eVar r), ⟨4, 0, 0, 0, 0, 0, [eVar 16], []⟩, hlS]⟩
def ipS (n r : Int) : Ss := ⟨⟨0, [ipB n r]⟩, [[]], [0, 1, 2, 3, 4, 5, 6, 7, 8, 9, 10, 11, 12, 13, 14, 15, 16]⟩
def ipV : List (Int × Int × Int) := vI 12 ++ [(13, 2, 0), (14, 2, 0), (15, 2, 0), (16, 2, 0)]
def ipD : List (Int × Int × Int) := [(13, 0, 0), (14, 0, 1), (15, 0, 2), (16, 0, 3)]
theorem ipG (n r : Int) : GrFit (ipS n r).g := by
 refine ⟨by simp [ipS], fun b hb => ?_⟩
 obtain rfl : b = ipB n r := by simpa [ipS] using hb
 refine ⟨by simp [ipB], fun t ht => ?_⟩
 simp only [ipB, List.mem_cons, List.not_mem_nil, or_false] at ht
 rcases ht with rfl | rfl | rfl | rfl | rfl | rfl <;> simp [asg, hlS]
theorem ip_regs {r : Int} (hr : 0 ≤ r ∧ r < 8) {P : Int → Prop} (h0 : P 0) (h1 : P 1) (h2 : P 2) (h3 : P 3) (h4 : P 4) (h5 : P 5) (h6 : P 6) (h7 : P 7) : P r := by
 have : r = 0 ∨ r = 1 ∨ r = 2 ∨ r = 3 ∨ r = 4 ∨ r = 5 ∨ r = 6 ∨ r = 7 := by omega
 rcases this with rfl | rfl | rfl | rfl | rfl | rfl | rfl | rfl <;> assumption
theorem ipE (n : Int) {r : Int} (hr : 0 ≤ r ∧ r < 8) : grErr (ipS n r).g = 0 := by
 refine ip_regs hr (P := fun r => grErr (ipS n r).g = 0) ?_ ?_ ?_ ?_ ?_ ?_ ?_ ?_ <;> kernel_rfl
theorem ipV1 (n : Int) {r : Int} (hr : 0 ≤ r ∧ r < 8) : viP (vI 12, false) (ipB n r).s = (ipV, true) := by
 refine ip_regs hr (P := fun r => viP (vI 12, false) (ipB n r).s = (ipV, true)) ?_ ?_ ?_ ?_ ?_ ?_ ?_ ?_ <;> kernel_rfl
theorem ipV2 (n : Int) {r : Int} (hr : 0 ≤ r ∧ r < 8) : viP (ipV, false) (ipB n r).s = (ipV, false) := by
 refine ip_regs hr (P := fun r => viP (ipV, false) (ipB n r).s = (ipV, false)) ?_ ?_ ?_ ?_ ?_ ?_ ?_ ?_ <;> kernel_rfl
theorem ipOne (n : Int) {r : Int} (hn : R32 n) (hr : 0 ≤ r ∧ r < 8) : OneB (ipS n r) (ipB n r) ipV where
 b := rfl
 p := rfl
 o := by simp [ipS]
 g := ipG n r
 e := ipE n hr
 ed := by kernel_rfl
 el := fun t ht => by
  simp only [ipB, List.mem_cons, List.not_mem_nil, or_false] at ht
  have h1 : ∀ v : Int, (eVar v).nodes = 1 := fun _ => rfl
  have h2 : ∀ v x : Int, (adE v x).nodes = 3 := fun _ _ => rfl
  rcases ht with rfl | rfl | rfl | rfl | rfl | rfl <;> simp [asg, hlS, maxLen, h1, h2]
 d := fun j t ht ha => by
   rcases j with _ | _ | _ | _ | _ | _ | j
   ·obtain rfl := oSI ht; kernel_rfl
   ·obtain rfl := oSI ht; kernel_rfl
   ·obtain rfl := oSI ht; kernel_rfl
   ·obtain rfl := oSI ht; kernel_rfl
   ·obtain rfl := oSI ht; cases ha
   ·obtain rfl := oSI ht; cases ha
   ·cases ht
 L := fun v q h => by
   have h' : lk2 v ipD = some q := h
   simp only [ipD, lk2] at h'
   split at h'
   ·obtain rfl := oSI h'; rfl
   split at h'
   ·obtain rfl := oSI h'; rfl
   split at h'
   ·obtain rfl := oSI h'; rfl
   split at h'
   ·obtain rfl := oSI h'; rfl
   cases h'
 u := fun j t ht x hx v hv => by
   rcases j with _ | _ | _ | _ | _ | _ | j
   ·obtain rfl := oSI ht; cases hx
   ·obtain rfl := oSI ht
    obtain rfl := List.mem_singleton.1 hx
    obtain rfl : v = 13 := List.mem_singleton.1 hv
    exact ⟨by kernel_rfl, by kernel_rfl⟩
   ·obtain rfl := oSI ht
    obtain rfl := List.mem_singleton.1 hx
    obtain rfl : v = 14 := List.mem_singleton.1 hv
    exact ⟨by kernel_rfl, by kernel_rfl⟩
   ·obtain rfl := oSI ht
    obtain rfl := List.mem_singleton.1 hx
    obtain rfl : v = r := List.mem_singleton.1 hv
    refine ⟨by simp [knB, ipS]; omega, by simp [usB]; omega⟩
   ·obtain rfl := oSI ht
    obtain rfl := List.mem_singleton.1 hx
    obtain rfl : v = 16 := List.mem_singleton.1 hv
    exact ⟨by kernel_rfl, by kernel_rfl⟩
   ·obtain rfl := oSI ht; cases hx
   ·cases ht
 n := fun t ht e he => by
   have hv : ∀ v : Int, OkN (eVar v) := fun v => .mk r32_0 (by simp [eVar])
   simp only [ipB, List.mem_cons, List.not_mem_nil, or_false] at ht
   rcases ht with rfl | rfl | rfl | rfl | rfl | rfl
   ·cases he
   ·obtain rfl := List.mem_singleton.1 he; exact hv _
   ·obtain rfl := List.mem_singleton.1 he; exact okN_two (hv _) (okN_con hn)
   ·obtain rfl := List.mem_singleton.1 he; exact hv _
   ·obtain rfl := List.mem_singleton.1 he; exact hv _
   ·cases he
 f := fun t ht e he => by
   simp only [ipB, List.mem_cons, List.not_mem_nil, or_false] at ht
   rcases ht with rfl | rfl | rfl | rfl | rfl | rfl
   ·cases he
   ·obtain rfl := List.mem_singleton.1 he; kernel_rfl
   ·obtain rfl := List.mem_singleton.1 he; kernel_rfl
   ·obtain rfl := List.mem_singleton.1 he
    refine ip_regs hr (P := fun r => formB (eVar r) = true) ?_ ?_ ?_ ?_ ?_ ?_ ?_ ?_ <;> kernel_rfl
   ·obtain rfl := List.mem_singleton.1 he; kernel_rfl
   ·cases he
 h1 := fun t ht ho => by
  simp only [ipB, List.mem_cons, List.not_mem_nil, or_false] at ht
  rcases ht with rfl | rfl | rfl | rfl | rfl | rfl
  ·cases ho
  ·rfl
  ·rfl
  ·rfl
  ·cases ho
  ·cases ho
 op := fun t ht => by
  simp only [ipB, List.mem_cons, List.not_mem_nil, or_false] at ht
  rcases ht with rfl | rfl | rfl | rfl | rfl | rfl <;> simp [asg, hlS]
 v1 := ipV1 n hr
 v2 := ipV2 n hr
theorem ipCp (n : Int) {r : Int} (hr : 0 ≤ r ∧ r < 8) : cpP (ipB n r).s = [(14, 13)] := by
 refine ip_regs hr (P := fun r => cpP (ipB n r).s = [(14, 13)]) ?_ ?_ ?_ ?_ ?_ ?_ ?_ ?_ <;> kernel_rfl
theorem ipRw (n : Int) {r : Int} (hr : 0 ≤ r ∧ r < 8) : (ipB n r).s.map (rwSt ipV [(14, 13)]) = [⟨3, 13, 0, 0, 0, 0, [], []⟩, asg 14 (eVar 13), asg 15 (adE 13 n), asg 16 (eVar r), ⟨4, 0, 0, 0, 0, 0, [eVar 16], []⟩, hlS] := by
 refine ip_regs hr (P := fun r => (ipB n r).s.map (rwSt ipV [(14, 13)]) = [⟨3, 13, 0, 0, 0, 0, [], []⟩, asg 14 (eVar 13), asg 15 (adE 13 n), asg 16 (eVar r), ⟨4, 0, 0, 0, 0, 0, [eVar 16], []⟩, hlS]) ?_ ?_ ?_ ?_ ?_ ?_ ?_ ?_ <;> kernel_rfl
theorem ipTot (n : Int) {r : Int} (hr : 0 ≤ r ∧ r < 8) : cgS ipV [(14, 13)] (ipB n r).s = 1 := by
 refine ip_regs hr (P := fun r => cgS ipV [(14, 13)] (ipB n r).s = 1) ?_ ?_ ?_ ?_ ?_ ?_ ?_ ?_ <;> kernel_rfl
theorem ip_values (n : Int) {r : Int} (hn : R32 n) (hr : 0 ≤ r ∧ r < 8) : AF Tryz.prog 7 [ssV (ipS n r)] (.d (.sl 5 (setsR ipV 17 17))) := cpValues_af (ipOne n hn hr)
theorem ip_prop (n : Int) {r : Int} (hn : R32 n) (hr : 0 ≤ r ∧ r < 8) : AF Tryz.prog 8 [ssV (ipS n r)] (.tup [ssV ⟨⟨0, [⟨0, [⟨3, 13, 0, 0, 0, 0, [], []⟩, asg 14 (eVar 13), asg 15 (adE 13 n), asg 16 (eVar r), ⟨4, 0, 0, 0, 0, 0, [eVar 16], []⟩, hlS]⟩]⟩, [[]], (ipS n r).og⟩, aI .i64 1, aI .i64 0]) := by
 have h := ipOne n hn hr
 have := cpProp_af h (L := [⟨3, 13, 0, 0, 0, 0, [], []⟩, asg 14 (eVar 13), asg 15 (adE 14 n), asg 16 (eVar r), ⟨4, 0, 0, 0, 0, 0, [eVar 16], []⟩]) (t := hlS) rfl (by simp [hlS]) (by simp [hlS]) (by rw [ipCp n hr]; simp) (by simp [ipB])
  (fun t ht => by
   simp only [ipB, List.mem_cons, List.not_mem_nil, or_false] at ht
   have h1 : ∀ v : Int, (eVar v).nodes = 1 := fun _ => rfl
   have h2 : ∀ v x : Int, (adE v x).nodes = 3 := fun _ _ => rfl
   rcases ht with rfl | rfl | rfl | rfl | rfl | rfl <;> simp [asg, hlS, h1, h2])
  (prG_fit rfl h.g)
 rw [ipCp n hr, ipTot n hr] at this
 have hg : prG (ipS n r) (ipB n r) ipV = ⟨0, [⟨0, [⟨3, 13, 0, 0, 0, 0, [], []⟩, asg 14 (eVar 13), asg 15 (adE 13 n), asg 16 (eVar r), ⟨4, 0, 0, 0, 0, 0, [eVar 16], []⟩, hlS]⟩]⟩ := by
  simp only [prG, ipCp n hr, ipRw n hr]
  rfl
 rw [hg] at this
 exact this
def tpD : List D := [.v (.bool false), .v (.bool true), .v (.int .u32 0), .v (.int .u32 0), .v (.int .u32 0)]
theorem ipSets : setsR ipV 17 17 = [tpD, tpD, tpD, tpD, tpD, tpD, tpD, tpD, tpD, tpD, tpD, tpD, [.v (.bool false), .v (.bool false), .v (.int .u32 0), .v (.int .u32 0), .v (.int .u32 0)], tpD, tpD, tpD, tpD] := by kernel_rfl
set_option maxRecDepth 100000 in
set_option maxHeartbeats 0 in
theorem lawinput27_af (n b : Int) (hn : R32 n) (hb : 0 ≤ b ∧ b ≤ 255) : AF Tryz.prog 4 [aI .u32 n, aI .u8 b] (aB true) := by
 have hm : b.tmod 8 = b % 8 := Int.tmod_eq_emod_of_nonneg hb.1
 obtain ⟨r, hr⟩ : ∃ r, b % 8 = r := ⟨_, rfl⟩
 have hr8 : 0 ≤ r ∧ r < 8 := by omega
 have hw : IntKind.i64.wrap r = r := i64w (by omega)
 refine af_of Tryz.func4 rfl (by kernel_rfl) (by simp [Tryz.ntmps4]) fun _ => ?_; simp [Tryz.f4, Ex.d_eq]
 rw [hm, hr, hw]
 refine aCall_of (two27_af 3 14 n) (by kernel_rfl) (by simp) ?_
 simp
 refine aRaw_make (kl := .i64) (kc := .i64) (l := 1) (c := 1) (z := [nilV]) byt_24 (by simp) (by simp) (by simp) (by omega) (by unfold maxLen; omega) (by omega) ?_
 simp
 refine aCall_ofz [0, 1, 2, 3, 4, 5, 6, 7] (ip_values n hn hr8) (by kernel_rfl) (by simp [frz, ipS, ipB, asg, adE, eVar, eTwo, eCon, hlS, Ex.d_eq, Bl.d_eq, St.d_eq]) ?_
 rw [ipSets]
 simp [frz]
 refine aCall_of (ip_prop n hn hr8) (by kernel_rfl) (by simp [ipS, ipB, asg, adE, eVar, eTwo, eCon, hlS, Ex.d_eq, Bl.d_eq, St.d_eq]) ?_
 simp [asg, adE, eVar, eTwo, eCon, hlS, Ex.d_eq, Bl.d_eq, St.d_eq, sn_int, sn_bool]
 refine adraw [] (by kernel_rfl) (by kernel_rfl) (by kernel_rfl) (by kernel_rfl) ?_
 simp [sn_int, sn_bool, tpD]
 refine adC_of (two27_af 3 13 n) (by kernel_rfl) trivial (by simp) (by simp) ?_
 simp
 refine adC_of (refsame_af (.mk 3 0 0 0 [.mk 2 0 13 0 [], .mk 1 n 0 0 []]) (.mk 3 0 0 0 [.mk 2 0 13 0 [], .mk 1 n 0 0 []])) (by kernel_rfl) trivial (by simp) (by simp [Ex.d_eq]) ?_
 rw [sameB_iff.2 rfl]
 simp
 refine adC_of l27ex_af (by kernel_rfl) trivial (by simp) (by simp) ?_
 simp
end Go.Proofs.YtinkdalcmnnocaaGreat
