import Derived.Test.YtinkdalcmnnocaaGreatZP
import Derived.Test.YtinkdalcmnnocaaGreatZV
import Derived.Test.YtinkdalcmnnocaaGreatAn
import Derived.Test.YtinkdalcmnnocaaGreatAr
import Derived.Test.YtinkdalcmnnocaaGreatAo
import Derived.Test.YtinkdalcmnnocaaGreatAF
set_option linter.all false
namespace Go.Proofs.YtinkdalcmnnocaaGreat
open Go.RowKit
def u8d (B : List Int) : List (List D) := B.map fun n => [.v (.int .u8 n)]
structure Sec where
 nm : ByteArray
 ad : Int
 da : List Int
 w : Bool
 x : Bool
def Sec.d (s : Sec) : List D := [.v (.string s.nm), .v (.int .u32 s.ad), .sl 1 (u8d s.da), .v (.bool s.w), .v (.bool s.x)]
@[simp] theorem Sec.d_len (s : Sec) : (Sec.d s).length = 5 := rfl
def Gr.d (g : Gr) : List D := [.v (.int .u32 g.ad), .sl 2 (bls' g.b)]
@[simp] theorem Gr.d_len (g : Gr) : (Gr.d g).length = 2 := rfl
structure Reg where
 f : Int
 da : List Int
 w : Bool
 x : Bool
def Reg.d (r : Reg) : List D := [.v (.int .u64 r.f), .sl 1 (u8d r.da), .v (.bool r.w), .v (.bool r.x)]
@[simp] theorem Reg.d_len (r : Reg) : (Reg.d r).length = 4 := rfl
theorem lap {α : Type} (A M : List α) (k : Nat) : (A ++ M)[A.length + k]? = M[k]? := by
 rw [List.getElem?_append_right (by omega)]
 congr 1
 omega
theorem lap0 {α : Type} (A M : List α) : (A ++ M)[A.length]? = M[0]? := lap A M 0
theorem las {α : Type} (A M : List α) (k : Nat) (x : α) : (A ++ M).set (A.length + k) x = A ++ M.set k x := by
 rw [List.set_append_right _ _ (by omega)]
 congr 1
 congr 1
 omega
theorem las0 {α : Type} (A M : List α) (x : α) : (A ++ M).set A.length x = A ++ M.set 0 x := las A M 0 x
theorem lapl {α : Type} {A M : List α} {k : Nat} {x : α} (h : A[k]? = some x) : (A ++ M)[k]? = some x := by
 rw [gAL (gSI.1 h).1]
 exact h
def AtH (A : AHeap) (r : AV) : AV → AHeap → Prop := fun r' A' => r' = r ∧ A = A'
section
variable {A : AHeap} {xm xw : Nat} {R : List Reg}
end
section
variable {A : AHeap} {xm xw : Nat} {R : List Reg} {W : List (Int × Int)}
end
section
variable {A : AHeap} {xm xw : Nat} {R : List Reg} {W : List (Int × Int)}
end
def exI (n w : Int) : Int := if w = 1 then IntKind.u32.wrap (IntKind.i8.wrap n) else if w = 2 then IntKind.u32.wrap (IntKind.i16.wrap n) else n
theorem bextendI_af (n w : Int) : AF Tryz.prog 83 [aI .u32 n, aI .i64 w] (aI .u32 (exI n w)) := by
 unfold exI
 by_cases h1 : w = 1
 ·refine af_of Tryz.func83 rfl (by kernel_rfl) (by simp [Tryz.ntmps83]) fun _ => ?_; simp [Tryz.f83, Ex.d_eq]
  simp [h1]
 by_cases h2 : w = 2
 ·refine af_of Tryz.func83 rfl (by kernel_rfl) (by simp [Tryz.ntmps83]) fun _ => ?_; simp [Tryz.f83, Ex.d_eq]
  simp [h2]
 ·refine af_of Tryz.func83 rfl (by kernel_rfl) (by simp [Tryz.ntmps83]) fun _ => ?_; simp [Tryz.f83, Ex.d_eq]
  simp [h1, h2]
def evX (val : Int → Int) (L : Int → Int → Int × Int) : Ex → Int × Int
 | .mk op n v _ [] => if op = 1 then (n, 0) else (val v, 0)
 | .mk op _ _ w [a] => if (evX val L a).2 ≠ 0 then (0, (evX val L a).2) else
   if op = 16 then (appI 12 (evX val L a).1 0, 0) else if op = 17 then (IntKind.u32.wrap (-(evX val L a).1), 0) else if op = 18 then L (evX val L a).1 w else (exI (evX val L a).1 w, 0)
 | .mk op _ _ _ [a, b] => if (evX val L a).2 ≠ 0 then (0, (evX val L a).2) else if (evX val L b).2 ≠ 0 then (0, (evX val L b).2) else (appI op.toNat (evX val L a).1 (evX val L b).1, 0)
 | _ => (0, 0)
theorem appI_r32 {op : Nat} {x y : Int} (hx : R32 x) : R32 (appI op x y) := by
 unfold appI
 rw [List.getD_eq_getElem?_getD]
 cases h : (appL x y)[op - 3]? with
 | none => exact r32_0
 | some v =>
   have hm := gMO h
   have hb : ∀ c : Prop, ∀ [Decidable c], R32 (if c then 1 else 0) ∧ R32 (if c then 0 else 1) := fun c _ => by
    unfold R32
    constructor <;> split <;> omega
   have hs : R32 (shrI .u32 x (shI y)) := by
    unfold shrI
    have h1 := hx.1
    have h2 := hx.2
    have hp : (0 : Int) < 2 ^ (min (shI y).toNat IntKind.u32.bits) := Int.pow_pos (by omega)
    rw [Int.fdiv_eq_ediv_of_nonneg _ (Int.le_of_lt hp)]
    refine ⟨Int.ediv_nonneg h1 (Int.le_of_lt hp), ?_⟩
    have := Int.ediv_le_self (a := x) (2 ^ (min (shI y).toNat IntKind.u32.bits)) h1
    omega
   simp only [appL, List.mem_cons, List.not_mem_nil, or_false] at hm
   rcases hm with rfl | rfl | rfl | rfl | rfl | rfl | rfl | rfl | rfl | rfl | rfl | rfl | rfl
   all_goals first | exact r32_wrap _ | exact hs | exact (hb _).1 | exact (hb _).2
theorem exI_r32 {n w : Int} (h : R32 n) : R32 (exI n w) := by
 unfold exI
 split
 ·exact r32_wrap _
 split
 ·exact r32_wrap _
 ·exact h
theorem evX_r32 {val : Int → Int} {L : Int → Int → Int × Int} (hv : ∀ v, R32 (val v)) (hL : ∀ a w, R32 a → R32 (L a w).1) : ∀ e : Ex, OkN e → R32 (evX val L e).1 := by
 intro e
 induction e using Ex.ind with
 | h e ih =>
 intro hn
 obtain ⟨op, n, v, w, l⟩ := e
 match l, ih, hn with
 | [], _, hn =>
   simp only [evX]
   split
   ·exact hn.n
   ·exact hv v
 | [a], ih, hn =>
   have ra := ih a (by simp) (hn.l a (by simp))
   simp only [evX]
   split
   ·exact r32_0
   split
   ·dsimp only; exact appI_r32 ra
   split
   ·exact r32_wrap _
   split
   ·exact hL _ _ ra
   ·dsimp only; exact exI_r32 ra
 | [a, b], ih, hn =>
   have ra := ih a (by simp) (hn.l a (by simp))
   simp only [evX]
   split
   ·exact r32_0
   split
   ·exact r32_0
   ·dsimp only; exact appI_r32 ra
 | _ :: _ :: _ :: _, _, _ => exact r32_0
section
variable {B : AHeap} {vf mp : AV} {f : Nat} {fs : List AV} {val : Int → Int} {L : Int → Int → Int × Int}
 (hok : okF Tryz.prog f = true)
 (hvr : ∀ v, R32 (val v)) (hLr : ∀ a w, R32 a → R32 (L a w).1)
 (hv : ∀ v M, 0 ≤ v → v < 65536 → AC Tryz.prog f (fs ++ [aI .i64 v]) (B ++ M) (Same0 (B ++ M) (aI .u32 (val v))))
 (hL : ∀ a w M, R32 a → AC Tryz.prog 82 [mp, aI .u32 a, aI .i64 w] (B ++ M) (Same0 (B ++ M) (.tup [aI .u32 (L a w).1, aI .i64 (L a w).2])))
abbrev exB (e : Ex) : Blk := ⟨0, true, 37, 5, [[aI .i64 e.op, aI .u32 e.n, aI .i64 e.v, aI .i64 e.wd, .d (.sl 5 (Ex.ds e.l))]]⟩
include hok hvr hLr hv hL
set_option maxRecDepth 100000 in
theorem ieval_ac : ∀ (e : Ex), OkN e → formB e = true → ∀ M, AC Tryz.prog 61 [exA e, .fn f fs [], mp] (B ++ M) (Same0 (B ++ M) (.tup [aI .u32 (evX val L e).1, aI .i64 (evX val L e).2])) := by
 intro e
 induction e using Ex.ind with
 | h e ih =>
 intro hn hf M
 obtain ⟨C, hC⟩ : ∃ C, B ++ M = C := ⟨_, rfl⟩
 have hvC : ∀ v N, 0 ≤ v → v < 65536 → AC Tryz.prog f (fs ++ [aI .i64 v]) (C ++ N) (Same0 (C ++ N) (aI .u32 (val v))) := fun v N h1 h2 => by
  rw [← hC, List.append_assoc]; exact hv v _ h1 h2
 have hLC : ∀ a w N, R32 a → AC Tryz.prog 82 [mp, aI .u32 a, aI .i64 w] (C ++ N) (Same0 (C ++ N) (.tup [aI .u32 (L a w).1, aI .i64 (L a w).2])) := fun a w N h => by
  rw [← hC, List.append_assoc]; exact hL a w _ h
 have ihC : ∀ x ∈ e.l, OkN x → formB x = true → ∀ N, AC Tryz.prog 61 [exA x, .fn f fs [], mp] (C ++ N) (Same0 (C ++ N) (.tup [aI .u32 (evX val L x).1, aI .i64 (evX val L x).2])) := fun x hx h1 h2 N => by
  rw [← hC, List.append_assoc]; exact ih x hx h1 h2 _
 rw [hC]
 have hop := form_op hf
 have hr := fun x hx => evX_r32 hvr hLr x (hn.l x hx)
 clear ih hv hL
 refine ac_of Tryz.func61 rfl (by kernel_rfl) (by simp [Tryz.ntmps61]) fun hb => ?_
 clear hb
 by_cases h1 : e.op = 1
 ·obtain ⟨n, rfl⟩ : ∃ n, e = eCon n := ⟨_, form_con hf h1⟩
  simp [Tryz.f61, lap, las, lap0, las0]
  refine aLoop_iter 1 ?_; simp [Ex.d_eq]
  simp [Same0, evX, eCon]
 by_cases h2 : e.op = 2
 ·obtain ⟨v, rfl, hv1, hv2⟩ : ∃ v, e = eVar v ∧ 0 ≤ v ∧ v < 65536 := ⟨_, form_var hf h2⟩
  simp [Tryz.f61, lap, las, lap0, las0]
  refine aLoop_iter 1 ?_; simp [Ex.d_eq]
  refine aCall_ofc (by simpa using hvC v _ hv1 hv2) hok ?_
  rintro _ _ ⟨rfl, N, rfl⟩
  simp [Same0, evX, eVar]
 by_cases h15 : e.op ≤ 15
 ·obtain ⟨op, ho⟩ : ∃ op : Nat, e.op = op := ⟨e.op.toNat, by omega⟩
  obtain ⟨a, b, he, ha, hb⟩ := form_two hf (by omega) h15
  rw [ho] at h1 h2 h15 he
  subst he
  have ia := ihC a (by simp) (hn.l a (by simp)) ha
  have ib := ihC b (by simp) (hn.l b (by simp)) hb
  have hev : evX val L (eTwo op a b) = if (evX val L a).2 ≠ 0 then (0, (evX val L a).2) else if (evX val L b).2 ≠ 0 then (0, (evX val L b).2) else (appI op (evX val L a).1 (evX val L b).1, 0) := by
   simp [eTwo, evX]
  rw [hev]
  clear hev ihC hr hn hf
  have c1 : ¬ (op : Int) = 1 := by omega
  have c2 : ¬ (op : Int) = 2 := by omega
  have c16 : ¬ (op : Int) = 16 := by omega
  have c17 : ¬ (op : Int) = 17 := by omega
  have c18 : ¬ (op : Int) = 18 := by omega
  have c19 : ¬ (op : Int) = 19 := by omega
  generalize hea : evX val L a = ea at *
  generalize heb : evX val L b = eb at *
  obtain ⟨va, fa⟩ := ea
  obtain ⟨vb, fb⟩ := eb
  simp [Tryz.f61, lap, las, lap0, las0]
  refine aLoop_iter 3 ?_; simp [Ex.d_eq]
  refine aCall_ofc (by simpa using ia _) (by kernel_rfl) ?_
  rintro _ _ ⟨rfl, N, rfl⟩
  simp [Ex.d_eq, lap, las, lap0, las0]
  by_cases z1 : fa = 0
  case neg => simp [z1, Same0]
  simp [z1, Ex.d_eq, lap, las, lap0, las0]
  refine aCall_ofc (by simpa using ib _) (by kernel_rfl) ?_
  rintro _ _ ⟨rfl, N2, rfl⟩
  simp [Ex.d_eq, lap, las, lap0, las0]
  by_cases z2 : fb = 0
  case neg => simp [z2, Same0]
  simp [z2, Ex.d_eq, lap, las, lap0, las0, c1, c2, c16, c17, c18, c19]
  refine aCall_of (bapply_af op va vb ⟨by omega, by omega⟩) (by kernel_rfl) (by simp) ?_
  simp [Same0]
 obtain ⟨op, ho⟩ : ∃ op : Nat, e.op = op := ⟨e.op.toNat, by omega⟩
 have hone : ∃ a w, e = .mk op 0 0 w [a] ∧ formB a = true ∧ (op = 18 → w = 1 ∨ w = 2 ∨ w = 4) := by
  rcases (show e.op = 16 ∨ e.op = 17 ∨ e.op = 18 ∨ e.op = 19 by omega) with h | h | h | h
  ·obtain ⟨a, he, ha⟩ := form_one hf (.inl h); rw [ho] at he; exact ⟨a, 0, he, ha, by omega⟩
  ·obtain ⟨a, he, ha⟩ := form_one hf (.inr h); rw [ho] at he; exact ⟨a, 0, he, ha, by omega⟩
  ·obtain ⟨a, he, ha, hw⟩ := form_wide hf (.inl h); rw [ho] at he; exact ⟨a, _, he, ha, by omega⟩
  ·obtain ⟨a, he, ha, hw⟩ := form_wide hf (.inr h); rw [ho] at he; exact ⟨a, _, he, ha, by omega⟩
 rw [ho] at h1 h2 h15 hop
 obtain ⟨a, w, rfl, ha, hw⟩ := hone
 have ia := ihC a (by simp) (hn.l a (by simp)) ha
 have ra := hr a (by simp)
 have c1 : ¬ (op : Int) = 1 := by omega
 have c2 : ¬ (op : Int) = 2 := by omega
 have hev : evX val L (.mk op 0 0 w [a]) = if (evX val L a).2 ≠ 0 then (0, (evX val L a).2) else
  if (op : Int) = 16 then (appI 12 (evX val L a).1 0, 0) else if (op : Int) = 17 then (IntKind.u32.wrap (-(evX val L a).1), 0) else if (op : Int) = 18 then L (evX val L a).1 w else (exI (evX val L a).1 w, 0) := by
  simp [evX]
 rw [hev]
 clear hev ihC hr hn hf
 generalize hea : evX val L a = ea at *
 obtain ⟨va, fa⟩ := ea
 simp [Tryz.f61, lap, las, lap0, las0]
 refine aLoop_iter 2 ?_; simp [Ex.d_eq]
 refine aCall_ofc (by simpa using ia _) (by kernel_rfl) ?_
 rintro _ _ ⟨rfl, N, rfl⟩
 simp [Ex.d_eq, lap, las, lap0, las0]
 by_cases z1 : fa = 0
 case neg => simp [z1, Same0]
 by_cases c16 : (op : Int) = 16
 ·simp [z1, Ex.d_eq, lap, las, lap0, las0, c16]
  refine aCall_of (bapply_af 12 va 0 ⟨by omega, by omega⟩) (by kernel_rfl) (by simp) ?_
  simp [Same0]
 by_cases c17 : (op : Int) = 17
 ·simp [z1, Ex.d_eq, lap, las, lap0, las0, c17, Same0]
 by_cases c18 : (op : Int) = 18
 ·simp [z1, Ex.d_eq, lap, las, lap0, las0, c18]
  refine aCall_ofc (by simpa using hLC va w _ ra) (by kernel_rfl) ?_
  rintro _ _ ⟨rfl, N2, rfl⟩
  simp [Same0]
 ·have c19 : (op : Int) = 19 := by omega
  simp [z1, Ex.d_eq, lap, las, lap0, las0, c19]
  refine aCall_of (bextendI_af va w) (by kernel_rfl) (by simp) ?_
  simp [Same0]
end
mutual
theorem cln_mono {m m' : Nat} (hm : m ≤ m') : ∀ c : AV, cln m c = c → cln m' c = c
 | .any, _ => rfl
 | .d _, _ => rfl
 | .ip _, _ => rfl
 | .own b ver i len, h => by
   simp only [cln] at h ⊢
   split at h
   ·rw [if_pos (by omega)]
   ·cases h
 | .ptr b ver i o, h => by
   simp only [cln] at h ⊢
   split at h
   ·rw [if_pos (by omega)]
   ·cases h
 | .mp b ver, h => by
   simp only [cln] at h ⊢
   split at h
   ·rw [if_pos (by omega)]
   ·cases h
 | .agg cs, h => by
   simp only [cln, AV.agg.injEq] at h ⊢
   exact clnL_mono hm cs h
 | .tup cs, h => by
   simp only [cln, AV.tup.injEq] at h ⊢
   exact clnL_mono hm cs h
 | .fn f fs cs, h => by
   simp only [cln, AV.fn.injEq, true_and] at h ⊢
   exact ⟨clnL_mono hm fs h.1, clnL_mono hm cs h.2⟩
 | .ifc t c, h => by
   simp only [cln, AV.ifc.injEq, true_and] at h ⊢
   exact cln_mono hm c h
theorem clnL_mono {m m' : Nat} (hm : m ≤ m') : ∀ cs : List AV, cln.clnL m cs = cs → cln.clnL m' cs = cs
 | [], _ => rfl
 | c :: cs, h => by
   simp only [cln.clnL, List.cons.injEq] at h ⊢
   exact ⟨cln_mono hm c h.1, clnL_mono hm cs h.2⟩
end
theorem map_fix {α : Type} {f : α → α} : ∀ {l : List α}, l.map f = l ↔ ∀ x ∈ l, f x = x
 | [] => by simp
 | a :: l => by simp [map_fix (l := l)]
theorem clnB_iff {m : Nat} {b : Blk} : clnB m b = b ↔ ∀ x ∈ b.els, ∀ c ∈ x, cln m c = c := by
 obtain ⟨v, w, t, s, els⟩ := b
 simp only [clnB, clnE, Blk.mk.injEq, true_and, map_fix]
theorem clnB_mono {m m' : Nat} (hm : m ≤ m') {b : Blk} (h : clnB m b = b) : clnB m' b = b :=
 clnB_iff.2 fun x hx c hc => cln_mono hm c (clnB_iff.1 h x hx c hc)
def ClH (H : AHeap) : Prop := ∀ b ∈ H, clnB H.length b = b
theorem ClH.fix {H : AHeap} (h : ClH H) : H.map (clnB H.length) = H := map_fix.2 h
theorem ClH.app {H N : AHeap} (h : ClH H) (hn : ∀ b ∈ N, clnB (H.length + N.length) b = b) : ClH (H ++ N) := by
 intro b hb
 rw [List.length_append]
 rcases List.mem_append.1 hb with h1 | h1
 ·exact clnB_mono (by omega) (h b h1)
 ·exact hn b h1
theorem ClH.set {H : AHeap} (h : ClH H) {i : Nat} {k : Blk} (hk : clnB H.length k = k) : ClH (H.set i k) := by
 intro b hb
 rw [List.length_set]
 rcases List.mem_or_eq_of_mem_set hb with h1 | rfl
 ·exact h b h1
 ·exact hk
theorem AC.exact {f : FuncId} {args : List AV} {H H' : AHeap} {r : AV} (hc : ClH H') (hl : H'.length = H.length) (hr : cln H.length r = r) (h : AC Tryz.prog f args H (Same0 H' r)) : AC Tryz.prog f args H (AtH H' r) :=
 h.sub fun r' A' ⟨hr', N, hA⟩ => by
  subst hr' hA
  refine ⟨_, _, Sub.take H.length (Nat.le_refl _), hr, ?_⟩
  have : List.take H.length (H' ++ N) = H' := by rw [← hl, List.take_left]
  rw [this, ← hl]
  exact hc.fix.symm
def u32d (l : List Int) : List (List D) := l.map fun n => [.v (.int .u32 n)]
@[simp] theorem u32d_len (l : List Int) : (u32d l).length = l.length := by simp [u32d]
@[simp] theorem u32d_at (l : List Int) (i : Nat) (h : i < (u32d l).length) : (u32d l)[i] = [.v (.int .u32 (l[i]'(by simpa using h)))] := by simp [u32d]
structure FR where
 g : Nat
 b : Nat
 s : Nat
 m : Nat
 t : List (Int × Int)
structure RSt where
 c : Nat → Int
 fs : List FR
 W : List (Int × Int)
 inp : List Int
 out : List Int
 tr : List Int
 n : Nat
 st : Bool
structure PosR where
 w : Nat
 m : Nat
 a : Nat
 r : Nat
 o : Nat
 t : Nat
 f : Nat
structure VerR where
 f : Nat
 o : Nat
 t : Nat
section
variable {gs : List Gr} {ats : List (Int × Int)} {R : List Reg} {B0 : AHeap} {p : PosR} {v : VerR} {σ : RSt} {H : AHeap}
end
section
variable {gs : List Gr} {ats : List (Int × Int)} {R : List Reg} {B0 : AHeap} {p : PosR} {v : VerR} {σ : RSt} {H : AHeap}
end
section
variable {gs : List Gr} {ats : List (Int × Int)} {R : List Reg} {B0 : AHeap} {p : PosR} {v : VerR} {σ : RSt} {H : AHeap}
end
section
variable {gs : List Gr} {ats : List (Int × Int)} {R : List Reg} {B0 : AHeap} {p : PosR} {v : VerR} {σ : RSt} {H : AHeap}
abbrev stBk (s : St) : Blk := ⟨0, true, 40, 8, [[aI .i64 s.op, aI .i64 s.va, aI .i64 s.wd, aI .i64 s.nx, aI .i64 s.el, aI .u32 s.tg, .d (.sl 5 (Ex.ds s.e)), .d (.sl 1 (i64s s.cs))]]⟩
theorem cln_stBk (m : Nat) (s : St) : clnB m (stBk s) = stBk s := by simp [clnB, clnE, cln]
end
section
variable {gs : List Gr} {ats : List (Int × Int)} {R : List Reg} {B0 : AHeap} {p : PosR} {v : VerR} {σ : RSt} {H : AHeap}
end
def exAt (s : St) (i : Nat) : Ex := s.e.getD i (eCon 0)
section
variable {gs : List Gr} {ats : List (Int × Int)} {R : List Reg} {B0 : AHeap} {p : PosR} {v : VerR} {σ : RSt} {H : AHeap}
end
end Go.Proofs.YtinkdalcmnnocaaGreat
