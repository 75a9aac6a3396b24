import Derived.Test.YtinkdalcmnnocaaGreatAB
import Derived.Test.YtinkdalcmnnocaaGreatAs
import Derived.Test.YtinkdalcmnnocaaGreatBa
import Derived.Test.YtinkdalcmnnocaaGreatAt
import Derived.Laws.IdiomStrings
import Derived.Test.YtinkdalcmnnocaaGreatAF
import Derived.Test.YtinkdalcmnnocaaGreatAm
import Derived.Test.YtinkdalcmnnocaaGreatAp
set_option linter.all false
set_option linter.all false
namespace Go.Proofs.YtinkdalcmnnocaaGreat
open Go.RowKit
def m2R (k1 k2 : IntKind) (L : List (Int × Int × Int)) : List (List AV) := L.map fun p => [.d (.v (.int .i64 p.1)), .d (.v (.int k1 p.2.1)), .d (.v (.int k2 p.2.2))]
def m2W (ver : Nat) (k1 k2 : IntKind) (L : List (Int × Int × Int)) : Blk := ⟨ver, true, 1000002, 3, m2R k1 k2 L⟩
abbrev m2B (k1 k2 : IntKind) (L : List (Int × Int × Int)) : Blk := m2W 0 k1 k2 L
def lk2 (x : Int) : List (Int × Int × Int) → Option (Int × Int)
 | [] => none
 | p :: l => if p.1 = x then some p.2 else lk2 x l
def ix2 (x : Int) : List (Int × Int × Int) → Nat
 | [] => 0
 | p :: l => if p.1 = x then 0 else ix2 x l + 1
def up2 (x : Int) (v : Int × Int) : List (Int × Int × Int) → List (Int × Int × Int)
 | [] => [(x, v)]
 | p :: l => if p.1 = x then (x, v) :: l else p :: up2 x v l
theorem find_m2 (k1 k2 : IntKind) (x : Int) : ∀ (L : List (Int × Int × Int)) (i : Nat), findA (.int .i64) (.int .i64 x) (m2R k1 k2 L) i = some ((lk2 x L).map fun v => (i + ix2 x L, [AV.d (.v (.int k1 v.1)), AV.d (.v (.int k2 v.2))]))
 | [], i => by simp [m2R, findA, lk2]
 | p :: l, i => by
   have ih := find_m2 k1 k2 x l (i + 1)
   simp only [m2R] at ih
   simp only [m2R, List.map_cons, findA, Instr.sameNow]
   by_cases h : p.1 = x
   ·have h2 : (x == p.1) = true := by simp [h]
    simp [h, h2, lk2, ix2]
   ·have h2 : (x == p.1) = false := by simp; omega
    simp [h, h2, lk2, ix2, ih]
    cases lk2 x l
    ·simp
    ·simp; omega
theorem up2_set (k1 k2 : IntKind) (x : Int) (v : Int × Int) : ∀ (L : List (Int × Int × Int)), (lk2 x L ≠ none → (m2R k1 k2 L).set (ix2 x L) [.d (.v (.int .i64 x)), .d (.v (.int k1 v.1)), .d (.v (.int k2 v.2))] = m2R k1 k2 (up2 x v L)) ∧ (lk2 x L = none → m2R k1 k2 L ++ [[.d (.v (.int .i64 x)), .d (.v (.int k1 v.1)), .d (.v (.int k2 v.2))]] = m2R k1 k2 (up2 x v L))
 | [] => by simp [lk2, m2R, up2]
 | p :: l => by
   obtain ⟨h1, h2⟩ := up2_set k1 k2 x v l
   simp only [m2R] at h1 h2
   by_cases h : p.1 = x
   ·simp [lk2, ix2, up2, h, m2R]
   ·simp [lk2, ix2, up2, h, m2R]
    exact ⟨by simpa using h1, by simpa using h2⟩
theorem lk2_up (x : Int) (v : Int × Int) (y : Int) : ∀ (L : List (Int × Int × Int)), lk2 y (up2 x v L) = if x = y then some v else lk2 y L
 | [] => by simp [up2, lk2]
 | p :: l => by
   have ih := lk2_up x v y l
   by_cases h : p.1 = x
   ·subst h
    simp [up2, lk2]
    split <;> rfl
   ·simp [up2, lk2, h, ih]
    by_cases hp : p.1 = y
    ·have : ¬ x = y := by omega
     simp [hp, this]
    ·simp [hp]
section
variable {P : Program} {A : AHeap} {b ver : Nat} {k1 k2 : IntKind} {L : List (Int × Int × Int)} {t kt et : TypeId}
theorem upd_m2 (hu : P.underlying t = some (.map kt et)) (hk : P.underlying kt = some (.int .i64)) (hb : A[b]? = some (m2W ver k1 k2 L)) (x y z : Int) :
 updA P t A (.mp b ver) (.d (.v (.int .i64 x))) (.agg [.d (.v (.int k1 y)), .d (.v (.int k2 z))]) = some (A.set b (m2W ver k1 k2 (up2 x (y, z) L))) := by
 have hf := find_m2 k1 k2 x L 0
 obtain ⟨h1, h2⟩ := up2_set k1 k2 x (y, z) L
 unfold updA
 rw [hu]
 simp only [hk]
 rw [hb]
 cases hl : lk2 x L with
 | none =>
   rw [hl] at hf
   simp [plainK, cellsA, isAgg, Value.oneCell', hf, m2W, setEls, h2 hl]
 | some w =>
   rw [hl] at hf
   have := h1 (by rw [hl]; simp)
   simp at hf
   simp [plainK, cellsA, isAgg, Value.oneCell', hf, m2W, setEls, this]
theorem look_m2 (hu : P.underlying t = some (.map kt et)) (hk : P.underlying kt = some (.int .i64)) (hz : zv P et = some (.agg #[.int k1 0, .int k2 0])) (hb : A[b]? = some (m2W ver k1 k2 L)) (x : Int) (ok : Bool) :
 lookupA P t A ok (.mp b ver) (.d (.v (.int .i64 x))) = some (okM ok (.agg [.d (.v (.int k1 ((lk2 x L).getD (0, 0)).1)), .d (.v (.int k2 ((lk2 x L).getD (0, 0)).2))]) (lk2 x L).isSome) := by
 have hf := find_m2 k1 k2 x L 0
 unfold lookupA
 rw [hu]
 simp only [hk]
 rw [hb]
 cases hl : lk2 x L with
 | none =>
   rw [hl] at hf
   simp at hf
   simp [plainK, hf, m2W, zeroM, hz, okM, Value.oneCell']
 | some w =>
   rw [hl] at hf
   simp at hf
   simp [plainK, hf, m2W, valM, okM]
theorem cln_m2B (m ver : Nat) (k1 k2 : IntKind) (L : List (Int × Int × Int)) : clnB m (m2W ver k1 k2 L) = m2W ver k1 k2 L := by
 unfold clnB m2W m2R clnE
 simp
end
end Go.Proofs.YtinkdalcmnnocaaGreat
set_option linter.all false
namespace Go.Proofs.YtinkdalcmnnocaaGreat
open Go.RowKit
section
variable {P : Program} {n : Nat}
end
end Go.Proofs.YtinkdalcmnnocaaGreat
set_option linter.all false
namespace Go.Proofs.YtinkdalcmnnocaaGreat
open Go.RowKit
section
variable {P : Program} {H : Nat → Prop} {ι ι' : Place} {A A' : AHeap} {w w' : World} {e : AEnv} {ec : Env} {C : Ctx} {n : Nat} {K : AKont}
end
def rsh (m : Nat) : AV → AV
 | .own b ver i len => if b = m then .any else .own b ver i len
 | .ptr b ver i o => if b = m ∧ i ≠ 0 then .any else .ptr b ver i o
 | .agg cs => .agg (rshL m cs)
 | .tup cs => .tup (rshL m cs)
 | .fn f fs cs => .fn f (rshL m fs) (rshL m cs)
 | .mp b ver => .mp b ver
 | .ifc t c => .ifc t (rsh m c)
 | .any => .any
 | .d x => .d x
 | .ip cs => .ip cs
where rshL (m : Nat) : List AV → List AV
 | [] => []
 | c :: cs => rsh m c :: rshL m cs
def rshB (m : Nat) (k : Blk) : Blk := ⟨k.ver, k.wr, k.ty, k.sz, k.els.map fun x => x.map (rsh m)⟩
attribute [simp] rsh rsh.rshL rshB
section
variable {P : Program} {H : Nat → Prop} {ι ι' : Place} {A A' : AHeap} {w w' : World} {e : AEnv} {ec : Env} {C : Ctx} {n : Nat} {K : AKont}
end
end Go.Proofs.YtinkdalcmnnocaaGreat
set_option linter.all false
namespace Go.Proofs.YtinkdalcmnnocaaGreat
open Go.RowKit
def mpR (kk kv : IntKind) (L : List (Int × Int)) : List (List AV) := L.map fun p => [.d (.v (.int kk p.1)), .d (.v (.int kv p.2))]
def mpB (kk kv : IntKind) (L : List (Int × Int)) : Blk := ⟨0, true, 1000001, 2, mpR kk kv L⟩
def lkL (x : Int) : List (Int × Int) → Option Int
 | [] => none
 | p :: l => if p.1 = x then some p.2 else lkL x l
def ixL (x : Int) : List (Int × Int) → Nat
 | [] => 0
 | p :: l => if p.1 = x then 0 else ixL x l + 1
def upL (x v : Int) : List (Int × Int) → List (Int × Int)
 | [] => [(x, v)]
 | p :: l => if p.1 = x then (x, v) :: l else p :: upL x v l
theorem find_mp (kk kv : IntKind) (x : Int) : ∀ (L : List (Int × Int)) (i : Nat), findA (.int kk) (.int kk x) (mpR kk kv L) i = some ((lkL x L).map fun v => (i + ixL x L, [AV.d (.v (.int kv v))]))
 | [], i => by simp [mpR, findA, lkL]
 | p :: l, i => by
   have ih := find_mp kk kv x l (i + 1)
   simp only [mpR] at ih
   simp only [mpR, List.map_cons, findA, Instr.sameNow]
   by_cases h : p.1 = x
   ·have h2 : (x == p.1) = true := by simp [h]
    simp [h, h2, lkL, ixL]
   ·have h2 : (x == p.1) = false := by simp; omega
    simp [h, h2, lkL, ixL, ih]
    cases lkL x l
    ·simp
    ·simp; omega
theorem up_set (kk kv : IntKind) (x v : Int) : ∀ (L : List (Int × Int)), (lkL x L ≠ none → (mpR kk kv L).set (ixL x L) [.d (.v (.int kk x)), .d (.v (.int kv v))] = mpR kk kv (upL x v L)) ∧ (lkL x L = none → mpR kk kv L ++ [[.d (.v (.int kk x)), .d (.v (.int kv v))]] = mpR kk kv (upL x v L))
 | [] => by simp [lkL, mpR, upL]
 | p :: l => by
   obtain ⟨h1, h2⟩ := up_set kk kv x v l
   simp only [mpR] at h1 h2
   by_cases h : p.1 = x
   ·simp [lkL, ixL, upL, h, mpR]
   ·simp [lkL, ixL, upL, h, mpR]
    exact ⟨by simpa using h1, by simpa using h2⟩
section
variable {P : Program} {A : AHeap} {b : Nat} {kk kv : IntKind} {L : List (Int × Int)} {t kt et : TypeId}
theorem upd_mp (hu : P.underlying t = some (.map kt et)) (hk : P.underlying kt = some (.int kk)) (hb : A[b]? = some (mpB kk kv L)) (x v : Int) :
 updA P t A (.mp b 0) (.d (.v (.int kk x))) (.d (.v (.int kv v))) = some (A.set b (mpB kk kv (upL x v L))) := by
 have hf := find_mp kk kv x L 0
 obtain ⟨h1, h2⟩ := up_set kk kv x v L
 unfold updA
 rw [hu]
 simp only [hk]
 rw [hb]
 cases hl : lkL x L with
 | none =>
   rw [hl] at hf
   simp [plainK, cellsA, isAgg, Value.oneCell', hf, mpB, setEls, h2 hl]
 | some w =>
   rw [hl] at hf
   have := h1 (by rw [hl]; simp)
   simp at hf
   simp [plainK, cellsA, isAgg, Value.oneCell', hf, mpB, setEls, this]
theorem look_mp (hu : P.underlying t = some (.map kt et)) (hk : P.underlying kt = some (.int kk)) (hz : zv P et = some (.int kv 0)) (hb : A[b]? = some (mpB kk kv L)) (x : Int) (ok : Bool) :
 lookupA P t A ok (.mp b 0) (.d (.v (.int kk x))) = some (okM ok (.d (.v (.int kv ((lkL x L).getD 0)))) (lkL x L).isSome) := by
 have hf := find_mp kk kv x L 0
 unfold lookupA
 rw [hu]
 simp only [hk]
 rw [hb]
 cases hl : lkL x L with
 | none =>
   rw [hl] at hf
   simp at hf
   simp [plainK, hf, mpB, zeroM, hz, okM, Value.oneCell']
 | some w =>
   rw [hl] at hf
   simp at hf
   simp [plainK, hf, mpB, valM, okM]
theorem cln_mpB (m : Nat) (kk kv : IntKind) (L : List (Int × Int)) : clnB m (mpB kk kv L) = mpB kk kv L := by
 unfold clnB mpB mpR clnE
 simp
end
section
variable {P : Program} {K : AKont} {e : AEnv} {A : AHeap} {d : Option Nat}
theorem AC.frz (B : List Nat) {f : FuncId} {args : List AV} {R : AV → AHeap → Prop} (h : AC P f args (frz B A) R) : AC P f args A R := by
 intro H ι w vs hH hR h1 h2
 have hl := h1.len
 obtain ⟨_, ι', g1, g2, g3, g4⟩ := Sub.frz (n := A.length) B (e := fun i => args.getD i .any) (A := A) ⟨H, ι, A, w⟩ (fun i => vs.getD i default) w rfl ⟨hH, ι, hR, Step.refl _ _ _, fun i => by
  rcases Nat.lt_or_ge i args.length with hi | hi
  ·obtain ⟨u, hu, hs⟩ := h1.get (gEG hi)
   simp only [List.getD, gEG hi, hu, Option.getD_some]
   exact hs
  ·simp only [List.getD, List.getElem?_eq_none hi, Option.getD_none]
   simp [Shp], fun i => by
  rcases Nat.lt_or_ge i args.length with hi | hi
  ·obtain ⟨u, hu, hs⟩ := h1.get (gEG hi)
   simp only [List.getD, gEG hi, hu, Option.getD_some]
   exact h2.get (gEG hi) hu
  ·simp only [List.getD, List.getElem?_eq_none hi, Option.getD_none]
   simp [Mem]⟩
 refine (h H ι' w vs (hH.step g2) g1 (ShpL.of hl fun i c u hc hu => ?_) (MemL.of hl fun i c u hc hu => ?_)).mono ?_
 ·have := g3 i
  simpa [List.getD, hc, hu] using this
 ·have := g4 i
  simpa [List.getD, hc, hu] using this
 ·rintro en w' ⟨v, r, ι'', A'', a, b, c1, c2, c3⟩
  exact ⟨v, r, ι'', A'', a, b, c1, g2.trans c2, c3⟩
theorem aCall_ofz (B : List Nat) {g : FuncId} {fs args cs args' : List AV} {r : AV} (h : AF P g args' r) (hok : okF P g = true) (hr : argO (omap (reiV true (frz B A) 9) (fs ++ args ++ cs)) args') (hk : K (aupd e d r) (frz B A)) : aCall P (.fn g fs cs) args A d e K :=
 ⟨g, fs, cs, rfl, hok, AC.frz B ((h.ac hr).mono fun r' A' ⟨e1, e2⟩ => by subst e1 e2; exact hk)⟩
end
end Go.Proofs.YtinkdalcmnnocaaGreat
set_option linter.all false
namespace Go.Proofs.YtinkdalcmnnocaaGreat
open Go.RowKit
def avopG (P : Program) (n : Nat) (o : Oper) (K : AKont) (e : AEnv) (A : AHeap) : Prop := ∀ (C : Ctx) (ec : Env) (w : World), C.A.length = n → Sta C e A ec w → vop P o (Lift C K) ec w
theorem avopG_of {P : Program} {n : Nat} {o : Oper} {K : AKont} {e : AEnv} {A : AHeap} (h : avop P n o K e A) : avopG P n o K e A := fun _ _ _ hn hS => avop_sound hn hS h
theorem avopG_live {P : Program} {n : Nat} {o : Oper} {K : AKont} {e : AEnv} {A : AHeap} (r : Nat) {v : AV} {k k0 : Blk} (hl : liveX P e r o.op = some (v, k)) (h0 : A[r]? = some k0) (hv : k0.ver = 0) (hk : K (aupd e o.dst v) (A.set r k)) : avopG P n o K e A :=
 fun _ _ _ hn hS => live_at hl h0 hv hk hn hS
def stG (P : Program) (n : Nat) (T : List (Nat × AHeap)) (e1 : AEnv) (i : Nat) (o : Oper) (m : Nat) (A : AHeap) : Prop :=
 ∀ (e : AEnv) (K : AKont), (∀ x ∈ o.op.operands, eva e x = eva e1 x) → ∀ A3, (if still o.op = true then some A else heapM T (m ||| 2 ^ i)) = some A3 → K (aupd e o.dst (dvA e1 o.dst)) A3 → avopG P n o K e A
def rowsG (P : Program) (n : Nat) (ops : List Oper) (T : List (Nat × AHeap)) (e1 : AEnv) : Nat → List Oper → Prop
 | _, [] => True
 | i, o :: os => (∀ t ∈ T, mayP ops (masks [] ops) t.1 i = true → stG P n T e1 i o t.1 t.2) ∧ rowsG P n ops T e1 (i + 1) os
theorem rowsG_get {P : Program} {n : Nat} {ops : List Oper} {T : List (Nat × AHeap)} {e1 : AEnv} : ∀ (l : List Oper) (k : Nat), rowsG P n ops T e1 k l → ∀ (i : Nat) (o : Oper), l[i]? = some o → ∀ t ∈ T, mayP ops (masks [] ops) t.1 (k + i) = true → stG P n T e1 (k + i) o t.1 t.2
 | [], k, _, i, o, h => by simp at h
 | q :: l, k, h, 0, o, ho => by
   obtain rfl : q = o := by simpa using ho
   exact h.1
 | q :: l, k, h, i + 1, o, ho => by
   have := rowsG_get l (k + 1) h.2 i o (by simpa using ho)
   rwa [show k + 1 + i = k + (i + 1) by omega] at this
section
variable {P : Program} {n : Nat} {K : AKont} {ops : List Oper}
theorem adrawG_all {e0 e1 : AEnv} {T : List (Nat × AHeap)} {A' : AHeap} (ho : ∀ t, (∀ o ∈ ops, o.dst ≠ some t) → e1 t = e0 t) (hc : combR ops (T.map (·.1)) = true) (h : rowsG P n ops T e1 0 ops) (hA : heapM T (fullP ops) = some A') (hk : K e1 A') :
 ∀ (f : Nat) (L : Array Bool) (e : AEnv) (A : AHeap), MidP ops e0 e1 T L e A → (List.range ops.length).countP (fun i => !L.getD i false) ≤ f → aAnyG P n ops K f L e A := by
 simp only [combR, Bool.and_eq_true] at hc
 obtain ⟨⟨hc1, hc2⟩, hc3⟩ := hc
 have hnoT : ∀ (i : Nat) (o : Oper), ops[i]? = some o → ¬ still o.op = true → ∀ (m : Nat) (A : AHeap), heapM T m = some A → mayP ops (masks [] ops) m i = true → heapM T (m ||| 2 ^ i) = none → False := fun i o ho hst m A hm hmay hn => by
  have h1 := List.all_eq_true.1 hc3 m (List.mem_map.2 ⟨_, heapM_mem hm, rfl⟩)
  have h2 := List.all_eq_true.1 h1 i (List.mem_range.2 (gSI.1 ho).1)
  have hch : chgP ops i = true := by simp [chgP, ho, hst]
  rw [hch, hmay] at h2
  simp only [Bool.not_true, Bool.false_or] at h2
  exact heapM_some h2 hn
 have hall : ∀ (i : Nat) (o : Oper), ops[i]? = some o → o.guard = none ∧ (o.after.toList.all fun ed => !Region.binds .any ed || decide (ed.on < i)) = true ∧ slotP (masks [] ops) ops i o = true := fun i o ho => by
  have := List.all_eq_true.1 hc1 i (List.mem_range.2 (gSI.1 ho).1)
  rw [ho] at this
  simp only [Bool.and_eq_true] at this
  refine ⟨?_, this.1.2, this.2⟩
  have hg := this.1.1
  split at hg
  ·assumption
  ·cases hg
 have hfull : ∀ t ∈ T, (∀ j, chgP ops j = true → t.1.testBit j = true) → t.1 = fullP ops := fun t ht hj => by
  have := List.all_eq_true.1 hc2 t.1 (List.mem_map.2 ⟨t, ht, rfl⟩)
  rw [beq_iff_eq] at this
  have h1 : (List.range ops.length).all (fun j => !chgP ops j || t.1.testBit j) = true := by
   rw [List.all_eq_true]
   intro j _
   cases hcj : chgP ops j with
   | false => rfl
   | true => simp [hj j hcj]
  rw [h1] at this
  simpa using this.symm
 have hslot : ∀ (i j : Nat) (oi oj : Oper) (d : Nat), ops[i]? = some oi → ops[j]? = some oj → oj.dst = some d → (i ≠ j → oi.dst ≠ some d) ∧ (d ∈ seen ops oi → j < i ∧ ((masks [] ops).getD i 0).testBit j = true) := by
  intro i j oi oj d hi hj hd
  have hs := (hall i oi hi).2.2
  simp only [slotP, List.all_eq_true, List.mem_range] at hs
  have := hs j (gSI.1 hj).1
  rw [hj] at this
  simp only [hd, Bool.or_eq_true, beq_iff_eq, Bool.and_eq_true, Bool.not_eq_true', decide_eq_true_eq] at this
  refine ⟨fun hij h0 => ?_, fun h0 => ?_⟩
  ·have := this.1.resolve_left hij
   rw [h0] at this
   simp at this
  ·rcases this.2 with h2 | h2
   ·have : (seen ops oi).contains d = true := by simpa using h0
    rw [this] at h2
    cases h2
   ·exact h2
 have hback : ∀ (i : Nat) (o : Oper), ops[i]? = some o → ∀ e ∈ o.after, Region.binds .any e = true → e.on < i := fun i o ho e he hb => by
  have := List.all_eq_true.1 (hall i o ho).2.1 e (by simpa using he)
  simpa [hb] using this
 have hsome : ∀ {L : Array Bool}, L.size = ops.length → (∃ j, j < ops.length ∧ ¬ Lst L j) → ∃ i, i ∈ Region.ready .any ops.toArray L := by
  rintro L hs ⟨j, hj, hu⟩
  induction j using Nat.strongRecOn with
  | _ j ih =>
    by_cases hb : ∃ k, k < j ∧ ¬ Lst L k
    ·obtain ⟨k, hk, hn⟩ := hb
     exact ih k hk (by omega) hn
    ·refine ⟨j, mem_ready.2 ⟨?_, ops[j], by simp [hj], fun e he hbi => ?_⟩⟩
     ·unfold Lst at hu
      simp [hs, hj] at hu ⊢
      exact hu
     ·have := hback j ops[j] (by simp [hj]) e he hbi
      exact Classical.byContradiction fun hn => hb ⟨e.on, this, hn⟩
 have hfin : ∀ {L : Array Bool} {e : AEnv} {A : AHeap}, MidP ops e0 e1 T L e A → (∀ j, j < ops.length → Lst L j) → K e A := by
  intro L e A hM hl
  have he : e = e1 := by
   funext t
   by_cases hw : ∃ (j : Nat) (o : Oper), ops[j]? = some o ∧ o.dst = some t
   ·obtain ⟨j, o, ho, hd⟩ := hw
    exact hM.val j o t (hl j (gSI.1 ho).1) ho hd
   ·rw [hM.out t fun j o _ ho hd => hw ⟨j, o, ho, hd⟩, ho t fun o hm hd => by
     obtain ⟨j, hj⟩ := List.getElem?_of_mem hm
     exact hw ⟨j, o, hj, hd⟩]
  obtain ⟨m, hp1, hp2⟩ := hM.hp
  have hm := hfull _ (heapM_mem hp1) fun j hc => (hp2 j).2 ⟨hc, hl j (chgP_lt hc)⟩
  simp only at hm
  rw [hm, hA] at hp1
  rw [he, ← oSI hp1]
  exact hk
 intro f
 induction f with
 | zero =>
   intro L e A hM hf
   have hl : ∀ j, j < ops.length → Lst L j := fun j hj => by
    have h0 : (List.range ops.length).countP (fun i => !L.getD i false) = 0 := by omega
    rw [List.countP_eq_zero] at h0
    have := h0 j (List.mem_range.2 hj)
    unfold Lst
    simpa using this
   refine ⟨?_, hfin hM hl⟩
   rw [List.eq_nil_iff_forall_not_mem]
   intro i hi
   obtain ⟨o, hn⟩ := next_of hi
   exact hn.un (hl i (gSI.1 hn.ho).1)
 | succ f ih =>
   intro L e A hM hf
   refine ⟨fun h0 => hfin hM fun j hj => Classical.byContradiction fun hn => ?_, fun i hi => ?_⟩
   ·obtain ⟨i, hi⟩ := hsome hM.sz ⟨j, hj, hn⟩
    rw [h0] at hi
    cases hi
   ·obtain ⟨o, hn⟩ := next_of hi
    have hil := (gSI.1 hn.ho).1
    refine ⟨o, hn.ho, ?_⟩
    unfold aStG
    rw [(hall i o hn.ho).1]
    have hseen : ∀ t ∈ seen ops o, e1 t = e t := fun t hsn => by
     by_cases hw : ∃ (j : Nat) (q : Oper), ops[j]? = some q ∧ q.dst = some t
     ·obtain ⟨j, q, hq, hd⟩ := hw
      obtain ⟨hlt, hsl⟩ := (hslot i j o q t hn.ho hq hd).2 hsn
      exact (hM.val j q t (mask_in hM.cl hn.ho hn.all hsl) hq hd).symm
     ·rw [hM.out t fun j o _ ho hd => hw ⟨j, o, ho, hd⟩, ho t fun o hm hd => by
       obtain ⟨j, hj⟩ := List.getElem?_of_mem hm
       exact hw ⟨j, o, hj, hd⟩]
    have hag : ∀ x ∈ o.op.operands, eva e x = eva e1 x := fun x hx => (eva_agree fun t he => hseen t (by
     simp only [seen, List.mem_append, List.mem_filterMap]
     exact .inl ⟨_, by simpa using hx, by rw [he]⟩)).symm
    have hsz : i < L.size := by rw [hM.sz]; exact hil
    obtain ⟨m, hp1, hp2⟩ := hM.hp
    have hmay : mayP ops (masks [] ops) m i = true := by
     unfold mayP
     simp only [Bool.and_eq_true, Bool.not_eq_true', List.all_eq_true, List.mem_range, Bool.or_eq_true]
     refine ⟨?_, fun j hj => ?_⟩
     ·cases hb : m.testBit i with
      | false => rfl
      | true => exact absurd ((hp2 i).1 hb).2 hn.un
     ·cases hc : chgP ops j with
      | false => exact .inl rfl
      | true =>
        refine .inr ⟨?_, ?_⟩
        ·split
         ·rename_i hb
          exact (hp2 j).2 ⟨hc, mask_in hM.cl hn.ho hn.all hb⟩
         ·rfl
        ·split
         ·rename_i hb
          have hl := ((hp2 j).1 hb).2
          have hoj : ops[j]? = some ops[j] := by simp [hj]
          cases hb2 : ((masks [] ops).getD j 0).testBit i with
          | false => rfl
          | true => exact absurd (mask_in hM.cl hoj (hM.cl j _ hoj hl) hb2) hn.un
         ·rfl
    have hstep := rowsG_get ops 0 h i o hn.ho _ (heapM_mem hp1) (by rw [Nat.zero_add]; exact hmay)
    simp only [Nat.zero_add] at hstep
    have mid : ∀ A3, (if still o.op = true then some A else heapM T (m ||| 2 ^ i)) = some A3 → MidP ops e0 e1 T (L.setIfInBounds i true) (aupd e o.dst (dvA e1 o.dst)) A3 := by
     intro A3 hA3
     refine ⟨by simp [hM.sz], ?_, ?_, ?_, ?_⟩
     ·intro j oj hj hl ed he hb
      rw [Lst_set hsz] at hl ⊢
      rcases hl with hl | rfl
      ·exact .inl (hM.cl j oj hj hl ed he hb)
      ·obtain rfl : o = oj := by rw [hn.ho] at hj; exact oSI hj
       exact .inl (hn.all ed he hb)
     ·by_cases hst : still o.op = true
      ·rw [if_pos hst] at hA3
       obtain rfl := oSI hA3
       refine ⟨m, hp1, fun j => ?_⟩
       rw [hp2 j, Lst_set hsz]
       constructor
       ·rintro ⟨a, b⟩; exact ⟨a, .inl b⟩
       ·rintro ⟨a, b | rfl⟩
        ·exact ⟨a, b⟩
        ·simp [chgP, hn.ho, hst] at a
      ·rw [if_neg hst] at hA3
       refine ⟨m ||| 2 ^ i, hA3, fun j => ?_⟩
       rw [Nat.testBit_or, Bool.or_eq_true, hp2 j, Lst_set hsz, Nat.testBit_two_pow, decide_eq_true_eq]
       constructor
       ·rintro (⟨a, b⟩ | rfl)
        ·exact ⟨a, .inl b⟩
        ·exact ⟨by simp [chgP, hn.ho, hst], .inr rfl⟩
       ·rintro ⟨a, b | rfl⟩
        ·exact .inl ⟨a, b⟩
        ·exact .inr rfl
     ·intro j oj t hl hj hd
      rw [Lst_set hsz] at hl
      by_cases hji : j = i
      ·subst hji
       obtain rfl : o = oj := by rw [hn.ho] at hj; exact oSI hj
       rw [hd]
       simp only [aupd, upd, if_true, dvA]
      ·have hl := hl.resolve_right hji
       rw [← hM.val j oj t hl hj hd]
       cases hdo : o.dst with
       | none => rfl
       | some d' =>
         have : t ≠ d' := fun h0 => (hslot i j o oj t hn.ho hj hd).1 (Ne.symm hji) (by rw [hdo, h0])
         simp only [aupd, upd, if_neg this]
     ·intro t ht
      have ht' : ∀ (j : Nat) (o : Oper), Lst L j → ops[j]? = some o → o.dst ≠ some t := fun j q hl hq => ht j q ((Lst_set hsz j).2 (.inl hl)) hq
      rw [← hM.out t ht']
      have := ht i o ((Lst_set hsz i).2 (.inr rfl)) hn.ho
      cases hdo : o.dst with
      | none => rfl
      | some d' =>
        have : t ≠ d' := fun h0 => this (by rw [hdo, h0])
        simp only [aupd, upd, if_neg this]
    have hcnt := cnt_set (N := ops.length) (L := L) hil hsz hn.un
    by_cases hst : still o.op = true
    ·have h3 : (if still o.op = true then some A else heapM T (m ||| 2 ^ i)) = some A := if_pos hst
     exact hstep e _ hag A h3 (ih _ _ _ (mid A h3) (by omega))
    ·cases hq : heapM T (m ||| 2 ^ i) with
     | none => exact False.elim (hnoT i o hn.ho hst m A hp1 hmay hq)
     | some A3 =>
       have h3 : (if still o.op = true then some A else heapM T (m ||| 2 ^ i)) = some A3 := by rw [if_neg hst, hq]
       exact hstep e _ hag A3 h3 (ih _ _ _ (mid A3 h3) (by omega))
theorem adrawG {id : Nat} {l : List Oper} {e : AEnv} {A A' : AHeap} (g : Nat) (vs : List AV) (T : List (Nat × AHeap)) (hm : P.follows .mixedOrders = true) (hc : combR l (T.map (·.1)) = true) (h0 : heapM T 0 = some (A ++ List.replicate g ⟨0, true, 0, 0, []⟩)) (hA : heapM T (fullP l) = some A')
 (h : rowsG P n l T (putR l vs e) 0 l) (hk : K (putR l vs e) A') : aDraw P n id l.toArray K e A := by
 intro C ec w hn hS
 refine (adraw_allG hm (adrawG_all (e0 := e) (fun t ht => putR_out l vs e t ht) hc h hA hk _ (Array.replicate l.length false) e (A ++ List.replicate g ⟨0, true, 0, 0, []⟩) ⟨by simp, fun j o _ hl => absurd hl ?_, ⟨0, h0, fun j => ⟨fun h => by simp at h, fun h => absurd h.2 ?_⟩⟩, fun j o t hl => absurd hl ?_, fun t _ => rfl⟩ ?_)) C ec w hn (Sub.ghosts _ C ec w hn hS)
 all_goals first
  | (refine Nat.le_trans List.countP_le_length ?_; simp; done)
  | (intro h; unfold Lst at h; rw [getD_replicate_false'] at h; cases h)
end
end Go.Proofs.YtinkdalcmnnocaaGreat
set_option linter.unusedSimpArgs false
set_option linter.unusedVariables false
namespace Go.Proofs.YtinkdalcmnnocaaGreat
open Go.RowKit
variable {P : Program}
def blksOf : Nat → AHeap → AV → List Nat
 | 0, _, _ => []
 | n + 1, A, .own b _ _ _ => b :: (match A[b]? with
   | some k => k.els.flatMap fun row => row.flatMap (blksOf n A)
   | none => [])
 | n + 1, A, .agg cs => cs.flatMap (blksOf n A)
 | _ + 1, _, _ => []
def orcZ (tab : List (FuncId × List AV × AV)) (o : XF) : XF := fun f args A => match tab.find? (fun t => decide (t.1 = f) && match omap (reiV true (frz (args.flatMap (blksOf 9 A)) A) 9) args with | some a => beqAs a t.2.1 | none => false) with
 | some t => some (t.2.2, frz (args.flatMap (blksOf 9 A)) A)
 | none => o f args A
theorem orcZ_ok {tab : List (FuncId × List AV × AV)} {o : XF} (h : ∀ t ∈ tab, okF P t.1 = true ∧ AF P t.1 t.2.1 t.2.2) (ho : XFok P o) : XFok P (orcZ tab o) := by
 intro f args A r A' hr
 unfold orcZ at hr
 split at hr
 ·rename_i t ht
  simp only [Option.some.injEq, Prod.mk.injEq] at hr
  obtain ⟨rfl, rfl⟩ := hr
  have hm := List.mem_of_find?_eq_some ht
  have hp := List.find?_some ht
  simp only [Bool.and_eq_true, decide_eq_true_eq] at hp
  obtain ⟨rfl, hp⟩ := hp
  split at hp
  case h_2 => cases hp
  rename_i a ha
  obtain ⟨h1, h2⟩ := h t hm
  rw [beqAs_eq _ _ hp] at ha
  exact ⟨h1, AC.frz _ (AF.ac h2 (by rw [ha]; exact NLeL.refl _))⟩
 ·exact ho f args A r A' hr
theorem sub_reiT {n : Nat} {e : AEnv} {A : AHeap} {b i o : Nat} {k : Blk} {x : List AV} {c c' : AV} (Bs : List Nat) (hb : (frz Bs A)[b]? = some k) (hx : k.els[i]? = some x) (ho : x[o]? = some c) (hr : reiV true (frz Bs A) 9 c = some c') :
 Sub n e A e ((frz Bs A).set b (setEls k (k.els.set i (x.set o c')))) := (Sub.frz Bs).trans (Sub.cell hb hx ho (VLe.rei hr))
end Go.Proofs.YtinkdalcmnnocaaGreat
