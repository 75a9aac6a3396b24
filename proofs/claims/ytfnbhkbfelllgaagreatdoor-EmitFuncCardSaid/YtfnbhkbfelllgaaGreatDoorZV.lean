import Derived.Test.YtfnbhkbfelllgaaGreatDoorAs
import Derived.Test.YtfnbhkbfelllgaaGreatDoorAm
import Derived.Test.YtfnbhkbfelllgaaGreatDoorAq
import Derived.Test.YtfnbhkbfelllgaaGreatDoorAB
import Derived.Laws.IdiomRangeMap
set_option linter.all false
set_option linter.all false
namespace Go.Proofs.YtfnbhkbfelllgaaGreatDoor
open Go.RowKit
section
variable {P : Program} {n : Nat}
end
end Go.Proofs.YtfnbhkbfelllgaaGreatDoor
set_option linter.all false
namespace Go.Proofs.YtfnbhkbfelllgaaGreatDoor
open Go.RowKit
def putR : List Oper → List AV → AEnv → AEnv
 | o :: os, v :: vs, e => putR os vs (aupd e o.dst v)
 | _, _, e => e
def dvA (e : AEnv) : Option Nat → AV
 | some d => e d
 | none => .any
theorem putR_out : ∀ (ops : List Oper) (vs : List AV) (e : AEnv) (t : Nat), (∀ o ∈ ops, o.dst ≠ some t) → putR ops vs e t = e t
 | [], vs, e, t, _ => by cases vs <;> rfl
 | o :: os, [], e, t, _ => rfl
 | o :: os, v :: vs, e, t, h => by
   rw [putR, putR_out os vs _ t fun q hq => h q (List.mem_cons_of_mem _ hq)]
   have := h o List.mem_cons_self
   cases hd : o.dst with
   | none => rfl
   | some d =>
     have hne : t ≠ d := fun h0 => this (by rw [hd, h0])
     simp only [aupd, upd, if_neg hne]
def stR (P : Program) (n : Nat) (T : List (Nat × AHeap)) (e1 : AEnv) (i : Nat) (o : Oper) (m : Nat) (A : AHeap) : Prop :=
 ∀ (e : AEnv) (K : AKont), (∀ x ∈ o.op.operands, eva e x = eva e1 x) → ∀ A3, (if still o.op = true then some A else heapM T (m ||| 2 ^ i)) = some A3 → K (aupd e o.dst (dvA e1 o.dst)) A3 → avop P n o K e A
def rowsR (P : Program) (n : Nat) (ops : List Oper) (T : List (Nat × AHeap)) (e1 : AEnv) : Nat → List Oper → Prop
 | _, [] => True
 | i, o :: os => (∀ t ∈ T, mayP ops (masks [] ops) t.1 i = true → stR P n T e1 i o t.1 t.2) ∧ rowsR P n ops T e1 (i + 1) os
def combR (ops : List Oper) (ms : List Nat) : Bool := ((List.range ops.length).all fun i => match ops[i]? with
    | some o => (match o.guard with | none => true | some _ => false) && (o.after.toList.all fun ed => !Region.binds .any ed || decide (ed.on < i)) && slotP (masks [] ops) ops i o
    | none => true) && (ms.all fun m => (List.range ops.length).all (fun j => !chgP ops j || m.testBit j) == (m == fullP ops)) &&
 ms.all fun m => (List.range ops.length).all fun i => !chgP ops i || !mayP ops (masks [] ops) m i || ms.contains (m ||| 2 ^ i)
theorem heapM_some : ∀ {T : List (Nat × AHeap)} {m : Nat}, (T.map (·.1)).contains m = true → heapM T m ≠ none := by
 intro T m h hn
 unfold heapM at hn
 simp only [Option.map_eq_none_iff, List.find?_eq_none, beq_iff_eq] at hn
 rw [List.contains_iff_mem, List.mem_map] at h
 obtain ⟨t, ht, rfl⟩ := h
 exact hn t ht rfl
theorem rowsR_get {P : Program} {n : Nat} {ops : List Oper} {T : List (Nat × AHeap)} {e1 : AEnv} : ∀ (l : List Oper) (k : Nat), rowsR P n ops T e1 k l → ∀ (i : Nat) (o : Oper), l[i]? = some o → ∀ t ∈ T, mayP ops (masks [] ops) t.1 (k + i) = true → stR P n T e1 (k + i) o t.1 t.2
 | [], k, _, i, o, h => by simp at h
 | q :: l, k, h, 0, o, ho => by
   obtain rfl : q = o := by simpa using ho
   exact h.1
 | q :: l, k, h, i + 1, o, ho => by
   have := rowsR_get l (k + 1) h.2 i o (by simpa using ho)
   rwa [show k + 1 + i = k + (i + 1) by omega] at this
section
variable {P : Program} {n : Nat} {K : AKont} {ops : List Oper}
theorem adrawR_all {e0 e1 : AEnv} {T : List (Nat × AHeap)} {A' : AHeap} (ho : ∀ t, (∀ o ∈ ops, o.dst ≠ some t) → e1 t = e0 t) (hc : combR ops (T.map (·.1)) = true) (h : rowsR P n ops T e1 0 ops) (hA : heapM T (fullP ops) = some A') (hk : K e1 A') :
 ∀ (f : Nat) (L : Array Bool) (e : AEnv) (A : AHeap), MidP ops e0 e1 T L e A → (List.range ops.length).countP (fun i => !L.getD i false) ≤ f → aAny P n ops K f L e A := by
 simp only [combR, Bool.and_eq_true] at hc
 obtain ⟨⟨hc1, hc2⟩, hc3⟩ := hc
 have hnoT : ∀ (i : Nat) (o : Oper), ops[i]? = some o → ¬ still o.op = true → ∀ (m : Nat) (A : AHeap), heapM T m = some A → mayP ops (masks [] ops) m i = true → heapM T (m ||| 2 ^ i) = none → False := fun i o ho hst m A hm hmay hn => by
  have h1 := List.all_eq_true.1 hc3 m (List.mem_map.2 ⟨_, heapM_mem hm, rfl⟩)
  have h2 := List.all_eq_true.1 h1 i (List.mem_range.2 (gSI.1 ho).1)
  have hch : chgP ops i = true := by simp [chgP, ho, hst]
  rw [hch, hmay] at h2
  simp only [Bool.not_true, Bool.false_or] at h2
  exact heapM_some h2 hn
 have hall : ∀ (i : Nat) (o : Oper), ops[i]? = some o → o.guard = none ∧ (o.after.toList.all fun ed => !Region.binds .any ed || decide (ed.on < i)) = true ∧ slotP (masks [] ops) ops i o = true := fun i o ho => by
  have := List.all_eq_true.1 hc1 i (List.mem_range.2 (gSI.1 ho).1)
  rw [ho] at this
  simp only [Bool.and_eq_true] at this
  refine ⟨?_, this.1.2, this.2⟩
  have hg := this.1.1
  split at hg
  ·assumption
  ·cases hg
 have hfull : ∀ t ∈ T, (∀ j, chgP ops j = true → t.1.testBit j = true) → t.1 = fullP ops := fun t ht hj => by
  have := List.all_eq_true.1 hc2 t.1 (List.mem_map.2 ⟨t, ht, rfl⟩)
  rw [beq_iff_eq] at this
  have h1 : (List.range ops.length).all (fun j => !chgP ops j || t.1.testBit j) = true := by
   rw [List.all_eq_true]
   intro j _
   cases hcj : chgP ops j with
   | false => rfl
   | true => simp [hj j hcj]
  rw [h1] at this
  simpa using this.symm
 have hslot : ∀ (i j : Nat) (oi oj : Oper) (d : Nat), ops[i]? = some oi → ops[j]? = some oj → oj.dst = some d → (i ≠ j → oi.dst ≠ some d) ∧ (d ∈ seen ops oi → j < i ∧ ((masks [] ops).getD i 0).testBit j = true) := by
  intro i j oi oj d hi hj hd
  have hs := (hall i oi hi).2.2
  simp only [slotP, List.all_eq_true, List.mem_range] at hs
  have := hs j (gSI.1 hj).1
  rw [hj] at this
  simp only [hd, Bool.or_eq_true, beq_iff_eq, Bool.and_eq_true, Bool.not_eq_true', decide_eq_true_eq] at this
  refine ⟨fun hij h0 => ?_, fun h0 => ?_⟩
  ·have := this.1.resolve_left hij
   rw [h0] at this
   simp at this
  ·rcases this.2 with h2 | h2
   ·have : (seen ops oi).contains d = true := by simpa using h0
    rw [this] at h2
    cases h2
   ·exact h2
 have hback : ∀ (i : Nat) (o : Oper), ops[i]? = some o → ∀ e ∈ o.after, Region.binds .any e = true → e.on < i := fun i o ho e he hb => by
  have := List.all_eq_true.1 (hall i o ho).2.1 e (by simpa using he)
  simpa [hb] using this
 have hsome : ∀ {L : Array Bool}, L.size = ops.length → (∃ j, j < ops.length ∧ ¬ Lst L j) → ∃ i, i ∈ Region.ready .any ops.toArray L := by
  rintro L hs ⟨j, hj, hu⟩
  induction j using Nat.strongRecOn with
  | _ j ih =>
    by_cases hb : ∃ k, k < j ∧ ¬ Lst L k
    ·obtain ⟨k, hk, hn⟩ := hb
     exact ih k hk (by omega) hn
    ·refine ⟨j, mem_ready.2 ⟨?_, ops[j], by simp [hj], fun e he hbi => ?_⟩⟩
     ·unfold Lst at hu
      simp [hs, hj] at hu ⊢
      exact hu
     ·have := hback j ops[j] (by simp [hj]) e he hbi
      exact Classical.byContradiction fun hn => hb ⟨e.on, this, hn⟩
 have hfin : ∀ {L : Array Bool} {e : AEnv} {A : AHeap}, MidP ops e0 e1 T L e A → (∀ j, j < ops.length → Lst L j) → K e A := by
  intro L e A hM hl
  have he : e = e1 := by
   funext t
   by_cases hw : ∃ (j : Nat) (o : Oper), ops[j]? = some o ∧ o.dst = some t
   ·obtain ⟨j, o, ho, hd⟩ := hw
    exact hM.val j o t (hl j (gSI.1 ho).1) ho hd
   ·rw [hM.out t fun j o _ ho hd => hw ⟨j, o, ho, hd⟩, ho t fun o hm hd => by
     obtain ⟨j, hj⟩ := List.getElem?_of_mem hm
     exact hw ⟨j, o, hj, hd⟩]
  obtain ⟨m, hp1, hp2⟩ := hM.hp
  have hm := hfull _ (heapM_mem hp1) fun j hc => (hp2 j).2 ⟨hc, hl j (chgP_lt hc)⟩
  simp only at hm
  rw [hm, hA] at hp1
  rw [he, ← oSI hp1]
  exact hk
 intro f
 induction f with
 | zero =>
   intro L e A hM hf
   have hl : ∀ j, j < ops.length → Lst L j := fun j hj => by
    have h0 : (List.range ops.length).countP (fun i => !L.getD i false) = 0 := by omega
    rw [List.countP_eq_zero] at h0
    have := h0 j (List.mem_range.2 hj)
    unfold Lst
    simpa using this
   refine ⟨?_, hfin hM hl⟩
   rw [List.eq_nil_iff_forall_not_mem]
   intro i hi
   obtain ⟨o, hn⟩ := next_of hi
   exact hn.un (hl i (gSI.1 hn.ho).1)
 | succ f ih =>
   intro L e A hM hf
   refine ⟨fun h0 => hfin hM fun j hj => Classical.byContradiction fun hn => ?_, fun i hi => ?_⟩
   ·obtain ⟨i, hi⟩ := hsome hM.sz ⟨j, hj, hn⟩
    rw [h0] at hi
    cases hi
   ·obtain ⟨o, hn⟩ := next_of hi
    have hil := (gSI.1 hn.ho).1
    refine ⟨o, hn.ho, (hall i o hn.ho).1, ?_⟩
    have hseen : ∀ t ∈ seen ops o, e1 t = e t := fun t hsn => by
     by_cases hw : ∃ (j : Nat) (q : Oper), ops[j]? = some q ∧ q.dst = some t
     ·obtain ⟨j, q, hq, hd⟩ := hw
      obtain ⟨hlt, hsl⟩ := (hslot i j o q t hn.ho hq hd).2 hsn
      exact (hM.val j q t (mask_in hM.cl hn.ho hn.all hsl) hq hd).symm
     ·rw [hM.out t fun j o _ ho hd => hw ⟨j, o, ho, hd⟩, ho t fun o hm hd => by
       obtain ⟨j, hj⟩ := List.getElem?_of_mem hm
       exact hw ⟨j, o, hj, hd⟩]
    have hag : ∀ x ∈ o.op.operands, eva e x = eva e1 x := fun x hx => (eva_agree fun t he => hseen t (by
     simp only [seen, List.mem_append, List.mem_filterMap]
     exact .inl ⟨_, by simpa using hx, by rw [he]⟩)).symm
    have hsz : i < L.size := by rw [hM.sz]; exact hil
    obtain ⟨m, hp1, hp2⟩ := hM.hp
    have hmay : mayP ops (masks [] ops) m i = true := by
     unfold mayP
     simp only [Bool.and_eq_true, Bool.not_eq_true', List.all_eq_true, List.mem_range, Bool.or_eq_true]
     refine ⟨?_, fun j hj => ?_⟩
     ·cases hb : m.testBit i with
      | false => rfl
      | true => exact absurd ((hp2 i).1 hb).2 hn.un
     ·cases hc : chgP ops j with
      | false => exact .inl rfl
      | true =>
        refine .inr ⟨?_, ?_⟩
        ·split
         ·rename_i hb
          exact (hp2 j).2 ⟨hc, mask_in hM.cl hn.ho hn.all hb⟩
         ·rfl
        ·split
         ·rename_i hb
          have hl := ((hp2 j).1 hb).2
          have hoj : ops[j]? = some ops[j] := by simp [hj]
          cases hb2 : ((masks [] ops).getD j 0).testBit i with
          | false => rfl
          | true => exact absurd (mask_in hM.cl hoj (hM.cl j _ hoj hl) hb2) hn.un
         ·rfl
    have hstep := rowsR_get ops 0 h i o hn.ho _ (heapM_mem hp1) (by rw [Nat.zero_add]; exact hmay)
    simp only [Nat.zero_add] at hstep
    have mid : ∀ A3, (if still o.op = true then some A else heapM T (m ||| 2 ^ i)) = some A3 → MidP ops e0 e1 T (L.setIfInBounds i true) (aupd e o.dst (dvA e1 o.dst)) A3 := by
     intro A3 hA3
     refine ⟨by simp [hM.sz], ?_, ?_, ?_, ?_⟩
     ·intro j oj hj hl ed he hb
      rw [Lst_set hsz] at hl ⊢
      rcases hl with hl | rfl
      ·exact .inl (hM.cl j oj hj hl ed he hb)
      ·obtain rfl : o = oj := by rw [hn.ho] at hj; exact oSI hj
       exact .inl (hn.all ed he hb)
     ·by_cases hst : still o.op = true
      ·rw [if_pos hst] at hA3
       obtain rfl := oSI hA3
       refine ⟨m, hp1, fun j => ?_⟩
       rw [hp2 j, Lst_set hsz]
       constructor
       ·rintro ⟨a, b⟩; exact ⟨a, .inl b⟩
       ·rintro ⟨a, b | rfl⟩
        ·exact ⟨a, b⟩
        ·simp [chgP, hn.ho, hst] at a
      ·rw [if_neg hst] at hA3
       refine ⟨m ||| 2 ^ i, hA3, fun j => ?_⟩
       rw [Nat.testBit_or, Bool.or_eq_true, hp2 j, Lst_set hsz, Nat.testBit_two_pow, decide_eq_true_eq]
       constructor
       ·rintro (⟨a, b⟩ | rfl)
        ·exact ⟨a, .inl b⟩
        ·exact ⟨by simp [chgP, hn.ho, hst], .inr rfl⟩
       ·rintro ⟨a, b | rfl⟩
        ·exact .inl ⟨a, b⟩
        ·exact .inr rfl
     ·intro j oj t hl hj hd
      rw [Lst_set hsz] at hl
      by_cases hji : j = i
      ·subst hji
       obtain rfl : o = oj := by rw [hn.ho] at hj; exact oSI hj
       rw [hd]
       simp only [aupd, upd, if_true, dvA]
      ·have hl := hl.resolve_right hji
       rw [← hM.val j oj t hl hj hd]
       cases hdo : o.dst with
       | none => rfl
       | some d' =>
         have : t ≠ d' := fun h0 => (hslot i j o oj t hn.ho hj hd).1 (Ne.symm hji) (by rw [hdo, h0])
         simp only [aupd, upd, if_neg this]
     ·intro t ht
      have ht' : ∀ (j : Nat) (o : Oper), Lst L j → ops[j]? = some o → o.dst ≠ some t := fun j q hl hq => ht j q ((Lst_set hsz j).2 (.inl hl)) hq
      rw [← hM.out t ht']
      have := ht i o ((Lst_set hsz i).2 (.inr rfl)) hn.ho
      cases hdo : o.dst with
      | none => rfl
      | some d' =>
        have : t ≠ d' := fun h0 => this (by rw [hdo, h0])
        simp only [aupd, upd, if_neg this]
    have hcnt := cnt_set (N := ops.length) (L := L) hil hsz hn.un
    by_cases hst : still o.op = true
    ·have h3 : (if still o.op = true then some A else heapM T (m ||| 2 ^ i)) = some A := if_pos hst
     exact hstep e _ hag A h3 (ih _ _ _ (mid A h3) (by omega))
    ·cases hq : heapM T (m ||| 2 ^ i) with
     | none => exact False.elim (hnoT i o hn.ho hst m A hp1 hmay hq)
     | some A3 =>
       have h3 : (if still o.op = true then some A else heapM T (m ||| 2 ^ i)) = some A3 := by rw [if_neg hst, hq]
       exact hstep e _ hag A3 h3 (ih _ _ _ (mid A3 h3) (by omega))
theorem adrawR {id : Nat} {l : List Oper} {e : AEnv} {A A' : AHeap} (vs : List AV) (T : List (Nat × AHeap)) (hm : P.follows .mixedOrders = true) (hc : combR l (T.map (·.1)) = true) (h0 : heapM T 0 = some A) (hA : heapM T (fullP l) = some A')
 (h : rowsR P n l T (putR l vs e) 0 l) (hk : K (putR l vs e) A') : aDraw P n id l.toArray K e A := by
 refine adraw_all hm (adrawR_all (e0 := e) (fun t ht => putR_out l vs e t ht) hc h hA hk _ (Array.replicate l.length false) e A ⟨by simp, fun j o _ hl => absurd hl ?_, ⟨0, h0, fun j => ⟨fun h => by simp at h, fun h => absurd h.2 ?_⟩⟩, fun j o t hl => absurd hl ?_, fun t _ => rfl⟩ ?_)
 all_goals first
  | (refine Nat.le_trans List.countP_le_length ?_; simp; done)
  | (intro h; unfold Lst at h; rw [getD_replicate_false'] at h; cases h)
end
section
variable {P : Program} {K : AKont} {e : AEnv} {A : AHeap} {d : Option Nat}
theorem AC.frz (B : List Nat) {f : FuncId} {args : List AV} {R : AV → AHeap → Prop} (h : AC P f args (frz B A) R) : AC P f args A R := by
 intro H ι w vs hH hR h1 h2
 have hl := h1.len
 obtain ⟨_, ι', g1, g2, g3, g4⟩ := Sub.frz (n := A.length) B (e := fun i => args.getD i .any) (A := A) ⟨H, ι, A, w⟩ (fun i => vs.getD i default) w rfl ⟨hH, ι, hR, Step.refl _ _ _, fun i => by
  rcases Nat.lt_or_ge i args.length with hi | hi
  ·obtain ⟨u, hu, hs⟩ := h1.get (gEG hi)
   simp only [List.getD, gEG hi, hu, Option.getD_some]
   exact hs
  ·simp only [List.getD, List.getElem?_eq_none hi, Option.getD_none]
   simp [Shp], fun i => by
  rcases Nat.lt_or_ge i args.length with hi | hi
  ·obtain ⟨u, hu, hs⟩ := h1.get (gEG hi)
   simp only [List.getD, gEG hi, hu, Option.getD_some]
   exact h2.get (gEG hi) hu
  ·simp only [List.getD, List.getElem?_eq_none hi, Option.getD_none]
   simp [Mem]⟩
 refine (h H ι' w vs (hH.step g2) g1 (ShpL.of hl fun i c u hc hu => ?_) (MemL.of hl fun i c u hc hu => ?_)).mono ?_
 ·have := g3 i
  simpa [List.getD, hc, hu] using this
 ·have := g4 i
  simpa [List.getD, hc, hu] using this
 ·rintro en w' ⟨v, r, ι'', A'', a, b, c1, c2, c3⟩
  exact ⟨v, r, ι'', A'', a, b, c1, g2.trans c2, c3⟩
theorem aCall_ofz (B : List Nat) {g : FuncId} {fs args cs args' : List AV} {r : AV} (h : AF P g args' r) (hok : okF P g = true) (hr : argO (omap (reiV true (frz B A) 9) (fs ++ args ++ cs)) args') (hk : K (aupd e d r) (frz B A)) : aCall P (.fn g fs cs) args A d e K :=
 ⟨g, fs, cs, rfl, hok, AC.frz B ((h.ac hr).mono fun r' A' ⟨e1, e2⟩ => by subst e1 e2; exact hk)⟩
end
section
variable {P : Program} {K : AKont} {e : AEnv} {A : AHeap} {d : Option Nat}
theorem VLe.ip {b ver i o : Nat} {k : Blk} {x : List AV} {cs : List D} (hb : A[b]? = some k) (hv : ver = k.ver) (hw : k.wr = false) (hx : k.els[i]? = some x) (hcs : x.drop o = cs.map AV.d) (hty : k.ty < 1000000) : VLe A (.ptr b ver i o) (.ip cs) := by
 intro H ι w u hR hu
 have h1 := hu.1
 simp only [Shp] at h1
 obtain ⟨_, k', hk', _, h2⟩ := h1
 rw [hb] at hk'
 obtain rfl := oSI hk'
 obtain ⟨c, n, hι, rfl⟩ := h2 hv
 have hblk := hR.blk b k hb
 unfold BlkRel at hblk
 rw [hι] at hblk
 obtain ⟨arr, a1, a2, a3, a4⟩ := hblk
 have a1 := a1.cells hty
 have hhid := hR.hid b k c n hb hι
 have hnn : ¬ Nn H ι A c := by
  rintro (h | ⟨b', k', n', h1, h2, h3⟩)
  ·exact hhid.1 h
  ·obtain rfl := hR.inj b b' k k' c n n' hb h1 hι h3
   rw [hb] at h1
   obtain rfl := oSI h1
   rw [hw] at h2
   cases h2
 refine ⟨by simp only [Shp]; exact ⟨c, _, rfl⟩, ?_⟩
 simp only [Mem]
 refine ⟨c, _, rfl, ⟨hhid.2, hnn⟩, RdE.of fun j dd hj => ?_⟩
 have hxo : x[o + j]? = some (.d dd) := by
  rw [← List.getElem?_drop, hcs]
  simp [hj]
 obtain ⟨h3, h4⟩ := a4 i x hx
 obtain ⟨v, g1, g2, _⟩ := h4 (o + j) (.d dd) hxo
 refine ⟨v, ?_, ?_⟩
 ·rw [cell_in a1]
  rw [← g1]
  congr 1
  omega
 ·have := g2.2
  simpa only [Mem] using this
theorem AC.argle {f : FuncId} {args args' : List AV} {R : AV → AHeap → Prop} (h : AC P f args' A R) (hl : args.length = args'.length) (hv : ∀ (i : Nat) (c c' : AV), args[i]? = some c → args'[i]? = some c' → VLe A c c') : AC P f args A R := by
 intro H ι w vs hH hR h1 h2
 have hlen := h1.len
 have hval : ∀ (i : Nat) (c' : AV) (u : Value), args'[i]? = some c' → vs[i]? = some u → Val ι A (Nn H ι A) w c' u := fun i c' u hc' hu => by
  have hi : i < args.length := by rw [hl]; exact (gSI.1 hc').1
  have hc := gEG hi
  obtain ⟨u', hu', hs⟩ := h1.get hc
  rw [hu] at hu'
  obtain rfl := oSI hu'
  exact hv i _ c' hc hc' H ι w u hR ⟨hs, h2.get hc hu⟩
 refine h H ι w vs hH hR (ShpL.of (by omega) fun i c u hc hu => (hval i c u hc hu).1) (MemL.of (by omega) fun i c u hc hu => (hval i c u hc hu).2)
end
end Go.Proofs.YtfnbhkbfelllgaaGreatDoor
set_option linter.all false
namespace Go.Proofs.YtfnbhkbfelllgaaGreatDoor
open Go.RowKit
section
variable {P : Program} {H : Nat → Prop} {ι ι' : Place} {A A' : AHeap} {w w' : World} {e : AEnv} {ec : Env} {C : Ctx} {n : Nat} {K : AKont}
section
variable {x y z : Operand} {t kt et : TypeId} {d : Option Nat} {ty : TypeId} {pos : String} {af : Array Edge} {gd : Option (Nat × Bool)} {b v c : Nat} {L : List (Nat × Int × Bool)} {k : Int}
end
section
variable {x : Operand} {t kt et : TypeId} {d : Option Nat} {ty : TypeId} {pos : String} {af : Array Edge} {gd : Option (Nat × Bool)} {b v c q s : Nat} {L : List (Nat × Int × Bool)} {S : List Nat} {k : Int}
end
end
theorem nmy {b : Bool} {P : Prop} (h : b = false) (h' : b = true) : P := absurd h' (Bool.eq_false_iff.1 h)
end Go.Proofs.YtfnbhkbfelllgaaGreatDoor
