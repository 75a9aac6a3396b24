import Derived.Test.YtfnbhkbfelllgaaGreatDoorVcL
set_option linter.all false
namespace Go.Proofs.YtfnbhkbfelllgaaGreatDoor
open Go.RowKit
def dstIn (d : Option Nat) (l : List Nat) : Bool := match d with
 | some d => l.contains d
 | none => false
def end3 (pre : List Oper) (x : Oper) (suf : List Oper) : Bool :=
 endOk (pre ++ [x]) suf && x.guard.isNone && (pre.all fun o => !isStore o.op) &&
 (List.range pre.length).all fun j => ((masks [] (pre ++ [x])).getD pre.length 0).testBit j || match pre[j]? with
  | some o => o.guard.isNone && (isPure o.op || isLoad o.op) && !dstIn o.dst (seen pre x) && !dstIn x.dst (seen pre o) && !(o.dst.isSome && o.dst == x.dst) &&
   (List.range pre.length).all fun k => match pre[k]? with
    | some q => !dstIn q.dst (seen pre o) || (decide (k < j) && ((masks [] pre).getD j 0).testBit k)
    | none => true
  | none => true
def Free3 (pre : List Oper) (x : Oper) (j : Nat) : Prop := ((masks [] (pre ++ [x])).getD pre.length 0).testBit j = false
structure E3 (pre : List Oper) (x : Oper) (suf : List Oper) : Prop where
 en : endOk (pre ++ [x]) suf = true
 xg : x.guard = none
 st : ∀ o ∈ pre, isStore o.op = false
 free : ∀ (j : Nat) (o : Oper), pre[j]? = some o → Free3 pre x j → o.guard = none ∧ (isPure o.op || isLoad o.op) = true ∧ (∀ d, o.dst = some d → d ∉ seen pre x ∧ x.dst ≠ some d) ∧ (∀ d, x.dst = some d → d ∉ seen pre o) ∧
  ∀ (k : Nat) (q : Oper) (d : Nat), pre[k]? = some q → q.dst = some d → d ∈ seen pre o → k < j ∧ ((masks [] pre).getD j 0).testBit k = true
theorem end3_spec {pre suf : List Oper} {x : Oper} (h : end3 pre x suf = true) : E3 pre x suf := by
 unfold end3 at h
 simp only [Bool.and_eq_true] at h
 obtain ⟨⟨⟨h1, h2⟩, h3⟩, h4⟩ := h
 refine ⟨h1, by simpa using h2, fun o ho => by simpa using List.all_eq_true.1 h3 o ho, fun j o hj hf => ?_⟩
 have hlt := (gSI.1 hj).1
 have h5 := List.all_eq_true.1 h4 j (List.mem_range.2 hlt)
 unfold Free3 at hf
 rw [hf, hj] at h5
 simp only [Bool.false_or, Bool.and_eq_true] at h5
 obtain ⟨⟨⟨⟨⟨g1, g2⟩, g3⟩, g4⟩, g5⟩, g6⟩ := h5
 refine ⟨by simpa using g1, g2, fun d hd => ⟨fun hm => ?_, fun he => ?_⟩, fun d hd hm => ?_, fun k q d hk hq hm => ?_⟩
 ·rw [hd] at g3
  simp [dstIn, hm] at g3
 ·rw [hd, he] at g5
  simp at g5
 ·rw [hd] at g4
  simp [dstIn, hm] at g4
 ·have := List.all_eq_true.1 g6 k (List.mem_range.2 (gSI.1 hk).1)
  rw [hk] at this
  simp only [hq, dstIn] at this
  simpa [hm] using this
def rdv (P : Program) (w : World) (e : Env) (o : Oper) : Option Value := match o.op with
 | .load t a => lv P t (ev e a) w
 | op => pvB P e op
theorem rdv_run {P : Program} {w : World} {e : Env} {o : Oper} {v : Value} (h : rdv P w e o = some v) : (execOp (ev e) o).run P w = .ok (.value v) w := by
 unfold rdv at h
 split at h
 ·rename_i t a ho
  simp [execOp, ho, lv_run h]
 ·exact pvB_run h w
theorem rdv_agree {P : Program} {w : World} {e e' : Env} {ops : List Oper} {o : Oper} (h : ∀ t ∈ seen ops o, e t = e' t) : rdv P w e o = rdv P w e' o := by
 have hx := ev_agree h
 unfold rdv
 split
 ·rename_i t a ho
  rw [hx a (by rw [ho]; simp [Op.operands])]
 ·exact pvB_agree hx
theorem cnt_set {N : Nat} {L : Array Bool} {i : Nat} (hi : i < N) (hs : i < L.size) (hu : ¬ Lst L i) :
 (List.range N).countP (fun j => !(L.setIfInBounds i true).getD j false) < (List.range N).countP (fun j => !L.getD j false) := by
 have hmem : i ∈ List.range N := List.mem_range.2 hi
 rw [List.countP_eq_length_filter, List.countP_eq_length_filter]
 have hsub : ((List.range N).filter fun j => !(L.setIfInBounds i true).getD j false) = ((List.range N).filter fun j => !L.getD j false).filter (fun j => j != i) := by
  rw [List.filter_filter]
  apply List.filter_congr
  intro j hj
  by_cases hji : j = i
  ·subst hji
   simp [hs]
  ·rw [getD_set_ne false (Ne.symm hji)]
   simp [hji]
 rw [hsub]
 have hin : i ∈ (List.range N).filter fun j => !L.getD j false := List.mem_filter.2 ⟨hmem, by
  unfold Lst at hu
  simpa using hu⟩
 exact List.length_filter_lt_length_iff_exists.2 ⟨i, hin, by simp⟩
section
variable {P : Program} {pre suf : List Oper} {x : Oper} {n : Nat} {k : Kont} {Q : Exit → Act → World → Prop}
theorem full_get {j : Nat} (h : j < pre.length) : ((pre ++ [x]) ++ suf)[j]? = pre[j]? := by
 rw [gAL (by simp; omega), gAL h]
theorem full_x : ((pre ++ [x]) ++ suf)[pre.length]? = some x := by
 rw [gAL (by simp), List.getElem?_append_right (Nat.le_refl _)]
 simp
theorem after3 (h3 : E3 pre x suf) (hd : ∀ o ∈ (pre ++ [x]) ++ suf, ∀ d', o.dst = some d' → d' < n) (hQ : ∀ a w, Fr n a → k (envOf a) w → Q .normal a w)
 {e : Env} {v : Value} {w : World} (hk : vops P ((pre ++ [x]) ++ suf).toArray suf k (upd e x.dst v) w) :
 ∀ (fuel : Nat) (L : Array Bool) (a : Act), L.size = ((pre ++ [x]) ++ suf).length → Fr n a → (∀ j, Lst L j → j ≤ pre.length) → Lst L pre.length → Closed ((pre ++ [x]) ++ suf) (Lst L) →
   (∀ (j : Nat) (o : Oper), pre[j]? = some o → ¬ Lst L j → Free3 pre x j ∧ ∃ u, rdv P w e o = some u ∧ ∀ d, o.dst = some d → e d = u) →
   (∀ t, (∀ (j : Nat) (o : Oper), pre[j]? = some o → ¬ Lst L j → o.dst ≠ some t) → envOf a t = upd e x.dst v t) →
   (List.range pre.length).countP (fun i => !L.getD i false) + suf.length ≤ fuel → wpAny P .any ((pre ++ [x]) ++ suf).toArray Q fuel L a w := by
 intro fuel
 have hlen : ((pre ++ [x]) ++ suf).length = pre.length + 1 + suf.length := by simp; omega
 have hall : ∀ (fuel : Nat) (L : Array Bool) (a : Act), L.size = ((pre ++ [x]) ++ suf).length → Fr n a → (∀ j, Lst L j → j ≤ pre.length) → Lst L pre.length → (∀ j, j < pre.length → Lst L j) →
  (∀ t, (∀ (j : Nat) (o : Oper), pre[j]? = some o → ¬ Lst L j → o.dst ≠ some t) → envOf a t = upd e x.dst v t) → suf.length ≤ fuel → wpAny P .any ((pre ++ [x]) ++ suf).toArray Q fuel L a w := by
  intro fuel L a hs hf hle hx hL hval hfu
  have he : envOf a = upd e x.dst v := funext fun t => hval t fun j o hj hn => absurd (hL j (gSI.1 hj).1) hn
  have hLe : L = Array.replicate ((pre ++ [x]).length + 0) true ++ Array.replicate suf.length false := by
   apply Array.ext_getElem?
   intro j
   rw [Array.getElem?_append]
   simp only [Array.size_replicate, Array.getElem?_replicate, List.length_append, List.length_singleton, Nat.add_zero]
   rcases Nat.lt_or_ge j (pre.length + 1) with hj | hj
   ·rw [if_pos hj, if_pos hj]
    have : Lst L j := by
     rcases Nat.lt_or_ge j pre.length with h | h
     ·exact hL j h
     ·rw [show j = pre.length by omega]; exact hx
    unfold Lst at this
    have hsz : j < L.size := by rw [hs, hlen]; omega
    simp [hsz] at this ⊢
    exact this
   ·rw [if_neg (by omega)]
    rcases Nat.lt_or_ge j (pre.length + 1 + suf.length) with h | h
    ·rw [if_pos (by omega)]
     have hsz : j < L.size := by rw [hs, hlen]; omega
     have : ¬ Lst L j := fun hl => by have := hle j hl; omega
     unfold Lst at this
     simp [hsz] at this ⊢
     exact this
    ·rw [if_neg (by omega), Array.getElem?_eq_none (by rw [hs, hlen]; omega)]
  have h1 := any_suf h3.en (n := n) (K := k) (P := P) (fun o ho => hd o (List.mem_append_right _ ho)) hQ suf.length 0 (by omega) a w hf (by rw [he]; simpa using hk)
  rw [← hLe] at h1
  have h2 := any_monos h1 (fuel - suf.length)
  rwa [show fuel - suf.length + suf.length = fuel by omega] at h2
 induction fuel with
 | zero =>
   intro L a hs hf hle hx hcl hfr hval hc
   refine hall 0 L a hs hf hle hx (fun j hj => ?_) hval (by omega)
   have h0 : (List.range pre.length).countP (fun i => !L.getD i false) = 0 := by omega
   rw [List.countP_eq_zero] at h0
   have := h0 j (List.mem_range.2 hj)
   unfold Lst
   simpa using this
 | succ fuel ih =>
   intro L a hs hf hle hx hcl hfr hval hc
   by_cases hu : ∃ j, j < pre.length ∧ ¬ Lst L j
   case neg => exact hall _ L a hs hf hle hx (fun j hj => Classical.byContradiction fun hn => hu ⟨j, hj, hn⟩) hval (by omega)
   have hready : ∃ j, j ∈ Region.ready .any ((pre ++ [x]) ++ suf).toArray L := by
    obtain ⟨j, hj, hn⟩ := hu
    induction j using Nat.strongRecOn with
    | _ j ihj =>
      by_cases hb : ∃ i, i < j ∧ ¬ Lst L i
      ·obtain ⟨i, hi, hn⟩ := hb
       exact ihj i hi (by omega) hn
      ·have ho : ((pre ++ [x]) ++ suf)[j]? = some pre[j] := by rw [full_get hj]; simp [hj]
       refine ⟨j, mem_ready.2 ⟨?_, pre[j], by simpa using ho, fun ed he hbi => ?_⟩⟩
       ·unfold Lst at hn
        have hsz : j < L.size := by rw [hs, hlen]; omega
        simp [hsz] at hn ⊢
        exact hn
       ·have := (endOk_back h3.en ho).1 ed he hbi
        exact Classical.byContradiction fun hn => hb ⟨ed.on, this, hn⟩
   refine ⟨fun hr => ?_, fun i hi => ?_⟩
   ·obtain ⟨j, hj⟩ := hready
    rw [hr] at hj
    cases hj
   ·obtain ⟨g1, o, g2, g3⟩ := mem_ready.1 hi
    simp only [List.getElem?_toArray] at g2
    have hil := (gSI.1 g2).1
    have hun : ¬ Lst L i := by
     unfold Lst
     have hsz : i < L.size := by rw [hs]; exact hil
     simp [hsz] at g1 ⊢
     exact g1
    have hip : i < pre.length := by
     rcases Nat.lt_trichotomy i pre.length with h | h | h
     ·exact h
     ·subst h; exact absurd hx hun
     ·exfalso
      obtain ⟨j, hj, hn⟩ := hu
      have hm := endOk_mask h3.en (k := i - (pre ++ [x]).length) (j := j) (by simp at hil ⊢; omega) (by simp; omega)
      rw [show (pre ++ [x]).length + (i - (pre ++ [x]).length) = i by simp; omega] at hm
      exact hn (mask_in hcl g2 g3 hm)
    rw [full_get hip] at g2
    obtain ⟨hfree, u, hu1, hu2⟩ := hfr i o g2 hun
    obtain ⟨q1, q2, q3, q4, q5⟩ := h3.free i o g2 hfree
    have hagree : ∀ t ∈ seen pre o, envOf a t = e t := fun t ht => by
     have h1 := hval t fun j oj hj hn hdj => by
      have hb := (q5 j oj t hj hdj ht).2
      have hcp : Closed pre (Lst L) := fun j oj hj hl ed he hbi => hcl j oj (by rw [full_get (gSI.1 hj).1]; exact hj) hl ed he hbi
      exact hn (mask_in hcp g2 g3 hb)
     rw [h1]
     cases hxd : x.dst with
     | none => rfl
     | some d =>
       simp only [upd]
       rw [if_neg]
       rintro rfl
       exact q4 _ hxd ht
    have hrun : (execOp (ev (envOf a)) o).run P w = .ok (.value u) w := rdv_run (by rw [rdv_agree hagree]; exact hu1)
    unfold wpOp
    simp only [List.getElem?_toArray, full_get hip, g2]
    rw [if_pos (by simp [Region.wanted, q1])]
    refine .inl ?_
    unfold Oper.wp
    rw [eval_envOf, hrun]
    have hdo := hd o (gMO (by rw [full_get hip]; exact g2))
    have hisz : i < L.size := by rw [hs, hlen]; omega
    refine ih _ _ (by simpa using hs) (hf.put _ _) (fun j hj => ?_) ((Lst_set hisz _).2 (.inl hx)) (fun j oj hj hl ed he hbi => ?_) (fun j oj hj hn => ?_) (fun t ht => ?_) ?_
    ·rcases (Lst_set hisz j).1 hj with h | rfl
     ·exact hle j h
     ·omega
    ·rw [Lst_set hisz] at hl ⊢
     left
     rcases hl with hl | rfl
     ·exact hcl j oj hj hl ed he hbi
     ·rw [full_get hip, g2] at hj
      obtain rfl := oSI hj
      exact g3 ed he hbi
    ·exact hfr j oj hj fun hl => hn ((Lst_set hisz _).2 (.inl hl))
    ·rw [envOf_put hf hdo]
     cases hod : o.dst with
     | none =>
       refine hval t fun j oj hj hn hdj => ?_
       exact ht j oj hj (fun hl => by
        rcases (Lst_set hisz j).1 hl with hl | rfl
        ·exact hn hl
        ·rw [g2] at hj
         obtain rfl := oSI hj
         rw [hod] at hdj
         cases hdj) hdj
     | some d =>
       simp only [upd]
       by_cases htd : t = d
       ·subst htd
        rw [if_pos rfl]
        cases hxd : x.dst with
        | none => exact (hu2 t hod).symm
        | some d' =>
          simp only
          rw [if_neg fun h => (q3 t hod).2 (by rw [hxd, h])]
          exact (hu2 t hod).symm
       ·rw [if_neg htd]
        refine hval t fun j oj hj hn hdj => ht j oj hj (fun hl => ?_) hdj
        rcases (Lst_set hisz j).1 hl with hl | rfl
        ·exact hn hl
        ·rw [g2] at hj
         obtain rfl := oSI hj
         rw [hod] at hdj
         exact htd (oSI hdj).symm
    ·have := cnt_set hip hisz hun
     omega
theorem rdr_class {op : Op} (h : (isPure op || isLoad op) = true) : (isCall op || isNew op) = false ∧ isStore op = false := by
 cases op <;> simp [isPure, isLoad, isCall, isNew, isStore] at h ⊢ <;> (rename_i c; cases hc : c.callee <;> simp [hc] at h ⊢ <;> exact h)
section
variable {late : List (Nat × Nat)} {sp : Nat → Spec} {w0 : World} {K1 : Kont} {e0 : Env}
theorem before3 (h3 : E3 pre x suf) (hok : Ok pre) (hlate : lateOf pre = late) (hd : ∀ o ∈ (pre ++ [x]) ++ suf, ∀ d', o.dst = some d' → d' < n) (hvd : vd P pre late sp w0 K1 0 pre (start e0))
 (hQ : ∀ a w, Fr n a → k (envOf a) w → Q .normal a w)
 (hK : ∀ e w, K1 e w → ∃ v w', (execOp (ev e) x).run P w = .ok (.value v) w' ∧ vops P ((pre ++ [x]) ++ suf).toArray suf k (upd e x.dst v) w' ∧ ∀ (j : Nat) (o : Oper), pre[j]? = some o → Free3 pre x j → ∀ u, rdv P w e o = some u → rdv P w' e o = some u)
 (hxa : ∀ e e' : Env, (∀ t ∈ seen pre x, e t = e' t) → execOp (ev e) x = execOp (ev e') x) :
 ∀ (fuel : Nat) (L L' : Array Bool) (a : Act) (w : World), L'.size = ((pre ++ [x]) ++ suf).length → (∀ j, Lst L' j ↔ (j < pre.length ∧ Lst L j)) → Fr n a → (∃ c β w1, Inv P pre sp w0 e0 n L a w c β w1) →
   (List.range pre.length).countP (fun i => !L.getD i false) + 1 + suf.length ≤ fuel → wpAny P .any ((pre ++ [x]) ++ suf).toArray Q fuel L' a w := by
 intro fuel
 have hlen : ((pre ++ [x]) ++ suf).length = pre.length + 1 + suf.length := by simp; omega
 have hd1 : ∀ o ∈ pre, ∀ d', o.dst = some d' → d' < n := fun o ho => hd o (by simp [ho])
 induction fuel with
 | zero => intro L L' a w _ _ _ _ hc; omega
 | succ fuel ih =>
   intro L L' a w hs' hLL hf hI hc
   obtain ⟨c, β, w1, hI⟩ := hI
   have hs : L.size = pre.length := hI.sz
   have hcl' : Closed pre (Lst L') := fun j oj hj hl ed he hbi => by
    rw [hLL] at hl ⊢
    have := hI.cl j oj hj hl.2 ed he hbi
    exact ⟨by have h1 := hok.back j oj hj ed he hbi; have := (gSI.1 hj).1; omega, this⟩
   have hready : ∃ j, j ∈ Region.ready .any ((pre ++ [x]) ++ suf).toArray L' := by
    by_cases hu : ∃ j, j < pre.length ∧ ¬ Lst L' j
    ·obtain ⟨j, hj, hn⟩ := hu
     induction j using Nat.strongRecOn with
     | _ j ihj =>
       by_cases hb : ∃ i, i < j ∧ ¬ Lst L' i
       ·obtain ⟨i, hi, hn⟩ := hb
        exact ihj i hi (by omega) hn
       ·have ho : ((pre ++ [x]) ++ suf)[j]? = some pre[j] := by rw [full_get hj]; simp [hj]
        refine ⟨j, mem_ready.2 ⟨?_, pre[j], by simpa using ho, fun ed he hbi => ?_⟩⟩
        ·unfold Lst at hn
         have hsz : j < L'.size := by rw [hs', hlen]; omega
         simp [hsz] at hn ⊢
         exact hn
        ·have := (endOk_back h3.en ho).1 ed he hbi
         exact Classical.byContradiction fun hn => hb ⟨ed.on, this, hn⟩
    ·refine ⟨pre.length, mem_ready.2 ⟨?_, x, by simpa using full_x, fun ed he hbi => ?_⟩⟩
     ·have hn : ¬ Lst L' pre.length := fun hl => by have := ((hLL _).1 hl).1; omega
      unfold Lst at hn
      have hsz : pre.length < L'.size := by rw [hs', hlen]; omega
      simp [hsz] at hn ⊢
      exact hn
     ·have := (endOk_back h3.en full_x).1 ed he hbi
      exact Classical.byContradiction fun hn => hu ⟨ed.on, this, hn⟩
   refine ⟨fun hr => ?_, fun i hi => ?_⟩
   ·obtain ⟨j, hj⟩ := hready
    rw [hr] at hj
    cases hj
   obtain ⟨g1, o, g2, g3⟩ := mem_ready.1 hi
   simp only [List.getElem?_toArray] at g2
   have hil := (gSI.1 g2).1
   have hisz : i < L'.size := by rw [hs']; exact hil
   have hun : ¬ Lst L' i := by
    unfold Lst
    simp [hisz] at g1 ⊢
    exact g1
   rcases Nat.lt_trichotomy i pre.length with hip | hip | hip
   ·-- an operation of the beginning
    have ho := g2
    rw [full_get hip] at g2
    have hunL : ¬ Lst L i := fun h => hun ((hLL i).2 ⟨hip, h⟩)
    have hir : i ∈ Region.ready .any pre.toArray L := by
     refine mem_ready.2 ⟨?_, o, by simpa using g2, fun ed he hbi => ((hLL _).1 (g3 ed he hbi)).2⟩
     unfold Lst at hunL
     have hsz : i < L.size := by omega
     simp [hsz] at hunL ⊢
     exact hunL
    have hw := inv_step hok hlate hd1 hvd hI hir Q
    have hy : Region.wanted o (yielded ((pre ++ [x]) ++ suf).toArray a.tmps) = Region.wanted o (yielded pre.toArray a.tmps) := by
     cases hg : o.guard with
     | none => simp [Region.wanted, hg]
     | some g =>
       obtain ⟨j, b⟩ := g
       have := (endOk_back h3.en ho).2 j b hg
       simp only [Region.wanted, hg, yielded, List.getElem?_toArray]
       rw [full_get (by omega)]
    have hK2 : ∀ a w, (Fr n a ∧ ∃ c β w1, Inv P pre sp w0 e0 n (L.setIfInBounds i true) a w c β w1) → wpAny P .any ((pre ++ [x]) ++ suf).toArray Q fuel (L'.setIfInBounds i true) a w := by
     rintro a w ⟨hf, hI'⟩
     refine ih _ _ a w (by simpa using hs') (fun j => ?_) hf hI' ?_
     ·rw [Lst_set hisz, Lst_set (by omega), hLL]
      constructor
      ·rintro (h | rfl)
       ·exact ⟨h.1, .inl h.2⟩
       ·exact ⟨hip, .inr rfl⟩
      ·rintro ⟨h1, h | rfl⟩
       ·exact .inl ⟨h1, h⟩
       ·exact .inr rfl
     ·have := cnt_set hip (by omega) hunL
      omega
    refine wpOp_mono (P := P) (fun a' w' hI' => hK2 a' w' ?_) ?_ (K := fun a' w' => ∃ c β w1, Inv P pre sp w0 e0 n (L.setIfInBounds i true) a' w' c β w1)
    ·obtain ⟨c, β, w1, hI'⟩ := hI'
     exact ⟨hI'.fr, c, β, w1, hI'⟩
    ·unfold wpOp at hw ⊢
     simp only [List.getElem?_toArray, g2, ho] at hw ⊢
     rw [hy]
     exact hw
   ·-- x itself
    subst hip
    rw [full_x] at g2
    obtain rfl := oSI g2
    have hcx : Closed (pre ++ [x]) (Lst L') := fun j oj hj hl ed he hbi => by
     have hjl := ((hLL j).1 hl).1
     rw [gAL hjl] at hj
     exact hcl' j oj hj hl ed he hbi
    have hxg : (pre ++ [x])[pre.length]? = some x := by rw [List.getElem?_append_right (Nat.le_refl _)]; simp
    have hfree : ∀ j, j < pre.length → ¬ Lst L j → Free3 pre x j := fun j hj hn => by
     unfold Free3
     cases hb : ((masks [] (pre ++ [x])).getD pre.length 0).testBit j with
     | false => rfl
     | true => exact absurd ((hLL j).1 (mask_in hcx hxg g3 hb)).2 hn
    have hShown : Shown P pre sp w0 c β (start e0) := fun j oj hj => (vd_run hvd rfl rfl c hI.fresh pre.length (Nat.le_refl _)).2 j oj (gSI.1 hj).1 hj
    have hcls := class_of (P := P) (ops := pre) (sp := sp) (w0 := w0) (e0 := e0) (c := c) (β := β) pre.length
    have hst0 : (SD P pre sp w0 e0 c β pre.length).st = [] := by
     cases hst : (SD P pre sp w0 e0 c β pre.length).st with
     | nil => rfl
     | cons y l =>
       exfalso
       obtain ⟨_, o, ho, hso⟩ := hcls.2 y (by rw [hst]; exact List.mem_cons_self)
       rw [h3.st o (gMO ho)] at hso
       cases hso
    have hw : w1 = w := by
     have := hI.st
     rw [hst0] at this
     simpa [stAll] using this
    subst hw
    obtain ⟨w', hw', hk1⟩ := (vd_end hvd rfl rfl c hI.fresh).2 w1 hI.ext (facts_all fun y hy => by
     obtain ⟨hlt, o, ho, hco⟩ := hcls.1 y hy
     refine hI.facts y hy (Classical.byContradiction fun hn => ?_)
     have := (rdr_class (h3.free y.1 o ho (hfree _ hlt hn)).2.1).1
     rw [this] at hco
     cases hco)
    rw [hst0] at hw'
    obtain rfl : w1 = w' := by simpa [stAll] using hw'
    obtain ⟨e, he⟩ : ∃ e, e = (SD P pre sp w0 e0 c β pre.length).e := ⟨_, rfl⟩
    rw [← he] at hk1
    have hval : ∀ t, (∀ (j : Nat) (o : Oper), pre[j]? = some o → ¬ Lst L j → o.dst ≠ some t) → envOf a t = e t := fun t ht => by
     by_cases hwr : ∃ (j : Nat) (oj : Oper), pre[j]? = some oj ∧ oj.dst = some t
     ·obtain ⟨j, oj, hj, hdj⟩ := hwr
      have hl : Lst L j := Classical.byContradiction fun hn => ht j oj hj hn hdj
      rw [hI.val j oj t hl hj hdj, he]
      exact (runD_val hShown hok.dst hj hdj _ (gSI.1 hj).1).symm
     ·rw [hI.old t fun j oj _ hj hdj => hwr ⟨j, oj, hj, hdj⟩, he]
      exact (runD_old hShown t _ fun j oj _ hj hdj => hwr ⟨j, oj, hj, hdj⟩).symm
    obtain ⟨v, w', hrun, hkk, hstb⟩ := hK e w1 hk1
    have hag : execOp (ev (envOf a)) x = execOp (ev e) x := hxa _ _ fun t ht => hval t fun j oj hj hn hdj => (h3.free j oj hj (hfree j (gSI.1 hj).1 hn)).2.2.1 t hdj |>.1 ht
    have hdx := hd x (by simp)
    unfold wpOp
    simp only [List.getElem?_toArray, full_x]
    rw [if_pos (by simp [Region.wanted, h3.xg])]
    refine .inl ?_
    unfold Oper.wp
    rw [eval_envOf, hag, hrun]
    refine after3 h3 hd hQ hkk fuel _ _ (by simpa using hs') (hf.put _ _) (fun j hj => ?_) ((Lst_set hisz _).2 (.inr rfl)) (fun j oj hj hl ed he hbi => ?_) (fun j oj hj hn => ?_) (fun t ht => ?_) ?_
    ·rcases (Lst_set hisz j).1 hj with h | rfl
     ·have := ((hLL j).1 h).1; omega
     ·exact Nat.le_refl _
    ·rw [Lst_set hisz] at hl ⊢
     left
     rcases hl with hl | rfl
     ·have hjl := ((hLL j).1 hl).1
      rw [full_get hjl] at hj
      exact hcl' j oj hj hl ed he hbi
     ·rw [full_x] at hj
      obtain rfl := oSI hj
      exact g3 ed he hbi
    ·have hjl := (gSI.1 hj).1
     have hnL : ¬ Lst L j := fun h => hn ((Lst_set hisz j).2 (.inl ((hLL j).2 ⟨hjl, h⟩)))
     have hfj := hfree j hjl hnL
     obtain ⟨q1, q2, q3, q4, q5⟩ := h3.free j oj hj hfj
     refine ⟨hfj, ?_⟩
     have hO := hShown j oj hj
     have hg : guardB pre oj (SD P pre sp w0 e0 c β j).e = true := by simp [guardB, q1]
     have hagj : ∀ t ∈ seen pre oj, (SD P pre sp w0 e0 c β j).e t = e t := fun t ht => by
      by_cases hwr : ∃ (i : Nat) (oi : Oper), pre[i]? = some oi ∧ oi.dst = some t
      ·obtain ⟨i, oi, hi, hdi⟩ := hwr
       have hij := (q5 i oi t hi hdi ht).1
       rw [he, runD_val hShown hok.dst hi hdi j hij, runD_val hShown hok.dst hi hdi pre.length (gSI.1 hi).1]
      ·rw [he, runD_old hShown t j fun i oi _ hi hdi => hwr ⟨i, oi, hi, hdi⟩, runD_old hShown t pre.length fun i oi _ hi hdi => hwr ⟨i, oi, hi, hdi⟩]
     have hu : ∃ u, rdv P w1 (SD P pre sp w0 e0 c β j).e oj = some u ∧ valD P pre sp w0 j oj c β (SD P pre sp w0 e0 c β j).e = u := by
      unfold OblD at hO
      have hO := hO hg
      unfold rdv valD
      rw [if_pos hg]
      cases hop : oj.op with
      | load t a =>
        rw [hop] at hO
        simp only at hO ⊢
        obtain ⟨b, off, u, h1, h2, h3⟩ := hO
        refine ⟨u, ?_, by rw [h2]; rfl⟩
        rw [h1] at h2 ⊢
        rw [lv_congr (w := w0) (fun off => by
         have := hI.ext.heap h3
         exact World.cell?_of_block this)]
        exact h2
      | store t a y =>
        rw [hop] at q2
        simp [isPure, isLoad] at q2
      | _ =>
        rw [hop] at hO q2
        simp only at hO ⊢
        first
         | (have hp : isPure oj.op = true := by rw [hop]; simpa [isLoad] using q2
            rw [hop] at hp
            rw [if_pos hp] at hO ⊢
            obtain ⟨u, hu⟩ := hO
            exact ⟨u, hu, by rw [hu]; rfl⟩)
         | (simp [isPure, isLoad] at q2)
     obtain ⟨u, hu1, hu2⟩ := hu
     rw [rdv_agree hagj] at hu1
     refine ⟨u, hstb j oj hj hfj u hu1, fun d hdd => ?_⟩
     rw [he, runD_val hShown hok.dst hj hdd pre.length hjl]
     exact hu2
    ·rw [envOf_put hf hdx]
     have h1 : envOf a t = e t ∨ x.dst = some t := by
      by_cases hxt : x.dst = some t
      ·exact .inr hxt
      ·refine .inl (hval t fun j oj hj hn hdj => ht j oj hj (fun hl => ?_) hdj)
       rcases (Lst_set hisz j).1 hl with hl | rfl
       ·exact hn ((hLL j).1 hl).2
       ·exact absurd (gSI.1 hj).1 (Nat.lt_irrefl _)
     cases hxd : x.dst with
     | none => rcases h1 with h1 | h1; exact h1; rw [hxd] at h1; cases h1
     | some d =>
       simp only [upd]
       split
       ·rfl
       ·rename_i hne
        rcases h1 with h1 | h1
        ·exact h1
        ·rw [hxd] at h1
         exact absurd (oSI h1).symm hne
    ·have hcnt : (List.range pre.length).countP (fun i => !(L'.setIfInBounds pre.length true).getD i false) = (List.range pre.length).countP (fun i => !L.getD i false) := by
      refine List.countP_congr fun j hj => ?_
      have hjl := List.mem_range.1 hj
      have : Lst (L'.setIfInBounds pre.length true) j ↔ Lst L j := by
       rw [Lst_set hisz, hLL]
       constructor
       ·rintro (h | rfl)
        ·exact h.2
        ·omega
       ·exact fun h => .inl ⟨hjl, h⟩
      unfold Lst at this
      cases h1 : (L'.setIfInBounds pre.length true).getD j false <;> cases h2 : L.getD j false <;> simp_all
     omega
   ·-- what comes behind x waits for it
    exfalso
    have hcf : Closed ((pre ++ [x]) ++ suf) (Lst L') := fun j oj hj hl ed he hbi => by
     have hjl := ((hLL j).1 hl).1
     rw [full_get hjl] at hj
     exact hcl' j oj hj hl ed he hbi
    have hm := endOk_mask h3.en (k := i - (pre ++ [x]).length) (j := pre.length) (by simp at hil ⊢; omega) (by simp; omega)
    rw [show (pre ++ [x]).length + (i - (pre ++ [x]).length) = i by simp; omega] at hm
    have := ((hLL _).1 (mask_in hcf g2 g3 hm)).1
    omega
theorem draw3 {id : Nat} {e : Env} {w : World} (late : List (Nat × Nat)) (sp : Nat → Spec) (hm : P.follows .mixedOrders = true) (hok : okD pre = true) (hlate : lateOf pre = late) (hend : end3 pre x suf = true)
 (hK : ∀ e w, K1 e w → ∃ v w', (execOp (ev e) x).run P w = .ok (.value v) w' ∧ vops P ((pre ++ [x]) ++ suf).toArray suf k (upd e x.dst v) w' ∧ ∀ (j : Nat) (o : Oper), pre[j]? = some o → Free3 pre x j → ∀ u, rdv P w e o = some u → rdv P w' e o = some u)
 (hxa : ∀ e e' : Env, (∀ t ∈ seen pre x, e t = e' t) → execOp (ev e) x = execOp (ev e') x)
 (h : vd P pre late sp w K1 0 pre ⟨e, [], [], [], [], [], []⟩) : vDraw P id ((pre ++ [x]) ++ suf).toArray k e w := by
 intro n a hf hd he
 subst he
 refine wp_region_any hm ?_
 have hnone : ∀ (m j : Nat), ¬ Lst (Array.replicate m false) j := fun m j h => by
  unfold Lst at h
  rw [getD_replicate_false'] at h
  cases h
 refine before3 (end3_spec hend) (okD_spec hok) hlate (fun o ho => hd o (by simpa using ho)) h (fun a' w' hf' hk => ⟨rfl, hf', hk⟩) hK hxa _ (Array.replicate pre.length false) _ a _ (by simp) (fun j => ⟨fun h => absurd h (hnone _ j), fun h => absurd h.2 (hnone _ j)⟩) hf ?_ ?_
 ·refine ⟨fun _ => ⟨undef, []⟩, fun j => w.heap.size + j, w.drew, hf, by simp, fun j o _ hl => absurd hl (hnone _ j), fun i hi => ⟨by omega, fun j hj hij => by omega, fun j r hr => absurd hr List.not_mem_nil⟩, fun j r hr => absurd hr List.not_mem_nil, (Ext.refl w).drew, fun j o t hl => absurd hl (hnone _ j), fun t _ => rfl, fun x hx hl => absurd hl (hnone _ x.1), ?_, fun j o hj hnw => ?_⟩
  ·rw [filter_none (fun _ => ⟨undef, []⟩) _ (fun j oj _ _ => hnone _ j)]
   rfl
  ·rw [if_neg (fun h => hnone _ j h.1)]
   show w.heap.size ≤ _
   omega
 ·have : (List.range pre.length).countP (fun i => !(Array.replicate pre.length false).getD i false) ≤ pre.length := by
   refine Nat.le_trans List.countP_le_length ?_
   simp
  have hsz : ((pre ++ [x]) ++ suf).toArray.size = pre.length + 1 + suf.length := by simp; omega
  rw [hsz]
  omega
end
end
end Go.Proofs.YtfnbhkbfelllgaaGreatDoor
