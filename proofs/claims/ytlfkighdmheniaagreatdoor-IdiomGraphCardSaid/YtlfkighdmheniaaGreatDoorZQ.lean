/- Texts that the claim leans on, laid one behind the other: Ap, Aq, Ar. -/
import Derived.Test.YtlfkighdmheniaaGreatDoorAs
import Derived.Test.YtlfkighdmheniaaGreatDoorBa
import Derived.Test.YtlfkighdmheniaaGreatDoorVcM
set_option linter.unusedSimpArgs false
set_option linter.unusedVariables false
set_option linter.unnecessarySimpa false
/- The abstract calculator: frames that are given slot by slot; loops over them. No program in sight. -/
set_option linter.unusedSimpArgs false
set_option linter.unusedVariables false
set_option linter.unnecessarySimpa false
namespace Go.Proofs.YtlfkighdmheniaaGreatDoor
open Go.RowKit
/-- A frame, slot by slot; of the others nothing is known. -/
def fr : List (Nat × AV) → AEnv
  | [] => fun _ => .any
  | (k, v) :: l => fun i => if i = k then v else fr l i
@[simp] theorem fr_nil (i : Nat) : fr [] i = .any := rfl
@[simp] theorem fr_cons (k : Nat) (v : AV) (l : List (Nat × AV)) (i : Nat) : fr ((k, v) :: l) i = if i = k then v else fr l i := rfl
theorem fr_le {A : AHeap} {e : AEnv} : ∀ {S : List (Nat × AV)}, (∀ p ∈ S, e p.1 = p.2) → ∀ i, VLe A (e i) (fr S i)
  | [], _, i => VLe.any _
  | (k, v) :: l, h, i => by
    rw [fr_cons]
    split
    · rename_i hi
      rw [hi, h (k, v) (List.mem_cons_self ..)]
      exact VLe.refl _
    · exact fr_le (fun p hp => h p (List.mem_cons_of_mem _ hp)) i
@[simp] theorem clnE_app (m : Nat) (a b : List (List AV)) : clnE m (a ++ b) = clnE m a ++ clnE m b := by simp [clnE]
@[simp] theorem clnE_set (m : Nat) (a : List (List AV)) (i : Nat) (x : List AV) : clnE m (a.set i x) = (clnE m a).set i (x.map (cln m)) := by simp [clnE, List.map_set]
section
variable {P : Program} {n : Nat} {K : AKont} {e : AEnv} {A : AHeap} {d : Option Nat}
theorem Sub.slots (S : List (Nat × AV)) (h : ∀ p ∈ S, e p.1 = p.2) : Sub n e A (fr S) A := Sub.env (fr_le h)
/-- The frame and the blocks may be read so: blocks from m on are forgotten. -/
theorem ent_of (m : Nat) (hm : n ≤ m) {S : List (Nat × AV)} {H : AHeap} (hA : (A.take m).map (clnB m) = H) (hS : ∀ p ∈ S, cln m (e p.1) = p.2) : Sub n e A (fr S) H := by
  subst hA
  exact (Sub.take m hm).trans (Sub.slots S hS)
/-- A loop over states: at state a the frame is S a, the blocks are B a. -/
theorem aLoop_st {α : Type} {body : AKont → AKont} (S : α → List (Nat × AV)) (B : α → AHeap) (I : α → Prop) (ν : α → Nat) (a : α) {e1 : AEnv} {A1 : AHeap} (hs : Sub n e A e1 A1) (m : Nat) (hm : n ≤ m)
    (hA : (A1.take m).map (clnB m) = B a) (hS : ∀ p ∈ S a, cln m (e1 p.1) = p.2) (h0 : I a)
    (h : ∀ (a : α), I a → ∀ K : AKont, (∀ (a' : α) {e' : AEnv} {A' : AHeap} {e2 : AEnv} {A2 : AHeap}, I a' → ν a' < ν a → Sub n e' A' e2 A2 → ∀ m : Nat, n ≤ m → (A2.take m).map (clnB m) = B a' → (∀ p ∈ S a', cln m (e2 p.1) = p.2) → K e' A') → body K (fr (S a)) (B a)) : aLoop n body e A := by
  refine aLoop_of (fun a e A => I a ∧ e = fr (S a) ∧ A = B a) ν a (hs.trans (ent_of m hm hA hS)) ⟨h0, rfl, rfl⟩ ?_
  rintro a e A ⟨hI, rfl, rfl⟩ K hK
  refine h a hI K fun a' e' A' e2 A2 hI' hν hs' m hm hA' hS' => ?_
  exact hK a' e' A' _ _ (hs'.trans (ent_of m hm hA' hS')) ⟨hI', rfl, rfl⟩ hν
end
end Go.Proofs.YtlfkighdmheniaaGreatDoor

/- The abstract calculator: a region that draws its order, order by order; a bool that is drawn. No program in sight. -/
set_option linter.unusedSimpArgs false
set_option linter.unusedVariables false
set_option linter.unnecessarySimpa false
namespace Go.Proofs.YtlfkighdmheniaaGreatDoor
open Go.RowKit
def aAny (P : Program) (n : Nat) (ops : List Oper) (k : AKont) : Nat → Array Bool → AKont
  | 0, L => fun e A => Region.ready .any ops.toArray L = [] ∧ k e A
  | f + 1, L => fun e A => (Region.ready .any ops.toArray L = [] → k e A) ∧ ∀ i ∈ Region.ready .any ops.toArray L, ∃ o, ops[i]? = some o ∧ o.guard = none ∧ avop P n o (aAny P n ops k f (L.setIfInBounds i true)) e A
section
variable {P : Program} {n : Nat} {K : AKont} {e : AEnv} {A : AHeap} {C : Ctx}
theorem aAny_sound {ops : List Oper} {m : Nat} (hn : C.A.length = n) (hd : ∀ o ∈ ops, ∀ d', o.dst = some d' → d' < m) : ∀ (f : Nat) (L : Array Bool) (e : AEnv) (A : AHeap) (a : Act) (w : World), Fr m a → Sta C e A (envOf a) w → aAny P n ops K f L e A →
    wpAny P .any ops.toArray (fun ex a' w' => ex = .normal ∧ Fr m a' ∧ Lift C K (envOf a') w') f L a w
  | 0, L, e, A, a, w, hf, hS, h => ⟨h.1, rfl, hf, e, A, h.2, hS⟩
  | f + 1, L, e, A, a, w, hf, hS, h => by
    refine ⟨fun hr => ⟨rfl, hf, e, A, h.1 hr, hS⟩, fun i hi => ?_⟩
    obtain ⟨o, ho, hg, hv⟩ := h.2 i hi
    unfold wpOp
    simp only [List.getElem?_toArray, ho]
    rw [if_pos (by simp [Region.wanted, hg])]
    exact .inl (vop_sound hf (hd o (List.mem_of_getElem? ho)) (fun a w hf' ⟨e', A', h', hS'⟩ => aAny_sound hn hd f _ e' A' a w hf' hS' h') (avop_sound hn hS hv))
theorem Sta.drew {ec : Env} {w : World} (h : Sta C e A ec w) : Sta C e A ec w.drew := by
  obtain ⟨h0, ι, h1, h2, h3, h4⟩ := h
  obtain ⟨r1, r2⟩ := rel_ext h1 (w' := w.drew) ((Ext.refl w).drew)
  exact ⟨h0, ι, r1, h2.trans r2, h3, fun i => Mem.keep r2.keepD _ _ (h4 i)⟩
/-- A region that draws its order, order by order. -/
theorem adraw_all {id : Nat} {ops : List Oper} (hm : P.follows .mixedOrders = true) (h : aAny P n ops K ops.length (Array.replicate ops.length false) e A) : aDraw P n id ops.toArray K e A := by
  intro C ec w hn hS m a hf hd he
  subst he
  refine wp_region_any hm ?_
  simpa using aAny_sound hn (fun o ho => hd o (by simpa using ho)) ops.length _ e A a w.drew hf hS.drew h
theorem aAny_step {ops : List Oper} {f : Nat} {L : Array Bool} {r : List Nat} (hr : Region.ready .any ops.toArray L = r) (hne : r ≠ []) (h : ∀ i ∈ r, ∃ o, ops[i]? = some o ∧ o.guard = none ∧ avop P n o (aAny P n ops K f (L.setIfInBounds i true)) e A) : aAny P n ops K (f + 1) L e A :=
  ⟨fun h0 => absurd (hr.symm.trans h0) hne, fun i hi => h i (by rw [← hr]; exact hi)⟩
/-- Two stores in either order: the bool that is loaded is any. -/
theorem adraw_bool {T s t y1 y2 y3 y4 id : Nat} {p1 p2 p3 p4 : String} (hm : P.follows .mixedOrders = true) (hz : zvA P T = some [.d (.v (.bool false))]) (hk : tk P T = some (false, 1)) (hst : ¬ s = t)
    (h : ∀ b : Bool, K (aupd (aupd e (some s) (.ptr A.length 0 0 0)) (some t) (aB b)) (A ++ [⟨0, true, T, 1, [[aB b]]⟩])) :
    aDraw P n id #[⟨some s, .alloc T, y1, p1, #[], none⟩, ⟨none, .store T (.tmp s) (.const (.bool true)), y2, p2, #[⟨0, .data⟩, ⟨2, .gcOnly .appendInPlace⟩], none⟩, ⟨none, .store T (.tmp s) (.const (.bool false)), y3, p3, #[⟨0, .data⟩, ⟨1, .textOnly .appendInPlace⟩], none⟩, ⟨some t, .load T (.tmp s), y4, p4, #[⟨0, .data⟩, ⟨0, .phase⟩, ⟨1, .phase⟩, ⟨2, .phase⟩], none⟩] K e A := by
  have hts : ¬ t = s := fun h => hst h.symm
  refine adraw_all (ops := [⟨some s, .alloc T, y1, p1, #[], none⟩, ⟨none, .store T (.tmp s) (.const (.bool true)), y2, p2, #[⟨0, .data⟩, ⟨2, .gcOnly .appendInPlace⟩], none⟩, ⟨none, .store T (.tmp s) (.const (.bool false)), y3, p3, #[⟨0, .data⟩, ⟨1, .textOnly .appendInPlace⟩], none⟩, ⟨some t, .load T (.tmp s), y4, p4, #[⟨0, .data⟩, ⟨0, .phase⟩, ⟨1, .phase⟩, ⟨2, .phase⟩], none⟩]) hm ?_
  obtain ⟨ops, hops⟩ : ∃ ops : List Oper, [⟨some s, .alloc T, y1, p1, #[], none⟩, ⟨none, .store T (.tmp s) (.const (.bool true)), y2, p2, #[⟨0, .data⟩, ⟨2, .gcOnly .appendInPlace⟩], none⟩, ⟨none, .store T (.tmp s) (.const (.bool false)), y3, p3, #[⟨0, .data⟩, ⟨1, .textOnly .appendInPlace⟩], none⟩, ⟨some t, .load T (.tmp s), y4, p4, #[⟨0, .data⟩, ⟨0, .phase⟩, ⟨1, .phase⟩, ⟨2, .phase⟩], none⟩] = ops := ⟨_, rfl⟩
  have o0 : ops[0]? = some ⟨some s, .alloc T, y1, p1, #[], none⟩ := by rw [← hops]; rfl
  have o1 : ops[1]? = some ⟨none, .store T (.tmp s) (.const (.bool true)), y2, p2, #[⟨0, .data⟩, ⟨2, .gcOnly .appendInPlace⟩], none⟩ := by rw [← hops]; rfl
  have o2 : ops[2]? = some ⟨none, .store T (.tmp s) (.const (.bool false)), y3, p3, #[⟨0, .data⟩, ⟨1, .textOnly .appendInPlace⟩], none⟩ := by rw [← hops]; rfl
  have o3 : ops[3]? = some ⟨some t, .load T (.tmp s), y4, p4, #[⟨0, .data⟩, ⟨0, .phase⟩, ⟨1, .phase⟩, ⟨2, .phase⟩], none⟩ := by rw [← hops]; rfl
  have r0 : Region.ready .any ops.toArray #[false, false, false, false] = [0] := by rw [← hops]; kernel_rfl
  have r1 : Region.ready .any ops.toArray #[true, false, false, false] = [1, 2] := by rw [← hops]; kernel_rfl
  have r2 : Region.ready .any ops.toArray #[true, true, false, false] = [2] := by rw [← hops]; kernel_rfl
  have r3 : Region.ready .any ops.toArray #[true, false, true, false] = [1] := by rw [← hops]; kernel_rfl
  have r4 : Region.ready .any ops.toArray #[true, true, true, false] = [3] := by rw [← hops]; kernel_rfl
  have r5 : Region.ready .any ops.toArray #[true, true, true, true] = [] := by rw [← hops]; kernel_rfl
  have hlen : ops.length = 4 := by rw [← hops]; rfl
  rw [hops]
  clear hops
  have hg : ∀ b : Bool, (A ++ [(⟨0, true, T, 1, [[aB b]]⟩ : Blk)])[A.length]? = some ⟨0, true, T, 1, [[aB b]]⟩ := fun b => by simp
  have hset : ∀ b c : Bool, (A ++ [(⟨0, true, T, 1, [[aB b]]⟩ : Blk)]).set A.length ⟨0, true, T, 1, [[aB c]]⟩ = A ++ [⟨0, true, T, 1, [[aB c]]⟩] := fun b c => by simp
  have hst1 : ∀ b c : Bool, astv P (A ++ [(⟨0, true, T, 1, [[aB b]]⟩ : Blk)]) T (.ptr A.length 0 0 0) (aB c) = some (A ++ [⟨0, true, T, 1, [[aB c]]⟩]) := fun b c => by
    simp [astv, hk, cellsA, setEls, putA]
  have hld : ∀ b : Bool, alv P (A ++ [(⟨0, true, T, 1, [[aB b]]⟩ : Blk)]) T (.ptr A.length 0 0 0) = some (aB b) := fun b => by
    simp [alv, hk]
  rw [hlen]
  show aAny P n ops K 4 #[false, false, false, false] e A
  refine aAny_step r0 (by simp) fun i hi => ?_
  obtain rfl : i = 0 := List.mem_singleton.1 hi
  refine ⟨_, o0, rfl, ?_⟩
  simp [newA, hz]
  refine aAny_step r1 (by simp) fun i hi => ?_
  have last : ∀ b : Bool, aAny P n ops K 1 #[true, true, true, false] (aupd e (some s) (.ptr A.length 0 0 0)) (A ++ [⟨0, true, T, 1, [[aB b]]⟩]) := fun b => by
    refine aAny_step r4 (by simp) fun i hi => ?_
    obtain rfl : i = 3 := List.mem_singleton.1 hi
    refine ⟨_, o3, rfl, ?_⟩
    simp [hk]
    exact ⟨r5, h b⟩
  rcases (by simpa using hi : i = 1 ∨ i = 2) with rfl | rfl
  · refine ⟨_, o1, rfl, ?_⟩
    simp [hk, putA]
    refine aAny_step r2 (by simp) fun i hi => ?_
    obtain rfl : i = 2 := List.mem_singleton.1 hi
    refine ⟨_, o2, rfl, ?_⟩
    simp [hk, putA]
    exact last false
  · refine ⟨_, o2, rfl, ?_⟩
    simp [hk, putA]
    refine aAny_step r3 (by simp) fun i hi => ?_
    obtain rfl : i = 1 := List.mem_singleton.1 hi
    refine ⟨_, o1, rfl, ?_⟩
    simp [hk, putA]
    exact last true
end
end Go.Proofs.YtlfkighdmheniaaGreatDoor

/- The abstract calculator: a region that draws its order, with an append that waits for less than all ahead of it. No program in sight. -/
set_option linter.unusedSimpArgs false
set_option linter.unusedVariables false
set_option linter.unnecessarySimpa false
namespace Go.Proofs.YtlfkighdmheniaaGreatDoor
open Go.RowKit
/-- What is read through the pointer is not in the block of s. -/
def stab1 (A : AHeap) (s : AV) : AV → Prop
  | .ip _ => True
  | .ptr b ver _ _ => (∃ k, curB A b ver = some k) ∧ (match s with | .own b2 _ _ _ => ¬ b = b2 | .d _ => True | _ => False)
  | _ => False
/-- Of the operations from number j on: those that the append does not wait for. -/
def stabL (A : AHeap) (e : AEnv) (s : AV) (m : Nat) : Nat → List Oper → Prop
  | _, [] => True
  | j, o :: os => (match o.op with
    | .load _ a => m.testBit j = true ∨ stab1 A s (eva e a)
    | _ => True) ∧ stabL A e s m (j + 1) os
theorem stabL_get {A : AHeap} {e : AEnv} {s : AV} {m : Nat} : ∀ {l : List Oper} {i j : Nat} {o : Oper} {t : TypeId} {a : Operand}, stabL A e s m i l → l[j]? = some o → o.op = .load t a → m.testBit (i + j) = false → stab1 A s (eva e a)
  | [], i, j, o, t, a, _, hj, _, _ => by simp at hj
  | x :: l, i, j, o, t, a, h, hj, ho, hm => by
    simp only [stabL] at h
    cases j with
    | zero =>
      simp at hj
      subst hj
      have h1 := h.1
      rw [ho] at h1
      simp only at h1
      rcases h1 with h1 | h1
      · rw [Nat.add_zero] at hm
        rw [h1] at hm; cases hm
      · exact h1
    | succ j =>
      exact stabL_get h.2 (j := j) (by simpa using hj) ho (by rw [show i + 1 + j = i + (j + 1) by omega]; exact hm)
section
variable {P : Program} {n : Nat} {k : AKont} {e : AEnv} {A : AHeap}
theorem exec_app {P : Program} {s y : Operand} {t ty : TypeId} {d : Option Nat} {pos : String} {af : Array Edge} {ec : Env} {w w' : World} {v : Value} (h : (Builtin.append_ #[t, t] ty #[ev ec s, ev ec y]).run P w = .ok v w') :
    (execOp (ev ec) ⟨d, .call ⟨.builtin .append, #[s, y], #[t, t]⟩, ty, pos, af, none⟩).run P w = .ok (.value v) w' := by
  unfold execOp
  simp only [resolve, invoke, Sem.run_bind, Sem.run_pure, Result.andThen_ok]
  simp only [Go.builtin, List.map_toArray, List.map_cons, List.map_nil, Sem.run_bind, h, Result.andThen_ok, Sem.run_pure]
theorem adraw3 {id : Nat} {l : List Oper} {s y : Operand} {t el sz bytes ty : Nat} {d : Option Nat} {pos : String} {af : Array Edge} (i m : Nat) (late : List (Nat × Nat)) (hm : P.follows .mixedOrders = true)
    (hx : l[i]? = some ⟨d, .call ⟨.builtin .append, #[s, y], #[t, t]⟩, ty, pos, af, none⟩) (hby : byt P t = some (el, sz, bytes))
    (hok : okD (l.take i) = true) (hlate : lateOf (l.take i) = late) (hT : okT (l.take i) = true) (hend : end3 (l.take i) ⟨d, .call ⟨.builtin .append, #[s, y], #[t, t]⟩, ty, pos, af, none⟩ (l.drop (i + 1)) = true)
    (hmask : (masks [] (l.take i ++ [⟨d, .call ⟨.builtin .append, #[s, y], #[t, t]⟩, ty, pos, af, none⟩])).getD (l.take i).length 0 = m)
    (h : avd P A.length (l.take i) late (fun _ _ => True) (fun e' A' => stabL A' e' (eva e' s) m 0 (l.take i) ∧ aApp (appA el sz A' (eva e' s) (eva e' y)) bytes e' d (avops P n l.toArray (l.drop (i + 1)) k)) 0 (l.take i) ⟨e, A, [], [], []⟩) : aDraw P n id l.toArray k e A := by
  rintro C ec w hn ⟨h0, ι, h1, h2, h3, h4⟩
  obtain ⟨rs, h⟩ := avd_ex (l.take i) 0 _ h
  have hil := (List.getElem?_eq_some_iff.1 hx).1
  obtain ⟨x, hxe⟩ : ∃ x : Oper, x = ⟨d, .call ⟨.builtin .append, #[s, y], #[t, t]⟩, ty, pos, af, none⟩ := ⟨_, rfl⟩
  rw [← hxe] at hx hend hmask
  have hl : (l.take i ++ [x]) ++ l.drop (i + 1) = l := by
    have hxi := (List.getElem?_eq_some_iff.1 hx).2
    have h5 : l.drop i = x :: l.drop (i + 1) := by rw [List.drop_eq_getElem_cons hil, hxi]
    rw [List.append_assoc, List.singleton_append, ← h5, List.take_append_drop]
  rw [← hl]
  refine draw3 (K1 := Lift C (fun e' A' => stabL A' e' (eva e' s) m 0 (l.take i) ∧ aApp (appA el sz A' (eva e' s) (eva e' y)) bytes e' d (avops P n l.toArray (l.drop (i + 1)) k))) late (fun i => spR (Zr C.H ι A w) (rs i)) hm hok hlate hend ?_ ?_ ?_
  · rintro ec w ⟨e', A', ⟨hst, r, A2, q, hr, hq, hqb, hk⟩, hS⟩
    have hS2 := hS
    obtain ⟨g0, ι, g1, g2, g3, g4⟩ := hS2
    obtain ⟨v, w', ι', p1, p2, p3, p4, p5⟩ := app_sound (ty := ty) hby hr hq hqb g1 (fun c hc => Nat.lt_of_lt_of_le (g0.1 c hc) g2.size) ⟨eva_shp g3 s, eva_mem g4 s⟩ ⟨eva_shp g3 y, eva_mem g4 y⟩
    refine ⟨v, w', by rw [hxe]; exact exec_app p1, ?_, fun j o hj hf u hu => ?_⟩
    · rw [hl]
      have hS' : Sta C (aupd e' x.dst r) A2 (upd ec x.dst v) w' := ⟨g0, ι', p2, g2.trans p3, shp_upd (fun i => Shp.step p3.stab _ _ (g3 i)) p4.1, mem_upd (fun i => Mem.keep p3.keepD _ _ (g4 i)) p4.2⟩
      exact avops_sound hn _ _ _ _ _ hS' (by rw [hxe]; exact hk)
    · unfold rdv at hu ⊢
      split
      case h_2 hop =>
        split at hu
        · rename_i t2 a2 ho2
          exact absurd ho2 (hop t2 a2)
        · exact hu
      rename_i t2 a2 ho2
      rw [ho2] at hu
      simp only at hu
      have hs1 := stabL_get hst hj ho2 (by rw [Nat.zero_add, ← hmask]; exact hf)
      have hsame : ∀ c o2, ev ec a2 = .pointer (some ⟨c, o2, none⟩) → SameB w w' c → lv P t2 (ev ec a2) w' = some u := fun c o2 hp hsb => by
        rw [hp] at hu ⊢
        rw [lv_congr (w := w) (fun off => hsb.cell)]
        exact hu
      have hav := eva_shp g3 a2
      have hmv := eva_mem g4 a2
      generalize eva e' a2 = av at hs1 hav hmv
      cases av with
      | ip cs =>
        simp only [Mem] at hmv
        obtain ⟨c, o2, hp, hb, _⟩ := hmv
        exact hsame c o2 hp (p3.keep c hb.1 fun hh => hb.2 (.inr hh))
      | ptr b ver i2 o2 =>
        simp only [stab1] at hs1
        obtain ⟨⟨kb, hkb⟩, hne⟩ := hs1
        obtain ⟨c, nn, hι, hp⟩ := ptr_shp hkb hav
        have hAb := curB_get hkb
        refine hsame c _ hp (p5 c (g1.hid b kb c nn hAb hι).2 fun he => ?_)
        have hsv := eva_shp g3 s
        have hap := hr
        unfold appA at hap
        split at hap
        case h_2 => cases hap
        split at hap
        case isFalse => cases hap
        generalize eva e' s = sv at hne hsv hap
        split at hap
        · simp only [Shp] at hsv
          rw [hsv] at he
          simp [Value.ownBlock] at he
        · rename_i b2 ver2 i3 len2
          simp only at hne
          split at hap
          case h_2 => cases hap
          rename_i k2 hk2
          rcases own_shp hk2 hsv with ⟨_, _, hus⟩ | ⟨c2, n2, cap, hι2, hus, _⟩
          · rw [hus] at he
            simp [Value.ownBlock] at he
          · rw [hus] at he
            simp only [Value.ownBlock, Option.some.injEq] at he
            subst he
            exact hne (g1.inj b b2 kb k2 c nn n2 hAb (curB_get hk2) hι hι2)
        · cases hap
      | any => exact hs1.elim
      | d x => exact hs1.elim
      | own b ver i2 len => exact hs1.elim
      | agg cs => exact hs1.elim
      | tup cs => exact hs1.elim
      | fn f fs cs => exact hs1.elim
  · intro e1 e2 he
    have hag := ev_agree (ops := l.take i) (o := x) he
    have hs1 : ev e1 s = ev e2 s := hag s (by rw [hxe]; simp [Op.operands, Call.operands])
    have hy1 : ev e1 y = ev e2 y := hag y (by rw [hxe]; simp [Op.operands, Call.operands])
    rw [hxe]
    unfold execOp
    simp [resolve, hs1, hy1]
  · refine avd_sound (T := taintOf (l.take i) []) h1 h0 h2 (l.take i) 0 ι ⟨e, A, [], [], []⟩ ⟨ec, [], [], [], [], [], []⟩ (fun o ho => List.all_eq_true.1 hT o ho) ⟨⟨fun _ _ h => h, fun _ _ => rfl, fun b k hb hk => ?_, fun b b' c m m' g1 g2 => absurd g1 (Nat.not_le.2 g2), fun c hc => absurd hc List.not_mem_nil, Nat.le_refl _⟩, h3, fun w' hx _ i => old_mem hx (h4 i), fun t _ => h4 t, fun x hx => absurd hx List.not_mem_nil, fun x hx => absurd hx List.not_mem_nil, rfl, fun i x y hx => by simp at hx⟩ h
    have := (List.getElem?_eq_some_iff.1 hk).1
    simp only at this
    omega
section
variable (B : AHeap) (g : AEnv) (s : AV) (m j : Nat) (os : List Oper) (d : Option Nat) (op : Op) (ty : TypeId) (pos : String) (af : Array Edge) (gd : Option (Nat × Bool))
@[simp] theorem stabL_nil : stabL B g s m j [] ↔ True := Iff.rfl
@[simp] theorem stabL_load (t : TypeId) (a : Operand) : stabL B g s m j (⟨d, .load t a, ty, pos, af, gd⟩ :: os) ↔ (m.testBit j = true ∨ stab1 B s (eva g a)) ∧ stabL B g s m (j + 1) os := Iff.rfl
theorem stabL_cons (o : Oper) : stabL B g s m j (o :: os) ↔ (match o.op with | .load _ a => m.testBit j = true ∨ stab1 B s (eva g a) | _ => True) ∧ stabL B g s m (j + 1) os := Iff.rfl
end
end
end Go.Proofs.YtlfkighdmheniaaGreatDoor
