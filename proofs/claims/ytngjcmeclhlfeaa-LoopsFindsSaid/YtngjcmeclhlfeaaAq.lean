/- The abstract calculator: a region that draws its order, order by order; a bool that is drawn. No program in sight. -/
import Derived.Test.YtngjcmeclhlfeaaAp
import Derived.Test.YtngjcmeclhlfeaaBa
set_option linter.unusedSimpArgs false
set_option linter.unusedVariables false
set_option linter.unnecessarySimpa false
namespace Go.Proofs.Ytngjcmeclhlfeaa
open Go.RowKit
def aAny (P : Program) (n : Nat) (ops : List Oper) (k : AKont) : Nat → Array Bool → AKont
  | 0, L => fun e A => Region.ready .any ops.toArray L = [] ∧ k e A
  | f + 1, L => fun e A => (Region.ready .any ops.toArray L = [] → k e A) ∧ ∀ i ∈ Region.ready .any ops.toArray L, ∃ o, ops[i]? = some o ∧ o.guard = none ∧ avop P n o (aAny P n ops k f (L.setIfInBounds i true)) e A
section
variable {P : Program} {n : Nat} {K : AKont} {e : AEnv} {A : AHeap} {C : Ctx}
theorem aAny_sound {ops : List Oper} {m : Nat} (hn : C.A.length = n) (hd : ∀ o ∈ ops, ∀ d', o.dst = some d' → d' < m) : ∀ (f : Nat) (L : Array Bool) (e : AEnv) (A : AHeap) (a : Act) (w : World), Fr m a → Sta C e A (envOf a) w → aAny P n ops K f L e A →
    wpAny P .any ops.toArray (fun ex a' w' => ex = .normal ∧ Fr m a' ∧ Lift C K (envOf a') w') f L a w
  | 0, L, e, A, a, w, hf, hS, h => ⟨h.1, rfl, hf, e, A, h.2, hS⟩
  | f + 1, L, e, A, a, w, hf, hS, h => by
    refine ⟨fun hr => ⟨rfl, hf, e, A, h.1 hr, hS⟩, fun i hi => ?_⟩
    obtain ⟨o, ho, hg, hv⟩ := h.2 i hi
    unfold wpOp
    simp only [List.getElem?_toArray, ho]
    rw [if_pos (by simp [Region.wanted, hg])]
    exact .inl (vop_sound hf (hd o (List.mem_of_getElem? ho)) (fun a w hf' ⟨e', A', h', hS'⟩ => aAny_sound hn hd f _ e' A' a w hf' hS' h') (avop_sound hn hS hv))
theorem Sta.drew {ec : Env} {w : World} (h : Sta C e A ec w) : Sta C e A ec w.drew := by
  obtain ⟨h0, ι, h1, h2, h3, h4⟩ := h
  obtain ⟨r1, r2⟩ := rel_ext h1 (w' := w.drew) ((Ext.refl w).drew)
  exact ⟨h0, ι, r1, h2.trans r2, h3, fun i => Mem.keep r2.keepD _ _ (h4 i)⟩
/-- A region that draws its order, order by order. -/
theorem adraw_all {id : Nat} {ops : List Oper} (hm : P.follows .mixedOrders = true) (h : aAny P n ops K ops.length (Array.replicate ops.length false) e A) : aDraw P n id ops.toArray K e A := by
  intro C ec w hn hS m a hf hd he
  subst he
  refine wp_region_any hm ?_
  simpa using aAny_sound hn (fun o ho => hd o (by simpa using ho)) ops.length _ e A a w.drew hf hS.drew h
theorem aAny_step {ops : List Oper} {f : Nat} {L : Array Bool} {r : List Nat} (hr : Region.ready .any ops.toArray L = r) (hne : r ≠ []) (h : ∀ i ∈ r, ∃ o, ops[i]? = some o ∧ o.guard = none ∧ avop P n o (aAny P n ops K f (L.setIfInBounds i true)) e A) : aAny P n ops K (f + 1) L e A :=
  ⟨fun h0 => absurd (hr.symm.trans h0) hne, fun i hi => h i (by rw [← hr]; exact hi)⟩
/-- Two stores in either order: the bool that is loaded is any. -/
theorem adraw_bool {T s t y1 y2 y3 y4 id : Nat} {p1 p2 p3 p4 : String} (hm : P.follows .mixedOrders = true) (hz : zvA P T = some [.d (.v (.bool false))]) (hk : tk P T = some (false, 1)) (hst : ¬ s = t)
    (h : ∀ b : Bool, K (aupd (aupd e (some s) (.ptr A.length 0 0 0)) (some t) (aB b)) (A ++ [⟨0, true, T, 1, [[aB b]]⟩])) (hT : T < 1000000 := by decide) :
    aDraw P n id #[⟨some s, .alloc T, y1, p1, #[], none⟩, ⟨none, .store T (.tmp s) (.const (.bool true)), y2, p2, #[⟨0, .data⟩, ⟨2, .gcOnly .appendInPlace⟩], none⟩, ⟨none, .store T (.tmp s) (.const (.bool false)), y3, p3, #[⟨0, .data⟩, ⟨1, .textOnly .appendInPlace⟩], none⟩, ⟨some t, .load T (.tmp s), y4, p4, #[⟨0, .data⟩, ⟨0, .phase⟩, ⟨1, .phase⟩, ⟨2, .phase⟩], none⟩] K e A := by
  have hts : ¬ t = s := fun h => hst h.symm
  refine adraw_all (ops := [⟨some s, .alloc T, y1, p1, #[], none⟩, ⟨none, .store T (.tmp s) (.const (.bool true)), y2, p2, #[⟨0, .data⟩, ⟨2, .gcOnly .appendInPlace⟩], none⟩, ⟨none, .store T (.tmp s) (.const (.bool false)), y3, p3, #[⟨0, .data⟩, ⟨1, .textOnly .appendInPlace⟩], none⟩, ⟨some t, .load T (.tmp s), y4, p4, #[⟨0, .data⟩, ⟨0, .phase⟩, ⟨1, .phase⟩, ⟨2, .phase⟩], none⟩]) hm ?_
  obtain ⟨ops, hops⟩ : ∃ ops : List Oper, [⟨some s, .alloc T, y1, p1, #[], none⟩, ⟨none, .store T (.tmp s) (.const (.bool true)), y2, p2, #[⟨0, .data⟩, ⟨2, .gcOnly .appendInPlace⟩], none⟩, ⟨none, .store T (.tmp s) (.const (.bool false)), y3, p3, #[⟨0, .data⟩, ⟨1, .textOnly .appendInPlace⟩], none⟩, ⟨some t, .load T (.tmp s), y4, p4, #[⟨0, .data⟩, ⟨0, .phase⟩, ⟨1, .phase⟩, ⟨2, .phase⟩], none⟩] = ops := ⟨_, rfl⟩
  have o0 : ops[0]? = some ⟨some s, .alloc T, y1, p1, #[], none⟩ := by rw [← hops]; rfl
  have o1 : ops[1]? = some ⟨none, .store T (.tmp s) (.const (.bool true)), y2, p2, #[⟨0, .data⟩, ⟨2, .gcOnly .appendInPlace⟩], none⟩ := by rw [← hops]; rfl
  have o2 : ops[2]? = some ⟨none, .store T (.tmp s) (.const (.bool false)), y3, p3, #[⟨0, .data⟩, ⟨1, .textOnly .appendInPlace⟩], none⟩ := by rw [← hops]; rfl
  have o3 : ops[3]? = some ⟨some t, .load T (.tmp s), y4, p4, #[⟨0, .data⟩, ⟨0, .phase⟩, ⟨1, .phase⟩, ⟨2, .phase⟩], none⟩ := by rw [← hops]; rfl
  have r0 : Region.ready .any ops.toArray #[false, false, false, false] = [0] := by rw [← hops]; kernel_rfl
  have r1 : Region.ready .any ops.toArray #[true, false, false, false] = [1, 2] := by rw [← hops]; kernel_rfl
  have r2 : Region.ready .any ops.toArray #[true, true, false, false] = [2] := by rw [← hops]; kernel_rfl
  have r3 : Region.ready .any ops.toArray #[true, false, true, false] = [1] := by rw [← hops]; kernel_rfl
  have r4 : Region.ready .any ops.toArray #[true, true, true, false] = [3] := by rw [← hops]; kernel_rfl
  have r5 : Region.ready .any ops.toArray #[true, true, true, true] = [] := by rw [← hops]; kernel_rfl
  have hlen : ops.length = 4 := by rw [← hops]; rfl
  rw [hops]
  clear hops
  have hg : ∀ b : Bool, (A ++ [(⟨0, true, T, 1, [[aB b]]⟩ : Blk)])[A.length]? = some ⟨0, true, T, 1, [[aB b]]⟩ := fun b => by simp
  have hset : ∀ b c : Bool, (A ++ [(⟨0, true, T, 1, [[aB b]]⟩ : Blk)]).set A.length ⟨0, true, T, 1, [[aB c]]⟩ = A ++ [⟨0, true, T, 1, [[aB c]]⟩] := fun b c => by simp
  have hst1 : ∀ b c : Bool, astv P (A ++ [(⟨0, true, T, 1, [[aB b]]⟩ : Blk)]) T (.ptr A.length 0 0 0) (aB c) = some (A ++ [⟨0, true, T, 1, [[aB c]]⟩]) := fun b c => by
    simp [astv, hk, cellsA, setEls, putA, hT]
  have hld : ∀ b : Bool, alv P (A ++ [(⟨0, true, T, 1, [[aB b]]⟩ : Blk)]) T (.ptr A.length 0 0 0) = some (aB b) := fun b => by
    simp [alv, hk, hT]
  rw [hlen]
  show aAny P n ops K 4 #[false, false, false, false] e A
  refine aAny_step r0 (by simp) fun i hi => ?_
  obtain rfl : i = 0 := List.mem_singleton.1 hi
  refine ⟨_, o0, rfl, ?_⟩
  simp [newA, hz]
  refine aAny_step r1 (by simp) fun i hi => ?_
  have last : ∀ b : Bool, aAny P n ops K 1 #[true, true, true, false] (aupd e (some s) (.ptr A.length 0 0 0)) (A ++ [⟨0, true, T, 1, [[aB b]]⟩]) := fun b => by
    refine aAny_step r4 (by simp) fun i hi => ?_
    obtain rfl : i = 3 := List.mem_singleton.1 hi
    refine ⟨_, o3, rfl, ?_⟩
    simp [hk, hT]
    exact ⟨r5, h b⟩
  rcases (by simpa using hi : i = 1 ∨ i = 2) with rfl | rfl
  · refine ⟨_, o1, rfl, ?_⟩
    simp [hk, putA, hT]
    refine aAny_step r2 (by simp) fun i hi => ?_
    obtain rfl : i = 2 := List.mem_singleton.1 hi
    refine ⟨_, o2, rfl, ?_⟩
    simp [hk, putA, hT]
    exact last false
  · refine ⟨_, o2, rfl, ?_⟩
    simp [hk, putA, hT]
    refine aAny_step r3 (by simp) fun i hi => ?_
    obtain rfl : i = 1 := List.mem_singleton.1 hi
    refine ⟨_, o1, rfl, ?_⟩
    simp [hk, putA, hT]
    exact last true
end
end Go.Proofs.Ytngjcmeclhlfeaa
