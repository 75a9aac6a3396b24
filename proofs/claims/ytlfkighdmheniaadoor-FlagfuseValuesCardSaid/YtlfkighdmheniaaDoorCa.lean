/- Contracts: slices.IndexFunc, slices.ContainsFunc, at expressions; il.CheckExpr and what it calls. -/
import Derived.Test.YtlfkighdmheniaaDoorBb
namespace Go.Proofs.YtlfkighdmheniaaDoor
open Go.RowKit
/-- A call that leaves the blocks as they were, but for garbage. -/
def Same0 (A : AHeap) (r0 : AV) (r : AV) (A' : AHeap) : Prop := r = r0 ∧ ∃ N, A' = A ++ N
/-- The garbage is dropped. -/
theorem AC.drop {P : Program} {f : FuncId} {args : List AV} {A : AHeap} {r0 : AV} (h : AC P f args A (Same0 A r0)) : AC P f args A fun r A' => r = cln A.length r0 ∧ A' = A.map (clnB A.length) :=
  h.sub fun r A' ⟨hr, N, hA⟩ => by
    subst hr hA
    exact ⟨_, _, Sub.take A.length (Nat.le_refl _), rfl, by simp⟩
/-- At no blocks: a contract from data to data. -/
theorem AC.af {P : Program} {f : FuncId} {args : List AV} {r : AV} (h : AC P f args [] (Res r)) : AF P f args r := by
  intro H w vs hH hs hm
  refine (h H none0 w vs hH (rel_nil H w) hs (by rw [nn_nil]; exact hm)).mono ?_
  rintro en w' ⟨v, r', ι', A', hv, hr, hR, hst, hval⟩
  unfold Res resO at hr
  split at hr
  · rename_i r0 r1 hr0
    have := reiV_sound (ι' := none0) (A' := []) hR hr0 hval
    exact ⟨v, hv, ⟨NLe.shp _ _ _ hr this.1, NLe.mem _ _ _ hr this.2⟩, hst.ext⟩
  · exact hr.elim
/-- slices.IndexFunc, at expressions, with a predicate that changes nothing. -/
theorem indexFunc_ac {f : Nat} {fs cs : List AV} {p : Ex → Bool} (A : AHeap) (l : List Ex) (hf : okF Tryd.prog f = true) (hp : ∀ a ∈ l, ∀ N, AC Tryd.prog f (fs ++ [exA a] ++ cs) (A ++ N) (Same0 A (aB (p a)))) :
    AC Tryd.prog 163 [.d (.sl 5 (Ex.ds l)), .fn f fs cs] A (Same0 A (aI .i64 (match l.findIdx? p with | some i => (i : Int) | none => -1))) := by
  refine ac_of Tryd.func163 rfl (by kernel_rfl) (by simp [Tryd.ntmps163]) fun hb => ?_
  have n1 : l.length ≤ maxLen := by simpa using hb.1.1
  clear hb
  obtain ⟨R, hR⟩ : ∃ R : Int, (match l.findIdx? p with | some i => (i : Int) | none => -1) = R := ⟨_, rfl⟩
  rw [hR]
  simp [Tryd.f163]
  refine aLoop_of (α := Nat) (fun i e A' => i ≤ l.length ∧ (∃ N, A' = A ++ N) ∧ e 8 = aI .i64 i ∧ e 7 = aI .i64 l.length ∧ e 0 = .d (.sl 5 (Ex.ds l)) ∧ e 1 = .fn f fs cs ∧
    ∀ (j : Nat) (a : Ex), j < i → l[j]? = some a → p a = false) (fun i => l.length - i) 0 (Sub.refl _ _ _) ⟨by omega, ⟨[], by simp⟩, by simp, by simp, by simp, by simp, by intro j a hj; omega⟩ ?_
  rintro i e A' ⟨hi, ⟨N, rfl⟩, e8, e7, e0, e1, hall⟩ K hK
  simp [e8, e7]
  refine aCond_split (fun hlt => ?_) (fun hge => ?_)
  · simp at hlt
    have hi1 := List.getElem?_eq_getElem hlt
    simp [e0, e1, e8, hi1, Ex.d_eq]
    refine aCall_ofc (hp l[i] (List.mem_of_getElem? hi1) N) hf ?_
    rintro _ _ ⟨rfl, N', rfl⟩
    simp
    refine aCond_split (fun ht => ?_) (fun hf => ?_)
    · have : l.findIdx? p = some i := by
        rw [List.findIdx?_eq_some_iff_getElem]
        exact ⟨hlt, ht, fun j hj => by simpa using hall j _ hj (List.getElem?_eq_getElem (by omega))⟩
      rw [this] at hR
      subst hR
      simp [Same0]
    · simp [e8, succ_wrap hlt n1]
      refine hK (i + 1) _ _ _ _ (Sub.refl _ _ _) ⟨by omega, ⟨N', rfl⟩, by simp, by simp [e7], by simp [e0], by simp [e1], fun j a hj ha => ?_⟩ (by omega)
      rcases Nat.lt_or_ge j i with h | h
      · exact hall j a h ha
      · obtain rfl : j = i := by omega
        rw [hi1] at ha
        obtain rfl := Option.some.inj ha
        exact hf
  · simp at hge
    have : l.findIdx? p = none := by
      rw [List.findIdx?_eq_none_iff]
      intro x hx
      obtain ⟨j, hj⟩ := List.getElem?_of_mem hx
      exact hall j x (by have := (List.getElem?_eq_some_iff.1 hj).1; omega) hj
    rw [this] at hR
    subst hR
    simp [Same0]
theorem containsFunc_ac {f : Nat} {fs cs : List AV} {p : Ex → Bool} (A : AHeap) (l : List Ex) (hf : okF Tryd.prog f = true) (hp : ∀ a ∈ l, ∀ N, AC Tryd.prog f (fs ++ [exA a] ++ cs) (A ++ N) (Same0 A (aB (p a)))) :
    AC Tryd.prog 119 [.d (.sl 5 (Ex.ds l)), .fn f fs cs] A (Same0 A (aB (l.any p))) := by
  refine ac_of Tryd.func119 rfl (by kernel_rfl) (by simp [Tryd.ntmps119]) fun hb => ?_
  simp [Tryd.f119]
  refine aCall_ofc (indexFunc_ac A l hf hp) (by simp) ?_
  rintro _ _ ⟨rfl, N, rfl⟩
  simp [Same0]
  cases h : l.findIdx? p with
  | none =>
    rw [List.findIdx?_eq_none_iff] at h
    simpa using h
  | some i =>
    rw [List.findIdx?_eq_some_iff_getElem] at h
    obtain ⟨hi, hp, _⟩ := h
    simpa using ⟨_, List.getElem_mem hi, hp⟩
/-- Has an expression at most n levels? -/
def shalB : Nat → Ex → Bool
  | 0, _ => false
  | n + 1, e => e.l.all (shalB n)
theorem shallow1_ac {n : Nat} (hn : n ≤ 1000000000) (ih : ∀ e : Ex, AF Tryd.prog 78 [exA e, aI .i64 n] (aB (shalB n e))) (b0 b1 : Blk) (h1 : b1 = ⟨0, true, 3, 1, [[aI .i64 (n + 1 : Nat)]]⟩) (x : Ex) (N : AHeap) :
    AC Tryd.prog 120 [exA x, .ptr 1 0 0 0] ([b0, b1] ++ N) (Same0 [b0, b1] (aB (!shalB n x))) := by
  subst h1
  refine ac_of Tryd.func120 rfl (by kernel_rfl) (by simp [Tryd.ntmps120]) fun hb => ?_
  simp [Tryd.f120, i64w (n := (n : Int)) (by omega)]
  refine aCall_of (ih x) (by simp) (by simp) ?_
  simp [Same0]
theorem shallow_af : ∀ (n : Nat) (e : Ex), n ≤ 1000000000 → AF Tryd.prog 78 [exA e, aI .i64 n] (aB (shalB n e)) := by
  intro n
  induction n with
  | zero =>
    intro e _
    refine af_of Tryd.func78 rfl (by kernel_rfl) (by simp [Tryd.ntmps78]) fun hb => ?_
    simp [Tryd.f78, shalB]
  | succ n ih =>
    intro e hn
    refine af_of Tryd.func78 rfl (by kernel_rfl) (by simp [Tryd.ntmps78]) fun hb => ?_
    clear hb
    simp [Tryd.f78, show (1 : Int) ≤ (n : Int) + 1 by omega]
    refine aCall_ofc (containsFunc_ac _ e.l (p := fun x => !shalB n x) (by simp) fun x _ N => shallow1_ac (by omega) (fun e => ih e (by omega)) _ _ rfl x N).drop (by simp) ?_
    rintro _ _ ⟨rfl, rfl⟩
    simp
    rw [shalB, List.not_all_eq_any_not]
end Go.Proofs.YtlfkighdmheniaaDoor
