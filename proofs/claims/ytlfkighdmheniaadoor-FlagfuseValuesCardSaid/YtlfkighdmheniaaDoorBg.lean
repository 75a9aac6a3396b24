/- Contracts: Recognize, of flagfuse and of the reference; the law's size. -/
import Derived.Test.YtlfkighdmheniaaDoorBf
namespace Go.Proofs.YtlfkighdmheniaaDoor
open Go.RowKit
/-- The condition that a flag expression is, if it is one. -/
def recN (e : Ex) : Option Nat := (List.range 15).find? fun k => sameB e (flagE k)
def recA (e : Ex) : AV := match recN e with
  | some k => .tup [aI .i64 k, aB true]
  | none => .tup [aI .i64 0, aB false]
theorem rec_some {e : Ex} {k : Nat} (hk : k < 15) (h : sameB e (flagE k) = true) (hl : ∀ j, j < k → sameB e (flagE j) = false) : recA e = .tup [aI .i64 k, aB true] := by
  have : recN e = some k := by
    unfold recN
    rw [List.find?_eq_some_iff_getElem]
    refine ⟨h, k, by simpa using hk, by simp, fun j hj => by simpa using hl j hj⟩
  unfold recA
  rw [this]
theorem rec_none {e : Ex} (hl : ∀ j, j < 15 → sameB e (flagE j) = false) : recA e = .tup [aI .i64 0, aB false] := by
  have : recN e = none := by
    unfold recN
    rw [List.find?_eq_none]
    intro k hk
    simpa using hl k (by simpa using hk)
  unfold recA
  rw [this]
theorem order_at {k : Nat} (h : k < 15) : (({ data := #[97, 98, 99, 100, 101, 102, 103, 104, 105, 106, 107, 108, 109, 110, 111] } : ByteArray)[k]?).map (fun b => AV.d (.v (.int .u8 b.toNat))) = some (aI .u8 (97 + k)) := by
  have : k = 0 ∨ k = 1 ∨ k = 2 ∨ k = 3 ∨ k = 4 ∨ k = 5 ∨ k = 6 ∨ k = 7 ∨ k = 8 ∨ k = 9 ∨ k = 10 ∨ k = 11 ∨ k = 12 ∨ k = 13 ∨ k = 14 := by omega
  rcases this with rfl | rfl | rfl | rfl | rfl | rfl | rfl | rfl | rfl | rfl | rfl | rfl | rfl | rfl | rfl <;> rfl
theorem rec_af (x : Ex) : AF Tryd.prog 12 [exA x] (recA x) := by
  refine af_of Tryd.func12 rfl (by kernel_rfl) (by simp [Tryd.ntmps12]) fun _ => ?_
  obtain ⟨R, hR⟩ : ∃ R, recA x = R := ⟨_, rfl⟩
  rw [hR]
  simp [Tryd.f12]
  refine aLoop_of (α := Nat) (fun i e A => i ≤ 15 ∧ A = [⟨0, true, 25, 5, [[aI .i64 x.op, aI .u32 x.n, aI .i64 x.v, aI .i64 x.wd, .d (.sl 5 (Ex.ds x.l))]]⟩] ∧ e 1 = .ptr 0 0 0 0 ∧ e 6 = aI .i64 i ∧
    ∀ j, j < i → sameB x (flagE j) = false) (fun i => 15 - i) 0 (Sub.refl _ _ _) ⟨by omega, by simp, by simp, by simp, by intro j hj; omega⟩ ?_
  rintro i e A ⟨hi, rfl, e1, e6, hall⟩ K hK
  simp [e6]
  refine aCond_split (fun hlt => ?_) (fun hge => ?_)
  · simp at hlt
    have hlt : i < 15 := by omega
    simp [e1, e6, order_at hlt]
    refine adraw [] (by kernel_rfl) (by kernel_rfl) (by kernel_rfl) (by kernel_rfl) ?_
    simp [e1]
    rw [u8w (n := 97 + (i : Int) - 97) (by omega), i64w (by omega), show (97 + (i : Int) - 97) = (i : Int) by omega]
    refine adC_of (flagExpr_af i hlt) (by simp) trivial (by simp) (by simp) ?_
    simp
    refine adC_of (same_af x (flagE i)) (by simp) trivial (by simp) (by simp) ?_
    simp
    refine aCond_split (fun hs => ?_) (fun hs => ?_)
    · rw [rec_some hlt hs hall] at hR
      subst hR
      simp
    · simp [e6, i64w (n := (i : Int) + 1) (by omega)]
      refine hK (i + 1) _ _ _ _ (Sub.refl _ _ _) ⟨by omega, rfl, by simp [e1], by simp, fun j hj => ?_⟩ (by omega)
      rcases Nat.lt_or_ge j i with h | h
      · exact hall j h
      · obtain rfl : j = i := by omega
        exact hs
  · simp at hge
    rw [rec_none fun j hj => hall j (by omega)] at hR
    subst hR
    simp
theorem rrec_af (x : Ex) : AF Tryd.prog 13 [exA x] (recA x) := by
  refine af_of Tryd.func13 rfl (by kernel_rfl) (by simp [Tryd.ntmps13]) fun _ => ?_
  obtain ⟨R, hR⟩ : ∃ R, recA x = R := ⟨_, rfl⟩
  rw [hR]
  simp [Tryd.f13]
  refine aLoop_of (α := Nat) (fun i e A => i ≤ 15 ∧ A = [⟨0, true, 25, 5, [[aI .i64 x.op, aI .u32 x.n, aI .i64 x.v, aI .i64 x.wd, .d (.sl 5 (Ex.ds x.l))]]⟩] ∧ e 1 = .ptr 0 0 0 0 ∧ e 4 = aI .i64 i ∧
    ∀ j, j < i → sameB x (flagE j) = false) (fun i => 15 - i) 0 (Sub.refl _ _ _) ⟨by omega, by simp, by simp, by simp, by intro j hj; omega⟩ ?_
  rintro i e A ⟨hi, rfl, e1, e4, hall⟩ K hK
  simp [e4]
  refine aCond_split (fun hlt => ?_) (fun hge => ?_)
  · simp at hlt
    have hlt : i < 15 := by omega
    simp [e1, e4]
    refine aCall_of (rflag_af i hlt) (by simp) (by simp) ?_
    simp [e1]
    refine aCall_of (refsame_af x (flagE i)) (by simp) (by simp) ?_
    simp
    refine aCond_split (fun hs => ?_) (fun hs => ?_)
    · rw [rec_some hlt hs hall] at hR
      subst hR
      simp [e4]
    · simp [e4, i64w (n := (i : Int) + 1) (by omega)]
      refine hK (i + 1) _ _ _ _ (Sub.take 1 (by omega)) ⟨by omega, by simp, by simp [e1], by simp, fun j hj => ?_⟩ (by omega)
      rcases Nat.lt_or_ge j i with h | h
      · exact hall j h
      · obtain rfl : j = i := by omega
        exact hs
  · simp at hge
    rw [rec_none fun j hj => hall j (by omega)] at hR
    subst hR
    simp
theorem nodess_take {l : List Ex} {i : Nat} {x : Ex} (h : l[i]? = some x) : Ex.nodess (l.take (i + 1)) = Ex.nodess (l.take i) + x.nodes := by
  have : ∀ (a b : List Ex), Ex.nodess (a ++ b) = Ex.nodess a + Ex.nodess b := by
    intro a b
    induction a with
    | nil => simp [Ex.nodess]
    | cons y a ih => simp [Ex.nodess, ih]; omega
  rw [List.take_add_one, h, this]
  simp [Ex.nodess]
theorem nodess_take_le : ∀ (l : List Ex) (i : Nat), Ex.nodess (l.take i) ≤ Ex.nodess l
  | [], i => by simp
  | x :: l, 0 => by simp [Ex.nodess]
  | x :: l, i + 1 => by have := nodess_take_le l i; simp [Ex.nodess]; omega
theorem nodes_eq (x : Ex) : x.nodes = Ex.nodess x.l + 1 := by cases x; rfl
/-- The law's size: what is left of so many. -/
theorem size_af : ∀ (x : Ex) (m : Nat), 1 ≤ m → m ≤ 1000000000 → AF Tryd.prog 10 [exA x, aI .i64 m] (aI .i64 (m - x.nodes : Nat)) := by
  intro x
  induction x using Ex.ind with
  | h x ih =>
    intro m h1 h2
    refine af_of Tryd.func10 rfl (by kernel_rfl) (by simp [Tryd.ntmps10]) fun hb => ?_
    have n1 : x.l.length ≤ maxLen := by simpa using hb.1.2.2.2.2.1.1
    clear hb
    simp [Tryd.f10, i64w (n := (m : Int) - 1) (by omega)]
    refine aLoop_of (α := Nat) (fun i e A => i ≤ x.l.length ∧ A = [⟨0, true, 25, 5, [[aI .i64 x.op, aI .u32 x.n, aI .i64 x.v, aI .i64 x.wd, .d (.sl 5 (Ex.ds x.l))]]⟩] ∧ e 2 = .ptr 0 0 0 0 ∧ e 5 = aI .i64 i ∧
      e 1 = aI .i64 (m - 1 - Ex.nodess (x.l.take i) : Nat)) (fun i => x.l.length - i) 0 (Sub.refl _ _ _) ⟨by omega, by simp, by simp, by simp, by simp [Ex.nodess]; omega⟩ ?_
    rintro i e A ⟨hi, rfl, e2, e5, e1⟩ K hK
    simp [e2, e5]
    refine aG_split (fun hlt => ?_) (fun hge => ?_)
    · simp at hlt
      have hi1 := List.getElem?_eq_getElem hlt
      simp [e1, hlt]
      refine aCond_split (fun hpos => ?_) (fun hz => ?_)
      · simp at hpos
        simp [e2, e5, e1, hi1, Ex.d_eq]
        refine aCall_of (ih _ (List.mem_of_getElem? hi1) (m - 1 - Ex.nodess (x.l.take i)) (by omega) (by omega)) (by simp) (by simp) ?_
        simp [e5, succ_wrap hlt n1]
        refine hK (i + 1) _ _ _ _ (Sub.refl _ _ _) ⟨by omega, rfl, by simp [e2], by simp, ?_⟩ (by omega)
        simp
        rw [nodess_take hi1]
        omega
      · simp at hz
        simp [e1]
        have h3 := nodess_take_le x.l i
        rw [nodes_eq]
        omega
    · simp at hge
      obtain rfl : i = x.l.length := by omega
      simp [e1]
      rw [nodes_eq]
      omega
end Go.Proofs.YtlfkighdmheniaaDoor
