import Derived.Test.YtfnbhkbfelllgaaGreatDoorAm
set_option linter.all false
namespace Go.Proofs.YtfnbhkbfelllgaaGreatDoor
open Go.RowKit
section
variable {P : Program} {n : Nat} {k1 k2 : AKont}
def aIter (body : AKont → AKont) : Nat → AKont
 | 0 => fun _ _ => False
 | k + 1 => body (aIter body k)
@[congr] theorem aIter_congr {b : AKont → AKont} {k : Nat} {e e' : AEnv} {A A' : AHeap} (he : e = e') (hA : A = A') : aIter b k e A = aIter b k e' A' := by rw [he, hA]
section
variable (b : AKont → AKont) (e : AEnv) (A : AHeap)
@[simp] theorem aIter_0 : aIter b 0 e A ↔ False := Iff.rfl
@[simp] theorem aIter_1 : aIter b 1 e A ↔ b (aIter b 0) e A := Iff.rfl
@[simp] theorem aIter_2 : aIter b 2 e A ↔ b (aIter b 1) e A := Iff.rfl
@[simp] theorem aIter_3 : aIter b 3 e A ↔ b (aIter b 2) e A := Iff.rfl
@[simp] theorem aIter_4 : aIter b 4 e A ↔ b (aIter b 3) e A := Iff.rfl
@[simp] theorem aIter_5 : aIter b 5 e A ↔ b (aIter b 4) e A := Iff.rfl
@[simp] theorem aIter_6 : aIter b 6 e A ↔ b (aIter b 5) e A := Iff.rfl
@[simp] theorem aIter_7 : aIter b 7 e A ↔ b (aIter b 6) e A := Iff.rfl
@[simp] theorem aIter_8 : aIter b 8 e A ↔ b (aIter b 7) e A := Iff.rfl
@[simp] theorem aIter_9 : aIter b 9 e A ↔ b (aIter b 8) e A := Iff.rfl
@[simp] theorem aIter_10 : aIter b 10 e A ↔ b (aIter b 9) e A := Iff.rfl
@[simp] theorem aIter_11 : aIter b 11 e A ↔ b (aIter b 10) e A := Iff.rfl
@[simp] theorem aIter_12 : aIter b 12 e A ↔ b (aIter b 11) e A := Iff.rfl
@[simp] theorem aIter_13 : aIter b 13 e A ↔ b (aIter b 12) e A := Iff.rfl
@[simp] theorem aIter_14 : aIter b 14 e A ↔ b (aIter b 13) e A := Iff.rfl
@[simp] theorem aIter_15 : aIter b 15 e A ↔ b (aIter b 14) e A := Iff.rfl
@[simp] theorem aIter_16 : aIter b 16 e A ↔ b (aIter b 15) e A := Iff.rfl
end
@[simp] theorem lateOk_cons (k j : Nat) (late lds sts : List (Nat × Nat)) : lateOk ((k, j) :: late) lds sts ↔ (∀ bk bj, (k, bk) ∈ sts → (j, bj) ∈ lds → ¬ bk = bj) ∧ lateOk late lds sts := by
  constructor
  ·exact fun h => ⟨fun bk bj h1 h2 => h k j bk bj List.mem_cons_self h1 h2, fun k' j' bk bj h0 h1 h2 => h k' j' bk bj (List.mem_cons_of_mem _ h0) h1 h2⟩
  ·rintro ⟨h, g⟩ k' j' bk bj h0 h1 h2
   rcases List.mem_cons.1 h0 with h0 | h0
   ·cases h0; exact h bk bj h1 h2
   ·exact g k' j' bk bj h0 h1 h2
end
theorem AC.pre {P : Program} {f : FuncId} {args args' : List AV} {A A' : AHeap} {R : AV → AHeap → Prop} {e' : AEnv} (hs : Sub A.length (aenv0 args) A e' A') (ha : args' = (List.range args.length).map e') (h : AC P f args' A' R) : AC P f args A R := by
 intro H ι w vs hH hR h1 h2
 have hlen := h1.len
 have hS : Sta ⟨H, ι, A, w⟩ (aenv0 args) A (fun i => vs.getD i Go.undef) w := by
  refine ⟨hH, ι, hR, Step.refl _ _ _, fun i => ?_, fun i => ?_⟩
  ·simp only [aenv0, List.getD_eq_getElem?_getD]
   rcases Nat.lt_or_ge i args.length with hi | hi
   ·obtain ⟨u, e1, e2⟩ := h1.get (gEG hi)
    rw [gEG hi, e1]
    exact e2
   ·rw [List.getElem?_eq_none hi]
    simp [Shp]
  ·simp only [aenv0, List.getD_eq_getElem?_getD]
   rcases Nat.lt_or_ge i args.length with hi | hi
   ·obtain ⟨u, e1, _⟩ := h1.get (gEG hi)
    rw [gEG hi, e1]
    exact h2.get (gEG hi) e1
   ·rw [List.getElem?_eq_none hi]
    simp [Mem]
 obtain ⟨_, ι', g1, g2, g3, g4⟩ := hs ⟨H, ι, A, w⟩ (fun i => vs.getD i Go.undef) w rfl hS
 ·have a1 : ShpL ι' A' args' vs := by
   rw [ha]
   refine ShpL.of (by simp [hlen]) fun i c u hc hu => ?_
   rw [List.getElem?_map, Option.map_eq_some_iff] at hc
   obtain ⟨j, hj, rfl⟩ := hc
   obtain ⟨rfl, hjl⟩ : j = i ∧ i < args.length := by
    rw [List.getElem?_range] at hj
    ·simp at hj; exact ⟨hj.symm, (gSI.1 hu).1 |> fun h => by omega⟩
    ·have := (gSI.1 hu).1; omega
   have := g3 j
   simp only [List.getD_eq_getElem?_getD, hu, Option.getD_some] at this
   exact this
  have a2 : MemL (Nn H ι' A') w args' vs := by
   rw [ha]
   refine MemL.of (by simp [hlen]) fun i c u hc hu => ?_
   rw [List.getElem?_map, Option.map_eq_some_iff] at hc
   obtain ⟨j, hj, rfl⟩ := hc
   obtain ⟨rfl, hjl⟩ : j = i ∧ i < args.length := by
    rw [List.getElem?_range] at hj
    ·simp at hj; exact ⟨hj.symm, (gSI.1 hu).1 |> fun h => by omega⟩
    ·have := (gSI.1 hu).1; omega
   have := g4 j
   simp only [List.getD_eq_getElem?_getD, hu, Option.getD_some] at this
   exact this
  refine (h H ι' w vs (hH.step g2) g1 a1 a2).mono ?_
  rintro en w' ⟨v, r, ι'', A'', q1, q2, q3, q4, q5⟩
  exact ⟨v, r, ι'', A'', q1, q2, q3, g2.trans q4, q5⟩
end Go.Proofs.YtfnbhkbfelllgaaGreatDoor
