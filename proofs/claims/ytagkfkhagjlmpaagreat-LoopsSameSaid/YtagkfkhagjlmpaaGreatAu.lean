import Derived.Test.YtagkfkhagjlmpaaGreatAs
namespace Go.Proofs.YtagkfkhagjlmpaaGreat
open Go.RowKit
section
variable {P : Program} {K : AKont} {e : AEnv} {A : AHeap} {d : Option Nat}
theorem AC.frz (B : List Nat) {f : FuncId} {args : List AV} {R : AV → AHeap → Prop} (h : AC P f args (frz B A) R) : AC P f args A R := by
 intro H ι w vs hH hR h1 h2
 have hl := h1.len
 obtain ⟨_, ι', g1, g2, g3, g4⟩ := Sub.frz (n := A.length) B (e := fun i => args.getD i .any) (A := A) ⟨H, ι, A, w⟩ (fun i => vs.getD i default) w rfl ⟨hH, ι, hR, Step.refl _ _ _, fun i => by
  rcases Nat.lt_or_ge i args.length with hi | hi
  ·obtain ⟨u, hu, hs⟩ := h1.get (gEG hi)
   simp only [List.getD, gEG hi, hu, Option.getD_some]
   exact hs
  ·simp only [List.getD, List.getElem?_eq_none hi, Option.getD_none]
   simp [Shp], fun i => by
  rcases Nat.lt_or_ge i args.length with hi | hi
  ·obtain ⟨u, hu, hs⟩ := h1.get (gEG hi)
   simp only [List.getD, gEG hi, hu, Option.getD_some]
   exact h2.get (gEG hi) hu
  ·simp only [List.getD, List.getElem?_eq_none hi, Option.getD_none]
   simp [Mem]⟩
 refine (h H ι' w vs (hH.step g2) g1 (ShpL.of hl fun i c u hc hu => ?_) (MemL.of hl fun i c u hc hu => ?_)).mono ?_
 ·have := g3 i
  simpa [List.getD, hc, hu] using this
 ·have := g4 i
  simpa [List.getD, hc, hu] using this
 ·rintro en w' ⟨v, r, ι'', A'', a, b, c1, c2, c3⟩
  exact ⟨v, r, ι'', A'', a, b, c1, g2.trans c2, c3⟩
theorem aCall_ofz (B : List Nat) {g : FuncId} {fs args cs args' : List AV} {r : AV} (h : AF P g args' r) (hok : okF P g = true) (hr : argO (omap (reiV true (frz B A) 9) (fs ++ args ++ cs)) args') (hk : K (aupd e d r) (frz B A)) : aCall P (.fn g fs cs) args A d e K :=
 ⟨g, fs, cs, rfl, hok, AC.frz B ((h.ac hr).mono fun r' A' ⟨e1, e2⟩ => by subst e1 e2; exact hk)⟩
end
end Go.Proofs.YtagkfkhagjlmpaaGreat
