/- The abstract calculator: a region that draws its order and writes a slot that it reads. No program in sight. -/
import Derived.Test.YtccjeoghjioamaaGreatDoorAs
set_option linter.unusedSimpArgs false
set_option linter.unusedVariables false
set_option linter.unnecessarySimpa false
namespace Go.Proofs.YtccjeoghjioamaaGreatDoor
open Go.RowKit
def taint2 (l : List Oper) : List Nat := taintOf l (taintOf l [])
def okT2 (l : List Oper) : Bool := l.all (okTo (taint2 l))
section
variable {P : Program} {n : Nat}
/-- As adraw; the slots that hang on a call are gathered twice. -/
theorem adrawT {id : Nat} {l : List Oper} {k : AKont} {e : AEnv} {A : AHeap} (late : List (Nat × Nat)) (hm : P.follows .mixedOrders = true) (hok : okD l = true) (hlate : lateOf l = late) (hT : okT2 l = true)
    (h : avd P A.length l late (fun _ _ => True) k 0 l ⟨e, A, [], [], []⟩) : aDraw P n id l.toArray k e A := by
  rintro C ec w hn ⟨h0, ι, h1, h2, h3, h4⟩
  obtain ⟨rs, h⟩ := avd_ex l 0 _ h
  refine draw late (fun i => spR (Zr C.H ι A w) (rs i)) hm hok hlate ?_
  refine avd_sound (T := taint2 l) h1 h0 h2 l 0 ι ⟨e, A, [], [], []⟩ ⟨ec, [], [], [], [], [], []⟩ (fun o ho => List.all_eq_true.1 hT o ho) ⟨⟨fun _ _ h => h, fun _ _ => rfl, fun b k hb hk => ?_, fun b b' c m m' g1 g2 => absurd g1 (Nat.not_le.2 g2), fun c hc => absurd hc List.not_mem_nil, Nat.le_refl _⟩, h3, fun w' hx _ i => old_mem hx (h4 i), fun t _ => h4 t, fun x hx => absurd hx List.not_mem_nil, fun x hx => absurd hx List.not_mem_nil, rfl, fun i x y hx => by simp at hx⟩ h
  have := (List.getElem?_eq_some_iff.1 hk).1
  simp only at this
  omega
end
end Go.Proofs.YtccjeoghjioamaaGreatDoor
