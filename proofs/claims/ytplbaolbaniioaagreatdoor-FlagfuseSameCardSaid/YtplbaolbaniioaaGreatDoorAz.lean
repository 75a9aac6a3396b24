import Derived.Test.YtplbaolbaniioaaGreatDoorAl
import Derived.Laws.RangeString
set_option linter.all false
namespace Go.Proofs.YtplbaolbaniioaaGreatDoor
open Go.RowKit
section
variable {P : Program} {H : Nat → Prop} {ι ι' : Place} {A A' : AHeap} {w w' : World} {e : AEnv} {ec : Env} {C : Ctx} {n : Nat} {K : AKont}
theorem rel_turn {b : Nat} {k k' : Blk} {c m : Nat} {o : Obj} {arr : Array Value} (hR : Rel H ι A w) (hb : A[b]? = some k) (hw : k.wr = true) (hι : ι b = some (c, m)) (hv0 : k'.ver = k.ver) (hs0 : k'.sz = k.sz) (hw0 : k'.wr = true) (ho : ObjIs o k'.ty k'.sz arr)
 (hl : arr.size = k'.els.length * k'.sz) (hc : ∀ (i : Nat) (x : List AV), k'.els[i]? = some x → x.length = k'.sz ∧ ∀ (j : Nat) (a : AV), x[j]? = some a → ∃ u, arr[i * k'.sz + j]? = some u ∧ Val ι A (Nn H ι A) w a u ∧ u.oneCell' = true) :
 Rel H ι (A.set b k') { w with heap := w.heap.setIfInBounds c o } ∧ Step ι A w ι (A.set b k') { w with heap := w.heap.setIfInBounds c o } := by
 have hlt := (gSI.1 hb).1
 have hcl := (hR.hid b k c m hb hι).2
 have hget : ∀ (b' : Nat) (k2 : Blk), (A.set b k')[b']? = some k2 → (b' = b ∧ k2 = k') ∨ (b' ≠ b ∧ A[b']? = some k2) := by
  intro b' k2 hb'
  by_cases he : b = b'
  ·subst he
   rw [gSS hlt] at hb'
   exact .inl ⟨rfl, (oSI hb').symm⟩
  ·rw [gSN he] at hb'
   exact .inr ⟨fun h => he h.symm, hb'⟩
 have hblk : ∀ (b' : Nat) (k2 : Blk), (A.set b k')[b']? = some k2 → ∃ k3 : Blk, A[b']? = some k3 ∧ (k2.wr = true → k3.wr = true) := by
  intro b' k2 hb'
  rcases hget b' k2 hb' with ⟨rfl, rfl⟩ | ⟨_, h2⟩
  ·exact ⟨k, hb, fun _ => hw⟩
  ·exact ⟨k2, h2, id⟩
 have hsame : ∀ q, q ≠ c → SameB w { w with heap := w.heap.setIfInBounds c o } q := fun q hq => by
  show (w.heap.setIfInBounds c o)[q]? = w.heap[q]?
  rw [Array.getElem?_setIfInBounds_ne (fun h => hq h.symm)]
 have hst : Step ι A w ι (A.set b k') { w with heap := w.heap.setIfInBounds c o } := by
  refine ⟨fun b' k2 hb' => ?_, fun q hq => ?_, fun q hq hn => hsame q fun he => hn (he ▸ ⟨b, k, m, hb, hw, hι⟩), by simp, rfl, rfl, rfl⟩
  ·by_cases he : b = b'
   ·subst he
    rw [hb] at hb'
    obtain rfl := oSI hb'
    exact ⟨k', gSS hlt, by omega, fun _ => ⟨rfl, hs0⟩⟩
   ·exact ⟨k2, by rw [gSN he]; exact hb', Nat.le_refl _, fun _ => ⟨rfl, rfl⟩⟩
  ·obtain ⟨b', k2, q', g1, g2, g3⟩ := hq
   obtain ⟨k3, g4, g5⟩ := hblk b' k2 g1
   exact .inl ⟨b', k3, q', g4, g5 g2, g3⟩
 have hv : ∀ a u, Val ι A (Nn H ι A) w a u → Val ι (A.set b k') (Nn H ι (A.set b k')) { w with heap := w.heap.setIfInBounds c o } a u := fun a u hv => Val.step hst hv
 have hnew : ({ w with heap := w.heap.setIfInBounds c o } : World).heap[c]? = some o := by
  show (w.heap.setIfInBounds c o)[c]? = some o
  rw [Array.getElem?_setIfInBounds_self, if_pos hcl]
 refine ⟨⟨fun b' k2 hb' => ?_, fun b' k2 c2 n2 hb' hc' => ?_, fun b1 b2 k1 k2 c1 n1 n2 g1 g2 g3 g4 => ?_⟩, hst⟩
 ·rcases hget b' k2 hb' with ⟨rfl, rfl⟩ | ⟨hne, hb2⟩
  ·unfold BlkRel
   rw [hι]
   refine ⟨arr, .inr ⟨o, hnew, ho⟩, ⟨fun h => absurd h (objIs_ty ho), fun _ => hl⟩, Nat.le_of_eq hl.symm, fun i x hi => ⟨(hc i x hi).1, fun j a hj => ?_⟩⟩
   obtain ⟨u, e1, e2, e3⟩ := (hc i x hi).2 j a hj
   exact ⟨u, e1, hv _ _ e2, e3⟩
  ·refine BlkRel.step (hR.blk b' k2 hb2) rfl (fun c2 n2 hc' => hsame c2 fun he => hne ?_) hv
   subst he
   exact hR.inj b' b k2 k _ n2 m hb2 hb hc' hι
 ·obtain ⟨k3, g4, _⟩ := hblk b' k2 hb'
  have := hR.hid b' k3 c2 n2 g4 hc'
  exact ⟨this.1, by simpa using this.2⟩
 ·obtain ⟨k1', h1', _⟩ := hblk b1 k1 g1
  obtain ⟨k2', h2', _⟩ := hblk b2 k2 g2
  exact hR.inj b1 b2 k1' k2' c1 n1 n2 h1' h2' g3 g4
end
end Go.Proofs.YtplbaolbaniioaaGreatDoor
