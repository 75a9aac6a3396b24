/- The abstract calculator: a cell's own slice is data from now on. No program in sight. -/
import Derived.Test.YtlidimmfpfockaaGreatDoorAp
namespace Go.Proofs.YtlidimmfpfockaaGreatDoor
open Go.RowKit
theorem sub_reiT {n : Nat} {e : AEnv} {A : AHeap} {b i o : Nat} {k : Blk} {x : List AV} {c c' : AV} (Bs : List Nat) (hb : (frz Bs A)[b]? = some k) (hx : k.els[i]? = some x) (ho : x[o]? = some c) (hr : reiV true (frz Bs A) 9 c = some c') :
    Sub n e A e ((frz Bs A).set b (setEls k (k.els.set i (x.set o c')))) := (Sub.frz Bs).trans (Sub.cell hb hx ho (VLe.rei hr))
end Go.Proofs.YtlidimmfpfockaaGreatDoor
