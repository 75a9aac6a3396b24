/- An expression as an argument of a law. -/
import Derived.Test.YtfndoocgpmgalaaDoorWb
namespace Go.Proofs.YtfndoocgpmgalaaDoor
open Go.RowKit Go.ChangeShapes Go.WideShapes
set_option maxRecDepth 100000
def exLit (H : Type) : DataW H := .agg [.lit (.int .i64 0), .lit (.int .u32 0), .lit (.int .i64 0), .lit (.int .i64 0), .nil]
/-- The types that an expression is made of. -/
def exTypes : List TypeId := [25, 23, 3, 22]
theorem arg_ex {Hh : Type} {enc : TypeId × Value → Hh} {w : World} {base : Nat} {spare : Nat → Bool} {held : Bool} {r : Reach} {b0 : Nat} {v : Value} {d : DataW Hh} {ps : List MemPlace}
    (hval : Value.okWide Tryd.prog w r b0 25 v) (hd : DataW.Trod enc Tryd.prog w base spare held 25 v d ps) :
    ∃ e : Ex, e.fits ∧ e.nodes ≤ Rows.uptoBulk d ∧ Shp (fun _ => none) [] (exA e) v ∧ Mem (fun _ => False) w (exA e) v := by
  obtain ⟨fuel, ds, h1, h2, h3, h4⟩ := arg_struct (S := exTypes) (by kernel_rfl) (by kernel_rfl) (by simp [exTypes]) Tryd.underlying25 hval hd
  obtain ⟨e, rfl, he⟩ := ex_of_has Tryd.underlying25 Tryd.underlying3 Tryd.underlying22 Tryd.underlying3 Tryd.underlying3 Tryd.underlying23 (by kernel_rfl) fuel ds h1
  have := e.wt_d
  exact ⟨e, he, by omega, by rw [exA_eq]; exact h3, by rw [exA_eq]; exact h4⟩
end Go.Proofs.YtfndoocgpmgalaaDoor
