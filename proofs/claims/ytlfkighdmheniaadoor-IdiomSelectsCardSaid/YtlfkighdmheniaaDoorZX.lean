/- Texts that the claim leans on, laid one behind the other: We. -/
import Derived.Test.YtlfkighdmheniaaDoorZW
import Derived.Test.YtlfkighdmheniaaDoorZK
set_option linter.unusedSimpArgs false
set_option linter.unusedVariables false
set_option linter.unnecessarySimpa false
/- Numbers as arguments of a law. -/
namespace Go.Proofs.YtlfkighdmheniaaDoor
open Go.RowKit Go.ChangeShapes Go.WideShapes
set_option maxRecDepth 100000
theorem u32_r32 {n : Int} (h : (Lit.int .u32 n).wf = true) : R32 n := by
  simp only [Lit.wf, Bool.and_eq_true, decide_eq_true_eq] at h
  have h1 : IntKind.u32.min = 0 := rfl
  have h2 : IntKind.u32.max = 4294967295 := rfl
  exact ⟨by omega, by omega⟩
theorem okN_of_fits : ∀ e : Ex, e.fits → OkN e := by
  intro e
  induction e using Ex.ind with
  | h e ih =>
    intro hf
    obtain ⟨o, n, v, w, l⟩ := e
    simp only [Ex.fits] at hf
    exact .mk (u32_r32 hf.2.1) fun x hx => ih x hx (Ex.fitss_mem hf.2.2.2.2.2 x hx)
theorem arg_u32s {Hh : Type} {enc : TypeId × Value → Hh} {w : World} {base : Nat} {spare : Nat → Bool} {held : Bool} {r : Reach} {b0 : Nat} {v : Value} {d : DataW Hh} {ps : List MemPlace}
    (hval : Value.okWide Tryd.prog w r b0 33 v) (hd : DataW.Trod enc Tryd.prog w base spare held 33 v d ps) :
    ∃ V : List Int, (∀ n ∈ V, R32 n) ∧ Shp (fun _ => none) [] (.d (.sl 1 (u32s V))) v ∧ Mem (fun _ => False) w (.d (.sl 1 (u32s V))) v := by
  obtain ⟨fuel, xs, h1, _, h3, h4⟩ := arg_slice (S := [33, 22]) (by kernel_rfl) (by kernel_rfl) (by simp) Tryd.underlying33 hval hd
  have hc : Tryd.prog.cellsOf 22 = 1 := by kernel_rfl
  rw [hc] at h1 h3 h4
  cases fuel with
  | zero => simp [Has] at h1
  | succ k =>
    simp only [Has, Tryd.underlying33] at h1
    obtain ⟨ys, he, _, hx⟩ := h1
    simp only [List.cons.injEq, D.sl.injEq, and_true] at he
    obtain ⟨_, rfl⟩ := he
    have : ∀ xs : List (List D), (∀ x ∈ xs, Has Tryd.prog k 22 x) → ∃ V : List Int, xs = u32s V ∧ ∀ n ∈ V, R32 n := by
      intro xs
      induction xs with
      | nil => exact fun _ => ⟨[], rfl, by simp⟩
      | cons x xs ih =>
        intro hx
        obtain ⟨V, rfl, hV⟩ := ih fun y hy => hx y (List.mem_cons_of_mem _ hy)
        have h0 := hx x List.mem_cons_self
        cases k with
        | zero => simp [Has] at h0
        | succ k =>
          simp only [Has, Tryd.underlying22] at h0
          obtain ⟨n, rfl, wn⟩ := h0
          exact ⟨n :: V, rfl, fun m hm => (List.mem_cons.1 hm).elim (fun h => h ▸ u32_r32 wn) (hV m)⟩
    obtain ⟨V, rfl, hV⟩ := this _ hx
    exact ⟨V, hV, h3, h4⟩
end Go.Proofs.YtlfkighdmheniaaDoor
