/- Texts that the claim leans on, laid one behind the other: Wg, Wh. -/
import Derived.Test.YtjgeicfbgpcopaaGreatDoorZW
import Derived.LaidSub
import Derived.MakeChecks
import Derived.Lib.LaidTab
import Derived.Test.YtjgeicfbgpcopaaGreatDoorZK
set_option linter.unusedSimpArgs false
set_option linter.unusedVariables false
set_option linter.unnecessarySimpa false
/- The row's listed table of math/bits, as the contracts lean on it. -/
namespace Go.Proofs.YtjgeicfbgpcopaaGreatDoor
open Go.RowKit Go.ChangeShapes Go.WideShapes
theorem gb_ofB {l : List (String × DataW Unit)} {W : World} (hl : l.filter (fun x => x.1 == "math/bits.deBruijn64tab") = [("math/bits.deBruijn64tab", Lib.tabData .u8 deB64)]) (h : laidMetH Tryz.prog l W) : GbIs W := by
  have h1 := h.filter fun x => x.1 == "math/bits.deBruijn64tab"
  rw [hl, Go.MakeChecks.laidMetH_plain _ _ _ (by kernel_rfl)] at h1
  have hg : Tryz.prog.globalNamed "math/bits.deBruijn64tab" = some 3 := by kernel_rfl
  have hT := Lib.tabIs_of_head (t := 213) (e := 5) (n := 64) hg (by kernel_rfl) (by kernel_rfl) (by kernel_rfl) (by kernel_rfl) (by kernel_rfl) h1
  intro p hp
  simp only [GB, List.mem_singleton] at hp
  subst hp
  have hc := fun i hi => hT.cell hg i hi
  refine ⟨World.block_lt_of_cell? _ _ (hc 0 (by decide +kernel)), fun j u hu => ?_⟩
  simp only [List.getElem?_map, Option.map_eq_some_iff] at hu
  obtain ⟨z, hz, rfl⟩ := hu
  have hj := (List.getElem?_eq_some_iff.1 hz).1
  rw [hc j hj, List.getD_eq_getElem?_getD, hz]
  rfl
theorem hok_of {W : World} (h : GbIs W) : HOk (fun _ => False) (fun _ => none) [] W := HOk.nil (fun _ h => h.elim) h
end Go.Proofs.YtjgeicfbgpcopaaGreatDoor

/- Numbers of 32 bits as arguments of a law. -/
namespace Go.Proofs.YtjgeicfbgpcopaaGreatDoor
open Go.RowKit Go.ChangeShapes Go.WideShapes
theorem u32_r32 {n : Int} (h : (Lit.int .u32 n).wf = true) : R32 n := by
  simp only [Lit.wf, Bool.and_eq_true, decide_eq_true_eq] at h
  have h1 : IntKind.u32.min = 0 := rfl
  have h2 : IntKind.u32.max = 4294967295 := rfl
  exact ⟨by omega, by omega⟩
theorem okN_of_fits : ∀ e : Ex, e.fits → OkN e := by
  intro e
  induction e using Ex.ind with
  | h e ih =>
    intro hf
    obtain ⟨o, n, v, w, l⟩ := e
    simp only [Ex.fits] at hf
    exact .mk (u32_r32 hf.2.1) fun x hx => ih x hx (Ex.fitss_mem hf.2.2.2.2.2 x hx)
theorem trodAll_six {H : Type} {enc : TypeId × Value → H} {P : Program} {w : World} {base : Nat} {spare : Nat → Bool} {held : Bool} {t0 t1 t2 t3 t4 t5 : TypeId} {args : Array Value} {ds : List (DataW H)} {ps : List MemPlace}
    (h : DataW.TrodAll enc P w base spare held [t0, t1, t2, t3, t4, t5] args.toList ds ps) :
    ∃ v0 v1 v2 v3 v4 v5 d0 d1 d2 d3 d4 d5 p0 p1 p2 p3 p4 p5, args = #[v0, v1, v2, v3, v4, v5] ∧ ds = [d0, d1, d2, d3, d4, d5] ∧ DataW.Trod enc P w base spare held t0 v0 d0 p0 ∧ DataW.Trod enc P w base spare held t1 v1 d1 p1 ∧
      DataW.Trod enc P w base spare held t2 v2 d2 p2 ∧ DataW.Trod enc P w base spare held t3 v3 d3 p3 ∧ DataW.Trod enc P w base spare held t4 v4 d4 p4 ∧ DataW.Trod enc P w base spare held t5 v5 d5 p5 := by
  obtain ⟨v0, vs, d0, ds', p0, q, hargs, rfl, rfl, h0, h⟩ := trodAll_cons h
  obtain ⟨v1, vs, d1, ds', p1, q, rfl, rfl, rfl, h1, h⟩ := trodAll_cons h
  obtain ⟨v2, vs, d2, ds', p2, q, rfl, rfl, rfl, h2, h⟩ := trodAll_cons h
  obtain ⟨v3, vs, d3, ds', p3, q, rfl, rfl, rfl, h3, h⟩ := trodAll_cons h
  obtain ⟨v4, vs, d4, ds', p4, q, rfl, rfl, rfl, h4, h⟩ := trodAll_cons h
  obtain ⟨v5, vs, d5, ds', p5, q, rfl, rfl, rfl, h5, h⟩ := trodAll_cons h
  obtain ⟨rfl, rfl, rfl⟩ := trodAll_nil h
  exact ⟨v0, v1, v2, v3, v4, v5, d0, d1, d2, d3, d4, d5, p0, p1, p2, p3, p4, p5, by cases args; simp_all, rfl, h0, h1, h2, h3, h4, h5⟩
end Go.Proofs.YtjgeicfbgpcopaaGreatDoor
