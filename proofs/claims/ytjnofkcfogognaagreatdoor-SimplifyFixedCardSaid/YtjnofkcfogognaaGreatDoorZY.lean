/- Texts that the claim leans on, laid one behind the other: Wg, Wh, Wk. -/
import Derived.Test.YtjnofkcfogognaaGreatDoorZW
import Derived.LaidSub
import Derived.MakeChecks
import Derived.Lib.LaidTab
import Derived.Test.YtjnofkcfogognaaGreatDoorZK
set_option linter.unusedSimpArgs false
set_option linter.unusedVariables false
set_option linter.unnecessarySimpa false
/- The row's listed tables of math/bits and strconv, as the contracts lean on them. -/
namespace Go.Proofs.YtjnofkcfogognaaGreatDoor
open Go.RowKit Go.ChangeShapes Go.WideShapes
/-- A table that the row lists stands as the contracts lean on it. -/
theorem gb_entry {name : String} {k : IntKind} {zs : List Int} {g : Nat} {W : World} (hT : Lib.TabIs Tryz.prog W name k zs) (hg : Tryz.prog.globalNamed name = some g) (h0 : 0 < zs.length) :
    g < W.heap.size ∧ (∀ (j : Nat) (u : Value), (zs.map fun z => Value.int k z)[j]? = some u → W.cell? ⟨g, j, none⟩ = some u) ∧ ∃ t f, W.heap[g]? = some (.cells (zs.map fun z => Value.int k z).toArray t f) := by
  have hc := fun i hi => hT.cell hg i hi
  refine ⟨World.block_lt_of_cell? _ _ (hc 0 h0), fun j u hu => ?_, ?_⟩
  · simp only [List.getElem?_map, Option.map_eq_some_iff] at hu
    obtain ⟨z, hz, rfl⟩ := hu
    have hj := (List.getElem?_eq_some_iff.1 hz).1
    rw [hc j hj, List.getD_eq_getElem?_getD, hz]
    rfl
  · unfold Lib.TabIs World.var? at hT
    rw [hg] at hT
    simp only [Option.bind_some] at hT
    split at hT
    · rename_i cs t f he
      simp only [Option.some.injEq] at hT
      subst hT
      exact ⟨_, _, he⟩
    · cases hT
theorem gb_ofC {l : List (String × DataW Unit)} {W : World} (hl : l.filter (fun x => x.1 == "math/bits.deBruijn64tab") = [("math/bits.deBruijn64tab", Lib.tabData .u8 deB64)])
    (hp : l.filter (fun x => x.1 == "internal/strconv.uint64pow10") = [("internal/strconv.uint64pow10", Lib.tabData .u64 Lib.pow10Tab)]) (h : laidMetH Tryz.prog l W) : GbIs W := by
  have h1 := h.filter fun x => x.1 == "math/bits.deBruijn64tab"
  rw [hl, Go.MakeChecks.laidMetH_plain _ _ _ (by kernel_rfl)] at h1
  have h2 := h.filter fun x => x.1 == "internal/strconv.uint64pow10"
  rw [hp, Go.MakeChecks.laidMetH_plain _ _ _ (by kernel_rfl)] at h2
  have hg : Tryz.prog.globalNamed "math/bits.deBruijn64tab" = some 3 := by kernel_rfl
  have hT := Lib.tabIs_of_head (t := 216) (e := 5) (n := 64) hg (by kernel_rfl) (by kernel_rfl) (by kernel_rfl) (by kernel_rfl) (by kernel_rfl) h1
  have hg2 : Tryz.prog.globalNamed "internal/strconv.uint64pow10" = some 0 := by kernel_rfl
  have hT2 := Lib.tabIs_of_head (t := 204) (e := 124) (n := 20) hg2 (by kernel_rfl) (by kernel_rfl) (by kernel_rfl) (by kernel_rfl) (by kernel_rfl) h2
  intro p hp
  simp only [GB, List.mem_cons, List.not_mem_nil, or_false] at hp
  rcases hp with rfl | rfl
  · exact gb_entry hT hg (by decide +kernel)
  · exact gb_entry hT2 hg2 (by decide +kernel)
theorem hok_of {W : World} (h : GbIs W) : HOk (fun _ => False) (fun _ => none) [] W := HOk.nil (fun _ h => h.elim) h
end Go.Proofs.YtjnofkcfogognaaGreatDoor

/- Numbers of 32 bits as arguments of a law. -/
namespace Go.Proofs.YtjnofkcfogognaaGreatDoor
open Go.RowKit Go.ChangeShapes Go.WideShapes
theorem u32_r32 {n : Int} (h : (Lit.int .u32 n).wf = true) : R32 n := by
  simp only [Lit.wf, Bool.and_eq_true, decide_eq_true_eq] at h
  have h1 : IntKind.u32.min = 0 := rfl
  have h2 : IntKind.u32.max = 4294967295 := rfl
  exact ⟨by omega, by omega⟩
theorem okN_of_fits : ∀ e : Ex, e.fits → OkN e := by
  intro e
  induction e using Ex.ind with
  | h e ih =>
    intro hf
    obtain ⟨o, n, v, w, l⟩ := e
    simp only [Ex.fits] at hf
    exact .mk (u32_r32 hf.2.1) fun x hx => ih x hx (Ex.fitss_mem hf.2.2.2.2.2 x hx)
theorem trodAll_six {H : Type} {enc : TypeId × Value → H} {P : Program} {w : World} {base : Nat} {spare : Nat → Bool} {held : Bool} {t0 t1 t2 t3 t4 t5 : TypeId} {args : Array Value} {ds : List (DataW H)} {ps : List MemPlace}
    (h : DataW.TrodAll enc P w base spare held [t0, t1, t2, t3, t4, t5] args.toList ds ps) :
    ∃ v0 v1 v2 v3 v4 v5 d0 d1 d2 d3 d4 d5 p0 p1 p2 p3 p4 p5, args = #[v0, v1, v2, v3, v4, v5] ∧ ds = [d0, d1, d2, d3, d4, d5] ∧ DataW.Trod enc P w base spare held t0 v0 d0 p0 ∧ DataW.Trod enc P w base spare held t1 v1 d1 p1 ∧
      DataW.Trod enc P w base spare held t2 v2 d2 p2 ∧ DataW.Trod enc P w base spare held t3 v3 d3 p3 ∧ DataW.Trod enc P w base spare held t4 v4 d4 p4 ∧ DataW.Trod enc P w base spare held t5 v5 d5 p5 := by
  obtain ⟨v0, vs, d0, ds', p0, q, hargs, rfl, rfl, h0, h⟩ := trodAll_cons h
  obtain ⟨v1, vs, d1, ds', p1, q, rfl, rfl, rfl, h1, h⟩ := trodAll_cons h
  obtain ⟨v2, vs, d2, ds', p2, q, rfl, rfl, rfl, h2, h⟩ := trodAll_cons h
  obtain ⟨v3, vs, d3, ds', p3, q, rfl, rfl, rfl, h3, h⟩ := trodAll_cons h
  obtain ⟨v4, vs, d4, ds', p4, q, rfl, rfl, rfl, h4, h⟩ := trodAll_cons h
  obtain ⟨v5, vs, d5, ds', p5, q, rfl, rfl, rfl, h5, h⟩ := trodAll_cons h
  obtain ⟨rfl, rfl, rfl⟩ := trodAll_nil h
  exact ⟨v0, v1, v2, v3, v4, v5, d0, d1, d2, d3, d4, d5, p0, p1, p2, p3, p4, p5, by cases args; simp_all, rfl, h0, h1, h2, h3, h4, h5⟩
end Go.Proofs.YtjnofkcfogognaaGreatDoor

/- Numbers of 32 bits, a slice of them as an argument of a law. -/
namespace Go.Proofs.YtjnofkcfogognaaGreatDoor
open Go.RowKit Go.ChangeShapes Go.WideShapes
set_option maxRecDepth 100000
theorem arg_u32s {Hh : Type} {enc : TypeId × Value → Hh} {w : World} {base : Nat} {spare : Nat → Bool} {held : Bool} {r : Reach} {b0 : Nat} {v : Value} {d : DataW Hh} {ps : List MemPlace}
    (hval : Value.okWide Tryz.prog w r b0 42 v) (hd : DataW.Trod enc Tryz.prog w base spare held 42 v d ps) :
    ∃ V : List Int, (∀ n ∈ V, R32 n) ∧ Shp (fun _ => none) [] (.d (.sl 1 (u32s V))) v ∧ Mem (fun _ => False) w (.d (.sl 1 (u32s V))) v := by
  obtain ⟨fuel, xs, h1, _, h3, h4⟩ := arg_slice (S := [42, 22]) (by kernel_rfl) (by kernel_rfl) (by simp) Tryz.underlying42 hval hd
  have hc : Tryz.prog.cellsOf 22 = 1 := by kernel_rfl
  rw [hc] at h1 h3 h4
  cases fuel with
  | zero => simp [Has] at h1
  | succ k =>
    simp only [Has, Tryz.underlying42] at h1
    obtain ⟨ys, he, _, hx⟩ := h1
    simp only [List.cons.injEq, D.sl.injEq, and_true] at he
    obtain ⟨_, rfl⟩ := he
    have : ∀ xs : List (List D), (∀ x ∈ xs, Has Tryz.prog k 22 x) → ∃ V : List Int, xs = u32s V ∧ ∀ n ∈ V, R32 n := by
      intro xs
      induction xs with
      | nil => exact fun _ => ⟨[], rfl, by simp⟩
      | cons x xs ih =>
        intro hx
        obtain ⟨V, rfl, hV⟩ := ih fun y hy => hx y (List.mem_cons_of_mem _ hy)
        have h0 := hx x List.mem_cons_self
        cases k with
        | zero => simp [Has] at h0
        | succ k =>
          simp only [Has, Tryz.underlying22] at h0
          obtain ⟨n, rfl, wn⟩ := h0
          exact ⟨n :: V, rfl, fun m hm => (List.mem_cons.1 hm).elim (fun h => h ▸ u32_r32 wn) (hV m)⟩
    obtain ⟨V, rfl, hV⟩ := this _ hx
    exact ⟨V, hV, h3, h4⟩
end Go.Proofs.YtjnofkcfogognaaGreatDoor
