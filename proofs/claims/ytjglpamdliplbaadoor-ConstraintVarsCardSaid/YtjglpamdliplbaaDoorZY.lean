/- Texts that the claim leans on, laid one behind the other: Wf, Wg, Wh, Wn, Up. -/
import Derived.Test.YtjglpamdliplbaaDoorZW
import Derived.Test.YtjglpamdliplbaaDoorZM
import Derived.LaidSub
import Derived.MakeChecks
import Derived.Lib.LaidTab
import Derived.Test.YtjglpamdliplbaaDoorZK
import Derived.Test.YtjglpamdliplbaaDoorZQ
import Derived.Test.YtjglpamdliplbaaDoorZP
set_option linter.unusedSimpArgs false
set_option linter.unusedVariables false
set_option linter.unnecessarySimpa false
/- A graph as an argument of a law. -/
namespace Go.Proofs.YtjglpamdliplbaaDoor
open Go.RowKit Go.ChangeShapes Go.WideShapes
set_option maxRecDepth 100000
end Go.Proofs.YtjglpamdliplbaaDoor

/- The row's listed tables of math/bits and strconv, as the contracts lean on them. -/
namespace Go.Proofs.YtjglpamdliplbaaDoor
open Go.RowKit Go.ChangeShapes Go.WideShapes
/-- A table that the row lists stands as the contracts lean on it. -/
theorem gb_entry {name : String} {k : IntKind} {zs : List Int} {g : Nat} {W : World} (hT : Lib.TabIs Tryd.prog W name k zs) (hg : Tryd.prog.globalNamed name = some g) (h0 : 0 < zs.length) :
    g < W.heap.size ∧ (∀ (j : Nat) (u : Value), (zs.map fun z => Value.int k z)[j]? = some u → W.cell? ⟨g, j, none⟩ = some u) ∧ ∃ t f, W.heap[g]? = some (.cells (zs.map fun z => Value.int k z).toArray t f) := by
  have hc := fun i hi => hT.cell hg i hi
  refine ⟨World.block_lt_of_cell? _ _ (hc 0 h0), fun j u hu => ?_, ?_⟩
  · simp only [List.getElem?_map, Option.map_eq_some_iff] at hu
    obtain ⟨z, hz, rfl⟩ := hu
    have hj := (List.getElem?_eq_some_iff.1 hz).1
    rw [hc j hj, List.getD_eq_getElem?_getD, hz]
    rfl
  · unfold Lib.TabIs World.var? at hT
    rw [hg] at hT
    simp only [Option.bind_some] at hT
    split at hT
    · rename_i cs t f he
      simp only [Option.some.injEq] at hT
      subst hT
      exact ⟨_, _, he⟩
    · cases hT
theorem gb_ofC {l : List (String × DataW Unit)} {W : World} (hl : l.filter (fun x => x.1 == "math/bits.deBruijn64tab") = [("math/bits.deBruijn64tab", Lib.tabData .u8 deB64)])
    (hp : l.filter (fun x => x.1 == "internal/strconv.uint64pow10") = [("internal/strconv.uint64pow10", Lib.tabData .u64 Lib.pow10Tab)]) (h : laidMetH Tryd.prog l W) : GbIs W := by
  have h1 := h.filter fun x => x.1 == "math/bits.deBruijn64tab"
  rw [hl, Go.MakeChecks.laidMetH_plain _ _ _ (by kernel_rfl)] at h1
  have h2 := h.filter fun x => x.1 == "internal/strconv.uint64pow10"
  rw [hp, Go.MakeChecks.laidMetH_plain _ _ _ (by kernel_rfl)] at h2
  have hg : Tryd.prog.globalNamed "math/bits.deBruijn64tab" = some 3 := by kernel_rfl
  have hT := Lib.tabIs_of_head (t := 190) (e := 5) (n := 64) hg (by kernel_rfl) (by kernel_rfl) (by kernel_rfl) (by kernel_rfl) (by kernel_rfl) h1
  have hg2 : Tryd.prog.globalNamed "internal/strconv.uint64pow10" = some 0 := by kernel_rfl
  have hT2 := Lib.tabIs_of_head (t := 182) (e := 131) (n := 20) hg2 (by kernel_rfl) (by kernel_rfl) (by kernel_rfl) (by kernel_rfl) (by kernel_rfl) h2
  intro p hp
  simp only [GB, List.mem_cons, List.not_mem_nil, or_false] at hp
  rcases hp with rfl | rfl
  · exact gb_entry hT hg (by decide +kernel)
  · exact gb_entry hT2 hg2 (by decide +kernel)
theorem hok_of {W : World} (h : GbIs W) : HOk (fun _ => False) (fun _ => none) [] W := HOk.nil (fun _ h => h.elim) h
end Go.Proofs.YtjglpamdliplbaaDoor

/- Numbers of 32 bits as arguments of a law. -/
namespace Go.Proofs.YtjglpamdliplbaaDoor
open Go.RowKit Go.ChangeShapes Go.WideShapes
end Go.Proofs.YtjglpamdliplbaaDoor

/- A statement, a graph as an argument of a law, with what its numbers hold. -/
namespace Go.Proofs.YtjglpamdliplbaaDoor
open Go.RowKit Go.ChangeShapes Go.WideShapes
set_option maxRecDepth 100000
theorem i64_ok {n : Int} (h : (Lit.int .i64 n).wf = true) : I64 n := by
  simp only [Lit.wf, Bool.and_eq_true, decide_eq_true_eq] at h
  have h1 : IntKind.i64.min = -9223372036854775808 := rfl
  have h2 : IntKind.i64.max = 9223372036854775807 := rfl
  unfold I64
  omega
theorem map_of_has' {P : Program} {k : Nat} {T : TypeId} {α : Type} {f : α → List D} {Q : α → Prop} (h : ∀ x, Has P k T x → ∃ a, x = f a ∧ Q a) : ∀ xs : List (List D), (∀ x ∈ xs, Has P k T x) → ∃ l : List α, xs = l.map f ∧ ∀ a ∈ l, Q a
  | [], _ => ⟨[], rfl, by simp⟩
  | x :: xs, hx => by
    obtain ⟨l, rfl, hl⟩ := map_of_has' h xs fun y hy => hx y (List.mem_cons_of_mem _ hy)
    obtain ⟨a, rfl, ha⟩ := h x (hx x List.mem_cons_self)
    exact ⟨a :: l, rfl, fun b hb => (List.mem_cons.1 hb).elim (fun h => h ▸ ha) (hl b)⟩
theorem int_of_has' (k : Nat) (ds : List D) (h : Has Tryd.prog k 3 ds) : ∃ n : Int, ds = [.v (.int .i64 n)] ∧ I64 n := by
  cases k with
  | zero => simp [Has] at h
  | succ k =>
    simp only [Has, Tryd.underlying3] at h
    obtain ⟨n, rfl, hw⟩ := h
    exact ⟨n, rfl, i64_ok hw⟩
end Go.Proofs.YtjglpamdliplbaaDoor

/- Constraints as an argument of a law. -/
namespace Go.Proofs.YtjglpamdliplbaaDoor
open Go.RowKit Go.ChangeShapes Go.WideShapes
set_option maxRecDepth 100000
theorem sl_of_has {k : Nat} {t e : TypeId} {n : Nat} {ds : List D} (hu : Tryd.prog.underlying t = some (.slice e)) (hc : Tryd.prog.cellsOf e = n) (h : Has Tryd.prog k t ds) : ∃ l : List (List D), ds = [.sl n l] := by
  cases k with
  | zero => simp [Has] at h
  | succ k =>
    simp only [Has, hu] at h
    obtain ⟨xs, rfl, _, hx⟩ := h
    exact ⟨xs, by rw [hc]⟩
theorem cv_of_has (k : Nat) (ds : List D) (h : Has Tryd.prog k 48 ds) : ∃ c : CV, ds = c.d ∧ True := by
  cases k with
  | zero => simp [Has] at h
  | succ k =>
    simp only [Has, Tryd.underlying48] at h
    obtain ⟨dss, rfl, hl, hf⟩ := h
    match dss, hl with
    | [a0, a1, a2, a3, a4, a5], _ =>
      obtain ⟨n0, rfl, _⟩ := int_of_has' k a0 (hf 0 _ a0 rfl rfl)
      obtain ⟨n1, rfl, _⟩ := int_of_has' k a1 (hf 1 _ a1 rfl rfl)
      obtain ⟨n2, rfl, _⟩ := int_of_has' k a2 (hf 2 _ a2 rfl rfl)
      obtain ⟨n3, rfl, _⟩ := int_of_has' k a3 (hf 3 _ a3 rfl rfl)
      obtain ⟨n4, rfl, _⟩ := int_of_has' k a4 (hf 4 _ a4 rfl rfl)
      have h5 := hf 5 _ a5 rfl rfl
      cases k with
      | zero => simp [Has] at h5
      | succ k =>
        simp only [Has, Tryd.underlying46] at h5
        obtain ⟨dss, rfl, hl, hf⟩ := h5
        match dss, hl with
        | [b0, b1, b2, b3, b4], _ =>
          obtain ⟨m0, rfl, _⟩ := int_of_has' k b0 (hf 0 _ b0 rfl rfl)
          obtain ⟨m1, rfl, _⟩ := int_of_has' k b1 (hf 1 _ b1 rfl rfl)
          obtain ⟨m2, rfl, _⟩ := int_of_has' k b2 (hf 2 _ b2 rfl rfl)
          obtain ⟨el, rfl⟩ := sl_of_has Tryd.underlying43 (by kernel_rfl : Tryd.prog.cellsOf 46 = 5) (hf 3 _ b3 rfl rfl)
          obtain ⟨fl, rfl⟩ := sl_of_has Tryd.underlying44 (by kernel_rfl : Tryd.prog.cellsOf 138 = 6) (hf 4 _ b4 rfl rfl)
          exact ⟨⟨n0, n1, n2, n3, n4, m0, m1, m2, el, fl⟩, rfl, trivial⟩
theorem cvs_of_has (k : Nat) (ds : List D) (h : Has Tryd.prog k 30 ds) : ∃ l : List CV, ds = [.sl 10 (cvs l)] := by
  cases k with
  | zero => simp [Has] at h
  | succ k =>
    simp only [Has, Tryd.underlying30] at h
    obtain ⟨xs, rfl, _, hx⟩ := h
    obtain ⟨l, rfl, hl⟩ := map_of_has' (cv_of_has k) xs hx
    have hc : Tryd.prog.cellsOf 48 = 10 := by kernel_rfl
    exact ⟨l, by rw [hc]; rfl⟩
def cvTypes : List TypeId := [30, 48, 3, 46, 43, 44, 138]
theorem arg_cvs {Hh : Type} {enc : TypeId × Value → Hh} {w : World} {base : Nat} {spare : Nat → Bool} {held : Bool} {r : Reach} {b0 : Nat} {v : Value} {d : DataW Hh} {ps : List MemPlace}
    (hval : Value.okWide Tryd.prog w r b0 30 v) (hd : DataW.Trod enc Tryd.prog w base spare held 30 v d ps) :
    ∃ L : List CV, Shp (fun _ => none) [] (.d (.sl 10 (cvs L))) v ∧ Mem (fun _ => False) w (.d (.sl 10 (cvs L))) v := by
  obtain ⟨fuel, xs, h1, _, h3, h4⟩ := arg_slice (S := cvTypes) (by kernel_rfl) (by kernel_rfl) (by simp [cvTypes]) Tryd.underlying30 hval hd
  have hc : Tryd.prog.cellsOf 48 = 10 := by kernel_rfl
  rw [hc] at h1 h3 h4
  obtain ⟨L, hL⟩ := cvs_of_has fuel _ h1
  simp only [List.cons.injEq, D.sl.injEq, and_true, true_and] at hL
  subst hL
  exact ⟨L, h3, h4⟩
end Go.Proofs.YtjglpamdliplbaaDoor
