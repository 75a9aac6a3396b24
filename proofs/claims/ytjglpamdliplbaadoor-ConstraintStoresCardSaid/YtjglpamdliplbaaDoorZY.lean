/- Texts that the claim leans on, laid one behind the other: Wg, Wh, Wf, Wn. -/
import Derived.Test.YtjglpamdliplbaaDoorZW
import Derived.LaidSub
import Derived.MakeChecks
import Derived.Lib.LaidTab
import Derived.Test.YtjglpamdliplbaaDoorZK
import Derived.Test.YtjglpamdliplbaaDoorZM
import Derived.Test.YtjglpamdliplbaaDoorZQ
set_option linter.unusedSimpArgs false
set_option linter.unusedVariables false
set_option linter.unnecessarySimpa false
/- The row's listed tables of math/bits and strconv, as the contracts lean on them. -/
namespace Go.Proofs.YtjglpamdliplbaaDoor
open Go.RowKit Go.ChangeShapes Go.WideShapes
/-- A table that the row lists stands as the contracts lean on it. -/
theorem gb_entry {name : String} {k : IntKind} {zs : List Int} {g : Nat} {W : World} (hT : Lib.TabIs Tryd.prog W name k zs) (hg : Tryd.prog.globalNamed name = some g) (h0 : 0 < zs.length) :
    g < W.heap.size ∧ (∀ (j : Nat) (u : Value), (zs.map fun z => Value.int k z)[j]? = some u → W.cell? ⟨g, j, none⟩ = some u) ∧ ∃ t f, W.heap[g]? = some (.cells (zs.map fun z => Value.int k z).toArray t f) := by
  have hc := fun i hi => hT.cell hg i hi
  refine ⟨World.block_lt_of_cell? _ _ (hc 0 h0), fun j u hu => ?_, ?_⟩
  · simp only [List.getElem?_map, Option.map_eq_some_iff] at hu
    obtain ⟨z, hz, rfl⟩ := hu
    have hj := (List.getElem?_eq_some_iff.1 hz).1
    rw [hc j hj, List.getD_eq_getElem?_getD, hz]
    rfl
  · unfold Lib.TabIs World.var? at hT
    rw [hg] at hT
    simp only [Option.bind_some] at hT
    split at hT
    · rename_i cs t f he
      simp only [Option.some.injEq] at hT
      subst hT
      exact ⟨_, _, he⟩
    · cases hT
theorem gb_ofC {l : List (String × DataW Unit)} {W : World} (hl : l.filter (fun x => x.1 == "math/bits.deBruijn64tab") = [("math/bits.deBruijn64tab", Lib.tabData .u8 deB64)])
    (hp : l.filter (fun x => x.1 == "internal/strconv.uint64pow10") = [("internal/strconv.uint64pow10", Lib.tabData .u64 Lib.pow10Tab)]) (h : laidMetH Tryd.prog l W) : GbIs W := by
  have h1 := h.filter fun x => x.1 == "math/bits.deBruijn64tab"
  rw [hl, Go.MakeChecks.laidMetH_plain _ _ _ (by kernel_rfl)] at h1
  have h2 := h.filter fun x => x.1 == "internal/strconv.uint64pow10"
  rw [hp, Go.MakeChecks.laidMetH_plain _ _ _ (by kernel_rfl)] at h2
  have hg : Tryd.prog.globalNamed "math/bits.deBruijn64tab" = some 3 := by kernel_rfl
  have hT := Lib.tabIs_of_head (t := 190) (e := 5) (n := 64) hg (by kernel_rfl) (by kernel_rfl) (by kernel_rfl) (by kernel_rfl) (by kernel_rfl) h1
  have hg2 : Tryd.prog.globalNamed "internal/strconv.uint64pow10" = some 0 := by kernel_rfl
  have hT2 := Lib.tabIs_of_head (t := 182) (e := 131) (n := 20) hg2 (by kernel_rfl) (by kernel_rfl) (by kernel_rfl) (by kernel_rfl) (by kernel_rfl) h2
  intro p hp
  simp only [GB, List.mem_cons, List.not_mem_nil, or_false] at hp
  rcases hp with rfl | rfl
  · exact gb_entry hT hg (by decide +kernel)
  · exact gb_entry hT2 hg2 (by decide +kernel)
theorem hok_of {W : World} (h : GbIs W) : HOk (fun _ => False) (fun _ => none) [] W := HOk.nil (fun _ h => h.elim) h
end Go.Proofs.YtjglpamdliplbaaDoor

/- Numbers of 32 bits as arguments of a law. -/
namespace Go.Proofs.YtjglpamdliplbaaDoor
open Go.RowKit Go.ChangeShapes Go.WideShapes
theorem u32_r32 {n : Int} (h : (Lit.int .u32 n).wf = true) : R32 n := by
  simp only [Lit.wf, Bool.and_eq_true, decide_eq_true_eq] at h
  have h1 : IntKind.u32.min = 0 := rfl
  have h2 : IntKind.u32.max = 4294967295 := rfl
  exact ⟨by omega, by omega⟩
theorem okN_of_fits : ∀ e : Ex, e.fits → OkN e := by
  intro e
  induction e using Ex.ind with
  | h e ih =>
    intro hf
    obtain ⟨o, n, v, w, l⟩ := e
    simp only [Ex.fits] at hf
    exact .mk (u32_r32 hf.2.1) fun x hx => ih x hx (Ex.fitss_mem hf.2.2.2.2.2 x hx)
end Go.Proofs.YtjglpamdliplbaaDoor

/- A graph as an argument of a law. -/
namespace Go.Proofs.YtjglpamdliplbaaDoor
open Go.RowKit Go.ChangeShapes Go.WideShapes
set_option maxRecDepth 100000
end Go.Proofs.YtjglpamdliplbaaDoor

/- A statement, a graph as an argument of a law, with what its numbers hold. -/
namespace Go.Proofs.YtjglpamdliplbaaDoor
open Go.RowKit Go.ChangeShapes Go.WideShapes
set_option maxRecDepth 100000
theorem i64_ok {n : Int} (h : (Lit.int .i64 n).wf = true) : I64 n := by
  simp only [Lit.wf, Bool.and_eq_true, decide_eq_true_eq] at h
  have h1 : IntKind.i64.min = -9223372036854775808 := rfl
  have h2 : IntKind.i64.max = 9223372036854775807 := rfl
  unfold I64
  omega
theorem map_of_has' {P : Program} {k : Nat} {T : TypeId} {α : Type} {f : α → List D} {Q : α → Prop} (h : ∀ x, Has P k T x → ∃ a, x = f a ∧ Q a) : ∀ xs : List (List D), (∀ x ∈ xs, Has P k T x) → ∃ l : List α, xs = l.map f ∧ ∀ a ∈ l, Q a
  | [], _ => ⟨[], rfl, by simp⟩
  | x :: xs, hx => by
    obtain ⟨l, rfl, hl⟩ := map_of_has' h xs fun y hy => hx y (List.mem_cons_of_mem _ hy)
    obtain ⟨a, rfl, ha⟩ := h x (hx x List.mem_cons_self)
    exact ⟨a :: l, rfl, fun b hb => (List.mem_cons.1 hb).elim (fun h => h ▸ ha) (hl b)⟩
theorem int_of_has' (k : Nat) (ds : List D) (h : Has Tryd.prog k 3 ds) : ∃ n : Int, ds = [.v (.int .i64 n)] ∧ I64 n := by
  cases k with
  | zero => simp [Has] at h
  | succ k =>
    simp only [Has, Tryd.underlying3] at h
    obtain ⟨n, rfl, hw⟩ := h
    exact ⟨n, rfl, i64_ok hw⟩
theorem u32_of_has' (k : Nat) (ds : List D) (h : Has Tryd.prog k 22 ds) : ∃ n : Int, ds = [.v (.int .u32 n)] ∧ R32 n := by
  cases k with
  | zero => simp [Has] at h
  | succ k =>
    simp only [Has, Tryd.underlying22] at h
    obtain ⟨n, rfl, hw⟩ := h
    exact ⟨n, rfl, u32_r32 hw⟩
theorem ints_of_has' (k : Nat) (ds : List D) (h : Has Tryd.prog k 24 ds) : ∃ l : List Int, ds = [.sl 1 (i64s l)] ∧ ∀ n ∈ l, I64 n := by
  cases k with
  | zero => simp [Has] at h
  | succ k =>
    simp only [Has, Tryd.underlying24] at h
    obtain ⟨xs, rfl, _, hx⟩ := h
    obtain ⟨l, rfl, hl⟩ := map_of_has' (int_of_has' k) xs hx
    have hc : Tryd.prog.cellsOf 3 = 1 := by kernel_rfl
    exact ⟨l, by rw [hc]; rfl, hl⟩
theorem exs_of_has' (k : Nat) (ds : List D) (h : Has Tryd.prog k 23 ds) : ∃ l : List Ex, ds = [.sl 5 (Ex.ds l)] ∧ ∀ e ∈ l, OkN e := by
  cases k with
  | zero => simp [Has] at h
  | succ k =>
    simp only [Has, Tryd.underlying23] at h
    obtain ⟨xs, rfl, _, hx⟩ := h
    have hc : Tryd.prog.cellsOf 39 = 5 := by kernel_rfl
    have : ∀ xs : List (List D), (∀ x ∈ xs, Has Tryd.prog k 39 x) → ∃ l : List Ex, xs = Ex.ds l ∧ ∀ e ∈ l, OkN e := by
      intro xs
      induction xs with
      | nil => exact fun _ => ⟨[], rfl, by simp⟩
      | cons x xs ih =>
        intro hx
        obtain ⟨l, rfl, hl⟩ := ih fun y hy => hx y (List.mem_cons_of_mem _ hy)
        obtain ⟨e, rfl, he⟩ := ex_of_has Tryd.underlying39 Tryd.underlying3 Tryd.underlying22 Tryd.underlying3 Tryd.underlying3 Tryd.underlying23 hc k x (hx x List.mem_cons_self)
        exact ⟨e :: l, rfl, fun b hb => (List.mem_cons.1 hb).elim (fun h => h ▸ okN_of_fits e he) (hl b)⟩
    obtain ⟨l, rfl, hl⟩ := this xs hx
    exact ⟨l, by rw [hc], hl⟩
theorem st_of_has' (k : Nat) (ds : List D) (h : Has Tryd.prog k 26 ds) : ∃ s : St, ds = s.d ∧ StFit s := by
  cases k with
  | zero => simp [Has] at h
  | succ k =>
    simp only [Has, Tryd.underlying26] at h
    obtain ⟨dss, rfl, hl, hf⟩ := h
    match dss, hl with
    | [a0, a1, a2, a3, a4, a5, a6, a7], _ =>
      obtain ⟨n0, rfl, _⟩ := int_of_has' k a0 (hf 0 _ a0 rfl rfl)
      obtain ⟨n1, rfl, _⟩ := int_of_has' k a1 (hf 1 _ a1 rfl rfl)
      obtain ⟨n2, rfl, _⟩ := int_of_has' k a2 (hf 2 _ a2 rfl rfl)
      obtain ⟨n3, rfl, h3⟩ := int_of_has' k a3 (hf 3 _ a3 rfl rfl)
      obtain ⟨n4, rfl, h4⟩ := int_of_has' k a4 (hf 4 _ a4 rfl rfl)
      obtain ⟨n5, rfl, h5⟩ := u32_of_has' k a5 (hf 5 _ a5 rfl rfl)
      obtain ⟨l, rfl, h6⟩ := exs_of_has' k a6 (hf 6 _ a6 rfl rfl)
      obtain ⟨c, rfl, h7⟩ := ints_of_has' k a7 (hf 7 _ a7 rfl rfl)
      exact ⟨⟨n0, n1, n2, n3, n4, n5, l, c⟩, rfl, ⟨h3, h4, h5, h6, h7⟩⟩
def stTypes : List TypeId := [26, 24] ++ exTypes
def stLit (H : Type) : DataW H := .agg [.lit (.int .i64 0), .lit (.int .i64 0), .lit (.int .i64 0), .lit (.int .i64 0), .lit (.int .i64 0), .lit (.int .u32 0), .nil, .nil]
theorem arg_st {Hh : Type} {enc : TypeId × Value → Hh} {w : World} {base : Nat} {spare : Nat → Bool} {held : Bool} {r : Reach} {b0 : Nat} {v : Value} {d : DataW Hh} {ps : List MemPlace}
    (hval : Value.okWide Tryd.prog w r b0 26 v) (hd : DataW.Trod enc Tryd.prog w base spare held 26 v d ps) :
    ∃ s : St, StFit s ∧ Shp (fun _ => none) [] (stV s) v ∧ Mem (fun _ => False) w (stV s) v := by
  obtain ⟨fuel, ds, h1, _, h3, h4⟩ := arg_struct (S := stTypes) (by kernel_rfl) (by kernel_rfl) (by simp [stTypes]) Tryd.underlying26 hval hd
  obtain ⟨s, rfl, hs⟩ := st_of_has' fuel ds h1
  exact ⟨s, hs, by simpa [St.d_eq] using h3, by simpa [St.d_eq] using h4⟩
theorem trodAll_five {H : Type} {enc : TypeId × Value → H} {P : Program} {w : World} {base : Nat} {spare : Nat → Bool} {held : Bool} {t0 t1 t2 t3 t4 : TypeId} {args : Array Value} {ds : List (DataW H)} {ps : List MemPlace}
    (h : DataW.TrodAll enc P w base spare held [t0, t1, t2, t3, t4] args.toList ds ps) :
    ∃ v0 v1 v2 v3 v4 d0 d1 d2 d3 d4 p0 p1 p2 p3 p4, args = #[v0, v1, v2, v3, v4] ∧ ds = [d0, d1, d2, d3, d4] ∧ DataW.Trod enc P w base spare held t0 v0 d0 p0 ∧ DataW.Trod enc P w base spare held t1 v1 d1 p1 ∧
      DataW.Trod enc P w base spare held t2 v2 d2 p2 ∧ DataW.Trod enc P w base spare held t3 v3 d3 p3 ∧ DataW.Trod enc P w base spare held t4 v4 d4 p4 := by
  obtain ⟨v0, vs, d0, ds', p0, q, hargs, rfl, rfl, h0, h⟩ := trodAll_cons h
  obtain ⟨v1, vs, d1, ds', p1, q, rfl, rfl, rfl, h1, h⟩ := trodAll_cons h
  obtain ⟨v2, vs, d2, ds', p2, q, rfl, rfl, rfl, h2, h⟩ := trodAll_cons h
  obtain ⟨v3, vs, d3, ds', p3, q, rfl, rfl, rfl, h3, h⟩ := trodAll_cons h
  obtain ⟨v4, vs, d4, ds', p4, q, rfl, rfl, rfl, h4, h⟩ := trodAll_cons h
  obtain ⟨rfl, rfl, rfl⟩ := trodAll_nil h
  exact ⟨v0, v1, v2, v3, v4, d0, d1, d2, d3, d4, p0, p1, p2, p3, p4, by cases args; simp_all, rfl, h0, h1, h2, h3, h4⟩
end Go.Proofs.YtjglpamdliplbaaDoor
