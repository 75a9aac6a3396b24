/- Texts that the claim leans on, laid one behind the other: Wg, Wf. -/
import Derived.Test.YtjgeicfbgpcopaaGreatDoorZW
import Derived.LaidSub
import Derived.MakeChecks
import Derived.Lib.LaidTab
import Derived.Test.YtjgeicfbgpcopaaGreatDoorZM
set_option linter.unusedSimpArgs false
set_option linter.unusedVariables false
set_option linter.unnecessarySimpa false
/- The row's listed table of math/bits, as the contracts lean on it. -/
namespace Go.Proofs.YtjgeicfbgpcopaaGreatDoor
open Go.RowKit Go.ChangeShapes Go.WideShapes
theorem gb_ofB {l : List (String × DataW Unit)} {W : World} (hl : l.filter (fun x => x.1 == "math/bits.deBruijn64tab") = [("math/bits.deBruijn64tab", Lib.tabData .u8 deB64)]) (h : laidMetH Tryz.prog l W) : GbIs W := by
  have h1 := h.filter fun x => x.1 == "math/bits.deBruijn64tab"
  rw [hl, Go.MakeChecks.laidMetH_plain _ _ _ (by kernel_rfl)] at h1
  have hg : Tryz.prog.globalNamed "math/bits.deBruijn64tab" = some 3 := by kernel_rfl
  have hT := Lib.tabIs_of_head (t := 213) (e := 5) (n := 64) hg (by kernel_rfl) (by kernel_rfl) (by kernel_rfl) (by kernel_rfl) (by kernel_rfl) h1
  intro p hp
  simp only [GB, List.mem_singleton] at hp
  subst hp
  have hc := fun i hi => hT.cell hg i hi
  refine ⟨World.block_lt_of_cell? _ _ (hc 0 (by decide +kernel)), fun j u hu => ?_⟩
  simp only [List.getElem?_map, Option.map_eq_some_iff] at hu
  obtain ⟨z, hz, rfl⟩ := hu
  have hj := (List.getElem?_eq_some_iff.1 hz).1
  rw [hc j hj, List.getD_eq_getElem?_getD, hz]
  rfl
theorem hok_of {W : World} (h : GbIs W) : HOk (fun _ => False) (fun _ => none) [] W := HOk.nil (fun _ h => h.elim) h
end Go.Proofs.YtjgeicfbgpcopaaGreatDoor

/- A graph as an argument of a law. -/
namespace Go.Proofs.YtjgeicfbgpcopaaGreatDoor
open Go.RowKit Go.ChangeShapes Go.WideShapes
set_option maxRecDepth 100000
/-- The types that a graph is made of. -/
def grTypes : List TypeId := [33, 31, 30, 28, 26, 24] ++ exTypes
theorem map_of_has {P : Program} {k : Nat} {T : TypeId} {α : Type} {f : α → List D} (h : ∀ x, Has P k T x → ∃ a, x = f a) : ∀ xs : List (List D), (∀ x ∈ xs, Has P k T x) → ∃ l : List α, xs = l.map f
  | [], _ => ⟨[], rfl⟩
  | x :: xs, hx => by
    obtain ⟨l, rfl⟩ := map_of_has h xs fun y hy => hx y (List.mem_cons_of_mem _ hy)
    obtain ⟨a, rfl⟩ := h x (hx x List.mem_cons_self)
    exact ⟨a :: l, rfl⟩
theorem int_of_has (k : Nat) (ds : List D) (h : Has Tryz.prog k 3 ds) : ∃ n : Int, ds = [.v (.int .i64 n)] := by
  cases k with
  | zero => simp [Has] at h
  | succ k =>
    simp only [Has, Tryz.underlying3] at h
    obtain ⟨n, rfl, _⟩ := h
    exact ⟨n, rfl⟩
theorem u32_of_has (k : Nat) (ds : List D) (h : Has Tryz.prog k 22 ds) : ∃ n : Int, ds = [.v (.int .u32 n)] := by
  cases k with
  | zero => simp [Has] at h
  | succ k =>
    simp only [Has, Tryz.underlying22] at h
    obtain ⟨n, rfl, _⟩ := h
    exact ⟨n, rfl⟩
theorem ints_of_has (k : Nat) (ds : List D) (h : Has Tryz.prog k 24 ds) : ∃ l : List Int, ds = [.sl 1 (i64s l)] := by
  cases k with
  | zero => simp [Has] at h
  | succ k =>
    simp only [Has, Tryz.underlying24] at h
    obtain ⟨xs, rfl, _, hx⟩ := h
    obtain ⟨l, rfl⟩ := map_of_has (int_of_has k) xs hx
    have hc : Tryz.prog.cellsOf 3 = 1 := by kernel_rfl
    exact ⟨l, by rw [hc]; rfl⟩
theorem exs_of_has (k : Nat) (ds : List D) (h : Has Tryz.prog k 23 ds) : ∃ l : List Ex, ds = [.sl 5 (Ex.ds l)] := by
  cases k with
  | zero => simp [Has] at h
  | succ k =>
    simp only [Has, Tryz.underlying23] at h
    obtain ⟨xs, rfl, _, hx⟩ := h
    have hc : Tryz.prog.cellsOf 44 = 5 := by kernel_rfl
    have : ∀ xs : List (List D), (∀ x ∈ xs, Has Tryz.prog k 44 x) → ∃ l : List Ex, xs = Ex.ds l := by
      intro xs
      induction xs with
      | nil => exact fun _ => ⟨[], rfl⟩
      | cons x xs ih =>
        intro hx
        obtain ⟨l, rfl⟩ := ih fun y hy => hx y (List.mem_cons_of_mem _ hy)
        obtain ⟨e, rfl, _⟩ := ex_of_has Tryz.underlying44 Tryz.underlying3 Tryz.underlying22 Tryz.underlying3 Tryz.underlying3 Tryz.underlying23 hc k x (hx x List.mem_cons_self)
        exact ⟨e :: l, rfl⟩
    obtain ⟨l, rfl⟩ := this xs hx
    exact ⟨l, by rw [hc]⟩
theorem st_of_has (k : Nat) (ds : List D) (h : Has Tryz.prog k 26 ds) : ∃ s : St, ds = s.d := by
  cases k with
  | zero => simp [Has] at h
  | succ k =>
    simp only [Has, Tryz.underlying26] at h
    obtain ⟨dss, rfl, hl, hf⟩ := h
    match dss, hl with
    | [a0, a1, a2, a3, a4, a5, a6, a7], _ =>
      obtain ⟨n0, rfl⟩ := int_of_has k a0 (hf 0 _ a0 rfl rfl)
      obtain ⟨n1, rfl⟩ := int_of_has k a1 (hf 1 _ a1 rfl rfl)
      obtain ⟨n2, rfl⟩ := int_of_has k a2 (hf 2 _ a2 rfl rfl)
      obtain ⟨n3, rfl⟩ := int_of_has k a3 (hf 3 _ a3 rfl rfl)
      obtain ⟨n4, rfl⟩ := int_of_has k a4 (hf 4 _ a4 rfl rfl)
      obtain ⟨n5, rfl⟩ := u32_of_has k a5 (hf 5 _ a5 rfl rfl)
      obtain ⟨l, rfl⟩ := exs_of_has k a6 (hf 6 _ a6 rfl rfl)
      obtain ⟨c, rfl⟩ := ints_of_has k a7 (hf 7 _ a7 rfl rfl)
      exact ⟨⟨n0, n1, n2, n3, n4, n5, l, c⟩, rfl⟩
theorem sts_of_has (k : Nat) (ds : List D) (h : Has Tryz.prog k 28 ds) : ∃ l : List St, ds = [.sl 8 (sts l)] := by
  cases k with
  | zero => simp [Has] at h
  | succ k =>
    simp only [Has, Tryz.underlying28] at h
    obtain ⟨xs, rfl, _, hx⟩ := h
    obtain ⟨l, rfl⟩ := map_of_has (st_of_has k) xs hx
    have hc : Tryz.prog.cellsOf 26 = 8 := by kernel_rfl
    exact ⟨l, by rw [hc]; rfl⟩
theorem bl_of_has (k : Nat) (ds : List D) (h : Has Tryz.prog k 30 ds) : ∃ b : Bl, ds = b.d := by
  cases k with
  | zero => simp [Has] at h
  | succ k =>
    simp only [Has, Tryz.underlying30] at h
    obtain ⟨dss, rfl, hl, hf⟩ := h
    match dss, hl with
    | [a0, a1], _ =>
      obtain ⟨n0, rfl⟩ := u32_of_has k a0 (hf 0 _ a0 rfl rfl)
      obtain ⟨l, rfl⟩ := sts_of_has k a1 (hf 1 _ a1 rfl rfl)
      exact ⟨⟨n0, l⟩, rfl⟩
theorem bls_of_has (k : Nat) (ds : List D) (h : Has Tryz.prog k 31 ds) : ∃ l : List Bl, ds = [.sl 2 (bls' l)] := by
  cases k with
  | zero => simp [Has] at h
  | succ k =>
    simp only [Has, Tryz.underlying31] at h
    obtain ⟨xs, rfl, _, hx⟩ := h
    obtain ⟨l, rfl⟩ := map_of_has (bl_of_has k) xs hx
    have hc : Tryz.prog.cellsOf 30 = 2 := by kernel_rfl
    exact ⟨l, by rw [hc]; rfl⟩
theorem gr_of_has (k : Nat) (ds : List D) (h : Has Tryz.prog k 33 ds) : ∃ g : Gr, ds = [.v (.int .u32 g.ad), .sl 2 (bls' g.b)] := by
  cases k with
  | zero => simp [Has] at h
  | succ k =>
    simp only [Has, Tryz.underlying33] at h
    obtain ⟨dss, rfl, hl, hf⟩ := h
    match dss, hl with
    | [a0, a1], _ =>
      obtain ⟨n0, rfl⟩ := u32_of_has k a0 (hf 0 _ a0 rfl rfl)
      obtain ⟨l, rfl⟩ := bls_of_has k a1 (hf 1 _ a1 rfl rfl)
      exact ⟨⟨n0, l⟩, rfl⟩
def grLit (H : Type) : DataW H := .agg [.lit (.int .u32 0), .nil]
theorem arg_gr {Hh : Type} {enc : TypeId × Value → Hh} {w : World} {base : Nat} {spare : Nat → Bool} {held : Bool} {r : Reach} {b0 : Nat} {v : Value} {d : DataW Hh} {ps : List MemPlace}
    (hval : Value.okWide Tryz.prog w r b0 33 v) (hd : DataW.Trod enc Tryz.prog w base spare held 33 v d ps) :
    ∃ g : Gr, Shp (fun _ => none) [] (grV g) v ∧ Mem (fun _ => False) w (grV g) v := by
  obtain ⟨fuel, ds, h1, _, h3, h4⟩ := arg_struct (S := grTypes) (by kernel_rfl) (by kernel_rfl) (by simp [grTypes]) Tryz.underlying33 hval hd
  obtain ⟨g, rfl⟩ := gr_of_has fuel ds h1
  exact ⟨g, by simpa using h3, by simpa using h4⟩
end Go.Proofs.YtjgeicfbgpcopaaGreatDoor
