/- Texts that the claim leans on, laid one behind the other: Wf, Wv. -/
import Derived.Test.YtagkfkhagjlmpaaGreatZW
import Derived.Test.YtagkfkhagjlmpaaGreatZP
set_option linter.unusedSimpArgs false
set_option linter.unusedVariables false
set_option linter.unnecessarySimpa false
/- A graph as an argument of a law. -/
namespace Go.Proofs.YtagkfkhagjlmpaaGreat
open Go.RowKit Go.ChangeShapes Go.WideShapes
set_option maxRecDepth 100000
/-- The types that a graph is made of. -/
def grTypes : List TypeId := [25, 23, 48, 46, 68, 49] ++ exTypes
theorem map_of_has {P : Program} {k : Nat} {T : TypeId} {α : Type} {f : α → List D} (h : ∀ x, Has P k T x → ∃ a, x = f a) : ∀ xs : List (List D), (∀ x ∈ xs, Has P k T x) → ∃ l : List α, xs = l.map f
  | [], _ => ⟨[], rfl⟩
  | x :: xs, hx => by
    obtain ⟨l, rfl⟩ := map_of_has h xs fun y hy => hx y (List.mem_cons_of_mem _ hy)
    obtain ⟨a, rfl⟩ := h x (hx x List.mem_cons_self)
    exact ⟨a :: l, rfl⟩
theorem int_of_has (k : Nat) (ds : List D) (h : Has Tryz.prog k 3 ds) : ∃ n : Int, ds = [.v (.int .i64 n)] := by
  cases k with
  | zero => simp [Has] at h
  | succ k =>
    simp only [Has, Tryz.underlying3] at h
    obtain ⟨n, rfl, _⟩ := h
    exact ⟨n, rfl⟩
theorem u32_of_has (k : Nat) (ds : List D) (h : Has Tryz.prog k 22 ds) : ∃ n : Int, ds = [.v (.int .u32 n)] := by
  cases k with
  | zero => simp [Has] at h
  | succ k =>
    simp only [Has, Tryz.underlying22] at h
    obtain ⟨n, rfl, _⟩ := h
    exact ⟨n, rfl⟩
theorem ints_of_has (k : Nat) (ds : List D) (h : Has Tryz.prog k 49 ds) : ∃ l : List Int, ds = [.sl 1 (i64s l)] := by
  cases k with
  | zero => simp [Has] at h
  | succ k =>
    simp only [Has, Tryz.underlying49] at h
    obtain ⟨xs, rfl, _, hx⟩ := h
    obtain ⟨l, rfl⟩ := map_of_has (int_of_has k) xs hx
    have hc : Tryz.prog.cellsOf 3 = 1 := by kernel_rfl
    exact ⟨l, by rw [hc]; rfl⟩
theorem exs_of_has (k : Nat) (ds : List D) (h : Has Tryz.prog k 66 ds) : ∃ l : List Ex, ds = [.sl 5 (Ex.ds l)] := by
  cases k with
  | zero => simp [Has] at h
  | succ k =>
    simp only [Has, Tryz.underlying66] at h
    obtain ⟨xs, rfl, _, hx⟩ := h
    have hc : Tryz.prog.cellsOf 94 = 5 := by kernel_rfl
    have : ∀ xs : List (List D), (∀ x ∈ xs, Has Tryz.prog k 94 x) → ∃ l : List Ex, xs = Ex.ds l := by
      intro xs
      induction xs with
      | nil => exact fun _ => ⟨[], rfl⟩
      | cons x xs ih =>
        intro hx
        obtain ⟨l, rfl⟩ := ih fun y hy => hx y (List.mem_cons_of_mem _ hy)
        obtain ⟨e, rfl, _⟩ := ex_of_has Tryz.underlying94 Tryz.underlying3 Tryz.underlying22 Tryz.underlying3 Tryz.underlying3 Tryz.underlying66 hc k x (hx x List.mem_cons_self)
        exact ⟨e :: l, rfl⟩
    obtain ⟨l, rfl⟩ := this xs hx
    exact ⟨l, by rw [hc]⟩
theorem st_of_has (k : Nat) (ds : List D) (h : Has Tryz.prog k 68 ds) : ∃ s : St, ds = s.d := by
  cases k with
  | zero => simp [Has] at h
  | succ k =>
    simp only [Has, Tryz.underlying68] at h
    obtain ⟨dss, rfl, hl, hf⟩ := h
    match dss, hl with
    | [a0, a1, a2, a3, a4, a5, a6, a7], _ =>
      obtain ⟨n0, rfl⟩ := int_of_has k a0 (hf 0 _ a0 rfl rfl)
      obtain ⟨n1, rfl⟩ := int_of_has k a1 (hf 1 _ a1 rfl rfl)
      obtain ⟨n2, rfl⟩ := int_of_has k a2 (hf 2 _ a2 rfl rfl)
      obtain ⟨n3, rfl⟩ := int_of_has k a3 (hf 3 _ a3 rfl rfl)
      obtain ⟨n4, rfl⟩ := int_of_has k a4 (hf 4 _ a4 rfl rfl)
      obtain ⟨n5, rfl⟩ := u32_of_has k a5 (hf 5 _ a5 rfl rfl)
      obtain ⟨l, rfl⟩ := exs_of_has k a6 (hf 6 _ a6 rfl rfl)
      obtain ⟨c, rfl⟩ := ints_of_has k a7 (hf 7 _ a7 rfl rfl)
      exact ⟨⟨n0, n1, n2, n3, n4, n5, l, c⟩, rfl⟩
theorem sts_of_has (k : Nat) (ds : List D) (h : Has Tryz.prog k 46 ds) : ∃ l : List St, ds = [.sl 8 (sts l)] := by
  cases k with
  | zero => simp [Has] at h
  | succ k =>
    simp only [Has, Tryz.underlying46] at h
    obtain ⟨xs, rfl, _, hx⟩ := h
    obtain ⟨l, rfl⟩ := map_of_has (st_of_has k) xs hx
    have hc : Tryz.prog.cellsOf 68 = 8 := by kernel_rfl
    exact ⟨l, by rw [hc]; rfl⟩
theorem bl_of_has (k : Nat) (ds : List D) (h : Has Tryz.prog k 48 ds) : ∃ b : Bl, ds = b.d := by
  cases k with
  | zero => simp [Has] at h
  | succ k =>
    simp only [Has, Tryz.underlying48] at h
    obtain ⟨dss, rfl, hl, hf⟩ := h
    match dss, hl with
    | [a0, a1], _ =>
      obtain ⟨n0, rfl⟩ := u32_of_has k a0 (hf 0 _ a0 rfl rfl)
      obtain ⟨l, rfl⟩ := sts_of_has k a1 (hf 1 _ a1 rfl rfl)
      exact ⟨⟨n0, l⟩, rfl⟩
theorem bls_of_has (k : Nat) (ds : List D) (h : Has Tryz.prog k 23 ds) : ∃ l : List Bl, ds = [.sl 2 (bls' l)] := by
  cases k with
  | zero => simp [Has] at h
  | succ k =>
    simp only [Has, Tryz.underlying23] at h
    obtain ⟨xs, rfl, _, hx⟩ := h
    obtain ⟨l, rfl⟩ := map_of_has (bl_of_has k) xs hx
    have hc : Tryz.prog.cellsOf 48 = 2 := by kernel_rfl
    exact ⟨l, by rw [hc]; rfl⟩
theorem gr_of_has (k : Nat) (ds : List D) (h : Has Tryz.prog k 25 ds) : ∃ g : Gr, ds = [.v (.int .u32 g.ad), .sl 2 (bls' g.b)] := by
  cases k with
  | zero => simp [Has] at h
  | succ k =>
    simp only [Has, Tryz.underlying25] at h
    obtain ⟨dss, rfl, hl, hf⟩ := h
    match dss, hl with
    | [a0, a1], _ =>
      obtain ⟨n0, rfl⟩ := u32_of_has k a0 (hf 0 _ a0 rfl rfl)
      obtain ⟨l, rfl⟩ := bls_of_has k a1 (hf 1 _ a1 rfl rfl)
      exact ⟨⟨n0, l⟩, rfl⟩
def grLit (H : Type) : DataW H := .agg [.lit (.int .u32 0), .nil]
theorem arg_gr {Hh : Type} {enc : TypeId × Value → Hh} {w : World} {base : Nat} {spare : Nat → Bool} {held : Bool} {r : Reach} {b0 : Nat} {v : Value} {d : DataW Hh} {ps : List MemPlace}
    (hval : Value.okWide Tryz.prog w r b0 25 v) (hd : DataW.Trod enc Tryz.prog w base spare held 25 v d ps) :
    ∃ g : Gr, Shp (fun _ => none) [] (grV g) v ∧ Mem (fun _ => False) w (grV g) v := by
  obtain ⟨fuel, ds, h1, _, h3, h4⟩ := arg_struct (S := grTypes) (by kernel_rfl) (by kernel_rfl) (by simp [grTypes]) Tryz.underlying25 hval hd
  obtain ⟨g, rfl⟩ := gr_of_has fuel ds h1
  exact ⟨g, by simpa using h3, by simpa using h4⟩
end Go.Proofs.YtagkfkhagjlmpaaGreat

/- The seats that lean on no table. -/
namespace Go.Proofs.YtagkfkhagjlmpaaGreat
open Go.RowKit
theorem gb_nil (W : World) : GbIs W := ⟨fun p hp => by simp [GB] at hp, fun g hg => by simp [GBI] at hg⟩
theorem hok_nil (W : World) : HOk (fun _ => False) (fun _ => none) [] W := HOk.nil (fun _ h => h.elim) (gb_nil W)
end Go.Proofs.YtagkfkhagjlmpaaGreat
