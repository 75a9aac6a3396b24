import Derived.Test.YtfnbhkbfelllgaaGreatDoorZW
import Derived.Test.YtfnbhkbfelllgaaGreatDoorZP
import Derived.Test.YtfnbhkbfelllgaaGreatDoorZE
import Derived.LaidSub
import Derived.MakeChecks
import Derived.Lib.LaidTab
import Derived.Shelf.Vars
set_option linter.all false
namespace Go.Proofs.YtfnbhkbfelllgaaGreatDoor
open Go.RowKit Go.ChangeShapes Go.WideShapes
set_option maxRecDepth 100000
def grTypes : List TypeId := [25, 23, 52, 50, 62, 48] ++ exTypes
theorem map_of_has {P : Program} {k : Nat} {T : TypeId} {α : Type} {f : α → List D} (h : ∀ x, Has P k T x → ∃ a, x = f a) : ∀ xs : List (List D), (∀ x ∈ xs, Has P k T x) → ∃ l : List α, xs = l.map f
 | [], _ => ⟨[], rfl⟩
 | x :: xs, hx => by
   obtain ⟨l, rfl⟩ := map_of_has h xs fun y hy => hx y (List.mem_cons_of_mem _ hy)
   obtain ⟨a, rfl⟩ := h x (hx x List.mem_cons_self)
   exact ⟨a :: l, rfl⟩
theorem int_of_has (k : Nat) (ds : List D) (h : Has Tryz.prog k 3 ds) : ∃ n : Int, ds = [.v (.int .i64 n)] := by
 cases k with
 | zero => simp [Has] at h
 | succ k =>
   simp only [Has, Tryz.underlying3] at h
   obtain ⟨n, rfl, _⟩ := h
   exact ⟨n, rfl⟩
theorem u32_of_has (k : Nat) (ds : List D) (h : Has Tryz.prog k 22 ds) : ∃ n : Int, ds = [.v (.int .u32 n)] := by
 cases k with
 | zero => simp [Has] at h
 | succ k =>
   simp only [Has, Tryz.underlying22] at h
   obtain ⟨n, rfl, _⟩ := h
   exact ⟨n, rfl⟩
theorem ints_of_has (k : Nat) (ds : List D) (h : Has Tryz.prog k 48 ds) : ∃ l : List Int, ds = [.sl 1 (i64s l)] := by
 cases k with
 | zero => simp [Has] at h
 | succ k =>
   simp only [Has, Tryz.underlying48] at h
   obtain ⟨xs, rfl, _, hx⟩ := h
   obtain ⟨l, rfl⟩ := map_of_has (int_of_has k) xs hx
   have hc : Tryz.prog.cellsOf 3 = 1 := by kernel_rfl
   exact ⟨l, by rw [hc]; rfl⟩
theorem exs_of_has (k : Nat) (ds : List D) (h : Has Tryz.prog k 26 ds) : ∃ l : List Ex, ds = [.sl 5 (Ex.ds l)] := by
 cases k with
 | zero => simp [Has] at h
 | succ k =>
   simp only [Has, Tryz.underlying26] at h
   obtain ⟨xs, rfl, _, hx⟩ := h
   have hc : Tryz.prog.cellsOf 60 = 5 := by kernel_rfl
   have : ∀ xs : List (List D), (∀ x ∈ xs, Has Tryz.prog k 60 x) → ∃ l : List Ex, xs = Ex.ds l := by
    intro xs
    induction xs with
    | nil => exact fun _ => ⟨[], rfl⟩
    | cons x xs ih =>
      intro hx
      obtain ⟨l, rfl⟩ := ih fun y hy => hx y (List.mem_cons_of_mem _ hy)
      obtain ⟨e, rfl, _⟩ := ex_of_has Tryz.underlying60 Tryz.underlying3 Tryz.underlying22 Tryz.underlying3 Tryz.underlying3 Tryz.underlying26 hc k x (hx x List.mem_cons_self)
      exact ⟨e :: l, rfl⟩
   obtain ⟨l, rfl⟩ := this xs hx
   exact ⟨l, by rw [hc]⟩
theorem st_of_has (k : Nat) (ds : List D) (h : Has Tryz.prog k 62 ds) : ∃ s : St, ds = s.d := by
 cases k with
 | zero => simp [Has] at h
 | succ k =>
   simp only [Has, Tryz.underlying62] at h
   obtain ⟨dss, rfl, hl, hf⟩ := h
   match dss, hl with
   | [a0, a1, a2, a3, a4, a5, a6, a7], _ =>
     obtain ⟨n0, rfl⟩ := int_of_has k a0 (hf 0 _ a0 rfl rfl)
     obtain ⟨n1, rfl⟩ := int_of_has k a1 (hf 1 _ a1 rfl rfl)
     obtain ⟨n2, rfl⟩ := int_of_has k a2 (hf 2 _ a2 rfl rfl)
     obtain ⟨n3, rfl⟩ := int_of_has k a3 (hf 3 _ a3 rfl rfl)
     obtain ⟨n4, rfl⟩ := int_of_has k a4 (hf 4 _ a4 rfl rfl)
     obtain ⟨n5, rfl⟩ := u32_of_has k a5 (hf 5 _ a5 rfl rfl)
     obtain ⟨l, rfl⟩ := exs_of_has k a6 (hf 6 _ a6 rfl rfl)
     obtain ⟨c, rfl⟩ := ints_of_has k a7 (hf 7 _ a7 rfl rfl)
     exact ⟨⟨n0, n1, n2, n3, n4, n5, l, c⟩, rfl⟩
theorem sts_of_has (k : Nat) (ds : List D) (h : Has Tryz.prog k 50 ds) : ∃ l : List St, ds = [.sl 8 (sts l)] := by
 cases k with
 | zero => simp [Has] at h
 | succ k =>
   simp only [Has, Tryz.underlying50] at h
   obtain ⟨xs, rfl, _, hx⟩ := h
   obtain ⟨l, rfl⟩ := map_of_has (st_of_has k) xs hx
   have hc : Tryz.prog.cellsOf 62 = 8 := by kernel_rfl
   exact ⟨l, by rw [hc]; rfl⟩
theorem bl_of_has (k : Nat) (ds : List D) (h : Has Tryz.prog k 52 ds) : ∃ b : Bl, ds = b.d := by
 cases k with
 | zero => simp [Has] at h
 | succ k =>
   simp only [Has, Tryz.underlying52] at h
   obtain ⟨dss, rfl, hl, hf⟩ := h
   match dss, hl with
   | [a0, a1], _ =>
     obtain ⟨n0, rfl⟩ := u32_of_has k a0 (hf 0 _ a0 rfl rfl)
     obtain ⟨l, rfl⟩ := sts_of_has k a1 (hf 1 _ a1 rfl rfl)
     exact ⟨⟨n0, l⟩, rfl⟩
theorem bls_of_has (k : Nat) (ds : List D) (h : Has Tryz.prog k 23 ds) : ∃ l : List Bl, ds = [.sl 2 (bls' l)] := by
 cases k with
 | zero => simp [Has] at h
 | succ k =>
   simp only [Has, Tryz.underlying23] at h
   obtain ⟨xs, rfl, _, hx⟩ := h
   obtain ⟨l, rfl⟩ := map_of_has (bl_of_has k) xs hx
   have hc : Tryz.prog.cellsOf 52 = 2 := by kernel_rfl
   exact ⟨l, by rw [hc]; rfl⟩
theorem gr_of_has (k : Nat) (ds : List D) (h : Has Tryz.prog k 25 ds) : ∃ g : Gr, ds = [.v (.int .u32 g.ad), .sl 2 (bls' g.b)] := by
 cases k with
 | zero => simp [Has] at h
 | succ k =>
   simp only [Has, Tryz.underlying25] at h
   obtain ⟨dss, rfl, hl, hf⟩ := h
   match dss, hl with
   | [a0, a1], _ =>
     obtain ⟨n0, rfl⟩ := u32_of_has k a0 (hf 0 _ a0 rfl rfl)
     obtain ⟨l, rfl⟩ := bls_of_has k a1 (hf 1 _ a1 rfl rfl)
     exact ⟨⟨n0, l⟩, rfl⟩
def grLit (H : Type) : DataW H := .agg [.lit (.int .u32 0), .nil]
theorem arg_gr {Hh : Type} {enc : TypeId × Value → Hh} {w : World} {base : Nat} {spare : Nat → Bool} {held : Bool} {r : Reach} {b0 : Nat} {v : Value} {d : DataW Hh} {ps : List MemPlace}
 (hval : Value.okWide Tryz.prog w r b0 25 v) (hd : DataW.Trod enc Tryz.prog w base spare held 25 v d ps) :
 ∃ g : Gr, Shp (fun _ => none) [] (grV g) v ∧ Mem (fun _ => False) w (grV g) v := by
 obtain ⟨fuel, ds, h1, _, h3, h4⟩ := arg_struct (S := grTypes) (by kernel_rfl) (by kernel_rfl) (by simp [grTypes]) Tryz.underlying25 hval hd
 obtain ⟨g, rfl⟩ := gr_of_has fuel ds h1
 exact ⟨g, by simpa using h3, by simpa using h4⟩
open Go.RowKit Go.ChangeShapes Go.WideShapes
set_option maxRecDepth 100000
def ndTypes : List TypeId := [29, 27] ++ exTypes
theorem nd_of_has : ∀ (k : Nat) (ds : List D), Has Tryz.prog k 29 ds → ∃ e : Nd, ds = e.d ∧ ∀ x ∈ e.pre, x.lb ≤ 9223372036854775807 := by
 have hc : Tryz.prog.cellsOf 29 = 5 := by kernel_rfl
 intro k
 induction k using Nat.strongRecOn with
 | _ k ih =>
   intro ds h
   cases k with
   | zero => simp [Has] at h
   | succ k =>
     simp only [Has, Tryz.underlying29] at h
     obtain ⟨dss, rfl, hl, hf⟩ := h
     match dss, hl with
     | [a0, a1, a2, a3, a4], _ =>
       obtain ⟨n0, rfl⟩ := int_of_has k a0 (hf 0 _ a0 rfl rfl)
       obtain ⟨n1, rfl⟩ := int_of_has k a1 (hf 1 _ a1 rfl rfl)
       have g2 := hf 2 _ a2 rfl rfl
       obtain ⟨c, rfl⟩ := exs_of_has k a3 (hf 3 _ a3 rfl rfl)
       have g4 := hf 4 _ a4 rfl rfl
       cases k with
       | zero => simp [Has] at g2
       | succ k =>
         simp only [Has, Tryz.underlying3] at g2
         simp only [Has, Tryz.underlying27] at g4
         obtain ⟨lb, rfl, wlb⟩ := g2
         obtain ⟨xs, rfl, _, hx⟩ := g4
         have : ∀ xs : List (List D), (∀ x ∈ xs, Has Tryz.prog k 29 x) → ∃ l : List Nd, xs = Nd.ds l ∧ ∀ x ∈ Nd.pres l, x.lb ≤ 9223372036854775807 := by
          intro xs
          induction xs with
          | nil => exact fun _ => ⟨[], rfl, by simp [Nd.pres]⟩
          | cons x xs ihx =>
            intro hx
            obtain ⟨l, rfl, hl⟩ := ihx fun y hy => hx y (List.mem_cons_of_mem _ hy)
            obtain ⟨e, rfl, he⟩ := ih k (by omega) x (hx x (List.mem_cons_self ..))
            refine ⟨e :: l, rfl, fun y hy => ?_⟩
            simp only [Nd.pres] at hy
            rcases List.mem_append.1 hy with hy | hy
            ·exact he y hy
            ·exact hl y hy
         obtain ⟨l, rfl, hl⟩ := this xs hx
         refine ⟨.mk n0 n1 lb c l, by simp [Nd.d, hc], fun x hx => ?_⟩
         rw [Nd.pre_eq] at hx
         rcases List.mem_cons.1 hx with rfl | hx
         ·simp only [Lit.wf, Bool.and_eq_true, decide_eq_true_eq] at wlb
          have h2 : IntKind.i64.max = 9223372036854775807 := rfl
          simp only [Nd.lb_mk]
          omega
         ·exact hl x hx
def ndLit (H : Type) : DataW H := .agg [.lit (.int .i64 0), .lit (.int .i64 0), .lit (.int .i64 0), .nil, .nil]
theorem arg_nd {Hh : Type} {enc : TypeId × Value → Hh} {w : World} {base : Nat} {spare : Nat → Bool} {held : Bool} {r : Reach} {b0 : Nat} {v : Value} {d : DataW Hh} {ps : List MemPlace}
 (hval : Value.okWide Tryz.prog w r b0 29 v) (hd : DataW.Trod enc Tryz.prog w base spare held 29 v d ps) :
 ∃ e : Nd, (∀ x ∈ e.pre, x.lb ≤ 9223372036854775807) ∧ Shp (fun _ => none) [] (ndA e) v ∧ Mem (fun _ => False) w (ndA e) v := by
 obtain ⟨fuel, ds, h1, _, h3, h4⟩ := arg_struct (S := ndTypes) (by kernel_rfl) (by kernel_rfl) (by simp [ndTypes]) Tryz.underlying29 hval hd
 obtain ⟨e, rfl, he⟩ := nd_of_has fuel ds h1
 exact ⟨e, he, by simpa [Nd.d_eq] using h3, by simpa [Nd.d_eq] using h4⟩
theorem arg_ats {Hh : Type} {enc : TypeId × Value → Hh} {w : World} {base : Nat} {spare : Nat → Bool} {held : Bool} {r : Reach} {b0 : Nat} {v : Value} {d : DataW Hh} {ps : List MemPlace}
 (hval : Value.okWide Tryz.prog w r b0 31 v) (hd : DataW.Trod enc Tryz.prog w base spare held 31 v d ps) :
 ∃ V : List Int, Shp (fun _ => none) [] (.d (.sl 1 (u32L V))) v ∧ Mem (fun _ => False) w (.d (.sl 1 (u32L V))) v := by
 obtain ⟨fuel, xs, h1, _, h3, h4⟩ := arg_slice (S := [31, 22]) (by kernel_rfl) (by kernel_rfl) (by simp) Tryz.underlying31 hval hd
 have hc : Tryz.prog.cellsOf 22 = 1 := by kernel_rfl
 rw [hc] at h1 h3 h4
 cases fuel with
 | zero => simp [Has] at h1
 | succ k =>
   simp only [Has, Tryz.underlying31] at h1
   obtain ⟨ys, he, _, hx⟩ := h1
   simp only [List.cons.injEq, D.sl.injEq, and_true] at he
   obtain ⟨_, rfl⟩ := he
   obtain ⟨V, rfl⟩ := map_of_has (u32_of_has k) xs hx
   exact ⟨V, h3, h4⟩
open Go.RowKit Go.ChangeShapes Go.WideShapes
set_option maxRecDepth 100000
theorem arg_strs {Hh : Type} {enc : TypeId × Value → Hh} {w : World} {base : Nat} {spare : Nat → Bool} {held : Bool} {r : Reach} {b0 : Nat} {v : Value} {d : DataW Hh} {ps : List MemPlace}
 (hval : Value.okWide Tryz.prog w r b0 30 v) (hd : DataW.Trod enc Tryz.prog w base spare held 30 v d ps) :
 ∃ V : List ByteArray, (∀ s ∈ V, s.size ≤ maxLen) ∧ Shp (fun _ => none) [] (.d (.sl 1 (strs V))) v ∧ Mem (fun _ => False) w (.d (.sl 1 (strs V))) v := by
 obtain ⟨fuel, xs, h1, _, h3, h4⟩ := arg_slice (S := [30, 9]) (by kernel_rfl) (by kernel_rfl) (by simp) Tryz.underlying30 hval hd
 have hc : Tryz.prog.cellsOf 9 = 1 := by kernel_rfl
 rw [hc] at h1 h3 h4
 cases fuel with
 | zero => simp [Has] at h1
 | succ k =>
   simp only [Has, Tryz.underlying30] at h1
   obtain ⟨ys, he, _, hx⟩ := h1
   simp only [List.cons.injEq, D.sl.injEq, and_true] at he
   obtain ⟨_, rfl⟩ := he
   have : ∀ xs : List (List D), (∀ x ∈ xs, Has Tryz.prog k 9 x) → ∃ V : List ByteArray, xs = strs V ∧ ∀ s ∈ V, s.size ≤ maxLen := by
    intro xs
    induction xs with
    | nil => exact fun _ => ⟨[], rfl, by simp⟩
    | cons x xs ih =>
      intro hx
      obtain ⟨V, rfl, hV⟩ := ih fun y hy => hx y (List.mem_cons_of_mem _ hy)
      have h0 := hx x List.mem_cons_self
      cases k with
      | zero => simp [Has] at h0
      | succ k =>
        simp only [Has, Tryz.underlying9] at h0
        obtain ⟨s, rfl, ws⟩ := h0
        exact ⟨s :: V, rfl, fun m hm => (List.mem_cons.1 hm).elim (fun h => h ▸ ws) (hV m)⟩
   obtain ⟨V, rfl, hV⟩ := this _ hx
   exact ⟨V, hV, h3, h4⟩
open Go.RowKit Go.ChangeShapes Go.WideShapes
theorem gb_entry {name : String} {k : IntKind} {zs : List Int} {g : Nat} {W : World} (hT : Lib.TabIs Tryz.prog W name k zs) (hg : Tryz.prog.globalNamed name = some g) (h0 : 0 < zs.length) :
 g < W.heap.size ∧ (∀ (j : Nat) (u : Value), (zs.map fun z => Value.int k z)[j]? = some u → W.cell? ⟨g, j, none⟩ = some u) ∧ ∃ t f, W.heap[g]? = some (.cells (zs.map fun z => Value.int k z).toArray t f) := by
 have hc := fun i hi => hT.cell hg i hi
 refine ⟨World.block_lt_of_cell? _ _ (hc 0 h0), fun j u hu => ?_, ?_⟩
 ·simp only [List.getElem?_map, Option.map_eq_some_iff] at hu
  obtain ⟨z, hz, rfl⟩ := hu
  have hj := (gSI.1 hz).1
  rw [hc j hj, List.getD_eq_getElem?_getD, hz]
  rfl
 ·unfold Lib.TabIs World.var? at hT
  rw [hg] at hT
  simp only [Option.bind_some] at hT
  split at hT
  ·rename_i cs t f he
   simp only [Option.some.injEq] at hT
   subst hT
   exact ⟨_, _, he⟩
  ·cases hT
theorem gb_ofE {l : List (String × DataW Unit)} {W : World} (hS : W.ShapedOpen Tryz.prog) (hl : l.filter (fun x => x.1 == "math/bits.deBruijn64tab") = [("math/bits.deBruijn64tab", Lib.tabData .u8 deB64)])
 (hp : l.filter (fun x => x.1 == "internal/strconv.uint64pow10") = [("internal/strconv.uint64pow10", Lib.tabData .u64 Lib.pow10Tab)])
 (hs : l.filter (fun x => x.1 == "strings.asciiSpace") = [("strings.asciiSpace", Lib.tabData .u8 Lib.asciiSpaceTab)]) (h : laidMetH Tryz.prog l W) : GbIs W := by
 have h1 := h.filter fun x => x.1 == "math/bits.deBruijn64tab"
 rw [hl, Go.MakeChecks.laidMetH_plain _ _ _ (by kernel_rfl)] at h1
 have h2 := h.filter fun x => x.1 == "internal/strconv.uint64pow10"
 rw [hp, Go.MakeChecks.laidMetH_plain _ _ _ (by kernel_rfl)] at h2
 have h3 := h.filter fun x => x.1 == "strings.asciiSpace"
 rw [hs, Go.MakeChecks.laidMetH_plain _ _ _ (by kernel_rfl)] at h3
 have hg : Tryz.prog.globalNamed "math/bits.deBruijn64tab" = some 5 := by kernel_rfl
 have hT := Lib.tabIs_of_head (t := 310) (e := 5) (n := 64) hg (by kernel_rfl) (by kernel_rfl) (by kernel_rfl) (by kernel_rfl) (by kernel_rfl) h1
 have hg2 : Tryz.prog.globalNamed "internal/strconv.uint64pow10" = some 2 := by kernel_rfl
 have hT2 := Lib.tabIs_of_head (t := 282) (e := 236) (n := 20) hg2 (by kernel_rfl) (by kernel_rfl) (by kernel_rfl) (by kernel_rfl) (by kernel_rfl) h2
 have hg3 : Tryz.prog.globalNamed "strings.asciiSpace" = some 0 := by kernel_rfl
 have hT3 := Lib.tabIs_of_head (t := 207) (e := 5) (n := 256) hg3 (by kernel_rfl) (by kernel_rfl) (by kernel_rfl) (by kernel_rfl) (by kernel_rfl) h3
 refine ⟨fun p hp => ?_, fun g hg => ?_⟩
 ·simp only [GB, List.mem_cons, List.not_mem_nil, or_false] at hp
  rcases hp with rfl | rfl | rfl
  ·exact gb_entry hT3 hg3 (by decide +kernel)
  ·exact gb_entry hT hg (by decide +kernel)
  ·exact gb_entry hT2 hg2 (by decide +kernel)
 ·simp only [GBI, List.mem_cons, List.not_mem_nil, or_false] at hg
  subst hg
  obtain ⟨m, hm⟩ := Go.Proofs.cell_of_shapedOpen_int (P := Tryz.prog) (w := W) (g := 3) (zero := #[.int .i64 0]) (t := 3) hS (of_decide_eq_true (by kernel_rfl)) (by kernel_rfl) rfl (by kernel_rfl) (by kernel_rfl) Tryz.underlying3
  exact ⟨World.block_lt_of_cell? _ _ hm, m, hm⟩
theorem hok_of {W : World} (h : GbIs W) : HOk (fun _ => False) (fun _ => none) [] W := HOk.nil (fun _ h => h.elim) h
end Go.Proofs.YtfnbhkbfelllgaaGreatDoor
