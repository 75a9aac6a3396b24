import Derived.Test.YtplbaolbaniioaaGreatDoorZW
import Derived.Test.YtplbaolbaniioaaGreatDoorZP
import Derived.Test.YtplbaolbaniioaaGreatDoorZR
import Derived.LaidSub
import Derived.MakeChecks
import Derived.Lib.LaidTab
set_option linter.all false
namespace Go.Proofs.YtplbaolbaniioaaGreatDoor
open Go.RowKit Go.ChangeShapes Go.WideShapes
set_option maxRecDepth 100000
def grTypes : List TypeId := [30, 28, 38, 36, 61, 59] ++ exTypes
theorem map_of_has {P : Program} {k : Nat} {T : TypeId} {α : Type} {f : α → List D} (h : ∀ x, Has P k T x → ∃ a, x = f a) : ∀ xs : List (List D), (∀ x ∈ xs, Has P k T x) → ∃ l : List α, xs = l.map f
 | [], _ => ⟨[], rfl⟩
 | x :: xs, hx => by
   obtain ⟨l, rfl⟩ := map_of_has h xs fun y hy => hx y (List.mem_cons_of_mem _ hy)
   obtain ⟨a, rfl⟩ := h x (hx x List.mem_cons_self)
   exact ⟨a :: l, rfl⟩
theorem int_of_has (k : Nat) (ds : List D) (h : Has Tryz.prog k 3 ds) : ∃ n : Int, ds = [.v (.int .i64 n)] := by
 cases k with
 | zero => simp [Has] at h
 | succ k =>
   simp only [Has, Tryz.underlying3] at h
   obtain ⟨n, rfl, _⟩ := h
   exact ⟨n, rfl⟩
theorem u32_of_has (k : Nat) (ds : List D) (h : Has Tryz.prog k 24 ds) : ∃ n : Int, ds = [.v (.int .u32 n)] := by
 cases k with
 | zero => simp [Has] at h
 | succ k =>
   simp only [Has, Tryz.underlying24] at h
   obtain ⟨n, rfl, _⟩ := h
   exact ⟨n, rfl⟩
theorem ints_of_has (k : Nat) (ds : List D) (h : Has Tryz.prog k 59 ds) : ∃ l : List Int, ds = [.sl 1 (i64s l)] := by
 cases k with
 | zero => simp [Has] at h
 | succ k =>
   simp only [Has, Tryz.underlying59] at h
   obtain ⟨xs, rfl, _, hx⟩ := h
   obtain ⟨l, rfl⟩ := map_of_has (int_of_has k) xs hx
   have hc : Tryz.prog.cellsOf 3 = 1 := by kernel_rfl
   exact ⟨l, by rw [hc]; rfl⟩
open Go.RowKit Go.ChangeShapes Go.WideShapes
set_option maxRecDepth 100000
theorem wf_r32 {n : Int} (h : (Lit.int .u32 n).wf = true) : R32 n := by
 simp only [Lit.wf, Bool.and_eq_true, decide_eq_true_eq] at h
 have h1 : IntKind.u32.min = 0 := rfl
 have h2 : IntKind.u32.max = 4294967295 := rfl
 exact ⟨by omega, by omega⟩
theorem okN_fits : ∀ e : Ex, e.fits → OkN e := by
 intro e
 induction e using Ex.ind with
 | h e ih =>
   intro hf
   obtain ⟨o, n, v, w, l⟩ := e
   simp only [Ex.fits] at hf
   exact .mk (wf_r32 hf.2.1) fun x hx => ih x hx (Ex.fitss_mem hf.2.2.2.2.2 x hx)
theorem map_of_hasP {P : Program} {k : Nat} {T : TypeId} {α : Type} {f : α → List D} {Q : α → Prop} (h : ∀ x, Has P k T x → ∃ a, x = f a ∧ Q a) : ∀ xs : List (List D), (∀ x ∈ xs, Has P k T x) → ∃ l : List α, xs = l.map f ∧ ∀ a ∈ l, Q a
 | [], _ => ⟨[], rfl, by simp⟩
 | x :: xs, hx => by
   obtain ⟨l, rfl, hl⟩ := map_of_hasP h xs fun y hy => hx y (List.mem_cons_of_mem _ hy)
   obtain ⟨a, rfl, ha⟩ := h x (hx x List.mem_cons_self)
   exact ⟨a :: l, rfl, fun b hb => (List.mem_cons.1 hb).elim (fun h => h ▸ ha) (hl b)⟩
theorem u32_of_hasR (k : Nat) (ds : List D) (h : Has Tryz.prog k 24 ds) : ∃ n : Int, ds = [.v (.int .u32 n)] ∧ R32 n := by
 cases k with
 | zero => simp [Has] at h
 | succ k =>
   simp only [Has, Tryz.underlying24] at h
   obtain ⟨n, rfl, hw⟩ := h
   exact ⟨n, rfl, wf_r32 hw⟩
theorem exs_of_hasR (k : Nat) (ds : List D) (h : Has Tryz.prog k 51 ds) : ∃ l : List Ex, ds = [.sl 5 (Ex.ds l)] ∧ ∀ e ∈ l, OkN e := by
 cases k with
 | zero => simp [Has] at h
 | succ k =>
   simp only [Has, Tryz.underlying51] at h
   obtain ⟨xs, rfl, _, hx⟩ := h
   have hc : Tryz.prog.cellsOf 53 = 5 := by kernel_rfl
   have : ∀ xs : List (List D), (∀ x ∈ xs, Has Tryz.prog k 53 x) → ∃ l : List Ex, xs = Ex.ds l ∧ ∀ e ∈ l, OkN e := by
    intro xs
    induction xs with
    | nil => exact fun _ => ⟨[], rfl, by simp⟩
    | cons x xs ih =>
      intro hx
      obtain ⟨l, rfl, hl⟩ := ih fun y hy => hx y (List.mem_cons_of_mem _ hy)
      obtain ⟨e, rfl, he⟩ := ex_of_has Tryz.underlying53 Tryz.underlying3 Tryz.underlying24 Tryz.underlying3 Tryz.underlying3 Tryz.underlying51 hc k x (hx x List.mem_cons_self)
      exact ⟨e :: l, rfl, fun b hb => (List.mem_cons.1 hb).elim (fun h => h ▸ okN_fits e he) (hl b)⟩
   obtain ⟨l, rfl, hl⟩ := this xs hx
   exact ⟨l, by rw [hc], hl⟩
theorem st_of_hasR (k : Nat) (ds : List D) (h : Has Tryz.prog k 61 ds) : ∃ s : St, ds = s.d ∧ ∀ e ∈ s.e, OkN e := by
 cases k with
 | zero => simp [Has] at h
 | succ k =>
   simp only [Has, Tryz.underlying61] at h
   obtain ⟨dss, rfl, hl, hf⟩ := h
   match dss, hl with
   | [a0, a1, a2, a3, a4, a5, a6, a7], _ =>
     obtain ⟨n0, rfl⟩ := int_of_has k a0 (hf 0 _ a0 rfl rfl)
     obtain ⟨n1, rfl⟩ := int_of_has k a1 (hf 1 _ a1 rfl rfl)
     obtain ⟨n2, rfl⟩ := int_of_has k a2 (hf 2 _ a2 rfl rfl)
     obtain ⟨n3, rfl⟩ := int_of_has k a3 (hf 3 _ a3 rfl rfl)
     obtain ⟨n4, rfl⟩ := int_of_has k a4 (hf 4 _ a4 rfl rfl)
     obtain ⟨n5, rfl⟩ := u32_of_has k a5 (hf 5 _ a5 rfl rfl)
     obtain ⟨l, rfl, hl⟩ := exs_of_hasR k a6 (hf 6 _ a6 rfl rfl)
     obtain ⟨c, rfl⟩ := ints_of_has k a7 (hf 7 _ a7 rfl rfl)
     exact ⟨⟨n0, n1, n2, n3, n4, n5, l, c⟩, rfl, hl⟩
theorem sts_of_hasR (k : Nat) (ds : List D) (h : Has Tryz.prog k 36 ds) : ∃ l : List St, ds = [.sl 8 (sts l)] ∧ ∀ s ∈ l, ∀ e ∈ s.e, OkN e := by
 cases k with
 | zero => simp [Has] at h
 | succ k =>
   simp only [Has, Tryz.underlying36] at h
   obtain ⟨xs, rfl, _, hx⟩ := h
   obtain ⟨l, rfl, hl⟩ := map_of_hasP (st_of_hasR k) xs hx
   have hc : Tryz.prog.cellsOf 61 = 8 := by kernel_rfl
   exact ⟨l, by rw [hc]; rfl, hl⟩
theorem bl_of_hasR (k : Nat) (ds : List D) (h : Has Tryz.prog k 38 ds) : ∃ b : Bl, ds = b.d ∧ ∀ s ∈ b.s, ∀ e ∈ s.e, OkN e := by
 cases k with
 | zero => simp [Has] at h
 | succ k =>
   simp only [Has, Tryz.underlying38] at h
   obtain ⟨dss, rfl, hl, hf⟩ := h
   match dss, hl with
   | [a0, a1], _ =>
     obtain ⟨n0, rfl⟩ := u32_of_has k a0 (hf 0 _ a0 rfl rfl)
     obtain ⟨l, rfl, hl⟩ := sts_of_hasR k a1 (hf 1 _ a1 rfl rfl)
     exact ⟨⟨n0, l⟩, rfl, hl⟩
theorem bls_of_hasR (k : Nat) (ds : List D) (h : Has Tryz.prog k 28 ds) : ∃ l : List Bl, ds = [.sl 2 (bls' l)] ∧ ∀ b ∈ l, ∀ s ∈ b.s, ∀ e ∈ s.e, OkN e := by
 cases k with
 | zero => simp [Has] at h
 | succ k =>
   simp only [Has, Tryz.underlying28] at h
   obtain ⟨xs, rfl, _, hx⟩ := h
   obtain ⟨l, rfl, hl⟩ := map_of_hasP (bl_of_hasR k) xs hx
   have hc : Tryz.prog.cellsOf 38 = 2 := by kernel_rfl
   exact ⟨l, by rw [hc]; rfl, hl⟩
theorem gr_of_hasR (k : Nat) (ds : List D) (h : Has Tryz.prog k 30 ds) : ∃ g : Gr, ds = g.d ∧ ∀ b ∈ g.b, ∀ s ∈ b.s, ∀ e ∈ s.e, OkN e := by
 cases k with
 | zero => simp [Has] at h
 | succ k =>
   simp only [Has, Tryz.underlying30] at h
   obtain ⟨dss, rfl, hl, hf⟩ := h
   match dss, hl with
   | [a0, a1], _ =>
     obtain ⟨n0, rfl⟩ := u32_of_has k a0 (hf 0 _ a0 rfl rfl)
     obtain ⟨l, rfl, hl⟩ := bls_of_hasR k a1 (hf 1 _ a1 rfl rfl)
     exact ⟨⟨n0, l⟩, rfl, hl⟩
theorem grs_of_hasR (k : Nat) (ds : List D) (h : Has Tryz.prog k 22 ds) : ∃ l : List Gr, ds = [.sl 2 (grs l)] ∧ l.length ≤ maxLen ∧ ∀ g ∈ l, ∀ b ∈ g.b, ∀ s ∈ b.s, ∀ e ∈ s.e, OkN e := by
 cases k with
 | zero => simp [Has] at h
 | succ k =>
   simp only [Has, Tryz.underlying22] at h
   obtain ⟨xs, rfl, hm, hx⟩ := h
   obtain ⟨l, rfl, hl⟩ := map_of_hasP (gr_of_hasR k) xs hx
   have hc : Tryz.prog.cellsOf 30 = 2 := by kernel_rfl
   exact ⟨l, by rw [hc]; rfl, by simpa using hm, hl⟩
theorem byt_of_has (k : Nat) (ds : List D) (h : Has Tryz.prog k 78 ds) : ∃ l : List Int, ds = [.sl 1 (u8d l)] ∧ l.length ≤ maxLen := by
 cases k with
 | zero => simp [Has] at h
 | succ k =>
   simp only [Has, Tryz.underlying78] at h
   obtain ⟨xs, rfl, hm, hx⟩ := h
   have hu : ∀ x, Has Tryz.prog k 5 x → ∃ n : Int, x = [.v (.int .u8 n)] := fun x hx => by
    cases k with
    | zero => simp [Has] at hx
    | succ k =>
      simp only [Has, Tryz.underlying5] at hx
      obtain ⟨n, rfl, _⟩ := hx
      exact ⟨n, rfl⟩
   obtain ⟨l, rfl⟩ := map_of_has (f := fun n : Int => [D.v (.int .u8 n)]) hu xs hx
   have hc : Tryz.prog.cellsOf 5 = 1 := by kernel_rfl
   exact ⟨l, by rw [hc]; rfl, by simpa using hm⟩
theorem sec_of_has (k : Nat) (ds : List D) (h : Has Tryz.prog k 80 ds) : ∃ s : Sec, ds = s.d ∧ (0 ≤ s.ad ∧ s.ad < 4294967296) ∧ s.da.length ≤ maxLen ∧ s.nm.size ≤ maxLen := by
 cases k with
 | zero => simp [Has] at h
 | succ k =>
   simp only [Has, Tryz.underlying80] at h
   obtain ⟨dss, rfl, hl, hf⟩ := h
   match dss, hl with
   | [a0, a1, a2, a3, a4], _ =>
     have g0 := hf 0 _ a0 rfl rfl
     have g3 := hf 3 _ a3 rfl rfl
     have g4 := hf 4 _ a4 rfl rfl
     obtain ⟨n1, rfl, hr⟩ := u32_of_hasR k a1 (hf 1 _ a1 rfl rfl)
     obtain ⟨l, rfl, hm⟩ := byt_of_has k a2 (hf 2 _ a2 rfl rfl)
     cases k with
     | zero => simp [Has] at g0
     | succ k =>
       simp only [Has, Tryz.underlying9] at g0
       simp only [Has, Tryz.underlying4] at g3 g4
       obtain ⟨s, rfl, hs⟩ := g0
       obtain ⟨b3, rfl⟩ := g3
       obtain ⟨b4, rfl⟩ := g4
       refine ⟨⟨s, n1, l, b3, b4⟩, rfl, ?_, hm, hs⟩
       unfold R32 at hr
       exact ⟨by have := hr.1; exact this, by have := hr.2; show n1 < 4294967296; omega⟩
theorem secs_of_has (k : Nat) (ds : List D) (h : Has Tryz.prog k 23 ds) : ∃ l : List Sec, ds = [.sl 5 (secs l)] ∧ ∀ s ∈ l, (0 ≤ s.ad ∧ s.ad < 4294967296) ∧ s.da.length ≤ maxLen ∧ s.nm.size ≤ maxLen := by
 cases k with
 | zero => simp [Has] at h
 | succ k =>
   simp only [Has, Tryz.underlying23] at h
   obtain ⟨xs, rfl, hm, hx⟩ := h
   obtain ⟨l, rfl, hl⟩ := map_of_hasP (sec_of_has k) xs hx
   have hc : Tryz.prog.cellsOf 80 = 5 := by kernel_rfl
   exact ⟨l, by rw [hc]; rfl, hl⟩
theorem pr_of_has (k : Nat) (ds : List D) (h : Has Tryz.prog k 26 ds) : ∃ gs ss en, ds = [.sl 2 (grs gs), .sl 5 (secs ss), .v (.int .u32 en)] ∧ gs.length ≤ maxLen ∧ (∀ g ∈ gs, ∀ b ∈ g.b, ∀ s ∈ b.s, ∀ e ∈ s.e, OkN e) ∧ ∀ s ∈ ss, (0 ≤ s.ad ∧ s.ad < 4294967296) ∧ s.da.length ≤ maxLen ∧ s.nm.size ≤ maxLen := by
 cases k with
 | zero => simp [Has] at h
 | succ k =>
   simp only [Has, Tryz.underlying26] at h
   obtain ⟨dss, rfl, hl, hf⟩ := h
   match dss, hl with
   | [a0, a1, a2], _ =>
     obtain ⟨gs, rfl, h1, h2⟩ := grs_of_hasR k a0 (hf 0 _ a0 rfl rfl)
     obtain ⟨ss, rfl, h3⟩ := secs_of_has k a1 (hf 1 _ a1 rfl rfl)
     obtain ⟨n2, rfl⟩ := u32_of_has k a2 (hf 2 _ a2 rfl rfl)
     exact ⟨gs, ss, n2, rfl, h1, h2, h3⟩
def prTypes : List TypeId := [26, 22, 23, 80, 9, 4, 78, 5] ++ grTypes
def prLit (H : Type) : DataW H := .agg [.nil, .nil, .lit (.int .u32 0)]
theorem arg_pr {Hh : Type} {enc : TypeId × Value → Hh} {w : World} {base : Nat} {spare : Nat → Bool} {held : Bool} {r : Reach} {b0 : Nat} {v : Value} {d : DataW Hh} {ps : List MemPlace}
 (hval : Value.okWide Tryz.prog w r b0 26 v) (hd : DataW.Trod enc Tryz.prog w base spare held 26 v d ps) :
 ∃ gs ss en, (gs.length ≤ maxLen ∧ (∀ g ∈ gs, ∀ b ∈ g.b, ∀ s ∈ b.s, ∀ e ∈ s.e, OkN e) ∧ ∀ s ∈ ss, (0 ≤ s.ad ∧ s.ad < 4294967296) ∧ s.da.length ≤ maxLen ∧ s.nm.size ≤ maxLen) ∧ Shp (fun _ => none) [] (prV gs ss en) v ∧ Mem (fun _ => False) w (prV gs ss en) v := by
 obtain ⟨fuel, ds, h1, _, h3, h4⟩ := arg_struct (S := prTypes) (by kernel_rfl) (by kernel_rfl) (by simp [prTypes]) Tryz.underlying26 hval hd
 obtain ⟨gs, ss, en, rfl, h5, h6, h7⟩ := pr_of_has fuel ds h1
 exact ⟨gs, ss, en, ⟨h5, h6, h7⟩, by simpa [prV] using h3, by simpa [prV] using h4⟩
theorem arg_inp {Hh : Type} {enc : TypeId × Value → Hh} {w : World} {base : Nat} {spare : Nat → Bool} {held : Bool} {r : Reach} {b0 : Nat} {v : Value} {d : DataW Hh} {ps : List MemPlace}
 (hval : Value.okWide Tryz.prog w r b0 27 v) (hd : DataW.Trod enc Tryz.prog w base spare held 27 v d ps) :
 ∃ V : List Int, ((∀ n ∈ V, R32 n) ∧ V.length ≤ maxLen) ∧ Shp (fun _ => none) [] (.d (.sl 1 (u32d V))) v ∧ Mem (fun _ => False) w (.d (.sl 1 (u32d V))) v := by
 obtain ⟨fuel, xs, h1, _, h3, h4⟩ := arg_slice (S := [27, 24]) (by kernel_rfl) (by kernel_rfl) (by simp) Tryz.underlying27 hval hd
 have hc : Tryz.prog.cellsOf 24 = 1 := by kernel_rfl
 rw [hc] at h1 h3 h4
 cases fuel with
 | zero => simp [Has] at h1
 | succ k =>
   simp only [Has, Tryz.underlying27] at h1
   obtain ⟨ys, he, hm, hx⟩ := h1
   simp only [List.cons.injEq, D.sl.injEq, and_true] at he
   obtain ⟨_, rfl⟩ := he
   obtain ⟨V, rfl, hV⟩ := map_of_hasP (f := fun n : Int => [D.v (.int .u32 n)]) (u32_of_hasR k) _ hx
   exact ⟨V, ⟨hV, by simpa using hm⟩, h3, h4⟩
open Go.RowKit Go.ChangeShapes Go.WideShapes
theorem gb_entry {name : String} {k : IntKind} {zs : List Int} {g : Nat} {W : World} (hT : Lib.TabIs Tryz.prog W name k zs) (hg : Tryz.prog.globalNamed name = some g) (h0 : 0 < zs.length) :
 g < W.heap.size ∧ (∀ (j : Nat) (u : Value), (zs.map fun z => Value.int k z)[j]? = some u → W.cell? ⟨g, j, none⟩ = some u) ∧ ∃ t f, W.heap[g]? = some (.cells (zs.map fun z => Value.int k z).toArray t f) := by
 have hc := fun i hi => hT.cell hg i hi
 refine ⟨World.block_lt_of_cell? _ _ (hc 0 h0), fun j u hu => ?_, ?_⟩
 ·simp only [List.getElem?_map, Option.map_eq_some_iff] at hu
  obtain ⟨z, hz, rfl⟩ := hu
  have hj := (gSI.1 hz).1
  rw [hc j hj, List.getD_eq_getElem?_getD, hz]
  rfl
 ·unfold Lib.TabIs World.var? at hT
  rw [hg] at hT
  simp only [Option.bind_some] at hT
  split at hT
  ·rename_i cs t f he
   simp only [Option.some.injEq] at hT
   subst hT
   exact ⟨_, _, he⟩
  ·cases hT
theorem gb_ofC {l : List (String × DataW Unit)} {W : World} (hl : l.filter (fun x => x.1 == "math/bits.deBruijn64tab") = [("math/bits.deBruijn64tab", Lib.tabData .u8 deB64)])
 (hp : l.filter (fun x => x.1 == "internal/strconv.uint64pow10") = [("internal/strconv.uint64pow10", Lib.tabData .u64 Lib.pow10Tab)]) (h : laidMetH Tryz.prog l W) : GbIs W := by
 have h1 := h.filter fun x => x.1 == "math/bits.deBruijn64tab"
 rw [hl, Go.MakeChecks.laidMetH_plain _ _ _ (by kernel_rfl)] at h1
 have h2 := h.filter fun x => x.1 == "internal/strconv.uint64pow10"
 rw [hp, Go.MakeChecks.laidMetH_plain _ _ _ (by kernel_rfl)] at h2
 have hg : Tryz.prog.globalNamed "math/bits.deBruijn64tab" = some 3 := by kernel_rfl
 have hT := Lib.tabIs_of_head (t := 218) (e := 5) (n := 64) hg (by kernel_rfl) (by kernel_rfl) (by kernel_rfl) (by kernel_rfl) (by kernel_rfl) h1
 have hg2 : Tryz.prog.globalNamed "internal/strconv.uint64pow10" = some 0 := by kernel_rfl
 have hT2 := Lib.tabIs_of_head (t := 202) (e := 84) (n := 20) hg2 (by kernel_rfl) (by kernel_rfl) (by kernel_rfl) (by kernel_rfl) (by kernel_rfl) h2
 refine ⟨fun p hp => ?_, fun g hg => by simp [GBI] at hg⟩
 simp only [GB, List.mem_cons, List.not_mem_nil, or_false] at hp
 rcases hp with rfl | rfl
 ·exact gb_entry hT hg (by decide +kernel)
 ·exact gb_entry hT2 hg2 (by decide +kernel)
theorem hok_of {W : World} (h : GbIs W) : HOk (fun _ => False) (fun _ => none) [] W := HOk.nil (fun _ h => h.elim) h
end Go.Proofs.YtplbaolbaniioaaGreatDoor
