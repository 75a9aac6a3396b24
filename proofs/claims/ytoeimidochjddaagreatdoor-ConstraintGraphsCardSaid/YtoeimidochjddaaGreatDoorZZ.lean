/- Texts that the claim leans on, laid one behind the other: Wq. -/
import Derived.Test.YtoeimidochjddaaGreatDoorZV
import Derived.Test.YtoeimidochjddaaGreatDoorZY
set_option linter.unusedSimpArgs false
set_option linter.unusedVariables false
set_option linter.unnecessarySimpa false
/- A graph in SSA form as an argument of a law, with the lengths of its slices. -/
namespace Go.Proofs.YtoeimidochjddaaGreatDoor
open Go.RowKit Go.ChangeShapes Go.WideShapes
set_option maxRecDepth 100000
theorem ph_of_has (k : Nat) (ds : List D) (h : Has Tryz.prog k 73 ds) : ∃ p : Ph, ds = p.d := by
  cases k with
  | zero => simp [Has] at h
  | succ k =>
    simp only [Has, Tryz.underlying73] at h
    obtain ⟨dss, rfl, hl, hf⟩ := h
    match dss, hl with
    | [a0, a1], _ =>
      obtain ⟨n0, rfl⟩ := int_of_has k a0 (hf 0 _ a0 rfl rfl)
      obtain ⟨c, rfl⟩ := ints_of_has k a1 (hf 1 _ a1 rfl rfl)
      exact ⟨⟨n0, c⟩, rfl⟩
theorem phs_of_has (k : Nat) (ds : List D) (h : Has Tryz.prog k 71 ds) : ∃ l : List Ph, ds = [.sl 2 (phs l)] := by
  cases k with
  | zero => simp [Has] at h
  | succ k =>
    simp only [Has, Tryz.underlying71] at h
    obtain ⟨xs, rfl, _, hx⟩ := h
    obtain ⟨l, rfl⟩ := map_of_has (ph_of_has k) xs hx
    have hc : Tryz.prog.cellsOf 73 = 2 := by kernel_rfl
    exact ⟨l, by rw [hc]; rfl⟩
theorem phss_of_has (k : Nat) (ds : List D) (h : Has Tryz.prog k 26 ds) : ∃ l : List (List Ph), ds = [.sl 1 (phss l)] := by
  cases k with
  | zero => simp [Has] at h
  | succ k =>
    simp only [Has, Tryz.underlying26] at h
    obtain ⟨xs, rfl, _, hx⟩ := h
    obtain ⟨l, rfl⟩ := map_of_has (phs_of_has k) xs hx
    have hc : Tryz.prog.cellsOf 71 = 1 := by kernel_rfl
    exact ⟨l, by rw [hc]; rfl⟩
theorem ssa_of_has (k : Nat) (ds : List D) (h : Has Tryz.prog k 29 ds) : ∃ s : Ss, ds = [.v (.int .u32 s.g.ad), .sl 2 (bls' s.g.b), .sl 1 (phss s.ph), .sl 1 (i64s s.og)] := by
  cases k with
  | zero => simp [Has] at h
  | succ k =>
    simp only [Has, Tryz.underlying29] at h
    obtain ⟨dss, rfl, hl, hf⟩ := h
    match dss, hl with
    | [a0, a1, a2], _ =>
      obtain ⟨g, rfl⟩ := gr_of_has k a0 (hf 0 _ a0 rfl rfl)
      obtain ⟨p, rfl⟩ := phss_of_has k a1 (hf 1 _ a1 rfl rfl)
      obtain ⟨o, rfl⟩ := ints_of_has k a2 (hf 2 _ a2 rfl rfl)
      exact ⟨⟨g, p, o⟩, rfl⟩
def ssTypes : List TypeId := [29, 26, 71, 73] ++ grTypes
theorem lensS_mem {α : Type} {f : α → List D} {a : α} {n : Nat} : ∀ {l : List α}, a ∈ l → n ∈ lensT (f a) → n ∈ lensS (l.map f)
  | b :: l, h, hn => by
    simp only [List.map_cons, lensS, List.mem_append]
    rcases List.mem_cons.1 h with rfl | h
    · exact .inl hn
    · exact .inr (lensS_mem h hn)
theorem hgFit_of {s : Ss} (h : ∀ n ∈ lensT [.v (.int .u32 s.g.ad), .sl 2 (bls' s.g.b), .sl 1 (phss s.ph), .sl 1 (i64s s.og)], n ≤ reachBytes) : HgFit s := by
  have hr : reachBytes = 140737488351232 := rfl
  have hx : ∀ l : List Ex, (Ex.ds l).length = l.length := fun l => by simp
  simp only [lensT, lensD, List.nil_append, List.append_nil, List.mem_append, List.mem_cons, bls_len, phss_len, i64s_len, or_imp, forall_and, forall_eq] at h
  obtain ⟨⟨h1, h2⟩, ⟨h3, h4⟩, h5, _⟩ := h
  have hb : ∀ b ∈ s.g.b, ∀ n ∈ lensT b.d, n ≤ reachBytes := fun b hb n hn => h2 n (lensS_mem hb hn)
  have hp : ∀ l ∈ s.ph, ∀ n ∈ lensT [.sl 2 (phs l)], n ≤ reachBytes := fun l hl n hn => h4 n (lensS_mem (f := fun p => [.sl 2 (phs p)]) hl hn)
  refine ⟨by omega, fun b hm => ?_, by omega, fun l hm => ?_, by omega⟩
  · have g := hb b hm
    simp only [Bl.d_eq, lensT, lensD, List.nil_append, List.append_nil, List.mem_cons, sts_len, or_imp, forall_and, forall_eq] at g
    obtain ⟨g1, g2⟩ := g
    refine ⟨by omega, fun x hx2 => ?_⟩
    have q : ∀ n ∈ lensT x.d, n ≤ reachBytes := fun n hn => g2 n (lensS_mem hx2 hn)
    simp only [St.d_eq, lensT, lensD, List.nil_append, List.append_nil, List.mem_append, List.mem_cons, i64s_len, hx, or_imp, forall_and, forall_eq] at q
    obtain ⟨⟨q1, _⟩, q2, _⟩ := q
    unfold maxLen
    omega
  · have g := hp l hm
    simp only [lensT, lensD, List.append_nil, List.mem_cons, phs_len, or_imp, forall_and, forall_eq] at g
    obtain ⟨g1, g2⟩ := g
    refine ⟨by omega, fun p hp2 => ?_⟩
    have q : ∀ n ∈ lensT p.d, n ≤ reachBytes := fun n hn => g2 n (lensS_mem hp2 hn)
    simp only [Ph.d_eq, lensT, lensD, List.nil_append, List.append_nil, List.mem_cons, i64s_len, or_imp, forall_and, forall_eq] at q
    omega
theorem arg_ssa {Hh : Type} {enc : TypeId × Value → Hh} {w : World} {base : Nat} {spare : Nat → Bool} {held : Bool} {r : Reach} {b0 : Nat} {v : Value} {d : DataW Hh} {ps : List MemPlace}
    (hval : Value.okWide Tryz.prog w r b0 29 v) (hd : DataW.Trod enc Tryz.prog w base spare held 29 v d ps) (hz : ∀ n ∈ DataW.weights Tryz.prog 29 d, n ≤ reachBytes) :
    ∃ s : Ss, HgFit s ∧ Shp (fun _ => none) [] (ssV s) v ∧ Mem (fun _ => False) w (ssV s) v := by
  obtain ⟨fuel, ds, h1, h2, h3, h4⟩ := arg_structN (S := ssTypes) (by kernel_rfl) (by kernel_rfl) (by simp [ssTypes]) Tryz.underlying29 hval hd
  obtain ⟨s, rfl⟩ := ssa_of_has fuel ds h1
  refine ⟨s, hgFit_of fun n hn => ?_, by simpa using h3, by simpa using h4⟩
  rcases Nat.eq_zero_or_pos n with rfl | hpos
  · exact Nat.zero_le _
  · obtain ⟨m, hm, hle⟩ := h2 n hn hpos
    exact Nat.le_trans hle (hz m hm)
end Go.Proofs.YtoeimidochjddaaGreatDoor
