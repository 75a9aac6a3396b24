/- Texts that the claim leans on, laid one behind the other: Ms, Za, Mt, Ob, Zb. -/
import Derived.Test.YtngjcmeclhlfeaaZP
import Derived.Test.YtngjcmeclhlfeaaSh
import Derived.Test.YtngjcmeclhlfeaaAE
set_option linter.unusedSimpArgs false
set_option linter.unusedVariables false
set_option linter.unnecessarySimpa false
/- Contracts: slices.Sort and slices.Compact at numbers, on a slice of one's own. -/
namespace Go.Proofs.Ytngjcmeclhlfeaa
open Go.RowKit
section
variable {H : Nat → Prop} {ι : Place} {A : AHeap} {w w' : World}
/-- Numbers written over a block of one's own. -/
theorem ints_put {b : Nat} {k : Blk} {c n : Nat} {L : List Int} {arr arr' : Array Value} (hR : Rel H ι A w) (hAb : A[b]? = some k) (hwr : k.wr = true) (hι : ι b = some (c, n)) (hsz : k.sz = 1) (hty : k.ty < 1000000) (hel : L.length = k.els.length)
    (a1 : w.heap[c]? = some (.cells arr k.ty (0, 0))) (a2 : arr.size = n) (a3 : k.els.length * k.sz ≤ n) (s2 : w'.heap[c]? = some (.cells arr' k.ty (0, 0))) (s3 : arr'.size = arr.size) (s4 : ∀ (i : Nat) (v : Int), L[i]? = some v → arr'[i]? = some (.int .i64 v))
    (s5 : w.heap.size ≤ w'.heap.size) (s6 : ∀ b, b < w.heap.size → b ≠ c → SameB w w' b) (s7 : w'.os = w.os) (s8 : w'.tape = w.tape) (s9 : w'.output = w.output) :
    Rel H ι (A.set b (setEls k (dEls (i64s L)))) w' ∧ Step ι A w ι (A.set b (setEls k (dEls (i64s L)))) w' := by
  have hlt := (List.getElem?_eq_some_iff.1 hAb).1
  have hst : Step ι A w ι (A.set b (setEls k (dEls (i64s L)))) w' := by
    refine ⟨fun b' k' hb' => ?_, fun c' hc' => .inl ((Mu_set (k' := setEls k (dEls (i64s L))) hAb rfl c').1 hc'), fun c' hc' hn => s6 c' hc' fun he => hn (he ▸ ⟨b, k, n, hAb, hwr, hι⟩), s5, s7, s8, s9⟩
    by_cases he : b = b'
    · subst he
      rw [hAb] at hb'
      obtain rfl := Option.some.inj hb'
      exact ⟨_, List.getElem?_set_self hlt, Nat.le_refl _, fun _ => ⟨rfl, rfl⟩⟩
    · exact ⟨k', by rw [List.getElem?_set_ne he]; exact hb', Nat.le_refl _, fun _ => ⟨rfl, rfl⟩⟩
  have hN : Nn H ι (A.set b (setEls k (dEls (i64s L)))) = Nn H ι A := Nn_set (k' := setEls k (dEls (i64s L))) hAb rfl
  have hget : ∀ (b' : Nat) (k' : Blk), (A.set b (setEls k (dEls (i64s L))))[b']? = some k' → (b' = b ∧ k' = setEls k (dEls (i64s L))) ∨ (b' ≠ b ∧ A[b']? = some k') := by
    intro b' k' hb'
    by_cases he : b = b'
    · subst he
      rw [List.getElem?_set_self hlt] at hb'
      exact .inl ⟨rfl, (Option.some.inj hb').symm⟩
    · rw [List.getElem?_set_ne he] at hb'
      exact .inr ⟨fun h => he h.symm, hb'⟩
  have hblk : ∀ (b' : Nat) (k' : Blk), (A.set b (setEls k (dEls (i64s L))))[b']? = some k' → ∃ k2 : Blk, A[b']? = some k2 := by
    intro b' k' hb'
    rcases hget b' k' hb' with ⟨rfl, _⟩ | ⟨_, h2⟩
    · exact ⟨k, hAb⟩
    · exact ⟨k', h2⟩
  refine ⟨⟨fun b' k' hb' => ?_, fun b' k' c' n' hb' hc' => ?_, fun b1 b2 k1 k2 c1 n1 n2 h1 h2 e1 e2 => ?_⟩, hst⟩
  · rcases hget b' k' hb' with ⟨rfl, rfl⟩ | ⟨hne, hb2⟩
    · unfold BlkRel
      rw [hι]
      refine ⟨arr', .inl ⟨hty, s2⟩, ⟨fun _ => s3.trans a2, fun h => absurd hty h⟩, ?_, fun i x hi => ?_⟩
      · simp only [setEls, dEls_len, i64s_len, hsz] at a3 ⊢
        omega
      · simp only [setEls] at hi ⊢
        rw [hsz]
        simp only [dEls, i64s, List.map_map, List.getElem?_map, Option.map_eq_some_iff] at hi
        obtain ⟨v, hv, rfl⟩ := hi
        refine ⟨rfl, fun j av hj => ?_⟩
        cases j with
        | succ j => simp at hj
        | zero =>
          simp at hj
          subst hj
          refine ⟨.int .i64 v, by simpa using s4 i v hv, ⟨by simp [Shp], by simp [Mem, Rd, Value.oneCell']⟩, rfl⟩
    · have hb := hR.blk b' k' hb2
      refine hb.step rfl (fun c' n' hc' => ?_) fun c u hv => Val.step hst hv
      have hcc : c' ≠ c := fun h => hne (hR.inj b' b k' k c n' n hb2 hAb (h ▸ hc') hι)
      exact s6 c' (hR.hid b' k' c' n' hb2 hc').2 hcc
  · obtain ⟨k2, h2⟩ := hblk b' k' hb'
    have := hR.hid b' k2 c' n' h2 hc'
    exact ⟨this.1, Nat.lt_of_lt_of_le this.2 s5⟩
  · obtain ⟨k3, h3⟩ := hblk b1 k1 h1
    obtain ⟨k4, h4⟩ := hblk b2 k2 h2
    exact hR.inj b1 b2 k3 k4 c1 n1 n2 h3 h4 e1 e2
/-- What stands in a block of numbers. -/
theorem ints_in {b ver ty c n : Nat} {L : List Int} (hR : Rel H ι A w) (hAb : A[b]? = some ⟨ver, true, ty, 1, dEls (i64s L)⟩) (hty : ty < 1000000) (hι : ι b = some (c, n)) :
    ∃ arr, w.heap[c]? = some (.cells arr ty (0, 0)) ∧ arr.size = n ∧ L.length ≤ n ∧ c < w.heap.size ∧ ∀ (i : Nat) (v : Int), L[i]? = some v → arr[i]? = some (.int .i64 v) := by
  have hb := hR.blk b _ hAb
  unfold BlkRel at hb
  rw [hι] at hb
  obtain ⟨arr, a1, a2, a3, a4⟩ := hb
  have a1 := a1.cells hty
  have a2 := a2.1 hty
  refine ⟨arr, a1, a2, by rw [← a2]; simpa using a3, (hR.hid b _ c n hAb hι).2, fun i v hv => ?_⟩
  obtain ⟨_, h⟩ := a4 i [.d (.v (.int .i64 v))] (by simp [dEls, i64s, hv])
  obtain ⟨u, g1, g2, _⟩ := h 0 _ rfl
  have := g2.1
  simp only [Shp] at this
  subst this
  simpa using g1
theorem holds_in {c ty : Nat} {arr : Array Value} {L : List Int} (a1 : w.heap[c]? = some (.cells arr ty (0, 0))) (h : ∀ (i : Nat) (v : Int), L[i]? = some v → arr[i]? = some (.int .i64 v)) : Go.Sort.Holds (Value.int .i64) w c 0 L.toArray := by
  intro j hj
  have hj' : j < L.length := by simpa using hj
  refine ⟨?_, frozen_in a1 _⟩
  rw [cell_in a1, Nat.zero_add, h j _ (List.getElem?_eq_getElem hj')]
  congr 2
  simp [getElem!_pos, hj']
theorem put_at {c ty : Nat} {arr : Array Value} {L : List Int} {q : Nat} {os : Array Obj} (hc : c < w.heap.size) (a1 : w.heap[c]? = some (.cells arr ty (0, 0))) (hl : L.length ≤ arr.size) :
    ∃ arr', (Go.Sort.grow (Go.Sort.putRow (Value.int .i64) (Go.Sort.ahead w q) c 0 L.toArray) os).heap[c]? = some (.cells arr' ty (0, 0)) ∧ arr'.size = arr.size ∧ (∀ (i : Nat) (v : Int), L[i]? = some v → arr'[i]? = some (.int .i64 v)) ∧
      w.heap.size ≤ (Go.Sort.grow (Go.Sort.putRow (Value.int .i64) (Go.Sort.ahead w q) c 0 L.toArray) os).heap.size ∧ (∀ b, b < w.heap.size → b ≠ c → SameB w (Go.Sort.grow (Go.Sort.putRow (Value.int .i64) (Go.Sort.ahead w q) c 0 L.toArray) os) b) := by
  refine ⟨Go.Sort.putCells (Value.int .i64) 0 L.toArray arr, ?_, by simp [Go.Sort.putCells], fun i v hv => ?_, ?_, fun b hb hne => ?_⟩
  · rw [Go.Sort.heap_grow_old _ _ (by simpa [Go.Sort.putRow, Go.Sort.mapBlock, Go.Sort.ahead] using hc)]
    simp only [Go.Sort.putRow, Go.Sort.mapBlock, Go.Sort.ahead, Array.getElem?_modify, if_true, a1]
    rfl
  · have hi := (List.getElem?_eq_some_iff.1 hv).1
    simp only [Go.Sort.putCells, Array.getElem?_mapIdx, Array.getElem?_eq_getElem (show i < arr.size by omega), Option.map_some]
    rw [if_pos ⟨Nat.zero_le _, by simpa using hi⟩]
    simp [getElem!_pos, hi, (List.getElem?_eq_some_iff.1 hv).2]
  · simp [Go.Sort.putRow, Go.Sort.mapBlock, Go.Sort.ahead]
  · unfold SameB
    rw [Go.Sort.heap_grow_old _ _ (by simpa [Go.Sort.putRow, Go.Sort.mapBlock, Go.Sort.ahead] using hb)]
    simp only [Go.Sort.putRow, Go.Sort.mapBlock, Go.Sort.ahead, Array.getElem?_modify]
    rw [if_neg (fun h => hne h.symm)]
end
def srt (L : List Int) : List Int := L.mergeSort fun x y => decide (x ≤ y)
theorem srt_len (L : List Int) : (srt L).length = L.length := by simp [srt]
theorem sort_ac (L : List Int) (A : AHeap) (b ver ty : Nat) (hA : A[b]? = some ⟨ver, true, ty, 1, dEls (i64s L)⟩) (hL : L.length ≤ 1000000000) (hty : ty < 1000000 := by decide) :
    AC Try.prog 63 [.own b ver 0 L.length] A (fun r A' => r = .tup [] ∧ A' = A.set b ⟨ver, true, ty, 1, dEls (i64s (srt L))⟩) := by
  intro H ι w vs hH hR hs hm
  simp only [ShpL] at hs
  obtain ⟨u, l, rfl, s1, rfl⟩ := hs
  simp only [Shp] at s1
  obtain ⟨_, k, hk, _, hu⟩ := s1
  rw [hA] at hk
  obtain rfl := Option.some.inj hk
  have hu := hu rfl
  by_cases h0 : L = []
  · subst h0
    have hself : A.set b ⟨ver, true, ty, 1, dEls (i64s (srt []))⟩ = A := by
      have : srt [] = [] := List.length_eq_zero_iff.1 (by simp [srt_len])
      rw [this]
      exact set_same hA
    have hex : ∃ p cap, u = .slice p 0 cap := by
      rcases hu with ⟨_, _, rfl⟩ | ⟨c, n, cap, _, rfl, _⟩
      · exact ⟨_, _, rfl⟩
      · exact ⟨_, _, rfl⟩
    obtain ⟨p, cap, rfl⟩ := hex
    refine (Sh_slices_Sort_int_none p cap w).mono ?_
    rintro en w' ⟨rfl, rfl⟩
    exact ⟨_, _, ι, A, rfl, ⟨rfl, hself.symm⟩, hR, Step.refl _ _ _, ⟨by simp only [Shp]; exact ⟨[], rfl, by simp [ShpL]⟩, by simp only [Mem]; exact ⟨[], rfl, by simp [MemL]⟩⟩⟩
  · have hpos : 0 < L.length := List.length_pos_iff.2 h0
    rcases hu with ⟨h, _⟩ | ⟨c, n, cap, hι, rfl, _⟩
    · omega
    obtain ⟨arr, a1, a2, a3, a4, a5⟩ := ints_in hR hA hty hι
    rw [Nat.zero_mul]
    refine (Sh_slices_Sort_int c 0 cap L w (holds_in a1 a5) a4 (by omega)).mono ?_
    rintro en w' ⟨rfl, q, os, rfl⟩
    obtain ⟨arr', s2, s3, s4, s5, s6⟩ := put_at (q := q) (os := os) (L := srt L) a4 a1 (by rw [srt_len]; omega)
    obtain ⟨r1, r2⟩ := ints_put (L := srt L) hR hA rfl hι rfl hty (by simp [srt_len]) a1 a2 (by simpa using a3) s2 s3 s4 s5 s6 rfl rfl rfl
    exact ⟨_, _, ι, _, rfl, ⟨rfl, rfl⟩, r1, r2, ⟨by simp only [Shp]; exact ⟨[], rfl, by simp [ShpL]⟩, by simp only [Mem]; exact ⟨[], rfl, by simp [MemL]⟩⟩⟩
theorem compact_ac (L M : List Int) (A : AHeap) (b ver ty : Nat) (hA : A[b]? = some ⟨ver, true, ty, 1, dEls (i64s L)⟩) (hL : L.length ≤ 1000000000) (hM : Lib.compact L = M) (hml : M.length ≤ L.length) (hty : ty < 1000000 := by decide) :
    AC Try.prog 48 [.own b ver 0 L.length] A (fun r A' => r = .own b ver 0 M.length ∧ A' = A.set b ⟨ver, true, ty, 1, dEls (i64s (M ++ List.replicate (L.length - M.length) 0))⟩) := by
  intro H ι w vs hH hR hs hm
  simp only [ShpL] at hs
  obtain ⟨u, l, rfl, s1, rfl⟩ := hs
  have s0 := s1
  simp only [Shp] at s1
  obtain ⟨_, k, hk, _, hu⟩ := s1
  rw [hA] at hk
  obtain rfl := Option.some.inj hk
  have hu := hu rfl
  by_cases h0 : L = []
  · subst h0
    have hM0 : M = [] := List.length_eq_zero_iff.1 (by simpa using hml)
    subst hM0
    have hself : A.set b ⟨ver, true, ty, 1, dEls (i64s ([] ++ List.replicate (([] : List Int).length - ([] : List Int).length) 0))⟩ = A := set_same hA
    have hex : ∃ p cap, u = .slice p 0 cap := by
      rcases hu with ⟨_, _, rfl⟩ | ⟨c, n, cap, _, rfl, _⟩
      · exact ⟨_, _, rfl⟩
      · exact ⟨_, _, rfl⟩
    obtain ⟨p, cap, rfl⟩ := hex
    refine (Sh_slices_Compact_int_empty p cap w).mono ?_
    rintro en w' ⟨rfl, rfl⟩
    exact ⟨_, _, ι, A, rfl, ⟨rfl, hself.symm⟩, hR, Step.refl _ _ _, ⟨s0, by simp [Mem]⟩⟩
  · have hpos : 0 < L.length := List.length_pos_iff.2 h0
    rcases hu with ⟨h, _⟩ | ⟨c, n, cap, hι, rfl, hc1, hc2, hc3⟩
    · omega
    obtain ⟨arr, a1, a2, a3, a4, a5⟩ := ints_in hR hA hty hι
    rw [Nat.zero_mul]
    refine (Sh_slices_Compact_int c 0 cap L w (holds_in a1 a5) (by omega) hc1).mono ?_
    rintro en w' ⟨rfl, q, rfl⟩
    rw [hM]
    have hT : (M ++ List.replicate (L.length - M.length) 0).length = L.length := by simp; omega
    obtain ⟨arr', s2, s3, s4, s5, s6⟩ := put_at (q := q) (os := #[]) (L := M ++ List.replicate (L.length - M.length) 0) a4 a1 (by rw [hT]; omega)
    rw [Go.Sort.grow_empty] at s2 s5 s6
    obtain ⟨r1, r2⟩ := ints_put (L := M ++ List.replicate (L.length - M.length) 0) hR hA rfl hι rfl hty (by rw [hT]; simp) a1 a2 (by simpa using a3) s2 s3 s4 s5 s6 rfl rfl rfl
    refine ⟨_, _, ι, _, rfl, ⟨rfl, rfl⟩, r1, r2, ⟨?_, by simp [Mem]⟩⟩
    simp only [Shp]
    refine ⟨⟨_, _, _, rfl⟩, _, List.getElem?_set_self (List.getElem?_eq_some_iff.1 hA).1, Nat.le_refl _, fun _ => .inr ⟨c, n, cap, hι, ?_, by omega, hc2, hc3⟩⟩
    simp [setEls]
end Go.Proofs.Ytngjcmeclhlfeaa

/- Contracts of the library: maps.Keys, slices.Sorted, maps.Clone at a set of numbers. -/
namespace Go.Proofs.Ytngjcmeclhlfeaa
open Go.RowKit Go.Maps Go.Shelf Go.WideElems
theorem mbox_ty (b v : Nat) : (⟨0, true, 56, 1, [[.mp b v]]⟩ : Blk).ty < 1000000 := show 56 < 1000000 by decide
/-- The block that maps.Keys makes: it holds the map. -/
def mbox (b v : Nat) : Blk := ⟨0, true, 56, 1, [[.mp b v]]⟩
theorem mkeys_ac {A : AHeap} {b v c : Nat} {L : List (Nat × Int × Bool)} (hb : A[b]? = some (msB v c L)) : AC Try.prog 62 [.mp b v] A (fun r A' => r = .fn 72 [] [.ptr A.length 0 0 0] ∧ A' = A ++ [mbox b v]) := by
  intro H ι w vs hH hR hs hm
  simp only [ShpL] at hs
  obtain ⟨u1, l1, rfl, s1, rfl⟩ := hs
  obtain ⟨r, m, hι, rfl, ho, hok⟩ := set_at hR hb s1
  refine ((callsIn_wide (n := 5)).1 (AnyZI.keys_in Sh_keysA Fence.wide 5 trivial rfl (some r) w)).mono ?_
  rintro en w' ⟨rfl, rfl⟩
  have hv : ∀ N, Val ι A N w (.mp b v) (.map (some r)) := fun N => ⟨s1, by simp [Mem]⟩
  obtain ⟨g1, g2⟩ := rel_newO (o := .cells #[.map (some r)] 56) hR hH.1 (k := mbox b v) (arr := #[.map (some r)]) (.inl ⟨mbox_ty b v, rfl⟩) (by simp [mbox]) (fun h => absurd (mbox_ty b v) h) (fun i x hi => by
    cases i with
    | succ i => simp [mbox] at hi
    | zero =>
      simp [mbox] at hi
      subst hi
      refine ⟨rfl, fun j a hj => ?_⟩
      cases j with
      | succ j => simp at hj
      | zero =>
        simp at hj
        subst hj
        exact ⟨.map (some r), by simp, hv _, rfl⟩)
  refine ⟨_, _, _, _, rfl, ⟨rfl, rfl⟩, g1, g2, ?_, ?_⟩
  rotate_left
  · simp only [Mem]
    exact ⟨[], [.pointer (some ⟨w.heap.size, 0, none⟩)], rfl, by simp [MemL], by simp [MemL, Mem]⟩
  simp only [Shp]
  refine ⟨[], [.pointer (some ⟨w.heap.size, 0, none⟩)], rfl, by simp [ShpL], ?_⟩
  simp only [ShpL, Shp]
  exact ⟨_, _, rfl, ⟨⟨_, rfl⟩, _, by simp; rfl, Nat.le_refl _, fun _ => ⟨w.heap.size, _, by simp [newI]; rfl, by simp⟩⟩, rfl⟩
theorem mcloneS_ac {A : AHeap} {b v c : Nat} {L : List (Nat × Int × Bool)} (hb : A[b]? = some (msB v c L)) : AC Try.prog 31 [.mp b v] A (fun r A' => r = .mp A.length 0 ∧ A' = A ++ [msB 0 c L]) := by
  intro H ι w vs hH hR hs hm
  simp only [ShpL] at hs
  obtain ⟨u1, l1, rfl, s1, rfl⟩ := hs
  obtain ⟨r, m, hι, rfl, ho, hok⟩ := set_at hR hb s1
  refine (Sh_maps_Clone r (esL L).toArray c w ho).mono ?_
  rintro en w' ⟨rfl, rfl⟩
  obtain ⟨g1, g2⟩ := rel_newO (o := .map (esL L).toArray c) hR hH.1 (k := msB 0 c L) (arr := (setCells c L).flatten.toArray)
    (.inr (.inr (.inr (.inr (.inl ⟨c, L, rfl, rfl, rfl, rfl, hok⟩))))) (Nat.le_of_eq (msB_len 0 c L).symm) (fun _ => msB_len 0 c L) (msB_cells 0 c L)
  refine ⟨_, _, _, _, rfl, ⟨rfl, rfl⟩, g1, g2, ?_, by simp [Mem]⟩
  simp only [Shp]
  exact ⟨⟨_, rfl⟩, _, by simp; rfl, Nat.le_refl _, fun _ => ⟨w.heap.size, _, by simp [newI]; rfl, rfl⟩⟩
/-- The keys of a set. -/
def keysS (L : List (Nat × Int × Bool)) : List Int := L.map (·.2.1)
theorem ext_below {w w' : World} (h : Below w.heap.size w w') : Ext w w' := ⟨h.os, h.tape, h.output, h.size, fun k hk => h.block k hk⟩
theorem sortsIn_ok (m : Nat) : AnyZI.SortsIn Try.prog Sh_sortedA_ren Fence.wide m :=
  ⟨fun blk off cap ss W hH hblk hsz => callsIn_wide.2 (Sh_slices_Sort_int blk off cap ss W hH hblk hsz),
   fun p cap W => callsIn_wide.2 (Sh_slices_Sort_int_none p cap W)⟩
set_option maxHeartbeats 1000000 in
theorem msorted_ac {A : AHeap} {q b v c : Nat} {L : List (Nat × Int × Bool)} (hq : A[q]? = some (mbox b v)) (hb : A[b]? = some (msB v c L)) (hl : L.length ≤ 1000000000) (hk : ∀ x ∈ L, (Lit.int .i64 x.2.1).wf = true) :
    AC Try.prog 61 [.fn 72 [] [.ptr q 0 0 0]] A (fun r A' => r = .d (.sl 1 (i64s (srt (keysS L)))) ∧ A' = A) := by
  intro H ι w vs hH hR hs hm
  simp only [ShpL] at hs
  obtain ⟨u1, l1, rfl, s1, rfl⟩ := hs
  simp only [Shp, ShpL] at s1
  obtain ⟨f1, f2, rfl, rfl, u2, l2, rfl, ⟨_, k', hk', _, hp⟩, rfl⟩ := s1
  rw [hq] at hk'
  obtain rfl := Option.some.inj hk'
  obtain ⟨B, n, hιq, rfl⟩ := hp rfl
  have hbr := hR.blk q _ hq
  unfold BlkRel at hbr
  rw [hιq] at hbr
  obtain ⟨arr, a1, a2, a3, a4⟩ := hbr
  have hB := a1.cells (mbox_ty b v)
  obtain ⟨_, h2⟩ := a4 0 [.mp b v] rfl
  obtain ⟨u, e1, e2, _⟩ := h2 0 _ rfl
  obtain ⟨r, m, hι, rfl, ho, hok⟩ := set_at hR hb e2.1
  have hBl := (hR.hid q _ B n hq hιq).2
  have hcell : w.cell? ⟨B, 0, none⟩ = some (.map (some r)) := by
    unfold World.cell?
    simp only [hB]
    simpa [mbox] using e1
  let R : Value → Option (DataW Unit × List MemPlace) := fun _ => some (.nil, [])
  have hu3 : Try.prog.underlying 3 = some (.int .i64) := Try.underlying3
  have hrd : ∀ x ∈ L, rd Try.prog 3 R ⟨.int .i64 x.2.1, .bool x.2.2, x.1⟩ = some (.int .i64 x.2.1, .nil) := fun x hx => by
    have := hk x hx
    simp [rd, keyOf, hu3, mapKey, this, R]
  have hrg : (esL L).map (rg Try.prog 3 R) = L.map fun x => (Lit.int .i64 x.2.1, DataW.nil) := by
    unfold esL
    rw [List.map_map]
    exact List.map_congr_left fun x hx => by simp [rg, hrd x hx]
  have hown : w.ownsMap Try.prog 3 R r L.length (.map (((esL L).map (rg Try.prog 3 R)).foldr DataW.insert [])) := by
    refine ⟨(esL L).toArray, c, ho, ⟨?_, ⟨fun x hx => ?_, ?_, ?_⟩, fun x hx => ?_⟩, by simp [esL], rfl⟩
    · simp [esL]; unfold maxLen; omega
    · obtain ⟨y, hy, rfl⟩ := List.mem_map.1 (show x ∈ esL L by simpa using hx)
      exact hok.2.1 y hy
    · simpa [esL, Function.comp_def] using hok.1
    · have h := hok.2.2
      have h3 : (L.map fun x => Value.int .i64 x.2.1).Nodup := by
        have := List.Pairwise.map (R := fun a b : Int => a ≠ b) (S := fun a b : Value => a ≠ b) (fun x : Int => Value.int .i64 x) (fun a b hab he => hab (by simpa using he)) h
        simpa [List.Nodup, List.map_map, Function.comp_def] using this
      simpa [esL, Function.comp_def] using h3
    · obtain ⟨y, hy, rfl⟩ := List.mem_map.1 (show x ∈ esL L by simpa using hx)
      exact ⟨_, hrd y hy⟩
  have hperm : (intKeys (.map (((esL L).map (rg Try.prog 3 R)).foldr DataW.insert []) : DataW Unit)).Perm (keysS L) := by
    show (List.map (fun p : Lit × DataW Unit => Go.intOf p.1) (((esL L).map (rg Try.prog 3 R)).foldr DataW.insert [])).Perm _
    refine ((Go.WideShapes.sorted_perm _).map _).trans ?_
    rw [hrg]
    simp [keysS, Go.intOf, Function.comp_def]
  have hseq := AnyZI.keys_gives (ρ := Sh_keysA_ren) { Sh_keysA with } Fence.wide 2 trivial rfl (by omega) B r L.length _ w hBl hcell hown
  have hsz : Maps.size (.map (((esL L).map (rg Try.prog 3 R)).foldr DataW.insert []) : DataW Unit) = L.length := by
    show List.length _ = _
    rw [(Go.WideShapes.sorted_perm _).length_eq]
    simp [esL]
  have cS := AnyZI.sorted_in Sh_sortedA Fence.wide 5 trivial trivial trivial trivial rfl (by omega) (sortsIn_ok _) (enters_of Try.func63 (by kernel_rfl) rfl) 72 #[.pointer (some ⟨B, 0, none⟩)] trivial (enters_of Try.func72 (by kernel_rfl) rfl) _ _ (by rw [hsz]; unfold maxLen; omega) (by rw [hsz]; omega) _ hseq
  have cS2 := (callsIn_wide (n := 5)).1 cS
  change Calls Try.prog 61 _ _ _ at cS2
  simp only [Nat.zero_mul, Nat.add_zero]
  refine cS2.mono ?_
  rintro en w' ⟨v', ss, rfl, hS, hrow, hnil, hbel⟩
  have hsort : (ss.mergeSort fun x y => decide (x ≤ y)) = srt (keysS L) := mergeSort_of_perm_i (hS.trans hperm)
  have hlen : ss.length = L.length := by rw [(hS.trans hperm).length_eq]; simp [keysS]
  have hex := ext_below hbel
  obtain ⟨g1, g2⟩ := rel_ext hR hex
  have hslen : (i64s (srt (keysS L))).length = ss.length := by simp [i64s, srt_len, keysS, hlen]
  refine ⟨v', _, ι, A, rfl, ⟨rfl, rfl⟩, g1, g2, ?_⟩
  rcases hrow.2 with ⟨rfl, hz⟩ | ⟨gb, cap, cur, rfl, hbase, hgb, r1, r2, r3, r4⟩
  · have h0 : i64s (srt (keysS L)) = [] := List.length_eq_zero_iff.1 (by omega)
    rw [h0]
    refine ⟨?_, ?_⟩
    · simp only [Shp]
      exact ⟨_, _, rfl, Nat.le_refl _, .inl trivial⟩
    · simp only [Mem, Rd]
      exact ⟨_, _, rfl, Nat.le_refl _, Nat.zero_le _, .inl trivial⟩
  · have hgn : ¬ Nn H ι A gb := by
      rintro (h | ⟨b', k', m', h1, _, h3⟩)
      · have := hH.1 _ h; omega
      · have := (hR.hid _ _ _ _ h1 h3).2; omega
    rw [Nat.mul_one] at r4
    refine ⟨?_, ?_⟩
    · simp only [Shp, hslen]
      exact ⟨_, _, rfl, r1, .inr ⟨_, _, rfl⟩⟩
    · simp only [Mem, Rd, hslen]
      refine ⟨_, _, rfl, r1, r2, .inr ⟨_, _, rfl, ⟨(Array.getElem?_eq_some_iff.1 hgb).1, hgn⟩, RdS.of fun i x hi => ?_⟩⟩
      simp only [i64s, List.getElem?_map, Option.map_eq_some_iff] at hi
      obtain ⟨z, hz, rfl⟩ := hi
      refine ⟨rfl, ?_⟩
      simp only [RdE, Rd, and_true, Nat.zero_add, Nat.mul_one]
      have hzi : i < ss.length := by have := (List.getElem?_eq_some_iff.1 hz).1; rw [srt_len] at this; simp [keysS] at this; omega
      have h5 : cur.toList[i]? = some (.int .i64 z) := by
        have h6 := congrArg (·[i]?) r4
        simp only [List.getElem?_take, hzi, if_true, hsort, List.getElem?_map, hz, Option.map_some, encZ] at h6
        exact h6
      exact ⟨_, by unfold World.cell?; simp only [hgb]; simpa using h5, rfl, rfl⟩
end Go.Proofs.Ytngjcmeclhlfeaa

/- Contract: il.Vars. -/
namespace Go.Proofs.Ytngjcmeclhlfeaa
open Go.RowKit
theorem compact_sorted {d : Array Int} (hs : ∀ (i j : Nat), i < j → j < d.size → d[i]! ≤ d[j]!) : ∀ m, m ≤ d.size → Asc (Lib.compactUpTo d m) ∧ (∀ v, v ∈ Lib.compactUpTo d m ↔ ∃ j, j < m ∧ d[j]! = v) ∧ (Lib.compactUpTo d m).length ≤ m
  | 0, _ => by simp [Lib.compactUpTo, Asc]
  | m + 1, hm => by
    obtain ⟨h1, h2, h3⟩ := compact_sorted hs m (by omega)
    rw [Lib.compactUpTo_succ]
    cases hk : Lib.keeps d m
    · have hm0 : m ≠ 0 := fun h => by subst h; simp [Lib.keeps] at hk
      have he : d[m]! = d[m - 1]! := by
        by_cases h : d[m]! = d[m - 1]!
        · exact h
        · rw [Lib.keeps_pos h] at hk
          cases hk
      rw [if_neg (by simp), List.append_nil]
      refine ⟨h1, fun v => ?_, by omega⟩
      rw [h2]
      constructor
      · rintro ⟨j, hj, e⟩
        exact ⟨j, by omega, e⟩
      · rintro ⟨j, hj, e⟩
        by_cases hjm : j < m
        · exact ⟨j, hjm, e⟩
        · obtain rfl : j = m := by omega
          exact ⟨j - 1, by omega, by rw [← he]; exact e⟩
    · rw [if_pos rfl]
      refine ⟨List.pairwise_append.2 ⟨h1, by simp, fun a ha b hb => ?_⟩, fun v => ?_, by simp; omega⟩
      · simp at hb
        subst hb
        obtain ⟨j, hj, rfl⟩ := (h2 a).1 ha
        have hle := hs (m - 1) m (by omega) (by omega)
        have hne : d[m]! ≠ d[m - 1]! := fun h => by
          rw [Lib.keeps_neg (by omega) h] at hk
          cases hk
        have hj2 : d[j]! ≤ d[m - 1]! := by
          rcases Nat.lt_or_ge j (m - 1) with h | h
          · exact hs j (m - 1) h (by omega)
          · obtain rfl : j = m - 1 := by omega
            exact Int.le_refl _
        omega
      · rw [List.mem_append, h2]
        constructor
        · rintro (⟨j, hj, e⟩ | h)
          · exact ⟨j, by omega, e⟩
          · simp at h
            exact ⟨m, by omega, h.symm⟩
        · rintro ⟨j, hj, e⟩
          by_cases hjm : j < m
          · exact .inl ⟨j, hjm, e⟩
          · obtain rfl : j = m := by omega
            exact .inr (by simp [e])
end Go.Proofs.Ytngjcmeclhlfeaa

/- Contracts: slices.Contains at numbers; flagfuse's own, free, flags, logic. -/
namespace Go.Proofs.Ytngjcmeclhlfeaa
open Go.RowKit
theorem indexin_af (l : List Int) (v : Int) (hl : l.length ≤ maxLen) : AF Try.prog 65 [.d (.sl 1 (i64s l)), aI .i64 v] (aI .i64 (match l.findIdx? (fun a => decide (a = v)) with | some i => (i : Int) | none => -1)) := by
  obtain ⟨R, hR⟩ : ∃ R : Int, (match l.findIdx? (fun a => decide (a = v)) with | some i => (i : Int) | none => -1) = R := ⟨_, rfl⟩
  rw [hR]
  refine af_of Try.func65 rfl (by kernel_rfl) (by simp [Try.ntmps65]) fun _ => ?_; simp [Try.f65, Ex.d_eq]
  refine aLoop_st (fun i : Nat => [(0, .d (.sl 1 (i64s l))), (1, aI .i64 v), (7, aI .i64 l.length), (8, aI .i64 i)]) (fun _ => []) (fun i => i ≤ l.length ∧ ∀ j a, j < i → l[j]? = some a → a ≠ v) (fun i => l.length - i) 0 (Sub.refl _ _ _) 0 (by omega) (by simp) (by simp) ⟨by omega, by intro j a hj; omega⟩ ?_
  rintro i ⟨hi, hall⟩ K hK
  rcases Nat.lt_or_ge i l.length with hlt | hge
  case inr =>
    obtain rfl : i = l.length := by omega
    have : l.findIdx? (fun a => decide (a = v)) = none := by
      rw [List.findIdx?_eq_none_iff]
      intro x hx
      obtain ⟨j, hj⟩ := List.getElem?_of_mem hx
      simpa using hall j x (List.getElem?_eq_some_iff.1 hj).1 hj
    rw [this] at hR
    simp only at hR
    subst hR
    simp
  obtain ⟨a, ha⟩ : ∃ a, l[i]? = some a := ⟨_, List.getElem?_eq_getElem hlt⟩
  have ha2 := (List.getElem?_eq_some_iff.1 ha).2
  by_cases hav : a = v
  · have : l.findIdx? (fun a => decide (a = v)) = some i := by
      rw [List.findIdx?_eq_some_iff_getElem]
      refine ⟨hlt, by simp [ha2, hav], fun j hj => ?_⟩
      have := hall j l[j] hj (List.getElem?_eq_getElem (by omega))
      simpa using this
    rw [this] at hR
    simp only at hR
    subst hR
    subst hav
    simp [hlt, ha, ha2]
  · simp [hlt, ha, ha2, show ¬ v = a from fun h => hav h.symm, succ_wrap hlt hl]
    refine hK (i + 1) ⟨by omega, fun j b hj hb => ?_⟩ (by omega) (Sub.refl _ _ _) 0 (by omega) (by simp) (by simp)
    rcases Nat.lt_or_ge j i with h | h
    · exact hall j b h hb
    · obtain rfl : j = i := by omega
      rw [ha] at hb
      obtain rfl := Option.some.inj hb
      exact hav
theorem containsin_af (l : List Int) (v : Int) (hl : l.length ≤ maxLen) : AF Try.prog 44 [.d (.sl 1 (i64s l)), aI .i64 v] (aB (decide (v ∈ l))) := by
  refine af_of Try.func44 rfl (by kernel_rfl) (by simp [Try.ntmps44]) fun _ => ?_; simp [Try.f44, Ex.d_eq]
  refine aCall_of (indexin_af l v hl) (by simp) (by simp [Ex.d_eq]) ?_; simp [Ex.d_eq]
  cases h : l.findIdx? (fun a => decide (a = v)) with
  | none =>
    rw [List.findIdx?_eq_none_iff] at h
    have : ¬ v ∈ l := fun hv => by have := h v hv; simp at this
    simp [this]
  | some i =>
    rw [List.findIdx?_eq_some_iff_getElem] at h
    obtain ⟨hi, hp, _⟩ := h
    have : v ∈ l := by
      have h2 : l[i] = v := by simpa using hp
      rw [← h2]
      exact List.getElem_mem hi
    simp [this]
/-- An expression's cells. -/
@[simp] def exCf (e : Ex) : List AV := [aI .i64 e.op, aI .u32 e.n, aI .i64 e.v, aI .i64 e.wd, .d (.sl 5 (Ex.ds e.l))]
/-- A pair of expressions; four. -/
@[simp] def prA (a b : Ex) : AV := .agg (exCf a ++ exCf b)
@[simp] def fourA (a b c d : Ex) : AV := .agg (exCf a ++ exCf b ++ exCf c ++ exCf d)
end Go.Proofs.Ytngjcmeclhlfeaa

/- Contracts: slices.Contains at pairs of numbers. -/
namespace Go.Proofs.Ytngjcmeclhlfeaa
open Go.RowKit
def prs (l : List (Int × Int)) : List (List D) := l.map fun p => [D.v (.int .i64 p.1), D.v (.int .i64 p.2)]
@[simp] theorem prs_len (l : List (Int × Int)) : (prs l).length = l.length := by simp [prs]
theorem prs_get {l : List (Int × Int)} {i : Nat} {p : Int × Int} (h : l[i]? = some p) : (prs l)[i]? = some [D.v (.int .i64 p.1), D.v (.int .i64 p.2)] := by simp [prs, h]
theorem eqIs_two {P : Program} {el : TypeId} (h : P.underlying el = some (.int .i64)) (a b c d : Int) : eqIs P el #[.int .i64 a, .int .i64 b] #[.int .i64 c, .int .i64 d] (List.range 2) = some (decide ((c, d) = (a, b))) := by
  show (match eqC P el (.int .i64 a) (.int .i64 c) with
      | some true => (match eqC P el (.int .i64 b) (.int .i64 d) with
        | some true => some true
        | some false => some false
        | none => none)
      | some false => some false
      | none => none) = _
  simp only [eqC, h, Instr.sameNow, if_true]
  by_cases h1 : a = c
  · subst h1
    by_cases h2 : b = d
    · subst h2; simp
    · have h4 : ¬ d = b := fun e => h2 e.symm
      have h3 : (b == d) = false := by simpa using h2
      simp [h3, h4]
  · have h4 : ¬ c = a := fun e => h1 e.symm
    have h3 : (a == c) = false := by simpa using h1
    simp [h3, h4]
theorem index2_af (l : List (Int × Int)) (a b : Int) (hl : l.length ≤ maxLen) : AF Try.prog 58 [.d (.sl 2 (prs l)), .agg [aI .i64 a, aI .i64 b]] (aI .i64 (match l.findIdx? (fun p => decide (p = (a, b))) with | some i => (i : Int) | none => -1)) := by
  obtain ⟨R, hR⟩ : ∃ R : Int, (match l.findIdx? (fun p => decide (p = (a, b))) with | some i => (i : Int) | none => -1) = R := ⟨_, rfl⟩
  rw [hR]
  refine af_of Try.func58 rfl (by kernel_rfl) (by simp [Try.ntmps58]) fun _ => ?_; simp [Try.f58, Ex.d_eq]
  refine aLoop_of (α := Nat) (fun i e A => i ≤ l.length ∧ A = [⟨0, true, 30, 2, [[aI .i64 a, aI .i64 b]]⟩] ∧ e 8 = aI .i64 i ∧ e 7 = aI .i64 l.length ∧ e 0 = .d (.sl 2 (prs l)) ∧ e 3 = .ptr 0 0 0 0 ∧ ∀ (j : Nat) (p : Int × Int), j < i → l[j]? = some p → p ≠ (a, b)) (fun i => l.length - i) 0 (Sub.refl _ _ _)
    ⟨by omega, by simp, by simp, by simp, by simp, by simp, by intro j p hj; omega⟩ ?_
  rintro i e A ⟨hi, rfl, e8, e7, e0, e3, hall⟩ K hK
  rcases Nat.lt_or_ge i l.length with hlt | hge
  case inr =>
    obtain rfl : i = l.length := by omega
    have : l.findIdx? (fun p => decide (p = (a, b))) = none := by
      rw [List.findIdx?_eq_none_iff]
      intro x hx
      obtain ⟨j, hj⟩ := List.getElem?_of_mem hx
      simpa using hall j x (List.getElem?_eq_some_iff.1 hj).1 hj
    rw [this] at hR
    simp only at hR
    subst hR
    simp [e8, e7]
  obtain ⟨p, hp⟩ : ∃ p, l[i]? = some p := ⟨_, List.getElem?_eq_getElem hlt⟩
  have hp1 := prs_get hp
  have hp2 := (List.getElem?_eq_some_iff.1 hp1).2
  simp [e8, e7, hlt]
  refine adraw [] (by kernel_rfl) (by kernel_rfl) (by kernel_rfl) (by kernel_rfl) ?_
  have hc3 : Try.prog.cellsOf 3 = 1 := by kernel_rfl
  have heq := eqIs_two (P := Try.prog) (el := 3) Try.underlying3 a b p.1 p.2
  simp [-eqIs, e8, e3, e0, hlt, hp1, hp2, hc3, heq]
  by_cases hpe : p = (a, b)
  · have : l.findIdx? (fun p => decide (p = (a, b))) = some i := by
      rw [List.findIdx?_eq_some_iff_getElem]
      refine ⟨hlt, by have := (List.getElem?_eq_some_iff.1 hp).2; simp [this, hpe], fun j hj => ?_⟩
      have := hall j l[j] hj (List.getElem?_eq_getElem (by omega))
      simpa using this
    rw [this] at hR
    simp only at hR
    subst hR
    subst hpe
    simp
  · have hpe2 : ¬ (p.1 = a ∧ p.2 = b) := fun h => hpe (Prod.ext h.1 h.2)
    have hpe3 : (decide (p.1 = a) && decide (p.2 = b)) = false := by simpa using hpe2
    rw [hpe3]
    simp [e8, succ_wrap hlt hl]
    refine hK (i + 1) _ _ _ _ (Sub.refl _ _ _) ⟨by omega, rfl, by simp, by simp [e7], by simp [e0], by simp [e3], fun j q hj hq => ?_⟩ (by omega)
    rcases Nat.lt_or_ge j i with h | h
    · exact hall j q h hq
    · obtain rfl : j = i := by omega
      rw [hp] at hq
      obtain rfl := Option.some.inj hq
      exact hpe
theorem cont2_af (l : List (Int × Int)) (a b : Int) (hl : l.length ≤ maxLen) : AF Try.prog 34 [.d (.sl 2 (prs l)), .agg [aI .i64 a, aI .i64 b]] (aB (decide ((a, b) ∈ l))) := by
  refine af_of Try.func34 rfl (by kernel_rfl) (by simp [Try.ntmps34]) fun _ => ?_; simp [Try.f34, Ex.d_eq]
  refine aCall_of (index2_af l a b hl) (by simp) (by simp [Ex.d_eq]) ?_; simp [Ex.d_eq]
  cases h : l.findIdx? (fun p => decide (p = (a, b))) with
  | none =>
    rw [List.findIdx?_eq_none_iff] at h
    have : ¬ (a, b) ∈ l := fun hv => by have := h _ hv; simp at this
    simp [this]
  | some i =>
    rw [List.findIdx?_eq_some_iff_getElem] at h
    obtain ⟨hi, hp, _⟩ := h
    have : (a, b) ∈ l := by
      have h2 : l[i] = (a, b) := by simpa using hp
      rw [← h2]
      exact List.getElem_mem hi
    simp [this]
end Go.Proofs.Ytngjcmeclhlfeaa
