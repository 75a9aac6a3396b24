import Derived.Test.YtfnbhkbfelllgaaGreatDoorZP
import Derived.Test.YtfnbhkbfelllgaaGreatDoorSh
import Derived.Lib.ItoaNum
import Derived.Test.YtfnbhkbfelllgaaGreatDoorAm
import Derived.Test.YtfnbhkbfelllgaaGreatDoorAp
import Derived.Test.YtfnbhkbfelllgaaGreatDoorAo
import Derived.Test.YtfnbhkbfelllgaaGreatDoorZV
import Derived.Test.YtfnbhkbfelllgaaGreatDoorAt
set_option linter.all false
namespace Go.Proofs.YtfnbhkbfelllgaaGreatDoor
open Go.RowKit
section
variable {H : Nat → Prop} {ι : Place} {A : AHeap} {w w' : World}
theorem ints_put {b : Nat} {k : Blk} {c n : Nat} {L : List Int} {arr arr' : Array Value} (hR : Rel H ι A w) (hAb : A[b]? = some k) (hwr : k.wr = true) (hι : ι b = some (c, n)) (hsz : k.sz = 1) (hty : k.ty < 1000000) (hel : L.length = k.els.length)
 (a1 : w.heap[c]? = some (.cells arr k.ty (0, 0))) (a2 : arr.size = n) (a3 : k.els.length * k.sz ≤ n) (s2 : w'.heap[c]? = some (.cells arr' k.ty (0, 0))) (s3 : arr'.size = arr.size) (s4 : ∀ (i : Nat) (v : Int), L[i]? = some v → arr'[i]? = some (.int .i64 v))
 (s5 : w.heap.size ≤ w'.heap.size) (s6 : ∀ b, b < w.heap.size → b ≠ c → SameB w w' b) (s7 : w'.os = w.os) (s8 : w'.tape = w.tape) (s9 : w'.output = w.output) :
 Rel H ι (A.set b (setEls k (dEls (i64s L)))) w' ∧ Step ι A w ι (A.set b (setEls k (dEls (i64s L)))) w' := by
 have hlt := (gSI.1 hAb).1
 have hst : Step ι A w ι (A.set b (setEls k (dEls (i64s L)))) w' := by
  refine ⟨fun b' k' hb' => ?_, fun c' hc' => .inl ((Mu_set (k' := setEls k (dEls (i64s L))) hAb rfl c').1 hc'), fun c' hc' hn => s6 c' hc' fun he => hn (he ▸ ⟨b, k, n, hAb, hwr, hι⟩), s5, s7, s8, s9⟩
  by_cases he : b = b'
  ·subst he
   rw [hAb] at hb'
   obtain rfl := oSI hb'
   exact ⟨_, gSS hlt, Nat.le_refl _, fun _ => ⟨rfl, rfl⟩⟩
  ·exact ⟨k', by rw [gSN he]; exact hb', Nat.le_refl _, fun _ => ⟨rfl, rfl⟩⟩
 have hN : Nn H ι (A.set b (setEls k (dEls (i64s L)))) = Nn H ι A := Nn_set (k' := setEls k (dEls (i64s L))) hAb rfl
 have hget : ∀ (b' : Nat) (k' : Blk), (A.set b (setEls k (dEls (i64s L))))[b']? = some k' → (b' = b ∧ k' = setEls k (dEls (i64s L))) ∨ (b' ≠ b ∧ A[b']? = some k') := by
  intro b' k' hb'
  by_cases he : b = b'
  ·subst he
   rw [gSS hlt] at hb'
   exact .inl ⟨rfl, (oSI hb').symm⟩
  ·rw [gSN he] at hb'
   exact .inr ⟨fun h => he h.symm, hb'⟩
 have hblk : ∀ (b' : Nat) (k' : Blk), (A.set b (setEls k (dEls (i64s L))))[b']? = some k' → ∃ k2 : Blk, A[b']? = some k2 := by
  intro b' k' hb'
  rcases hget b' k' hb' with ⟨rfl, _⟩ | ⟨_, h2⟩
  ·exact ⟨k, hAb⟩
  ·exact ⟨k', h2⟩
 refine ⟨⟨fun b' k' hb' => ?_, fun b' k' c' n' hb' hc' => ?_, fun b1 b2 k1 k2 c1 n1 n2 h1 h2 e1 e2 => ?_⟩, hst⟩
 ·rcases hget b' k' hb' with ⟨rfl, rfl⟩ | ⟨hne, hb2⟩
  ·unfold BlkRel
   rw [hι]
   refine ⟨arr', .inl ⟨hty, s2⟩, ⟨fun _ => s3.trans a2, fun h => absurd hty h⟩, ?_, fun i x hi => ?_⟩
   ·simp only [setEls, dEls_len, i64s_len, hsz] at a3 ⊢
    omega
   ·simp only [setEls] at hi ⊢
    rw [hsz]
    simp only [dEls, i64s, List.map_map, List.getElem?_map, Option.map_eq_some_iff] at hi
    obtain ⟨v, hv, rfl⟩ := hi
    refine ⟨rfl, fun j av hj => ?_⟩
    cases j with
    | succ j => simp at hj
    | zero =>
      simp at hj
      subst hj
      refine ⟨.int .i64 v, by simpa using s4 i v hv, ⟨by simp [Shp], by simp [Mem, Rd, Value.oneCell']⟩, rfl⟩
  ·have hb := hR.blk b' k' hb2
   refine hb.step rfl (fun c' n' hc' => ?_) fun c u hv => Val.step hst hv
   have hcc : c' ≠ c := fun h => hne (hR.inj b' b k' k c n' n hb2 hAb (h ▸ hc') hι)
   exact s6 c' (hR.hid b' k' c' n' hb2 hc').2 hcc
 ·obtain ⟨k2, h2⟩ := hblk b' k' hb'
  have := hR.hid b' k2 c' n' h2 hc'
  exact ⟨this.1, Nat.lt_of_lt_of_le this.2 s5⟩
 ·obtain ⟨k3, h3⟩ := hblk b1 k1 h1
  obtain ⟨k4, h4⟩ := hblk b2 k2 h2
  exact hR.inj b1 b2 k3 k4 c1 n1 n2 h3 h4 e1 e2
theorem ints_in {b ver ty c n : Nat} {L : List Int} (hR : Rel H ι A w) (hAb : A[b]? = some ⟨ver, true, ty, 1, dEls (i64s L)⟩) (hty : ty < 1000000) (hι : ι b = some (c, n)) :
 ∃ arr, w.heap[c]? = some (.cells arr ty (0, 0)) ∧ arr.size = n ∧ L.length ≤ n ∧ c < w.heap.size ∧ ∀ (i : Nat) (v : Int), L[i]? = some v → arr[i]? = some (.int .i64 v) := by
 have hb := hR.blk b _ hAb
 unfold BlkRel at hb
 rw [hι] at hb
 obtain ⟨arr, a1, a2, a3, a4⟩ := hb
 have a1 := a1.cells hty
 have a2 := a2.1 hty
 refine ⟨arr, a1, a2, by rw [← a2]; simpa using a3, (hR.hid b _ c n hAb hι).2, fun i v hv => ?_⟩
 obtain ⟨_, h⟩ := a4 i [.d (.v (.int .i64 v))] (by simp [dEls, i64s, hv])
 obtain ⟨u, g1, g2, _⟩ := h 0 _ rfl
 have := g2.1
 simp only [Shp] at this
 subst this
 simpa using g1
theorem holds_in {c ty : Nat} {arr : Array Value} {L : List Int} (a1 : w.heap[c]? = some (.cells arr ty (0, 0))) (h : ∀ (i : Nat) (v : Int), L[i]? = some v → arr[i]? = some (.int .i64 v)) : Go.Sort.Holds (Value.int .i64) w c 0 L.toArray := by
 intro j hj
 have hj' : j < L.length := by simpa using hj
 refine ⟨?_, frozen_in a1 _⟩
 rw [cell_in a1, Nat.zero_add, h j _ (gEG hj')]
 congr 2
 simp [getElem!_pos, hj']
theorem put_at {c ty : Nat} {arr : Array Value} {L : List Int} {q : Nat} {os : Array Obj} (hc : c < w.heap.size) (a1 : w.heap[c]? = some (.cells arr ty (0, 0))) (hl : L.length ≤ arr.size) :
 ∃ arr', (Go.Sort.grow (Go.Sort.putRow (Value.int .i64) (Go.Sort.ahead w q) c 0 L.toArray) os).heap[c]? = some (.cells arr' ty (0, 0)) ∧ arr'.size = arr.size ∧ (∀ (i : Nat) (v : Int), L[i]? = some v → arr'[i]? = some (.int .i64 v)) ∧
   w.heap.size ≤ (Go.Sort.grow (Go.Sort.putRow (Value.int .i64) (Go.Sort.ahead w q) c 0 L.toArray) os).heap.size ∧ (∀ b, b < w.heap.size → b ≠ c → SameB w (Go.Sort.grow (Go.Sort.putRow (Value.int .i64) (Go.Sort.ahead w q) c 0 L.toArray) os) b) := by
 refine ⟨Go.Sort.putCells (Value.int .i64) 0 L.toArray arr, ?_, by simp [Go.Sort.putCells], fun i v hv => ?_, ?_, fun b hb hne => ?_⟩
 ·rw [Go.Sort.heap_grow_old _ _ (by simpa [Go.Sort.putRow, Go.Sort.mapBlock, Go.Sort.ahead] using hc)]
  simp only [Go.Sort.putRow, Go.Sort.mapBlock, Go.Sort.ahead, Array.getElem?_modify, if_true, a1]
  rfl
 ·have hi := (gSI.1 hv).1
  simp only [Go.Sort.putCells, Array.getElem?_mapIdx, Array.getElem?_eq_getElem (show i < arr.size by omega), Option.map_some]
  rw [if_pos ⟨Nat.zero_le _, by simpa using hi⟩]
  simp [getElem!_pos, hi, (gSI.1 hv).2]
 ·simp [Go.Sort.putRow, Go.Sort.mapBlock, Go.Sort.ahead]
 ·unfold SameB
  rw [Go.Sort.heap_grow_old _ _ (by simpa [Go.Sort.putRow, Go.Sort.mapBlock, Go.Sort.ahead] using hb)]
  simp only [Go.Sort.putRow, Go.Sort.mapBlock, Go.Sort.ahead, Array.getElem?_modify]
  rw [if_neg (fun h => hne h.symm)]
end
def srt (L : List Int) : List Int := L.mergeSort fun x y => decide (x ≤ y)
theorem srt_len (L : List Int) : (srt L).length = L.length := by simp [srt]
theorem sort_ac (L : List Int) (A : AHeap) (b ver ty : Nat) (hA : A[b]? = some ⟨ver, true, ty, 1, dEls (i64s L)⟩) (hL : L.length ≤ 1000000000) (hty : ty < 1000000 := by decide) :
 AC Tryz.prog 71 [.own b ver 0 L.length] A (fun r A' => r = .tup [] ∧ A' = A.set b ⟨ver, true, ty, 1, dEls (i64s (srt L))⟩) := by
 intro H ι w vs hH hR hs hm
 simp only [ShpL] at hs
 obtain ⟨u, l, rfl, s1, rfl⟩ := hs
 simp only [Shp] at s1
 obtain ⟨_, k, hk, _, hu⟩ := s1
 rw [hA] at hk
 obtain rfl := oSI hk
 have hu := hu rfl
 by_cases h0 : L = []
 ·subst h0
  have hself : A.set b ⟨ver, true, ty, 1, dEls (i64s (srt []))⟩ = A := by
   have : srt [] = [] := List.length_eq_zero_iff.1 (by simp [srt_len])
   rw [this]
   exact set_same hA
  have hex : ∃ p cap, u = .slice p 0 cap := by
   rcases hu with ⟨_, _, rfl⟩ | ⟨c, n, cap, _, rfl, _⟩
   ·exact ⟨_, _, rfl⟩
   ·exact ⟨_, _, rfl⟩
  obtain ⟨p, cap, rfl⟩ := hex
  refine (Sh_slices_Sort_int_none p cap w).mono ?_
  rintro en w' ⟨rfl, rfl⟩
  exact ⟨_, _, ι, A, rfl, ⟨rfl, hself.symm⟩, hR, Step.refl _ _ _, ⟨by simp only [Shp]; exact ⟨[], rfl, by simp [ShpL]⟩, by simp only [Mem]; exact ⟨[], rfl, by simp [MemL]⟩⟩⟩
 ·have hpos : 0 < L.length := List.length_pos_iff.2 h0
  rcases hu with ⟨h, _⟩ | ⟨c, n, cap, hι, rfl, _⟩
  ·omega
  obtain ⟨arr, a1, a2, a3, a4, a5⟩ := ints_in hR hA hty hι
  rw [Nat.zero_mul]
  refine (Sh_slices_Sort_int c 0 cap L w (holds_in a1 a5) a4 (by omega)).mono ?_
  rintro en w' ⟨rfl, q, os, rfl⟩
  obtain ⟨arr', s2, s3, s4, s5, s6⟩ := put_at (q := q) (os := os) (L := srt L) a4 a1 (by rw [srt_len]; omega)
  obtain ⟨r1, r2⟩ := ints_put (L := srt L) hR hA rfl hι rfl hty (by simp [srt_len]) a1 a2 (by simpa using a3) s2 s3 s4 s5 s6 rfl rfl rfl
  exact ⟨_, _, ι, _, rfl, ⟨rfl, rfl⟩, r1, r2, ⟨by simp only [Shp]; exact ⟨[], rfl, by simp [ShpL]⟩, by simp only [Mem]; exact ⟨[], rfl, by simp [MemL]⟩⟩⟩
theorem compact_ac (L M : List Int) (A : AHeap) (b ver ty : Nat) (hA : A[b]? = some ⟨ver, true, ty, 1, dEls (i64s L)⟩) (hL : L.length ≤ 1000000000) (hM : Lib.compact L = M) (hml : M.length ≤ L.length) (hty : ty < 1000000 := by decide) :
 AC Tryz.prog 72 [.own b ver 0 L.length] A (fun r A' => r = .own b ver 0 M.length ∧ A' = A.set b ⟨ver, true, ty, 1, dEls (i64s (M ++ List.replicate (L.length - M.length) 0))⟩) := by
 intro H ι w vs hH hR hs hm
 simp only [ShpL] at hs
 obtain ⟨u, l, rfl, s1, rfl⟩ := hs
 have s0 := s1
 simp only [Shp] at s1
 obtain ⟨_, k, hk, _, hu⟩ := s1
 rw [hA] at hk
 obtain rfl := oSI hk
 have hu := hu rfl
 by_cases h0 : L = []
 ·subst h0
  have hM0 : M = [] := List.length_eq_zero_iff.1 (by simpa using hml)
  subst hM0
  have hself : A.set b ⟨ver, true, ty, 1, dEls (i64s ([] ++ List.replicate (([] : List Int).length - ([] : List Int).length) 0))⟩ = A := set_same hA
  have hex : ∃ p cap, u = .slice p 0 cap := by
   rcases hu with ⟨_, _, rfl⟩ | ⟨c, n, cap, _, rfl, _⟩
   ·exact ⟨_, _, rfl⟩
   ·exact ⟨_, _, rfl⟩
  obtain ⟨p, cap, rfl⟩ := hex
  refine (Sh_slices_Compact_int_empty p cap w).mono ?_
  rintro en w' ⟨rfl, rfl⟩
  exact ⟨_, _, ι, A, rfl, ⟨rfl, hself.symm⟩, hR, Step.refl _ _ _, ⟨s0, by simp [Mem]⟩⟩
 ·have hpos : 0 < L.length := List.length_pos_iff.2 h0
  rcases hu with ⟨h, _⟩ | ⟨c, n, cap, hι, rfl, hc1, hc2, hc3⟩
  ·omega
  obtain ⟨arr, a1, a2, a3, a4, a5⟩ := ints_in hR hA hty hι
  rw [Nat.zero_mul]
  refine (Sh_slices_Compact_int c 0 cap L w (holds_in a1 a5) (by omega) hc1).mono ?_
  rintro en w' ⟨rfl, q, rfl⟩
  rw [hM]
  have hT : (M ++ List.replicate (L.length - M.length) 0).length = L.length := by simp; omega
  obtain ⟨arr', s2, s3, s4, s5, s6⟩ := put_at (q := q) (os := #[]) (L := M ++ List.replicate (L.length - M.length) 0) a4 a1 (by rw [hT]; omega)
  rw [Go.Sort.grow_empty] at s2 s5 s6
  obtain ⟨r1, r2⟩ := ints_put (L := M ++ List.replicate (L.length - M.length) 0) hR hA rfl hι rfl hty (by rw [hT]; simp) a1 a2 (by simpa using a3) s2 s3 s4 s5 s6 rfl rfl rfl
  refine ⟨_, _, ι, _, rfl, ⟨rfl, rfl⟩, r1, r2, ⟨?_, by simp [Mem]⟩⟩
  simp only [Shp]
  refine ⟨⟨_, _, _, rfl⟩, _, gSS (gSI.1 hA).1, Nat.le_refl _, fun _ => .inr ⟨c, n, cap, hι, ?_, by omega, hc2, hc3⟩⟩
  simp [setEls]
theorem compact_sorted {d : Array Int} (hs : ∀ (i j : Nat), i < j → j < d.size → d[i]! ≤ d[j]!) : ∀ m, m ≤ d.size → Asc (Lib.compactUpTo d m) ∧ (∀ v, v ∈ Lib.compactUpTo d m ↔ ∃ j, j < m ∧ d[j]! = v) ∧ (Lib.compactUpTo d m).length ≤ m
 | 0, _ => by simp [Lib.compactUpTo, Asc]
 | m + 1, hm => by
   obtain ⟨h1, h2, h3⟩ := compact_sorted hs m (by omega)
   rw [Lib.compactUpTo_succ]
   cases hk : Lib.keeps d m
   ·have hm0 : m ≠ 0 := fun h => by subst h; simp [Lib.keeps] at hk
    have he : d[m]! = d[m - 1]! := by
     by_cases h : d[m]! = d[m - 1]!
     ·exact h
     ·rw [Lib.keeps_pos h] at hk
      cases hk
    rw [if_neg (by simp), List.append_nil]
    refine ⟨h1, fun v => ?_, by omega⟩
    rw [h2]
    constructor
    ·rintro ⟨j, hj, e⟩
     exact ⟨j, by omega, e⟩
    ·rintro ⟨j, hj, e⟩
     by_cases hjm : j < m
     ·exact ⟨j, hjm, e⟩
     ·obtain rfl : j = m := by omega
      exact ⟨j - 1, by omega, by rw [← he]; exact e⟩
   ·rw [if_pos rfl]
    refine ⟨List.pairwise_append.2 ⟨h1, by simp, fun a ha b hb => ?_⟩, fun v => ?_, by simp; omega⟩
    ·simp at hb
     subst hb
     obtain ⟨j, hj, rfl⟩ := (h2 a).1 ha
     have hle := hs (m - 1) m (by omega) (by omega)
     have hne : d[m]! ≠ d[m - 1]! := fun h => by
      rw [Lib.keeps_neg (by omega) h] at hk
      cases hk
     have hj2 : d[j]! ≤ d[m - 1]! := by
      rcases Nat.lt_or_ge j (m - 1) with h | h
      ·exact hs j (m - 1) h (by omega)
      ·obtain rfl : j = m - 1 := by omega
       exact Int.le_refl _
     omega
    ·rw [List.mem_append, h2]
     constructor
     ·rintro (⟨j, hj, e⟩ | h)
      ·exact ⟨j, by omega, e⟩
      ·simp at h
       exact ⟨m, by omega, h.symm⟩
     ·rintro ⟨j, hj, e⟩
      by_cases hjm : j < m
      ·exact .inl ⟨j, hjm, e⟩
      ·obtain rfl : j = m := by omega
       exact .inr (by simp [e])
theorem vars_compact (x : Ex) : Lib.compact (srt (occ x)) = varsR x ∧ (varsR x).length ≤ (occ x).length := by
 have hp : (srt (occ x)).Pairwise fun a b => (decide (a ≤ b)) = true := List.pairwise_mergeSort (fun a b c h1 h2 => by simp at *; omega) (fun a b => by simp; omega) _
 have hmem : ∀ v, v ∈ srt (occ x) ↔ v ∈ occ x := fun v => by simp [srt]
 have hlen := srt_len (occ x)
 obtain ⟨S, hS⟩ : ∃ S, srt (occ x) = S := ⟨_, rfl⟩
 rw [hS] at hp hmem hlen ⊢
 have hs : ∀ (i j : Nat), i < j → j < S.toArray.size → S.toArray[i]! ≤ S.toArray[j]! := fun i j hij hj => by
  have hj' : j < S.length := by simpa using hj
  have := List.pairwise_iff_getElem.1 hp i j (by omega) hj' hij
  simpa [getElem!_pos, hj', show i < S.length by omega] using this
 obtain ⟨h1, h2, h3⟩ := compact_sorted hs S.length (by simp)
 have he : Lib.compact S = varsR x := by
  refine asc_ext h1 (varsR_asc x) fun v => ?_
  rw [varsR_mem, ← hmem]
  show v ∈ Lib.compactUpTo S.toArray S.length ↔ _
  rw [h2, List.mem_iff_getElem]
  constructor
  ·rintro ⟨j, hj, e⟩
   exact ⟨j, hj, by simpa [getElem!_pos, hj] using e⟩
  ·rintro ⟨j, hj, e⟩
   exact ⟨j, hj, by simpa [getElem!_pos, hj] using e⟩
 refine ⟨he, ?_⟩
 rw [← he, ← hlen]
 exact h3
theorem occ_len : ∀ e : Ex, (occ e).length ≤ e.nodes := by
 intro e
 induction e using Ex.ind with
 | h e ih =>
 have hl : ∀ l : List Ex, (∀ x ∈ l, (occ x).length ≤ x.nodes) → (occ.occs l).length ≤ Ex.nodess l := by
  intro l
  induction l with
  | nil => intro _; simp [occ.occs]
  | cons a l ihl =>
    intro h
    have h1 := h a (by simp)
    have h2 := ihl fun x hx => h x (by simp [hx])
    simp only [occ.occs, Ex.nodess, List.length_append]
    omega
 have := hl e.l ih
 have hne : e.nodes = Ex.nodess e.l + 1 := by cases e; rfl
 have h1 : (if e.op = 2 then [e.v] else []).length ≤ 1 := by split <;> simp
 rw [occ_eq, hne, List.length_append]
 omega
theorem occs_take {l : List Ex} {i : Nat} {x : Ex} (h : l[i]? = some x) : occ.occs (l.take (i + 1)) = occ.occs (l.take i) ++ occ x := by
 induction l generalizing i with
 | nil => simp at h
 | cons a l ih =>
   cases i with
   | zero => simp at h; subst h; simp [occ.occs]
   | succ i => simp only [List.take_succ_cons, occ.occs, ih (by simpa using h), List.append_assoc]
abbrev cellL (n : Nat) : Blk := ⟨0, true, 48, 1, [[.own 2 n 0 n]]⟩
abbrev blkL (L : List Int) : Blk := ⟨L.length, true, 3, 1, dEls (i64s L)⟩
theorem vars1_ac (x : Ex) (b0 : Blk) (L : List Int) (N : AHeap) (hl : L.length ≤ 1000000) :
 AC Tryz.prog 121 [exA x, .ptr 1 0 0 0] (b0 :: cellL L.length :: blkL L :: N) (fun r A' => r = .tup [] ∧ ∃ N', A' = b0 :: cellL (L ++ (if x.op = 2 then [x.v] else [])).length :: blkL (L ++ (if x.op = 2 then [x.v] else [])) :: (N ++ N')) := by
 refine ac_of Tryz.func121 rfl (by kernel_rfl) (by simp [Tryz.ntmps121]) fun hb => ?_
 by_cases h : x.op = 2
 ·rw [if_pos h]
  simp [Tryz.f121, h]
  refine aRaw_app byt_48 ?_
  simp [dEls_i64]
  unfold maxLen
  omega
 ·rw [if_neg h]
  simp [Tryz.f121, h]
theorem visitV_ac : ∀ (x : Ex) (b0 : Blk) (L : List Int) (N : AHeap), L.length + x.nodes ≤ 1000000 →
 AC Tryz.prog 115 [exA x, .fn 121 [] [.ptr 1 0 0 0]] (b0 :: cellL L.length :: blkL L :: N) (fun r A' => r = .tup [] ∧ ∃ N', A' = b0 :: cellL (L ++ occ x).length :: blkL (L ++ occ x) :: (N ++ N')) := by
 intro x
 induction x using Ex.ind with
 | h x ih =>
   intro b0 L N hn
   have hlen := x.nodes_len
   have n1 : x.l.length ≤ maxLen := by unfold maxLen; omega
   have hne : x.nodes = Ex.nodess x.l + 1 := by cases x; rfl
   rw [occ_eq, ← List.append_assoc]
   have c2 := fun N => vars1_ac x b0 L N (by omega)
   have hm : (L ++ (if x.op = 2 then [x.v] else [])).length ≤ L.length + 1 := by split <;> simp
   generalize L ++ (if x.op = 2 then [x.v] else []) = M at *
   refine ac_of Tryz.func115 rfl (by kernel_rfl) (by simp [Tryz.ntmps115]) fun hb => ?_
   simp [Tryz.f115]
   refine aCall_ofc (c2 _) (by simp) ?_
   rintro _ _ ⟨rfl, N1, rfl⟩
   simp
   refine aLoop_of (α := Nat) (fun i e A => i ≤ x.l.length ∧ (∃ N', A = b0 :: cellL (M ++ occ.occs (x.l.take i)).length :: blkL (M ++ occ.occs (x.l.take i)) :: (N ++ N')) ∧
    e 12 = aI .i64 i ∧ e 11 = aI .i64 x.l.length ∧ e 10 = .d (.sl 5 (Ex.ds x.l)) ∧ e 1 = .fn 121 [] [.ptr 1 0 0 0]) (fun i => x.l.length - i) 0 (Sub.refl _ _ _)
    ⟨by omega, ⟨_, by simp [occ.occs]; rfl⟩, by simp, by simp, by simp, by simp⟩ ?_
   rintro i e A ⟨hi, ⟨N', rfl⟩, e12, e11, e10, e1⟩ K hK
   rcases Nat.lt_or_ge i x.l.length with hlt | hge
   case inr =>
    obtain rfl : i = x.l.length := by omega
    rw [List.take_length]
    simp [e12, e11]
   obtain ⟨y, hy⟩ : ∃ y, x.l[i]? = some y := ⟨_, gEG hlt⟩
   have hy2 := (gSI.1 hy).2
   have ht := occs_take hy
   have hle := nodess_take_le x.l (i + 1)
   have hte := nodess_take hy
   have hol : (occ.occs (x.l.take i)).length ≤ Ex.nodess (x.l.take i) := by
    have : ∀ l : List Ex, (occ.occs l).length ≤ Ex.nodess l := by
     intro l
     induction l with
     | nil => simp [occ.occs]
     | cons a l ihl =>
       have h1 := occ_len a
       simp only [occ.occs, Ex.nodess, List.length_append]
       omega
    exact this _
   have hQ : (M ++ occ.occs (x.l.take i)).length + y.nodes ≤ 1000000 := by
    rw [List.length_append]
    omega
   have hq3 : M ++ (occ.occs (x.l.take i) ++ occ y) = M ++ occ.occs (x.l.take i) ++ occ y := (List.append_assoc ..).symm
   generalize hq : M ++ occ.occs (x.l.take i) = Q at *
   simp [e12, e11, e10, e1, hlt, hy, hy2, Ex.d_eq]
   refine aCall_ofc (ih y (gMO hy) b0 Q _ hQ) (by simp) ?_
   rintro _ _ ⟨rfl, N2, rfl⟩
   simp [e12, succ_wrap hlt n1]
   refine hK (i + 1) _ _ _ _ (Sub.refl _ _ _) ⟨by omega, ⟨N' ++ bxE y :: N2, by rw [ht, hq3]; simp⟩, by simp, by simp [e11], by simp [e10], by simp [e1]⟩ (by omega)
theorem ilvars_af (x : Ex) (hn : x.nodes ≤ 1000000) : AF Tryz.prog 49 [exA x] (.d (.sl 1 (i64s (varsR x)))) := by
 obtain ⟨c1, c2⟩ := vars_compact x
 have c3 := occ_len x
 have c4 := srt_len (occ x)
 refine af_of Tryz.func49 rfl (by kernel_rfl) (by simp [Tryz.ntmps49]) fun _ => ?_; simp [Tryz.f49, Ex.d_eq]
 have hv := visitV_ac x (bxE x) [] [] (by simpa using hn)
 refine aCall_ofc (AC.pre (Sub.trans (Sub.ghost 0 3 1) (Sub.cell (b := 1) (i := 0) (o := 0) (c' := .own 2 0 0 0) rfl rfl rfl (VLe.nil_own (k := ⟨0, true, 3, 1, []⟩) rfl rfl))) (args' := [exA x, .fn 121 [] [.ptr 1 0 0 0]]) ?_ hv) (by simp) ?_
 ·rfl
 ·rintro _ _ ⟨rfl, N', rfl⟩
  simp
  refine aCall_ofc (sort_ac (occ x) _ 2 (occ x).length 3 rfl (by omega)) (by simp) ?_
  rintro _ _ ⟨rfl, rfl⟩
  have k2 := fun A hA => compact_ac (srt (occ x)) (varsR x) A 2 (occ x).length 3 hA (by omega) c1 (by omega)
  rw [c4] at k2
  simp
  refine aCall_ofc (k2 _ rfl) (by simp) ?_
  rintro _ _ ⟨rfl, rfl⟩
  simp
theorem indexin_af (l : List Int) (v : Int) (hl : l.length ≤ maxLen) : AF Tryz.prog 141 [.d (.sl 1 (i64s l)), aI .i64 v] (aI .i64 (match l.findIdx? (fun a => decide (a = v)) with | some i => (i : Int) | none => -1)) := by
 obtain ⟨R, hR⟩ : ∃ R : Int, (match l.findIdx? (fun a => decide (a = v)) with | some i => (i : Int) | none => -1) = R := ⟨_, rfl⟩
 rw [hR]
 refine af_of Tryz.func141 rfl (by kernel_rfl) (by simp [Tryz.ntmps141]) fun _ => ?_; simp [Tryz.f141, Ex.d_eq]
 refine aLoop_st (fun i : Nat => [(0, .d (.sl 1 (i64s l))), (1, aI .i64 v), (7, aI .i64 l.length), (8, aI .i64 i)]) (fun _ => []) (fun i => i ≤ l.length ∧ ∀ j a, j < i → l[j]? = some a → a ≠ v) (fun i => l.length - i) 0 (Sub.refl _ _ _) 0 (by omega) (by simp) (by simp) ⟨by omega, by intro j a hj; omega⟩ ?_
 rintro i ⟨hi, hall⟩ K hK
 rcases Nat.lt_or_ge i l.length with hlt | hge
 case inr =>
  obtain rfl : i = l.length := by omega
  have : l.findIdx? (fun a => decide (a = v)) = none := by
   rw [List.findIdx?_eq_none_iff]
   intro x hx
   obtain ⟨j, hj⟩ := List.getElem?_of_mem hx
   simpa using hall j x (gSI.1 hj).1 hj
  rw [this] at hR
  simp only at hR
  subst hR
  simp
 obtain ⟨a, ha⟩ : ∃ a, l[i]? = some a := ⟨_, gEG hlt⟩
 have ha2 := (gSI.1 ha).2
 by_cases hav : a = v
 ·have : l.findIdx? (fun a => decide (a = v)) = some i := by
   rw [List.findIdx?_eq_some_iff_getElem]
   refine ⟨hlt, by simp [ha2, hav], fun j hj => ?_⟩
   have := hall j l[j] hj (gEG (by omega))
   simpa using this
  rw [this] at hR
  simp only at hR
  subst hR
  subst hav
  simp [hlt, ha, ha2]
 ·simp [hlt, ha, ha2, show ¬ v = a from fun h => hav h.symm, succ_wrap hlt hl]
  refine hK (i + 1) ⟨by omega, fun j b hj hb => ?_⟩ (by omega) (Sub.refl _ _ _) 0 (by omega) (by simp) (by simp)
  rcases Nat.lt_or_ge j i with h | h
  ·exact hall j b h hb
  ·obtain rfl : j = i := by omega
   rw [ha] at hb
   obtain rfl := oSI hb
   exact hav
theorem containsin_af (l : List Int) (v : Int) (hl : l.length ≤ maxLen) : AF Tryz.prog 70 [.d (.sl 1 (i64s l)), aI .i64 v] (aB (decide (v ∈ l))) := by
 refine af_of Tryz.func70 rfl (by kernel_rfl) (by simp [Tryz.ntmps70]) fun _ => ?_; simp [Tryz.f70, Ex.d_eq]
 refine aCall_of (indexin_af l v hl) (by simp) (by simp [Ex.d_eq]) ?_; simp [Ex.d_eq]
 cases h : l.findIdx? (fun a => decide (a = v)) with
 | none =>
   rw [List.findIdx?_eq_none_iff] at h
   have : ¬ v ∈ l := fun hv => by have := h v hv; simp at this
   simp [this]
 | some i =>
   rw [List.findIdx?_eq_some_iff_getElem] at h
   obtain ⟨hi, hp, _⟩ := h
   have : v ∈ l := by
    have h2 : l[i] = v := by simpa using hp
    rw [← h2]
    exact List.getElem_mem hi
   simp [this]
theorem dec_lt {u : Nat} (h : u < 10) : Lib.decDigits u = [UInt8.ofNat (48 + u)] := by rw [Lib.decDigits, dif_pos h]
theorem dec_ge {u : Nat} (h : ¬ u < 10) : Lib.decDigits u = Lib.decDigits (u / 10) ++ [UInt8.ofNat (48 + u % 10)] := by rw [Lib.decDigits, dif_neg h]
def xInt (n : Int) : List UInt8 := Lib.itoa n
def flagC (v : Int) : UInt8 := if v = 8 then 122 else if v = 9 then 110 else if v = 10 then 99 else 118
def xVar (v : Int) : List UInt8 := if v < 8 then 114 :: xInt v else if v < 12 then [102, flagC v] else 116 :: xInt v
theorem xInt_nat {n : Int} (h : 0 ≤ n) : xInt n = Lib.decDigits n.toNat := by
 unfold xInt Lib.itoa
 rw [if_neg (by omega)]
theorem dec_len (u : Nat) (h : u < 18446744073709551616) : (Lib.decDigits u).length ≤ 20 := by
 have : ∀ k u : Nat, u < 10 ^ (k + 1) → (Lib.decDigits u).length ≤ k + 1 := by
  intro k
  induction k with
  | zero => intro u hu; rw [dec_lt (by simpa using hu)]; simp
  | succ k ih =>
    intro u hu
    by_cases h : u < 10
    ·rw [dec_lt h]; simp
    ·rw [dec_ge h]
     have := ih (u / 10) (by rw [Nat.div_lt_iff_lt_mul (by omega)]; rw [Nat.pow_succ] at hu; exact hu)
     simp
     omega
 exact this 19 u (by omega)
abbrev bs (l : List UInt8) : ByteArray := ⟨l.toArray⟩
theorem tab_pow {w : World} (h : GbIs w) : Lib.TabIs Tryz.prog w "internal/strconv.uint64pow10" .u64 Lib.pow10Tab := by
 obtain ⟨t, f, he⟩ := (h.1 (2, Lib.pow10Tab.map fun z => Value.int .u64 z) (by simp [GB])).2.2
 have hg : Tryz.prog.globalNamed "internal/strconv.uint64pow10" = some 2 := by kernel_rfl
 unfold Lib.TabIs World.var?
 rw [hg]
 simp only [Option.bind_some, he]
theorem ext_grow (w : World) (k : Nat) (os : Array Obj) : Ext w (Go.Sort.grow (w.drewN k) os) := by
 refine ⟨rfl, rfl, rfl, ?_, fun i hi => ?_⟩
 ·show w.heap.size ≤ (w.heap ++ os).size
  simp
 ·show (w.heap ++ os)[i]? = w.heap[i]?
  exact Array.getElem?_append_left hi
theorem itoaW_af (n : Int) (h : -9223372036854775808 ≤ n ∧ n ≤ 9223372036854775807) : AF Tryz.prog 46 [aI .i64 n] (aS (bs (xInt n))) := by
 show AF Tryz.prog 46 [aI .i64 n] (aS ⟨(Lib.itoa n).toArray⟩)
 intro H w vs hH hs hm
 simp only [ShpL] at hs
 obtain ⟨u1, l1, rfl, s1, rfl⟩ := hs
 simp only [Shp] at s1
 subst s1
 refine (Sh_strconv_Itoa n h.1 h.2 w (tab_pow hH.2.1)).mono ?_
 rintro en w' ⟨rfl, k, os, rfl⟩
 exact ⟨_, rfl, ⟨by simp [Shp], by simp [Mem, Rd, Value.oneCell']⟩, ext_grow w k os⟩
def seeS (n : Int) (s : St) : Int := seeE.seeEs (if s.op = 1 ∨ s.op = 3 then seeI n s.va else n) s.e
def seeB (n : Int) (b : Bl) : Int := b.s.foldl seeS n
def seeG (g : Gr) : Int := g.b.foldl seeB 12
theorem seeS_range (s : St) (n : Int) (h0 : 0 ≤ n) (h1 : n ≤ 65536) : 0 ≤ seeS n s ∧ seeS n s ≤ 65536 := by
 unfold seeS
 have := seeI_range (v := s.va) h0 h1
 split
 ·exact seeEs_range _ _ this.1 this.2
 ·exact seeEs_range _ _ h0 h1
theorem foldl_range {α : Type} {f : Int → α → Int} (hf : ∀ (a : α) (n : Int), 0 ≤ n → n ≤ 65536 → 0 ≤ f n a ∧ f n a ≤ 65536) : ∀ (l : List α) (n : Int), 0 ≤ n → n ≤ 65536 → 0 ≤ l.foldl f n ∧ l.foldl f n ≤ 65536
 | [], n, h0, h1 => ⟨h0, h1⟩
 | a :: l, n, h0, h1 => by
   have := hf a n h0 h1
   exact foldl_range hf l _ this.1 this.2
theorem foldl_takeM {α : Type} {f : Int → α → Int} {l : List α} {i : Nat} {x : α} (h : l[i]? = some x) (n : Int) : (l.take (i + 1)).foldl f n = f ((l.take i).foldl f n) x := by
 rw [List.take_add_one, h]
 simp
def cntF : List Bool → Nat
 | [] => 0
 | b :: l => (if b = true then 0 else 1) + cntF l
theorem cntF_set : ∀ {S : List Bool} {k : Nat}, S[k]? = some false → cntF (S.set k true) + 1 = cntF S
 | [], k, h => by simp at h
 | b :: S, 0, h => by
   simp at h
   subst h
   simp [cntF]
   omega
 | b :: S, k + 1, h => by
   have := cntF_set (S := S) (k := k) (by simpa using h)
   simp only [List.set_cons_succ, cntF]
   omega
theorem cntF_rep : ∀ n : Nat, cntF (List.replicate n false) = n
 | 0 => rfl
 | n + 1 => by simp only [List.replicate_succ, cntF, cntF_rep n]; simp; omega
abbrev DS2 := List Bool × List Nat
def dfsV (E : Nat → List Nat) : Nat → Nat → DS2 → DS2
 | 0, _, s => s
 | f + 1, k, s =>
   let r := (E k).foldl (fun s n => if s.1[n]?.getD true = true then s else dfsV E f n s) (s.1.set k true, s.2)
   (r.1, r.2 ++ [k])
def dfsS (E : Nat → List Nat) (f : Nat) (s : DS2) (n : Nat) : DS2 := if s.1[n]?.getD true = true then s else dfsV E f n s
theorem dfsV_eq (E : Nat → List Nat) (f k : Nat) (s : DS2) : dfsV E (f + 1) k s = (((E k).foldl (dfsS E f) (s.1.set k true, s.2)).1, ((E k).foldl (dfsS E f) (s.1.set k true, s.2)).2 ++ [k]) := rfl
structure DKeep (n : Nat) (s r : DS2) : Prop where
 len : r.1.length = n
 sum : r.2.length + cntF r.1 = s.2.length + cntF s.1
 le : cntF r.1 ≤ cntF s.1
theorem DKeep.refl {n : Nat} {s : DS2} (h : s.1.length = n) : DKeep n s s := ⟨h, rfl, Nat.le_refl _⟩
theorem DKeep.trans {n : Nat} {s r q : DS2} (h : DKeep n s r) (g : DKeep n r q) : DKeep n s q := ⟨g.len, g.sum.trans h.sum, Nat.le_trans g.le h.le⟩
theorem dfsV_keep {n : Nat} {E : Nat → List Nat} (hE : ∀ i, i < n → ∀ x ∈ E i, x < n) : ∀ (f k : Nat) (s : DS2), s.1.length = n → k < n → s.1[k]? = some false → cntF s.1 ≤ f → (dfsV E f k s).1.length = n ∧ (dfsV E f k s).2.length + cntF (dfsV E f k s).1 = s.2.length + cntF s.1 ∧ cntF (dfsV E f k s).1 < cntF s.1 := by
 intro f
 induction f with
 | zero =>
   intro k s h1 h2 h3 h4
   have := cntF_set h3
   omega
 | succ f ih =>
   intro k s h1 h2 h3 h4
   have hset := cntF_set h3
   have step : ∀ (s' : DS2) (x : Nat), x < n → s'.1.length = n → cntF s'.1 ≤ f → DKeep n s' (dfsS E f s' x) := by
    intro s' x hx hl hc
    unfold dfsS
    have hlt : x < s'.1.length := by omega
    rw [gEG hlt]
    simp only [Option.getD_some]
    split
    ·exact DKeep.refl hl
    ·rename_i hf
     have := ih x s' hl hx (by rw [gEG hlt]; simpa using hf) hc
     exact ⟨this.1, this.2.1, by omega⟩
   have fold : ∀ (l : List Nat) (s' : DS2), (∀ x ∈ l, x < n) → s'.1.length = n → cntF s'.1 ≤ f → DKeep n s' (l.foldl (dfsS E f) s') := by
    intro l
    induction l with
    | nil => intro s' _ hl _; exact DKeep.refl hl
    | cons x l ihl =>
      intro s' hx hl hc
      have h5 := step s' x (hx x (by simp)) hl hc
      have h6 := ihl (dfsS E f s' x) (fun y hy => hx y (by simp [hy])) h5.len (by have := h5.le; omega)
      exact h5.trans h6
   have hk := fold (E k) (s.1.set k true, s.2) (hE k h2) (by simpa using h1) (by simp only; omega)
   have hk1 := hk.sum
   have hk2 := hk.le
   simp only at hk1 hk2
   refine ⟨?_, ?_, ?_⟩
   ·rw [dfsV_eq]; exact hk.len
   ·rw [dfsV_eq]
    simp only [List.length_append, List.length_cons, List.length_nil]
    omega
   ·rw [dfsV_eq]
    simp only
    omega
theorem fold_keep {n : Nat} {E : Nat → List Nat} (hE : ∀ i, i < n → ∀ x ∈ E i, x < n) (f : Nat) : ∀ (l : List Nat) (s : DS2), (∀ x ∈ l, x < n) → s.1.length = n → cntF s.1 ≤ f → DKeep n s (l.foldl (dfsS E f) s)
 | [], s, _, hl, _ => DKeep.refl hl
 | x :: l, s, hx, hl, hc => by
   have h5 : DKeep n s (dfsS E f s x) := by
    unfold dfsS
    have hlt : x < s.1.length := by have := hx x (by simp); omega
    rw [gEG hlt]
    simp only [Option.getD_some]
    split
    ·exact DKeep.refl hl
    ·rename_i hf
     have := dfsV_keep hE f x s hl (by omega) (by rw [gEG hlt]; simpa using hf) hc
     exact ⟨this.1, this.2.1, by omega⟩
   exact h5.trans (fold_keep hE f l _ (fun y hy => hx y (by simp [hy])) h5.len (by have := h5.le; omega))
abbrev nI (l : List Nat) : List Int := l.map fun n : Nat => (n : Int)
theorem AC.vle {P : Program} {f : FuncId} {args args' : List AV} {A : AHeap} {R : AV → AHeap → Prop} (h : AC P f args' A R) (hl : args.length = args'.length) (hv : ∀ (i : Nat) (c c' : AV), args[i]? = some c → args'[i]? = some c' → VLe A c c') : AC P f args A R := by
 intro H ι w vs hH hR h1 h2
 have hl1 := h1.len
 have key : ∀ (i : Nat) (c' : AV) (u : Value), args'[i]? = some c' → vs[i]? = some u → Val ι A (Nn H ι A) w c' u := fun i c' u hc hu => by
  have hlt := (gSI.1 hc).1
  have hc0 : args[i]? = some args[i] := gEG (by omega)
  obtain ⟨u', hu', hs⟩ := h1.get hc0
  rw [hu] at hu'
  obtain rfl := oSI hu'
  exact hv i _ _ hc0 hc H ι w u hR ⟨hs, h2.get hc0 hu⟩
 exact h H ι w vs hH hR (ShpL.of (by omega) fun i c u hc hu => (key i c u hc hu).1) (MemL.of (by omega) fun i c u hc hu => (key i c u hc hu).2)
def inG (g : Gr) (x : Int) : Bool := decide (0 ≤ x) && decide (x < g.b.length)
theorem inG_iff {g : Gr} {x : Int} : inG g x = true ↔ 0 ≤ x ∧ x < g.b.length := by simp [inG]
def edgN (g : Gr) (k : Nat) : List Nat := match g.b[k]? with
 | some b => ((succL b).filter (inG g)).map Int.toNat
 | none => []
def EdgOk (g : Gr) : Prop := ∀ i, i < g.b.length → ∀ x ∈ edgN g i, x < g.b.length
theorem nI_toNat {l : List Int} {n : Int} (h : ∀ x ∈ l, 0 ≤ x ∧ x < n) : nI (l.map Int.toNat) = l := by
 rw [nI, List.map_map]
 conv => rhs; rw [← List.map_id l]
 exact List.map_congr_left fun x hx => by have := (h x hx).1; simp; omega
theorem edgN_lt {g : Gr} (h : EdgOk g) : ∀ i, i < g.b.length → ∀ x ∈ edgN g i, x < g.b.length := h
theorem edgOk (g : Gr) : EdgOk g := by
 intro i hi x hx
 unfold edgN at hx
 rw [gEG hi] at hx
 simp only [List.mem_map, List.mem_filter] at hx
 obtain ⟨y, ⟨_, hy⟩, rfl⟩ := hx
 have := inG_iff.1 hy
 omega
theorem edges1_ac (g : Gr) (k : Int) (A : AHeap) (hl : g.b.length ≤ maxLen) : AC Tryz.prog 243 ([] ++ [aI .i64 k] ++ [.ptr 0 0 0 0]) (gB g :: A) (Same0 (gB g :: A) (aB (!inG g k))) := by
 refine ac_of Tryz.func243 rfl (by kernel_rfl) (by simp [Tryz.ntmps243]) fun _ => ?_
 by_cases h1 : k < 0
 ·simp [Tryz.f243, h1, Same0, inG, show ¬ 0 ≤ k by omega]
 ·by_cases h2 : (g.b.length : Int) ≤ k
  ·simp [Tryz.f243, h1, h2, Same0, inG, show ¬ k < g.b.length by omega]
  ·simp [Tryz.f243, h1, h2, Same0, inG, show k < g.b.length by omega, show 0 ≤ k by omega]
abbrev nbk (ver : Nat) (X : List Int) : Blk := ⟨ver, true, 3, 1, dEls (i64s X)⟩
abbrev dh (g : Gr) (st : Blk) (ver : Nat) (X : List Int) (N : AHeap) : AHeap := gB g :: st :: nbk ver X :: N
theorem nbk_get {X : List Int} {i : Nat} {a : Int} (h : X[i]? = some a) : (dEls (i64s X))[i]? = some [aI .i64 a] := by simp [dEls, i64s, h]
theorem nbk_set (X : List Int) (i : Nat) (a : Int) : (dEls (i64s X)).set i [aI .i64 a] = dEls (i64s (X.set i a)) := by simp [dEls, i64s, List.map_set]
theorem index_own (g : Gr) (hgl : g.b.length ≤ maxLen) (st : Blk) (ver : Nat) (L : List Int) (hL : L.length ≤ maxLen) :
 AC Tryz.prog 120 [.own 2 ver 0 L.length, .fn 243 [] [.ptr 0 0 0 0]] (dh g st ver L []) (Same0 (dh g st ver L []) (aI .i64 (match L.findIdx? (fun x => !inG g x) with | some i => (i : Int) | none => -1))) := by
 refine ac_of Tryz.func120 rfl (by kernel_rfl) (by simp [Tryz.ntmps120]) fun hb => ?_
 clear hb
 obtain ⟨R, hR⟩ : ∃ R : Int, (match L.findIdx? (fun x => !inG g x) with | some i => (i : Int) | none => -1) = R := ⟨_, rfl⟩
 rw [hR]
 simp [Tryz.f120]
 refine aLoop_of (α := Nat) (fun i e A' => i ≤ L.length ∧ (∃ N, A' = dh g st ver L N) ∧ e 8 = aI .i64 i ∧ e 7 = aI .i64 L.length ∧ e 0 = .own 2 ver 0 L.length ∧ e 1 = .fn 243 [] [.ptr 0 0 0 0] ∧
  ∀ (j : Nat) (a : Int), j < i → L[j]? = some a → inG g a = true) (fun i => L.length - i) 0 (Sub.refl _ _ _) ⟨by omega, ⟨[], by simp⟩, by simp, by simp, by simp, by simp, by intro j a hj; omega⟩ ?_
 rintro i e A' ⟨hi, ⟨N, rfl⟩, e8, e7, e0, e1, hall⟩ K hK
 rcases Nat.lt_or_ge i L.length with hlt | hge
 case inr =>
  obtain rfl : i = L.length := by omega
  have : L.findIdx? (fun x => !inG g x) = none := by
   rw [List.findIdx?_eq_none_iff]
   intro x hx
   obtain ⟨j, hj⟩ := List.getElem?_of_mem hx
   simpa using hall j x (gSI.1 hj).1 hj
  rw [this] at hR
  subst hR
  simp [e8, e7, Same0]
 obtain ⟨a, ha⟩ : ∃ a, L[i]? = some a := ⟨_, gEG hlt⟩
 have ha1 := nbk_get ha
 have ha2 := (gSI.1 ha).2
 simp [e8, e7, e0, e1, hlt, ha1, ha, ha2]
 refine aCall_ofc (edges1_ac g a (st :: nbk ver L :: N) hgl) (by kernel_rfl) ?_
 rintro _ _ ⟨rfl, N', rfl⟩
 cases hp : inG g a with
 | false =>
   have : L.findIdx? (fun x => !inG g x) = some i := by
    rw [List.findIdx?_eq_some_iff_getElem]
    exact ⟨hlt, by simp [ha2, hp], fun j hj => by simpa using hall j _ hj (gEG (by omega))⟩
   rw [this] at hR
   subst hR
   simp [e8, Same0]
 | true =>
   simp [e8, succ_wrap hlt hL]
   refine hK (i + 1) _ _ _ _ (Sub.refl _ _ _) ⟨by omega, ⟨N ++ N', by simp⟩, by simp, by simp [e7], by simp [e0], by simp [e1], fun j b hj hb => ?_⟩ (by omega)
   rcases Nat.lt_or_ge j i with h | h
   ·exact hall j b h hb
   ·obtain rfl : j = i := by omega
    rw [ha] at hb
    obtain rfl := oSI hb
    exact hp
def zr : Nat → Nat → List Int → List Int
 | _, 0, X => X
 | i, m + 1, X => zr (i + 1) m (X.set i 0)
theorem zr_len : ∀ (m i : Nat) (X : List Int), (zr i m X).length = X.length
 | 0, _, _ => rfl
 | m + 1, i, X => by rw [zr, zr_len]; simp
theorem zr_take : ∀ (m i k : Nat) (X : List Int), k ≤ i → (zr i m X).take k = X.take k
 | 0, _, _, _, _ => rfl
 | m + 1, i, k, X, h => by
   rw [zr, zr_take m (i + 1) k _ (by omega), List.take_set_of_le h]
theorem clr_nbk (g : Gr) (st : Blk) (ver : Nat) (N : AHeap) : ∀ (m i : Nat) (X : List Int), i + m ≤ X.length → clrA Tryz.prog 3 (aI .i64 0) 2 ver i m (dh g st ver X N) = some (dh g st ver (zr i m X) N)
 | 0, _, _, _ => rfl
 | m + 1, i, X, h => by
   obtain ⟨a, ha⟩ : ∃ a, X[i]? = some a := ⟨_, gEG (by omega)⟩
   have ha1 := nbk_get ha
   have hs := nbk_set X i 0
   have ht : tk Tryz.prog 3 = some (false, 1) := by kernel_rfl
   have : astv Tryz.prog (dh g st ver X N) 3 (.ptr 2 ver i 0) (aI .i64 0) = some (dh g st ver (X.set i 0) N) := by
    have hc : cellsA (aI .i64 0) = some [aI .i64 0] := rfl
    have hcur : curB (dh g st ver X N) 2 ver = some (nbk ver X) := by simp [curB]
    simp only [astv, hcur, ht, hc, ha1, List.length_cons, List.length_nil, Nat.zero_add, Nat.le_refl, and_self, and_true, if_true, putA, setEls]
    simp [putA, setEls, hs]
   rw [clrA, this]
   exact clr_nbk g st ver N m (i + 1) _ (by simp; omega)
theorem filter_take_succ {p : Int → Bool} {L : List Int} {j : Nat} {a : Int} (h : L[j]? = some a) : (L.take (j + 1)).filter p = (L.take j).filter p ++ if p a = true then [a] else [] := by
 rw [List.take_add_one, h, List.filter_append]
 congr 1
 simp [List.filter_cons]
def DelR (g : Gr) (st : Blk) (ver : Nat) (L : List Int) (r : AV) (A' : AHeap) : Prop := ∃ X N, r = .own 2 ver 0 (L.filter (inG g)).length ∧ A' = dh g st ver X N ∧ X.take (L.filter (inG g)).length = L.filter (inG g) ∧ X.length = L.length
theorem edges_del (g : Gr) (hgl : g.b.length ≤ maxLen) (st : Blk) (ver : Nat) (L : List Int) (hL : L.length ≤ 1000000000) :
 AC Tryz.prog 242 ([] ++ [.own 2 ver 0 L.length, .fn 243 [] [.ptr 0 0 0 0]] ++ []) (dh g st ver L []) (DelR g st ver L) := by
 have hLm : L.length ≤ maxLen := by unfold maxLen; omega
 refine ac_of Tryz.func242 rfl (by kernel_rfl) (by simp [Tryz.ntmps242]) fun hb => ?_
 clear hb
 simp [Tryz.f242]
 refine aCall_ofc (index_own g hgl st ver L hLm) (by kernel_rfl) ?_
 rintro _ _ ⟨rfl, N, rfl⟩
 cases hf : L.findIdx? (fun x => !inG g x) with
 | none =>
   rw [List.findIdx?_eq_none_iff] at hf
   have hF : L.filter (inG g) = L := List.filter_eq_self.2 fun a ha => by simpa using hf a ha
   simp
   exact ⟨L, N, by rw [hF], rfl, by rw [hF]; simp, rfl⟩
 | some i0 =>
   rw [List.findIdx?_eq_some_iff_getElem] at hf
   obtain ⟨hi0, hbad, hlow⟩ := hf
   have hF0 : (L.take i0).filter (inG g) = L.take i0 := List.filter_eq_self.2 fun a ha => by
    obtain ⟨j, hj⟩ := List.getElem?_of_mem ha
    have hjl := (gSI.1 hj).1
    simp at hjl
    rw [List.getElem?_take, if_pos (by omega)] at hj
    have := hlow j (by omega)
    have h2 := (gSI.1 hj).2
    rw [h2] at this
    simpa using this
   have hF1 : (L.take (i0 + 1)).filter (inG g) = L.take i0 := by
    rw [filter_take_succ (gEG hi0), hF0]
    have : inG g L[i0] = false := by simpa using hbad
    simp [this]
   simp [show ¬ (i0 : Int) = -1 by omega, succ_wrap hi0 hLm]
   refine aLoop_of (α := List Int × Nat × Nat) (fun q e A' => (∃ N, A' = dh g st ver q.1 N) ∧ q.1.length = L.length ∧ q.2.1 < q.2.2 ∧ q.2.2 ≤ L.length ∧ q.1.take q.2.1 = (L.take q.2.2).filter (inG g) ∧ q.1.drop q.2.2 = L.drop q.2.2 ∧
    e 5 = aI .i64 q.2.1 ∧ e 6 = aI .i64 q.2.2 ∧ e 0 = .own 2 ver 0 L.length ∧ e 1 = .fn 243 [] [.ptr 0 0 0 0]) (fun q => L.length - q.2.2) (L, i0, i0 + 1) (Sub.refl _ _ _)
    ⟨⟨N, by simp⟩, rfl, by simp, by simp only; omega, by simp only; rw [hF1], rfl, by simp, by simp, by simp, by simp⟩ ?_
   rintro ⟨X, i, j⟩ e A' ⟨⟨N, rfl⟩, hXl, hij, hjl, htk, hdr, e5, e6, e0, e1⟩ K hK
   simp only at hXl hij hjl htk hdr e5 e6 hK ⊢
   have hXm : X.length ≤ maxLen := by omega
   rcases Nat.lt_or_ge j L.length with hlt | hge
   case inr =>
    obtain rfl : j = L.length := by omega
    rw [List.take_length] at htk
    have hFl : (L.filter (inG g)).length = i := by rw [← htk]; simp; omega
    simp [e6, e5, e0, show i ≤ L.length by omega]
    have hclr : clearA Tryz.prog 48 (dh g st ver X N) (.own 2 ver i (L.length - i)) = some (dh g st ver (zr i (L.length - i) X) N) := by
     have hcur : curB (dh g st ver X N) 2 ver = some (nbk ver X) := by simp [curB]
     have h1 : sl Tryz.prog 48 = some (3, 1) := by kernel_rfl
     have h2 : zvA Tryz.prog 3 = some [aI .i64 0] := by kernel_rfl
     simp only [clearA, hcur, h1, h2]
     rw [if_pos trivial]
     exact clr_nbk g st ver N _ i X (by omega)
    have hsl : (if i = 0 then some (AV.own 2 ver 0 L.length) else if i < L.length then some (AV.own 2 ver i (L.length - i)) else none) = some (AV.own 2 ver i (L.length - i)) := by
     by_cases h0 : i = 0
     ·simp [h0]
     ·simp [h0, hij]
    rw [hsl]
    simp
    refine aRaw_clear (x := .tmp 38) (t := 48) (d := none) (A' := dh g st ver (zr i (L.length - i) X) N) ?_ ?_
    ·simp
     exact hclr
    simp [e5, e0, show i ≤ L.length by omega]
    exact ⟨zr i (L.length - i) X, N, by rw [hFl], rfl, by rw [hFl, zr_take _ _ _ _ (Nat.le_refl _), htk], by rw [zr_len, hXl]⟩
   obtain ⟨a, ha⟩ : ∃ a, L[j]? = some a := ⟨_, gEG hlt⟩
   have hxa : X[j]? = some a := by
    have := congrArg (·[0]?) hdr
    simpa [ha] using this
   have hb1 := nbk_get hxa
   have hnx : X.drop (j + 1) = L.drop (j + 1) := by
    have := congrArg (List.drop 1) hdr
    simpa [Nat.add_comm] using this
   have hx2 := (gSI.1 hxa).2
   simp [e6, e0, e1, hlt, hb1, hXl, hxa, hx2]
   refine aCall_ofc (edges1_ac g a (st :: nbk ver X :: N) hgl) (by kernel_rfl) ?_
   rintro _ _ ⟨rfl, N', rfl⟩
   cases hp : inG g a with
   | false =>
     simp [e6, succ_wrap hlt hLm]
     refine hK (X, i, j + 1) _ _ _ _ (Sub.refl _ _ _) ⟨⟨N ++ N', by simp⟩, hXl, by simp only; omega, by simp only; omega, by simp only; rw [htk, filter_take_succ ha, hp]; simp, hnx, by simp [e5], by simp, by simp [e0], by simp [e1]⟩ (by simp only; omega)
   | true =>
     obtain ⟨b, hb⟩ : ∃ b, X[i]? = some b := ⟨_, gEG (by omega)⟩
     have hb3 := nbk_get hb
     have hil : i < L.length := by omega
     simp [e5, e6, e0, hil, hXl, hb, hb3, nbk_set, succ_wrap hlt hLm, succ_wrap hil hLm]
     refine hK (X.set i a, i + 1, j + 1) _ _ _ _ (Sub.refl _ _ _) ⟨⟨N ++ N', by simp⟩, by simp [hXl], by simp only; omega, by simp only; omega, ?_, ?_, by simp, by simp, by simp [e0], by simp [e1]⟩ (by simp only; omega)
     ·simp only
      rw [filter_take_succ ha, hp, ← htk, List.take_add_one, List.take_set_of_le (Nat.le_refl _)]
      simp [show i < X.length by omega]
     ·simp only
      rw [List.drop_set_of_lt (by omega), hnx]
theorem delf_none_ac {f : Nat} {fs cs : List AV} (A : AHeap) (l : List Int) (hf : okF Tryz.prog f = true) (hp : ∀ a ∈ l, ∀ N, AC Tryz.prog f (fs ++ [aI .i64 a] ++ cs) (A ++ N) (Same0 A (aB false))) :
 AC Tryz.prog 242 [.d (.sl 1 (i64s l)), .fn f fs cs] A (Same0 A (.d (.sl 1 (i64s l)))) := by
 refine ac_of Tryz.func242 rfl (by kernel_rfl) (by simp [Tryz.ntmps242]) fun hb => ?_
 clear hb
 simp [Tryz.f242]
 refine aCall_ofc (index_in_ac (p := fun _ => false) A l hf hp) (by simp) ?_
 have h0 : l.findIdx? (fun _ => false) = none := by rw [List.findIdx?_eq_none_iff]; simp
 rw [h0]
 rintro _ _ ⟨rfl, N, rfl⟩
 simp [Same0]
theorem edges_del0 (g : Gr) (hgl : g.b.length ≤ maxLen) (st : Blk) :
 AC Tryz.prog 242 ([] ++ [.d (.v (.slice none 0 0)), .fn 243 [] [.ptr 0 0 0 0]] ++ []) [gB g, st] (fun r _ => r = .d (.sl 1 (i64s []))) := by
 refine AC.vle (args' := [.d (.sl 1 (i64s [])), .fn 243 [] [.ptr 0 0 0 0]]) ?_ rfl ?_
 ·exact (delf_none_ac (fs := []) (cs := [.ptr 0 0 0 0]) [gB g, st] [] (by kernel_rfl) fun a ha N => by cases ha).mono fun r A' hr => hr.1
 ·intro i c c' h1 h2
  match i, h1, h2 with
  | 0, h1, h2 =>
    simp at h1 h2
    subst h1 h2
    exact VLe.nil_sl 1
  | 1, h1, h2 =>
    simp at h1 h2
    subst h1 h2
    exact VLe.refl _
  | i + 2, h1, h2 => simp at h1
theorem dmedges_af (g : Gr) (hg : GrFit g) (he : EdgOk g) (k : Nat) (hk : k < g.b.length) : AF Tryz.prog 205 [grV g, aI .i64 k] (.d (.sl 1 (i64s (nI (edgN g k))))) := by
 clear he
 obtain ⟨b, hb⟩ : ∃ b, g.b[k]? = some b := ⟨_, gEG hk⟩
 have hb2 := (gSI.1 hb).2
 have hbm := gMO hb
 have hgl : g.b.length ≤ maxLen := by have := hg.1; unfold maxLen; omega
 have hbl : b.s.length ≤ maxLen := by have := (hg.2 b hbm).1; unfold maxLen; omega
 obtain ⟨R, hR⟩ : ∃ R, (succL b).filter (inG g) = R := ⟨_, rfl⟩
 have hE : nI (edgN g k) = R := by
  unfold edgN
  rw [hb]
  simp only
  rw [hR]
  refine nI_toNat (n := g.b.length) fun x hx => ?_
  rw [← hR] at hx
  exact inG_iff.1 (List.mem_filter.1 hx).2
 rw [hE]
 have fin : ∀ (L X : List Int), L.filter (inG g) = R → X.take (L.filter (inG g)).length = L.filter (inG g) → X.length = L.length → List.take R.length (dEls (i64s X)) = dEls (i64s R) ∧ R.length ≤ X.length := by
  intro L X h1 h2 h3
  rw [h1] at h2
  refine ⟨?_, by rw [h3, ← h1]; exact List.length_filter_le _ _⟩
  have h4 : dEls (i64s R) = dEls (i64s (X.take R.length)) := by rw [h2]
  rw [h4]
  simp [dEls, i64s, List.map_take]
 refine af_of Tryz.func205 rfl (by kernel_rfl) (by simp [Tryz.ntmps205]) fun _ => ?_; simp [Tryz.f205, Ex.d_eq]
 cases hn : b.s.length with
 | zero =>
   have : b.s = [] := List.length_eq_zero_iff.1 hn
   rw [succL, this] at hR
   simp at hR
   subst hR
   simp [hk, hb, hb2, Bl.d_eq, this]
 | succ n =>
   obtain ⟨s, hs, hs2⟩ := last_get hn
   have hs3 := (gSI.1 hs).2
   have hne : ¬ b.s = [] := fun h => by rw [h] at hn; simp at hn
   unfold maxLen at hbl
   rw [succL, hs2] at hR
   simp only [tgts] at hR
   simp [hk, hb, hb2, Bl.d_eq, hn, hne, show ¬ (n : Int) + 1 = 0 by omega, i64w (n := (n : Int)) (by omega), hs, hs3, St.d_eq]
   rcases op_cases s.op with h | h | h | h | h | h | h | h | h | h | h <;> simp [h] at hR <;> simp [h]
   all_goals try (subst hR; refine aCall_ofc (edges_del0 g hgl _) (by kernel_rfl) ?_; rintro _ _ rfl; simp; done)
   ·refine aCall_ofc (edges_del g hgl _ 0 [s.nx] (by simp)) (by kernel_rfl) ?_
    rintro _ _ ⟨X, N, rfl, rfl, h1, h2⟩
    obtain ⟨f1, f2⟩ := fin _ X hR h1 h2
    rw [hR]
    simp [f1, f2]
   ·refine aCall_ofc (edges_del g hgl _ 0 [s.nx, s.el] (by simp)) (by kernel_rfl) ?_
    rintro _ _ ⟨X, N, rfl, rfl, h1, h2⟩
    obtain ⟨f1, f2⟩ := fin _ X hR h1 h2
    rw [hR]
    simp [f1, f2]
   ·refine aCall_ofc (clone_in_ac _ (i64s s.cs) (by have := ((hg.2 b hbm).2 s (gMO hs)).2; simp; omega)) (by simp) ?_
    rintro _ _ ⟨rfl, rfl⟩
    simp
    refine aCall_ofc (edges_del g hgl _ 1 s.cs (by have := ((hg.2 b hbm).2 s (gMO hs)).2; omega)) (by kernel_rfl) ?_
    rintro _ _ ⟨X, N, rfl, rfl, h1, h2⟩
    obtain ⟨f1, f2⟩ := fin _ X hR h1 h2
    rw [hR]
    simp [f1, f2]
def rowsN (g : Gr) (m : Nat) : List (List D) := (List.range m).map fun k => [D.sl 1 (i64s (nI (edgN g k)))]
theorem rowsN_len (g : Gr) (m : Nat) : (rowsN g m).length = m := by simp [rowsN]
theorem rowsN_succ (g : Gr) (m : Nat) : rowsN g (m + 1) = rowsN g m ++ [[D.sl 1 (i64s (nI (edgN g m)))]] := by simp [rowsN, List.range_succ]
theorem rowsN_get {g : Gr} {m k : Nat} (h : k < m) : (rowsN g m)[k]? = some [D.sl 1 (i64s (nI (edgN g k)))] := by simp [rowsN, h]
theorem set_mid {α : Type} (X : List α) (z y : α) (m : Nat) : (X ++ List.replicate (m + 1) z).set X.length y = (X ++ [y]) ++ List.replicate m z := by
 rw [List.set_append_right _ _ (Nat.le_refl _), Nat.sub_self, List.replicate_succ, List.set_cons_zero, List.append_assoc]
 rfl
theorem clnE_rep (k m : Nat) (x : D) : clnE k (List.replicate m [AV.d x]) = List.replicate m [AV.d x] := by simp [clnE, cln]
set_option maxRecDepth 100000 in
theorem dmall_af (g : Gr) (hg : GrFit g) (he : EdgOk g) : AF Tryz.prog 156 [grV g] (.d (.sl 1 (rowsN g g.b.length))) := by
 have hgl : g.b.length ≤ maxLen := by have := hg.1; unfold maxLen; omega
 refine af_of Tryz.func156 rfl (by kernel_rfl) (by simp [Tryz.ntmps156]) fun _ => ?_; simp [Tryz.f156, Ex.d_eq]
 refine aRaw_make (kl := .i64) (kc := .i64) (l := g.b.length) (c := g.b.length) (z := [.d (.v (.slice none 0 0))]) byt_145 (by simp) (by simp) (by simp) (Nat.le_refl _) hgl (by have := hg.1; omega) ?_
 simp
 refine aLoop_of (α := Nat) (fun i e A => i ≤ g.b.length ∧ (∃ N : AHeap, A = gB g :: ⟨0, true, 48, 1, dEls (rowsN g i) ++ List.replicate (g.b.length - i) [.d (.v (.slice none 0 0))]⟩ :: N) ∧
  e 12 = aI .i64 i ∧ e 11 = aI .i64 g.b.length ∧ e 3 = .own 1 0 0 g.b.length ∧ e 1 = .ptr 0 0 0 0) (fun i => g.b.length - i) 0 (Sub.refl _ _ _)
  ⟨by omega, ⟨[], by simp [rowsN]⟩, by simp, by simp, by simp, by simp⟩ ?_
 rintro i e A ⟨hi, ⟨N, rfl⟩, e12, e11, e3, e1⟩ K hK
 rcases Nat.lt_or_ge i g.b.length with hlt | hge
 case inr =>
  obtain rfl : i = g.b.length := by omega
  have ht : List.take g.b.length (rowsN g g.b.length) = rowsN g g.b.length := List.take_of_length_le (by rw [rowsN_len]; exact Nat.le_refl _)
  simp [e12, e11, e3, rowsN_len, ht]
 simp [e12, e11, e3, e1, hlt]
 refine aCall_of (dmedges_af g hg he i hlt) (by kernel_rfl) (by simp) ?_
 have h2 : (dEls (rowsN g i)).length = i := by simp [rowsN_len]
 have hs : (dEls (rowsN g i) ++ List.replicate (g.b.length - i) [AV.d (.v (.slice none 0 0))]).set i [AV.d (.sl 1 (i64s (nI (edgN g i))))] = dEls (rowsN g (i + 1)) ++ List.replicate (g.b.length - (i + 1)) [AV.d (.v (.slice none 0 0))] := by
  have h1 := set_mid (dEls (rowsN g i)) [AV.d (.v (.slice none 0 0))] [AV.d (.sl 1 (i64s (nI (edgN g i))))] (g.b.length - (i + 1))
  rw [h2, show g.b.length - (i + 1) + 1 = g.b.length - i by omega] at h1
  rw [h1, rowsN_succ]
  simp [dEls]
 have hget : (dEls (rowsN g i) ++ List.replicate (g.b.length - i) [AV.d (.v (.slice none 0 0))])[i]? = some [.d (.v (.slice none 0 0))] := by
  rw [List.getElem?_append_right (by omega), h2, Nat.sub_self, List.getElem?_replicate, if_pos (by omega)]
 simp [e12, e3, hlt, hget, hs, succ_wrap hlt hgl]
 refine hK (i + 1) _ _ _ _ (Sub.take 2 (by simp)) ⟨by omega, ⟨[], by simp [clnE_rep]⟩, by simp, by simp [e11], by simp [e3], by simp [e1]⟩ (by omega)
abbrev dNx (g : Gr) : Blk := ⟨0, true, 145, 1, [[.d (.sl 1 (rowsN g g.b.length))]]⟩
def bEls (S : List Bool) : List (List AV) := S.map fun b => [.d (.v (.bool b))]
theorem bEls_get {S : List Bool} {k : Nat} {b : Bool} (h : S[k]? = some b) : (bEls S)[k]? = some [.d (.v (.bool b))] := by simp [bEls, h]
theorem bEls_set (S : List Bool) (k : Nat) (b : Bool) : (bEls S).set k [.d (.v (.bool b))] = bEls (S.set k b) := by rw [bEls, bEls, List.map_set]
abbrev dSn (S : List Bool) : Blk := ⟨0, true, 4, 1, bEls S⟩
abbrev dSc (g : Gr) : Blk := ⟨0, true, 181, 1, [[.own 1 0 0 g.b.length]]⟩
abbrev dPc (m : Nat) : Blk := ⟨0, true, 48, 1, [[.own 5 m 0 m]]⟩
abbrev dFc : Blk := ⟨0, true, 162, 1, [[.fn 206 [] [.ptr 2 0 0 0, .ptr 0 0 0 0, .ptr 4 0 0 0, .ptr 3 0 0 0]]]⟩
abbrev dPb (L : List Nat) : Blk := ⟨L.length, true, 3, 1, dEls (i64s (nI L))⟩
abbrev dHp (g : Gr) (s : DS2) (N : AHeap) : AHeap := dNx g :: dSn s.1 :: dSc g :: dPc s.2.length :: dFc :: dPb s.2 :: N
theorem foldl_take {α β : Type} (f : β → α → β) (l : List α) (i : Nat) (x : α) (b : β) (h : l[i]? = some x) : (l.take (i + 1)).foldl f b = f ((l.take i).foldl f b) x := by
 rw [List.take_add_one, h]
 simp
theorem succL_len {g : Gr} (hg : GrFit g) {b : Bl} (hb : b ∈ g.b) : (succL b).length ≤ 2000000 := by
 unfold succL
 split
 ·rename_i s hs
  have := ((hg.2 b hb).2 s (List.mem_of_getLast? hs)).2
  unfold tgts
  repeat' split
  all_goals simp
  exact this
 ·simp
set_option maxRecDepth 100000 in
theorem visit_ac (g : Gr) (hg : GrFit g) (he : EdgOk g) : ∀ (f k : Nat) (s : DS2) (N : AHeap), s.1.length = g.b.length → k < g.b.length → s.1[k]? = some false → cntF s.1 ≤ f → s.2.length + cntF s.1 ≤ g.b.length →
 AC Tryz.prog 206 [aI .i64 k, .ptr 2 0 0 0, .ptr 0 0 0 0, .ptr 4 0 0 0, .ptr 3 0 0 0] (dHp g s N) (fun r A' => r = .tup [] ∧ ∃ N', A' = dHp g (dfsV (edgN g) f k s) (N ++ N'))
 | 0, k, s, N, _, _, hk, hf, _ => by
   have := cntF_set hk
   omega
 | f + 1, k, s, N, hl, hkn, hk, hf, hsum => by
   have hgl : g.b.length ≤ maxLen := by have := hg.1; unfold maxLen; omega
   have hset := cntF_set hk
   have hE : ∀ x ∈ edgN g k, x < g.b.length := edgN_lt he k hkn
   have hElen : (edgN g k).length ≤ 2000000 := by
    unfold edgN
    split
    ·rename_i b hb
     simp only [List.length_map]
     exact Nat.le_trans (List.length_filter_le _ _) (succL_len hg (gMO hb))
    ·simp
   have n1 : (edgN g k).length ≤ maxLen := by unfold maxLen; omega
   have hkeep := fun i => fold_keep (edgN_lt he) f ((edgN g k).take i) (s.1.set k true, s.2) (fun x hx => hE x (List.mem_of_mem_take hx)) (by simpa using hl) (by simp only; omega)
   refine ac_of Tryz.func206 rfl (by kernel_rfl) (by simp [Tryz.ntmps206]) fun hb => ?_
   clear hb
   rw [dfsV_eq]
   obtain ⟨S, hS⟩ : ∃ S, s.1 = S := ⟨_, rfl⟩
   have hrow := rowsN_get (g := g) hkn
   have hSk := bEls_get (hS ▸ hk)
   have hrow2 := (gSI.1 hrow).2
   simp [Tryz.f206, hS, hkn, hSk, bEls_set, rowsN_len, hrow, hrow2]
   refine aLoop_of (α := Nat) (fun i e A => i ≤ (edgN g k).length ∧ (∃ N', A = dHp g (((edgN g k).take i).foldl (dfsS (edgN g) f) (s.1.set k true, s.2)) (N ++ N')) ∧ e 16 = aI .i64 i ∧ e 15 = aI .i64 (edgN g k).length ∧ e 14 = .d (.sl 1 (i64s (nI (edgN g k)))) ∧ e 0 = aI .i64 k ∧
    e 1 = .ptr 2 0 0 0 ∧ e 2 = .ptr 0 0 0 0 ∧ e 3 = .ptr 4 0 0 0 ∧ e 4 = .ptr 3 0 0 0) (fun i => (edgN g k).length - i) 0 (Sub.refl _ _ _)
    ⟨by omega, ⟨[], by simp [hS]⟩, by simp, by simp, by simp, by simp, by simp, by simp, by simp, by simp⟩ ?_
   rintro i e A ⟨hi, ⟨N', rfl⟩, e16, e15, e14, e0, e1, e2, e3, e4⟩ K hK
   rcases Nat.lt_or_ge i (edgN g k).length with hlt | hge
   case inr =>
    obtain rfl : i = (edgN g k).length := by omega
    rw [List.take_length]
    have hkp := hkeep (edgN g k).length
    rw [List.take_length] at hkp
    obtain ⟨Q, hQ⟩ : ∃ Q, (edgN g k).foldl (dfsS (edgN g) f) (s.1.set k true, s.2) = Q := ⟨_, rfl⟩
    rw [hQ] at hkp ⊢
    have h1 := hkp.sum
    simp only at h1
    simp [e16, e15, e14, e0, e1, e2, e3, e4]
    refine aRaw_app byt_48 ?_
    simp [e4]
    have hg1 := hg.1
    refine ⟨by unfold maxLen; omega, by omega, ?_⟩
    rw [hS] at hQ
    rw [hQ]
    exact ⟨rfl, rfl, rfl⟩
   obtain ⟨x, hx⟩ : ∃ x, (edgN g k)[i]? = some x := ⟨_, gEG hlt⟩
   have hx2 := (gSI.1 hx).2
   have hxn := hE x (gMO hx)
   have hkp := hkeep i
   have ht := foldl_take (dfsS (edgN g) f) (edgN g k) i x (s.1.set k true, s.2) hx
   obtain ⟨Q, hQ⟩ : ∃ Q, ((edgN g k).take i).foldl (dfsS (edgN g) f) (s.1.set k true, s.2) = Q := ⟨_, rfl⟩
   rw [hQ] at hkp ht ⊢
   have h1 := hkp.sum
   have h2 := hkp.le
   simp only at h1 h2
   obtain ⟨b, hb⟩ : ∃ b, Q.1[x]? = some b := ⟨_, gEG (by rw [hkp.len]; exact hxn)⟩
   have hbe := bEls_get hb
   have hbe2 := (gSI.1 hbe).2
   have hQl := hkp.len
   simp [e16, e15, e14, e0, e1, e2, e3, e4, hlt, hx, hx2, hxn, hbe, hbe2]
   cases b with
   | true =>
     have hd : dfsS (edgN g) f Q x = Q := by unfold dfsS; rw [hb]; rfl
     rw [hd] at ht
     simp [e16, succ_wrap hlt n1]
     refine hK (i + 1) _ _ _ _ (Sub.refl _ _ _) ⟨by omega, ⟨N', by rw [ht]⟩, by simp, by simp [e15], by simp [e14], by simp [e0], by simp [e1], by simp [e2], by simp [e3], by simp [e4]⟩ (by omega)
   | false =>
     have hd : dfsS (edgN g) f Q x = dfsV (edgN g) f x Q := by unfold dfsS; rw [hb]; rfl
     rw [hd] at ht
     simp [e3]
     refine aCall_ofc (visit_ac g hg he f x Q (N ++ N') hQl hxn hb (by omega) (by omega)) (by kernel_rfl) ?_
     rintro _ _ ⟨rfl, N2, rfl⟩
     simp [e16, succ_wrap hlt n1]
     refine hK (i + 1) _ _ _ _ (Sub.refl _ _ _) ⟨by omega, ⟨N' ++ N2, by rw [ht]⟩, by simp, by simp [e15], by simp [e14], by simp [e0], by simp [e1], by simp [e2], by simp [e3], by simp [e4]⟩ (by omega)
def postN (g : Gr) : List Nat := (dfsV (edgN g) g.b.length 0 (List.replicate g.b.length false, [])).2
def ordN (g : Gr) : List Nat := if g.b.length = 0 then [] else (postN g).reverse
theorem postN_len {g : Gr} (he : EdgOk g) (h : 0 < g.b.length) : (postN g).length ≤ g.b.length := by
 have hk := dfsV_keep (edgN_lt he) g.b.length 0 (List.replicate g.b.length false, []) (by simp) h (by simp [h]) (by simp only; rw [cntF_rep]; exact Nat.le_refl _)
 have := hk.2.1
 have h2 := cntF_rep g.b.length
 unfold postN
 simp only [List.length_nil] at this
 omega
set_option maxRecDepth 100000 in
theorem dmorder_af (g : Gr) (hg : GrFit g) (he : EdgOk g) (hrev : ∀ (L : List Int) (A : AHeap) (b ver ty : Nat), A[b]? = some ⟨ver, true, ty, 1, dEls (i64s L)⟩ → L.length ≤ 1000000000 → ty < 1000000 → AC Tryz.prog 207 [.own b ver 0 L.length] A (fun r A' => r = .tup [] ∧ A' = A.set b ⟨ver, true, ty, 1, dEls (i64s L.reverse)⟩)) :
 AF Tryz.prog 157 [.d (.sl 1 (rowsN g g.b.length)), aI .i64 0] (.d (.sl 1 (i64s (nI (ordN g))))) := by
 have hgl : g.b.length ≤ maxLen := by have := hg.1; unfold maxLen; omega
 refine af_of Tryz.func157 rfl (by kernel_rfl) (by simp [Tryz.ntmps157]) fun _ => ?_; simp [Tryz.f157, Ex.d_eq]
 by_cases h0 : g.b.length = 0
 ·have hr0 : rowsN g 0 = [] := rfl
  simp [h0, ordN, hr0]
 have hpos : 0 < g.b.length := by omega
 have hne : ¬ rowsN g g.b.length = [] := fun h => by have := rowsN_len g g.b.length; rw [h] at this; simp at this; omega
 simp [hne, rowsN_len]
 refine aRaw_make (kl := .i64) (kc := .i64) (l := g.b.length) (c := g.b.length) (z := [.d (.v (.bool false))]) byt_181 (by simp) (by simp) (by simp) (Nat.le_refl _) hgl (by have := hg.1; omega) ?_
 simp
 rw [show List.replicate g.b.length [AV.d (.v (.bool false))] = bEls (List.replicate g.b.length false) from by simp [bEls]]
 have hv := visit_ac g hg he g.b.length 0 (List.replicate g.b.length false, []) [] (by simp) hpos (by simp [hpos]) (by simp only; rw [cntF_rep]; exact Nat.le_refl _) (by simp only; rw [cntF_rep]; simp)
 have hpl := postN_len he hpos
 refine aCall_ofc (AC.pre (Sub.trans (Sub.ghost 0 3 1) (Sub.cell (b := 3) (i := 0) (o := 0) (c' := .own 5 0 0 0) rfl rfl rfl (VLe.nil_own (k := ⟨0, true, 3, 1, []⟩) rfl rfl))) (args' := [aI .i64 0, .ptr 2 0 0 0, .ptr 0 0 0 0, .ptr 4 0 0 0, .ptr 3 0 0 0]) ?_ hv) (by kernel_rfl) ?_
 ·rfl
 rintro _ _ ⟨rfl, N', rfl⟩
 have hR : (dfsV (edgN g) g.b.length 0 (List.replicate g.b.length false, [])).2 = postN g := rfl
 obtain ⟨Q, hQ⟩ : ∃ Q, dfsV (edgN g) g.b.length 0 (List.replicate g.b.length false, []) = Q := ⟨_, rfl⟩
 rw [hQ] at hR ⊢
 have hr := hrev (nI Q.2) (dHp g Q ([] ++ N')) 5 Q.2.length 3 rfl (by have := hg.1; rw [hR]; simp; omega) (by decide)
 rw [show (nI Q.2).length = Q.2.length by simp] at hr
 simp
 refine aCall_ofc hr (by kernel_rfl) ?_
 rintro _ _ ⟨rfl, rfl⟩
 simp [ordN, h0, ← hR]
 have ht : List.take Q.2.length (i64s (nI Q.2).reverse) = i64s (nI Q.2).reverse := List.take_of_length_le (by simp)
 rw [ht]
 exact NLeS.refl _
def RevOk : Prop := ∀ (L : List Int) (A : AHeap) (b ver ty : Nat), A[b]? = some ⟨ver, true, ty, 1, dEls (i64s L)⟩ → L.length ≤ 1000000000 → ty < 1000000 → AC Tryz.prog 207 [.own b ver 0 L.length] A (fun r A' => r = .tup [] ∧ A' = A.set b ⟨ver, true, ty, 1, dEls (i64s L.reverse)⟩)
theorem dmOrder_af (hrev : RevOk) (g : Gr) (hg : GrFit g) (he : EdgOk g) : AF Tryz.prog 105 [grV g] (.d (.sl 1 (i64s (nI (ordN g))))) := by
 refine af_of Tryz.func105 rfl (by kernel_rfl) (by simp [Tryz.ntmps105]) fun _ => ?_; simp [Tryz.f105, Ex.d_eq]
 refine aCall_of (dmall_af g hg he) (by kernel_rfl) (by simp) ?_
 simp
 refine aCall_of (dmorder_af g hg he hrev) (by kernel_rfl) (by simp) ?_
 simp
def reachN (g : Gr) : List Bool := (ordN g).foldl (fun s x => s.set x true) (List.replicate g.b.length false)
theorem fold_set_len (l : List Nat) (s : List Bool) : (l.foldl (fun s x => s.set x true) s).length = s.length := by
 induction l generalizing s with
 | nil => rfl
 | cons x l ih => rw [List.foldl_cons, ih]; simp
theorem dfsV_lt {n : Nat} {E : Nat → List Nat} (hE : ∀ i, i < n → ∀ x ∈ E i, x < n) : ∀ (f k : Nat) (s : DS2), s.1.length = n → k < n → s.1[k]? = some false → cntF s.1 ≤ f → (∀ x ∈ s.2, x < n) → ∀ x ∈ (dfsV E f k s).2, x < n
 | 0, k, s, _, _, hk, hf, _ => by
   have := cntF_set hk
   omega
 | f + 1, k, s, hl, hkn, hk, hf, hs => by
   have hset := cntF_set hk
   rw [dfsV_eq]
   have key : ∀ (l : List Nat) (q : DS2), (∀ x ∈ l, x < n) → q.1.length = n → cntF q.1 ≤ f → (∀ x ∈ q.2, x < n) → ∀ x ∈ (l.foldl (dfsS E f) q).2, x < n := by
    intro l
    induction l with
    | nil => intro q _ _ _ h; exact h
    | cons y l ih =>
      intro q hx hql hqc hq
      have hy := hx y (by simp)
      obtain ⟨b, hb⟩ : ∃ b, q.1[y]? = some b := ⟨_, gEG (by omega)⟩
      rw [List.foldl_cons]
      cases b with
      | true =>
        have hd : dfsS E f q y = q := by unfold dfsS; rw [hb]; rfl
        rw [hd]
        exact ih q (fun z hz => hx z (by simp [hz])) hql hqc hq
      | false =>
        have hd : dfsS E f q y = dfsV E f y q := by unfold dfsS; rw [hb]; rfl
        have hk' := dfsV_keep hE f y q hql hy hb hqc
        rw [hd]
        exact ih _ (fun z hz => hx z (by simp [hz])) hk'.1 (by have := hk'.2.2; omega) (dfsV_lt hE f y q hql hy hb hqc hq)
   intro x hx
   simp only [List.mem_append, List.mem_singleton] at hx
   rcases hx with hx | rfl
   ·exact key (E k) (s.1.set k true, s.2) (hE k hkn) (by simpa using hl) (by simp only; omega) hs x hx
   ·exact hkn
theorem ordN_lt {g : Gr} (he : EdgOk g) : ∀ x ∈ ordN g, x < g.b.length := by
 intro x hx
 unfold ordN at hx
 split at hx
 ·cases hx
 ·rename_i h0
  have hpos : 0 < g.b.length := by omega
  have hx := List.mem_reverse.1 hx
  exact dfsV_lt (edgN_lt he) g.b.length 0 (List.replicate g.b.length false, []) (by simp) hpos (by simp [hpos]) (by simp only; rw [cntF_rep]; exact Nat.le_refl _) (by simp) x hx
theorem ordN_len {g : Gr} (he : EdgOk g) : (ordN g).length ≤ g.b.length := by
 unfold ordN
 split
 ·simp
 ·rw [List.length_reverse]
  exact postN_len he (by omega)
set_option maxRecDepth 100000 in
theorem dmreach_af (hrev : RevOk) (g : Gr) (hg : GrFit g) (he : EdgOk g) : AF Tryz.prog 139 [grV g] (.d (.sl 1 ((reachN g).map fun b => [.v (.bool b)]))) := by
 have hgl : g.b.length ≤ maxLen := by have := hg.1; unfold maxLen; omega
 have hol := ordN_len he
 have n1 : (ordN g).length ≤ maxLen := by omega
 refine af_of Tryz.func139 rfl (by kernel_rfl) (by simp [Tryz.ntmps139]) fun _ => ?_; simp [Tryz.f139, Ex.d_eq]
 refine aRaw_make (kl := .i64) (kc := .i64) (l := g.b.length) (c := g.b.length) (z := [.d (.v (.bool false))]) byt_181 (by simp) (by simp) (by simp) (Nat.le_refl _) hgl (by have := hg.1; omega) ?_
 simp
 refine aCall_of (dmOrder_af hrev g hg he) (by kernel_rfl) (by simp) ?_
 simp
 refine aLoop_of (α := Nat) (fun i e A => i ≤ (ordN g).length ∧ (∃ N : AHeap, A = gB g :: ⟨0, true, 4, 1, bEls (((ordN g).take i).foldl (fun s x => s.set x true) (List.replicate g.b.length false))⟩ :: N) ∧
  e 13 = aI .i64 i ∧ e 12 = aI .i64 (ordN g).length ∧ e 11 = .d (.sl 1 (i64s (nI (ordN g)))) ∧ e 3 = .own 1 0 0 g.b.length) (fun i => (ordN g).length - i) 0 (Sub.refl _ _ _)
  ⟨by omega, ⟨[], by simp [bEls]⟩, by simp, by simp, by simp, by simp⟩ ?_
 rintro i e A ⟨hi, ⟨N, rfl⟩, e13, e12, e11, e3⟩ K hK
 rcases Nat.lt_or_ge i (ordN g).length with hlt | hge
 case inr =>
  obtain rfl : i = (ordN g).length := by omega
  rw [List.take_length]
  obtain ⟨R, hR⟩ : ∃ R, (ordN g).foldl (fun s x => s.set x true) (List.replicate g.b.length false) = R := ⟨_, rfl⟩
  have hRl : R.length = g.b.length := by rw [← hR, fold_set_len]; simp
  have hr : reachN g = R := hR
  have hd : bEls R = dEls (R.map fun b => [.v (.bool b)]) := by simp [bEls, dEls]
  have ht : (R.map fun b => [D.v (.bool b)]).take g.b.length = R.map fun b => [D.v (.bool b)] := List.take_of_length_le (by simp [hRl])
  rw [hR, hd]
  obtain ⟨X, hX⟩ : ∃ X, (R.map fun b => [D.v (.bool b)]) = X := ⟨_, rfl⟩
  rw [hX] at ht
  have hXl : X.length = g.b.length := by rw [← hX]; simp [hRl]
  simp only [hX]
  simp [e13, e12, e3, hr, hX, ht, hXl]
 obtain ⟨x, hx⟩ : ∃ x, (ordN g)[i]? = some x := ⟨_, gEG hlt⟩
 have hx2 := (gSI.1 hx).2
 have hxn := ordN_lt he x (gMO hx)
 have ht := foldl_take (fun (s : List Bool) x => s.set x true) (ordN g) i x (List.replicate g.b.length false) hx
 obtain ⟨R, hR⟩ : ∃ R, ((ordN g).take i).foldl (fun s x => s.set x true) (List.replicate g.b.length false) = R := ⟨_, rfl⟩
 have hRl : R.length = g.b.length := by rw [← hR, fold_set_len]; simp
 rw [hR] at ht ⊢
 obtain ⟨b, hb⟩ : ∃ b, R[x]? = some b := ⟨_, gEG (by omega)⟩
 have hbe := bEls_get hb
 simp [e13, e12, e11, e3, hlt, hx, hx2, hxn, hbe, bEls_set, succ_wrap hlt n1]
 refine hK (i + 1) _ _ _ _ (Sub.refl _ _ _) ⟨by omega, ⟨N, by rw [ht]⟩, by simp, by simp [e12], by simp [e11], by simp [e3]⟩ (by omega)
structure DG where
 rc : Nat → Bool
 pl : Nat → Nat
 B : Nat → List Nat
 r : Nat
 l : List Nat
section
variable {G : DG} {o m : Nat → Option Nat}
end
section
variable {G : DG} {o m : Nat → Option Nat}
end
structure Found (E : Nat → List Nat) (s r : DS2) (M : List Nat) : Prop where
 post : r.2 = s.2 ++ M
 seen : ∀ x, r.1[x]? = some true ↔ (s.1[x]? = some true ∨ x ∈ M)
 un : ∀ x ∈ M, s.1[x]? = some false
 nd : M.Nodup
 cl : ∀ q ∈ M, ∀ y ∈ E q, r.1[y]? = some true
theorem dfs_found {n : Nat} {E : Nat → List Nat} (hE : ∀ i, i < n → ∀ x ∈ E i, x < n) : ∀ (f k : Nat) (s : DS2), s.1.length = n → k < n → s.1[k]? = some false → cntF s.1 ≤ f →
 ∃ M, Found E s (dfsV E f k s) (M ++ [k]) ∧ ∀ A x C, M = A ++ x :: C → ∃ q ∈ C ++ [k], x ∈ E q
 | 0, k, s, _, _, hk, hf => by
   have := cntF_set hk
   omega
 | f + 1, k, s, hl, hkn, hk, hf => by
   have hset := cntF_set hk
   have hkl : k < s.1.length := by omega
   have key : ∀ (l : List Nat) (q : DS2), (∀ x ∈ l, x < n) → q.1.length = n → cntF q.1 ≤ f → ∃ M, Found E q (l.foldl (dfsS E f) q) M ∧ (∀ A x C, M = A ++ x :: C → (∃ p ∈ C, x ∈ E p) ∨ x ∈ l) ∧ ∀ y ∈ l, (l.foldl (dfsS E f) q).1[y]? = some true := by
    intro l
    induction l with
    | nil => exact fun q _ _ _ => ⟨[], ⟨by simp, by simp, by simp, by simp, by simp⟩, fun A x C h => by simp at h, by simp⟩
    | cons y l ih =>
      intro q hx hql hqc
      have hy := hx y (by simp)
      obtain ⟨b, hb⟩ : ∃ b, q.1[y]? = some b := ⟨_, gEG (by omega)⟩
      rw [List.foldl_cons]
      cases b with
      | true =>
        have hd : dfsS E f q y = q := by unfold dfsS; rw [hb]; rfl
        rw [hd]
        obtain ⟨M, h1, h2, h3⟩ := ih q (fun z hz => hx z (by simp [hz])) hql hqc
        refine ⟨M, h1, fun A x C hM => (h2 A x C hM).imp id fun h => by simp [h], fun z hz => ?_⟩
        rcases List.mem_cons.1 hz with rfl | hz
        ·exact (h1.seen _).2 (.inl hb)
        ·exact h3 z hz
      | false =>
        have hd : dfsS E f q y = dfsV E f y q := by unfold dfsS; rw [hb]; rfl
        have hk' := dfsV_keep hE f y q hql hy hb hqc
        obtain ⟨M1, a1, a2⟩ := dfs_found hE f y q hql hy hb hqc
        rw [hd]
        obtain ⟨M2, h1, h2, h3⟩ := ih (dfsV E f y q) (fun z hz => hx z (by simp [hz])) hk'.1 (by omega)
        refine ⟨(M1 ++ [y]) ++ M2, ⟨?_, fun x => ?_, fun x hxM => ?_, ?_, fun p hp z hz => ?_⟩, fun A x C hM => ?_, fun z hz => ?_⟩
        ·rw [h1.post, a1.post, List.append_assoc]
        ·rw [h1.seen, a1.seen]; simp only [List.mem_append, or_assoc]
        ·rcases List.mem_append.1 hxM with h | h
         ·exact a1.un x h
         ·have hxu := h1.un x h
          have hxn : x < n := by
           have := (gSI.1 hxu).1
           have := hk'.1
           omega
          cases hq : q.1[x]? with
          | none => rw [gEG (by omega)] at hq; cases hq
          | some b =>
            cases b with
            | false => rfl
            | true =>
              rw [(a1.seen x).2 (.inl hq)] at hxu
              cases hxu
        ·rw [List.nodup_append]
         refine ⟨a1.nd, h1.nd, fun a ha b hb2 e => ?_⟩
         subst e
         have := h1.un a hb2
         rw [(a1.seen a).2 (.inr ha)] at this
         cases this
        ·rcases List.mem_append.1 hp with h | h
         ·exact (h1.seen z).2 (.inl (a1.cl p h z hz))
         ·exact h1.cl p h z hz
        ·-- where x stands
         rcases List.append_eq_append_iff.1 hM with ⟨B, e1, e2⟩ | ⟨B, e1, e2⟩
         ·-- A begins with M1 ++ [y]
          exact (h2 B x C e2).imp id fun h => by simp [h]
         ·-- M1 ++ [y] = A ++ B, x :: C = B ++ M2
          cases B with
          | nil =>
            have e2' : M2 = [] ++ x :: C := by simpa using e2.symm
            exact (h2 [] x C e2').imp id fun h => by simp [h]
          | cons b B =>
            simp only [List.cons_append, List.cons.injEq] at e2
            obtain ⟨rfl, rfl⟩ := e2
            rcases List.eq_nil_or_concat B with rfl | ⟨B', z, rfl⟩
            ·have := List.append_inj' e1 rfl
             obtain ⟨_, e3⟩ := this
             simp at e3
             exact .inr (by simp [e3])
            ·have e3 : M1 ++ [y] = (A ++ x :: B') ++ [z] := by simpa using e1
             have := List.append_inj' e3 rfl
             obtain ⟨e4, e5⟩ := this
             simp at e5
             subst e5
             obtain ⟨p, hp1, hp2⟩ := a2 A x B' e4
             exact .inl ⟨p, by simp only [List.concat_eq_append, List.mem_append] at hp1 ⊢; exact .inl hp1, hp2⟩
        ·rcases List.mem_cons.1 hz with rfl | hz
         ·exact (h1.seen _).2 (.inl ((a1.seen _).2 (.inr (by simp))))
         ·exact h3 z hz
   obtain ⟨M, h1, h2, h3⟩ := key (E k) (s.1.set k true, s.2) (hE k hkn) (by simpa using hl) (by simp only; omega)
   have hsk : ∀ x, (s.1.set k true)[x]? = some true ↔ (s.1[x]? = some true ∨ x = k) := fun x => by
    by_cases hxk : k = x
    ·subst hxk
     simp [hkl]
    ·rw [gSN hxk]
     constructor
     ·exact .inl
     ·rintro (h | h)
      ·exact h
      ·exact absurd h.symm hxk
   have hkM : k ∉ M := fun h => by
    have := h1.un k h
    simp [hkl] at this
   refine ⟨M, ⟨?_, fun x => ?_, fun x hx => ?_, ?_, fun q hq y hy => ?_⟩, fun A x C hM => ?_⟩
   ·rw [dfsV_eq]
    simp only
    rw [h1.post]
    simp
   ·rw [dfsV_eq]
    simp only
    rw [h1.seen, List.mem_append, List.mem_singleton]
    simp only
    rw [hsk]
    constructor
    ·rintro ((h | h) | h)
     ·exact .inl h
     ·exact .inr (.inr h)
     ·exact .inr (.inl h)
    ·rintro (h | h | h)
     ·exact .inl (.inl h)
     ·exact .inr h
     ·exact .inl (.inr h)
   ·rcases List.mem_append.1 hx with h | h
    ·have := h1.un x h
     have hne : k ≠ x := fun e => hkM (e ▸ h)
     simp only at this
     rwa [gSN hne] at this
    ·rw [List.mem_singleton.1 h]; exact hk
   ·rw [List.nodup_append]
    exact ⟨h1.nd, by simp, fun a ha b hb e => by rw [List.mem_singleton] at hb; subst e; subst hb; exact hkM ha⟩
   ·rw [dfsV_eq]
    simp only
    rcases List.mem_append.1 hq with h | h
    ·exact h1.cl q h y hy
    ·rw [List.mem_singleton.1 h] at hy
     exact h3 y hy
   ·rcases h2 A x C hM with ⟨p, hp1, hp2⟩ | h
    ·exact ⟨p, by simp [hp1], hp2⟩
    ·exact ⟨k, by simp, h⟩
def stepT (k : Nat) (T : List (List Nat)) (x : Nat) : List (List Nat) := T.set x ((T[x]?.getD []) ++ [k])
def rowT (g : Gr) (T : List (List Nat)) (k : Nat) : List (List Nat) := (edgN g k).foldl (stepT k) T
def turnN (g : Gr) : List (List Nat) := (List.range g.b.length).foldl (rowT g) (List.replicate g.b.length [])
theorem edgN_len {g : Gr} (hg : GrFit g) (k : Nat) : (edgN g k).length ≤ 2000000 := by
 unfold edgN
 split
 ·rename_i b hb
  simp only [List.length_map]
  exact Nat.le_trans (List.length_filter_le _ _) (succL_len hg (gMO hb))
 ·simp
def rowN (T : List (List Nat)) (x : Nat) : List Nat := T[x]?.getD []
def dgN (g : Gr) : DG := ⟨fun x => (ordN g).contains x, fun x => (ordN g).idxOf x, fun x => rowN (turnN g) x, 0, ordN g⟩
theorem post_found {g : Gr} (he : EdgOk g) (h : 0 < g.b.length) : ∃ M, postN g = M ++ [0] ∧ (M ++ [0]).Nodup ∧ (∀ A x C, M = A ++ x :: C → ∃ q ∈ C ++ [0], x ∈ edgN g q) ∧ ∀ q ∈ M ++ [0], ∀ y ∈ edgN g q, y ∈ M ++ [0] := by
 obtain ⟨M, h1, h2⟩ := dfs_found (edgN_lt he) g.b.length 0 (List.replicate g.b.length false, []) (by simp) h (by simp [h]) (by simp only; rw [cntF_rep]; exact Nat.le_refl _)
 refine ⟨M, by have := h1.post; simpa [postN] using this, h1.nd, h2, fun q hq y hy => ?_⟩
 have hs := (h1.seen y).1 (h1.cl q hq y hy)
 rcases hs with hs | hs
 ·simp only [List.getElem?_replicate] at hs
  split at hs <;> cases hs
 ·exact hs
theorem ordN_eq {g : Gr} (h : 0 < g.b.length) {M : List Nat} (hM : postN g = M ++ [0]) : ordN g = 0 :: M.reverse := by
 unfold ordN
 rw [if_neg (by omega), hM]
 simp
theorem ordN_nodup {g : Gr} (he : EdgOk g) (h : 0 < g.b.length) : (ordN g).Nodup := by
 obtain ⟨M, h1, h2, _⟩ := post_found he h
 unfold ordN
 rw [if_neg (by omega), h1]
 exact List.pairwise_reverse.2 (h2.imp fun h => Ne.symm h)
theorem revOk : RevOk := by
 intro L A b ver ty hA hL hty H ι w vs hH hR hs hm
 simp only [ShpL] at hs
 obtain ⟨u, l, rfl, s1, rfl⟩ := hs
 simp only [Shp] at s1
 obtain ⟨_, k, hk, _, hu⟩ := s1
 rw [hA] at hk
 obtain rfl := oSI hk
 have hu := hu rfl
 by_cases h0 : L = []
 ·subst h0
  have hself : A.set b ⟨ver, true, ty, 1, dEls (i64s ([] : List Int).reverse)⟩ = A := set_same hA
  have hex : ∃ p cap, u = .slice p 0 cap := by
   rcases hu with ⟨_, _, rfl⟩ | ⟨c, n, cap, _, rfl, _⟩
   ·exact ⟨_, _, rfl⟩
   ·exact ⟨_, _, rfl⟩
  obtain ⟨p, cap, rfl⟩ := hex
  refine (Sh_slices_Reverse_int_empty p cap w).mono ?_
  rintro en w' ⟨rfl, rfl⟩
  exact ⟨_, _, ι, A, rfl, ⟨rfl, hself.symm⟩, hR, Step.refl _ _ _, ⟨by simp only [Shp]; exact ⟨[], rfl, by simp [ShpL]⟩, by simp only [Mem]; exact ⟨[], rfl, by simp [MemL]⟩⟩⟩
 ·have hpos : 0 < L.length := List.length_pos_iff.2 h0
  rcases hu with ⟨h, _⟩ | ⟨c, n, cap, hι, rfl, _⟩
  ·omega
  obtain ⟨arr, a1, a2, a3, a4, a5⟩ := ints_in hR hA hty hι
  rw [Nat.zero_mul]
  refine (Sh_slices_Reverse_int c 0 cap L w (holds_in a1 a5) (by omega)).mono ?_
  rintro en w' ⟨rfl, q, rfl⟩
  obtain ⟨arr', s2, s3, s4, s5, s6⟩ := put_at (q := q) (os := #[]) (L := L.reverse) a4 a1 (by rw [List.length_reverse]; omega)
  rw [Go.Sort.grow_empty] at s2 s5 s6
  obtain ⟨r1, r2⟩ := ints_put (L := L.reverse) hR hA rfl hι rfl hty (by simp) a1 a2 (by simpa using a3) s2 s3 s4 s5 s6 rfl rfl rfl
  exact ⟨_, _, ι, _, rfl, ⟨rfl, rfl⟩, r1, r2, ⟨by simp only [Shp]; exact ⟨[], rfl, by simp [ShpL]⟩, by simp only [Mem]; exact ⟨[], rfl, by simp [MemL]⟩⟩⟩
structure CV where
 kd : Int
 a : Int
 b : Int
 off : Int
 wd : Int
 tk : Int
 ts : Int
 tc : Int
 el : List (List D)
 fl : List (List D)
def CV.d (c : CV) : List D := [.v (.int .i64 c.kd), .v (.int .i64 c.a), .v (.int .i64 c.b), .v (.int .i64 c.off), .v (.int .i64 c.wd), .v (.int .i64 c.tk), .v (.int .i64 c.ts), .v (.int .i64 c.tc), .sl 5 c.el, .sl 6 c.fl]
theorem CV.d_eq (c : CV) : CV.d c = [.v (.int .i64 c.kd), .v (.int .i64 c.a), .v (.int .i64 c.b), .v (.int .i64 c.off), .v (.int .i64 c.wd), .v (.int .i64 c.tk), .v (.int .i64 c.ts), .v (.int .i64 c.tc), .sl 5 c.el, .sl 6 c.fl] := rfl
@[simp] theorem CV.d_len (c : CV) : (CV.d c).length = 10 := rfl
def cvs (l : List CV) : List (List D) := l.map CV.d
@[simp] theorem cvs_nil : cvs [] = [] := rfl
@[simp] theorem cvs_cons (s : CV) (l : List CV) : cvs (s :: l) = s.d :: cvs l := rfl
theorem fold_compact (V : List Int) : Lib.compact (srt V) = V.foldl insL [] ∧ (V.foldl insL []).length ≤ V.length := by
 have hp : (srt V).Pairwise fun a b => (decide (a ≤ b)) = true := List.pairwise_mergeSort (fun a b c h1 h2 => by simp at *; omega) (fun a b => by simp; omega) _
 have hmem : ∀ v, v ∈ srt V ↔ v ∈ V := fun v => by simp [srt]
 have hlen := srt_len V
 obtain ⟨S, hS⟩ : ∃ S, srt V = S := ⟨_, rfl⟩
 rw [hS] at hp hmem hlen ⊢
 have hs : ∀ (i j : Nat), i < j → j < S.toArray.size → S.toArray[i]! ≤ S.toArray[j]! := fun i j hij hj => by
  have hj' : j < S.length := by simpa using hj
  have := List.pairwise_iff_getElem.1 hp i j (by omega) hj' hij
  simpa [getElem!_pos, hj', show i < S.length by omega] using this
 obtain ⟨h1, h2, h3⟩ := compact_sorted hs S.length (by simp)
 refine ⟨?_, by have := fold_len V []; simpa using this⟩
 refine asc_ext h1 (fold_asc (by simp [Asc])) fun v => ?_
 rw [fold_mem, ← hmem]
 simp only [List.not_mem_nil, false_or]
 show v ∈ Lib.compactUpTo S.toArray S.length ↔ _
 rw [h2, List.mem_iff_getElem]
 constructor
 ·rintro ⟨j, hj, e⟩
  exact ⟨j, hj, by simpa [getElem!_pos, hj] using e⟩
 ·rintro ⟨j, hj, e⟩
  exact ⟨j, hj, by simpa [getElem!_pos, hj] using e⟩
end Go.Proofs.YtfnbhkbfelllgaaGreatDoor
