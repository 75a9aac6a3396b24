import Derived.Test.YtplbaolbaniioaaGreatDoorZP
import Derived.Test.YtplbaolbaniioaaGreatDoorSh
import Derived.Test.YtplbaolbaniioaaGreatDoorAs
import Derived.Test.YtplbaolbaniioaaGreatDoorAr
import Derived.Test.YtplbaolbaniioaaGreatDoorAp
set_option linter.all false
namespace Go.Proofs.YtplbaolbaniioaaGreatDoor
open Go.RowKit
section
variable {H : Nat → Prop} {ι : Place} {A : AHeap} {w w' : World}
theorem ints_put {b : Nat} {k : Blk} {c n : Nat} {L : List Int} {arr arr' : Array Value} (hR : Rel H ι A w) (hAb : A[b]? = some k) (hwr : k.wr = true) (hι : ι b = some (c, n)) (hsz : k.sz = 1) (hty : k.ty < 1000000) (hel : L.length = k.els.length)
 (a1 : w.heap[c]? = some (.cells arr k.ty (0, 0))) (a2 : arr.size = n) (a3 : k.els.length * k.sz ≤ n) (s2 : w'.heap[c]? = some (.cells arr' k.ty (0, 0))) (s3 : arr'.size = arr.size) (s4 : ∀ (i : Nat) (v : Int), L[i]? = some v → arr'[i]? = some (.int .i64 v))
 (s5 : w.heap.size ≤ w'.heap.size) (s6 : ∀ b, b < w.heap.size → b ≠ c → SameB w w' b) (s7 : w'.os = w.os) (s8 : w'.tape = w.tape) (s9 : w'.output = w.output) :
 Rel H ι (A.set b (setEls k (dEls (i64s L)))) w' ∧ Step ι A w ι (A.set b (setEls k (dEls (i64s L)))) w' := by
 have hlt := (gSI.1 hAb).1
 have hst : Step ι A w ι (A.set b (setEls k (dEls (i64s L)))) w' := by
  refine ⟨fun b' k' hb' => ?_, fun c' hc' => .inl ((Mu_set (k' := setEls k (dEls (i64s L))) hAb rfl c').1 hc'), fun c' hc' hn => s6 c' hc' fun he => hn (he ▸ ⟨b, k, n, hAb, hwr, hι⟩), s5, s7, s8, s9⟩
  by_cases he : b = b'
  ·subst he
   rw [hAb] at hb'
   obtain rfl := oSI hb'
   exact ⟨_, gSS hlt, Nat.le_refl _, fun _ => ⟨rfl, rfl⟩⟩
  ·exact ⟨k', by rw [gSN he]; exact hb', Nat.le_refl _, fun _ => ⟨rfl, rfl⟩⟩
 have hN : Nn H ι (A.set b (setEls k (dEls (i64s L)))) = Nn H ι A := Nn_set (k' := setEls k (dEls (i64s L))) hAb rfl
 have hget : ∀ (b' : Nat) (k' : Blk), (A.set b (setEls k (dEls (i64s L))))[b']? = some k' → (b' = b ∧ k' = setEls k (dEls (i64s L))) ∨ (b' ≠ b ∧ A[b']? = some k') := by
  intro b' k' hb'
  by_cases he : b = b'
  ·subst he
   rw [gSS hlt] at hb'
   exact .inl ⟨rfl, (oSI hb').symm⟩
  ·rw [gSN he] at hb'
   exact .inr ⟨fun h => he h.symm, hb'⟩
 have hblk : ∀ (b' : Nat) (k' : Blk), (A.set b (setEls k (dEls (i64s L))))[b']? = some k' → ∃ k2 : Blk, A[b']? = some k2 := by
  intro b' k' hb'
  rcases hget b' k' hb' with ⟨rfl, _⟩ | ⟨_, h2⟩
  ·exact ⟨k, hAb⟩
  ·exact ⟨k', h2⟩
 refine ⟨⟨fun b' k' hb' => ?_, fun b' k' c' n' hb' hc' => ?_, fun b1 b2 k1 k2 c1 n1 n2 h1 h2 e1 e2 => ?_⟩, hst⟩
 ·rcases hget b' k' hb' with ⟨rfl, rfl⟩ | ⟨hne, hb2⟩
  ·unfold BlkRel
   rw [hι]
   refine ⟨arr', .inl ⟨hty, s2⟩, ⟨fun _ => s3.trans a2, fun h => absurd hty h⟩, ?_, fun i x hi => ?_⟩
   ·simp only [setEls, dEls_len, i64s_len, hsz] at a3 ⊢
    omega
   ·simp only [setEls] at hi ⊢
    rw [hsz]
    simp only [dEls, i64s, List.map_map, List.getElem?_map, Option.map_eq_some_iff] at hi
    obtain ⟨v, hv, rfl⟩ := hi
    refine ⟨rfl, fun j av hj => ?_⟩
    cases j with
    | succ j => simp at hj
    | zero =>
      simp at hj
      subst hj
      refine ⟨.int .i64 v, by simpa using s4 i v hv, ⟨by simp [Shp], by simp [Mem, Rd, Value.oneCell']⟩, rfl⟩
  ·have hb := hR.blk b' k' hb2
   refine hb.step rfl (fun c' n' hc' => ?_) fun c u hv => Val.step hst hv
   have hcc : c' ≠ c := fun h => hne (hR.inj b' b k' k c n' n hb2 hAb (h ▸ hc') hι)
   exact s6 c' (hR.hid b' k' c' n' hb2 hc').2 hcc
 ·obtain ⟨k2, h2⟩ := hblk b' k' hb'
  have := hR.hid b' k2 c' n' h2 hc'
  exact ⟨this.1, Nat.lt_of_lt_of_le this.2 s5⟩
 ·obtain ⟨k3, h3⟩ := hblk b1 k1 h1
  obtain ⟨k4, h4⟩ := hblk b2 k2 h2
  exact hR.inj b1 b2 k3 k4 c1 n1 n2 h3 h4 e1 e2
theorem ints_in {b ver ty c n : Nat} {L : List Int} (hR : Rel H ι A w) (hAb : A[b]? = some ⟨ver, true, ty, 1, dEls (i64s L)⟩) (hty : ty < 1000000) (hι : ι b = some (c, n)) :
 ∃ arr, w.heap[c]? = some (.cells arr ty (0, 0)) ∧ arr.size = n ∧ L.length ≤ n ∧ c < w.heap.size ∧ ∀ (i : Nat) (v : Int), L[i]? = some v → arr[i]? = some (.int .i64 v) := by
 have hb := hR.blk b _ hAb
 unfold BlkRel at hb
 rw [hι] at hb
 obtain ⟨arr, a1, a2, a3, a4⟩ := hb
 have a1 := a1.cells hty
 have a2 := a2.1 hty
 refine ⟨arr, a1, a2, by rw [← a2]; simpa using a3, (hR.hid b _ c n hAb hι).2, fun i v hv => ?_⟩
 obtain ⟨_, h⟩ := a4 i [.d (.v (.int .i64 v))] (by simp [dEls, i64s, hv])
 obtain ⟨u, g1, g2, _⟩ := h 0 _ rfl
 have := g2.1
 simp only [Shp] at this
 subst this
 simpa using g1
theorem holds_in {c ty : Nat} {arr : Array Value} {L : List Int} (a1 : w.heap[c]? = some (.cells arr ty (0, 0))) (h : ∀ (i : Nat) (v : Int), L[i]? = some v → arr[i]? = some (.int .i64 v)) : Go.Sort.Holds (Value.int .i64) w c 0 L.toArray := by
 intro j hj
 have hj' : j < L.length := by simpa using hj
 refine ⟨?_, frozen_in a1 _⟩
 rw [cell_in a1, Nat.zero_add, h j _ (gEG hj')]
 congr 2
 simp [getElem!_pos, hj']
theorem put_at {c ty : Nat} {arr : Array Value} {L : List Int} {q : Nat} {os : Array Obj} (hc : c < w.heap.size) (a1 : w.heap[c]? = some (.cells arr ty (0, 0))) (hl : L.length ≤ arr.size) :
 ∃ arr', (Go.Sort.grow (Go.Sort.putRow (Value.int .i64) (Go.Sort.ahead w q) c 0 L.toArray) os).heap[c]? = some (.cells arr' ty (0, 0)) ∧ arr'.size = arr.size ∧ (∀ (i : Nat) (v : Int), L[i]? = some v → arr'[i]? = some (.int .i64 v)) ∧
   w.heap.size ≤ (Go.Sort.grow (Go.Sort.putRow (Value.int .i64) (Go.Sort.ahead w q) c 0 L.toArray) os).heap.size ∧ (∀ b, b < w.heap.size → b ≠ c → SameB w (Go.Sort.grow (Go.Sort.putRow (Value.int .i64) (Go.Sort.ahead w q) c 0 L.toArray) os) b) := by
 refine ⟨Go.Sort.putCells (Value.int .i64) 0 L.toArray arr, ?_, by simp [Go.Sort.putCells], fun i v hv => ?_, ?_, fun b hb hne => ?_⟩
 ·rw [Go.Sort.heap_grow_old _ _ (by simpa [Go.Sort.putRow, Go.Sort.mapBlock, Go.Sort.ahead] using hc)]
  simp only [Go.Sort.putRow, Go.Sort.mapBlock, Go.Sort.ahead, Array.getElem?_modify, if_true, a1]
  rfl
 ·have hi := (gSI.1 hv).1
  simp only [Go.Sort.putCells, Array.getElem?_mapIdx, Array.getElem?_eq_getElem (show i < arr.size by omega), Option.map_some]
  rw [if_pos ⟨Nat.zero_le _, by simpa using hi⟩]
  simp [getElem!_pos, hi, (gSI.1 hv).2]
 ·simp [Go.Sort.putRow, Go.Sort.mapBlock, Go.Sort.ahead]
 ·unfold SameB
  rw [Go.Sort.heap_grow_old _ _ (by simpa [Go.Sort.putRow, Go.Sort.mapBlock, Go.Sort.ahead] using hb)]
  simp only [Go.Sort.putRow, Go.Sort.mapBlock, Go.Sort.ahead, Array.getElem?_modify]
  rw [if_neg (fun h => hne h.symm)]
end
def srt (L : List Int) : List Int := L.mergeSort fun x y => decide (x ≤ y)
theorem srt_len (L : List Int) : (srt L).length = L.length := by simp [srt]
theorem sort_ac (L : List Int) (A : AHeap) (b ver ty : Nat) (hA : A[b]? = some ⟨ver, true, ty, 1, dEls (i64s L)⟩) (hL : L.length ≤ 1000000000) (hty : ty < 1000000 := by decide) :
 AC Tryz.prog 109 [.own b ver 0 L.length] A (fun r A' => r = .tup [] ∧ A' = A.set b ⟨ver, true, ty, 1, dEls (i64s (srt L))⟩) := by
 intro H ι w vs hH hR hs hm
 simp only [ShpL] at hs
 obtain ⟨u, l, rfl, s1, rfl⟩ := hs
 simp only [Shp] at s1
 obtain ⟨_, k, hk, _, hu⟩ := s1
 rw [hA] at hk
 obtain rfl := oSI hk
 have hu := hu rfl
 by_cases h0 : L = []
 ·subst h0
  have hself : A.set b ⟨ver, true, ty, 1, dEls (i64s (srt []))⟩ = A := by
   have : srt [] = [] := List.length_eq_zero_iff.1 (by simp [srt_len])
   rw [this]
   exact set_same hA
  have hex : ∃ p cap, u = .slice p 0 cap := by
   rcases hu with ⟨_, _, rfl⟩ | ⟨c, n, cap, _, rfl, _⟩
   ·exact ⟨_, _, rfl⟩
   ·exact ⟨_, _, rfl⟩
  obtain ⟨p, cap, rfl⟩ := hex
  refine (Sh_slices_Sort_int_none p cap w).mono ?_
  rintro en w' ⟨rfl, rfl⟩
  exact ⟨_, _, ι, A, rfl, ⟨rfl, hself.symm⟩, hR, Step.refl _ _ _, ⟨by simp only [Shp]; exact ⟨[], rfl, by simp [ShpL]⟩, by simp only [Mem]; exact ⟨[], rfl, by simp [MemL]⟩⟩⟩
 ·have hpos : 0 < L.length := List.length_pos_iff.2 h0
  rcases hu with ⟨h, _⟩ | ⟨c, n, cap, hι, rfl, _⟩
  ·omega
  obtain ⟨arr, a1, a2, a3, a4, a5⟩ := ints_in hR hA hty hι
  rw [Nat.zero_mul]
  refine (Sh_slices_Sort_int c 0 cap L w (holds_in a1 a5) a4 (by omega)).mono ?_
  rintro en w' ⟨rfl, q, os, rfl⟩
  obtain ⟨arr', s2, s3, s4, s5, s6⟩ := put_at (q := q) (os := os) (L := srt L) a4 a1 (by rw [srt_len]; omega)
  obtain ⟨r1, r2⟩ := ints_put (L := srt L) hR hA rfl hι rfl hty (by simp [srt_len]) a1 a2 (by simpa using a3) s2 s3 s4 s5 s6 rfl rfl rfl
  exact ⟨_, _, ι, _, rfl, ⟨rfl, rfl⟩, r1, r2, ⟨by simp only [Shp]; exact ⟨[], rfl, by simp [ShpL]⟩, by simp only [Mem]; exact ⟨[], rfl, by simp [MemL]⟩⟩⟩
theorem compact_ac (L M : List Int) (A : AHeap) (b ver ty : Nat) (hA : A[b]? = some ⟨ver, true, ty, 1, dEls (i64s L)⟩) (hL : L.length ≤ 1000000000) (hM : Lib.compact L = M) (hml : M.length ≤ L.length) (hty : ty < 1000000 := by decide) :
 AC Tryz.prog 110 [.own b ver 0 L.length] A (fun r A' => r = .own b ver 0 M.length ∧ A' = A.set b ⟨ver, true, ty, 1, dEls (i64s (M ++ List.replicate (L.length - M.length) 0))⟩) := by
 intro H ι w vs hH hR hs hm
 simp only [ShpL] at hs
 obtain ⟨u, l, rfl, s1, rfl⟩ := hs
 have s0 := s1
 simp only [Shp] at s1
 obtain ⟨_, k, hk, _, hu⟩ := s1
 rw [hA] at hk
 obtain rfl := oSI hk
 have hu := hu rfl
 by_cases h0 : L = []
 ·subst h0
  have hM0 : M = [] := List.length_eq_zero_iff.1 (by simpa using hml)
  subst hM0
  have hself : A.set b ⟨ver, true, ty, 1, dEls (i64s ([] ++ List.replicate (([] : List Int).length - ([] : List Int).length) 0))⟩ = A := set_same hA
  have hex : ∃ p cap, u = .slice p 0 cap := by
   rcases hu with ⟨_, _, rfl⟩ | ⟨c, n, cap, _, rfl, _⟩
   ·exact ⟨_, _, rfl⟩
   ·exact ⟨_, _, rfl⟩
  obtain ⟨p, cap, rfl⟩ := hex
  refine (Sh_slices_Compact_int_empty p cap w).mono ?_
  rintro en w' ⟨rfl, rfl⟩
  exact ⟨_, _, ι, A, rfl, ⟨rfl, hself.symm⟩, hR, Step.refl _ _ _, ⟨s0, by simp [Mem]⟩⟩
 ·have hpos : 0 < L.length := List.length_pos_iff.2 h0
  rcases hu with ⟨h, _⟩ | ⟨c, n, cap, hι, rfl, hc1, hc2, hc3⟩
  ·omega
  obtain ⟨arr, a1, a2, a3, a4, a5⟩ := ints_in hR hA hty hι
  rw [Nat.zero_mul]
  refine (Sh_slices_Compact_int c 0 cap L w (holds_in a1 a5) (by omega) hc1).mono ?_
  rintro en w' ⟨rfl, q, rfl⟩
  rw [hM]
  have hT : (M ++ List.replicate (L.length - M.length) 0).length = L.length := by simp; omega
  obtain ⟨arr', s2, s3, s4, s5, s6⟩ := put_at (q := q) (os := #[]) (L := M ++ List.replicate (L.length - M.length) 0) a4 a1 (by rw [hT]; omega)
  rw [Go.Sort.grow_empty] at s2 s5 s6
  obtain ⟨r1, r2⟩ := ints_put (L := M ++ List.replicate (L.length - M.length) 0) hR hA rfl hι rfl hty (by rw [hT]; simp) a1 a2 (by simpa using a3) s2 s3 s4 s5 s6 rfl rfl rfl
  refine ⟨_, _, ι, _, rfl, ⟨rfl, rfl⟩, r1, r2, ⟨?_, by simp [Mem]⟩⟩
  simp only [Shp]
  refine ⟨⟨_, _, _, rfl⟩, _, gSS (gSI.1 hA).1, Nat.le_refl _, fun _ => .inr ⟨c, n, cap, hι, ?_, by omega, hc2, hc3⟩⟩
  simp [setEls]
theorem compact_sorted {d : Array Int} (hs : ∀ (i j : Nat), i < j → j < d.size → d[i]! ≤ d[j]!) : ∀ m, m ≤ d.size → Asc (Lib.compactUpTo d m) ∧ (∀ v, v ∈ Lib.compactUpTo d m ↔ ∃ j, j < m ∧ d[j]! = v) ∧ (Lib.compactUpTo d m).length ≤ m
 | 0, _ => by simp [Lib.compactUpTo, Asc]
 | m + 1, hm => by
   obtain ⟨h1, h2, h3⟩ := compact_sorted hs m (by omega)
   rw [Lib.compactUpTo_succ]
   cases hk : Lib.keeps d m
   ·have hm0 : m ≠ 0 := fun h => by subst h; simp [Lib.keeps] at hk
    have he : d[m]! = d[m - 1]! := by
     by_cases h : d[m]! = d[m - 1]!
     ·exact h
     ·rw [Lib.keeps_pos h] at hk
      cases hk
    rw [if_neg (by simp), List.append_nil]
    refine ⟨h1, fun v => ?_, by omega⟩
    rw [h2]
    constructor
    ·rintro ⟨j, hj, e⟩
     exact ⟨j, by omega, e⟩
    ·rintro ⟨j, hj, e⟩
     by_cases hjm : j < m
     ·exact ⟨j, hjm, e⟩
     ·obtain rfl : j = m := by omega
      exact ⟨j - 1, by omega, by rw [← he]; exact e⟩
   ·rw [if_pos rfl]
    refine ⟨List.pairwise_append.2 ⟨h1, by simp, fun a ha b hb => ?_⟩, fun v => ?_, by simp; omega⟩
    ·simp at hb
     subst hb
     obtain ⟨j, hj, rfl⟩ := (h2 a).1 ha
     have hle := hs (m - 1) m (by omega) (by omega)
     have hne : d[m]! ≠ d[m - 1]! := fun h => by
      rw [Lib.keeps_neg (by omega) h] at hk
      cases hk
     have hj2 : d[j]! ≤ d[m - 1]! := by
      rcases Nat.lt_or_ge j (m - 1) with h | h
      ·exact hs j (m - 1) h (by omega)
      ·obtain rfl : j = m - 1 := by omega
       exact Int.le_refl _
     omega
    ·rw [List.mem_append, h2]
     constructor
     ·rintro (⟨j, hj, e⟩ | h)
      ·exact ⟨j, by omega, e⟩
      ·simp at h
       exact ⟨m, by omega, h.symm⟩
     ·rintro ⟨j, hj, e⟩
      by_cases hjm : j < m
      ·exact .inl ⟨j, hjm, e⟩
      ·obtain rfl : j = m := by omega
       exact .inr (by simp [e])
theorem vars_compact (x : Ex) : Lib.compact (srt (occ x)) = varsR x ∧ (varsR x).length ≤ (occ x).length := by
 have hp : (srt (occ x)).Pairwise fun a b => (decide (a ≤ b)) = true := List.pairwise_mergeSort (fun a b c h1 h2 => by simp at *; omega) (fun a b => by simp; omega) _
 have hmem : ∀ v, v ∈ srt (occ x) ↔ v ∈ occ x := fun v => by simp [srt]
 have hlen := srt_len (occ x)
 obtain ⟨S, hS⟩ : ∃ S, srt (occ x) = S := ⟨_, rfl⟩
 rw [hS] at hp hmem hlen ⊢
 have hs : ∀ (i j : Nat), i < j → j < S.toArray.size → S.toArray[i]! ≤ S.toArray[j]! := fun i j hij hj => by
  have hj' : j < S.length := by simpa using hj
  have := List.pairwise_iff_getElem.1 hp i j (by omega) hj' hij
  simpa [getElem!_pos, hj', show i < S.length by omega] using this
 obtain ⟨h1, h2, h3⟩ := compact_sorted hs S.length (by simp)
 have he : Lib.compact S = varsR x := by
  refine asc_ext h1 (varsR_asc x) fun v => ?_
  rw [varsR_mem, ← hmem]
  show v ∈ Lib.compactUpTo S.toArray S.length ↔ _
  rw [h2, List.mem_iff_getElem]
  constructor
  ·rintro ⟨j, hj, e⟩
   exact ⟨j, hj, by simpa [getElem!_pos, hj] using e⟩
  ·rintro ⟨j, hj, e⟩
   exact ⟨j, hj, by simpa [getElem!_pos, hj] using e⟩
 refine ⟨he, ?_⟩
 rw [← he, ← hlen]
 exact h3
theorem occ_len : ∀ e : Ex, (occ e).length ≤ e.nodes := by
 intro e
 induction e using Ex.ind with
 | h e ih =>
 have hl : ∀ l : List Ex, (∀ x ∈ l, (occ x).length ≤ x.nodes) → (occ.occs l).length ≤ Ex.nodess l := by
  intro l
  induction l with
  | nil => intro _; simp [occ.occs]
  | cons a l ihl =>
    intro h
    have h1 := h a (by simp)
    have h2 := ihl fun x hx => h x (by simp [hx])
    simp only [occ.occs, Ex.nodess, List.length_append]
    omega
 have := hl e.l ih
 have hne : e.nodes = Ex.nodess e.l + 1 := by cases e; rfl
 have h1 : (if e.op = 2 then [e.v] else []).length ≤ 1 := by split <;> simp
 rw [occ_eq, hne, List.length_append]
 omega
theorem occs_take {l : List Ex} {i : Nat} {x : Ex} (h : l[i]? = some x) : occ.occs (l.take (i + 1)) = occ.occs (l.take i) ++ occ x := by
 induction l generalizing i with
 | nil => simp at h
 | cons a l ih =>
   cases i with
   | zero => simp at h; subst h; simp [occ.occs]
   | succ i => simp only [List.take_succ_cons, occ.occs, ih (by simpa using h), List.append_assoc]
abbrev cellL (n : Nat) : Blk := ⟨0, true, 59, 1, [[.own 2 n 0 n]]⟩
abbrev blkL (L : List Int) : Blk := ⟨L.length, true, 3, 1, dEls (i64s L)⟩
theorem vars1_ac (x : Ex) (b0 : Blk) (L : List Int) (N : AHeap) (hl : L.length ≤ 1000000) :
 AC Tryz.prog 108 [exA x, .ptr 1 0 0 0] (b0 :: cellL L.length :: blkL L :: N) (fun r A' => r = .tup [] ∧ ∃ N', A' = b0 :: cellL (L ++ (if x.op = 2 then [x.v] else [])).length :: blkL (L ++ (if x.op = 2 then [x.v] else [])) :: (N ++ N')) := by
 refine ac_of Tryz.func108 rfl (by kernel_rfl) (by simp [Tryz.ntmps108]) fun hb => ?_
 by_cases h : x.op = 2
 ·rw [if_pos h]
  simp [Tryz.f108, h]
  refine aRaw_app byt_59 ?_
  simp [dEls_i64]
  unfold maxLen
  omega
 ·rw [if_neg h]
  simp [Tryz.f108, h]
theorem visitV_ac : ∀ (x : Ex) (b0 : Blk) (L : List Int) (N : AHeap), L.length + x.nodes ≤ 1000000 →
 AC Tryz.prog 107 [exA x, .fn 108 [] [.ptr 1 0 0 0]] (b0 :: cellL L.length :: blkL L :: N) (fun r A' => r = .tup [] ∧ ∃ N', A' = b0 :: cellL (L ++ occ x).length :: blkL (L ++ occ x) :: (N ++ N')) := by
 intro x
 induction x using Ex.ind with
 | h x ih =>
   intro b0 L N hn
   have hlen := x.nodes_len
   have n1 : x.l.length ≤ maxLen := by unfold maxLen; omega
   have hne : x.nodes = Ex.nodess x.l + 1 := by cases x; rfl
   rw [occ_eq, ← List.append_assoc]
   have c2 := fun N => vars1_ac x b0 L N (by omega)
   have hm : (L ++ (if x.op = 2 then [x.v] else [])).length ≤ L.length + 1 := by split <;> simp
   generalize L ++ (if x.op = 2 then [x.v] else []) = M at *
   refine ac_of Tryz.func107 rfl (by kernel_rfl) (by simp [Tryz.ntmps107]) fun hb => ?_
   simp [Tryz.f107]
   refine aCall_ofc (c2 _) (by simp) ?_
   rintro _ _ ⟨rfl, N1, rfl⟩
   simp
   refine aLoop_of (α := Nat) (fun i e A => i ≤ x.l.length ∧ (∃ N', A = b0 :: cellL (M ++ occ.occs (x.l.take i)).length :: blkL (M ++ occ.occs (x.l.take i)) :: (N ++ N')) ∧
    e 12 = aI .i64 i ∧ e 11 = aI .i64 x.l.length ∧ e 10 = .d (.sl 5 (Ex.ds x.l)) ∧ e 1 = .fn 108 [] [.ptr 1 0 0 0]) (fun i => x.l.length - i) 0 (Sub.refl _ _ _)
    ⟨by omega, ⟨_, by simp [occ.occs]; rfl⟩, by simp, by simp, by simp, by simp⟩ ?_
   rintro i e A ⟨hi, ⟨N', rfl⟩, e12, e11, e10, e1⟩ K hK
   rcases Nat.lt_or_ge i x.l.length with hlt | hge
   case inr =>
    obtain rfl : i = x.l.length := by omega
    rw [List.take_length]
    simp [e12, e11]
   obtain ⟨y, hy⟩ : ∃ y, x.l[i]? = some y := ⟨_, gEG hlt⟩
   have hy2 := (gSI.1 hy).2
   have ht := occs_take hy
   have hle := nodess_take_le x.l (i + 1)
   have hte := nodess_take hy
   have hol : (occ.occs (x.l.take i)).length ≤ Ex.nodess (x.l.take i) := by
    have : ∀ l : List Ex, (occ.occs l).length ≤ Ex.nodess l := by
     intro l
     induction l with
     | nil => simp [occ.occs]
     | cons a l ihl =>
       have h1 := occ_len a
       simp only [occ.occs, Ex.nodess, List.length_append]
       omega
    exact this _
   have hQ : (M ++ occ.occs (x.l.take i)).length + y.nodes ≤ 1000000 := by
    rw [List.length_append]
    omega
   have hq3 : M ++ (occ.occs (x.l.take i) ++ occ y) = M ++ occ.occs (x.l.take i) ++ occ y := (List.append_assoc ..).symm
   generalize hq : M ++ occ.occs (x.l.take i) = Q at *
   simp [e12, e11, e10, e1, hlt, hy, hy2, Ex.d_eq]
   refine aCall_ofc (ih y (gMO hy) b0 Q _ hQ) (by simp) ?_
   rintro _ _ ⟨rfl, N2, rfl⟩
   simp [e12, succ_wrap hlt n1]
   refine hK (i + 1) _ _ _ _ (Sub.refl _ _ _) ⟨by omega, ⟨N' ++ bxE y :: N2, by rw [ht, hq3]; simp⟩, by simp, by simp [e11], by simp [e10], by simp [e1]⟩ (by omega)
theorem ilvars_af (x : Ex) (hn : x.nodes ≤ 1000000) : AF Tryz.prog 89 [exA x] (.d (.sl 1 (i64s (varsR x)))) := by
 obtain ⟨c1, c2⟩ := vars_compact x
 have c3 := occ_len x
 have c4 := srt_len (occ x)
 refine af_of Tryz.func89 rfl (by kernel_rfl) (by simp [Tryz.ntmps89]) fun _ => ?_; simp [Tryz.f89, Ex.d_eq]
 have hv := visitV_ac x (bxE x) [] [] (by simpa using hn)
 refine aCall_ofc (AC.pre (Sub.trans (Sub.ghost 0 3 1) (Sub.cell (b := 1) (i := 0) (o := 0) (c' := .own 2 0 0 0) rfl rfl rfl (VLe.nil_own (k := ⟨0, true, 3, 1, []⟩) rfl rfl))) (args' := [exA x, .fn 108 [] [.ptr 1 0 0 0]]) ?_ hv) (by simp) ?_
 ·rfl
 ·rintro _ _ ⟨rfl, N', rfl⟩
  simp
  refine aCall_ofc (sort_ac (occ x) _ 2 (occ x).length 3 rfl (by omega)) (by simp) ?_
  rintro _ _ ⟨rfl, rfl⟩
  have k2 := fun A hA => compact_ac (srt (occ x)) (varsR x) A 2 (occ x).length 3 hA (by omega) c1 (by omega)
  rw [c4] at k2
  simp
  refine aCall_ofc (k2 _ rfl) (by simp) ?_
  rintro _ _ ⟨rfl, rfl⟩
  simp
theorem indexin_af (l : List Int) (v : Int) (hl : l.length ≤ maxLen) : AF Tryz.prog 106 [.d (.sl 1 (i64s l)), aI .i64 v] (aI .i64 (match l.findIdx? (fun a => decide (a = v)) with | some i => (i : Int) | none => -1)) := by
 obtain ⟨R, hR⟩ : ∃ R : Int, (match l.findIdx? (fun a => decide (a = v)) with | some i => (i : Int) | none => -1) = R := ⟨_, rfl⟩
 rw [hR]
 refine af_of Tryz.func106 rfl (by kernel_rfl) (by simp [Tryz.ntmps106]) fun _ => ?_; simp [Tryz.f106, Ex.d_eq]
 refine aLoop_st (fun i : Nat => [(0, .d (.sl 1 (i64s l))), (1, aI .i64 v), (7, aI .i64 l.length), (8, aI .i64 i)]) (fun _ => []) (fun i => i ≤ l.length ∧ ∀ j a, j < i → l[j]? = some a → a ≠ v) (fun i => l.length - i) 0 (Sub.refl _ _ _) 0 (by omega) (by simp) (by simp) ⟨by omega, by intro j a hj; omega⟩ ?_
 rintro i ⟨hi, hall⟩ K hK
 rcases Nat.lt_or_ge i l.length with hlt | hge
 case inr =>
  obtain rfl : i = l.length := by omega
  have : l.findIdx? (fun a => decide (a = v)) = none := by
   rw [List.findIdx?_eq_none_iff]
   intro x hx
   obtain ⟨j, hj⟩ := List.getElem?_of_mem hx
   simpa using hall j x (gSI.1 hj).1 hj
  rw [this] at hR
  simp only at hR
  subst hR
  simp
 obtain ⟨a, ha⟩ : ∃ a, l[i]? = some a := ⟨_, gEG hlt⟩
 have ha2 := (gSI.1 ha).2
 by_cases hav : a = v
 ·have : l.findIdx? (fun a => decide (a = v)) = some i := by
   rw [List.findIdx?_eq_some_iff_getElem]
   refine ⟨hlt, by simp [ha2, hav], fun j hj => ?_⟩
   have := hall j l[j] hj (gEG (by omega))
   simpa using this
  rw [this] at hR
  simp only at hR
  subst hR
  subst hav
  simp [hlt, ha, ha2]
 ·simp [hlt, ha, ha2, show ¬ v = a from fun h => hav h.symm, succ_wrap hlt hl]
  refine hK (i + 1) ⟨by omega, fun j b hj hb => ?_⟩ (by omega) (Sub.refl _ _ _) 0 (by omega) (by simp) (by simp)
  rcases Nat.lt_or_ge j i with h | h
  ·exact hall j b h hb
  ·obtain rfl : j = i := by omega
   rw [ha] at hb
   obtain rfl := oSI hb
   exact hav
theorem containsin_af (l : List Int) (v : Int) (hl : l.length ≤ maxLen) : AF Tryz.prog 88 [.d (.sl 1 (i64s l)), aI .i64 v] (aB (decide (v ∈ l))) := by
 refine af_of Tryz.func88 rfl (by kernel_rfl) (by simp [Tryz.ntmps88]) fun _ => ?_; simp [Tryz.f88, Ex.d_eq]
 refine aCall_of (indexin_af l v hl) (by simp) (by simp [Ex.d_eq]) ?_; simp [Ex.d_eq]
 cases h : l.findIdx? (fun a => decide (a = v)) with
 | none =>
   rw [List.findIdx?_eq_none_iff] at h
   have : ¬ v ∈ l := fun hv => by have := h v hv; simp at this
   simp [this]
 | some i =>
   rw [List.findIdx?_eq_some_iff_getElem] at h
   obtain ⟨hi, hp, _⟩ := h
   have : v ∈ l := by
    have h2 : l[i] = v := by simpa using hp
    rw [← h2]
    exact List.getElem_mem hi
   simp [this]
theorem ffown_af : ∀ (e : Ex), e.nodes ≤ 1000000000 → AF Tryz.prog 51 [exA e] (exA e) := by
 intro x
 induction x using Ex.ind with
 | h x ih =>
   intro hn
   have hlen := x.nodes_len
   have n1 : x.l.length ≤ maxLen := by unfold maxLen; omega
   refine af_of Tryz.func51 rfl (by kernel_rfl) (by simp [Tryz.ntmps51]) fun _ => ?_
   simp [Tryz.f51]
   refine aCall_ofc (clone_ac _ (Ex.ds x.l) (by simp; omega)) (by simp) ?_
   rintro _ _ ⟨rfl, rfl⟩
   simp
   refine aLoop_of (α := Nat) (fun i e A => i ≤ x.l.length ∧ A = [⟨0, true, 53, 5, [[aI .i64 x.op, aI .u32 x.n, aI .i64 x.v, aI .i64 x.wd, .own 2 1 0 x.l.length]]⟩, ⟨0, true, 53, 5, [[aI .i64 0, aI .u32 0, aI .i64 0, aI .i64 0, .d (.v (.slice none 0 0))]]⟩, ⟨1, true, 53, 5, dEls (Ex.ds x.l)⟩] ∧
    e 11 = aI .i64 i ∧ e 10 = aI .i64 x.l.length ∧ e 1 = .ptr 0 0 0 0 ∧ e 2 = .ptr 1 0 0 0) (fun i => x.l.length - i) 0 (Sub.refl _ _ _) ⟨by omega, by simp, by simp, by simp, by simp, by simp⟩ ?_
   rintro i e A ⟨hi, rfl, e11, e10, e1, e2⟩ K hK
   simp [e11, e10]
   refine aCond_split (fun hlt => ?_) (fun hge => ?_)
   ·simp at hlt
    have hi1 := gEG hlt
    simp
    refine adraw [] (by kernel_rfl) (by kernel_rfl) (by kernel_rfl) (by kernel_rfl) ?_
    simp [e11, e1, hlt, hi1, Ex.d_eq]
    refine adC_of (ih _ (gMO hi1) (by have := Ex.nodes_mem (gMO hi1); omega)) (by simp) trivial (by simp) (by simp) ?_
    simp [hlt, Ex.d_eq, e11, succ_wrap hlt n1]
    exact hK (i + 1) _ _ _ _ (Sub.refl _ _ _) ⟨by omega, by simp; exact set_same (by simp [hlt, Ex.d_eq]), by simp, by simp [e10], by simp [e1], by simp [e2]⟩ (by omega)
   ·simp at hge
    simp [e1, e2]
theorem free1_ac {x : Ex} (ih : AF Tryz.prog 85 [exA x] (aB (noFlB x))) (A N : AHeap) : AC Tryz.prog 105 [exA x] (A ++ N) (Same0 A (aB (!noFlB x))) := by
 refine ac_of Tryz.func105 rfl (by kernel_rfl) (by simp [Tryz.ntmps105]) fun _ => ?_
 simp [Tryz.f105]
 refine aCall_of ih (by simp) (by simp) ?_
 simp [Same0]
theorem free_af : ∀ (e : Ex), AF Tryz.prog 85 [exA e] (aB (noFlB e)) := by
 intro x
 induction x using Ex.ind with
 | h x ih =>
   have hany : ∀ A : AHeap, AC Tryz.prog 23 [.d (.sl 5 (Ex.ds x.l)), .fn 105 [] []] A fun r A' => r = aB (x.l.any fun y => !noFlB y) ∧ A' = A.map (clnB A.length) := fun A =>
    (containsFunc_ac (fs := []) (cs := []) (p := fun y => !noFlB y) A x.l (by simp) fun y hy N => free1_ac (ih y hy) A N).drop
   have hlast : (x.l.any fun y => !noFlB y) = !(x.l.all noFlB) := by rw [List.not_all_eq_any_not]
   rw [noFl_eq]
   refine af_of Tryz.func85 rfl (by kernel_rfl) (by simp [Tryz.ntmps85]) fun _ => ?_
   simp [Tryz.f85]
   by_cases h1 : x.op = 18
   ·simp [h1]
   by_cases h2 : x.op = 2
   ·by_cases h3 : 8 ≤ x.v
    ·by_cases h4 : x.v ≤ 11
     ·simp [h1, h2, h3, h4]
     ·simp [h1, h2, h3, h4]
      refine aCall_ofc (hany _) (by simp) ?_
      rintro _ _ ⟨rfl, rfl⟩
      simp [hlast]
    ·simp [h1, h2, h3]
     refine aCall_ofc (hany _) (by simp) ?_
     rintro _ _ ⟨rfl, rfl⟩
     simp [hlast]
   ·simp [h1, h2]
    refine aCall_ofc (hany _) (by simp) ?_
    rintro _ _ ⟨rfl, rfl⟩
    simp [hlast]
@[simp] def exCf (e : Ex) : List AV := [aI .i64 e.op, aI .u32 e.n, aI .i64 e.v, aI .i64 e.wd, .d (.sl 5 (Ex.ds e.l))]
@[simp] def prA (a b : Ex) : AV := .agg (exCf a ++ exCf b)
@[simp] def fourA (a b c d : Ex) : AV := .agg (exCf a ++ exCf b ++ exCf c ++ exCf d)
theorem flags_af (a b : Ex) (ha : a.nodes ≤ 100000000) (hb : b.nodes ≤ 100000000) : AF Tryz.prog 83 [prA a b] (fourA (eTwo 12 a b) (eMinus a b) (eTwo 15 a b) (eOver a b)) := by
 refine af_of Tryz.func83 rfl (by kernel_rfl) (by simp [Tryz.ntmps83]) fun _ => ?_; simp [Tryz.f83, Ex.d_eq]
 refine adraw [] (by kernel_rfl) (by kernel_rfl) (by kernel_rfl) (by kernel_rfl) ?_; simp [Ex.d_eq]
 refine adC_of (two_af 12 a b (by omega) (by omega)) (by simp) trivial (by simp) (by simp [Ex.d_eq]) ?_; simp [Ex.d_eq]
 refine adC_of (minus_af a b ha hb) (by simp) trivial (by simp) (by simp [Ex.d_eq]) ?_; simp [Ex.d_eq]
 refine adC_of (below_af a b (by omega) (by omega)) (by simp) trivial (by simp) (by simp [Ex.d_eq]) ?_; simp [Ex.d_eq]
 refine adC_of (over_af a b ha hb) (by simp) trivial (by simp) (by simp [Ex.d_eq]) ?_; simp [Ex.d_eq]
theorem logic_af (a b : Ex) (ha : a.nodes ≤ 100000000) (hb : b.nodes ≤ 100000000) : AF Tryz.prog 84 [prA a b] (fourA (eTwo 12 a b) (eTwo 14 a b) (eCon 0) (eCon 0)) := by
 refine af_of Tryz.func84 rfl (by kernel_rfl) (by simp [Tryz.ntmps84]) fun _ => ?_; simp [Tryz.f84, Ex.d_eq]
 refine adraw [] (by kernel_rfl) (by kernel_rfl) (by kernel_rfl) (by kernel_rfl) ?_; simp [Ex.d_eq]
 refine adC_of (two_af 12 a b (by omega) (by omega)) (by simp) trivial (by simp) (by simp [Ex.d_eq]) ?_; simp [Ex.d_eq]
 refine adC_of (less_af a b (by omega) (by omega)) (by simp) trivial (by simp) (by simp [Ex.d_eq]) ?_; simp [Ex.d_eq]
 refine adC_of (const_af 0) (by simp) trivial (by simp) (by simp [Ex.d_eq]) ?_; simp [Ex.d_eq]
 refine adC_of (const_af 0) (by simp) trivial (by simp) (by simp [Ex.d_eq]) ?_; simp [Ex.d_eq]
theorem setB_cases (s : St) (v : Int) (w : Ex) : (s.op ≠ 1 ∧ setB s v w = false) ∨ (s.op = 1 ∧ s.va ≠ v ∧ setB s v w = false) ∨ (s.op = 1 ∧ s.va = v ∧ s.e.length ≠ 1 ∧ setB s v w = false) ∨
 ∃ x, s.op = 1 ∧ s.va = v ∧ s.e = [x] ∧ setB s v w = sameB x w := by
 unfold setB
 by_cases h1 : s.op = 1
 ·by_cases h2 : s.va = v
  ·match h : s.e with
   | [] => exact .inr (.inr (.inl ⟨h1, h2, by simp, by simp⟩))
   | [x] => exact .inr (.inr (.inr ⟨x, h1, h2, rfl, by simp [h1, h2]⟩))
   | x :: y :: l => exact .inr (.inr (.inl ⟨h1, h2, by simp, by simp⟩))
  ·exact .inr (.inl ⟨h1, h2, by simp [h2]⟩)
 ·exact .inl ⟨h1, by simp [h1]⟩
theorem assigned_af (s0 s1 s2 s3 : St) (w0 w1 w2 w3 : Ex) : AF Tryz.prog 82 [.d (.sl 8 (sts [s0, s1, s2, s3])), fourA w0 w1 w2 w3] (aB (setB s0 8 w0 && setB s1 9 w1 && setB s2 10 w2 && setB s3 11 w3)) := by
 refine af_of Tryz.func82 rfl (by kernel_rfl) (by simp [Tryz.ntmps82]) fun _ => ?_; simp [Tryz.f82, Ex.d_eq]
 refine aLoop_iter 5 ?_; simp [Ex.d_eq]
 rcases setB_cases s0 8 w0 with ⟨h1, e⟩ | ⟨h1, h2, e⟩ | ⟨h1, h2, h3, e⟩ | ⟨x0, h1, h2, h3, e⟩ <;> rw [e]
 ·try simp [St.d_eq]
  refine adraw [] (by kernel_rfl) (by kernel_rfl) (by kernel_rfl) (by kernel_rfl) ?_; simp [Ex.d_eq]
  simp [h1]
 ·try simp [St.d_eq]
  refine adraw [] (by kernel_rfl) (by kernel_rfl) (by kernel_rfl) (by kernel_rfl) ?_; simp [Ex.d_eq]
  simp [h1, h2]
 ·have h4 : ¬ ((s0.e.length : Int) = 1) := by omega
  try simp [St.d_eq]
  refine adraw [] (by kernel_rfl) (by kernel_rfl) (by kernel_rfl) (by kernel_rfl) ?_; simp [Ex.d_eq]
  simp [h1, h2, h3, h4]
 try simp [St.d_eq]
 refine adraw [] (by kernel_rfl) (by kernel_rfl) (by kernel_rfl) (by kernel_rfl) ?_; simp [Ex.d_eq]
 simp [h1, h2, h3, Ex.d_eq]
 have c := same_af x0 w0
 cases hs : sameB x0 w0 <;> rw [hs] at c
 ·refine adC_of c (by simp) trivial (by simp) (by simp [Ex.d_eq]) ?_; simp [Ex.d_eq]
 refine adC_of c (by simp) trivial (by simp) (by simp [Ex.d_eq]) ?_; simp [Ex.d_eq]
 clear c h1 h2 h3 e
 rcases setB_cases s1 9 w1 with ⟨h1, e⟩ | ⟨h1, h2, e⟩ | ⟨h1, h2, h3, e⟩ | ⟨x1, h1, h2, h3, e⟩ <;> rw [e]
 ·try simp [St.d_eq]
  refine adraw [] (by kernel_rfl) (by kernel_rfl) (by kernel_rfl) (by kernel_rfl) ?_; simp [Ex.d_eq]
  simp [h1]
 ·try simp [St.d_eq]
  refine adraw [] (by kernel_rfl) (by kernel_rfl) (by kernel_rfl) (by kernel_rfl) ?_; simp [Ex.d_eq]
  simp [h1, h2]
 ·have h4 : ¬ ((s1.e.length : Int) = 1) := by omega
  try simp [St.d_eq]
  refine adraw [] (by kernel_rfl) (by kernel_rfl) (by kernel_rfl) (by kernel_rfl) ?_; simp [Ex.d_eq]
  simp [h1, h2, h3, h4]
 try simp [St.d_eq]
 refine adraw [] (by kernel_rfl) (by kernel_rfl) (by kernel_rfl) (by kernel_rfl) ?_; simp [Ex.d_eq]
 simp [h1, h2, h3, Ex.d_eq]
 have c := same_af x1 w1
 cases hs : sameB x1 w1 <;> rw [hs] at c
 ·refine adC_of c (by simp) trivial (by simp) (by simp [Ex.d_eq]) ?_; simp [Ex.d_eq]
 refine adC_of c (by simp) trivial (by simp) (by simp [Ex.d_eq]) ?_; simp [Ex.d_eq]
 clear c h1 h2 h3 e
 rcases setB_cases s2 10 w2 with ⟨h1, e⟩ | ⟨h1, h2, e⟩ | ⟨h1, h2, h3, e⟩ | ⟨x2, h1, h2, h3, e⟩ <;> rw [e]
 ·try simp [St.d_eq]
  refine adraw [] (by kernel_rfl) (by kernel_rfl) (by kernel_rfl) (by kernel_rfl) ?_; simp [Ex.d_eq]
  simp [h1]
 ·try simp [St.d_eq]
  refine adraw [] (by kernel_rfl) (by kernel_rfl) (by kernel_rfl) (by kernel_rfl) ?_; simp [Ex.d_eq]
  simp [h1, h2]
 ·have h4 : ¬ ((s2.e.length : Int) = 1) := by omega
  try simp [St.d_eq]
  refine adraw [] (by kernel_rfl) (by kernel_rfl) (by kernel_rfl) (by kernel_rfl) ?_; simp [Ex.d_eq]
  simp [h1, h2, h3, h4]
 try simp [St.d_eq]
 refine adraw [] (by kernel_rfl) (by kernel_rfl) (by kernel_rfl) (by kernel_rfl) ?_; simp [Ex.d_eq]
 simp [h1, h2, h3, Ex.d_eq]
 have c := same_af x2 w2
 cases hs : sameB x2 w2 <;> rw [hs] at c
 ·refine adC_of c (by simp) trivial (by simp) (by simp [Ex.d_eq]) ?_; simp [Ex.d_eq]
 refine adC_of c (by simp) trivial (by simp) (by simp [Ex.d_eq]) ?_; simp [Ex.d_eq]
 clear c h1 h2 h3 e
 rcases setB_cases s3 11 w3 with ⟨h1, e⟩ | ⟨h1, h2, e⟩ | ⟨h1, h2, h3, e⟩ | ⟨x3, h1, h2, h3, e⟩ <;> rw [e]
 ·try simp [St.d_eq]
  refine adraw [] (by kernel_rfl) (by kernel_rfl) (by kernel_rfl) (by kernel_rfl) ?_; simp [Ex.d_eq]
  simp [h1]
 ·try simp [St.d_eq]
  refine adraw [] (by kernel_rfl) (by kernel_rfl) (by kernel_rfl) (by kernel_rfl) ?_; simp [Ex.d_eq]
  simp [h1, h2]
 ·have h4 : ¬ ((s3.e.length : Int) = 1) := by omega
  try simp [St.d_eq]
  refine adraw [] (by kernel_rfl) (by kernel_rfl) (by kernel_rfl) (by kernel_rfl) ?_; simp [Ex.d_eq]
  simp [h1, h2, h3, h4]
 try simp [St.d_eq]
 refine adraw [] (by kernel_rfl) (by kernel_rfl) (by kernel_rfl) (by kernel_rfl) ?_; simp [Ex.d_eq]
 simp [h1, h2, h3, Ex.d_eq]
 have c := same_af x3 w3
 cases hs : sameB x3 w3 <;> rw [hs] at c
 ·refine adC_of c (by simp) trivial (by simp) (by simp [Ex.d_eq]) ?_; simp [Ex.d_eq]
 refine adC_of c (by simp) trivial (by simp) (by simp [Ex.d_eq]) ?_; simp [Ex.d_eq]
theorem cmp_af (l : List St) (k : Nat) (hk : k < l.length) (hl : l.length ≤ 1000000) (hn : ∀ s ∈ l, ∀ e ∈ s.e, e.nodes ≤ 1000000) : AF Tryz.prog 49 [.d (.sl 8 (sts l)), aI .i64 k] (.tup [prA (cmpR (l.drop k)).1.1 (cmpR (l.drop k)).1.2, aB (cmpR (l.drop k)).2]) := by
 obtain ⟨R, hR⟩ : ∃ R, cmpR (l.drop k) = R := ⟨_, rfl⟩
 rw [hR]
 have hw := i64w (n := (l.length : Int) - 4) (by omega)
 refine af_of Tryz.func49 rfl (by kernel_rfl) (by simp [Tryz.ntmps49]) fun _ => ?_; simp [Tryz.f49, Ex.d_eq]
 by_cases h4 : k + 4 ≤ l.length
 case neg =>
  have hR0 : R = ((.mk 0 0 0 0 [], .mk 0 0 0 0 []), false) := by
   have : (l.drop k).length < 4 := by simp; omega
   rw [← hR]
   match h : l.drop k with
   | [] => rfl
   | [_] => rfl
   | [_, _] => rfl
   | [_, _, _] => rfl
   | _ :: _ :: _ :: _ :: _ => rw [h] at this; simp at this; omega
  subst hR0
  simp [show ¬ (k : Int) < 0 by omega, hw, show (l.length : Int) - 4 < k by omega]
 obtain ⟨s0, s1, s2, s3, r, hd⟩ : ∃ s0 s1 s2 s3 r, l.drop k = s0 :: s1 :: s2 :: s3 :: r := by
  have : 4 ≤ (l.drop k).length := by simp; omega
  match h : l.drop k with
  | [] => rw [h] at this; simp at this
  | [_] => rw [h] at this; simp at this
  | [_, _] => rw [h] at this; simp at this
  | [_, _, _] => rw [h] at this; simp at this
  | s0 :: s1 :: s2 :: s3 :: r => exact ⟨s0, s1, s2, s3, r, rfl⟩
 have hs : l[k]? = some s0 := by
  have := congrArg (fun x => x[0]?) hd
  simpa using this
 have hs2 := (gSI.1 hs).2
 have hsl : List.drop k (List.take (k + 4) l) = [s0, s1, s2, s3] := by
  rw [List.drop_take, show k + 4 - k = 4 by omega, hd]
  rfl
 have hse := hn s0 (gMO hs)
 rw [hd] at hR
 have hg : ¬ (l.length : Int) - 4 < k := by omega
 simp [show ¬ (k : Int) < 0 by omega, hw, hg, hk, hs, hs2, St.d_eq]
 have hbad : (∀ o n v w a b, s0.e ≠ [.mk o n v w [a, b]]) → R = ((.mk 0 0 0 0 [], .mk 0 0 0 0 []), false) := fun h => by
  rw [← hR]
  simp only [cmpR]
 by_cases h1 : s0.e.length = 1
 case neg =>
  have := hbad fun o n v w a b h => h1 (by rw [h]; rfl)
  subst this
  simp [show ¬ (s0.e.length : Int) = 1 by omega]
 obtain ⟨z, hz⟩ : ∃ z, s0.e = [z] := by
  match h : s0.e, h1 with
  | [z], _ => exact ⟨z, rfl⟩
 have hzn := hse z (by rw [hz]; simp)
 simp [hz, Ex.d_eq]
 by_cases h2 : z.op = 12
 case neg =>
  have hR0 : R = ((.mk 0 0 0 0 [], .mk 0 0 0 0 []), false) := by
   rw [← hR]
   simp only [cmpR]
   split
   ·rename_i o n v w a b heq
    rw [hz] at heq
    simp at heq
    subst heq
    simp at h2
    rw [if_neg (fun h => h2 h.1)]
   ·rfl
  subst hR0
  simp [h2, hk, hs, hs2, hz, St.d_eq, Ex.d_eq]
 by_cases h3 : z.l.length = 2
 case neg =>
  have := hbad fun o n v w a b h => h3 (by rw [hz] at h; simp at h; rw [h]; rfl)
  subst this
  simp [h2, hk, hs, hs2, hz, St.d_eq, Ex.d_eq, show ¬ (z.l.length : Int) = 2 by omega]
 obtain ⟨o, n, v, w, q⟩ := z
 simp only [Ex.op_mk, Ex.l_mk] at h2 h3
 subst h2
 obtain ⟨a, b, rfl⟩ : ∃ a b, q = [a, b] := by
  match q, h3 with
  | [a, b], _ => exact ⟨a, b, rfl⟩
 have han : a.nodes + b.nodes ≤ 1000000 := by simp [Ex.nodes, Ex.nodess] at hzn; omega
 have hR1 : R = if (fullB a b s0 s1 s2 s3 || shortB a b s0 s1 s2 s3) = true then ((a, b), noFlB a && noFlB b) else ((.mk 0 0 0 0 [], .mk 0 0 0 0 []), false) := by
  rw [← hR]
  simp only [cmpR, hz]
  simp
 simp [hk, hs, hs2, hz, St.d_eq, Ex.d_eq]
 refine adraw [] (by kernel_rfl) (by kernel_rfl) (by kernel_rfl) (by kernel_rfl) ?_; simp [Ex.d_eq]
 simp [hk, hs, hs2, hz, St.d_eq, Ex.d_eq]
 refine adC_of (ffown_af a (by omega)) (by simp) trivial (by simp) (by simp [Ex.d_eq]) ?_; simp [Ex.d_eq]
 simp [hk, hs, hs2, hz, St.d_eq, Ex.d_eq]
 refine adC_of (ffown_af b (by omega)) (by simp) trivial (by simp) (by simp [Ex.d_eq]) ?_; simp [Ex.d_eq]
 have c1 := assigned_af s0 s1 s2 s3 (eTwo 12 a b) (eMinus a b) (eTwo 15 a b) (eOver a b)
 have c2 := assigned_af s0 s1 s2 s3 (eTwo 12 a b) (eTwo 14 a b) (eCon 0) (eCon 0)
 have c3 := same_af b (eCon 0)
 rw [show (setB s0 8 (eTwo 12 a b) && setB s1 9 (eMinus a b) && setB s2 10 (eTwo 15 a b) && setB s3 11 (eOver a b)) = fullB a b s0 s1 s2 s3 from rfl] at c1
 rw [show shortB a b s0 s1 s2 s3 = (sameB b (eCon 0) && (setB s0 8 (eTwo 12 a b) && setB s1 9 (eTwo 14 a b) && setB s2 10 (eCon 0) && setB s3 11 (eCon 0))) by simp only [shortB, Bool.and_assoc]] at hR1
 generalize (setB s0 8 (eTwo 12 a b) && setB s1 9 (eTwo 14 a b) && setB s2 10 (eCon 0) && setB s3 11 (eCon 0)) = g2 at *
 generalize fullB a b s0 s1 s2 s3 = g1 at *
 generalize sameB b (eCon 0) = g3 at *
 have hkw := i64w (n := (k : Int) + 4) (by omega)
 have hb1 : 0 ≤ (k : Int) + 4 ∧ (k : Int) + 4 ≤ l.length := by omega
 have hb2 : k ≤ k + 4 := by omega
 have hb3 : (k : Int) ≤ (k : Int) + 4 := by omega
 have hb4 : ((k : Int) + 4).toNat = k + 4 := by omega
 have hsl2 : List.drop k (sts (List.take (k + 4) l)) = sts [s0, s1, s2, s3] := by
  rw [← hsl]
  simp only [sts, List.map_drop]
 have f1 := free_af a
 have f2 := free_af b
 generalize noFlB a = p1 at *
 generalize noFlB b = p2 at *
 refine adraw [] (by kernel_rfl) (by kernel_rfl) (by kernel_rfl) (by kernel_rfl) ?_; simp [Ex.d_eq]
 simp [hkw, hb1, hb2, hb3, hb4, hsl2]
 refine adC_of (flags_af a b (by omega) (by omega)) (by simp) trivial (by simp) (by simp [Ex.d_eq]) ?_; simp [Ex.d_eq]
 refine adC_of c1 (by simp) trivial (by simp) (by simp [Ex.d_eq]) ?_; simp [Ex.d_eq]
 cases g1
 ·simp at hR1
  simp
  refine adC_of (const_af 0) (by simp) trivial (by simp) (by simp [Ex.d_eq]) ?_; simp [Ex.d_eq]
  refine adC_of c3 (by simp) trivial (by simp) (by simp [Ex.d_eq]) ?_; simp [Ex.d_eq]
  cases g3
  ·simp at hR1
   subst hR1
   simp
  simp at hR1
  simp [hkw, hb1, hb2, hb3, hb4, hsl2]
  refine adC_of (logic_af a b (by omega) (by omega)) (by simp) trivial (by simp) (by simp [Ex.d_eq]) ?_; simp [Ex.d_eq]
  refine adC_of c2 (by simp) trivial (by simp) (by simp [Ex.d_eq]) ?_; simp [Ex.d_eq]
  cases g2
  ·simp at hR1
   subst hR1
   simp
  simp at hR1
  subst hR1
  simp
  refine adraw [] (by kernel_rfl) (by kernel_rfl) (by kernel_rfl) (by kernel_rfl) ?_; simp [Ex.d_eq]
  refine adC_of f1 (by simp) trivial (by simp) (by simp [Ex.d_eq]) ?_; simp [Ex.d_eq]
  cases p1
  ·simp
  simp
  refine adC_of f2 (by simp) trivial (by simp) (by simp [Ex.d_eq]) ?_; simp [Ex.d_eq]
 ·simp at hR1
  subst hR1
  simp
  refine adraw [] (by kernel_rfl) (by kernel_rfl) (by kernel_rfl) (by kernel_rfl) ?_; simp [Ex.d_eq]
  refine adC_of f1 (by simp) trivial (by simp) (by simp [Ex.d_eq]) ?_; simp [Ex.d_eq]
  cases p1
  ·simp
  simp
  refine adC_of f2 (by simp) trivial (by simp) (by simp [Ex.d_eq]) ?_; simp [Ex.d_eq]
theorem ends_af (a b : Ex) (s : St) (ha : a.nodes ≤ 1000000) (hb : b.nodes ≤ 1000000) : AF Tryz.prog 53 [prA a b, stV s] (aB (endsB (a, b) s)) := by
 obtain ⟨R, hR⟩ : ∃ R, endsB (a, b) s = R := ⟨_, rfl⟩
 rw [hR]
 have va := varsR_len a
 have vb := varsR_len b
 have ca := containsin_af (varsR a) s.va (by unfold maxLen; omega)
 have cb := containsin_af (varsR b) s.va (by unfold maxLen; omega)
 rw [show decide (s.va ∈ varsR a) = decide (s.va ∈ occ a) from decide_eq_decide.2 varsR_mem] at ca
 rw [show decide (s.va ∈ varsR b) = decide (s.va ∈ occ b) from decide_eq_decide.2 varsR_mem] at cb
 simp only [endsB] at hR
 generalize decide (s.va ∈ occ a) = p at *
 generalize decide (s.va ∈ occ b) = q at *
 refine af_of Tryz.func53 rfl (by kernel_rfl) (by simp [Tryz.ntmps53]) fun _ => ?_; simp [Tryz.f53, Ex.d_eq]
 by_cases h5 : s.op = 5
 ·simp [h5] at hR
  subst hR
  simp [h5]
 have fin : ∀ {e : AEnv} {A : AHeap}, True := fun {_ _} => trivial
 by_cases h1 : s.op = 1 ∨ s.op ≠ 1 ∧ s.op = 3
 case neg =>
  have g1 : ¬ s.op = 1 := fun h => h1 (.inl h)
  have g3 : ¬ s.op = 3 := fun h => h1 (.inr ⟨g1, h⟩)
  simp [h5, g1, g3] at hR
  subst hR
  simp [h5, g1, g3]
 have hR2 : (decide (8 ≤ s.va ∧ s.va ≤ 11) || p || q) = R := by
  rw [← hR]
  rcases h1 with h1 | ⟨h1, h3⟩
  ·simp [h1]
  ·simp [h3]
 clear hR fin
 rcases h1 with h1 | ⟨h1, h3⟩
 case' inl => simp [h1]
 case' inr => simp [h3]
 all_goals
  by_cases h8 : 8 ≤ s.va
  ·by_cases h11 : s.va ≤ 11
   ·simp [h8, h11] at hR2
    subst hR2
    refine adraw [] (by kernel_rfl) (by kernel_rfl) (by kernel_rfl) (by kernel_rfl) ?_; simp [Ex.d_eq]
    simp [h8, h11]
   ·simp [h8, h11] at hR2
    refine adraw [] (by kernel_rfl) (by kernel_rfl) (by kernel_rfl) (by kernel_rfl) ?_; simp [Ex.d_eq]
    simp [h8, h11]
    refine adC_of (ilvars_af a ha) (by simp) trivial (by simp) (by simp [Ex.d_eq]) ?_; simp [Ex.d_eq]
    refine adC_of ca (by simp) trivial (by simp) (by simp [Ex.d_eq]) ?_; simp [Ex.d_eq]
    cases p
    ·simp at hR2
     subst hR2
     simp
     refine adC_of (ilvars_af b hb) (by simp) trivial (by simp) (by simp [Ex.d_eq]) ?_; simp [Ex.d_eq]
     refine adC_of cb (by simp) trivial (by simp) (by simp [Ex.d_eq]) ?_; simp [Ex.d_eq]
    ·simp at hR2
     subst hR2
     simp
  ·simp [h8] at hR2
   refine adraw [] (by kernel_rfl) (by kernel_rfl) (by kernel_rfl) (by kernel_rfl) ?_; simp [Ex.d_eq]
   simp [h8]
   refine adC_of (ilvars_af a ha) (by simp) trivial (by simp) (by simp [Ex.d_eq]) ?_; simp [Ex.d_eq]
   refine adC_of ca (by simp) trivial (by simp) (by simp [Ex.d_eq]) ?_; simp [Ex.d_eq]
   cases p
   ·simp at hR2
    subst hR2
    simp
    refine adC_of (ilvars_af b hb) (by simp) trivial (by simp) (by simp [Ex.d_eq]) ?_; simp [Ex.d_eq]
    refine adC_of cb (by simp) trivial (by simp) (by simp [Ex.d_eq]) ?_; simp [Ex.d_eq]
   ·simp at hR2
    subst hR2
    simp
theorem recA_cases (x : Ex) : (∃ k, k < 14 ∧ recN x = some (k + 1) ∧ recA x = .tup [aI .i64 (k + 1 : Nat), aB true]) ∨ (recN x = some 0 ∧ recA x = .tup [aI .i64 0, aB true]) ∨ (recN x = none ∧ recA x = .tup [aI .i64 0, aB false]) := by
 cases h : recN x with
 | none => exact .inr (.inr ⟨rfl, by unfold recA; rw [h]⟩)
 | some k =>
   cases k with
   | zero => exact .inr (.inl ⟨rfl, by unfold recA; rw [h]; rfl⟩)
   | succ k =>
     have hk : k + 1 ∈ List.range 15 := by
      unfold recN at h
      exact List.mem_of_find?_eq_some h
     have hk2 : k + 1 < 15 := by simpa using hk
     exact .inl ⟨k, by omega, rfl, by unfold recA; rw [h]⟩
theorem ffreplace_af (a b : Ex) (ha : a.nodes ≤ 1000000) (hb : b.nodes ≤ 1000000) : ∀ (e : Ex), e.nodes ≤ 1000000000 → AF Tryz.prog 52 [prA a b, exA e] (exA (fuseS a b e)) := by
 intro x
 induction x using Ex.ind with
 | h x ih =>
   intro hn
   have hlen := x.nodes_len
   have n1 : x.l.length ≤ maxLen := by unfold maxLen; omega
   have hF := fuseS_eq a b x
   obtain ⟨F, hFF⟩ : ∃ F, fuseS a b x = F := ⟨_, rfl⟩
   rw [hFF] at hF ⊢
   have cr := rec_af x
   refine af_of Tryz.func52 rfl (by kernel_rfl) (by simp [Tryz.ntmps52]) fun _ => ?_
   simp [Tryz.f52]
   rcases recA_cases x with ⟨k, hk, h1, h2⟩ | ⟨h1, h2⟩ | ⟨h1, h2⟩
   ·rw [h1] at hF
    rw [h2] at cr
    simp only at hF
    subst hF
    refine aCall_of cr (by simp) (by simp [Ex.d_eq]) ?_; simp [Ex.d_eq]
    simp [show ¬ ((k : Int) + 1 = 0) by omega]
    have cc := cond_af (k + 1 : Nat) a b (by omega) (by omega)
    simp at cc
    refine aCall_of cc (by simp) (by simp [Ex.d_eq]) ?_; simp [Ex.d_eq]
   case' inr.inl =>
    rw [h1] at hF
    rw [h2] at cr
    simp only at hF
    subst hF
    refine aCall_of cr (by simp) (by simp [Ex.d_eq]) ?_; simp [Ex.d_eq]
   case' inr.inr =>
    rw [h1] at hF
    rw [h2] at cr
    simp only at hF
    subst hF
    refine aCall_of cr (by simp) (by simp [Ex.d_eq]) ?_; simp [Ex.d_eq]
   all_goals
    clear hFF
    refine aCall_ofc (clone_ac _ (Ex.ds x.l) (by simp; omega)) (by simp) ?_
    rintro _ _ ⟨rfl, rfl⟩
    simp
    refine aLoop_of (α := Nat) (fun i e A => i ≤ x.l.length ∧ (∃ L : List Ex, A = [⟨0, true, 97, 10, [exCf a ++ exCf b]⟩, ⟨0, true, 53, 5, [[aI .i64 x.op, aI .u32 x.n, aI .i64 x.v, aI .i64 x.wd, .own 3 1 0 x.l.length]]⟩, ⟨0, true, 53, 5, [[aI .i64 0, aI .u32 0, aI .i64 0, aI .i64 0, .d (.v (.slice none 0 0))]]⟩, ⟨1, true, 53, 5, dEls (Ex.ds L)⟩] ∧ L.length = x.l.length ∧
     ∀ j : Nat, L[j]? = if j < i then (x.l[j]?).map (fuseS a b) else x.l[j]?) ∧
     e 31 = aI .i64 i ∧ e 30 = aI .i64 x.l.length ∧ e 2 = .ptr 0 0 0 0 ∧ e 3 = .ptr 1 0 0 0 ∧ e 4 = .ptr 2 0 0 0) (fun i => x.l.length - i) 0 (Sub.refl _ _ _)
     ⟨by omega, ⟨x.l, by simp, rfl, by simp⟩, by simp, by simp, by simp, by simp, by simp⟩ ?_
    rintro i e A ⟨hi, ⟨L, rfl, hL, hLj⟩, e31, e30, e2, e3, e4⟩ K hK
    rcases Nat.lt_or_ge i x.l.length with hlt | hge
    case inl =>
     obtain ⟨y, hy⟩ : ∃ y, x.l[i]? = some y := ⟨_, gEG hlt⟩
     have hLi : L[i]? = some y := by rw [hLj, if_neg (by omega), hy]
     have hLi2 := (gSI.1 hLi).2
     have hlt' : i < L.length := by omega
     simp [e31, e30, hlt]
     refine adraw [] (by kernel_rfl) (by kernel_rfl) (by kernel_rfl) (by kernel_rfl) ?_
     simp [e31, e30, e2, e3, e4, hlt, hlt', hL, hLi, hLi2, Ex.d_eq]
     refine adC_of (ih y (gMO hy) (by have := Ex.nodes_mem (gMO hy); omega)) (by simp) trivial (by simp) (by simp) ?_
     have hL' : ∀ (z : Ex), (dEls (Ex.ds L)).set i [aI .i64 z.op, aI .u32 z.n, aI .i64 z.v, aI .i64 z.wd, .d (.sl 5 (Ex.ds z.l))] = dEls (Ex.ds (L.set i z)) := fun z => by
      rw [show [aI .i64 z.op, aI .u32 z.n, aI .i64 z.v, aI .i64 z.wd, .d (.sl 5 (Ex.ds z.l))] = (Ex.d z).map AV.d by simp [Ex.d_eq], dEls_set]
      simp [Ex.ds_map, List.map_set]
     have hset : ∀ j : Nat, (L.set i (fuseS a b y))[j]? = if j < i + 1 then (x.l[j]?).map (fuseS a b) else x.l[j]? := fun j => by
      rw [List.getElem?_set]
      by_cases hij : i = j
      ·subst hij
       simp [hlt', hy]
      ·rw [if_neg hij, hLj]
       by_cases hj : j < i
       ·rw [if_pos hj, if_pos (by omega)]
       ·rw [if_neg hj, if_neg (by omega)]
     simp [hlt, hlt', hL, hLi2, Ex.d_eq, hL', e31, succ_wrap hlt n1]
     refine hK (i + 1) _ _ _ _ (Sub.refl _ _ _) ⟨by omega, ⟨L.set i (fuseS a b y), by simp, by simpa using hL, hset⟩, by simp, by simp [e30], by simp [e2], by simp [e3], by simp [e4]⟩ (by omega)
    obtain rfl : i = x.l.length := by omega
    obtain rfl : L = x.l.map (fuseS a b) := by
     refine List.ext_getElem? fun j => ?_
     rw [hLj, List.getElem?_map]
     by_cases hj : j < x.l.length
     ·rw [if_pos hj]
     ·rw [if_neg hj, List.getElem?_eq_none (by omega)]
      rfl
    have nl : NLeS (List.take x.l.length (Ex.ds (List.map (fuseS a b) x.l))) (Ex.ds (List.map (fuseS a b) x.l)) := by
     rw [List.take_of_length_le (by simp)]; exact NLeS.refl _
    simp [e31, e30, e3, e4, Ex.d_eq]
    exact nl
abbrev stQ (s : St) (E C : AV) : List AV := [aI .i64 s.op, aI .i64 s.va, aI .i64 s.wd, aI .i64 s.nx, aI .i64 s.el, aI .u32 s.tg, E, C]
abbrev stZ : Blk := ⟨0, true, 61, 8, [[aI .i64 0, aI .i64 0, aI .i64 0, aI .i64 0, aI .i64 0, aI .u32 0, .d (.v (.slice none 0 0)), .d (.v (.slice none 0 0))]]⟩
theorem ffrewrite_af {g : Nat} {fs : List AV} {f : Ex → Ex} (s : St) (hs : s.e.length ≤ 1000000) (hc : s.cs.length ≤ 2000000) (hok : okF Tryz.prog g = true) (hfs : fs = [] ∨ ∃ a b, fs = [prA a b]) (hf : ∀ e ∈ s.e, AF Tryz.prog g (fs ++ [exA e]) (exA (f e))) :
 AF Tryz.prog 50 [stV s, .fn g fs []] (stV { s with e := s.e.map f }) := by
 have n1 : s.e.length ≤ maxLen := by unfold maxLen; omega
 rcases hfs with rfl | ⟨a, b, rfl⟩
 ·refine af_of Tryz.func50 rfl (by kernel_rfl) (by simp [Tryz.ntmps50]) fun _ => ?_
  simp [Tryz.f50]
  refine aCall_ofc (clone_ac _ (Ex.ds s.e) (by simp; omega)) (by simp) ?_
  rintro _ _ ⟨rfl, rfl⟩
  simp
  refine aLoop_of (α := Nat) (fun i e A => i ≤ s.e.length ∧ (∃ L : List Ex, A = [⟨0, true, 61, 8, [stQ s (.own 2 1 0 s.e.length) (.d (.sl 1 (i64s s.cs)))]⟩, stZ, ⟨1, true, 53, 5, dEls (Ex.ds L)⟩] ∧ L.length = s.e.length ∧
   ∀ j : Nat, L[j]? = if j < i then (s.e[j]?).map f else s.e[j]?) ∧
   e 13 = aI .i64 i ∧ e 12 = aI .i64 s.e.length ∧ e 2 = .ptr 0 0 0 0 ∧ e 4 = .ptr 1 0 0 0 ∧ e 1 = .fn g [] []) (fun i => s.e.length - i) 0 (Sub.refl _ _ _)
   ⟨by omega, ⟨s.e, by simp, rfl, by simp⟩, by simp, by simp, by simp, by simp, by simp⟩ ?_
  rintro i e A ⟨hi, ⟨L, rfl, hL, hLj⟩, e13, e12, e2, e4, e1⟩ K hK
  rcases Nat.lt_or_ge i s.e.length with hlt | hge
  case inl =>
   obtain ⟨y, hy⟩ : ∃ y, s.e[i]? = some y := ⟨_, gEG hlt⟩
   have hLi : L[i]? = some y := by rw [hLj, if_neg (by omega), hy]
   have hLi2 := (gSI.1 hLi).2
   have hlt' : i < L.length := by omega
   simp [e13, e12, hlt]
   refine adraw [] (by kernel_rfl) (by kernel_rfl) (by kernel_rfl) (by kernel_rfl) ?_
   simp [e13, e12, e2, e4, e1, hlt, hlt', hL, hLi, hLi2, Ex.d_eq]
   refine adC_of (hf y (gMO hy)) hok trivial (by simp) (by simp) ?_
   have hL' : ∀ (z : Ex), (dEls (Ex.ds L)).set i [aI .i64 z.op, aI .u32 z.n, aI .i64 z.v, aI .i64 z.wd, .d (.sl 5 (Ex.ds z.l))] = dEls (Ex.ds (L.set i z)) := fun z => by
    rw [show [aI .i64 z.op, aI .u32 z.n, aI .i64 z.v, aI .i64 z.wd, .d (.sl 5 (Ex.ds z.l))] = (Ex.d z).map AV.d by simp [Ex.d_eq], dEls_set]
    simp [Ex.ds_map, List.map_set]
   have hset : ∀ j : Nat, (L.set i (f y))[j]? = if j < i + 1 then (s.e[j]?).map f else s.e[j]? := fun j => by
    rw [List.getElem?_set]
    by_cases hij : i = j
    ·subst hij
     simp [hlt', hy]
    ·rw [if_neg hij, hLj]
     by_cases hj : j < i
     ·rw [if_pos hj, if_pos (by omega)]
     ·rw [if_neg hj, if_neg (by omega)]
   simp [hlt, hlt', hL, hLi2, Ex.d_eq, hL', e13, succ_wrap hlt n1]
   refine hK (i + 1) _ _ _ _ (Sub.refl _ _ _) ⟨by omega, ⟨L.set i (f y), by simp, by simpa using hL, hset⟩, by simp, by simp [e12], by simp [e2], by simp [e4], by simp [e1]⟩ (by omega)
  obtain rfl : i = s.e.length := by omega
  obtain rfl : L = s.e.map f := by
   refine List.ext_getElem? fun j => ?_
   rw [hLj, List.getElem?_map]
   by_cases hj : j < s.e.length
   ·rw [if_pos hj]
   ·rw [if_neg hj, List.getElem?_eq_none (by omega)]
    rfl
  have nl : NLeS (List.take s.e.length (Ex.ds (List.map f s.e))) (Ex.ds (List.map f s.e)) := by
   rw [List.take_of_length_le (by simp)]; exact NLeS.refl _
  simp [e13, e12, e2, e4]
  refine aCall_ofc (clone_in_ac _ (i64s s.cs) (by simp; omega)) (by simp) ?_
  rintro _ _ ⟨rfl, rfl⟩
  simp [e2, e4]
  exact nl
 ·refine af_of Tryz.func50 rfl (by kernel_rfl) (by simp [Tryz.ntmps50]) fun _ => ?_
  simp [Tryz.f50]
  refine aCall_ofc (clone_ac _ (Ex.ds s.e) (by simp; omega)) (by simp) ?_
  rintro _ _ ⟨rfl, rfl⟩
  simp
  refine aLoop_of (α := Nat) (fun i e A => i ≤ s.e.length ∧ (∃ L : List Ex, A = [⟨0, true, 61, 8, [stQ s (.own 2 1 0 s.e.length) (.d (.sl 1 (i64s s.cs)))]⟩, stZ, ⟨1, true, 53, 5, dEls (Ex.ds L)⟩] ∧ L.length = s.e.length ∧
   ∀ j : Nat, L[j]? = if j < i then (s.e[j]?).map f else s.e[j]?) ∧
   e 13 = aI .i64 i ∧ e 12 = aI .i64 s.e.length ∧ e 2 = .ptr 0 0 0 0 ∧ e 4 = .ptr 1 0 0 0 ∧ e 1 = .fn g [prA a b] []) (fun i => s.e.length - i) 0 (Sub.refl _ _ _)
   ⟨by omega, ⟨s.e, by simp, rfl, by simp⟩, by simp, by simp, by simp, by simp, by simp⟩ ?_
  rintro i e A ⟨hi, ⟨L, rfl, hL, hLj⟩, e13, e12, e2, e4, e1⟩ K hK
  rcases Nat.lt_or_ge i s.e.length with hlt | hge
  case inl =>
   obtain ⟨y, hy⟩ : ∃ y, s.e[i]? = some y := ⟨_, gEG hlt⟩
   have hLi : L[i]? = some y := by rw [hLj, if_neg (by omega), hy]
   have hLi2 := (gSI.1 hLi).2
   have hlt' : i < L.length := by omega
   simp [e13, e12, hlt]
   refine adraw [] (by kernel_rfl) (by kernel_rfl) (by kernel_rfl) (by kernel_rfl) ?_
   simp [e13, e12, e2, e4, e1, hlt, hlt', hL, hLi, hLi2, Ex.d_eq]
   refine adC_of (hf y (gMO hy)) hok trivial (by simp) (by simp) ?_
   have hL' : ∀ (z : Ex), (dEls (Ex.ds L)).set i [aI .i64 z.op, aI .u32 z.n, aI .i64 z.v, aI .i64 z.wd, .d (.sl 5 (Ex.ds z.l))] = dEls (Ex.ds (L.set i z)) := fun z => by
    rw [show [aI .i64 z.op, aI .u32 z.n, aI .i64 z.v, aI .i64 z.wd, .d (.sl 5 (Ex.ds z.l))] = (Ex.d z).map AV.d by simp [Ex.d_eq], dEls_set]
    simp [Ex.ds_map, List.map_set]
   have hset : ∀ j : Nat, (L.set i (f y))[j]? = if j < i + 1 then (s.e[j]?).map f else s.e[j]? := fun j => by
    rw [List.getElem?_set]
    by_cases hij : i = j
    ·subst hij
     simp [hlt', hy]
    ·rw [if_neg hij, hLj]
     by_cases hj : j < i
     ·rw [if_pos hj, if_pos (by omega)]
     ·rw [if_neg hj, if_neg (by omega)]
   simp [hlt, hlt', hL, hLi2, Ex.d_eq, hL', e13, succ_wrap hlt n1]
   refine hK (i + 1) _ _ _ _ (Sub.refl _ _ _) ⟨by omega, ⟨L.set i (f y), by simp, by simpa using hL, hset⟩, by simp, by simp [e12], by simp [e2], by simp [e4], by simp [e1]⟩ (by omega)
  obtain rfl : i = s.e.length := by omega
  obtain rfl : L = s.e.map f := by
   refine List.ext_getElem? fun j => ?_
   rw [hLj, List.getElem?_map]
   by_cases hj : j < s.e.length
   ·rw [if_pos hj]
   ·rw [if_neg hj, List.getElem?_eq_none (by omega)]
    rfl
  have nl : NLeS (List.take s.e.length (Ex.ds (List.map f s.e))) (Ex.ds (List.map f s.e)) := by
   rw [List.take_of_length_le (by simp)]; exact NLeS.refl _
  simp [e13, e12, e2, e4]
  refine aCall_ofc (clone_in_ac _ (i64s s.cs) (by simp; omega)) (by simp) ?_
  rintro _ _ ⟨rfl, rfl⟩
  simp [e2, e4]
  exact nl
end Go.Proofs.YtplbaolbaniioaaGreatDoor
set_option linter.all false
namespace Go.Proofs.YtplbaolbaniioaaGreatDoor
open Go.RowKit
def taint2 (l : List Oper) : List Nat := taintOf l (taintOf l [])
def okT2 (l : List Oper) : Bool := l.all (okTo (taint2 l))
section
variable {P : Program} {n : Nat}
theorem adrawT {id : Nat} {l : List Oper} {k : AKont} {e : AEnv} {A : AHeap} (late : List (Nat × Nat)) (hm : P.follows .mixedOrders = true) (hok : okD l = true) (hlate : lateOf l = late) (hT : okT2 l = true)
 (h : avd P A.length l late (fun _ _ => True) k 0 l ⟨e, A, [], [], []⟩) : aDraw P n id l.toArray k e A := by
 rintro C ec w hn ⟨h0, ι, h1, h2, h3, h4⟩
 obtain ⟨rs, h⟩ := avd_ex l 0 _ h
 refine draw late (fun i => spR (Zr C.H ι A w) (rs i)) hm hok hlate ?_
 refine avd_sound (T := taint2 l) h1 h0 h2 l 0 ι ⟨e, A, [], [], []⟩ ⟨ec, [], [], [], [], [], []⟩ (fun o ho => List.all_eq_true.1 hT o ho) ⟨⟨fun _ _ h => h, fun _ _ => rfl, fun b k hb hk => ?_, fun b b' c m m' g1 g2 => absurd g1 (Nat.not_le.2 g2), fun c hc => absurd hc List.not_mem_nil, Nat.le_refl _⟩, h3, fun w' hx _ i => old_mem hx (h4 i), fun t _ => h4 t, fun x hx => absurd hx List.not_mem_nil, fun x hx => absurd hx List.not_mem_nil, rfl, fun i x y hx => by simp at hx⟩ h
 have := (gSI.1 hk).1
 simp only at this
 omega
end
theorem map_id_st (s : St) : ({ s with e := s.e.map fun e => e } : St) = s := by simp
theorem rwown_af (s : St) (hs : s.e.length ≤ 1000000) (hc : s.cs.length ≤ 2000000) (hn : ∀ e ∈ s.e, e.nodes ≤ 1000000) : AF Tryz.prog 50 [stV s, .fn 51 [] []] (stV s) := by
 have := ffrewrite_af (g := 51) (fs := []) (f := fun e => e) s hs hc (by simp) (.inl rfl) fun e he => ffown_af e (by have := hn e he; omega)
 rwa [map_id_st] at this
theorem rwfuse_af (s : St) (p : Ex × Ex) (hs : s.e.length ≤ 1000000) (hc : s.cs.length ≤ 2000000) (hn : ∀ e ∈ s.e, e.nodes ≤ 1000000) (h1 : p.1.nodes ≤ 1000000) (h2 : p.2.nodes ≤ 1000000) :
 AF Tryz.prog 50 [stV s, .fn 52 [prA p.1 p.2] []] (stV (fuseSt p s)) :=
 ffrewrite_af (g := 52) (fs := [prA p.1 p.2]) (f := fuseS p.1 p.2) s hs hc (by simp) (.inr ⟨_, _, rfl⟩) fun e he => ffreplace_af p.1 p.2 h1 h2 e (by have := hn e he; omega)
theorem cmp_four {l : List St} (h : (cmpR l).2 = true) : ∃ s0 s1 s2 s3 r, l = s0 :: s1 :: s2 :: s3 :: r := by
 match l with
 | [] => simp [cmpR] at h
 | [_] => simp [cmpR] at h
 | [_, _] => simp [cmpR] at h
 | [_, _, _] => simp [cmpR] at h
 | s0 :: s1 :: s2 :: s3 :: r => exact ⟨s0, s1, s2, s3, r, rfl⟩
theorem cmp_part {l : List St} (h : (cmpR l).2 = true) : ∃ s ∈ l, ∃ e ∈ s.e, (cmpR l).1.1.nodes ≤ e.nodes ∧ (cmpR l).1.2.nodes ≤ e.nodes := by
 obtain ⟨s0, s1, s2, s3, r, rfl⟩ := cmp_four h
 simp only [cmpR] at h ⊢
 split at h
 ·rename_i o n v w a b heq
  split at h
  ·rename_i c
   refine ⟨s0, by simp, .mk o n v w [a, b], by rw [heq]; simp, ?_⟩
   rw [if_pos c]
   simp [Ex.nodes, Ex.nodess]
   omega
  ·simp at h
 ·simp at h
abbrev outB (ad : Int) (k : Nat) : Blk := ⟨0, true, 38, 2, [[aI .u32 ad, .own 4 k 0 k]]⟩
abbrev arrB (W : List St) : Blk := ⟨W.length, true, 61, 8, dEls (sts W)⟩
abbrev prB (q : Ex × Ex) : Blk := ⟨0, true, 97, 10, [exCf q.1 ++ exCf q.2]⟩
abbrev blZ : Blk := ⟨0, true, 38, 2, [[aI .u32 0, .d (.v (.slice none 0 0))]]⟩
theorem block_match (a : Option (Ex × Ex)) {s : St} {l : List St} {p : Ex × Ex} (h : matchS (s :: l) = some p) : blockS a 0 (s :: l) = s :: blockS (some p) 3 l := by
 cases a <;> simp [blockS, h]
theorem ffblock_af (b : Bl) (hl : b.s.length ≤ 100000) (hf : ∀ s ∈ b.s, s.e.length ≤ 1000000 ∧ s.cs.length ≤ 2000000) (hn : ∀ s ∈ b.s, ∀ e ∈ s.e, e.nodes ≤ 1000000) : AF Tryz.prog 22 [blV b] (blV ⟨b.ad, blockS none 0 b.s⟩) := by
 have hbl : b.s.length ≤ maxLen := by unfold maxLen; omega
 obtain ⟨T, hT⟩ : ∃ T, blockS none 0 b.s = T := ⟨_, rfl⟩
 rw [hT]
 have hTl : T.length = b.s.length := by
  have := congrArg List.length (block_shape b.s none 0).1
  rw [hT] at this
  simpa using this
 refine af_of Tryz.func22 rfl (by kernel_rfl) (by simp [Tryz.ntmps22]) fun _ => ?_; simp [Tryz.f22, Ex.d_eq]
 refine aLoop_st (α := Nat × List St × Bool × (Ex × Ex)) (fun p => [(1, .ptr 0 0 0 0), (2, .ptr 1 0 0 0), (3, .ptr 2 0 0 0), (4, .ptr 3 0 0 0), (5, aB p.2.2.1), (6, aI .i64 p.1)])
  (fun p => [bB b, blZ, outB b.ad p.1, prB p.2.2.2, arrB p.2.1])
  (fun p => p.1 ≤ b.s.length ∧ p.2.1.length = p.1 ∧ p.2.1 ++ blockS (if p.2.2.1 then some p.2.2.2 else none) 0 (b.s.drop p.1) = T ∧ p.2.2.2.1.nodes ≤ 1000000 ∧ p.2.2.2.2.nodes ≤ 1000000)
  (fun p => b.s.length - p.1) (0, [], false, (.mk 0 0 0 0 [], .mk 0 0 0 0 []))
  ((Sub.ghost 0 61 8).trans ((Sub.cell (b := 2) (i := 0) (o := 1) (c := .d (.v (.slice none 0 0))) (c' := .own 4 0 0 0) (by simp; rfl) rfl rfl (VLe.nil_own (k := ⟨0, true, 61, 8, []⟩) (by simp) rfl)).trans
    ((Sub.cell (b := 3) (i := 0) (o := 4) (c := .d (.v (.slice none 0 0))) (c' := .d (.sl 5 [])) (by simp [setEls]; rfl) rfl rfl (VLe.nil_sl 5)).trans
      (Sub.cell (b := 3) (i := 0) (o := 9) (c := .d (.v (.slice none 0 0))) (c' := .d (.sl 5 [])) (by simp [setEls]; rfl) rfl rfl (VLe.nil_sl 5))))) 5 (by omega) (by simp [setEls]) (by simp) ⟨by omega, rfl, by simpa using hT, by simp [Ex.nodes, Ex.nodess], by simp [Ex.nodes, Ex.nodess]⟩ ?_
 rintro ⟨k, W, inb, q⟩ ⟨hi, hW, hx, hq1, hq2⟩ K hK
 simp only at hi hW hx hq1 hq2 hK ⊢
 rcases Nat.lt_or_ge k b.s.length with hlt | hge
 case inr =>
  obtain rfl : k = b.s.length := by omega
  have hWT : W = T := by
   rw [List.drop_length] at hx
   cases inb <;> simpa [blockS] using hx
  subst hWT
  have nl : List.take b.s.length (dEls (sts W)) = dEls (sts W) := List.take_of_length_le (by simp [hW])
  simp [hW, nl]
 obtain ⟨s, hs⟩ : ∃ s, b.s[k]? = some s := ⟨_, gEG hlt⟩
 have hs2 := (gSI.1 hs).2
 have hsm := gMO hs
 have hd : b.s.drop k = s :: b.s.drop (k + 1) := by rw [List.drop_eq_getElem_cons hlt, hs2]
 have fs := hf s hsm
 have ns := hn s hsm
 simp [hlt]
 have cc := cmp_af b.s k hlt (by omega) hn
 have hpt : (cmpR (b.s.drop k)).2 = true → _ := cmp_part (l := b.s.drop k)
 have hfour : (cmpR (b.s.drop k)).2 = true → _ := cmp_four (l := b.s.drop k)
 have hm : matchS (b.s.drop k) = if (cmpR (b.s.drop k)).2 = true then some (cmpR (b.s.drop k)).1 else none := rfl
 generalize hC : cmpR (b.s.drop k) = C at *
 obtain ⟨⟨p1, p2⟩, ok⟩ := C
 simp only at cc hpt hfour hm
 refine aCall_of cc (by simp) (by simp [Ex.d_eq]) ?_; simp [Ex.d_eq]
 cases ok
 ·simp at hm
  simp
  cases inb
  ·simp at hx
   simp
   refine adraw2 10 [] (by kernel_rfl) (by kernel_rfl) (by kernel_rfl) (by kernel_rfl) (by kernel_rfl) ?_
   simp [hlt, hs, hs2, St.d_eq]
   refine adC_of (rwown_af s fs.1 fs.2 ns) (by simp) trivial (by simp) (by simp) ?_
   simp
   refine aRaw_app byt_36 ?_
   simp [hW]
   refine ⟨by unfold maxLen; omega, by omega, ?_⟩
   refine adrawT [] (by kernel_rfl) (by kernel_rfl) (by kernel_rfl) (by kernel_rfl) ?_
   simp
   simp [succ_wrap hlt hbl]
   refine hK (k + 1, W ++ [s], false, q) ⟨by omega, by simp [hW], ?_, hq1, hq2⟩ (by simp only; omega) (Sub.refl _ _ _) 5 (by omega) (by simp [hW, St.d_eq]) (by simp)
   rw [← hx, hd, blockS, ← hd, hm]
   simp
  ·simp at hx
   simp
   refine adraw2 10 [] (by kernel_rfl) (by kernel_rfl) (by kernel_rfl) (by kernel_rfl) (by kernel_rfl) ?_
   simp [hlt, hs, hs2, St.d_eq]
   refine adC_of (rwfuse_af s q fs.1 fs.2 ns hq1 hq2) (by simp) trivial (by simp) (by simp) ?_
   simp
   refine aRaw_app byt_36 ?_
   simp [hW]
   refine ⟨by unfold maxLen; omega, by omega, ?_⟩
   refine adrawT [] (by kernel_rfl) (by kernel_rfl) (by kernel_rfl) (by kernel_rfl) ?_
   simp
   simp [hlt, hs, hs2, St.d_eq]
   have ce := ends_af q.1 q.2 s hq1 hq2
   obtain ⟨E, hE⟩ : ∃ E, endsB q s = E := ⟨_, rfl⟩
   rw [show ((q.1, q.2) : Ex × Ex) = q from rfl, hE] at ce
   refine adC_of ce (by simp) trivial (by simp) (by simp [Ex.d_eq]) ?_; simp [Ex.d_eq]
   simp [succ_wrap hlt hbl]
   refine hK (k + 1, W ++ [fuseSt q s], !E, q) ⟨by omega, by simp [hW], ?_, hq1, hq2⟩ (by simp only; omega) (Sub.refl _ _ _) 5 (by omega) (by simp [hW, St.d_eq]) (by simp)
   rw [← hx, hd, blockS, ← hd, hm]
   simp [hE]
   cases E <;> simp
 ·simp at hm
  simp
  obtain ⟨s0, s1, s2, s3, r, h4⟩ := hfour rfl
  obtain ⟨s', hs', e', he', g1, g2⟩ := hpt rfl
  have hg := hn s' (List.mem_of_mem_drop hs') e' he'
  have hlen4 : k + 4 ≤ b.s.length := by
   have := congrArg List.length h4
   simp at this
   omega
  have a0 : b.s[k]? = some s0 := by have := congrArg (fun x => x[0]?) h4; simpa using this
  have a1 : b.s[k + 1]? = some s1 := by have := congrArg (fun x => x[1]?) h4; simpa using this
  have a2 : b.s[k + 2]? = some s2 := by have := congrArg (fun x => x[2]?) h4; simpa using this
  have a3 : b.s[k + 3]? = some s3 := by have := congrArg (fun x => x[3]?) h4; simpa using this
  have b0 := (gSI.1 a0).2
  have b1 := (gSI.1 a1).2
  have b2 := (gSI.1 a2).2
  have b3 := (gSI.1 a3).2
  have c0 := rwown_af s0 (hf s0 (gMO a0)).1 (hf s0 (gMO a0)).2 (hn s0 (gMO a0))
  have c1 := rwown_af s1 (hf s1 (gMO a1)).1 (hf s1 (gMO a1)).2 (hn s1 (gMO a1))
  have c2 := rwown_af s2 (hf s2 (gMO a2)).1 (hf s2 (gMO a2)).2 (hn s2 (gMO a2))
  have c3 := rwown_af s3 (hf s3 (gMO a3)).1 (hf s3 (gMO a3)).2 (hn s3 (gMO a3))
  refine aLoop_iter 4 ?_; simp [Ex.d_eq]
  have l1 : k + 1 < b.s.length := by omega
  have l2 : k + 2 < b.s.length := by omega
  have l3 : k + 3 < b.s.length := by omega
  have w1 : IntKind.i64.wrap ((k : Int) + 1) = k + 1 := i64w (by omega)
  have w2 : IntKind.i64.wrap ((k : Int) + 1 + 1) = k + 2 := by rw [show (k : Int) + 1 + 1 = k + 2 by omega]; exact i64w (by omega)
  have w3 : IntKind.i64.wrap ((k : Int) + 2 + 1) = k + 3 := by rw [show (k : Int) + 2 + 1 = k + 3 by omega]; exact i64w (by omega)
  have w4 : IntKind.i64.wrap ((k : Int) + 3 + 1) = k + 4 := by rw [show (k : Int) + 3 + 1 = k + 4 by omega]; exact i64w (by omega)
  have z1 : 0 ≤ (k : Int) + 1 := by omega
  have z2 : 0 ≤ (k : Int) + 2 := by omega
  have z3 : 0 ≤ (k : Int) + 3 := by omega
  have t1 : ((k : Int) + 1).toNat = k + 1 := by omega
  have t2 : ((k : Int) + 2).toNat = k + 2 := by omega
  have t3 : ((k : Int) + 3).toNat = k + 3 := by omega
  refine adraw2 9 [] (by kernel_rfl) (by kernel_rfl) (by kernel_rfl) (by kernel_rfl) (by kernel_rfl) ?_
  simp [hlt, l1, l2, l3, z1, z2, z3, t1, t2, t3, a0, b0, St.d_eq]
  refine adC_of c0 (by simp) trivial (by simp) (by simp) ?_
  simp
  refine aRaw_app byt_36 ?_
  simp [hW]
  refine ⟨by unfold maxLen; omega, by omega, ?_⟩
  simp [w1, w2, w3, w4]
  refine adraw2 9 [] (by kernel_rfl) (by kernel_rfl) (by kernel_rfl) (by kernel_rfl) (by kernel_rfl) ?_
  simp [hlt, l1, l2, l3, z1, z2, z3, t1, t2, t3, a1, b1, St.d_eq]
  refine adC_of c1 (by simp) trivial (by simp) (by simp) ?_
  simp
  refine aRaw_app byt_36 ?_
  simp [hW]
  refine ⟨by unfold maxLen; omega, by omega, ?_⟩
  simp [w1, w2, w3, w4]
  refine adraw2 9 [] (by kernel_rfl) (by kernel_rfl) (by kernel_rfl) (by kernel_rfl) (by kernel_rfl) ?_
  simp [hlt, l1, l2, l3, z1, z2, z3, t1, t2, t3, a2, b2, St.d_eq]
  refine adC_of c2 (by simp) trivial (by simp) (by simp) ?_
  simp
  refine aRaw_app byt_36 ?_
  simp [hW]
  refine ⟨by unfold maxLen; omega, by omega, ?_⟩
  simp [w1, w2, w3, w4]
  refine adraw2 9 [] (by kernel_rfl) (by kernel_rfl) (by kernel_rfl) (by kernel_rfl) (by kernel_rfl) ?_
  simp [hlt, l1, l2, l3, z1, z2, z3, t1, t2, t3, a3, b3, St.d_eq]
  refine adC_of c3 (by simp) trivial (by simp) (by simp) ?_
  simp
  refine aRaw_app byt_36 ?_
  simp [hW]
  refine ⟨by unfold maxLen; omega, by omega, ?_⟩
  simp [w1, w2, w3, w4]
  have hx2 : W ++ (s0 :: s1 :: s2 :: s3 :: blockS (some (p1, p2)) 0 r) = T := by
   rw [← hx, h4, block_match _ (by rw [← h4]; exact hm)]
   simp [blockS]
  have hr : b.s.drop (k + 4) = r := by
   have := congrArg (List.drop 4) h4
   simpa [List.drop_drop] using this
  refine hK (k + 4, W ++ [s0, s1, s2, s3], true, (p1, p2)) ⟨by simp only; omega, by simp [hW], ?_, by simp only; omega, by simp only; omega⟩ (by simp only; omega) (Sub.refl _ _ _) 5 (by omega) (by simp [hW, St.d_eq]) (by simp)
  simp only [hr, if_true]
  rw [← hx2]
  simp
def lftE (n : Nat) (l : List Ex) : Nat := n - Ex.nodess l
def lftS (n : Nat) : List St → Nat
 | [] => n
 | s :: l => lftS (lftE n s.e) l
def largeB (b : Bl) : Bool := decide (300 < b.s.length) || decide (lftS 5000 b.s = 0)
theorem lftS_take {l : List St} {i : Nat} {x : St} (h : l[i]? = some x) (n : Nat) : lftS n (l.take (i + 1)) = lftE (lftS n (l.take i)) x.e := by
 induction l generalizing i n with
 | nil => simp at h
 | cons a l ih =>
   cases i with
   | zero => simp at h; subst h; simp [lftS]
   | succ i => simp only [List.take_succ_cons, lftS, ih (by simpa using h)]
theorem lftS_zero : ∀ l : List St, lftS 0 l = 0
 | [] => rfl
 | s :: l => by simp only [lftS, lftE, Nat.zero_sub]; exact lftS_zero l
theorem lftS_app (n : Nat) : ∀ l m : List St, lftS n (l ++ m) = lftS (lftS n l) m
 | [], m => rfl
 | s :: l, m => by simp only [List.cons_append, lftS]; exact lftS_app _ l m
theorem lftS_pos {n : Nat} : ∀ {l : List St}, 0 < lftS n l → ∀ s ∈ l, Ex.nodess s.e < n
 | [], _, s, hs => by cases hs
 | a :: l, h, s, hs => by
   simp only [lftS] at h
   have hpos : 0 < lftE n a.e := by
    rcases Nat.eq_zero_or_pos (lftE n a.e) with h0 | h0
    ·rw [h0, lftS_zero] at h
     omega
    ·exact h0
   unfold lftE at hpos
   rcases List.mem_cons.1 hs with rfl | hs
   ·omega
   ·have := lftS_pos h s hs
    unfold lftE at this
    omega
theorem large_af (b : Bl) (hl : b.s.length ≤ maxLen) (he : ∀ s ∈ b.s, s.e.length ≤ maxLen) : AF Tryz.prog 7 [blV b] (aB (largeB b)) := by
 have hlm := hl
 unfold maxLen at hl
 refine af_of Tryz.func7 rfl (by kernel_rfl) (by simp [Tryz.ntmps7]) fun _ => ?_; simp [Tryz.f7, Ex.d_eq]
 refine aLoop_st (fun i : Nat => [(1, .ptr 0 0 0 0), (3, aI .i64 (lftS 5000 (b.s.take i) : Nat)), (4, aI .i64 i)]) (fun _ => [bB b])
  (fun i => i ≤ b.s.length) (fun i => b.s.length - i) 0 (Sub.refl _ _ _) 1 (by omega) (by simp) (by simp [lftS]) (by omega) ?_
 rintro i hi K hK
 have fin : lftS 5000 (b.s.take i) = 0 ∨ i = b.s.length → lftS 5000 (b.s.take i) = lftS 5000 b.s := fun h => by
  rcases h with h | h
  ·conv => rhs; rw [← List.take_append_drop i b.s, lftS_app, h, lftS_zero]
   exact h
  ·rw [h, List.take_length]
 rcases Nat.lt_or_ge i b.s.length with hlt | hge
 case inr =>
  obtain rfl : i = b.s.length := by omega
  have hv := fin (.inr rfl)
  unfold largeB
  by_cases h3 : 300 < b.s.length
  ·simp [show (300 : Int) < b.s.length by omega, h3]
  ·by_cases h0 : lftS 5000 b.s = 0 <;> simp [show ¬ (300 : Int) < b.s.length by omega, h3, h0]
 by_cases h0 : lftS 5000 (b.s.take i) = 0
 ·have hv := fin (.inl h0)
  rw [h0] at hv
  unfold largeB
  rw [← hv]
  by_cases h3 : 300 < b.s.length
  ·simp [hlt, h0, show (300 : Int) < b.s.length by omega, h3]
  ·simp [hlt, h0, show ¬ (300 : Int) < b.s.length by omega, h3]
 obtain ⟨s, hs⟩ : ∃ s, b.s[i]? = some s := ⟨_, gEG hlt⟩
 have hs2 := (gSI.1 hs).2
 have hel := he s (gMO hs)
 have hts := lftS_take hs 5000
 have hle : lftS 5000 (b.s.take i) ≤ 5000 := by
  have : ∀ (l : List St) (n : Nat), lftS n l ≤ n := by
   intro l
   induction l with
   | nil => intro n; exact Nat.le_refl _
   | cons a l ih =>
     intro n
     have := ih (lftE n a.e)
     simp only [lftS]
     unfold lftE at this
     exact Nat.le_trans (ih _) (Nat.sub_le _ _)
  exact this _ _
 generalize lftS 5000 (b.s.take i) = m at *
 simp [hlt, show (0 : Int) < m by omega, show 0 < m by omega]
 clear fin
 refine aLoop_st (fun q : Nat => [(1, .ptr 0 0 0 0), (3, aI .i64 (m - Ex.nodess (s.e.take q) : Nat)), (4, aI .i64 i), (5, aI .i64 q)]) (fun _ => [bB b])
  (fun q => q ≤ s.e.length) (fun q => s.e.length - q) 0 (Sub.refl _ _ _) 1 (by omega) (by simp) (by simp [Ex.nodess]) (by omega) ?_
 rintro q hq K2 hK2
 have done : m - Ex.nodess (s.e.take q) = 0 ∨ q = s.e.length → m - Ex.nodess (s.e.take q) = lftE m s.e := fun h => by
  have := nodess_take_le s.e q
  unfold lftE
  rcases h with h | h
  ·omega
  ·rw [h, List.take_length]
 rcases Nat.lt_or_ge q s.e.length with hlt2 | hge2
 case inr =>
  obtain rfl : q = s.e.length := by omega
  have hv := done (.inr rfl)
  simp [hlt, hs, hs2, St.d_eq, succ_wrap hlt hlm]
  refine hK (i + 1) (by omega) (by omega) (Sub.refl _ _ _) 1 (by omega) (by simp) ?_
  rw [hts, ← hv]
  simp
 by_cases h1 : m - Ex.nodess (s.e.take q) = 0
 ·have hv := done (.inl h1)
  simp [hlt, hs, hs2, St.d_eq, hlt2, h1, succ_wrap hlt hlm]
  refine hK (i + 1) (by omega) (by omega) (Sub.refl _ _ _) 1 (by omega) (by simp) ?_
  rw [hts, ← hv, h1]
  simp
 obtain ⟨y, hy⟩ : ∃ y, s.e[q]? = some y := ⟨_, gEG hlt2⟩
 have hy2 := (gSI.1 hy).2
 have htq := nodess_take hy
 have hsub : m - Ex.nodess (s.e.take (q + 1)) = m - Ex.nodess (s.e.take q) - y.nodes := by omega
 have hm2 : m - Ex.nodess (s.e.take q) ≤ 5000 := by omega
 generalize m - Ex.nodess (s.e.take q) = m2 at *
 simp [hlt, hs, hs2, St.d_eq, hlt2, hy, hy2, Ex.d_eq, show (0 : Int) < m2 by omega, show 0 < m2 by omega]
 refine aCall_of (size_af y m2 (by omega) (by omega)) (by simp) (by simp [Ex.d_eq]) ?_; simp [Ex.d_eq]
 simp [succ_wrap hlt2 hel]
 refine hK2 (q + 1) (by omega) (by omega) (Sub.refl _ _ _) 1 (by omega) (by simp) ?_
 rw [hsub]
 simp
theorem large_small {b : Bl} (h : largeB b = false) : b.s.length ≤ 300 ∧ ∀ s ∈ b.s, Ex.nodess s.e < 5000 := by
 simp only [largeB, Bool.or_eq_false_iff, decide_eq_false_iff_not] at h
 exact ⟨by omega, lftS_pos (by omega)⟩
theorem block_mem {b : Bl} {t : St} (h : t ∈ blockS none 0 b.s) : ∃ s ∈ b.s, noE t = noE s ∧ t.e.length = s.e.length := by
 obtain ⟨q1, q2⟩ := block_shape b.s none 0
 obtain ⟨i, hi⟩ := List.getElem?_of_mem h
 have e1 := congrArg (fun l => l[i]?) q1
 have e2 := congrArg (fun l => l[i]?) q2
 simp only [List.getElem?_map, hi, Option.map_some] at e1 e2
 cases hs : b.s[i]? with
 | none => rw [hs] at e1; simp at e1
 | some s =>
   rw [hs] at e1 e2
   simp at e1 e2
   exact ⟨s, gMO hs, e1, e2⟩
section
variable {P : Program} {K : AKont} {e : AEnv} {A : AHeap} {d : Option Nat}
theorem AC.frz (B : List Nat) {f : FuncId} {args : List AV} {R : AV → AHeap → Prop} (h : AC P f args (frz B A) R) : AC P f args A R := by
 intro H ι w vs hH hR h1 h2
 have hl := h1.len
 obtain ⟨_, ι', g1, g2, g3, g4⟩ := Sub.frz (n := A.length) B (e := fun i => args.getD i .any) (A := A) ⟨H, ι, A, w⟩ (fun i => vs.getD i default) w rfl ⟨hH, ι, hR, Step.refl _ _ _, fun i => by
  rcases Nat.lt_or_ge i args.length with hi | hi
  ·obtain ⟨u, hu, hs⟩ := h1.get (gEG hi)
   simp only [List.getD, gEG hi, hu, Option.getD_some]
   exact hs
  ·simp only [List.getD, List.getElem?_eq_none hi, Option.getD_none]
   simp [Shp], fun i => by
  rcases Nat.lt_or_ge i args.length with hi | hi
  ·obtain ⟨u, hu, hs⟩ := h1.get (gEG hi)
   simp only [List.getD, gEG hi, hu, Option.getD_some]
   exact h2.get (gEG hi) hu
  ·simp only [List.getD, List.getElem?_eq_none hi, Option.getD_none]
   simp [Mem]⟩
 refine (h H ι' w vs (hH.step g2) g1 (ShpL.of hl fun i c u hc hu => ?_) (MemL.of hl fun i c u hc hu => ?_)).mono ?_
 ·have := g3 i
  simpa [List.getD, hc, hu] using this
 ·have := g4 i
  simpa [List.getD, hc, hu] using this
 ·rintro en w' ⟨v, r, ι'', A'', a, b, c1, c2, c3⟩
  exact ⟨v, r, ι'', A'', a, b, c1, g2.trans c2, c3⟩
theorem aCall_ofz (B : List Nat) {g : FuncId} {fs args cs args' : List AV} {r : AV} (h : AF P g args' r) (hok : okF P g = true) (hr : argO (omap (reiV true (frz B A) 9) (fs ++ args ++ cs)) args') (hk : K (aupd e d r) (frz B A)) : aCall P (.fn g fs cs) args A d e K :=
 ⟨g, fs, cs, rfl, hok, AC.frz B ((h.ac hr).mono fun r' A' ⟨e1, e2⟩ => by subst e1 e2; exact hk)⟩
end
def GrSmall (g : Gr) : Prop := g.b.length ≤ 1000 ∧ ∀ b ∈ g.b, b.s.length ≤ 1000 ∧ ∀ s ∈ b.s, Ex.nodess s.e ≤ 1000000 ∧ s.cs.length ≤ 2000000
theorem small_fit23 {g : Gr} (h : GrSmall g) : GrFit g := by
 refine ⟨by have := h.1; omega, fun b hb => ?_⟩
 obtain ⟨h1, h2⟩ := h.2 b hb
 refine ⟨by omega, fun s hs => ?_⟩
 obtain ⟨h3, h4⟩ := h2 s hs
 have := Ex.nodess_len s.e
 exact ⟨by omega, by omega⟩
theorem blockG_fit {g : Gr} (h : GrSmall g) : GrFit (blockG g) := by
 refine ⟨by have := h.1; simp [blockG]; omega, fun b hb => ?_⟩
 simp only [blockG, List.mem_map] at hb
 obtain ⟨b0, hb0, rfl⟩ := hb
 obtain ⟨h1, h2⟩ := h.2 b0 hb0
 have hTl : (blockS none 0 b0.s).length = b0.s.length := by simpa using congrArg List.length (block_shape b0.s none 0).1
 refine ⟨by simp only [hTl]; omega, fun t ht => ?_⟩
 obtain ⟨s, hs, e1, e2⟩ := block_mem ht
 obtain ⟨h3, h4⟩ := h2 s hs
 have := Ex.nodess_len s.e
 have e3 : t.cs = s.cs := by
  have := congrArg St.cs e1
  exact this
 rw [e2, e3]
 exact ⟨by omega, by omega⟩
theorem ffgraph1_af (e : Ex) : AF Tryz.prog 24 [exA e] (aB (deepE e)) := by
 refine af_of Tryz.func24 rfl (by kernel_rfl) (by simp [Tryz.ntmps24]) fun _ => ?_; simp [Tryz.f24, Ex.d_eq]
 refine aCall_of (check_af e) (by simp) (by simp [Ex.d_eq]) ?_; simp [Ex.d_eq]
 unfold deepE exErr
 cases shalB 64 e <;> cases formB e <;> simp
def fusA (g : Gr) : AV := if grErr g = 0 then (if deepG (blockG g).b = true then .tup [grV ⟨0, []⟩, aI .i64 20] else .tup [grV (blockG g), aI .i64 0]) else .tup [grV ⟨0, []⟩, aI .i64 (grErr g)]
abbrev grNil23 : Blk := ⟨0, true, 30, 2, [[aI .u32 0, .d (.v (.slice none 0 0))]]⟩
abbrev blkB (b : Bl) : Bl := ⟨b.ad, blockS none 0 b.s⟩
theorem ffb_af {g : Gr} (hg : GrSmall g) {b : Bl} (hb : b ∈ g.b) : AF Tryz.prog 22 [blV b] (blV (blkB b)) := by
 obtain ⟨h1, h2⟩ := hg.2 b hb
 refine ffblock_af b (by omega) (fun s hs => ?_) fun s hs e he => ?_
 ·obtain ⟨h3, h4⟩ := h2 s hs
  have := Ex.nodess_len s.e
  exact ⟨by omega, h4⟩
 ·have := (h2 s hs).1
  have := Ex.nodess_mem he
  omega
theorem anydeep_ac (A : AHeap) (l : List Ex) : AC Tryz.prog 23 [.d (.sl 5 (Ex.ds l)), .fn 24 [] []] A fun r A' => r = aB (l.any deepE) ∧ A' = A.map (clnB A.length) :=
 (containsFunc_ac (f := 24) (fs := []) (cs := []) (p := deepE) A l (by simp) fun a _ N => (AF.ac (A := A ++ N) (ffgraph1_af a) (by simp)).mono fun r A' h => ⟨h.1, N, h.2⟩).drop
theorem deep_take {l : List Bl} {i : Nat} {b : Bl} (h : l[i]? = some b) : deepG (l.take (i + 1)) = (deepG (l.take i) || b.s.any fun s => s.e.any deepE) := by
 unfold deepG
 rw [List.take_add_one, h, List.any_append]
 simp
theorem deep_none {l : List Bl} {i : Nat} (h : l.length ≤ i) : deepG (l.take i) = deepG l := by rw [List.take_of_length_le h]
set_option maxHeartbeats 0 in
theorem ffgraph_af (g : Gr) (hg : GrSmall g) : AF Tryz.prog 8 [grV g] (fusA g) := by
 have hg1 := hg.1
 have hl : g.b.length ≤ maxLen := by unfold maxLen; omega
 have hfit := blockG_fit hg
 unfold fusA
 refine af_of Tryz.func8 rfl (by kernel_rfl) (by simp [Tryz.ntmps8]) fun _ => ?_; simp [Tryz.f8, Ex.d_eq]
 refine aCall_of (ilcheckg_af g (small_fit23 hg)) (by simp) (by simp [Ex.d_eq]) ?_; simp [Ex.d_eq]
 by_cases h0 : grErr g = 0
 case neg => simp [h0]
 simp [h0]
 refine aLoop_st (fun i : Nat => [(1, .ptr 0 0 0 0), (2, .ptr 1 0 0 0), (3, aI .i64 0), (5, .ptr 2 0 0 0), (22, .d (.sl 2 (bls' g.b))), (23, aI .i64 g.b.length), (24, aI .i64 i)])
  (fun i => [gB g, grNil23, ⟨0, true, 30, 2, [[aI .u32 g.ad, .own 3 i 0 i]]⟩, ⟨i, true, 38, 2, dEls (bls' ((g.b.take i).map blkB))⟩])
  (fun i => i ≤ g.b.length) (fun i => g.b.length - i) 0 ((Sub.ghost 0 38 2).trans (Sub.cell (b := 2) (i := 0) (o := 1) (c := .d (.v (.slice none 0 0))) (c' := .own 3 0 0 0) (by simp; rfl) rfl rfl (VLe.nil_own (k := ⟨0, true, 38, 2, []⟩) (by simp) rfl))) 4 (by omega) (by simp [setEls]) (by simp) (by omega) ?_
 rintro i hi K hK
 rcases Nat.lt_or_ge i g.b.length with hlt | hge
 case inl =>
  obtain ⟨b, hb⟩ : ∃ b, g.b[i]? = some b := ⟨_, gEG hlt⟩
  have hb2 := (gSI.1 hb).2
  have hbm := gMO hb
  have hmin : min i g.b.length = i := by omega
  simp [hlt, hb, hb2, Bl.d_eq]
  refine adraw2 5 [] (by kernel_rfl) (by kernel_rfl) (by kernel_rfl) (by kernel_rfl) (by kernel_rfl) ?_
  simp [hlt, hb, hb2, Bl.d_eq]
  refine adC_of (ffb_af hg hbm) (by simp) trivial (by simp) (by simp) ?_
  simp [hmin]
  refine aRaw_app byt_28 ?_
  simp [hmin]
  refine ⟨by unfold maxLen; omega, by omega, ?_⟩
  simp [succ_wrap hlt hl]
  refine hK (i + 1) (by omega) (by omega) (Sub.take 4 (Nat.zero_le _)) 4 (by omega) ?_ (by simp)
  simp
  rw [List.take_add_one, List.getElem?_map, hb]
  simp [Bl.d_eq, List.map_take]
 obtain rfl : i = g.b.length := by omega
 rw [List.take_length]
 clear hK
 have hbl : (g.b.map blkB) = (blockG g).b := rfl
 have had : g.ad = (blockG g).ad := rfl
 have hlen : g.b.length = (blockG g).b.length := by rw [← hbl]; simp
 rw [hbl]
 have hfl := hfit.2
 have hG : ∀ D : Bool, deepG (blockG g).b = D → (if deepG (blockG g).b = true then AV.tup [grV ⟨0, []⟩, aI .i64 20] else .tup [grV (blockG g), aI .i64 0]) = if D = true then AV.tup [grV ⟨0, []⟩, aI .i64 20] else .tup [grV (blockG g), aI .i64 0] := by
  rintro D rfl
  rfl
 obtain ⟨Q, hQ⟩ : ∃ Q, (blockG g).b = Q := ⟨_, rfl⟩
 rw [hQ] at hlen hfl
 have hQl : Q.length ≤ maxLen := by omega
 have hgr : grV (blockG g) = .agg [aI .u32 g.ad, .d (.sl 2 (bls' Q))] := by rw [← hQ]; rfl
 rw [hQ, hgr] at hG
 rw [hQ]
 have htk : List.take g.b.length (bls' Q) = bls' Q := List.take_of_length_le (by simp [hlen])
 simp [hlen]
 refine aLoop_st (fun i : Nat => [(1, .ptr 0 0 0 0), (2, .ptr 1 0 0 0), (3, aI .i64 0), (5, .ptr 2 0 0 0), (37, .own 3 Q.length 0 Q.length), (38, aI .i64 Q.length), (39, aI .i64 i)])
  (fun _ => [gB g, grNil23, ⟨0, true, 30, 2, [[aI .u32 g.ad, .own 3 Q.length 0 Q.length]]⟩, ⟨Q.length, true, 38, 2, dEls (bls' Q)⟩])
  (fun i => i ≤ Q.length ∧ deepG (Q.take i) = false) (fun i => Q.length - i) 0 (Sub.refl _ _ _) 4 (by omega) (by simp) (by simp) ⟨by omega, by simp [deepG]⟩ ?_
 rintro i ⟨hi2, hdi⟩ K2 hK2
 rcases Nat.lt_or_ge i Q.length with hlt | hge2
 case inr =>
  rw [deep_none hge2] at hdi
  have ht2 : List.take Q.length (bls' Q) = bls' Q := List.take_of_length_le (by simp)
  obtain rfl : i = Q.length := by omega
  simp [hdi, ht2]
  exact had
 obtain ⟨b, hb⟩ : ∃ b, Q[i]? = some b := ⟨_, gEG hlt⟩
 have hb2 := (gSI.1 hb).2
 have hbm := gMO hb
 obtain ⟨f1, f2⟩ := hfl b hbm
 have hbsl : b.s.length ≤ maxLen := by unfold maxLen; omega
 have hdt := deep_take hb
 rw [hdi, Bool.false_or] at hdt
 simp [hlt, hb, hb2, Bl.d_eq]
 refine aLoop_st (fun k : Nat => [(1, .ptr 0 0 0 0), (2, .ptr 1 0 0 0), (3, aI .i64 0), (5, .ptr 2 0 0 0), (37, .own 3 Q.length 0 Q.length), (38, aI .i64 Q.length), (39, aI .i64 i), (44, .d (.sl 8 (sts b.s))), (45, aI .i64 b.s.length), (46, aI .i64 k)])
  (fun _ => [gB g, grNil23, ⟨0, true, 30, 2, [[aI .u32 g.ad, .own 3 Q.length 0 Q.length]]⟩, ⟨Q.length, true, 38, 2, dEls (bls' Q)⟩])
  (fun k => k ≤ b.s.length ∧ ((b.s.take k).any fun s => s.e.any deepE) = false) (fun k => b.s.length - k) 0 (Sub.refl _ _ _) 4 (by omega) (by simp) (by simp) ⟨by omega, by simp⟩ ?_
 rintro k ⟨hk, hdk⟩ K3 hK3
 rcases Nat.lt_or_ge k b.s.length with hlt3 | hge3
 case inr =>
  obtain rfl : k = b.s.length := by omega
  rw [List.take_length] at hdk
  simp [succ_wrap hlt hQl]
  refine hK2 (i + 1) ⟨by omega, by rw [hdt, hdk]⟩ (by omega) (Sub.refl _ _ _) 4 (by omega) (by simp) (by simp)
 obtain ⟨s, hs⟩ : ∃ s, b.s[k]? = some s := ⟨_, gEG hlt3⟩
 have hs2 := (gSI.1 hs).2
 simp [hlt3, hs, hs2, St.d_eq]
 refine aCall_ofc (anydeep_ac _ s.e) (by simp) ?_
 rintro _ _ ⟨rfl, rfl⟩
 cases hd : s.e.any deepE
 ·simp [succ_wrap hlt3 hbsl]
  refine hK3 (k + 1) ⟨by omega, ?_⟩ (by omega) (Sub.take 4 (Nat.zero_le _)) 4 (by omega) (by simp) (by simp)
  rw [List.take_add_one, hs, List.any_append, hdk]
  simp [hd]
 ·have : deepG Q = true := by
   unfold deepG
   exact List.any_eq_true.2 ⟨b, hbm, List.any_eq_true.2 ⟨s, gMO hs, hd⟩⟩
  simp [this]
theorem large_gr {g : Gr} (h1 : g.b.length ≤ 40) (h2 : ∀ b ∈ g.b, largeB b = false) (hcs : ∀ b ∈ g.b, ∀ s ∈ b.s, s.cs.length ≤ 2000000) : GrSmall g := by
 refine ⟨by omega, fun b hb => ?_⟩
 obtain ⟨l1, l2⟩ := large_small (h2 b hb)
 exact ⟨by omega, fun s hs => ⟨by have := l2 s hs; omega, hcs b hb s hs⟩⟩
end Go.Proofs.YtplbaolbaniioaaGreatDoor
