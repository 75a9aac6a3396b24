/- Texts that the claim leans on, laid one behind the other: Mn, Ms, Mj, Ml, Mo, Mt, Mv, Ma, Mm. -/
import Derived.Test.YtccjeoghjioamaaGreatDoorZM
import Derived.Test.YtccjeoghjioamaaGreatDoorAp
import Derived.Test.YtccjeoghjioamaaGreatDoorSh
import Derived.Test.YtccjeoghjioamaaGreatDoorBa
import Derived.Test.YtccjeoghjioamaaGreatDoorAt
import Derived.Test.YtccjeoghjioamaaGreatDoorZD
import Derived.Test.YtccjeoghjioamaaGreatDoorAn
import Derived.WalkMore
import Derived.BigFrame
set_option linter.unusedSimpArgs false
set_option linter.unusedVariables false
set_option linter.unnecessarySimpa false
/- Contract: the reference's Insert. -/
namespace Go.Proofs.YtccjeoghjioamaaGreatDoor
open Go.RowKit
/-- An expression's box. -/
abbrev bxE (e : Ex) : Blk := ⟨0, true, 25, 5, [[aI .i64 e.op, aI .u32 e.n, aI .i64 e.v, aI .i64 e.wd, .d (.sl 5 (Ex.ds e.l))]]⟩
/-- How many numbers stand ahead of n. -/
def lowN (n : Int) : List Int → Nat
  | [] => 0
  | a :: l => if a < n then lowN n l + 1 else 0
/-- A number put into an ascending list. -/
def insL (l : List Int) (n : Int) : List Int := if l[lowN n l]? = some n then l else l.take (lowN n l) ++ n :: l.drop (lowN n l)
theorem dEls_i64 (l : List Int) : (∀ x, x ∈ dEls (i64s l) → x.length = 1) ↔ True := by
  refine iff_true_intro fun x hx => ?_
  simp only [dEls, i64s, List.map_map, List.mem_map] at hx
  obtain ⟨n, _, rfl⟩ := hx
  rfl
end Go.Proofs.YtccjeoghjioamaaGreatDoor

/- Contracts: slices.Sort and slices.Compact at numbers, on a slice of one's own. -/
namespace Go.Proofs.YtccjeoghjioamaaGreatDoor
open Go.RowKit
section
variable {H : Nat → Prop} {ι : Place} {A : AHeap} {w w' : World}
/-- Numbers written over a block of one's own. -/
theorem ints_put {b : Nat} {k : Blk} {c n : Nat} {L : List Int} {arr arr' : Array Value} (hR : Rel H ι A w) (hAb : A[b]? = some k) (hwr : k.wr = true) (hι : ι b = some (c, n)) (hsz : k.sz = 1) (hty : k.ty < 1000000) (hel : L.length = k.els.length)
    (a1 : w.heap[c]? = some (.cells arr k.ty (0, 0))) (a2 : arr.size = n) (a3 : k.els.length * k.sz ≤ n) (s2 : w'.heap[c]? = some (.cells arr' k.ty (0, 0))) (s3 : arr'.size = arr.size) (s4 : ∀ (i : Nat) (v : Int), L[i]? = some v → arr'[i]? = some (.int .i64 v))
    (s5 : w.heap.size ≤ w'.heap.size) (s6 : ∀ b, b < w.heap.size → b ≠ c → SameB w w' b) (s7 : w'.os = w.os) (s8 : w'.tape = w.tape) (s9 : w'.output = w.output) :
    Rel H ι (A.set b (setEls k (dEls (i64s L)))) w' ∧ Step ι A w ι (A.set b (setEls k (dEls (i64s L)))) w' := by
  have hlt := (List.getElem?_eq_some_iff.1 hAb).1
  have hst : Step ι A w ι (A.set b (setEls k (dEls (i64s L)))) w' := by
    refine ⟨fun b' k' hb' => ?_, fun c' hc' => .inl ((Mu_set (k' := setEls k (dEls (i64s L))) hAb rfl c').1 hc'), fun c' hc' hn => s6 c' hc' fun he => hn (he ▸ ⟨b, k, n, hAb, hwr, hι⟩), s5, s7, s8, s9⟩
    by_cases he : b = b'
    · subst he
      rw [hAb] at hb'
      obtain rfl := Option.some.inj hb'
      exact ⟨_, List.getElem?_set_self hlt, Nat.le_refl _, fun _ => ⟨rfl, rfl⟩⟩
    · exact ⟨k', by rw [List.getElem?_set_ne he]; exact hb', Nat.le_refl _, fun _ => ⟨rfl, rfl⟩⟩
  have hN : Nn H ι (A.set b (setEls k (dEls (i64s L)))) = Nn H ι A := Nn_set (k' := setEls k (dEls (i64s L))) hAb rfl
  have hget : ∀ (b' : Nat) (k' : Blk), (A.set b (setEls k (dEls (i64s L))))[b']? = some k' → (b' = b ∧ k' = setEls k (dEls (i64s L))) ∨ (b' ≠ b ∧ A[b']? = some k') := by
    intro b' k' hb'
    by_cases he : b = b'
    · subst he
      rw [List.getElem?_set_self hlt] at hb'
      exact .inl ⟨rfl, (Option.some.inj hb').symm⟩
    · rw [List.getElem?_set_ne he] at hb'
      exact .inr ⟨fun h => he h.symm, hb'⟩
  have hblk : ∀ (b' : Nat) (k' : Blk), (A.set b (setEls k (dEls (i64s L))))[b']? = some k' → ∃ k2 : Blk, A[b']? = some k2 := by
    intro b' k' hb'
    rcases hget b' k' hb' with ⟨rfl, _⟩ | ⟨_, h2⟩
    · exact ⟨k, hAb⟩
    · exact ⟨k', h2⟩
  refine ⟨⟨fun b' k' hb' => ?_, fun b' k' c' n' hb' hc' => ?_, fun b1 b2 k1 k2 c1 n1 n2 h1 h2 e1 e2 => ?_⟩, hst⟩
  · rcases hget b' k' hb' with ⟨rfl, rfl⟩ | ⟨hne, hb2⟩
    · unfold BlkRel
      rw [hι]
      refine ⟨arr', .inl ⟨hty, s2⟩, fun _ => s3.trans a2, ?_, fun i x hi => ?_⟩
      · simp only [setEls, dEls_len, i64s_len, hsz] at a3 ⊢
        omega
      · simp only [setEls] at hi ⊢
        rw [hsz]
        simp only [dEls, i64s, List.map_map, List.getElem?_map, Option.map_eq_some_iff] at hi
        obtain ⟨v, hv, rfl⟩ := hi
        refine ⟨rfl, fun j av hj => ?_⟩
        cases j with
        | succ j => simp at hj
        | zero =>
          simp at hj
          subst hj
          refine ⟨.int .i64 v, by simpa using s4 i v hv, ⟨by simp [Shp], by simp [Mem, Rd, Value.oneCell']⟩, rfl⟩
    · have hb := hR.blk b' k' hb2
      refine hb.step rfl (fun c' n' hc' => ?_) fun c u hv => Val.step hst hv
      have hcc : c' ≠ c := fun h => hne (hR.inj b' b k' k c n' n hb2 hAb (h ▸ hc') hι)
      exact s6 c' (hR.hid b' k' c' n' hb2 hc').2 hcc
  · obtain ⟨k2, h2⟩ := hblk b' k' hb'
    have := hR.hid b' k2 c' n' h2 hc'
    exact ⟨this.1, Nat.lt_of_lt_of_le this.2 s5⟩
  · obtain ⟨k3, h3⟩ := hblk b1 k1 h1
    obtain ⟨k4, h4⟩ := hblk b2 k2 h2
    exact hR.inj b1 b2 k3 k4 c1 n1 n2 h3 h4 e1 e2
/-- What stands in a block of numbers. -/
theorem ints_in {b ver ty c n : Nat} {L : List Int} (hR : Rel H ι A w) (hAb : A[b]? = some ⟨ver, true, ty, 1, dEls (i64s L)⟩) (hty : ty < 1000000) (hι : ι b = some (c, n)) :
    ∃ arr, w.heap[c]? = some (.cells arr ty (0, 0)) ∧ arr.size = n ∧ L.length ≤ n ∧ c < w.heap.size ∧ ∀ (i : Nat) (v : Int), L[i]? = some v → arr[i]? = some (.int .i64 v) := by
  have hb := hR.blk b _ hAb
  unfold BlkRel at hb
  rw [hι] at hb
  obtain ⟨arr, a1, a2, a3, a4⟩ := hb
  have a1 := a1.cells hty
  have a2 := a2 hty
  refine ⟨arr, a1, a2, by rw [← a2]; simpa using a3, (hR.hid b _ c n hAb hι).2, fun i v hv => ?_⟩
  obtain ⟨_, h⟩ := a4 i [.d (.v (.int .i64 v))] (by simp [dEls, i64s, hv])
  obtain ⟨u, g1, g2, _⟩ := h 0 _ rfl
  have := g2.1
  simp only [Shp] at this
  subst this
  simpa using g1
theorem holds_in {c ty : Nat} {arr : Array Value} {L : List Int} (a1 : w.heap[c]? = some (.cells arr ty (0, 0))) (h : ∀ (i : Nat) (v : Int), L[i]? = some v → arr[i]? = some (.int .i64 v)) : Go.Sort.Holds (Value.int .i64) w c 0 L.toArray := by
  intro j hj
  have hj' : j < L.length := by simpa using hj
  refine ⟨?_, frozen_in a1 _⟩
  rw [cell_in a1, Nat.zero_add, h j _ (List.getElem?_eq_getElem hj')]
  congr 2
  simp [getElem!_pos, hj']
theorem put_at {c ty : Nat} {arr : Array Value} {L : List Int} {q : Nat} {os : Array Obj} (hc : c < w.heap.size) (a1 : w.heap[c]? = some (.cells arr ty (0, 0))) (hl : L.length ≤ arr.size) :
    ∃ arr', (Go.Sort.grow (Go.Sort.putRow (Value.int .i64) (Go.Sort.ahead w q) c 0 L.toArray) os).heap[c]? = some (.cells arr' ty (0, 0)) ∧ arr'.size = arr.size ∧ (∀ (i : Nat) (v : Int), L[i]? = some v → arr'[i]? = some (.int .i64 v)) ∧
      w.heap.size ≤ (Go.Sort.grow (Go.Sort.putRow (Value.int .i64) (Go.Sort.ahead w q) c 0 L.toArray) os).heap.size ∧ (∀ b, b < w.heap.size → b ≠ c → SameB w (Go.Sort.grow (Go.Sort.putRow (Value.int .i64) (Go.Sort.ahead w q) c 0 L.toArray) os) b) := by
  refine ⟨Go.Sort.putCells (Value.int .i64) 0 L.toArray arr, ?_, by simp [Go.Sort.putCells], fun i v hv => ?_, ?_, fun b hb hne => ?_⟩
  · rw [Go.Sort.heap_grow_old _ _ (by simpa [Go.Sort.putRow, Go.Sort.mapBlock, Go.Sort.ahead] using hc)]
    simp only [Go.Sort.putRow, Go.Sort.mapBlock, Go.Sort.ahead, Array.getElem?_modify, if_true, a1]
    rfl
  · have hi := (List.getElem?_eq_some_iff.1 hv).1
    simp only [Go.Sort.putCells, Array.getElem?_mapIdx, Array.getElem?_eq_getElem (show i < arr.size by omega), Option.map_some]
    rw [if_pos ⟨Nat.zero_le _, by simpa using hi⟩]
    simp [getElem!_pos, hi, (List.getElem?_eq_some_iff.1 hv).2]
  · simp [Go.Sort.putRow, Go.Sort.mapBlock, Go.Sort.ahead]
  · unfold SameB
    rw [Go.Sort.heap_grow_old _ _ (by simpa [Go.Sort.putRow, Go.Sort.mapBlock, Go.Sort.ahead] using hb)]
    simp only [Go.Sort.putRow, Go.Sort.mapBlock, Go.Sort.ahead, Array.getElem?_modify]
    rw [if_neg (fun h => hne h.symm)]
end
def srt (L : List Int) : List Int := L.mergeSort fun x y => decide (x ≤ y)
theorem srt_len (L : List Int) : (srt L).length = L.length := by simp [srt]
theorem sort_ac (L : List Int) (A : AHeap) (b ver ty : Nat) (hA : A[b]? = some ⟨ver, true, ty, 1, dEls (i64s L)⟩) (hL : L.length ≤ 1000000000) (hty : ty < 1000000 := by decide) :
    AC Tryz.prog 59 [.own b ver 0 L.length] A (fun r A' => r = .tup [] ∧ A' = A.set b ⟨ver, true, ty, 1, dEls (i64s (srt L))⟩) := by
  intro H ι w vs hH hR hs hm
  simp only [ShpL] at hs
  obtain ⟨u, l, rfl, s1, rfl⟩ := hs
  simp only [Shp] at s1
  obtain ⟨_, k, hk, _, hu⟩ := s1
  rw [hA] at hk
  obtain rfl := Option.some.inj hk
  have hu := hu rfl
  by_cases h0 : L = []
  · subst h0
    have hself : A.set b ⟨ver, true, ty, 1, dEls (i64s (srt []))⟩ = A := by
      have : srt [] = [] := List.length_eq_zero_iff.1 (by simp [srt_len])
      rw [this]
      exact set_same hA
    have hex : ∃ p cap, u = .slice p 0 cap := by
      rcases hu with ⟨_, _, rfl⟩ | ⟨c, n, cap, _, rfl, _⟩
      · exact ⟨_, _, rfl⟩
      · exact ⟨_, _, rfl⟩
    obtain ⟨p, cap, rfl⟩ := hex
    refine (Sh_slices_Sort_int_none p cap w).mono ?_
    rintro en w' ⟨rfl, rfl⟩
    exact ⟨_, _, ι, A, rfl, ⟨rfl, hself.symm⟩, hR, Step.refl _ _ _, ⟨by simp only [Shp]; exact ⟨[], rfl, by simp [ShpL]⟩, by simp only [Mem]; exact ⟨[], rfl, by simp [MemL]⟩⟩⟩
  · have hpos : 0 < L.length := List.length_pos_iff.2 h0
    rcases hu with ⟨h, _⟩ | ⟨c, n, cap, hι, rfl, _⟩
    · omega
    obtain ⟨arr, a1, a2, a3, a4, a5⟩ := ints_in hR hA hty hι
    rw [Nat.zero_mul]
    refine (Sh_slices_Sort_int c 0 cap L w (holds_in a1 a5) a4 (by omega)).mono ?_
    rintro en w' ⟨rfl, q, os, rfl⟩
    obtain ⟨arr', s2, s3, s4, s5, s6⟩ := put_at (q := q) (os := os) (L := srt L) a4 a1 (by rw [srt_len]; omega)
    obtain ⟨r1, r2⟩ := ints_put (L := srt L) hR hA rfl hι rfl hty (by simp [srt_len]) a1 a2 (by simpa using a3) s2 s3 s4 s5 s6 rfl rfl rfl
    exact ⟨_, _, ι, _, rfl, ⟨rfl, rfl⟩, r1, r2, ⟨by simp only [Shp]; exact ⟨[], rfl, by simp [ShpL]⟩, by simp only [Mem]; exact ⟨[], rfl, by simp [MemL]⟩⟩⟩
theorem compact_ac (L M : List Int) (A : AHeap) (b ver ty : Nat) (hA : A[b]? = some ⟨ver, true, ty, 1, dEls (i64s L)⟩) (hL : L.length ≤ 1000000000) (hM : Lib.compact L = M) (hml : M.length ≤ L.length) (hty : ty < 1000000 := by decide) :
    AC Tryz.prog 60 [.own b ver 0 L.length] A (fun r A' => r = .own b ver 0 M.length ∧ A' = A.set b ⟨ver, true, ty, 1, dEls (i64s (M ++ List.replicate (L.length - M.length) 0))⟩) := by
  intro H ι w vs hH hR hs hm
  simp only [ShpL] at hs
  obtain ⟨u, l, rfl, s1, rfl⟩ := hs
  have s0 := s1
  simp only [Shp] at s1
  obtain ⟨_, k, hk, _, hu⟩ := s1
  rw [hA] at hk
  obtain rfl := Option.some.inj hk
  have hu := hu rfl
  by_cases h0 : L = []
  · subst h0
    have hM0 : M = [] := List.length_eq_zero_iff.1 (by simpa using hml)
    subst hM0
    have hself : A.set b ⟨ver, true, ty, 1, dEls (i64s ([] ++ List.replicate (([] : List Int).length - ([] : List Int).length) 0))⟩ = A := set_same hA
    have hex : ∃ p cap, u = .slice p 0 cap := by
      rcases hu with ⟨_, _, rfl⟩ | ⟨c, n, cap, _, rfl, _⟩
      · exact ⟨_, _, rfl⟩
      · exact ⟨_, _, rfl⟩
    obtain ⟨p, cap, rfl⟩ := hex
    refine (Sh_slices_Compact_int_empty p cap w).mono ?_
    rintro en w' ⟨rfl, rfl⟩
    exact ⟨_, _, ι, A, rfl, ⟨rfl, hself.symm⟩, hR, Step.refl _ _ _, ⟨s0, by simp [Mem]⟩⟩
  · have hpos : 0 < L.length := List.length_pos_iff.2 h0
    rcases hu with ⟨h, _⟩ | ⟨c, n, cap, hι, rfl, hc1, hc2, hc3⟩
    · omega
    obtain ⟨arr, a1, a2, a3, a4, a5⟩ := ints_in hR hA hty hι
    rw [Nat.zero_mul]
    refine (Sh_slices_Compact_int c 0 cap L w (holds_in a1 a5) (by omega) hc1).mono ?_
    rintro en w' ⟨rfl, q, rfl⟩
    rw [hM]
    have hT : (M ++ List.replicate (L.length - M.length) 0).length = L.length := by simp; omega
    obtain ⟨arr', s2, s3, s4, s5, s6⟩ := put_at (q := q) (os := #[]) (L := M ++ List.replicate (L.length - M.length) 0) a4 a1 (by rw [hT]; omega)
    rw [Go.Sort.grow_empty] at s2 s5 s6
    obtain ⟨r1, r2⟩ := ints_put (L := M ++ List.replicate (L.length - M.length) 0) hR hA rfl hι rfl hty (by rw [hT]; simp) a1 a2 (by simpa using a3) s2 s3 s4 s5 s6 rfl rfl rfl
    refine ⟨_, _, ι, _, rfl, ⟨rfl, rfl⟩, r1, r2, ⟨?_, by simp [Mem]⟩⟩
    simp only [Shp]
    refine ⟨⟨_, _, _, rfl⟩, _, List.getElem?_set_self (List.getElem?_eq_some_iff.1 hA).1, Nat.le_refl _, fun _ => .inr ⟨c, n, cap, hι, ?_, by omega, hc2, hc3⟩⟩
    simp [setEls]
end Go.Proofs.YtccjeoghjioamaaGreatDoor

/- Contract: il.Size, by il.visit with a closure that counts. -/
namespace Go.Proofs.YtccjeoghjioamaaGreatDoor
open Go.RowKit
abbrev cellI (n : Int) : Blk := ⟨0, true, 3, 1, [[aI .i64 n]]⟩
end Go.Proofs.YtccjeoghjioamaaGreatDoor

/- Contracts: the closures of il.Fresh, il.visit with them. -/
namespace Go.Proofs.YtccjeoghjioamaaGreatDoor
open Go.RowKit
abbrev cellF : Blk := ⟨0, true, 116, 1, [[.fn 63 [] [.ptr 1 0 0 0]]]⟩
/-- The first variable that is not used, after one more. -/
def seeI (n v : Int) : Int := if n ≤ v then (if 65535 < v then 65535 else v) + 1 else n
def seeE (n : Int) : Ex → Int
  | .mk o _ w _ l => seeEs (if o = 2 then seeI n w else n) l
where seeEs (n : Int) : List Ex → Int
  | [] => n
  | e :: l => seeEs (seeE n e) l
theorem seeI_range {n v : Int} (h0 : 0 ≤ n) (h1 : n ≤ 65536) : 0 ≤ seeI n v ∧ seeI n v ≤ 65536 := by
  unfold seeI
  split
  · split <;> omega
  · omega
theorem fresh1_ac (b0 b2 : Blk) (v n : Int) (N : AHeap) (h0 : 0 ≤ n) (h1 : n ≤ 65536) : AC Tryz.prog 63 [aI .i64 v, .ptr 1 0 0 0] (b0 :: cellI n :: b2 :: N) (fun r A' => r = .tup [] ∧ ∃ N', A' = b0 :: cellI (seeI n v) :: b2 :: (N ++ N')) := by
  refine ac_of Tryz.func63 rfl (by kernel_rfl) (by simp [Tryz.ntmps63]) fun hb => ?_
  have hr := seeI_range (v := v) h0 h1
  unfold seeI at *
  by_cases h : n ≤ v
  · rw [if_pos h] at hr ⊢
    simp [Tryz.f63, h]
    refine aRaw_min (k := .i64) (k' := .i64) (a := v) (b := 65535) (by simp) (by simp) ?_
    generalize (if 65535 < v then (65535 : Int) else v) = m at *
    simp [i64w (n := m + 1) (by omega)]
  · simp [Tryz.f63, h]
theorem fresh2_ac (x : Ex) (b0 : Blk) (n : Int) (N : AHeap) (h0 : 0 ≤ n) (h1 : n ≤ 65536) : AC Tryz.prog 64 [exA x, .ptr 2 0 0 0] (b0 :: cellI n :: cellF :: N) (fun r A' => r = .tup [] ∧ ∃ N', A' = b0 :: cellI (if x.op = 2 then seeI n x.v else n) :: cellF :: (N ++ N')) := by
  refine ac_of Tryz.func64 rfl (by kernel_rfl) (by simp [Tryz.ntmps64]) fun hb => ?_
  by_cases h : x.op = 2
  · simp [Tryz.f64, h]
    refine aCall_ofc (fresh1_ac b0 cellF x.v n _ h0 h1) (by simp) ?_
    rintro _ _ ⟨rfl, N1, rfl⟩
    simp
  · simp [Tryz.f64, h]
theorem seeE_range : ∀ (x : Ex) (n : Int), 0 ≤ n → n ≤ 65536 → 0 ≤ seeE n x ∧ seeE n x ≤ 65536 := by
  intro x
  induction x using Ex.ind with
  | h x ih =>
  obtain ⟨o, k, w, wd, l⟩ := x
  intro n h0 h1
  have hl : ∀ l : List Ex, (∀ x ∈ l, ∀ (n : Int), 0 ≤ n → n ≤ 65536 → 0 ≤ seeE n x ∧ seeE n x ≤ 65536) → ∀ n : Int, 0 ≤ n → n ≤ 65536 → 0 ≤ seeE.seeEs n l ∧ seeE.seeEs n l ≤ 65536 := by
    intro l
    induction l with
    | nil => intro _ n h0 h1; simp only [seeE.seeEs]; omega
    | cons a l ihl =>
      intro h n h0 h1
      have := h a (by simp) n h0 h1
      simp only [seeE.seeEs]
      exact ihl (fun x hx => h x (by simp [hx])) _ this.1 this.2
  simp only [seeE]
  have hr := seeI_range (v := w) h0 h1
  split
  · exact hl l ih _ hr.1 hr.2
  · exact hl l ih _ h0 h1
theorem seeEs_take {l : List Ex} {i : Nat} {x : Ex} (h : l[i]? = some x) (n : Int) : seeE.seeEs n (l.take (i + 1)) = seeE (seeE.seeEs n (l.take i)) x := by
  induction l generalizing i n with
  | nil => simp at h
  | cons a l ih =>
    cases i with
    | zero => simp at h; subst h; simp [seeE.seeEs]
    | succ i => simp only [List.take_succ_cons, seeE.seeEs, ih (by simpa using h)]
theorem seeEs_range : ∀ (l : List Ex) (n : Int), 0 ≤ n → n ≤ 65536 → 0 ≤ seeE.seeEs n l ∧ seeE.seeEs n l ≤ 65536
  | [], n, h0, h1 => by simp only [seeE.seeEs]; omega
  | a :: l, n, h0, h1 => by
    have := seeE_range a n h0 h1
    simp only [seeE.seeEs]
    exact seeEs_range l _ this.1 this.2
theorem visitF_ac : ∀ (x : Ex) (b0 : Blk) (n : Int) (N : AHeap), 0 ≤ n → n ≤ 65536 → x.nodes ≤ 1000000000 →
    AC Tryz.prog 57 [exA x, .fn 64 [] [.ptr 2 0 0 0]] (b0 :: cellI n :: cellF :: N) (fun r A' => r = .tup [] ∧ ∃ N', A' = b0 :: cellI (seeE n x) :: cellF :: (N ++ N')) := by
  intro x
  induction x using Ex.ind with
  | h x ih =>
    intro b0 n N h0 h1 hn
    have hlen := x.nodes_len
    have n1 : x.l.length ≤ maxLen := by unfold maxLen; omega
    have hne : seeE n x = seeE.seeEs (if x.op = 2 then seeI n x.v else n) x.l := by cases x; rfl
    rw [hne]
    have hr : 0 ≤ (if x.op = 2 then seeI n x.v else n) ∧ (if x.op = 2 then seeI n x.v else n) ≤ 65536 := by
      split
      · exact seeI_range h0 h1
      · omega
    have c2 := fun N => fresh2_ac x b0 n N h0 h1
    generalize (if x.op = 2 then seeI n x.v else n) = m at *
    refine ac_of Tryz.func57 rfl (by kernel_rfl) (by simp [Tryz.ntmps57]) fun hb => ?_
    simp [Tryz.f57]
    refine aCall_ofc (c2 _) (by simp) ?_
    rintro _ _ ⟨rfl, N1, rfl⟩
    simp
    refine aLoop_of (α := Nat) (fun i e A => i ≤ x.l.length ∧ (∃ N', A = b0 :: cellI (seeE.seeEs m (x.l.take i)) :: cellF :: (N ++ N')) ∧
      e 12 = aI .i64 i ∧ e 11 = aI .i64 x.l.length ∧ e 10 = .d (.sl 5 (Ex.ds x.l)) ∧ e 1 = .fn 64 [] [.ptr 2 0 0 0]) (fun i => x.l.length - i) 0 (Sub.refl _ _ _)
      ⟨by omega, ⟨_, by simp [seeE.seeEs]; rfl⟩, by simp, by simp, by simp, by simp⟩ ?_
    rintro i e A ⟨hi, ⟨N', rfl⟩, e12, e11, e10, e1⟩ K hK
    rcases Nat.lt_or_ge i x.l.length with hlt | hge
    case inr =>
      obtain rfl : i = x.l.length := by omega
      rw [List.take_length]
      simp [e12, e11]
    obtain ⟨y, hy⟩ : ∃ y, x.l[i]? = some y := ⟨_, List.getElem?_eq_getElem hlt⟩
    have hy2 := (List.getElem?_eq_some_iff.1 hy).2
    have hm := Ex.nodes_mem (List.mem_of_getElem? hy)
    have ht := seeEs_take hy m
    have hrr := seeEs_range (x.l.take i) m hr.1 hr.2
    rw [show x.l.take (i + 1) = x.l.take (i + 1) from rfl] at ht
    generalize hq : seeE.seeEs m (x.l.take i) = q at *
    simp [e12, e11, e10, e1, hlt, hy, hy2, Ex.d_eq]
    refine aCall_ofc (ih y (List.mem_of_getElem? hy) b0 q _ hrr.1 hrr.2 (by omega)) (by simp) ?_
    rintro _ _ ⟨rfl, N2, rfl⟩
    simp [e12, succ_wrap hlt n1]
    refine hK (i + 1) _ _ _ _ (Sub.refl _ _ _) ⟨by omega, ⟨_, by rw [ht]⟩, by simp, by simp [e11], by simp [e10], by simp [e1]⟩ (by omega)
end Go.Proofs.YtccjeoghjioamaaGreatDoor

/- The variables of an expression: in the order in which they stand; ascending, each once. No program in sight. -/
namespace Go.Proofs.YtccjeoghjioamaaGreatDoor
open Go.RowKit
/-- The variables, in the order in which they stand. -/
def occ : Ex → List Int
  | .mk o _ w _ l => (if o = 2 then [w] else []) ++ occs l
where occs : List Ex → List Int
  | [] => []
  | e :: l => occ e ++ occs l
/-- The variables, ascending, each once. -/
def varsR : Ex → List Int
  | .mk o _ w _ l => varsRs (if o = 2 then [w] else []) l
where varsRs (out : List Int) : List Ex → List Int
  | [] => out
  | e :: l => varsRs ((varsR e).foldl insL out) l
theorem occ_eq (e : Ex) : occ e = (if e.op = 2 then [e.v] else []) ++ occ.occs e.l := by cases e; rfl
theorem varsR_eq (e : Ex) : varsR e = varsR.varsRs (if e.op = 2 then [e.v] else []) e.l := by cases e; rfl
def Asc (l : List Int) : Prop := l.Pairwise (· < ·)
def insR (n : Int) : List Int → List Int
  | [] => [n]
  | a :: l => if a < n then a :: insR n l else if a = n then a :: l else n :: a :: l
theorem insL_eq (n : Int) : ∀ l : List Int, insL l n = insR n l
  | [] => by simp [insL, insR, lowN]
  | a :: l => by
    have ih := insL_eq n l
    unfold insL at ih ⊢
    by_cases h : a < n
    · simp only [lowN, if_pos h, insR, List.getElem?_cons_succ, List.take_succ_cons, List.drop_succ_cons]
      rw [← ih]
      split <;> simp
    · simp only [lowN, if_neg h, insR, List.getElem?_cons_zero, List.take_zero, List.drop_zero, Option.some.injEq, List.nil_append]
theorem insR_mem (n v : Int) : ∀ l : List Int, v ∈ insR n l ↔ v = n ∨ v ∈ l
  | [] => by simp [insR]
  | a :: l => by
    simp only [insR]
    split
    · simp only [List.mem_cons, insR_mem n v l]
      constructor
      · rintro (h | h | h)
        · exact .inr (.inl h)
        · exact .inl h
        · exact .inr (.inr h)
      · rintro (h | h | h)
        · exact .inr (.inl h)
        · exact .inl h
        · exact .inr (.inr h)
    · split
      · rename_i h
        subst h
        simp only [List.mem_cons]
        constructor
        · exact .inr
        · rintro (h | h)
          · exact .inl h
          · exact h
      · simp only [List.mem_cons]
theorem insR_asc (n : Int) : ∀ {l : List Int}, Asc l → Asc (insR n l)
  | [], _ => by simp [insR, Asc]
  | a :: l, h => by
    obtain ⟨h1, h2⟩ := List.pairwise_cons.1 h
    have ih := insR_asc n h2
    simp only [insR]
    split
    · refine List.pairwise_cons.2 ⟨fun v hv => ?_, ih⟩
      rcases (insR_mem n v l).1 hv with rfl | hv
      · assumption
      · exact h1 v hv
    · split
      · exact h
      · refine List.pairwise_cons.2 ⟨fun v hv => ?_, h⟩
        rcases List.mem_cons.1 hv with rfl | hv
        · omega
        · have := h1 v hv
          omega
theorem insR_len (n : Int) : ∀ l : List Int, (insR n l).length ≤ l.length + 1
  | [] => by simp [insR]
  | a :: l => by
    have := insR_len n l
    simp only [insR]
    split
    · simp; omega
    · split <;> simp
theorem insL_mem {n v : Int} {l : List Int} : v ∈ insL l n ↔ v = n ∨ v ∈ l := by rw [insL_eq, insR_mem]
theorem insL_asc {n : Int} {l : List Int} (h : Asc l) : Asc (insL l n) := by rw [insL_eq]; exact insR_asc n h
theorem insL_len (l : List Int) (n : Int) : (insL l n).length ≤ l.length + 1 := by rw [insL_eq]; exact insR_len n l
theorem fold_mem {v : Int} : ∀ {m l : List Int}, v ∈ m.foldl insL l ↔ v ∈ l ∨ v ∈ m
  | [], l => by simp
  | a :: m, l => by
    simp only [List.foldl_cons, fold_mem (m := m), insL_mem, List.mem_cons]
    constructor
    · rintro ((h | h) | h)
      · exact .inr (.inl h)
      · exact .inl h
      · exact .inr (.inr h)
    · rintro (h | h | h)
      · exact .inl (.inr h)
      · exact .inl (.inl h)
      · exact .inr h
theorem fold_asc : ∀ {m l : List Int}, Asc l → Asc (m.foldl insL l)
  | [], _, h => h
  | a :: m, l, h => by
    rw [List.foldl_cons]
    exact fold_asc (m := m) (insL_asc h)
theorem fold_len : ∀ (m l : List Int), (m.foldl insL l).length ≤ l.length + m.length
  | [], l => by simp
  | a :: m, l => by
    have h1 := fold_len m (insL l a)
    have h2 := insL_len l a
    simp only [List.foldl_cons, List.length_cons]
    omega
theorem varsR_all : ∀ e : Ex, (∀ v, v ∈ varsR e ↔ v ∈ occ e) ∧ Asc (varsR e) ∧ (varsR e).length ≤ e.nodes := by
  intro e
  induction e using Ex.ind with
  | h e ih =>
  have hl : ∀ (l : List Ex), (∀ x ∈ l, (∀ v, v ∈ varsR x ↔ v ∈ occ x) ∧ Asc (varsR x) ∧ (varsR x).length ≤ x.nodes) → ∀ out : List Int, Asc out →
      (∀ v, v ∈ varsR.varsRs out l ↔ v ∈ out ∨ v ∈ occ.occs l) ∧ Asc (varsR.varsRs out l) ∧ (varsR.varsRs out l).length ≤ out.length + Ex.nodess l := by
    intro l
    induction l with
    | nil => intro _ out h; simp [varsR.varsRs, occ.occs, h]
    | cons a l ihl =>
      intro h out ho
      obtain ⟨a1, a2, a3⟩ := h a (by simp)
      obtain ⟨b1, b2, b3⟩ := ihl (fun x hx => h x (by simp [hx])) ((varsR a).foldl insL out) (fold_asc ho)
      have b4 := fold_len (varsR a) out
      refine ⟨fun v => ?_, b2, ?_⟩
      · simp only [varsR.varsRs, occ.occs, b1 v, fold_mem, a1 v, List.mem_append]
        exact or_assoc
      · simp only [varsR.varsRs, Ex.nodess]
        omega
  have h0 : Asc (if e.op = 2 then [e.v] else []) := by split <;> simp [Asc]
  have h1 : (if e.op = 2 then [e.v] else []).length ≤ 1 := by split <;> simp
  obtain ⟨c1, c2, c3⟩ := hl e.l ih _ h0
  have hne : e.nodes = Ex.nodess e.l + 1 := by cases e; rfl
  rw [varsR_eq, occ_eq, hne]
  refine ⟨fun v => by rw [c1 v, List.mem_append], c2, by omega⟩
theorem varsR_mem {e : Ex} {v : Int} : v ∈ varsR e ↔ v ∈ occ e := (varsR_all e).1 v
theorem varsR_asc (e : Ex) : Asc (varsR e) := (varsR_all e).2.1
/-- Ascending lists of the same members are the same. -/
theorem asc_ext : ∀ {l m : List Int}, Asc l → Asc m → (∀ v, v ∈ l ↔ v ∈ m) → l = m
  | [], [], _, _, _ => rfl
  | [], b :: m, _, _, h => absurd ((h b).2 (by simp)) (by simp)
  | a :: l, [], _, _, h => absurd ((h a).1 (by simp)) (by simp)
  | a :: l, b :: m, h1, h2, h => by
    obtain ⟨p1, p2⟩ := List.pairwise_cons.1 h1
    obtain ⟨q1, q2⟩ := List.pairwise_cons.1 h2
    have e1 : a = b := by
      have x := (h a).1 (by simp)
      have y := (h b).2 (by simp)
      rcases List.mem_cons.1 x with rfl | x
      · rfl
      rcases List.mem_cons.1 y with rfl | y
      · rfl
      have := q1 a x
      have := p1 b y
      omega
    subst e1
    rw [asc_ext p2 q2 fun v => ?_]
    constructor
    · intro hv
      have := p1 v hv
      rcases List.mem_cons.1 ((h v).1 (by simp [hv])) with rfl | hv
      · omega
      · exact hv
    · intro hv
      have := q1 v hv
      rcases List.mem_cons.1 ((h v).2 (by simp [hv])) with rfl | hv
      · omega
      · exact hv
theorem seeE_occ : ∀ (e : Ex) (n : Int), seeE n e = (occ e).foldl seeI n := by
  intro e
  induction e using Ex.ind with
  | h e ih =>
  obtain ⟨o, k, w, wd, l⟩ := e
  intro n
  have hl : ∀ l : List Ex, (∀ x ∈ l, ∀ n : Int, seeE n x = (occ x).foldl seeI n) → ∀ n : Int, seeE.seeEs n l = (occ.occs l).foldl seeI n := by
    intro l
    induction l with
    | nil => intro _ n; rfl
    | cons a l ihl => intro h n; simp only [seeE.seeEs, occ.occs, List.foldl_append, h a (by simp), ihl fun x hx => h x (by simp [hx])]
  simp only [seeE, occ, List.foldl_append, hl l ih]
  split <;> rfl
end Go.Proofs.YtccjeoghjioamaaGreatDoor

/- Contract: il.Vars. -/
namespace Go.Proofs.YtccjeoghjioamaaGreatDoor
open Go.RowKit
theorem compact_sorted {d : Array Int} (hs : ∀ (i j : Nat), i < j → j < d.size → d[i]! ≤ d[j]!) : ∀ m, m ≤ d.size → Asc (Lib.compactUpTo d m) ∧ (∀ v, v ∈ Lib.compactUpTo d m ↔ ∃ j, j < m ∧ d[j]! = v) ∧ (Lib.compactUpTo d m).length ≤ m
  | 0, _ => by simp [Lib.compactUpTo, Asc]
  | m + 1, hm => by
    obtain ⟨h1, h2, h3⟩ := compact_sorted hs m (by omega)
    rw [Lib.compactUpTo_succ]
    cases hk : Lib.keeps d m
    · have hm0 : m ≠ 0 := fun h => by subst h; simp [Lib.keeps] at hk
      have he : d[m]! = d[m - 1]! := by
        by_cases h : d[m]! = d[m - 1]!
        · exact h
        · rw [Lib.keeps_pos h] at hk
          cases hk
      rw [if_neg (by simp), List.append_nil]
      refine ⟨h1, fun v => ?_, by omega⟩
      rw [h2]
      constructor
      · rintro ⟨j, hj, e⟩
        exact ⟨j, by omega, e⟩
      · rintro ⟨j, hj, e⟩
        by_cases hjm : j < m
        · exact ⟨j, hjm, e⟩
        · obtain rfl : j = m := by omega
          exact ⟨j - 1, by omega, by rw [← he]; exact e⟩
    · rw [if_pos rfl]
      refine ⟨List.pairwise_append.2 ⟨h1, by simp, fun a ha b hb => ?_⟩, fun v => ?_, by simp; omega⟩
      · simp at hb
        subst hb
        obtain ⟨j, hj, rfl⟩ := (h2 a).1 ha
        have hle := hs (m - 1) m (by omega) (by omega)
        have hne : d[m]! ≠ d[m - 1]! := fun h => by
          rw [Lib.keeps_neg (by omega) h] at hk
          cases hk
        have hj2 : d[j]! ≤ d[m - 1]! := by
          rcases Nat.lt_or_ge j (m - 1) with h | h
          · exact hs j (m - 1) h (by omega)
          · obtain rfl : j = m - 1 := by omega
            exact Int.le_refl _
        omega
      · rw [List.mem_append, h2]
        constructor
        · rintro (⟨j, hj, e⟩ | h)
          · exact ⟨j, by omega, e⟩
          · simp at h
            exact ⟨m, by omega, h.symm⟩
        · rintro ⟨j, hj, e⟩
          by_cases hjm : j < m
          · exact .inl ⟨j, hjm, e⟩
          · obtain rfl : j = m := by omega
            exact .inr (by simp [e])
/-- Sorted and compacted: ascending, each once. -/
theorem vars_compact (x : Ex) : Lib.compact (srt (occ x)) = varsR x ∧ (varsR x).length ≤ (occ x).length := by
  have hp : (srt (occ x)).Pairwise fun a b => (decide (a ≤ b)) = true := List.pairwise_mergeSort (fun a b c h1 h2 => by simp at *; omega) (fun a b => by simp; omega) _
  have hmem : ∀ v, v ∈ srt (occ x) ↔ v ∈ occ x := fun v => by simp [srt]
  have hlen := srt_len (occ x)
  obtain ⟨S, hS⟩ : ∃ S, srt (occ x) = S := ⟨_, rfl⟩
  rw [hS] at hp hmem hlen ⊢
  have hs : ∀ (i j : Nat), i < j → j < S.toArray.size → S.toArray[i]! ≤ S.toArray[j]! := fun i j hij hj => by
    have hj' : j < S.length := by simpa using hj
    have := List.pairwise_iff_getElem.1 hp i j (by omega) hj' hij
    simpa [getElem!_pos, hj', show i < S.length by omega] using this
  obtain ⟨h1, h2, h3⟩ := compact_sorted hs S.length (by simp)
  have he : Lib.compact S = varsR x := by
    refine asc_ext h1 (varsR_asc x) fun v => ?_
    rw [varsR_mem, ← hmem]
    show v ∈ Lib.compactUpTo S.toArray S.length ↔ _
    rw [h2, List.mem_iff_getElem]
    constructor
    · rintro ⟨j, hj, e⟩
      exact ⟨j, hj, by simpa [getElem!_pos, hj] using e⟩
    · rintro ⟨j, hj, e⟩
      exact ⟨j, hj, by simpa [getElem!_pos, hj] using e⟩
  refine ⟨he, ?_⟩
  rw [← he, ← hlen]
  exact h3
theorem occ_len : ∀ e : Ex, (occ e).length ≤ e.nodes := by
  intro e
  induction e using Ex.ind with
  | h e ih =>
  have hl : ∀ l : List Ex, (∀ x ∈ l, (occ x).length ≤ x.nodes) → (occ.occs l).length ≤ Ex.nodess l := by
    intro l
    induction l with
    | nil => intro _; simp [occ.occs]
    | cons a l ihl =>
      intro h
      have h1 := h a (by simp)
      have h2 := ihl fun x hx => h x (by simp [hx])
      simp only [occ.occs, Ex.nodess, List.length_append]
      omega
  have := hl e.l ih
  have hne : e.nodes = Ex.nodess e.l + 1 := by cases e; rfl
  have h1 : (if e.op = 2 then [e.v] else []).length ≤ 1 := by split <;> simp
  rw [occ_eq, hne, List.length_append]
  omega
theorem occs_take {l : List Ex} {i : Nat} {x : Ex} (h : l[i]? = some x) : occ.occs (l.take (i + 1)) = occ.occs (l.take i) ++ occ x := by
  induction l generalizing i with
  | nil => simp at h
  | cons a l ih =>
    cases i with
    | zero => simp at h; subst h; simp [occ.occs]
    | succ i => simp only [List.take_succ_cons, occ.occs, ih (by simpa using h), List.append_assoc]
/-- The captured slice's cell; its block. -/
abbrev cellL (n : Nat) : Blk := ⟨0, true, 55, 1, [[.own 2 n 0 n]]⟩
abbrev blkL (L : List Int) : Blk := ⟨L.length, true, 3, 1, dEls (i64s L)⟩
theorem vars1_ac (x : Ex) (b0 : Blk) (L : List Int) (N : AHeap) (hl : L.length ≤ 1000000) :
    AC Tryz.prog 58 [exA x, .ptr 1 0 0 0] (b0 :: cellL L.length :: blkL L :: N) (fun r A' => r = .tup [] ∧ ∃ N', A' = b0 :: cellL (L ++ (if x.op = 2 then [x.v] else [])).length :: blkL (L ++ (if x.op = 2 then [x.v] else [])) :: (N ++ N')) := by
  refine ac_of Tryz.func58 rfl (by kernel_rfl) (by simp [Tryz.ntmps58]) fun hb => ?_
  by_cases h : x.op = 2
  · rw [if_pos h]
    simp [Tryz.f58, h]
    refine aRaw_app byt_55 ?_
    simp [dEls_i64]
    unfold maxLen
    omega
  · rw [if_neg h]
    simp [Tryz.f58, h]
theorem visitV_ac : ∀ (x : Ex) (b0 : Blk) (L : List Int) (N : AHeap), L.length + x.nodes ≤ 1000000 →
    AC Tryz.prog 57 [exA x, .fn 58 [] [.ptr 1 0 0 0]] (b0 :: cellL L.length :: blkL L :: N) (fun r A' => r = .tup [] ∧ ∃ N', A' = b0 :: cellL (L ++ occ x).length :: blkL (L ++ occ x) :: (N ++ N')) := by
  intro x
  induction x using Ex.ind with
  | h x ih =>
    intro b0 L N hn
    have hlen := x.nodes_len
    have n1 : x.l.length ≤ maxLen := by unfold maxLen; omega
    have hne : x.nodes = Ex.nodess x.l + 1 := by cases x; rfl
    rw [occ_eq, ← List.append_assoc]
    have c2 := fun N => vars1_ac x b0 L N (by omega)
    have hm : (L ++ (if x.op = 2 then [x.v] else [])).length ≤ L.length + 1 := by split <;> simp
    generalize L ++ (if x.op = 2 then [x.v] else []) = M at *
    refine ac_of Tryz.func57 rfl (by kernel_rfl) (by simp [Tryz.ntmps57]) fun hb => ?_
    simp [Tryz.f57]
    refine aCall_ofc (c2 _) (by simp) ?_
    rintro _ _ ⟨rfl, N1, rfl⟩
    simp
    refine aLoop_of (α := Nat) (fun i e A => i ≤ x.l.length ∧ (∃ N', A = b0 :: cellL (M ++ occ.occs (x.l.take i)).length :: blkL (M ++ occ.occs (x.l.take i)) :: (N ++ N')) ∧
      e 12 = aI .i64 i ∧ e 11 = aI .i64 x.l.length ∧ e 10 = .d (.sl 5 (Ex.ds x.l)) ∧ e 1 = .fn 58 [] [.ptr 1 0 0 0]) (fun i => x.l.length - i) 0 (Sub.refl _ _ _)
      ⟨by omega, ⟨_, by simp [occ.occs]; rfl⟩, by simp, by simp, by simp, by simp⟩ ?_
    rintro i e A ⟨hi, ⟨N', rfl⟩, e12, e11, e10, e1⟩ K hK
    rcases Nat.lt_or_ge i x.l.length with hlt | hge
    case inr =>
      obtain rfl : i = x.l.length := by omega
      rw [List.take_length]
      simp [e12, e11]
    obtain ⟨y, hy⟩ : ∃ y, x.l[i]? = some y := ⟨_, List.getElem?_eq_getElem hlt⟩
    have hy2 := (List.getElem?_eq_some_iff.1 hy).2
    have ht := occs_take hy
    have hle := nodess_take_le x.l (i + 1)
    have hte := nodess_take hy
    have hol : (occ.occs (x.l.take i)).length ≤ Ex.nodess (x.l.take i) := by
      have : ∀ l : List Ex, (occ.occs l).length ≤ Ex.nodess l := by
        intro l
        induction l with
        | nil => simp [occ.occs]
        | cons a l ihl =>
          have h1 := occ_len a
          simp only [occ.occs, Ex.nodess, List.length_append]
          omega
      exact this _
    have hQ : (M ++ occ.occs (x.l.take i)).length + y.nodes ≤ 1000000 := by
      rw [List.length_append]
      omega
    have hq3 : M ++ (occ.occs (x.l.take i) ++ occ y) = M ++ occ.occs (x.l.take i) ++ occ y := (List.append_assoc ..).symm
    generalize hq : M ++ occ.occs (x.l.take i) = Q at *
    simp [e12, e11, e10, e1, hlt, hy, hy2, Ex.d_eq]
    refine aCall_ofc (ih y (List.mem_of_getElem? hy) b0 Q _ hQ) (by simp) ?_
    rintro _ _ ⟨rfl, N2, rfl⟩
    simp [e12, succ_wrap hlt n1]
    refine hK (i + 1) _ _ _ _ (Sub.refl _ _ _) ⟨by omega, ⟨N' ++ bxE y :: N2, by rw [ht, hq3]; simp⟩, by simp, by simp [e11], by simp [e10], by simp [e1]⟩ (by omega)
theorem ilvars_af (x : Ex) (hn : x.nodes ≤ 1000000) : AF Tryz.prog 21 [exA x] (.d (.sl 1 (i64s (varsR x)))) := by
  obtain ⟨c1, c2⟩ := vars_compact x
  have c3 := occ_len x
  have c4 := srt_len (occ x)
  refine af_of Tryz.func21 rfl (by kernel_rfl) (by simp [Tryz.ntmps21]) fun _ => ?_; simp [Tryz.f21, Ex.d_eq]
  have hv := visitV_ac x (bxE x) [] [] (by simpa using hn)
  refine aCall_ofc (AC.pre (Sub.trans (Sub.ghost 0 3 1) (Sub.cell (b := 1) (i := 0) (o := 0) (c' := .own 2 0 0 0) rfl rfl rfl (VLe.nil_own (k := ⟨0, true, 3, 1, []⟩) rfl rfl))) (args' := [exA x, .fn 58 [] [.ptr 1 0 0 0]]) ?_ hv) (by simp) ?_
  · rfl
  · rintro _ _ ⟨rfl, N', rfl⟩
    simp
    refine aCall_ofc (sort_ac (occ x) _ 2 (occ x).length 3 rfl (by omega)) (by simp) ?_
    rintro _ _ ⟨rfl, rfl⟩
    have k2 := fun A hA => compact_ac (srt (occ x)) (varsR x) A 2 (occ x).length 3 hA (by omega) c1 (by omega)
    rw [c4] at k2
    simp
    refine aCall_ofc (k2 _ rfl) (by simp) ?_
    rintro _ _ ⟨rfl, rfl⟩
    simp
end Go.Proofs.YtccjeoghjioamaaGreatDoor

/- Contracts of the library: strings.Fields, strings.Contains. -/
namespace Go.Proofs.YtccjeoghjioamaaGreatDoor
open Go.RowKit
theorem gb_space : ((0, Lib.asciiSpaceTab.map fun z => Value.int .u8 z) : Nat × List Value) ∈ GB := by simp [GB]
theorem fields_af (s : ByteArray) (hs : s.size < 4294967281) (hascii : ∀ (j : Nat) b, s.data.toList[j]? = some b → b.toNat < 128) (hl : (Lib.fields s.data.toList).length ≤ 1000) :
    AF Tryz.prog 104 [aS s] (.d (.sl 1 (strs ((Lib.fields s.data.toList).map fun l => ⟨l.toArray⟩)))) := by
  intro H w vs hH hs' _
  simp only [ShpL] at hs'
  obtain ⟨u1, l1, rfl, s1, rfl⟩ := hs'
  simp only [Shp] at s1
  subst s1
  have hT : ∀ c : Nat, c < 256 → w.cell? ⟨0, c, none⟩ = some (.int .u8 (if Lib.isSp (UInt8.ofNat c) then 1 else 0)) := fun c hc =>
    (hH.2.1.1 _ gb_space).2.1 c _ (by simp [Lib.asciiSpaceTab, hc])
  refine (Any.strings_Fields_core Sh_lays157 (by kernel_rfl) s w hs hascii hT).mono ?_
  rintro en w' ⟨rfl, rfl⟩
  obtain ⟨F, hF⟩ : ∃ F, Lib.fields s.data.toList = F := ⟨_, rfl⟩
  rw [hF] at hl ⊢
  have hlen : (strs (F.map fun l => (⟨l.toArray⟩ : ByteArray))).length = F.length := by simp [strs]
  refine ⟨_, rfl, ⟨?_, ?_⟩, (Ext.refl w).alloc _⟩
  · simp only [Shp, hlen]
    exact ⟨_, _, rfl, Nat.le_refl _, .inr ⟨_, _, rfl⟩⟩
  · simp only [Mem, Rd, hlen]
    refine ⟨_, _, rfl, Nat.le_refl _, by unfold maxLen; omega, .inr ⟨_, _, rfl, ⟨by rw [size_push]; omega, fun h => by have := hH.1 _ h; omega⟩, RdS.of fun i x hi => ?_⟩⟩
    simp only [strs, List.map_map, List.getElem?_map, Option.map_eq_some_iff, Function.comp] at hi
    obtain ⟨l, hl', rfl⟩ := hi
    refine ⟨rfl, ?_⟩
    simp only [RdE, Rd, and_true, Nat.zero_add, Nat.mul_one]
    exact ⟨_, by rw [cell_in (heap_push w _)]; simp [hl'], rfl, rfl⟩
/-- strings.Contains; internal/bytealg.MaxLen holds some number. -/
theorem gb_maxlen : 3 ∈ GBI := by simp [GBI]
theorem scontains_af (s sub : ByteArray) (hs : s.size < 4294967281) : AF Tryz.prog 153 [aS s, aS sub] (aB (Lib.contains s.data.toList sub.data.toList)) := by
  intro H w vs hH hs' _
  simp only [ShpL] at hs'
  obtain ⟨u1, l1, rfl, s1, u2, l2, rfl, s2, rfl⟩ := hs'
  simp only [Shp] at s1 s2
  subst s1 s2
  obtain ⟨m, hm⟩ := (hH.2.1.2 _ gb_maxlen).2
  refine (Sh_strings_Contains s sub m w hs hm).mono ?_
  rintro en w' ⟨rfl, rfl⟩
  exact ⟨_, rfl, ⟨by simp [Shp], by simp [Mem, Rd, Value.oneCell']⟩, Ext.refl _⟩
end Go.Proofs.YtccjeoghjioamaaGreatDoor

/- Contract: math/bits.TrailingZeros64(16), off the table that the row lists; the calls that the example of layer 19 takes by contract. -/
namespace Go.Proofs.YtccjeoghjioamaaGreatDoor
open Go.RowKit
end Go.Proofs.YtccjeoghjioamaaGreatDoor

/- Contract: il.Fresh. -/
namespace Go.Proofs.YtccjeoghjioamaaGreatDoor
open Go.RowKit
def seeS (n : Int) (s : St) : Int := seeE.seeEs (if s.op = 1 ∨ s.op = 3 then seeI n s.va else n) s.e
def seeB (n : Int) (b : Bl) : Int := b.s.foldl seeS n
def seeG (g : Gr) : Int := g.b.foldl seeB 12
theorem seeS_range (s : St) (n : Int) (h0 : 0 ≤ n) (h1 : n ≤ 65536) : 0 ≤ seeS n s ∧ seeS n s ≤ 65536 := by
  unfold seeS
  have := seeI_range (v := s.va) h0 h1
  split
  · exact seeEs_range _ _ this.1 this.2
  · exact seeEs_range _ _ h0 h1
theorem foldl_range {α : Type} {f : Int → α → Int} (hf : ∀ (a : α) (n : Int), 0 ≤ n → n ≤ 65536 → 0 ≤ f n a ∧ f n a ≤ 65536) : ∀ (l : List α) (n : Int), 0 ≤ n → n ≤ 65536 → 0 ≤ l.foldl f n ∧ l.foldl f n ≤ 65536
  | [], n, h0, h1 => ⟨h0, h1⟩
  | a :: l, n, h0, h1 => by
    have := hf a n h0 h1
    exact foldl_range hf l _ this.1 this.2
theorem foldl_take {α : Type} {f : Int → α → Int} {l : List α} {i : Nat} {x : α} (h : l[i]? = some x) (n : Int) : (l.take (i + 1)).foldl f n = f ((l.take i).foldl f n) x := by
  rw [List.take_add_one, h]
  simp
theorem ilfresh_af (g : Gr) (hg : GrFit g) (hn : ∀ b ∈ g.b, ∀ s ∈ b.s, ∀ e ∈ s.e, e.nodes ≤ 1000000000) : AF Tryz.prog 27 [grV g] (aI .i64 (seeG g)) := by
  have hg1 := hg.1
  have hl : g.b.length ≤ maxLen := by unfold maxLen; omega
  refine af_of Tryz.func27 rfl (by kernel_rfl) (by simp [Tryz.ntmps27]) fun _ => ?_; simp [Tryz.f27, Ex.d_eq]
  refine aLoop_st (fun i : Nat => [(3, .ptr 1 0 0 0), (4, .ptr 2 0 0 0), (13, .d (.sl 2 (bls' g.b))), (14, aI .i64 g.b.length), (15, aI .i64 i)])
    (fun i => [gB g, cellI ((g.b.take i).foldl seeB 12), cellF])
    (fun i => i ≤ g.b.length) (fun i => g.b.length - i) 0 (Sub.refl _ _ _) 3 (by omega) (by simp) (by simp) (by omega) ?_
  rintro i hi K hK
  rcases Nat.lt_or_ge i g.b.length with hlt | hge
  case inr =>
    obtain rfl : i = g.b.length := by omega
    rw [List.take_length]
    simp [seeG]
  obtain ⟨b, hb⟩ : ∃ b, g.b[i]? = some b := ⟨_, List.getElem?_eq_getElem hlt⟩
  have hb2 := (List.getElem?_eq_some_iff.1 hb).2
  obtain ⟨f1, f2⟩ := hg.2 b (List.mem_of_getElem? hb)
  have hbl : b.s.length ≤ maxLen := by unfold maxLen; omega
  have htb := foldl_take (f := seeB) hb 12
  have hrb := foldl_range (f := seeB) (fun b n h0 h1 => foldl_range seeS_range b.s n h0 h1) (g.b.take i) 12 (by omega) (by omega)
  generalize (g.b.take i).foldl seeB 12 = m1 at *
  simp [hlt, hb, hb2, Bl.d_eq]
  refine aLoop_st (fun k : Nat => [(3, .ptr 1 0 0 0), (4, .ptr 2 0 0 0), (13, .d (.sl 2 (bls' g.b))), (14, aI .i64 g.b.length), (15, aI .i64 i), (20, .d (.sl 8 (sts b.s))), (21, aI .i64 b.s.length), (22, aI .i64 k)])
    (fun k => [gB g, cellI ((b.s.take k).foldl seeS m1), cellF])
    (fun k => k ≤ b.s.length) (fun k => b.s.length - k) 0 (Sub.refl _ _ _) 3 (by omega) (by simp) (by simp) (by omega) ?_
  rintro k hk K2 hK2
  rcases Nat.lt_or_ge k b.s.length with hlt2 | hge2
  case inr =>
    obtain rfl : k = b.s.length := by omega
    rw [List.take_length]
    simp [succ_wrap hlt hl]
    refine hK (i + 1) (by omega) (by omega) (Sub.refl _ _ _) 3 (by omega) ?_ (by simp)
    rw [htb]
    simp [seeB]
  obtain ⟨s, hs⟩ : ∃ s, b.s[k]? = some s := ⟨_, List.getElem?_eq_getElem hlt2⟩
  have hs2 := (List.getElem?_eq_some_iff.1 hs).2
  have f3 := f2 s (List.mem_of_getElem? hs)
  have hel : s.e.length ≤ maxLen := by unfold maxLen; omega
  have hts := foldl_take (f := seeS) hs m1
  have hrs := foldl_range seeS_range (b.s.take k) m1 hrb.1 hrb.2
  generalize (b.s.take k).foldl seeS m1 = m2 at *
  have hne : seeS m2 s = seeE.seeEs (if s.op = 1 ∨ s.op = 3 then seeI m2 s.va else m2) s.e := rfl
  have hr : 0 ≤ (if s.op = 1 ∨ s.op = 3 then seeI m2 s.va else m2) ∧ (if s.op = 1 ∨ s.op = 3 then seeI m2 s.va else m2) ≤ 65536 := by
    split
    · exact seeI_range hrs.1 hrs.2
    · omega
  have c1 := fun N => fresh1_ac (gB g) cellF s.va m2 N hrs.1 hrs.2
  have hw : s.op = 1 ∨ s.op ≠ 1 ∧ s.op = 3 ∨ s.op ≠ 1 ∧ s.op ≠ 3 := by omega
  have hm3 : (s.op = 1 ∨ s.op = 3 → (if s.op = 1 ∨ s.op = 3 then seeI m2 s.va else m2) = seeI m2 s.va) ∧ (¬ (s.op = 1 ∨ s.op = 3) → (if s.op = 1 ∨ s.op = 3 then seeI m2 s.va else m2) = m2) := ⟨fun h => if_pos h, fun h => if_neg h⟩
  generalize (if s.op = 1 ∨ s.op = 3 then seeI m2 s.va else m2) = m3 at *
  rcases hw with w1 | ⟨w1, w3⟩ | ⟨w1, w3⟩
  · simp [hlt2, hs, hs2, St.d_eq, w1]
    refine aCall_ofc (c1 _) (by simp) ?_
    rintro _ _ ⟨rfl, N1, rfl⟩
    simp
    have hv := hm3.1 (.inl w1)
    refine aLoop_st (fun q : Nat => [(3, .ptr 1 0 0 0), (4, .ptr 2 0 0 0), (13, .d (.sl 2 (bls' g.b))), (14, aI .i64 g.b.length), (15, aI .i64 i), (20, .d (.sl 8 (sts b.s))), (21, aI .i64 b.s.length), (22, aI .i64 k), (39, .d (.sl 5 (Ex.ds s.e))), (40, aI .i64 s.e.length), (41, aI .i64 q)])
      (fun q => [gB g, cellI (seeE.seeEs m3 (s.e.take q)), cellF])
      (fun q => q ≤ s.e.length) (fun q => s.e.length - q) 0 (Sub.refl _ _ _) 3 (by omega) (by simp [seeE.seeEs]; try rw [hv]) (by simp) (by omega) ?_
    rintro q hq K3 hK3
    rcases Nat.lt_or_ge q s.e.length with hlt3 | hge3
    case inr =>
      obtain rfl : q = s.e.length := by omega
      rw [List.take_length]
      simp [succ_wrap hlt2 hbl]
      refine hK2 (k + 1) (by omega) (by omega) (Sub.refl _ _ _) 3 (by omega) ?_ (by simp)
      rw [hts, hne]
      simp
    obtain ⟨y, hy⟩ : ∃ y, s.e[q]? = some y := ⟨_, List.getElem?_eq_getElem hlt3⟩
    have hy2 := (List.getElem?_eq_some_iff.1 hy).2
    have hte := seeEs_take hy m3
    have hre := seeEs_range (s.e.take q) m3 hr.1 hr.2
    generalize seeE.seeEs m3 (s.e.take q) = m4 at *
    simp [hlt3, hy, hy2, Ex.d_eq]
    refine aCall_ofc (visitF_ac y (gB g) m4 _ hre.1 hre.2 (hn b (List.mem_of_getElem? hb) s (List.mem_of_getElem? hs) y (List.mem_of_getElem? hy))) (by simp) ?_
    rintro _ _ ⟨rfl, N2, rfl⟩
    simp [succ_wrap hlt3 hel]
    refine hK3 (q + 1) (by omega) (by omega) (Sub.refl _ _ _) 3 (by omega) ?_ (by simp)
    rw [hte]
    simp
  · simp [hlt2, hs, hs2, St.d_eq, w1, w3]
    refine aCall_ofc (c1 _) (by simp) ?_
    rintro _ _ ⟨rfl, N1, rfl⟩
    simp
    have hv := hm3.1 (.inr w3)
    refine aLoop_st (fun q : Nat => [(3, .ptr 1 0 0 0), (4, .ptr 2 0 0 0), (13, .d (.sl 2 (bls' g.b))), (14, aI .i64 g.b.length), (15, aI .i64 i), (20, .d (.sl 8 (sts b.s))), (21, aI .i64 b.s.length), (22, aI .i64 k), (39, .d (.sl 5 (Ex.ds s.e))), (40, aI .i64 s.e.length), (41, aI .i64 q)])
      (fun q => [gB g, cellI (seeE.seeEs m3 (s.e.take q)), cellF])
      (fun q => q ≤ s.e.length) (fun q => s.e.length - q) 0 (Sub.refl _ _ _) 3 (by omega) (by simp [seeE.seeEs]; try rw [hv]) (by simp) (by omega) ?_
    rintro q hq K3 hK3
    rcases Nat.lt_or_ge q s.e.length with hlt3 | hge3
    case inr =>
      obtain rfl : q = s.e.length := by omega
      rw [List.take_length]
      simp [succ_wrap hlt2 hbl]
      refine hK2 (k + 1) (by omega) (by omega) (Sub.refl _ _ _) 3 (by omega) ?_ (by simp)
      rw [hts, hne]
      simp
    obtain ⟨y, hy⟩ : ∃ y, s.e[q]? = some y := ⟨_, List.getElem?_eq_getElem hlt3⟩
    have hy2 := (List.getElem?_eq_some_iff.1 hy).2
    have hte := seeEs_take hy m3
    have hre := seeEs_range (s.e.take q) m3 hr.1 hr.2
    generalize seeE.seeEs m3 (s.e.take q) = m4 at *
    simp [hlt3, hy, hy2, Ex.d_eq]
    refine aCall_ofc (visitF_ac y (gB g) m4 _ hre.1 hre.2 (hn b (List.mem_of_getElem? hb) s (List.mem_of_getElem? hs) y (List.mem_of_getElem? hy))) (by simp) ?_
    rintro _ _ ⟨rfl, N2, rfl⟩
    simp [succ_wrap hlt3 hel]
    refine hK3 (q + 1) (by omega) (by omega) (Sub.refl _ _ _) 3 (by omega) ?_ (by simp)
    rw [hte]
    simp
  · simp [hlt2, hs, hs2, St.d_eq, w1, w3]
    have hv := hm3.2 (by omega)
    refine aLoop_st (fun q : Nat => [(3, .ptr 1 0 0 0), (4, .ptr 2 0 0 0), (13, .d (.sl 2 (bls' g.b))), (14, aI .i64 g.b.length), (15, aI .i64 i), (20, .d (.sl 8 (sts b.s))), (21, aI .i64 b.s.length), (22, aI .i64 k), (39, .d (.sl 5 (Ex.ds s.e))), (40, aI .i64 s.e.length), (41, aI .i64 q)])
      (fun q => [gB g, cellI (seeE.seeEs m3 (s.e.take q)), cellF])
      (fun q => q ≤ s.e.length) (fun q => s.e.length - q) 0 (Sub.refl _ _ _) 3 (by omega) (by simp [seeE.seeEs]; try rw [hv]) (by simp) (by omega) ?_
    rintro q hq K3 hK3
    rcases Nat.lt_or_ge q s.e.length with hlt3 | hge3
    case inr =>
      obtain rfl : q = s.e.length := by omega
      rw [List.take_length]
      simp [succ_wrap hlt2 hbl]
      refine hK2 (k + 1) (by omega) (by omega) (Sub.refl _ _ _) 3 (by omega) ?_ (by simp)
      rw [hts, hne]
      simp
    obtain ⟨y, hy⟩ : ∃ y, s.e[q]? = some y := ⟨_, List.getElem?_eq_getElem hlt3⟩
    have hy2 := (List.getElem?_eq_some_iff.1 hy).2
    have hte := seeEs_take hy m3
    have hre := seeEs_range (s.e.take q) m3 hr.1 hr.2
    generalize seeE.seeEs m3 (s.e.take q) = m4 at *
    simp [hlt3, hy, hy2, Ex.d_eq]
    refine aCall_ofc (visitF_ac y (gB g) m4 _ hre.1 hre.2 (hn b (List.mem_of_getElem? hb) s (List.mem_of_getElem? hs) y (List.mem_of_getElem? hy))) (by simp) ?_
    rintro _ _ ⟨rfl, N2, rfl⟩
    simp [succ_wrap hlt3 hel]
    refine hK3 (q + 1) (by omega) (by omega) (Sub.refl _ _ _) 3 (by omega) ?_ (by simp)
    rw [hte]
    simp
end Go.Proofs.YtccjeoghjioamaaGreatDoor
