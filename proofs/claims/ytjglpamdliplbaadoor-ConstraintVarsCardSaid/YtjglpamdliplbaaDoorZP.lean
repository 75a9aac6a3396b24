/- Texts that the claim leans on, laid one behind the other: Mn, Ms, Mj, Ml, Mo, Mt, Un, Ma, Mc, Mb. -/
import Derived.Test.YtjglpamdliplbaaDoorZM
import Derived.Test.YtjglpamdliplbaaDoorAp
import Derived.Test.YtjglpamdliplbaaDoorSh
import Derived.Test.YtjglpamdliplbaaDoorBa
import Derived.Test.YtjglpamdliplbaaDoorZG
import Derived.Test.YtjglpamdliplbaaDoorAt
import Derived.Test.YtjglpamdliplbaaDoorZD
import Derived.Test.YtjglpamdliplbaaDoorAn
import Derived.WalkMore
import Derived.BigFrame
import Derived.Test.YtjglpamdliplbaaDoorZB
import Derived.Test.YtjglpamdliplbaaDoorAs
import Derived.Test.YtjglpamdliplbaaDoorAu
set_option linter.unusedSimpArgs false
set_option linter.unusedVariables false
set_option linter.unnecessarySimpa false
/- Contract: the reference's Insert. -/
namespace Go.Proofs.YtjglpamdliplbaaDoor
open Go.RowKit
/-- An expression's box. -/
abbrev bxE (e : Ex) : Blk := ⟨0, true, 39, 5, [[aI .i64 e.op, aI .u32 e.n, aI .i64 e.v, aI .i64 e.wd, .d (.sl 5 (Ex.ds e.l))]]⟩
/-- How many numbers stand ahead of n. -/
def lowN (n : Int) : List Int → Nat
  | [] => 0
  | a :: l => if a < n then lowN n l + 1 else 0
/-- A number put into an ascending list. -/
def insL (l : List Int) (n : Int) : List Int := if l[lowN n l]? = some n then l else l.take (lowN n l) ++ n :: l.drop (lowN n l)
theorem lowN_spec (n : Int) : ∀ l : List Int, lowN n l ≤ l.length ∧ (∀ (i : Nat) (a : Int), i < lowN n l → l[i]? = some a → a < n) ∧ ∀ a, l[lowN n l]? = some a → n ≤ a
  | [] => by simp [lowN]
  | b :: l => by
    obtain ⟨h1, h2, h3⟩ := lowN_spec n l
    by_cases h : b < n
    · simp only [lowN, if_pos h]
      refine ⟨by simp; omega, fun i a hi ha => ?_, fun a ha => h3 a (by simpa using ha)⟩
      cases i with
      | zero => simp at ha; omega
      | succ i => exact h2 i a (by omega) (by simpa using ha)
    · simp only [lowN, if_neg h]
      refine ⟨by omega, fun i a hi => by omega, fun a ha => by simp at ha; omega⟩
theorem dEls_i64 (l : List Int) : (∀ x, x ∈ dEls (i64s l) → x.length = 1) ↔ True := by
  refine iff_true_intro fun x hx => ?_
  simp only [dEls, i64s, List.map_map, List.mem_map] at hx
  obtain ⟨n, _, rfl⟩ := hx
  rfl
end Go.Proofs.YtjglpamdliplbaaDoor

/- Contracts: slices.Sort and slices.Compact at numbers, on a slice of one's own. -/
namespace Go.Proofs.YtjglpamdliplbaaDoor
open Go.RowKit
section
variable {H : Nat → Prop} {ι : Place} {A : AHeap} {w w' : World}
/-- Numbers written over a block of one's own. -/
theorem ints_put {b : Nat} {k : Blk} {c n : Nat} {L : List Int} {arr arr' : Array Value} (hR : Rel H ι A w) (hAb : A[b]? = some k) (hwr : k.wr = true) (hι : ι b = some (c, n)) (hsz : k.sz = 1) (hel : L.length = k.els.length)
    (a1 : w.heap[c]? = some (.cells arr k.ty (0, 0))) (a2 : arr.size = n) (a3 : k.els.length * k.sz ≤ n) (s2 : w'.heap[c]? = some (.cells arr' k.ty (0, 0))) (s3 : arr'.size = arr.size) (s4 : ∀ (i : Nat) (v : Int), L[i]? = some v → arr'[i]? = some (.int .i64 v))
    (s5 : w.heap.size ≤ w'.heap.size) (s6 : ∀ b, b < w.heap.size → b ≠ c → SameB w w' b) (s7 : w'.os = w.os) (s8 : w'.tape = w.tape) (s9 : w'.output = w.output) :
    Rel H ι (A.set b (setEls k (dEls (i64s L)))) w' ∧ Step ι A w ι (A.set b (setEls k (dEls (i64s L)))) w' := by
  have hlt := (List.getElem?_eq_some_iff.1 hAb).1
  have hst : Step ι A w ι (A.set b (setEls k (dEls (i64s L)))) w' := by
    refine ⟨fun b' k' hb' => ?_, fun c' hc' => .inl ((Mu_set (k' := setEls k (dEls (i64s L))) hAb rfl c').1 hc'), fun c' hc' hn => s6 c' hc' fun he => hn (he ▸ ⟨b, k, n, hAb, hwr, hι⟩), s5, s7, s8, s9⟩
    by_cases he : b = b'
    · subst he
      rw [hAb] at hb'
      obtain rfl := Option.some.inj hb'
      exact ⟨_, List.getElem?_set_self hlt, Nat.le_refl _, fun _ => ⟨rfl, rfl⟩⟩
    · exact ⟨k', by rw [List.getElem?_set_ne he]; exact hb', Nat.le_refl _, fun _ => ⟨rfl, rfl⟩⟩
  have hN : Nn H ι (A.set b (setEls k (dEls (i64s L)))) = Nn H ι A := Nn_set (k' := setEls k (dEls (i64s L))) hAb rfl
  have hget : ∀ (b' : Nat) (k' : Blk), (A.set b (setEls k (dEls (i64s L))))[b']? = some k' → (b' = b ∧ k' = setEls k (dEls (i64s L))) ∨ (b' ≠ b ∧ A[b']? = some k') := by
    intro b' k' hb'
    by_cases he : b = b'
    · subst he
      rw [List.getElem?_set_self hlt] at hb'
      exact .inl ⟨rfl, (Option.some.inj hb').symm⟩
    · rw [List.getElem?_set_ne he] at hb'
      exact .inr ⟨fun h => he h.symm, hb'⟩
  have hblk : ∀ (b' : Nat) (k' : Blk), (A.set b (setEls k (dEls (i64s L))))[b']? = some k' → ∃ k2 : Blk, A[b']? = some k2 := by
    intro b' k' hb'
    rcases hget b' k' hb' with ⟨rfl, _⟩ | ⟨_, h2⟩
    · exact ⟨k, hAb⟩
    · exact ⟨k', h2⟩
  refine ⟨⟨fun b' k' hb' => ?_, fun b' k' c' n' hb' hc' => ?_, fun b1 b2 k1 k2 c1 n1 n2 h1 h2 e1 e2 => ?_⟩, hst⟩
  · rcases hget b' k' hb' with ⟨rfl, rfl⟩ | ⟨hne, hb2⟩
    · unfold BlkRel
      rw [hι]
      refine ⟨arr', s2, s3.trans a2, ?_, fun i x hi => ?_⟩
      · simp only [setEls, dEls_len, i64s_len, hsz] at a3 ⊢
        omega
      · simp only [setEls] at hi ⊢
        rw [hsz]
        simp only [dEls, i64s, List.map_map, List.getElem?_map, Option.map_eq_some_iff] at hi
        obtain ⟨v, hv, rfl⟩ := hi
        refine ⟨rfl, fun j av hj => ?_⟩
        cases j with
        | succ j => simp at hj
        | zero =>
          simp at hj
          subst hj
          refine ⟨.int .i64 v, by simpa using s4 i v hv, ⟨by simp [Shp], by simp [Mem, Rd, Value.oneCell']⟩, rfl⟩
    · have hb := hR.blk b' k' hb2
      refine hb.step rfl (fun c' n' hc' => ?_) fun c u hv => Val.step hst hv
      have hcc : c' ≠ c := fun h => hne (hR.inj b' b k' k c n' n hb2 hAb (h ▸ hc') hι)
      exact s6 c' (hR.hid b' k' c' n' hb2 hc').2 hcc
  · obtain ⟨k2, h2⟩ := hblk b' k' hb'
    have := hR.hid b' k2 c' n' h2 hc'
    exact ⟨this.1, Nat.lt_of_lt_of_le this.2 s5⟩
  · obtain ⟨k3, h3⟩ := hblk b1 k1 h1
    obtain ⟨k4, h4⟩ := hblk b2 k2 h2
    exact hR.inj b1 b2 k3 k4 c1 n1 n2 h3 h4 e1 e2
/-- What stands in a block of numbers. -/
theorem ints_in {b ver ty c n : Nat} {L : List Int} (hR : Rel H ι A w) (hAb : A[b]? = some ⟨ver, true, ty, 1, dEls (i64s L)⟩) (hι : ι b = some (c, n)) :
    ∃ arr, w.heap[c]? = some (.cells arr ty (0, 0)) ∧ arr.size = n ∧ L.length ≤ n ∧ c < w.heap.size ∧ ∀ (i : Nat) (v : Int), L[i]? = some v → arr[i]? = some (.int .i64 v) := by
  have hb := hR.blk b _ hAb
  unfold BlkRel at hb
  rw [hι] at hb
  obtain ⟨arr, a1, a2, a3, a4⟩ := hb
  refine ⟨arr, a1, a2, by simpa using a3, (hR.hid b _ c n hAb hι).2, fun i v hv => ?_⟩
  obtain ⟨_, h⟩ := a4 i [.d (.v (.int .i64 v))] (by simp [dEls, i64s, hv])
  obtain ⟨u, g1, g2, _⟩ := h 0 _ rfl
  have := g2.1
  simp only [Shp] at this
  subst this
  simpa using g1
theorem holds_in {c ty : Nat} {arr : Array Value} {L : List Int} (a1 : w.heap[c]? = some (.cells arr ty (0, 0))) (h : ∀ (i : Nat) (v : Int), L[i]? = some v → arr[i]? = some (.int .i64 v)) : Go.Sort.Holds (Value.int .i64) w c 0 L.toArray := by
  intro j hj
  have hj' : j < L.length := by simpa using hj
  refine ⟨?_, frozen_in a1 _⟩
  rw [cell_in a1, Nat.zero_add, h j _ (List.getElem?_eq_getElem hj')]
  congr 2
  simp [getElem!_pos, hj']
theorem put_at {c ty : Nat} {arr : Array Value} {L : List Int} {q : Nat} {os : Array Obj} (hc : c < w.heap.size) (a1 : w.heap[c]? = some (.cells arr ty (0, 0))) (hl : L.length ≤ arr.size) :
    ∃ arr', (Go.Sort.grow (Go.Sort.putRow (Value.int .i64) (Go.Sort.ahead w q) c 0 L.toArray) os).heap[c]? = some (.cells arr' ty (0, 0)) ∧ arr'.size = arr.size ∧ (∀ (i : Nat) (v : Int), L[i]? = some v → arr'[i]? = some (.int .i64 v)) ∧
      w.heap.size ≤ (Go.Sort.grow (Go.Sort.putRow (Value.int .i64) (Go.Sort.ahead w q) c 0 L.toArray) os).heap.size ∧ (∀ b, b < w.heap.size → b ≠ c → SameB w (Go.Sort.grow (Go.Sort.putRow (Value.int .i64) (Go.Sort.ahead w q) c 0 L.toArray) os) b) := by
  refine ⟨Go.Sort.putCells (Value.int .i64) 0 L.toArray arr, ?_, by simp [Go.Sort.putCells], fun i v hv => ?_, ?_, fun b hb hne => ?_⟩
  · rw [Go.Sort.heap_grow_old _ _ (by simpa [Go.Sort.putRow, Go.Sort.mapBlock, Go.Sort.ahead] using hc)]
    simp only [Go.Sort.putRow, Go.Sort.mapBlock, Go.Sort.ahead, Array.getElem?_modify, if_true, a1]
    rfl
  · have hi := (List.getElem?_eq_some_iff.1 hv).1
    simp only [Go.Sort.putCells, Array.getElem?_mapIdx, Array.getElem?_eq_getElem (show i < arr.size by omega), Option.map_some]
    rw [if_pos ⟨Nat.zero_le _, by simpa using hi⟩]
    simp [getElem!_pos, hi, (List.getElem?_eq_some_iff.1 hv).2]
  · simp [Go.Sort.putRow, Go.Sort.mapBlock, Go.Sort.ahead]
  · unfold SameB
    rw [Go.Sort.heap_grow_old _ _ (by simpa [Go.Sort.putRow, Go.Sort.mapBlock, Go.Sort.ahead] using hb)]
    simp only [Go.Sort.putRow, Go.Sort.mapBlock, Go.Sort.ahead, Array.getElem?_modify]
    rw [if_neg (fun h => hne h.symm)]
end
def srt (L : List Int) : List Int := L.mergeSort fun x y => decide (x ≤ y)
theorem srt_len (L : List Int) : (srt L).length = L.length := by simp [srt]
theorem sort_ac (L : List Int) (A : AHeap) (b ver ty : Nat) (hA : A[b]? = some ⟨ver, true, ty, 1, dEls (i64s L)⟩) (hL : L.length ≤ 1000000000) :
    AC Tryd.prog 35 [.own b ver 0 L.length] A (fun r A' => r = .tup [] ∧ A' = A.set b ⟨ver, true, ty, 1, dEls (i64s (srt L))⟩) := by
  intro H ι w vs hH hR hs hm
  simp only [ShpL] at hs
  obtain ⟨u, l, rfl, s1, rfl⟩ := hs
  simp only [Shp] at s1
  obtain ⟨_, k, hk, _, hu⟩ := s1
  rw [hA] at hk
  obtain rfl := Option.some.inj hk
  have hu := hu rfl
  by_cases h0 : L = []
  · subst h0
    have hself : A.set b ⟨ver, true, ty, 1, dEls (i64s (srt []))⟩ = A := by
      have : srt [] = [] := List.length_eq_zero_iff.1 (by simp [srt_len])
      rw [this]
      exact set_same hA
    have hex : ∃ p cap, u = .slice p 0 cap := by
      rcases hu with ⟨_, _, rfl⟩ | ⟨c, n, cap, _, rfl, _⟩
      · exact ⟨_, _, rfl⟩
      · exact ⟨_, _, rfl⟩
    obtain ⟨p, cap, rfl⟩ := hex
    refine (Sh_slices_Sort_int_none p cap w).mono ?_
    rintro en w' ⟨rfl, rfl⟩
    exact ⟨_, _, ι, A, rfl, ⟨rfl, hself.symm⟩, hR, Step.refl _ _ _, ⟨by simp only [Shp]; exact ⟨[], rfl, by simp [ShpL]⟩, by simp only [Mem]; exact ⟨[], rfl, by simp [MemL]⟩⟩⟩
  · have hpos : 0 < L.length := List.length_pos_iff.2 h0
    rcases hu with ⟨h, _⟩ | ⟨c, n, cap, hι, rfl, _⟩
    · omega
    obtain ⟨arr, a1, a2, a3, a4, a5⟩ := ints_in hR hA hι
    rw [Nat.zero_mul]
    refine (Sh_slices_Sort_int c 0 cap L w (holds_in a1 a5) a4 (by omega)).mono ?_
    rintro en w' ⟨rfl, q, os, rfl⟩
    obtain ⟨arr', s2, s3, s4, s5, s6⟩ := put_at (q := q) (os := os) (L := srt L) a4 a1 (by rw [srt_len]; omega)
    obtain ⟨r1, r2⟩ := ints_put (L := srt L) hR hA rfl hι rfl (by simp [srt_len]) a1 a2 (by simpa using a3) s2 s3 s4 s5 s6 rfl rfl rfl
    exact ⟨_, _, ι, _, rfl, ⟨rfl, rfl⟩, r1, r2, ⟨by simp only [Shp]; exact ⟨[], rfl, by simp [ShpL]⟩, by simp only [Mem]; exact ⟨[], rfl, by simp [MemL]⟩⟩⟩
theorem compact_ac (L M : List Int) (A : AHeap) (b ver ty : Nat) (hA : A[b]? = some ⟨ver, true, ty, 1, dEls (i64s L)⟩) (hL : L.length ≤ 1000000000) (hM : Lib.compact L = M) (hml : M.length ≤ L.length) :
    AC Tryd.prog 36 [.own b ver 0 L.length] A (fun r A' => r = .own b ver 0 M.length ∧ A' = A.set b ⟨ver, true, ty, 1, dEls (i64s (M ++ List.replicate (L.length - M.length) 0))⟩) := by
  intro H ι w vs hH hR hs hm
  simp only [ShpL] at hs
  obtain ⟨u, l, rfl, s1, rfl⟩ := hs
  have s0 := s1
  simp only [Shp] at s1
  obtain ⟨_, k, hk, _, hu⟩ := s1
  rw [hA] at hk
  obtain rfl := Option.some.inj hk
  have hu := hu rfl
  by_cases h0 : L = []
  · subst h0
    have hM0 : M = [] := List.length_eq_zero_iff.1 (by simpa using hml)
    subst hM0
    have hself : A.set b ⟨ver, true, ty, 1, dEls (i64s ([] ++ List.replicate (([] : List Int).length - ([] : List Int).length) 0))⟩ = A := set_same hA
    have hex : ∃ p cap, u = .slice p 0 cap := by
      rcases hu with ⟨_, _, rfl⟩ | ⟨c, n, cap, _, rfl, _⟩
      · exact ⟨_, _, rfl⟩
      · exact ⟨_, _, rfl⟩
    obtain ⟨p, cap, rfl⟩ := hex
    refine (Sh_slices_Compact_int_empty p cap w).mono ?_
    rintro en w' ⟨rfl, rfl⟩
    exact ⟨_, _, ι, A, rfl, ⟨rfl, hself.symm⟩, hR, Step.refl _ _ _, ⟨s0, by simp [Mem]⟩⟩
  · have hpos : 0 < L.length := List.length_pos_iff.2 h0
    rcases hu with ⟨h, _⟩ | ⟨c, n, cap, hι, rfl, hc1, hc2, hc3⟩
    · omega
    obtain ⟨arr, a1, a2, a3, a4, a5⟩ := ints_in hR hA hι
    rw [Nat.zero_mul]
    refine (Sh_slices_Compact_int c 0 cap L w (holds_in a1 a5) (by omega) hc1).mono ?_
    rintro en w' ⟨rfl, q, rfl⟩
    rw [hM]
    have hT : (M ++ List.replicate (L.length - M.length) 0).length = L.length := by simp; omega
    obtain ⟨arr', s2, s3, s4, s5, s6⟩ := put_at (q := q) (os := #[]) (L := M ++ List.replicate (L.length - M.length) 0) a4 a1 (by rw [hT]; omega)
    rw [Go.Sort.grow_empty] at s2 s5 s6
    obtain ⟨r1, r2⟩ := ints_put (L := M ++ List.replicate (L.length - M.length) 0) hR hA rfl hι rfl (by rw [hT]; simp) a1 a2 (by simpa using a3) s2 s3 s4 s5 s6 rfl rfl rfl
    refine ⟨_, _, ι, _, rfl, ⟨rfl, rfl⟩, r1, r2, ⟨?_, by simp [Mem]⟩⟩
    simp only [Shp]
    refine ⟨⟨_, _, _, rfl⟩, _, List.getElem?_set_self (List.getElem?_eq_some_iff.1 hA).1, Nat.le_refl _, fun _ => .inr ⟨c, n, cap, hι, ?_, by omega, hc2, hc3⟩⟩
    simp [setEls]
end Go.Proofs.YtjglpamdliplbaaDoor

/- Contract: il.Size, by il.visit with a closure that counts. -/
namespace Go.Proofs.YtjglpamdliplbaaDoor
open Go.RowKit
end Go.Proofs.YtjglpamdliplbaaDoor

/- Contracts: the closures of il.Fresh, il.visit with them. -/
namespace Go.Proofs.YtjglpamdliplbaaDoor
open Go.RowKit
end Go.Proofs.YtjglpamdliplbaaDoor

/- The variables of an expression: in the order in which they stand; ascending, each once. No program in sight. -/
namespace Go.Proofs.YtjglpamdliplbaaDoor
open Go.RowKit
def Asc (l : List Int) : Prop := l.Pairwise (· < ·)
def insR (n : Int) : List Int → List Int
  | [] => [n]
  | a :: l => if a < n then a :: insR n l else if a = n then a :: l else n :: a :: l
theorem insL_eq (n : Int) : ∀ l : List Int, insL l n = insR n l
  | [] => by simp [insL, insR, lowN]
  | a :: l => by
    have ih := insL_eq n l
    unfold insL at ih ⊢
    by_cases h : a < n
    · simp only [lowN, if_pos h, insR, List.getElem?_cons_succ, List.take_succ_cons, List.drop_succ_cons]
      rw [← ih]
      split <;> simp
    · simp only [lowN, if_neg h, insR, List.getElem?_cons_zero, List.take_zero, List.drop_zero, Option.some.injEq, List.nil_append]
theorem insR_mem (n v : Int) : ∀ l : List Int, v ∈ insR n l ↔ v = n ∨ v ∈ l
  | [] => by simp [insR]
  | a :: l => by
    simp only [insR]
    split
    · simp only [List.mem_cons, insR_mem n v l]
      constructor
      · rintro (h | h | h)
        · exact .inr (.inl h)
        · exact .inl h
        · exact .inr (.inr h)
      · rintro (h | h | h)
        · exact .inr (.inl h)
        · exact .inl h
        · exact .inr (.inr h)
    · split
      · rename_i h
        subst h
        simp only [List.mem_cons]
        constructor
        · exact .inr
        · rintro (h | h)
          · exact .inl h
          · exact h
      · simp only [List.mem_cons]
theorem insR_asc (n : Int) : ∀ {l : List Int}, Asc l → Asc (insR n l)
  | [], _ => by simp [insR, Asc]
  | a :: l, h => by
    obtain ⟨h1, h2⟩ := List.pairwise_cons.1 h
    have ih := insR_asc n h2
    simp only [insR]
    split
    · refine List.pairwise_cons.2 ⟨fun v hv => ?_, ih⟩
      rcases (insR_mem n v l).1 hv with rfl | hv
      · assumption
      · exact h1 v hv
    · split
      · exact h
      · refine List.pairwise_cons.2 ⟨fun v hv => ?_, h⟩
        rcases List.mem_cons.1 hv with rfl | hv
        · omega
        · have := h1 v hv
          omega
theorem insR_len (n : Int) : ∀ l : List Int, (insR n l).length ≤ l.length + 1
  | [] => by simp [insR]
  | a :: l => by
    have := insR_len n l
    simp only [insR]
    split
    · simp; omega
    · split <;> simp
theorem insL_mem {n v : Int} {l : List Int} : v ∈ insL l n ↔ v = n ∨ v ∈ l := by rw [insL_eq, insR_mem]
theorem insL_asc {n : Int} {l : List Int} (h : Asc l) : Asc (insL l n) := by rw [insL_eq]; exact insR_asc n h
theorem insL_len (l : List Int) (n : Int) : (insL l n).length ≤ l.length + 1 := by rw [insL_eq]; exact insR_len n l
theorem fold_mem {v : Int} : ∀ {m l : List Int}, v ∈ m.foldl insL l ↔ v ∈ l ∨ v ∈ m
  | [], l => by simp
  | a :: m, l => by
    simp only [List.foldl_cons, fold_mem (m := m), insL_mem, List.mem_cons]
    constructor
    · rintro ((h | h) | h)
      · exact .inr (.inl h)
      · exact .inl h
      · exact .inr (.inr h)
    · rintro (h | h | h)
      · exact .inl (.inr h)
      · exact .inl (.inl h)
      · exact .inr h
theorem fold_asc : ∀ {m l : List Int}, Asc l → Asc (m.foldl insL l)
  | [], _, h => h
  | a :: m, l, h => by
    rw [List.foldl_cons]
    exact fold_asc (m := m) (insL_asc h)
theorem fold_len : ∀ (m l : List Int), (m.foldl insL l).length ≤ l.length + m.length
  | [], l => by simp
  | a :: m, l => by
    have h1 := fold_len m (insL l a)
    have h2 := insL_len l a
    simp only [List.foldl_cons, List.length_cons]
    omega
/-- Ascending lists of the same members are the same. -/
theorem asc_ext : ∀ {l m : List Int}, Asc l → Asc m → (∀ v, v ∈ l ↔ v ∈ m) → l = m
  | [], [], _, _, _ => rfl
  | [], b :: m, _, _, h => absurd ((h b).2 (by simp)) (by simp)
  | a :: l, [], _, _, h => absurd ((h a).1 (by simp)) (by simp)
  | a :: l, b :: m, h1, h2, h => by
    obtain ⟨p1, p2⟩ := List.pairwise_cons.1 h1
    obtain ⟨q1, q2⟩ := List.pairwise_cons.1 h2
    have e1 : a = b := by
      have x := (h a).1 (by simp)
      have y := (h b).2 (by simp)
      rcases List.mem_cons.1 x with rfl | x
      · rfl
      rcases List.mem_cons.1 y with rfl | y
      · rfl
      have := q1 a x
      have := p1 b y
      omega
    subst e1
    rw [asc_ext p2 q2 fun v => ?_]
    constructor
    · intro hv
      have := p1 v hv
      rcases List.mem_cons.1 ((h v).1 (by simp [hv])) with rfl | hv
      · omega
      · exact hv
    · intro hv
      have := q1 v hv
      rcases List.mem_cons.1 ((h v).2 (by simp [hv])) with rfl | hv
      · omega
      · exact hv
end Go.Proofs.YtjglpamdliplbaaDoor

/- Contract: il.Vars. -/
namespace Go.Proofs.YtjglpamdliplbaaDoor
open Go.RowKit
theorem compact_sorted {d : Array Int} (hs : ∀ (i j : Nat), i < j → j < d.size → d[i]! ≤ d[j]!) : ∀ m, m ≤ d.size → Asc (Lib.compactUpTo d m) ∧ (∀ v, v ∈ Lib.compactUpTo d m ↔ ∃ j, j < m ∧ d[j]! = v) ∧ (Lib.compactUpTo d m).length ≤ m
  | 0, _ => by simp [Lib.compactUpTo, Asc]
  | m + 1, hm => by
    obtain ⟨h1, h2, h3⟩ := compact_sorted hs m (by omega)
    rw [Lib.compactUpTo_succ]
    cases hk : Lib.keeps d m
    · have hm0 : m ≠ 0 := fun h => by subst h; simp [Lib.keeps] at hk
      have he : d[m]! = d[m - 1]! := by
        by_cases h : d[m]! = d[m - 1]!
        · exact h
        · rw [Lib.keeps_pos h] at hk
          cases hk
      rw [if_neg (by simp), List.append_nil]
      refine ⟨h1, fun v => ?_, by omega⟩
      rw [h2]
      constructor
      · rintro ⟨j, hj, e⟩
        exact ⟨j, by omega, e⟩
      · rintro ⟨j, hj, e⟩
        by_cases hjm : j < m
        · exact ⟨j, hjm, e⟩
        · obtain rfl : j = m := by omega
          exact ⟨j - 1, by omega, by rw [← he]; exact e⟩
    · rw [if_pos rfl]
      refine ⟨List.pairwise_append.2 ⟨h1, by simp, fun a ha b hb => ?_⟩, fun v => ?_, by simp; omega⟩
      · simp at hb
        subst hb
        obtain ⟨j, hj, rfl⟩ := (h2 a).1 ha
        have hle := hs (m - 1) m (by omega) (by omega)
        have hne : d[m]! ≠ d[m - 1]! := fun h => by
          rw [Lib.keeps_neg (by omega) h] at hk
          cases hk
        have hj2 : d[j]! ≤ d[m - 1]! := by
          rcases Nat.lt_or_ge j (m - 1) with h | h
          · exact hs j (m - 1) h (by omega)
          · obtain rfl : j = m - 1 := by omega
            exact Int.le_refl _
        omega
      · rw [List.mem_append, h2]
        constructor
        · rintro (⟨j, hj, e⟩ | h)
          · exact ⟨j, by omega, e⟩
          · simp at h
            exact ⟨m, by omega, h.symm⟩
        · rintro ⟨j, hj, e⟩
          by_cases hjm : j < m
          · exact .inl ⟨j, hjm, e⟩
          · obtain rfl : j = m := by omega
            exact .inr (by simp [e])
abbrev blkL (L : List Int) : Blk := ⟨L.length, true, 3, 1, dEls (i64s L)⟩
end Go.Proofs.YtjglpamdliplbaaDoor

/- Constraints with any type; their variables, ascending, each once. No program in sight. -/
namespace Go.Proofs.YtjglpamdliplbaaDoor
open Go.RowKit
/-- A constraint with any type. -/
structure CV where
  kd : Int
  a : Int
  b : Int
  off : Int
  wd : Int
  tk : Int
  ts : Int
  tc : Int
  el : List (List D)
  fl : List (List D)
def CV.d (c : CV) : List D := [.v (.int .i64 c.kd), .v (.int .i64 c.a), .v (.int .i64 c.b), .v (.int .i64 c.off), .v (.int .i64 c.wd), .v (.int .i64 c.tk), .v (.int .i64 c.ts), .v (.int .i64 c.tc), .sl 5 c.el, .sl 6 c.fl]
theorem CV.d_eq (c : CV) : CV.d c = [.v (.int .i64 c.kd), .v (.int .i64 c.a), .v (.int .i64 c.b), .v (.int .i64 c.off), .v (.int .i64 c.wd), .v (.int .i64 c.tk), .v (.int .i64 c.ts), .v (.int .i64 c.tc), .sl 5 c.el, .sl 6 c.fl] := rfl
@[simp] theorem CV.d_len (c : CV) : (CV.d c).length = 10 := rfl
@[simp] def cvA (c : CV) : AV := .agg [aI .i64 c.kd, aI .i64 c.a, aI .i64 c.b, aI .i64 c.off, aI .i64 c.wd, aI .i64 c.tk, aI .i64 c.ts, aI .i64 c.tc, .d (.sl 5 c.el), .d (.sl 6 c.fl)]
def cvs (l : List CV) : List (List D) := l.map CV.d
@[simp] theorem cvs_nil : cvs [] = [] := rfl
@[simp] theorem cvs_cons (s : CV) (l : List CV) : cvs (s :: l) = s.d :: cvs l := rfl
@[simp] theorem cvs_len (l : List CV) : (cvs l).length = l.length := by simp [cvs]
@[simp] theorem cvs_get (l : List CV) (i : Nat) : (cvs l)[i]? = (l[i]?).map CV.d := by simp [cvs]
@[simp] theorem cvs_at (l : List CV) (i : Nat) (h : i < (cvs l).length) : (cvs l)[i] = CV.d (l[i]'(by simpa using h)) := by simp [cvs]
@[simp] theorem cvs_all (l : List CV) : (cvs l).take l.length = cvs l := by rw [List.take_of_length_le]; simp
@[simp] theorem cvs_app (l m : List CV) : cvs (l ++ m) = cvs l ++ cvs m := by simp [cvs]
/-- The variables that a constraint names. -/
def cval (c : CV) : List Int := if c.kd < 0 ∨ 4 < c.kd then [] else if c.kd = 1 then [c.a] else [c.a, c.b]
def cvals : List CV → List Int
  | [] => []
  | c :: l => cval c ++ cvals l
theorem cvals_take {l : List CV} {i : Nat} {x : CV} (h : l[i]? = some x) : cvals (l.take (i + 1)) = cvals (l.take i) ++ cval x := by
  induction l generalizing i with
  | nil => simp at h
  | cons a l ih =>
    cases i with
    | zero => simp at h; subst h; simp [cvals]
    | succ i => simp only [List.take_succ_cons, cvals, ih (by simpa using h), List.append_assoc]
theorem cval_len (c : CV) : (cval c).length ≤ 2 := by
  unfold cval
  split
  · simp
  · split <;> simp
theorem cvals_len : ∀ l : List CV, (cvals l).length ≤ 2 * l.length
  | [] => by simp [cvals]
  | c :: l => by
    have h1 := cval_len c
    have h2 := cvals_len l
    simp only [cvals, List.length_append, List.length_cons]
    omega
/-- Sorted and compacted: ascending, each once. -/
theorem fold_compact (V : List Int) : Lib.compact (srt V) = V.foldl insL [] ∧ (V.foldl insL []).length ≤ V.length := by
  have hp : (srt V).Pairwise fun a b => (decide (a ≤ b)) = true := List.pairwise_mergeSort (fun a b c h1 h2 => by simp at *; omega) (fun a b => by simp; omega) _
  have hmem : ∀ v, v ∈ srt V ↔ v ∈ V := fun v => by simp [srt]
  have hlen := srt_len V
  obtain ⟨S, hS⟩ : ∃ S, srt V = S := ⟨_, rfl⟩
  rw [hS] at hp hmem hlen ⊢
  have hs : ∀ (i j : Nat), i < j → j < S.toArray.size → S.toArray[i]! ≤ S.toArray[j]! := fun i j hij hj => by
    have hj' : j < S.length := by simpa using hj
    have := List.pairwise_iff_getElem.1 hp i j (by omega) hj' hij
    simpa [getElem!_pos, hj', show i < S.length by omega] using this
  obtain ⟨h1, h2, h3⟩ := compact_sorted hs S.length (by simp)
  refine ⟨?_, by have := fold_len V []; simpa using this⟩
  refine asc_ext h1 (fold_asc (by simp [Asc])) fun v => ?_
  rw [fold_mem, ← hmem]
  simp only [List.not_mem_nil, false_or]
  show v ∈ Lib.compactUpTo S.toArray S.length ↔ _
  rw [h2, List.mem_iff_getElem]
  constructor
  · rintro ⟨j, hj, e⟩
    exact ⟨j, hj, by simpa [getElem!_pos, hj] using e⟩
  · rintro ⟨j, hj, e⟩
    exact ⟨j, hj, by simpa [getElem!_pos, hj] using e⟩
/-- What insert has behind i numbers. -/
def oI (l : List Int) (n : Int) (k i : Nat) : List Int := if k < i ∧ l[k]? ≠ some n then l.take k ++ n :: (l.take i).drop k else l.take i
theorem oI_0 (l : List Int) (n : Int) (k : Nat) : oI l n k 0 = [] := by simp [oI]
theorem oI_le {l : List Int} {n a : Int} {k i : Nat} (h : i < k ∨ l[k]? = some n) (ha : l[i]? = some a) : oI l n k (i + 1) = oI l n k i ++ [a] := by
  unfold oI
  rw [if_neg (fun x => h.elim (fun h => by omega) fun h => x.2 h), if_neg (fun x => h.elim (fun h => by omega) fun h => x.2 h), List.take_add_one, ha]
  rfl
theorem oI_eq {l : List Int} {n a : Int} {k : Nat} (ha : l[k]? = some a) (hn : a ≠ n) : oI l n k (k + 1) = oI l n k k ++ [n] ++ [a] := by
  have hk := (List.getElem?_eq_some_iff.1 ha).1
  unfold oI
  rw [if_pos ⟨by omega, by rw [ha]; simpa using hn⟩, if_neg (by omega), List.take_add_one, ha]
  have : (l.take k).length = k := by simp; omega
  rw [List.drop_append_of_le_length (by omega), List.drop_eq_nil_of_le (by omega)]
  simp
theorem oI_gt {l : List Int} {n a : Int} {k i : Nat} (h : k < i) (ha : l[i]? = some a) : oI l n k (i + 1) = oI l n k i ++ [a] := by
  by_cases h2 : l[k]? = some n
  · exact oI_le (.inr h2) ha
  have hi := (List.getElem?_eq_some_iff.1 ha).1
  unfold oI
  rw [if_pos ⟨by omega, h2⟩, if_pos ⟨h, h2⟩, List.take_add_one, ha, List.drop_append_of_le_length (by simp; omega)]
  simp
theorem oI_end {l : List Int} {n : Int} : (if lowN n l < l.length then oI l n (lowN n l) l.length else oI l n (lowN n l) l.length ++ [n]) = insL l n := by
  have h1 := (lowN_spec n l).1
  unfold insL oI
  generalize lowN n l = k at *
  by_cases h : k < l.length
  · rw [if_pos h]
    by_cases h2 : l[k]? = some n
    · rw [if_neg (fun x => x.2 h2), if_pos h2]; simp
    · rw [if_pos ⟨h, h2⟩, if_neg h2]; simp
  · obtain rfl : k = l.length := by omega
    rw [if_neg h, if_neg (fun x => h x.1)]
    simp
theorem oI_len (l : List Int) (n : Int) (k i : Nat) : (oI l n k i).length ≤ l.length + 1 := by
  unfold oI
  split
  · simp; omega
  · simp; omega
end Go.Proofs.YtjglpamdliplbaaDoor

/- Contract: math/bits.TrailingZeros64(16), off the table that the row lists; the calls that the example of layer 19 takes by contract. -/
namespace Go.Proofs.YtjglpamdliplbaaDoor
open Go.RowKit
theorem tz64_16 (w : World) (hG : GbIs w) : Calls Tryd.prog 147 #[.int .u64 16] w fun e w' => e = .returned (.int .i64 4) ∧ w' = w := by
  have hc : w.cell? ⟨3, 15, none⟩ = some (.int .u8 4) := (hG (3, deB64.map fun z => Value.int .u8 z) (by simp [GB])).2.1 15 _ (by simp [deB64])
  have hi : IntKind.u64.wrap (bits BinOp.and IntKind.u64 16 (IntKind.u64.wrap (-16)) * 285870213051353865) / 288230376151711744 = 15 := by decide +kernel
  go_enter Tryd.func147, Tryd.ntmps147
  go_wp2
  · go_ret
    exact ⟨rfl, rfl⟩
theorem tz64_af : AF Tryd.prog 147 [aI .u64 16] (aI .i64 4) := by
  intro H w vs hH hs hm
  simp only [ShpL] at hs
  obtain ⟨u1, l1, rfl, s1, rfl⟩ := hs
  simp only [Shp] at s1
  subst s1
  refine (tz64_16 w hH.2.1).mono ?_
  rintro en w' ⟨rfl, rfl⟩
  exact ⟨_, rfl, ⟨by simp [Shp], by simp [Mem, Rd, Value.oneCell']⟩, Ext.refl _⟩
/-- Strings, out of a slice's elements. -/
def strsOf : List (List D) → Option (List ByteArray)
  | [] => some []
  | [.v (.string s)] :: l => (strsOf l).map (s :: ·)
  | _ :: _ => none
theorem strsOf_spec : ∀ {l : List (List D)} {m : List ByteArray}, strsOf l = some m → l = strs m
  | [], m, h => by simp [strsOf] at h; subst h; rfl
  | [.v (.string s)] :: l, m, h => by
    simp only [strsOf, Option.map_eq_some_iff] at h
    obtain ⟨m', h', rfl⟩ := h
    rw [strsOf_spec h']
    rfl
/-- The calls that are taken by contract. -/
def orc19 : XF := fun f args A =>
  if f = 42 then (match omap (reiV false A 9) args with
    | some [.d (.sl 1 xs)] => (match strsOf xs with
      | some l => if (l.flatMap fun x => x.data.toList).length ≤ 1000000000 ∧ l.length ≤ 1000000000 then some (aS (cat l), A) else none
      | none => none)
    | _ => none)
  else if f = 38 then (match args with
    | [.d (.v (.int .i64 (.ofNat n)))] => if n < 10 then some (aS ⟨#[UInt8.ofNat (48 + n)]⟩, A) else none
    | _ => none)
  else if f = 147 then (match args with
    | [.d (.v (.int .u64 n))] => if n = 16 then some (aI .i64 4, A) else none
    | _ => none)
  else none
theorem orc19_ok : XFok Tryd.prog orc19 := by
  intro f args A r A' h
  unfold orc19 at h
  split at h
  · rename_i hf
    subst hf
    split at h
    · rename_i xs h0
      split at h
      · rename_i l hl
        split at h
        · rename_i hc
          simp only [Option.some.injEq, Prod.mk.injEq] at h
          obtain ⟨rfl, rfl⟩ := h
          obtain rfl := strsOf_spec hl
          exact ⟨by kernel_rfl, AF.acs (iljoin_af l hc.1 hc.2) (by rw [h0]; exact NLeL.refl _) rfl⟩
        · cases h
      · cases h
    · cases h
  · split at h
    · rename_i hf
      subst hf
      split at h
      · rename_i n
        split at h
        · rename_i hn
          simp only [Option.some.injEq, Prod.mk.injEq] at h
          obtain ⟨rfl, rfl⟩ := h
          have h1 := itoa_af n (by omega)
          have h2 : Lib.decDigits n = [UInt8.ofNat (48 + n)] := by rw [Lib.decDigits]; simp; omega
          rw [h2] at h1
          exact ⟨by kernel_rfl, AF.acs h1 (by simp [omap, reiV, argO]) rfl⟩
        · cases h
      · cases h
    · split at h
      · rename_i hf
        subst hf
        split at h
        · split at h
          · rename_i hn
            subst hn
            simp only [Option.some.injEq, Prod.mk.injEq] at h
            obtain ⟨rfl, rfl⟩ := h
            exact ⟨by kernel_rfl, AF.acs tz64_af (by simp [omap, reiV, argO]) rfl⟩
          · cases h
        · cases h
      · cases h
end Go.Proofs.YtjglpamdliplbaaDoor

/- Contracts: il.Load, il.Replace. -/
namespace Go.Proofs.YtjglpamdliplbaaDoor
open Go.RowKit
theorem load_af (n : Int) (a : Ex) (ha : a.nodes ≤ 1000000000) : AF Tryd.prog 22 [aI .i64 n, exA a] (exA (.mk 18 0 0 n [a])) := by
  refine af_of Tryd.func22 rfl (by kernel_rfl) (by simp [Tryd.ntmps22]) fun _ => ?_
  simp [Tryd.f22]
  refine aCall_of (own_af a ha) (by simp) (by simp [Ex.d_eq]) ?_
  simp [Ex.d_eq]
end Go.Proofs.YtjglpamdliplbaaDoor

/- Contract: the example of layer 19 holds. -/
namespace Go.Proofs.YtjglpamdliplbaaDoor
open Go.RowKit
end Go.Proofs.YtjglpamdliplbaaDoor
