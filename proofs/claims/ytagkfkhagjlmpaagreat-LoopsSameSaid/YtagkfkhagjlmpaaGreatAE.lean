import Derived.Test.YtagkfkhagjlmpaaGreatAB
import Derived.Test.YtagkfkhagjlmpaaGreatAq
import Derived.Test.YtagkfkhagjlmpaaGreatAs
import Derived.Laws.IdiomRangeMap
set_option linter.all false
namespace Go.Proofs.YtagkfkhagjlmpaaGreat
open Go.RowKit
section
variable {P : Program} {H : Nat → Prop} {ι ι' : Place} {A A' : AHeap} {w w' : World} {e : AEnv} {ec : Env} {C : Ctx} {n : Nat} {K : AKont}
def msB (v c : Nat) (L : List (Nat × Int × Bool)) : Blk := ⟨v, true, 1000005, 3, (setCells c L).map (·.map fun x => AV.d (D.v x))⟩
def mitB (b v s : Nat) (S : List Nat) : Blk := ⟨0, true, 1000004, 1, [.mp b v] :: [.d (.v (.int .i64 s))] :: [.d (.v (.int .i64 s))] :: S.map fun x : Nat => [.d (.v (.int .i64 x))]⟩
theorem flat_get {α : Type} {sz : Nat} : ∀ {X : List (List α)}, (∀ r ∈ X, r.length = sz) → ∀ {i j : Nat} {r : List α}, X[i]? = some r → j < sz → X.flatten[i * sz + j]? = r[j]?
 | [], _, i, j, r, h, _ => by simp at h
 | x :: X, hX, 0, j, r, h, hj => by
   simp at h
   subst h
   rw [List.flatten_cons, Nat.zero_mul, Nat.zero_add, gAL (by rw [hX x (by simp)]; exact hj)]
 | x :: X, hX, i + 1, j, r, h, hj => by
   have hx := hX x (by simp)
   rw [List.flatten_cons, List.getElem?_append_right (by rw [hx, Nat.add_mul]; omega), show (i + 1) * sz + j - x.length = i * sz + j by rw [hx, Nat.add_mul]; omega]
   exact flat_get (fun r hr => hX r (by simp [hr])) (by simpa using h) hj
theorem flat_len {α : Type} {sz : Nat} : ∀ {X : List (List α)}, (∀ r ∈ X, r.length = sz) → X.flatten.length = X.length * sz
 | [], _ => by simp
 | x :: X, hX => by
   rw [List.flatten_cons, List.length_append, flat_len fun r hr => hX r (by simp [hr]), hX x (by simp), List.length_cons, Nat.add_mul]
   omega
theorem cells_flat {N : Nat → Prop} {k : Blk} {X : List (List Value)} {arr : Array Value} (hels : k.els = X.map (·.map fun v => AV.d (D.v v))) (hX : ∀ r ∈ X, r.length = k.sz) (hs : arr.size = k.els.length * k.sz) (hpos : 0 < k.sz) (hc : Cells ι A N w k arr) : arr.toList = X.flatten := by
 have hl : X.length = k.els.length := by rw [hels]; simp
 apply List.ext_getElem?
 intro q
 by_cases hq : q < X.length * k.sz
 ·have hi : q / k.sz < X.length := Nat.div_lt_of_lt_mul (by rw [Nat.mul_comm]; exact hq)
  have hj : q % k.sz < k.sz := Nat.mod_lt _ hpos
  have hqq : q / k.sz * k.sz + q % k.sz = q := by have := Nat.div_add_mod q k.sz; rw [Nat.mul_comm] at this; exact this
  obtain ⟨r, hr⟩ : ∃ r, X[q / k.sz]? = some r := ⟨_, gEG hi⟩
  have hrl := hX r (gMO hr)
  obtain ⟨x, hx⟩ : ∃ x, r[q % k.sz]? = some x := ⟨_, gEG (by omega)⟩
  obtain ⟨_, h2⟩ := hc (q / k.sz) (r.map fun v => AV.d (D.v v)) (by rw [hels, List.getElem?_map, hr]; rfl)
  obtain ⟨u, e1, e2, _⟩ := h2 (q % k.sz) (.d (.v x)) (by rw [List.getElem?_map, hx]; rfl)
  have hu : u = x := by have := e2.1; simpa [Shp] using this
  subst hu
  rw [hqq] at e1
  have h3 := flat_get hX hr hj
  rw [hqq] at h3
  rw [Array.getElem?_toList, e1, h3, hx]
 ·rw [List.getElem?_eq_none (by rw [Array.length_toList, hs, ← hl]; omega), List.getElem?_eq_none (by rw [flat_len hX]; omega)]
theorem setL_inj : ∀ {L L' : List (Nat × Int × Bool)}, (L.map fun x => [Value.int .i64 x.1, Value.int .i64 x.2.1, Value.bool x.2.2]).flatten = (L'.map fun x => [Value.int .i64 x.1, Value.int .i64 x.2.1, Value.bool x.2.2]).flatten → L = L'
 | [], [], _ => rfl
 | [], y :: L', h => by simp at h
 | x :: L, [], h => by simp at h
 | (a, b, c) :: L, (a', b', c') :: L', h => by
   simp only [List.map_cons, List.flatten_cons, List.cons_append, List.nil_append, List.cons.injEq, Value.int.injEq, Value.bool.injEq, true_and] at h
   obtain ⟨h1, h2, h3, h4⟩ := h
   have h1' : a = a' := by omega
   rw [h1', h2, h3, setL_inj h4]
theorem set_inj {c c' : Nat} {L L' : List (Nat × Int × Bool)} (h : (setCells c L).flatten = (setCells c' L').flatten) : c = c' ∧ L = L' := by
 unfold setCells at h
 simp only [List.flatten_cons, List.cons_append, List.nil_append, List.cons.injEq, Value.int.injEq, true_and] at h
 exact ⟨by omega, setL_inj h.2⟩
theorem setCells_row {c : Nat} {L : List (Nat × Int × Bool)} : ∀ r ∈ setCells c L, r.length = 3 := by
 intro r hr
 unfold setCells at hr
 rcases List.mem_cons.1 hr with rfl | hr
 ·rfl
 ·obtain ⟨x, _, rfl⟩ := List.mem_map.1 hr
  rfl
theorem setCells_one {c : Nat} {L : List (Nat × Int × Bool)} : ∀ r ∈ setCells c L, ∀ x ∈ r, x.oneCell' = true := by
 intro r hr x hx
 unfold setCells at hr
 rcases List.mem_cons.1 hr with rfl | hr
 ·simp at hx
  rcases hx with rfl | rfl <;> rfl
 ·obtain ⟨y, _, rfl⟩ := List.mem_map.1 hr
  simp at hx
  rcases hx with rfl | rfl | rfl <;> rfl
theorem set_at {b v c : Nat} {L : List (Nat × Int × Bool)} {u : Value} (hR : Rel H ι A w) (hb : A[b]? = some (msB v c L)) (hs : Shp ι A (.mp b v) u) :
 ∃ r m, ι b = some (r, m) ∧ u = .map (some r) ∧ w.heap[r]? = some (.map (esL L).toArray c) ∧ SetOk c L := by
 simp only [Shp] at hs
 obtain ⟨_, k', hk', hv1, hv2⟩ := hs
 rw [hb] at hk'
 obtain rfl := oSI hk'
 obtain ⟨r, m, hι, hu⟩ := hv2 rfl
 have hbr := hR.blk b _ hb
 unfold BlkRel at hbr
 rw [hι] at hbr
 obtain ⟨arr, a1, a2, a3, a4⟩ := hbr
 have hty : (msB v c L).ty = 1000005 := rfl
 rcases a1 with a1 | ⟨o, a1, a5⟩
 ·have := a1.1
  rw [hty] at this
  exact absurd this (by decide)
 rw [hty] at a5
 rcases a5 with ⟨_, _, _, h, _⟩ | ⟨_, _, _, _, _, _, _, ⟨h, _⟩ | ⟨h, _⟩⟩ | ⟨_, _, _, _, _, _, h, _⟩ | ⟨c', L', rfl, _, _, harr, hok⟩ | ⟨_, _, _, _, _, h, _⟩
 ·exact absurd h (by decide)
 ·exact absurd h (by decide)
 ·exact absurd h (by decide)
 ·exact absurd h (by decide)
 ·have hfl := cells_flat (X := setCells c L) rfl setCells_row (a2.2 (by rw [hty]; decide)) (Nat.zero_lt_succ 2) a4
  rw [harr] at hfl
  obtain ⟨rfl, rfl⟩ := set_inj hfl
  exact ⟨r, m, hι, hu, a1, hok⟩
 ·exact absurd h (by decide)
theorem msB_cells {N : Nat → Prop} (v c : Nat) (L : List (Nat × Int × Bool)) : ∀ (i : Nat) (x : List AV), (msB v c L).els[i]? = some x → x.length = (msB v c L).sz ∧ ∀ (j : Nat) (a : AV), x[j]? = some a → ∃ u, (setCells c L).flatten.toArray[i * (msB v c L).sz + j]? = some u ∧ Val ι A N w a u ∧ u.oneCell' = true := by
 intro i x hi
 simp only [msB, List.getElem?_map, Option.map_eq_some_iff] at hi
 obtain ⟨r, hr, rfl⟩ := hi
 have hrl := setCells_row r (gMO hr)
 refine ⟨by simpa [msB] using hrl, fun j a hj => ?_⟩
 simp only [List.getElem?_map, Option.map_eq_some_iff] at hj
 obtain ⟨u, hu, rfl⟩ := hj
 have hj3 : j < 3 := by have := (gSI.1 hu).1; omega
 have h1 := setCells_one r (gMO hr) u (gMO hu)
 exact ⟨u, by rw [List.getElem?_toArray]; exact (flat_get setCells_row hr hj3).trans hu, ⟨by simp [Shp], by simp only [Mem, Rd]; exact ⟨trivial, h1⟩⟩, h1⟩
theorem msB_len (v c : Nat) (L : List (Nat × Int × Bool)) : (setCells c L).flatten.toArray.size = (msB v c L).els.length * (msB v c L).sz := by
 have := flat_len (X := setCells c L) setCells_row
 simpa [msB] using this
theorem rel_setS {b v c c' r m : Nat} {L L' : List (Nat × Int × Bool)} (hR : Rel H ι A w) (hb : A[b]? = some (msB v c L)) (hι : ι b = some (r, m)) (hok : SetOk c' L') :
 Rel H ι (A.set b (msB v c' L')) { w with heap := w.heap.setIfInBounds r (.map (esL L').toArray c') } ∧ Step ι A w ι (A.set b (msB v c' L')) { w with heap := w.heap.setIfInBounds r (.map (esL L').toArray c') } :=
 rel_turn (o := .map (esL L').toArray c') (arr := (setCells c' L').flatten.toArray) hR hb rfl hι rfl rfl rfl (.inr (.inr (.inr (.inl ⟨c', L', rfl, rfl, rfl, rfl, hok⟩)))) (msB_len v c' L') (msB_cells v c' L')
theorem aRaw_makeS {t : TypeId} {d : Option Nat} {ty : TypeId} {pos : String} {af : Array Edge} {gd : Option (Nat × Bool)} (hk : K (aupd e d (.mp A.length 0)) (A ++ [msB 0 0 []])) :
 aRaw P n ⟨d, .makeMap t none, ty, pos, af, gd⟩ e A K := by
 rintro C ec w hn ⟨h0, ι, h1, h2, h3, h4⟩
 obtain ⟨g1, g2⟩ := rel_newO (o := .map #[] 0) h1 (fun c hc => Nat.lt_of_lt_of_le (h0.1 c hc) h2.size) (k := msB 0 0 []) (arr := (setCells 0 []).flatten.toArray)
  (.inr (.inr (.inr (.inr (.inl ⟨0, [], rfl, rfl, rfl, rfl, by simp [SetOk]⟩))))) (Nat.le_of_eq (msB_len 0 0 []).symm) (fun _ => msB_len 0 0 []) (msB_cells 0 0 [])
 have hrun : (Instr.makeMap t none).run P w = .ok (.map (some w.heap.size)) (w.alloc (.map #[] 0)) := rfl
 unfold vRaw execOp
 simp only [Sem.run_bind, Sem.run_pure, hrun, Result.andThen_ok]
 refine ⟨_, _, hk, h0, _, g1, h2.trans g2, shp_upd (fun i => Shp.step g2.stab _ _ (h3 i)) ?_, mem_upd (fun i => Mem.keep g2.keepD _ _ (h4 i)) (by simp [Mem])⟩
 simp only [Shp]
 exact ⟨⟨_, rfl⟩, _, by simp; rfl, Nat.le_refl _, fun _ => ⟨w.heap.size, _, by simp [newI]; rfl, rfl⟩⟩
def inS (L : List (Nat × Int × Bool)) (k : Int) : Bool := match L.find? (fun x => x.2.1 == k) with
 | some x => x.2.2
 | none => false
def delS (L : List (Nat × Int × Bool)) (k : Int) : List (Nat × Int × Bool) := L.filter fun x => x.2.1 != k
theorem find_none {q : IntKind} {k : Int} : ∀ {L : List (Nat × Int × Bool)} {i : Nat}, (∀ x ∈ L, x.2.1 ≠ k) → Instr.findNow (.int q) (.int .i64 k) (esL L) i = some none
 | [], _, _ => rfl
 | x :: L, i, h => by
   have h1 := h x (by simp)
   have h2 : (k == x.2.1) = false := by simpa using Ne.symm h1
   have ih := find_none (q := q) (L := L) (i := i + 1) (fun y hy => h y (by simp [hy]))
   show (match Instr.sameNow (.int q) (.int .i64 k) (.int .i64 x.2.1) with | some true => some (some (i, Value.bool x.2.2)) | some false => Instr.findNow (.int q) (.int .i64 k) (esL L) (i + 1) | none => none) = some none
   simp [Instr.sameNow, h2, ih]
theorem find_some {q : IntKind} {k : Int} {x : Nat × Int × Bool} {L2 : List (Nat × Int × Bool)} (hx : x.2.1 = k) : ∀ {L : List (Nat × Int × Bool)} {i : Nat}, (∀ x ∈ L, x.2.1 ≠ k) → Instr.findNow (.int q) (.int .i64 k) (esL (L ++ x :: L2)) i = some (some (i + L.length, .bool x.2.2))
 | [], i, _ => by
   show (match Instr.sameNow (.int q) (.int .i64 k) (.int .i64 x.2.1) with | some true => some (some (i, Value.bool x.2.2)) | some false => Instr.findNow (.int q) (.int .i64 k) (esL L2) (i + 1) | none => none) = _
   simp [Instr.sameNow, hx]
 | y :: L, i, h => by
   have h1 := h y (by simp)
   have h2 : (k == y.2.1) = false := by simpa using Ne.symm h1
   have ih := find_some (q := q) (L2 := L2) hx (L := L) (i := i + 1) (fun z hz => h z (by simp [hz]))
   show (match Instr.sameNow (.int q) (.int .i64 k) (.int .i64 y.2.1) with | some true => some (some (i, Value.bool y.2.2)) | some false => Instr.findNow (.int q) (.int .i64 k) (esL (L ++ x :: L2)) (i + 1) | none => none) = _
   simp [Instr.sameNow, h2, ih]
   omega
theorem find_split (k : Int) : ∀ (L : List (Nat × Int × Bool)), (∀ x ∈ L, x.2.1 ≠ k) ∨ ∃ L1 x L2, L = L1 ++ x :: L2 ∧ x.2.1 = k ∧ ∀ y ∈ L1, y.2.1 ≠ k
 | [] => .inl (by simp)
 | x :: L => by
   by_cases hx : x.2.1 = k
   ·exact .inr ⟨[], x, L, rfl, hx, by simp⟩
   ·rcases find_split k L with h | ⟨L1, y, L2, rfl, h1, h2⟩
    ·exact .inl fun y hy => by rcases List.mem_cons.1 hy with rfl | hy; exact hx; exact h y hy
    ·exact .inr ⟨x :: L1, y, L2, rfl, h1, fun z hz => by rcases List.mem_cons.1 hz with rfl | hz; exact hx; exact h2 z hz⟩
theorem inS_none {L : List (Nat × Int × Bool)} {k : Int} (h : ∀ x ∈ L, x.2.1 ≠ k) : inS L k = false := by
 unfold inS
 rw [List.find?_eq_none.2 (fun x hx => by simpa using h x hx)]
theorem inS_some {L1 L2 : List (Nat × Int × Bool)} {x : Nat × Int × Bool} {k : Int} (hx : x.2.1 = k) (h : ∀ y ∈ L1, y.2.1 ≠ k) : inS (L1 ++ x :: L2) k = x.2.2 := by
 unfold inS
 rw [List.find?_append, List.find?_eq_none.2 (fun x hx => by simpa using h x hx)]
 simp [hx]
theorem delS_none {L : List (Nat × Int × Bool)} {k : Int} (h : ∀ x ∈ L, x.2.1 ≠ k) : delS L k = L := List.filter_eq_self.2 fun x hx => by simpa using h x hx
theorem delS_some {L1 L2 : List (Nat × Int × Bool)} {x : Nat × Int × Bool} {k : Int} (hx : x.2.1 = k) (hn : ((L1 ++ x :: L2).map (·.2.1)).Nodup) : delS (L1 ++ x :: L2) k = L1 ++ L2 := by
 have h1 : ∀ y ∈ L1, y.2.1 ≠ k := fun y hy he => by
  rw [List.map_append, List.nodup_append] at hn
  exact hn.2.2 _ (List.mem_map_of_mem hy) _ (List.mem_map_of_mem (List.mem_cons_self ..)) (by rw [he, hx])
 have h2 : ∀ y ∈ L2, y.2.1 ≠ k := fun y hy he => by
  rw [List.map_append, List.nodup_append, List.map_cons, List.nodup_cons] at hn
  exact hn.2.1.1 (by rw [hx, ← he]; exact List.mem_map_of_mem hy)
 unfold delS
 rw [List.filter_append, List.filter_cons]
 simp only [hx, bne_self_eq_false, Bool.false_eq_true, if_false]
 rw [List.filter_eq_self.2 fun y hy => by simpa using h1 y hy, List.filter_eq_self.2 fun y hy => by simpa using h2 y hy]
theorem setOk_del {c : Nat} {L : List (Nat × Int × Bool)} {k : Int} (h : SetOk c L) : SetOk c (delS L k) := by
 have hs : (delS L k).Sublist L := List.filter_sublist
 exact ⟨(hs.map _).nodup h.1, fun x hx => h.2.1 x (hs.subset hx), (hs.map _).nodup h.2.2⟩
theorem setOk_add {c : Nat} {L : List (Nat × Int × Bool)} {k : Int} {v : Bool} (h : SetOk c L) (hk : ∀ x ∈ L, x.2.1 ≠ k) : SetOk (c + 1) (L ++ [(c, k, v)]) := by
 refine ⟨?_, fun x hx => ?_, ?_⟩
 ·rw [List.map_append, List.nodup_append]
  refine ⟨h.1, by simp, fun a ha b hb he => ?_⟩
  obtain ⟨x, hx, rfl⟩ := List.mem_map.1 ha
  simp at hb
  have := h.2.1 x hx
  omega
 ·rcases List.mem_append.1 hx with hx | hx
  ·have := h.2.1 x hx; omega
  ·simp at hx; subst hx; exact Nat.lt_succ_self _
 ·rw [List.map_append, List.nodup_append]
  refine ⟨h.2.2, by simp, fun a ha b hb he => ?_⟩
  obtain ⟨x, hx, rfl⟩ := List.mem_map.1 ha
  simp at hb
  exact hk x hx (by rw [he, hb])
section
variable {x y z : Operand} {t kt et : TypeId} {d : Option Nat} {ty : TypeId} {pos : String} {af : Array Edge} {gd : Option (Nat × Bool)} {b v c : Nat} {L : List (Nat × Int × Bool)} {k : Int}
theorem aRaw_lookS (ht : P.underlying t = some (.map kt et)) (hkt : P.underlying kt = some (.int .i64)) (hz : zv P et = some (.bool false)) (hx : eva e x = .mp b v) (hy : eva e y = .d (.v (.int .i64 k))) (hb : A[b]? = some (msB v c L))
 (hk : K (aupd e d (.d (.v (.bool (inS L k))))) A) : aRaw P n ⟨d, .lookup t x y false, ty, pos, af, gd⟩ e A K := by
 rintro C ec w hn ⟨h0, ι, h1, h2, h3, h4⟩
 have sx := eva_shp h3 x
 rw [hx] at sx
 have ey : ev ec y = .int .i64 k := by have := eva_shp h3 y; rw [hy] at this; simpa [Shp] using this
 obtain ⟨r, m, hι, hu, ho, hok⟩ := set_at h1 hb sx
 have hg : (getObj r).run P w = .ok (.map (esL L).toArray c) w := by simp [getObj, Sem.run, ho]
 have hck : ∀ em, (Instr.checkKey em 10000 kt (.int .i64 k)).run P w = .ok () w := fun em => run_checkK hkt rfl
 have hzr : (zeroValue et).run P w = .ok (.bool false) w := by
  unfold zv at hz
  cases hi : P.info? et with
  | none => rw [hi] at hz; cases hz
  | some i =>
    rw [hi] at hz
    simp only [Option.bind_some] at hz
    simp [zeroValue, typeInfo, hi, hz]
 have hrun : (Instr.lookup t (ev ec x) (ev ec y) false).run P w = .ok (.bool (inS L k)) w := by
  rw [hu, ey]
  rcases find_split k L with h | ⟨L1, p, L2, rfl, h5, h6⟩
  ·rw [inS_none h]
   have hf := run_findKey (w := w) hkt (find_none (q := .i64) (i := 0) h)
   simp [Instr.lookup, run_underlying ht, hg, hck, hf, hzr]
  ·rw [inS_some h5 h6]
   have hf := run_findKey (w := w) hkt (find_some (q := .i64) (i := 0) (L2 := L2) h5 h6)
   simp [Instr.lookup, run_underlying ht, hg, hck, hf]
 unfold vRaw execOp
 simp only [Sem.run_bind, Sem.run_pure, hrun, Result.andThen_ok]
 exact ⟨_, _, hk, h0, ι, h1, h2, shp_upd h3 (by simp [Shp]), mem_upd h4 (by simp [Mem, Rd, Value.oneCell'])⟩
theorem run_updS {r : Nat} {v' : Bool} (ht : P.underlying t = some (.map kt et)) (hkt : P.underlying kt = some (.int .i64)) (ho : w.heap[r]? = some (.map (esL L).toArray c)) (hn : ∀ x ∈ L, x.2.1 ≠ k) :
 (Instr.mapUpdate t (.map (some r)) (.int .i64 k) (.bool v')).run P w = .ok () { w with heap := w.heap.setIfInBounds r (.map (esL (L ++ [(c, k, v')])).toArray (c + 1)) } := by
 have hg : (getObj r).run P w = .ok (.map (esL L).toArray c) w := by simp [getObj, Sem.run, ho]
 have hck := run_checkK (P := P) (w := w) (v := .int .i64 k) (em := false) hkt rfl
 have hf := run_findKey (w := w) hkt (find_none (q := .i64) (i := 0) hn)
 have he : (esL L).toArray.push ⟨.int .i64 k, .bool v', c⟩ = (esL (L ++ [(c, k, v')])).toArray := by simp [esL]
 simp [Instr.mapUpdate, run_underlying ht, hg, hck, hf, setObj, Sem.run, ho, he]
theorem aRaw_updS {v' : Bool} (ht : P.underlying t = some (.map kt et)) (hkt : P.underlying kt = some (.int .i64)) (hx : eva e x = .mp b v) (hy : eva e y = .d (.v (.int .i64 k))) (hz : eva e z = .d (.v (.bool v'))) (hb : A[b]? = some (msB v c L))
 (hnk : ∀ x ∈ L, x.2.1 ≠ k) (hk : K (aupd e d .any) (A.set b (msB v (c + 1) (L ++ [(c, k, v')])))) : aRaw P n ⟨d, .mapUpdate t x y z, ty, pos, af, gd⟩ e A K := by
 rintro C ec w hn ⟨h0, ι, h1, h2, h3, h4⟩
 have sx := eva_shp h3 x
 rw [hx] at sx
 have ey : ev ec y = .int .i64 k := by have := eva_shp h3 y; rw [hy] at this; simpa [Shp] using this
 have ez : ev ec z = .bool v' := by have := eva_shp h3 z; rw [hz] at this; simpa [Shp] using this
 obtain ⟨r, m, hι, hu, ho, hok⟩ := set_at h1 hb sx
 have hrun := run_updS (v' := v') ht hkt ho hnk
 obtain ⟨g1, g2⟩ := rel_setS h1 hb hι (setOk_add (v := v') hok hnk)
 rw [← ey, ← ez, ← hu] at hrun
 unfold vRaw execOp
 simp only [Sem.run_bind, Sem.run_pure, hrun, Result.andThen_ok]
 exact ⟨_, _, hk, h0, ι, g1, h2.trans g2, shp_upd (fun i => Shp.step g2.stab _ _ (h3 i)) (by simp [Shp]), mem_upd (fun i => Mem.keep g2.keepD _ _ (h4 i)) (by simp [Mem])⟩
theorem aRaw_insS {v' : Bool} (ht : P.underlying t = some (.map kt et)) (hkt : P.underlying kt = some (.int .i64)) (hx : eva e x = .mp b v) (hy : eva e y = .d (.v (.int .i64 k))) (hz : eva e z = .d (.v (.bool v'))) (hb : A[b]? = some (msB v c L))
 (hnk : ∀ x ∈ L, x.2.1 ≠ k) (hk : K (aupd e d .any) (A.set b (msB v (c + 1) (L ++ [(c, k, v')])))) : aRaw P n ⟨d, .insert t x y z, ty, pos, af, gd⟩ e A K :=
 fun C ec w hn hS => aRaw_updS (d := d) (ty := ty) (pos := pos) (af := af) (gd := gd) ht hkt hx hy hz hb hnk hk C ec w hn hS
theorem erase_esL (L1 L2 : List (Nat × Int × Bool)) (p : Nat × Int × Bool) : (esL (L1 ++ p :: L2)).eraseIdx L1.length = esL (L1 ++ L2) := by
 unfold esL
 rw [List.map_append, List.map_cons, List.eraseIdx_append_of_length_le (by simp)]
 simp
theorem aRaw_delS (ht : P.underlying t = some (.map kt et)) (hkt : P.underlying kt = some (.int .i64)) (hx : eva e x = .mp b v) (hy : eva e y = .d (.v (.int .i64 k))) (hb : A[b]? = some (msB v c L))
 (hk : K (aupd e d (.tup [])) (A.set b (msB v c (delS L k)))) : aRaw P n ⟨d, .call ⟨.builtin .delete, #[x, y], #[t, kt]⟩, ty, pos, af, gd⟩ e A K := by
 rintro C ec w hn ⟨h0, ι, h1, h2, h3, h4⟩
 have sx := eva_shp h3 x
 rw [hx] at sx
 have ey : ev ec y = .int .i64 k := by have := eva_shp h3 y; rw [hy] at this; simpa [Shp] using this
 obtain ⟨r, m, hι, hu, ho, hok⟩ := set_at h1 hb sx
 have hg : (getObj r).run P w = .ok (.map (esL L).toArray c) w := by simp [getObj, Sem.run, ho]
 have hck : ∀ em, (Instr.checkKey em 10000 kt (.int .i64 k)).run P w = .ok () w := fun em => run_checkK hkt rfl
 have hrun : (Builtin.delete_ #[t, kt] ty #[ev ec x, ev ec y]).run P w = .ok (.tuple #[]) { w with heap := w.heap.setIfInBounds r (.map (esL (delS L k)).toArray c) } := by
  rw [hu, ey]
  rcases find_split k L with h | ⟨L1, p, L2, rfl, h5, h6⟩
  ·rw [delS_none h]
   have hf := run_findKey (w := w) hkt (find_none (q := .i64) (i := 0) h)
   simp [Builtin.delete_, run_underlying ht, hg, hck, hf, setObj, Sem.run, ho]
  ·rw [delS_some h5 hok.2.2]
   have hf := run_findKey (w := w) hkt (find_some (q := .i64) (i := 0) (L2 := L2) h5 h6)
   rw [Nat.zero_add] at hf
   simp [Builtin.delete_, run_underlying ht, hg, hck, hf, setObj, Sem.run, ho, erase_esL]
 obtain ⟨g1, g2⟩ := rel_setS h1 hb hι (setOk_del (k := k) hok)
 unfold vRaw execOp
 simp only [resolve, invoke, Sem.run_bind, Sem.run_pure, Result.andThen_ok]
 simp only [Go.builtin, List.map_toArray, List.map_cons, List.map_nil, Sem.run_bind, hrun, Result.andThen_ok, Sem.run_pure]
 exact ⟨_, _, hk, h0, ι, g1, h2.trans g2, shp_upd (fun i => Shp.step g2.stab _ _ (h3 i)) (by simp only [Shp]; exact ⟨[], rfl, by simp [ShpL]⟩), mem_upd (fun i => Mem.keep g2.keepD _ _ (h4 i)) (by simp only [Mem]; exact ⟨[], rfl, by simp [MemL]⟩)⟩
theorem aRaw_lenS (ht : P.underlying t = some (.map kt et)) (hx : eva e x = .mp b v) (hb : A[b]? = some (msB v c L)) (hk : K (aupd e d (.d (.v (.int .i64 L.length)))) A) : aRaw P n ⟨d, .call ⟨.builtin .len, #[x], #[t]⟩, ty, pos, af, gd⟩ e A K := by
 rintro C ec w hn ⟨h0, ι, h1, h2, h3, h4⟩
 have sx := eva_shp h3 x
 rw [hx] at sx
 obtain ⟨r, m, hι, hu, ho, hok⟩ := set_at h1 hb sx
 have hg : (getObj r).run P w = .ok (.map (esL L).toArray c) w := by simp [getObj, Sem.run, ho]
 have hrun : (Builtin.len_ #[t] ty #[ev ec x]).run P w = .ok (.int .i64 L.length) w := by
  rw [hu]
  simp [Builtin.len_, run_underlying ht, hg, goInt, esL]
 unfold vRaw execOp
 simp only [resolve, invoke, Sem.run_bind, Sem.run_pure, Result.andThen_ok]
 simp [Go.builtin, hrun]
 exact ⟨_, _, hk, h0, ι, h1, h2, shp_upd h3 (by simp [Shp]), mem_upd h4 (by simp [Mem, Rd, Value.oneCell'])⟩
end
theorem run_nextM (ty : TypeId) {r q s : Nat} {seen : List Nat} {es : List MapEntry} (hr : w.heap[r]? = some (.mapIter (some q) s seen.toArray s)) (hq : w.heap[q]? = some (.map es.toArray s)) (hold : ∀ x ∈ es, x.born < s) :
 ((∀ x ∈ es, x.born ∈ seen) ∧ (Instr.next (.pointer (some ⟨r, 0, none⟩)) false ty).run P w = .ok (.tuple #[.bool false]) w) ∨
 ∃ e ∈ es, e.born ∉ seen ∧ ∃ w1 : World, (w1 = w ∨ w1 = w.drew) ∧ (Instr.next (.pointer (some ⟨r, 0, none⟩)) false ty).run P w = .ok (.tuple #[.bool true, e.key, e.val]) { w1 with heap := w1.heap.setIfInBounds r (.mapIter (some q) s (seen ++ [e.born]).toArray s) } := by
 have htest : (!seen.toArray.isEmpty && !es.toArray.isEmpty && es.toArray.all (fun x => decide (x.born ≥ s))) = false := next_test_false seen.toArray es.toArray s s (by simpa using hold) (Nat.le_refl _)
 simp only [Instr.next, getObj, Sem.run_bind, Sem.run, hr, hq, Result.andThen, htest, Bool.false_eq_true, if_false]
 have hmem : ∀ x ∈ (Array.filter (fun e => !seen.toArray.contains e.born) es.toArray).toList, x ∈ es ∧ x.born ∉ seen := fun x hx => by simpa using hx
 have hall : Array.filter (fun e => !seen.toArray.contains e.born) es.toArray = #[] → ∀ x ∈ es, x.born ∈ seen := fun h x hx => by
  rw [Array.filter_eq_empty_iff] at h
  simpa using h x (by simpa using hx)
 generalize Array.filter (fun e => !seen.toArray.contains e.born) es.toArray = L at hmem hall ⊢
 have e1 : L.filter (fun x => decide (x.born < s)) = L := Array.filter_eq_self.2 (fun x hx => by simpa using hold x (hmem x (by simpa using hx)).1)
 have e2 : L.filter (fun x => decide (x.born ≥ s)) = #[] := by
  rw [Array.filter_eq_empty_iff]
  intro x hx
  have := hold x (hmem x (by simpa using hx)).1
  simp
  omega
 simp only [e1, e2, Array.append_empty]
 by_cases h0 : L.size = 0
 ·left
  have hL : L = #[] := Array.eq_empty_of_size_eq_zero h0
  refine ⟨hall hL, ?_⟩
  subst hL
  simp [choose, Sem.run, Question.forced]
 ·right
  have hne : L.isEmpty = false := by simp [Array.isEmpty, h0]
  simp only [hne, Bool.false_eq_true, if_false, Array.empty_append, Array.size_map]
  have hch : ∃ (j : Nat) (w1 : World), j < L.size ∧ (w1 = w ∨ w1 = w.drew) ∧ (choose (Question.mapNext L.size)).run P w = .ok j w1 := by
   by_cases hf : L.size ≤ 1
   ·exact ⟨0, w, by omega, .inl rfl, by simp [choose, Sem.run, Question.forced, hf]⟩
   ·exact ⟨_, w.drew, Nat.mod_lt _ (by omega), .inr rfl, by
     simp only [choose, Sem.run, Question.forced, decide_eq_true_eq, hf, if_false, Question.cut]
     rfl⟩
  obtain ⟨j, w1, hj, hal, hrun⟩ := hch
  have hw1 : w1.heap = w.heap := by rcases hal with rfl | rfl <;> rfl
  refine ⟨L[j], (hmem _ (by simp)).1, (hmem _ (by simp)).2, w1, hal, ?_⟩
  have hr1 : w1.heap[r]? = some (.mapIter (some q) s seen.toArray s) := by rw [hw1]; exact hr
  simp only [hrun, Array.getElem?_map, Array.getElem?_eq_getElem hj, Option.map_some, Sem.run_bind, setObj, Sem.run, hr1, Result.andThen]
  simp
theorem mitB_cells {N : Nat → Prop} {b v s q m : Nat} {S : List Nat} {k : Blk} (hb : A[b]? = some k) (hv : v = k.ver) (hι : ι b = some (q, m)) (hw : k.wr = true) : ∀ (i : Nat) (x : List AV), (mitB b v s S).els[i]? = some x → x.length = (mitB b v s S).sz ∧ ∀ (j : Nat) (a : AV), x[j]? = some a → ∃ u, (itCells q s s S).toArray[i * (mitB b v s S).sz + j]? = some u ∧ Val ι A N w a u ∧ u.oneCell' = true := by
 intro i x hi
 have hone : ∀ (y : Int), ∃ u, (Value.int .i64 y) = u ∧ Val ι A N w (.d (.v (.int .i64 y))) u ∧ u.oneCell' = true := fun y => ⟨_, rfl, ⟨by simp [Shp], by simp [Mem, Rd, Value.oneCell']⟩, rfl⟩
 have hz : (mitB b v s S).sz = 1 := rfl
 rw [hz]
 match i, hi with
 | 0, hi =>
   simp [mitB] at hi
   subst hi
   refine ⟨rfl, fun j a hj => ?_⟩
   match j, hj with
   | 0, hj =>
     simp at hj
     subst hj
     refine ⟨.map (some q), by simp [itCells], ⟨?_, by simp [Mem]⟩, rfl⟩
     simp only [Shp]
     exact ⟨⟨_, rfl⟩, k, hb, by omega, fun _ => ⟨q, m, hι, rfl⟩⟩
   | j + 1, hj => simp at hj
 | 1, hi =>
   simp [mitB] at hi
   subst hi
   refine ⟨rfl, fun j a hj => ?_⟩
   match j, hj with
   | 0, hj =>
     simp at hj
     subst hj
     obtain ⟨u, rfl, h2, h3⟩ := hone s
     exact ⟨_, by simp [itCells], h2, h3⟩
   | j + 1, hj => simp at hj
 | 2, hi =>
   simp [mitB] at hi
   subst hi
   refine ⟨rfl, fun j a hj => ?_⟩
   match j, hj with
   | 0, hj =>
     simp at hj
     subst hj
     obtain ⟨u, rfl, h2, h3⟩ := hone s
     exact ⟨_, by simp [itCells], h2, h3⟩
   | j + 1, hj => simp at hj
 | i + 3, hi =>
   simp only [mitB, List.getElem?_cons_succ, List.getElem?_map, Option.map_eq_some_iff] at hi
   obtain ⟨y, hy, rfl⟩ := hi
   refine ⟨rfl, fun j a hj => ?_⟩
   match j, hj with
   | 0, hj =>
     simp at hj
     subst hj
     obtain ⟨u, rfl, h2, h3⟩ := hone y
     exact ⟨_, by simp [itCells, hy], h2, h3⟩
   | j + 1, hj => simp at hj
theorem mit_at {b bm v s : Nat} {S : List Nat} {u : Value} {L : List (Nat × Int × Bool)} {c : Nat} (hR : Rel H ι A w) (hb : A[b]? = some (mitB bm v s S)) (hbm : A[bm]? = some (msB v c L)) (hs : Shp ι A (.ptr b 0 0 0) u) :
 ∃ r m q mq, ι b = some (r, m) ∧ u = .pointer (some ⟨r, 0, none⟩) ∧ ι bm = some (q, mq) ∧ w.heap[r]? = some (.mapIter (some q) s S.toArray s) ∧ w.heap[q]? = some (.map (esL L).toArray c) ∧ SetOk c L := by
 simp only [Shp] at hs
 obtain ⟨_, k', hk', hv1, hv2⟩ := hs
 rw [hb] at hk'
 obtain rfl := oSI hk'
 obtain ⟨r, m, hι, hu⟩ := hv2 rfl
 simp only [Nat.zero_mul, Nat.add_zero] at hu
 have hbr := hR.blk b _ hb
 unfold BlkRel at hbr
 rw [hι] at hbr
 obtain ⟨arr, a1, a2, a3, a4⟩ := hbr
 have hty : (mitB bm v s S).ty = 1000004 := rfl
 rcases a1 with a1 | ⟨o, a1, a5⟩
 ·have := a1.1
  rw [hty] at this
  exact absurd this (by decide)
 rw [hty] at a5
 rcases a5 with ⟨_, _, _, h, _⟩ | ⟨_, _, _, _, _, _, _, ⟨h, _⟩ | ⟨h, _⟩⟩ | ⟨_, _, _, _, _, _, h, _⟩ | ⟨_, _, _, h, _⟩ | ⟨q', since, seen, last, rfl, _, _, harr⟩
 ·exact absurd h (by decide)
 ·exact absurd h (by decide)
 ·exact absurd h (by decide)
 ·exact absurd h (by decide)
 ·exact absurd h (by decide)
 have hl := a2.2 (by rw [hty]; decide)
 rw [harr] at hl
 simp [itCells, mitB] at hl
 have hcell : ∀ (i : Nat) (a : AV), (mitB bm v s S).els[i]? = some [a] → ∃ u, (itCells q' since last seen)[i]? = some u ∧ Val ι A (Nn H ι A) w a u := by
  intro i a hi
  obtain ⟨_, h⟩ := a4 i _ hi
  obtain ⟨u, e1, e2, _⟩ := h 0 a rfl
  rw [harr] at e1
  exact ⟨u, by simpa [mitB] using e1, e2⟩
 have hint : ∀ (i : Nat) (y : Int), (mitB bm v s S).els[i]? = some [.d (.v (.int .i64 y))] → (itCells q' since last seen)[i]? = some (.int .i64 y) := by
  intro i y hi
  obtain ⟨u, e1, e2, _⟩ := hcell i _ hi
  simp only [Shp] at e2
  rw [e1, e2]
 obtain ⟨u0, e1, e2, _⟩ := hcell 0 _ rfl
 obtain ⟨q, mq, hιq, hu0, hoq, hok⟩ := set_at hR hbm e2
 have hq : q' = q := by
  rw [hu0] at e1
  simpa [itCells] using e1
 have h1 := hint 1 s rfl
 have h2 := hint 2 s rfl
 simp [itCells] at h1 h2
 have hs1 : since = s := by omega
 have hs2 : last = s := by omega
 have hseen : seen = S := by
  apply List.ext_getElem?
  intro i
  by_cases hi : i < S.length
  ·have h3 := hint (i + 3) (S[i] : Nat) (by simp [mitB, hi])
   simp only [itCells, List.getElem?_cons_succ, List.getElem?_map, Option.map_eq_some_iff] at h3
   obtain ⟨y, hy, hy2⟩ := h3
   have : y = S[i] := by simp at hy2; omega
   rw [hy, this, gEG hi]
  ·rw [List.getElem?_eq_none (by omega), List.getElem?_eq_none (by omega)]
 subst hq hs1 hseen
 rw [hs2] at a1
 exact ⟨r, m, _, mq, hι, hu, hιq, a1, hoq, hok⟩
section
variable {x : Operand} {t kt et : TypeId} {d : Option Nat} {ty : TypeId} {pos : String} {af : Array Edge} {gd : Option (Nat × Bool)} {b v c q s : Nat} {L : List (Nat × Int × Bool)} {S : List Nat} {k : Int}
theorem aRaw_rangeM (ht : P.underlying t = some (.map kt et)) (hx : eva e x = .mp b v) (hb : A[b]? = some (msB v c L)) (hk : K (aupd e d (.ptr A.length 0 0 0)) (A ++ [mitB b v c []])) : aRaw P n ⟨d, .range t x, ty, pos, af, gd⟩ e A K := by
 rintro C ec w hn ⟨h0, ι, h1, h2, h3, h4⟩
 have sx := eva_shp h3 x
 rw [hx] at sx
 obtain ⟨r, m, hι, hu, ho, hok⟩ := set_at h1 hb sx
 have hrun := run_range_map (P := P) w t kt et r (esL L).toArray c ht ho
 rw [← hu] at hrun
 obtain ⟨g1, g2⟩ := rel_newO (o := .mapIter (some r) c #[] c) h1 (fun c hc => Nat.lt_of_lt_of_le (h0.1 c hc) h2.size) (k := mitB b v c []) (arr := (itCells r c c []).toArray)
  (.inr (.inr (.inr (.inr (.inr ⟨r, c, [], c, rfl, rfl, rfl, rfl⟩))))) (by simp [mitB, itCells]) (fun _ => by simp [mitB, itCells]) (mitB_cells hb rfl hι rfl)
 unfold vRaw execOp
 simp only [Sem.run_bind, Sem.run_pure, hrun, Result.andThen_ok]
 refine ⟨_, _, hk, h0, _, g1, h2.trans g2, shp_upd (fun i => Shp.step g2.stab _ _ (h3 i)) ?_, mem_upd (fun i => Mem.keep g2.keepD _ _ (h4 i)) (by simp [Mem])⟩
 simp only [Shp]
 exact ⟨⟨_, rfl⟩, _, by simp; rfl, Nat.le_refl _, fun _ => ⟨w.heap.size, _, by simp [newI]; rfl, by simp⟩⟩
theorem val_tup {cs : List AV} {l : List Value} {N : Nat → Prop} (h1 : ShpL ι A cs l) (h2 : MemL N w cs l) (h3 : ∀ x ∈ l, x.oneCell' = true) : Shp ι A (.tup cs) (.tuple l.toArray) ∧ Mem N w (.tup cs) (.tuple l.toArray) := by
 refine ⟨?_, ?_⟩
 ·simp only [Shp]; exact ⟨l, rfl, h1⟩
 ·simp only [Mem]; exact ⟨l, rfl, h2⟩
theorem aRaw_nextM (hx : eva e x = .ptr q 0 0 0) (hq : A[q]? = some (mitB b v s S)) (hb : A[b]? = some (msB v s L))
 (hk : ∀ p ∈ L, p.1 ∉ S → K (aupd e d (.tup [.d (.v (.bool true)), .d (.v (.int .i64 p.2.1)), .d (.v (.bool p.2.2))])) (A.set q (mitB b v s (S ++ [p.1]))))
 (hk2 : (∀ p ∈ L, p.1 ∈ S) → K (aupd e d (.tup [.d (.v (.bool false))])) A) : aRaw P n ⟨d, .next x false, ty, pos, af, gd⟩ e A K := by
 rintro C ec w hn hS
 have hS0 := hS
 obtain ⟨h0, ι, h1, h2, h3, h4⟩ := hS
 have sx := eva_shp h3 x
 rw [hx] at sx
 obtain ⟨r, m, qq, mq, hι, hu, hιq, hr, ho, hok⟩ := mit_at h1 hq hb sx
 have hold : ∀ y ∈ esL L, y.born < s := fun y hy => by
  obtain ⟨p, hp, rfl⟩ := List.mem_map.1 hy
  exact hok.2.1 p hp
 rcases run_nextM (P := P) ty hr ho hold with ⟨hall, hrun⟩ | ⟨y, hy, hyS, w1, hw1, hrun⟩
 ·have hK := hk2 fun p hp => hall _ (List.mem_map_of_mem (f := fun x : Nat × Int × Bool => (⟨.int .i64 x.2.1, .bool x.2.2, x.1⟩ : MapEntry)) hp)
  rw [← hu] at hrun
  unfold vRaw execOp
  simp only [Sem.run_bind, Sem.run_pure, hrun, Result.andThen_ok]
  obtain ⟨v1, v2⟩ := val_tup (ι := ι) (A := A) (w := w) (N := Nn C.H ι A) (cs := [.d (.v (.bool false))]) (l := [.bool false]) (by simp [ShpL, Shp]) (by simp [MemL, Mem, Rd, Value.oneCell']) (by simp [Value.oneCell'])
  exact ⟨_, _, hK, h0, ι, h1, h2, shp_upd h3 v1, mem_upd h4 v2⟩
 ·obtain ⟨p, hp, rfl⟩ := List.mem_map.1 hy
  have hK := hk p hp hyS
  have hS1 : Sta C e A ec w1 := by
   rcases hw1 with rfl | rfl
   ·exact hS0
   ·exact hS0.drew
  obtain ⟨h0, ι, h1, h2, h3, h4⟩ := hS1
  have sx := eva_shp h3 x
  rw [hx] at sx
  obtain ⟨r', m', qq', mq', hι', hu', hιq', hr', ho', hok'⟩ := mit_at h1 hq hb sx
  have hrr : r' = r := by rw [hu] at hu'; simpa using hu'.symm
  subst hrr
  have hqq : qq' = qq := by
   have e1 : w1.heap = w.heap := by rcases hw1 with rfl | rfl <;> rfl
   rw [e1, hr] at hr'
   simpa using hr'.symm
  subst hqq
  obtain ⟨g1, g2⟩ := rel_turn (o := .mapIter (some qq') s (S ++ [p.1]).toArray s) (arr := (itCells qq' s s (S ++ [p.1])).toArray) h1 hq rfl hι' (k' := mitB b v s (S ++ [p.1])) rfl rfl rfl
   (.inr (.inr (.inr (.inr ⟨qq', s, _, s, rfl, rfl, rfl, rfl⟩)))) (by simp [mitB, itCells]) (mitB_cells hb rfl hιq' rfl)
  rw [← hu] at hrun
  unfold vRaw execOp
  simp only [Sem.run_bind, Sem.run_pure, hrun, Result.andThen_ok]
  obtain ⟨v1, v2⟩ := val_tup (ι := ι) (A := A.set q (mitB b v s (S ++ [p.1]))) (w := { w1 with heap := w1.heap.setIfInBounds r' (.mapIter (some qq') s (S ++ [p.1]).toArray s) }) (N := Nn C.H ι (A.set q (mitB b v s (S ++ [p.1])))) (cs := [.d (.v (.bool true)), .d (.v (.int .i64 p.2.1)), .d (.v (.bool p.2.2))]) (l := [.bool true, .int .i64 p.2.1, .bool p.2.2]) (by simp [ShpL, Shp]) (by simp [MemL, Mem, Rd, Value.oneCell']) (by simp [Value.oneCell'])
  exact ⟨_, _, hK, h0, ι, g1, h2.trans g2, shp_upd (fun i => Shp.step g2.stab _ _ (h3 i)) v1, mem_upd (fun i => Mem.keep g2.keepD _ _ (h4 i)) v2⟩
theorem aRaw_entryM {p : Nat × Int × Bool} (hx : eva e x = .ptr q 0 0 0) (hq : A[q]? = some (mitB b v s (S ++ [p.1]))) (hb : A[b]? = some (msB v s L)) (hp : p ∈ L)
 (hk : K (aupd e d (.tup [.d (.v (.int .i64 p.2.1)), .d (.v (.bool p.2.2))])) A) : aRaw P n ⟨d, .entry x, ty, pos, af, gd⟩ e A K := by
 rintro C ec w hn ⟨h0, ι, h1, h2, h3, h4⟩
 have sx := eva_shp h3 x
 rw [hx] at sx
 obtain ⟨r, m, qq, mq, hι, hu, hιq, hr, ho, hok⟩ := mit_at h1 hq hb sx
 have hf : (esL L).toArray.find? (·.born == p.1) = some ⟨.int .i64 p.2.1, .bool p.2.2, p.1⟩ := by
  rw [← Array.find?_toList]
  exact find_born ⟨.int .i64 p.2.1, .bool p.2.2, p.1⟩ (esL L) (by simpa [esL, Function.comp_def] using hok.1) (List.mem_map_of_mem (f := fun x : Nat × Int × Bool => (⟨.int .i64 x.2.1, .bool x.2.2, x.1⟩ : MapEntry)) hp)
 have hrun : (Instr.entry (ev ec x)).run P w = .ok (.tuple #[.int .i64 p.2.1, .bool p.2.2]) w := by
  rw [hu]
  have hg1 : (getObj r).run P w = .ok (.mapIter (some qq) s (S ++ [p.1]).toArray s) w := by simp [getObj, Sem.run, hr]
  have hg2 : (getObj qq).run P w = .ok (.map (esL L).toArray s) w := by simp [getObj, Sem.run, ho]
  rw [List.find?_toArray] at hf
  simp [Instr.entry, hg1, hg2, hf]
 unfold vRaw execOp
 simp only [Sem.run_bind, Sem.run_pure, hrun, Result.andThen_ok]
 obtain ⟨v1, v2⟩ := val_tup (ι := ι) (A := A) (w := w) (N := Nn C.H ι A) (cs := [.d (.v (.int .i64 p.2.1)), .d (.v (.bool p.2.2))]) (l := [.int .i64 p.2.1, .bool p.2.2]) (by simp [ShpL, Shp]) (by simp [MemL, Mem, Rd, Value.oneCell']) (by simp [Value.oneCell'])
 exact ⟨_, _, hk, h0, ι, h1, h2, shp_upd h3 v1, mem_upd h4 v2⟩
end
end
end Go.Proofs.YtagkfkhagjlmpaaGreat
