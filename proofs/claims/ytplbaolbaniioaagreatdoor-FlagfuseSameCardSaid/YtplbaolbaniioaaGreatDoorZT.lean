import Derived.Test.YtplbaolbaniioaaGreatDoorAt
import Derived.Laws.IdiomStrings
import Derived.Test.YtplbaolbaniioaaGreatDoorZP
import Derived.Test.YtplbaolbaniioaaGreatDoorAB
import Derived.Test.YtplbaolbaniioaaGreatDoorAs
import Derived.Test.YtplbaolbaniioaaGreatDoorBa
import Derived.Test.YtplbaolbaniioaaGreatDoorAn
import Derived.Test.YtplbaolbaniioaaGreatDoorAr
import Derived.Test.YtplbaolbaniioaaGreatDoorAo
import Derived.Test.YtplbaolbaniioaaGreatDoorAF
set_option linter.all false
set_option linter.all false
namespace Go.Proofs.YtplbaolbaniioaaGreatDoor
open Go.RowKit
def strD (s : ByteArray) : List (List D) := s.data.toList.map fun b => [.v (.int .u8 b.toNat)]
@[simp] theorem strD_len (s : ByteArray) : (strD s).length = s.size := by simp [strD]
theorem strD_get (s : ByteArray) (i : Nat) : (strD s)[i]? = (s.data.toList[i]?).map fun b => [D.v (.int .u8 b.toNat)] := by simp [strD]
section
variable {P : Program} {H : Nat → Prop} {ι ι' : Place} {A A' : AHeap} {w w' : World} {e : AEnv} {ec : Env} {C : Ctx} {n : Nat} {K : AKont}
theorem aRaw_s2b {src dst el : TypeId} {x : Operand} {d : Option Nat} {ty : TypeId} {pos : String} {af : Array Edge} {gd : Option (Nat × Bool)} {s : ByteArray} (h1 : P.underlying src = some .string) (h2 : P.underlying dst = some (.slice el)) (h3 : P.underlying el = some (.int .u8))
 (hx : eva e x = .d (.v (.string s))) (hs : s.size ≤ maxLen) (hk : K (aupd e d (.d (.sl 1 (strD s)))) A) : aRaw P n ⟨d, .convert src dst x, ty, pos, af, gd⟩ e A K := by
 rintro C ec w hn ⟨g0, ι, g1, g2, g3, g4⟩
 have ex : ev ec x = .string s := by have := eva_shp g3 x; rw [hx] at this; simpa [Shp] using this
 have hrun := run_bytes_of_string (P := P) w src dst el s h1 h2 h3
 obtain ⟨w', hw'⟩ : ∃ w', w' = w.drew.alloc (.cells (bytesRow s (grownCap w s.size 0 el)) el ((bytesRow s (grownCap w s.size 0 el)).size, (bytesRow s (grownCap w s.size 0 el)).size + 1)) := ⟨_, rfl⟩
 rw [← hw'] at hrun
 have hheap : w'.heap = w.heap.push (.cells (bytesRow s (grownCap w s.size 0 el)) el ((bytesRow s (grownCap w s.size 0 el)).size, (bytesRow s (grownCap w s.size 0 el)).size + 1)) := by rw [hw']; rfl
 have hsz : w'.heap.size = w.heap.size + 1 := by rw [hheap]; simp
 have hxt : Ext w w' := ⟨by rw [hw']; rfl, by rw [hw']; rfl, by rw [hw']; rfl, by omega, fun k hk => by
  rw [hheap, Array.getElem?_push_lt hk]
  simp [hk]⟩
 obtain ⟨r1, r2⟩ := rel_ext g1 hxt
 have hcell : ∀ j b, s.data.toList[j]? = some b → w'.cell? ⟨w.heap.size, j, none⟩ = some (.int .u8 b.toNat) := fun j b hb => by
  have hj := (gSI.1 hb).1
  have hat : w'.heap[w.heap.size]? = some (.cells (bytesRow s (grownCap w s.size 0 el)) el ((bytesRow s (grownCap w s.size 0 el)).size, (bytesRow s (grownCap w s.size 0 el)).size + 1)) := by rw [hheap]; simp
  unfold World.cell?
  simp only [hat]
  have hj2 : j < s.data.size := by simpa using hj
  have hb2 : s.data[j]? = some b := by rw [← Array.getElem?_toList]; exact hb
  have hsd : s.size = s.data.size := rfl
  simp [bytesRow, Array.getElem?_append, hj2, hb2]
  intro hge
  omega
 have hnN : ¬ Nn C.H ι A w.heap.size := by
  rintro (h | ⟨b, k, q, e1, _, e3⟩)
  ·exact absurd (g0.1 _ h) (by have := g2.size; omega)
  ·exact absurd (g1.hid b k _ q e1 e3).2 (by omega)
 have hval : Val ι A (Nn C.H ι A) w' (.d (.sl 1 (strD s))) (.slice (some ⟨w.heap.size, 0, none⟩) s.size (grownCap w s.size 0 el)) := by
  refine d_val ?_
  simp only [Rd, strD_len]
  refine ⟨_, _, rfl, grownCap_ge w s.size 0 el, grownCap_le_maxLen w s.size 0 el hs, .inr ⟨w.heap.size, 0, rfl, ⟨by omega, hnN⟩, RdS.of fun i x hi => ?_⟩⟩
  rw [strD_get, Option.map_eq_some_iff] at hi
  obtain ⟨b, hb, rfl⟩ := hi
  refine ⟨rfl, ?_⟩
  simp only [RdE, Nat.zero_add, Nat.mul_one, and_true]
  exact ⟨_, hcell i b hb, by simp [Rd, Value.oneCell']⟩
 unfold vRaw execOp
 simp only [Sem.run_bind, Sem.run_pure, ex, hrun, Result.andThen_ok]
 exact ⟨_, _, hk, g0, ι, r1, g2.trans r2, shp_upd (fun i => Shp.step r2.stab _ _ (g3 i)) hval.1, mem_upd (fun i => Mem.keep r2.keepD _ _ (g4 i)) hval.2⟩
def cpyA (P : Program) (el : TypeId) (b ver : Nat) : Nat → List Value → AHeap → Option AHeap
 | _, [], A => some A
 | i, z :: zs, A => match astv P A el (.ptr b ver i 0) (.d (.v z)) with
   | some A1 => cpyA P el b ver (i + 1) zs A1
   | none => none
theorem cpy_sound {el : TypeId} {b ver c m : Nat} : ∀ (zs : List Value) (i : Nat) (A A' : AHeap) (w : World), (∀ x ∈ zs, x.oneCell' = true) → cpyA P el b ver i zs A = some A' → Rel H ι A w → (∃ k, curB A b ver = some k ∧ k.sz = 1) → ι b = some (c, m) →
 ∃ w', sto w c i zs = some w' ∧ Rel H ι A' w' ∧ Step ι A w ι A' w'
 | [], i, A, A', w, _, h, hR, _, _ => by
   simp only [cpyA, Option.some.injEq] at h
   subst h
   exact ⟨w, rfl, hR, Step.refl _ _ _⟩
 | x :: zs, i, A, A', w, hone, h, hR, ⟨k, hk, hk1⟩, hι => by
   have hx := hone x List.mem_cons_self
   have hxc : x.cells.toList = [x] := by
    clear h hone
    cases x <;> first | rfl | (simp [Value.oneCell'] at hx)
   simp only [cpyA] at h
   split at h
   case h_2 => cases h
   rename_i A1 hA1
   obtain ⟨w1, s1, s2, s3⟩ := astv_sound (x := x) hA1 hR (shp_ptr (i := i) (o := 0) hk hι) (by simp [Shp]) (by simp only [Mem, Rd]; exact ⟨by trivial, hx⟩)
   rw [hk1] at s1
   have hs1 : sto w c i [x] = some w1 := by
    simp only [stv, Nat.mul_one, Nat.add_zero] at s1
    split at s1
    ·split at s1
     ·rwa [hxc] at s1
     ·cases s1
    ·cases s1
   have hk' : ∃ k, curB A1 b ver = some k ∧ k.sz = 1 := by
    unfold astv at hA1
    simp only [hk] at hA1
    split at hA1
    ·split at hA1
     ·simp only [Option.some.injEq] at hA1
      subst hA1
      have hb := (curB_spec hk)
      have hlt := (gSI.1 hb.1).1
      have hty := curB_ty hk
      have hgen : ∀ k' : Blk, k'.ver = k.ver → k'.ty = k.ty → k'.sz = 1 → ∃ k2, curB (A.set b k') b ver = some k2 ∧ k2.sz = 1 := fun k' g1 g0 g2 => ⟨k', by
       unfold curB
       rw [gSS hlt]
       simp [g1, hb.2, g0, hty], g2⟩
      exact hgen _ rfl rfl hk1
     ·cases hA1
    ·cases hA1
   obtain ⟨w2, t1, t2, t3⟩ := cpy_sound zs (i + 1) A1 A' w1 (fun y hy => hone y (List.mem_cons_of_mem _ hy)) h s2 hk' hι
   refine ⟨w2, ?_, t2, s3.trans t3⟩
   simp only [sto] at hs1 ⊢
   split at hs1
   ·rename_i hc
    rw [if_pos hc]
    simp only [Option.some.injEq] at hs1
    rw [hs1]
    exact t1
   ·cases hs1
theorem aRaw_copy {x y : Operand} {t ty' : TypeId} {el b ver i : Nat} {zs : List Value} {k : Blk} {ti : TypeInfo} {d : Option Nat} {ty : TypeId} {pos : String} {af : Array Edge} {gd : Option (Nat × Bool)} {A' : AHeap}
 (hu : P.underlying t = some (.slice el)) (hti : P.info? el = some ti) (hsz : ti.size = 1) (hx : eva e x = .own b ver i zs.length) (hy : eva e y = .d (.sl 1 (zs.map fun z => [D.v z]))) (hone : ∀ z ∈ zs, z.oneCell' = true) (hz0 : zs ≠ [])
 (hkb : curB A b ver = some k) (hk1 : k.sz = 1) (h : cpyA P el b ver i zs A = some A') (hk : K (aupd e d (.d (.v (.int .i64 zs.length)))) A') :
 aRaw P n ⟨d, .call ⟨.builtin .copy, #[x, y], #[t, ty']⟩, ty, pos, af, gd⟩ e A K := by
 rintro C ec w hn ⟨h0, ι, h1, h2, h3, h4⟩
 have hxs := eva_shp h3 x
 have hym := eva_mem h4 y
 rw [hx] at hxs
 rw [hy] at hym
 obtain ⟨w', hrun, hR', hS'⟩ : ∃ w', (Builtin.copy_ #[t, ty'] ty #[ev ec x, ev ec y]).run P w = .ok (.int .i64 zs.length) w' ∧ Rel C.H ι A' w' ∧ Step ι A w ι A' w' := by
  simp only [Mem, Rd] at hym
  obtain ⟨a, cp, hyu, hlc, _, hsl⟩ := hym
  simp only [List.length_map] at hyu hlc
  rcases own_shp hkb hxs with ⟨h5, _, _⟩ | ⟨c, m, cap, hι, hxu, _, _⟩
  ·exact absurd (List.length_eq_zero_iff.1 h5) hz0
  ·obtain ⟨b2, o2, rfl, _, hrs⟩ := hsl.resolve_left (by simpa using hz0)
   obtain ⟨w', t1, t2, t3⟩ := cpy_sound zs i A A' w hone h h1 ⟨k, hkb, hk1⟩ hι
   refine ⟨w', ?_, t2, t3⟩
   have hadd : ∀ (c o p : Nat), (⟨c, o, none⟩ : Addr).add p = ⟨c, o + p, none⟩ := fun c o p => by simp only [Addr.add]; split <;> simp_all
   have hf : (Builtin.firstCells 1 zs.length (.slice (some ⟨b2, o2, none⟩) zs.length cp)).run P w = .ok zs.toArray w := run_firstCells_some (P := P) w 1 zs.length _ _ _ zs (by simp) fun j v hj => by
    obtain ⟨_, g2⟩ := hrs.get (i := j) (x := [D.v v]) (by simp [hj])
    simp only [RdE] at g2
    obtain ⟨⟨u, g3, g4⟩, _⟩ := g2
    simp only [Rd] at g4
    rw [hadd]
    rw [Nat.mul_one] at g3
    rw [g3, g4.1]
   have hst := run_sto (P := P) zs w w' i 0 ⟨c, i * k.sz, none⟩ rfl rfl (by rw [hk1]; simp) t1
   rw [hxu, hyu]
   simp [Builtin.copy_, run_underlying hu, Builtin.lenOf, sizeOf, typeInfo, hti, hsz, hf, hst, goInt]
 unfold vRaw execOp
 simp only [resolve, invoke, Sem.run_bind, Sem.run_pure, Result.andThen_ok]
 simp only [Go.builtin, List.map_toArray, List.map_cons, List.map_nil, Sem.run_bind, hrun, Result.andThen_ok, Sem.run_pure]
 exact ⟨_, _, hk, h0, ι, hR', h2.trans hS', shp_upd (fun i => Shp.step hS'.stab _ _ (h3 i)) (by simp [Shp]), mem_upd (fun i => Mem.keep hS'.keepD _ _ (h4 i)) (by simp [Mem, Rd, Value.oneCell'])⟩
end
def rsh (m : Nat) : AV → AV
 | .own b ver i len => if b = m then .any else .own b ver i len
 | .ptr b ver i o => if b = m ∧ i ≠ 0 then .any else .ptr b ver i o
 | .agg cs => .agg (rshL m cs)
 | .tup cs => .tup (rshL m cs)
 | .fn f fs cs => .fn f (rshL m fs) (rshL m cs)
 | .mp b ver => .mp b ver
 | .ifc t c => .ifc t (rsh m c)
 | .any => .any
 | .d x => .d x
 | .ip cs => .ip cs
where rshL (m : Nat) : List AV → List AV
 | [] => []
 | c :: cs => rsh m c :: rshL m cs
def rshB (m : Nat) (k : Blk) : Blk := ⟨k.ver, k.wr, k.ty, k.sz, k.els.map fun x => x.map (rsh m)⟩
attribute [simp] rsh rsh.rshL rshB
theorem flatG_get {α : Type} {s : Nat} : ∀ {l : List (List α)}, (∀ x ∈ l, x.length = s) → ∀ i j, j < s → l.flatten[i * s + j]? = (l[i]?).bind (·[j]?)
 | [], _, i, j, _ => by simp
 | x :: l, h, 0, j, hj => by
   have := h x List.mem_cons_self
   simp only [List.flatten_cons, Nat.zero_mul, Nat.zero_add, List.getElem?_cons_zero, Option.bind_some]
   exact gAL (by omega)
 | x :: l, h, i + 1, j, hj => by
   have h1 := h x List.mem_cons_self
   have ih := flatG_get (fun y hy => h y (List.mem_cons_of_mem _ hy)) i j hj
   rw [List.flatten_cons, List.getElem?_append_right (by rw [Nat.add_mul]; omega), h1, List.getElem?_cons_succ, ← ih]
   congr 1
   rw [Nat.add_mul]
   omega
theorem flatG_len {α : Type} {s : Nat} : ∀ {l : List (List α)}, (∀ x ∈ l, x.length = s) → l.flatten.length = l.length * s
 | [], _ => by simp
 | x :: l, h => by
   rw [List.flatten_cons, List.length_append, flatG_len fun y hy => h y (List.mem_cons_of_mem _ hy), h x List.mem_cons_self, List.length_cons, Nat.add_mul]
   omega
section
variable {P : Program} {H : Nat → Prop} {ι ι' : Place} {A A' : AHeap} {w w' : World} {e : AEnv} {ec : Env} {C : Ctx} {n : Nat} {K : AKont}
def rshH (A : AHeap) (m : Nat) (k' : Blk) : AHeap := (A.set m k').map (rshB m)
theorem rshH_get {m : Nat} {k k' : Blk} (hm : A[m]? = some k) {b : Nat} {q : Blk} (h : (rshH A m k')[b]? = some q) : (b = m ∧ q = rshB m k') ∨ (b ≠ m ∧ ∃ q0, A[b]? = some q0 ∧ q = rshB m q0) := by
 unfold rshH at h
 rw [List.getElem?_map, Option.map_eq_some_iff] at h
 obtain ⟨q0, h1, rfl⟩ := h
 by_cases hb : b = m
 ·subst hb
  rw [gSS (gSI.1 hm).1] at h1
  exact .inl ⟨rfl, by rw [oSI h1]⟩
 ·rw [gSN (Ne.symm hb)] at h1
  exact .inr ⟨hb, q0, h1, rfl⟩
theorem rshH_at {m : Nat} {k k' : Blk} (hm : A[m]? = some k) : (rshH A m k')[m]? = some (rshB m k') := by
 unfold rshH
 rw [List.getElem?_map, gSS (gSI.1 hm).1]
 rfl
theorem rshH_ne {m b : Nat} {k' q : Blk} (hb : b ≠ m) (h : A[b]? = some q) : (rshH A m k')[b]? = some (rshB m q) := by
 unfold rshH
 rw [List.getElem?_map, gSN (Ne.symm hb), h]
 rfl
mutual
theorem rsh_shp {m : Nat} {k k' : Blk} (hm : A[m]? = some k) (hv : k'.ver = k.ver) : ∀ (c : AV) (u : Value), Shp ι A c u → Shp ι (rshH A m k') (rsh m c) u
 | .any, u, h => by simp [Shp]
 | .d (.v x), u, h => by simpa [Shp] using h
 | .d (.sl _ xs), u, h => by simpa [Shp] using h
 | .own b ver i len, u, h => by
   simp only [rsh]
   split
   ·simp [Shp]
   ·rename_i hb
    simp only [Shp] at h ⊢
    obtain ⟨h0, q, h1, h2, h3⟩ := h
    exact ⟨h0, rshB m q, rshH_ne hb h1, h2, h3⟩
 | .ptr b ver i o, u, h => by
   simp only [rsh]
   split
   ·simp [Shp]
   ·rename_i hb
    simp only [Shp] at h ⊢
    obtain ⟨h0, q, h1, h2, h3⟩ := h
    by_cases hbm : b = m
    ·subst hbm
     obtain rfl : i = 0 := Classical.byContradiction fun hi => hb ⟨rfl, hi⟩
     rw [hm] at h1
     obtain rfl := oSI h1
     refine ⟨h0, _, rshH_at hm, by show ver ≤ k'.ver; omega, fun hq => ?_⟩
     obtain ⟨c, q2, g1, g2⟩ := h3 (by show ver = k.ver; have : ver = k'.ver := hq; omega)
     exact ⟨c, q2, g1, by simpa using g2⟩
    ·exact ⟨h0, rshB m q, rshH_ne hbm h1, h2, h3⟩
 | .ip _, u, h => by simpa [Shp] using h
 | .agg cs, u, h => by
   simp only [rsh, Shp] at h ⊢
   obtain ⟨l, h1, h2⟩ := h
   exact ⟨l, h1, rshL_shp hm hv cs l h2⟩
 | .tup cs, u, h => by
   simp only [rsh, Shp] at h ⊢
   obtain ⟨l, h1, h2⟩ := h
   exact ⟨l, h1, rshL_shp hm hv cs l h2⟩
 | .fn f fs cs, u, h => by
   simp only [rsh, Shp] at h ⊢
   obtain ⟨l, l', h1, h2, h3⟩ := h
   exact ⟨l, l', h1, rshL_shp hm hv fs l h2, rshL_shp hm hv cs l' h3⟩
 | .mp b ver, u, h => by
   simp only [rsh, Shp] at h ⊢
   obtain ⟨h0, q, h1, h2, h3⟩ := h
   by_cases hbm : b = m
   ·subst hbm
    rw [hm] at h1
    obtain rfl := oSI h1
    exact ⟨h0, _, rshH_at hm, by show ver ≤ k'.ver; omega, fun hq => h3 (by have : ver = k'.ver := hq; omega)⟩
   ·exact ⟨h0, rshB m q, rshH_ne hbm h1, h2, h3⟩
 | .ifc t c, u, h => by
   simp only [rsh, Shp] at h ⊢
   obtain ⟨v, h1, h2⟩ := h
   exact ⟨v, h1, rsh_shp hm hv c v h2⟩
theorem rshL_shp {m : Nat} {k k' : Blk} (hm : A[m]? = some k) (hv : k'.ver = k.ver) : ∀ (cs : List AV) (l : List Value), ShpL ι A cs l → ShpL ι (rshH A m k') (rsh.rshL m cs) l
 | [], l, h => by simpa [ShpL] using h
 | c :: cs, l, h => by
   simp only [rsh.rshL, ShpL] at h ⊢
   obtain ⟨u, l', h1, h2, h3⟩ := h
   exact ⟨u, l', h1, rsh_shp hm hv c u h2, rshL_shp hm hv cs l' h3⟩
end
mutual
theorem rsh_mem {N : Nat → Prop} (m : Nat) : ∀ (c : AV) (u : Value), Mem N w c u → Mem N w (rsh m c) u
 | .any, u, h => by simp [Mem]
 | .d x, u, h => by simpa using h
 | .own b ver i len, u, h => by simp only [rsh]; split <;> simp [Mem]
 | .ptr b ver i o, u, h => by simp only [rsh]; split <;> simp [Mem]
 | .ip _, u, h => by simpa using h
 | .agg cs, u, h => by
   simp only [rsh, Mem] at h ⊢
   obtain ⟨l, h1, h2, h3⟩ := h
   exact ⟨l, h1, rshL_mem m cs l h2, h3⟩
 | .tup cs, u, h => by
   simp only [rsh, Mem] at h ⊢
   obtain ⟨l, h1, h2⟩ := h
   exact ⟨l, h1, rshL_mem m cs l h2⟩
 | .fn f fs cs, u, h => by
   simp only [rsh, Mem] at h ⊢
   obtain ⟨l, l', h1, h2, h3⟩ := h
   exact ⟨l, l', h1, rshL_mem m fs l h2, rshL_mem m cs l' h3⟩
 | .mp b ver, u, h => by simp [Mem]
 | .ifc t c, u, h => by
   simp only [rsh, Mem] at h ⊢
   obtain ⟨v, h1, h2⟩ := h
   exact ⟨v, h1, rsh_mem m c v h2⟩
theorem rshL_mem {N : Nat → Prop} (m : Nat) : ∀ (cs : List AV) (l : List Value), MemL N w cs l → MemL N w (rsh.rshL m cs) l
 | [], l, h => by simpa [MemL] using h
 | c :: cs, l, h => by
   simp only [rsh.rshL, MemL] at h ⊢
   obtain ⟨u, l', h1, h2, h3⟩ := h
   exact ⟨u, l', h1, rsh_mem m c u h2, rshL_mem m cs l' h3⟩
end
theorem Sub.resh {m sz : Nat} {els : List (List AV)} {k : Blk} (hm : A[m]? = some k) (hn : n ≤ m) (hty : k.ty < 1000000) (hrow : ∀ x ∈ els, x.length = sz) (hold : ∀ x ∈ k.els, x.length = k.sz) (hsz : 0 < sz) (hksz : 0 < k.sz) (hfl : els.flatten = k.els.flatten) :
 Sub n e A (fun i => rsh m (e i)) (rshH A m ⟨k.ver, k.wr, k.ty, sz, els⟩) := by
 rintro C ec w hnn ⟨h0, ι, h1, h2, h3, h4⟩
 obtain ⟨k', hk'⟩ : ∃ k' : Blk, k' = ⟨k.ver, k.wr, k.ty, sz, els⟩ := ⟨_, rfl⟩
 have hver : k'.ver = k.ver := by rw [hk']
 rw [← hk']
 have hmu : ∀ c, Mu ι (rshH A m k') c → Mu ι A c := by
  rintro c ⟨b, q, p, g1, g2, g3⟩
  rcases rshH_get hm g1 with ⟨rfl, rfl⟩ | ⟨_, q0, e1, rfl⟩
  ·exact ⟨b, k, p, hm, by rw [hk'] at g2; exact g2, g3⟩
  ·exact ⟨b, q0, p, e1, g2, g3⟩
 have hN : ∀ c, Nn C.H ι (rshH A m k') c → Nn C.H ι A c := fun c h => h.imp id (hmu c)
 have hv : ∀ c u, Val ι A (Nn C.H ι A) w c u → Val ι (rshH A m k') (Nn C.H ι (rshH A m k')) w (rsh m c) u := fun c u h => ⟨rsh_shp hm hver c u h.1, (rsh_mem m c u h.2).weak hN⟩
 refine ⟨h0, ι, ⟨fun b q hb => ?_, fun b q c p hb hc => ?_, fun b b' q q' c p p' g1 g2 => ?_⟩, ⟨fun b q hb => ?_, fun c hc => h2.newM c (hmu c hc), h2.keep, h2.size, h2.os, h2.tape, h2.output⟩, fun i => (hv _ _ ⟨h3 i, h4 i⟩).1, fun i => (hv _ _ ⟨h3 i, h4 i⟩).2⟩
 ·rcases rshH_get hm hb with ⟨rfl, rfl⟩ | ⟨hne, q0, e1, rfl⟩
  ·have := h1.blk b k hm
   unfold BlkRel at this ⊢
   split
   ·rename_i c q hι
    rw [hι] at this
    obtain ⟨arr, a1, a2, a3, a4⟩ := this
    have hlen : els.length * sz = k.els.length * k.sz := by rw [← flatG_len hrow, ← flatG_len hold, hfl]
    subst hk'
    refine ⟨arr, .inl ⟨hty, a1.cells hty⟩, ⟨a2.1, fun h => absurd hty h⟩, by simpa [hlen] using a3, fun i x hi => ?_⟩
    simp only [rshB, List.getElem?_map, Option.map_eq_some_iff] at hi ⊢
    obtain ⟨y, hy, rfl⟩ := hi
    have hyl := hrow y (gMO hy)
    refine ⟨by simpa using hyl, fun j av hj => ?_⟩
    simp only [List.getElem?_map, Option.map_eq_some_iff] at hj
    obtain ⟨av0, hj0, rfl⟩ := hj
    have hjl : j < sz := by have := (gSI.1 hj0).1; omega
    have hf := flatG_get hrow i j hjl
    rw [hy, Option.bind_some, hj0, hfl] at hf
    obtain ⟨p, hp⟩ : ∃ p, i * sz + j = p := ⟨_, rfl⟩
    rw [hp] at hf
    have hf2 := flatG_get hold (p / k.sz) (p % k.sz) (Nat.mod_lt _ hksz)
    rw [Nat.mul_comm, Nat.div_add_mod, hf] at hf2
    cases hy2 : k.els[p / k.sz]? with
    | none => rw [hy2] at hf2; cases hf2
    | some y2 =>
      rw [hy2, Option.bind_some] at hf2
      obtain ⟨u, g1, g2, g3⟩ := (a4 _ y2 hy2).2 _ av0 hf2.symm
      refine ⟨u, ?_, hv _ _ g2, g3⟩
      rw [Nat.mul_comm, Nat.div_add_mod] at g1
      rw [hp]
      exact g1
   ·rename_i hι
    rw [hι] at this
    simp only at this
    subst hk'
    rw [this] at hfl
    have : els = [] := by
     have hl := flatG_len hrow
     rw [hfl] at hl
     simp at hl
     rcases Nat.eq_zero_or_pos els.length with h | h
     ·exact List.length_eq_zero_iff.1 h
     ·have := Nat.mul_pos h hsz
      omega
    simp [this]
  ·have := h1.blk b q0 e1
   unfold BlkRel at this ⊢
   split
   ·rename_i c q hι
    rw [hι] at this
    obtain ⟨arr, a1, a2, a3, a4⟩ := this
    refine ⟨arr, a1, ⟨a2.1, by simpa using a2.2⟩, by simpa using a3, fun i x hi => ?_⟩
    simp only [rshB, List.getElem?_map, Option.map_eq_some_iff] at hi ⊢
    obtain ⟨y, hy, rfl⟩ := hi
    refine ⟨by simpa using (a4 i y hy).1, fun j av hj => ?_⟩
    simp only [List.getElem?_map, Option.map_eq_some_iff] at hj
    obtain ⟨av0, hj0, rfl⟩ := hj
    obtain ⟨u, g1, g2, g3⟩ := (a4 i y hy).2 j av0 hj0
    exact ⟨u, g1, hv _ _ g2, g3⟩
   ·rename_i hι
    rw [hι] at this
    simp only at this
    simp [this]
 ·rcases rshH_get hm hb with ⟨rfl, rfl⟩ | ⟨_, q0, e1, rfl⟩
  ·exact h1.hid b k c p hm hc
  ·exact h1.hid b q0 c p e1 hc
 ·have hx : ∀ (b : Nat) (q : Blk), (rshH A m k')[b]? = some q → ∃ q0, A[b]? = some q0 := fun b q h => by
   rcases rshH_get hm h with ⟨rfl, _⟩ | ⟨_, q0, e1, _⟩
   ·exact ⟨k, hm⟩
   ·exact ⟨q0, e1⟩
  obtain ⟨q0, e1⟩ := hx b q g1
  obtain ⟨q1, e2⟩ := hx b' q' g2
  exact h1.inj b b' q0 q1 c p p' e1 e2
 ·obtain ⟨q', g1, g2, g3⟩ := h2.stab b q hb
  have hlt := (gSI.1 hb).1
  exact ⟨rshB m q', rshH_ne (by omega) g1, g2, g3⟩
end
def u8d (B : List Int) : List (List D) := B.map fun n => [.v (.int .u8 n)]
@[simp] theorem u8d_len (B : List Int) : (u8d B).length = B.length := by simp [u8d]
@[simp] theorem u8d_get (B : List Int) (i : Nat) : (u8d B)[i]? = (B[i]?).map fun n => [.v (.int .u8 n)] := by simp [u8d]
@[simp] theorem u8d_at (B : List Int) (i : Nat) (h : i < (u8d B).length) : (u8d B)[i] = [.v (.int .u8 (B[i]'(by simpa using h)))] := by simp [u8d]
@[simp] theorem u8d_take (B : List Int) (n : Nat) : (u8d B).take n = u8d (B.take n) := by simp [u8d]
@[simp] theorem u8d_drop (B : List Int) (n : Nat) : (u8d B).drop n = u8d (B.drop n) := by simp [u8d]
structure Sec where
 nm : ByteArray
 ad : Int
 da : List Int
 w : Bool
 x : Bool
def Sec.d (s : Sec) : List D := [.v (.string s.nm), .v (.int .u32 s.ad), .sl 1 (u8d s.da), .v (.bool s.w), .v (.bool s.x)]
theorem Sec.d_eq (s : Sec) : Sec.d s = [.v (.string s.nm), .v (.int .u32 s.ad), .sl 1 (u8d s.da), .v (.bool s.w), .v (.bool s.x)] := rfl
@[simp] theorem Sec.d_len (s : Sec) : (Sec.d s).length = 5 := rfl
def secs (l : List Sec) : List (List D) := l.map Sec.d
@[simp] theorem secs_len (l : List Sec) : (secs l).length = l.length := by simp [secs]
@[simp] theorem secs_get (l : List Sec) (i : Nat) : (secs l)[i]? = (l[i]?).map Sec.d := by simp [secs]
@[simp] theorem secs_at (l : List Sec) (i : Nat) (h : i < (secs l).length) : (secs l)[i] = Sec.d (l[i]'(by simpa using h)) := by simp [secs]
@[simp] theorem secs_take (l : List Sec) (n : Nat) : (secs l).take n = secs (l.take n) := by simp [secs]
@[simp] def seV (s : Sec) : AV := .agg [.d (.v (.string s.nm)), aI .u32 s.ad, .d (.sl 1 (u8d s.da)), aB s.w, aB s.x]
abbrev seB (s : Sec) : Blk := ⟨0, true, 80, 5, [[.d (.v (.string s.nm)), aI .u32 s.ad, .d (.sl 1 (u8d s.da)), aB s.w, aB s.x]]⟩
def SecFit (s : Sec) : Prop := (0 ≤ s.ad ∧ s.ad < 4294967296) ∧ s.da.length ≤ 1000000 ∧ s.nm.size ≤ maxLen
def Gr.d (g : Gr) : List D := [.v (.int .u32 g.ad), .sl 2 (bls' g.b)]
theorem Gr.d_eq (g : Gr) : Gr.d g = [.v (.int .u32 g.ad), .sl 2 (bls' g.b)] := rfl
@[simp] theorem Gr.d_len (g : Gr) : (Gr.d g).length = 2 := rfl
def grs (l : List Gr) : List (List D) := l.map Gr.d
@[simp] theorem grs_len (l : List Gr) : (grs l).length = l.length := by simp [grs]
@[simp] theorem grs_get (l : List Gr) (i : Nat) : (grs l)[i]? = (l[i]?).map Gr.d := by simp [grs]
@[simp] theorem grs_at (l : List Gr) (i : Nat) (h : i < (grs l).length) : (grs l)[i] = Gr.d (l[i]'(by simpa using h)) := by simp [grs]
@[simp] theorem grs_take (l : List Gr) (n : Nat) : (grs l).take n = grs (l.take n) := by simp [grs]
theorem u64w {n : Int} (h : 0 ≤ n ∧ n < 18446744073709551616) : IntKind.u64.wrap n = n := by
 simp [IntKind.wrap, IntKind.signed, IntKind.bits]
 omega
def okc (c : Int) : Bool := !((decide (c < 97) || decide (122 < c)) && (decide (c < 65) || decide (90 < c)) && (decide (c < 48) || decide (57 < c)) && !decide (c = 95) && !decide (c = 46))
def nameB (s : ByteArray) : Bool := (s.data.toList.all fun b => okc b.toNat) && decide (1 ≤ s.size) && decide (s.size ≤ 32)
set_option maxRecDepth 100000 in
theorem secname_af (s : ByteArray) (hs : s.size ≤ maxLen) : AF Tryz.prog 31 [.d (.v (.string s))] (aB (nameB s)) := by
 obtain ⟨R, hR⟩ : ∃ R, nameB s = R := ⟨_, rfl⟩
 rw [hR]
 have hl : s.data.toList.length = s.size := by rw [Array.length_toList]; rfl
 refine af_of Tryz.func31 rfl (by kernel_rfl) (by simp [Tryz.ntmps31]) fun _ => ?_; simp [Tryz.f31, Ex.d_eq]
 refine aRaw_s2b (el := 5) (s := s) (by kernel_rfl) (by kernel_rfl) (by kernel_rfl) (by simp) hs ?_
 simp
 refine aLoop_st (fun i : Nat => [(0, .d (.v (.string s))), (6, .d (.sl 1 (strD s))), (7, aI .i64 s.size), (8, aI .i64 i)]) (fun _ => []) (fun i => i ≤ s.size ∧ (s.data.toList.take i).all (fun b => okc b.toNat) = true) (fun i => s.size - i) 0 (Sub.refl _ _ _) 0 (by omega) (by simp) (by simp) ⟨by omega, by simp⟩ ?_
 rintro i ⟨hi, hall⟩ K hK
 rcases Nat.lt_or_ge i s.size with hlt | hge
 case inr =>
  obtain rfl : i = s.size := by omega
  rw [← hl, List.take_length] at hall
  unfold nameB at hR
  rw [hall] at hR
  simp at hR
  subst hR
  by_cases h1 : 1 ≤ s.size
  ·by_cases h2 : s.size ≤ 32
   ·simp [h1, h2, show (1 : Int) ≤ s.size by omega, show (s.size : Int) ≤ 32 by omega]
   ·simp [h1, h2, show (1 : Int) ≤ s.size by omega, show ¬ (s.size : Int) ≤ 32 by omega]
  ·simp [h1, show ¬ (1 : Int) ≤ s.size by omega]
 obtain ⟨b, hb⟩ : ∃ b, s.data.toList[i]? = some b := ⟨_, gEG (by omega)⟩
 obtain ⟨c, hc⟩ : ∃ c : Int, (b.toNat : Int) = c := ⟨_, rfl⟩
 have hd : (strD s)[i]? = some [D.v (.int .u8 c)] := by rw [strD_get, hb, ← hc]; rfl
 have hd2 := (gSI.1 hd).2
 have hts : s.data.toList.take (i + 1) = s.data.toList.take i ++ [b] := by rw [List.take_add_one, hb]; rfl
 have hsw : IntKind.i64.wrap ((i : Int) + 1) = ((i + 1 : Nat) : Int) := succ_wrap hlt hs
 have hno : okc b.toNat = false → R = false := fun h => by
  rw [← hR]
  unfold nameB
  have : s.data.toList.all (fun b => okc b.toNat) = false := by
   rw [List.all_eq_false]
   exact ⟨b, gMO hb, by simp [h]⟩
  rw [this]
  rfl
 rw [hc] at hno
 have hyes : okc c = true → (s.data.toList.take (i + 1)).all (fun b => okc b.toNat) = true := fun h => by
  rw [hts, List.all_append, hall]
  simp [hc, h]
 simp [hlt, hd, hd2]
 clear hd hd2 hall hR hc
 by_cases a1 : c < 97
 all_goals by_cases a2 : 122 < c
 all_goals try (exfalso; omega)
 all_goals by_cases a3 : c < 65
 all_goals try (exfalso; omega)
 all_goals by_cases a4 : 90 < c
 all_goals try (exfalso; omega)
 all_goals by_cases a5 : c < 48
 all_goals try (exfalso; omega)
 all_goals by_cases a6 : 57 < c
 all_goals try (exfalso; omega)
 all_goals by_cases a7 : c = 95
 all_goals try (exfalso; omega)
 all_goals by_cases a8 : c = 46
 all_goals try (exfalso; omega)
 all_goals first
  | (have h0 : okc c = true := by simp [okc, a1, a2, a3, a4, a5, a6, a7, a8]
     simp [a1, a2, a3, a4, a5, a6, a7, a8, hsw]
     exact hK (i + 1) ⟨by omega, hyes h0⟩ (by omega) (Sub.refl _ _ _) 0 (by omega) (by simp) (by simp))
  | (have h0 : okc c = false := by simp [okc, a1, a2, a3, a4, a5, a6, a7, a8]
     have := hno h0
     subst this
     simp [a1, a2, a3, a4, a5, a6, a7, a8])
def raV (a b : Int) : AV := .agg [aI .u32 a, aI .u32 b]
def spT (s : Sec) : Int := if 4294967295 < s.ad + s.da.length then 4294967295 else s.ad + s.da.length
theorem secspace_af (s : Sec) (h : SecFit s) : AF Tryz.prog 33 [seV s] (raV s.ad (spT s)) := by
 obtain ⟨⟨h1, h2⟩, h3, _⟩ := h
 obtain ⟨R, hR⟩ : ∃ R, spT s = R := ⟨_, rfl⟩
 rw [hR]
 unfold spT at hR
 have w1 : IntKind.u64.wrap s.ad = s.ad := u64w (by omega)
 have w2 : IntKind.u64.wrap (s.da.length : Int) = (s.da.length : Int) := u64w (by omega)
 have w3 : IntKind.u64.wrap (s.ad + (s.da.length : Int)) = s.ad + (s.da.length : Int) := u64w (by omega)
 refine af_of Tryz.func33 rfl (by kernel_rfl) (by simp [Tryz.ntmps33]) fun _ => ?_; simp [Tryz.f33, Ex.d_eq]
 simp [w1, w2, w3]
 refine aRaw_min (k := .u64) (k' := .u64) (a := s.ad + (s.da.length : Int)) (b := 4294967295) (by simp) (by simp) ?_
 by_cases h4 : 4294967295 < s.ad + (s.da.length : Int)
 ·rw [if_pos h4] at hR
  subst hR
  simp [h4, raV, u32w]
 ·rw [if_neg h4] at hR
  subst hR
  have w4 : IntKind.u32.wrap (s.ad + (s.da.length : Int)) = s.ad + (s.da.length : Int) := u32w (by omega)
  simp [h4, raV, w4]
theorem secstack_af : AF Tryz.prog 34 [] (raV 978944 983040) := by
 refine af_of Tryz.func34 rfl (by kernel_rfl) (by simp [Tryz.ntmps34]) fun _ => ?_; simp [Tryz.f34, Ex.d_eq]
 simp [raV]
def meetB (a b c d : Int) : Bool := decide ((if a < c then c else a) < (if d < b then d else b))
theorem secmeet_af (a b c d : Int) : AF Tryz.prog 32 [raV a b, raV c d] (aB (meetB a b c d)) := by
 unfold raV meetB
 refine af_of Tryz.func32 rfl (by kernel_rfl) (by simp [Tryz.ntmps32]) fun _ => ?_; simp [Tryz.f32, Ex.d_eq]
 refine aRaw_max (k := .u32) (k' := .u32) (a := a) (b := c) (by simp) (by simp) ?_
 simp
 refine aRaw_min (k := .u32) (k' := .u32) (a := b) (b := d) (by simp) (by simp) ?_
 simp
theorem index_sec_ac {f : Nat} {fs cs : List AV} {p : Sec → Bool} (A : AHeap) (l : List Sec) (hf : okF Tryz.prog f = true) (hp : ∀ a ∈ l, ∀ N, AC Tryz.prog f (fs ++ [seV a] ++ cs) (A ++ N) (Same0 A (aB (p a)))) :
 AC Tryz.prog 67 [.d (.sl 5 (secs l)), .fn f fs cs] A (Same0 A (aI .i64 (match l.findIdx? p with | some i => (i : Int) | none => -1))) := by
 refine ac_of Tryz.func67 rfl (by kernel_rfl) (by simp [Tryz.ntmps67]) fun hb => ?_
 have n1 : l.length ≤ maxLen := by simpa using hb.1.1
 clear hb
 obtain ⟨R, hR⟩ : ∃ R : Int, (match l.findIdx? p with | some i => (i : Int) | none => -1) = R := ⟨_, rfl⟩
 rw [hR]
 simp [Tryz.f67]
 refine aLoop_of (α := Nat) (fun i e A' => i ≤ l.length ∧ (∃ N, A' = A ++ N) ∧ e 8 = aI .i64 i ∧ e 7 = aI .i64 l.length ∧ e 0 = .d (.sl 5 (secs l)) ∧ e 1 = .fn f fs cs ∧
  ∀ (j : Nat) (a : Sec), j < i → l[j]? = some a → p a = false) (fun i => l.length - i) 0 (Sub.refl _ _ _) ⟨by omega, ⟨[], by simp⟩, by simp, by simp, by simp, by simp, by intro j a hj; omega⟩ ?_
 rintro i e A' ⟨hi, ⟨N, rfl⟩, e8, e7, e0, e1, hall⟩ K hK
 simp [e8, e7]
 refine aCond_split (fun hlt => ?_) (fun hge => ?_)
 ·simp at hlt
  have hi1 := gEG hlt
  simp [e0, e1, e8, hi1, Sec.d_eq]
  refine aCall_ofc (hp l[i] (gMO hi1) N) hf ?_
  rintro _ _ ⟨rfl, N', rfl⟩
  simp
  refine aCond_split (fun ht => ?_) (fun hf => ?_)
  ·have : l.findIdx? p = some i := by
    rw [List.findIdx?_eq_some_iff_getElem]
    exact ⟨hlt, ht, fun j hj => by simpa using hall j _ hj (gEG (by omega))⟩
   rw [this] at hR
   subst hR
   simp [Same0]
  ·simp [e8, succ_wrap hlt n1]
   refine hK (i + 1) _ _ _ _ (Sub.refl _ _ _) ⟨by omega, ⟨N', rfl⟩, by simp, by simp [e7], by simp [e0], by simp [e1], fun j a hj ha => ?_⟩ (by omega)
   rcases Nat.lt_or_ge j i with h | h
   ·exact hall j a h ha
   ·obtain rfl : j = i := by omega
    rw [hi1] at ha
    obtain rfl := oSI ha
    exact hf
 ·simp at hge
  have : l.findIdx? p = none := by
   rw [List.findIdx?_eq_none_iff]
   intro x hx
   obtain ⟨j, hj⟩ := List.getElem?_of_mem hx
   exact hall j x (by have := (gSI.1 hj).1; omega) hj
  rw [this] at hR
  subst hR
  simp [Same0]
theorem contains_sec_ac {f : Nat} {fs cs : List AV} {p : Sec → Bool} (A : AHeap) (l : List Sec) (hf : okF Tryz.prog f = true) (hp : ∀ a ∈ l, ∀ N, AC Tryz.prog f (fs ++ [seV a] ++ cs) (A ++ N) (Same0 A (aB (p a)))) :
 AC Tryz.prog 29 [.d (.sl 5 (secs l)), .fn f fs cs] A (Same0 A (aB (l.any p))) := by
 refine ac_of Tryz.func29 rfl (by kernel_rfl) (by simp [Tryz.ntmps29]) fun hb => ?_
 simp [Tryz.f29]
 refine aCall_ofc (index_sec_ac A l hf hp) (by simp) ?_
 rintro _ _ ⟨rfl, N, rfl⟩
 simp [Same0]
 cases h : l.findIdx? p with
 | none =>
   rw [List.findIdx?_eq_none_iff] at h
   simpa using h
 | some i =>
   rw [List.findIdx?_eq_some_iff_getElem] at h
   obtain ⟨hi, hp, _⟩ := h
   simpa using ⟨_, List.getElem_mem hi, hp⟩
theorem index_gr_ac {f : Nat} {fs cs : List AV} {p : Gr → Bool} (A : AHeap) (l : List Gr) (hf : okF Tryz.prog f = true) (hp : ∀ a ∈ l, ∀ N, AC Tryz.prog f (fs ++ [grV a] ++ cs) (A ++ N) (Same0 A (aB (p a)))) :
 AC Tryz.prog 38 [.d (.sl 2 (grs l)), .fn f fs cs] A (Same0 A (aI .i64 (match l.findIdx? p with | some i => (i : Int) | none => -1))) := by
 refine ac_of Tryz.func38 rfl (by kernel_rfl) (by simp [Tryz.ntmps38]) fun hb => ?_
 have n1 : l.length ≤ maxLen := by simpa using hb.1.1
 clear hb
 obtain ⟨R, hR⟩ : ∃ R : Int, (match l.findIdx? p with | some i => (i : Int) | none => -1) = R := ⟨_, rfl⟩
 rw [hR]
 simp [Tryz.f38]
 refine aLoop_of (α := Nat) (fun i e A' => i ≤ l.length ∧ (∃ N, A' = A ++ N) ∧ e 8 = aI .i64 i ∧ e 7 = aI .i64 l.length ∧ e 0 = .d (.sl 2 (grs l)) ∧ e 1 = .fn f fs cs ∧
  ∀ (j : Nat) (a : Gr), j < i → l[j]? = some a → p a = false) (fun i => l.length - i) 0 (Sub.refl _ _ _) ⟨by omega, ⟨[], by simp⟩, by simp, by simp, by simp, by simp, by intro j a hj; omega⟩ ?_
 rintro i e A' ⟨hi, ⟨N, rfl⟩, e8, e7, e0, e1, hall⟩ K hK
 simp [e8, e7]
 refine aCond_split (fun hlt => ?_) (fun hge => ?_)
 ·simp at hlt
  have hi1 := gEG hlt
  simp [e0, e1, e8, hi1, Gr.d_eq]
  refine aCall_ofc (hp l[i] (gMO hi1) N) hf ?_
  rintro _ _ ⟨rfl, N', rfl⟩
  simp
  refine aCond_split (fun ht => ?_) (fun hf => ?_)
  ·have : l.findIdx? p = some i := by
    rw [List.findIdx?_eq_some_iff_getElem]
    exact ⟨hlt, ht, fun j hj => by simpa using hall j _ hj (gEG (by omega))⟩
   rw [this] at hR
   subst hR
   simp [Same0]
  ·simp [e8, succ_wrap hlt n1]
   refine hK (i + 1) _ _ _ _ (Sub.refl _ _ _) ⟨by omega, ⟨N', rfl⟩, by simp, by simp [e7], by simp [e0], by simp [e1], fun j a hj ha => ?_⟩ (by omega)
   rcases Nat.lt_or_ge j i with h | h
   ·exact hall j a h ha
   ·obtain rfl : j = i := by omega
    rw [hi1] at ha
    obtain rfl := oSI ha
    exact hf
 ·simp at hge
  have : l.findIdx? p = none := by
   rw [List.findIdx?_eq_none_iff]
   intro x hx
   obtain ⟨j, hj⟩ := List.getElem?_of_mem hx
   exact hall j x (by have := (gSI.1 hj).1; omega) hj
  rw [this] at hR
  subst hR
  simp [Same0]
theorem contains_gr_ac {f : Nat} {fs cs : List AV} {p : Gr → Bool} (A : AHeap) (l : List Gr) (hf : okF Tryz.prog f = true) (hp : ∀ a ∈ l, ∀ N, AC Tryz.prog f (fs ++ [grV a] ++ cs) (A ++ N) (Same0 A (aB (p a)))) :
 AC Tryz.prog 14 [.d (.sl 2 (grs l)), .fn f fs cs] A (Same0 A (aB (l.any p))) := by
 refine ac_of Tryz.func14 rfl (by kernel_rfl) (by simp [Tryz.ntmps14]) fun hb => ?_
 simp [Tryz.f14]
 refine aCall_ofc (index_gr_ac A l hf hp) (by simp) ?_
 rintro _ _ ⟨rfl, N, rfl⟩
 simp [Same0]
 cases h : l.findIdx? p with
 | none =>
   rw [List.findIdx?_eq_none_iff] at h
   simpa using h
 | some i =>
   rw [List.findIdx?_eq_some_iff_getElem] at h
   obtain ⟨hi, hp, _⟩ := h
   simpa using ⟨_, List.getElem_mem hi, hp⟩
theorem secchk1_ac (a s : Sec) (b : Nat) (A N : AHeap) (hb : A[b]? = some (seB s)) : AC Tryz.prog 30 [seV a, .ptr b 0 0 0] (A ++ N) (Same0 A (aB (a.nm.toList == s.nm.toList))) := by
 refine ac_of Tryz.func30 rfl (by kernel_rfl) (by simp [Tryz.ntmps30]) fun _ => ?_
 have hb2 : (A ++ (N ++ [seB a]))[b]? = some (seB s) := by rw [gAL (gSI.1 hb).1]; exact hb
 simp [Tryz.f30, hb2, Same0]
theorem secchk2_ac (a s : Sec) (ha : SecFit a) (hs : SecFit s) (b : Nat) (A N : AHeap) (hb : A[b]? = some (seB s)) : AC Tryz.prog 35 [seV a, .ptr b 0 0 0] (A ++ N) (Same0 A (aB (meetB a.ad (spT a) s.ad (spT s)))) := by
 have hbl := (gSI.1 hb).1
 refine ac_of Tryz.func35 rfl (by kernel_rfl) (by simp [Tryz.ntmps35]) fun _ => ?_
 have hb2 : (A ++ (N ++ [seB a]))[b]? = some (seB s) := by rw [gAL hbl]; exact hb
 simp [Tryz.f35]
 refine adraw [] (by kernel_rfl) (by kernel_rfl) (by kernel_rfl) (by kernel_rfl) ?_
 simp [hb2]
 refine adC_of (secspace_af a ha) (by kernel_rfl) trivial (by simp [raV]) (by simp) ?_
 simp [hb2]
 refine ⟨by omega, ?_⟩
 refine adC_of (secspace_af s hs) (by kernel_rfl) trivial (by simp [raV]) (by simp) ?_
 simp
 refine adC_of (secmeet_af a.ad (spT a) s.ad (spT s)) (by kernel_rfl) trivial (by simp) (by simp [raV]) ?_
 simp [Same0]
def sec1 (l : List Sec) (i : Nat) (s : Sec) : Int :=
 if 65536 < s.da.length then 6 else if nameB s.nm = false then 3 else if (l.take i).any (fun a => a.nm.toList == s.nm.toList) = true then 8
 else if 4294967295 < s.ad + s.da.length ∨ meetB s.ad (spT s) 978944 983040 = true then 7 else 0
def sec2 (l : List Sec) (i : Nat) (s : Sec) : Int := if (l.take i).any (fun a => meetB a.ad (spT a) s.ad (spT s)) = true then 10 else 0
def firE (f : Nat → Sec → Int) : Nat → List Sec → Int
 | _, [] => 0
 | i, s :: l => if f i s ≠ 0 then f i s else firE f (i + 1) l
def secErr (l : List Sec) : Int := if 16 < l.length then 6 else if firE (sec1 l) 0 l ≠ 0 then firE (sec1 l) 0 l else firE (sec2 l) 0 l
set_option maxRecDepth 100000 in
theorem secchk_af (l : List Sec) (hl : ∀ s ∈ l, SecFit s) : AF Tryz.prog 12 [.d (.sl 5 (secs l))] (aI .i64 (secErr l)) := by
 obtain ⟨R, hR⟩ : ∃ R, secErr l = R := ⟨_, rfl⟩
 rw [hR]
 unfold secErr at hR
 refine af_of Tryz.func12 rfl (by kernel_rfl) (by simp [Tryz.ntmps12]) fun _ => ?_; simp [Tryz.f12, Ex.d_eq]
 by_cases h16 : 16 < l.length
 ·rw [if_pos h16] at hR
  subst hR
  simp [show (16 : Int) < l.length by omega]
 rw [if_neg h16] at hR
 have hm : l.length ≤ maxLen := by unfold maxLen; omega
 simp [show ¬ (16 : Int) < l.length by omega]
 refine aLoop_st (fun i : Nat => [(0, .d (.sl 5 (secs l))), (11, .d (.sl 5 (secs l))), (12, aI .i64 l.length), (13, aI .i64 i)]) (fun _ => []) (fun i => i ≤ l.length ∧ firE (sec1 l) 0 l = firE (sec1 l) i (l.drop i)) (fun i => l.length - i) 0 (Sub.refl _ _ _) 0 (by omega) (by simp) (by simp) ⟨by omega, by simp⟩ ?_
 rintro i ⟨hi, hE⟩ K hK
 rcases Nat.lt_or_ge i l.length with hlt | hge
 case inl =>
  obtain ⟨s, hs⟩ : ∃ s, l[i]? = some s := ⟨_, gEG hlt⟩
  have hs2 := (gSI.1 hs).2
  have hsf := hl s (gMO hs)
  have hdr : l.drop i = s :: l.drop (i + 1) := by rw [List.drop_eq_getElem_cons hlt, hs2]
  rw [hdr, firE] at hE
  have hsw : IntKind.i64.wrap ((i : Int) + 1) = ((i + 1 : Nat) : Int) := succ_wrap hlt hm
  have hil : (i : Int) ≤ (l.length : Int) := by omega
  simp [hlt, hs, hs2, Sec.d_eq, hi]
  refine aCall_ofc (contains_sec_ac (f := 30) (fs := []) (cs := [.ptr 0 0 0 0]) (p := fun a => a.nm.toList == s.nm.toList) [seB s] (l.take i) (by simp) fun a _ N => secchk1_ac a s 0 [seB s] N rfl).drop (by simp) ?_
  rintro _ _ ⟨rfl, rfl⟩
  obtain ⟨T, hT⟩ : ∃ T, (l.take i).any (fun a => a.nm.toList == s.nm.toList) = T := ⟨_, rfl⟩
  have w1 : IntKind.u64.wrap s.ad = s.ad := u64w (by have := hsf.1; omega)
  have w2 : IntKind.u64.wrap (s.da.length : Int) = (s.da.length : Int) := u64w (by have := hsf.2.1; omega)
  have w3 : IntKind.u64.wrap (s.ad + (s.da.length : Int)) = s.ad + (s.da.length : Int) := u64w (by have := hsf.1; have := hsf.2.1; omega)
  rw [hT]
  have hfin : ∀ v, sec1 l i s = v → v ≠ 0 → R = v := fun v hv h0 => by
   rw [← hR, hE, hv, if_pos h0, if_pos h0]
  have hzero : sec1 l i s = 0 → firE (sec1 l) 0 l = firE (sec1 l) (i + 1) (l.drop (i + 1)) := fun h => by rw [hE, h]; rfl
  clear hE
  unfold sec1 at hfin
  rw [hT] at hfin
  simp [hs, hs2, Sec.d_eq]
  by_cases c1 : 65536 < s.da.length
  ·obtain rfl := hfin 6 (by rw [if_pos c1]) (by omega)
   simp [show (65536 : Int) < s.da.length by omega]
  rw [if_neg c1] at hfin
  simp [show ¬ (65536 : Int) < s.da.length by omega]
  refine aCall_of (secname_af s.nm hsf.2.2) (by kernel_rfl) (by simp) ?_
  by_cases c2 : nameB s.nm = false
  ·obtain rfl := hfin 3 (by rw [if_pos c2]) (by omega)
   simp [c2]
  rw [if_neg c2] at hfin
  have c2' : nameB s.nm = true := by simpa using c2
  simp [c2']
  cases T with
  | true =>
    obtain rfl := hfin 8 (by rw [if_pos rfl]) (by omega)
    simp
  | false =>
  rw [if_neg (by simp)] at hfin
  simp [w1, w2, w3]
  by_cases c4 : 4294967295 < s.ad + s.da.length
  ·obtain rfl := hfin 7 (by rw [if_pos (.inl c4)]) (by omega)
   simp [c4]
  simp [c4]
  refine aCall_of (secspace_af s hsf) (by kernel_rfl) (by simp) ?_
  simp
  refine aCall_of secstack_af (by kernel_rfl) (by simp) ?_
  simp
  refine aCall_of (secmeet_af s.ad (spT s) 978944 983040) (by kernel_rfl) (by simp [raV]) ?_
  cases c5 : meetB s.ad (spT s) 978944 983040 with
  | true =>
    obtain rfl := hfin 7 (by rw [if_pos (.inr c5)]) (by omega)
    simp
  | false =>
    simp [hsw]
    exact hK (i + 1) ⟨by omega, hzero (by unfold sec1; rw [if_neg c1, if_neg c2, hT, if_neg (by simp), if_neg (by simp only [c5]; simp; omega)])⟩ (by omega) (Sub.refl _ _ _) 0 (by omega) (by simp) (by simp)
 obtain rfl : i = l.length := by omega
 have hE0 : firE (sec1 l) 0 l = 0 := by rw [hE, List.drop_length]; rfl
 rw [if_neg (by simp [hE0])] at hR
 clear hK hE
 simp
 refine aLoop_st (fun i : Nat => [(0, .d (.sl 5 (secs l))), (52, .d (.sl 5 (secs l))), (53, aI .i64 l.length), (54, aI .i64 i)]) (fun _ => []) (fun i => i ≤ l.length ∧ firE (sec2 l) 0 l = firE (sec2 l) i (l.drop i)) (fun i => l.length - i) 0 (Sub.refl _ _ _) 0 (by omega) (by simp) (by simp) ⟨by omega, by simp⟩ ?_
 rintro i ⟨hi, hE⟩ K hK
 rcases Nat.lt_or_ge i l.length with hlt | hge
 case inr =>
  obtain rfl : i = l.length := by omega
  rw [hE, List.drop_length] at hR
  have : R = 0 := hR.symm
  subst this
  simp
 obtain ⟨s, hs⟩ : ∃ s, l[i]? = some s := ⟨_, gEG hlt⟩
 have hs2 := (gSI.1 hs).2
 have hsf := hl s (gMO hs)
 have hdr : l.drop i = s :: l.drop (i + 1) := by rw [List.drop_eq_getElem_cons hlt, hs2]
 rw [hdr, firE] at hE
 have hsw : IntKind.i64.wrap ((i : Int) + 1) = ((i + 1 : Nat) : Int) := succ_wrap hlt hm
 simp [hlt, hs, hs2, Sec.d_eq, hi]
 refine aCall_ofc (contains_sec_ac (f := 35) (fs := []) (cs := [.ptr 0 0 0 0]) (p := fun a => meetB a.ad (spT a) s.ad (spT s)) [seB s] (l.take i) (by simp) fun a ha N => secchk2_ac a s (hl a (List.mem_of_mem_take ha)) hsf 0 [seB s] N rfl).drop (by simp) ?_
 rintro _ _ ⟨rfl, rfl⟩
 cases hT : (l.take i).any (fun a => meetB a.ad (spT a) s.ad (spT s)) with
 | true =>
   have h1 : sec2 l i s = 10 := by unfold sec2; rw [if_pos hT]
   rw [h1] at hE
   rw [hE, if_pos (by omega)] at hR
   subst hR
   simp
 | false =>
   have h1 : sec2 l i s = 0 := by unfold sec2; rw [hT]; rfl
   rw [h1] at hE
   simp [hsw]
   exact hK (i + 1) ⟨by omega, hE.trans (if_neg (by simp))⟩ (by omega) (Sub.refl _ _ _) 0 (by omega) (by simp) (by simp)
def prV (gs : List Gr) (ss : List Sec) (en : Int) : AV := .agg [.d (.sl 2 (grs gs)), .d (.sl 5 (secs ss)), aI .u32 en]
abbrev pgB (gs : List Gr) (ss : List Sec) (en : Int) : Blk := ⟨0, true, 26, 3, [[.d (.sl 2 (grs gs)), .d (.sl 5 (secs ss)), aI .u32 en]]⟩
abbrev grB (g : Gr) : Blk := ⟨0, true, 30, 2, [[aI .u32 g.ad, .d (.sl 2 (bls' g.b))]]⟩
theorem ichk1_ac (a g : Gr) (b : Nat) (A N : AHeap) (hb : A[b]? = some (grB g)) : AC Tryz.prog 15 [grV a, .ptr b 0 0 0] (A ++ N) (Same0 A (aB (decide (a.ad = g.ad)))) := by
 refine ac_of Tryz.func15 rfl (by kernel_rfl) (by simp [Tryz.ntmps15]) fun _ => ?_
 have hb2 : (A ++ (N ++ [grB a]))[b]? = some (grB g) := by rw [gAL (gSI.1 hb).1]; exact hb
 simp [Tryz.f15, hb2, Same0]
theorem ichk2_ac (a : Gr) (gs : List Gr) (ss : List Sec) (en : Int) (b : Nat) (A N : AHeap) (hb : A[b]? = some (pgB gs ss en)) : AC Tryz.prog 16 [grV a, .ptr b 0 0 0] (A ++ N) (Same0 A (aB (decide (a.ad = en)))) := by
 refine ac_of Tryz.func16 rfl (by kernel_rfl) (by simp [Tryz.ntmps16]) fun _ => ?_
 have hb2 : (A ++ (N ++ [grB a]))[b]? = some (pgB gs ss en) := by rw [gAL (gSI.1 hb).1]; exact hb
 simp [Tryz.f16, hb2, Same0]
def gr1 (gs : List Gr) (i : Nat) (g : Gr) : Int := if grErr g ≠ 0 then grErr g else if (gs.take i).any (fun a => decide (a.ad = g.ad)) = true then 8 else 0
def firG (f : Nat → Gr → Int) : Nat → List Gr → Int
 | _, [] => 0
 | i, s :: l => if f i s ≠ 0 then f i s else firG f (i + 1) l
def prErr (gs : List Gr) (ss : List Sec) (en : Int) : Int :=
 if secErr ss ≠ 0 then secErr ss else if 64 < gs.length then 6 else if firG (gr1 gs) 0 gs ≠ 0 then firG (gr1 gs) 0 gs else if gs.any (fun a => decide (a.ad = en)) = true then 0 else 17
set_option maxRecDepth 100000 in
theorem ichk_af (gs : List Gr) (ss : List Sec) (en : Int) (hg : ∀ g ∈ gs, GrFit g) (hs : ∀ s ∈ ss, SecFit s) : AF Tryz.prog 5 [prV gs ss en] (aI .i64 (prErr gs ss en)) := by
 obtain ⟨R, hR⟩ : ∃ R, prErr gs ss en = R := ⟨_, rfl⟩
 rw [hR]
 unfold prErr at hR
 unfold prV
 refine af_of Tryz.func5 rfl (by kernel_rfl) (by simp [Tryz.ntmps5]) fun _ => ?_; simp [Tryz.f5, Ex.d_eq]
 refine aCall_of (secchk_af ss hs) (by kernel_rfl) (by simp) ?_
 by_cases h0 : secErr ss = 0
 case neg =>
  rw [if_pos h0] at hR
  subst hR
  simp [h0]
 rw [if_neg (by simpa using h0)] at hR
 simp [h0]
 by_cases h64 : 64 < gs.length
 ·rw [if_pos h64] at hR
  subst hR
  simp [show (64 : Int) < gs.length by omega]
 rw [if_neg h64] at hR
 have hm : gs.length ≤ maxLen := by unfold maxLen; omega
 simp [show ¬ (64 : Int) < gs.length by omega]
 refine aLoop_st (fun i : Nat => [(1, .ptr 0 0 0 0), (18, .d (.sl 2 (grs gs))), (19, aI .i64 gs.length), (20, aI .i64 i)]) (fun _ => [pgB gs ss en]) (fun i => i ≤ gs.length ∧ firG (gr1 gs) 0 gs = firG (gr1 gs) i (gs.drop i)) (fun i => gs.length - i) 0 (Sub.refl _ _ _) 1 (by omega) (by simp) (by simp) ⟨by omega, by simp⟩ ?_
 rintro i ⟨hi, hE⟩ K hK
 rcases Nat.lt_or_ge i gs.length with hlt | hge
 case inr =>
  obtain rfl : i = gs.length := by omega
  have hE0 : firG (gr1 gs) 0 gs = 0 := by rw [hE, List.drop_length]; rfl
  rw [if_neg (by simp [hE0])] at hR
  simp
  refine aCall_ofc (contains_gr_ac (f := 16) (fs := []) (cs := [.ptr 0 0 0 0]) (p := fun a => decide (a.ad = en)) [pgB gs ss en] gs (by simp) fun a _ N => ichk2_ac a gs ss en 0 [pgB gs ss en] N rfl).drop (by simp) ?_
  rintro _ _ ⟨rfl, rfl⟩
  cases hT : gs.any (fun a => decide (a.ad = en)) with
  | true =>
    rw [if_pos hT] at hR
    subst hR
    simp
  | false =>
    rw [hT, if_neg (by simp)] at hR
    subst hR
    simp
 obtain ⟨g, hgi⟩ : ∃ g, gs[i]? = some g := ⟨_, gEG hlt⟩
 have hg2 := (gSI.1 hgi).2
 have hgf := hg g (gMO hgi)
 have hdr : gs.drop i = g :: gs.drop (i + 1) := by rw [List.drop_eq_getElem_cons hlt, hg2]
 rw [hdr, firG] at hE
 have hsw : IntKind.i64.wrap ((i : Int) + 1) = ((i + 1 : Nat) : Int) := succ_wrap hlt hm
 simp [hlt, hgi, hg2, Gr.d_eq]
 refine aCall_of (ilcheckg_af g hgf) (by kernel_rfl) (by simp) ?_
 by_cases he : grErr g = 0
 case neg =>
  have h1 : gr1 gs i g = grErr g := by unfold gr1; rw [if_pos he]
  rw [h1, if_pos he] at hE
  rw [hE, if_pos he] at hR
  subst hR
  simp [he]
 simp [he, hi]
 refine aCall_ofc (contains_gr_ac (f := 15) (fs := []) (cs := [.ptr 1 0 0 0]) (p := fun a => decide (a.ad = g.ad)) [pgB gs ss en, grB g] (gs.take i) (by simp) fun a _ N => ichk1_ac a g 1 [pgB gs ss en, grB g] N rfl).drop (by simp) ?_
 rintro _ _ ⟨rfl, rfl⟩
 cases hT : (gs.take i).any (fun a => decide (a.ad = g.ad)) with
 | true =>
   have h1 : gr1 gs i g = 8 := by unfold gr1; rw [if_neg (by simpa using he), if_pos hT]
   rw [h1, if_pos (by omega)] at hE
   rw [hE, if_pos (by omega)] at hR
   subst hR
   simp
 | false =>
   have h1 : gr1 gs i g = 0 := by unfold gr1; rw [if_neg (by simpa using he), hT]; rfl
   rw [h1] at hE
   simp [hsw]
   exact hK (i + 1) ⟨by omega, hE.trans (if_neg (by simp))⟩ (by omega) (Sub.refl _ _ _) 1 (by omega) (by simp) (by simp)
end Go.Proofs.YtplbaolbaniioaaGreatDoor
set_option linter.all false
namespace Go.Proofs.YtplbaolbaniioaaGreatDoor
open Go.RowKit
def mpR (kk kv : IntKind) (L : List (Int × Int)) : List (List AV) := L.map fun p => [.d (.v (.int kk p.1)), .d (.v (.int kv p.2))]
def mpB (kk kv : IntKind) (L : List (Int × Int)) : Blk := ⟨0, true, 1000001, 2, mpR kk kv L⟩
def lkL (x : Int) : List (Int × Int) → Option Int
 | [] => none
 | p :: l => if p.1 = x then some p.2 else lkL x l
def ixL (x : Int) : List (Int × Int) → Nat
 | [] => 0
 | p :: l => if p.1 = x then 0 else ixL x l + 1
def upL (x v : Int) : List (Int × Int) → List (Int × Int)
 | [] => [(x, v)]
 | p :: l => if p.1 = x then (x, v) :: l else p :: upL x v l
theorem find_mp (kk kv : IntKind) (x : Int) : ∀ (L : List (Int × Int)) (i : Nat), findA (.int kk) (.int kk x) (mpR kk kv L) i = some ((lkL x L).map fun v => (i + ixL x L, [AV.d (.v (.int kv v))]))
 | [], i => by simp [mpR, findA, lkL]
 | p :: l, i => by
   have ih := find_mp kk kv x l (i + 1)
   simp only [mpR] at ih
   simp only [mpR, List.map_cons, findA, Instr.sameNow]
   by_cases h : p.1 = x
   ·have h2 : (x == p.1) = true := by simp [h]
    simp [h, h2, lkL, ixL]
   ·have h2 : (x == p.1) = false := by simp; omega
    simp [h, h2, lkL, ixL, ih]
    cases lkL x l
    ·simp
    ·simp; omega
theorem up_set (kk kv : IntKind) (x v : Int) : ∀ (L : List (Int × Int)), (lkL x L ≠ none → (mpR kk kv L).set (ixL x L) [.d (.v (.int kk x)), .d (.v (.int kv v))] = mpR kk kv (upL x v L)) ∧ (lkL x L = none → mpR kk kv L ++ [[.d (.v (.int kk x)), .d (.v (.int kv v))]] = mpR kk kv (upL x v L))
 | [] => by simp [lkL, mpR, upL]
 | p :: l => by
   obtain ⟨h1, h2⟩ := up_set kk kv x v l
   simp only [mpR] at h1 h2
   by_cases h : p.1 = x
   ·simp [lkL, ixL, upL, h, mpR]
   ·simp [lkL, ixL, upL, h, mpR]
    exact ⟨by simpa using h1, by simpa using h2⟩
theorem lkL_up (x v y : Int) : ∀ (L : List (Int × Int)), lkL y (upL x v L) = if x = y then some v else lkL y L
 | [] => by simp [upL, lkL]
 | p :: l => by
   have ih := lkL_up x v y l
   by_cases h : p.1 = x
   ·subst h
    simp [upL, lkL]
    split <;> rfl
   ·simp [upL, lkL, h, ih]
    by_cases hp : p.1 = y
    ·have : ¬ x = y := by omega
     simp [hp, this]
    ·simp [hp]
section
variable {P : Program} {A : AHeap} {b : Nat} {kk kv : IntKind} {L : List (Int × Int)} {t kt et : TypeId}
theorem upd_mp (hu : P.underlying t = some (.map kt et)) (hk : P.underlying kt = some (.int kk)) (hb : A[b]? = some (mpB kk kv L)) (x v : Int) :
 updA P t A (.mp b 0) (.d (.v (.int kk x))) (.d (.v (.int kv v))) = some (A.set b (mpB kk kv (upL x v L))) := by
 have hf := find_mp kk kv x L 0
 obtain ⟨h1, h2⟩ := up_set kk kv x v L
 unfold updA
 rw [hu]
 simp only [hk]
 rw [hb]
 cases hl : lkL x L with
 | none =>
   rw [hl] at hf
   simp [plainK, cellsA, isAgg, Value.oneCell', hf, mpB, setEls, h2 hl]
 | some w =>
   rw [hl] at hf
   have := h1 (by rw [hl]; simp)
   simp at hf
   simp [plainK, cellsA, isAgg, Value.oneCell', hf, mpB, setEls, this]
theorem look_mp (hu : P.underlying t = some (.map kt et)) (hk : P.underlying kt = some (.int kk)) (hz : zv P et = some (.int kv 0)) (hb : A[b]? = some (mpB kk kv L)) (x : Int) (ok : Bool) :
 lookupA P t A ok (.mp b 0) (.d (.v (.int kk x))) = some (okM ok (.d (.v (.int kv ((lkL x L).getD 0)))) (lkL x L).isSome) := by
 have hf := find_mp kk kv x L 0
 unfold lookupA
 rw [hu]
 simp only [hk]
 rw [hb]
 cases hl : lkL x L with
 | none =>
   rw [hl] at hf
   simp at hf
   simp [plainK, hf, mpB, zeroM, hz, okM, Value.oneCell']
 | some w =>
   rw [hl] at hf
   simp at hf
   simp [plainK, hf, mpB, valM, okM]
theorem cln_mpB (m : Nat) (kk kv : IntKind) (L : List (Int × Int)) : clnB m (mpB kk kv L) = mpB kk kv L := by
 unfold clnB mpB mpR clnE
 simp
end
structure Reg where
 f : Int
 da : List Int
 w : Bool
 x : Bool
def Reg.d (r : Reg) : List D := [.v (.int .u64 r.f), .sl 1 (u8d r.da), .v (.bool r.w), .v (.bool r.x)]
theorem Reg.d_eq (r : Reg) : Reg.d r = [.v (.int .u64 r.f), .sl 1 (u8d r.da), .v (.bool r.w), .v (.bool r.x)] := rfl
@[simp] theorem Reg.d_len (r : Reg) : (Reg.d r).length = 4 := rfl
def regs (l : List Reg) : List (List D) := l.map Reg.d
@[simp] theorem regs_len (l : List Reg) : (regs l).length = l.length := by simp [regs]
@[simp] theorem regs_at (l : List Reg) (i : Nat) (h : i < (regs l).length) : (regs l)[i] = Reg.d (l[i]'(by simpa using h)) := by simp [regs]
@[simp] theorem regs_app (l m : List Reg) : regs (l ++ m) = regs l ++ regs m := by simp [regs]
@[simp] def regV (r : Reg) : AV := .agg [.d (.v (.int .u64 r.f)), .d (.sl 1 (u8d r.da)), aB r.w, aB r.x]
abbrev regBk (r : Reg) : Blk := ⟨0, true, 144, 4, [[.d (.v (.int .u64 r.f)), .d (.sl 1 (u8d r.da)), aB r.w, aB r.x]]⟩
abbrev rnV : AV := .agg [.d (.v (.int .u64 0)), .d (.v (.slice none 0 0)), aB false, aB false]
abbrev rnBk : Blk := ⟨0, true, 144, 4, [[.d (.v (.int .u64 0)), .d (.v (.slice none 0 0)), aB false, aB false]]⟩
def RegFit (r : Reg) : Prop := (0 ≤ r.f ∧ r.f < 4294967296) ∧ r.da.length ≤ 1000000
abbrev memB (R : List Reg) (w : Nat) : Blk := ⟨0, true, 139, 2, [[.d (.sl 4 (regs R)), .mp w 0]]⟩
def inR (a : Int) (r : Reg) : Bool := decide (r.f ≤ a) && decide (a < r.f + r.da.length)
def fndR (R : List Reg) (a : Int) : Option Reg := R.find? (inR a)
def fndV : Option Reg → AV
 | some r => .tup [regV r, aB true]
 | none => .tup [rnV, aB false]
theorem lap {α : Type} (A M : List α) (k : Nat) : (A ++ M)[A.length + k]? = M[k]? := by
 rw [List.getElem?_append_right (by omega)]
 congr 1
 omega
theorem lap0 {α : Type} (A M : List α) : (A ++ M)[A.length]? = M[0]? := lap A M 0
theorem las {α : Type} (A M : List α) (k : Nat) (x : α) : (A ++ M).set (A.length + k) x = A ++ M.set k x := by
 rw [List.set_append_right _ _ (by omega)]
 congr 1
 congr 1
 omega
theorem las0 {α : Type} (A M : List α) (x : α) : (A ++ M).set A.length x = A ++ M.set 0 x := las A M 0 x
theorem lapl {α : Type} {A M : List α} {k : Nat} {x : α} (h : A[k]? = some x) : (A ++ M)[k]? = some x := by
 rw [gAL (gSI.1 h).1]
 exact h
def AtH (A : AHeap) (r : AV) : AV → AHeap → Prop := fun r' A' => r' = r ∧ A = A'
section
variable {A : AHeap} {xm xw : Nat} {R : List Reg}
theorem mmade_ac (hm : A[xm]? = some (memB R xw)) (hw : ∃ W, A[xw]? = some (mpB .u32 .u8 W)) : AC Tryz.prog 95 [.ptr xm 0 0 0] A (AtH A (aB true)) := by
 obtain ⟨W, hw⟩ := hw
 refine ac_of Tryz.func95 rfl (by kernel_rfl) (by simp [Tryz.ntmps95]) fun _ => ?_
 simp [Tryz.f95, hm]
 change aSet _ _ _ _ _
 simp [refK, nilB, hm]
 change aSet _ _ _ _ _
 simp [refK, nilB, hw, mpB, AtH]
def validB (w : Int) : Bool := decide (w = 1) || decide (w = 2) || decide (w = 4)
theorem mvalid_af (w : Int) : AF Tryz.prog 96 [aI .i64 w] (aB (validB w)) := by
 unfold validB
 refine af_of Tryz.func96 rfl (by kernel_rfl) (by simp [Tryz.ntmps96]) fun _ => ?_; simp [Tryz.f96, Ex.d_eq]
 by_cases h1 : w = 1
 ·simp [h1]
 by_cases h2 : w = 2
 ·simp [h1, h2]
 ·simp [h1, h2]
theorem mfind_ac (a : Int) (ha : 0 ≤ a ∧ a < 4294967296) (hR : ∀ r ∈ R, RegFit r) (hRl : R.length ≤ 1000) (hm : A[xm]? = some (memB R xw)) : AC Tryz.prog 111 [.ptr xm 0 0 0, aI .u32 a] A (Same0 A (fndV (fndR R a))) := by
 obtain ⟨V, hV⟩ : ∃ V, fndV (fndR R a) = V := ⟨_, rfl⟩
 rw [hV]
 refine ac_of Tryz.func111 rfl (by kernel_rfl) (by simp [Tryz.ntmps111]) fun hb => ?_
 have hm2 : ∀ M, (A ++ M)[xm]? = some (memB R xw) := fun M => lapl hm
 have w1 : IntKind.u64.wrap a = a := u64w (by omega)
 simp [Tryz.f111, hm2]
 refine aLoop_of (α := Nat) (fun i e A' => i ≤ R.length ∧ (∃ N, A' = A ++ rnBk :: N) ∧ (R.take i).find? (inR a) = none ∧ e 1 = aI .u32 a ∧ e 4 = .ptr A.length 0 0 0 ∧ e 12 = .d (.sl 4 (regs R)) ∧ e 13 = aI .i64 R.length ∧ e 14 = aI .i64 i) (fun i => R.length - i) 0 (Sub.refl _ _ _)
  ⟨by omega, ⟨[], rfl⟩, by simp, by simp, by simp, by simp, by simp, by simp⟩ ?_
 rintro i e A' ⟨hi, ⟨N, rfl⟩, hno, e1, e4, e12, e13, e14⟩ K hK
 rcases Nat.lt_or_ge i R.length with hlt | hge
 case inr =>
  obtain rfl : i = R.length := by omega
  rw [List.take_length] at hno
  rw [fndR, hno] at hV
  subst hV
  simp [e1, e4, e12, e13, e14, lap0, las0, fndV, Same0]
 obtain ⟨r, hr⟩ : ∃ r, R[i]? = some r := ⟨_, gEG hlt⟩
 have hr2 := (gSI.1 hr).2
 obtain ⟨⟨f1, f2⟩, f3⟩ := hR r (gMO hr)
 have w2 : IntKind.u64.wrap (r.da.length : Int) = (r.da.length : Int) := u64w (by omega)
 have w3 : IntKind.u64.wrap (r.f + (r.da.length : Int)) = r.f + (r.da.length : Int) := u64w (by omega)
 simp [e1, e4, e12, e13, e14, hlt, hr, hr2, Reg.d_eq, w1, w2, w3]
 have hnx : inR a r = false → (R.take (i + 1)).find? (inR a) = none := fun h => by
  rw [List.take_add_one, hr, List.find?_append, hno]
  simp [h]
 have hfn : inR a r = true → V = .tup [regV r, aB true] := fun h => by
  rw [← hV, fndR]
  have : R.find? (inR a) = some r := by
   have hs : R = R.take i ++ r :: R.drop (i + 1) := by
    have h1 := List.take_append_drop i R
    rw [List.drop_eq_getElem_cons hlt, hr2] at h1
    exact h1.symm
   rw [hs, List.find?_append, hno]
   simp [h]
  rw [this]
  rfl
 have hsw : IntKind.i64.wrap ((i : Int) + 1) = ((i + 1 : Nat) : Int) := succ_wrap hlt (by unfold maxLen; omega)
 by_cases c1 : r.f ≤ a
 case neg =>
  simp [c1, hsw, e14]
  exact hK (i + 1) _ _ _ _ (Sub.refl _ _ _) ⟨by omega, ⟨_, by simp; rfl⟩, hnx (by simp [inR, c1]), by simp [e1], by simp [e4], by simp [e12], by simp [e13], by simp⟩ (by omega)
 simp [c1, Reg.d_eq, w2, w3]
 by_cases c2 : a < r.f + (r.da.length : Int)
 case neg =>
  simp [c2, hsw, e14]
  exact hK (i + 1) _ _ _ _ (Sub.refl _ _ _) ⟨by omega, ⟨_, by simp; rfl⟩, hnx (by simp [inR, c2]), by simp [e1], by simp [e4], by simp [e12], by simp [e13], by simp⟩ (by omega)
 obtain rfl := hfn (by simp [inR, c1, c2])
 simp [c2, e4, lap0, las0, Same0]
def mapO (R : List Reg) (a n : Int) : Option Reg := (fndR R a).bind fun r => if r.f + r.da.length - a < n then none else some r
def mapV : Option Reg → AV
 | some r => .tup [regV r, aI .i64 0]
 | none => .tup [rnV, aI .i64 11]
theorem fndR_some {r : Reg} {a : Int} (h : fndR R a = some r) : r ∈ R ∧ r.f ≤ a ∧ a < r.f + r.da.length := by
 have h1 := List.find?_some h
 simp only [inR, Bool.and_eq_true, decide_eq_true_eq] at h1
 exact ⟨List.mem_of_find?_eq_some h, h1⟩
theorem mapO_some {r : Reg} {a n : Int} (h : mapO R a n = some r) : r ∈ R ∧ r.f ≤ a ∧ a < r.f + r.da.length ∧ a + n ≤ r.f + r.da.length := by
 unfold mapO at h
 cases hf : fndR R a with
 | none => rw [hf] at h; cases h
 | some q =>
   rw [hf] at h
   simp only [Option.bind_some] at h
   split at h
   ·cases h
   ·obtain rfl := oSI h
    have := fndR_some hf
    exact ⟨this.1, this.2.1, this.2.2, by omega⟩
theorem mmapped_ac (a n : Int) (ha : 0 ≤ a ∧ a < 4294967296) (hn : 0 ≤ n ∧ n ≤ 100) (hR : ∀ r ∈ R, RegFit r) (hRl : R.length ≤ 1000) (hm : A[xm]? = some (memB R xw)) : AC Tryz.prog 97 [.ptr xm 0 0 0, aI .u32 a, aI .i64 n] A (Same0 A (mapV (mapO R a n))) := by
 refine ac_of Tryz.func97 rfl (by kernel_rfl) (by simp [Tryz.ntmps97]) fun hb => ?_
 clear hb
 have w1 : IntKind.u64.wrap a = a := u64w (by omega)
 have w0 : IntKind.u64.wrap n = n := u64w (by omega)
 simp [Tryz.f97]
 refine aCall_ofc (mfind_ac a ha hR hRl (lapl hm)) (by kernel_rfl) ?_
 rintro _ _ ⟨rfl, N, rfl⟩
 cases hf : fndR R a with
 | none =>
   have : mapO R a n = none := by rw [mapO, hf]; rfl
   rw [this]
   simp [fndV, lap, las, lap0, las0, mapV, Same0]
 | some r =>
   obtain ⟨hr, h1, h2⟩ := fndR_some hf
   obtain ⟨⟨f1, f2⟩, f3⟩ := hR r hr
   have w2 : IntKind.u64.wrap (r.da.length : Int) = (r.da.length : Int) := u64w (by omega)
   have w3 : IntKind.u64.wrap (r.f + (r.da.length : Int)) = r.f + (r.da.length : Int) := u64w (by omega)
   have w4 : IntKind.u64.wrap (r.f + (r.da.length : Int) - a) = r.f + (r.da.length : Int) - a := u64w (by omega)
   by_cases h3 : r.f + (r.da.length : Int) - a < n
   ·have : mapO R a n = none := by rw [mapO, hf, Option.bind_some, if_pos h3]
    rw [this]
    simp [fndV, lap, las, lap0, las0, w0, w1, w2, w3, w4, h3, mapV, Same0]
   ·have : mapO R a n = some r := by rw [mapO, hf, Option.bind_some, if_neg h3]
    rw [this]
    simp [fndV, lap, las, lap0, las0, w0, w1, w2, w3, w4, h3, mapV, Same0]
end
def prsL (r : Reg) (W : List (Int × Int)) (a : Int) (n : Nat) : List Int := (List.range n).map fun (k : Nat) => (lkL (IntKind.u32.wrap (a + IntKind.u32.wrap k)) W).getD (r.da.getD ((a - r.f).toNat + k) 0)
@[simp] theorem prsL_len (r : Reg) (W : List (Int × Int)) (a : Int) (n : Nat) : (prsL r W a n).length = n := by simp [prsL]
theorem und_mm : Tryz.prog.underlying 136 = some (.map 24 5) := by kernel_rfl
theorem und_u32 : Tryz.prog.underlying 24 = some (.int .u32) := by kernel_rfl
theorem zv_u8 : zv Tryz.prog 5 = some (.int .u8 0) := by kernel_rfl
theorem clonebyt_ac (A : AHeap) (xs : List (List D)) (hl : xs.length ≤ 1000000000) :
 AC Tryz.prog 94 [.d (.sl 1 xs)] A fun r A' => r = .own A.length 1 0 xs.length ∧ A' = A ++ [⟨1, true, 5, 1, dEls xs⟩] := by
 refine AC.sub (R := fun r A' => (r = .own A.length 1 0 xs.length ∧ A' = A ++ [⟨1, true, 5, 1, dEls xs⟩]) ∨ (r = .d (.v (.slice none 0 0)) ∧ xs = [] ∧ A' = A)) (ac_of Tryz.func94 rfl (by kernel_rfl) (by simp [Tryz.ntmps94]) fun hb => ?_) ?_
 ·have hall := bds_all hb.1.2
  clear hb
  simp [Tryz.f94]
  refine aRaw_app byt_78 ?_
  simp [hall]
  unfold maxLen
  omega
 ·rintro r A' (⟨rfl, rfl⟩ | ⟨rfl, rfl, rfl⟩)
  ·exact ⟨_, _, Sub.refl _ _ _, rfl, rfl⟩
  ·refine ⟨_, _, (Sub.ghost 1 5 1).trans (Sub.env (e' := fun _ => .own A'.length 1 0 0) fun i => VLe.nil_own (k := ⟨1, true, 5, 1, []⟩) (by simp) rfl), ?_, ?_⟩ <;> simp
section
variable {A : AHeap} {xm xw : Nat} {R : List Reg} {W : List (Int × Int)}
abbrev bysB (l : List Int) : Blk := ⟨1, true, 5, 1, dEls (u8d l)⟩
set_option maxRecDepth 100000 in
theorem mpresent_ac (r : Reg) (a : Int) (n : Nat) (ha : 0 ≤ a ∧ a < 4294967296) (hn : n ≤ 100) (hr : RegFit r) (h1 : r.f ≤ a) (h2 : a + n ≤ r.f + r.da.length) (hm : A[xm]? = some (memB R xw)) (hw : A[xw]? = some (mpB .u32 .u8 W)) :
 AC Tryz.prog 145 [.ptr xm 0 0 0, regV r, aI .u32 a, aI .i64 n] A (fun v A' => v = .own (A.length + 1) 1 0 n ∧ ∃ N, A' = A ++ regBk r :: bysB (prsL r W a n) :: N) := by
 obtain ⟨⟨f1, f2⟩, f3⟩ := hr
 obtain ⟨o, rfl⟩ : ∃ o : Nat, a = r.f + o := ⟨(a - r.f).toNat, by omega⟩
 have hon : o + n ≤ r.da.length := by omega
 obtain ⟨O, hO⟩ : ∃ O, (r.da.take (o + n)).drop o = O := ⟨_, rfl⟩
 have hOl : O.length = n := by rw [← hO]; simp; omega
 have hOg : ∀ i, i < n → O[i]? = some (r.da.getD (o + i) 0) := fun i hi => by
  rw [← hO, List.getElem?_drop, List.getElem?_take, if_pos (by omega), List.getD_eq_getElem?_getD, gEG (by omega)]
  rfl
 obtain ⟨Q, hQ⟩ : ∃ Q, prsL r W (r.f + o) n = Q := ⟨_, rfl⟩
 have hQl : Q.length = n := by rw [← hQ]; simp
 have hQg : ∀ i, i < n → Q[i]? = some ((lkL (IntKind.u32.wrap (r.f + o + IntKind.u32.wrap i)) W).getD (r.da.getD (o + i) 0)) := fun i hi => by
  rw [← hQ, prsL, List.getElem?_map, List.getElem?_range hi]
  simp only [Option.map_some]
  rw [show (r.f + (o : Int) - r.f).toNat = o by omega]
 rw [hQ]
 obtain ⟨M, hM⟩ : ∃ M : Nat → List Int, M = fun i => Q.take i ++ O.drop i := ⟨_, rfl⟩
 have hMl : ∀ i, i ≤ n → (M i).length = n := fun i hi => by rw [hM]; simp; omega
 have hM0 : M 0 = O := by rw [hM]; simp
 have hMn : M n = Q := by rw [hM]; simp only; rw [List.take_of_length_le (by omega), List.drop_of_length_le (by omega), List.append_nil]
 have hMd : ∀ i, i < n → M i = Q.take i ++ r.da.getD (o + i) 0 :: O.drop (i + 1) := fun i hi => by
  rw [hM]
  simp only
  rw [List.drop_eq_getElem_cons (by omega), (gSI.1 (hOg i hi)).2]
 have hMs : ∀ i x, i < n → (M i).set i x = Q.take i ++ x :: O.drop (i + 1) := fun i x hi => by
  rw [hMd i hi, List.set_append_right _ _ (by simp; omega)]
  simp [Nat.min_eq_left (show i ≤ Q.length by omega)]
 have hMt : ∀ i x, Q[i]? = some x → M (i + 1) = Q.take i ++ x :: O.drop (i + 1) := fun i x hx => by
  rw [hM]
  simp only
  rw [List.take_add_one, hx]
  simp
 clear hM
 refine ac_of Tryz.func145 rfl (by kernel_rfl) (by simp [Tryz.ntmps145]) fun hb => ?_
 clear hb
 have w1 : IntKind.u64.wrap (r.f + (o : Int)) = r.f + (o : Int) := u64w (by omega)
 have w2 : IntKind.u64.wrap (r.f + (o : Int) - r.f) = (o : Int) := by rw [u64w (by omega)]; omega
 have w3 : IntKind.i64.wrap (o : Int) = (o : Int) := i64w (by omega)
 have w4 : IntKind.i64.wrap ((o : Int) + (n : Int)) = ((o + n : Nat) : Int) := by rw [i64w (by omega)]; omega
 have hm2 : ∀ M, (A ++ M)[xm]? = some (memB R xw) := fun M => lapl hm
 have hw2 : ∀ M, (A ++ M)[xw]? = some (mpB .u32 .u8 W) := fun M => lapl hw
 simp [Tryz.f145, lap0, w1, w2, w3, w4]
 refine aRaw_min (k := .i64) (k' := .i64) (a := ((o + n : Nat) : Int)) (b := (r.da.length : Int)) (by simp [w4]) (by simp) ?_
 simp [show ¬ (r.da.length : Int) < (o : Int) + (n : Int) by omega, show (0 : Int) ≤ (o : Int) + (n : Int) by omega, show (o : Int) + (n : Int) ≤ (r.da.length : Int) by omega, show ((o : Int) + (n : Int)).toNat = o + n by omega, show (o : Int) ≤ (o : Int) + (n : Int) by omega, hO]
 refine aCall_ofc (clonebyt_ac _ (u8d O) (by simp; omega)) (by kernel_rfl) ?_
 rintro _ _ ⟨rfl, rfl⟩
 simp [hOl]
 refine aLoop_of (α := Nat) (fun i e A' => i ≤ n ∧ (∃ N, A' = A ++ regBk r :: bysB (M i) :: N) ∧ e 0 = .ptr xm 0 0 0 ∧ e 2 = aI .u32 (r.f + o) ∧ e 10 = .own (A.length + 1) 1 0 n ∧ e 33 = aI .i64 n ∧ e 34 = aI .i64 i) (fun i => n - i) 0 (Sub.refl _ _ _)
  ⟨by omega, ⟨[], by simp [hM0]⟩, by simp, by simp, by simp, by simp, by simp⟩ ?_
 rintro i e A' ⟨hi, ⟨N, rfl⟩, e0, e2, e10, e33, e34⟩ K hK
 rcases Nat.lt_or_ge i n with hlt | hge
 case inr =>
  obtain rfl : i = n := by omega
  simp [e0, e2, e10, e33, e34, hMn]
 have hsw : IntKind.i64.wrap ((i : Int) + 1) = ((i + 1 : Nat) : Int) := succ_wrap hlt (by unfold maxLen; omega)
 have hq := hQg i hlt
 obtain ⟨kx, hkx⟩ : ∃ k, IntKind.u32.wrap (r.f + (o : Int) + IntKind.u32.wrap (i : Int)) = k := ⟨_, rfl⟩
 rw [hkx] at hq
 simp [e0, e2, e10, e33, e34, hlt, hm2, hw2, hkx]
 refine aRaw_lookup (r := okM true (.d (.v (.int .u8 ((lkL kx W).getD 0)))) (lkL kx W).isSome) (by simpa using look_mp (L := W) und_mm und_u32 zv_u8 (hw2 (regBk r :: bysB (M i) :: N)) kx true) ?_
 cases hk : lkL kx W with
 | none =>
   rw [hk] at hq
   have hMM : M (i + 1) = M i := by rw [hMt i _ hq, hMd i hlt]; rfl
   simp [okM, hk, hsw, e34]
   exact hK (i + 1) _ _ _ _ (Sub.refl _ _ _) ⟨by omega, ⟨N, by rw [hMM]⟩, by simp [e0], by simp [e2], by simp [e10], by simp [e33], by simp⟩ (by omega)
 | some x =>
   rw [hk] at hq
   have hMM : M (i + 1) = (M i).set i x := by rw [hMt i _ hq, hMs i x hlt]; rfl
   have hl := hMl i hi
   simp [okM, hk, hsw, e10, e34, hl, hlt, lap, las]
   exact hK (i + 1) _ _ _ _ (Sub.refl _ _ _) ⟨by omega, ⟨N, by rw [hMM]; simp [u8d, dEls, List.map_set]⟩, by simp [e0], by simp [e2], by simp [e10], by simp [e33], by simp⟩ (by omega)
end
def ldF : List Int → Nat → Int → Int
 | [], _, acc => acc
 | b :: l, k, acc => ldF l (k + 1) (orI .u32 acc (shlI .u32 (IntKind.u32.wrap b) (8 * (k : Int))))
def ldV (R : List Reg) (W : List (Int × Int)) (a w : Int) : Int × Int :=
 if validB w = false then (0, 2) else match mapO R a w with
  | none => (0, 11)
  | some r => (ldF (prsL r W a w.toNat) 0 0, 0)
theorem validB_r {w : Int} (h : validB w = true) : w = 1 ∨ w = 2 ∨ w = 4 := by
 unfold validB at h
 simp at h
 omega
def stL (a n : Int) (W : List (Int × Int)) : Nat → List (Int × Int)
 | 0 => W
 | k + 1 => upL (IntKind.u32.wrap (a + IntKind.u32.wrap k)) (IntKind.u8.wrap (shrI .u32 n (8 * (k : Int)))) (stL a n W k)
def stE (R : List Reg) (a w : Int) : Int :=
 if validB w = false then 2 else match mapO R a w with
  | none => 11
  | some r => if r.w = true then 0 else 12
section
variable {A : AHeap} {xm xw : Nat} {R : List Reg} {W : List (Int × Int)}
set_option maxRecDepth 100000 in
theorem mload_ac (a w : Int) (ha : 0 ≤ a ∧ a < 4294967296) (hR : ∀ r ∈ R, RegFit r) (hRl : R.length ≤ 1000) (hm : A[xm]? = some (memB R xw)) (hw : A[xw]? = some (mpB .u32 .u8 W)) :
 AC Tryz.prog 122 [.ptr xm 0 0 0, aI .u32 a, aI .i64 w] A (Same0 A (.tup [aI .u32 (ldV R W a w).1, aI .i64 (ldV R W a w).2])) := by
 obtain ⟨V, hV⟩ : ∃ V, ldV R W a w = V := ⟨_, rfl⟩
 rw [hV]
 unfold ldV at hV
 refine ac_of Tryz.func122 rfl (by kernel_rfl) (by simp [Tryz.ntmps122]) fun hb => ?_
 clear hb
 simp [Tryz.f122]
 refine aCall_ofc (mmade_ac hm ⟨W, hw⟩) (by kernel_rfl) ?_
 rintro _ _ ⟨rfl, rfl⟩
 simp
 refine aCall_of (mvalid_af w) (by kernel_rfl) (by simp) ?_
 cases hv : validB w with
 | false =>
   rw [if_pos hv] at hV
   subst hV
   simp [Same0]
 | true =>
 rw [if_neg (by simp [hv])] at hV
 have hwr := validB_r hv
 simp
 refine aCall_ofc (mmapped_ac a w ha (by omega) hR hRl hm) (by kernel_rfl) ?_
 rintro _ _ ⟨rfl, N, rfl⟩
 cases hf : mapO R a w with
 | none =>
   rw [hf] at hV
   simp only at hV
   subst hV
   simp [mapV, Same0]
 | some r =>
 rw [hf] at hV
 simp only at hV
 subst hV
 obtain ⟨hr, h1, h2, h3⟩ := mapO_some hf
 obtain ⟨n, hn⟩ : ∃ n : Nat, w = n := ⟨w.toNat, by omega⟩
 rw [hn, Int.toNat_natCast]
 obtain ⟨Q, hQ⟩ : ∃ Q, prsL r W a n = Q := ⟨_, rfl⟩
 have hQl : Q.length = n := by rw [← hQ]; simp
 have hpr := mpresent_ac (A := A ++ (N ++ [regBk r])) (xm := xm) (R := R) r a n ha (by omega) (hR r hr) h1 (by omega) (lapl hm) (lapl hw)
 rw [hQ] at hpr ⊢
 simp [mapV, lap, las, lap0, las0, hn]
 refine aCall_ofc (by simpa using hpr) (by kernel_rfl) ?_
 rintro _ _ ⟨rfl, N2, rfl⟩
 have hx : (A ++ (N ++ regBk r :: regBk r :: bysB Q :: N2))[A.length + (N.length + 1) + 1]? = some (bysB Q) := by
  rw [show A.length + (N.length + 1) + 1 = A.length + (N.length + 2) by omega, lap, lap]
  rfl
 obtain ⟨x, hxe⟩ : ∃ x, A.length + (N.length + 1) + 1 = x := ⟨_, rfl⟩
 rw [hxe] at hx ⊢
 obtain ⟨M0, hM0⟩ : ∃ M0, N ++ regBk r :: regBk r :: bysB Q :: N2 = M0 := ⟨_, rfl⟩
 rw [hM0] at hx ⊢
 simp [hx]
 obtain ⟨fin, hfin⟩ : ∃ fin, ldF Q 0 0 = fin := ⟨_, rfl⟩
 rw [hfin]
 refine aLoop_of (α := Nat × Int) (fun p e A' => p.1 ≤ n ∧ A' = A ++ M0 ∧ ldF (Q.drop p.1) p.1 p.2 = fin ∧ e 10 = aI .u32 p.2 ∧ e 33 = .own x 1 0 n ∧ e 34 = aI .i64 n ∧ e 35 = aI .i64 p.1) (fun p => n - p.1) (0, 0) (Sub.refl _ _ _)
  ⟨by simp, rfl, by simpa using hfin, by simp, by simp, by simp, by simp⟩ ?_
 rintro ⟨i, acc⟩ e A' ⟨hi, rfl, hac, e10, e33, e34, e35⟩ K hK
 simp only at hi hac e10 e33 e34 e35
 rcases Nat.lt_or_ge i n with hlt | hge
 case inr =>
  obtain rfl : i = n := by omega
  rw [List.drop_of_length_le (by omega), ldF] at hac
  subst hac
  simp [e10, e33, e34, e35, Same0]
 obtain ⟨b, hb⟩ : ∃ b, Q[i]? = some b := ⟨_, gEG (by omega)⟩
 have hb2 := (gSI.1 hb).2
 have hsw : IntKind.i64.wrap ((i : Int) + 1) = ((i + 1 : Nat) : Int) := succ_wrap hlt (by unfold maxLen; omega)
 have h8 : IntKind.i64.wrap (8 * (i : Int)) = 8 * (i : Int) := i64w (by omega)
 have hsh : ∀ y, shf .shl .u32 y (8 * (i : Int)) = some (.int .u32 (shlI .u32 y (8 * (i : Int)))) := fun y => shf_shl _ _ _ (by omega)
 rw [List.drop_eq_getElem_cons (by omega), hb2, ldF] at hac
 simp [e10, e33, e34, e35, hlt, hx, hb, hb2, h8, hsw, hsh]
 exact hK (i + 1, orI .u32 acc (shlI .u32 (IntKind.u32.wrap b) (8 * (i : Int)))) _ _ _ _ (Sub.refl _ _ _) ⟨by simp only; omega, rfl, hac, by simp, by simp [e33], by simp [e34], by simp⟩ (by simp only; omega)
set_option maxRecDepth 100000 in
theorem mstore_ac (a w n : Int) (ha : 0 ≤ a ∧ a < 4294967296) (hR : ∀ r ∈ R, RegFit r) (hRl : R.length ≤ 1000) (hm : A[xm]? = some (memB R xw)) (hw : A[xw]? = some (mpB .u32 .u8 W)) (hne : xm ≠ xw) :
 AC Tryz.prog 58 [.ptr xm 0 0 0, aI .u32 a, aI .i64 w, aI .u32 n] A (Same0 (A.set xw (mpB .u32 .u8 (if stE R a w = 0 then stL a n W w.toNat else W))) (aI .i64 (stE R a w))) := by
 obtain ⟨V, hV⟩ : ∃ V, stE R a w = V := ⟨_, rfl⟩
 rw [hV]
 unfold stE at hV
 have hxw := (gSI.1 hw).1
 have hno : V ≠ 0 → A.set xw (mpB .u32 .u8 (if V = 0 then stL a n W w.toNat else W)) = A := fun h => by rw [if_neg h]; exact set_same hw
 refine ac_of Tryz.func58 rfl (by kernel_rfl) (by simp [Tryz.ntmps58]) fun hb => ?_
 clear hb
 simp [Tryz.f58]
 refine aCall_ofc (mmade_ac hm ⟨W, hw⟩) (by kernel_rfl) ?_
 rintro _ _ ⟨rfl, rfl⟩
 simp
 refine aCall_of (mvalid_af w) (by kernel_rfl) (by simp) ?_
 cases hv : validB w with
 | false =>
   rw [if_pos hv] at hV
   subst hV
   rw [hno (by omega)]
   simp [Same0]
 | true =>
 rw [if_neg (by simp [hv])] at hV
 have hwr := validB_r hv
 simp
 refine aCall_ofc (mmapped_ac a w ha (by omega) hR hRl hm) (by kernel_rfl) ?_
 rintro _ _ ⟨rfl, N, rfl⟩
 cases hf : mapO R a w with
 | none =>
   rw [hf] at hV
   simp only at hV
   subst hV
   rw [hno (by omega)]
   simp [mapV, Same0]
 | some r =>
 rw [hf] at hV
 simp only at hV
 simp [mapV, lap, las, lap0, las0]
 cases hrw : r.w with
 | false =>
   rw [hrw, if_neg (by simp)] at hV
   subst hV
   rw [hno (by omega)]
   simp [Same0]
 | true =>
 rw [hrw, if_pos rfl] at hV
 subst hV
 rw [if_pos rfl]
 obtain ⟨m, hn⟩ : ∃ m : Nat, w = m := ⟨w.toNat, by omega⟩
 rw [hn, Int.toNat_natCast]
 have hst : ∀ L, (A.set xw (mpB .u32 .u8 L))[xm]? = some (memB R xw) := fun L => by rw [gSN (Ne.symm hne)]; exact hm
 have hsw0 : ∀ L, (A.set xw (mpB .u32 .u8 L))[xw]? = some (mpB .u32 .u8 L) := fun L => gSS hxw
 have hs0 : A.set xw (mpB .u32 .u8 (stL a n W 0)) = A := set_same hw
 simp
 refine aLoop_of (α := Nat) (fun i e A' => i ≤ m ∧ (∃ N, A' = A.set xw (mpB .u32 .u8 (stL a n W i)) ++ N) ∧ e 0 = .ptr xm 0 0 0 ∧ e 1 = aI .u32 a ∧ e 3 = aI .u32 n ∧ e 32 = aI .i64 m ∧ e 33 = aI .i64 i) (fun i => m - i) 0 (Sub.refl _ _ _)
  ⟨by omega, ⟨_, by rw [hs0]⟩, by simp, by simp, by simp, by simp, by simp⟩ ?_
 rintro i e A' ⟨hi, ⟨N, rfl⟩, e0, e1, e3, e32, e33⟩ K hK
 rcases Nat.lt_or_ge i m with hlt | hge
 case inr =>
  obtain rfl : i = m := by omega
  simp [e32, e33, Same0]
 have hsw : IntKind.i64.wrap ((i : Int) + 1) = ((i + 1 : Nat) : Int) := succ_wrap hlt (by unfold maxLen; omega)
 have h8 : IntKind.i64.wrap (8 * (i : Int)) = 8 * (i : Int) := i64w (by omega)
 have hsh : ∀ y, shf .shr .u32 y (8 * (i : Int)) = some (.int .u32 (shrI .u32 y (8 * (i : Int)))) := fun y => shf_shr _ _ _ (by omega)
 obtain ⟨B, hB⟩ : ∃ B, A.set xw (mpB .u32 .u8 (stL a n W i)) ++ N = B := ⟨_, rfl⟩
 have hBm : B[xm]? = some (memB R xw) := by rw [← hB]; exact lapl (hst _)
 have hBw : B[xw]? = some (mpB .u32 .u8 (stL a n W i)) := by rw [← hB]; exact lapl (hsw0 _)
 have hBl : xm < B.length := (gSI.1 hBm).1
 simp [e0, e1, e3, e32, e33, hlt, hB]
 refine adraw2 13 [] (by kernel_rfl) (by kernel_rfl) (by kernel_rfl) (by kernel_rfl) (by kernel_rfl) ?_
 simp [e0, e1, e3, hBm, h8, hsh]
 refine ⟨hBl, ?_⟩
 refine aRaw_mapUpdate (A' := B.set xw (mpB .u32 .u8 (stL a n W (i + 1)))) ?_ ?_
 ·simp
  exact upd_mp und_mm und_u32 hBw _ _
 simp [hsw, e33]
 have hB2 : B.set xw (mpB .u32 .u8 (stL a n W (i + 1))) = A.set xw (mpB .u32 .u8 (stL a n W (i + 1))) ++ N := by
  rw [← hB, List.set_append_left _ _ (by simpa using hxw), List.set_set]
 rw [hB2]
 exact hK (i + 1) _ _ _ _ (Sub.refl _ _ _) ⟨by omega, ⟨N, rfl⟩, by simp [e0], by simp [e1], by simp [e3], by simp [e32], by simp⟩ (by omega)
end
def exI (n w : Int) : Int := if w = 1 then IntKind.u32.wrap (IntKind.i8.wrap n) else if w = 2 then IntKind.u32.wrap (IntKind.i16.wrap n) else n
theorem bextendI_af (n w : Int) : AF Tryz.prog 123 [aI .u32 n, aI .i64 w] (aI .u32 (exI n w)) := by
 unfold exI
 by_cases h1 : w = 1
 ·refine af_of Tryz.func123 rfl (by kernel_rfl) (by simp [Tryz.ntmps123]) fun _ => ?_; simp [Tryz.f123, Ex.d_eq]
  simp [h1]
 by_cases h2 : w = 2
 ·refine af_of Tryz.func123 rfl (by kernel_rfl) (by simp [Tryz.ntmps123]) fun _ => ?_; simp [Tryz.f123, Ex.d_eq]
  simp [h2]
 ·refine af_of Tryz.func123 rfl (by kernel_rfl) (by simp [Tryz.ntmps123]) fun _ => ?_; simp [Tryz.f123, Ex.d_eq]
  simp [h1, h2]
def evX (val : Int → Int) (L : Int → Int → Int × Int) : Ex → Int × Int
 | .mk op n v _ [] => if op = 1 then (n, 0) else (val v, 0)
 | .mk op _ _ w [a] => if (evX val L a).2 ≠ 0 then (0, (evX val L a).2) else
   if op = 16 then (appI 12 (evX val L a).1 0, 0) else if op = 17 then (IntKind.u32.wrap (-(evX val L a).1), 0) else if op = 18 then L (evX val L a).1 w else (exI (evX val L a).1 w, 0)
 | .mk op _ _ _ [a, b] => if (evX val L a).2 ≠ 0 then (0, (evX val L a).2) else if (evX val L b).2 ≠ 0 then (0, (evX val L b).2) else (appI op.toNat (evX val L a).1 (evX val L b).1, 0)
 | _ => (0, 0)
theorem appI_r32 {op : Nat} {x y : Int} (hx : R32 x) : R32 (appI op x y) := by
 unfold appI
 rw [List.getD_eq_getElem?_getD]
 cases h : (appL x y)[op - 3]? with
 | none => exact r32_0
 | some v =>
   have hm := gMO h
   have hb : ∀ c : Prop, ∀ [Decidable c], R32 (if c then 1 else 0) ∧ R32 (if c then 0 else 1) := fun c _ => by
    unfold R32
    constructor <;> split <;> omega
   have hs : R32 (shrI .u32 x (shI y)) := by
    unfold shrI
    have h1 := hx.1
    have h2 := hx.2
    have hp : (0 : Int) < 2 ^ (min (shI y).toNat IntKind.u32.bits) := Int.pow_pos (by omega)
    rw [Int.fdiv_eq_ediv_of_nonneg _ (Int.le_of_lt hp)]
    refine ⟨Int.ediv_nonneg h1 (Int.le_of_lt hp), ?_⟩
    have := Int.ediv_le_self (a := x) (2 ^ (min (shI y).toNat IntKind.u32.bits)) h1
    omega
   simp only [appL, List.mem_cons, List.not_mem_nil, or_false] at hm
   rcases hm with rfl | rfl | rfl | rfl | rfl | rfl | rfl | rfl | rfl | rfl | rfl | rfl | rfl
   all_goals first | exact r32_wrap _ | exact hs | exact (hb _).1 | exact (hb _).2
theorem exI_r32 {n w : Int} (h : R32 n) : R32 (exI n w) := by
 unfold exI
 split
 ·exact r32_wrap _
 split
 ·exact r32_wrap _
 ·exact h
theorem evX_r32 {val : Int → Int} {L : Int → Int → Int × Int} (hv : ∀ v, R32 (val v)) (hL : ∀ a w, R32 a → R32 (L a w).1) : ∀ e : Ex, OkN e → R32 (evX val L e).1 := by
 intro e
 induction e using Ex.ind with
 | h e ih =>
 intro hn
 obtain ⟨op, n, v, w, l⟩ := e
 match l, ih, hn with
 | [], _, hn =>
   simp only [evX]
   split
   ·exact hn.n
   ·exact hv v
 | [a], ih, hn =>
   have ra := ih a (by simp) (hn.l a (by simp))
   simp only [evX]
   split
   ·exact r32_0
   split
   ·dsimp only; exact appI_r32 ra
   split
   ·exact r32_wrap _
   split
   ·exact hL _ _ ra
   ·dsimp only; exact exI_r32 ra
 | [a, b], ih, hn =>
   have ra := ih a (by simp) (hn.l a (by simp))
   simp only [evX]
   split
   ·exact r32_0
   split
   ·exact r32_0
   ·dsimp only; exact appI_r32 ra
 | _ :: _ :: _ :: _, _, _ => exact r32_0
section
variable {B : AHeap} {vf mp : AV} {f : Nat} {fs : List AV} {val : Int → Int} {L : Int → Int → Int × Int}
 (hok : okF Tryz.prog f = true)
 (hvr : ∀ v, R32 (val v)) (hLr : ∀ a w, R32 a → R32 (L a w).1)
 (hv : ∀ v M, 0 ≤ v → v < 65536 → AC Tryz.prog f (fs ++ [aI .i64 v]) (B ++ M) (Same0 (B ++ M) (aI .u32 (val v))))
 (hL : ∀ a w M, R32 a → AC Tryz.prog 122 [mp, aI .u32 a, aI .i64 w] (B ++ M) (Same0 (B ++ M) (.tup [aI .u32 (L a w).1, aI .i64 (L a w).2])))
abbrev exB (e : Ex) : Blk := ⟨0, true, 53, 5, [[aI .i64 e.op, aI .u32 e.n, aI .i64 e.v, aI .i64 e.wd, .d (.sl 5 (Ex.ds e.l))]]⟩
include hok hvr hLr hv hL
set_option maxRecDepth 100000 in
theorem ieval_ac : ∀ (e : Ex), OkN e → formB e = true → ∀ M, AC Tryz.prog 112 [exA e, .fn f fs [], mp] (B ++ M) (Same0 (B ++ M) (.tup [aI .u32 (evX val L e).1, aI .i64 (evX val L e).2])) := by
 intro e
 induction e using Ex.ind with
 | h e ih =>
 intro hn hf M
 obtain ⟨C, hC⟩ : ∃ C, B ++ M = C := ⟨_, rfl⟩
 have hvC : ∀ v N, 0 ≤ v → v < 65536 → AC Tryz.prog f (fs ++ [aI .i64 v]) (C ++ N) (Same0 (C ++ N) (aI .u32 (val v))) := fun v N h1 h2 => by
  rw [← hC, List.append_assoc]; exact hv v _ h1 h2
 have hLC : ∀ a w N, R32 a → AC Tryz.prog 122 [mp, aI .u32 a, aI .i64 w] (C ++ N) (Same0 (C ++ N) (.tup [aI .u32 (L a w).1, aI .i64 (L a w).2])) := fun a w N h => by
  rw [← hC, List.append_assoc]; exact hL a w _ h
 have ihC : ∀ x ∈ e.l, OkN x → formB x = true → ∀ N, AC Tryz.prog 112 [exA x, .fn f fs [], mp] (C ++ N) (Same0 (C ++ N) (.tup [aI .u32 (evX val L x).1, aI .i64 (evX val L x).2])) := fun x hx h1 h2 N => by
  rw [← hC, List.append_assoc]; exact ih x hx h1 h2 _
 rw [hC]
 have hop := form_op hf
 have hr := fun x hx => evX_r32 hvr hLr x (hn.l x hx)
 clear ih hv hL
 refine ac_of Tryz.func112 rfl (by kernel_rfl) (by simp [Tryz.ntmps112]) fun hb => ?_
 clear hb
 by_cases h1 : e.op = 1
 ·obtain ⟨n, rfl⟩ : ∃ n, e = eCon n := ⟨_, form_con hf h1⟩
  simp [Tryz.f112, lap, las, lap0, las0]
  refine aLoop_iter 1 ?_; simp [Ex.d_eq]
  simp [Same0, evX, eCon]
 by_cases h2 : e.op = 2
 ·obtain ⟨v, rfl, hv1, hv2⟩ : ∃ v, e = eVar v ∧ 0 ≤ v ∧ v < 65536 := ⟨_, form_var hf h2⟩
  simp [Tryz.f112, lap, las, lap0, las0]
  refine aLoop_iter 1 ?_; simp [Ex.d_eq]
  refine aCall_ofc (by simpa using hvC v _ hv1 hv2) hok ?_
  rintro _ _ ⟨rfl, N, rfl⟩
  simp [Same0, evX, eVar]
 by_cases h15 : e.op ≤ 15
 ·obtain ⟨op, ho⟩ : ∃ op : Nat, e.op = op := ⟨e.op.toNat, by omega⟩
  obtain ⟨a, b, he, ha, hb⟩ := form_two hf (by omega) h15
  rw [ho] at h1 h2 h15 he
  subst he
  have ia := ihC a (by simp) (hn.l a (by simp)) ha
  have ib := ihC b (by simp) (hn.l b (by simp)) hb
  have hev : evX val L (eTwo op a b) = if (evX val L a).2 ≠ 0 then (0, (evX val L a).2) else if (evX val L b).2 ≠ 0 then (0, (evX val L b).2) else (appI op (evX val L a).1 (evX val L b).1, 0) := by
   simp [eTwo, evX]
  rw [hev]
  clear hev ihC hr hn hf
  have c1 : ¬ (op : Int) = 1 := by omega
  have c2 : ¬ (op : Int) = 2 := by omega
  have c16 : ¬ (op : Int) = 16 := by omega
  have c17 : ¬ (op : Int) = 17 := by omega
  have c18 : ¬ (op : Int) = 18 := by omega
  have c19 : ¬ (op : Int) = 19 := by omega
  generalize hea : evX val L a = ea at *
  generalize heb : evX val L b = eb at *
  obtain ⟨va, fa⟩ := ea
  obtain ⟨vb, fb⟩ := eb
  simp [Tryz.f112, lap, las, lap0, las0]
  refine aLoop_iter 3 ?_; simp [Ex.d_eq]
  refine aCall_ofc (by simpa using ia _) (by kernel_rfl) ?_
  rintro _ _ ⟨rfl, N, rfl⟩
  simp [Ex.d_eq, lap, las, lap0, las0]
  by_cases z1 : fa = 0
  case neg => simp [z1, Same0]
  simp [z1, Ex.d_eq, lap, las, lap0, las0]
  refine aCall_ofc (by simpa using ib _) (by kernel_rfl) ?_
  rintro _ _ ⟨rfl, N2, rfl⟩
  simp [Ex.d_eq, lap, las, lap0, las0]
  by_cases z2 : fb = 0
  case neg => simp [z2, Same0]
  simp [z2, Ex.d_eq, lap, las, lap0, las0, c1, c2, c16, c17, c18, c19]
  refine aCall_of (bapply_af op va vb ⟨by omega, by omega⟩) (by kernel_rfl) (by simp) ?_
  simp [Same0]
 obtain ⟨op, ho⟩ : ∃ op : Nat, e.op = op := ⟨e.op.toNat, by omega⟩
 have hone : ∃ a w, e = .mk op 0 0 w [a] ∧ formB a = true ∧ (op = 18 → w = 1 ∨ w = 2 ∨ w = 4) := by
  rcases (show e.op = 16 ∨ e.op = 17 ∨ e.op = 18 ∨ e.op = 19 by omega) with h | h | h | h
  ·obtain ⟨a, he, ha⟩ := form_one hf (.inl h); rw [ho] at he; exact ⟨a, 0, he, ha, by omega⟩
  ·obtain ⟨a, he, ha⟩ := form_one hf (.inr h); rw [ho] at he; exact ⟨a, 0, he, ha, by omega⟩
  ·obtain ⟨a, he, ha, hw⟩ := form_wide hf (.inl h); rw [ho] at he; exact ⟨a, _, he, ha, by omega⟩
  ·obtain ⟨a, he, ha, hw⟩ := form_wide hf (.inr h); rw [ho] at he; exact ⟨a, _, he, ha, by omega⟩
 rw [ho] at h1 h2 h15 hop
 obtain ⟨a, w, rfl, ha, hw⟩ := hone
 have ia := ihC a (by simp) (hn.l a (by simp)) ha
 have ra := hr a (by simp)
 have c1 : ¬ (op : Int) = 1 := by omega
 have c2 : ¬ (op : Int) = 2 := by omega
 have hev : evX val L (.mk op 0 0 w [a]) = if (evX val L a).2 ≠ 0 then (0, (evX val L a).2) else
  if (op : Int) = 16 then (appI 12 (evX val L a).1 0, 0) else if (op : Int) = 17 then (IntKind.u32.wrap (-(evX val L a).1), 0) else if (op : Int) = 18 then L (evX val L a).1 w else (exI (evX val L a).1 w, 0) := by
  simp [evX]
 rw [hev]
 clear hev ihC hr hn hf
 generalize hea : evX val L a = ea at *
 obtain ⟨va, fa⟩ := ea
 simp [Tryz.f112, lap, las, lap0, las0]
 refine aLoop_iter 2 ?_; simp [Ex.d_eq]
 refine aCall_ofc (by simpa using ia _) (by kernel_rfl) ?_
 rintro _ _ ⟨rfl, N, rfl⟩
 simp [Ex.d_eq, lap, las, lap0, las0]
 by_cases z1 : fa = 0
 case neg => simp [z1, Same0]
 by_cases c16 : (op : Int) = 16
 ·simp [z1, Ex.d_eq, lap, las, lap0, las0, c16]
  refine aCall_of (bapply_af 12 va 0 ⟨by omega, by omega⟩) (by kernel_rfl) (by simp) ?_
  simp [Same0]
 by_cases c17 : (op : Int) = 17
 ·simp [z1, Ex.d_eq, lap, las, lap0, las0, c17, Same0]
 by_cases c18 : (op : Int) = 18
 ·simp [z1, Ex.d_eq, lap, las, lap0, las0, c18]
  refine aCall_ofc (by simpa using hLC va w _ ra) (by kernel_rfl) ?_
  rintro _ _ ⟨rfl, N2, rfl⟩
  simp [Same0]
 ·have c19 : (op : Int) = 19 := by omega
  simp [z1, Ex.d_eq, lap, las, lap0, las0, c19]
  refine aCall_of (bextendI_af va w) (by kernel_rfl) (by simp) ?_
  simp [Same0]
end
def regOf (s : Sec) : Reg := ⟨s.ad, s.da, s.w, s.x⟩
def regL (l : List Sec) : List Reg := l.map regOf ++ [⟨978944, List.replicate 4096 0, true, false⟩]
theorem regL_fit {l : List Sec} (h : ∀ s ∈ l, SecFit s) : ∀ r ∈ regL l, RegFit r := by
 intro r hr
 rcases List.mem_append.1 hr with h1 | h1
 ·obtain ⟨s, hs, rfl⟩ := List.mem_map.1 h1
  exact ⟨(h s hs).1, (h s hs).2.1⟩
 ·obtain rfl := List.mem_singleton.1 h1
  exact ⟨⟨by show (0 : Int) ≤ 978944; omega, by show (978944 : Int) < 4294967296; omega⟩, by show (List.replicate 4096 (0 : Int)).length ≤ 1000000; rw [List.length_replicate]; omega⟩
theorem frz_app (B : List Nat) (A M : AHeap) (h : ∀ b ∈ B, A.length ≤ b) : frz B (A ++ M) = A ++ frz (B.map (· - A.length)) M := by
 unfold frz
 rw [List.mapIdx_append]
 congr 1
 ·refine List.ext_getElem? fun i => ?_
  rw [List.getElem?_mapIdx]
  cases hk : A[i]? with
  | none => rfl
  | some k =>
    have hi := (gSI.1 hk).1
    have : B.contains i = false := by
     rw [Bool.eq_false_iff]
     intro hc
     have := h i (by simpa using hc)
     omega
    rw [Option.map_some, this]
    rfl
 ·refine List.ext_getElem? fun i => ?_
  rw [List.getElem?_mapIdx, List.getElem?_mapIdx]
  have : B.contains (i + A.length) = (B.map (· - A.length)).contains i := by
   rw [Bool.eq_iff_iff]
   simp
   constructor
   ·intro hc
    exact ⟨_, hc, by omega⟩
   ·rintro ⟨b, hb, rfl⟩
    have := h b hb
    rwa [Nat.sub_add_cancel this]
  rw [this]
theorem omap_app {α β : Type} {g : α → Option β} : ∀ {l m : List α} {a b : List β}, omap g l = some a → omap g m = some b → omap g (l ++ m) = some (a ++ b)
 | [], m, a, b, h1, h2 => by
   simp only [omap, Option.some.injEq] at h1
   subst h1
   simpa using h2
 | x :: l, m, a, b, h1, h2 => by
   simp only [omap] at h1
   split at h1
   ·rename_i y hy
    rw [Option.map_eq_some_iff] at h1
    obtain ⟨a', ha, rfl⟩ := h1
    simp only [List.cons_append, omap, hy, omap_app ha h2, Option.map_some]
   ·cases h1
theorem clonebyt_af (xs : List (List D)) (hl : xs.length ≤ 1000000000) : AF Tryz.prog 94 [.d (.sl 1 xs)] (.d (.sl 1 xs)) :=
 AC.af ((clonebyt_ac [] xs hl).mono fun r A' h => by
  obtain ⟨rfl, rfl⟩ := h
  simp)
abbrev memO (w g v : Nat) : Blk := ⟨0, true, 139, 2, [[.own g v 0 v, .mp w 0]]⟩
abbrev rgB (v : Nat) (L : List Reg) : Blk := ⟨v, true, 144, 4, dEls (regs L)⟩
set_option maxRecDepth 100000 in
theorem mnew_ac (l : List Sec) (A : AHeap) (hl : ∀ s ∈ l, SecFit s) (he : secErr l = 0) (h16 : l.length ≤ 16) :
 AC Tryz.prog 57 [.d (.sl 5 (secs l))] A (fun r A' => r = .tup [.ptr (A.length + 1) 0 0 0, aI .i64 0] ∧ ∃ N, A' = A ++ mpB .u32 .u8 [] :: memB (regL l) A.length :: N) := by
 obtain ⟨c, hc⟩ : ∃ c, c = 4096 := ⟨4096, rfl⟩
 have hmk : mkA Tryz.prog 78 (.d (.v (.int .i64 4096))) (.d (.v (.int .i64 4096))) = some (5, .d (.v (.int .u8 0)), c) := by rw [hc]; kernel_rfl
 have hrl : regL l = l.map regOf ++ [⟨978944, List.replicate c 0, true, false⟩] := by rw [hc]; rfl
 have hc5 : c ≤ 5000 := by omega
 rw [hrl]
 clear hrl hc
 refine AC.sub (R := fun r A' => r = .tup [.ptr (A.length + 1) 0 0 0, aI .i64 0] ∧ ∃ N x, A' = A ++ mpB .u32 .u8 [] :: memO A.length (A.length + 2) (l.length + 1) :: ⟨l.length + 1, true, 144, 4, dEls (regs (l.map regOf)) ++ [[.d (.v (.int .u64 978944)), .own (A.length + (x + 3)) 0 0 c, aB true, aB false]]⟩ :: N ∧ N[x]? = some ⟨0, true, 5, 1, dEls (u8d (List.replicate c 0))⟩) ?_ ?_
 ·refine ac_of Tryz.func57 rfl (by kernel_rfl) (by simp [Tryz.ntmps57]) fun hb => ?_
  clear hb
  have hm : l.length ≤ maxLen := by unfold maxLen; omega
  simp [Tryz.f57]
  refine aCall_of (secchk_af l hl) (by kernel_rfl) (by simp) ?_
  simp [he]
  refine aRaw_makeMap (tg := 1000001) (sz := 2) (by kernel_rfl) ?_
  simp
  have hst : ∀ e, Sub A.length e (A ++ [⟨0, true, 1000001, 2, []⟩, ⟨0, true, 139, 2, [[.d (.v (.slice none 0 0)), .mp A.length 0]]⟩]) e (A ++ [⟨0, true, 1000001, 2, []⟩, memO A.length (A.length + 2) 0, rgB 0 []]) := fun e => by
   have g1 := Sub.ghost (n := A.length) (e := e) 0 144 4 (A := A ++ [⟨0, true, 1000001, 2, []⟩, ⟨0, true, 139, 2, [[.d (.v (.slice none 0 0)), .mp A.length 0]]⟩])
   have g2 := Sub.cell (n := A.length) (e := e) (A := A ++ [⟨0, true, 1000001, 2, []⟩, ⟨0, true, 139, 2, [[.d (.v (.slice none 0 0)), .mp A.length 0]]⟩, ⟨0, true, 144, 4, []⟩]) (b := A.length + 1) (i := 0) (o := 0) (lap _ _ 1) rfl rfl (VLe.nil_own (b := A.length + 2) (ver := 0) (k := ⟨0, true, 144, 4, []⟩) (lap _ _ 2) rfl)
   rw [las] at g2
   rw [List.append_assoc] at g1
   exact g1.trans g2
  refine aLoop_of (α := Nat) (fun i e A' => i ≤ l.length ∧ (∃ N, A' = A ++ mpB .u32 .u8 [] :: memO A.length (A.length + 2) i :: rgB i ((l.take i).map regOf) :: N) ∧ e 5 = .ptr (A.length + 1) 0 0 0 ∧ e 16 = .d (.sl 5 (secs l)) ∧ e 17 = aI .i64 l.length ∧ e 18 = aI .i64 i) (fun i => l.length - i) 0 (hst _)
   ⟨by omega, ⟨[], by simp [mpB, mpR, regs, dEls]⟩, by simp, by simp, by simp, by simp⟩ ?_
  rintro i e A' ⟨hi, ⟨N, rfl⟩, e5, e16, e17, e18⟩ K hK
  rcases Nat.lt_or_ge i l.length with hlt | hge
  case inl =>
   obtain ⟨s, hs⟩ : ∃ s, l[i]? = some s := ⟨_, gEG hlt⟩
   have hs2 := (gSI.1 hs).2
   obtain ⟨⟨s1, s2⟩, s3, s4⟩ := hl s (gMO hs)
   have hts : (l.take (i + 1)).map regOf = (l.take i).map regOf ++ [regOf s] := by rw [List.take_add_one, hs]; simp
   have htl : ((l.take i).map regOf).length = i := by simp; omega
   have hsw : IntKind.i64.wrap ((i : Int) + 1) = ((i + 1 : Nat) : Int) := succ_wrap hlt hm
   have w1 : IntKind.u64.wrap s.ad = s.ad := u64w (by omega)
   obtain ⟨T, hT⟩ : ∃ T, (l.take i).map regOf = T := ⟨_, rfl⟩
   rw [hT] at hts htl ⊢
   simp [e5, e16, e17, e18, hlt, hs, hs2, Sec.d_eq]
   refine adraw3 18 262142 [] (by kernel_rfl) rfl byt_137 (by kernel_rfl) (by kernel_rfl) (by kernel_rfl) (by kernel_rfl) (by kernel_rfl) ?_
   simp [e5, lap, las, lap0, las0, w1]
   refine adC_of (clonebyt_af (u8d s.da) (by simp; omega)) (by kernel_rfl) trivial (by simp) (by simp) ?_
   simp [e5, lap, las, lap0, las0, w1]
   refine ⟨by simp [stabL_cons, stab1, e5], ?_⟩
   simp [e5, lap, las, lap0, las0, w1, htl]
   refine ⟨by unfold maxLen; omega, by omega, ?_⟩
   simp [hsw, e18, lap, las, lap0, las0]
   refine hK (i + 1) _ _ _ _ (Sub.refl _ _ _) ⟨by omega, ⟨N ++ [seB s, ⟨0, true, 144, 4, [regOf s |>.d.map AV.d]⟩], ?_⟩, by simp [e5], by simp [e16], by simp [e17], by simp⟩ (by omega)
   rw [hts]
   simp
   exact ⟨rfl, rfl⟩
  obtain rfl : i = l.length := by omega
  clear hK
  rw [List.take_length]
  have htl : (l.map regOf).length = l.length := by simp
  obtain ⟨T, hT⟩ : ∃ T, l.map regOf = T := ⟨_, rfl⟩
  rw [hT] at htl ⊢
  simp [e5, e17, e18]
  refine adraw3 9 510 [] (by kernel_rfl) rfl byt_137 (by kernel_rfl) (by kernel_rfl) (by kernel_rfl) (by kernel_rfl) (by kernel_rfl) ?_
  simp [e5, lap, las, lap0, las0, hmk]
  refine ⟨by simp [stabL_cons, stab1, e5], ?_⟩
  simp [e5, lap, las, lap0, las0, htl]
  refine ⟨by unfold maxLen; omega, by omega, _, _, ⟨rfl, rfl⟩, ?_⟩
  rw [lap0 N]
  simp [dEls, u8d]
 ·rintro r A' ⟨rfl, N, x, rfl, hx⟩
  obtain ⟨T, hT⟩ : ∃ T, l.map regOf = T := ⟨_, rfl⟩
  have htl : T.length = l.length := by rw [← hT]; simp
  rw [hT]
  obtain ⟨M, hM⟩ : ∃ M : AHeap, M = N.mapIdx fun i k => if [2, x + 3].contains (i + 1 + 1 + 1) then (⟨k.ver, false, k.ty, k.sz, k.els⟩ : Blk) else k := ⟨_, rfl⟩
  have hMx : M[x]? = some ⟨0, false, 5, 1, dEls (u8d (List.replicate c 0))⟩ := by
   rw [hM, List.getElem?_mapIdx, hx]
   simp
  have hfz : frz [A.length + 2, A.length + (x + 3)] (A ++ mpB .u32 .u8 [] :: memO A.length (A.length + 2) (l.length + 1) :: ⟨l.length + 1, true, 144, 4, dEls (regs T) ++ [[.d (.v (.int .u64 978944)), .own (A.length + (x + 3)) 0 0 c, aB true, aB false]]⟩ :: N) =
   A ++ mpB .u32 .u8 [] :: memO A.length (A.length + 2) (l.length + 1) :: ⟨l.length + 1, false, 144, 4, dEls (regs T) ++ [[.d (.v (.int .u64 978944)), .own (A.length + (x + 3)) 0 0 c, aB true, aB false]]⟩ :: M := by
   rw [frz_app _ _ _ (by simp), hM]
   congr 1
   have h1 : A.length + 2 - A.length = 2 := by omega
   have h2 : A.length + (x + 3) - A.length = x + 3 := by omega
   simp only [List.map_cons, List.map_nil, h1, h2, frz, List.mapIdx_cons]
   simp
  have g1 := Sub.frz (n := A.length) [A.length + 2, A.length + (x + 3)] (e := fun _ => .tup [.ptr (A.length + 1) 0 0 0, aI .i64 0]) (A := A ++ mpB .u32 .u8 [] :: memO A.length (A.length + 2) (l.length + 1) :: ⟨l.length + 1, true, 144, 4, dEls (regs T) ++ [[.d (.v (.int .u64 978944)), .own (A.length + (x + 3)) 0 0 c, aB true, aB false]]⟩ :: N)
  rw [hfz] at g1
  have hrows : omap (fun y => omap (reiD true (A ++ mpB .u32 .u8 [] :: memO A.length (A.length + 2) (l.length + 1) :: ⟨l.length + 1, false, 144, 4, dEls (regs T) ++ [[.d (.v (.int .u64 978944)), .own (A.length + (x + 3)) 0 0 c, aB true, aB false]]⟩ :: M) 8) y) (dEls (regs T) ++ [[.d (.v (.int .u64 978944)), .own (A.length + (x + 3)) 0 0 c, aB true, aB false]]) = some (regs (T ++ [⟨978944, List.replicate c 0, true, false⟩])) := by
   rw [regs_app]
   refine omap_app (omap_dEls true _ 8 _) ?_
   have hlx : (A ++ mpB .u32 .u8 [] :: memO A.length (A.length + 2) (l.length + 1) :: ⟨l.length + 1, false, 144, 4, dEls (regs T) ++ [[.d (.v (.int .u64 978944)), .own (A.length + (x + 3)) 0 0 c, aB true, aB false]]⟩ :: M)[A.length + (x + 3)]? = some ⟨0, false, 5, 1, dEls (u8d (List.replicate c 0))⟩ := by
    rw [lap]
    exact hMx
   have hr1 : regs [⟨978944, List.replicate c 0, true, false⟩] = [Reg.d ⟨978944, List.replicate c 0, true, false⟩] := rfl
   rw [hr1]
   simp [hlx, Reg.d_eq]
  have hrei : reiV true (A ++ mpB .u32 .u8 [] :: memO A.length (A.length + 2) (l.length + 1) :: ⟨l.length + 1, false, 144, 4, dEls (regs T) ++ [[.d (.v (.int .u64 978944)), .own (A.length + (x + 3)) 0 0 c, aB true, aB false]]⟩ :: M) 9 (.own (A.length + 2) (l.length + 1) 0 (l.length + 1)) = some (.d (.sl 4 (regs (T ++ [⟨978944, List.replicate c 0, true, false⟩])))) := by
   have hlg := lap A (mpB .u32 .u8 [] :: memO A.length (A.length + 2) (l.length + 1) :: ⟨l.length + 1, false, 144, 4, dEls (regs T) ++ [[.d (.v (.int .u64 978944)), .own (A.length + (x + 3)) 0 0 c, aB true, aB false]]⟩ :: M) 2
   have htk : List.take (l.length + 1) (dEls (regs T) ++ [[.d (.v (.int .u64 978944)), .own (A.length + (x + 3)) 0 0 c, aB true, aB false]]) = dEls (regs T) ++ [[.d (.v (.int .u64 978944)), .own (A.length + (x + 3)) 0 0 c, aB true, aB false]] := List.take_of_length_le (by simp [htl])
   simp only [reiV, rei1, reiD, curB, hlg, List.getElem?_cons_succ, List.getElem?_cons_zero]
   rw [if_pos (by simp)]
   simp only [List.drop_zero, htk, hrows]
   rw [if_pos (by simp [htl])]
   rfl
  have g2 := Sub.cell (n := A.length) (e := fun _ => .tup [.ptr (A.length + 1) 0 0 0, aI .i64 0]) (b := A.length + 1) (i := 0) (o := 0) (lap A _ 1) rfl rfl (VLe.rei hrei)
  rw [las] at g2
  exact ⟨_, _, g1.trans g2, rfl, _, rfl⟩
mutual
theorem cln_mono {m m' : Nat} (hm : m ≤ m') : ∀ c : AV, cln m c = c → cln m' c = c
 | .any, _ => rfl
 | .d _, _ => rfl
 | .ip _, _ => rfl
 | .own b ver i len, h => by
   simp only [cln] at h ⊢
   split at h
   ·rw [if_pos (by omega)]
   ·cases h
 | .ptr b ver i o, h => by
   simp only [cln] at h ⊢
   split at h
   ·rw [if_pos (by omega)]
   ·cases h
 | .mp b ver, h => by
   simp only [cln] at h ⊢
   split at h
   ·rw [if_pos (by omega)]
   ·cases h
 | .agg cs, h => by
   simp only [cln, AV.agg.injEq] at h ⊢
   exact clnL_mono hm cs h
 | .tup cs, h => by
   simp only [cln, AV.tup.injEq] at h ⊢
   exact clnL_mono hm cs h
 | .fn f fs cs, h => by
   simp only [cln, AV.fn.injEq, true_and] at h ⊢
   exact ⟨clnL_mono hm fs h.1, clnL_mono hm cs h.2⟩
 | .ifc t c, h => by
   simp only [cln, AV.ifc.injEq, true_and] at h ⊢
   exact cln_mono hm c h
theorem clnL_mono {m m' : Nat} (hm : m ≤ m') : ∀ cs : List AV, cln.clnL m cs = cs → cln.clnL m' cs = cs
 | [], _ => rfl
 | c :: cs, h => by
   simp only [cln.clnL, List.cons.injEq] at h ⊢
   exact ⟨cln_mono hm c h.1, clnL_mono hm cs h.2⟩
end
theorem map_fix {α : Type} {f : α → α} : ∀ {l : List α}, l.map f = l ↔ ∀ x ∈ l, f x = x
 | [] => by simp
 | a :: l => by simp [map_fix (l := l)]
theorem clnB_iff {m : Nat} {b : Blk} : clnB m b = b ↔ ∀ x ∈ b.els, ∀ c ∈ x, cln m c = c := by
 obtain ⟨v, w, t, s, els⟩ := b
 simp only [clnB, clnE, Blk.mk.injEq, true_and, map_fix]
theorem clnB_mono {m m' : Nat} (hm : m ≤ m') {b : Blk} (h : clnB m b = b) : clnB m' b = b :=
 clnB_iff.2 fun x hx c hc => cln_mono hm c (clnB_iff.1 h x hx c hc)
def ClH (H : AHeap) : Prop := ∀ b ∈ H, clnB H.length b = b
theorem ClH.fix {H : AHeap} (h : ClH H) : H.map (clnB H.length) = H := map_fix.2 h
theorem ClH.app {H N : AHeap} (h : ClH H) (hn : ∀ b ∈ N, clnB (H.length + N.length) b = b) : ClH (H ++ N) := by
 intro b hb
 rw [List.length_append]
 rcases List.mem_append.1 hb with h1 | h1
 ·exact clnB_mono (by omega) (h b h1)
 ·exact hn b h1
theorem ClH.set {H : AHeap} (h : ClH H) {i : Nat} {k : Blk} (hk : clnB H.length k = k) : ClH (H.set i k) := by
 intro b hb
 rw [List.length_set]
 rcases List.mem_or_eq_of_mem_set hb with h1 | rfl
 ·exact h b h1
 ·exact hk
theorem AC.exact {f : FuncId} {args : List AV} {H H' : AHeap} {r : AV} (hc : ClH H') (hl : H'.length = H.length) (hr : cln H.length r = r) (h : AC Tryz.prog f args H (Same0 H' r)) : AC Tryz.prog f args H (AtH H' r) :=
 h.sub fun r' A' ⟨hr', N, hA⟩ => by
  subst hr' hA
  refine ⟨_, _, Sub.take H.length (Nat.le_refl _), hr, ?_⟩
  have : List.take H.length (H' ++ N) = H' := by rw [← hl, List.take_left]
  rw [this, ← hl]
  exact hc.fix.symm
def u32d (l : List Int) : List (List D) := l.map fun n => [.v (.int .u32 n)]
@[simp] theorem u32d_len (l : List Int) : (u32d l).length = l.length := by simp [u32d]
@[simp] theorem u32d_get (l : List Int) (i : Nat) : (u32d l)[i]? = (l[i]?).map fun n => [.v (.int .u32 n)] := by simp [u32d]
@[simp] theorem u32d_at (l : List Int) (i : Nat) (h : i < (u32d l).length) : (u32d l)[i] = [.v (.int .u32 (l[i]'(by simpa using h)))] := by simp [u32d]
structure FR where
 g : Nat
 b : Nat
 s : Nat
 m : Nat
 t : List (Int × Int)
structure RSt where
 c : Nat → Int
 fs : List FR
 W : List (Int × Int)
 inp : List Int
 out : List Int
 tr : List Int
 n : Nat
 st : Bool
structure PosR where
 w : Nat
 m : Nat
 a : Nat
 r : Nat
 o : Nat
 t : Nat
 f : Nat
structure VerR where
 f : Nat
 o : Nat
 t : Nat
def frRow (f : FR) : List AV := [aI .i64 f.g, aI .i64 f.b, aI .i64 f.s, .mp f.m 0]
abbrev rB (gs : List Gr) (p : PosR) (v : VerR) (σ : RSt) : Blk := ⟨0, true, 75, 21, [[.d (.sl 2 (grs gs)), .mp p.a 0, .ptr p.m 0 0 0,
 aI .u32 (σ.c 0), aI .u32 (σ.c 1), aI .u32 (σ.c 2), aI .u32 (σ.c 3), aI .u32 (σ.c 4), aI .u32 (σ.c 5), aI .u32 (σ.c 6), aI .u32 (σ.c 7), aI .u32 (σ.c 8), aI .u32 (σ.c 9), aI .u32 (σ.c 10), aI .u32 (σ.c 11),
 .own p.f v.f 0 σ.fs.length, .d (.sl 1 (u32d σ.inp)), .own p.o v.o 0 σ.out.length, .own p.t v.t 0 σ.tr.length, aI .i64 σ.n, aB σ.st]]⟩
abbrev u32B (v : Nat) (l : List Int) : Blk := ⟨v, true, 24, 1, dEls (u32d l)⟩
abbrev frB (v : Nat) (l : List FR) (J : List (List AV)) : Blk := ⟨v, true, 112, 4, l.map frRow ++ J⟩
structure RunH0 (gs : List Gr) (ats : List (Int × Int)) (R : List Reg) (B0 : AHeap) (p : PosR) (v : VerR) (σ : RSt) (H : AHeap) : Prop where
 hw : H[p.w]? = some (mpB .u32 .u8 σ.W)
 hm : H[p.m]? = some (memB R p.w)
 ha : H[p.a]? = some (mpB .u32 .i64 ats)
 hr : H[p.r]? = some (rB gs p v σ)
 ho : H[p.o]? = some (u32B v.o σ.out)
 ht : H[p.t]? = some (u32B v.t σ.tr)
 hf : ∃ J, H[p.f]? = some (frB v.f σ.fs J)
 hfs : ∀ f ∈ σ.fs, H[f.m]? = some (mpB .i64 .u32 f.t)
 wa : p.w ≠ p.a
 ot : p.o ≠ p.t
 fm : ∀ f ∈ σ.fs, f.m ≠ p.w ∧ f.m ≠ p.a
 fd : (σ.fs.map FR.m).Nodup
 pr : H.take B0.length = B0
 lo : B0.length ≤ p.w ∧ B0.length ≤ p.m ∧ B0.length ≤ p.a ∧ B0.length ≤ p.r ∧ B0.length ≤ p.o ∧ B0.length ≤ p.t ∧ B0.length ≤ p.f ∧ ∀ f ∈ σ.fs, B0.length ≤ f.m
structure RunH (gs : List Gr) (ats : List (Int × Int)) (R : List Reg) (B0 : AHeap) (p : PosR) (v : VerR) (σ : RSt) (H : AHeap) : Prop extends RunH0 gs ats R B0 p v σ H where
 cl : ClH H
theorem ne_ty {H : AHeap} {i j : Nat} {a b : Blk} (h1 : H[i]? = some a) (h2 : H[j]? = some b) (h : a.ty ≠ b.ty) : i ≠ j := by
 rintro rfl
 rw [h1] at h2
 exact h (by rw [oSI h2])
section
variable {gs : List Gr} {ats : List (Int × Int)} {R : List Reg} {B0 : AHeap} {p : PosR} {v : VerR} {σ : RSt} {H : AHeap}
theorem RunH0.app (h : RunH0 gs ats R B0 p v σ H) (N : AHeap) : RunH0 gs ats R B0 p v σ (H ++ N) where
 hw := lapl h.hw
 hm := lapl h.hm
 ha := lapl h.ha
 hr := lapl h.hr
 ho := lapl h.ho
 ht := lapl h.ht
 hf := by obtain ⟨J, hf⟩ := h.hf; exact ⟨J, lapl hf⟩
 hfs f hf := lapl (h.hfs f hf)
 wa := h.wa
 ot := h.ot
 fm := h.fm
 fd := h.fd
 pr := by
  have hl : B0.length ≤ H.length := by
   have := h.lo.1
   have := (gSI.1 h.hw).1
   omega
  rw [List.take_append_of_le_length hl]
  exact h.pr
 lo := h.lo
theorem RunH.app (h : RunH gs ats R B0 p v σ H) {N : AHeap} (hn : ∀ b ∈ N, clnB (H.length + N.length) b = b) : RunH gs ats R B0 p v σ (H ++ N) :=
 { h.toRunH0.app N with cl := h.cl.app hn }
theorem RunH0.lt (h : RunH0 gs ats R B0 p v σ H) : p.w < H.length ∧ p.m < H.length ∧ p.a < H.length ∧ p.r < H.length ∧ p.o < H.length ∧ p.t < H.length ∧ p.f < H.length ∧ ∀ f ∈ σ.fs, f.m < H.length := by
 obtain ⟨J, hf⟩ := h.hf
 have e := fun {i : Nat} {b : Blk} (hh : H[i]? = some b) => (gSI.1 hh).1
 exact ⟨e h.hw, e h.hm, e h.ha, e h.hr, e h.ho, e h.ht, e hf, fun f hf => e (h.hfs f hf)⟩
end
section
variable {gs : List Gr} {ats : List (Int × Int)} {R : List Reg} {B0 : AHeap} {p : PosR} {v : VerR} {σ : RSt} {H : AHeap}
theorem frs_at (F : List FR) (t0 : FR) (J : List (List AV)) : ((F ++ [t0]).map frRow ++ J)[F.length]? = some [aI .i64 t0.g, aI .i64 t0.b, aI .i64 t0.s, .mp t0.m 0] := by
 rw [gAL (by simp), List.map_append, List.getElem?_append_right (by simp)]
 simp [frRow]
theorem itop_ac (h : RunH0 gs ats R B0 p v σ H) {F : List FR} {t0 : FR} (hF : σ.fs = F ++ [t0]) (hFl : F.length ≤ 1000000) : AC Tryz.prog 61 [.ptr p.r 0 0 0] H (AtH H (.ptr p.f v.f F.length 0)) := by
 obtain ⟨J, hf⟩ := h.hf
 have hr := h.hr
 have l1 := h.lt.2.2.2.1
 refine ac_of Tryz.func61 rfl (by kernel_rfl) (by simp [Tryz.ntmps61]) fun hb => ?_
 clear hb
 have w1 : IntKind.i64.wrap ((F.length : Int) + 1 - 1) = (F.length : Int) := by rw [i64w (by omega)]; omega
 have w2 : IntKind.i64.wrap (F.length : Int) = (F.length : Int) := i64w (by omega)
 rw [hF] at hf
 simp [Tryz.f61]
 refine adraw [] (by kernel_rfl) (by kernel_rfl) (by kernel_rfl) (by kernel_rfl) ?_
 simp [hr, hf, hF, w1, w2]
 refine ⟨l1, ?_⟩
 simp [show (F.length : Int) < (F.length : Int) + 1 by omega, AtH]
def valS (σ : RSt) (v : Int) : Int := if v < 12 then σ.c v.toNat else match σ.fs.getLast? with
 | some t => (lkL v t.t).getD 0
 | none => 0
theorem und_mt : Tryz.prog.underlying 110 = some (.map 3 24) := by kernel_rfl
theorem und_int2 : Tryz.prog.underlying 3 = some (.int .i64) := by kernel_rfl
theorem zv_u32 : zv Tryz.prog 24 = some (.int .u32 0) := by kernel_rfl
set_option maxRecDepth 100000 in
theorem irvalue_ac (h : RunH0 gs ats R B0 p v σ H) {F : List FR} {t0 : FR} (hF : σ.fs = F ++ [t0]) (hFl : F.length ≤ 1000000) (x : Int) (hx : 0 ≤ x) : AC Tryz.prog 113 [.ptr p.r 0 0 0, aI .i64 x] H (AtH H (aI .u32 (valS σ x))) := by
 obtain ⟨J, hf⟩ := h.hf
 have hr := h.hr
 have ht := h.hfs t0 (by rw [hF]; simp)
 obtain ⟨V, hV⟩ : ∃ V, valS σ x = V := ⟨_, rfl⟩
 rw [hV]
 unfold valS at hV
 refine ac_of Tryz.func113 rfl (by kernel_rfl) (by simp [Tryz.ntmps113]) fun hb => ?_
 clear hb
 by_cases h12 : x < 12
 ·rw [if_pos h12] at hV
  subst hV
  rcases (show x = 0 ∨ x = 1 ∨ x = 2 ∨ x = 3 ∨ x = 4 ∨ x = 5 ∨ x = 6 ∨ x = 7 ∨ x = 8 ∨ x = 9 ∨ x = 10 ∨ x = 11 by omega) with rfl | rfl | rfl | rfl | rfl | rfl | rfl | rfl | rfl | rfl | rfl | rfl
  all_goals simp [Tryz.f113, hr, AtH]
 rw [if_neg h12, hF, List.getLast?_concat] at hV
 simp only at hV
 subst hV
 have ha := frs_at F t0 J
 rw [hF] at hf
 simp [Tryz.f113, h12]
 refine aCall_ofc (itop_ac h hF hFl) (by kernel_rfl) ?_
 rintro _ _ ⟨rfl, rfl⟩
 simp [hf, frRow]
 refine aRaw_lookup (r := .d (.v (.int .u32 ((lkL x t0.t).getD 0)))) (by simpa [okM] using look_mp (L := t0.t) und_mt und_int2 zv_u32 ht x false) ?_
 simp [AtH]
theorem und_mat : Tryz.prog.underlying 70 = some (.map 24 3) := by kernel_rfl
def setC (c : Nat → Int) (i : Nat) (n : Int) : Nat → Int := fun j => if j = i then n else c j
def updT (l : List FR) (g : FR → FR) : List FR := match l.getLast? with
 | some t => l.dropLast ++ [g t]
 | none => []
theorem updT_app (F : List FR) (t : FR) (g : FR → FR) : updT (F ++ [t]) g = F ++ [g t] := by
 unfold updT
 rw [List.getLast?_concat]
 simp
def setS (σ : RSt) (x n : Int) : RSt := if x < 12 then { σ with c := setC σ.c x.toNat n } else { σ with fs := updT σ.fs fun t => { t with t := upL x n t.t } }
theorem clnB_rB {m : Nat} (gs : List Gr) {p : PosR} (v : VerR) (σ : RSt) (h1 : p.a < m) (h2 : p.m < m) (h3 : p.f < m) (h4 : p.o < m) (h5 : p.t < m) : clnB m (rB gs p v σ) = rB gs p v σ := by
 simp [clnB, clnE, cln, h1, h2, h3, h4, h5]
theorem RunH0.ne (h : RunH0 gs ats R B0 p v σ H) : p.r ≠ p.w ∧ p.r ≠ p.m ∧ p.r ≠ p.a ∧ p.r ≠ p.o ∧ p.r ≠ p.t ∧ p.r ≠ p.f ∧ (∀ f ∈ σ.fs, p.r ≠ f.m) ∧ p.m ≠ p.w ∧ p.m ≠ p.a ∧ p.m ≠ p.o ∧ p.m ≠ p.t ∧ p.m ≠ p.f ∧ (∀ f ∈ σ.fs, p.m ≠ f.m) ∧
 p.f ≠ p.w ∧ p.f ≠ p.a ∧ p.f ≠ p.o ∧ p.f ≠ p.t ∧ (∀ f ∈ σ.fs, p.f ≠ f.m) ∧ p.o ≠ p.w ∧ p.o ≠ p.a ∧ (∀ f ∈ σ.fs, p.o ≠ f.m) ∧ p.t ≠ p.w ∧ p.t ≠ p.a ∧ (∀ f ∈ σ.fs, p.t ≠ f.m) := by
 obtain ⟨J, hf⟩ := h.hf
 have hw := h.hw
 have hm := h.hm
 have ha := h.ha
 have hr := h.hr
 have ho := h.ho
 have ht := h.ht
 have hfs := h.hfs
 exact ⟨ne_ty hr hw (by simp [mpB]), ne_ty hr hm (by simp), ne_ty hr ha (by simp [mpB]), ne_ty hr ho (by simp), ne_ty hr ht (by simp), ne_ty hr hf (by simp), fun f hf => ne_ty hr (hfs f hf) (by simp [mpB]),
  ne_ty hm hw (by simp [mpB]), ne_ty hm ha (by simp [mpB]), ne_ty hm ho (by simp), ne_ty hm ht (by simp), ne_ty hm hf (by simp), fun f hf => ne_ty hm (hfs f hf) (by simp [mpB]),
  ne_ty hf hw (by simp [mpB]), ne_ty hf ha (by simp [mpB]), ne_ty hf ho (by simp), ne_ty hf ht (by simp), fun f hf' => ne_ty hf (hfs f hf') (by simp [mpB]),
  ne_ty ho hw (by simp [mpB]), ne_ty ho ha (by simp [mpB]), fun f hf => ne_ty ho (hfs f hf) (by simp [mpB]),
  ne_ty ht hw (by simp [mpB]), ne_ty ht ha (by simp [mpB]), fun f hf => ne_ty ht (hfs f hf) (by simp [mpB])⟩
theorem take_set_lo {H B0 : AHeap} {i : Nat} {b : Blk} (h : H.take B0.length = B0) (hi : B0.length ≤ i) : (H.set i b).take B0.length = B0 := by
 rw [List.take_set, List.set_eq_of_length_le (by rw [List.length_take]; omega)]
 exact h
theorem RunH.setr (h : RunH gs ats R B0 p v σ H) (σ' : RSt) (hfs : σ'.fs = σ.fs) (hW : σ'.W = σ.W) (ho : σ'.out = σ.out) (ht : σ'.tr = σ.tr) : RunH gs ats R B0 p v σ' (H.set p.r (rB gs p v σ')) := by
 obtain ⟨n1, n2, n3, n4, n5, n6, n7, _⟩ := h.ne
 obtain ⟨l1, l2, l3, l4, l5, l6, l7, l8⟩ := h.lt
 obtain ⟨J, hf⟩ := h.hf
 exact {
  hw := by rw [gSN n1, hW]; exact h.hw
  hm := by rw [gSN n2]; exact h.hm
  ha := by rw [gSN n3]; exact h.ha
  hr := gSS l4
  ho := by rw [gSN n4, ho]; exact h.ho
  ht := by rw [gSN n5, ht]; exact h.ht
  hf := ⟨J, by rw [gSN n6, hfs]; exact hf⟩
  hfs := fun f hf => by rw [hfs] at hf; rw [gSN (n7 f hf)]; exact h.hfs f hf
  wa := h.wa
  ot := h.ot
  fm := by rw [hfs]; exact h.fm
  fd := by rw [hfs]; exact h.fd
  pr := take_set_lo h.pr h.lo.2.2.2.1
  lo := by rw [hfs]; exact h.lo
  cl := h.cl.set (clnB_rB gs v σ' l3 l2 l7 l5 l6) }
theorem RunH.setm (h : RunH gs ats R B0 p v σ H) {F : List FR} {t0 : FR} (hF : σ.fs = F ++ [t0]) (T : List (Int × Int)) : RunH gs ats R B0 p v { σ with fs := F ++ [{ t0 with t := T }] } (H.set t0.m (mpB .i64 .u32 T)) := by
 have h0 : t0 ∈ σ.fs := by rw [hF]; simp
 obtain ⟨_, _, _, _, _, _, n7, _, _, _, _, _, n13, _, _, _, _, n18, _, _, n21, _, _, n24⟩ := h.ne
 obtain ⟨l1, l2, l3, l4, l5, l6, l7, l8⟩ := h.lt
 obtain ⟨J, hf⟩ := h.hf
 have hmap : (F ++ [{ t0 with t := T }]).map FR.m = σ.fs.map FR.m := by rw [hF]; simp
 have hrow : (F ++ [{ t0 with t := T }]).map frRow = σ.fs.map frRow := by rw [hF]; simp [frRow]
 have hlen : (F ++ [{ t0 with t := T }]).length = σ.fs.length := by rw [hF]; simp
 have hmem : ∀ f ∈ F ++ [{ t0 with t := T }], ∃ q ∈ σ.fs, q.m = f.m := fun f hf => by
  have : f.m ∈ σ.fs.map FR.m := by rw [← hmap]; exact List.mem_map_of_mem hf
  obtain ⟨q, hq, he⟩ := List.mem_map.1 this
  exact ⟨q, hq, he⟩
 have hrb : rB gs p v { σ with fs := F ++ [{ t0 with t := T }] } = rB gs p v σ := by simp only [rB, hlen]
 exact {
  hw := by rw [gSN (h.fm t0 h0).1]; exact h.hw
  hm := by rw [gSN (Ne.symm (n13 t0 h0))]; exact h.hm
  ha := by rw [gSN (h.fm t0 h0).2]; exact h.ha
  hr := by rw [gSN (Ne.symm (n7 t0 h0)), hrb]; exact h.hr
  ho := by rw [gSN (Ne.symm (n21 t0 h0))]; exact h.ho
  ht := by rw [gSN (Ne.symm (n24 t0 h0))]; exact h.ht
  hf := ⟨J, by rw [gSN (Ne.symm (n18 t0 h0)), hf]; simp only [frB, hrow]⟩
  hfs := fun f hf => by
   rcases List.mem_append.1 hf with h1 | h1
   ·have hne : t0.m ≠ f.m := fun e => by
     have := h.fd
     rw [hF, List.map_append, List.nodup_append] at this
     exact this.2.2 f.m (List.mem_map_of_mem h1) t0.m (by simp) e.symm
    rw [gSN hne]
    exact h.hfs f (by rw [hF]; exact List.mem_append_left _ h1)
   ·obtain rfl := List.mem_singleton.1 h1
    exact gSS (l8 t0 h0)
  wa := h.wa
  ot := h.ot
  fm := fun f hf => by obtain ⟨q, hq, he⟩ := hmem f hf; rw [← he]; exact h.fm q hq
  fd := by rw [hmap]; exact h.fd
  pr := take_set_lo h.pr (h.lo.2.2.2.2.2.2.2 t0 h0)
  lo := ⟨h.lo.1, h.lo.2.1, h.lo.2.2.1, h.lo.2.2.2.1, h.lo.2.2.2.2.1, h.lo.2.2.2.2.2.1, h.lo.2.2.2.2.2.2.1, fun f hf => by obtain ⟨q, hq, he⟩ := hmem f hf; rw [← he]; exact h.lo.2.2.2.2.2.2.2 q hq⟩
  cl := h.cl.set (cln_mpB _ _ _ _) }
set_option maxRecDepth 100000 in
theorem irset_ac (h : RunH gs ats R B0 p v σ H) {F : List FR} {t0 : FR} (hF : σ.fs = F ++ [t0]) (hFl : F.length ≤ 1000000) (x n : Int) (hx : 0 ≤ x) : ∃ H', H'.length = H.length ∧ RunH gs ats R B0 p v (setS σ x n) H' ∧ AC Tryz.prog 99 [.ptr p.r 0 0 0, aI .i64 x, aI .u32 n] H (AtH H' (.tup [])) := by
 by_cases h12 : x < 12
 ·have hs : setS σ x n = { σ with c := setC σ.c x.toNat n } := by unfold setS; rw [if_pos h12]
  rw [hs]
  refine ⟨_, by simp, h.setr { σ with c := setC σ.c x.toNat n } rfl rfl rfl rfl, ?_⟩
  have hr := h.hr
  refine ac_of Tryz.func99 rfl (by kernel_rfl) (by simp [Tryz.ntmps99]) fun hb => ?_
  clear hb
  rcases (show x = 0 ∨ x = 1 ∨ x = 2 ∨ x = 3 ∨ x = 4 ∨ x = 5 ∨ x = 6 ∨ x = 7 ∨ x = 8 ∨ x = 9 ∨ x = 10 ∨ x = 11 by omega) with rfl | rfl | rfl | rfl | rfl | rfl | rfl | rfl | rfl | rfl | rfl | rfl
  all_goals (simp [Tryz.f99, hr, AtH]; rfl)
 ·have hs : setS σ x n = { σ with fs := F ++ [{ t0 with t := upL x n t0.t }] } := by unfold setS; rw [if_neg h12, hF, updT_app]
  rw [hs]
  refine ⟨_, by simp, h.setm hF _, ?_⟩
  obtain ⟨J, hf⟩ := h.hf
  have ht := h.hfs t0 (by rw [hF]; simp)
  have ha := frs_at F t0 J
  rw [hF] at hf
  refine ac_of Tryz.func99 rfl (by kernel_rfl) (by simp [Tryz.ntmps99]) fun hb => ?_
  clear hb
  simp [Tryz.f99, h12]
  refine aCall_ofc (itop_ac h.toRunH0 hF hFl) (by kernel_rfl) ?_
  rintro _ _ ⟨rfl, rfl⟩
  simp [hf, frRow]
  refine aRaw_mapUpdate (A' := H.set t0.m (mpB .i64 .u32 (upL x n t0.t))) ?_ ?_
  ·simp
   exact upd_mp und_mt und_int2 ht _ _
  simp [AtH]
structure RsOk (σ : RSt) : Prop where
 c : ∀ i, R32 (σ.c i)
 t : ∀ f ∈ σ.fs, ∀ q ∈ f.t, R32 q.2
 i : ∀ n ∈ σ.inp, R32 n
theorem lkL_mem {x v : Int} : ∀ {L : List (Int × Int)}, lkL x L = some v → ∃ q ∈ L, q.2 = v
 | [], h => by cases h
 | q :: L, h => by
   simp only [lkL] at h
   split at h
   ·exact ⟨q, List.mem_cons_self, oSI h⟩
   ·obtain ⟨r, hr, he⟩ := lkL_mem h
    exact ⟨r, List.mem_cons_of_mem _ hr, he⟩
theorem valS_r32 (h : RsOk σ) (x : Int) : R32 (valS σ x) := by
 unfold valS
 split
 ·exact h.c _
 ·split
  ·rename_i t ht
   cases hl : lkL x t.t with
   | none => exact r32_0
   | some v =>
     obtain ⟨q, hq, rfl⟩ := lkL_mem hl
     exact h.t t (List.mem_of_getLast? ht) q hq
  ·exact r32_0
theorem ldF_r32 : ∀ (l : List Int) (k : Nat) {acc : Int}, R32 acc → R32 (ldF l k acc)
 | [], _, _, h => h
 | b :: l, k, _, _ => ldF_r32 l (k + 1) (r32_wrap _)
theorem ldV_r32 (R : List Reg) (W : List (Int × Int)) (a w : Int) : R32 (ldV R W a w).1 := by
 unfold ldV
 split
 ·exact r32_0
 split
 ·exact r32_0
 ·exact ldF_r32 _ _ r32_0
def evS (R : List Reg) (σ : RSt) (e : Ex) : Int × Int := evX (valS σ) (ldV R σ.W) e
theorem evS_r32 (h : RsOk σ) {e : Ex} (he : OkN e) : R32 (evS R σ e).1 := evX_r32 (valS_r32 h) (fun a w _ => ldV_r32 R σ.W a w) e he
set_option maxRecDepth 100000 in
theorem ireval_ac (h : RunH gs ats R B0 p v σ H) (hR : ∀ r ∈ R, RegFit r) (hRl : R.length ≤ 1000) (hσ : RsOk σ) {F : List FR} {t0 : FR} (hF : σ.fs = F ++ [t0]) (hFl : F.length ≤ 1000000) (e : Ex) (he : OkN e) (hf : formB e = true) :
 AC Tryz.prog 98 [.ptr p.r 0 0 0, exA e] H (AtH H (.tup [aI .u32 (evS R σ e).1, aI .i64 (evS R σ e).2])) := by
 refine AC.exact h.cl rfl (by simp [cln]) ?_
 have hr := h.hr
 have l1 := h.lt.2.2.2.1
 have hB : RunH gs ats R B0 p v σ (H ++ [exB e]) := h.app (by simp [clnB, clnE, cln])
 have hev : AC Tryz.prog 112 [exA e, .fn 113 [.ptr p.r 0 0 0] [], .ptr p.m 0 0 0] (H ++ [exB e]) (AtH (H ++ [exB e]) (.tup [aI .u32 (evS R σ e).1, aI .i64 (evS R σ e).2])) := by
  refine AC.exact hB.cl rfl (by simp [cln]) ?_
  refine ieval_ac (B := H) (f := 113) (fs := [.ptr p.r 0 0 0]) (mp := .ptr p.m 0 0 0) (val := valS σ) (L := ldV R σ.W) (by kernel_rfl) (valS_r32 hσ) (fun a w _ => ldV_r32 R σ.W a w) ?_ ?_ e he hf [exB e]
  ·intro x M hx _
   have := irvalue_ac (h.toRunH0.app M) hF hFl x hx
   exact this.mono fun r A' ⟨h1, h2⟩ => ⟨h1, [], by simp [h2]⟩
  ·intro a w M ha
   exact mload_ac a w ha hR hRl (lapl h.hm) (lapl h.hw)
 obtain ⟨ev, hevd⟩ : ∃ ev, evS R σ e = ev := ⟨_, rfl⟩
 rw [hevd] at hev ⊢
 have hr1 := lapl (M := [exB e]) hr
 have he1 : (H ++ [exB e])[H.length]? = some (exB e) := lap0 _ _
 refine ac_of Tryz.func98 rfl (by kernel_rfl) (by simp [Tryz.ntmps98]) fun hb => ?_
 clear hb
 simp [Tryz.f98]
 refine adrawR [exA e, .ptr p.r 0 0 0, .fn 113 [.ptr p.r 0 0 0] [], .ptr p.r 0 0 0, .ptr p.r 0 0 0, .ptr p.r 0 0 2, .ptr p.m 0 0 0, .tup [aI .u32 ev.1, aI .i64 ev.2], aI .u32 ev.1, aI .i64 ev.2, aI .u32 ev.1, aI .i64 ev.2]
  [(0, H ++ [exB e]), (128, H ++ [exB e])] (by kernel_rfl) (by kernel_rfl) rfl rfl ?_ ?_
 ·simp only [rowsR, List.mem_cons, List.not_mem_nil, or_false, forall_eq_or_imp, forall_eq]
  refine ⟨⟨?_, nmy (by kernel_rfl)⟩, ⟨?_, nmy (by kernel_rfl)⟩, ⟨?_, nmy (by kernel_rfl)⟩, ⟨?_, nmy (by kernel_rfl)⟩, ⟨?_, nmy (by kernel_rfl)⟩, ⟨?_, nmy (by kernel_rfl)⟩, ⟨?_, nmy (by kernel_rfl)⟩, ⟨?_, nmy (by kernel_rfl)⟩, ⟨nmy (by kernel_rfl), ?_⟩, ⟨nmy (by kernel_rfl), ?_⟩, ⟨nmy (by kernel_rfl), ?_⟩, ⟨nmy (by kernel_rfl), ?_⟩, trivial⟩
  all_goals
   intro hmay
   clear hmay
   intro e' K' h A3 hA hk
   simp only [Op.operands, Call.operands] at h
   simp [still, heapM, putR, dvA] at h hA hk
   subst hA
   simp [h, hr1, he1]
   try exact hk
  refine aCall_ofc hev (by kernel_rfl) ?_
  rintro _ _ ⟨rfl, rfl⟩
  exact hk
 simp [putR, Same0]
end
section
variable {gs : List Gr} {ats : List (Int × Int)} {R : List Reg} {B0 : AHeap} {p : PosR} {v : VerR} {σ : RSt} {H : AHeap}
theorem RunH.closedJ (h : RunH gs ats R B0 p v σ H) {J : List (List AV)} (hf : H[p.f]? = some (frB v.f σ.fs J)) : ∀ x ∈ J, ∀ c ∈ x, cln H.length c = c := fun x hx c hc =>
 clnB_iff.1 (h.cl _ (gMO hf)) x (List.mem_append_right _ hx) c hc
theorem RunH.upd' (h : RunH gs ats R B0 p v σ H) (v' : VerR) (σ' : RSt) (J' : List (List AV)) (hW : σ'.W = σ.W) (hm : ∀ f ∈ σ'.fs, H[f.m]? = some (mpB .i64 .u32 f.t) ∧ f.m ≠ p.w ∧ f.m ≠ p.a ∧ B0.length ≤ f.m) (hd : (σ'.fs.map FR.m).Nodup)
 (hJ : ∀ x ∈ J', ∀ c ∈ x, cln H.length c = c) : RunH gs ats R B0 p v' σ' ((((H.set p.f (frB v'.f σ'.fs J')).set p.o (u32B v'.o σ'.out)).set p.t (u32B v'.t σ'.tr)).set p.r (rB gs p v' σ')) := by
 obtain ⟨n1, n2, n3, n4, n5, n6, n7, n8, n9, n10, n11, n12, n13, n14, n15, n16, n17, n18, n19, n20, n21, n22, n23, n24⟩ := h.ne
 obtain ⟨l1, l2, l3, l4, l5, l6, l7, l8⟩ := h.lt
 obtain ⟨o1, o2, o3, o4, o5, o6, o7, o8⟩ := h.lo
 obtain ⟨J, hf0⟩ := h.hf
 have hout : ∀ i, i ≠ p.f → i ≠ p.o → i ≠ p.t → i ≠ p.r → ((((H.set p.f (frB v'.f σ'.fs J')).set p.o (u32B v'.o σ'.out)).set p.t (u32B v'.t σ'.tr)).set p.r (rB gs p v' σ'))[i]? = H[i]? := fun i a b c d => by
  rw [gSN (Ne.symm d), gSN (Ne.symm c), gSN (Ne.symm b), gSN (Ne.symm a)]
 have hu : ∀ (m k : Nat) (l : List Int), clnB m (u32B k l) = u32B k l := fun m k l => by simp [clnB]
 exact {
  hw := by rw [hout _ (Ne.symm n14) (Ne.symm n19) (Ne.symm n22) (Ne.symm n1), hW]; exact h.hw
  hm := by rw [hout _ n12 n10 n11 (Ne.symm n2)]; exact h.hm
  ha := by rw [hout _ (Ne.symm n15) (Ne.symm n20) (Ne.symm n23) (Ne.symm n3)]; exact h.ha
  hr := gSS (by simpa using l4)
  ho := by rw [gSN n4, gSN (Ne.symm h.ot), gSS (by simpa using l5)]
  ht := by rw [gSN n5, gSS (by simpa using l6)]
  hf := ⟨J', by rw [gSN n6, gSN (Ne.symm n17), gSN (Ne.symm n16), gSS l7]⟩
  hfs := fun f hf => by
   obtain ⟨e1, _⟩ := hm f hf
   rw [hout _ (ne_ty e1 hf0 (by simp [mpB])) (ne_ty e1 h.ho (by simp [mpB])) (ne_ty e1 h.ht (by simp [mpB])) (ne_ty e1 h.hr (by simp [mpB]))]
   exact e1
  wa := h.wa
  ot := h.ot
  fm := fun f hf => ⟨(hm f hf).2.1, (hm f hf).2.2.1⟩
  fd := hd
  pr := take_set_lo (take_set_lo (take_set_lo (take_set_lo h.pr o7) o5) o6) o4
  lo := ⟨o1, o2, o3, o4, o5, o6, o7, fun f hf => (hm f hf).2.2.2⟩
  cl := by
   refine ClH.set (ClH.set (ClH.set (h.cl.set ?_) (hu _ _ _)) (hu _ _ _)) ?_
   ·refine clnB_iff.2 fun x hx c hc => ?_
    rcases List.mem_append.1 hx with h1 | h1
    ·obtain ⟨f, hf, rfl⟩ := List.mem_map.1 h1
     have := (gSI.1 (hm f hf).1).1
     simp only [frRow, List.mem_cons, List.not_mem_nil, or_false] at hc
     rcases hc with rfl | rfl | rfl | rfl
     ·rfl
     ·rfl
     ·rfl
     ·simp [cln, this]
    ·exact hJ x h1 c hc
   ·simp only [List.length_set]
    exact clnB_rB gs v' σ' l3 l2 l7 l5 l6 }
theorem RunH.upd (h : RunH gs ats R B0 p v σ H) (v' : VerR) (σ' : RSt) (J' : List (List AV)) (hW : σ'.W = σ.W) (hm : ∀ f ∈ σ'.fs, ∃ q ∈ σ.fs, q.m = f.m ∧ q.t = f.t) (hd : (σ'.fs.map FR.m).Nodup)
 (hJ : ∀ x ∈ J', ∀ c ∈ x, cln H.length c = c) : RunH gs ats R B0 p v' σ' ((((H.set p.f (frB v'.f σ'.fs J')).set p.o (u32B v'.o σ'.out)).set p.t (u32B v'.t σ'.tr)).set p.r (rB gs p v' σ')) :=
 h.upd' v' σ' J' hW (fun f hf => by
  obtain ⟨q, hq, e1, e2⟩ := hm f hf
  rw [← e1, ← e2]
  exact ⟨h.hfs q hq, (h.fm q hq).1, (h.fm q hq).2, h.lo.2.2.2.2.2.2.2 q hq⟩) hd hJ
def entR (gs : List Gr) (σ : RSt) (b : Nat) : RSt := match σ.fs.getLast? with
 | some t => { σ with fs := updT σ.fs fun t => { t with b := b, s := 0 }, tr := σ.tr ++ [(((gs[t.g]?.map Gr.b).getD [])[b]?.map Bl.ad).getD 0] }
 | none => σ
set_option maxRecDepth 100000 in
theorem ienter_ac (h : RunH gs ats R B0 p v σ H) {F : List FR} {t0 : FR} (hF : σ.fs = F ++ [t0]) (hFl : F.length ≤ 1000000) {g : Gr} {b : Bl} (k : Nat) (hg : gs[t0.g]? = some g) (hb : g.b[k]? = some b) (hk : k ≤ 1000000) (htl : σ.tr.length ≤ 1000000) :
 AC Tryz.prog 60 [.ptr p.r 0 0 0, aI .i64 k] H (fun r A' => r = .tup [] ∧ ∃ v', RunH gs ats R B0 p v' (entR gs σ k) A') := by
 obtain ⟨J, hf⟩ := h.hf
 have hr := h.hr
 have ht := h.ht
 obtain ⟨n1, n2, n3, n4, n5, n6, n7, n8, n9, n10, n11, n12, n13, n14, n15, n16, n17, n18, n19, n20, n21, n22, n23, n24⟩ := h.ne
 obtain ⟨l1, l2, l3, l4, l5, l6, l7, l8⟩ := h.lt
 have hent : entR gs σ k = { σ with fs := F ++ [{ t0 with b := k, s := 0 }], tr := σ.tr ++ [b.ad] } := by
  unfold entR
  rw [hF, List.getLast?_concat]
  simp only [updT_app, hg, Option.map_some, Option.getD_some, hb]
 rw [hent]
 have hgl := (gSI.1 hg).1
 have hgl2 := (gSI.1 hg).2
 have hbl := (gSI.1 hb).1
 have hbl2 := (gSI.1 hb).2
 have hupd := h.upd { v with t := v.t + 1 } { σ with fs := F ++ [{ t0 with b := k, s := 0 }], tr := σ.tr ++ [b.ad] } J rfl (fun f hf => by
  rcases List.mem_append.1 hf with h1 | h1
  ·exact ⟨f, by rw [hF]; exact List.mem_append_left _ h1, rfl, rfl⟩
  ·obtain rfl := List.mem_singleton.1 h1
   exact ⟨t0, by rw [hF]; simp, rfl, rfl⟩) (by have := h.fd; rw [hF] at this; simpa using this) (h.closedJ hf)
 simp only at hupd
 rw [hF] at hf
 refine ac_of Tryz.func60 rfl (by kernel_rfl) (by simp [Tryz.ntmps60]) fun hb => ?_
 clear hb
 simp [Tryz.f60]
 refine aCall_ofc (itop_ac h.toRunH0 hF hFl) (by kernel_rfl) ?_
 rintro _ _ ⟨rfl, rfl⟩
 have hsf : ∀ x, (H.set p.f x)[p.f]? = some x := fun x => gSS l7
 have hsr : ∀ x, (H.set p.f x)[p.r]? = some (rB gs p v σ) := fun x => by rw [gSN (Ne.symm n6)]; exact hr
 have hst : ∀ x, (H.set p.f x)[p.t]? = some (u32B v.t σ.tr) := fun x => by rw [gSN n17]; exact ht
 simp [hf, frRow, hsf]
 obtain ⟨H1, hH1⟩ : ∃ H1, H.set p.f ⟨v.f, true, 112, 4, List.map frRow F ++ [aI .i64 t0.g, aI .i64 k, aI .i64 0, .mp t0.m 0] :: J⟩ = H1 := ⟨_, rfl⟩
 have hf1 : H1[p.f]? = some ⟨v.f, true, 112, 4, List.map frRow F ++ [aI .i64 t0.g, aI .i64 k, aI .i64 0, .mp t0.m 0] :: J⟩ := by rw [← hH1]; exact hsf _
 have hr1 : H1[p.r]? = some (rB gs p v σ) := by rw [← hH1]; exact hsr _
 have ht1 : H1[p.t]? = some (u32B v.t σ.tr) := by rw [← hH1]; exact hst _
 have hl1 : H1.length = H.length := by rw [← hH1]; simp
 rw [hH1]
 refine adraw3 21 2097150 [] (by kernel_rfl) rfl byt_27 (by kernel_rfl) (by kernel_rfl) (by kernel_rfl) (by kernel_rfl) (by kernel_rfl) ?_
 simp [hr1, hl1]
 refine ⟨l4, ?_⟩
 simp [hf1, hgl, hg, hgl2, Gr.d_eq, hbl, hb, hbl2, Bl.d_eq]
 have ht2 := lapl (M := ([⟨0, true, 24, 1, [[AV.d (.v (.int .u32 b.ad))]]⟩] : AHeap)) ht1
 have hr2 := lapl (M := ([⟨0, true, 24, 1, [[AV.d (.v (.int .u32 b.ad))]]⟩] : AHeap)) hr1
 have he2 : (H1 ++ ([⟨0, true, 24, 1, [[AV.d (.v (.int .u32 b.ad))]]⟩] : AHeap))[H1.length]? = some ⟨0, true, 24, 1, [[AV.d (.v (.int .u32 b.ad))]]⟩ := lap0 _ _
 refine ⟨l7, ?_, ?_⟩
 ·simp [stabL_cons, stab1]
  exact ⟨.inl (by decide), .inl (by decide), .inl (by decide)⟩
 have hs3 : ∀ x, (H1 ++ ([⟨0, true, 24, 1, [[AV.d (.v (.int .u32 b.ad))]]⟩] : AHeap)).set p.t x = H1.set p.t x ++ ([⟨0, true, 24, 1, [[AV.d (.v (.int .u32 b.ad))]]⟩] : AHeap) := fun x => List.set_append_left _ _ (by omega)
 have hr3 : ∀ x, (H1.set p.t x ++ ([⟨0, true, 24, 1, [[AV.d (.v (.int .u32 b.ad))]]⟩] : AHeap))[p.r]? = some (rB gs p v σ) := fun x => lapl (by rw [gSN (Ne.symm n5)]; exact hr1)
 have hs4 : ∀ x y, (H1.set p.t x ++ ([⟨0, true, 24, 1, [[AV.d (.v (.int .u32 b.ad))]]⟩] : AHeap)).set p.r y = (H1.set p.t x).set p.r y ++ ([⟨0, true, 24, 1, [[AV.d (.v (.int .u32 b.ad))]]⟩] : AHeap) := fun x y => List.set_append_left _ _ (by simp; omega)
 simp [ht2, hr2, he2, hs3, hr3, hs4]
 refine ⟨by unfold maxLen; omega, by omega, { v with t := v.t + 1 }, ?_⟩
 have hso : (H.set p.f ⟨v.f, true, 112, 4, List.map frRow F ++ [aI .i64 t0.g, aI .i64 k, aI .i64 0, .mp t0.m 0] :: J⟩).set p.o (u32B v.o σ.out) = H1 := by
  rw [hH1]
  exact set_same (by rw [← hH1, gSN n16]; exact h.ho)
 have hu := hupd.app (N := ([⟨0, true, 24, 1, [[AV.d (.v (.int .u32 b.ad))]]⟩] : AHeap)) (by simp [clnB, clnE, cln])
 have hfr : frB v.f (F ++ [{ t0 with b := k, s := 0 }]) J = ⟨v.f, true, 112, 4, List.map frRow F ++ [aI .i64 t0.g, aI .i64 k, aI .i64 0, .mp t0.m 0] :: J⟩ := by simp [frB, frRow]
 rw [hfr, hso] at hu
 have hut : u32B (v.t + 1) (σ.tr ++ [b.ad]) = ⟨v.t + 1, true, 24, 1, dEls (u32d σ.tr) ++ [[AV.d (.v (.int .u32 b.ad))]]⟩ := by simp [u32B, u32d]
 rw [hut] at hu
 simpa [rB, hF] using hu
theorem zv_int2 : zv Tryz.prog 3 = some (.int .i64 0) := by kernel_rfl
def callS (gs : List Gr) (ats : List (Int × Int)) (m : Nat) (σ : RSt) (tg : Int) : Int × RSt := match lkL tg ats with
 | none => (17, σ)
 | some k => if 256 < σ.fs.length then (20, σ) else (0, entR gs { σ with fs := σ.fs ++ [⟨k.toNat, 0, 0, m, []⟩] } 0)
def AtOk (gs : List Gr) (ats : List (Int × Int)) : Prop := ∀ x k, lkL x ats = some k → 0 ≤ k ∧ k < 1000000 ∧ ∃ g b, gs[k.toNat]? = some g ∧ g.b[0]? = some b
set_option maxRecDepth 100000 in
theorem icall_ac (h : RunH gs ats R B0 p v σ H) (hat : AtOk gs ats) (tg : Int) (hfl : σ.fs.length ≤ 300) (htl : σ.tr.length ≤ 1000000) :
 AC Tryz.prog 63 [.ptr p.r 0 0 0, aI .u32 tg] H (fun r A' => ∃ m v', r = aI .i64 (callS gs ats m σ tg).1 ∧ RunH gs ats R B0 p v' (callS gs ats m σ tg).2 A') := by
 obtain ⟨J, hf⟩ := h.hf
 have hr := h.hr
 have ha := h.ha
 obtain ⟨n1, n2, n3, n4, n5, n6, n7, n8, n9, n10, n11, n12, n13, n14, n15, n16, n17, n18, n19, n20, n21, n22, n23, n24⟩ := h.ne
 obtain ⟨l1, l2, l3, l4, l5, l6, l7, l8⟩ := h.lt
 refine ac_of Tryz.func63 rfl (by kernel_rfl) (by simp [Tryz.ntmps63]) fun hb => ?_
 clear hb
 simp [Tryz.f63, hr]
 refine aRaw_lookup (r := okM true (.d (.v (.int .i64 ((lkL tg ats).getD 0)))) (lkL tg ats).isSome) (by simpa using look_mp (L := ats) und_mat und_u32 zv_int2 ha tg true) ?_
 cases hl : lkL tg ats with
 | none =>
   have hc : ∀ m, callS gs ats m σ tg = (17, σ) := fun m => by unfold callS; rw [hl]
   simp [okM, hc]
   exact ⟨v, h⟩
 | some k =>
 obtain ⟨k0, k1, g, b, hg, hb⟩ := hat tg k hl
 simp [okM, hr]
 by_cases h256 : 256 < σ.fs.length
 ·have hc : ∀ m, callS gs ats m σ tg = (20, σ) := fun m => by unfold callS; rw [hl]; simp only; rw [if_pos h256]
  simp [hr, hf, hc, show (256 : Int) < σ.fs.length by omega]
  exact ⟨v, h⟩
 have hc : ∀ m, callS gs ats m σ tg = (0, entR gs { σ with fs := σ.fs ++ [⟨k.toNat, 0, 0, m, []⟩] } 0) := fun m => by unfold callS; rw [hl]; simp only; rw [if_neg h256]
 simp only [hc]
 simp [hr, hf, show ¬ (256 : Int) < σ.fs.length by omega]
 refine aRaw_makeMap (tg := 1000001) (sz := 2) (by kernel_rfl) ?_
 obtain ⟨n, hn⟩ : ∃ n : Nat, k = n := ⟨k.toNat, by omega⟩
 subst hn
 rw [Int.toNat_natCast] at hc hg
 simp
 obtain ⟨E0, hE0⟩ : ∃ E0 : AHeap, E0 = [⟨0, true, 1000001, 2, []⟩, ⟨0, true, 112, 4, [[aI .i64 n, aI .i64 0, aI .i64 0, .mp H.length 0]]⟩] := ⟨_, rfl⟩
 obtain ⟨new, hnew⟩ : ∃ new : FR, new = ⟨n, 0, 0, H.length, []⟩ := ⟨_, rfl⟩
 have hB : RunH gs ats R B0 p v σ (H ++ E0) := h.app (by rw [hE0]; simp [clnB, clnE, cln])
 have hmN : (H ++ E0)[H.length]? = some (mpB .i64 .u32 []) := by rw [hE0, lap0]; simp [mpB, mpR]
 have hf1 : (H ++ E0)[p.f]? = some (frB v.f σ.fs J) := lapl hf
 have heE : (H ++ E0)[H.length + 1]? = some ⟨0, true, 112, 4, [[aI .i64 n, aI .i64 0, aI .i64 0, .mp H.length 0]]⟩ := by rw [hE0, lap]; rfl
 have hupd := hB.upd' { v with f := v.f + 1 } { σ with fs := σ.fs ++ [new] } [] rfl (fun f hf => by
  rcases List.mem_append.1 hf with h1 | h1
  ·exact ⟨lapl (h.hfs f h1), (h.fm f h1).1, (h.fm f h1).2, h.lo.2.2.2.2.2.2.2 f h1⟩
  ·obtain rfl := List.mem_singleton.1 h1
   rw [hnew]
   refine ⟨hmN, Nat.ne_of_gt l1, Nat.ne_of_gt l3, ?_⟩
   have := h.lo.1
   show B0.length ≤ H.length
   omega) (by
  rw [List.map_append, List.nodup_append]
  refine ⟨h.fd, by simp, fun a ha b hb hab => ?_⟩
  obtain ⟨f, hf, rfl⟩ := List.mem_map.1 ha
  have hbn : b = H.length := by simpa [hnew] using hb
  have := l8 f hf
  omega) (by simp)
 have hent := ienter_ac hupd (F := σ.fs) (t0 := new) rfl (by omega) (g := g) (b := b) 0 (by rw [hnew]; exact hg) hb (by omega) htl
 refine aRaw_sub (Sub.trunc σ.fs.length (k := frB v.f σ.fs J) (b := p.f) ?_ (by show 112 < 1000000; decide)) ?_
 ·rw [← hE0]; exact hf1
 have hst0 : (H ++ E0).set p.f (setEls (frB v.f σ.fs J) ((frB v.f σ.fs J).els.take σ.fs.length)) = (H ++ E0).set p.f (frB v.f σ.fs []) := by
  congr 1
  simp [setEls, frB]
 rw [← hE0, hst0]
 obtain ⟨H2, hH2⟩ : ∃ H2, (H ++ E0).set p.f (frB v.f σ.fs []) = H2 := ⟨_, rfl⟩
 have lE : p.f < (H ++ E0).length := by rw [List.length_append]; omega
 have hf2 : H2[p.f]? = some (frB v.f σ.fs []) := by rw [← hH2]; exact gSS lE
 have he2 : H2[H.length + 1]? = some ⟨0, true, 112, 4, [[aI .i64 n, aI .i64 0, aI .i64 0, .mp H.length 0]]⟩ := by rw [← hH2, gSN (by omega)]; exact heE
 have hr2 : ∀ x, (H2.set p.f x)[p.r]? = some (rB gs p v σ) := fun x => by
  rw [gSN (Ne.symm n6), ← hH2, gSN (Ne.symm n6)]
  exact lapl hr
 rw [hH2]
 refine aRaw_app byt_73 ?_
 simp [hf2, he2, hr2]
 refine ⟨by unfold maxLen; omega, by omega, ?_⟩
 have hX : frB (v.f + 1) (σ.fs ++ [new]) [] = ⟨v.f + 1, true, 112, 4, List.map frRow σ.fs ++ [[aI .i64 n, aI .i64 0, aI .i64 0, .mp H.length 0]]⟩ := by simp [frB, frRow, hnew]
 have hno : ∀ X, (((H ++ E0).set p.f X).set p.o (u32B v.o σ.out)).set p.t (u32B v.t σ.tr) = H2.set p.f X := fun X => by
  rw [set_same (x := u32B v.o σ.out) (by rw [gSN n16]; exact lapl h.ho), set_same (x := u32B v.t σ.tr) (by rw [gSN n17]; exact lapl h.ht), ← hH2, List.set_set]
 rw [hX, hno] at hent
 refine aCall_ofc (by simpa [rB] using hent) (by kernel_rfl) ?_
 rintro _ A' ⟨rfl, v', hv'⟩
 simp
 refine ⟨H.length, v', ?_⟩
 rw [← hnew]
 exact hv'
end
section
variable {gs : List Gr} {ats : List (Int × Int)} {R : List Reg} {B0 : AHeap} {p : PosR} {v : VerR} {σ : RSt} {H : AHeap}
abbrev stBk (s : St) : Blk := ⟨0, true, 61, 8, [[aI .i64 s.op, aI .i64 s.va, aI .i64 s.wd, aI .i64 s.nx, aI .i64 s.el, aI .u32 s.tg, .d (.sl 5 (Ex.ds s.e)), .d (.sl 1 (i64s s.cs))]]⟩
theorem cln_stBk (m : Nat) (s : St) : clnB m (stBk s) = stBk s := by simp [clnB, clnE, cln]
theorem RunH.setw (h : RunH gs ats R B0 p v σ H) (W : List (Int × Int)) : RunH gs ats R B0 p v { σ with W := W } (H.set p.w (mpB .u32 .u8 W)) := by
 obtain ⟨n1, n2, n3, n4, n5, n6, n7, n8, n9, n10, n11, n12, n13, n14, n15, n16, n17, n18, n19, n20, n21, n22, n23, n24⟩ := h.ne
 obtain ⟨l1, l2, l3, l4, l5, l6, l7, l8⟩ := h.lt
 obtain ⟨J, hf⟩ := h.hf
 exact {
  hw := gSS l1
  hm := by rw [gSN (Ne.symm n8)]; exact h.hm
  ha := by rw [gSN h.wa]; exact h.ha
  hr := by rw [gSN (Ne.symm n1)]; exact h.hr
  ho := by rw [gSN (Ne.symm n19)]; exact h.ho
  ht := by rw [gSN (Ne.symm n22)]; exact h.ht
  hf := ⟨J, by rw [gSN (Ne.symm n14)]; exact hf⟩
  hfs := fun f hf => by rw [gSN (Ne.symm (h.fm f hf).1)]; exact h.hfs f hf
  wa := h.wa
  ot := h.ot
  fm := h.fm
  fd := h.fd
  pr := take_set_lo h.pr h.lo.1
  lo := h.lo
  cl := h.cl.set (cln_mpB _ _ _ _) }
def storeS (R : List Reg) (σ : RSt) (s : St) (x y : Ex) : Int × RSt :=
 if (evS R σ x).2 ≠ 0 then ((evS R σ x).2, σ) else if (evS R σ y).2 ≠ 0 then ((evS R σ y).2, σ)
 else (stE R (evS R σ x).1 s.wd, { σ with W := if stE R (evS R σ x).1 s.wd = 0 then stL (evS R σ x).1 (evS R σ y).1 σ.W s.wd.toNat else σ.W })
set_option maxRecDepth 100000 in
theorem istore_ac (h : RunH gs ats R B0 p v σ H) (hR : ∀ r ∈ R, RegFit r) (hRl : R.length ≤ 1000) (hσ : RsOk σ) {F : List FR} {t0 : FR} (hF : σ.fs = F ++ [t0]) (hFl : F.length ≤ 1000000) (s : St) {x y : Ex} (he : s.e = [x, y])
 (hx : OkN x) (hy : OkN y) (fx : formB x = true) (fy : formB y = true) :
 AC Tryz.prog 62 [.ptr p.r 0 0 0, stV s] H (fun r A' => r = aI .i64 (storeS R σ s x y).1 ∧ RunH gs ats R B0 p v (storeS R σ s x y).2 A') := by
 obtain ⟨H1, hH1⟩ : ∃ H1, H ++ [stBk s] = H1 := ⟨_, rfl⟩
 have hB : RunH gs ats R B0 p v σ H1 := by rw [← hH1]; exact h.app (by intro b hb; obtain rfl := List.mem_singleton.1 hb; exact cln_stBk _ s)
 have hr1 := hB.hr
 have l1 := hB.lt.2.2.2.1
 have hs1 : H1[H.length]? = some (stBk s) := by rw [← hH1]; exact lap0 _ _
 have hsl : H.length < H1.length := by rw [← hH1]; simp
 have cx := ireval_ac hB hR hRl hσ hF hFl x hx fx
 have cy := ireval_ac hB hR hRl hσ hF hFl y hy fy
 have rx := evS_r32 (R := R) hσ hx
 obtain ⟨ex, hex⟩ : ∃ ex, evS R σ x = ex := ⟨_, rfl⟩
 obtain ⟨ey, hey⟩ : ∃ ey, evS R σ y = ey := ⟨_, rfl⟩
 obtain ⟨Q, hQ⟩ : ∃ Q, storeS R σ s x y = Q := ⟨_, rfl⟩
 rw [hQ]
 unfold storeS at hQ
 rw [hex] at cx rx hQ
 rw [hey] at cy hQ
 obtain ⟨a, fa⟩ := ex
 obtain ⟨n, fn⟩ := ey
 simp only at cx cy rx hQ
 refine ac_of Tryz.func62 rfl (by kernel_rfl) (by simp [Tryz.ntmps62]) fun hb => ?_
 clear hb
 simp [Tryz.f62, lap0]
 rw [hH1]
 simp [he, Ex.d_eq]
 refine aCall_ofc cx (by kernel_rfl) ?_
 rintro _ _ ⟨rfl, rfl⟩
 by_cases z1 : fa = 0
 case neg =>
  rw [if_pos z1] at hQ
  subst hQ
  simp [z1, hs1]
  exact hB
 rw [if_neg (by simpa using z1)] at hQ
 simp [z1, hs1, he, Ex.d_eq]
 refine aCall_ofc cy (by kernel_rfl) ?_
 rintro _ _ ⟨rfl, rfl⟩
 by_cases z2 : fn = 0
 case neg =>
  rw [if_pos z2] at hQ
  subst hQ
  simp [z2, hs1]
  exact hB
 rw [if_neg (by simpa using z2)] at hQ
 obtain ⟨W', hW'⟩ : ∃ W', (if stE R a s.wd = 0 then stL a n σ.W s.wd.toNat else σ.W) = W' := ⟨_, rfl⟩
 rw [hW'] at hQ
 have hBw := hB.setw W'
 have hms : AC Tryz.prog 58 [.ptr p.m 0 0 0, aI .u32 a, aI .i64 s.wd, aI .u32 n] H1 (AtH (H1.set p.w (mpB .u32 .u8 W')) (aI .i64 (stE R a s.wd))) := AC.exact hBw.cl (by simp) (by simp [cln]) (by have := mstore_ac a s.wd n rx hR hRl hB.hm hB.hw hB.ne.2.2.2.2.2.2.2.1; rw [hW'] at this; exact this)
 subst hQ
 simp [z2, hs1]
 refine adrawR [.ptr p.r 0 0 0, .ptr p.r 0 0 0, .ptr p.r 0 0 2, .ptr p.m 0 0 0, aI .u32 a, .ptr H.length 0 0 2, aI .i64 s.wd, aI .u32 n, aI .i64 (stE R a s.wd), aI .i64 (stE R a s.wd)]
  [(0, H1), (256, H1.set p.w (mpB .u32 .u8 W'))] (by kernel_rfl) (by kernel_rfl) rfl rfl ?_ ?_
 ·simp only [rowsR, List.mem_cons, List.not_mem_nil, or_false, forall_eq_or_imp, forall_eq]
  refine ⟨⟨?_, nmy (by kernel_rfl)⟩, ⟨?_, nmy (by kernel_rfl)⟩, ⟨?_, nmy (by kernel_rfl)⟩, ⟨?_, nmy (by kernel_rfl)⟩, ⟨?_, nmy (by kernel_rfl)⟩, ⟨?_, nmy (by kernel_rfl)⟩, ⟨?_, nmy (by kernel_rfl)⟩, ⟨?_, nmy (by kernel_rfl)⟩, ⟨?_, nmy (by kernel_rfl)⟩, ⟨nmy (by kernel_rfl), ?_⟩, trivial⟩
  all_goals
   intro hmay
   clear hmay
   intro e' K' h A3 hA hk
   simp only [Op.operands, Call.operands] at h
   simp [still, heapM, putR, dvA] at h hA hk
   subst hA
   simp [h, hr1, hs1]
   try exact hk
  refine aCall_ofc hms (by kernel_rfl) ?_
  rintro _ _ ⟨rfl, rfl⟩
  exact hk
 simp [putR]
 exact hBw
def jumpS (gs : List Gr) (R : List Reg) (σ : RSt) (s : St) (x : Ex) : Int × RSt :=
 if s.op = 6 then (0, entR gs σ s.nx.toNat) else if (evS R σ x).2 ≠ 0 then ((evS R σ x).2, σ)
 else if s.op = 8 then (if (s.cs.length : Int) ≤ (evS R σ x).1 then (7, σ) else (0, entR gs σ (s.cs.getD (evS R σ x).1.toNat 0).toNat))
 else if (evS R σ x).1 ≠ 0 then (0, entR gs σ s.nx.toNat) else (0, entR gs σ s.el.toNat)
set_option maxRecDepth 100000 in
theorem ijump_ac (h : RunH gs ats R B0 p v σ H) (hR : ∀ r ∈ R, RegFit r) (hRl : R.length ≤ 1000) (hσ : RsOk σ) {F : List FR} {t0 : FR} (hF : σ.fs = F ++ [t0]) (hFl : F.length ≤ 1000000) (s : St) {g : Gr} (hg : gs[t0.g]? = some g) (hgl : g.b.length ≤ 1000000)
 (hT : ∀ k ∈ tgts s, 0 ≤ k ∧ k < (g.b.length : Int)) (hop : s.op = 6 ∨ s.op = 7 ∨ s.op = 8) (x : Ex) (he : s.op ≠ 6 → s.e = [x] ∧ OkN x ∧ formB x = true) (hcl : s.cs.length ≤ 2000000) (htl : σ.tr.length ≤ 1000000) :
 AC Tryz.prog 64 [.ptr p.r 0 0 0, stV s] H (fun r A' => r = aI .i64 (jumpS gs R σ s x).1 ∧ ∃ v', RunH gs ats R B0 p v' (jumpS gs R σ s x).2 A') := by
 obtain ⟨H1, hH1⟩ : ∃ H1, H ++ [stBk s] = H1 := ⟨_, rfl⟩
 have hB : RunH gs ats R B0 p v σ H1 := by rw [← hH1]; exact h.app (by intro b hb; obtain rfl := List.mem_singleton.1 hb; exact cln_stBk _ s)
 have hs1 : H1[H.length]? = some (stBk s) := by rw [← hH1]; exact lap0 _ _
 have hent : ∀ k : Int, k ∈ tgts s → AC Tryz.prog 60 [.ptr p.r 0 0 0, aI .i64 k] H1 (fun r A' => r = .tup [] ∧ ∃ v', RunH gs ats R B0 p v' (entR gs σ k.toNat) A') := fun k hk => by
  obtain ⟨h0, h1⟩ := hT k hk
  obtain ⟨n, rfl⟩ : ∃ n : Nat, k = n := ⟨k.toNat, by omega⟩
  exact ienter_ac hB hF hFl n hg (gEG (by omega)) (by omega) htl
 obtain ⟨Q, hQ⟩ : ∃ Q, jumpS gs R σ s x = Q := ⟨_, rfl⟩
 rw [hQ]
 unfold jumpS at hQ
 refine ac_of Tryz.func64 rfl (by kernel_rfl) (by simp [Tryz.ntmps64]) fun hb => ?_
 clear hb
 simp [Tryz.f64, lap0]
 rw [hH1]
 by_cases h6 : s.op = 6
 ·rw [if_pos h6] at hQ
  subst hQ
  simp [h6, hs1]
  refine aCall_ofc (hent s.nx (by simp [tgts, h6])) (by kernel_rfl) ?_
  rintro _ A' ⟨rfl, v', hv'⟩
  simp
  exact ⟨v', hv'⟩
 rw [if_neg h6] at hQ
 obtain ⟨he, hx, fx⟩ := he h6
 have cx := ireval_ac hB hR hRl hσ hF hFl x hx fx
 have rx := evS_r32 (R := R) hσ hx
 obtain ⟨ex, hex⟩ : ∃ ex, evS R σ x = ex := ⟨_, rfl⟩
 rw [hex] at cx rx hQ
 obtain ⟨a, fa⟩ := ex
 simp only at cx rx hQ
 simp [h6, hs1, he, Ex.d_eq]
 refine aCall_ofc cx (by kernel_rfl) ?_
 rintro _ _ ⟨rfl, rfl⟩
 by_cases z1 : fa = 0
 case neg =>
  rw [if_pos z1] at hQ
  subst hQ
  simp [z1, hs1]
  exact ⟨v, hB⟩
 rw [if_neg (by simpa using z1)] at hQ
 obtain ⟨r1, r2⟩ := rx
 have w1 : IntKind.u64.wrap a = a := u64w (by omega)
 have w2 : IntKind.u64.wrap (s.cs.length : Int) = (s.cs.length : Int) := u64w (by omega)
 by_cases h8 : s.op = 8
 ·rw [if_pos h8] at hQ
  by_cases hge : (s.cs.length : Int) ≤ a
  ·rw [if_pos hge] at hQ
   subst hQ
   simp [z1, hs1, h8, w1, w2, hge]
   exact ⟨v, hB⟩
  rw [if_neg hge] at hQ
  subst hQ
  obtain ⟨n, rfl⟩ : ∃ n : Nat, a = n := ⟨a.toNat, by omega⟩
  obtain ⟨k, hk⟩ : ∃ k, s.cs[n]? = some k := ⟨_, gEG (by omega)⟩
  have hk2 := (gSI.1 hk).2
  have hnl : n < s.cs.length := by omega
  simp [z1, hs1, h8, w1, w2, hge, hk, hk2, hnl]
  refine aCall_ofc (hent k (by simp only [tgts, h6, h8]; simp; exact gMO hk)) (by kernel_rfl) ?_
  rintro _ A' ⟨rfl, v', hv'⟩
  simp
  exact ⟨v', hv'⟩
 ·rw [if_neg h8] at hQ
  have h7 : s.op = 7 := by omega
  by_cases hz : a = 0
  ·rw [if_neg (by simpa using hz)] at hQ
   subst hQ
   simp [z1, hs1, h7, hz]
   refine aCall_ofc (hent s.el (by simp [tgts, h7])) (by kernel_rfl) ?_
   rintro _ A' ⟨rfl, v', hv'⟩
   simp
   exact ⟨v', hv'⟩
  ·rw [if_pos hz] at hQ
   subst hQ
   simp [z1, hs1, h7, hz]
   refine aCall_ofc (hent s.nx (by simp [tgts, h7])) (by kernel_rfl) ?_
   rintro _ A' ⟨rfl, v', hv'⟩
   simp
   exact ⟨v', hv'⟩
end
section
variable {gs : List Gr} {ats : List (Int × Int)} {R : List Reg} {B0 : AHeap} {p : PosR} {v : VerR} {σ : RSt} {H : AHeap}
def plainS (R : List Reg) (σ : RSt) (s : St) (x : Ex) : Int × RSt :=
 if s.op = 3 then (match σ.inp with
  | [] => (14, σ)
  | n :: l => (0, { setS σ s.va n with inp := l }))
 else if s.op = 4 ∧ 4096 ≤ σ.out.length then (6, σ)
 else if (evS R σ x).2 ≠ 0 then ((evS R σ x).2, σ)
 else if s.op = 4 then (0, { σ with out := σ.out ++ [(evS R σ x).1] }) else (0, setS σ s.va (evS R σ x).1)
theorem setS_inp (σ : RSt) (a n : Int) : (setS σ a n).inp = σ.inp := by unfold setS; split <;> rfl
theorem setS_out (σ : RSt) (a n : Int) : (setS σ a n).out = σ.out := by unfold setS; split <;> rfl
theorem setS_tr (σ : RSt) (a n : Int) : (setS σ a n).tr = σ.tr := by unfold setS; split <;> rfl
set_option maxRecDepth 100000 in
theorem iplain_ac (h : RunH gs ats R B0 p v σ H) (hR : ∀ r ∈ R, RegFit r) (hRl : R.length ≤ 1000) (hσ : RsOk σ) {F : List FR} {t0 : FR} (hF : σ.fs = F ++ [t0]) (hFl : F.length ≤ 1000000) (s : St) (hva : 0 ≤ s.va)
 (x : Ex) (he : s.op ≠ 3 → s.e = [x] ∧ OkN x ∧ formB x = true) (hol : σ.out.length ≤ 1000000) :
 AC Tryz.prog 65 [.ptr p.r 0 0 0, stV s] H (fun r A' => r = aI .i64 (plainS R σ s x).1 ∧ ∃ v', RunH gs ats R B0 p v' (plainS R σ s x).2 A') := by
 obtain ⟨H1, hH1⟩ : ∃ H1, H ++ [stBk s] = H1 := ⟨_, rfl⟩
 have hB : RunH gs ats R B0 p v σ H1 := by rw [← hH1]; exact h.app (by intro b hb; obtain rfl := List.mem_singleton.1 hb; exact cln_stBk _ s)
 have hs1 : H1[H.length]? = some (stBk s) := by rw [← hH1]; exact lap0 _ _
 have hr1 := hB.hr
 have ho1 := hB.ho
 obtain ⟨Q, hQ⟩ : ∃ Q, plainS R σ s x = Q := ⟨_, rfl⟩
 rw [hQ]
 unfold plainS at hQ
 refine ac_of Tryz.func65 rfl (by kernel_rfl) (by simp [Tryz.ntmps65]) fun hb => ?_
 clear hb
 simp [Tryz.f65, lap0]
 rw [hH1]
 by_cases h3 : s.op = 3
 ·rw [if_pos h3] at hQ
  cases hi : σ.inp with
  | nil =>
    rw [hi] at hQ
    subst hQ
    simp [h3, hr1, hi]
    exact ⟨v, hB⟩
  | cons n l =>
    rw [hi] at hQ
    simp only at hQ
    subst hQ
    obtain ⟨H2, hl2, hB2, hset⟩ := irset_ac hB hF hFl s.va n hva
    have hr2 := hB2.hr
    have hB3 := hB2.setr { setS σ s.va n with inp := l } rfl rfl rfl rfl
    simp [h3, hr1, hi, show ¬ ((l.length : Int) + 1 = 0) by omega]
    refine adrawR [.ptr p.r 0 0 0, .ptr H.length 0 0 1, aI .i64 s.va, .ptr p.r 0 0 0, .ptr p.r 0 0 0, .ptr p.r 0 0 16, .d (.sl 1 (u32d (n :: l))), .ip [.v (.int .u32 n)], aI .u32 n, .tup []]
     [(0, H1), (512, H2)] (by kernel_rfl) (by kernel_rfl) rfl rfl ?_ ?_
    ·simp only [rowsR, List.mem_cons, List.not_mem_nil, or_false, forall_eq_or_imp, forall_eq]
     refine ⟨⟨?_, nmy (by kernel_rfl)⟩, ⟨?_, nmy (by kernel_rfl)⟩, ⟨?_, nmy (by kernel_rfl)⟩, ⟨?_, nmy (by kernel_rfl)⟩, ⟨?_, nmy (by kernel_rfl)⟩, ⟨?_, nmy (by kernel_rfl)⟩, ⟨?_, nmy (by kernel_rfl)⟩, ⟨?_, nmy (by kernel_rfl)⟩, ⟨?_, nmy (by kernel_rfl)⟩, ⟨?_, nmy (by kernel_rfl)⟩, trivial⟩
     all_goals
      intro hmay
      clear hmay
      intro e' K' h A3 hA hk
      simp only [Op.operands, Call.operands] at h
      simp [still, heapM, putR, dvA] at h hA hk
      subst hA
      simp [h, hr1, hs1, hi]
      try exact hk
     refine aCall_ofc hset (by kernel_rfl) ?_
     rintro _ _ ⟨rfl, rfl⟩
     exact hk
    have hdt : List.drop 1 (List.take (l.length + 1) (u32d (n :: l))) = u32d l := by rw [List.take_of_length_le (by simp)]; rfl
    simp [putR, hr2, setS_inp, hi, show (1 : Int) ≤ (l.length : Int) + 1 by omega, hdt]
    exact ⟨v, hB3⟩
 rw [if_neg h3] at hQ
 obtain ⟨he, hx, fx⟩ := he h3
 have cx := ireval_ac hB hR hRl hσ hF hFl x hx fx
 obtain ⟨ex, hex⟩ : ∃ ex, evS R σ x = ex := ⟨_, rfl⟩
 rw [hex] at cx hQ
 obtain ⟨a, fa⟩ := ex
 simp only at cx hQ
 by_cases h4 : s.op = 4
 ·by_cases hbig : 4096 ≤ σ.out.length
  ·rw [if_pos ⟨h4, hbig⟩] at hQ
   subst hQ
   simp [h4, hr1, hs1, ho1, show (4096 : Int) ≤ σ.out.length by omega]
   exact ⟨v, hB⟩
  rw [if_neg (fun h => hbig h.2)] at hQ
  simp [h4, hr1, ho1, show ¬ (4096 : Int) ≤ σ.out.length by omega, hs1, he, Ex.d_eq]
  refine aCall_ofc cx (by kernel_rfl) ?_
  rintro _ _ ⟨rfl, rfl⟩
  by_cases z1 : fa = 0
  case neg =>
   rw [if_pos z1] at hQ
   subst hQ
   simp [z1, hs1]
   exact ⟨v, hB⟩
  rw [if_neg (by simpa using z1), if_pos h4] at hQ
  subst hQ
  obtain ⟨n1, n2, n3, n4, n5, n6, n7, n8, n9, n10, n11, n12, n13, n14, n15, n16, n17, n18, n19, n20, n21, n22, n23, n24⟩ := hB.ne
  obtain ⟨l1, l2, l3, l4, l5, l6, l7, l8⟩ := hB.lt
  obtain ⟨E0, hE0⟩ : ∃ E0 : AHeap, E0 = [⟨0, true, 24, 1, [[AV.d (.v (.int .u32 a))]]⟩] := ⟨_, rfl⟩
  have ho2 : (H1 ++ E0)[p.o]? = some (u32B v.o σ.out) := lapl ho1
  have hr2 : (H1 ++ E0)[p.r]? = some (rB gs p v σ) := lapl hr1
  have he2 : (H1 ++ E0)[H1.length]? = some ⟨0, true, 24, 1, [[AV.d (.v (.int .u32 a))]]⟩ := by rw [hE0]; exact lap0 _ _
  have hr3 : ∀ X, ((H1 ++ E0).set p.o X)[p.r]? = some (rB gs p v σ) := fun X => by rw [gSN (Ne.symm n4)]; exact hr2
  obtain ⟨J, hf⟩ := hB.hf
  have hBE : RunH gs ats R B0 p v σ (H1 ++ E0) := hB.app (by rw [hE0]; simp [clnB, clnE, cln])
  have hu := hBE.upd { v with o := v.o + 1 } { σ with out := σ.out ++ [a] } J rfl (fun f hf => ⟨f, hf, rfl, rfl⟩) hB.fd (hBE.closedJ (lapl hf))
  simp only at hu
  have hX : u32B (v.o + 1) (σ.out ++ [a]) = ⟨v.o + 1, true, 24, 1, dEls (u32d σ.out) ++ [[AV.d (.v (.int .u32 a))]]⟩ := by simp [u32B, u32d]
  have hno1 : (H1 ++ E0).set p.f (frB v.f σ.fs J) = H1 ++ E0 := set_same (lapl hf)
  have hno2 : ∀ X, ((H1 ++ E0).set p.o X).set p.t (u32B v.t σ.tr) = (H1 ++ E0).set p.o X := fun X => set_same (by rw [gSN hB.ot]; exact lapl hB.ht)
  rw [hX, hno1, hno2] at hu
  simp [z1, hs1, h4, hr1]
  rw [← hE0]
  refine aRaw_app byt_27 ?_
  simp [ho2, hr2, he2, hr3]
  refine ⟨by unfold maxLen; omega, by omega, { v with o := v.o + 1 }, ?_⟩
  simpa [rB] using hu
 ·rw [if_neg (fun h => h4 h.1)] at hQ
  simp [h3, h4, hr1, hs1, he, Ex.d_eq]
  refine aCall_ofc cx (by kernel_rfl) ?_
  rintro _ _ ⟨rfl, rfl⟩
  by_cases z1 : fa = 0
  case neg =>
   rw [if_pos z1] at hQ
   subst hQ
   simp [z1, hs1]
   exact ⟨v, hB⟩
  rw [if_neg (by simpa using z1), if_neg h4] at hQ
  subst hQ
  obtain ⟨H2, hl2, hB2, hset⟩ := irset_ac hB hF hFl s.va a hva
  simp [z1, hs1, h4]
  refine aCall_ofc hset (by kernel_rfl) ?_
  rintro _ _ ⟨rfl, rfl⟩
  simp
  exact ⟨v, hB2⟩
end
def stmtAt (gs : List Gr) (f : FR) : Option St := (gs[f.g]?.bind fun g => g.b[f.b]?).bind fun b => b.s[f.s]?
def exAt (s : St) (i : Nat) : Ex := s.e.getD i (eCon 0)
def begS (σ : RSt) : RSt := { σ with fs := updT σ.fs fun t => { t with s := t.s + 1 }, n := σ.n + 1 }
def doS (gs : List Gr) (ats : List (Int × Int)) (R : List Reg) (m : Nat) (σ : RSt) (s : St) : Int × RSt :=
 if s.op = 2 then storeS R σ s (exAt s 0) (exAt s 1) else if s.op = 5 then callS gs ats m σ s.tg
 else if s.op = 6 ∨ s.op = 7 ∨ s.op = 8 then jumpS gs R σ s (exAt s 0)
 else if s.op = 9 then (0, { σ with fs := σ.fs.dropLast, st := decide (σ.fs.dropLast.length = 0) })
 else if s.op = 10 then (0, { σ with st := true }) else plainS R σ s (exAt s 0)
def stepS (gs : List Gr) (ats : List (Int × Int)) (R : List Reg) (m : Nat) (σ : RSt) : Int × RSt := match σ.fs.getLast?.bind (stmtAt gs) with
 | none => (0, σ)
 | some s => doS gs ats R m (begS σ) s
theorem st_op {s : St} (h : stErr s = 0) : (1 ≤ s.op ∧ s.op ≤ 10) ∧ (s.op = 2 → s.e = [exAt s 0, exAt s 1]) ∧ (s.op = 1 ∨ s.op = 4 ∨ s.op = 7 ∨ s.op = 8 → s.e = [exAt s 0]) ∧ 0 ≤ s.va ∧ s.cs.length ≤ 64 ∧ ∀ e ∈ s.e, formB e = true := by
 unfold stErr at h
 split at h
 case isFalse => cases h
 rename_i hn
 split at h
 case isFalse => exact absurd h ‹_›
 rename_i he
 split at h
 case isFalse => cases h
 rename_i hf
 have hfm : ∀ e ∈ s.e, formB e = true := fun e hm => by
  have := exsErr_mem he e hm
  unfold exErr at this
  split at this
  ·split at this
   ·assumption
   ·cases this
  ·cases this
 unfold fieldsB at hf
 simp only [Bool.and_eq_true] at hf
 obtain ⟨⟨⟨⟨⟨hva, _⟩, _⟩, _⟩, _⟩, hcs⟩ := hf
 have hop : 1 ≤ s.op ∧ s.op ≤ 10 := by
  unfold exprsN at hn
  split at hn
  ·omega
  split at hn
  ·omega
  split at hn
  ·omega
  ·omega
 refine ⟨hop, fun h2 => ?_, fun h1 => ?_, ?_, ?_, hfm⟩
 ·unfold exprsN at hn
  rw [if_neg (by omega), if_pos h2] at hn
  match hl : s.e, hn with
  | [a, b], _ => simp [exAt, hl]
  | [], hn => simp [hl] at hn
  | [a], hn => simp [hl] at hn
  | _ :: _ :: _ :: _, hn => simp at hn; omega
 ·unfold exprsN at hn
  rw [if_pos h1] at hn
  match hl : s.e, hn with
  | [a], _ => simp [exAt, hl]
  | [], hn => simp [hl] at hn
  | _ :: _ :: _, hn => simp at hn; omega
 ·split at hva
  ·simp at hva
   exact hva.1
  ·have : s.va = 0 := by simpa using hva
   omega
 ·split at hcs
  ·simp at hcs
   exact hcs.2
  ·have : s.cs = [] := by simpa using hcs
   rw [this]
   simp
section
variable {gs : List Gr} {ats : List (Int × Int)} {R : List Reg} {B0 : AHeap} {p : PosR} {v : VerR} {σ : RSt} {H : AHeap}
theorem begS_ok (hσ : RsOk σ) {F : List FR} {t0 : FR} (hF : σ.fs = F ++ [t0]) : RsOk (begS σ) := by
 refine ⟨hσ.c, fun f hf => ?_, hσ.i⟩
 simp only [begS, hF, updT_app] at hf
 rcases List.mem_append.1 hf with h1 | h1
 ·exact hσ.t f (by rw [hF]; exact List.mem_append_left _ h1)
 ·obtain rfl := List.mem_singleton.1 h1
  exact hσ.t t0 (by rw [hF]; simp)
set_option maxRecDepth 100000 in
theorem istep_ac (h : RunH gs ats R B0 p v σ H) (hR : ∀ r ∈ R, RegFit r) (hRl : R.length ≤ 1000) (hσ : RsOk σ) (hat : AtOk gs ats) {F : List FR} {t0 : FR} (hF : σ.fs = F ++ [t0]) (hFl : σ.fs.length ≤ 300)
 {g : Gr} {b : Bl} {s : St} (hg : gs[t0.g]? = some g) (hb : g.b[t0.b]? = some b) (hs : b.s[t0.s]? = some s) (hbig : gs.length ≤ 1000000 ∧ g.b.length ≤ 1000000 ∧ b.s.length ≤ 1000000) (hse : stErr s = 0) (hsn : ∀ e ∈ s.e, OkN e)
 (hT : ∀ k ∈ tgts s, 0 ≤ k ∧ k < (g.b.length : Int)) (hol : σ.out.length ≤ 1000000) (htl : σ.tr.length ≤ 1000000) (hnl : σ.n ≤ 1000000) :
 AC Tryz.prog 27 [.ptr p.r 0 0 0] H (fun r A' => ∃ m v', r = aI .i64 (stepS gs ats R m σ).1 ∧ RunH gs ats R B0 p v' (stepS gs ats R m σ).2 A') := by
 obtain ⟨J, hf⟩ := h.hf
 have hr := h.hr
 obtain ⟨n1, n2, n3, n4, n5, n6, n7, n8, n9, n10, n11, n12, n13, n14, n15, n16, n17, n18, n19, n20, n21, n22, n23, n24⟩ := h.ne
 obtain ⟨l1, l2, l3, l4, l5, l6, l7, l8⟩ := h.lt
 have hgl := (gSI.1 hg).1
 have hgl2 := (gSI.1 hg).2
 have hbl := (gSI.1 hb).1
 have hbl2 := (gSI.1 hb).2
 have hsl := (gSI.1 hs).1
 have hsl2 := (gSI.1 hs).2
 have hst : ∀ m, stepS gs ats R m σ = doS gs ats R m (begS σ) s := fun m => by
  unfold stepS
  have : σ.fs.getLast?.bind (stmtAt gs) = some s := by rw [hF, List.getLast?_concat]; simp [stmtAt, hg, hb, hs]
  rw [this]
 simp only [hst]
 have hFb : (begS σ).fs = F ++ [{ t0 with s := t0.s + 1 }] := by simp only [begS, hF, updT_app]
 have hσb := begS_ok hσ hF
 rw [hF] at hf
 refine ac_of Tryz.func27 rfl (by kernel_rfl) (by simp [Tryz.ntmps27]) fun hb => ?_
 clear hb
 simp [Tryz.f27]
 refine aCall_ofc (itop_ac h.toRunH0 hF (by rw [hF] at hFl; simp at hFl; omega)) (by kernel_rfl) ?_
 rintro _ _ ⟨rfl, rfl⟩
 simp
 refine adraw [] (by kernel_rfl) (by kernel_rfl) (by kernel_rfl) (by kernel_rfl) ?_
 simp [hr]
 refine ⟨l4, ?_⟩
 simp [hf, frRow, hgl, hg, hgl2, Gr.d_eq]
 refine ⟨l7, ?_⟩
 simp [hf, frRow, hbl, hb, hbl2, Bl.d_eq]
 refine ⟨l7, ?_⟩
 simp [hf, frRow, hsl, hs, hsl2, St.d_eq, lap0]
 obtain ⟨H1, hH1⟩ : ∃ H1, H ++ [stBk s] = H1 := ⟨_, rfl⟩
 have hB : RunH gs ats R B0 p v σ H1 := by rw [← hH1]; exact h.app (by intro b hb; obtain rfl := List.mem_singleton.1 hb; exact cln_stBk _ s)
 have hs1 : H1[H.length]? = some (stBk s) := by rw [← hH1]; exact lap0 _ _
 have hr1 := hB.hr
 have hf1 : H1[p.f]? = some (frB v.f (F ++ [t0]) J) := by rw [← hH1]; exact lapl hf
 obtain ⟨m1, m2, m3, m4, m5, m6, m7, m8⟩ := hB.lt
 have hu := hB.upd v (begS σ) J rfl (fun f hf => by
  rw [hFb] at hf
  rcases List.mem_append.1 hf with h1 | h1
  ·exact ⟨f, by rw [hF]; exact List.mem_append_left _ h1, rfl, rfl⟩
  ·obtain rfl := List.mem_singleton.1 h1
   exact ⟨t0, by rw [hF]; simp, rfl, rfl⟩) (by rw [hFb]; have := h.fd; rw [hF] at this; simpa using this) (hB.closedJ (by rw [hF]; exact hf1))
 have hX : frB v.f (begS σ).fs J = ⟨v.f, true, 112, 4, List.map frRow F ++ [aI .i64 t0.g, aI .i64 t0.b, aI .i64 ((t0.s : Int) + 1), .mp t0.m 0] :: J⟩ := by rw [hFb]; simp [frB, frRow]
 have hno1 : ∀ X, ((H1.set p.f X).set p.o (u32B v.o (begS σ).out)).set p.t (u32B v.t (begS σ).tr) = H1.set p.f X := fun X => by
  show ((H1.set p.f X).set p.o (u32B v.o σ.out)).set p.t (u32B v.t σ.tr) = _
  rw [set_same (x := u32B v.o σ.out) (by rw [gSN n16]; exact hB.ho), set_same (x := u32B v.t σ.tr) (by rw [gSN n17]; exact hB.ht)]
 rw [hX, hno1] at hu
 obtain ⟨H2, hH2⟩ : ∃ H2, (H1.set p.f ⟨v.f, true, 112, 4, List.map frRow F ++ [aI .i64 t0.g, aI .i64 t0.b, aI .i64 ((t0.s : Int) + 1), .mp t0.m 0] :: J⟩).set p.r (rB gs p v (begS σ)) = H2 := ⟨_, rfl⟩
 rw [hH2] at hu
 have hs2 : H2[H.length]? = some (stBk s) := by rw [← hH2, gSN (by omega), gSN (by omega)]; exact hs1
 have hsf : ∀ x, (H1.set p.f x)[p.r]? = some (rB gs p v σ) := fun x => by rw [gSN (Ne.symm n6)]; exact hr1
 have hrb : rB gs p v (begS σ) = ⟨0, true, 75, 21, [[.d (.sl 2 (grs gs)), .mp p.a 0, .ptr p.m 0 0 0,
  aI .u32 (σ.c 0), aI .u32 (σ.c 1), aI .u32 (σ.c 2), aI .u32 (σ.c 3), aI .u32 (σ.c 4), aI .u32 (σ.c 5), aI .u32 (σ.c 6), aI .u32 (σ.c 7), aI .u32 (σ.c 8), aI .u32 (σ.c 9), aI .u32 (σ.c 10), aI .u32 (σ.c 11),
  .own p.f v.f 0 (F.length + 1), .d (.sl 1 (u32d σ.inp)), .own p.o v.o 0 σ.out.length, .own p.t v.t 0 σ.tr.length, aI .i64 ((σ.n : Int) + 1), aB σ.st]]⟩ := by
  simp [rB, begS, hF, updT_app]
 rw [hrb] at hH2
 have w1 : IntKind.i64.wrap ((t0.s : Int) + 1) = (t0.s : Int) + 1 := i64w (by omega)
 have w2 : IntKind.i64.wrap ((σ.n : Int) + 1) = (σ.n : Int) + 1 := i64w (by omega)
 rw [hH1]
 simp [hf1, frRow, w1, hsf, w2, hF]
 rw [hH2]
 simp [hs2]
 obtain ⟨⟨p1, p10⟩, e2, e1, eva, ecs, efm⟩ := st_op hse
 have hx0 : ∀ i, i < s.e.length → OkN (exAt s i) ∧ formB (exAt s i) = true := fun i hi => by
  have hm : exAt s i ∈ s.e := by unfold exAt; rw [List.getD_eq_getElem?_getD, gEG hi]; exact List.getElem_mem hi
  exact ⟨hsn _ hm, efm _ hm⟩
 have hFl2 : F.length ≤ 1000000 := by rw [hF] at hFl; simp at hFl; omega
 have hbfl : (begS σ).fs.length ≤ 300 := by rw [hFb]; rw [hF] at hFl; simpa using hFl
 have hsv : stV s = .agg [aI .i64 s.op, aI .i64 s.va, aI .i64 s.wd, aI .i64 s.nx, aI .i64 s.el, aI .u32 s.tg, .d (.sl 5 (Ex.ds s.e)), .d (.sl 1 (i64s s.cs))] := rfl
 by_cases o2 : s.op = 2
 ·have hd : ∀ m, doS gs ats R m (begS σ) s = storeS R (begS σ) s (exAt s 0) (exAt s 1) := fun m => by unfold doS; rw [if_pos o2]
  have hl : s.e.length = 2 := by rw [e2 o2]; rfl
  have c := istore_ac hu hR hRl hσb hFb hFl2 s (e2 o2) (hx0 0 (by omega)).1 (hx0 1 (by omega)).1 (hx0 0 (by omega)).2 (hx0 1 (by omega)).2
  simp only [hd]
  simp [o2, hs2]
  refine aCall_ofc (by simpa [o2] using c) (by kernel_rfl) ?_
  rintro _ A' ⟨rfl, hv'⟩
  simp
  exact ⟨v, hv'⟩
 by_cases o5 : s.op = 5
 ·have hd : ∀ m, doS gs ats R m (begS σ) s = callS gs ats m (begS σ) s.tg := fun m => by unfold doS; rw [if_neg o2, if_pos o5]
  have c := icall_ac hu hat s.tg hbfl htl
  simp only [hd]
  simp [o5, hs2]
  refine aCall_ofc c (by kernel_rfl) ?_
  rintro _ A' ⟨m, v', rfl, hv'⟩
  simp
  exact ⟨m, rfl, v', hv'⟩
 by_cases o678 : s.op = 6 ∨ s.op = 7 ∨ s.op = 8
 ·have hd : ∀ m, doS gs ats R m (begS σ) s = jumpS gs R (begS σ) s (exAt s 0) := fun m => by unfold doS; rw [if_neg o2, if_neg o5, if_pos o678]
  have c := ijump_ac hu hR hRl hσb hFb hFl2 s hg hbig.2.1 hT o678 (exAt s 0) (fun h6 => ⟨e1 (by omega), hx0 0 (by rw [e1 (by omega)]; simp)⟩) (by omega) htl
  simp only [hd]
  rcases o678 with o6 | o7 | o8
  ·simp [o6, hs2]
   refine aCall_ofc (by simpa [o6] using c) (by kernel_rfl) ?_
   rintro _ A' ⟨rfl, v', hv'⟩
   simp
   exact ⟨v', hv'⟩
  ·simp [o7, hs2]
   refine aCall_ofc (by simpa [o7] using c) (by kernel_rfl) ?_
   rintro _ A' ⟨rfl, v', hv'⟩
   simp
   exact ⟨v', hv'⟩
  ·simp [o8, hs2]
   refine aCall_ofc (by simpa [o8] using c) (by kernel_rfl) ?_
   rintro _ A' ⟨rfl, v', hv'⟩
   simp
   exact ⟨v', hv'⟩
 by_cases o9 : s.op = 9
 ·have hd : ∀ m, doS gs ats R m (begS σ) s = (0, { begS σ with fs := (begS σ).fs.dropLast, st := decide ((begS σ).fs.dropLast.length = 0) }) := fun m => by unfold doS; rw [if_neg o2, if_neg o5, if_neg o678, if_pos o9]
  have hdl : (begS σ).fs.dropLast = F := by rw [hFb]; simp
  have hr2 := hu.hr
  have m4' := hu.lt.2.2.2.1
  have hf2 : H2[p.f]? = some (frB v.f F (frRow { t0 with s := t0.s + 1 } :: J)) := by
   obtain ⟨J', hJ'⟩ := hu.hf
   rw [← hH2, gSN n6, gSS m7]
   simp [frB, frRow]
  have hJc : ∀ x ∈ frRow { t0 with s := t0.s + 1 } :: J, ∀ c ∈ x, cln H2.length c = c := fun x hx c hc =>
   clnB_iff.1 (hu.cl _ (gMO hf2)) x (List.mem_append_right _ hx) c hc
  have hu3 := hu.upd v { begS σ with fs := F, st := decide (F.length = 0) } (frRow { t0 with s := t0.s + 1 } :: J) rfl (fun f hf => ⟨f, by rw [hFb]; exact List.mem_append_left _ hf, rfl, rfl⟩) (by have := h.fd; rw [hF, List.map_append, List.nodup_append] at this; exact this.1) hJc
  have hn1 : ((H2.set p.f (frB v.f F (frRow { t0 with s := t0.s + 1 } :: J))).set p.o (u32B v.o (begS σ).out)).set p.t (u32B v.t (begS σ).tr) = H2 := by
   rw [set_same hf2, set_same hu.ho, set_same hu.ht]
  simp only [hn1] at hu3
  simp only [hd, hdl]
  simp [o9, hs2]
  refine adraw [] (by kernel_rfl) (by kernel_rfl) (by kernel_rfl) (by kernel_rfl) ?_
  have hbl3 : (begS σ).fs.length = F.length + 1 := by rw [hFb]; simp
  have w3 : IntKind.i64.wrap ((F.length : Int) + 1 - 1) = (F.length : Int) := by rw [i64w (by omega)]; omega
  have w4 : IntKind.i64.wrap (F.length : Int) = (F.length : Int) := i64w (by omega)
  simp [hr2]
  refine ⟨m4', ?_⟩
  have q1 : ∀ x, (H2.set p.r x)[p.r]? = some x := fun x => gSS m4'
  have q2 : ∀ x, (H2.set p.r x)[p.f]? = some (frB v.f F (frRow { t0 with s := t0.s + 1 } :: J)) := fun x => by rw [gSN n6]; exact hf2
  simp [hf2, hbl3, w3, w4, show (F.length : Int) ≤ (F.length : Int) + 1 by omega, hr2, q1, q2]
  refine ⟨v, ?_⟩
  simpa [rB] using hu3
 by_cases o10 : s.op = 10
 ·have hd : ∀ m, doS gs ats R m (begS σ) s = (0, { begS σ with st := true }) := fun m => by unfold doS; rw [if_neg o2, if_neg o5, if_neg o678, if_neg o9, if_pos o10]
  have hr2 := hu.hr
  have hu2 := hu.setr { begS σ with st := true } rfl rfl rfl rfl
  simp only [hd]
  simp [o10, hs2, hr2]
  exact ⟨v, hu2⟩
 ·have hd : ∀ m, doS gs ats R m (begS σ) s = plainS R (begS σ) s (exAt s 0) := fun m => by unfold doS; rw [if_neg o2, if_neg o5, if_neg o678, if_neg o9, if_neg o10]
  have hop : s.op = 1 ∨ s.op = 3 ∨ s.op = 4 := by omega
  have c := iplain_ac hu hR hRl hσb hFb hFl2 s eva (exAt s 0) (fun h3 => ⟨e1 (by omega), hx0 0 (by rw [e1 (by omega)]; simp)⟩) hol
  simp only [hd]
  rcases hop with o1 | o3 | o4
  ·simp [o1, hs2]
   refine aCall_ofc (by simpa [o1] using c) (by kernel_rfl) ?_
   rintro _ A' ⟨rfl, v', hv'⟩
   simp
   exact ⟨v', hv'⟩
  ·simp [o3, hs2]
   refine aCall_ofc (by simpa [o3] using c) (by kernel_rfl) ?_
   rintro _ A' ⟨rfl, v', hv'⟩
   simp
   exact ⟨v', hv'⟩
  ·simp [o4, hs2]
   refine aCall_ofc (by simpa [o4] using c) (by kernel_rfl) ?_
   rintro _ A' ⟨rfl, v', hv'⟩
   simp
   exact ⟨v', hv'⟩
end
theorem aDraw_sub {P : Program} {n id : Nat} {ops : Array Oper} {k : AKont} {e e' : AEnv} {A A' : AHeap} (hs : Sub n e A e' A') (h : aDraw P n id ops k e' A') : aDraw P n id ops k e A := fun C ec w hn hS => h C ec w hn (hs C ec w hn hS)
mutual
theorem rsh_cln {m m' : Nat} (hm : m ≤ m') : ∀ c : AV, cln m c = c → rsh m' c = c
 | .any, _ => rfl
 | .d _, _ => rfl
 | .ip _, _ => rfl
 | .mp _ _, _ => rfl
 | .own b ver i len, h => by
   simp only [cln] at h
   split at h
   ·simp only [rsh]
    rw [if_neg (by omega)]
   ·cases h
 | .ptr b ver i o, h => by
   simp only [cln] at h
   split at h
   ·simp only [rsh]
    rw [if_neg (by omega)]
   ·cases h
 | .agg cs, h => by
   simp only [cln, AV.agg.injEq] at h
   simp only [rsh, AV.agg.injEq]
   exact rshL_cln hm cs h
 | .tup cs, h => by
   simp only [cln, AV.tup.injEq] at h
   simp only [rsh, AV.tup.injEq]
   exact rshL_cln hm cs h
 | .fn f fs cs, h => by
   simp only [cln, AV.fn.injEq, true_and] at h
   simp only [rsh, AV.fn.injEq, true_and]
   exact ⟨rshL_cln hm fs h.1, rshL_cln hm cs h.2⟩
 | .ifc t c, h => by
   simp only [cln, AV.ifc.injEq, true_and] at h
   simp only [rsh, AV.ifc.injEq, true_and]
   exact rsh_cln hm c h
theorem rshL_cln {m m' : Nat} (hm : m ≤ m') : ∀ cs : List AV, cln.clnL m cs = cs → rsh.rshL m' cs = cs
 | [], _ => rfl
 | c :: cs, h => by
   simp only [cln.clnL, List.cons.injEq] at h
   simp only [rsh.rshL, List.cons.injEq]
   exact ⟨rsh_cln hm c h.1, rshL_cln hm cs h.2⟩
end
theorem rshB_cln {m m' : Nat} (hm : m ≤ m') {b : Blk} (h : clnB m b = b) : rshB m' b = b := by
 have h := clnB_iff.1 h
 obtain ⟨v, w, t, s, els⟩ := b
 simp only [rshB, Blk.mk.injEq, true_and, map_fix]
 exact fun x hx c hc => rsh_cln hm c (h x hx c hc)
theorem rshH_app {A M : AHeap} (h : ClH A) (k : Nat) (b : Blk) : rshH (A ++ M) (A.length + k) b = A ++ (M.set k b).map (rshB (A.length + k)) := by
 unfold rshH
 rw [las, List.map_append]
 congr 1
 exact map_fix.2 fun x hx => rshB_cln (by omega) (h x hx)
theorem mnew_ex (l : List Sec) (A : AHeap) (hA : ClH A) (hl : ∀ s ∈ l, SecFit s) (he : secErr l = 0) (h16 : l.length ≤ 16) :
 AC Tryz.prog 57 [.d (.sl 5 (secs l))] A (AtH (A ++ [mpB .u32 .u8 [], memB (regL l) A.length]) (.tup [.ptr (A.length + 1) 0 0 0, aI .i64 0])) :=
 (mnew_ac l A hl he h16).sub fun r A' ⟨hr, N, hA'⟩ => by
  subst hr hA'
  have hc : ClH (A ++ [mpB .u32 .u8 [], memB (regL l) A.length]) := hA.app fun b hb => by
   simp only [List.mem_cons, List.not_mem_nil, or_false] at hb
   rcases hb with rfl | rfl
   ·exact cln_mpB _ _ _ _
   ·simp [clnB, clnE, cln]
  refine ⟨_, _, Sub.take (A.length + 2) (by omega), by simp [cln], ?_⟩
  have h2 : A ++ mpB .u32 .u8 [] :: memB (regL l) A.length :: N = (A ++ [mpB .u32 .u8 [], memB (regL l) A.length]) ++ N := by simp
  have h3 : (A ++ [mpB .u32 .u8 [], memB (regL l) A.length]).length = A.length + 2 := by simp
  rw [h2, ← h3, List.take_left]
  exact hc.fix.symm
def iniC : List Int := [0, 0, 0, 0, 0, 0, 0, 983036, 0, 0, 0, 0]
set_option maxRecDepth 100000 in
theorem iinitial_af : AF Tryz.prog 59 [] (.agg [.d (.sl 1 (u32d iniC))]) := by
 refine af_of Tryz.func59 rfl (by kernel_rfl) (by simp [Tryz.ntmps59]) fun _ => ?_; simp [Tryz.f59, Ex.d_eq]
 refine aRaw_make (l := 12) (c := 12) (kl := .i64) (kc := .i64) (z := [.d (.v (.int .u32 0))]) byt_27 (by kernel_rfl) (by simp) (by simp) (by omega) (by unfold maxLen; omega) (by omega) ?_
 simp [List.replicate]
 simp [iniC, u32d]
abbrev rc0 (gs : List Gr) (inp : List Int) (n : Nat) (C : List Int) (fr ou tr : AV) : List AV := [.d (.sl 2 (grs gs)), .mp (n + 3) 0, .ptr (n + 2) 0 0 0] ++ C.map (aI .u32) ++ [fr, .d (.sl 1 (u32d inp)), ou, tr, aI .i64 0, aB false]
abbrev nilV : AV := .d (.v (.slice none 0 0))
abbrev rb0 (gs : List Gr) (inp : List Int) (n : Nat) (C : List Int) (fr ou tr : AV) : Blk := ⟨0, true, 75, 21, [rc0 gs inp n C fr ou tr]⟩
abbrev rf0 (gs : List Gr) (inp : List Int) (n : Nat) (C : List Int) : Blk := ⟨0, true, 75, 1, (rc0 gs inp n C nilV nilV nilV).map fun c => [c]⟩
abbrev z12 : List Int := [0, 0, 0, 0, 0, 0, 0, 0, 0, 0, 0, 0]
theorem flat_single {α : Type} : ∀ l : List α, (l.map fun c => [c]).flatten = l
 | [] => rfl
 | c :: l => by rw [List.map_cons, List.flatten_cons, flat_single l]; rfl
theorem rc0_cl {n : Nat} (gs : List Gr) (inp : List Int) (C : List Int) : ∀ c ∈ rc0 gs inp n C nilV nilV nilV, cln (n + 4) c = c := by
 intro c hc
 simp only [rc0, List.mem_append, List.mem_cons, List.not_mem_nil, or_false, List.mem_map] at hc
 rcases hc with ((rfl | rfl | rfl) | ⟨x, _, rfl⟩) | rfl | rfl | rfl | rfl | rfl | rfl
 all_goals simp [cln]
theorem pre_cl {n : Nat} (gs : List Gr) (ss : List Sec) (en : Int) (R : List Reg) (W T : List (Int × Int)) (b : Blk) (hb : ∀ x ∈ b.els, ∀ c ∈ x, cln (n + 4) c = c) : ∀ x ∈ [pgB gs ss en, mpB .u32 .u8 W, memB R (n + 1), mpB .u32 .i64 T, b], clnB (n + 4) x = x := by
 intro x hx
 simp only [List.mem_cons, List.not_mem_nil, or_false] at hx
 rcases hx with rfl | rfl | rfl | rfl | rfl
 ·simp [clnB, clnE, cln]
 ·exact cln_mpB _ _ _ _
 ·simp [clnB, clnE, cln]
 ·exact cln_mpB _ _ _ _
 ·exact clnB_iff.2 hb
theorem sub_flat {A : AHeap} (hA : ClH A) (gs : List Gr) (ss : List Sec) (en : Int) (inp : List Int) (R : List Reg) (W T : List (Int × Int)) (C : List Int) (hC : C.length = 12) (e : AEnv) :
 Sub A.length e (A ++ [pgB gs ss en, mpB .u32 .u8 W, memB R (A.length + 1), mpB .u32 .i64 T, rb0 gs inp A.length C nilV nilV nilV]) (fun i => rsh (A.length + 4) (e i)) (A ++ [pgB gs ss en, mpB .u32 .u8 W, memB R (A.length + 1), mpB .u32 .i64 T, rf0 gs inp A.length C]) := by
 have h := Sub.resh (n := A.length) (e := e) (m := A.length + 4) (sz := 1) (els := (rc0 gs inp A.length C nilV nilV nilV).map fun c => [c]) (A := A ++ [pgB gs ss en, mpB .u32 .u8 W, memB R (A.length + 1), mpB .u32 .i64 T, rb0 gs inp A.length C nilV nilV nilV]) (k := rb0 gs inp A.length C nilV nilV nilV) (lap _ _ 4) (by omega) (by show 75 < 1000000; decide) (by intro x hx; obtain ⟨c, _, rfl⟩ := List.mem_map.1 hx; rfl) (by intro x hx; obtain rfl := List.mem_singleton.1 hx; simp [hC]) (by omega) (by show 0 < 21; omega) (by rw [flat_single]; simp [rb0])
 rw [rshH_app hA] at h
 rwa [show ([pgB gs ss en, mpB .u32 .u8 W, memB R (A.length + 1), mpB .u32 .i64 T, rb0 gs inp A.length C nilV nilV nilV] : AHeap).set 4 _ = [pgB gs ss en, mpB .u32 .u8 W, memB R (A.length + 1), mpB .u32 .i64 T, rf0 gs inp A.length C] from rfl, map_fix.2 fun x hx => rshB_cln (Nat.le_refl _) (pre_cl gs ss en R W T _ (by
  intro x hx c hc
  obtain ⟨d, hd, rfl⟩ := List.mem_map.1 hx
  obtain rfl := List.mem_singleton.1 hc
  exact rc0_cl gs inp C c hd) x hx)] at h
theorem sub_unflat {A : AHeap} (hA : ClH A) (gs : List Gr) (ss : List Sec) (en : Int) (inp : List Int) (R : List Reg) (W T : List (Int × Int)) (C : List Int) (hC : C.length = 12) (e : AEnv) :
 Sub A.length e (A ++ [pgB gs ss en, mpB .u32 .u8 W, memB R (A.length + 1), mpB .u32 .i64 T, rf0 gs inp A.length C]) (fun i => rsh (A.length + 4) (e i)) (A ++ [pgB gs ss en, mpB .u32 .u8 W, memB R (A.length + 1), mpB .u32 .i64 T, rb0 gs inp A.length C nilV nilV nilV]) := by
 have h := Sub.resh (n := A.length) (e := e) (m := A.length + 4) (sz := 21) (els := [rc0 gs inp A.length C nilV nilV nilV]) (A := A ++ [pgB gs ss en, mpB .u32 .u8 W, memB R (A.length + 1), mpB .u32 .i64 T, rf0 gs inp A.length C]) (k := rf0 gs inp A.length C) (lap _ _ 4) (by omega) (by show 75 < 1000000; decide) (by intro x hx; obtain rfl := List.mem_singleton.1 hx; simp [hC]) (by intro x hx; obtain ⟨c, _, rfl⟩ := List.mem_map.1 hx; rfl) (by omega) (by show 0 < 1; omega) (by rw [show (rf0 gs inp A.length C).els = (rc0 gs inp A.length C nilV nilV nilV).map fun c => [c] from rfl, flat_single]; simp)
 rw [rshH_app hA] at h
 rwa [show ([pgB gs ss en, mpB .u32 .u8 W, memB R (A.length + 1), mpB .u32 .i64 T, rf0 gs inp A.length C] : AHeap).set 4 _ = [pgB gs ss en, mpB .u32 .u8 W, memB R (A.length + 1), mpB .u32 .i64 T, rb0 gs inp A.length C nilV nilV nilV] from rfl, map_fix.2 fun x hx => rshB_cln (Nat.le_refl _) (pre_cl gs ss en R W T _ (by
  intro x hx c hc
  obtain rfl := List.mem_singleton.1 hx
  exact rc0_cl gs inp C c hc) x hx)] at h
def atN (gs : List Gr) : Nat → List (Int × Int)
 | 0 => []
 | i + 1 => upL ((gs[i]?.map Gr.ad).getD 0) i (atN gs i)
def W0 (R : List Reg) : List (Int × Int) := if stE R 983036 4 = 0 then stL 983036 4294967295 [] 4 else []
def ini0 (gs : List Gr) (R : List Reg) (en : Int) (inp : List Int) (m : Nat) : RSt :=
 ⟨fun i => iniC.getD i 0, [⟨((lkL en (atN gs gs.length)).getD 0).toNat, 0, 0, m, []⟩], W0 R, inp, [], [], 0, false⟩
abbrev pre5 (gs : List Gr) (ss : List Sec) (en : Int) (inp : List Int) (R : List Reg) (W T : List (Int × Int)) (n : Nat) : AHeap := [pgB gs ss en, mpB .u32 .u8 W, memB R (n + 1), mpB .u32 .i64 T, rb0 gs inp n iniC nilV (.own (n + 5) 0 0 0) (.own (n + 6) 0 0 0), u32B 0 [], u32B 0 []]
theorem sub_ent {A : AHeap} (hA : ClH A) (gs : List Gr) (ss : List Sec) (en : Int) (inp : List Int) (R : List Reg) (W T : List (Int × Int)) (e : AEnv) :
 Sub A.length e (A ++ [pgB gs ss en, mpB .u32 .u8 W, memB R (A.length + 1), mpB .u32 .i64 T, rf0 gs inp A.length iniC]) (fun i => rsh (A.length + 4) (e i)) (A ++ pre5 gs ss en inp R W T A.length) := by
 have h1 := sub_unflat hA gs ss en inp R W T iniC rfl e
 have h2 := Sub.ghost (n := A.length) (e := fun i => rsh (A.length + 4) (e i)) (A := A ++ [pgB gs ss en, mpB .u32 .u8 W, memB R (A.length + 1), mpB .u32 .i64 T, rb0 gs inp A.length iniC nilV nilV nilV]) 0 24 1
 have h3 := Sub.ghost (n := A.length) (e := fun i => rsh (A.length + 4) (e i)) (A := (A ++ [pgB gs ss en, mpB .u32 .u8 W, memB R (A.length + 1), mpB .u32 .i64 T, rb0 gs inp A.length iniC nilV nilV nilV]) ++ [⟨0, true, 24, 1, []⟩]) 0 24 1
 have h23 := h1.trans (h2.trans h3)
 rw [List.append_assoc, List.append_assoc] at h23
 have h4 := Sub.cell (n := A.length) (e := fun i => rsh (A.length + 4) (e i)) (A := A ++ ([pgB gs ss en, mpB .u32 .u8 W, memB R (A.length + 1), mpB .u32 .i64 T, rb0 gs inp A.length iniC nilV nilV nilV, u32B 0 [], u32B 0 []] : AHeap)) (b := A.length + 4) (i := 0) (o := 17) (k := rb0 gs inp A.length iniC nilV nilV nilV) (lap _ _ 4) rfl rfl (VLe.nil_own (b := A.length + 5) (ver := 0) (k := u32B 0 []) (lap _ _ 5) rfl)
 rw [las] at h4
 have h5 := Sub.cell (n := A.length) (e := fun i => rsh (A.length + 4) (e i)) (A := A ++ ([pgB gs ss en, mpB .u32 .u8 W, memB R (A.length + 1), mpB .u32 .i64 T, rb0 gs inp A.length iniC nilV (.own (A.length + 5) 0 0 0) nilV, u32B 0 [], u32B 0 []] : AHeap)) (b := A.length + 4) (i := 0) (o := 18) (k := rb0 gs inp A.length iniC nilV (.own (A.length + 5) 0 0 0) nilV) (lap _ _ 4) rfl rfl (VLe.nil_own (b := A.length + 6) (ver := 0) (k := u32B 0 []) (lap _ _ 6) rfl)
 rw [las] at h5
 exact h23.trans (h4.trans h5)
theorem pre5_len (gs : List Gr) (ss : List Sec) (en : Int) (inp : List Int) (R : List Reg) (W T : List (Int × Int)) (n : Nat) : (pre5 gs ss en inp R W T n).length = 7 := rfl
theorem pre5_cl (gs : List Gr) (ss : List Sec) (en : Int) (inp : List Int) (R : List Reg) (W T : List (Int × Int)) (n : Nat) : ∀ x ∈ pre5 gs ss en inp R W T n, clnB (n + 7) x = x := by
 intro x hx
 simp only [pre5, List.mem_cons, List.not_mem_nil, or_false] at hx
 rcases hx with rfl | rfl | rfl | rfl | rfl | rfl | rfl
 ·simp [clnB, clnE, cln]
 ·exact cln_mpB _ _ _ _
 ·simp [clnB, clnE, cln]
 ·exact cln_mpB _ _ _ _
 ·simp [clnB, clnE, cln]
 ·rfl
 ·rfl
theorem pre5_clH {A : AHeap} (hA : ClH A) (gs : List Gr) (ss : List Sec) (en : Int) (inp : List Int) (R : List Reg) (W T : List (Int × Int)) : ClH (A ++ pre5 gs ss en inp R W T A.length) := hA.app (pre5_cl gs ss en inp R W T A.length)
end Go.Proofs.YtplbaolbaniioaaGreatDoor
