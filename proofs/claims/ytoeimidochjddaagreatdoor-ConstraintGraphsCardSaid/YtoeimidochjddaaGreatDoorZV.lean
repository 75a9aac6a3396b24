/- Texts that the claim leans on, laid one behind the other: Uq, Ur, Us, Ut, Uv, Ux. -/
import Derived.Test.YtoeimidochjddaaGreatDoorZU
import Derived.Test.YtoeimidochjddaaGreatDoorZM
import Derived.Test.YtoeimidochjddaaGreatDoorZP
import Derived.Test.YtoeimidochjddaaGreatDoorAt
import Derived.Test.YtoeimidochjddaaGreatDoorAl
import Derived.Test.YtoeimidochjddaaGreatDoorAv
import Derived.Test.YtoeimidochjddaaGreatDoorZT
set_option linter.unusedSimpArgs false
set_option linter.unusedVariables false
set_option linter.unnecessarySimpa false
/- The constraints of a graph in SSA form, as plain functions; how many there are of a kind. No program in sight. -/
namespace Go.Proofs.YtoeimidochjddaaGreatDoor
open Go.RowKit
/-- A phi function. -/
structure Ph where
  va : Int
  ar : List Int
/-- A graph in SSA form. -/
structure Ss where
  g : Gr
  ph : List (List Ph)
  og : List Int
def Ph.d (p : Ph) : List D := [.v (.int .i64 p.va), .sl 1 (i64s p.ar)]
theorem Ph.d_eq (p : Ph) : Ph.d p = [.v (.int .i64 p.va), .sl 1 (i64s p.ar)] := rfl
@[simp] theorem Ph.d_len (p : Ph) : (Ph.d p).length = 2 := rfl
/-- Phi functions, as a slice's elements. -/
def phs (l : List Ph) : List (List D) := l.map Ph.d
@[simp] theorem phs_nil : phs [] = [] := rfl
@[simp] theorem phs_cons (s : Ph) (l : List Ph) : phs (s :: l) = s.d :: phs l := rfl
@[simp] theorem phs_len (l : List Ph) : (phs l).length = l.length := by simp [phs]
@[simp] theorem phs_get (l : List Ph) (i : Nat) : (phs l)[i]? = (l[i]?).map Ph.d := by simp [phs]
@[simp] theorem phs_at (l : List Ph) (i : Nat) (h : i < (phs l).length) : (phs l)[i] = Ph.d (l[i]'(by simpa using h)) := by simp [phs]
@[simp] theorem phs_all (l : List Ph) : (phs l).take l.length = phs l := by rw [List.take_of_length_le]; simp
/-- The phi functions of the blocks, as a slice's elements. -/
def phss (l : List (List Ph)) : List (List D) := l.map fun p => [.sl 2 (phs p)]
@[simp] theorem phss_nil : phss [] = [] := rfl
@[simp] theorem phss_cons (s : List Ph) (l : List (List Ph)) : phss (s :: l) = [.sl 2 (phs s)] :: phss l := rfl
@[simp] theorem phss_len (l : List (List Ph)) : (phss l).length = l.length := by simp [phss]
@[simp] theorem phss_get (l : List (List Ph)) (i : Nat) : (phss l)[i]? = (l[i]?).map fun p => [.sl 2 (phs p)] := by simp [phss]
@[simp] theorem phss_at (l : List (List Ph)) (i : Nat) (h : i < (phss l).length) : (phss l)[i] = [.sl 2 (phs (l[i]'(by simpa using h)))] := by simp [phss]
@[simp] theorem phss_all (l : List (List Ph)) : (phss l).take l.length = phss l := by rw [List.take_of_length_le]; simp
/-- A phi function, a graph in SSA form, by value. -/
@[simp] def phV (p : Ph) : AV := .agg [aI .i64 p.va, .d (.sl 1 (i64s p.ar))]
@[simp] def ssV (s : Ss) : AV := .agg [aI .u32 s.g.ad, .d (.sl 2 (bls' s.g.b)), .d (.sl 1 (phss s.ph)), .d (.sl 1 (i64s s.og))]
/-! ### the constraints -/
def varB (v : Int) : Bool := decide (0 ≤ v) && decide (v < 65536)
def phB (p : Ph) : Bool := varB p.va && p.ar.all varB
def phsB (s : Ss) : Bool := decide (s.ph.length ≤ s.g.b.length) && s.ph.all fun l => l.all phB
def cnAr (va a : Int) : Cn := ⟨0, a, va, 0, 0, 0, 0⟩
def phC (L : List Cn) (p : Ph) : List Cn := L ++ p.ar.map (cnAr p.va)
/-- What a statement adds. -/
def stF (k : Nat) (z : List Cn × Int) (s : St) : List Cn × Int := (z.1 ++ (cnS k z.2 s).1, (cnS k z.2 s).2)
/-- The constraints of the first i blocks, the next new variable. -/
def ofI (k : Nat) (s : Ss) (f : Int) : Nat → List Cn × Int
  | 0 => ([], f)
  | i + 1 => match s.g.b[i]? with
    | some b => b.s.foldl (stF k) (((s.ph[i]?).getD []).foldl phC (ofI k s f i).1, (ofI k s f i).2)
    | none => ofI k s f i
/-! ### how many there are -/
def stS (F : St → Nat) (l : List St) : Nat := (l.map F).sum
def blS (F : St → Nat) (l : List Bl) : Nat := (l.map fun b => stS F b.s).sum
def phN (l : List Ph) : Nat := (l.map fun p => p.ar.length).sum
def phsN (l : List (List Ph)) : Nat := (l.map phN).sum
def subS (s : St) : Nat := match s.op, s.e with
  | 1, x :: _ => if x.op = 1 then 0 else 1
  | _, _ => 0
def stoS (s : St) : Nat := if s.op = 2 then 1 else 0
def ldS (s : St) : Nat := loadsE.loadsEs s.e
def szS (s : St) : Nat := 2 * Ex.nodess s.e + 1
theorem sum_take {α : Type} {F : α → Nat} {l : List α} {i : Nat} {x : α} (h : l[i]? = some x) : ((l.take (i + 1)).map F).sum = ((l.take i).map F).sum + F x := by
  rw [List.take_add_one, h]
  simp
theorem sum_take_le {α : Type} (F : α → Nat) (l : List α) (i : Nat) : ((l.take i).map F).sum ≤ (l.map F).sum := by
  have h : l.map F = (l.take i).map F ++ (l.drop i).map F := by rw [← List.map_append, List.take_append_drop]
  rw [h, List.sum_append]
  omega
theorem sum_mem {α : Type} (F : α → Nat) {l : List α} {x : α} (h : x ∈ l) : F x ≤ (l.map F).sum := by
  induction l with
  | nil => cases h
  | cons a l ih =>
    simp only [List.map_cons, List.sum_cons]
    rcases List.mem_cons.1 h with rfl | h
    · omega
    · have := ih h
      omega
theorem fields_var {s : St} (h : fieldsB s = true) (ho : s.op = 1) : 0 ≤ s.va := by
  simp [fieldsB, ho] at h
  omega
/-- What the constraints of a statement are like. -/
structure StR (f : Int) (s : St) (L : List Cn) (f' : Int) : Prop where
  c0 : cntK 0 L = subS s
  c2 : cntK 2 L = ldS s
  c3 : cntK 3 L = stoS s
  ok : ∀ c ∈ L, CnOk c
  lo : f ≤ f'
  hi : f' ≤ f + Ex.nodess s.e
  len : L.length ≤ szS s
theorem cnS_like {k : Nat} {f : Int} {s : St} (hs : stErr s = 0) (hk : Ex.nodess s.e ≤ k) (h0 : 0 ≤ f) : StR f s (cnS k f s).1 (cnS k f s).2 := by
  have hfb := (stErr_ok hs).2.2
  rcases st_kinds hs with ⟨o1, a, ha, haf⟩ | ⟨o2, a, b, ha, haf, hbf⟩ | ⟨o1, o2, o4, o7, o8, ha⟩ | ⟨ho, a, ha, haf⟩
  · rw [ha] at hk
    simp only [Ex.nodess, Nat.add_zero] at hk
    have hv := fields_var hfb o1
    have r := cnF_like k f a h0 haf hk
    obtain ⟨⟨l1, f1, v1⟩, hq⟩ : ∃ p, cnF k f a = p := ⟨_, rfl⟩
    rw [hq] at r
    have hR : cnS k f s = (l1 ++ (if a.op = 1 then [] else [⟨0, v1, s.va, 0, 0, 0, 0⟩]), f1) := by rw [cnS, o1, ha]; simp only [hq]
    rw [hR]
    have hlen := r.len
    have hhi := r.hi
    simp only at hlen hhi
    by_cases h1 : a.op = 1
    · rw [if_pos h1, List.append_nil]
      refine ⟨?_, ?_, ?_, r.ok, r.lo, ?_, ?_⟩
      · simp only [r.c0, subS, o1, ha, h1, if_pos]
      · simp [r.c2, ldS, ha, loadsE.loadsEs]
      · simp [r.c3, stoS, o1]
      · simp only [ha, Ex.nodess]; omega
      · simp only [szS, ha, Ex.nodess]; omega
    · rw [if_neg h1]
      refine ⟨?_, ?_, ?_, fun c hc => ?_, r.lo, ?_, ?_⟩
      · simp only [cntK_app, r.c0, subS, o1, ha, h1, if_neg, cntK_one]; rfl
      · simp [cntK_app, cntK_one, r.c2, ldS, ha, loadsE.loadsEs]
      · simp [cntK_app, cntK_one, r.c3, stoS, o1]
      · rcases List.mem_append.1 hc with hc | hc
        · exact r.ok c hc
        · simp at hc
          subst hc
          exact ⟨by simp, by simp, r.v0, hv⟩
      · simp only [ha, Ex.nodess]; omega
      · simp only [szS, ha, Ex.nodess, List.length_append, List.length_singleton]; omega
  · rw [ha] at hk
    simp only [Ex.nodess, Nat.add_zero] at hk
    have hmn := movP_nodes a
    have hml := movP_loads haf
    have hmf := movP_form haf
    obtain ⟨⟨y, of⟩, hy⟩ : ∃ p, movP a = p := ⟨_, rfl⟩
    rw [hy] at hmn hml hmf
    simp only at hmn hml hmf
    have r := cnF_like k f y h0 hmf (by omega)
    obtain ⟨⟨l1, f1, v1⟩, hq⟩ : ∃ p, cnF k f y = p := ⟨_, rfl⟩
    rw [hq] at r
    have hlo := r.lo
    have hhi := r.hi
    have hlen := r.len
    simp only at hlo hhi hlen
    have r2 := cnF_like k f1 b (by omega) hbf (by omega)
    obtain ⟨⟨l2, f2, v2⟩, hq2⟩ : ∃ p, cnF k f1 b = p := ⟨_, rfl⟩
    rw [hq2] at r2
    have hlo2 := r2.lo
    have hhi2 := r2.hi
    have hlen2 := r2.len
    simp only at hlo2 hhi2 hlen2
    have hR : cnS k f s = (l1 ++ l2 ++ [⟨3, v1, v2, of, s.wd, 0, 0⟩], f2) := by rw [cnS, o2, ha]; simp only [hy, hq, hq2]
    rw [hR]
    refine ⟨?_, ?_, ?_, fun c hc => ?_, by simp only; omega, ?_, ?_⟩
    · simp [cntK_app, cntK_one, r.c0, r2.c0, subS, o2]
    · simp [cntK_app, cntK_one, r.c2, r2.c2, ldS, ha, loadsE.loadsEs, hml]
    · simp [cntK_app, cntK_one, r.c3, r2.c3, stoS, o2]
    · simp only [List.mem_append, List.mem_singleton] at hc
      rcases hc with (hc | hc) | hc
      · exact r.ok c hc
      · exact r2.ok c hc
      · subst hc
        exact ⟨by simp, by simp, r.v0, r2.v0⟩
    · simp only [ha, Ex.nodess]; omega
    · simp only [szS, ha, Ex.nodess, List.length_append, List.length_singleton]; omega
  · have hR : cnS k f s = ([], f) := by
      unfold cnS
      split
      · exact absurd ‹s.op = 1› o1
      · exact absurd ‹s.op = 2› o2
      · rw [ha]; rfl
    rw [hR]
    refine ⟨?_, ?_, ?_, by simp, by simp, by simp; omega, by simp⟩
    · simp only [cntK_nil, subS]
      split
      · exact absurd ‹s.op = 1› o1
      · rfl
    · simp [ldS, ha, loadsE.loadsEs]
    · simp [stoS, o2]
  · rw [ha] at hk
    simp only [Ex.nodess, Nat.add_zero] at hk
    have o1 : s.op ≠ 1 := by omega
    have o2 : s.op ≠ 2 := by omega
    have hR : cnS k f s = ((cnF k f a).1, (cnF k f a).2.1) := by
      unfold cnS
      split
      · exact absurd ‹s.op = 1› o1
      · exact absurd ‹s.op = 2› o2
      · rw [ha]; simp [cnL]
    have r := cnF_like k f a h0 haf hk
    rw [hR]
    have hlen := r.len
    have hhi := r.hi
    refine ⟨?_, ?_, ?_, r.ok, r.lo, ?_, ?_⟩
    · rw [r.c0, subS]
      split
      · exact absurd ‹s.op = 1› o1
      · rfl
    · simp [r.c2, ldS, ha, loadsE.loadsEs]
    · simp [r.c3, stoS, o2]
    · simp only [ha, Ex.nodess]; omega
    · simp only [szS, ha, Ex.nodess]; omega
/-- What constraints so far are like. -/
structure OfR (f : Int) (n0 n2 n3 w u : Nat) (z : List Cn × Int) : Prop where
  c0 : cntK 0 z.1 = n0
  c2 : cntK 2 z.1 = n2
  c3 : cntK 3 z.1 = n3
  ok : ∀ c ∈ z.1, CnOk c
  lo : f ≤ z.2
  hi : z.2 ≤ f + u
  len : z.1.length ≤ w
theorem OfR.st {f : Int} {n0 n2 n3 w u : Nat} {z : List Cn × Int} (h : OfR f n0 n2 n3 w u z) {k : Nat} {s : St} (hs : stErr s = 0) (hk : Ex.nodess s.e ≤ k) (h0 : 0 ≤ f) : OfR f (n0 + subS s) (n2 + ldS s) (n3 + stoS s) (w + szS s) (u + Ex.nodess s.e) (stF k z s) := by
  have r := cnS_like hs hk (f := z.2) (by have := h.lo; omega)
  refine ⟨?_, ?_, ?_, fun c hc => ?_, ?_, ?_, ?_⟩
  · simp only [stF, cntK_app, h.c0, r.c0]
  · simp only [stF, cntK_app, h.c2, r.c2]
  · simp only [stF, cntK_app, h.c3, r.c3]
  · rcases List.mem_append.1 hc with hc | hc
    · exact h.ok c hc
    · exact r.ok c hc
  · have := h.lo; have := r.lo; simp only [stF]; omega
  · have := h.hi; have := r.hi; simp only [stF]; omega
  · have := h.len; have := r.len; simp only [stF, List.length_append]; omega
theorem OfR.sts {f : Int} {k : Nat} (h0 : 0 ≤ f) : ∀ {l : List St}, (∀ s ∈ l, stErr s = 0) → (∀ s ∈ l, Ex.nodess s.e ≤ k) → ∀ {n0 n2 n3 w u : Nat} {z : List Cn × Int}, OfR f n0 n2 n3 w u z →
    OfR f (n0 + stS subS l) (n2 + stS ldS l) (n3 + stS stoS l) (w + stS szS l) (u + stS (fun s => Ex.nodess s.e) l) (l.foldl (stF k) z)
  | [], _, _, _, _, _, _, _, _, h => by simpa [stS] using h
  | s :: l, hs, hk, n0, n2, n3, w, u, z, h => by
    have h1 := OfR.sts h0 (l := l) (fun x hx => hs x (by simp [hx])) (fun x hx => hk x (by simp [hx])) (h.st (hs s (by simp)) (hk s (by simp)) h0)
    simpa [stS, Nat.add_assoc] using h1
theorem cntK_ar (va : Int) : ∀ l : List Int, cntK 0 (l.map (cnAr va)) = l.length ∧ cntK 2 (l.map (cnAr va)) = 0 ∧ cntK 3 (l.map (cnAr va)) = 0
  | [] => by simp
  | a :: l => by
    obtain ⟨h1, h2, h3⟩ := cntK_ar va l
    refine ⟨?_, ?_, ?_⟩
    · rw [List.map_cons, ← List.singleton_append, cntK_app, h1, cntK_one]; simp [cnAr]; omega
    · rw [List.map_cons, ← List.singleton_append, cntK_app, h2, cntK_one]; simp [cnAr]
    · rw [List.map_cons, ← List.singleton_append, cntK_app, h3, cntK_one]; simp [cnAr]
theorem varB_iff {v : Int} : varB v = true ↔ 0 ≤ v ∧ v < 65536 := by simp [varB]
theorem OfR.ph {f : Int} {n0 n2 n3 w u : Nat} {L : List Cn} {f' : Int} (h : OfR f n0 n2 n3 w u (L, f')) {p : Ph} (hp : phB p = true) : OfR f (n0 + p.ar.length) n2 n3 (w + p.ar.length) u (phC L p, f') := by
  obtain ⟨h1, h2, h3⟩ := cntK_ar p.va p.ar
  simp only [phB, Bool.and_eq_true, varB_iff, List.all_eq_true] at hp
  refine ⟨?_, ?_, ?_, fun c hc => ?_, h.lo, h.hi, ?_⟩
  · have := h.c0; simp only at this; simp only [phC, cntK_app, this, h1]
  · have := h.c2; simp only at this; simp only [phC, cntK_app, this, h2, Nat.add_zero]
  · have := h.c3; simp only at this; simp only [phC, cntK_app, this, h3, Nat.add_zero]
  · rcases List.mem_append.1 hc with hc | hc
    · exact h.ok c hc
    · obtain ⟨a, ha, rfl⟩ := List.mem_map.1 hc
      exact ⟨by simp [cnAr], by simp [cnAr], (hp.2 a ha).1, hp.1.1⟩
  · have := h.len; simp only at this; simp only [phC, List.length_append, List.length_map]; omega
theorem OfR.phs {f : Int} {n2 n3 u : Nat} {f' : Int} : ∀ {l : List Ph}, (∀ p ∈ l, phB p = true) → ∀ {n0 w : Nat} {L : List Cn}, OfR f n0 n2 n3 w u (L, f') → OfR f (n0 + phN l) n2 n3 (w + phN l) u (l.foldl phC L, f')
  | [], _, _, _, _, h => by simpa [phN] using h
  | p :: l, hp, n0, w, L, h => by
    have h1 := OfR.phs (l := l) (fun x hx => hp x (by simp [hx])) (h.ph (hp p (by simp)))
    simpa [phN, Nat.add_assoc] using h1
theorem phsN_take (l : List (List Ph)) (i : Nat) : phsN (l.take (i + 1)) = phsN (l.take i) + phN ((l[i]?).getD []) := by
  cases h : l[i]? with
  | some x => rw [phsN, sum_take h]; rfl
  | none =>
    have hl : l.length ≤ i := by simpa using h
    rw [List.take_of_length_le (by omega), List.take_of_length_le hl]
    simp [phN]
/-- The constraints of the first blocks. -/
theorem ofI_like {k : Nat} {s : Ss} {f : Int} (h0 : 0 ≤ f) (hg : ∀ b ∈ s.g.b, ∀ x ∈ b.s, stErr x = 0) (hk : ∀ b ∈ s.g.b, ∀ x ∈ b.s, Ex.nodess x.e ≤ k) (hp : ∀ l ∈ s.ph, ∀ p ∈ l, phB p = true) : ∀ i, i ≤ s.g.b.length →
    OfR f (phsN (s.ph.take i) + blS subS (s.g.b.take i)) (blS ldS (s.g.b.take i)) (blS stoS (s.g.b.take i)) (phsN (s.ph.take i) + blS szS (s.g.b.take i)) (blS (fun x => Ex.nodess x.e) (s.g.b.take i)) (ofI k s f i)
  | 0, _ => ⟨rfl, rfl, rfl, by simp [ofI], by simp [ofI], by simp [ofI, blS], by simp [ofI]⟩
  | i + 1, hi => by
    have h := ofI_like h0 hg hk hp i (by omega)
    obtain ⟨b, hb⟩ : ∃ b, s.g.b[i]? = some b := ⟨_, List.getElem?_eq_getElem (by omega)⟩
    have hm := List.mem_of_getElem? hb
    rw [ofI, hb]
    have h2 := OfR.phs (l := (s.ph[i]?).getD []) (fun p hp' => by
      cases hx : s.ph[i]? with
      | none => rw [hx] at hp'; simp at hp'
      | some l => rw [hx] at hp'; exact hp l (List.mem_of_getElem? hx) p hp') (L := (ofI k s f i).1) (f' := (ofI k s f i).2) h
    have h3 := OfR.sts h0 (hg b hm) (hk b hm) h2
    simp only [phsN_take, blS, sum_take hb] at h3 ⊢
    refine ⟨?_, ?_, ?_, h3.ok, h3.lo, ?_, ?_⟩
    · rw [h3.c0]; omega
    · rw [h3.c2]
    · rw [h3.c3]
    · have := h3.hi; omega
    · have := h3.len; omega
end Go.Proofs.YtoeimidochjddaaGreatDoor

/- Contracts: constraint's variable, phis. -/
namespace Go.Proofs.YtoeimidochjddaaGreatDoor
open Go.RowKit
theorem cvariable_af (v : Int) : AF Tryz.prog 75 [aI .i64 v] (aB (varB v)) := by
  refine af_of Tryz.func75 rfl (by kernel_rfl) (by simp [Tryz.ntmps75]) fun _ => ?_; simp [Tryz.f75, Ex.d_eq]
  by_cases h : 0 ≤ v <;> simp [h, varB]
theorem cphis1_af (v : Int) : AF Tryz.prog 76 [aI .i64 v] (aB (!varB v)) := by
  have c := cvariable_af v
  cases h : varB v <;> rw [h] at c <;> (refine af_of Tryz.func76 rfl (by kernel_rfl) (by simp [Tryz.ntmps76]) fun _ => ?_; simp [Tryz.f76, Ex.d_eq]) <;> (refine aCall_of (c) (by simp) (by simp [Ex.d_eq]) ?_; simp [Ex.d_eq])
theorem any_not {α : Type} (p : α → Bool) (l : List α) : (l.any fun a => !p a) = !l.all p := by
  induction l with
  | nil => rfl
  | cons a l ih => simp [ih, Bool.not_and]
abbrev ssB (s : Ss) : Blk := ⟨0, true, 29, 4, [[aI .u32 s.g.ad, .d (.sl 2 (bls' s.g.b)), .d (.sl 1 (phss s.ph)), .d (.sl 1 (i64s s.og))]]⟩
abbrev phBk (p : Ph) : Blk := ⟨0, true, 73, 2, [[aI .i64 p.va, .d (.sl 1 (i64s p.ar))]]⟩
theorem cphis_af (s : Ss) (hg : s.g.b.length ≤ 1000000) (hl : s.ph.length ≤ maxLen) (hp : ∀ l ∈ s.ph, l.length ≤ maxLen) : AF Tryz.prog 32 [ssV s] (aB (phsB s)) := by
  have hgm : s.g.b.length ≤ maxLen := by unfold maxLen; omega
  obtain ⟨R, hR⟩ : ∃ R, phsB s = R := ⟨_, rfl⟩
  rw [hR]
  unfold phsB at hR
  refine af_of Tryz.func32 rfl (by kernel_rfl) (by simp [Tryz.ntmps32]) fun _ => ?_; simp [Tryz.f32, Ex.d_eq]
  by_cases h0 : s.g.b.length < s.ph.length
  · rw [decide_eq_false (by omega)] at hR
    simp at hR
    subst hR
    simp [h0]
  rw [decide_eq_true (by omega)] at hR
  simp only [Bool.true_and] at hR
  simp [h0]
  refine aLoop_st (fun i : Nat => [(1, .ptr 0 0 0 0), (16, .d (.sl 1 (phss s.ph))), (17, aI .i64 s.ph.length), (18, aI .i64 i)]) (fun _ => [ssB s])
    (fun i => i ≤ s.ph.length ∧ ((s.ph.drop i).all fun l => l.all phB) = R) (fun i => s.ph.length - i) 0 (Sub.refl _ _ _) 1 (by omega) (by simp) (by simp) ⟨by omega, by simpa using hR⟩ ?_
  rintro i ⟨hi, hx⟩ K hK
  rcases Nat.lt_or_ge i s.ph.length with hlt | hge
  case inr =>
    obtain rfl : i = s.ph.length := by omega
    simp at hx
    subst hx
    simp
  obtain ⟨l, hb⟩ : ∃ l, s.ph[i]? = some l := ⟨_, List.getElem?_eq_getElem hlt⟩
  have hb2 := (List.getElem?_eq_some_iff.1 hb).2
  have hll := hp l (List.mem_of_getElem? hb)
  rw [all_drop hb] at hx
  simp [hlt, hb, hb2]
  refine aLoop_st (fun k : Nat => [(1, .ptr 0 0 0 0), (16, .d (.sl 1 (phss s.ph))), (17, aI .i64 s.ph.length), (18, aI .i64 i), (22, .d (.sl 2 (phs l))), (23, aI .i64 l.length), (24, aI .i64 k)]) (fun _ => [ssB s])
    (fun k => k ≤ l.length ∧ (l.drop k).all phB = l.all phB) (fun k => l.length - k) 0 (Sub.refl _ _ _) 1 (by omega) (by simp) (by simp) ⟨by omega, by simp⟩ ?_
  rintro k ⟨hk, hy⟩ K2 hK2
  rcases Nat.lt_or_ge k l.length with hlt2 | hge2
  case inr =>
    obtain rfl : k = l.length := by omega
    simp at hy
    rw [show (l.all fun p => phB p) = true from by simpa using hy] at hx
    simp [succ_wrap hlt hl]
    exact hK (i + 1) ⟨by omega, by simpa using hx⟩ (by omega) (Sub.refl _ _ _) 1 (by omega) (by simp) (by simp)
  obtain ⟨p, hs⟩ : ∃ p, l[k]? = some p := ⟨_, List.getElem?_eq_getElem hlt2⟩
  have hs2 := (List.getElem?_eq_some_iff.1 hs).2
  rw [all_drop hs] at hy
  have cv := cvariable_af p.va
  have ca := fun N => (contains_in_ac (f := 76) (fs := []) (cs := []) (p := fun v => !varB v) ([ssB s, phBk p] ++ N) p.ar (by simp) fun a _ N' => (AF.ac (A := [ssB s, phBk p] ++ N ++ N') (cphis1_af a) (by simp)).mono fun r A' h => ⟨h.1, N', h.2⟩)
  simp only [any_not] at ca
  simp [hlt2, hs, hs2, Ph.d_eq]
  cases hv : varB p.va
  · rw [hv] at cv
    have hpb : phB p = false := by simp [phB, hv]
    rw [hpb, Bool.false_and] at hy
    rw [← hy, Bool.false_and] at hx
    subst hx
    refine aCall_of (cv) (by simp) (by simp [Ex.d_eq]) ?_; simp [Ex.d_eq]
  rw [hv] at cv
  have hpb : phB p = p.ar.all varB := by simp [phB, hv]
  rw [hpb] at hy
  refine aCall_of (cv) (by simp) (by simp [Ex.d_eq]) ?_; simp [Ex.d_eq]
  refine aCall_ofc (ca []) (by simp) ?_
  rintro _ _ ⟨rfl, N, rfl⟩
  cases ha : p.ar.all varB
  · rw [ha, Bool.false_and] at hy
    rw [← hy, Bool.false_and] at hx
    subst hx
    simp [ha]
  rw [ha, Bool.true_and] at hy
  simp [ha, succ_wrap hlt2 hll]
  exact hK2 (k + 1) ⟨by omega, hy⟩ (by omega) (Sub.refl _ _ _) 1 (by omega) (by simp) (by simp)
end Go.Proofs.YtoeimidochjddaaGreatDoor

/- Contract: the constraints of a graph in SSA form. -/
namespace Go.Proofs.YtoeimidochjddaaGreatDoor
open Go.RowKit
/-- The first new variable. -/
def frS (s : Ss) : Int := if seeG s.g < (s.og.length : Int) then s.og.length else seeG s.g
/-- The constraints of a graph in SSA form, or the error. -/
def ofC (k : Nat) (s : Ss) : List Cn × Int :=
  if grErr s.g = 0 then (if phsB s = true then (if 65536 < (ofI k s (frS s) s.g.b.length).2 then ([], 6) else ((ofI k s (frS s) s.g.b.length).1, 0)) else ([], 18)) else ([], grErr s.g)
/-- Sizes. -/
structure SsFit (k : Nat) (s : Ss) : Prop where
  g : GrFit s.g
  n : ∀ b ∈ s.g.b, ∀ x ∈ b.s, Ex.nodess x.e ≤ k
  k : k ≤ 1000000
  pl : s.ph.length ≤ 1000000
  pp : ∀ l ∈ s.ph, l.length ≤ 1000000
  pa : ∀ l ∈ s.ph, ∀ p ∈ l, p.ar.length ≤ 1000000
  og : s.og.length ≤ 1000000000000000000
  t : phsN s.ph + blS szS s.g.b ≤ 500000000
theorem stsErr_all : ∀ {l : List Bl}, blsErr l = 0 → ∀ b ∈ l, ∀ x ∈ b.s, stErr x = 0 := fun h b hb x hx => stsErr_mem (blsErr_mem h b hb) x hx
theorem grErr_sts {g : Gr} (h : grErr g = 0) : ∀ b ∈ g.b, ∀ x ∈ b.s, stErr x = 0 := by
  unfold grErr at h
  split at h
  · omega
  split at h
  · omega
  · exact stsErr_all h
theorem seeG_range (g : Gr) : 0 ≤ seeG g ∧ seeG g ≤ 65536 := foldl_range (f := seeB) (fun b n h0 h1 => foldl_range seeS_range b.s n h0 h1) g.b 12 (by omega) (by omega)
theorem frS_range {k : Nat} {s : Ss} (h : SsFit k s) : 0 ≤ frS s ∧ frS s ≤ 1000000000000000000 := by
  have := seeG_range s.g
  have := h.og
  unfold frS
  split <;> omega
theorem blS_le {F G : St → Nat} (h : ∀ x, F x ≤ G x) (l : List Bl) : blS F l ≤ blS G l := by
  induction l with
  | nil => simp [blS]
  | cons b l ih =>
    simp only [blS, List.map_cons, List.sum_cons] at ih ⊢
    have : stS F b.s ≤ stS G b.s := by
      generalize b.s = m
      induction m with
      | nil => simp [stS]
      | cons x m ih2 =>
        simp only [stS, List.map_cons, List.sum_cons] at ih2 ⊢
        have := h x
        omega
    omega
theorem foldl_tk {α β : Type} {f : β → α → β} {l : List α} {i : Nat} {x : α} (h : l[i]? = some x) (z : β) : (l.take (i + 1)).foldl f z = f ((l.take i).foldl f z) x := by
  rw [List.take_add_one, h]
  simp
theorem map_take {l : List Int} {i : Nat} {x : Int} (va : Int) (h : l[i]? = some x) : (l.take (i + 1)).map (cnAr va) = (l.take i).map (cnAr va) ++ [cnAr va x] := by
  rw [List.take_add_one, h]
  simp
theorem phC_len (l : List Ph) : ∀ L : List Cn, (l.foldl phC L).length = L.length + phN l := by
  induction l with
  | nil => intro L; simp [phN]
  | cons p l ih =>
    intro L
    rw [List.foldl_cons, ih]
    simp [phC, phN]
    omega
/-- What is known in block i. -/
structure OfB (k : Nat) (s : Ss) (i : Nat) (b : Bl) (L0 : List Cn) (f0 : Int) : Prop where
  e : ofI k s (frS s) i = (L0, f0)
  l0 : L0.length + phN ((s.ph[i]?).getD []) + stS szS b.s ≤ 500000000
  f1 : 0 ≤ f0
  f2 : f0 ≤ 2000000000000000000
theorem ofB_of {k : Nat} {s : Ss} {i : Nat} {b : Bl} (hf : SsFit k s) (hg : grErr s.g = 0) (hp : phsB s = true) (hb : s.g.b[i]? = some b) : OfB k s i b (ofI k s (frS s) i).1 (ofI k s (frS s) i).2 := by
  obtain ⟨h0, h1⟩ := frS_range hf
  simp only [phsB, Bool.and_eq_true, List.all_eq_true] at hp
  have r := ofI_like (f := frS s) h0 (grErr_sts hg) hf.n (fun l hl p hp' => hp.2 l hl p hp') i (by have := (List.getElem?_eq_some_iff.1 hb).1; omega)
  have t1 : phsN (s.ph.take i) + phN ((s.ph[i]?).getD []) ≤ phsN s.ph := by
    rw [← phsN_take]
    exact sum_take_le _ _ _
  have t2 : blS szS (s.g.b.take i) + stS szS b.s ≤ blS szS s.g.b := by
    have h := sum_take (F := fun b => stS szS b.s) hb
    have h2 := sum_take_le (fun b : Bl => stS szS b.s) s.g.b (i + 1)
    simp only [blS]
    omega
  have t3 : blS (fun x => Ex.nodess x.e) (s.g.b.take i) ≤ blS szS (s.g.b.take i) := blS_le (fun x => by simp only [szS]; omega) _
  have := hf.t
  have hlen := r.len
  have hlo := r.lo
  have hhi := r.hi
  exact ⟨rfl, by omega, by omega, by omega⟩
/-- What is known before statement q. -/
theorem ofS_of {k : Nat} {s : Ss} {i : Nat} {b : Bl} {L0 : List Cn} {f0 : Int} (hB : OfB k s i b L0 f0) (hf : SsFit k s) (hg : grErr s.g = 0) (hm : b ∈ s.g.b) (q : Nat) {x : St} (hx : b.s[q]? = some x) :
    let z := (b.s.take q).foldl (stF k) (((s.ph[i]?).getD []).foldl phC L0, f0)
    0 ≤ z.2 ∧ z.2 + Ex.nodess x.e ≤ 4000000000000000000 ∧ z.1.length + 2 * Ex.nodess x.e + 1 ≤ 1000000000 := by
  have h1 : OfR f0 (cntK 0 (((s.ph[i]?).getD []).foldl phC L0)) (cntK 2 (((s.ph[i]?).getD []).foldl phC L0)) (cntK 3 (((s.ph[i]?).getD []).foldl phC L0)) (((s.ph[i]?).getD []).foldl phC L0).length 0 (((s.ph[i]?).getD []).foldl phC L0, f0) → True := fun _ => trivial
  clear h1
  have hlen : ∀ q, ((b.s.take q).foldl (stF k) (((s.ph[i]?).getD []).foldl phC L0, f0)).1.length ≤ (((s.ph[i]?).getD []).foldl phC L0).length + stS szS (b.s.take q) ∧ f0 ≤ ((b.s.take q).foldl (stF k) (((s.ph[i]?).getD []).foldl phC L0, f0)).2 ∧
      ((b.s.take q).foldl (stF k) (((s.ph[i]?).getD []).foldl phC L0, f0)).2 ≤ f0 + stS szS (b.s.take q) := by
    intro q
    induction q with
    | zero => simp [stS]
    | succ q ih =>
      cases hq : b.s[q]? with
      | none =>
        have hl : b.s.length ≤ q := by simpa using hq
        rw [List.take_of_length_le hl] at ih
        rw [List.take_of_length_le (by omega)]
        exact ih
      | some y =>
        have hy := List.mem_of_getElem? hq
        rw [foldl_tk hq, stS, sum_take hq]
        have hsl := cnS_like (grErr_sts hg b hm y hy) (hf.n b hm y hy) (f := ((b.s.take q).foldl (stF k) (((s.ph[i]?).getD []).foldl phC L0, f0)).2) (by have := hB.f1; omega)
        have a1 := hsl.len
        have a2 := hsl.lo
        have a3 := hsl.hi
        simp only [stF, List.length_append]
        simp only [stS] at ih
        have : Ex.nodess y.e ≤ szS y := by simp only [szS]; omega
        omega
  obtain ⟨a1, a2, a3⟩ := hlen q
  have h1 := hB.l0
  have h2 := hB.f1
  have h3 := hB.f2
  have h4 := phC_len ((s.ph[i]?).getD []) L0
  have h5 : stS szS (b.s.take q) + szS x ≤ stS szS b.s := by
    have h := sum_take (F := szS) hx
    have h2 := sum_take_le szS b.s (q + 1)
    simp only [stS]
    omega
  have h6 : szS x = 2 * Ex.nodess x.e + 1 := rfl
  intro z
  refine ⟨?_, ?_, ?_⟩ <;> simp only [z] <;> omega
theorem ofI_next {k : Nat} {s : Ss} {i : Nat} {b : Bl} {L0 : List Cn} {f0 : Int} (hB : OfB k s i b L0 f0) (hb : s.g.b[i]? = some b) : ofI k s (frS s) (i + 1) = b.s.foldl (stF k) (((s.ph[i]?).getD []).foldl phC L0, f0) := by
  rw [ofI, hb, hB.e]
set_option maxHeartbeats 0 in
theorem cOf_af (k : Nat) (s : Ss) (hf : SsFit k s) : AF Tryz.prog 9 [ssV s] (.tup [.d (.sl 10 (cns (ofC k s).1)), aI .i64 (ofC k s).2]) := by
  have hgl := hf.g.1
  have hlm : s.g.b.length ≤ maxLen := by unfold maxLen; omega
  have hpl := hf.pl
  have hol := hf.og
  have c1 := ilcheckg_af s.g hf.g
  have c2 := cphis_af s hf.g.1 (by unfold maxLen; omega) fun l hl => by have := hf.pp l hl; unfold maxLen; omega
  have c3 := ilfresh_af s.g hf.g fun b hb x hx e he => by have := hf.n b hb x hx; have := hf.k; have := Ex.nodess_mem he; omega
  obtain ⟨R, hR⟩ : ∃ R, ofC k s = R := ⟨_, rfl⟩
  rw [hR]
  unfold ofC at hR
  by_cases h0 : grErr s.g = 0
  case neg =>
    rw [if_neg h0] at hR
    subst hR
    refine af_of Tryz.func9 rfl (by kernel_rfl) (by simp [Tryz.ntmps9]) fun _ => ?_; simp [Tryz.f9, Ex.d_eq]
    refine aCall_of (c1) (by simp) (by simp [Ex.d_eq]) ?_; simp [Ex.d_eq]
    simp [h0]
  rw [if_pos h0] at hR
  rw [h0] at c1
  by_cases hp : phsB s = true
  case neg =>
    rw [if_neg hp] at hR
    subst hR
    rw [show phsB s = false by simpa using hp] at c2
    refine af_of Tryz.func9 rfl (by kernel_rfl) (by simp [Tryz.ntmps9]) fun _ => ?_; simp [Tryz.f9, Ex.d_eq]
    refine aCall_of (c1) (by simp) (by simp [Ex.d_eq]) ?_; simp [Ex.d_eq]
    refine aCall_of (c2) (by simp) (by simp [Ex.d_eq]) ?_; simp [Ex.d_eq]
  rw [if_pos hp] at hR
  rw [hp] at c2
  obtain ⟨F, hF⟩ : ∃ F, frS s = F := ⟨_, rfl⟩
  have hF0 : ofI k s F 0 = ([], F) := rfl
  refine af_of Tryz.func9 rfl (by kernel_rfl) (by simp [Tryz.ntmps9]) fun _ => ?_; simp [Tryz.f9, Ex.d_eq]
  refine aCall_of (c1) (by simp) (by simp [Ex.d_eq]) ?_; simp [Ex.d_eq]
  refine aCall_of (c2) (by simp) (by simp [Ex.d_eq]) ?_; simp [Ex.d_eq]
  refine adraw2 6 [] (by kernel_rfl) (by kernel_rfl) (by kernel_rfl) (by kernel_rfl) (by kernel_rfl) ?_
  simp
  refine adC_of c3 (by simp) trivial (by simp) (by simp) ?_
  simp
  refine aRaw_max (k := .i64) (k' := .i64) (a := seeG s.g) (b := s.og.length) (by simp) (by simp) ?_
  simp only [show (if seeG s.g < (s.og.length : Int) then (s.og.length : Int) else seeG s.g) = F from hF]
  simp
  refine aLoop_st (fun i : Nat => [(1, .ptr 0 0 0 0), (5, .ptr 1 0 0 0), (34, .d (.sl 2 (bls' s.g.b))), (35, aI .i64 s.g.b.length), (36, aI .i64 i)]) (fun i => [ssB s, bdC (ofI k s F i).1.length (ofI k s F i).2, arC (ofI k s F i).1])
    (fun i => i ≤ s.g.b.length) (fun i => s.g.b.length - i) 0 (Sub.trans (Sub.ghost 0 88 10) (Sub.cell (b := 1) (i := 0) (o := 0) (c' := .own 2 0 0 0) rfl rfl rfl (VLe.nil_own (k := ⟨0, true, 88, 10, []⟩) rfl rfl))) 3 (by omega) (by simp [hF0, setEls]; try rfl) (by simp) (by omega) ?_
  rintro i hi K hK
  rcases Nat.lt_or_ge i s.g.b.length with hlt | hge
  case inr =>
    obtain rfl : i = s.g.b.length := by omega
    rw [hF] at hR
    obtain ⟨⟨L, f⟩, hz⟩ : ∃ z, ofI k s F s.g.b.length = z := ⟨_, rfl⟩
    rw [hz] at hR
    simp only [hz]
    simp only at hR
    by_cases h6 : 65536 < f
    · rw [if_pos h6] at hR
      subst hR
      simp [h6]
    · rw [if_neg h6] at hR
      subst hR
      simp [h6]
      try (refine adraw [] (by kernel_rfl) (by kernel_rfl) (by kernel_rfl) (by kernel_rfl) ?_; simp [Ex.d_eq])
      try simp
  obtain ⟨b, hb⟩ : ∃ b, s.g.b[i]? = some b := ⟨_, List.getElem?_eq_getElem hlt⟩
  have hb2 := (List.getElem?_eq_some_iff.1 hb).2
  have hmb := List.mem_of_getElem? hb
  have hbm : b.s.length ≤ maxLen := by have := (hf.g.2 b hmb).1; unfold maxLen; omega
  have hB := ofB_of hf h0 hp hb
  have hnext := ofI_next hB hb
  rw [hF] at hB hnext
  obtain ⟨⟨L0, f0⟩, hz⟩ : ∃ z, ofI k s F i = z := ⟨_, rfl⟩
  rw [hz] at hB hnext
  simp only at hB hnext
  simp only [hz]
  have hl0 := hB.l0
  by_cases hip : i < s.ph.length
  · obtain ⟨l, hl⟩ : ∃ l, s.ph[i]? = some l := ⟨_, List.getElem?_eq_getElem hip⟩
    have hl2 := (List.getElem?_eq_some_iff.1 hl).2
    have hml := List.mem_of_getElem? hl
    have hlx : l.length ≤ maxLen := by have := hf.pp l hml; unfold maxLen; omega
    rw [hl] at hl0
    simp only [Option.getD_some] at hl0
    simp [hlt, hb, hb2, Bl.d_eq, hip, hl, hl2]
    refine aLoop_st (fun a : Nat => [(1, .ptr 0 0 0 0), (5, .ptr 1 0 0 0), (34, .d (.sl 2 (bls' s.g.b))), (35, aI .i64 s.g.b.length), (36, aI .i64 i), (6, aI .i64 i), (7, .ptr 3 0 0 0), (50, .d (.sl 2 (phs l))), (51, aI .i64 l.length), (52, aI .i64 a)]) (fun a => [ssB s, bdC ((l.take a).foldl phC L0).length f0, arC ((l.take a).foldl phC L0), bB b])
      (fun a => a ≤ l.length) (fun a => l.length - a) 0 (Sub.refl _ _ _) 4 (by omega) (by simp) (by simp) (by omega) ?_
    rintro a ha K1 hK1
    rcases Nat.lt_or_ge a l.length with hlt1 | hge1
    case inl =>
      obtain ⟨p, hpp⟩ : ∃ p, l[a]? = some p := ⟨_, List.getElem?_eq_getElem hlt1⟩
      have hpp2 := (List.getElem?_eq_some_iff.1 hpp).2
      have htp := foldl_tk (f := phC) hpp L0
      have hpl := sum_take_le (fun p : Ph => p.ar.length) l (a + 1)
      rw [sum_take hpp] at hpl
      have hlen := phC_len (l.take a) L0
      have hpm := hf.pa l hml p (List.mem_of_getElem? hpp)
      have hpx : p.ar.length ≤ maxLen := by unfold maxLen; omega
      obtain ⟨M, hM⟩ : ∃ M, (l.take a).foldl phC L0 = M := ⟨_, rfl⟩
      rw [hM] at htp hlen
      simp only [hM]
      simp only [phN] at hlen hl0
      simp [hlt1, hpp, hpp2, Ph.d_eq]
      refine aLoop_st (fun c : Nat => [(1, .ptr 0 0 0 0), (5, .ptr 1 0 0 0), (34, .d (.sl 2 (bls' s.g.b))), (35, aI .i64 s.g.b.length), (36, aI .i64 i), (6, aI .i64 i), (7, .ptr 3 0 0 0), (50, .d (.sl 2 (phs l))), (51, aI .i64 l.length), (52, aI .i64 a), (9, .ptr 4 0 0 0), (57, .d (.sl 1 (i64s p.ar))), (58, aI .i64 p.ar.length), (59, aI .i64 c)]) (fun c => [ssB s, bdC (M ++ (p.ar.take c).map (cnAr p.va)).length f0, arC (M ++ (p.ar.take c).map (cnAr p.va)), bB b, phBk p])
        (fun c => c ≤ p.ar.length) (fun c => p.ar.length - c) 0 (Sub.refl _ _ _) 5 (by omega) (by simp) (by simp) (by omega) ?_
      rintro c hc K3 hK3
      rcases Nat.lt_or_ge c p.ar.length with hlt3 | hge3
      case inr =>
        obtain rfl : c = p.ar.length := by omega
        rw [List.take_length]
        simp [succ_wrap hlt1 hlx]
        refine hK1 (a + 1) (by omega) (by omega) (Sub.refl _ _ _) 4 (by omega) ?_ (by simp)
        rw [htp]
        simp [phC]
      obtain ⟨v, hv⟩ : ∃ v, p.ar[c]? = some v := ⟨_, List.getElem?_eq_getElem hlt3⟩
      have hv2 := (List.getElem?_eq_some_iff.1 hv).2
      have htv := map_take p.va hv
      have hmin : (p.ar.take c).length ≤ p.ar.length := by simp; omega
      obtain ⟨Y, hY⟩ : ∃ Y, M ++ (p.ar.take c).map (cnAr p.va) = Y := ⟨_, rfl⟩
      have hYl : Y.length ≤ 1000000000 := by
        rw [← hY, List.length_append, List.length_map]
        omega
      have hY2 : M ++ (p.ar.take (c + 1)).map (cnAr p.va) = Y ++ [cnAr p.va v] := by rw [htv, ← hY]; simp
      simp only [hY]
      have cp := fun N => cput_ac (ssB s) Y f0 N 0 v p.va 0 0 hYl
      simp [hlt3, hv, hv2]
      refine aCall_ofc (cp _) (by simp) ?_
      rintro _ _ ⟨rfl, N1, rfl⟩
      simp [succ_wrap hlt3 hpx]
      refine hK3 (c + 1) (by omega) (by omega) (Sub.refl _ _ _) 5 (by omega) ?_ (by simp)
      rw [hY2]
      simp [cnAr]
    obtain rfl : a = l.length := by omega
    rw [List.take_length]
    obtain ⟨L1, hL1⟩ : ∃ L1, ((s.ph[i]?).getD []).foldl phC L0 = L1 := ⟨_, rfl⟩
    have L1e : l.foldl phC L0 = L1 := by rw [← hL1, hl]; rfl
    rw [hL1] at hnext
    simp only [L1e]
    simp
    refine aLoop_st (fun q : Nat => [(1, .ptr 0 0 0 0), (5, .ptr 1 0 0 0), (34, .d (.sl 2 (bls' s.g.b))), (35, aI .i64 s.g.b.length), (36, aI .i64 i), (7, .ptr 3 0 0 0), (72, .d (.sl 8 (sts b.s))), (73, aI .i64 b.s.length), (74, aI .i64 q)]) (fun q => [ssB s, bdC ((b.s.take q).foldl (stF k) (L1, f0)).1.length ((b.s.take q).foldl (stF k) (L1, f0)).2, arC ((b.s.take q).foldl (stF k) (L1, f0)).1, bB b])
      (fun q => q ≤ b.s.length) (fun q => b.s.length - q) 0 (Sub.refl _ _ _) 4 (by omega) (by simp [L1e]) (by simp) (by omega) ?_
    rintro q hq K2 hK2
    rcases Nat.lt_or_ge q b.s.length with hlt2 | hge2
    case inr =>
      obtain rfl : q = b.s.length := by omega
      rw [List.take_length]
      simp [succ_wrap hlt hlm]
      refine hK (i + 1) (by omega) (by omega) (Sub.refl _ _ _) 3 (by omega) ?_ (by simp)
      rw [hnext]
      simp
    obtain ⟨x, hx⟩ : ∃ x, b.s[q]? = some x := ⟨_, List.getElem?_eq_getElem hlt2⟩
    have hx2 := (List.getElem?_eq_some_iff.1 hx).2
    have hmx := List.mem_of_getElem? hx
    obtain ⟨z1, z2, z3⟩ := ofS_of hB hf h0 hmb q hx
    have hts := foldl_tk (f := stF k) hx (L1, f0)
    rw [hL1] at z1 z2 z3
    obtain ⟨⟨L2, f2⟩, hz⟩ : ∃ z, (b.s.take q).foldl (stF k) (L1, f0) = z := ⟨_, rfl⟩
    rw [hz] at z1 z2 z3 hts
    simp only at z1 z2 z3
    have cs := fun N => cstmt_ac k x (ssB s) L2 f2 N (grErr_sts h0 b hmb x hmx) (hf.n b hmb x hmx) z1 z2 z3
    simp only [hz]
    simp [hlt2, hx, hx2, St.d_eq]
    refine aCall_ofc (cs _) (by simp) ?_
    rintro _ _ ⟨rfl, N2, rfl⟩
    simp [succ_wrap hlt2 hbm]
    refine hK2 (q + 1) (by omega) (by omega) (Sub.refl _ _ _) 4 (by omega) ?_ (by simp)
    rw [hts]
    simp [stF]
  · have hl : s.ph[i]? = none := by simp; omega
    obtain ⟨L1, hL1⟩ : ∃ L1, ((s.ph[i]?).getD []).foldl phC L0 = L1 := ⟨_, rfl⟩
    have L1e : L0 = L1 := by rw [← hL1, hl]; rfl
    rw [hL1] at hnext
    simp [hlt, hb, hb2, Bl.d_eq, hip]
    simp only [L1e]
    refine aLoop_st (fun q : Nat => [(1, .ptr 0 0 0 0), (5, .ptr 1 0 0 0), (34, .d (.sl 2 (bls' s.g.b))), (35, aI .i64 s.g.b.length), (36, aI .i64 i), (7, .ptr 3 0 0 0), (72, .d (.sl 8 (sts b.s))), (73, aI .i64 b.s.length), (74, aI .i64 q)]) (fun q => [ssB s, bdC ((b.s.take q).foldl (stF k) (L1, f0)).1.length ((b.s.take q).foldl (stF k) (L1, f0)).2, arC ((b.s.take q).foldl (stF k) (L1, f0)).1, bB b])
      (fun q => q ≤ b.s.length) (fun q => b.s.length - q) 0 (Sub.refl _ _ _) 4 (by omega) (by simp [L1e]) (by simp) (by omega) ?_
    rintro q hq K2 hK2
    rcases Nat.lt_or_ge q b.s.length with hlt2 | hge2
    case inr =>
      obtain rfl : q = b.s.length := by omega
      rw [List.take_length]
      simp [succ_wrap hlt hlm]
      refine hK (i + 1) (by omega) (by omega) (Sub.refl _ _ _) 3 (by omega) ?_ (by simp)
      rw [hnext]
      simp
    obtain ⟨x, hx⟩ : ∃ x, b.s[q]? = some x := ⟨_, List.getElem?_eq_getElem hlt2⟩
    have hx2 := (List.getElem?_eq_some_iff.1 hx).2
    have hmx := List.mem_of_getElem? hx
    obtain ⟨z1, z2, z3⟩ := ofS_of hB hf h0 hmb q hx
    have hts := foldl_tk (f := stF k) hx (L1, f0)
    rw [hL1] at z1 z2 z3
    obtain ⟨⟨L2, f2⟩, hz⟩ : ∃ z, (b.s.take q).foldl (stF k) (L1, f0) = z := ⟨_, rfl⟩
    rw [hz] at z1 z2 z3 hts
    simp only at z1 z2 z3
    have cs := fun N => cstmt_ac k x (ssB s) L2 f2 N (grErr_sts h0 b hmb x hmx) (hf.n b hmb x hmx) z1 z2 z3
    simp only [hz]
    simp [hlt2, hx, hx2, St.d_eq]
    refine aCall_ofc (cs _) (by simp) ?_
    rintro _ _ ⟨rfl, N2, rfl⟩
    simp [succ_wrap hlt2 hbm]
    refine hK2 (q + 1) (by omega) (by omega) (Sub.refl _ _ _) 4 (by omega) ?_ (by simp)
    rw [hts]
    simp [stF]
end Go.Proofs.YtoeimidochjddaaGreatDoor

/- Contract: the constraints of a graph in SSA form, by the reference (printed by gen_us.py). -/
namespace Go.Proofs.YtoeimidochjddaaGreatDoor
open Go.RowKit
/-- What the reference keeps while it looks at a phi function's arguments. -/
def badI (p : Ph) (q : Nat) : Bool := !varB p.va || (p.ar.take q).any fun a => !varB a
theorem badI_end (p : Ph) : badI p p.ar.length = !phB p := by
  rw [badI, List.take_length, any_not, phB, Bool.not_and]
theorem badI_next {p : Ph} {q : Nat} {v : Int} (h : p.ar[q]? = some v) : badI p (q + 1) = (badI p q || !varB v) := by
  rw [badI, badI, List.take_add_one, h]
  simp [Bool.or_assoc]
set_option maxHeartbeats 0 in
theorem q32Of_af (k : Nat) (s : Ss) (hf : SsFit k s) : AF Tryz.prog 10 [ssV s] (.tup [.d (.sl 10 (cns (ofC k s).1)), aI .i64 (ofC k s).2]) := by
  have hgl := hf.g.1
  have hlm : s.g.b.length ≤ maxLen := by unfold maxLen; omega
  have hpl := hf.pl
  have hpm : s.ph.length ≤ maxLen := by unfold maxLen; omega
  have hol := hf.og
  have c1 := r19checkg_af s.g hf.g
  have c3 := r19fresh_af s.g hf.g fun b hb x hx e he => by have := hf.n b hb x hx; have := hf.k; have := Ex.nodess_mem he; omega
  obtain ⟨R, hR⟩ : ∃ R, ofC k s = R := ⟨_, rfl⟩
  rw [hR]
  unfold ofC at hR
  by_cases h0 : grErr s.g = 0
  case neg =>
    rw [if_neg h0] at hR
    subst hR
    refine af_of Tryz.func10 rfl (by kernel_rfl) (by simp [Tryz.ntmps10]) fun _ => ?_; simp [Tryz.f10, Ex.d_eq]
    refine aCall_of (c1) (by simp) (by simp [Ex.d_eq]) ?_; simp [Ex.d_eq]
    simp [h0]
  rw [if_pos h0] at hR
  rw [h0] at c1
  by_cases hlen : s.g.b.length < s.ph.length
  · have hp : phsB s = false := by simp [phsB]; intro h; omega
    rw [if_neg (by rw [hp]; simp)] at hR
    subst hR
    refine af_of Tryz.func10 rfl (by kernel_rfl) (by simp [Tryz.ntmps10]) fun _ => ?_; simp [Tryz.f10, Ex.d_eq]
    refine aCall_of (c1) (by simp) (by simp [Ex.d_eq]) ?_; simp [Ex.d_eq]
    simp [hlen]
  have hpe : phsB s = s.ph.all fun l => l.all phB := by simp [phsB]; omega
  rw [hpe] at hR
  refine af_of Tryz.func10 rfl (by kernel_rfl) (by simp [Tryz.ntmps10]) fun _ => ?_; simp [Tryz.f10, Ex.d_eq]
  refine aCall_of (c1) (by simp) (by simp [Ex.d_eq]) ?_; simp [Ex.d_eq]
  simp [hlen]
  refine aLoop_st (fun i : Nat => [(1, .ptr 0 0 0 0), (5, aI .i64 i)]) (fun _ => [ssB s])
    (fun i => i ≤ s.ph.length ∧ ((s.ph.drop i).all fun l => l.all phB) = s.ph.all fun l => l.all phB) (fun i => s.ph.length - i) 0 (Sub.refl _ _ _) 1 (by omega) (by simp) (by simp) ⟨by omega, by simp⟩ ?_
  rintro i ⟨hi, hx⟩ K hK
  rcases Nat.lt_or_ge i s.ph.length with hlt | hge
  case inl =>
    obtain ⟨l, hb⟩ : ∃ l, s.ph[i]? = some l := ⟨_, List.getElem?_eq_getElem hlt⟩
    have hb2 := (List.getElem?_eq_some_iff.1 hb).2
    have hll : l.length ≤ maxLen := by have := hf.pp l (List.mem_of_getElem? hb); unfold maxLen; omega
    rw [all_drop hb] at hx
    simp [hlt]
    refine aLoop_st (fun a : Nat => [(1, .ptr 0 0 0 0), (5, aI .i64 i), (6, aI .i64 a)]) (fun _ => [ssB s])
      (fun a => a ≤ l.length ∧ (l.drop a).all phB = l.all phB) (fun a => l.length - a) 0 (Sub.refl _ _ _) 1 (by omega) (by simp) (by simp) ⟨by omega, by simp⟩ ?_
    rintro a ⟨ha, hy⟩ K1 hK1
    rcases Nat.lt_or_ge a l.length with hlt1 | hge1
    case inr =>
      obtain rfl : a = l.length := by omega
      rw [List.drop_length] at hy
      rw [show l.all phB = true from hy.symm] at hx
      simp [hlt, hb, hb2, succ_wrap hlt hpm]
      exact hK (i + 1) ⟨by omega, by simpa using hx⟩ (by omega) (Sub.refl _ _ _) 1 (by omega) (by simp) (by simp)
    obtain ⟨p, hp⟩ : ∃ p, l[a]? = some p := ⟨_, List.getElem?_eq_getElem hlt1⟩
    have hp2 := (List.getElem?_eq_some_iff.1 hp).2
    have hpa : p.ar.length ≤ maxLen := by have := hf.pa l (List.mem_of_getElem? hb) p (List.mem_of_getElem? hp); unfold maxLen; omega
    rw [all_drop hp] at hy
    have hv0 : (if p.va < 0 then true else decide (65536 ≤ p.va)) = badI p 0 := by
      rw [Bool.eq_iff_iff]
      unfold badI varB
      by_cases h : p.va < 0 <;> simp [h] <;> omega
    obtain ⟨B0, hB0⟩ : ∃ B0, badI p 0 = B0 := ⟨_, rfl⟩
    rw [hB0] at hv0
    have hc0 : (p.va < 0 → B0 = true) ∧ (¬ p.va < 0 → B0 = decide (65536 ≤ p.va)) := by
      refine ⟨fun h => ?_, fun h => ?_⟩
      · rw [if_pos h] at hv0; exact hv0.symm
      · rw [if_neg h] at hv0; exact hv0.symm
    have loop : ∀ (x : Bool), x = B0 → True := fun _ _ => trivial
    clear loop
    by_cases hneg : p.va < 0
    all_goals
      first | (have hb0 := hc0.1 hneg) | (have hb0 := hc0.2 hneg)
      simp [hlt, hb, hb2, hlt1, hp, hp2, Ph.d_eq, hneg]
      refine aLoop_st (fun q : Nat => [(1, .ptr 0 0 0 0), (5, aI .i64 i), (6, aI .i64 a), (7, .ptr 1 0 0 0), (8, aB (badI p q)), (9, aI .i64 q)]) (fun _ => [ssB s, phBk p])
        (fun q => q ≤ p.ar.length) (fun q => p.ar.length - q) 0 (Sub.refl _ _ _) 2 (by omega) (by simp) (by simp [hB0, hb0]) (by omega) ?_
      rintro q hq K2 hK2
      rcases Nat.lt_or_ge q p.ar.length with hlt2 | hge2
      case inl =>
        obtain ⟨v, hv⟩ : ∃ v, p.ar[q]? = some v := ⟨_, List.getElem?_eq_getElem hlt2⟩
        have hv2 := (List.getElem?_eq_some_iff.1 hv).2
        have hnx := badI_next hv
        cases hbq : badI p q
        · rw [hbq] at hnx
          simp only [Bool.false_or] at hnx
          by_cases hv0 : v < 0
          · have hvb : varB v = false := by simp [varB]; intro h; omega
            rw [hvb] at hnx
            simp [hlt2, hv, hv2, hv0, succ_wrap hlt2 hpa]
            exact hK2 (q + 1) (by omega) (by omega) (Sub.refl _ _ _) 2 (by omega) (by simp) (by simp [hnx])
          · have hvb : (!varB v) = decide (65536 ≤ v) := by rw [Bool.eq_iff_iff]; simp [varB]; omega
            rw [hvb] at hnx
            simp [hlt2, hv, hv2, hv0, succ_wrap hlt2 hpa]
            exact hK2 (q + 1) (by omega) (by omega) (Sub.refl _ _ _) 2 (by omega) (by simp) (by simp [hnx])
        · rw [hbq] at hnx
          simp only [Bool.true_or] at hnx
          simp [hlt2, hv, hv2, succ_wrap hlt2 hpa]
          exact hK2 (q + 1) (by omega) (by omega) (Sub.refl _ _ _) 2 (by omega) (by simp) (by simp [hnx])
      obtain rfl : q = p.ar.length := by omega
      rw [badI_end]
      cases hpb : phB p
      · rw [hpb, Bool.false_and] at hy
        rw [← hy, Bool.false_and] at hx
        rw [← hx] at hR
        simp at hR
        subst hR
        simp
      · rw [hpb, Bool.true_and] at hy
        simp [succ_wrap hlt1 hll]
        exact hK1 (a + 1) ⟨by omega, hy⟩ (by omega) (Sub.refl _ _ _) 1 (by omega) (by simp) (by simp)
  obtain rfl : i = s.ph.length := by omega
  rw [List.drop_length] at hx
  have hall : (s.ph.all fun l => l.all phB) = true := hx.symm
  have hp : phsB s = true := by rw [hpe]; exact hall
  rw [hall, if_pos rfl] at hR
  obtain ⟨F, hF⟩ : ∃ F, frS s = F := ⟨_, rfl⟩
  have hF0 : ofI k s F 0 = ([], F) := rfl
  have hseg := seeG_range s.g
  simp
  refine aCall_of (c3) (by simp) (by simp [Ex.d_eq]) ?_; simp [Ex.d_eq]
  by_cases hfr : seeG s.g < (s.og.length : Int)
  all_goals
    first | (have hF2 : F = s.og.length := by rw [← hF, frS, if_pos hfr]) | (have hF2 : F = seeG s.g := by rw [← hF, frS, if_neg hfr])
    refine adraw [] (by kernel_rfl) (by kernel_rfl) (by kernel_rfl) (by kernel_rfl) ?_; simp [Ex.d_eq]
    simp [hfr]
    refine aLoop_st (fun i : Nat => [(1, .ptr 0 0 0 0), (10, .ptr 1 0 0 0), (11, aI .i64 i)]) (fun i => [ssB s, bdQ (ofI k s F i).1.length (ofI k s F i).2, arQ (ofI k s F i).1])
      (fun i => i ≤ s.g.b.length) (fun i => s.g.b.length - i) 0 (Sub.trans (Sub.ghost 0 102 10) (Sub.cell (b := 1) (i := 0) (o := 0) (c' := .own 2 0 0 0) rfl rfl rfl (VLe.nil_own (k := ⟨0, true, 102, 10, []⟩) rfl rfl))) 3 (by omega) (by simp [← hF2, hF0, setEls]; try rfl) (by simp) (by omega) ?_
    clear hK
    rintro i hi K hK
    rcases Nat.lt_or_ge i s.g.b.length with hlt | hge
    case inr =>
      obtain rfl : i = s.g.b.length := by omega
      rw [hF] at hR
      obtain ⟨⟨L, f⟩, hz⟩ : ∃ z, ofI k s F s.g.b.length = z := ⟨_, rfl⟩
      rw [hz] at hR
      simp only [hz]
      simp only at hR
      by_cases h6 : 65536 < f
      · rw [if_pos h6] at hR
        subst hR
        simp [h6]
      · rw [if_neg h6] at hR
        subst hR
        simp [h6]
        try (refine adraw [] (by kernel_rfl) (by kernel_rfl) (by kernel_rfl) (by kernel_rfl) ?_; simp [Ex.d_eq])
        try simp
    obtain ⟨b, hb⟩ : ∃ b, s.g.b[i]? = some b := ⟨_, List.getElem?_eq_getElem hlt⟩
    have hb2 := (List.getElem?_eq_some_iff.1 hb).2
    have hmb := List.mem_of_getElem? hb
    have hbm : b.s.length ≤ maxLen := by have := (hf.g.2 b hmb).1; unfold maxLen; omega
    have hB := ofB_of hf h0 hp hb
    have hnext := ofI_next hB hb
    rw [hF] at hB hnext
    obtain ⟨⟨L0, f0⟩, hz⟩ : ∃ z, ofI k s F i = z := ⟨_, rfl⟩
    rw [hz] at hB hnext
    simp only at hB hnext
    simp only [hz]
    have hl0 := hB.l0
    by_cases hip : i < s.ph.length
    · obtain ⟨l, hl⟩ : ∃ l, s.ph[i]? = some l := ⟨_, List.getElem?_eq_getElem hip⟩
      have hl2 := (List.getElem?_eq_some_iff.1 hl).2
      have hml := List.mem_of_getElem? hl
      have hlx : l.length ≤ maxLen := by have := hf.pp l hml; unfold maxLen; omega
      rw [hl] at hl0
      simp only [Option.getD_some] at hl0
      simp [hlt]
      refine aLoop_st (fun a : Nat => [(1, .ptr 0 0 0 0), (10, .ptr 1 0 0 0), (11, aI .i64 i), (12, aI .i64 a)]) (fun a => [ssB s, bdQ ((l.take a).foldl phC L0).length f0, arQ ((l.take a).foldl phC L0)])
        (fun a => a ≤ l.length) (fun a => l.length - a) 0 (Sub.refl _ _ _) 3 (by omega) (by simp) (by simp) (by omega) ?_
      rintro a ha K1 hK1
      rcases Nat.lt_or_ge a l.length with hlt1 | hge1
      case inl =>
        obtain ⟨p, hpp⟩ : ∃ p, l[a]? = some p := ⟨_, List.getElem?_eq_getElem hlt1⟩
        have hpp2 := (List.getElem?_eq_some_iff.1 hpp).2
        have htp := foldl_tk (f := phC) hpp L0
        have hpl := sum_take_le (fun p : Ph => p.ar.length) l (a + 1)
        rw [sum_take hpp] at hpl
        have hlen := phC_len (l.take a) L0
        have hpm := hf.pa l hml p (List.mem_of_getElem? hpp)
        have hpx : p.ar.length ≤ maxLen := by unfold maxLen; omega
        obtain ⟨M, hM⟩ : ∃ M, (l.take a).foldl phC L0 = M := ⟨_, rfl⟩
        rw [hM] at htp hlen
        simp only [hM]
        simp only [phN] at hlen hl0
        simp [hlt, hip, hl, hl2, hlt1, hpp, hpp2, Ph.d_eq]
        refine aLoop_st (fun c : Nat => [(1, .ptr 0 0 0 0), (10, .ptr 1 0 0 0), (11, aI .i64 i), (12, aI .i64 a), (13, .ptr 3 0 0 0), (14, aI .i64 c)]) (fun c => [ssB s, bdQ (M ++ (p.ar.take c).map (cnAr p.va)).length f0, arQ (M ++ (p.ar.take c).map (cnAr p.va)), phBk p])
          (fun c => c ≤ p.ar.length) (fun c => p.ar.length - c) 0 (Sub.refl _ _ _) 4 (by omega) (by simp) (by simp) (by omega) ?_
        rintro c hc K3 hK3
        rcases Nat.lt_or_ge c p.ar.length with hlt3 | hge3
        case inr =>
          obtain rfl : c = p.ar.length := by omega
          rw [List.take_length]
          simp [hlt, hip, hl, hl2, succ_wrap hlt1 hlx]
          refine hK1 (a + 1) (by omega) (by omega) (Sub.refl _ _ _) 3 (by omega) ?_ (by simp)
          rw [htp]
          simp [phC]
        obtain ⟨v, hv⟩ : ∃ v, p.ar[c]? = some v := ⟨_, List.getElem?_eq_getElem hlt3⟩
        have hv2 := (List.getElem?_eq_some_iff.1 hv).2
        have htv := map_take p.va hv
        have hmin : (p.ar.take c).length ≤ p.ar.length := by simp; omega
        obtain ⟨Y, hY⟩ : ∃ Y, M ++ (p.ar.take c).map (cnAr p.va) = Y := ⟨_, rfl⟩
        have hYl : Y.length ≤ 1000000000 := by
          rw [← hY, List.length_append, List.length_map]
          omega
        have hY2 : M ++ (p.ar.take (c + 1)).map (cnAr p.va) = Y ++ [cnAr p.va v] := by rw [htv, ← hY]; simp
        simp only [hY]
        have cp := fun N => q32add_ac (ssB s) Y f0 N ⟨0, v, p.va, 0, 0, 0, 0⟩ hYl
        simp [hlt3, hv, hv2]
        refine adraw2 9 [] (by kernel_rfl) (by kernel_rfl) (by kernel_rfl) (by kernel_rfl) (by kernel_rfl) ?_
        simp [hlt3, hv, hv2]
        refine aCall_ofc (cp _) (by simp) ?_
        rintro _ _ ⟨rfl, N1, rfl⟩
        simp [succ_wrap hlt3 hpx]
        refine hK3 (c + 1) (by omega) (by omega) (Sub.refl _ _ _) 4 (by omega) ?_ (by simp)
        rw [hY2]
        simp [cnAr]
      obtain rfl : a = l.length := by omega
      rw [List.take_length]
      obtain ⟨L1, hL1⟩ : ∃ L1, ((s.ph[i]?).getD []).foldl phC L0 = L1 := ⟨_, rfl⟩
      have L1e : l.foldl phC L0 = L1 := by rw [← hL1, hl]; rfl
      rw [hL1] at hnext
      simp only [L1e]
      simp [hip, hl, hl2]
      refine aLoop_st (fun q : Nat => [(1, .ptr 0 0 0 0), (10, .ptr 1 0 0 0), (11, aI .i64 i), (15, aI .i64 q)]) (fun q => [ssB s, bdQ ((b.s.take q).foldl (stF k) (L1, f0)).1.length ((b.s.take q).foldl (stF k) (L1, f0)).2, arQ ((b.s.take q).foldl (stF k) (L1, f0)).1])
        (fun q => q ≤ b.s.length) (fun q => b.s.length - q) 0 (Sub.refl _ _ _) 3 (by omega) (by simp [L1e]) (by simp) (by omega) ?_
      rintro q hq K2 hK2
      rcases Nat.lt_or_ge q b.s.length with hlt2 | hge2
      case inr =>
        obtain rfl : q = b.s.length := by omega
        rw [List.take_length]
        simp [hlt, hb, hb2, Bl.d_eq, succ_wrap hlt hlm]
        refine hK (i + 1) (by omega) (by omega) (Sub.refl _ _ _) 3 (by omega) ?_ (by simp)
        rw [hnext]
        simp
      obtain ⟨x, hx⟩ : ∃ x, b.s[q]? = some x := ⟨_, List.getElem?_eq_getElem hlt2⟩
      have hx2 := (List.getElem?_eq_some_iff.1 hx).2
      have hmx := List.mem_of_getElem? hx
      obtain ⟨z1, z2, z3⟩ := ofS_of hB hf h0 hmb q hx
      have hts := foldl_tk (f := stF k) hx (L1, f0)
      rw [hL1] at z1 z2 z3
      obtain ⟨⟨L2, f2⟩, hz⟩ : ∃ z, (b.s.take q).foldl (stF k) (L1, f0) = z := ⟨_, rfl⟩
      rw [hz] at z1 z2 z3 hts
      simp only at z1 z2 z3
      have cs := fun N => q32stmt_ac k x (ssB s) L2 f2 N (grErr_sts h0 b hmb x hmx) (hf.n b hmb x hmx) z1 z2 z3
      simp only [hz]
      simp [hlt, hb, hb2, Bl.d_eq, hlt2, hx, hx2, St.d_eq]
      refine aCall_ofc (cs _) (by simp) ?_
      rintro _ _ ⟨rfl, N2, rfl⟩
      simp [succ_wrap hlt2 hbm]
      refine hK2 (q + 1) (by omega) (by omega) (Sub.refl _ _ _) 3 (by omega) ?_ (by simp)
      rw [hts]
      simp [stF]
    · have hl : s.ph[i]? = none := by simp; omega
      obtain ⟨L1, hL1⟩ : ∃ L1, ((s.ph[i]?).getD []).foldl phC L0 = L1 := ⟨_, rfl⟩
      have L1e : L0 = L1 := by rw [← hL1, hl]; rfl
      rw [hL1] at hnext
      simp [hlt]
      refine aLoop_st (fun _ : Nat => [(1, .ptr 0 0 0 0), (10, .ptr 1 0 0 0), (11, aI .i64 i), (12, aI .i64 0)]) (fun _ => [ssB s, bdQ L0.length f0, arQ L0])
        (fun a => a = 0) (fun a => 1 - a) 0 (Sub.refl _ _ _) 3 (by omega) (by simp) (by simp) (by omega) ?_
      rintro a rfl K1 hK1
      simp [hip]
      simp only [L1e]
      refine aLoop_st (fun q : Nat => [(1, .ptr 0 0 0 0), (10, .ptr 1 0 0 0), (11, aI .i64 i), (15, aI .i64 q)]) (fun q => [ssB s, bdQ ((b.s.take q).foldl (stF k) (L1, f0)).1.length ((b.s.take q).foldl (stF k) (L1, f0)).2, arQ ((b.s.take q).foldl (stF k) (L1, f0)).1])
        (fun q => q ≤ b.s.length) (fun q => b.s.length - q) 0 (Sub.refl _ _ _) 3 (by omega) (by simp [L1e]) (by simp) (by omega) ?_
      rintro q hq K2 hK2
      rcases Nat.lt_or_ge q b.s.length with hlt2 | hge2
      case inr =>
        obtain rfl : q = b.s.length := by omega
        rw [List.take_length]
        simp [hlt, hb, hb2, Bl.d_eq, succ_wrap hlt hlm]
        refine hK (i + 1) (by omega) (by omega) (Sub.refl _ _ _) 3 (by omega) ?_ (by simp)
        rw [hnext]
        simp
      obtain ⟨x, hx⟩ : ∃ x, b.s[q]? = some x := ⟨_, List.getElem?_eq_getElem hlt2⟩
      have hx2 := (List.getElem?_eq_some_iff.1 hx).2
      have hmx := List.mem_of_getElem? hx
      obtain ⟨z1, z2, z3⟩ := ofS_of hB hf h0 hmb q hx
      have hts := foldl_tk (f := stF k) hx (L1, f0)
      rw [hL1] at z1 z2 z3
      obtain ⟨⟨L2, f2⟩, hz⟩ : ∃ z, (b.s.take q).foldl (stF k) (L1, f0) = z := ⟨_, rfl⟩
      rw [hz] at z1 z2 z3 hts
      simp only at z1 z2 z3
      have cs := fun N => q32stmt_ac k x (ssB s) L2 f2 N (grErr_sts h0 b hmb x hmx) (hf.n b hmb x hmx) z1 z2 z3
      simp only [hz]
      simp [hlt, hb, hb2, Bl.d_eq, hlt2, hx, hx2, St.d_eq]
      refine aCall_ofc (cs _) (by simp) ?_
      rintro _ _ ⟨rfl, N2, rfl⟩
      simp [succ_wrap hlt2 hbm]
      refine hK2 (q + 1) (by omega) (by omega) (Sub.refl _ _ _) 3 (by omega) ?_ (by simp)
      rw [hts]
      simp [stF]
end Go.Proofs.YtoeimidochjddaaGreatDoor

/- Contracts: law 32's huge; what it says of a graph in SSA form that is not huge. -/
namespace Go.Proofs.YtoeimidochjddaaGreatDoor
open Go.RowKit
/-- What the loops of huge leave; none: a block is large. -/
def hgB : Int → List Bl → Option Int
  | n, [] => some n
  | n, b :: l => if n < 400 then (if largeC b.s = true then none else hgB (n + b.s.length) l) else some n
def hgA : Int → List Ph → Int
  | n, [] => n
  | n, p :: l => if n < 400 then hgA (n + ((p.ar.length / 10 : Nat) : Int)) l else n
def hgP : Int → List (List Ph) → Int
  | n, [] => n
  | n, l :: r => if n < 400 then hgP (hgA (n + l.length) l) r else n
def hugeB (s : Ss) : Bool := match hgB ((s.g.b.length : Int) + s.ph.length) s.g.b with
  | none => true
  | some n => decide (400 ≤ hgP n s.ph)
theorem hgA_spec : ∀ (l : List Ph) (n : Int), n ≤ hgA n l ∧ (hgA n l < 400 → hgA n l = n + ((l.map fun p => p.ar.length / 10).sum : Nat))
  | [], n => ⟨Int.le_refl _, by simp [hgA]⟩
  | p :: l, n => by
    obtain ⟨h1, h2⟩ := hgA_spec l (n + ((p.ar.length / 10 : Nat) : Int))
    simp only [hgA]
    split
    · refine ⟨by omega, fun h => ?_⟩
      rw [h2 h]
      simp only [List.map_cons, List.sum_cons]
      omega
    · exact ⟨Int.le_refl _, fun h => by omega⟩
theorem hgP_spec : ∀ (l : List (List Ph)) (n : Int), n ≤ hgP n l ∧ (hgP n l < 400 → hgP n l = n + ((l.map fun r => r.length + (r.map fun p => p.ar.length / 10).sum).sum : Nat))
  | [], n => ⟨Int.le_refl _, by simp [hgP]⟩
  | r :: l, n => by
    obtain ⟨a1, a2⟩ := hgA_spec r (n + r.length)
    obtain ⟨h1, h2⟩ := hgP_spec l (hgA (n + r.length) r)
    simp only [hgP]
    split
    · refine ⟨by omega, fun h => ?_⟩
      rw [h2 h, a2 (by omega)]
      simp only [List.map_cons, List.sum_cons]
      omega
    · exact ⟨Int.le_refl _, fun h => by omega⟩
theorem hgB_spec : ∀ (l : List Bl) (n m : Int), hgB n l = some m → n ≤ m ∧ (m < 400 → m = n + ((l.map fun b => b.s.length).sum : Nat) ∧ ∀ b ∈ l, largeC b.s = false)
  | [], n, m, h => by
    simp only [hgB, Option.some.injEq] at h
    subst h
    exact ⟨Int.le_refl _, fun _ => ⟨by simp, by simp⟩⟩
  | b :: l, n, m, h => by
    simp only [hgB] at h
    split at h
    · split at h
      · cases h
      · rename_i hl
        obtain ⟨h1, h2⟩ := hgB_spec l _ m h
        refine ⟨by omega, fun hm => ?_⟩
        obtain ⟨h3, h4⟩ := h2 hm
        refine ⟨by simp only [List.map_cons, List.sum_cons]; omega, fun x hx => ?_⟩
        rcases List.mem_cons.1 hx with rfl | hx
        · simpa using hl
        · exact h4 x hx
    · simp only [Option.some.injEq] at h
      subst h
      exact ⟨Int.le_refl _, fun hm => by omega⟩
/-- Sizes of what a machine holds. -/
structure HgFit (s : Ss) : Prop where
  b : s.g.b.length ≤ 140737488355328
  st : ∀ b ∈ s.g.b, b.s.length ≤ 140737488355328 ∧ ∀ x ∈ b.s, x.e.length ≤ maxLen ∧ x.cs.length ≤ maxLen
  p : s.ph.length ≤ 140737488355328
  pp : ∀ l ∈ s.ph, l.length ≤ 140737488355328 ∧ ∀ p ∈ l, p.ar.length ≤ 140737488355328
  o : s.og.length ≤ 140737488355328
theorem sum_le_mul {α : Type} {F : α → Nat} {c : Nat} : ∀ {l : List α}, (∀ x ∈ l, F x ≤ c) → (l.map F).sum ≤ c * l.length
  | [], _ => by simp
  | a :: l, h => by
    have h1 := sum_le_mul (l := l) fun x hx => h x (by simp [hx])
    have h2 := h a (by simp)
    simp only [List.map_cons, List.sum_cons, List.length_cons, Nat.mul_add]
    omega
theorem sum_mono {α : Type} {F G : α → Nat} : ∀ {l : List α}, (∀ x ∈ l, F x ≤ G x) → (l.map F).sum ≤ (l.map G).sum
  | [], _ => by simp
  | a :: l, h => by
    have h1 := sum_mono (l := l) fun x hx => h x (by simp [hx])
    have h2 := h a (by simp)
    simp only [List.map_cons, List.sum_cons]
    omega
theorem sum_mul {α : Type} {F : α → Nat} (c : Nat) : ∀ l : List α, (l.map fun x => c * F x).sum = c * (l.map F).sum
  | [] => by simp
  | a :: l => by simp only [List.map_cons, List.sum_cons, sum_mul c l, Nat.mul_add]
theorem huge_not {s : Ss} (h : hugeB s = false) (hf : HgFit s) : SsFit 4000 s := by
  unfold hugeB at h
  split at h
  · cases h
  rename_i n hn
  simp only [decide_eq_false_iff_not, Int.not_le] at h
  obtain ⟨b1, b2⟩ := hgB_spec _ _ _ hn
  obtain ⟨p1, p2⟩ := hgP_spec s.ph n
  obtain ⟨b3, b4⟩ := b2 (by omega)
  have p3 := p2 h
  have hbl : ∀ b ∈ s.g.b, b.s.length < 400 := fun b hb => by
    have := sum_mem (fun b : Bl => b.s.length) hb
    omega
  have hph : ∀ l ∈ s.ph, l.length + (l.map fun p => p.ar.length / 10).sum < 400 := fun l hl => by
    have := sum_mem (fun r : List Ph => r.length + (r.map fun p => p.ar.length / 10).sum) hl
    omega
  have hst : ∀ b ∈ s.g.b, ∀ x ∈ b.s, x.cs.length < 4000 ∧ Ex.nodess x.e < 4000 := fun b hb x hx => (large_not (b4 b hb)).2 x hx
  have hsz : blS szS s.g.b ≤ 8000 * 400 := by
    have h1 : blS szS s.g.b ≤ (s.g.b.map fun b => 8000 * b.s.length).sum := sum_mono fun b hb => sum_le_mul fun x hx => by
      have := (hst b hb x hx).2
      simp only [szS]
      omega
    rw [sum_mul 8000] at h1
    omega
  have hpn : phsN s.ph ≤ 10 * 400 := by
    have h1 : phsN s.ph ≤ (s.ph.map fun r => 10 * (r.length + (r.map fun p => p.ar.length / 10).sum)).sum := sum_mono fun l hl => by
      have h2 : phN l ≤ (l.map fun p => 10 * (p.ar.length / 10 + 1)).sum := sum_mono fun p hp => by omega
      rw [sum_mul 10] at h2
      have h3 : ∀ l : List Ph, (l.map fun p => p.ar.length / 10 + 1).sum = l.length + (l.map fun p => p.ar.length / 10).sum := by
        intro l
        induction l with
        | nil => rfl
        | cons a l ih => simp only [List.map_cons, List.sum_cons, List.length_cons, ih]; omega
      rw [h3] at h2
      exact h2
    rw [sum_mul 10] at h1
    omega
  refine ⟨⟨by omega, fun b hb => ⟨by have := hbl b hb; omega, fun x hx => ?_⟩⟩, fun b hb x hx => by have := hst b hb x hx; omega, by omega, by omega, fun l hl => by have := hph l hl; omega, fun l hl p hp => ?_, by have := hf.o; omega, by omega⟩
  · have h1 := hst b hb x hx
    have := Ex.nodess_len x.e
    omega
  · have h1 := hph l hl
    have := sum_mem (fun p : Ph => p.ar.length / 10) hp
    omega
theorem hgB_drop {l : List Bl} {i : Nat} {b : Bl} (h : l[i]? = some b) (n : Int) : hgB n (l.drop i) = if n < 400 then (if largeC b.s = true then none else hgB (n + b.s.length) (l.drop (i + 1))) else some n := by
  obtain ⟨hi, rfl⟩ := List.getElem?_eq_some_iff.1 h
  rw [List.drop_eq_getElem_cons hi]
  rfl
theorem hgA_drop {l : List Ph} {i : Nat} {p : Ph} (h : l[i]? = some p) (n : Int) : hgA n (l.drop i) = if n < 400 then hgA (n + ((p.ar.length / 10 : Nat) : Int)) (l.drop (i + 1)) else n := by
  obtain ⟨hi, rfl⟩ := List.getElem?_eq_some_iff.1 h
  rw [List.drop_eq_getElem_cons hi]
  rfl
theorem hgP_drop {l : List (List Ph)} {i : Nat} {p : List Ph} (h : l[i]? = some p) (n : Int) : hgP n (l.drop i) = if n < 400 then hgP (hgA (n + p.length) p) (l.drop (i + 1)) else n := by
  obtain ⟨hi, rfl⟩ := List.getElem?_eq_some_iff.1 h
  rw [List.drop_eq_getElem_cons hi]
  rfl
theorem l32huge_af (s : Ss) (hf : HgFit s) : AF Tryz.prog 7 [ssV s] (aB (hugeB s)) := by
  have f1 := hf.b
  have f2 := hf.p
  have hlm : s.g.b.length ≤ maxLen := by unfold maxLen; omega
  have hpm : s.ph.length ≤ maxLen := by unfold maxLen; omega
  obtain ⟨R, hR⟩ : ∃ R, hugeB s = R := ⟨_, rfl⟩
  rw [hR]
  unfold hugeB at hR
  refine af_of Tryz.func7 rfl (by kernel_rfl) (by simp [Tryz.ntmps7]) fun _ => ?_; simp [Tryz.f7, Ex.d_eq]
  simp [i64w (n := (s.g.b.length : Int) + s.ph.length) (by omega)]
  refine aLoop_st (fun z : Nat × Int => [(1, .ptr 0 0 0 0), (3, aI .i64 z.2), (4, aI .i64 z.1)]) (fun _ => [ssB s])
    (fun z => z.1 ≤ s.g.b.length ∧ 0 ≤ z.2 ∧ z.2 ≤ 1000000000000000 ∧ hgB z.2 (s.g.b.drop z.1) = hgB ((s.g.b.length : Int) + s.ph.length) s.g.b) (fun z => s.g.b.length - z.1) (0, (s.g.b.length : Int) + s.ph.length) (Sub.refl _ _ _) 1 (by omega) (by simp) (by simp) ⟨by omega, by simp only; omega, by simp only; omega, by simp⟩ ?_
  rintro ⟨i, n⟩ ⟨hi, hn0, hn1, hx⟩ K hK
  simp only at hi hn0 hn1 hx
  by_cases hgo : i < s.g.b.length ∧ n < 400
  · obtain ⟨hlt, hn⟩ := hgo
    obtain ⟨b, hb⟩ : ∃ b, s.g.b[i]? = some b := ⟨_, List.getElem?_eq_getElem hlt⟩
    have hb2 := (List.getElem?_eq_some_iff.1 hb).2
    obtain ⟨g1, g2⟩ := hf.st b (List.mem_of_getElem? hb)
    have cl := l32large_af b.s (by unfold maxLen; omega) g2
    rw [hgB_drop hb, if_pos hn] at hx
    simp [hlt, hn, hb, hb2, Bl.d_eq, i64w (n := n + b.s.length) (by omega)]
    cases hlg : largeC b.s <;> rw [hlg] at cl hx
    · refine aCall_of (cl) (by simp) (by simp [Ex.d_eq]) ?_; simp [Ex.d_eq]
      simp only [Bool.false_eq_true, if_false] at hx
      simp [succ_wrap hlt hlm]
      exact hK (i + 1, n + b.s.length) ⟨by simp only; omega, by simp only; omega, by simp only; omega, hx⟩ (by simp only; omega) (Sub.refl _ _ _) 1 (by omega) (by simp) (by simp)
    · refine aCall_of (cl) (by simp) (by simp [Ex.d_eq]) ?_; simp [Ex.d_eq]
      simp only [if_true] at hx
      rw [← hx] at hR
      simpa using hR
  have hend : hgB n (s.g.b.drop i) = some n := by
    rcases Nat.lt_or_ge i s.g.b.length with hlt | hge
    · obtain ⟨b, hb⟩ : ∃ b, s.g.b[i]? = some b := ⟨_, List.getElem?_eq_getElem hlt⟩
      rw [hgB_drop hb, if_neg (fun h => hgo ⟨hlt, h⟩)]
    · rw [List.drop_of_length_le hge]
      rfl
  rw [hend] at hx
  rw [← hx] at hR
  simp only at hR
  have hgo2 : (if (i : Int) < s.g.b.length then decide (n < 400) else false) = false := by
    split
    · simp; omega
    · rfl
  by_cases hlt : i < s.g.b.length
  all_goals
    simp [hlt, show ¬ (i < s.g.b.length ∧ n < 400) from hgo]
    try simp [show ¬ n < 400 from fun h => hgo ⟨hlt, h⟩]
    refine aLoop_st (fun z : Nat × Int => [(1, .ptr 0 0 0 0), (3, aI .i64 z.2), (5, aI .i64 z.1)]) (fun _ => [ssB s])
      (fun z => z.1 ≤ s.ph.length ∧ 0 ≤ z.2 ∧ z.2 ≤ 1000000000000000 ∧ hgP z.2 (s.ph.drop z.1) = hgP n s.ph) (fun z => s.ph.length - z.1) (0, n) (Sub.refl _ _ _) 1 (by omega) (by simp) (by simp) ⟨by omega, by simp only; omega, by simp only; omega, by simp⟩ ?_
    rintro ⟨a, m⟩ ⟨ha, hm0, hm1, hy⟩ K1 hK1
    simp only at ha hm0 hm1 hy
    by_cases hgo1 : a < s.ph.length ∧ m < 400
    case neg =>
      have hend1 : hgP m (s.ph.drop a) = m := by
        rcases Nat.lt_or_ge a s.ph.length with hlt1 | hge1
        · obtain ⟨b, hb⟩ : ∃ b, s.ph[a]? = some b := ⟨_, List.getElem?_eq_getElem hlt1⟩
          rw [hgP_drop hb, if_neg (fun h => hgo1 ⟨hlt1, h⟩)]
        · rw [List.drop_of_length_le hge1]
          rfl
      rw [hend1] at hy
      rw [← hy] at hR
      by_cases hlt1 : a < s.ph.length
      · simp [hlt1, show ¬ m < 400 from fun h => hgo1 ⟨hlt1, h⟩, hR]
      · simp [hlt1, hR]
    obtain ⟨hlt1, hm⟩ := hgo1
    obtain ⟨l, hl⟩ : ∃ l, s.ph[a]? = some l := ⟨_, List.getElem?_eq_getElem hlt1⟩
    have hl2 := (List.getElem?_eq_some_iff.1 hl).2
    obtain ⟨g3, g4⟩ := hf.pp l (List.mem_of_getElem? hl)
    have hllm : l.length ≤ maxLen := by unfold maxLen; omega
    rw [hgP_drop hl, if_pos hm] at hy
    simp [hlt1, hm, hl, hl2, i64w (n := m + l.length) (by omega)]
    refine aLoop_st (fun z : Nat × Int => [(1, .ptr 0 0 0 0), (3, aI .i64 z.2), (5, aI .i64 a), (6, aI .i64 z.1)]) (fun _ => [ssB s])
      (fun z => z.1 ≤ l.length ∧ 0 ≤ z.2 ∧ z.2 ≤ 1000000000000000 ∧ hgA z.2 (l.drop z.1) = hgA (m + l.length) l) (fun z => l.length - z.1) (0, m + l.length) (Sub.refl _ _ _) 1 (by omega) (by simp) (by simp) ⟨by omega, by simp only; omega, by simp only; omega, by simp⟩ ?_
    rintro ⟨c, q⟩ ⟨hc, hq0, hq1, hz⟩ K2 hK2
    simp only at hc hq0 hq1 hz
    by_cases hgo2 : c < l.length ∧ q < 400
    case neg =>
      have hend1 : hgA q (l.drop c) = q := by
        rcases Nat.lt_or_ge c l.length with hlt1 | hge1
        · obtain ⟨b, hb⟩ : ∃ b, l[c]? = some b := ⟨_, List.getElem?_eq_getElem hlt1⟩
          rw [hgA_drop hb, if_neg (fun h => hgo2 ⟨hlt1, h⟩)]
        · rw [List.drop_of_length_le hge1]
          rfl
      rw [hend1] at hz
      rw [← hz] at hy
      by_cases hlt2 : c < l.length
      · simp [hlt1, hl, hl2, hlt2, show ¬ q < 400 from fun h => hgo2 ⟨hlt2, h⟩, succ_wrap hlt1 hpm]
        exact hK1 (a + 1, q) ⟨by simp only; omega, hq0, hq1, hy⟩ (by simp only; omega) (Sub.refl _ _ _) 1 (by omega) (by simp) (by simp)
      · simp [hlt1, hl, hl2, hlt2, succ_wrap hlt1 hpm]
        exact hK1 (a + 1, q) ⟨by simp only; omega, hq0, hq1, hy⟩ (by simp only; omega) (Sub.refl _ _ _) 1 (by omega) (by simp) (by simp)
    obtain ⟨hlt2, hq⟩ := hgo2
    obtain ⟨p, hp⟩ : ∃ p, l[c]? = some p := ⟨_, List.getElem?_eq_getElem hlt2⟩
    have hp2 := (List.getElem?_eq_some_iff.1 hp).2
    have g5 := g4 p (List.mem_of_getElem? hp)
    rw [hgA_drop hp, if_pos hq] at hz
    have hdiv : ((p.ar.length / 10 : Nat) : Int) ≤ 140737488355328 := by omega
    have hwd : IntKind.i64.wrap ((p.ar.length : Int) / 10) = (p.ar.length : Int) / 10 := i64w (by omega)
    have hwe : IntKind.i64.wrap (q + (p.ar.length : Int) / 10) = q + (p.ar.length : Int) / 10 := i64w (by omega)
    simp [hlt1, hl, hl2, hlt2, hq, hp, hp2, Ph.d_eq, hwd, hwe, succ_wrap hlt2 hllm]
    exact hK2 (c + 1, q + ((p.ar.length / 10 : Nat) : Int)) ⟨by simp only; omega, by simp only; omega, by simp only; omega, hz⟩ (by simp only; omega) (Sub.refl _ _ _) 1 (by omega) (by simp) (by simp)
end Go.Proofs.YtoeimidochjddaaGreatDoor

/- Contract: the law ConstraintGraphs answers true. -/
namespace Go.Proofs.YtoeimidochjddaaGreatDoor
open Go.RowKit
theorem ofC_len {k : Nat} {s : Ss} (hf : SsFit k s) : (ofC k s).1.length ≤ maxLen := by
  unfold ofC
  by_cases h0 : grErr s.g = 0
  · rw [if_pos h0]
    by_cases hp : phsB s = true
    · rw [if_pos hp]
      split
      · simp
      · simp only [phsB, Bool.and_eq_true, List.all_eq_true, decide_eq_true_eq] at hp
        have r := (ofI_like (k := k) (f := frS s) (frS_range hf).1 (grErr_sts h0) hf.n (fun l hl p hp' => hp.2 l hl p hp') s.g.b.length (Nat.le_refl _)).len
        rw [List.take_length, List.take_of_length_le hp.1] at r
        have := hf.t
        simp only
        unfold maxLen
        omega
    · rw [if_neg hp]
      simp
  · rw [if_neg h0]
    simp
theorem lawgraphs32_af (s : Ss) (hf : HgFit s) : AF Tryz.prog 3 [ssV s] (aB true) := by
  have ch := l32huge_af s hf
  cases hh : hugeB s <;> rw [hh] at ch
  case true =>
    refine af_of Tryz.func3 rfl (by kernel_rfl) (by simp [Tryz.ntmps3]) fun _ => ?_; simp [Tryz.f3, Ex.d_eq]
    refine aCall_of (ch) (by simp) (by simp [Ex.d_eq]) ?_; simp [Ex.d_eq]
    refine aCall_of (l32ex_af) (by simp) (by simp [Ex.d_eq]) ?_; simp [Ex.d_eq]
  have hs := huge_not hh hf
  have c1 := cOf_af 4000 s hs
  have c2 := q32Of_af 4000 s hs
  have hl := ofC_len hs
  obtain ⟨⟨L, e⟩, hR⟩ : ∃ R, ofC 4000 s = R := ⟨_, rfl⟩
  rw [hR] at c1 c2 hl
  simp only at c1 c2 hl
  have c3 := l32same_af L hl
  refine af_of Tryz.func3 rfl (by kernel_rfl) (by simp [Tryz.ntmps3]) fun _ => ?_; simp [Tryz.f3, Ex.d_eq]
  refine aCall_of (ch) (by simp) (by simp [Ex.d_eq]) ?_; simp [Ex.d_eq]
  refine aCall_of (c1) (by simp) (by simp [Ex.d_eq]) ?_; simp [Ex.d_eq]
  refine aCall_of (c2) (by simp) (by simp [Ex.d_eq]) ?_; simp [Ex.d_eq]
  refine aCall_of (c3) (by simp) (by simp [Ex.d_eq]) ?_; simp [Ex.d_eq]
  refine aCall_of (l32ex_af) (by simp) (by simp [Ex.d_eq]) ?_; simp [Ex.d_eq]
end Go.Proofs.YtoeimidochjddaaGreatDoor
