/- Texts that the claim leans on, laid one behind the other: Ua, Ub, Uc, Ud, Ue, Uf, Ug, Uh, Ui. -/
import Derived.Test.YtoeimidochjddaaGreatDoorZM
import Derived.Test.YtoeimidochjddaaGreatDoorZG
import Derived.Test.YtoeimidochjddaaGreatDoorZP
import Derived.Test.YtoeimidochjddaaGreatDoorAv
import Derived.Test.YtoeimidochjddaaGreatDoorAr
import Derived.Test.YtoeimidochjddaaGreatDoorZQ
set_option linter.unusedSimpArgs false
set_option linter.unusedVariables false
set_option linter.unnecessarySimpa false
/- The constraints of expressions and statements as plain functions. No program in sight. -/
namespace Go.Proofs.YtoeimidochjddaaGreatDoor
open Go.RowKit
/-- A constraint; its type has a kind and a size only. -/
structure Cn where
  kd : Int
  a : Int
  b : Int
  off : Int
  wd : Int
  tk : Int
  ts : Int
def Cn.d (c : Cn) : List D := [.v (.int .i64 c.kd), .v (.int .i64 c.a), .v (.int .i64 c.b), .v (.int .i64 c.off), .v (.int .i64 c.wd), .v (.int .i64 c.tk), .v (.int .i64 c.ts), .v (.int .i64 0), .v (.slice none 0 0), .v (.slice none 0 0)]
theorem Cn.d_eq (c : Cn) : Cn.d c = [.v (.int .i64 c.kd), .v (.int .i64 c.a), .v (.int .i64 c.b), .v (.int .i64 c.off), .v (.int .i64 c.wd), .v (.int .i64 c.tk), .v (.int .i64 c.ts), .v (.int .i64 0), .v (.slice none 0 0), .v (.slice none 0 0)] := rfl
@[simp] theorem Cn.d_len (c : Cn) : (Cn.d c).length = 10 := rfl
/-- Constraints, as a slice's elements. -/
def cns (l : List Cn) : List (List D) := l.map Cn.d
@[simp] theorem cns_nil : cns [] = [] := rfl
@[simp] theorem cns_cons (s : Cn) (l : List Cn) : cns (s :: l) = s.d :: cns l := rfl
@[simp] theorem cns_len (l : List Cn) : (cns l).length = l.length := by simp [cns]
@[simp] theorem cns_get (l : List Cn) (i : Nat) : (cns l)[i]? = (l[i]?).map Cn.d := by simp [cns]
@[simp] theorem cns_at (l : List Cn) (i : Nat) (h : i < (cns l).length) : (cns l)[i] = Cn.d (l[i]'(by simpa using h)) := by simp [cns]
@[simp] theorem cns_all (l : List Cn) : (cns l).take l.length = cns l := by rw [List.take_of_length_le]; simp
@[simp] theorem cns_app (l m : List Cn) : cns (l ++ m) = cns l ++ cns m := by simp [cns]
/-- The second operand. -/
def offN (e : Ex) : Int := IntKind.i32.wrap (if e.op = 4 then IntKind.u32.wrap (-e.y.n) else e.y.n)
/-- Is a constant added or subtracted? -/
def movB (e : Ex) : Bool := (decide (e.op = 3) || decide (e.op = 4)) && decide (e.y.op = 1)
/-- The base and the offset of an address. -/
def movP (e : Ex) : Ex × Int := if movB e = true then (e.x, offN e) else (e, 0)
/-- The constraints of some expressions, one behind the other; their variables. -/
def cnL (F : Int → Ex → List Cn × Int × Int) : Int → List Ex → List Cn × Int × List Int
  | f, [] => ([], f, [])
  | f, x :: l => ((F f x).1 ++ (cnL F (F f x).2.1 l).1, (cnL F (F f x).2.1 l).2.1, (F f x).2.2 :: (cnL F (F f x).2.1 l).2.2)
/-- Signed operands are integers. -/
def ltC : List Ex → List Int → List Cn
  | x :: l, v :: m => (if x.op = 1 then [] else [⟨1, v, 0, 0, 0, 1, 4⟩]) ++ ltC l m
  | _, _ => []
def typC (e : Ex) (own : Int) (vs : List Int) : List Cn :=
  if e.op = 5 ∨ e.op = 9 then [⟨1, own, 0, 0, 0, 2, 4⟩] else if e.op = 11 ∨ e.op = 17 ∨ e.op = 19 then [⟨1, own, 0, 0, 0, 1, 4⟩] else if e.op = 14 then ltC e.l vs else []
/-- The constraints of an expression, the next new variable, its variable. -/
def cnF : Nat → Int → Ex → List Cn × Int × Int
  | 0, f, _ => ([], f, 0)
  | k + 1, f, e =>
    if e.op = 2 then ([], f, e.v)
    else if movB e = true then ((cnF k f e.x).1 ++ [⟨4, (cnF k f e.x).2.1, (cnF k f e.x).2.2, offN e, 0, 0, 0⟩], (cnF k f e.x).2.1 + 1, (cnF k f e.x).2.1)
    else if e.op = 18 then ((cnF k f (movP e.x).1).1 ++ [⟨2, (cnF k f (movP e.x).1).2.2, (cnF k f (movP e.x).1).2.1, (movP e.x).2, e.wd, 0, 0⟩], (cnF k f (movP e.x).1).2.1 + 1, (cnF k f (movP e.x).1).2.1)
    else ((cnL (cnF k) f e.l).1 ++ typC e (cnL (cnF k) f e.l).2.1 (cnL (cnF k) f e.l).2.2, (cnL (cnF k) f e.l).2.1 + 1, (cnL (cnF k) f e.l).2.1)
/-- The constraints of a well-formed statement, the next new variable. -/
def cnS (k : Nat) (f : Int) (s : St) : List Cn × Int := match s.op, s.e with
  | 1, [x] => ((cnF k f x).1 ++ (if x.op = 1 then [] else [⟨0, (cnF k f x).2.2, s.va, 0, 0, 0, 0⟩]), (cnF k f x).2.1)
  | 2, [x, y] => ((cnF k f (movP x).1).1 ++ (cnF k (cnF k f (movP x).1).2.1 y).1 ++ [⟨3, (cnF k f (movP x).1).2.2, (cnF k (cnF k f (movP x).1).2.1 y).2.2, (movP x).2, s.wd, 0, 0⟩], (cnF k (cnF k f (movP x).1).2.1 y).2.1)
  | _, l => ((cnL (cnF k) f l).1, (cnL (cnF k) f l).2.1)
theorem x_nodes {e : Ex} (h : e.l ≠ []) : e.x.nodes < e.nodes := by
  obtain ⟨o, n, v, w, l⟩ := e
  cases l with
  | nil => exact absurd rfl h
  | cons a l => simp [Ex.x, Ex.nodes, Ex.nodess]; omega
theorem movP_nodes (e : Ex) : (movP e).1.nodes ≤ e.nodes := by
  unfold movP
  split
  · rename_i h
    by_cases hl : e.l = []
    · obtain ⟨o, n, v, w, l⟩ := e
      simp only [Ex.l_mk] at hl
      subst hl
      simp [Ex.x, Ex.nodes, Ex.nodess]
    · exact Nat.le_of_lt (x_nodes hl)
  · exact Nat.le_refl _
end Go.Proofs.YtoeimidochjddaaGreatDoor

/- When a statement alone is well-formed; how many constraints there are; what they hold. No program in sight. -/
namespace Go.Proofs.YtoeimidochjddaaGreatDoor
open Go.RowKit
end Go.Proofs.YtoeimidochjddaaGreatDoor

/- How many constraints of a kind an expression, a statement gives; what their variables are. No program in sight. -/
namespace Go.Proofs.YtoeimidochjddaaGreatDoor
open Go.RowKit
def cntK (k : Int) (l : List Cn) : Nat := l.countP fun c => decide (c.kd = k)
theorem cntK_app (k : Int) (l m : List Cn) : cntK k (l ++ m) = cntK k l + cntK k m := by simp [cntK]
@[simp] theorem cntK_nil (k : Int) : cntK k [] = 0 := rfl
theorem cntK_one (k : Int) (c : Cn) : cntK k [c] = if c.kd = k then 1 else 0 := by
  unfold cntK
  by_cases h : c.kd = k <;> simp [h]
/-- The loads of an expression. -/
def loadsE : Ex → Nat
  | .mk o _ _ _ l => (if o = 18 then 1 else 0) + loadsEs l
where loadsEs : List Ex → Nat
  | [] => 0
  | e :: l => loadsE e + loadsEs l
theorem loadsE_eq (e : Ex) : loadsE e = (if e.op = 18 then 1 else 0) + loadsE.loadsEs e.l := by cases e; rfl
/-- What holds of every constraint. -/
def CnOk (c : Cn) : Prop := 0 ≤ c.kd ∧ c.kd ≤ 4 ∧ 0 ≤ c.a ∧ 0 ≤ c.b
theorem mov_parts {e : Ex} (hf : formB e = true) (h : movB e = true) : ∃ x n, e = eTwo e.op x (eCon n) ∧ formB x = true ∧ (e.op = 3 ∨ e.op = 4) ∧ e.x = x := by
  simp only [movB, Bool.and_eq_true, Bool.or_eq_true, decide_eq_true_eq] at h
  obtain ⟨h1, h2⟩ := h
  obtain ⟨a, b, he, ha, hb⟩ := form_two hf (by omega) (by omega)
  have hy : e.y = b := by rw [he]; rfl
  have hx : e.x = a := by rw [he]; rfl
  rw [hy] at h2
  have hbc := form_con hb h2
  refine ⟨a, b.n, ?_, ha, h1, hx⟩
  rw [← hbc]
  exact he
theorem movP_form {e : Ex} (hf : formB e = true) : formB (movP e).1 = true := by
  unfold movP
  split
  · rename_i h
    obtain ⟨x, n, he, hx, _, hxx⟩ := mov_parts hf h
    rw [hxx]
    exact hx
  · exact hf
theorem loads_two {o : Int} (h : o ≠ 18) (x y : Ex) : loadsE (eTwo o x y) = loadsE x + loadsE y := by
  simp [eTwo, loadsE, loadsE.loadsEs, h]
theorem movP_loads {e : Ex} (hf : formB e = true) : loadsE (movP e).1 = loadsE e := by
  unfold movP
  split
  · rename_i h
    obtain ⟨x, n, he, hx, ho, hxx⟩ := mov_parts hf h
    rw [hxx, he, loads_two (by omega) x (eCon n)]
    rfl
  · rfl
/-- What the constraints of an expression are like. -/
structure CnR (f : Int) (e : Ex) (n : Nat) (L : List Cn) (f' v : Int) : Prop where
  c2 : cntK 2 L = n
  c0 : cntK 0 L = 0
  c3 : cntK 3 L = 0
  ok : ∀ c ∈ L, CnOk c
  lo : f ≤ f'
  hi : f' ≤ f + e.nodes
  v0 : 0 ≤ v
  len : L.length ≤ 2 * e.nodes
theorem ltC_like : ∀ (l : List Ex) (vs : List Int), (∀ v ∈ vs, 0 ≤ v) → cntK 2 (ltC l vs) = 0 ∧ cntK 0 (ltC l vs) = 0 ∧ cntK 3 (ltC l vs) = 0 ∧ (∀ c ∈ ltC l vs, CnOk c) ∧ (ltC l vs).length ≤ l.length
  | [], vs, _ => by simp [ltC]
  | x :: l, [], _ => by simp [ltC]
  | x :: l, v :: vs, h => by
    obtain ⟨h1, h2, h3, h4, h5⟩ := ltC_like l vs fun u hu => h u (by simp [hu])
    have hv := h v (by simp)
    simp only [ltC]
    by_cases hx : x.op = 1
    · rw [if_pos hx, List.nil_append]
      exact ⟨h1, h2, h3, h4, by simp; omega⟩
    · rw [if_neg hx]
      refine ⟨by rw [cntK_app, h1, cntK_one]; simp, by rw [cntK_app, h2, cntK_one]; simp, by rw [cntK_app, h3, cntK_one]; simp, fun c hc => ?_, by simp; omega⟩
      simp only [List.cons_append, List.nil_append, List.mem_cons] at hc
      rcases hc with rfl | hc
      · exact ⟨by simp, by simp, hv, by simp⟩
      · exact h4 c hc
theorem typC_like (e : Ex) {own : Int} {vs : List Int} (h14 : e.op = 14 → e.l.length ≤ 2) (ho : 0 ≤ own) (h : ∀ v ∈ vs, 0 ≤ v) : cntK 2 (typC e own vs) = 0 ∧ cntK 0 (typC e own vs) = 0 ∧ cntK 3 (typC e own vs) = 0 ∧ (∀ c ∈ typC e own vs, CnOk c) ∧ (typC e own vs).length ≤ 2 := by
  unfold typC
  split
  · refine ⟨by rw [cntK_one]; simp, by rw [cntK_one]; simp, by rw [cntK_one]; simp, fun c hc => ?_, by simp⟩
    simp at hc
    subst hc
    exact ⟨by simp, by simp, ho, by simp⟩
  split
  · refine ⟨by rw [cntK_one]; simp, by rw [cntK_one]; simp, by rw [cntK_one]; simp, fun c hc => ?_, by simp⟩
    simp at hc
    subst hc
    exact ⟨by simp, by simp, ho, by simp⟩
  split
  · rename_i ho
    obtain ⟨h1, h2, h3, h4, h5⟩ := ltC_like e.l vs h
    have := h14 ho
    exact ⟨h1, h2, h3, h4, by omega⟩
  · simp
/-- The same of several expressions. -/
structure CnRL (f : Int) (l : List Ex) (L : List Cn) (f' : Int) (vs : List Int) : Prop where
  c2 : cntK 2 L = loadsE.loadsEs l
  c0 : cntK 0 L = 0
  c3 : cntK 3 L = 0
  ok : ∀ c ∈ L, CnOk c
  lo : f ≤ f'
  hi : f' ≤ f + Ex.nodess l
  v0 : ∀ v ∈ vs, 0 ≤ v
  len : L.length ≤ 2 * Ex.nodess l
  vl : vs.length = l.length
theorem cnL_like (F : Int → Ex → List Cn × Int × Int) : ∀ (l : List Ex) (f : Int), 0 ≤ f → (∀ e ∈ l, ∀ f : Int, 0 ≤ f → CnR f e (loadsE e) (F f e).1 (F f e).2.1 (F f e).2.2) → CnRL f l (cnL F f l).1 (cnL F f l).2.1 (cnL F f l).2.2
  | [], f, hf, _ => ⟨by simp [cnL, loadsE.loadsEs], by simp [cnL], by simp [cnL], by simp [cnL], by simp [cnL], by simp [cnL, Ex.nodess], by simp [cnL], by simp [cnL], by simp [cnL]⟩
  | e :: l, f, hf, h => by
    have h1 := h e (by simp) f hf
    have h2 := cnL_like F l (F f e).2.1 (by have := h1.lo; omega) fun x hx => h x (by simp [hx])
    simp only [cnL]
    refine ⟨?_, ?_, ?_, ?_, ?_, ?_, ?_, ?_, ?_⟩
    · rw [cntK_app, h1.c2, h2.c2, loadsE.loadsEs]
    · rw [cntK_app, h1.c0, h2.c0]
    · rw [cntK_app, h1.c3, h2.c3]
    · intro c hc
      rcases List.mem_append.1 hc with hc | hc
      · exact h1.ok c hc
      · exact h2.ok c hc
    · have := h1.lo; have := h2.lo; omega
    · have := h1.hi; have := h2.hi; simp only [Ex.nodess]; omega
    · intro v hv
      rcases List.mem_cons.1 hv with rfl | hv
      · exact h1.v0
      · exact h2.v0 v hv
    · have := h1.len; have := h2.len; simp only [Ex.nodess, List.length_append]; omega
    · simp [h2.vl]
theorem cnF_like : ∀ (k : Nat) (f : Int) (e : Ex), 0 ≤ f → formB e = true → e.nodes ≤ k → CnR f e (loadsE e) (cnF k f e).1 (cnF k f e).2.1 (cnF k f e).2.2 := by
  intro k
  induction k with
  | zero => intro f e _ _ h; have := e.nodes_pos; omega
  | succ k ih =>
  intro f e hf he hk
  unfold cnF
  split
  · rename_i h2
    obtain ⟨hv, h3, _⟩ := form_var he h2
    have hl : loadsE e = 0 := by rw [hv]; rfl
    exact ⟨by simp [hl], by simp, by simp, by simp, by simp, by simp only; omega, h3, by simp⟩
  rename_i h2
  split
  · rename_i hm
    obtain ⟨x, n, hx, hxf, ho, hxx⟩ := mov_parts he hm
    have hn : e.nodes = x.nodes + 2 := by
      have := congrArg Ex.nodes hx
      simpa using this
    rw [hxx]
    have r := ih f x hf hxf (by omega)
    have hl : loadsE e = loadsE x := by
      have := movP_loads he
      rw [movP, if_pos hm, hxx] at this
      exact this.symm
    have hlo := r.lo
    have hhi := r.hi
    have hlen := r.len
    refine ⟨by rw [cntK_app, r.c2, cntK_one, hl]; simp, by rw [cntK_app, r.c0, cntK_one]; simp, by rw [cntK_app, r.c3, cntK_one]; simp, fun c hc => ?_, by simp only; omega, by simp only; omega, by simp only; omega, by simp; omega⟩
    rcases List.mem_append.1 hc with hc | hc
    · exact r.ok c hc
    · simp at hc
      subst hc
      exact ⟨by simp, by simp, by simp only; omega, r.v0⟩
  rename_i hm
  split
  · rename_i h18
    obtain ⟨a, ha, haf, _⟩ := form_wide he (.inl h18)
    have hx : e.x = a := by rw [ha]; rfl
    have hn : e.nodes = a.nodes + 1 := by
      have := congrArg Ex.nodes ha
      simpa [Ex.nodes, Ex.nodess] using this
    have hl : loadsE e = loadsE a + 1 := by
      rw [ha, loadsE_eq]
      simp [loadsE.loadsEs, h18]
      omega
    rw [hx]
    have hmn := movP_nodes a
    have r := ih f (movP a).1 hf (movP_form haf) (by omega)
    have hml := movP_loads haf
    have hlo := r.lo
    have hhi := r.hi
    have hlen := r.len
    refine ⟨by rw [cntK_app, r.c2, cntK_one, hl, hml]; simp, by rw [cntK_app, r.c0, cntK_one]; simp, by rw [cntK_app, r.c3, cntK_one]; simp, fun c hc => ?_, by simp only; omega, by simp only; omega, by simp only; omega, by simp; omega⟩
    rcases List.mem_append.1 hc with hc | hc
    · exact r.ok c hc
    · simp at hc
      subst hc
      exact ⟨by simp, by simp, r.v0, by simp only; omega⟩
  rename_i h18
  have hall := (form_all he).2
  have hne : e.nodes = Ex.nodess e.l + 1 := nodes_eq e
  have r := cnL_like (cnF k) e.l f hf fun x hx f hf => ih f x hf (hall x hx) (by have := Ex.nodess_mem hx; omega)
  have hlo := r.lo
  have hhi := r.hi
  have hlen := r.len
  obtain ⟨t1, t2, t3, t4, t5⟩ := typC_like e (own := (cnL (cnF k) f e.l).2.1) (vs := (cnL (cnF k) f e.l).2.2) (fun h => by
    obtain ⟨a, b, hab, _⟩ := form_two he (by omega) (by omega)
    rw [hab]
    simp) (by omega) r.v0
  refine ⟨by rw [cntK_app, r.c2, t1, loadsE_eq, if_neg h18]; omega, by rw [cntK_app, r.c0, t2], by rw [cntK_app, r.c3, t3], fun c hc => ?_, by simp only; omega, by simp only; omega, by simp only; omega, by simp only [List.length_append]; omega⟩
  rcases List.mem_append.1 hc with hc | hc
  · exact r.ok c hc
  · exact t4 c hc
end Go.Proofs.YtoeimidochjddaaGreatDoor

/- Contracts: constraint's builder: put, integer, next; offset. -/
namespace Go.Proofs.YtoeimidochjddaaGreatDoor
open Go.RowKit
/-- The builder; its constraints' block. -/
abbrev bdC (n : Nat) (f : Int) : Blk := ⟨0, true, 93, 2, [[.own 2 n 0 n, aI .i64 f]]⟩
abbrev arC (L : List Cn) : Blk := ⟨L.length, true, 88, 10, dEls (cns L)⟩
/-- A constraint, by value. -/
@[simp] def cnA (c : Cn) : AV := .agg [aI .i64 c.kd, aI .i64 c.a, aI .i64 c.b, aI .i64 c.off, aI .i64 c.wd, aI .i64 c.tk, aI .i64 c.ts, aI .i64 0, .d (.v (.slice none 0 0)), .d (.v (.slice none 0 0))]
/-- An integer type, by value. -/
@[simp] def tyA (k s : Int) : AV := .agg [aI .i64 k, aI .i64 s, aI .i64 0, .d (.v (.slice none 0 0)), .d (.v (.slice none 0 0))]
theorem cfull_af (kd a b off wd : Int) : AF Tryz.prog 80 [.agg [aI .i64 kd, aI .i64 a, aI .i64 b, aI .i64 off, aI .i64 wd]] (cnA ⟨kd, a, b, off, wd, 0, 0⟩) := by
  refine af_of Tryz.func80 rfl (by kernel_rfl) (by simp [Tryz.ntmps80]) fun _ => ?_; simp [Tryz.f80, Ex.d_eq]
theorem cput_ac (b0 : Blk) (L : List Cn) (f : Int) (N : AHeap) (kd a b off wd : Int) (hl : L.length ≤ 1000000000) :
    AC Tryz.prog 34 [.ptr 1 0 0 0, .agg [aI .i64 kd, aI .i64 a, aI .i64 b, aI .i64 off, aI .i64 wd]] (b0 :: bdC L.length f :: arC L :: N)
      (fun r A' => r = .tup [] ∧ ∃ N', A' = b0 :: bdC (L ++ [(⟨kd, a, b, off, wd, 0, 0⟩ : Cn)]).length f :: arC (L ++ [(⟨kd, a, b, off, wd, 0, 0⟩ : Cn)]) :: (N ++ N')) := by
  refine ac_of Tryz.func34 rfl (by kernel_rfl) (by simp [Tryz.ntmps34]) fun _ => ?_
  simp [Tryz.f34]
  refine adraw3 8 254 [] (by kernel_rfl) rfl byt_32 (by kernel_rfl) (by kernel_rfl) (by kernel_rfl) (by kernel_rfl) (by kernel_rfl) ?_
  simp
  refine adC_of (cfull_af kd a b off wd) (by simp) trivial (by simp) (by simp) ?_
  simp
  refine ⟨by simp [stabL_cons, stab1], ?_⟩
  simp [Cn.d_eq]
  unfold maxLen
  omega
theorem tyUint_af (n : Int) : AF Tryz.prog 155 [aI .i64 n] (tyA 2 n) := by
  refine af_of Tryz.func155 rfl (by kernel_rfl) (by simp [Tryz.ntmps155]) fun _ => ?_; simp [Tryz.f155, Ex.d_eq]
theorem tyInt_af (n : Int) : AF Tryz.prog 156 [aI .i64 n] (tyA 1 n) := by
  refine af_of Tryz.func156 rfl (by kernel_rfl) (by simp [Tryz.ntmps156]) fun _ => ?_; simp [Tryz.f156, Ex.d_eq]
theorem cinteger_ac (b0 : Blk) (L : List Cn) (f : Int) (N : AHeap) (v tk ts : Int) (hl : L.length ≤ 1000000000) :
    AC Tryz.prog 154 [.ptr 1 0 0 0, aI .i64 v, tyA tk ts] (b0 :: bdC L.length f :: arC L :: N)
      (fun r A' => r = .tup [] ∧ ∃ N', A' = b0 :: bdC (L ++ [(⟨1, v, 0, 0, 0, tk, ts⟩ : Cn)]).length f :: arC (L ++ [(⟨1, v, 0, 0, 0, tk, ts⟩ : Cn)]) :: (N ++ N')) := by
  refine ac_of Tryz.func154 rfl (by kernel_rfl) (by simp [Tryz.ntmps154]) fun _ => ?_
  simp [Tryz.f154]
  refine adraw3 9 510 [] (by kernel_rfl) rfl byt_32 (by kernel_rfl) (by kernel_rfl) (by kernel_rfl) (by kernel_rfl) (by kernel_rfl) ?_
  simp
  refine ⟨by simp [stabL_cons, stab1], ?_⟩
  simp [Cn.d_eq]
  unfold maxLen
  omega
theorem cnext_ac (b0 : Blk) (n : Nat) (f : Int) (N : AHeap) (h0 : 0 ≤ f) (h1 : f ≤ 4000000000000000000) :
    AC Tryz.prog 153 [.ptr 1 0 0 0] (b0 :: bdC n f :: N) (fun r A' => r = aI .i64 f ∧ ∃ N', A' = b0 :: bdC n (f + 1) :: (N ++ N')) := by
  refine ac_of Tryz.func153 rfl (by kernel_rfl) (by simp [Tryz.ntmps153]) fun _ => ?_
  simp [Tryz.f153, i64w (n := f + 1) (by omega), i64w (n := f) (by omega)]
theorem i64_i32 (n : Int) : IntKind.i64.wrap (IntKind.i32.wrap n) = IntKind.i32.wrap n := by
  have h : IntKind.i32.wrap n = if 2147483648 ≤ n % 4294967296 then n % 4294967296 - 4294967296 else n % 4294967296 := by simp [IntKind.wrap, IntKind.signed, IntKind.bits]
  rw [i64w]
  rw [h]
  split <;> omega
theorem coffset_af (e : Ex) (hf : formB e = true) : AF Tryz.prog 82 [exA e] (.tup [exA (movP e).1, aI .i64 (movP e).2, aB (movB e)]) := by
  by_cases h : e.op = 3 ∨ e.op = 4
  case neg =>
    have h3 : ¬ e.op = 3 := fun h3 => h (.inl h3)
    have h4 : ¬ e.op = 4 := fun h4 => h (.inr h4)
    have hm : movB e = false := by simp [movB, h3, h4]
    have hp : movP e = (e, 0) := by simp [movP, hm]
    rw [hm, hp]
    refine af_of Tryz.func82 rfl (by kernel_rfl) (by simp [Tryz.ntmps82]) fun _ => ?_; simp [Tryz.f82, Ex.d_eq]
    simp [h3, h4]
  obtain ⟨a, b, he, ha, hb⟩ := form_two hf (by omega) (by omega)
  obtain ⟨o, ho⟩ : ∃ o, e.op = o := ⟨_, rfl⟩
  rw [ho] at h he
  subst he
  have hm : movB (eTwo o a b) = decide (b.op = 1) := by
    have hy : (eTwo o a b).y = b := rfl
    simp only [movB, hy, eTwo_op]
    rcases h with rfl | rfl <;> simp
  have hp : movP (eTwo o a b) = if b.op = 1 then (a, offN (eTwo o a b)) else (eTwo o a b, 0) := by
    unfold movP
    rw [hm]
    by_cases h1 : b.op = 1 <;> simp [h1] <;> rfl
  have hoff : offN (eTwo o a b) = IntKind.i32.wrap (if o = 4 then IntKind.u32.wrap (-b.n) else b.n) := rfl
  rw [hm, hp, hoff]
  by_cases h1 : b.op = 1
  · rcases h with rfl | rfl
    · refine af_of Tryz.func82 rfl (by kernel_rfl) (by simp [Tryz.ntmps82]) fun _ => ?_; simp [Tryz.f82, Ex.d_eq]
      simp [h1, Ex.d_eq, i64_i32]
    · refine af_of Tryz.func82 rfl (by kernel_rfl) (by simp [Tryz.ntmps82]) fun _ => ?_; simp [Tryz.f82, Ex.d_eq]
      simp [h1, Ex.d_eq, i64_i32]
  · rcases h with rfl | rfl
    · refine af_of Tryz.func82 rfl (by kernel_rfl) (by simp [Tryz.ntmps82]) fun _ => ?_; simp [Tryz.f82, Ex.d_eq]
      simp [h1, Ex.d_eq]
    · refine af_of Tryz.func82 rfl (by kernel_rfl) (by simp [Tryz.ntmps82]) fun _ => ?_; simp [Tryz.f82, Ex.d_eq]
      simp [h1, Ex.d_eq]
end Go.Proofs.YtoeimidochjddaaGreatDoor

/- Contract: the constraints of an expression. -/
namespace Go.Proofs.YtoeimidochjddaaGreatDoor
open Go.RowKit
theorem cnL_snoc (F : Int → Ex → List Cn × Int × Int) (f : Int) (l : List Ex) (y : Ex) : cnL F f (l ++ [y]) = ((cnL F f l).1 ++ (F (cnL F f l).2.1 y).1, (F (cnL F f l).2.1 y).2.1, (cnL F f l).2.2 ++ [(F (cnL F f l).2.1 y).2.2]) := by
  induction l generalizing f with
  | nil => simp [cnL]
  | cons a l ih =>
    simp only [List.cons_append, cnL, ih]
    simp [List.append_assoc]
theorem ltC_snoc : ∀ (l : List Ex) (vs : List Int) (y : Ex) (v : Int), vs.length = l.length → ltC (l ++ [y]) (vs ++ [v]) = ltC l vs ++ (if y.op = 1 then [] else [⟨1, v, 0, 0, 0, 1, 4⟩])
  | [], [], y, v, _ => by simp [ltC]
  | x :: l, u :: vs, y, v, h => by
    simp only [List.cons_append, ltC, ltC_snoc l vs y v (by simpa using h)]
    simp [List.append_assoc]
  | [], _ :: _, _, _, h => by simp at h
  | _ :: _, [], _, _, h => by simp at h
abbrev blkV (V : List Int) : Blk := ⟨V.length, true, 3, 1, dEls (i64s V)⟩
set_option maxHeartbeats 0 in
theorem cexpr_ac : ∀ (k : Nat) (x : Ex) (b0 : Blk) (L : List Cn) (f : Int) (N : AHeap), formB x = true → x.nodes ≤ k → 0 ≤ f → f + x.nodes ≤ 4000000000000000000 → L.length + 2 * x.nodes ≤ 1000000000 →
    AC Tryz.prog 81 [.ptr 1 0 0 0, exA x] (b0 :: bdC L.length f :: arC L :: N) (fun r A' => r = aI .i64 (cnF k f x).2.2 ∧ ∃ N', A' = b0 :: bdC (L ++ (cnF k f x).1).length (cnF k f x).2.1 :: arC (L ++ (cnF k f x).1) :: (N ++ N')) := by
  intro k
  induction k with
  | zero => intro x _ _ _ _ _ h; have := x.nodes_pos; omega
  | succ k ih =>
  intro x b0 L f N hf hk h0 hfr hL
  have co := coffset_af x hf
  obtain ⟨R, hR⟩ : ∃ R, cnF (k + 1) f x = R := ⟨_, rfl⟩
  rw [hR]
  unfold cnF at hR
  by_cases h2 : x.op = 2
  · rw [if_pos h2] at hR
    subst hR
    refine ac_of Tryz.func81 rfl (by kernel_rfl) (by simp [Tryz.ntmps81]) fun _ => ?_
    simp [Tryz.f81, Ex.d_eq, h2]
  rw [if_neg h2] at hR
  by_cases hm : movB x = true
  · rw [if_pos hm] at hR
    obtain ⟨y, n, hx, hy, ho, hxx⟩ := mov_parts hf hm
    have hn : x.nodes = y.nodes + 2 := by
      have := congrArg Ex.nodes hx
      simpa using this
    have hp : movP x = (y, offN x) := by rw [movP, if_pos hm, hxx]
    rw [hm, hp] at co
    rw [hxx] at hR
    have r := cnF_like k f y h0 hy (by omega)
    have c1 := ih y b0 L f
    obtain ⟨⟨l1, f1, v1⟩, hq⟩ : ∃ p, cnF k f y = p := ⟨_, rfl⟩
    rw [hq] at hR r
    simp only [hq] at c1
    simp only at hR
    subst hR
    have hlo := r.lo
    have hhi := r.hi
    have hlen := r.len
    simp only at hlo hhi hlen
    refine ac_of Tryz.func81 rfl (by kernel_rfl) (by simp [Tryz.ntmps81]) fun _ => ?_
    simp [Tryz.f81, Ex.d_eq, h2]
    refine aCall_of (co) (by simp) (by simp [Ex.d_eq]) ?_; simp [Ex.d_eq]
    refine aCall_ofc (c1 _ hy (by omega) h0 (by omega) (by omega)) (by simp) ?_
    rintro _ _ ⟨rfl, N1, rfl⟩
    simp
    refine aCall_ofc (cnext_ac b0 _ f1 _ (by omega) (by omega)) (by simp) ?_
    rintro _ _ ⟨rfl, N2, rfl⟩
    simp
    have hl2 : (L ++ l1).length ≤ 1000000000 := by rw [List.length_append]; omega
    have c3 := fun N => cput_ac b0 (L ++ l1) (f1 + 1) N 4 f1 v1 (offN x) 0 hl2
    simp only [List.length_append] at c3
    refine aCall_ofc (c3 _) (by simp) ?_
    rintro _ _ ⟨rfl, N3, rfl⟩
    simp [Nat.add_assoc]
  rw [if_neg hm] at hR
  have hp : movP x = (x, 0) := by rw [movP, if_neg hm]
  have hm' : movB x = false := by simpa using hm
  rw [hm', hp] at co
  by_cases h18 : x.op = 18
  · rw [if_pos h18] at hR
    obtain ⟨a, ha, haf, _⟩ := form_wide hf (.inl h18)
    have hx : x.x = a := by rw [ha]; rfl
    have hn : x.nodes = a.nodes + 1 := by
      have := congrArg Ex.nodes ha
      simpa [Ex.nodes, Ex.nodess] using this
    rw [hx] at hR
    have hxl : x.l = [a] := by rw [ha]; rfl
    have co2 := coffset_af a haf
    have hmn := movP_nodes a
    have hmf := movP_form haf
    obtain ⟨⟨y, of⟩, hy⟩ : ∃ p, movP a = p := ⟨_, rfl⟩
    rw [hy] at hR co2 hmn hmf
    simp only at hR co2 hmn hmf
    have r := cnF_like k f y h0 hmf (by omega)
    have c1 := ih y b0 L f
    obtain ⟨⟨l1, f1, v1⟩, hq⟩ : ∃ p, cnF k f y = p := ⟨_, rfl⟩
    rw [hq] at hR r
    simp only [hq] at c1
    simp only at hR
    subst hR
    have hlo := r.lo
    have hhi := r.hi
    have hlen := r.len
    simp only at hlo hhi hlen
    refine ac_of Tryz.func81 rfl (by kernel_rfl) (by simp [Tryz.ntmps81]) fun _ => ?_
    simp [Tryz.f81, Ex.d_eq, h2]
    refine aCall_of (co) (by simp) (by simp [Ex.d_eq]) ?_; simp [Ex.d_eq]
    simp [h18, hxl, Ex.d_eq]
    refine aCall_of (co2) (by simp) (by simp [Ex.d_eq]) ?_; simp [Ex.d_eq]
    refine aCall_ofc (c1 _ hmf (by omega) h0 (by omega) (by omega)) (by simp) ?_
    rintro _ _ ⟨rfl, N1, rfl⟩
    simp
    refine aCall_ofc (cnext_ac b0 _ f1 _ (by omega) (by omega)) (by simp) ?_
    rintro _ _ ⟨rfl, N2, rfl⟩
    simp
    have hl2 : (L ++ l1).length ≤ 1000000000 := by rw [List.length_append]; omega
    have c3 := fun N => cput_ac b0 (L ++ l1) (f1 + 1) N 2 v1 f1 of x.wd hl2
    simp only [List.length_append] at c3
    refine aCall_ofc (c3 _) (by simp) ?_
    rintro _ _ ⟨rfl, N3, rfl⟩
    simp [Nat.add_assoc]
  rw [if_neg h18] at hR
  have hlen := x.nodes_len
  have n1 : x.l.length ≤ maxLen := by unfold maxLen; omega
  have hne := nodes_eq x
  have hall := (form_all hf).2
  have hlk : ∀ i, CnRL f (x.l.take i) (cnL (cnF k) f (x.l.take i)).1 (cnL (cnF k) f (x.l.take i)).2.1 (cnL (cnF k) f (x.l.take i)).2.2 := fun i =>
    cnL_like (cnF k) (x.l.take i) f h0 fun y hy f hf => cnF_like k f y hf (hall y (List.mem_of_mem_take hy)) (by have := Ex.nodess_mem (List.mem_of_mem_take hy); omega)
  refine ac_of Tryz.func81 rfl (by kernel_rfl) (by simp [Tryz.ntmps81]) fun _ => ?_
  simp [Tryz.f81, Ex.d_eq, h2]
  refine aCall_of (co) (by simp) (by simp [Ex.d_eq]) ?_; simp [Ex.d_eq]
  simp [h18]
  refine aLoop_of (α := Nat) (fun i e A => i ≤ x.l.length ∧ (∃ N', A = b0 :: bdC (L ++ (cnL (cnF k) f (x.l.take i)).1).length (cnL (cnF k) f (x.l.take i)).2.1 :: arC (L ++ (cnL (cnF k) f (x.l.take i)).1) :: (N ++ bxE x :: bxE x :: blkV (cnL (cnF k) f (x.l.take i)).2.2 :: N')) ∧
    e 0 = .ptr 1 0 0 0 ∧ e 3 = .ptr (N.length + 1 + 1 + 1) 0 0 0 ∧ e 15 = .own (N.length + 1 + 1 + 1 + 1 + 1) i 0 i ∧ e 72 = .d (.sl 5 (Ex.ds x.l)) ∧ e 73 = aI .i64 x.l.length ∧ e 74 = aI .i64 i) (fun i => x.l.length - i) 0
    ((Sub.ghost 0 3 1).trans (Sub.slot (s := 15) (c := .own (N.length + 1 + 1 + 1 + 1 + 1) 0 0 0) ?_))
    ⟨by omega, ⟨[], by simp [cnL]⟩, by simp, by simp, by simp, by simp, by simp, by simp⟩ ?_
  · simp
    exact VLe.nil_own (k := ⟨0, true, 3, 1, []⟩) (by simp) rfl
  rintro i e A ⟨hi, ⟨N', rfl⟩, e0, e3, e15, e72, e73, e74⟩ K hK
  have hr := hlk i
  rcases Nat.lt_or_ge i x.l.length with hlt | hge
  case inl =>
    obtain ⟨y, hy⟩ : ∃ y, x.l[i]? = some y := ⟨_, List.getElem?_eq_getElem hlt⟩
    have hy2 := (List.getElem?_eq_some_iff.1 hy).2
    have hym := List.mem_of_getElem? hy
    have hts : x.l.take (i + 1) = x.l.take i ++ [y] := by rw [List.take_add_one, hy]; rfl
    have hsn := cnL_snoc (cnF k) f (x.l.take i) y
    rw [← hts] at hsn
    have hte := nodess_take hy
    have hle := nodess_take_le x.l (i + 1)
    obtain ⟨⟨lc, fc, V⟩, hq⟩ : ∃ p, cnL (cnF k) f (x.l.take i) = p := ⟨_, rfl⟩
    rw [hq] at hr hsn ⊢
    simp only at hsn
    have hrlo := hr.lo
    have hrhi := hr.hi
    have hrlen := hr.len
    have hvl := hr.vl
    simp only [List.length_take] at hrlo hrhi hrlen hvl
    have hVl : V.length = i := by omega
    have c1 := ih y b0 (L ++ lc) fc
    simp only [List.length_append] at c1
    have hmn := Ex.nodess_mem hym
    simp [e72, e73, e74, hlt, hy, hy2, Ex.d_eq, e15, e0]
    refine aCall_ofc (c1 _ (hall y hym) (by omega) (by omega) (by omega) (by omega)) (by simp) ?_
    rintro _ _ ⟨rfl, N1, rfl⟩
    simp [e15, hVl]
    refine aRaw_app byt_27 ?_
    simp [e15, hVl]
    refine ⟨by unfold maxLen; omega, by omega, ?_⟩
    simp [e74, succ_wrap hlt n1]
    refine hK (i + 1) _ _ _ _ (Sub.refl _ _ _) ⟨by omega, ⟨N' ++ bxE y :: (N1 ++ [⟨0, true, 3, 1, [[aI .i64 (cnF k fc y).2.2]]⟩]), by rw [hsn]; simp [hVl, Nat.add_assoc]⟩, by simp [e0], by simp [e3], by simp, by simp [e72], by simp [e73], by simp⟩ (by omega)
  obtain rfl : i = x.l.length := by omega
  rw [List.take_length] at hr ⊢
  clear hK hlk ih
  obtain ⟨⟨lc, fc, V⟩, hq⟩ : ∃ p, cnL (cnF k) f x.l = p := ⟨_, rfl⟩
  rw [hq] at hr hR ⊢
  simp only at hr hR
  have hrlo := hr.lo
  have hrhi := hr.hi
  have hrlen := hr.len
  have hvl := hr.vl
  have hl2 : (L ++ lc).length ≤ 1000000000 := by rw [List.length_append]; omega
  have ci := fun N v tk ts => cinteger_ac b0 (L ++ lc) (fc + 1) N v tk ts hl2
  simp only [List.length_append] at ci
  simp [e72, e73, e74, e0]
  refine aCall_ofc (cnext_ac b0 _ fc _ (by omega) (by omega)) (by simp) ?_
  rintro _ _ ⟨rfl, N1, rfl⟩
  have hop : x.op = 5 ∨ x.op = 9 ∨ x.op = 11 ∨ x.op = 17 ∨ x.op = 19 ∨ x.op = 14 ∨ (¬ x.op = 5 ∧ ¬ x.op = 9 ∧ ¬ x.op = 11 ∧ ¬ x.op = 17 ∧ ¬ x.op = 19 ∧ ¬ x.op = 14) := by omega
  rcases hop with h | h | h | h | h | h | ⟨o5, o9, o11, o17, o19, o14⟩
  · have ht : typC x fc V = [⟨1, fc, 0, 0, 0, 2, 4⟩] := by simp [typC, h]
    rw [ht] at hR
    subst hR
    simp [e0, e3, h]
    refine aCall_of (tyUint_af 4) (by simp) (by simp [Ex.d_eq]) ?_; simp [Ex.d_eq]
    refine aCall_ofc (ci _ fc 2 4) (by simp) ?_
    rintro _ _ ⟨rfl, N2, rfl⟩
    simp [e0, e3, h, Nat.add_assoc]
  · have ht : typC x fc V = [⟨1, fc, 0, 0, 0, 2, 4⟩] := by simp [typC, h]
    rw [ht] at hR
    subst hR
    simp [e0, e3, h]
    refine aCall_of (tyUint_af 4) (by simp) (by simp [Ex.d_eq]) ?_; simp [Ex.d_eq]
    refine aCall_ofc (ci _ fc 2 4) (by simp) ?_
    rintro _ _ ⟨rfl, N2, rfl⟩
    simp [e0, e3, h, Nat.add_assoc]
  · have ht : typC x fc V = [⟨1, fc, 0, 0, 0, 1, 4⟩] := by simp [typC, h]
    rw [ht] at hR
    subst hR
    simp [e0, e3, h]
    refine aCall_of (tyInt_af 4) (by simp) (by simp [Ex.d_eq]) ?_; simp [Ex.d_eq]
    refine aCall_ofc (ci _ fc 1 4) (by simp) ?_
    rintro _ _ ⟨rfl, N2, rfl⟩
    simp [e0, e3, h, Nat.add_assoc]
  · have ht : typC x fc V = [⟨1, fc, 0, 0, 0, 1, 4⟩] := by simp [typC, h]
    rw [ht] at hR
    subst hR
    simp [e0, e3, h]
    refine aCall_of (tyInt_af 4) (by simp) (by simp [Ex.d_eq]) ?_; simp [Ex.d_eq]
    refine aCall_ofc (ci _ fc 1 4) (by simp) ?_
    rintro _ _ ⟨rfl, N2, rfl⟩
    simp [e0, e3, h, Nat.add_assoc]
  · have ht : typC x fc V = [⟨1, fc, 0, 0, 0, 1, 4⟩] := by simp [typC, h]
    rw [ht] at hR
    subst hR
    simp [e0, e3, h]
    refine aCall_of (tyInt_af 4) (by simp) (by simp [Ex.d_eq]) ?_; simp [Ex.d_eq]
    refine aCall_ofc (ci _ fc 1 4) (by simp) ?_
    rintro _ _ ⟨rfl, N2, rfl⟩
    simp [e0, e3, h, Nat.add_assoc]
  · have ht : typC x fc V = ltC x.l V := by simp [typC, h]
    rw [ht] at hR
    subst hR
    have hx2 : x.l.length ≤ 2 := by
      obtain ⟨a, b, hab, _⟩ := form_two hf (by omega) (by omega)
      rw [hab]
      simp
    simp [e0, e3, e15, h]
    refine aLoop_of (α := Nat) (fun i e A => i ≤ x.l.length ∧ (∃ N', A = b0 :: bdC (L ++ (lc ++ ltC (x.l.take i) (V.take i))).length (fc + 1) :: arC (L ++ (lc ++ ltC (x.l.take i) (V.take i))) :: (N ++ bxE x :: bxE x :: blkV V :: N')) ∧
      e 0 = .ptr 1 0 0 0 ∧ e 15 = .own (N.length + 1 + 1 + 1 + 1 + 1) V.length 0 V.length ∧ e 18 = aI .i64 fc ∧ e 107 = .d (.sl 5 (Ex.ds x.l)) ∧ e 108 = aI .i64 x.l.length ∧ e 109 = aI .i64 i) (fun i => x.l.length - i) 0
      (Sub.refl _ _ _) ⟨by omega, ⟨N' ++ N1, by simp [ltC]⟩, by simp [e0], by simp [e15, hvl], by simp, by simp, by simp, by simp⟩ ?_
    rintro i e A ⟨hi, ⟨N2, rfl⟩, e0, e15, e18, e107, e108, e109⟩ K hK
    rcases Nat.lt_or_ge i x.l.length with hlt | hge
    case inr =>
      obtain rfl : i = x.l.length := by omega
      have hVt : V.take x.l.length = V := List.take_of_length_le (by omega)
      rw [List.take_length, hVt]
      simp [e107, e108, e109, e18]
    obtain ⟨y, hy⟩ : ∃ y, x.l[i]? = some y := ⟨_, List.getElem?_eq_getElem hlt⟩
    have hy2 := (List.getElem?_eq_some_iff.1 hy).2
    obtain ⟨v, hv⟩ : ∃ v, V[i]? = some v := ⟨_, List.getElem?_eq_getElem (by omega)⟩
    have hv2 := (List.getElem?_eq_some_iff.1 hv).2
    have hltV : i < V.length := by omega
    have hsn : ltC (x.l.take (i + 1)) (V.take (i + 1)) = ltC (x.l.take i) (V.take i) ++ (if y.op = 1 then [] else [⟨1, v, 0, 0, 0, 1, 4⟩]) := by
      rw [show x.l.take (i + 1) = x.l.take i ++ [y] by rw [List.take_add_one, hy]; rfl, show V.take (i + 1) = V.take i ++ [v] by rw [List.take_add_one, hv]; rfl]
      exact ltC_snoc _ _ _ _ (by simp; omega)
    have hll : (ltC (x.l.take i) (V.take i)).length ≤ i := by
      have := (ltC_like (x.l.take i) (V.take i) fun u hu => hr.v0 u (List.mem_of_mem_take hu)).2.2.2.2
      simp at this
      omega
    obtain ⟨Q, hQ⟩ : ∃ Q, ltC (x.l.take i) (V.take i) = Q := ⟨_, rfl⟩
    rw [hQ] at hsn hll ⊢
    have hl3 : (L ++ (lc ++ Q)).length ≤ 1000000000 := by simp only [List.length_append]; omega
    have ci := fun N => cinteger_ac b0 (L ++ (lc ++ Q)) (fc + 1) N v 1 4 hl3
    simp only [List.length_append] at ci
    simp [e107, e108, e109, hlt, hy, hy2, Ex.d_eq]
    by_cases hy1 : y.op = 1
    · rw [if_pos hy1, List.append_nil] at hsn
      simp [hy1, e109, succ_wrap hlt n1]
      refine hK (i + 1) _ _ _ _ (Sub.refl _ _ _) ⟨by omega, ⟨N2 ++ [bxE y], by rw [hsn]; simp [hy1]⟩, by simp [e0], by simp [e15], by simp [e18], by simp [e107], by simp [e108], by simp⟩ (by omega)
    · rw [if_neg hy1] at hsn
      simp [hy1]
      refine adraw2 6 [] (by kernel_rfl) (by kernel_rfl) (by kernel_rfl) (by kernel_rfl) (by kernel_rfl) ?_
      simp [e0, e15, hltV, hv, hv2]
      refine ⟨by omega, ?_⟩
      refine adC_of (tyInt_af 4) (by simp) trivial (by simp) (by simp) ?_
      simp
      refine aCall_ofc (ci _) (by simp) ?_
      rintro _ _ ⟨rfl, N3, rfl⟩
      simp [e109, succ_wrap hlt n1]
      refine hK (i + 1) _ _ _ _ (Sub.refl _ _ _) ⟨by omega, ⟨N2 ++ bxE y :: N3, by rw [hsn]; simp [Nat.add_assoc]⟩, by simp [e0], by simp [e15], by simp [e18], by simp [e107], by simp [e108], by simp⟩ (by omega)
  · have ht : typC x fc V = [] := by simp [typC, o5, o9, o11, o17, o19, o14]
    rw [ht, List.append_nil] at hR
    subst hR
    simp [e0, e3, o5, o9, o11, o17, o19, o14]
end Go.Proofs.YtoeimidochjddaaGreatDoor

/- Contracts: the constraints of a statement. -/
namespace Go.Proofs.YtoeimidochjddaaGreatDoor
open Go.RowKit
/-- The constraints of any statement. -/
def stC (k : Nat) (f : Int) (s : St) : List Cn × Int := if stErr s = 0 then cnS k f s else ([], f)
theorem st_kinds {s : St} (h : stErr s = 0) : (s.op = 1 ∧ ∃ a, s.e = [a] ∧ formB a = true) ∨ (s.op = 2 ∧ ∃ a b, s.e = [a, b] ∧ formB a = true ∧ formB b = true) ∨ (s.op ≠ 1 ∧ s.op ≠ 2 ∧ s.op ≠ 4 ∧ s.op ≠ 7 ∧ s.op ≠ 8 ∧ s.e = []) ∨ ((s.op = 4 ∨ s.op = 7 ∨ s.op = 8) ∧ ∃ a, s.e = [a] ∧ formB a = true) := by
  obtain ⟨h1, h2, _⟩ := stErr_ok h
  by_cases o1 : s.op = 1
  · left
    refine ⟨o1, ?_⟩
    rw [o1] at h1
    simp [exprsN] at h1
    obtain ⟨a, ha⟩ := List.length_eq_one_iff.1 (show s.e.length = 1 by omega)
    exact ⟨a, ha, (h2 a (by rw [ha]; simp)).2⟩
  by_cases o2 : s.op = 2
  · right; left
    refine ⟨o2, ?_⟩
    rw [o2] at h1
    simp [exprsN] at h1
    match he : s.e with
    | [] => rw [he] at h1; simp at h1
    | [_] => rw [he] at h1; simp at h1
    | [a, b] => exact ⟨a, b, rfl, (h2 a (by rw [he]; simp)).2, (h2 b (by rw [he]; simp)).2⟩
    | _ :: _ :: _ :: _ => rw [he] at h1; simp at h1; omega
  by_cases o4 : s.op = 4 ∨ s.op = 7 ∨ s.op = 8
  · right; right; right
    refine ⟨o4, ?_⟩
    unfold exprsN at h1
    rw [if_pos (by omega)] at h1
    obtain ⟨a, ha⟩ := List.length_eq_one_iff.1 (show s.e.length = 1 by omega)
    exact ⟨a, ha, (h2 a (by rw [ha]; simp)).2⟩
  right; right; left
  refine ⟨o1, o2, by omega, by omega, by omega, ?_⟩
  unfold exprsN at h1
  rw [if_neg (by omega), if_neg o2] at h1
  split at h1
  · exact List.length_eq_zero_iff.1 (by omega)
  · omega
set_option maxHeartbeats 0 in
theorem cstmt_ac (k : Nat) (s : St) (b0 : Blk) (L : List Cn) (f : Int) (N : AHeap) (hs : stErr s = 0) (hk : Ex.nodess s.e ≤ k) (h0 : 0 ≤ f) (hfr : f + Ex.nodess s.e ≤ 4000000000000000000) (hL : L.length + 2 * Ex.nodess s.e + 1 ≤ 1000000000) :
    AC Tryz.prog 35 [.ptr 1 0 0 0, stV s] (b0 :: bdC L.length f :: arC L :: N) (fun r A' => r = .tup [] ∧ ∃ N', A' = b0 :: bdC (L ++ (cnS k f s).1).length (cnS k f s).2 :: arC (L ++ (cnS k f s).1) :: (N ++ N')) := by
  rcases st_kinds hs with ⟨o1, a, ha, haf⟩ | ⟨o2, a, b, ha, haf, hbf⟩ | ⟨o1, o2, o4, o7, o8, ha⟩ | ⟨ho, a, ha, haf⟩
  · rw [ha] at hk hfr hL
    simp only [Ex.nodess, Nat.add_zero] at hk hfr hL
    obtain ⟨R, hR⟩ : ∃ R, cnS k f s = R := ⟨_, rfl⟩
    rw [hR]
    rw [cnS, o1, ha] at hR
    simp only at hR
    have r := cnF_like k f a h0 haf (by omega)
    have c1 := cexpr_ac k a b0 L f
    obtain ⟨⟨l1, f1, v1⟩, hq⟩ : ∃ p, cnF k f a = p := ⟨_, rfl⟩
    rw [hq] at hR r
    simp only [hq] at c1
    simp only at hR
    have hlen := r.len
    simp only at hlen
    refine ac_of Tryz.func35 rfl (by kernel_rfl) (by simp [Tryz.ntmps35]) fun _ => ?_
    simp [Tryz.f35, St.d_eq, o1, ha, Ex.d_eq]
    refine aCall_ofc (c1 _ haf (by omega) h0 (by omega) (by omega)) (by simp) ?_
    rintro _ _ ⟨rfl, N1, rfl⟩
    have hl2 : (L ++ l1).length ≤ 1000000000 := by rw [List.length_append]; omega
    have c3 := fun N => cput_ac b0 (L ++ l1) f1 N 0 v1 s.va 0 0 hl2
    simp only [List.length_append] at c3
    by_cases h1 : a.op = 1
    · rw [if_pos h1, List.append_nil] at hR
      subst hR
      simp [ha, h1, Ex.d_eq]
    · rw [if_neg h1] at hR
      subst hR
      simp [ha, h1, Ex.d_eq]
      refine aCall_ofc (c3 _) (by simp) ?_
      rintro _ _ ⟨rfl, N2, rfl⟩
      simp [Nat.add_assoc]
  · rw [ha] at hk hfr hL
    simp only [Ex.nodess, Nat.add_zero] at hk hfr hL
    obtain ⟨R, hR⟩ : ∃ R, cnS k f s = R := ⟨_, rfl⟩
    rw [hR]
    rw [cnS, o2, ha] at hR
    simp only at hR
    have co := coffset_af a haf
    have hmn := movP_nodes a
    have hmf := movP_form haf
    obtain ⟨⟨y, of⟩, hy⟩ : ∃ p, movP a = p := ⟨_, rfl⟩
    rw [hy] at hR co hmn hmf
    simp only at hR co hmn hmf
    have r := cnF_like k f y h0 hmf (by omega)
    have c1 := cexpr_ac k y b0 L f
    obtain ⟨⟨l1, f1, v1⟩, hq⟩ : ∃ p, cnF k f y = p := ⟨_, rfl⟩
    rw [hq] at hR r
    simp only [hq] at c1
    simp only at hR
    have hlo := r.lo
    have hhi := r.hi
    have hlen := r.len
    simp only at hlo hhi hlen
    have r2 := cnF_like k f1 b (by omega) hbf (by omega)
    have c2 := cexpr_ac k b b0 (L ++ l1) f1
    obtain ⟨⟨l2, f2, v2⟩, hq2⟩ : ∃ p, cnF k f1 b = p := ⟨_, rfl⟩
    rw [hq2] at hR r2
    simp only [hq2] at c2
    simp only at hR
    have hlen2 := r2.len
    simp only at hlen2
    subst hR
    have hl3 : (L ++ (l1 ++ l2)).length ≤ 1000000000 := by simp only [List.length_append]; omega
    have c3 := fun N => cput_ac b0 (L ++ (l1 ++ l2)) f2 N 3 v1 v2 of s.wd hl3
    simp only [List.length_append] at c2
    simp only [show (L ++ (l1 ++ l2)).length = L.length + l1.length + l2.length by simp only [List.length_append]; omega] at c3
    refine ac_of Tryz.func35 rfl (by kernel_rfl) (by simp [Tryz.ntmps35]) fun _ => ?_
    simp [Tryz.f35, St.d_eq, o2, ha, Ex.d_eq]
    refine aCall_of (co) (by simp) (by simp [Ex.d_eq]) ?_; simp [Ex.d_eq]
    refine aCall_ofc (c1 _ hmf (by omega) h0 (by omega) (by omega)) (by simp) ?_
    rintro _ _ ⟨rfl, N1, rfl⟩
    simp [ha, Ex.d_eq]
    refine aCall_ofc (c2 _ hbf (by omega) (by omega) (by omega) (by omega)) (by simp) ?_
    rintro _ _ ⟨rfl, N2, rfl⟩
    simp
    refine aCall_ofc (c3 _) (by simp) ?_
    rintro _ _ ⟨rfl, N3, rfl⟩
    simp [Nat.add_assoc]
  · have hR : cnS k f s = ([], f) := by
      unfold cnS
      split
      · exact absurd ‹s.op = 1› o1
      · exact absurd ‹s.op = 2› o2
      · rw [ha]; rfl
    rw [hR]
    refine ac_of Tryz.func35 rfl (by kernel_rfl) (by simp [Tryz.ntmps35]) fun _ => ?_
    simp [Tryz.f35, St.d_eq, o1, o2, ha]
    refine aLoop_iter 1 ?_; simp [Ex.d_eq]
  · rw [ha] at hk hfr hL
    simp only [Ex.nodess, Nat.add_zero] at hk hfr hL
    have o1 : s.op ≠ 1 := by omega
    have o2 : s.op ≠ 2 := by omega
    have hR : cnS k f s = ((cnF k f a).1, (cnF k f a).2.1) := by
      unfold cnS
      split
      · exact absurd ‹s.op = 1› o1
      · exact absurd ‹s.op = 2› o2
      · rw [ha]; simp [cnL]
    have c1 := cexpr_ac k a b0 L f
    obtain ⟨⟨l1, f1, v1⟩, hq⟩ : ∃ p, cnF k f a = p := ⟨_, rfl⟩
    rw [hq] at hR
    rw [hR]
    simp only [hq] at c1
    refine ac_of Tryz.func35 rfl (by kernel_rfl) (by simp [Tryz.ntmps35]) fun _ => ?_
    simp [Tryz.f35, St.d_eq, o1, o2, ha, Ex.d_eq]
    refine aLoop_iter 2 ?_; simp [Ex.d_eq]
    refine aCall_ofc (c1 _ haf (by omega) h0 (by omega) (by omega)) (by simp) ?_
    rintro _ _ ⟨rfl, N1, rfl⟩
    simp
theorem cStmt_af (k : Nat) (s : St) (f : Int) (hl : s.e.length ≤ 1000000) (hf : StFit s) (hn : Ex.nodess s.e ≤ 100000) (hk : Ex.nodess s.e ≤ k) (h0 : 0 ≤ f) (h1 : f ≤ 100000000) : AF Tryz.prog 25 [stV s, aI .i64 f] (.tup [.d (.sl 10 (cns (stC k f s).1)), aI .i64 (stC k f s).2]) := by
  have cp := ilprintst_af s hl hf fun e he => by have := Ex.nodess_mem he; omega
  obtain ⟨R, hR⟩ : ∃ R, stC k f s = R := ⟨_, rfl⟩
  rw [hR]
  unfold stC at hR
  by_cases hs : stErr s = 0
  case neg =>
    rw [if_neg hs] at hR
    subst hR
    have hp : prSt s = [] := by unfold prSt; rw [if_neg hs]
    rw [hp] at cp
    refine af_of Tryz.func25 rfl (by kernel_rfl) (by simp [Tryz.ntmps25]) fun _ => ?_; simp [Tryz.f25, Ex.d_eq]
    refine aCall_of (cp) (by simp) (by simp [Ex.d_eq]) ?_; simp [Ex.d_eq]
  rw [if_pos hs] at hR
  have hpe : (bs (prSt s)).toList.isEmpty = false := by
    have h1 : prSt s = xSt s := by unfold prSt; rw [if_pos hs]
    have h2 := xSt_ne s
    rw [h1]
    simpa using h2
  obtain ⟨P, hP⟩ : ∃ P, bs (prSt s) = P := ⟨_, rfl⟩
  rw [hP] at cp hpe
  refine af_of Tryz.func25 rfl (by kernel_rfl) (by simp [Tryz.ntmps25]) fun _ => ?_; simp [Tryz.f25, Ex.d_eq]
  refine aCall_of (cp) (by simp) (by simp [Ex.d_eq]) ?_; simp [Ex.d_eq]
  simp [hpe]
  have hv := cstmt_ac k s ⟨0, true, 81, 8, [[aI .i64 s.op, aI .i64 s.va, aI .i64 s.wd, aI .i64 s.nx, aI .i64 s.el, aI .u32 s.tg, .d (.sl 5 (Ex.ds s.e)), .d (.sl 1 (i64s s.cs))]]⟩ [] f [] hs hk h0 (by omega) (by simp; omega)
  rw [hR] at hv
  refine aCall_ofc (AC.pre (Sub.trans (Sub.ghost 0 88 10) (Sub.cell (b := 1) (i := 0) (o := 0) (c' := .own 2 0 0 0) rfl rfl rfl (VLe.nil_own (k := ⟨0, true, 88, 10, []⟩) rfl rfl))) (args' := [.ptr 1 0 0 0, stV s]) ?_ hv) (by simp) ?_
  · rfl
  · rintro _ _ ⟨rfl, N', rfl⟩
    simp
    refine adraw [] (by kernel_rfl) (by kernel_rfl) (by kernel_rfl) (by kernel_rfl) ?_; simp [Ex.d_eq]
    try simp
end Go.Proofs.YtoeimidochjddaaGreatDoor

/- Contracts: the reference's maker of layer 32: add, integer, next; moved (printed by gen_ug.py). -/
namespace Go.Proofs.YtoeimidochjddaaGreatDoor
open Go.RowKit
abbrev bdQ (n : Nat) (f : Int) : Blk := ⟨0, true, 100, 2, [[.own 2 n 0 n, aI .i64 f]]⟩
abbrev arQ (L : List Cn) : Blk := ⟨L.length, true, 102, 10, dEls (cns L)⟩
theorem q32add_ac (b0 : Blk) (L : List Cn) (f : Int) (N : AHeap) (c : Cn) (hl : L.length ≤ 1000000000) :
    AC Tryz.prog 38 [.ptr 1 0 0 0, cnA c] (b0 :: bdQ L.length f :: arQ L :: N)
      (fun r A' => r = .tup [] ∧ ∃ N', A' = b0 :: bdQ (L ++ [(c : Cn)]).length f :: arQ (L ++ [(c : Cn)]) :: (N ++ N')) := by
  refine ac_of Tryz.func38 rfl (by kernel_rfl) (by simp [Tryz.ntmps38]) fun _ => ?_
  simp [Tryz.f38]
  refine adraw3 7 126 [] (by kernel_rfl) rfl byt_36 (by kernel_rfl) (by kernel_rfl) (by kernel_rfl) (by kernel_rfl) (by kernel_rfl) ?_
  simp
  refine ⟨by simp [stabL_cons, stab1], ?_⟩
  simp [Cn.d_eq]
  unfold maxLen
  omega
theorem q32integer_ac (b0 : Blk) (L : List Cn) (f : Int) (N : AHeap) (v tk : Int) (hl : L.length ≤ 1000000000) :
    AC Tryz.prog 164 [.ptr 1 0 0 0, aI .i64 v, aI .i64 tk] (b0 :: bdQ L.length f :: arQ L :: N)
      (fun r A' => r = .tup [] ∧ ∃ N', A' = b0 :: bdQ (L ++ [(⟨1, v, 0, 0, 0, tk, 4⟩ : Cn)]).length f :: arQ (L ++ [(⟨1, v, 0, 0, 0, tk, 4⟩ : Cn)]) :: (N ++ N')) := by
  refine ac_of Tryz.func164 rfl (by kernel_rfl) (by simp [Tryz.ntmps164]) fun _ => ?_
  simp [Tryz.f164]
  refine aCall_ofc (q32add_ac b0 L f N ⟨1, v, 0, 0, 0, tk, 4⟩ hl) (by simp) ?_
  rintro _ _ ⟨rfl, N', rfl⟩
  simp
theorem q32next_ac (b0 : Blk) (n : Nat) (f : Int) (N : AHeap) (h0 : 0 ≤ f) (h1 : f ≤ 4000000000000000000) :
    AC Tryz.prog 163 [.ptr 1 0 0 0] (b0 :: bdQ n f :: N) (fun r A' => r = aI .i64 f ∧ ∃ N', A' = b0 :: bdQ n (f + 1) :: (N ++ N')) := by
  refine ac_of Tryz.func163 rfl (by kernel_rfl) (by simp [Tryz.ntmps163]) fun _ => ?_
  simp [Tryz.f163, i64w (n := f + 1) (by omega), i64w (n := f) (by omega)]
theorem q32moved_af (e : Ex) (hf : formB e = true) : AF Tryz.prog 87 [exA e] (.tup [exA (movP e).1, aI .i64 (movP e).2, aB (movB e)]) := by
  by_cases h : e.op = 3 ∨ e.op = 4
  case neg =>
    have h3 : ¬ e.op = 3 := fun h3 => h (.inl h3)
    have h4 : ¬ e.op = 4 := fun h4 => h (.inr h4)
    have hm : movB e = false := by simp [movB, h3, h4]
    have hp : movP e = (e, 0) := by simp [movP, hm]
    rw [hm, hp]
    refine af_of Tryz.func87 rfl (by kernel_rfl) (by simp [Tryz.ntmps87]) fun _ => ?_; simp [Tryz.f87, Ex.d_eq]
    simp [h3, h4]
  obtain ⟨a, b, he, ha, hb⟩ := form_two hf (by omega) (by omega)
  obtain ⟨o, ho⟩ : ∃ o, e.op = o := ⟨_, rfl⟩
  rw [ho] at h he
  subst he
  have hm : movB (eTwo o a b) = decide (b.op = 1) := by
    have hy : (eTwo o a b).y = b := rfl
    simp only [movB, hy, eTwo_op]
    rcases h with rfl | rfl <;> simp
  have hp : movP (eTwo o a b) = if b.op = 1 then (a, offN (eTwo o a b)) else (eTwo o a b, 0) := by
    unfold movP
    rw [hm]
    by_cases h1 : b.op = 1 <;> simp [h1] <;> rfl
  have hoff : offN (eTwo o a b) = IntKind.i32.wrap (if o = 4 then IntKind.u32.wrap (-b.n) else b.n) := rfl
  rw [hm, hp, hoff]
  by_cases h1 : b.op = 1
  · rcases h with rfl | rfl
    · refine af_of Tryz.func87 rfl (by kernel_rfl) (by simp [Tryz.ntmps87]) fun _ => ?_; simp [Tryz.f87, Ex.d_eq]
      simp [h1, Ex.d_eq, i64_i32]
    · refine af_of Tryz.func87 rfl (by kernel_rfl) (by simp [Tryz.ntmps87]) fun _ => ?_; simp [Tryz.f87, Ex.d_eq]
      simp [h1, Ex.d_eq, i64_i32]
  · rcases h with rfl | rfl
    · refine af_of Tryz.func87 rfl (by kernel_rfl) (by simp [Tryz.ntmps87]) fun _ => ?_; simp [Tryz.f87, Ex.d_eq]
      simp [h1, Ex.d_eq]
    · refine af_of Tryz.func87 rfl (by kernel_rfl) (by simp [Tryz.ntmps87]) fun _ => ?_; simp [Tryz.f87, Ex.d_eq]
      simp [h1, Ex.d_eq]
end Go.Proofs.YtoeimidochjddaaGreatDoor

/- Contract: the constraints of an expression, by the reference (printed by gen_ug.py). -/
namespace Go.Proofs.YtoeimidochjddaaGreatDoor
open Go.RowKit
set_option maxHeartbeats 0 in
theorem q32expr_ac : ∀ (k : Nat) (x : Ex) (b0 : Blk) (L : List Cn) (f : Int) (N : AHeap), formB x = true → x.nodes ≤ k → 0 ≤ f → f + x.nodes ≤ 4000000000000000000 → L.length + 2 * x.nodes ≤ 1000000000 →
    AC Tryz.prog 86 [.ptr 1 0 0 0, exA x] (b0 :: bdQ L.length f :: arQ L :: N) (fun r A' => r = aI .i64 (cnF k f x).2.2 ∧ ∃ N', A' = b0 :: bdQ (L ++ (cnF k f x).1).length (cnF k f x).2.1 :: arQ (L ++ (cnF k f x).1) :: (N ++ N')) := by
  intro k
  induction k with
  | zero => intro x _ _ _ _ _ h; have := x.nodes_pos; omega
  | succ k ih =>
  intro x b0 L f N hf hk h0 hfr hL
  have co := q32moved_af x hf
  obtain ⟨R, hR⟩ : ∃ R, cnF (k + 1) f x = R := ⟨_, rfl⟩
  rw [hR]
  unfold cnF at hR
  by_cases h2 : x.op = 2
  · rw [if_pos h2] at hR
    subst hR
    refine ac_of Tryz.func86 rfl (by kernel_rfl) (by simp [Tryz.ntmps86]) fun _ => ?_
    simp [Tryz.f86, Ex.d_eq, h2]
  rw [if_neg h2] at hR
  by_cases hm : movB x = true
  · rw [if_pos hm] at hR
    obtain ⟨y, n, hx, hy, ho, hxx⟩ := mov_parts hf hm
    have hn : x.nodes = y.nodes + 2 := by
      have := congrArg Ex.nodes hx
      simpa using this
    have hp : movP x = (y, offN x) := by rw [movP, if_pos hm, hxx]
    rw [hm, hp] at co
    rw [hxx] at hR
    have r := cnF_like k f y h0 hy (by omega)
    have c1 := ih y b0 L f
    obtain ⟨⟨l1, f1, v1⟩, hq⟩ : ∃ p, cnF k f y = p := ⟨_, rfl⟩
    rw [hq] at hR r
    simp only [hq] at c1
    simp only at hR
    subst hR
    have hlo := r.lo
    have hhi := r.hi
    have hlen := r.len
    simp only at hlo hhi hlen
    refine ac_of Tryz.func86 rfl (by kernel_rfl) (by simp [Tryz.ntmps86]) fun _ => ?_
    simp [Tryz.f86, Ex.d_eq, h2, show ¬ x.op = 18 by omega]
    refine aCall_of (co) (by simp) (by simp [Ex.d_eq]) ?_; simp [Ex.d_eq]
    refine aCall_ofc (c1 _ hy (by omega) h0 (by omega) (by omega)) (by simp) ?_
    rintro _ _ ⟨rfl, N1, rfl⟩
    simp
    refine aCall_ofc (q32next_ac b0 _ f1 _ (by omega) (by omega)) (by simp) ?_
    rintro _ _ ⟨rfl, N2, rfl⟩
    simp
    have hl2 : (L ++ l1).length ≤ 1000000000 := by rw [List.length_append]; omega
    have c3 := fun N => q32add_ac b0 (L ++ l1) (f1 + 1) N ⟨4, f1, v1, offN x, 0, 0, 0⟩ hl2
    simp only [List.length_append] at c3
    refine aCall_ofc (c3 _) (by simp) ?_
    rintro _ _ ⟨rfl, N3, rfl⟩
    simp [Nat.add_assoc]
  rw [if_neg hm] at hR
  have hp : movP x = (x, 0) := by rw [movP, if_neg hm]
  have hm' : movB x = false := by simpa using hm
  rw [hm', hp] at co
  by_cases h18 : x.op = 18
  · rw [if_pos h18] at hR
    obtain ⟨a, ha, haf, _⟩ := form_wide hf (.inl h18)
    have hx : x.x = a := by rw [ha]; rfl
    have hn : x.nodes = a.nodes + 1 := by
      have := congrArg Ex.nodes ha
      simpa [Ex.nodes, Ex.nodess] using this
    rw [hx] at hR
    have hxl : x.l = [a] := by rw [ha]; rfl
    have co2 := q32moved_af a haf
    have hmn := movP_nodes a
    have hmf := movP_form haf
    obtain ⟨⟨y, of⟩, hy⟩ : ∃ p, movP a = p := ⟨_, rfl⟩
    rw [hy] at hR co2 hmn hmf
    simp only at hR co2 hmn hmf
    have r := cnF_like k f y h0 hmf (by omega)
    have c1 := ih y b0 L f
    obtain ⟨⟨l1, f1, v1⟩, hq⟩ : ∃ p, cnF k f y = p := ⟨_, rfl⟩
    rw [hq] at hR r
    simp only [hq] at c1
    simp only at hR
    subst hR
    have hlo := r.lo
    have hhi := r.hi
    have hlen := r.len
    simp only at hlo hhi hlen
    refine ac_of Tryz.func86 rfl (by kernel_rfl) (by simp [Tryz.ntmps86]) fun _ => ?_
    simp [Tryz.f86, Ex.d_eq, h2, h18, hxl]
    refine aCall_of (co2) (by simp) (by simp [Ex.d_eq]) ?_; simp [Ex.d_eq]
    refine aCall_ofc (c1 _ hmf (by omega) h0 (by omega) (by omega)) (by simp) ?_
    rintro _ _ ⟨rfl, N1, rfl⟩
    simp
    refine aCall_ofc (q32next_ac b0 _ f1 _ (by omega) (by omega)) (by simp) ?_
    rintro _ _ ⟨rfl, N2, rfl⟩
    simp
    have hl2 : (L ++ l1).length ≤ 1000000000 := by rw [List.length_append]; omega
    have c3 := fun N => q32add_ac b0 (L ++ l1) (f1 + 1) N ⟨2, v1, f1, of, x.wd, 0, 0⟩ hl2
    simp only [List.length_append] at c3
    refine aCall_ofc (c3 _) (by simp) ?_
    rintro _ _ ⟨rfl, N3, rfl⟩
    simp [Nat.add_assoc]
  rw [if_neg h18] at hR
  have hlen := x.nodes_len
  have n1 : x.l.length ≤ maxLen := by unfold maxLen; omega
  have hne := nodes_eq x
  have hall := (form_all hf).2
  have hlk : ∀ i, CnRL f (x.l.take i) (cnL (cnF k) f (x.l.take i)).1 (cnL (cnF k) f (x.l.take i)).2.1 (cnL (cnF k) f (x.l.take i)).2.2 := fun i =>
    cnL_like (cnF k) (x.l.take i) f h0 fun y hy f hf => cnF_like k f y hf (hall y (List.mem_of_mem_take hy)) (by have := Ex.nodess_mem (List.mem_of_mem_take hy); omega)
  refine ac_of Tryz.func86 rfl (by kernel_rfl) (by simp [Tryz.ntmps86]) fun _ => ?_
  simp [Tryz.f86, Ex.d_eq, h2, h18]
  refine aCall_of (co) (by simp) (by simp [Ex.d_eq]) ?_; simp [Ex.d_eq]
  refine aLoop_of (α := Nat) (fun i e A => i ≤ x.l.length ∧ (∃ N', A = b0 :: bdQ (L ++ (cnL (cnF k) f (x.l.take i)).1).length (cnL (cnF k) f (x.l.take i)).2.1 :: arQ (L ++ (cnL (cnF k) f (x.l.take i)).1) :: (N ++ bxE x :: bxE x :: blkV (cnL (cnF k) f (x.l.take i)).2.2 :: N')) ∧
    e 0 = .ptr 1 0 0 0 ∧ e 3 = .ptr (N.length + 1 + 1 + 1) 0 0 0 ∧ e 15 = .own (N.length + 1 + 1 + 1 + 1 + 1) i 0 i ∧ e 16 = aI .i64 i) (fun i => x.l.length - i) 0
    ((Sub.ghost 0 3 1).trans (Sub.slot (s := 15) (c := .own (N.length + 1 + 1 + 1 + 1 + 1) 0 0 0) ?_))
    ⟨by omega, ⟨[], by simp [cnL]⟩, by simp, by simp, by simp, by simp⟩ ?_
  · simp
    exact VLe.nil_own (k := ⟨0, true, 3, 1, []⟩) (by simp) rfl
  rintro i e A ⟨hi, ⟨N', rfl⟩, e0, e3, e15, e16⟩ K hK
  have hr := hlk i
  rcases Nat.lt_or_ge i x.l.length with hlt | hge
  case inl =>
    obtain ⟨y, hy⟩ : ∃ y, x.l[i]? = some y := ⟨_, List.getElem?_eq_getElem hlt⟩
    have hy2 := (List.getElem?_eq_some_iff.1 hy).2
    have hym := List.mem_of_getElem? hy
    have hts : x.l.take (i + 1) = x.l.take i ++ [y] := by rw [List.take_add_one, hy]; rfl
    have hsn := cnL_snoc (cnF k) f (x.l.take i) y
    rw [← hts] at hsn
    have hte := nodess_take hy
    have hle := nodess_take_le x.l (i + 1)
    obtain ⟨⟨lc, fc, V⟩, hq⟩ : ∃ p, cnL (cnF k) f (x.l.take i) = p := ⟨_, rfl⟩
    rw [hq] at hr hsn ⊢
    simp only at hsn
    have hrlo := hr.lo
    have hrhi := hr.hi
    have hrlen := hr.len
    have hvl := hr.vl
    simp only [List.length_take] at hrlo hrhi hrlen hvl
    have hVl : V.length = i := by omega
    have c1 := ih y b0 (L ++ lc) fc
    simp only [List.length_append] at c1
    have hmn := Ex.nodess_mem hym
    simp [e16, e3, hlt, hy, hy2, Ex.d_eq, e15, e0]
    refine aCall_ofc (c1 _ (hall y hym) (by omega) (by omega) (by omega) (by omega)) (by simp) ?_
    rintro _ _ ⟨rfl, N1, rfl⟩
    simp [e15, hVl]
    refine aRaw_app byt_27 ?_
    simp [e15, hVl]
    refine ⟨by unfold maxLen; omega, by omega, ?_⟩
    simp [e16, succ_wrap hlt n1]
    refine hK (i + 1) _ _ _ _ (Sub.refl _ _ _) ⟨by omega, ⟨N' ++ (N1 ++ [⟨0, true, 3, 1, [[aI .i64 (cnF k fc y).2.2]]⟩]), by rw [hsn]; simp [hVl, Nat.add_assoc]⟩, by simp [e0], by simp [e3], by simp, by simp⟩ (by omega)
  obtain rfl : i = x.l.length := by omega
  rw [List.take_length] at hr ⊢
  clear hK hlk ih
  obtain ⟨⟨lc, fc, V⟩, hq⟩ : ∃ p, cnL (cnF k) f x.l = p := ⟨_, rfl⟩
  rw [hq] at hr hR ⊢
  simp only at hr hR
  have hrlo := hr.lo
  have hrhi := hr.hi
  have hrlen := hr.len
  have hvl := hr.vl
  have hl2 : (L ++ lc).length ≤ 1000000000 := by rw [List.length_append]; omega
  have ci := fun N v tk => q32integer_ac b0 (L ++ lc) (fc + 1) N v tk hl2
  simp only [List.length_append] at ci
  simp [e16, e3, e0]
  refine aCall_ofc (q32next_ac b0 _ fc _ (by omega) (by omega)) (by simp) ?_
  rintro _ _ ⟨rfl, N1, rfl⟩
  have hop : x.op = 5 ∨ x.op = 9 ∨ x.op = 11 ∨ x.op = 17 ∨ x.op = 19 ∨ x.op = 14 ∨ (¬ x.op = 5 ∧ ¬ x.op = 9 ∧ ¬ x.op = 11 ∧ ¬ x.op = 17 ∧ ¬ x.op = 19 ∧ ¬ x.op = 14) := by omega
  rcases hop with h | h | h | h | h | h | ⟨o5, o9, o11, o17, o19, o14⟩
  · have ht : typC x fc V = [⟨1, fc, 0, 0, 0, 2, 4⟩] := by simp [typC, h]
    rw [ht] at hR
    subst hR
    simp [e0, e3, h]
    refine aCall_ofc (ci _ fc 2) (by simp) ?_
    rintro _ _ ⟨rfl, N2, rfl⟩
    simp [e0, e3, h, Nat.add_assoc]
  · have ht : typC x fc V = [⟨1, fc, 0, 0, 0, 2, 4⟩] := by simp [typC, h]
    rw [ht] at hR
    subst hR
    simp [e0, e3, h]
    refine aCall_ofc (ci _ fc 2) (by simp) ?_
    rintro _ _ ⟨rfl, N2, rfl⟩
    simp [e0, e3, h, Nat.add_assoc]
  · have ht : typC x fc V = [⟨1, fc, 0, 0, 0, 1, 4⟩] := by simp [typC, h]
    rw [ht] at hR
    subst hR
    simp [e0, e3, h]
    refine aCall_ofc (ci _ fc 1) (by simp) ?_
    rintro _ _ ⟨rfl, N2, rfl⟩
    simp [e0, e3, h, Nat.add_assoc]
  · have ht : typC x fc V = [⟨1, fc, 0, 0, 0, 1, 4⟩] := by simp [typC, h]
    rw [ht] at hR
    subst hR
    simp [e0, e3, h]
    refine aCall_ofc (ci _ fc 1) (by simp) ?_
    rintro _ _ ⟨rfl, N2, rfl⟩
    simp [e0, e3, h, Nat.add_assoc]
  · have ht : typC x fc V = [⟨1, fc, 0, 0, 0, 1, 4⟩] := by simp [typC, h]
    rw [ht] at hR
    subst hR
    simp [e0, e3, h]
    refine aCall_ofc (ci _ fc 1) (by simp) ?_
    rintro _ _ ⟨rfl, N2, rfl⟩
    simp [e0, e3, h, Nat.add_assoc]
  · have ht : typC x fc V = ltC x.l V := by simp [typC, h]
    rw [ht] at hR
    subst hR
    have hx2 : x.l.length ≤ 2 := by
      obtain ⟨a, b, hab, _⟩ := form_two hf (by omega) (by omega)
      rw [hab]
      simp
    simp [e0, e3, e15, h]
    refine aLoop_of (α := Nat) (fun i e A => i ≤ x.l.length ∧ (∃ N', A = b0 :: bdQ (L ++ (lc ++ ltC (x.l.take i) (V.take i))).length (fc + 1) :: arQ (L ++ (lc ++ ltC (x.l.take i) (V.take i))) :: (N ++ bxE x :: bxE x :: blkV V :: N')) ∧
      e 0 = .ptr 1 0 0 0 ∧ e 3 = .ptr (N.length + 1 + 1 + 1) 0 0 0 ∧ e 15 = .own (N.length + 1 + 1 + 1 + 1 + 1) V.length 0 V.length ∧ e 17 = aI .i64 fc ∧ e 18 = aI .i64 i) (fun i => x.l.length - i) 0
      (Sub.refl _ _ _) ⟨by omega, ⟨N' ++ N1, by simp [ltC]⟩, by simp [e0], by simp [e3], by simp [e15, hvl], by simp, by simp⟩ ?_
    rintro i e A ⟨hi, ⟨N2, rfl⟩, e0, e3, e15, e17, e18⟩ K hK
    rcases Nat.lt_or_ge i x.l.length with hlt | hge
    case inr =>
      obtain rfl : i = x.l.length := by omega
      have hVt : V.take x.l.length = V := List.take_of_length_le (by omega)
      rw [List.take_length, hVt]
      simp [e15, e17, e18, hvl]
    obtain ⟨y, hy⟩ : ∃ y, x.l[i]? = some y := ⟨_, List.getElem?_eq_getElem hlt⟩
    have hy2 := (List.getElem?_eq_some_iff.1 hy).2
    obtain ⟨v, hv⟩ : ∃ v, V[i]? = some v := ⟨_, List.getElem?_eq_getElem (by omega)⟩
    have hv2 := (List.getElem?_eq_some_iff.1 hv).2
    have hltV : i < V.length := by omega
    have hsn : ltC (x.l.take (i + 1)) (V.take (i + 1)) = ltC (x.l.take i) (V.take i) ++ (if y.op = 1 then [] else [⟨1, v, 0, 0, 0, 1, 4⟩]) := by
      rw [show x.l.take (i + 1) = x.l.take i ++ [y] by rw [List.take_add_one, hy]; rfl, show V.take (i + 1) = V.take i ++ [v] by rw [List.take_add_one, hv]; rfl]
      exact ltC_snoc _ _ _ _ (by simp; omega)
    have hll : (ltC (x.l.take i) (V.take i)).length ≤ i := by
      have := (ltC_like (x.l.take i) (V.take i) fun u hu => hr.v0 u (List.mem_of_mem_take hu)).2.2.2.2
      simp at this
      omega
    obtain ⟨Q, hQ⟩ : ∃ Q, ltC (x.l.take i) (V.take i) = Q := ⟨_, rfl⟩
    rw [hQ] at hsn hll ⊢
    have hl3 : (L ++ (lc ++ Q)).length ≤ 1000000000 := by simp only [List.length_append]; omega
    have ci := fun N => q32integer_ac b0 (L ++ (lc ++ Q)) (fc + 1) N v 1 hl3
    simp only [List.length_append] at ci
    simp [e15, e3, e18, hltV, hlt, hy, hy2, Ex.d_eq]
    by_cases hy1 : y.op = 1
    · rw [if_pos hy1, List.append_nil] at hsn
      simp [hy1, e18, succ_wrap hlt n1]
      refine hK (i + 1) _ _ _ _ (Sub.refl _ _ _) ⟨by omega, ⟨N2, by rw [hsn]; simp [Nat.add_assoc]⟩, by simp [e0], by simp [e3], by simp [e15], by simp [e17], by simp⟩ (by omega)
    · rw [if_neg hy1] at hsn
      simp [hy1]
      simp [e0, e15, e18, hltV, hv, hv2]
      refine aCall_ofc (ci _) (by simp) ?_
      rintro _ _ ⟨rfl, N3, rfl⟩
      simp [e18, succ_wrap hlt n1]
      refine hK (i + 1) _ _ _ _ (Sub.refl _ _ _) ⟨by omega, ⟨N2 ++ N3, by rw [hsn]; simp [Nat.add_assoc]⟩, by simp [e0], by simp [e3], by simp [e15], by simp [e17], by simp⟩ (by omega)
  · have ht : typC x fc V = [] := by simp [typC, o5, o9, o11, o17, o19, o14]
    rw [ht, List.append_nil] at hR
    subst hR
    simp [e0, e3, o5, o9, o11, o17, o19, o14]
end Go.Proofs.YtoeimidochjddaaGreatDoor

/- Contract: the constraints of a statement, by the reference (printed by gen_ug.py). -/
namespace Go.Proofs.YtoeimidochjddaaGreatDoor
open Go.RowKit
set_option maxHeartbeats 0 in
theorem q32stmt_ac (k : Nat) (s : St) (b0 : Blk) (L : List Cn) (f : Int) (N : AHeap) (hs : stErr s = 0) (hk : Ex.nodess s.e ≤ k) (h0 : 0 ≤ f) (hfr : f + Ex.nodess s.e ≤ 4000000000000000000) (hL : L.length + 2 * Ex.nodess s.e + 1 ≤ 1000000000) :
    AC Tryz.prog 39 [.ptr 1 0 0 0, stV s] (b0 :: bdQ L.length f :: arQ L :: N) (fun r A' => r = .tup [] ∧ ∃ N', A' = b0 :: bdQ (L ++ (cnS k f s).1).length (cnS k f s).2 :: arQ (L ++ (cnS k f s).1) :: (N ++ N')) := by
  rcases st_kinds hs with ⟨o1, a, ha, haf⟩ | ⟨o2, a, b, ha, haf, hbf⟩ | ⟨o1, o2, o4, o7, o8, ha⟩ | ⟨ho, a, ha, haf⟩
  · rw [ha] at hk hfr hL
    simp only [Ex.nodess, Nat.add_zero] at hk hfr hL
    obtain ⟨R, hR⟩ : ∃ R, cnS k f s = R := ⟨_, rfl⟩
    rw [hR]
    rw [cnS, o1, ha] at hR
    simp only at hR
    have r := cnF_like k f a h0 haf (by omega)
    have c1 := q32expr_ac k a b0 L f
    obtain ⟨⟨l1, f1, v1⟩, hq⟩ : ∃ p, cnF k f a = p := ⟨_, rfl⟩
    rw [hq] at hR r
    simp only [hq] at c1
    simp only at hR
    have hlen := r.len
    simp only at hlen
    refine ac_of Tryz.func39 rfl (by kernel_rfl) (by simp [Tryz.ntmps39]) fun _ => ?_
    simp [Tryz.f39, St.d_eq, o1, ha, Ex.d_eq]
    refine aCall_ofc (c1 _ haf (by omega) h0 (by omega) (by omega)) (by simp) ?_
    rintro _ _ ⟨rfl, N1, rfl⟩
    have hl2 : (L ++ l1).length ≤ 1000000000 := by rw [List.length_append]; omega
    have c3 := fun N => q32add_ac b0 (L ++ l1) f1 N ⟨0, v1, s.va, 0, 0, 0, 0⟩ hl2
    simp only [List.length_append] at c3
    by_cases h1 : a.op = 1
    · rw [if_pos h1, List.append_nil] at hR
      subst hR
      simp [ha, h1, Ex.d_eq]
    · rw [if_neg h1] at hR
      subst hR
      simp [ha, h1, Ex.d_eq]
      refine aCall_ofc (c3 _) (by simp) ?_
      rintro _ _ ⟨rfl, N2, rfl⟩
      simp [Nat.add_assoc]
  · rw [ha] at hk hfr hL
    simp only [Ex.nodess, Nat.add_zero] at hk hfr hL
    obtain ⟨R, hR⟩ : ∃ R, cnS k f s = R := ⟨_, rfl⟩
    rw [hR]
    rw [cnS, o2, ha] at hR
    simp only at hR
    have co := q32moved_af a haf
    have hmn := movP_nodes a
    have hmf := movP_form haf
    obtain ⟨⟨y, of⟩, hy⟩ : ∃ p, movP a = p := ⟨_, rfl⟩
    rw [hy] at hR co hmn hmf
    simp only at hR co hmn hmf
    have r := cnF_like k f y h0 hmf (by omega)
    have c1 := q32expr_ac k y b0 L f
    obtain ⟨⟨l1, f1, v1⟩, hq⟩ : ∃ p, cnF k f y = p := ⟨_, rfl⟩
    rw [hq] at hR r
    simp only [hq] at c1
    simp only at hR
    have hlo := r.lo
    have hhi := r.hi
    have hlen := r.len
    simp only at hlo hhi hlen
    have r2 := cnF_like k f1 b (by omega) hbf (by omega)
    have c2 := q32expr_ac k b b0 (L ++ l1) f1
    obtain ⟨⟨l2, f2, v2⟩, hq2⟩ : ∃ p, cnF k f1 b = p := ⟨_, rfl⟩
    rw [hq2] at hR r2
    simp only [hq2] at c2
    simp only at hR
    have hlen2 := r2.len
    simp only at hlen2
    subst hR
    have hl3 : (L ++ (l1 ++ l2)).length ≤ 1000000000 := by simp only [List.length_append]; omega
    have c3 := fun N => q32add_ac b0 (L ++ (l1 ++ l2)) f2 N ⟨3, v1, v2, of, s.wd, 0, 0⟩ hl3
    simp only [List.length_append] at c2
    simp only [show (L ++ (l1 ++ l2)).length = L.length + l1.length + l2.length by simp only [List.length_append]; omega] at c3
    refine ac_of Tryz.func39 rfl (by kernel_rfl) (by simp [Tryz.ntmps39]) fun _ => ?_
    simp [Tryz.f39, St.d_eq, o2, ha, Ex.d_eq]
    refine aCall_of (co) (by simp) (by simp [Ex.d_eq]) ?_; simp [Ex.d_eq]
    refine aCall_ofc (c1 _ hmf (by omega) h0 (by omega) (by omega)) (by simp) ?_
    rintro _ _ ⟨rfl, N1, rfl⟩
    simp [ha, Ex.d_eq]
    refine aCall_ofc (c2 _ hbf (by omega) (by omega) (by omega) (by omega)) (by simp) ?_
    rintro _ _ ⟨rfl, N2, rfl⟩
    simp
    refine aCall_ofc (c3 _) (by simp) ?_
    rintro _ _ ⟨rfl, N3, rfl⟩
    simp [Nat.add_assoc]
  · have hR : cnS k f s = ([], f) := by
      unfold cnS
      split
      · exact absurd ‹s.op = 1› o1
      · exact absurd ‹s.op = 2› o2
      · rw [ha]; rfl
    rw [hR]
    refine ac_of Tryz.func39 rfl (by kernel_rfl) (by simp [Tryz.ntmps39]) fun _ => ?_
    simp [Tryz.f39, St.d_eq, o1, o2, o4, o7, o8, ha]
  · rw [ha] at hk hfr hL
    simp only [Ex.nodess, Nat.add_zero] at hk hfr hL
    have o1 : s.op ≠ 1 := by omega
    have o2 : s.op ≠ 2 := by omega
    have hR : cnS k f s = ((cnF k f a).1, (cnF k f a).2.1) := by
      unfold cnS
      split
      · exact absurd ‹s.op = 1› o1
      · exact absurd ‹s.op = 2› o2
      · rw [ha]; simp [cnL]
    have c1 := q32expr_ac k a b0 L f
    obtain ⟨⟨l1, f1, v1⟩, hq⟩ : ∃ p, cnF k f a = p := ⟨_, rfl⟩
    rw [hq] at hR
    rw [hR]
    simp only [hq] at c1
    rcases ho with o | o | o
    all_goals
      refine ac_of Tryz.func39 rfl (by kernel_rfl) (by simp [Tryz.ntmps39]) fun _ => ?_
      simp [Tryz.f39, St.d_eq, o, ha, Ex.d_eq]
      refine aCall_ofc (c1 _ haf (by omega) h0 (by omega) (by omega)) (by simp) ?_
      rintro _ _ ⟨rfl, N1, rfl⟩
      simp
end Go.Proofs.YtoeimidochjddaaGreatDoor
