/- Texts that the claim leans on, laid one behind the other: Mn, Mj, Ml, Mo. -/
import Derived.Test.YtjgeicfbgpcopaaDoorZM
import Derived.Test.YtjgeicfbgpcopaaDoorAp
import Derived.Test.YtjgeicfbgpcopaaDoorBa
import Derived.Test.YtjgeicfbgpcopaaDoorZG
import Derived.Test.YtjgeicfbgpcopaaDoorAt
set_option linter.unusedSimpArgs false
set_option linter.unusedVariables false
set_option linter.unnecessarySimpa false
/- Contract: the reference's Insert. -/
namespace Go.Proofs.YtjgeicfbgpcopaaDoor
open Go.RowKit
/-- An expression's box. -/
abbrev bxE (e : Ex) : Blk := ⟨0, true, 37, 5, [[aI .i64 e.op, aI .u32 e.n, aI .i64 e.v, aI .i64 e.wd, .d (.sl 5 (Ex.ds e.l))]]⟩
/-- How many numbers stand ahead of n. -/
def lowN (n : Int) : List Int → Nat
  | [] => 0
  | a :: l => if a < n then lowN n l + 1 else 0
/-- A number put into an ascending list. -/
def insL (l : List Int) (n : Int) : List Int := if l[lowN n l]? = some n then l else l.take (lowN n l) ++ n :: l.drop (lowN n l)
theorem lowN_spec (n : Int) : ∀ l : List Int, lowN n l ≤ l.length ∧ (∀ (i : Nat) (a : Int), i < lowN n l → l[i]? = some a → a < n) ∧ ∀ a, l[lowN n l]? = some a → n ≤ a
  | [] => by simp [lowN]
  | b :: l => by
    obtain ⟨h1, h2, h3⟩ := lowN_spec n l
    by_cases h : b < n
    · simp only [lowN, if_pos h]
      refine ⟨by simp; omega, fun i a hi ha => ?_, fun a ha => h3 a (by simpa using ha)⟩
      cases i with
      | zero => simp at ha; omega
      | succ i => exact h2 i a (by omega) (by simpa using ha)
    · simp only [lowN, if_neg h]
      refine ⟨by omega, fun i a hi => by omega, fun a ha => by simp at ha; omega⟩
theorem i64s_take (l : List Int) (n : Nat) : (i64s l).take n = i64s (l.take n) := by simp [i64s]
theorem i64s_drop (l : List Int) (n : Nat) : (i64s l).drop n = i64s (l.drop n) := by simp [i64s]
theorem dEls_i64 (l : List Int) : (∀ x, x ∈ dEls (i64s l) → x.length = 1) ↔ True := by
  refine iff_true_intro fun x hx => ?_
  simp only [dEls, i64s, List.map_map, List.mem_map] at hx
  obtain ⟨n, _, rfl⟩ := hx
  rfl
end Go.Proofs.YtjgeicfbgpcopaaDoor

/- Contract: il.Size, by il.visit with a closure that counts. -/
namespace Go.Proofs.YtjgeicfbgpcopaaDoor
open Go.RowKit
abbrev cellI (n : Int) : Blk := ⟨0, true, 3, 1, [[aI .i64 n]]⟩
end Go.Proofs.YtjgeicfbgpcopaaDoor

/- Contracts: the closures of il.Fresh, il.visit with them. -/
namespace Go.Proofs.YtjgeicfbgpcopaaDoor
open Go.RowKit
/-- The first variable that is not used, after one more. -/
def seeI (n v : Int) : Int := if n ≤ v then (if 65535 < v then 65535 else v) + 1 else n
def seeE (n : Int) : Ex → Int
  | .mk o _ w _ l => seeEs (if o = 2 then seeI n w else n) l
where seeEs (n : Int) : List Ex → Int
  | [] => n
  | e :: l => seeEs (seeE n e) l
theorem seeI_range {n v : Int} (h0 : 0 ≤ n) (h1 : n ≤ 65536) : 0 ≤ seeI n v ∧ seeI n v ≤ 65536 := by
  unfold seeI
  split
  · split <;> omega
  · omega
theorem seeE_range : ∀ (x : Ex) (n : Int), 0 ≤ n → n ≤ 65536 → 0 ≤ seeE n x ∧ seeE n x ≤ 65536 := by
  intro x
  induction x using Ex.ind with
  | h x ih =>
  obtain ⟨o, k, w, wd, l⟩ := x
  intro n h0 h1
  have hl : ∀ l : List Ex, (∀ x ∈ l, ∀ (n : Int), 0 ≤ n → n ≤ 65536 → 0 ≤ seeE n x ∧ seeE n x ≤ 65536) → ∀ n : Int, 0 ≤ n → n ≤ 65536 → 0 ≤ seeE.seeEs n l ∧ seeE.seeEs n l ≤ 65536 := by
    intro l
    induction l with
    | nil => intro _ n h0 h1; simp only [seeE.seeEs]; omega
    | cons a l ihl =>
      intro h n h0 h1
      have := h a (by simp) n h0 h1
      simp only [seeE.seeEs]
      exact ihl (fun x hx => h x (by simp [hx])) _ this.1 this.2
  simp only [seeE]
  have hr := seeI_range (v := w) h0 h1
  split
  · exact hl l ih _ hr.1 hr.2
  · exact hl l ih _ h0 h1
theorem seeEs_take {l : List Ex} {i : Nat} {x : Ex} (h : l[i]? = some x) (n : Int) : seeE.seeEs n (l.take (i + 1)) = seeE (seeE.seeEs n (l.take i)) x := by
  induction l generalizing i n with
  | nil => simp at h
  | cons a l ih =>
    cases i with
    | zero => simp at h; subst h; simp [seeE.seeEs]
    | succ i => simp only [List.take_succ_cons, seeE.seeEs, ih (by simpa using h)]
theorem seeEs_range : ∀ (l : List Ex) (n : Int), 0 ≤ n → n ≤ 65536 → 0 ≤ seeE.seeEs n l ∧ seeE.seeEs n l ≤ 65536
  | [], n, h0, h1 => by simp only [seeE.seeEs]; omega
  | a :: l, n, h0, h1 => by
    have := seeE_range a n h0 h1
    simp only [seeE.seeEs]
    exact seeEs_range l _ this.1 this.2
end Go.Proofs.YtjgeicfbgpcopaaDoor

/- The variables of an expression: in the order in which they stand; ascending, each once. No program in sight. -/
namespace Go.Proofs.YtjgeicfbgpcopaaDoor
open Go.RowKit
/-- The variables, in the order in which they stand. -/
def occ : Ex → List Int
  | .mk o _ w _ l => (if o = 2 then [w] else []) ++ occs l
where occs : List Ex → List Int
  | [] => []
  | e :: l => occ e ++ occs l
/-- The variables, ascending, each once. -/
def varsR : Ex → List Int
  | .mk o _ w _ l => varsRs (if o = 2 then [w] else []) l
where varsRs (out : List Int) : List Ex → List Int
  | [] => out
  | e :: l => varsRs ((varsR e).foldl insL out) l
theorem occ_eq (e : Ex) : occ e = (if e.op = 2 then [e.v] else []) ++ occ.occs e.l := by cases e; rfl
theorem varsR_eq (e : Ex) : varsR e = varsR.varsRs (if e.op = 2 then [e.v] else []) e.l := by cases e; rfl
def Asc (l : List Int) : Prop := l.Pairwise (· < ·)
def insR (n : Int) : List Int → List Int
  | [] => [n]
  | a :: l => if a < n then a :: insR n l else if a = n then a :: l else n :: a :: l
theorem insL_eq (n : Int) : ∀ l : List Int, insL l n = insR n l
  | [] => by simp [insL, insR, lowN]
  | a :: l => by
    have ih := insL_eq n l
    unfold insL at ih ⊢
    by_cases h : a < n
    · simp only [lowN, if_pos h, insR, List.getElem?_cons_succ, List.take_succ_cons, List.drop_succ_cons]
      rw [← ih]
      split <;> simp
    · simp only [lowN, if_neg h, insR, List.getElem?_cons_zero, List.take_zero, List.drop_zero, Option.some.injEq, List.nil_append]
theorem insR_mem (n v : Int) : ∀ l : List Int, v ∈ insR n l ↔ v = n ∨ v ∈ l
  | [] => by simp [insR]
  | a :: l => by
    simp only [insR]
    split
    · simp only [List.mem_cons, insR_mem n v l]
      constructor
      · rintro (h | h | h)
        · exact .inr (.inl h)
        · exact .inl h
        · exact .inr (.inr h)
      · rintro (h | h | h)
        · exact .inr (.inl h)
        · exact .inl h
        · exact .inr (.inr h)
    · split
      · rename_i h
        subst h
        simp only [List.mem_cons]
        constructor
        · exact .inr
        · rintro (h | h)
          · exact .inl h
          · exact h
      · simp only [List.mem_cons]
theorem insR_asc (n : Int) : ∀ {l : List Int}, Asc l → Asc (insR n l)
  | [], _ => by simp [insR, Asc]
  | a :: l, h => by
    obtain ⟨h1, h2⟩ := List.pairwise_cons.1 h
    have ih := insR_asc n h2
    simp only [insR]
    split
    · refine List.pairwise_cons.2 ⟨fun v hv => ?_, ih⟩
      rcases (insR_mem n v l).1 hv with rfl | hv
      · assumption
      · exact h1 v hv
    · split
      · exact h
      · refine List.pairwise_cons.2 ⟨fun v hv => ?_, h⟩
        rcases List.mem_cons.1 hv with rfl | hv
        · omega
        · have := h1 v hv
          omega
theorem insR_len (n : Int) : ∀ l : List Int, (insR n l).length ≤ l.length + 1
  | [] => by simp [insR]
  | a :: l => by
    have := insR_len n l
    simp only [insR]
    split
    · simp; omega
    · split <;> simp
theorem insL_mem {n v : Int} {l : List Int} : v ∈ insL l n ↔ v = n ∨ v ∈ l := by rw [insL_eq, insR_mem]
theorem insL_asc {n : Int} {l : List Int} (h : Asc l) : Asc (insL l n) := by rw [insL_eq]; exact insR_asc n h
theorem insL_len (l : List Int) (n : Int) : (insL l n).length ≤ l.length + 1 := by rw [insL_eq]; exact insR_len n l
theorem fold_mem {v : Int} : ∀ {m l : List Int}, v ∈ m.foldl insL l ↔ v ∈ l ∨ v ∈ m
  | [], l => by simp
  | a :: m, l => by
    simp only [List.foldl_cons, fold_mem (m := m), insL_mem, List.mem_cons]
    constructor
    · rintro ((h | h) | h)
      · exact .inr (.inl h)
      · exact .inl h
      · exact .inr (.inr h)
    · rintro (h | h | h)
      · exact .inl (.inr h)
      · exact .inl (.inl h)
      · exact .inr h
theorem fold_asc : ∀ {m l : List Int}, Asc l → Asc (m.foldl insL l)
  | [], _, h => h
  | a :: m, l, h => by
    rw [List.foldl_cons]
    exact fold_asc (m := m) (insL_asc h)
theorem fold_len : ∀ (m l : List Int), (m.foldl insL l).length ≤ l.length + m.length
  | [], l => by simp
  | a :: m, l => by
    have h1 := fold_len m (insL l a)
    have h2 := insL_len l a
    simp only [List.foldl_cons, List.length_cons]
    omega
theorem varsR_all : ∀ e : Ex, (∀ v, v ∈ varsR e ↔ v ∈ occ e) ∧ Asc (varsR e) ∧ (varsR e).length ≤ e.nodes := by
  intro e
  induction e using Ex.ind with
  | h e ih =>
  have hl : ∀ (l : List Ex), (∀ x ∈ l, (∀ v, v ∈ varsR x ↔ v ∈ occ x) ∧ Asc (varsR x) ∧ (varsR x).length ≤ x.nodes) → ∀ out : List Int, Asc out →
      (∀ v, v ∈ varsR.varsRs out l ↔ v ∈ out ∨ v ∈ occ.occs l) ∧ Asc (varsR.varsRs out l) ∧ (varsR.varsRs out l).length ≤ out.length + Ex.nodess l := by
    intro l
    induction l with
    | nil => intro _ out h; simp [varsR.varsRs, occ.occs, h]
    | cons a l ihl =>
      intro h out ho
      obtain ⟨a1, a2, a3⟩ := h a (by simp)
      obtain ⟨b1, b2, b3⟩ := ihl (fun x hx => h x (by simp [hx])) ((varsR a).foldl insL out) (fold_asc ho)
      have b4 := fold_len (varsR a) out
      refine ⟨fun v => ?_, b2, ?_⟩
      · simp only [varsR.varsRs, occ.occs, b1 v, fold_mem, a1 v, List.mem_append]
        exact or_assoc
      · simp only [varsR.varsRs, Ex.nodess]
        omega
  have h0 : Asc (if e.op = 2 then [e.v] else []) := by split <;> simp [Asc]
  have h1 : (if e.op = 2 then [e.v] else []).length ≤ 1 := by split <;> simp
  obtain ⟨c1, c2, c3⟩ := hl e.l ih _ h0
  have hne : e.nodes = Ex.nodess e.l + 1 := by cases e; rfl
  rw [varsR_eq, occ_eq, hne]
  refine ⟨fun v => by rw [c1 v, List.mem_append], c2, by omega⟩
theorem varsR_mem {e : Ex} {v : Int} : v ∈ varsR e ↔ v ∈ occ e := (varsR_all e).1 v
theorem varsR_asc (e : Ex) : Asc (varsR e) := (varsR_all e).2.1
theorem varsR_len (e : Ex) : (varsR e).length ≤ e.nodes := (varsR_all e).2.2
theorem varsRs_take {l : List Ex} {i : Nat} {x : Ex} (h : l[i]? = some x) (out : List Int) : varsR.varsRs out (l.take (i + 1)) = (varsR x).foldl insL (varsR.varsRs out (l.take i)) := by
  induction l generalizing i out with
  | nil => simp at h
  | cons a l ih =>
    cases i with
    | zero => simp at h; subst h; simp [varsR.varsRs]
    | succ i => simp only [List.take_succ_cons, varsR.varsRs, ih (by simpa using h)]
theorem varsRs_len : ∀ (l : List Ex) (out : List Int), (varsR.varsRs out l).length ≤ out.length + Ex.nodess l
  | [], out => by simp [varsR.varsRs]
  | a :: l, out => by
    have h1 := varsRs_len l ((varsR a).foldl insL out)
    have h2 := fold_len (varsR a) out
    have h3 := varsR_len a
    simp only [varsR.varsRs, Ex.nodess]
    omega
/-- Ascending lists of the same members are the same. -/
theorem asc_ext : ∀ {l m : List Int}, Asc l → Asc m → (∀ v, v ∈ l ↔ v ∈ m) → l = m
  | [], [], _, _, _ => rfl
  | [], b :: m, _, _, h => absurd ((h b).2 (by simp)) (by simp)
  | a :: l, [], _, _, h => absurd ((h a).1 (by simp)) (by simp)
  | a :: l, b :: m, h1, h2, h => by
    obtain ⟨p1, p2⟩ := List.pairwise_cons.1 h1
    obtain ⟨q1, q2⟩ := List.pairwise_cons.1 h2
    have e1 : a = b := by
      have x := (h a).1 (by simp)
      have y := (h b).2 (by simp)
      rcases List.mem_cons.1 x with rfl | x
      · rfl
      rcases List.mem_cons.1 y with rfl | y
      · rfl
      have := q1 a x
      have := p1 b y
      omega
    subst e1
    rw [asc_ext p2 q2 fun v => ?_]
    constructor
    · intro hv
      have := p1 v hv
      rcases List.mem_cons.1 ((h v).1 (by simp [hv])) with rfl | hv
      · omega
      · exact hv
    · intro hv
      have := q1 v hv
      rcases List.mem_cons.1 ((h v).2 (by simp [hv])) with rfl | hv
      · omega
      · exact hv
theorem asc_last {l : List Int} {M : Int} (h : Asc l) (hM : l.getLast? = some M) : M ∈ l ∧ ∀ v ∈ l, v ≤ M := by
  obtain ⟨ys, rfl⟩ := List.getLast?_eq_some_iff.1 hM
  refine ⟨by simp, fun v hv => ?_⟩
  rcases List.mem_append.1 hv with hv | hv
  · have := (List.pairwise_append.1 h).2.2 v hv M (by simp)
    omega
  · simp at hv
    omega
theorem seeE_occ : ∀ (e : Ex) (n : Int), seeE n e = (occ e).foldl seeI n := by
  intro e
  induction e using Ex.ind with
  | h e ih =>
  obtain ⟨o, k, w, wd, l⟩ := e
  intro n
  have hl : ∀ l : List Ex, (∀ x ∈ l, ∀ n : Int, seeE n x = (occ x).foldl seeI n) → ∀ n : Int, seeE.seeEs n l = (occ.occs l).foldl seeI n := by
    intro l
    induction l with
    | nil => intro _ n; rfl
    | cons a l ihl => intro h n; simp only [seeE.seeEs, occ.occs, List.foldl_append, h a (by simp), ihl fun x hx => h x (by simp [hx])]
  simp only [seeE, occ, List.foldl_append, hl l ih]
  split <;> rfl
theorem seeI_max {n v : Int} (h : n ≤ 65536) : seeI n v = max n (min v 65535 + 1) := by
  unfold seeI
  split
  · split <;> omega
  · omega
/-- The greatest variable decides. -/
theorem foldl_see {M : Int} : ∀ {L : List Int} {n : Int}, n ≤ 65536 → M ∈ L → (∀ v ∈ L, v ≤ M) → L.foldl seeI n = seeI n M
  | [], n, _, h, _ => by cases h
  | a :: L, n, hn, hM, hle => by
    have ha := hle a (by simp)
    have h1 := seeI_max (v := a) hn
    rw [List.foldl_cons]
    by_cases hL : M ∈ L
    · rw [foldl_see (n := seeI n a) (by omega) hL fun v hv => hle v (by simp [hv]), seeI_max (n := seeI n a) (v := M) (by omega), seeI_max (v := M) hn]
      omega
    · obtain rfl : M = a := by
        rcases List.mem_cons.1 hM with h | h
        · exact h
        · exact absurd h hL
      have : ∀ (L : List Int) (k : Int), k ≤ 65536 → min M 65535 + 1 ≤ k → (∀ v ∈ L, v ≤ M) → L.foldl seeI k = k := by
        intro L
        induction L with
        | nil => intro k _ _ _; rfl
        | cons b L ihL =>
          intro k h1 h2 h3
          have hb := h3 b (by simp)
          have : seeI k b = k := by rw [seeI_max h1]; omega
          rw [List.foldl_cons, this]
          exact ihL k h1 h2 fun v hv => h3 v (by simp [hv])
      exact this L _ (by omega) (by omega) fun v hv => hle v (by simp [hv])
/-- What the reference sees of an expression: its greatest variable. -/
theorem see_last {e : Ex} {n : Int} (hn : n ≤ 65536) : seeE n e = match (varsR e).getLast? with
    | some M => seeI n M
    | none => n := by
  rw [seeE_occ]
  cases h : (varsR e).getLast? with
  | none =>
    have h0 : varsR e = [] := List.getLast?_eq_none_iff.1 h
    have : occ e = [] := List.eq_nil_iff_forall_not_mem.2 fun v hv => by
      have := varsR_mem.2 hv
      rw [h0] at this
      cases this
    rw [this]
    rfl
  | some M =>
    obtain ⟨h1, h2⟩ := asc_last (varsR_asc e) h
    exact foldl_see hn (varsR_mem.1 h1) fun v hv => h2 v (varsR_mem.2 hv)
end Go.Proofs.YtjgeicfbgpcopaaDoor
