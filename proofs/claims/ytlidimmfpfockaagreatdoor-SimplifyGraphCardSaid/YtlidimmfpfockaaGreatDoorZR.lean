/- Texts that the claim leans on, laid one behind the other: Pb, Pc, Pd, Pe, Pg, Pa, Pf. -/
import Derived.Test.YtlidimmfpfockaaGreatDoorZU
import Derived.Test.YtlidimmfpfockaaGreatDoorZM
import Derived.Test.YtlidimmfpfockaaGreatDoorZQ
import Derived.Test.YtlidimmfpfockaaGreatDoorAr
import Derived.Test.YtlidimmfpfockaaGreatDoorAv
set_option linter.unusedSimpArgs false
set_option linter.unusedVariables false
set_option linter.unnecessarySimpa false
/- A statement simplified, a branch's condition bare of negations, a graph simplified. No program in sight. -/
namespace Go.Proofs.YtlidimmfpfockaaGreatDoor
open Go.RowKit
/-- A branch's condition, bare, and where it goes. -/
def brS : Nat → Ex → Int → Int → Ex × Int × Int
  | 0, c, n, l => (c, n, l)
  | k + 1, c, n, l => if c.op = 16 then brS k c.x l n else if c.op = 13 ∧ isB c.y 0 = true then brS k c.x n l else (c, n, l)
/-- A well-formed statement, its expressions simplified. -/
def sSt (s : St) : St := match s.e.map sExpr with
  | [c] => if s.op = 7 then { s with e := [(brS c.nodes c s.nx s.el).1], nx := (brS c.nodes c s.nx s.el).2.1, el := (brS c.nodes c s.nx s.el).2.2 } else { s with e := [c] }
  | E => { s with e := E }
def sStmt (s : St) : St := if stErr s = 0 then sSt s else s
structure BrOk (x c : Ex) : Prop where
  form : formB x = true
  norm : Norm c → Norm x
  okn : OkN c → OkN x
  depth : x.depth ≤ c.depth
  nodes : x.nodes ≤ c.nodes
  done : x.op ≠ 16 ∧ ¬ (x.op = 13 ∧ isB x.y 0 = true)
theorem norm_mem {e x : Ex} (h : Norm e) (hx : x ∈ e.l) : Norm x := by
  cases h with
  | mk hr hl => exact hl x hx
theorem one_l {e : Ex} (h : formB e = true) (h3 : 16 ≤ e.op) : e.l = [e.x] := by
  have := congrArg Ex.l (form_one3 h h3).1
  simpa using this
theorem two_l {e : Ex} (h : formB e = true) (h3 : 3 ≤ e.op) (h15 : e.op ≤ 15) : e.l = [e.x, e.y] := by
  have := congrArg Ex.l (two_parts h h3 h15).1
  simpa using this
theorem brS_ok : ∀ (k : Nat) (c : Ex) (n l : Int), formB c = true → c.nodes ≤ k → BrOk (brS k c n l).1 c := by
  intro k
  induction k with
  | zero => intro c n l _ h; have := c.nodes_pos; omega
  | succ k ih =>
  intro c n l hf hk
  unfold brS
  split
  · rename_i h
    obtain ⟨_, hx, _, hn, hd⟩ := form_one3 hf (by omega)
    have hl := one_l hf (by omega)
    have := ih c.x l n hx (by omega)
    exact ⟨this.form, fun h => this.norm (norm_mem h (by rw [hl]; simp)), fun h => this.okn (h.l _ (by rw [hl]; simp)), by have := this.depth; omega, by have := this.nodes; omega, this.done⟩
  split
  · rename_i h
    obtain ⟨hx, _, _, hn, hd⟩ := form_two3 hf (by omega) (by omega)
    have hl := two_l hf (by omega) (by omega)
    have := ih c.x n l hx (by omega)
    exact ⟨this.form, fun h => this.norm (norm_mem h (by rw [hl]; simp)), fun h => this.okn (h.l _ (by rw [hl]; simp)), by have := this.depth; omega, by have := this.nodes; omega, this.done⟩
  · rename_i h1 h2
    exact ⟨hf, id, id, Nat.le_refl _, Nat.le_refl _, h1, h2⟩
theorem brS_done {x : Ex} (h : x.op ≠ 16 ∧ ¬ (x.op = 13 ∧ isB x.y 0 = true)) (k : Nat) (n l : Int) : brS k x n l = (x, n, l) := by
  cases k with
  | zero => rfl
  | succ k =>
    unfold brS
    rw [if_neg h.1, if_neg h.2]
/-- Where a branch goes: one of the two blocks, the other one otherwise. -/
theorem brS_tgt : ∀ (k : Nat) (c : Ex) (n l : Int), ((brS k c n l).2 = (n, l)) ∨ ((brS k c n l).2 = (l, n)) := by
  intro k
  induction k with
  | zero => intro c n l; exact .inl rfl
  | succ k ih =>
  intro c n l
  unfold brS
  split
  · rcases ih c.x l n with h | h
    · exact .inr h
    · exact .inl h
  split
  · exact ih c.x n l
  · exact .inl rfl
/-- The branch goes where it went. -/
theorem brS_ev (V : List Int) (L : Int → Int → Int × Int) : ∀ (k : Nat) (c : Ex) (n l : Int), formB c = true → c.nodes ≤ k →
    (evR V L (brS k c n l).1).2 = (evR V L c).2 ∧
    ((evR V L c).2 = 0 → (if (evR V L (brS k c n l).1).1 = 0 then (brS k c n l).2.2 else (brS k c n l).2.1) = if (evR V L c).1 = 0 then l else n) := by
  intro k
  induction k with
  | zero => intro c n l _ h; have := c.nodes_pos; omega
  | succ k ih =>
  intro c n l hf hk
  unfold brS
  split
  · rename_i h
    obtain ⟨he, hx, _, hn, _⟩ := form_one3 hf (by omega)
    have hev : evR V L c = if (evR V L c.x).2 ≠ 0 then (0, (evR V L c.x).2) else (if (evR V L c.x).1 = 0 then 1 else 0, 0) := by
      have h0 : c = eOne 16 c.x := by
        conv => lhs; rw [he, h]
        have hw : c.wd = 0 := by have := (form_all hf).1; rw [h, okE_one (.inl rfl)] at this; exact this.2.2.1
        rw [hw]
        rfl
      conv => lhs; rw [h0, ev_not]
    obtain ⟨i1, i2⟩ := ih c.x l n hx (by omega)
    rw [hev]
    by_cases h0 : (evR V L c.x).2 = 0
    · rw [if_neg (by simpa using h0)]
      refine ⟨i1.trans h0, fun _ => ?_⟩
      rw [i2 h0]
      by_cases hz : (evR V L c.x).1 = 0 <;> simp [hz]
    · rw [if_pos h0]
      exact ⟨i1, fun h => absurd h h0⟩
  split
  · rename_i h
    obtain ⟨he, hx, hy⟩ := two_parts hf (by omega) (by omega)
    obtain ⟨_, _, _, hn, _⟩ := form_two3 hf (by omega) (by omega)
    obtain ⟨k1, k2⟩ := isB_iff.1 h.2
    have hy0 : c.y = eCon 0 := by rw [form_con hy k1, k2]
    have hev : evR V L c = if (evR V L c.x).2 ≠ 0 then (0, (evR V L c.x).2) else (if (evR V L c.x).1 = 0 then 0 else 1, 0) := by
      conv => lhs; rw [he, h.1, hy0, ev_two, ev_con]
      simp [apR]
    obtain ⟨i1, i2⟩ := ih c.x n l hx (by omega)
    rw [hev]
    by_cases h0 : (evR V L c.x).2 = 0
    · rw [if_neg (by simpa using h0)]
      refine ⟨i1.trans h0, fun _ => ?_⟩
      rw [i2 h0]
      by_cases hz : (evR V L c.x).1 = 0 <;> simp [hz]
    · rw [if_pos h0]
      exact ⟨i1, fun h => absurd h h0⟩
  · exact ⟨rfl, fun _ => rfl⟩
/-! ### a statement stays well-formed, and stays -/
theorem stErr_of {s : St} (h1 : exprsN s.op = s.e.length) (h2 : ∀ e ∈ s.e, shalB 64 e = true ∧ formB e = true) (h3 : fieldsB s = true) : stErr s = 0 := by
  have : ∀ l : List Ex, (∀ e ∈ l, shalB 64 e = true ∧ formB e = true) → exsErr l = 0 := by
    intro l
    induction l with
    | nil => intro _; rfl
    | cons a l ih =>
      intro h
      have h1 := h a (by simp)
      simp only [exsErr, exErr, h1.1, h1.2, if_true]
      exact ih fun e he => h e (by simp [he])
  unfold stErr
  rw [if_pos h1, if_pos (this _ h2), if_pos h3]
theorem st_parts {s : St} (h : stErr s = 0) : exprsN s.op = s.e.length ∧ (∀ e ∈ s.e, shalB 64 e = true ∧ formB e = true) ∧ fieldsB s = true := by
  unfold stErr at h
  split at h
  case isFalse => omega
  rename_i h1
  split at h
  case isFalse h2 => exact absurd h h2
  rename_i h2
  split at h
  case isFalse => omega
  rename_i h3
  refine ⟨h1, fun e he => ?_, h3⟩
  have h4 := exsErr_mem h2 e he
  unfold exErr at h4
  split at h4
  · rename_i h5
    split at h4
    · rename_i h6; exact ⟨h5, h6⟩
    · omega
  · omega
theorem fields_7 {s : St} (h : s.op = 7) (E : List Ex) (n l : Int) : fieldsB { s with e := E, nx := n, el := l } = fieldsB s := by
  simp [fieldsB, h]
/-- What the simplification of a well-formed statement leaves. -/
theorem sSt_op (s : St) : (sSt s).op = s.op := by
  unfold sSt
  split
  · split <;> rfl
  · rfl
theorem sSt_len (s : St) : (sSt s).e.length = s.e.length := by
  unfold sSt
  split
  · rename_i c h
    have := congrArg List.length h
    simp at this
    split <;> simp [this]
  · simp
theorem sSt_cs (s : St) : (sSt s).cs = s.cs := by
  unfold sSt
  split
  · split <;> rfl
  · rfl
theorem sSt_fields (s : St) : fieldsB (sSt s) = fieldsB s := by
  unfold sSt
  split
  · split
    · rename_i h; exact fields_7 h _ _ _
    · rfl
  · rfl
theorem sSt_tgts (s : St) (p : Int → Bool) : (tgts (sSt s)).any p = (tgts s).any p := by
  have h1 := sSt_op s
  have h2 := sSt_cs s
  by_cases h7 : s.op = 7
  · unfold sSt
    split
    · rename_i c h
      rw [if_pos h7]
      simp only [tgts, h7]
      rcases brS_tgt c.nodes c s.nx s.el with ht | ht
      · have e1 := congrArg Prod.fst ht
        have e2 := congrArg Prod.snd ht
        simp only at e1 e2
        simp [e1, e2]
      · have e1 := congrArg Prod.fst ht
        have e2 := congrArg Prod.snd ht
        simp only at e1 e2
        simp [e1, e2, Bool.or_comm]
    · rfl
  · have h3 : (sSt s).nx = s.nx := by
      unfold sSt
      split
      · rw [if_neg h7]
      · rfl
    unfold tgts
    rw [h1, h2, h3, if_neg h7, if_neg h7]
/-- Its expressions. -/
theorem sSt_mem {s : St} (hf : ∀ e ∈ s.e, shalB 64 e = true ∧ formB e = true) {x : Ex} (hx : x ∈ (sSt s).e) : ∃ e ∈ s.e, shalB 64 x = true ∧ formB x = true ∧ Norm x ∧ (OkN e → OkN x) ∧ x.nodes ≤ e.nodes ∧ x.depth ≤ e.depth := by
  have hs : ∀ e ∈ s.e, shalB 64 (sExpr e) = true ∧ formB (sExpr e) = true ∧ Norm (sExpr e) ∧ (OkN e → OkN (sExpr e)) ∧ (sExpr e).nodes ≤ e.nodes ∧ (sExpr e).depth ≤ e.depth := fun e he => by
    obtain ⟨h1, h2⟩ := hf e he
    have := sexpr_ok h1 h2
    exact ⟨sexpr_shal h1 h2, this.form, this.norm, sexpr_okN h1 h2, this.nodes, this.depth⟩
  unfold sSt at hx
  split at hx
  · rename_i c h
    obtain ⟨e, he⟩ : ∃ e, s.e = [e] := by
      have := congrArg List.length h
      simp at this
      exact List.length_eq_one_iff.1 this
    have hc : c = sExpr e := by rw [he] at h; simpa using h.symm
    obtain ⟨a1, a2, a3, a4, a5, a6⟩ := hs e (by rw [he]; simp)
    rw [← hc] at a1 a2 a3 a4 a5 a6
    refine ⟨e, by rw [he]; simp, ?_⟩
    split at hx
    · simp only [List.mem_singleton] at hx
      subst hx
      have := brS_ok c.nodes c s.nx s.el a2 (Nat.le_refl _)
      refine ⟨?_, this.form, this.norm a3, fun h => this.okn (a4 h), by have := this.nodes; omega, by have := this.depth; omega⟩
      have hd := this.depth
      rw [shal_iff] at a1 ⊢
      omega
    · simp only [List.mem_singleton] at hx
      subst hx
      exact ⟨a1, a2, a3, a4, a5, a6⟩
  · simp only [List.mem_map] at hx
    obtain ⟨e, he, rfl⟩ := hx
    exact ⟨e, he, hs e he⟩
theorem sStmt_err {s : St} (h : stErr s = 0) : stErr (sStmt s) = 0 := by
  obtain ⟨h1, h2, h3⟩ := st_parts h
  unfold sStmt
  rw [if_pos h]
  refine stErr_of ?_ ?_ ?_
  · rw [sSt_op, sSt_len]; exact h1
  · intro x hx
    obtain ⟨e, he, k1, k2, _⟩ := sSt_mem h2 hx
    exact ⟨k1, k2⟩
  · rw [sSt_fields]; exact h3
theorem sExpr_norm {x : Ex} (h1 : shalB 64 x = true) (h2 : formB x = true) (h3 : Norm x) : sExpr x = x := by
  rw [sexpr_eq h1 h2]
  exact norm_simp h3 _
theorem sStmt_again {s : St} (h : stErr s = 0) : sStmt (sStmt s) = sStmt s := by
  obtain ⟨h1, h2, h3⟩ := st_parts h
  have he := sStmt_err h
  have hmap : (sStmt s).e.map sExpr = (sStmt s).e := by
    conv => rhs; rw [← List.map_id (sStmt s).e]
    refine List.map_congr_left fun x hx => ?_
    unfold sStmt at hx
    rw [if_pos h] at hx
    obtain ⟨e, he, k1, k2, k3, _⟩ := sSt_mem h2 hx
    exact sExpr_norm k1 k2 k3
  have hd : ∀ c, s.op = 7 → (sStmt s).e = [c] → ∀ k n l, brS k c n l = (c, n, l) := by
    intro c h7 hc
    refine brS_done ?_
    have hx : c ∈ (sStmt s).e := by rw [hc]; simp
    unfold sStmt at hc hx
    rw [if_pos h] at hc hx
    unfold sSt at hc
    split at hc
    · rename_i d hd
      rw [if_pos h7] at hc
      obtain ⟨e, he⟩ : ∃ e, s.e = [e] := by
        have := congrArg List.length hd
        simp at this
        exact List.length_eq_one_iff.1 this
      have hde : d = sExpr e := by rw [he] at hd; simpa using hd.symm
      have hfd : formB d = true := by
        obtain ⟨k1, k2⟩ := h2 e (by rw [he]; simp)
        rw [hde]
        exact (sexpr_ok k1 k2).form
      simp only [List.cons.injEq, and_true] at hc
      rw [← hc]
      exact (brS_ok d.nodes d s.nx s.el hfd (Nat.le_refl _)).done
    · rename_i hno
      have : s.e.length = 1 := by have := h1; rw [h7] at this; simp [exprsN] at this; omega
      obtain ⟨e, he⟩ := List.length_eq_one_iff.1 this
      exact absurd (by rw [he]; rfl) (hno (sExpr e))
  have hop : (sStmt s).op = s.op := by unfold sStmt; rw [if_pos h]; exact sSt_op s
  obtain ⟨t, ht⟩ : ∃ t, sStmt s = t := ⟨_, rfl⟩
  rw [ht] at he hmap hd hop ⊢
  unfold sStmt
  rw [if_pos he]
  unfold sSt
  split
  · rename_i c hc
    rw [hmap] at hc
    split
    · rename_i h7
      rw [hd c (by rw [← hop]; exact h7) hc]
      simp only
      rw [← hc]
    · rw [← hc]
  · rw [hmap]
/-! ### a graph -/
def sBl (b : Bl) : Bl := ⟨b.ad, b.s.map sStmt⟩
def sGr (g : Gr) : Gr := ⟨g.ad, g.b.map sBl⟩
theorem sStmt_op (s : St) : (sStmt s).op = s.op := by
  unfold sStmt
  split
  · exact sSt_op s
  · rfl
theorem sStmt_tgts (s : St) (p : Int → Bool) : (tgts (sStmt s)).any p = (tgts s).any p := by
  unfold sStmt
  split
  · exact sSt_tgts s p
  · rfl
theorem any_map_term (l : List St) : (l.map sStmt).any termB = l.any termB := by
  rw [List.any_map]
  congr 1
  funext s
  simp [termB, sStmt_op]
theorem closed_sBl (n : Nat) (b : Bl) : closedB n (sBl b) = closedB n b := by
  unfold closedB sBl
  simp only [List.getLast?_map]
  cases b.s.getLast? with
  | none => rfl
  | some s =>
    simp only [Option.map_some, List.length_map, ← List.map_take, any_map_term, sStmt_tgts]
    simp [termB, sStmt_op]
theorem stN_sBl (l : List Bl) : stN (l.map sBl) = stN l := by
  induction l with
  | nil => rfl
  | cons b l ih => simp only [List.map_cons, stN, ih]; simp [sBl]
theorem stsErr_of {l : List St} (h : ∀ s ∈ l, stErr s = 0) : stsErr l = 0 := by
  induction l with
  | nil => rfl
  | cons a l ih =>
    simp only [stsErr, h a (by simp), if_true]
    exact ih fun s hs => h s (by simp [hs])
theorem blsErr_of {l : List Bl} (h : ∀ b ∈ l, stsErr b.s = 0) : blsErr l = 0 := by
  induction l with
  | nil => rfl
  | cons a l ih =>
    simp only [blsErr, h a (by simp), if_true]
    exact ih fun s hs => h s (by simp [hs])
theorem gr_parts {g : Gr} (h : grErr g = 0) : ¬ (256 < g.b.length ∨ 1024 < stN g.b) ∧ ¬ (g.b.length = 0 ∨ g.b.all (closedB g.b.length) = false) ∧ ∀ b ∈ g.b, ∀ s ∈ b.s, stErr s = 0 := by
  unfold grErr at h
  split at h
  · omega
  rename_i h1
  split at h
  · omega
  rename_i h2
  exact ⟨h1, h2, fun b hb s hs => stsErr_mem (blsErr_mem h b hb) s hs⟩
theorem sGr_err {g : Gr} (h : grErr g = 0) : grErr (sGr g) = 0 := by
  obtain ⟨h1, h2, h3⟩ := gr_parts h
  unfold grErr sGr
  simp only [List.length_map, stN_sBl]
  rw [if_neg h1, if_neg ?_]
  · refine blsErr_of fun b hb => ?_
    simp only [List.mem_map] at hb
    obtain ⟨a, ha, rfl⟩ := hb
    refine stsErr_of fun s hs => ?_
    simp only [sBl, List.mem_map] at hs
    obtain ⟨t, ht, rfl⟩ := hs
    exact sStmt_err (h3 a ha t ht)
  · rw [List.all_map]
    have : (closedB g.b.length ∘ sBl) = closedB g.b.length := by
      funext b
      exact closed_sBl _ b
    rw [this]
    exact h2
theorem sGr_again {g : Gr} (h : grErr g = 0) : sGr (sGr g) = sGr g := by
  obtain ⟨_, _, h3⟩ := gr_parts h
  unfold sGr
  simp only [List.map_map]
  congr 1
  refine List.map_congr_left fun b hb => ?_
  simp only [Function.comp, sBl, List.map_map]
  congr 1
  refine List.map_congr_left fun s hs => ?_
  exact sStmt_again (h3 b hb s hs)
end Go.Proofs.YtlidimmfpfockaaGreatDoor

/- Contracts: simplify.each of statements, blocks, numbers. -/
namespace Go.Proofs.YtlidimmfpfockaaGreatDoor
open Go.RowKit
set_option maxRecDepth 100000 in
theorem smeachS_af (g : Nat) (F : St → St) (l : List St) (hlen : l.length ≤ 1000000) (hg : okF Tryz.prog g = true) (h : ∀ y ∈ l, AF Tryz.prog g [stV (y)] (stV (F y))) :
    AF Tryz.prog 112 [.d (.sl 8 (sts l)), .fn g [] []] (.d (.sl 8 (sts (l.map F)))) := by
  have n1 : l.length ≤ maxLen := by unfold maxLen; omega
  by_cases hl : l = []
  · subst hl
    refine af_of Tryz.func112 rfl (by kernel_rfl) (by simp [Tryz.ntmps112]) fun _ => ?_; simp [Tryz.f112, Ex.d_eq]
  refine af_of Tryz.func112 rfl (by kernel_rfl) (by simp [Tryz.ntmps112]) fun _ => ?_; simp [Tryz.f112, Ex.d_eq]
  simp [hl]
  refine aRaw_make (kl := .i64) (kc := .i64) (l := 0) (c := l.length) (z := [aI .i64 0, aI .i64 0, aI .i64 0, aI .i64 0, aI .i64 0, aI .u32 0, .d (.v (.slice none 0 0)), .d (.v (.slice none 0 0))]) byt_28 (by simp) (by simp) (by simp) (by omega) n1 (by omega) ?_
  simp
  refine aLoop_of (α := Nat) (fun i e A => i ≤ l.length ∧ (∃ N : AHeap, A = ⟨i, true, 26, 8, dEls (sts ((l.take i).map F))⟩ :: N) ∧
    e 16 = aI .i64 i ∧ e 15 = aI .i64 l.length ∧ e 14 = .d (.sl 8 (sts l)) ∧ e 5 = .own 0 i 0 i ∧ e 1 = .fn g [] []) (fun i => l.length - i) 0 (Sub.refl _ _ _)
    ⟨by omega, ⟨[], by simp⟩, by simp, by simp, by simp, by simp, by simp⟩ ?_
  rintro i e A ⟨hi, ⟨N, rfl⟩, e16, e15, e14, e5, e1⟩ K hK
  rcases Nat.lt_or_ge i l.length with hlt | hge
  case inr =>
    obtain rfl : i = l.length := by omega
    have ht : List.take l.length (sts (l.map F)) = sts (l.map F) := List.take_of_length_le (by simp)
    simp [e16, e15, e5, ht]
  obtain ⟨y, hy⟩ : ∃ y, l[i]? = some y := ⟨_, List.getElem?_eq_getElem hlt⟩
  have hy2 := (List.getElem?_eq_some_iff.1 hy).2
  have hmin : min i l.length = i := by omega
  simp [e16, e15, e14, e5, e1, hlt, hy, hy2, St.d_eq]
  refine aCall_of (h y (List.mem_of_getElem? hy)) hg (by simp [St.d_eq]) ?_
  simp [e5, St.d_eq, hmin]
  refine aRaw_app byt_28 ?_
  simp [e5, St.d_eq, hmin]
  refine ⟨by unfold maxLen; omega, by omega, ?_⟩
  have hels : dEls (sts (List.take (i + 1) (l.map F))) = dEls (sts (List.take i (l.map F))) ++ [[aI .i64 (F y).op, aI .i64 (F y).va, aI .i64 (F y).wd, aI .i64 (F y).nx, aI .i64 (F y).el, aI .u32 (F y).tg, .d (.sl 5 (Ex.ds (F y).e)), .d (.sl 1 (i64s (F y).cs))]] := by
    rw [List.take_add_one, List.getElem?_map, hy]
    simp [sts, dEls, St.d_eq]
  simp [e16, succ_wrap hlt n1]
  refine hK (i + 1) _ _ _ _ (Sub.take 1 (by simp)) ⟨by omega, ⟨[], by rw [← hels]; simp⟩, by simp, by simp [e15], by simp [e14], by simp, by simp [e1]⟩ (by omega)
set_option maxRecDepth 100000 in
theorem smeachB_af (g : Nat) (F : Bl → Bl) (l : List Bl) (hlen : l.length ≤ 1000000) (hg : okF Tryz.prog g = true) (h : ∀ y ∈ l, AF Tryz.prog g [blV (y)] (blV (F y))) :
    AF Tryz.prog 110 [.d (.sl 2 (bls' l)), .fn g [] []] (.d (.sl 2 (bls' (l.map F)))) := by
  have n1 : l.length ≤ maxLen := by unfold maxLen; omega
  by_cases hl : l = []
  · subst hl
    refine af_of Tryz.func110 rfl (by kernel_rfl) (by simp [Tryz.ntmps110]) fun _ => ?_; simp [Tryz.f110, Ex.d_eq]
  refine af_of Tryz.func110 rfl (by kernel_rfl) (by simp [Tryz.ntmps110]) fun _ => ?_; simp [Tryz.f110, Ex.d_eq]
  simp [hl]
  refine aRaw_make (kl := .i64) (kc := .i64) (l := 0) (c := l.length) (z := [aI .u32 0, .d (.v (.slice none 0 0))]) byt_31 (by simp) (by simp) (by simp) (by omega) n1 (by omega) ?_
  simp
  refine aLoop_of (α := Nat) (fun i e A => i ≤ l.length ∧ (∃ N : AHeap, A = ⟨i, true, 30, 2, dEls (bls' ((l.take i).map F))⟩ :: N) ∧
    e 16 = aI .i64 i ∧ e 15 = aI .i64 l.length ∧ e 14 = .d (.sl 2 (bls' l)) ∧ e 5 = .own 0 i 0 i ∧ e 1 = .fn g [] []) (fun i => l.length - i) 0 (Sub.refl _ _ _)
    ⟨by omega, ⟨[], by simp⟩, by simp, by simp, by simp, by simp, by simp⟩ ?_
  rintro i e A ⟨hi, ⟨N, rfl⟩, e16, e15, e14, e5, e1⟩ K hK
  rcases Nat.lt_or_ge i l.length with hlt | hge
  case inr =>
    obtain rfl : i = l.length := by omega
    have ht : List.take l.length (bls' (l.map F)) = bls' (l.map F) := List.take_of_length_le (by simp)
    simp [e16, e15, e5, ht]
  obtain ⟨y, hy⟩ : ∃ y, l[i]? = some y := ⟨_, List.getElem?_eq_getElem hlt⟩
  have hy2 := (List.getElem?_eq_some_iff.1 hy).2
  have hmin : min i l.length = i := by omega
  simp [e16, e15, e14, e5, e1, hlt, hy, hy2, Bl.d_eq]
  refine aCall_of (h y (List.mem_of_getElem? hy)) hg (by simp [Bl.d_eq]) ?_
  simp [e5, Bl.d_eq, hmin]
  refine aRaw_app byt_31 ?_
  simp [e5, Bl.d_eq, hmin]
  refine ⟨by unfold maxLen; omega, by omega, ?_⟩
  have hels : dEls (bls' (List.take (i + 1) (l.map F))) = dEls (bls' (List.take i (l.map F))) ++ [[aI .u32 (F y).ad, .d (.sl 8 (sts (F y).s))]] := by
    rw [List.take_add_one, List.getElem?_map, hy]
    simp [bls', dEls, Bl.d_eq]
  simp [e16, succ_wrap hlt n1]
  refine hK (i + 1) _ _ _ _ (Sub.take 1 (by simp)) ⟨by omega, ⟨[], by rw [← hels]; simp⟩, by simp, by simp [e15], by simp [e14], by simp, by simp [e1]⟩ (by omega)
set_option maxRecDepth 100000 in
theorem smeachI_af (g : Nat) (F : Int → Int) (l : List Int) (hlen : l.length ≤ 1000000) (hg : okF Tryz.prog g = true) (h : ∀ y ∈ l, AF Tryz.prog g [aI .i64 (y)] (aI .i64 (F y))) :
    AF Tryz.prog 84 [.d (.sl 1 (i64s l)), .fn g [] []] (.d (.sl 1 (i64s (l.map F)))) := by
  have n1 : l.length ≤ maxLen := by unfold maxLen; omega
  by_cases hl : l = []
  · subst hl
    refine af_of Tryz.func84 rfl (by kernel_rfl) (by simp [Tryz.ntmps84]) fun _ => ?_; simp [Tryz.f84, Ex.d_eq]
  refine af_of Tryz.func84 rfl (by kernel_rfl) (by simp [Tryz.ntmps84]) fun _ => ?_; simp [Tryz.f84, Ex.d_eq]
  simp [hl]
  refine aRaw_make (kl := .i64) (kc := .i64) (l := 0) (c := l.length) (z := [aI .i64 0]) byt_24 (by simp) (by simp) (by simp) (by omega) n1 (by omega) ?_
  simp
  refine aLoop_of (α := Nat) (fun i e A => i ≤ l.length ∧ (∃ N : AHeap, A = ⟨i, true, 3, 1, dEls (i64s ((l.take i).map F))⟩ :: N) ∧
    e 16 = aI .i64 i ∧ e 15 = aI .i64 l.length ∧ e 14 = .d (.sl 1 (i64s l)) ∧ e 5 = .own 0 i 0 i ∧ e 1 = .fn g [] []) (fun i => l.length - i) 0 (Sub.refl _ _ _)
    ⟨by omega, ⟨[], by simp⟩, by simp, by simp, by simp, by simp, by simp⟩ ?_
  rintro i e A ⟨hi, ⟨N, rfl⟩, e16, e15, e14, e5, e1⟩ K hK
  rcases Nat.lt_or_ge i l.length with hlt | hge
  case inr =>
    obtain rfl : i = l.length := by omega
    have ht : List.take l.length (i64s (l.map F)) = i64s (l.map F) := List.take_of_length_le (by simp)
    simp [e16, e15, e5, ht]
  obtain ⟨y, hy⟩ : ∃ y, l[i]? = some y := ⟨_, List.getElem?_eq_getElem hlt⟩
  have hy2 := (List.getElem?_eq_some_iff.1 hy).2
  have hmin : min i l.length = i := by omega
  simp [e16, e15, e14, e5, e1, hlt, hy, hy2, i64s_at]
  refine aCall_of (h y (List.mem_of_getElem? hy)) hg (by simp [i64s_at]) ?_
  simp [e5, i64s_at, hmin]
  refine aRaw_app byt_24 ?_
  simp [e5, i64s_at, hmin]
  refine ⟨by unfold maxLen; omega, by omega, ?_⟩
  have hels : dEls (i64s (List.take (i + 1) (l.map F))) = dEls (i64s (List.take i (l.map F))) ++ [[aI .i64 (F y)]] := by
    rw [List.take_add_one, List.getElem?_map, hy]
    simp [i64s, dEls, i64s_at]
  simp [e16, succ_wrap hlt n1]
  refine hK (i + 1) _ _ _ _ (Sub.take 1 (by simp)) ⟨by omega, ⟨[], by rw [← hels]; simp⟩, by simp, by simp [e15], by simp [e14], by simp, by simp [e1]⟩ (by omega)
end Go.Proofs.YtlidimmfpfockaaGreatDoor

/- Contract: simplify.Stmt. -/
namespace Go.Proofs.YtlidimmfpfockaaGreatDoor
open Go.RowKit
/-- A statement's box. -/
abbrev stBox (s : St) (E : AV) : Blk := ⟨0, true, 26, 8, [[aI .i64 s.op, aI .i64 s.va, aI .i64 s.wd, aI .i64 s.nx, aI .i64 s.el, aI .u32 s.tg, E, .d (.sl 1 (i64s s.cs))]]⟩
/-- The box of the zero statement. -/
abbrev stNil : Blk := ⟨0, true, 26, 8, [[aI .i64 0, aI .i64 0, aI .i64 0, aI .i64 0, aI .i64 0, aI .u32 0, .d (.v (.slice none 0 0)), .d (.v (.slice none 0 0))]]⟩
theorem sub_reiS {n : Nat} {e : AEnv} {A : AHeap} {b i o : Nat} {k : Blk} {x : List AV} {c c' : AV} (Bs : List Nat) (hb : (frz Bs A)[b]? = some k) (hx : k.els[i]? = some x) (ho : x[o]? = some c) (hr : reiV true (frz Bs A) 9 c = some c') :
    Sub n e A e ((frz Bs A).set b (setEls k (k.els.set i (x.set o c')))) := (Sub.frz Bs).trans (Sub.cell hb hx ho (VLe.rei hr))
/-- A branch's new condition is data from now on. -/
theorem sub_brs (e : AEnv) (s : St) (x : Ex) (ver : Nat) (B2 : Blk) :
    Sub 0 e [stBox s (.own 3 ver 0 1), stNil, B2, ⟨ver, true, 38, 5, [[aI .i64 x.op, aI .u32 x.n, aI .i64 x.v, aI .i64 x.wd, .d (.sl 5 (Ex.ds x.l))]]⟩] (fun i => cln 2 (e i)) [stBox s (.d (.sl 5 (Ex.ds [x]))), stNil] := by
  have h := sub_reiS (n := 0) (e := e) (A := [stBox s (.own 3 ver 0 1), stNil, B2, ⟨ver, true, 38, 5, [[aI .i64 x.op, aI .u32 x.n, aI .i64 x.v, aI .i64 x.wd, .d (.sl 5 (Ex.ds x.l))]]⟩]) [3] (b := 0) (i := 0) (o := 6)
    (k := stBox s (.own 3 ver 0 1)) (c := .own 3 ver 0 1) (c' := .d (.sl 5 (Ex.ds [x]))) (by simp [frz]) rfl rfl (by simp [frz, Ex.d_eq])
  have h2 := h.trans (Sub.take 2 (Nat.zero_le _))
  simpa [frz, setEls] using h2
theorem smident_af (n : Int) : AF Tryz.prog 85 [aI .i64 n] (aI .i64 n) := by
  refine af_of Tryz.func85 rfl (by kernel_rfl) (by simp [Tryz.ntmps85]) fun _ => ?_; simp [Tryz.f85, Ex.d_eq]
theorem prSt_nil {s : St} : bs (prSt s) = (⟨#[]⟩ : ByteArray) ↔ stErr s ≠ 0 := by
  unfold prSt
  by_cases h : stErr s = 0
  · rw [if_pos h]
    simp only [h, ne_eq, not_true, iff_false]
    intro h2
    have := congrArg (fun b => b.data.toList) h2
    exact xSt_ne s (by simpa using this)
  · rw [if_neg h]
    simp [h]
set_option maxRecDepth 100000 in
theorem smstmt_af (s : St) (hl : s.e.length ≤ 1000000) (hcl : s.cs.length ≤ 1000000) (hf : StFit s) (hn : ∀ e ∈ s.e, e.nodes ≤ 1000000) : AF Tryz.prog 28 [stV s] (stV (sStmt s)) := by
  have ci := smeachI_af 85 (fun n => n) s.cs hcl (by kernel_rfl) fun n _ => smident_af n
  rw [List.map_id'] at ci
  have cp := ilprintst_af s hl hf hn
  have hpn := prSt_nil (s := s)
  have hpe : stErr s = 0 → (bs (prSt s)).toList.isEmpty = false := fun h => by
    have h1 : prSt s = xSt s := by unfold prSt; rw [if_pos h]
    have h2 := xSt_ne s
    rw [h1]
    simpa using h2
  obtain ⟨P, hP⟩ : ∃ P, bs (prSt s) = P := ⟨_, rfl⟩
  rw [hP] at cp hpn hpe
  clear hP
  by_cases h0 : stErr s = 0
  case neg =>
    have hp : P = ⟨#[]⟩ := hpn.2 h0
    subst hp
    have cc := smeach_af 79 id s.e hl (by kernel_rfl) fun y hy => smclone_af y (hn y hy)
    rw [List.map_id] at cc
    unfold sStmt
    rw [if_neg h0]
    refine af_of Tryz.func28 rfl (by kernel_rfl) (by simp [Tryz.ntmps28]) fun _ => ?_; simp [Tryz.f28, Ex.d_eq]
    refine aCall_of (ci) (by simp) (by simp [Ex.d_eq]) ?_; simp [Ex.d_eq]
    refine aCall_of (cp) (by simp) (by simp [Ex.d_eq]) ?_; simp [Ex.d_eq]
    refine aCall_of (cc) (by simp) (by simp [Ex.d_eq]) ?_; simp [Ex.d_eq]
  have hp : P ≠ ⟨#[]⟩ := fun h => (hpn.1 h) h0
  have hpe1 := hpe h0
  clear hpe
  have ce := smeach_af 23 sExpr s.e hl (by kernel_rfl) fun y hy => smexpr_af y (hf.e y hy) (hn y hy)
  obtain ⟨k1, k2, _⟩ := stErr_ok h0
  unfold sStmt
  rw [if_pos h0]
  by_cases h7 : s.op = 7
  case neg =>
    have hs : sSt s = { s with e := s.e.map sExpr } := by
      unfold sSt
      split
      · rename_i c hc
        rw [if_neg h7, hc]
      · rfl
    rw [hs]
    refine af_of Tryz.func28 rfl (by kernel_rfl) (by simp [Tryz.ntmps28]) fun _ => ?_; simp [Tryz.f28, Ex.d_eq]
    refine aCall_of (ci) (by simp) (by simp [Ex.d_eq]) ?_; simp [Ex.d_eq]
    refine aCall_of (cp) (by simp) (by simp [Ex.d_eq]) ?_; simp [Ex.d_eq]
    simp [hpe1]
    refine aCall_of (ce) (by simp) (by simp [Ex.d_eq]) ?_; simp [Ex.d_eq]
    refine aLoop_iter 1 ?_; simp [Ex.d_eq]
    simp [h7]
  obtain ⟨a, ha⟩ : ∃ a, s.e = [a] := by
    rw [h7] at k1
    simp [exprsN] at k1
    exact List.length_eq_one_iff.1 (by omega)
  obtain ⟨m1, m2⟩ := k2 a (by rw [ha]; simp)
  have hok := (sexpr_ok m1 m2).form
  obtain ⟨c, hc⟩ : ∃ c, sExpr a = c := ⟨_, rfl⟩
  rw [hc] at hok
  have hs : sSt s = { s with e := [(brS c.nodes c s.nx s.el).1], nx := (brS c.nodes c s.nx s.el).2.1, el := (brS c.nodes c s.nx s.el).2.2 } := by
    unfold sSt
    rw [ha]
    simp only [List.map_cons, List.map_nil, hc, if_pos h7]
  rw [hs]
  rw [ha] at ce
  simp only [List.map_cons, List.map_nil, hc] at ce
  obtain ⟨op, va, wd, nx, el, tg, E, cs⟩ := s
  simp only at *
  subst h7 ha
  obtain ⟨R, hR⟩ : ∃ R, brS c.nodes c nx el = R := ⟨_, rfl⟩
  rw [hR]
  refine af_of Tryz.func28 rfl (by kernel_rfl) (by simp [Tryz.ntmps28]) fun _ => ?_; simp [Tryz.f28, Ex.d_eq]
  refine aCall_of (ci) (by simp) (by simp [Ex.d_eq]) ?_; simp [Ex.d_eq]
  refine aCall_of (cp) (by simp) (by simp [Ex.d_eq]) ?_; simp [Ex.d_eq]
  simp [hpe1]
  refine aCall_of (ce) (by simp) (by simp [Ex.d_eq]) ?_; simp [Ex.d_eq]
  refine aLoop_of (α := Nat × Ex × Int × Int) (fun q e A => formB q.2.1 = true ∧ q.2.1.nodes ≤ q.1 ∧ brS q.1 q.2.1 q.2.2.1 q.2.2.2 = R ∧
    A = [stBox ⟨7, va, wd, q.2.2.1, q.2.2.2, tg, [], cs⟩ (.d (.sl 5 (Ex.ds [q.2.1]))), stNil] ∧ e 1 = .ptr 0 0 0 0 ∧ e 2 = .ptr 1 0 0 0) (fun q => q.1) (c.nodes, c, nx, el) (Sub.refl _ _ _)
    ⟨hok, Nat.le_refl _, hR, by simp [Ex.d_eq], by simp, by simp⟩ ?_
  rintro ⟨k, x, n, l⟩ e A ⟨hfx, hk, hRx, rfl, e1, e2⟩ K hK
  simp only at hfx hk hRx
  match k with
  | 0 => have := x.nodes_pos; omega
  | k + 1 =>
  unfold brS at hRx
  by_cases h16 : x.op = 16
  · rw [if_pos h16] at hRx
    obtain ⟨y, he, hfy⟩ := form_one hfx (.inl h16)
    rw [h16] at he
    subst he
    simp only [nodes_one] at hk
    simp [e1, Ex.d_eq]
    exact hK (k, y, l, n) _ _ _ _ (sub_brs _ ⟨7, va, wd, l, n, tg, [], cs⟩ y _ _) ⟨hfy, by simp only; omega, hRx, by simp, by simp [e1], by simp [e2]⟩ (by simp)
  rw [if_neg h16] at hRx
  by_cases h13 : x.op = 13
  · obtain ⟨y, z, rfl, hfy, hfz⟩ := form_two' hfx h13 (by omega) (by omega)
    simp only [nodes_two] at hk
    simp [e1, Ex.d_eq]
    refine aCall_of (smis_af z 0) (by simp) (by simp [Ex.d_eq]) ?_; simp [Ex.d_eq]
    cases hz : isB z 0
    · simp
      rw [if_neg (by simp [hz])] at hRx
      subst hRx
      simp [e1, e2, Ex.d_eq]
    · simp
      rw [if_pos (by simp [hz])] at hRx
      simp [e1, Ex.d_eq]
      exact hK (k, y, n, l) _ _ _ _ (sub_brs _ ⟨7, va, wd, n, l, tg, [], cs⟩ y _ _) ⟨hfy, by simp only; omega, by simpa using hRx, by simp, by simp [e1], by simp [e2]⟩ (by simp)
  · rw [if_neg (fun h => h13 h.1)] at hRx
    subst hRx
    simp [e1, e2, h16, h13, Ex.d_eq]
end Go.Proofs.YtlidimmfpfockaaGreatDoor

/- Contract: the reference's Stmt of layer 22. -/
namespace Go.Proofs.YtlidimmfpfockaaGreatDoor
open Go.RowKit
/-- The condition that was appended is data from now on. -/
theorem sub_brs2 (e : AEnv) (s : St) (x : Ex) (ver : Nat) :
    Sub 0 e [stBox s (.own 2 ver 0 1), stNil, ⟨ver, true, 38, 5, [[aI .i64 x.op, aI .u32 x.n, aI .i64 x.v, aI .i64 x.wd, .d (.sl 5 (Ex.ds x.l))]]⟩] (fun i => cln 2 (e i)) [stBox s (.d (.sl 5 (Ex.ds [x]))), stNil] := by
  have h := sub_reiS (n := 0) (e := e) (A := [stBox s (.own 2 ver 0 1), stNil, ⟨ver, true, 38, 5, [[aI .i64 x.op, aI .u32 x.n, aI .i64 x.v, aI .i64 x.wd, .d (.sl 5 (Ex.ds x.l))]]⟩]) [2] (b := 0) (i := 0) (o := 6)
    (k := stBox s (.own 2 ver 0 1)) (c := .own 2 ver 0 1) (c' := .d (.sl 5 (Ex.ds [x]))) (by simp [frz]) rfl rfl (by simp [frz, Ex.d_eq])
  have h2 := h.trans (Sub.take 2 (Nat.zero_le _))
  simpa [frz, setEls] using h2
set_option maxRecDepth 100000 in
theorem q22stmt_af (s : St) (hl : s.e.length ≤ 1000000) (hf : StFit s) (hn : ∀ e ∈ s.e, e.nodes ≤ 1000000) : AF Tryz.prog 29 [stV s] (stV (sStmt s)) := by
  have n1 : s.e.length ≤ maxLen := by unfold maxLen; omega
  have cc := r19checkst_af s n1
  by_cases h0 : stErr s = 0
  case neg =>
    unfold sStmt
    rw [if_neg h0]
    refine af_of Tryz.func29 rfl (by kernel_rfl) (by simp [Tryz.ntmps29]) fun _ => ?_; simp [Tryz.f29, Ex.d_eq]
    refine aCall_of (cc) (by simp) (by simp [Ex.d_eq]) ?_; simp [Ex.d_eq]
    simp [h0]
  rw [h0] at cc
  have hch : ∀ y ∈ s.e, AF Tryz.prog 24 [exA y] (exA (sExpr y)) := fun y hy => q22expr_af y (hf.e y hy) (hn y hy)
  obtain ⟨k1, k2, _⟩ := stErr_ok h0
  obtain ⟨T, hT⟩ : ∃ T, sStmt s = T := ⟨_, rfl⟩
  rw [hT]
  unfold sStmt at hT
  rw [if_pos h0] at hT
  refine af_of Tryz.func29 rfl (by kernel_rfl) (by simp [Tryz.ntmps29]) fun _ => ?_; simp [Tryz.f29, Ex.d_eq]
  refine aCall_of (cc) (by simp) (by simp [Ex.d_eq]) ?_; simp [Ex.d_eq]
  refine aLoop_of (α := Nat) (fun i e A => i ≤ s.e.length ∧ A = [stBox s (.d (.sl 5 (Ex.ds s.e))), stNil, ⟨i, true, 38, 5, dEls (Ex.ds ((s.e.take i).map sExpr))⟩] ∧
    e 4 = aI .i64 i ∧ e 3 = .own 2 i 0 i ∧ e 1 = .ptr 0 0 0 0 ∧ e 2 = .ptr 1 0 0 0) (fun i => s.e.length - i) 0 ((Sub.ghost 0 38 5).trans (Sub.slot (s := 3) (c := .own 2 0 0 0) ?_))
    ⟨by omega, by simp, by simp, by simp, by simp, by simp⟩ ?_
  · simp
    exact VLe.nil_own (k := ⟨0, true, 38, 5, []⟩) (by simp) rfl
  rintro i e A ⟨hi, rfl, e4, e3, e1, e2⟩ K hK
  rcases Nat.lt_or_ge i s.e.length with hlt | hge
  case inl =>
    obtain ⟨y, hy⟩ : ∃ y, s.e[i]? = some y := ⟨_, List.getElem?_eq_getElem hlt⟩
    have hy2 := (List.getElem?_eq_some_iff.1 hy).2
    have hmin : min i s.e.length = i := by omega
    simp [e4, e3, e1, hlt, hy, hy2, Ex.d_eq]
    refine aCall_of (hch y (List.mem_of_getElem? hy)) (by simp) (by simp) ?_
    simp [e3, e4, Ex.d_eq, hmin]
    refine aRaw_app byt_23 ?_
    simp [e3, e4, Ex.d_eq, hmin]
    refine ⟨by unfold maxLen; omega, by omega, ?_⟩
    simp [e4, succ_wrap hlt n1]
    have hels : dEls (Ex.ds (List.map sExpr (List.take (i + 1) s.e))) = dEls (Ex.ds (List.map sExpr (List.take i s.e))) ++ [[aI .i64 (sExpr y).op, aI .u32 (sExpr y).n, aI .i64 (sExpr y).v, aI .i64 (sExpr y).wd, .d (.sl 5 (Ex.ds (sExpr y).l))]] := by
      rw [List.take_add_one, hy]
      simp [Ex.ds_map, dEls, Ex.d_eq]
    refine hK (i + 1) _ _ _ _ (Sub.take 3 (Nat.zero_le _)) ⟨by omega, by rw [hels]; simp, by simp, by simp, by simp [e1], by simp [e2]⟩ (by omega)
  obtain rfl : i = s.e.length := by omega
  rw [List.take_length]
  obtain ⟨M, hM⟩ : ∃ M, s.e.map sExpr = M := ⟨_, rfl⟩
  have hMl : s.e.length = M.length := by rw [← hM]; simp
  rw [hM]
  have hMt : List.take M.length (Ex.ds M) = Ex.ds M := List.take_of_length_le (by simp)
  by_cases h7 : s.op = 7
  case neg =>
    have hs : T = { s with e := M } := by
      rw [← hT, ← hM]
      unfold sSt
      split
      · rename_i c hc
        rw [if_neg h7, hc]
      · rfl
    subst hs
    simp [e4, e3, e1, Ex.d_eq]
    rw [hMl]
    refine aLoop_iter 1 ?_; simp [Ex.d_eq]
    simp [h7, e1, e2, hMt]
    try (rw [hMt]; exact NLeS.refl _)
  obtain ⟨a, ha⟩ : ∃ a, s.e = [a] := by
    rw [h7] at k1
    simp [exprsN] at k1
    exact List.length_eq_one_iff.1 (by omega)
  obtain ⟨m1, m2⟩ := k2 a (by rw [ha]; simp)
  have hok := (sexpr_ok m1 m2).form
  obtain ⟨c, hc⟩ : ∃ c, sExpr a = c := ⟨_, rfl⟩
  rw [hc] at hok
  have hM2 : M = [c] := by rw [← hM, ha]; simp [hc]
  subst hM2
  have hs : T = { s with e := [(brS c.nodes c s.nx s.el).1], nx := (brS c.nodes c s.nx s.el).2.1, el := (brS c.nodes c s.nx s.el).2.2 } := by
    rw [← hT]
    unfold sSt
    rw [ha]
    simp only [List.map_cons, List.map_nil, hc, if_pos h7]
  rw [hs]
  clear hT hs cc hch k2
  obtain ⟨op, va, wd, nx, el, tg, E, cs⟩ := s
  simp only at *
  subst h7 ha
  obtain ⟨R, hR⟩ : ∃ R, brS c.nodes c nx el = R := ⟨_, rfl⟩
  rw [hR]
  simp [e4, e3, e1, Ex.d_eq]
  refine aLoop_of (α := Nat × Ex × Int × Int) (fun q e A => formB q.2.1 = true ∧ q.2.1.nodes ≤ q.1 ∧ brS q.1 q.2.1 q.2.2.1 q.2.2.2 = R ∧
    A = [stBox ⟨7, va, wd, q.2.2.1, q.2.2.2, tg, [], cs⟩ (.d (.sl 5 (Ex.ds [q.2.1]))), stNil] ∧ e 1 = .ptr 0 0 0 0 ∧ e 2 = .ptr 1 0 0 0) (fun q => q.1) (c.nodes, c, nx, el) (sub_brs2 _ ⟨7, va, wd, nx, el, tg, [], cs⟩ c _)
    ⟨hok, Nat.le_refl _, hR, by simp [Ex.d_eq], by simp [e1], by simp [e2]⟩ ?_
  rintro ⟨k, x, n, l⟩ e A ⟨hfx, hk, hRx, rfl, e1, e2⟩ K hK
  simp only at hfx hk hRx
  match k with
  | 0 => have := x.nodes_pos; omega
  | k + 1 =>
  unfold brS at hRx
  by_cases h16 : x.op = 16
  · rw [if_pos h16] at hRx
    obtain ⟨y, he, hfy⟩ := form_one hfx (.inl h16)
    rw [h16] at he
    subst he
    simp only [nodes_one] at hk
    simp [e1, Ex.d_eq]
    exact hK (k, y, l, n) _ _ _ _ (Sub.take 2 (Nat.zero_le _)) ⟨hfy, by simp only; omega, hRx, by simp [Ex.d_eq], by simp [e1], by simp [e2]⟩ (by simp)
  rw [if_neg h16] at hRx
  by_cases h13 : x.op = 13
  · obtain ⟨y, z, rfl, hfy, hfz⟩ := form_two' hfx h13 (by omega) (by omega)
    simp only [nodes_two] at hk
    simp [e1, Ex.d_eq]
    refine aCall_of (q22isnum_af z 0) (by simp) (by simp [Ex.d_eq]) ?_; simp [Ex.d_eq]
    cases hz : isB z 0
    · simp
      rw [if_neg (by simp [hz])] at hRx
      subst hRx
      simp [e1, e2, Ex.d_eq]
    · simp
      rw [if_pos (by simp [hz])] at hRx
      simp [e1, Ex.d_eq]
      exact hK (k, y, n, l) _ _ _ _ (Sub.take 2 (Nat.zero_le _)) ⟨hfy, by simp only; omega, by simpa using hRx, by simp [Ex.d_eq], by simp [e1], by simp [e2]⟩ (by simp)
  · rw [if_neg (fun h => h13 h.1)] at hRx
    subst hRx
    simp [e1, e2, h16, h13, Ex.d_eq]
end Go.Proofs.YtlidimmfpfockaaGreatDoor

/- Contracts: simplify.Graph, the reference's Graph; the laws SimplifyStmt and SimplifyGraph answer true. -/
namespace Go.Proofs.YtlidimmfpfockaaGreatDoor
open Go.RowKit
/-- What the graphs of the laws hold. -/
def GrOk (g : Gr) : Prop := ∀ b ∈ g.b, ∀ s ∈ b.s, StFit s ∧ ∀ e ∈ s.e, e.nodes ≤ 1000000
theorem st_af {g : Gr} (hg : GrFit g) (ho : GrOk g) {b : Bl} (hb : b ∈ g.b) {s : St} (hs : s ∈ b.s) : AF Tryz.prog 28 [stV s] (stV (sStmt s)) :=
  smstmt_af s ((hg.2 b hb).2 s hs).1 ((hg.2 b hb).2 s hs).2 (ho b hb s hs).1 (ho b hb s hs).2
theorem rst_af {g : Gr} (hg : GrFit g) (ho : GrOk g) {b : Bl} (hb : b ∈ g.b) {s : St} (hs : s ∈ b.s) : AF Tryz.prog 29 [stV s] (stV (sStmt s)) :=
  q22stmt_af s ((hg.2 b hb).2 s hs).1 (ho b hb s hs).1 (ho b hb s hs).2
theorem smgraph_af (g : Gr) (hg : GrFit g) (ho : GrOk g) : AF Tryz.prog 40 [grV g] (if grErr g = 0 then .tup [grV (sGr g), aI .i64 0] else .tup [grV ⟨0, []⟩, aI .i64 (grErr g)]) := by
  have hb : ∀ b ∈ g.b, AF Tryz.prog 111 [blV b] (blV (sBl b)) := fun b hb => by
    have he := smeachS_af 28 sStmt b.s (hg.2 b hb).1 (by kernel_rfl) fun s hs => st_af hg ho hb hs
    refine af_of Tryz.func111 rfl (by kernel_rfl) (by simp [Tryz.ntmps111]) fun _ => ?_; simp [Tryz.f111, Ex.d_eq]
    refine aCall_of (he) (by simp) (by simp [Ex.d_eq]) ?_; simp [Ex.d_eq]
    simp [sBl]
  have he := smeachB_af 111 sBl g.b hg.1 (by kernel_rfl) hb
  refine af_of Tryz.func40 rfl (by kernel_rfl) (by simp [Tryz.ntmps40]) fun _ => ?_; simp [Tryz.f40, Ex.d_eq]
  refine aCall_of (ilcheckg_af g hg) (by simp) (by simp [Ex.d_eq]) ?_; simp [Ex.d_eq]
  by_cases h0 : grErr g = 0
  case neg => simp [h0]
  simp [h0]
  refine aCall_of (he) (by simp) (by simp [Ex.d_eq]) ?_; simp [Ex.d_eq]
  simp [sGr]
/-- The box of the zero graph. -/
abbrev grNil : Blk := ⟨0, true, 33, 2, [[aI .u32 0, .d (.v (.slice none 0 0))]]⟩
/-- A block that has been appended: its statements are written no more. -/
theorem sub_blk22 (e : AEnv) (B0 B1 B2 B4 B6 : Blk) (i v u : Nat) (ad : Int) (M : List St) (X : List (List D)) (hX : X.length = i) :
    Sub 0 e [B0, B1, B2, ⟨v, true, 30, 2, dEls X ++ [[aI .u32 ad, .own 5 u 0 M.length]]⟩, B4, ⟨u, true, 26, 8, dEls (sts M)⟩, B6] e
      [B0, B1, B2, ⟨v, true, 30, 2, dEls X ++ [[aI .u32 ad, .d (.sl 8 (sts M))]]⟩, B4, ⟨u, false, 26, 8, dEls (sts M)⟩, B6] := by
  have h := sub_reiS (n := 0) (e := e) (A := [B0, B1, B2, ⟨v, true, 30, 2, dEls X ++ [[aI .u32 ad, .own 5 u 0 M.length]]⟩, B4, ⟨u, true, 26, 8, dEls (sts M)⟩, B6]) [5] (b := 3) (i := i) (o := 1)
    (k := ⟨v, true, 30, 2, dEls X ++ [[aI .u32 ad, .own 5 u 0 M.length]]⟩) (x := [aI .u32 ad, .own 5 u 0 M.length]) (c := .own 5 u 0 M.length) (c' := .d (.sl 8 (sts M))) (by simp [frz]) (by simp [hX]) rfl (by simp [frz])
  simpa [frz, setEls, hX] using h
set_option maxRecDepth 100000 in
theorem q22graph_af (g : Gr) (hg : GrFit g) (ho : GrOk g) : AF Tryz.prog 41 [grV g] (if grErr g = 0 then .tup [grV (sGr g), aI .i64 0] else .tup [grV ⟨0, []⟩, aI .i64 (grErr g)]) := by
  have hg1 := hg.1
  have hl : g.b.length ≤ maxLen := by unfold maxLen; omega
  refine af_of Tryz.func41 rfl (by kernel_rfl) (by simp [Tryz.ntmps41]) fun _ => ?_; simp [Tryz.f41, Ex.d_eq]
  refine aCall_of (r19checkg_af g hg) (by simp) (by simp [Ex.d_eq]) ?_; simp [Ex.d_eq]
  by_cases h0 : grErr g = 0
  case neg => simp [h0]
  simp [h0]
  refine aLoop_st (fun i : Nat => [(1, .ptr 0 0 0 0), (2, .ptr 1 0 0 0), (3, aI .i64 0), (5, .ptr 2 0 0 0), (6, aI .i64 i)])
    (fun i => [gB g, grNil, ⟨0, true, 33, 2, [[aI .u32 g.ad, .own 3 i 0 i]]⟩, ⟨i, true, 30, 2, dEls (bls' ((g.b.take i).map sBl))⟩])
    (fun i => i ≤ g.b.length) (fun i => g.b.length - i) 0 ((Sub.ghost 0 30 2).trans (Sub.cell (b := 2) (i := 0) (o := 1) (c := .d (.v (.slice none 0 0))) (c' := .own 3 0 0 0) (by simp; rfl) rfl rfl (VLe.nil_own (k := ⟨0, true, 30, 2, []⟩) (by simp) rfl))) 4 (by omega) (by simp [setEls]) (by simp) (by omega) ?_
  rintro i hi K hK
  rcases Nat.lt_or_ge i g.b.length with hlt | hge
  case inr =>
    obtain rfl : i = g.b.length := by omega
    rw [List.take_length]
    simp
    exact ⟨rfl, by rw [List.take_of_length_le (by simp)]; exact NLeS.refl _⟩
  obtain ⟨b, hb⟩ : ∃ b, g.b[i]? = some b := ⟨_, List.getElem?_eq_getElem hlt⟩
  have hb2 := (List.getElem?_eq_some_iff.1 hb).2
  have hbm := List.mem_of_getElem? hb
  obtain ⟨f1, f2⟩ := hg.2 b hbm
  have hbl : b.s.length ≤ maxLen := by unfold maxLen; omega
  simp [hlt, hb, hb2, Bl.d_eq]
  refine aLoop_st (fun k : Nat => [(1, .ptr 0 0 0 0), (2, .ptr 1 0 0 0), (3, aI .i64 0), (5, .ptr 2 0 0 0), (6, aI .i64 i), (7, .ptr 4 0 0 0), (8, aI .i64 k)])
    (fun k => [gB g, grNil, ⟨0, true, 33, 2, [[aI .u32 g.ad, .own 3 i 0 i]]⟩, ⟨i, true, 30, 2, dEls (bls' ((g.b.take i).map sBl))⟩, ⟨0, true, 30, 2, [[aI .u32 b.ad, .own 5 k 0 k]]⟩,
      ⟨k, true, 26, 8, dEls (sts ((b.s.take k).map sStmt))⟩])
    (fun k => k ≤ b.s.length) (fun k => b.s.length - k) 0 ((Sub.ghost 0 26 8).trans (Sub.cell (b := 4) (i := 0) (o := 1) (c := .d (.v (.slice none 0 0))) (c' := .own 5 0 0 0) (by simp; rfl) rfl rfl (VLe.nil_own (k := ⟨0, true, 26, 8, []⟩) (by simp) rfl))) 6 (by omega) (by simp [setEls]) (by simp) (by omega) ?_
  rintro k hk K2 hK2
  rcases Nat.lt_or_ge k b.s.length with hlt2 | hge2
  case inr =>
    obtain rfl : k = b.s.length := by omega
    rw [List.take_length]
    have hmin : min i g.b.length = i := by omega
    simp [hlt, hb, hb2, Bl.d_eq]
    refine aRaw_app byt_31 ?_
    simp [hmin]
    refine ⟨by unfold maxLen; omega, by omega, ?_⟩
    simp [succ_wrap hlt hl]
    have hM := sub_blk22 (M := b.s.map sStmt) (X := bls' (List.take i (List.map sBl g.b))) (i := i) (hX := by simp [hmin])
    rw [List.length_map] at hM
    refine hK (i + 1) (by omega) (by omega) (hM _ _ _ _ _ _ _ _ _) 4 (by omega) ?_ (by simp)
    simp
    rw [List.take_add_one, List.getElem?_map, hb]
    simp [sBl, Bl.d_eq, List.map_take]
  obtain ⟨s, hs⟩ : ∃ s, b.s[k]? = some s := ⟨_, List.getElem?_eq_getElem hlt2⟩
  have hs2 := (List.getElem?_eq_some_iff.1 hs).2
  have cs := rst_af hg ho hbm (List.mem_of_getElem? hs)
  have hmin : min k b.s.length = k := by omega
  simp [hlt, hb, hb2, Bl.d_eq, hlt2, hs, hs2, St.d_eq]
  refine adraw2 13 [] (by kernel_rfl) (by kernel_rfl) (by kernel_rfl) (by kernel_rfl) (by kernel_rfl) ?_
  simp [hlt, hb, hb2, Bl.d_eq, hlt2, hs, hs2, St.d_eq]
  refine adC_of cs (by simp) trivial (by simp) (by simp [Ex.d_eq]) ?_
  simp [hmin]
  refine aRaw_app byt_28 ?_
  simp [hmin]
  refine ⟨by unfold maxLen; omega, by omega, ?_⟩
  simp [succ_wrap hlt2 hbl]
  refine hK2 (k + 1) (by omega) (by omega) (Sub.take 6 (Nat.zero_le _)) 6 (by omega) ?_ (by simp)
  simp
  rw [List.take_add_one, List.getElem?_map, hs]
  simp [St.d_eq, List.map_take]
theorem sst_refl (s : St) : sameSt s s = true := sameSt_iff.2 rfl
theorem sgr_refl (g : Gr) : sameG g g = true := sameG_iff.2 rfl
theorem exs_nodes {l : List Ex} {e : Ex} (h : e ∈ l) : e.nodes ≤ Ex.nodess l := Ex.nodess_mem h
theorem sStmt_len (s : St) : (sStmt s).e.length = s.e.length := by
  unfold sStmt
  split
  · exact sSt_len s
  · rfl
theorem sStmt_cs (s : St) : (sStmt s).cs = s.cs := by
  unfold sStmt
  split
  · exact sSt_cs s
  · rfl
theorem lawstmt22_af (s : St) (hf : StFit s) : AF Tryz.prog 6 [stV s] (aB true) := by
  have c0 := smallg_af ⟨0, [⟨0, [s]⟩]⟩ 70 (by omega) (by omega)
  have hx := sst_refl (sStmt s)
  obtain ⟨B, hB⟩ : ∃ B, smallG ⟨0, [⟨0, [s]⟩]⟩ 70 = B := ⟨_, rfl⟩
  rw [hB] at c0
  refine af_of Tryz.func6 rfl (by kernel_rfl) (by simp [Tryz.ntmps6]) fun _ => ?_; simp [Tryz.f6, Ex.d_eq]
  refine aCall_ofs c0 (by simp) (by simp [Ex.d_eq, St.d_eq, Bl.d_eq]) (by simp) ?_; simp [Ex.d_eq]
  cases B
  · simp
    refine aCall_of (l22ex_af) (by simp) (by simp [Ex.d_eq]) ?_; simp [Ex.d_eq]
  · obtain ⟨hg, _, h3⟩ := smallG_fit hB
    obtain ⟨_, h4⟩ := h3 ⟨0, [s]⟩ (by simp)
    obtain ⟨h5, h6, h7, _⟩ := h4 s (by simp)
    have hn : ∀ e ∈ s.e, e.nodes ≤ 1000000 := fun e he => by have := exs_nodes he; omega
    have c1 := smstmt_af s (by omega) (by omega) hf hn
    have c2 := q22stmt_af s (by omega) hf hn
    obtain ⟨T, hT⟩ : ∃ T, sStmt s = T := ⟨_, rfl⟩
    have hTl := sStmt_len s
    have hTc := sStmt_cs s
    rw [hT] at c1 c2 hx hTl hTc
    have c3 := r19samest_af T T (by unfold maxLen; omega) (by unfold maxLen; rw [hTc]; omega)
    rw [hx] at c3
    simp
    refine adraw [] (by kernel_rfl) (by kernel_rfl) (by kernel_rfl) (by kernel_rfl) ?_; simp [Ex.d_eq]
    refine adC_of (c1) (by simp) trivial (by simp) (by simp [Ex.d_eq]) ?_; simp [Ex.d_eq]
    refine adC_of (c2) (by simp) trivial (by simp) (by simp [Ex.d_eq]) ?_; simp [Ex.d_eq]
    refine adC_of (c3) (by simp) trivial (by simp) (by simp [Ex.d_eq]) ?_; simp [Ex.d_eq]
    refine adC_of (l22ex_af) (by simp) trivial (by simp) (by simp [Ex.d_eq]) ?_; simp [Ex.d_eq]
theorem sGr_fit {g : Gr} (hg : GrFit g) : GrFit (sGr g) := by
  refine ⟨by simpa [sGr] using hg.1, fun b hb => ?_⟩
  simp only [sGr, List.mem_map] at hb
  obtain ⟨a, ha, rfl⟩ := hb
  refine ⟨by simpa [sBl] using (hg.2 a ha).1, fun s hs => ?_⟩
  simp only [sBl, List.mem_map] at hs
  obtain ⟨t, ht, rfl⟩ := hs
  have := (hg.2 a ha).2 t ht
  rw [sStmt_len, sStmt_cs]
  exact this
theorem sStmt_fit {s : St} (hf : StFit s) (hn : ∀ e ∈ s.e, e.nodes ≤ 1000000) : StFit (sStmt s) ∧ ∀ e ∈ (sStmt s).e, e.nodes ≤ 1000000 := by
  unfold sStmt
  split
  case isFalse => exact ⟨hf, hn⟩
  rename_i h0
  obtain ⟨_, k2, _⟩ := stErr_ok h0
  have hm := fun x hx => sSt_mem k2 (x := x) hx
  refine ⟨⟨?_, ?_, ?_, fun x hx => ?_, ?_⟩, fun x hx => ?_⟩
  · unfold sSt
    split
    · rename_i c _
      split
      · rcases brS_tgt c.nodes c s.nx s.el with h | h
        · have := congrArg Prod.fst h
          simp only at this ⊢
          rw [this]; exact hf.nx
        · have := congrArg Prod.fst h
          simp only at this ⊢
          rw [this]; exact hf.el
      · exact hf.nx
    · exact hf.nx
  · unfold sSt
    split
    · rename_i c _
      split
      · rcases brS_tgt c.nodes c s.nx s.el with h | h
        · have := congrArg Prod.snd h
          simp only at this ⊢
          rw [this]; exact hf.el
        · have := congrArg Prod.snd h
          simp only at this ⊢
          rw [this]; exact hf.nx
      · exact hf.el
    · exact hf.el
  · unfold sSt
    split
    · split <;> exact hf.tg
    · exact hf.tg
  · obtain ⟨e, he, _, _, _, h4, _⟩ := hm x hx
    exact h4 (hf.e e he)
  · rw [sSt_cs]; exact hf.cs
  · obtain ⟨e, he, _, _, _, _, h5, _⟩ := hm x hx
    have := hn e he
    omega
theorem sGr_ok {g : Gr} (ho : GrOk g) : GrOk (sGr g) := by
  intro b hb s hs
  simp only [sGr, List.mem_map] at hb
  obtain ⟨a, ha, rfl⟩ := hb
  simp only [sBl, List.mem_map] at hs
  obtain ⟨t, ht, rfl⟩ := hs
  exact sStmt_fit (ho a ha t ht).1 (ho a ha t ht).2
theorem lawgraph22_af (g : Gr) (hf : ∀ b ∈ g.b, ∀ s ∈ b.s, StFit s) : AF Tryz.prog 9 [grV g] (aB true) := by
  have c0 := smallg_af g 12 (by omega) (by omega)
  obtain ⟨B, hB⟩ : ∃ B, smallG g 12 = B := ⟨_, rfl⟩
  rw [hB] at c0
  refine af_of Tryz.func9 rfl (by kernel_rfl) (by simp [Tryz.ntmps9]) fun _ => ?_; simp [Tryz.f9, Ex.d_eq]
  refine aCall_of (c0) (by simp) (by simp [Ex.d_eq]) ?_; simp [Ex.d_eq]
  cases B
  · simp
    refine aCall_of (l22ex_af) (by simp) (by simp [Ex.d_eq]) ?_; simp [Ex.d_eq]
  obtain ⟨hg, _, h3⟩ := smallG_fit hB
  have ho : GrOk g := fun b hb s hs => ⟨hf b hb s hs, fun e he => by
    obtain ⟨_, h4⟩ := h3 b hb
    have := (h4 s hs).2.2.1
    have := exs_nodes he
    omega⟩
  have c1 := smgraph_af g hg ho
  have c2 := q22graph_af g hg ho
  simp
  by_cases h0 : grErr g = 0
  case neg =>
    rw [if_neg h0] at c1 c2
    have c3 := r19sameg_af ⟨0, []⟩ ⟨0, []⟩ ⟨by simp, by simp⟩
    rw [sgr_refl] at c3
    refine aCall_of (c1) (by simp) (by simp [Ex.d_eq]) ?_; simp [Ex.d_eq]
    refine aCall_of (c2) (by simp) (by simp [Ex.d_eq]) ?_; simp [Ex.d_eq]
    refine aCall_of (c3) (by simp) (by simp [Ex.d_eq]) ?_; simp [Ex.d_eq]
    simp [h0]
    refine aCall_of (l22ex_af) (by simp) (by simp [Ex.d_eq]) ?_; simp [Ex.d_eq]
  rw [if_pos h0] at c1 c2
  have c3 := r19sameg_af (sGr g) (sGr g) (sGr_fit hg)
  rw [sgr_refl] at c3
  have c4 := smgraph_af (sGr g) (sGr_fit hg) (sGr_ok ho)
  rw [if_pos (sGr_err h0), sGr_again h0] at c4
  have c5 := r19checkg_af (sGr g) (sGr_fit hg)
  rw [sGr_err h0] at c5
  refine aCall_of (c1) (by simp) (by simp [Ex.d_eq]) ?_; simp [Ex.d_eq]
  refine aCall_of (c2) (by simp) (by simp [Ex.d_eq]) ?_; simp [Ex.d_eq]
  refine aCall_of (c3) (by simp) (by simp [Ex.d_eq]) ?_; simp [Ex.d_eq]
  refine aCall_of (c4) (by simp) (by simp [Ex.d_eq]) ?_; simp [Ex.d_eq]
  refine aCall_of (c5) (by simp) (by simp [Ex.d_eq]) ?_; simp [Ex.d_eq]
  refine aCall_of (c3) (by simp) (by simp [Ex.d_eq]) ?_; simp [Ex.d_eq]
  refine aCall_of (l22ex_af) (by simp) (by simp [Ex.d_eq]) ?_; simp [Ex.d_eq]
end Go.Proofs.YtlidimmfpfockaaGreatDoor

/- Contract: the law SimplifyNegated answers true. -/
namespace Go.Proofs.YtlidimmfpfockaaGreatDoor
open Go.RowKit
theorem small_depth {e : Ex} {m : Int} (h : 0 ≤ nodI e m 3000) : (e.depth : Int) ≤ m := by
  have := (nodI_le e m 3000 (by omega)).2
  omega
theorem shal_of {e : Ex} (h : (e.depth : Int) ≤ 64) : shalB 64 e = true := by
  rw [shal_iff]
  omega
end Go.Proofs.YtlidimmfpfockaaGreatDoor

/- Contract: the law SimplifyBranch answers true. -/
namespace Go.Proofs.YtlidimmfpfockaaGreatDoor
open Go.RowKit
/-- A branch on e. -/
abbrev brSt (e : Ex) (n l : Int) : St := ⟨7, 0, 0, n, l, 0, [e], []⟩
theorem brSt_err {e : Ex} (n l : Int) (h1 : shalB 64 e = true) (h2 : formB e = true) : stErr (brSt e n l) = 0 :=
  stErr_of rfl (fun x hx => by simp only [List.mem_singleton] at hx; subst hx; exact ⟨h1, h2⟩) (by simp [fieldsB])
theorem brSt_s {e : Ex} (n l : Int) (h1 : shalB 64 e = true) (h2 : formB e = true) :
    sStmt (brSt e n l) = ⟨7, 0, 0, (brS (sExpr e).nodes (sExpr e) n l).2.1, (brS (sExpr e).nodes (sExpr e) n l).2.2, 0, [(brS (sExpr e).nodes (sExpr e) n l).1], []⟩ := by
  unfold sStmt
  rw [if_pos (brSt_err n l h1 h2)]
  rfl
theorem branch22_af (e : Ex) (n l : Int) (V : List Int) (seed : Int) (hn : OkN e) (hnx : I64 n) (hel : I64 l) (hV : ∀ n ∈ V, R32 n) : AF Tryz.prog 7 [exA e, aI .i64 n, aI .i64 l, .d (.sl 1 (u32s V)), aI .u8 seed] (aB true) := by
  have hEv := evOk_mem2 V hV (mem22 seed) zer16
  have hL := fun a w ha hw => load2_af (B := mem22 seed) (C := zer16) (by simp [mem22]) (by simp [zer16]) a w ha hw
  have c1 := r20expr_af hEv hL e hn
  have hc := rcheck_af e
  refine af_of Tryz.func7 rfl (by kernel_rfl) (by simp [Tryz.ntmps7]) fun _ => ?_; simp [Tryz.f7, Ex.d_eq]
  refine aCall_of (small_af e 10 (by omega) (by omega)) (by simp) (by simp [Ex.d_eq]) ?_; simp [Ex.d_eq]
  by_cases hs : 0 ≤ nodI e 10 3000
  case neg =>
    simp [hs]
    refine aCall_of (l22ex_af) (by simp) (by simp [Ex.d_eq]) ?_; simp [Ex.d_eq]
  have hnd := small_n3 hs
  have hdp := small_depth hs
  simp [hs]
  by_cases hv : V.length ≤ 40
  case neg =>
    simp [show (40 : Int) < V.length by omega]
    refine aCall_of (l22ex_af) (by simp) (by simp [Ex.d_eq]) ?_; simp [Ex.d_eq]
  simp [show ¬ (40 : Int) < V.length by omega]
  by_cases h1 : shalB 64 e = true
  case neg =>
    rw [if_neg h1] at hc
    refine aCall_of (hc) (by simp) (by simp [Ex.d_eq]) ?_; simp [Ex.d_eq]
    refine aCall_of (l22ex_af) (by simp) (by simp [Ex.d_eq]) ?_; simp [Ex.d_eq]
  by_cases h2 : formB e = true
  case neg =>
    rw [if_pos h1, if_neg h2] at hc
    refine aCall_of (hc) (by simp) (by simp [Ex.d_eq]) ?_; simp [Ex.d_eq]
    refine aCall_of (l22ex_af) (by simp) (by simp [Ex.d_eq]) ?_; simp [Ex.d_eq]
  rw [if_pos h1, if_pos h2] at hc
  rw [if_pos (by simp [checkB, h1, h2])] at c1
  refine aCall_of (hc) (by simp) (by simp [Ex.d_eq]) ?_; simp [Ex.d_eq]
  have hst := smstmt_af (brSt e n l) (by simp) (by simp) ⟨hnx, hel, r32_0, by simp [hn], by simp⟩ (by simp; omega)
  rw [brSt_s n l h1 h2] at hst
  have ok := sexpr_ok h1 h2
  have okn := sexpr_okN h1 h2 hn
  have hx := brS_ok (sExpr e).nodes (sExpr e) n l ok.form (Nat.le_refl _)
  have hev := brS_ev V (ld22R seed) (sExpr e).nodes (sExpr e) n l ok.form (Nat.le_refl _)
  rw [sexpr_ev V hV seed hn h1 h2] at hev
  obtain ⟨x, nx, el, hr⟩ : ∃ x nx el, brS (sExpr e).nodes (sExpr e) n l = (x, nx, el) := ⟨_, _, _, rfl⟩
  rw [hr] at hst hx hev
  simp only at hst hx hev
  have c2 := r20expr_af hEv hL x (hx.okn okn)
  have hd := hx.depth
  have hd2 := ok.depth
  rw [if_pos (by simp only [checkB, shal_of (show (x.depth : Int) ≤ 64 by omega), hx.form, Bool.and_self])] at c2
  obtain ⟨v, hvv⟩ : ∃ v, (evR V (ld22R seed) e).1 = v := ⟨_, rfl⟩
  obtain ⟨f, hff⟩ : ∃ f, (evR V (ld22R seed) e).2 = f := ⟨_, rfl⟩
  obtain ⟨u, huu⟩ : ∃ u, (evR V (ld22R seed) x).1 = u := ⟨_, rfl⟩
  rw [hvv, hff] at c1 hev
  rw [huu, hev.1] at c2
  rw [huu] at hev
  refine aCall_ofz [1] hst (by simp) (by simp [frz, Ex.d_eq]) ?_; simp [frz, Ex.d_eq]
  refine aCall_of (l22memory_af seed) (by simp) (by simp [Ex.d_eq]) ?_; simp [Ex.d_eq]
  refine aCall_of (c1) (by simp) (by simp [Ex.d_eq]) ?_; simp [Ex.d_eq]
  refine adraw [] (by kernel_rfl) (by kernel_rfl) (by kernel_rfl) (by kernel_rfl) ?_; simp [Ex.d_eq]
  refine adC_of (c2) (by simp) trivial (by simp) (by simp [Ex.d_eq]) ?_; simp [Ex.d_eq]
  refine adraw [] (by kernel_rfl) (by kernel_rfl) (by kernel_rfl) (by kernel_rfl) ?_; simp [Ex.d_eq]
  by_cases hf : f = 0
  · have he := hev.2 hf
    subst hf
    by_cases hv0 : v = 0
    · rw [if_pos hv0] at he
      by_cases hu0 : u = 0
      · rw [if_pos hu0] at he
        simp [hv0, hu0, he]
        refine aCall_of (l22ex_af) (by simp) (by simp [Ex.d_eq]) ?_; simp [Ex.d_eq]
      · rw [if_neg hu0] at he
        simp [hv0, hu0, he]
        refine aCall_of (l22ex_af) (by simp) (by simp [Ex.d_eq]) ?_; simp [Ex.d_eq]
    · rw [if_neg hv0] at he
      by_cases hu0 : u = 0
      · rw [if_pos hu0] at he
        simp [hv0, hu0, he]
        refine aCall_of (l22ex_af) (by simp) (by simp [Ex.d_eq]) ?_; simp [Ex.d_eq]
      · rw [if_neg hu0] at he
        simp [hv0, hu0, he]
        refine aCall_of (l22ex_af) (by simp) (by simp [Ex.d_eq]) ?_; simp [Ex.d_eq]
  · by_cases hv0 : v = 0 <;> by_cases hu0 : u = 0 <;> simp [hf, hv0, hu0]
    all_goals
      refine aCall_of (l22ex_af) (by simp) (by simp [Ex.d_eq]) ?_; simp [Ex.d_eq]
end Go.Proofs.YtlidimmfpfockaaGreatDoor
