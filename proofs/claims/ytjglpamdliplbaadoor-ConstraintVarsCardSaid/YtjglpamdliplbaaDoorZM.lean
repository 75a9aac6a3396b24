/- Texts that the claim leans on, laid one behind the other: Ja, Js, Jb, Jc, Jf, Jd, Je. -/
import Derived.Test.YtjglpamdliplbaaDoorZD
import Derived.Test.YtjglpamdliplbaaDoorAp
import Derived.Test.YtjglpamdliplbaaDoorAn
import Derived.Test.YtjglpamdliplbaaDoorZB
import Derived.Test.YtjglpamdliplbaaDoorZG
set_option linter.unusedSimpArgs false
set_option linter.unusedVariables false
set_option linter.unnecessarySimpa false
/- Graphs as plain data, and as abstract values; when they are well-formed. No program in sight. -/
namespace Go.Proofs.YtjglpamdliplbaaDoor
open Go.RowKit
/-- A statement. -/
structure St where
  op : Int
  va : Int
  wd : Int
  nx : Int
  el : Int
  tg : Int
  e : List Ex
  cs : List Int
/-- A block. -/
structure Bl where
  ad : Int
  s : List St
/-- A graph. -/
structure Gr where
  ad : Int
  b : List Bl
/-- Numbers, as a slice's elements. -/
def i64s (l : List Int) : List (List D) := l.map fun n => [.v (.int .i64 n)]
@[simp] theorem i64s_nil : i64s [] = [] := rfl
@[simp] theorem i64s_cons (n : Int) (l : List Int) : i64s (n :: l) = [.v (.int .i64 n)] :: i64s l := rfl
@[simp] theorem i64s_len (l : List Int) : (i64s l).length = l.length := by simp [i64s]
@[simp] theorem i64s_get (l : List Int) (i : Nat) : (i64s l)[i]? = (l[i]?).map fun n => [.v (.int .i64 n)] := by simp [i64s]
@[simp] theorem i64s_at (l : List Int) (i : Nat) (h : i < (i64s l).length) : (i64s l)[i] = [.v (.int .i64 (l[i]'(by simpa using h)))] := by simp [i64s]
@[simp] theorem i64s_all (l : List Int) : (i64s l).take l.length = i64s l := by rw [List.take_of_length_le]; simp
@[simp] theorem i64s_app (l m : List Int) : i64s (l ++ m) = i64s l ++ i64s m := by simp [i64s]
def St.d (s : St) : List D := [.v (.int .i64 s.op), .v (.int .i64 s.va), .v (.int .i64 s.wd), .v (.int .i64 s.nx), .v (.int .i64 s.el), .v (.int .u32 s.tg), .sl 5 (Ex.ds s.e), .sl 1 (i64s s.cs)]
theorem St.d_eq (s : St) : St.d s = [.v (.int .i64 s.op), .v (.int .i64 s.va), .v (.int .i64 s.wd), .v (.int .i64 s.nx), .v (.int .i64 s.el), .v (.int .u32 s.tg), .sl 5 (Ex.ds s.e), .sl 1 (i64s s.cs)] := rfl
@[simp] theorem St.d_len (s : St) : (St.d s).length = 8 := rfl
/-- Statements, as a slice's elements. -/
def sts (l : List St) : List (List D) := l.map St.d
@[simp] theorem sts_nil : sts [] = [] := rfl
@[simp] theorem sts_cons (s : St) (l : List St) : sts (s :: l) = s.d :: sts l := rfl
@[simp] theorem sts_len (l : List St) : (sts l).length = l.length := by simp [sts]
@[simp] theorem sts_get (l : List St) (i : Nat) : (sts l)[i]? = (l[i]?).map St.d := by simp [sts]
@[simp] theorem sts_at (l : List St) (i : Nat) (h : i < (sts l).length) : (sts l)[i] = St.d (l[i]'(by simpa using h)) := by simp [sts]
@[simp] theorem sts_all (l : List St) : (sts l).take l.length = sts l := by rw [List.take_of_length_le]; simp
@[simp] theorem sts_app (l m : List St) : sts (l ++ m) = sts l ++ sts m := by simp [sts]
@[simp] theorem sts_take (l : List St) (n : Nat) : (sts l).take n = sts (l.take n) := by simp [sts]
def Bl.d (b : Bl) : List D := [.v (.int .u32 b.ad), .sl 8 (sts b.s)]
theorem Bl.d_eq (b : Bl) : Bl.d b = [.v (.int .u32 b.ad), .sl 8 (sts b.s)] := rfl
@[simp] theorem Bl.d_len (b : Bl) : (Bl.d b).length = 2 := rfl
/-- Blocks, as a slice's elements. -/
def bls' (l : List Bl) : List (List D) := l.map Bl.d
@[simp] theorem bls_nil : bls' [] = [] := rfl
@[simp] theorem bls_cons (b : Bl) (l : List Bl) : bls' (b :: l) = b.d :: bls' l := rfl
@[simp] theorem bls_len (l : List Bl) : (bls' l).length = l.length := by simp [bls']
@[simp] theorem bls_get (l : List Bl) (i : Nat) : (bls' l)[i]? = (l[i]?).map Bl.d := by simp [bls']
@[simp] theorem bls_at (l : List Bl) (i : Nat) (h : i < (bls' l).length) : (bls' l)[i] = Bl.d (l[i]'(by simpa using h)) := by simp [bls']
@[simp] theorem bls_all (l : List Bl) : (bls' l).take l.length = bls' l := by rw [List.take_of_length_le]; simp
@[simp] theorem bls_app (l m : List Bl) : bls' (l ++ m) = bls' l ++ bls' m := by simp [bls']
/-- A statement, by value. -/
@[simp] def stV (s : St) : AV := .agg [aI .i64 s.op, aI .i64 s.va, aI .i64 s.wd, aI .i64 s.nx, aI .i64 s.el, aI .u32 s.tg, .d (.sl 5 (Ex.ds s.e)), .d (.sl 1 (i64s s.cs))]
/-- A block, by value. -/
@[simp] def blV (b : Bl) : AV := .agg [aI .u32 b.ad, .d (.sl 8 (sts b.s))]
/-- A graph, by value. -/
@[simp] def grV (g : Gr) : AV := .agg [aI .u32 g.ad, .d (.sl 2 (bls' g.b))]
/-! ### the checks -/
/-- The error of an expression. -/
def exErr (e : Ex) : Int := if shalB 64 e = true then (if formB e = true then 0 else 2) else 20
/-- How many expressions a statement of a kind has. -/
def exprsN (op : Int) : Int :=
  if op = 1 ∨ op = 4 ∨ op = 7 ∨ op = 8 then 1 else if op = 2 then 2 else if op = 3 ∨ op = 5 ∨ op = 6 ∨ op = 9 ∨ op = 10 then 0 else -1
/-- Does a statement use the fields of its kind only? -/
def fieldsB (s : St) : Bool :=
  let va := (s.op == 1 || s.op == 3)
  (if va then decide (0 ≤ s.va) && decide (s.va < 65536) else s.va == 0) &&
  (if s.op = 2 then (s.wd == 1 || s.wd == 2 || s.wd == 4) else s.wd == 0) &&
  (s.op == 6 || s.op == 7 || s.nx == 0) && (s.op == 7 || s.el == 0) && (s.op == 5 || s.tg == 0) &&
  (if s.op = 8 then decide (1 ≤ s.cs.length) && decide (s.cs.length ≤ 64) else decide (s.cs = []))
/-- The first error of some expressions. -/
def exsErr : List Ex → Int
  | [] => 0
  | e :: l => if exErr e = 0 then exsErr l else exErr e
/-- The error of a statement. -/
def stErr (s : St) : Int := if exprsN s.op = s.e.length then (if exsErr s.e = 0 then (if fieldsB s = true then 0 else 2) else exsErr s.e) else 2
theorem exsErr_mem : ∀ {l : List Ex}, exsErr l = 0 → ∀ e ∈ l, exErr e = 0
  | [], _, b, hb => by cases hb
  | a :: l, h, b, hb => by
    simp only [exsErr] at h
    split at h
    · rename_i h0
      rcases List.mem_cons.1 hb with rfl | hb
      · exact h0
      · exact exsErr_mem h b hb
    · exact absurd h ‹_›
end Go.Proofs.YtjglpamdliplbaaDoor

/- Contracts: slices.IndexFunc, slices.ContainsFunc, slices.Clone, at statements and at numbers (printed by gen_slices.py). -/
namespace Go.Proofs.YtjglpamdliplbaaDoor
open Go.RowKit
end Go.Proofs.YtjglpamdliplbaaDoor

/- Contracts: il.CheckGraph and what it calls. -/
namespace Go.Proofs.YtjglpamdliplbaaDoor
open Go.RowKit
theorem op_cases (op : Int) : op = 1 ∨ op = 2 ∨ op = 3 ∨ op = 4 ∨ op = 5 ∨ op = 6 ∨ op = 7 ∨ op = 8 ∨ op = 9 ∨ op = 10 ∨ (¬ op = 1 ∧ ¬ op = 2 ∧ ¬ op = 3 ∧ ¬ op = 4 ∧ ¬ op = 5 ∧ ¬ op = 6 ∧ ¬ op = 7 ∧ ¬ op = 8 ∧ ¬ op = 9 ∧ ¬ op = 10) := by omega
theorem ilexprs_af (op : Int) : AF Tryd.prog 69 [aI .i64 op] (aI .i64 (exprsN op)) := by
  refine af_of Tryd.func69 rfl (by kernel_rfl) (by simp [Tryd.ntmps69]) fun _ => ?_
  rcases op_cases op with h | h | h | h | h | h | h | h | h | h | h <;> simp [Tryd.f69, exprsN, h]
theorem ilfields_af (s : St) : AF Tryd.prog 71 [stV s] (aB (fieldsB s)) := by
  obtain ⟨R, hR⟩ : ∃ R, fieldsB s = R := ⟨_, rfl⟩
  rw [hR]
  refine af_of Tryd.func71 rfl (by kernel_rfl) (by simp [Tryd.ntmps71]) fun _ => ?_
  rcases op_cases s.op with h | h | h | h | h | h | h | h | h | h | h <;> simp [Tryd.f71, h]
  case inl | inr.inr.inl =>
    have c := variable_af s.va
    cases hV : (decide (0 ≤ s.va) && decide (s.va < 65536)) <;> rw [hV] at c
    · refine aCall_of c (by simp) (by simp [Ex.d_eq]) ?_; simp [Ex.d_eq]
      rw [← hR]; simp only [fieldsB, h, hV]; simp
    · refine aCall_of c (by simp) (by simp [Ex.d_eq]) ?_; simp [Ex.d_eq]
      try simp [h]
      repeat' (refine aG_split (fun g => ?_) (fun g => ?_) <;> simp at g <;> simp [*])
      all_goals (rw [← hR]; simp only [fieldsB, h, hV]; simp [*])
  case inr.inl =>
    have c := access_af s.wd
    cases hV : (decide (s.wd = 1) || decide (s.wd = 2) || decide (s.wd = 4)) <;> rw [hV] at c
    · refine aCall_of c (by simp) (by simp [Ex.d_eq]) ?_; simp [Ex.d_eq]
      rw [← hR]; simp only [fieldsB, h]; simp at hV; simp [hV]
    · refine aCall_of c (by simp) (by simp [Ex.d_eq]) ?_; simp [Ex.d_eq]
      try simp [h]
      repeat' (refine aG_split (fun g => ?_) (fun g => ?_) <;> simp at g <;> simp [*])
      all_goals (rw [← hR]; simp only [fieldsB, h]; simp at hV; simp [*])
  case inr.inr.inr.inr.inr.inr.inl =>
    refine adraw [(5, 3)] (by kernel_rfl) (by kernel_rfl) (by kernel_rfl) (by kernel_rfl) ?_; simp [Ex.d_eq]
    try simp [h]
    repeat' (refine aG_split (fun g => ?_) (fun g => ?_) <;> simp at g <;> simp [*])
    all_goals (rw [← hR]; simp [fieldsB, *])
  case inr.inr.inr.inr.inr.inr.inr.inl =>
    by_cases g1 : s.cs.length < 1
    · have g2 : ¬ 1 ≤ s.cs.length := by omega
      have g3 : s.cs = [] := List.length_eq_zero_iff.1 (by omega)
      simp [g3]
      rw [← hR]; simp [fieldsB, h, g3]
    have g2 : 1 ≤ s.cs.length := by omega
    have g3 : ¬ (s.cs.length : Int) < 1 := by omega
    simp [g3]
    by_cases g4 : s.cs.length ≤ 64
    · have g5 : ¬ (64 : Int) < s.cs.length := by omega
      simp [g5, h]
      repeat' (refine aG_split (fun g => ?_) (fun g => ?_) <;> simp at g <;> simp [*])
      all_goals (rw [← hR]; simp [fieldsB, *])
    · have g5 : (64 : Int) < s.cs.length := by omega
      simp [g5]
      rw [← hR]; simp [fieldsB, h, g4]
  all_goals
    repeat' (refine aG_split (fun g => ?_) (fun g => ?_) <;> simp at g <;> simp [*])
    all_goals (rw [← hR]; simp [fieldsB, *])
theorem exs_drop {l : List Ex} {i : Nat} {x : Ex} (h : l[i]? = some x) : exsErr (l.drop i) = if exErr x = 0 then exsErr (l.drop (i + 1)) else exErr x := by
  obtain ⟨hi, rfl⟩ := List.getElem?_eq_some_iff.1 h
  rw [List.drop_eq_getElem_cons hi]
  rfl
theorem ilcheckst_af (s : St) (hl : s.e.length ≤ maxLen) : AF Tryd.prog 41 [stV s] (aI .i64 (stErr s)) := by
  obtain ⟨R, hR⟩ : ∃ R, stErr s = R := ⟨_, rfl⟩
  rw [hR]
  refine af_of Tryd.func41 rfl (by kernel_rfl) (by simp [Tryd.ntmps41]) fun _ => ?_; simp [Tryd.f41, Ex.d_eq]
  refine aCall_of (ilexprs_af s.op) (by simp) (by simp [Ex.d_eq]) ?_; simp [Ex.d_eq]
  by_cases h1 : exprsN s.op = s.e.length
  case neg =>
    have : R = 2 := by rw [← hR, stErr, if_neg h1]
    subst this
    by_cases h2 : exprsN s.op < 0
    · simp [h2]
    · simp [h2, h1]
  simp [h1, show ¬ (s.e.length : Int) < 0 by omega]
  refine aLoop_st (fun i : Nat => [(1, .ptr 0 0 0 0), (20, .d (.sl 5 (Ex.ds s.e))), (21, aI .i64 s.e.length), (22, aI .i64 i)]) (fun _ => [⟨0, true, 26, 8, [s.d.map AV.d]⟩])
    (fun i => i ≤ s.e.length ∧ exsErr (s.e.drop i) = exsErr s.e) (fun i => s.e.length - i) 0 (Sub.refl _ _ _) 1 (by omega) (by simp [St.d_eq]) (by simp) ⟨by omega, by simp⟩ ?_
  rintro i ⟨hi, hx⟩ K hK
  rcases Nat.lt_or_ge i s.e.length with hlt | hge
  case inr =>
    obtain rfl : i = s.e.length := by omega
    simp [exsErr] at hx
    simp [St.d_eq]
    refine aCall_of (ilfields_af s) (by simp) (by simp [Ex.d_eq]) ?_; simp [Ex.d_eq]
    rw [stErr, if_pos h1, if_pos hx.symm] at hR
    cases hf : fieldsB s <;> rw [hf] at hR <;> simp at hR <;> simp [hR]
  obtain ⟨y, hy⟩ : ∃ y, s.e[i]? = some y := ⟨_, List.getElem?_eq_getElem hlt⟩
  have hy2 := (List.getElem?_eq_some_iff.1 hy).2
  rw [exs_drop hy] at hx
  simp [hlt, hy, hy2, Ex.d_eq]
  refine aCall_of (check_af y) (by simp) (by simp [Ex.d_eq]) ?_; simp [Ex.d_eq]
  rw [show (if shalB 64 y = true then (if formB y = true then (0 : Int) else 2) else 20) = exErr y from rfl]
  by_cases h0 : exErr y = 0
  · rw [if_pos h0] at hx
    simp [h0, succ_wrap hlt hl]
    exact hK (i + 1) ⟨by omega, hx⟩ (by omega) (Sub.refl _ _ _) 1 (by omega) (by simp [St.d_eq]) (by simp)
  · rw [if_neg h0] at hx
    have : R = exErr y := by rw [← hR, stErr, if_pos h1, if_neg (by rw [← hx]; exact h0), hx]
    subst this
    simp [h0]
end Go.Proofs.YtjglpamdliplbaaDoor

/- Contracts: il.Successors, il.shaped, il.CheckGraph. -/
namespace Go.Proofs.YtjglpamdliplbaaDoor
open Go.RowKit
end Go.Proofs.YtjglpamdliplbaaDoor

/- Contracts: the reference's comparisons of numbers, statements, graphs. -/
namespace Go.Proofs.YtjglpamdliplbaaDoor
open Go.RowKit
end Go.Proofs.YtjglpamdliplbaaDoor

/- Contracts: the reference's CheckGraph and what it calls. -/
namespace Go.Proofs.YtjglpamdliplbaaDoor
open Go.RowKit
end Go.Proofs.YtjglpamdliplbaaDoor

/- Contracts: the reference's CheckStmt, isClosed, CheckGraph. -/
namespace Go.Proofs.YtjglpamdliplbaaDoor
open Go.RowKit
end Go.Proofs.YtjglpamdliplbaaDoor
