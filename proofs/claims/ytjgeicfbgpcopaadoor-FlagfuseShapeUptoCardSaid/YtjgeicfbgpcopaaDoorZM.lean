/- Texts that the claim leans on, laid one behind the other: Ja, Js, Jb, Jc, Jf. -/
import Derived.Test.YtjgeicfbgpcopaaDoorZD
import Derived.Test.YtjgeicfbgpcopaaDoorAp
import Derived.Test.YtjgeicfbgpcopaaDoorAn
import Derived.Test.YtjgeicfbgpcopaaDoorZB
import Derived.Test.YtjgeicfbgpcopaaDoorZG
set_option linter.unusedSimpArgs false
set_option linter.unusedVariables false
set_option linter.unnecessarySimpa false
/- Graphs as plain data, and as abstract values; when they are well-formed. No program in sight. -/
namespace Go.Proofs.YtjgeicfbgpcopaaDoor
open Go.RowKit
/-- A statement. -/
structure St where
  op : Int
  va : Int
  wd : Int
  nx : Int
  el : Int
  tg : Int
  e : List Ex
  cs : List Int
/-- A block. -/
structure Bl where
  ad : Int
  s : List St
/-- A graph. -/
structure Gr where
  ad : Int
  b : List Bl
/-- Numbers, as a slice's elements. -/
def i64s (l : List Int) : List (List D) := l.map fun n => [.v (.int .i64 n)]
@[simp] theorem i64s_nil : i64s [] = [] := rfl
@[simp] theorem i64s_cons (n : Int) (l : List Int) : i64s (n :: l) = [.v (.int .i64 n)] :: i64s l := rfl
@[simp] theorem i64s_len (l : List Int) : (i64s l).length = l.length := by simp [i64s]
@[simp] theorem i64s_get (l : List Int) (i : Nat) : (i64s l)[i]? = (l[i]?).map fun n => [.v (.int .i64 n)] := by simp [i64s]
@[simp] theorem i64s_at (l : List Int) (i : Nat) (h : i < (i64s l).length) : (i64s l)[i] = [.v (.int .i64 (l[i]'(by simpa using h)))] := by simp [i64s]
@[simp] theorem i64s_all (l : List Int) : (i64s l).take l.length = i64s l := by rw [List.take_of_length_le]; simp
@[simp] theorem i64s_app (l m : List Int) : i64s (l ++ m) = i64s l ++ i64s m := by simp [i64s]
def St.d (s : St) : List D := [.v (.int .i64 s.op), .v (.int .i64 s.va), .v (.int .i64 s.wd), .v (.int .i64 s.nx), .v (.int .i64 s.el), .v (.int .u32 s.tg), .sl 5 (Ex.ds s.e), .sl 1 (i64s s.cs)]
theorem St.d_eq (s : St) : St.d s = [.v (.int .i64 s.op), .v (.int .i64 s.va), .v (.int .i64 s.wd), .v (.int .i64 s.nx), .v (.int .i64 s.el), .v (.int .u32 s.tg), .sl 5 (Ex.ds s.e), .sl 1 (i64s s.cs)] := rfl
@[simp] theorem St.d_len (s : St) : (St.d s).length = 8 := rfl
/-- Statements, as a slice's elements. -/
def sts (l : List St) : List (List D) := l.map St.d
@[simp] theorem sts_nil : sts [] = [] := rfl
@[simp] theorem sts_cons (s : St) (l : List St) : sts (s :: l) = s.d :: sts l := rfl
@[simp] theorem sts_len (l : List St) : (sts l).length = l.length := by simp [sts]
@[simp] theorem sts_get (l : List St) (i : Nat) : (sts l)[i]? = (l[i]?).map St.d := by simp [sts]
@[simp] theorem sts_at (l : List St) (i : Nat) (h : i < (sts l).length) : (sts l)[i] = St.d (l[i]'(by simpa using h)) := by simp [sts]
@[simp] theorem sts_all (l : List St) : (sts l).take l.length = sts l := by rw [List.take_of_length_le]; simp
@[simp] theorem sts_app (l m : List St) : sts (l ++ m) = sts l ++ sts m := by simp [sts]
@[simp] theorem sts_take (l : List St) (n : Nat) : (sts l).take n = sts (l.take n) := by simp [sts]
def Bl.d (b : Bl) : List D := [.v (.int .u32 b.ad), .sl 8 (sts b.s)]
theorem Bl.d_eq (b : Bl) : Bl.d b = [.v (.int .u32 b.ad), .sl 8 (sts b.s)] := rfl
@[simp] theorem Bl.d_len (b : Bl) : (Bl.d b).length = 2 := rfl
/-- Blocks, as a slice's elements. -/
def bls' (l : List Bl) : List (List D) := l.map Bl.d
@[simp] theorem bls_nil : bls' [] = [] := rfl
@[simp] theorem bls_cons (b : Bl) (l : List Bl) : bls' (b :: l) = b.d :: bls' l := rfl
@[simp] theorem bls_len (l : List Bl) : (bls' l).length = l.length := by simp [bls']
@[simp] theorem bls_get (l : List Bl) (i : Nat) : (bls' l)[i]? = (l[i]?).map Bl.d := by simp [bls']
@[simp] theorem bls_at (l : List Bl) (i : Nat) (h : i < (bls' l).length) : (bls' l)[i] = Bl.d (l[i]'(by simpa using h)) := by simp [bls']
@[simp] theorem bls_all (l : List Bl) : (bls' l).take l.length = bls' l := by rw [List.take_of_length_le]; simp
@[simp] theorem bls_app (l m : List Bl) : bls' (l ++ m) = bls' l ++ bls' m := by simp [bls']
/-- A statement, by value. -/
@[simp] def stV (s : St) : AV := .agg [aI .i64 s.op, aI .i64 s.va, aI .i64 s.wd, aI .i64 s.nx, aI .i64 s.el, aI .u32 s.tg, .d (.sl 5 (Ex.ds s.e)), .d (.sl 1 (i64s s.cs))]
/-- A block, by value. -/
@[simp] def blV (b : Bl) : AV := .agg [aI .u32 b.ad, .d (.sl 8 (sts b.s))]
/-- A graph, by value. -/
@[simp] def grV (g : Gr) : AV := .agg [aI .u32 g.ad, .d (.sl 2 (bls' g.b))]
theorem i64s_inj : ∀ {l m : List Int}, i64s l = i64s m → l = m
  | [], [], _ => rfl
  | [], _ :: _, h => by simp at h
  | _ :: _, [], h => by simp at h
  | a :: l, b :: m, h => by
    simp at h
    rw [h.1, i64s_inj h.2]
/-! ### the checks -/
/-- The error of an expression. -/
def exErr (e : Ex) : Int := if shalB 64 e = true then (if formB e = true then 0 else 2) else 20
/-- How many expressions a statement of a kind has. -/
def exprsN (op : Int) : Int :=
  if op = 1 ∨ op = 4 ∨ op = 7 ∨ op = 8 then 1 else if op = 2 then 2 else if op = 3 ∨ op = 5 ∨ op = 6 ∨ op = 9 ∨ op = 10 then 0 else -1
/-- Does a statement use the fields of its kind only? -/
def fieldsB (s : St) : Bool :=
  let va := (s.op == 1 || s.op == 3)
  (if va then decide (0 ≤ s.va) && decide (s.va < 65536) else s.va == 0) &&
  (if s.op = 2 then (s.wd == 1 || s.wd == 2 || s.wd == 4) else s.wd == 0) &&
  (s.op == 6 || s.op == 7 || s.nx == 0) && (s.op == 7 || s.el == 0) && (s.op == 5 || s.tg == 0) &&
  (if s.op = 8 then decide (1 ≤ s.cs.length) && decide (s.cs.length ≤ 64) else decide (s.cs = []))
/-- The first error of some expressions. -/
def exsErr : List Ex → Int
  | [] => 0
  | e :: l => if exErr e = 0 then exsErr l else exErr e
/-- The error of a statement. -/
def stErr (s : St) : Int := if exprsN s.op = s.e.length then (if exsErr s.e = 0 then (if fieldsB s = true then 0 else 2) else exsErr s.e) else 2
def stsErr : List St → Int
  | [] => 0
  | s :: l => if stErr s = 0 then stsErr l else stErr s
def blsErr : List Bl → Int
  | [] => 0
  | b :: l => if stsErr b.s = 0 then blsErr l else stsErr b.s
/-- Does it end a block? -/
def termB (s : St) : Bool := decide (6 ≤ s.op) && decide (s.op ≤ 10)
/-- The blocks to which a statement goes. -/
def tgts (s : St) : List Int := if s.op = 6 then [s.nx] else if s.op = 7 then [s.nx, s.el] else if s.op = 8 then s.cs else []
def succL (b : Bl) : List Int := match b.s.getLast? with
  | some s => tgts s
  | none => []
/-- Ends a block with its only terminator, which goes to blocks of n? -/
def closedB (n : Nat) (b : Bl) : Bool := match b.s.getLast? with
  | some s => termB s && !(b.s.take (b.s.length - 1)).any termB && !(tgts s).any fun k => decide (k < 0) || decide ((n : Int) ≤ k)
  | none => false
def stN : List Bl → Nat
  | [] => 0
  | b :: l => b.s.length + stN l
/-- The error of a graph. -/
def grErr (g : Gr) : Int :=
  if 256 < g.b.length ∨ 1024 < stN g.b then 6
  else if g.b.length = 0 ∨ g.b.all (closedB g.b.length) = false then 18
  else blsErr g.b
theorem blsErr_mem : ∀ {l : List Bl}, blsErr l = 0 → ∀ b ∈ l, stsErr b.s = 0
  | [], _, b, hb => by cases hb
  | a :: l, h, b, hb => by
    simp only [blsErr] at h
    split at h
    · rename_i h0
      rcases List.mem_cons.1 hb with rfl | hb
      · exact h0
      · exact blsErr_mem h b hb
    · exact absurd h ‹_›
theorem stsErr_mem : ∀ {l : List St}, stsErr l = 0 → ∀ s ∈ l, stErr s = 0
  | [], _, b, hb => by cases hb
  | a :: l, h, b, hb => by
    simp only [stsErr] at h
    split at h
    · rename_i h0
      rcases List.mem_cons.1 hb with rfl | hb
      · exact h0
      · exact stsErr_mem h b hb
    · exact absurd h ‹_›
theorem exsErr_mem : ∀ {l : List Ex}, exsErr l = 0 → ∀ e ∈ l, exErr e = 0
  | [], _, b, hb => by cases hb
  | a :: l, h, b, hb => by
    simp only [exsErr] at h
    split at h
    · rename_i h0
      rcases List.mem_cons.1 hb with rfl | hb
      · exact h0
      · exact exsErr_mem h b hb
    · exact absurd h ‹_›
end Go.Proofs.YtjgeicfbgpcopaaDoor

/- Contracts: slices.IndexFunc, slices.ContainsFunc, slices.Clone, at statements and at numbers (printed by gen_slices.py). -/
namespace Go.Proofs.YtjgeicfbgpcopaaDoor
open Go.RowKit
theorem clone_in_ac (A : AHeap) (xs : List (List D)) (hl : xs.length ≤ 1000000000) :
    AC Tryd.prog 36 [.d (.sl 1 xs)] A fun r A' => r = .own A.length 1 0 xs.length ∧ A' = A ++ [⟨1, true, 3, 1, dEls xs⟩] := by
  refine AC.sub (R := fun r A' => (r = .own A.length 1 0 xs.length ∧ A' = A ++ [⟨1, true, 3, 1, dEls xs⟩]) ∨ (r = .d (.v (.slice none 0 0)) ∧ xs = [] ∧ A' = A)) (ac_of Tryd.func36 rfl (by kernel_rfl) (by simp [Tryd.ntmps36]) fun hb => ?_) ?_
  · have hall := bds_all hb.1.2
    clear hb
    simp [Tryd.f36]
    refine aRaw_app byt_30 ?_
    simp [hall]
    unfold maxLen
    omega
  · rintro r A' (⟨rfl, rfl⟩ | ⟨rfl, rfl, rfl⟩)
    · exact ⟨_, _, Sub.refl _ _ _, rfl, rfl⟩
    · refine ⟨_, _, (Sub.ghost 1 3 1).trans (Sub.env (e' := fun _ => .own A'.length 1 0 0) fun i => VLe.nil_own (k := ⟨1, true, 3, 1, []⟩) (by simp) rfl), ?_, ?_⟩ <;> simp
theorem clone_in_af (xs : List (List D)) (hl : xs.length ≤ 1000000000) : AF Tryd.prog 36 [.d (.sl 1 xs)] (.d (.sl 1 xs)) :=
  AC.af ((clone_in_ac [] xs hl).mono fun r A' h => by
    obtain ⟨rfl, rfl⟩ := h
    simp)
end Go.Proofs.YtjgeicfbgpcopaaDoor

/- Contracts: il.CheckGraph and what it calls. -/
namespace Go.Proofs.YtjgeicfbgpcopaaDoor
open Go.RowKit
theorem op_cases (op : Int) : op = 1 ∨ op = 2 ∨ op = 3 ∨ op = 4 ∨ op = 5 ∨ op = 6 ∨ op = 7 ∨ op = 8 ∨ op = 9 ∨ op = 10 ∨ (¬ op = 1 ∧ ¬ op = 2 ∧ ¬ op = 3 ∧ ¬ op = 4 ∧ ¬ op = 5 ∧ ¬ op = 6 ∧ ¬ op = 7 ∧ ¬ op = 8 ∧ ¬ op = 9 ∧ ¬ op = 10) := by omega
theorem exErr_nn {e : Ex} : exErr e = 0 ∨ exErr e = 2 ∨ exErr e = 20 := by
  unfold exErr
  split <;> (try split) <;> simp
theorem exs_drop {l : List Ex} {i : Nat} {x : Ex} (h : l[i]? = some x) : exsErr (l.drop i) = if exErr x = 0 then exsErr (l.drop (i + 1)) else exErr x := by
  obtain ⟨hi, rfl⟩ := List.getElem?_eq_some_iff.1 h
  rw [List.drop_eq_getElem_cons hi]
  rfl
end Go.Proofs.YtjgeicfbgpcopaaDoor

/- Contracts: il.Successors, il.shaped, il.CheckGraph. -/
namespace Go.Proofs.YtjgeicfbgpcopaaDoor
open Go.RowKit
abbrev bB (b : Bl) : Blk := ⟨0, true, 25, 2, [[aI .u32 b.ad, .d (.sl 8 (sts b.s))]]⟩
theorem last_get {α : Type} {l : List α} {n : Nat} (h : l.length = n + 1) : ∃ s, l[n]? = some s ∧ l.getLast? = some s := by
  refine ⟨l[n], List.getElem?_eq_getElem (by omega), ?_⟩
  rw [List.getLast?_eq_getElem?, show l.length - 1 = n by omega]
  exact List.getElem?_eq_getElem (by omega)
/-- Sizes that a machine holds. -/
def GrFit (g : Gr) : Prop := g.b.length ≤ 1000000 ∧ ∀ b ∈ g.b, b.s.length ≤ 1000000 ∧ ∀ s ∈ b.s, s.e.length ≤ 1000000 ∧ s.cs.length ≤ 1000000
theorem all_drop {α : Type} {p : α → Bool} {l : List α} {i : Nat} {x : α} (h : l[i]? = some x) : (l.drop i).all p = (p x && (l.drop (i + 1)).all p) := by
  obtain ⟨hi, rfl⟩ := List.getElem?_eq_some_iff.1 h
  rw [List.drop_eq_getElem_cons hi, List.all_cons]
theorem stN_app : ∀ (l m : List Bl), stN (l ++ m) = stN l + stN m
  | [], m => by simp [stN]
  | b :: l, m => by simp only [List.cons_append, stN, stN_app l m]; omega
theorem stN_take {l : List Bl} {i : Nat} {b : Bl} (h : l[i]? = some b) : stN (l.take (i + 1)) = stN (l.take i) + b.s.length := by
  rw [List.take_add_one, h, stN_app]
  simp [stN]
theorem stN_le : ∀ {l : List Bl}, (∀ b ∈ l, b.s.length ≤ 1000000) → stN l ≤ 1000000 * l.length
  | [], _ => by simp [stN]
  | b :: l, h => by
    have h1 := stN_le fun x hx => h x (List.mem_cons_of_mem b hx)
    have h2 := h b (List.mem_cons_self ..)
    simp only [stN, List.length_cons]
    omega
theorem bls_drop {l : List Bl} {i : Nat} {x : Bl} (h : l[i]? = some x) : blsErr (l.drop i) = if stsErr x.s = 0 then blsErr (l.drop (i + 1)) else stsErr x.s := by
  obtain ⟨hi, rfl⟩ := List.getElem?_eq_some_iff.1 h
  rw [List.drop_eq_getElem_cons hi]
  rfl
theorem sts_drop {l : List St} {i : Nat} {x : St} (h : l[i]? = some x) : stsErr (l.drop i) = if stErr x = 0 then stsErr (l.drop (i + 1)) else stErr x := by
  obtain ⟨hi, rfl⟩ := List.getElem?_eq_some_iff.1 h
  rw [List.drop_eq_getElem_cons hi]
  rfl
end Go.Proofs.YtjgeicfbgpcopaaDoor

/- Contracts: the reference's comparisons of numbers, statements, graphs. -/
namespace Go.Proofs.YtjgeicfbgpcopaaDoor
open Go.RowKit
/-- Elements that are the same, one by one. -/
def sameL {α : Type} (p : α → α → Bool) : List α → List α → Bool
  | [], [] => true
  | a :: l, b :: m => p a b && sameL p l m
  | _, _ => false
theorem sameL_iff {α : Type} {p : α → α → Bool} (hp : ∀ a b, p a b = true ↔ a = b) : ∀ {l m : List α}, sameL p l m = true ↔ l = m
  | [], [] => by simp [sameL]
  | [], _ :: _ => by simp [sameL]
  | _ :: _, [] => by simp [sameL]
  | a :: l, b :: m => by simp [sameL, hp, sameL_iff hp]
theorem sameL_drop {α : Type} {p : α → α → Bool} {l m : List α} {i : Nat} {x y : α} (h : l[i]? = some x) (g : m[i]? = some y) : sameL p (l.drop i) (m.drop i) = (p x y && sameL p (l.drop (i + 1)) (m.drop (i + 1))) := by
  obtain ⟨hi, rfl⟩ := List.getElem?_eq_some_iff.1 h
  obtain ⟨gi, rfl⟩ := List.getElem?_eq_some_iff.1 g
  rw [List.drop_eq_getElem_cons hi, List.drop_eq_getElem_cons gi]
  rfl
theorem sameL_len {α : Type} {p : α → α → Bool} : ∀ {l m : List α}, ¬ l.length = m.length → sameL p l m = false
  | [], [], h => by simp at h
  | [], _ :: _, _ => rfl
  | _ :: _, [], _ => rfl
  | a :: l, b :: m, h => by simp [sameL, sameL_len (l := l) (m := m) (by simpa using h)]
def sameI (l m : List Int) : Bool := sameL (fun a b => decide (a = b)) l m
theorem sameI_iff {l m : List Int} : sameI l m = true ↔ l = m := sameL_iff (fun a b => by simp)
def sameSt (s t : St) : Bool := decide (s.op = t.op) && decide (s.va = t.va) && decide (s.wd = t.wd) && decide (s.nx = t.nx) && decide (s.el = t.el) && decide (s.tg = t.tg) && decide (s.e.length = t.e.length) && sameI s.cs t.cs && sameL sameB s.e t.e
theorem sameSt_iff {s t : St} : sameSt s t = true ↔ s = t := by
  obtain ⟨o, v, w, n, e, g, l, c⟩ := s
  obtain ⟨o', v', w', n', e', g', l', c'⟩ := t
  simp only [sameSt, Bool.and_eq_true, decide_eq_true_eq, sameI_iff, sameL_iff (fun a b => sameB_iff), St.mk.injEq]
  constructor
  · rintro ⟨⟨⟨⟨⟨⟨⟨⟨h1, h2⟩, h3⟩, h4⟩, h5⟩, h6⟩, h7⟩, h8⟩, h9⟩
    exact ⟨h1, h2, h3, h4, h5, h6, h9, h8⟩
  · rintro ⟨h1, h2, h3, h4, h5, h6, h9, h8⟩
    exact ⟨⟨⟨⟨⟨⟨⟨⟨h1, h2⟩, h3⟩, h4⟩, h5⟩, h6⟩, by rw [h9]⟩, h8⟩, h9⟩
def sameBl (a b : Bl) : Bool := decide (a.ad = b.ad) && decide (a.s.length = b.s.length) && sameL sameSt a.s b.s
theorem sameBl_iff {a b : Bl} : sameBl a b = true ↔ a = b := by
  obtain ⟨x, s⟩ := a
  obtain ⟨y, t⟩ := b
  simp only [sameBl, Bool.and_eq_true, decide_eq_true_eq, sameL_iff (fun a b => sameSt_iff), Bl.mk.injEq]
  exact ⟨fun ⟨⟨h1, _⟩, h2⟩ => ⟨h1, h2⟩, fun ⟨h1, h2⟩ => ⟨⟨h1, by rw [h2]⟩, h2⟩⟩
def sameG (a b : Gr) : Bool := decide (a.ad = b.ad) && decide (a.b.length = b.b.length) && sameL sameBl a.b b.b
theorem sameG_iff {a b : Gr} : sameG a b = true ↔ a = b := by
  obtain ⟨x, s⟩ := a
  obtain ⟨y, t⟩ := b
  simp only [sameG, Bool.and_eq_true, decide_eq_true_eq, sameL_iff (fun a b => sameBl_iff), Gr.mk.injEq]
  exact ⟨fun ⟨⟨h1, _⟩, h2⟩ => ⟨h1, h2⟩, fun ⟨h1, h2⟩ => ⟨⟨h1, by rw [h2]⟩, h2⟩⟩
/-- The box of a statement. -/
abbrev stB (s : St) : Blk := ⟨0, true, 32, 8, [[aI .i64 s.op, aI .i64 s.va, aI .i64 s.wd, aI .i64 s.nx, aI .i64 s.el, aI .u32 s.tg, .d (.sl 5 (Ex.ds s.e)), .d (.sl 1 (i64s s.cs))]]⟩
end Go.Proofs.YtjgeicfbgpcopaaDoor
