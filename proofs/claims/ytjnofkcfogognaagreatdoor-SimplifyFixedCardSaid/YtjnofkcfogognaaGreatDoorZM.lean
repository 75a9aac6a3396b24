/- Texts that the claim leans on, laid one behind the other: Ja. -/
import Derived.Test.YtjnofkcfogognaaGreatDoorZD
import Derived.Test.YtjnofkcfogognaaGreatDoorAp
import Derived.Test.YtjnofkcfogognaaGreatDoorAn
set_option linter.unusedSimpArgs false
set_option linter.unusedVariables false
set_option linter.unnecessarySimpa false
/- Graphs as plain data, and as abstract values; when they are well-formed. No program in sight. -/
namespace Go.Proofs.YtjnofkcfogognaaGreatDoor
open Go.RowKit
/-- A statement. -/
structure St where
  op : Int
  va : Int
  wd : Int
  nx : Int
  el : Int
  tg : Int
  e : List Ex
  cs : List Int
/-- A block. -/
structure Bl where
  ad : Int
  s : List St
/-- A graph. -/
structure Gr where
  ad : Int
  b : List Bl
/-- Numbers, as a slice's elements. -/
def i64s (l : List Int) : List (List D) := l.map fun n => [.v (.int .i64 n)]
@[simp] theorem i64s_nil : i64s [] = [] := rfl
@[simp] theorem i64s_cons (n : Int) (l : List Int) : i64s (n :: l) = [.v (.int .i64 n)] :: i64s l := rfl
@[simp] theorem i64s_len (l : List Int) : (i64s l).length = l.length := by simp [i64s]
@[simp] theorem i64s_get (l : List Int) (i : Nat) : (i64s l)[i]? = (l[i]?).map fun n => [.v (.int .i64 n)] := by simp [i64s]
@[simp] theorem i64s_at (l : List Int) (i : Nat) (h : i < (i64s l).length) : (i64s l)[i] = [.v (.int .i64 (l[i]'(by simpa using h)))] := by simp [i64s]
@[simp] theorem i64s_all (l : List Int) : (i64s l).take l.length = i64s l := by rw [List.take_of_length_le]; simp
@[simp] theorem i64s_app (l m : List Int) : i64s (l ++ m) = i64s l ++ i64s m := by simp [i64s]
def St.d (s : St) : List D := [.v (.int .i64 s.op), .v (.int .i64 s.va), .v (.int .i64 s.wd), .v (.int .i64 s.nx), .v (.int .i64 s.el), .v (.int .u32 s.tg), .sl 5 (Ex.ds s.e), .sl 1 (i64s s.cs)]
theorem St.d_eq (s : St) : St.d s = [.v (.int .i64 s.op), .v (.int .i64 s.va), .v (.int .i64 s.wd), .v (.int .i64 s.nx), .v (.int .i64 s.el), .v (.int .u32 s.tg), .sl 5 (Ex.ds s.e), .sl 1 (i64s s.cs)] := rfl
@[simp] theorem St.d_len (s : St) : (St.d s).length = 8 := rfl
/-- Statements, as a slice's elements. -/
def sts (l : List St) : List (List D) := l.map St.d
@[simp] theorem sts_nil : sts [] = [] := rfl
@[simp] theorem sts_cons (s : St) (l : List St) : sts (s :: l) = s.d :: sts l := rfl
@[simp] theorem sts_len (l : List St) : (sts l).length = l.length := by simp [sts]
@[simp] theorem sts_get (l : List St) (i : Nat) : (sts l)[i]? = (l[i]?).map St.d := by simp [sts]
@[simp] theorem sts_at (l : List St) (i : Nat) (h : i < (sts l).length) : (sts l)[i] = St.d (l[i]'(by simpa using h)) := by simp [sts]
@[simp] theorem sts_all (l : List St) : (sts l).take l.length = sts l := by rw [List.take_of_length_le]; simp
@[simp] theorem sts_app (l m : List St) : sts (l ++ m) = sts l ++ sts m := by simp [sts]
@[simp] theorem sts_take (l : List St) (n : Nat) : (sts l).take n = sts (l.take n) := by simp [sts]
def Bl.d (b : Bl) : List D := [.v (.int .u32 b.ad), .sl 8 (sts b.s)]
theorem Bl.d_eq (b : Bl) : Bl.d b = [.v (.int .u32 b.ad), .sl 8 (sts b.s)] := rfl
@[simp] theorem Bl.d_len (b : Bl) : (Bl.d b).length = 2 := rfl
/-- Blocks, as a slice's elements. -/
def bls' (l : List Bl) : List (List D) := l.map Bl.d
@[simp] theorem bls_nil : bls' [] = [] := rfl
@[simp] theorem bls_cons (b : Bl) (l : List Bl) : bls' (b :: l) = b.d :: bls' l := rfl
@[simp] theorem bls_len (l : List Bl) : (bls' l).length = l.length := by simp [bls']
@[simp] theorem bls_get (l : List Bl) (i : Nat) : (bls' l)[i]? = (l[i]?).map Bl.d := by simp [bls']
@[simp] theorem bls_at (l : List Bl) (i : Nat) (h : i < (bls' l).length) : (bls' l)[i] = Bl.d (l[i]'(by simpa using h)) := by simp [bls']
@[simp] theorem bls_all (l : List Bl) : (bls' l).take l.length = bls' l := by rw [List.take_of_length_le]; simp
@[simp] theorem bls_app (l m : List Bl) : bls' (l ++ m) = bls' l ++ bls' m := by simp [bls']
/-- A statement, by value. -/
@[simp] def stV (s : St) : AV := .agg [aI .i64 s.op, aI .i64 s.va, aI .i64 s.wd, aI .i64 s.nx, aI .i64 s.el, aI .u32 s.tg, .d (.sl 5 (Ex.ds s.e)), .d (.sl 1 (i64s s.cs))]
/-- A block, by value. -/
@[simp] def blV (b : Bl) : AV := .agg [aI .u32 b.ad, .d (.sl 8 (sts b.s))]
/-- A graph, by value. -/
@[simp] def grV (g : Gr) : AV := .agg [aI .u32 g.ad, .d (.sl 2 (bls' g.b))]
theorem i64s_inj : ∀ {l m : List Int}, i64s l = i64s m → l = m
  | [], [], _ => rfl
  | [], _ :: _, h => by simp at h
  | _ :: _, [], h => by simp at h
  | a :: l, b :: m, h => by
    simp at h
    rw [h.1, i64s_inj h.2]
/-! ### the checks -/
/-- The error of an expression. -/
def exErr (e : Ex) : Int := if shalB 64 e = true then (if formB e = true then 0 else 2) else 20
/-- How many expressions a statement of a kind has. -/
def exprsN (op : Int) : Int :=
  if op = 1 ∨ op = 4 ∨ op = 7 ∨ op = 8 then 1 else if op = 2 then 2 else if op = 3 ∨ op = 5 ∨ op = 6 ∨ op = 9 ∨ op = 10 then 0 else -1
/-- Does a statement use the fields of its kind only? -/
def fieldsB (s : St) : Bool :=
  let va := (s.op == 1 || s.op == 3)
  (if va then decide (0 ≤ s.va) && decide (s.va < 65536) else s.va == 0) &&
  (if s.op = 2 then (s.wd == 1 || s.wd == 2 || s.wd == 4) else s.wd == 0) &&
  (s.op == 6 || s.op == 7 || s.nx == 0) && (s.op == 7 || s.el == 0) && (s.op == 5 || s.tg == 0) &&
  (if s.op = 8 then decide (1 ≤ s.cs.length) && decide (s.cs.length ≤ 64) else decide (s.cs = []))
/-- The first error of some expressions. -/
def exsErr : List Ex → Int
  | [] => 0
  | e :: l => if exErr e = 0 then exsErr l else exErr e
/-- The error of a statement. -/
def stErr (s : St) : Int := if exprsN s.op = s.e.length then (if exsErr s.e = 0 then (if fieldsB s = true then 0 else 2) else exsErr s.e) else 2
def stsErr : List St → Int
  | [] => 0
  | s :: l => if stErr s = 0 then stsErr l else stErr s
def blsErr : List Bl → Int
  | [] => 0
  | b :: l => if stsErr b.s = 0 then blsErr l else stsErr b.s
/-- Does it end a block? -/
def termB (s : St) : Bool := decide (6 ≤ s.op) && decide (s.op ≤ 10)
/-- The blocks to which a statement goes. -/
def tgts (s : St) : List Int := if s.op = 6 then [s.nx] else if s.op = 7 then [s.nx, s.el] else if s.op = 8 then s.cs else []
def succL (b : Bl) : List Int := match b.s.getLast? with
  | some s => tgts s
  | none => []
/-- Ends a block with its only terminator, which goes to blocks of n? -/
def closedB (n : Nat) (b : Bl) : Bool := match b.s.getLast? with
  | some s => termB s && !(b.s.take (b.s.length - 1)).any termB && !(tgts s).any fun k => decide (k < 0) || decide ((n : Int) ≤ k)
  | none => false
def stN : List Bl → Nat
  | [] => 0
  | b :: l => b.s.length + stN l
/-- The error of a graph. -/
def grErr (g : Gr) : Int :=
  if 256 < g.b.length ∨ 1024 < stN g.b then 6
  else if g.b.length = 0 ∨ g.b.all (closedB g.b.length) = false then 18
  else blsErr g.b
theorem blsErr_mem : ∀ {l : List Bl}, blsErr l = 0 → ∀ b ∈ l, stsErr b.s = 0
  | [], _, b, hb => by cases hb
  | a :: l, h, b, hb => by
    simp only [blsErr] at h
    split at h
    · rename_i h0
      rcases List.mem_cons.1 hb with rfl | hb
      · exact h0
      · exact blsErr_mem h b hb
    · exact absurd h ‹_›
theorem stsErr_mem : ∀ {l : List St}, stsErr l = 0 → ∀ s ∈ l, stErr s = 0
  | [], _, b, hb => by cases hb
  | a :: l, h, b, hb => by
    simp only [stsErr] at h
    split at h
    · rename_i h0
      rcases List.mem_cons.1 hb with rfl | hb
      · exact h0
      · exact stsErr_mem h b hb
    · exact absurd h ‹_›
theorem exsErr_mem : ∀ {l : List Ex}, exsErr l = 0 → ∀ e ∈ l, exErr e = 0
  | [], _, b, hb => by cases hb
  | a :: l, h, b, hb => by
    simp only [exsErr] at h
    split at h
    · rename_i h0
      rcases List.mem_cons.1 hb with rfl | hb
      · exact h0
      · exact exsErr_mem h b hb
    · exact absurd h ‹_›
end Go.Proofs.YtjnofkcfogognaaGreatDoor
