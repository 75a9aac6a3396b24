/- Texts that the claim leans on, laid one behind the other: Ja, Js, Jb, Jc, Jd, Je. -/
import Derived.Test.YtoeimidochjddaaGreatDoorZD
import Derived.Test.YtoeimidochjddaaGreatDoorAp
import Derived.Test.YtoeimidochjddaaGreatDoorAn
import Derived.Test.YtoeimidochjddaaGreatDoorZB
import Derived.Test.YtoeimidochjddaaGreatDoorZG
set_option linter.unusedSimpArgs false
set_option linter.unusedVariables false
set_option linter.unnecessarySimpa false
/- Graphs as plain data, and as abstract values; when they are well-formed. No program in sight. -/
namespace Go.Proofs.YtoeimidochjddaaGreatDoor
open Go.RowKit
/-- A statement. -/
structure St where
  op : Int
  va : Int
  wd : Int
  nx : Int
  el : Int
  tg : Int
  e : List Ex
  cs : List Int
/-- A block. -/
structure Bl where
  ad : Int
  s : List St
/-- A graph. -/
structure Gr where
  ad : Int
  b : List Bl
/-- Numbers, as a slice's elements. -/
def i64s (l : List Int) : List (List D) := l.map fun n => [.v (.int .i64 n)]
@[simp] theorem i64s_nil : i64s [] = [] := rfl
@[simp] theorem i64s_cons (n : Int) (l : List Int) : i64s (n :: l) = [.v (.int .i64 n)] :: i64s l := rfl
@[simp] theorem i64s_len (l : List Int) : (i64s l).length = l.length := by simp [i64s]
@[simp] theorem i64s_get (l : List Int) (i : Nat) : (i64s l)[i]? = (l[i]?).map fun n => [.v (.int .i64 n)] := by simp [i64s]
@[simp] theorem i64s_at (l : List Int) (i : Nat) (h : i < (i64s l).length) : (i64s l)[i] = [.v (.int .i64 (l[i]'(by simpa using h)))] := by simp [i64s]
@[simp] theorem i64s_all (l : List Int) : (i64s l).take l.length = i64s l := by rw [List.take_of_length_le]; simp
@[simp] theorem i64s_app (l m : List Int) : i64s (l ++ m) = i64s l ++ i64s m := by simp [i64s]
def St.d (s : St) : List D := [.v (.int .i64 s.op), .v (.int .i64 s.va), .v (.int .i64 s.wd), .v (.int .i64 s.nx), .v (.int .i64 s.el), .v (.int .u32 s.tg), .sl 5 (Ex.ds s.e), .sl 1 (i64s s.cs)]
theorem St.d_eq (s : St) : St.d s = [.v (.int .i64 s.op), .v (.int .i64 s.va), .v (.int .i64 s.wd), .v (.int .i64 s.nx), .v (.int .i64 s.el), .v (.int .u32 s.tg), .sl 5 (Ex.ds s.e), .sl 1 (i64s s.cs)] := rfl
@[simp] theorem St.d_len (s : St) : (St.d s).length = 8 := rfl
/-- Statements, as a slice's elements. -/
def sts (l : List St) : List (List D) := l.map St.d
@[simp] theorem sts_nil : sts [] = [] := rfl
@[simp] theorem sts_cons (s : St) (l : List St) : sts (s :: l) = s.d :: sts l := rfl
@[simp] theorem sts_len (l : List St) : (sts l).length = l.length := by simp [sts]
@[simp] theorem sts_get (l : List St) (i : Nat) : (sts l)[i]? = (l[i]?).map St.d := by simp [sts]
@[simp] theorem sts_at (l : List St) (i : Nat) (h : i < (sts l).length) : (sts l)[i] = St.d (l[i]'(by simpa using h)) := by simp [sts]
@[simp] theorem sts_all (l : List St) : (sts l).take l.length = sts l := by rw [List.take_of_length_le]; simp
@[simp] theorem sts_app (l m : List St) : sts (l ++ m) = sts l ++ sts m := by simp [sts]
@[simp] theorem sts_take (l : List St) (n : Nat) : (sts l).take n = sts (l.take n) := by simp [sts]
def Bl.d (b : Bl) : List D := [.v (.int .u32 b.ad), .sl 8 (sts b.s)]
theorem Bl.d_eq (b : Bl) : Bl.d b = [.v (.int .u32 b.ad), .sl 8 (sts b.s)] := rfl
@[simp] theorem Bl.d_len (b : Bl) : (Bl.d b).length = 2 := rfl
/-- Blocks, as a slice's elements. -/
def bls' (l : List Bl) : List (List D) := l.map Bl.d
@[simp] theorem bls_nil : bls' [] = [] := rfl
@[simp] theorem bls_cons (b : Bl) (l : List Bl) : bls' (b :: l) = b.d :: bls' l := rfl
@[simp] theorem bls_len (l : List Bl) : (bls' l).length = l.length := by simp [bls']
@[simp] theorem bls_get (l : List Bl) (i : Nat) : (bls' l)[i]? = (l[i]?).map Bl.d := by simp [bls']
@[simp] theorem bls_at (l : List Bl) (i : Nat) (h : i < (bls' l).length) : (bls' l)[i] = Bl.d (l[i]'(by simpa using h)) := by simp [bls']
@[simp] theorem bls_all (l : List Bl) : (bls' l).take l.length = bls' l := by rw [List.take_of_length_le]; simp
@[simp] theorem bls_app (l m : List Bl) : bls' (l ++ m) = bls' l ++ bls' m := by simp [bls']
/-- A statement, by value. -/
@[simp] def stV (s : St) : AV := .agg [aI .i64 s.op, aI .i64 s.va, aI .i64 s.wd, aI .i64 s.nx, aI .i64 s.el, aI .u32 s.tg, .d (.sl 5 (Ex.ds s.e)), .d (.sl 1 (i64s s.cs))]
/-- A block, by value. -/
@[simp] def blV (b : Bl) : AV := .agg [aI .u32 b.ad, .d (.sl 8 (sts b.s))]
/-- A graph, by value. -/
@[simp] def grV (g : Gr) : AV := .agg [aI .u32 g.ad, .d (.sl 2 (bls' g.b))]
/-! ### the checks -/
/-- The error of an expression. -/
def exErr (e : Ex) : Int := if shalB 64 e = true then (if formB e = true then 0 else 2) else 20
/-- How many expressions a statement of a kind has. -/
def exprsN (op : Int) : Int :=
  if op = 1 ∨ op = 4 ∨ op = 7 ∨ op = 8 then 1 else if op = 2 then 2 else if op = 3 ∨ op = 5 ∨ op = 6 ∨ op = 9 ∨ op = 10 then 0 else -1
/-- Does a statement use the fields of its kind only? -/
def fieldsB (s : St) : Bool :=
  let va := (s.op == 1 || s.op == 3)
  (if va then decide (0 ≤ s.va) && decide (s.va < 65536) else s.va == 0) &&
  (if s.op = 2 then (s.wd == 1 || s.wd == 2 || s.wd == 4) else s.wd == 0) &&
  (s.op == 6 || s.op == 7 || s.nx == 0) && (s.op == 7 || s.el == 0) && (s.op == 5 || s.tg == 0) &&
  (if s.op = 8 then decide (1 ≤ s.cs.length) && decide (s.cs.length ≤ 64) else decide (s.cs = []))
/-- The first error of some expressions. -/
def exsErr : List Ex → Int
  | [] => 0
  | e :: l => if exErr e = 0 then exsErr l else exErr e
/-- The error of a statement. -/
def stErr (s : St) : Int := if exprsN s.op = s.e.length then (if exsErr s.e = 0 then (if fieldsB s = true then 0 else 2) else exsErr s.e) else 2
def stsErr : List St → Int
  | [] => 0
  | s :: l => if stErr s = 0 then stsErr l else stErr s
def blsErr : List Bl → Int
  | [] => 0
  | b :: l => if stsErr b.s = 0 then blsErr l else stsErr b.s
/-- Does it end a block? -/
def termB (s : St) : Bool := decide (6 ≤ s.op) && decide (s.op ≤ 10)
/-- The blocks to which a statement goes. -/
def tgts (s : St) : List Int := if s.op = 6 then [s.nx] else if s.op = 7 then [s.nx, s.el] else if s.op = 8 then s.cs else []
def succL (b : Bl) : List Int := match b.s.getLast? with
  | some s => tgts s
  | none => []
/-- Ends a block with its only terminator, which goes to blocks of n? -/
def closedB (n : Nat) (b : Bl) : Bool := match b.s.getLast? with
  | some s => termB s && !(b.s.take (b.s.length - 1)).any termB && !(tgts s).any fun k => decide (k < 0) || decide ((n : Int) ≤ k)
  | none => false
def stN : List Bl → Nat
  | [] => 0
  | b :: l => b.s.length + stN l
/-- The error of a graph. -/
def grErr (g : Gr) : Int :=
  if 256 < g.b.length ∨ 1024 < stN g.b then 6
  else if g.b.length = 0 ∨ g.b.all (closedB g.b.length) = false then 18
  else blsErr g.b
theorem blsErr_mem : ∀ {l : List Bl}, blsErr l = 0 → ∀ b ∈ l, stsErr b.s = 0
  | [], _, b, hb => by cases hb
  | a :: l, h, b, hb => by
    simp only [blsErr] at h
    split at h
    · rename_i h0
      rcases List.mem_cons.1 hb with rfl | hb
      · exact h0
      · exact blsErr_mem h b hb
    · exact absurd h ‹_›
theorem stsErr_mem : ∀ {l : List St}, stsErr l = 0 → ∀ s ∈ l, stErr s = 0
  | [], _, b, hb => by cases hb
  | a :: l, h, b, hb => by
    simp only [stsErr] at h
    split at h
    · rename_i h0
      rcases List.mem_cons.1 hb with rfl | hb
      · exact h0
      · exact stsErr_mem h b hb
    · exact absurd h ‹_›
theorem exsErr_mem : ∀ {l : List Ex}, exsErr l = 0 → ∀ e ∈ l, exErr e = 0
  | [], _, b, hb => by cases hb
  | a :: l, h, b, hb => by
    simp only [exsErr] at h
    split at h
    · rename_i h0
      rcases List.mem_cons.1 hb with rfl | hb
      · exact h0
      · exact exsErr_mem h b hb
    · exact absurd h ‹_›
end Go.Proofs.YtoeimidochjddaaGreatDoor

/- Contracts: slices.IndexFunc, slices.ContainsFunc, slices.Clone, at statements and at numbers (printed by gen_slices.py). -/
namespace Go.Proofs.YtoeimidochjddaaGreatDoor
open Go.RowKit
/-- slices.IndexFunc, with a predicate that changes nothing. -/
theorem index_st_ac {f : Nat} {fs cs : List AV} {p : St → Bool} (A : AHeap) (l : List St) (hf : okF Tryz.prog f = true) (hp : ∀ a ∈ l, ∀ N, AC Tryz.prog f (fs ++ [stV a] ++ cs) (A ++ N) (Same0 A (aB (p a)))) :
    AC Tryz.prog 119 [.d (.sl 8 (sts l)), .fn f fs cs] A (Same0 A (aI .i64 (match l.findIdx? p with | some i => (i : Int) | none => -1))) := by
  refine ac_of Tryz.func119 rfl (by kernel_rfl) (by simp [Tryz.ntmps119]) fun hb => ?_
  have n1 : l.length ≤ maxLen := by simpa using hb.1.1
  clear hb
  obtain ⟨R, hR⟩ : ∃ R : Int, (match l.findIdx? p with | some i => (i : Int) | none => -1) = R := ⟨_, rfl⟩
  rw [hR]
  simp [Tryz.f119]
  refine aLoop_of (α := Nat) (fun i e A' => i ≤ l.length ∧ (∃ N, A' = A ++ N) ∧ e 8 = aI .i64 i ∧ e 7 = aI .i64 l.length ∧ e 0 = .d (.sl 8 (sts l)) ∧ e 1 = .fn f fs cs ∧
    ∀ (j : Nat) (a : St), j < i → l[j]? = some a → p a = false) (fun i => l.length - i) 0 (Sub.refl _ _ _) ⟨by omega, ⟨[], by simp⟩, by simp, by simp, by simp, by simp, by intro j a hj; omega⟩ ?_
  rintro i e A' ⟨hi, ⟨N, rfl⟩, e8, e7, e0, e1, hall⟩ K hK
  simp [e8, e7]
  refine aCond_split (fun hlt => ?_) (fun hge => ?_)
  · simp at hlt
    have hi1 := List.getElem?_eq_getElem hlt
    simp [e0, e1, e8, hi1, St.d_eq]
    refine aCall_ofc (hp l[i] (List.mem_of_getElem? hi1) N) hf ?_
    rintro _ _ ⟨rfl, N', rfl⟩
    simp
    refine aCond_split (fun ht => ?_) (fun hf => ?_)
    · have : l.findIdx? p = some i := by
        rw [List.findIdx?_eq_some_iff_getElem]
        exact ⟨hlt, ht, fun j hj => by simpa using hall j _ hj (List.getElem?_eq_getElem (by omega))⟩
      rw [this] at hR
      subst hR
      simp [Same0]
    · simp [e8, succ_wrap hlt n1]
      refine hK (i + 1) _ _ _ _ (Sub.refl _ _ _) ⟨by omega, ⟨N', rfl⟩, by simp, by simp [e7], by simp [e0], by simp [e1], fun j a hj ha => ?_⟩ (by omega)
      rcases Nat.lt_or_ge j i with h | h
      · exact hall j a h ha
      · obtain rfl : j = i := by omega
        rw [hi1] at ha
        obtain rfl := Option.some.inj ha
        exact hf
  · simp at hge
    have : l.findIdx? p = none := by
      rw [List.findIdx?_eq_none_iff]
      intro x hx
      obtain ⟨j, hj⟩ := List.getElem?_of_mem hx
      exact hall j x (by have := (List.getElem?_eq_some_iff.1 hj).1; omega) hj
    rw [this] at hR
    subst hR
    simp [Same0]
theorem contains_st_ac {f : Nat} {fs cs : List AV} {p : St → Bool} (A : AHeap) (l : List St) (hf : okF Tryz.prog f = true) (hp : ∀ a ∈ l, ∀ N, AC Tryz.prog f (fs ++ [stV a] ++ cs) (A ++ N) (Same0 A (aB (p a)))) :
    AC Tryz.prog 58 [.d (.sl 8 (sts l)), .fn f fs cs] A (Same0 A (aB (l.any p))) := by
  refine ac_of Tryz.func58 rfl (by kernel_rfl) (by simp [Tryz.ntmps58]) fun hb => ?_
  simp [Tryz.f58]
  refine aCall_ofc (index_st_ac A l hf hp) (by simp) ?_
  rintro _ _ ⟨rfl, N, rfl⟩
  simp [Same0]
  cases h : l.findIdx? p with
  | none =>
    rw [List.findIdx?_eq_none_iff] at h
    simpa using h
  | some i =>
    rw [List.findIdx?_eq_some_iff_getElem] at h
    obtain ⟨hi, hp, _⟩ := h
    simpa using ⟨_, List.getElem_mem hi, hp⟩
/-- slices.IndexFunc, with a predicate that changes nothing. -/
theorem index_in_ac {f : Nat} {fs cs : List AV} {p : Int → Bool} (A : AHeap) (l : List Int) (hf : okF Tryz.prog f = true) (hp : ∀ a ∈ l, ∀ N, AC Tryz.prog f (fs ++ [aI .i64 a] ++ cs) (A ++ N) (Same0 A (aB (p a)))) :
    AC Tryz.prog 98 [.d (.sl 1 (i64s l)), .fn f fs cs] A (Same0 A (aI .i64 (match l.findIdx? p with | some i => (i : Int) | none => -1))) := by
  refine ac_of Tryz.func98 rfl (by kernel_rfl) (by simp [Tryz.ntmps98]) fun hb => ?_
  have n1 : l.length ≤ maxLen := by simpa using hb.1.1
  clear hb
  obtain ⟨R, hR⟩ : ∃ R : Int, (match l.findIdx? p with | some i => (i : Int) | none => -1) = R := ⟨_, rfl⟩
  rw [hR]
  simp [Tryz.f98]
  refine aLoop_of (α := Nat) (fun i e A' => i ≤ l.length ∧ (∃ N, A' = A ++ N) ∧ e 8 = aI .i64 i ∧ e 7 = aI .i64 l.length ∧ e 0 = .d (.sl 1 (i64s l)) ∧ e 1 = .fn f fs cs ∧
    ∀ (j : Nat) (a : Int), j < i → l[j]? = some a → p a = false) (fun i => l.length - i) 0 (Sub.refl _ _ _) ⟨by omega, ⟨[], by simp⟩, by simp, by simp, by simp, by simp, by intro j a hj; omega⟩ ?_
  rintro i e A' ⟨hi, ⟨N, rfl⟩, e8, e7, e0, e1, hall⟩ K hK
  simp [e8, e7]
  refine aCond_split (fun hlt => ?_) (fun hge => ?_)
  · simp at hlt
    have hi1 := List.getElem?_eq_getElem hlt
    simp [e0, e1, e8, hi1]
    refine aCall_ofc (hp l[i] (List.mem_of_getElem? hi1) N) hf ?_
    rintro _ _ ⟨rfl, N', rfl⟩
    simp
    refine aCond_split (fun ht => ?_) (fun hf => ?_)
    · have : l.findIdx? p = some i := by
        rw [List.findIdx?_eq_some_iff_getElem]
        exact ⟨hlt, ht, fun j hj => by simpa using hall j _ hj (List.getElem?_eq_getElem (by omega))⟩
      rw [this] at hR
      subst hR
      simp [Same0]
    · simp [e8, succ_wrap hlt n1]
      refine hK (i + 1) _ _ _ _ (Sub.refl _ _ _) ⟨by omega, ⟨N', rfl⟩, by simp, by simp [e7], by simp [e0], by simp [e1], fun j a hj ha => ?_⟩ (by omega)
      rcases Nat.lt_or_ge j i with h | h
      · exact hall j a h ha
      · obtain rfl : j = i := by omega
        rw [hi1] at ha
        obtain rfl := Option.some.inj ha
        exact hf
  · simp at hge
    have : l.findIdx? p = none := by
      rw [List.findIdx?_eq_none_iff]
      intro x hx
      obtain ⟨j, hj⟩ := List.getElem?_of_mem hx
      exact hall j x (by have := (List.getElem?_eq_some_iff.1 hj).1; omega) hj
    rw [this] at hR
    subst hR
    simp [Same0]
theorem contains_in_ac {f : Nat} {fs cs : List AV} {p : Int → Bool} (A : AHeap) (l : List Int) (hf : okF Tryz.prog f = true) (hp : ∀ a ∈ l, ∀ N, AC Tryz.prog f (fs ++ [aI .i64 a] ++ cs) (A ++ N) (Same0 A (aB (p a)))) :
    AC Tryz.prog 44 [.d (.sl 1 (i64s l)), .fn f fs cs] A (Same0 A (aB (l.any p))) := by
  refine ac_of Tryz.func44 rfl (by kernel_rfl) (by simp [Tryz.ntmps44]) fun hb => ?_
  simp [Tryz.f44]
  refine aCall_ofc (index_in_ac A l hf hp) (by simp) ?_
  rintro _ _ ⟨rfl, N, rfl⟩
  simp [Same0]
  cases h : l.findIdx? p with
  | none =>
    rw [List.findIdx?_eq_none_iff] at h
    simpa using h
  | some i =>
    rw [List.findIdx?_eq_some_iff_getElem] at h
    obtain ⟨hi, hp, _⟩ := h
    simpa using ⟨_, List.getElem_mem hi, hp⟩
theorem clone_in_ac (A : AHeap) (xs : List (List D)) (hl : xs.length ≤ 1000000000) :
    AC Tryz.prog 116 [.d (.sl 1 xs)] A fun r A' => r = .own A.length 1 0 xs.length ∧ A' = A ++ [⟨1, true, 3, 1, dEls xs⟩] := by
  refine AC.sub (R := fun r A' => (r = .own A.length 1 0 xs.length ∧ A' = A ++ [⟨1, true, 3, 1, dEls xs⟩]) ∨ (r = .d (.v (.slice none 0 0)) ∧ xs = [] ∧ A' = A)) (ac_of Tryz.func116 rfl (by kernel_rfl) (by simp [Tryz.ntmps116]) fun hb => ?_) ?_
  · have hall := bds_all hb.1.2
    clear hb
    simp [Tryz.f116]
    refine aRaw_app byt_27 ?_
    simp [hall]
    unfold maxLen
    omega
  · rintro r A' (⟨rfl, rfl⟩ | ⟨rfl, rfl, rfl⟩)
    · exact ⟨_, _, Sub.refl _ _ _, rfl, rfl⟩
    · refine ⟨_, _, (Sub.ghost 1 3 1).trans (Sub.env (e' := fun _ => .own A'.length 1 0 0) fun i => VLe.nil_own (k := ⟨1, true, 3, 1, []⟩) (by simp) rfl), ?_, ?_⟩ <;> simp
end Go.Proofs.YtoeimidochjddaaGreatDoor

/- Contracts: il.CheckGraph and what it calls. -/
namespace Go.Proofs.YtoeimidochjddaaGreatDoor
open Go.RowKit
theorem ilterm_af (s : St) : AF Tryz.prog 148 [stV s] (aB (termB s)) := by
  refine af_of Tryz.func148 rfl (by kernel_rfl) (by simp [Tryz.ntmps148]) fun _ => ?_; simp [Tryz.f148, Ex.d_eq]
  by_cases h : 6 ≤ s.op <;> simp [h, termB]
theorem op_cases (op : Int) : op = 1 ∨ op = 2 ∨ op = 3 ∨ op = 4 ∨ op = 5 ∨ op = 6 ∨ op = 7 ∨ op = 8 ∨ op = 9 ∨ op = 10 ∨ (¬ op = 1 ∧ ¬ op = 2 ∧ ¬ op = 3 ∧ ¬ op = 4 ∧ ¬ op = 5 ∧ ¬ op = 6 ∧ ¬ op = 7 ∧ ¬ op = 8 ∧ ¬ op = 9 ∧ ¬ op = 10) := by omega
theorem ilexprs_af (op : Int) : AF Tryz.prog 151 [aI .i64 op] (aI .i64 (exprsN op)) := by
  refine af_of Tryz.func151 rfl (by kernel_rfl) (by simp [Tryz.ntmps151]) fun _ => ?_
  rcases op_cases op with h | h | h | h | h | h | h | h | h | h | h <;> simp [Tryz.f151, exprsN, h]
theorem ilfields_af (s : St) : AF Tryz.prog 152 [stV s] (aB (fieldsB s)) := by
  obtain ⟨R, hR⟩ : ∃ R, fieldsB s = R := ⟨_, rfl⟩
  rw [hR]
  refine af_of Tryz.func152 rfl (by kernel_rfl) (by simp [Tryz.ntmps152]) fun _ => ?_
  rcases op_cases s.op with h | h | h | h | h | h | h | h | h | h | h <;> simp [Tryz.f152, h]
  case inl | inr.inr.inl =>
    have c := variable_af s.va
    cases hV : (decide (0 ≤ s.va) && decide (s.va < 65536)) <;> rw [hV] at c
    · refine aCall_of c (by simp) (by simp [Ex.d_eq]) ?_; simp [Ex.d_eq]
      rw [← hR]; simp only [fieldsB, h, hV]; simp
    · refine aCall_of c (by simp) (by simp [Ex.d_eq]) ?_; simp [Ex.d_eq]
      try simp [h]
      repeat' (refine aG_split (fun g => ?_) (fun g => ?_) <;> simp at g <;> simp [*])
      all_goals (rw [← hR]; simp only [fieldsB, h, hV]; simp [*])
  case inr.inl =>
    have c := access_af s.wd
    cases hV : (decide (s.wd = 1) || decide (s.wd = 2) || decide (s.wd = 4)) <;> rw [hV] at c
    · refine aCall_of c (by simp) (by simp [Ex.d_eq]) ?_; simp [Ex.d_eq]
      rw [← hR]; simp only [fieldsB, h]; simp at hV; simp [hV]
    · refine aCall_of c (by simp) (by simp [Ex.d_eq]) ?_; simp [Ex.d_eq]
      try simp [h]
      repeat' (refine aG_split (fun g => ?_) (fun g => ?_) <;> simp at g <;> simp [*])
      all_goals (rw [← hR]; simp only [fieldsB, h]; simp at hV; simp [*])
  case inr.inr.inr.inr.inr.inr.inl =>
    refine adraw [(5, 3)] (by kernel_rfl) (by kernel_rfl) (by kernel_rfl) (by kernel_rfl) ?_; simp [Ex.d_eq]
    try simp [h]
    repeat' (refine aG_split (fun g => ?_) (fun g => ?_) <;> simp at g <;> simp [*])
    all_goals (rw [← hR]; simp [fieldsB, *])
  case inr.inr.inr.inr.inr.inr.inr.inl =>
    by_cases g1 : s.cs.length < 1
    · have g2 : ¬ 1 ≤ s.cs.length := by omega
      have g3 : s.cs = [] := List.length_eq_zero_iff.1 (by omega)
      simp [g3]
      rw [← hR]; simp [fieldsB, h, g3]
    have g2 : 1 ≤ s.cs.length := by omega
    have g3 : ¬ (s.cs.length : Int) < 1 := by omega
    simp [g3]
    by_cases g4 : s.cs.length ≤ 64
    · have g5 : ¬ (64 : Int) < s.cs.length := by omega
      simp [g5, h]
      repeat' (refine aG_split (fun g => ?_) (fun g => ?_) <;> simp at g <;> simp [*])
      all_goals (rw [← hR]; simp [fieldsB, *])
    · have g5 : (64 : Int) < s.cs.length := by omega
      simp [g5]
      rw [← hR]; simp [fieldsB, h, g4]
  all_goals
    repeat' (refine aG_split (fun g => ?_) (fun g => ?_) <;> simp at g <;> simp [*])
    all_goals (rw [← hR]; simp [fieldsB, *])
theorem exs_drop {l : List Ex} {i : Nat} {x : Ex} (h : l[i]? = some x) : exsErr (l.drop i) = if exErr x = 0 then exsErr (l.drop (i + 1)) else exErr x := by
  obtain ⟨hi, rfl⟩ := List.getElem?_eq_some_iff.1 h
  rw [List.drop_eq_getElem_cons hi]
  rfl
theorem ilcheckst_af (s : St) (hl : s.e.length ≤ maxLen) : AF Tryz.prog 74 [stV s] (aI .i64 (stErr s)) := by
  obtain ⟨R, hR⟩ : ∃ R, stErr s = R := ⟨_, rfl⟩
  rw [hR]
  refine af_of Tryz.func74 rfl (by kernel_rfl) (by simp [Tryz.ntmps74]) fun _ => ?_; simp [Tryz.f74, Ex.d_eq]
  refine aCall_of (ilexprs_af s.op) (by simp) (by simp [Ex.d_eq]) ?_; simp [Ex.d_eq]
  by_cases h1 : exprsN s.op = s.e.length
  case neg =>
    have : R = 2 := by rw [← hR, stErr, if_neg h1]
    subst this
    by_cases h2 : exprsN s.op < 0
    · simp [h2]
    · simp [h2, h1]
  simp [h1, show ¬ (s.e.length : Int) < 0 by omega]
  refine aLoop_st (fun i : Nat => [(1, .ptr 0 0 0 0), (20, .d (.sl 5 (Ex.ds s.e))), (21, aI .i64 s.e.length), (22, aI .i64 i)]) (fun _ => [⟨0, true, 81, 8, [s.d.map AV.d]⟩])
    (fun i => i ≤ s.e.length ∧ exsErr (s.e.drop i) = exsErr s.e) (fun i => s.e.length - i) 0 (Sub.refl _ _ _) 1 (by omega) (by simp [St.d_eq]) (by simp) ⟨by omega, by simp⟩ ?_
  rintro i ⟨hi, hx⟩ K hK
  rcases Nat.lt_or_ge i s.e.length with hlt | hge
  case inr =>
    obtain rfl : i = s.e.length := by omega
    simp [exsErr] at hx
    simp [St.d_eq]
    refine aCall_of (ilfields_af s) (by simp) (by simp [Ex.d_eq]) ?_; simp [Ex.d_eq]
    rw [stErr, if_pos h1, if_pos hx.symm] at hR
    cases hf : fieldsB s <;> rw [hf] at hR <;> simp at hR <;> simp [hR]
  obtain ⟨y, hy⟩ : ∃ y, s.e[i]? = some y := ⟨_, List.getElem?_eq_getElem hlt⟩
  have hy2 := (List.getElem?_eq_some_iff.1 hy).2
  rw [exs_drop hy] at hx
  simp [hlt, hy, hy2, Ex.d_eq]
  refine aCall_of (check_af y) (by simp) (by simp [Ex.d_eq]) ?_; simp [Ex.d_eq]
  rw [show (if shalB 64 y = true then (if formB y = true then (0 : Int) else 2) else 20) = exErr y from rfl]
  by_cases h0 : exErr y = 0
  · rw [if_pos h0] at hx
    simp [h0, succ_wrap hlt hl]
    exact hK (i + 1) ⟨by omega, hx⟩ (by omega) (Sub.refl _ _ _) 1 (by omega) (by simp [St.d_eq]) (by simp)
  · rw [if_neg h0] at hx
    have : R = exErr y := by rw [← hR, stErr, if_pos h1, if_neg (by rw [← hx]; exact h0), hx]
    subst this
    simp [h0]
end Go.Proofs.YtoeimidochjddaaGreatDoor

/- Contracts: il.Successors, il.shaped, il.CheckGraph. -/
namespace Go.Proofs.YtoeimidochjddaaGreatDoor
open Go.RowKit
/-- The box of a graph, of a block. -/
abbrev gB (g : Gr) : Blk := ⟨0, true, 25, 2, [[aI .u32 g.ad, .d (.sl 2 (bls' g.b))]]⟩
abbrev bB (b : Bl) : Blk := ⟨0, true, 69, 2, [[aI .u32 b.ad, .d (.sl 8 (sts b.s))]]⟩
theorem last_get {α : Type} {l : List α} {n : Nat} (h : l.length = n + 1) : ∃ s, l[n]? = some s ∧ l.getLast? = some s := by
  refine ⟨l[n], List.getElem?_eq_getElem (by omega), ?_⟩
  rw [List.getLast?_eq_getElem?, show l.length - 1 = n by omega]
  exact List.getElem?_eq_getElem (by omega)
theorem ilsucc_af (b : Bl) (hl : b.s.length ≤ maxLen) (hc : ∀ s ∈ b.s, s.cs.length ≤ 1000000000) : AF Tryz.prog 149 [blV b] (.d (.sl 1 (i64s (succL b)))) := by
  obtain ⟨R, hR⟩ : ∃ R, succL b = R := ⟨_, rfl⟩
  rw [hR]
  refine af_of Tryz.func149 rfl (by kernel_rfl) (by simp [Tryz.ntmps149]) fun _ => ?_; simp [Tryz.f149, Ex.d_eq]
  cases hn : b.s.length with
  | zero =>
    have : b.s = [] := List.length_eq_zero_iff.1 hn
    rw [succL, this] at hR
    simp at hR
    subst hR
    simp [this]
  | succ n =>
    obtain ⟨s, hs, hs2⟩ := last_get hn
    have hs3 := (List.getElem?_eq_some_iff.1 hs).2
    have hne : ¬ b.s = [] := fun h => by rw [h] at hn; simp at hn
    unfold maxLen at hl
    rw [succL, hs2] at hR
    simp only [tgts] at hR
    simp [hn, hne, show ¬ (n : Int) + 1 = 0 by omega, i64w (n := (n : Int)) (by omega), hs, hs3, St.d_eq]
    rcases op_cases s.op with h | h | h | h | h | h | h | h | h | h | h <;> simp [h] at hR <;> subst hR <;> simp [h]
    refine aCall_ofc (clone_in_ac _ (i64s s.cs) (by simpa using hc s (List.mem_of_getElem? hs))) (by simp) ?_
    rintro _ _ ⟨rfl, rfl⟩
    simp
theorem shaped1_ac (g : Gr) (b0 : Blk) (hl : g.b.length ≤ maxLen) (k : Int) (N : AHeap) : AC Tryz.prog 150 [aI .i64 k, .ptr 0 0 0 0] ([gB g, b0] ++ N) (Same0 [gB g, b0] (aB (decide (k < 0) || decide ((g.b.length : Int) ≤ k)))) := by
  refine ac_of Tryz.func150 rfl (by kernel_rfl) (by simp [Tryz.ntmps150]) fun hb => ?_
  by_cases h : k < 0 <;> simp [Tryz.f150, h, Same0]
/-- Sizes that a machine holds. -/
def GrFit (g : Gr) : Prop := g.b.length ≤ 1000000 ∧ ∀ b ∈ g.b, b.s.length ≤ 1000000 ∧ ∀ s ∈ b.s, s.e.length ≤ 1000000 ∧ s.cs.length ≤ 2000000
theorem all_drop {α : Type} {p : α → Bool} {l : List α} {i : Nat} {x : α} (h : l[i]? = some x) : (l.drop i).all p = (p x && (l.drop (i + 1)).all p) := by
  obtain ⟨hi, rfl⟩ := List.getElem?_eq_some_iff.1 h
  rw [List.drop_eq_getElem_cons hi, List.all_cons]
theorem ilshaped_af (g : Gr) (hg : GrFit g) : AF Tryz.prog 73 [grV g] (aB (!decide (g.b.length = 0) && g.b.all (closedB g.b.length))) := by
  have hl : g.b.length ≤ maxLen := by have := hg.1; unfold maxLen; omega
  obtain ⟨R, hR⟩ : ∃ R, (!decide (g.b.length = 0) && g.b.all (closedB g.b.length)) = R := ⟨_, rfl⟩
  rw [hR]
  refine af_of Tryz.func73 rfl (by kernel_rfl) (by simp [Tryz.ntmps73]) fun _ => ?_; simp [Tryz.f73, Ex.d_eq]
  by_cases h0 : g.b = []
  · rw [h0] at hR ⊢
    simp at hR
    subst hR
    simp
  have h0' : ¬ g.b.length = 0 := fun h => h0 (List.length_eq_zero_iff.1 h)
  simp [h0'] at hR
  simp [h0, h0']
  refine aLoop_st (fun i : Nat => [(1, .ptr 0 0 0 0), (11, .d (.sl 2 (bls' g.b))), (12, aI .i64 g.b.length), (13, aI .i64 i)]) (fun _ => [gB g])
    (fun i => i ≤ g.b.length ∧ (g.b.drop i).all (closedB g.b.length) = R) (fun i => g.b.length - i) 0 (Sub.refl _ _ _) 1 (by omega) (by simp) (by simp) ⟨by omega, by simpa using hR⟩ ?_
  rintro i ⟨hi, hx⟩ K hK
  rcases Nat.lt_or_ge i g.b.length with hlt | hge
  case inr =>
    obtain rfl : i = g.b.length := by omega
    simp at hx
    subst hx
    simp
  obtain ⟨b, hb⟩ : ∃ b, g.b[i]? = some b := ⟨_, List.getElem?_eq_getElem hlt⟩
  have hb2 := (List.getElem?_eq_some_iff.1 hb).2
  obtain ⟨f1, f2⟩ := hg.2 b (List.mem_of_getElem? hb)
  have hbl : b.s.length ≤ maxLen := by unfold maxLen; omega
  rw [all_drop hb] at hx
  simp [hlt, hb, hb2, Bl.d_eq]
  cases hn : b.s.length with
  | zero =>
    have hne : b.s = [] := List.length_eq_zero_iff.1 hn
    have : closedB g.b.length b = false := by
      rw [closedB, hne]
      rfl
    rw [this] at hx
    simp at hx
    subst hx
    simp [hne]
  | succ n =>
    obtain ⟨s, hs, hs2⟩ := last_get hn
    have hs3 := (List.getElem?_eq_some_iff.1 hs).2
    have hcl : closedB g.b.length b = (termB s && !(b.s.take n).any termB && !(succL b).any fun k => decide (k < 0) || decide ((g.b.length : Int) ≤ k)) := by
      rw [closedB, succL, hs2, hn]
      rfl
    rw [hcl] at hx
    have hnn : ¬ (n : Int) + 1 = 0 := by omega
    have hne : ¬ b.s = [] := fun h => by rw [h] at hn; simp at hn
    have hw := i64w (n := (n : Int)) (by omega)
    simp [hnn, hne, hw, hs, hs3, St.d_eq, hn]
    have ct := ilterm_af s
    cases ht : termB s
    · rw [ht] at hx ct
      simp at hx
      subst hx
      refine aCall_of ct (by simp) (by simp [Ex.d_eq]) ?_; simp [Ex.d_eq]
    rw [ht] at ct hx
    refine aCall_of ct (by simp) (by simp [Ex.d_eq]) ?_; simp [Ex.d_eq]
    simp [hnn, hw, hn, show (n : Int) ≤ (n : Int) + 1 by omega]
    refine aCall_ofc (contains_st_ac (f := 148) (fs := []) (cs := []) (p := termB) [gB g, bB b] (b.s.take n) (by simp) fun a _ N => (AF.ac (A := [gB g, bB b] ++ N) (ilterm_af a) (by simp)).mono fun r A' h => ⟨h.1, N, h.2⟩).drop (by simp) ?_
    rintro _ _ ⟨rfl, rfl⟩
    simp
    cases ha : (b.s.take n).any termB <;> rw [ha] at hx
    · simp at hx
      simp
      refine aCall_of (ilsucc_af b hbl fun s hs => by have := (f2 s hs).2; omega) (by simp) (by simp [Ex.d_eq]) ?_; simp [Ex.d_eq]
      refine aCall_ofc (contains_in_ac (f := 150) (fs := []) (cs := [.ptr 0 0 0 0]) (p := fun k => decide (k < 0) || decide ((g.b.length : Int) ≤ k)) [gB g, bB b] (succL b) (by simp) fun a _ N => shaped1_ac g (bB b) hl a N).drop (by simp) ?_
      rintro _ _ ⟨rfl, rfl⟩
      simp
      cases hk : (succL b).any fun k => decide (k < 0) || decide ((g.b.length : Int) ≤ k)
      · rw [hk] at hx
        simp at hx
        simp [succ_wrap hlt hl]
        exact hK (i + 1) ⟨by omega, by simpa using hx⟩ (by omega) (Sub.refl _ _ _) 1 (by omega) (by simp) (by simp)
      · rw [hk] at hx
        simp at hx
        subst hx
        simp
    · simp at hx
      subst hx
      simp
theorem stN_app : ∀ (l m : List Bl), stN (l ++ m) = stN l + stN m
  | [], m => by simp [stN]
  | b :: l, m => by simp only [List.cons_append, stN, stN_app l m]; omega
theorem stN_take {l : List Bl} {i : Nat} {b : Bl} (h : l[i]? = some b) : stN (l.take (i + 1)) = stN (l.take i) + b.s.length := by
  rw [List.take_add_one, h, stN_app]
  simp [stN]
theorem stN_le : ∀ {l : List Bl}, (∀ b ∈ l, b.s.length ≤ 1000000) → stN l ≤ 1000000 * l.length
  | [], _ => by simp [stN]
  | b :: l, h => by
    have h1 := stN_le fun x hx => h x (List.mem_cons_of_mem b hx)
    have h2 := h b (List.mem_cons_self ..)
    simp only [stN, List.length_cons]
    omega
theorem bls_drop {l : List Bl} {i : Nat} {x : Bl} (h : l[i]? = some x) : blsErr (l.drop i) = if stsErr x.s = 0 then blsErr (l.drop (i + 1)) else stsErr x.s := by
  obtain ⟨hi, rfl⟩ := List.getElem?_eq_some_iff.1 h
  rw [List.drop_eq_getElem_cons hi]
  rfl
theorem sts_drop {l : List St} {i : Nat} {x : St} (h : l[i]? = some x) : stsErr (l.drop i) = if stErr x = 0 then stsErr (l.drop (i + 1)) else stErr x := by
  obtain ⟨hi, rfl⟩ := List.getElem?_eq_some_iff.1 h
  rw [List.drop_eq_getElem_cons hi]
  rfl
theorem ilcheckg_af (g : Gr) (hg : GrFit g) : AF Tryz.prog 31 [grV g] (aI .i64 (grErr g)) := by
  have hl : g.b.length ≤ maxLen := by have := hg.1; unfold maxLen; omega
  have hN : ∀ i, stN (g.b.take i) ≤ 1000000000000 := fun i => by
    have h1 := stN_le (l := g.b.take i) fun b hb => (hg.2 b (List.mem_of_mem_take hb)).1
    have h2 := hg.1
    have h3 : (g.b.take i).length ≤ g.b.length := by simp; omega
    have := Nat.mul_le_mul_left 1000000 (Nat.le_trans h3 h2)
    omega
  obtain ⟨R, hR⟩ : ∃ R, grErr g = R := ⟨_, rfl⟩
  rw [hR]
  refine af_of Tryz.func31 rfl (by kernel_rfl) (by simp [Tryz.ntmps31]) fun _ => ?_; simp [Tryz.f31, Ex.d_eq]
  refine aLoop_st (fun i : Nat => [(1, .ptr 0 0 0 0), (12, .d (.sl 2 (bls' g.b))), (13, aI .i64 g.b.length), (14, aI .i64 i), (3, aI .i64 (stN (g.b.take i)))]) (fun _ => [gB g])
    (fun i => i ≤ g.b.length) (fun i => g.b.length - i) 0 (Sub.refl _ _ _) 1 (by omega) (by simp) (by simp [stN]) (by omega) ?_
  rintro i hi K hK
  rcases Nat.lt_or_ge i g.b.length with hlt | hge
  case inl =>
    obtain ⟨b, hb⟩ : ∃ b, g.b[i]? = some b := ⟨_, List.getElem?_eq_getElem hlt⟩
    have hb2 := (List.getElem?_eq_some_iff.1 hb).2
    have hs := stN_take hb
    have h1 := hN (i + 1)
    simp [hlt, hb, hb2, Bl.d_eq, succ_wrap hlt hl, i64w (n := (stN (g.b.take i) : Int) + b.s.length) (by omega)]
    exact hK (i + 1) (by omega) (by omega) (Sub.refl _ _ _) 1 (by omega) (by simp) (by simp [hs])
  obtain rfl : i = g.b.length := by omega
  rw [List.take_length]
  rw [grErr] at hR
  simp
  by_cases h1 : 256 < g.b.length
  · rw [if_pos (.inl h1)] at hR
    simp [show (256 : Int) < g.b.length by omega, hR]
  simp [show ¬ (256 : Int) < g.b.length by omega]
  by_cases h2 : 1024 < stN g.b
  · rw [if_pos (.inr h2)] at hR
    simp [show (1024 : Int) < stN g.b by omega, hR]
  simp [show ¬ (1024 : Int) < stN g.b by omega]
  rw [if_neg (by omega)] at hR
  have c := ilshaped_af g hg
  cases h3 : (!decide (g.b.length = 0) && g.b.all (closedB g.b.length)) <;> rw [h3] at c
  · rw [if_pos (by simp at h3; by_cases h0 : g.b.length = 0; exact .inl h0; right; simpa using h3 (fun h => h0 (by rw [h]; rfl)))] at hR
    subst hR
    refine aCall_of c (by simp) (by simp [Ex.d_eq]) ?_; simp [Ex.d_eq]
  rw [if_neg (by simp at h3; rintro (h | h); exact h3.1 (List.length_eq_zero_iff.1 h); rw [List.all_eq_false] at h; obtain ⟨x, hx, hx2⟩ := h; exact hx2 (h3.2 x hx))] at hR
  refine aCall_of c (by simp) (by simp [Ex.d_eq]) ?_; simp [Ex.d_eq]
  clear hK K c
  refine aLoop_st (fun i : Nat => [(1, .ptr 0 0 0 0), (36, .d (.sl 2 (bls' g.b))), (37, aI .i64 g.b.length), (38, aI .i64 i)]) (fun _ => [gB g])
    (fun i => i ≤ g.b.length ∧ blsErr (g.b.drop i) = R) (fun i => g.b.length - i) 0 (Sub.refl _ _ _) 1 (by omega) (by simp) (by simp) ⟨by omega, by simpa using hR⟩ ?_
  rintro i ⟨hi, hx⟩ K hK
  rcases Nat.lt_or_ge i g.b.length with hlt | hge
  case inr =>
    obtain rfl : i = g.b.length := by omega
    simp [blsErr] at hx
    simp [hx]
  obtain ⟨b, hb⟩ : ∃ b, g.b[i]? = some b := ⟨_, List.getElem?_eq_getElem hlt⟩
  have hb2 := (List.getElem?_eq_some_iff.1 hb).2
  obtain ⟨f1, f2⟩ := hg.2 b (List.mem_of_getElem? hb)
  have hbl : b.s.length ≤ maxLen := by unfold maxLen; omega
  rw [bls_drop hb] at hx
  simp [hlt, hb, hb2, Bl.d_eq]
  refine aLoop_st (fun k : Nat => [(1, .ptr 0 0 0 0), (36, .d (.sl 2 (bls' g.b))), (37, aI .i64 g.b.length), (38, aI .i64 i), (43, .d (.sl 8 (sts b.s))), (44, aI .i64 b.s.length), (45, aI .i64 k)]) (fun _ => [gB g])
    (fun k => k ≤ b.s.length ∧ stsErr (b.s.drop k) = stsErr b.s) (fun k => b.s.length - k) 0 (Sub.refl _ _ _) 1 (by omega) (by simp) (by simp) ⟨by omega, by simp⟩ ?_
  rintro k ⟨hk, hy⟩ K2 hK2
  rcases Nat.lt_or_ge k b.s.length with hlt2 | hge2
  case inr =>
    obtain rfl : k = b.s.length := by omega
    simp [stsErr] at hy
    rw [if_pos hy.symm] at hx
    simp [succ_wrap hlt hl]
    exact hK (i + 1) ⟨by omega, hx⟩ (by omega) (Sub.refl _ _ _) 1 (by omega) (by simp) (by simp)
  obtain ⟨s, hs⟩ : ∃ s, b.s[k]? = some s := ⟨_, List.getElem?_eq_getElem hlt2⟩
  have hs2 := (List.getElem?_eq_some_iff.1 hs).2
  have f3 := (f2 s (List.mem_of_getElem? hs)).1
  rw [sts_drop hs] at hy
  simp [hlt2, hs, hs2, St.d_eq]
  refine aCall_of (ilcheckst_af s (by unfold maxLen; omega)) (by simp) (by simp [Ex.d_eq]) ?_; simp [Ex.d_eq]
  by_cases h0 : stErr s = 0
  · rw [if_pos h0] at hy
    simp [h0, succ_wrap hlt2 hbl]
    exact hK2 (k + 1) ⟨by omega, hy⟩ (by omega) (Sub.refl _ _ _) 1 (by omega) (by simp) (by simp)
  · rw [if_neg h0] at hy
    rw [if_neg (by rw [← hy]; exact h0), ← hy] at hx
    subst hx
    simp [h0]
end Go.Proofs.YtoeimidochjddaaGreatDoor

/- Contracts: the reference's CheckGraph and what it calls. -/
namespace Go.Proofs.YtoeimidochjddaaGreatDoor
open Go.RowKit
theorem r19ends_af (s : St) : AF Tryz.prog 157 [stV s] (aB (termB s)) := by
  refine af_of Tryz.func157 rfl (by kernel_rfl) (by simp [Tryz.ntmps157]) fun _ => ?_; simp [Tryz.f157, Ex.d_eq]
  by_cases h : 6 ≤ s.op <;> simp [h, termB]
theorem r19exprs_af (op : Int) (h1 : 1 ≤ op) (h2 : op ≤ 10) : AF Tryz.prog 159 [aI .i64 op] (aI .i64 (exprsN op)) := by
  refine af_of Tryz.func159 rfl (by kernel_rfl) (by simp [Tryz.ntmps159]) fun _ => ?_
  rcases op_cases op with h | h | h | h | h | h | h | h | h | h | h <;> first | omega | simp [Tryz.f159, exprsN, h]
def unusedB (s : St) : Bool :=
  (s.op == 1 || s.op == 3 || s.va == 0) && (s.op == 2 || s.wd == 0) && (s.op == 6 || s.op == 7 || s.nx == 0) && (s.op == 7 || s.el == 0) && (s.op == 5 || s.tg == 0) && (s.op == 8 || decide (s.cs = []))
set_option maxHeartbeats 1000000 in
theorem r19unused_af (s : St) : AF Tryz.prog 160 [stV s] (aB (unusedB s)) := by
  obtain ⟨R, hR⟩ : ∃ R, unusedB s = R := ⟨_, rfl⟩
  rw [hR]
  refine af_of Tryz.func160 rfl (by kernel_rfl) (by simp [Tryz.ntmps160]) fun _ => ?_
  rcases op_cases s.op with h | h | h | h | h | h | h | h | h | h | h <;> simp [Tryz.f160, h]
  all_goals
    repeat' (refine aG_split (fun g => ?_) (fun g => ?_) <;> simp at g <;> simp [*])
    all_goals (rw [← hR]; simp [unusedB, *])
theorem fields_ref (s : St) : fieldsB s = (unusedB s && (decide (0 ≤ s.va) && decide (s.va < 65536)) && !(decide (s.op = 2) && !decide (s.wd = 1) && !decide (s.wd = 2) && !decide (s.wd = 4)) && !(decide (s.op = 8) && (decide (s.cs.length < 1) || decide (64 < s.cs.length)))) := by
  rw [Bool.eq_iff_iff]
  rcases op_cases s.op with h | h | h | h | h | h | h | h | h | h | h <;> simp [fieldsB, unusedB, h] <;> simp only [← List.length_eq_zero_iff] <;> omega
end Go.Proofs.YtoeimidochjddaaGreatDoor

/- Contracts: the reference's CheckStmt, isClosed, CheckGraph. -/
namespace Go.Proofs.YtoeimidochjddaaGreatDoor
open Go.RowKit
theorem r19checkst_af (s : St) (hl : s.e.length ≤ maxLen) : AF Tryz.prog 84 [stV s] (aI .i64 (stErr s)) := by
  obtain ⟨R, hR⟩ : ∃ R, stErr s = R := ⟨_, rfl⟩
  rw [hR]
  refine af_of Tryz.func84 rfl (by kernel_rfl) (by simp [Tryz.ntmps84]) fun _ => ?_; simp [Tryz.f84, Ex.d_eq]
  by_cases h1 : s.op < 1
  · have : exprsN s.op = -1 := by unfold exprsN; rw [if_neg (by omega), if_neg (by omega), if_neg (by omega)]
    rw [stErr, if_neg (by rw [this]; omega)] at hR
    subst hR
    refine adraw [] (by kernel_rfl) (by kernel_rfl) (by kernel_rfl) (by kernel_rfl) ?_; simp [Ex.d_eq]
    simp [h1]
  by_cases h2 : 10 < s.op
  · have : exprsN s.op = -1 := by unfold exprsN; rw [if_neg (by omega), if_neg (by omega), if_neg (by omega)]
    rw [stErr, if_neg (by rw [this]; omega)] at hR
    subst hR
    refine adraw [] (by kernel_rfl) (by kernel_rfl) (by kernel_rfl) (by kernel_rfl) ?_; simp [Ex.d_eq]
    simp [h1, h2]
  refine adraw [] (by kernel_rfl) (by kernel_rfl) (by kernel_rfl) (by kernel_rfl) ?_; simp [Ex.d_eq]
  simp [h1, h2]
  refine adC_of (r19exprs_af s.op (by omega) (by omega)) (by simp) trivial (by simp) (by simp [Ex.d_eq]) ?_; simp [Ex.d_eq]
  by_cases h3 : exprsN s.op = s.e.length
  case neg =>
    rw [stErr, if_neg h3] at hR
    subst hR
    simp [show ¬ (s.e.length : Int) = exprsN s.op from fun h => h3 h.symm]
  simp [h3]
  refine aLoop_st (fun i : Nat => [(1, .ptr 0 0 0 0), (3, aI .i64 i)]) (fun _ => [⟨0, true, 81, 8, [s.d.map AV.d]⟩])
    (fun i => i ≤ s.e.length ∧ exsErr (s.e.drop i) = exsErr s.e) (fun i => s.e.length - i) 0 (Sub.refl _ _ _) 1 (by omega) (by simp [St.d_eq]) (by simp) ⟨by omega, by simp⟩ ?_
  rintro i ⟨hi, hx⟩ K hK
  rcases Nat.lt_or_ge i s.e.length with hlt | hge
  case inr =>
    obtain rfl : i = s.e.length := by omega
    simp [exsErr] at hx
    rw [stErr, if_pos h3, if_pos hx.symm, fields_ref] at hR
    simp [St.d_eq]
    have c1 := r19unused_af s
    cases hU : unusedB s <;> rw [hU] at c1 hR
    · simp at hR
      subst hR
      refine aCall_of c1 (by simp) (by simp [Ex.d_eq]) ?_; simp [Ex.d_eq]
    refine aCall_of c1 (by simp) (by simp [Ex.d_eq]) ?_; simp [Ex.d_eq]
    have c2 := risvar_af s.va
    cases hV : (decide (0 ≤ s.va) && decide (s.va < 65536)) <;> rw [hV] at c2 hR
    · simp at hR
      subst hR
      refine aCall_of c2 (by simp) (by simp [Ex.d_eq]) ?_; simp [Ex.d_eq]
    refine aCall_of c2 (by simp) (by simp [Ex.d_eq]) ?_; simp [Ex.d_eq]
    by_cases h2 : s.op = 2
    · by_cases w1 : s.wd = 1
      · simp [h2, w1] at hR
        subst hR
        simp [h2, w1, St.d_eq]
      by_cases w2 : s.wd = 2
      · simp [h2, w2] at hR
        subst hR
        simp [h2, w2, St.d_eq]
      by_cases w4 : s.wd = 4
      · simp [h2, w4] at hR
        subst hR
        simp [h2, w4, St.d_eq]
      simp [h2, w1, w2, w4] at hR
      subst hR
      simp [h2, w1, w2, w4, St.d_eq]
    · by_cases h8 : s.op = 8
      · by_cases g1 : s.cs.length < 1
        · have g2 : s.cs = [] := List.length_eq_zero_iff.1 (by omega)
          simp [h8, g2] at hR
          subst hR
          simp [h2, h8, g2, St.d_eq]
        · have g2 : ¬ (s.cs.length : Int) < 1 := by omega
          have g4 : ¬ s.cs = [] := fun h => by rw [h] at g1; simp at g1
          by_cases g3 : 64 < s.cs.length
          · have g5 : (64 : Int) < s.cs.length := by omega
            simp [h8, g3] at hR
            subst hR
            simp [h2, h8, g2, g5, St.d_eq]
          · have g5 : ¬ (64 : Int) < s.cs.length := by omega
            simp [h8, g1, g3, g4] at hR
            subst hR
            simp [h2, h8, g2, g5, St.d_eq]
      · simp [h2, h8] at hR
        subst hR
        simp [h2, h8, St.d_eq]
  obtain ⟨y, hy⟩ : ∃ y, s.e[i]? = some y := ⟨_, List.getElem?_eq_getElem hlt⟩
  have hy2 := (List.getElem?_eq_some_iff.1 hy).2
  rw [exs_drop hy] at hx
  simp [hlt, hy, hy2, Ex.d_eq, St.d_eq]
  refine aCall_of (rcheck_af y) (by simp) (by simp [Ex.d_eq]) ?_; simp [Ex.d_eq]
  rw [show (if shalB 64 y = true then (if formB y = true then (0 : Int) else 2) else 20) = exErr y from rfl]
  by_cases h0 : exErr y = 0
  · rw [if_pos h0] at hx
    simp [h0, succ_wrap hlt hl]
    exact hK (i + 1) ⟨by omega, hx⟩ (by omega) (Sub.refl _ _ _) 1 (by omega) (by simp [St.d_eq]) (by simp)
  · rw [if_neg h0] at hx
    have : R = exErr y := by rw [← hR, stErr, if_pos h3, if_neg (by rw [← hx]; exact h0), hx]
    subst this
    simp [h0]
theorem r19targets_af (s : St) : AF Tryz.prog 158 [stV s] (.d (.sl 1 (i64s (tgts s)))) := by
  refine af_of Tryz.func158 rfl (by kernel_rfl) (by simp [Tryz.ntmps158]) fun _ => ?_
  rcases op_cases s.op with h | h | h | h | h | h | h | h | h | h | h <;> simp [Tryz.f158, tgts, h]
theorem any_drop {α : Type} {p : α → Bool} {l : List α} {i : Nat} {x : α} (h : l[i]? = some x) : (l.drop i).any p = (p x || (l.drop (i + 1)).any p) := by
  obtain ⟨hi, rfl⟩ := List.getElem?_eq_some_iff.1 h
  rw [List.drop_eq_getElem_cons hi, List.any_cons]
/-- Ends a block with its only terminator? -/
theorem closed_ends {l : List St} {n : Nat} {s : St} (hn : l.length = n + 1) (hs : l[n]? = some s) : (termB s && !(l.take n).any termB) = true ↔ ∀ (i : Nat) (x : St), l[i]? = some x → termB x = decide (i = n) := by
  constructor
  · intro h i x hx
    simp at h
    have hi := (List.getElem?_eq_some_iff.1 hx).1
    by_cases hin : i = n
    · subst hin
      rw [hs] at hx
      obtain rfl := Option.some.inj hx
      simp [h.1]
    · have : x ∈ l.take n := List.mem_of_getElem? (i := i) (by rw [List.getElem?_take, if_pos (by omega)]; exact hx)
      simpa [hin] using h.2 x this
  · intro h
    simp
    refine ⟨by simpa using h n s hs, fun x hx => ?_⟩
    obtain ⟨i, hi⟩ := List.getElem?_of_mem hx
    rw [List.getElem?_take] at hi
    split at hi
    · simpa [show i ≠ n by omega] using h i x hi
    · cases hi
theorem r19closed_af (b : Bl) (n : Nat) (hl : b.s.length ≤ 1000000) (hn : n ≤ 1000000) (hc : ∀ s ∈ b.s, s.cs.length ≤ 2000000) : AF Tryz.prog 83 [blV b, aI .i64 n] (aB (closedB n b)) := by
  have hbl : b.s.length ≤ maxLen := by unfold maxLen; omega
  obtain ⟨R, hR⟩ : ∃ R, closedB n b = R := ⟨_, rfl⟩
  rw [hR]
  refine af_of Tryz.func83 rfl (by kernel_rfl) (by simp [Tryz.ntmps83]) fun _ => ?_; simp [Tryz.f83, Ex.d_eq]
  cases hm : b.s.length with
  | zero =>
    have hne : b.s = [] := List.length_eq_zero_iff.1 hm
    rw [closedB, hne] at hR
    simp at hR
    subst hR
    simp [hne]
  | succ m =>
    obtain ⟨s, hs, hs2⟩ := last_get hm
    have hs3 := (List.getElem?_eq_some_iff.1 hs).2
    have hne : ¬ b.s = [] := fun h => by rw [h] at hm; simp at hm
    have hcl : closedB n b = ((termB s && !(b.s.take m).any termB) && !(tgts s).any fun k => decide (k < 0) || decide ((n : Int) ≤ k)) := by
      rw [closedB, hs2, hm]
      rfl
    have hends := closed_ends hm hs
    have hw := i64w (n := (m : Int)) (by omega)
    simp [hne]
    refine aLoop_st (fun i : Nat => [(2, .ptr 0 0 0 0), (5, aI .i64 i), (1, aI .i64 n)]) (fun _ => [bB b])
      (fun i => i ≤ b.s.length ∧ ∀ (j : Nat) (x : St), j < i → b.s[j]? = some x → termB x = decide (j = m)) (fun i => b.s.length - i) 0 (Sub.refl _ _ _) 1 (by omega) (by simp) (by simp) ⟨by omega, by intro j x hj; omega⟩ ?_
    rintro i ⟨hi, hx⟩ K hK
    rcases Nat.lt_or_ge i b.s.length with hlt | hge
    case inl =>
      obtain ⟨y, hy⟩ : ∃ y, b.s[i]? = some y := ⟨_, List.getElem?_eq_getElem hlt⟩
      have hy2 := (List.getElem?_eq_some_iff.1 hy).2
      simp [hlt]
      refine adraw [] (by kernel_rfl) (by kernel_rfl) (by kernel_rfl) (by kernel_rfl) ?_; simp [Ex.d_eq]
      simp [hlt, hy, hy2, St.d_eq]
      refine adC_of (r19ends_af y) (by simp) trivial (by simp) (by simp [Ex.d_eq]) ?_; simp [Ex.d_eq]
      simp [hm, hw]
      by_cases ht : termB y = decide (i = m)
      · have ht2 : termB y = decide ((i : Int) = m) := by rw [ht, Bool.eq_iff_iff]; simp; omega
        simp [ht2, succ_wrap hlt hbl]
        refine hK (i + 1) ⟨by omega, fun j x hj hjx => ?_⟩ (by omega) (Sub.refl _ _ _) 1 (by omega) (by simp) (by simp)
        rcases Nat.lt_or_ge j i with h | h
        · exact hx j x h hjx
        · obtain rfl : j = i := by omega
          rw [hy] at hjx
          obtain rfl := Option.some.inj hjx
          exact ht
      · have ht2 : ¬ termB y = decide ((i : Int) = m) := fun h => ht (by rw [h, Bool.eq_iff_iff]; simp; omega)
        have : R = false := by
          rw [← hR, hcl]
          cases h : (termB s && !(b.s.take m).any termB)
          · rfl
          · exact absurd (hends.1 h i y hy) ht
        subst this
        cases hty : termB y <;> by_cases him : (i : Int) = m <;> simp [hty, him] at ht2 ⊢
    obtain rfl : i = b.s.length := by omega
    rw [hcl, hends.2 fun j x hj => hx j x (List.getElem?_eq_some_iff.1 hj).1 hj, Bool.true_and] at hR
    have hts : (tgts s).length ≤ 2000000 := by
      have := hc s (List.mem_of_getElem? hs)
      unfold tgts
      split <;> (try split) <;> (try split) <;> simp <;> omega
    simp [hm, hw, hs, hs3, St.d_eq]
    refine aCall_of (r19targets_af s) (by simp) (by simp [Ex.d_eq]) ?_; simp [Ex.d_eq]
    generalize tgts s = T at *
    clear hK hx K hcl
    refine aLoop_st (fun i : Nat => [(6, .d (.sl 1 (i64s T))), (7, aI .i64 i), (1, aI .i64 n)]) (fun _ => [])
      (fun i => i ≤ T.length ∧ (!(T.drop i).any fun k => decide (k < 0) || decide ((n : Int) ≤ k)) = R) (fun i => T.length - i) 0 (Sub.refl _ _ _) 0 (by omega) (by simp) (by simp) ⟨by omega, by simpa using hR⟩ ?_
    rintro i ⟨hi, hx⟩ K hK
    rcases Nat.lt_or_ge i T.length with hlt | hge
    case inr =>
      obtain rfl : i = T.length := by omega
      simp at hx
      subst hx
      simp
    obtain ⟨k, hk⟩ : ∃ k, T[i]? = some k := ⟨_, List.getElem?_eq_getElem hlt⟩
    have hk2 := (List.getElem?_eq_some_iff.1 hk).2
    rw [any_drop hk] at hx
    by_cases h1 : k < 0
    · simp [h1] at hx
      subst hx
      simp [hlt, hk, hk2, h1]
    by_cases h2 : (n : Int) ≤ k
    · simp [h2] at hx
      subst hx
      simp [hlt, hk, hk2, h1, h2]
    simp [h1, h2] at hx
    simp [hlt, hk, hk2, h1, h2, i64w (n := (i : Int) + 1) (by omega)]
    exact hK (i + 1) ⟨by omega, by simpa using hx⟩ (by omega) (Sub.refl _ _ _) 0 (by omega) (by simp) (by simp)
theorem r19checkg_af (g : Gr) (hg : GrFit g) : AF Tryz.prog 36 [grV g] (aI .i64 (grErr g)) := by
  have hl : g.b.length ≤ maxLen := by have := hg.1; unfold maxLen; omega
  have hN : ∀ i, stN (g.b.take i) ≤ 1000000000000 := fun i => by
    have h1 := stN_le (l := g.b.take i) fun b hb => (hg.2 b (List.mem_of_mem_take hb)).1
    have h2 := hg.1
    have h3 : (g.b.take i).length ≤ g.b.length := by simp; omega
    have := Nat.mul_le_mul_left 1000000 (Nat.le_trans h3 h2)
    omega
  obtain ⟨R, hR⟩ : ∃ R, grErr g = R := ⟨_, rfl⟩
  rw [hR]
  rw [grErr] at hR
  refine af_of Tryz.func36 rfl (by kernel_rfl) (by simp [Tryz.ntmps36]) fun _ => ?_; simp [Tryz.f36, Ex.d_eq]
  by_cases h1 : 256 < g.b.length
  · rw [if_pos (.inl h1)] at hR
    simp [show (256 : Int) < g.b.length by omega, hR]
  simp [show ¬ (256 : Int) < g.b.length by omega]
  refine aLoop_st (fun i : Nat => [(1, .ptr 0 0 0 0), (4, aI .i64 i), (3, aI .i64 (stN (g.b.take i)))]) (fun _ => [gB g])
    (fun i => i ≤ g.b.length) (fun i => g.b.length - i) 0 (Sub.refl _ _ _) 1 (by omega) (by simp) (by simp [stN]) (by omega) ?_
  rintro i hi K hK
  rcases Nat.lt_or_ge i g.b.length with hlt | hge
  case inl =>
    obtain ⟨b, hb⟩ : ∃ b, g.b[i]? = some b := ⟨_, List.getElem?_eq_getElem hlt⟩
    have hb2 := (List.getElem?_eq_some_iff.1 hb).2
    have hs := stN_take hb
    have h1 := hN (i + 1)
    simp [hlt, hb, hb2, Bl.d_eq, succ_wrap hlt hl, i64w (n := (stN (g.b.take i) : Int) + b.s.length) (by omega)]
    exact hK (i + 1) (by omega) (by omega) (Sub.refl _ _ _) 1 (by omega) (by simp) (by simp [hs])
  obtain rfl : i = g.b.length := by omega
  rw [List.take_length]
  simp
  by_cases h2 : 1024 < stN g.b
  · rw [if_pos (.inr h2)] at hR
    simp [show (1024 : Int) < stN g.b by omega, hR]
  simp [show ¬ (1024 : Int) < stN g.b by omega]
  rw [if_neg (by omega)] at hR
  by_cases h0 : g.b = []
  · rw [if_pos (.inl (by rw [h0]; rfl))] at hR
    subst hR
    simp [h0]
  have h0' : ¬ g.b.length = 0 := fun h => h0 (List.length_eq_zero_iff.1 h)
  simp [h0]
  clear hK K
  refine aLoop_st (fun i : Nat => [(1, .ptr 0 0 0 0), (5, aI .i64 i)]) (fun _ => [gB g])
    (fun i => i ≤ g.b.length ∧ (g.b.drop i).all (closedB g.b.length) = g.b.all (closedB g.b.length)) (fun i => g.b.length - i) 0 (Sub.refl _ _ _) 1 (by omega) (by simp) (by simp) ⟨by omega, by simp⟩ ?_
  rintro i ⟨hi, hx⟩ K hK
  rcases Nat.lt_or_ge i g.b.length with hlt | hge
  case inl =>
    obtain ⟨b, hb⟩ : ∃ b, g.b[i]? = some b := ⟨_, List.getElem?_eq_getElem hlt⟩
    have hb2 := (List.getElem?_eq_some_iff.1 hb).2
    obtain ⟨f1, f2⟩ := hg.2 b (List.mem_of_getElem? hb)
    rw [all_drop hb] at hx
    simp [hlt]
    refine adraw [] (by kernel_rfl) (by kernel_rfl) (by kernel_rfl) (by kernel_rfl) ?_; simp [Ex.d_eq]
    simp [hlt, hb, hb2, Bl.d_eq]
    refine adC_of (r19closed_af b g.b.length f1 hg.1 fun s hs => (f2 s hs).2) (by simp) trivial (by simp) (by simp [Ex.d_eq]) ?_; simp [Ex.d_eq]
    cases hc : closedB g.b.length b
    · rw [hc, Bool.false_and] at hx
      rw [if_pos (.inr hx.symm)] at hR
      subst hR
      simp
    · rw [hc, Bool.true_and] at hx
      simp [succ_wrap hlt hl]
      exact hK (i + 1) ⟨by omega, hx⟩ (by omega) (Sub.refl _ _ _) 1 (by omega) (by simp) (by simp)
  obtain rfl : i = g.b.length := by omega
  rw [List.drop_length] at hx
  rw [if_neg (by rw [← hx]; simp [h0])] at hR
  simp
  clear hK K
  refine aLoop_st (fun i : Nat => [(1, .ptr 0 0 0 0), (6, aI .i64 i)]) (fun _ => [gB g])
    (fun i => i ≤ g.b.length ∧ blsErr (g.b.drop i) = R) (fun i => g.b.length - i) 0 (Sub.refl _ _ _) 1 (by omega) (by simp) (by simp) ⟨by omega, by simpa using hR⟩ ?_
  rintro i ⟨hi, hx⟩ K hK
  rcases Nat.lt_or_ge i g.b.length with hlt | hge
  case inr =>
    obtain rfl : i = g.b.length := by omega
    simp [blsErr] at hx
    simp [hx]
  obtain ⟨b, hb⟩ : ∃ b, g.b[i]? = some b := ⟨_, List.getElem?_eq_getElem hlt⟩
  have hb2 := (List.getElem?_eq_some_iff.1 hb).2
  obtain ⟨f1, f2⟩ := hg.2 b (List.mem_of_getElem? hb)
  have hbl : b.s.length ≤ maxLen := by unfold maxLen; omega
  rw [bls_drop hb] at hx
  simp [hlt]
  refine aLoop_st (fun k : Nat => [(1, .ptr 0 0 0 0), (6, aI .i64 i), (7, aI .i64 k)]) (fun _ => [gB g])
    (fun k => k ≤ b.s.length ∧ stsErr (b.s.drop k) = stsErr b.s) (fun k => b.s.length - k) 0 (Sub.refl _ _ _) 1 (by omega) (by simp) (by simp) ⟨by omega, by simp⟩ ?_
  rintro k ⟨hk, hy⟩ K2 hK2
  rcases Nat.lt_or_ge k b.s.length with hlt2 | hge2
  case inr =>
    obtain rfl : k = b.s.length := by omega
    simp [stsErr] at hy
    rw [if_pos hy.symm] at hx
    simp [hlt, hb, hb2, Bl.d_eq, succ_wrap hlt hl]
    exact hK (i + 1) ⟨by omega, hx⟩ (by omega) (Sub.refl _ _ _) 1 (by omega) (by simp) (by simp)
  obtain ⟨s, hs⟩ : ∃ s, b.s[k]? = some s := ⟨_, List.getElem?_eq_getElem hlt2⟩
  have hs2 := (List.getElem?_eq_some_iff.1 hs).2
  have f3 := (f2 s (List.mem_of_getElem? hs)).1
  rw [sts_drop hs] at hy
  simp [hlt, hb, hb2, Bl.d_eq, hlt2, hs, hs2, St.d_eq]
  refine aCall_of (r19checkst_af s (by unfold maxLen; omega)) (by simp) (by simp [Ex.d_eq]) ?_; simp [Ex.d_eq]
  by_cases h0 : stErr s = 0
  · rw [if_pos h0] at hy
    simp [h0, succ_wrap hlt2 hbl]
    exact hK2 (k + 1) ⟨by omega, hy⟩ (by omega) (Sub.refl _ _ _) 1 (by omega) (by simp) (by simp)
  · rw [if_neg h0] at hy
    rw [if_neg (by rw [← hy]; exact h0), ← hy] at hx
    subst hx
    simp [h0]
end Go.Proofs.YtoeimidochjddaaGreatDoor
