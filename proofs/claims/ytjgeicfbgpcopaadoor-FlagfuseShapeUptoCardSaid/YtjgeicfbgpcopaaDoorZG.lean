/- Texts that the claim leans on, laid one behind the other: Ga, Gb, Gc, Gd, Ge, Ha. -/
import Derived.Test.YtjgeicfbgpcopaaDoorZD
set_option linter.unusedSimpArgs false
set_option linter.unusedVariables false
set_option linter.unnecessarySimpa false
/- Contracts: the reference's makers of expressions. -/
namespace Go.Proofs.YtjgeicfbgpcopaaDoor
open Go.RowKit
end Go.Proofs.YtjgeicfbgpcopaaDoor

/- Contracts: the guards on an expression's size (law 19's Nodes and Small). -/
namespace Go.Proofs.YtjgeicfbgpcopaaDoor
open Go.RowKit
mutual
/-- What law 19's Nodes computes. -/
def nodI : Ex → Int → Int → Int
  | .mk _ _ _ _ l, m, n => if m < 1 ∨ n < 1 ∨ 4 < l.length then -1 else nodL l (m - 1) (n - 1)
def nodL : List Ex → Int → Int → Int
  | [], _, n => n
  | x :: l, m, n => if 0 ≤ n then nodL l m (nodI x m n) else n
end
theorem nodI_eq (e : Ex) (m n : Int) : nodI e m n = if m < 1 ∨ n < 1 ∨ 4 < e.l.length then -1 else nodL e.l (m - 1) (n - 1) := by
  cases e
  rw [nodI]
  rfl
theorem nodL_neg (l : List Ex) (m n : Int) (h : n < 0) : nodL l m n = n := by
  cases l with
  | nil => rw [nodL]
  | cons x l => rw [nodL, if_neg (by omega)]
mutual
theorem nodI_le : ∀ (e : Ex) (m n : Int), -1 ≤ n → -1 ≤ nodI e m n ∧ (nodI e m n = -1 ∨ nodI e m n + e.nodes = n ∧ e.depth ≤ m)
  | .mk o k v w l, m, n, h => by
    rw [nodI]
    split
    · exact ⟨by omega, .inl rfl⟩
    · rename_i hc
      have := nodL_le l (m - 1) (n - 1) (by omega)
      refine ⟨this.1, ?_⟩
      simp only [Ex.nodes, Ex.depth]
      rcases this.2 with h1 | h1
      · exact .inl h1
      · right
        omega
theorem nodL_le : ∀ (l : List Ex) (m n : Int), -1 ≤ n → -1 ≤ nodL l m n ∧ (nodL l m n = -1 ∨ nodL l m n + Ex.nodess l = n ∧ (Ex.depths l : Int) ≤ max m 0)
  | [], m, n, h => by
    rw [nodL]
    refine ⟨h, .inr ⟨by simp [Ex.nodess], by simp only [Ex.depths]; omega⟩⟩
  | x :: l, m, n, h => by
    rw [nodL]
    split
    · have h1 := nodI_le x m n h
      have h2 := nodL_le l m (nodI x m n) h1.1
      refine ⟨h2.1, ?_⟩
      simp only [Ex.nodess, Ex.depths]
      rcases h2.2 with h3 | h3
      · exact .inl h3
      · rcases h1.2 with h4 | h4
        · left
          rw [h4]
          exact nodL_neg l m _ (by omega)
        · right
          omega
    · exact ⟨h, .inl (by omega)⟩
end
end Go.Proofs.YtjgeicfbgpcopaaDoor

/- Contracts: the reference's check of an expression. -/
namespace Go.Proofs.YtjgeicfbgpcopaaDoor
open Go.RowKit
end Go.Proofs.YtjgeicfbgpcopaaDoor

/- Contracts: the reference's check of an expression (printed by gen_gd.py). -/
namespace Go.Proofs.YtjgeicfbgpcopaaDoor
open Go.RowKit
end Go.Proofs.YtjgeicfbgpcopaaDoor

/- Contracts: law 28's expressions; the reference's size. -/
namespace Go.Proofs.YtjgeicfbgpcopaaDoor
open Go.RowKit
def eAbs (x : Ex) : Ex := eTwo 4 (eTwo 8 x (eTwo 11 x (eCon 31))) (eTwo 11 x (eCon 31))
def eChoose (z x y : Ex) : Ex := eTwo 8 z (eTwo 6 (eTwo 8 x y) (eOne 17 (eTwo 14 x y)))
end Go.Proofs.YtjgeicfbgpcopaaDoor

/- The idioms as plain functions on expression trees. No program in sight. -/
namespace Go.Proofs.YtjgeicfbgpcopaaDoor
open Go.RowKit
namespace Ex
def x (e : Ex) : Ex := e.l.getD 0 (eCon 0)
def y (e : Ex) : Ex := e.l.getD 1 (eCon 0)
end Ex
section
variable (op n v w : Int) (a b : Ex) (l : List Ex)
@[simp] theorem x_two : (eTwo op a b).x = a := rfl
@[simp] theorem y_two : (eTwo op a b).y = b := rfl
@[simp] theorem x_one : (eOne op a).x = a := rfl
@[simp] theorem x_mk : (Ex.mk op n v w (a :: l)).x = a := rfl
@[simp] theorem y_mk : (Ex.mk op n v w (a :: b :: l)).y = b := rfl
end
/-- Well-formed expressions, by their operators. -/
theorem form_all {e : Ex} (h : formB e = true) : okE e.op e.n e.v e.wd e.l.length = true ∧ ∀ x ∈ e.l, formB x = true := by
  rw [formB_eq, Bool.and_eq_true, List.all_eq_true] at h
  exact h
theorem okE_con {n v w : Int} {k : Nat} : okE 1 n v w k = true ↔ v = 0 ∧ w = 0 ∧ k = 0 := by simp [okE, and_assoc]
theorem okE_var {n v w : Int} {k : Nat} : okE 2 n v w k = true ↔ n = 0 ∧ w = 0 ∧ k = 0 ∧ 0 ≤ v ∧ v < 65536 := by simp [okE, and_assoc]
theorem okE_two {op n v w : Int} {k : Nat} (h3 : 3 ≤ op) (h15 : op ≤ 15) : okE op n v w k = true ↔ n = 0 ∧ v = 0 ∧ w = 0 ∧ k = 2 := by
  unfold okE
  rw [if_neg (by omega), if_neg (by omega), if_pos ⟨h3, h15⟩]
  simp [and_assoc]
theorem okE_one {op n v w : Int} {k : Nat} (ho : op = 16 ∨ op = 17) : okE op n v w k = true ↔ n = 0 ∧ v = 0 ∧ w = 0 ∧ k = 1 := by
  rcases ho with rfl | rfl <;> simp [okE, and_assoc]
theorem okE_load {n v w : Int} {k : Nat} : okE 18 n v w k = true ↔ n = 0 ∧ v = 0 ∧ (w = 1 ∨ w = 2 ∨ w = 4) ∧ k = 1 := by simp [okE, and_assoc, or_assoc]
theorem okE_sext {n v w : Int} {k : Nat} : okE 19 n v w k = true ↔ n = 0 ∧ v = 0 ∧ (w = 1 ∨ w = 2) ∧ k = 1 := by simp [okE, and_assoc]
theorem okE_no {op n v w : Int} {k : Nat} (h : op < 1 ∨ 19 < op) : okE op n v w k = false := by
  unfold okE
  rw [if_neg (by omega), if_neg (by omega), if_neg (by omega), if_neg (by omega), if_neg (by omega), if_neg (by omega)]
theorem form_con {e : Ex} (h : formB e = true) (ho : e.op = 1) : e = eCon e.n := by
  have h1 := (form_all h).1
  rw [ho, okE_con] at h1
  obtain ⟨op, n, v, w, l⟩ := e
  simp only [Ex.op_mk, Ex.v_mk, Ex.wd_mk, Ex.l_mk] at h1 ho
  obtain ⟨rfl, rfl, hl⟩ := h1
  subst ho
  match l, hl with
  | [], _ => rfl
theorem form_var {e : Ex} (h : formB e = true) (ho : e.op = 2) : e = eVar e.v ∧ 0 ≤ e.v ∧ e.v < 65536 := by
  have h1 := (form_all h).1
  rw [ho, okE_var] at h1
  obtain ⟨op, n, v, w, l⟩ := e
  simp only [Ex.op_mk, Ex.n_mk, Ex.v_mk, Ex.wd_mk, Ex.l_mk] at h1 ho
  obtain ⟨rfl, rfl, hl, h2, h3⟩ := h1
  subst ho
  match l, hl with
  | [], _ => exact ⟨rfl, h2, h3⟩
theorem form_two {e : Ex} (h : formB e = true) (h3 : 3 ≤ e.op) (h15 : e.op ≤ 15) : ∃ a b, e = eTwo e.op a b ∧ formB a = true ∧ formB b = true := by
  obtain ⟨h1, h2⟩ := form_all h
  rw [okE_two h3 h15] at h1
  obtain ⟨op, n, v, w, l⟩ := e
  simp only [Ex.n_mk, Ex.v_mk, Ex.wd_mk, Ex.l_mk] at h1 h2
  obtain ⟨rfl, rfl, rfl, hl⟩ := h1
  match l, hl with
  | [a, b], _ => exact ⟨a, b, rfl, h2 a (by simp), h2 b (by simp)⟩
theorem form_one {e : Ex} (h : formB e = true) (ho : e.op = 16 ∨ e.op = 17) : ∃ a, e = eOne e.op a ∧ formB a = true := by
  obtain ⟨h1, h2⟩ := form_all h
  rw [okE_one ho] at h1
  obtain ⟨op, n, v, w, l⟩ := e
  simp only [Ex.n_mk, Ex.v_mk, Ex.wd_mk, Ex.l_mk] at h1 h2
  obtain ⟨rfl, rfl, rfl, hl⟩ := h1
  match l, hl with
  | [a], _ => exact ⟨a, rfl, h2 a (by simp)⟩
theorem form_wide {e : Ex} (h : formB e = true) (ho : e.op = 18 ∨ e.op = 19) : ∃ a, e = .mk e.op 0 0 e.wd [a] ∧ formB a = true ∧ (e.wd = 1 ∨ e.wd = 2 ∨ e.wd = 4 ∧ e.op = 18) := by
  obtain ⟨h1, h2⟩ := form_all h
  have h1' : e.n = 0 ∧ e.v = 0 ∧ (e.wd = 1 ∨ e.wd = 2 ∨ e.wd = 4 ∧ e.op = 18) ∧ e.l.length = 1 := by
    rcases ho with ho | ho
    · rw [ho, okE_load] at h1; omega
    · rw [ho, okE_sext] at h1; omega
  obtain ⟨op, n, v, w, l⟩ := e
  simp only [Ex.op_mk, Ex.n_mk, Ex.v_mk, Ex.wd_mk, Ex.l_mk] at h1' h2
  obtain ⟨rfl, rfl, hw, hl⟩ := h1'
  match l, hl with
  | [a], _ => exact ⟨a, rfl, h2 a (by simp), hw⟩
theorem form_op {e : Ex} (h : formB e = true) : 1 ≤ e.op ∧ e.op ≤ 19 := by
  have h1 := (form_all h).1
  rcases Int.lt_or_le e.op 1 with h2 | h2
  · rw [okE_no (.inl h2)] at h1; cases h1
  · rcases Int.lt_or_le 19 e.op with h3 | h3
    · rw [okE_no (.inr h3)] at h1; cases h1
    · exact ⟨h2, h3⟩
/-- Equal expressions. -/
theorem sameB_iff : ∀ {a b : Ex}, sameB a b = true ↔ a = b := by
  intro a
  induction a using Ex.ind with
  | h a ih =>
    intro b
    constructor
    · intro h
      rw [sameB_eq] at h
      simp only [Bool.and_eq_true, beq_iff_eq] at h
      obtain ⟨⟨⟨⟨h1, h2⟩, h3⟩, h4⟩, h5⟩ := h
      have hl : ∀ l l' : List Ex, (∀ x ∈ l, ∀ b, sameB x b = true ↔ x = b) → all2 sameB l l' = true → l = l' := by
        intro l
        induction l with
        | nil => intro l' _ h; cases l' with | nil => rfl | cons y l' => simp [all2] at h
        | cons x l ihl =>
          intro l' hx h
          cases l' with
          | nil => simp [all2] at h
          | cons y l' =>
            simp only [all2, Bool.and_eq_true] at h
            rw [(hx x (by simp) y).1 h.1, ihl l' (fun z hz => hx z (by simp [hz])) h.2]
      have := hl _ _ (fun x hx b => ih x hx) h5
      rw [← Ex.eta a, ← Ex.eta b, h1, h2, h3, h4, this]
    · rintro rfl
      exact sameB_refl a
theorem sameB_false {a b : Ex} : sameB a b = false ↔ a ≠ b := by
  rw [← Bool.not_eq_true, sameB_iff]
/-- 2^32 - 1. -/
abbrev all32 : Int := 4294967295
def isB (e : Ex) (n : Int) : Bool := decide (e.op = 1) && decide (e.n = n)
theorem isB_iff {e : Ex} {n : Int} : isB e n = true ↔ e.op = 1 ∧ e.n = n := by simp [isB]
/-- Operators whose operands may be exchanged. -/
def comB (op : Int) : Bool := decide (op = 3) || decide (op = 5) || decide (op = 6) || decide (op = 7) || decide (op = 8)
def ordS (e : Ex) (op : Int) : List (Ex × Ex) := if e.op = op ∧ e.l.length = 2 then (e.x, e.y) :: (if comB op = true then [(e.y, e.x)] else []) else []
def byS (e : Ex) (op n : Int) : Option Ex := ((ordS e op).find? fun p => isB p.2 n).map (·.1)
/-- 1 << k. -/
def pw (k : Int) : Int := shlI .u32 1 k
def shS (e : Ex) (op : Int) : Option (Ex × Int) := if e.op = op ∧ e.y.op = 1 ∧ 1 ≤ e.y.n ∧ e.y.n ≤ 31 then some (e.x, e.y.n) else none
def mulS (e : Ex) : Ex × Int := match shS e 9 with
  | some (x, k) => (x, pw k)
  | none => if e.op = 5 then (if e.y.op = 1 then (e.x, e.y.n) else if e.x.op = 1 then (e.y, e.x.n) else (e, 1)) else (e, 1)
def sumS (e : Ex) (op : Int) : Option Ex :=
  if e.op = op ∧ (mulS e.x).1.op ≠ 1 ∧ sameB (mulS e.x).1 (mulS e.y).1 = true ∧ ¬ (op = 4 ∧ (mulS e.x).2 = (mulS e.y).2) then
    some (eTwo 5 (mulS e.x).1 (eCon (if op = 4 then IntKind.u32.wrap ((mulS e.x).2 - (mulS e.y).2) else IntKind.u32.wrap ((mulS e.x).2 + (mulS e.y).2)))) else none
def negS (e : Ex) : Option Ex := match byS e 3 1 with
  | some a => (byS a 8 all32).map (eOne 17)
  | none => none
def invS (e : Ex) : Option Ex := match (ordS e 3).find? (fun p => isB p.2 all32 && decide (p.1.op = 17)) with
  | some p => some (eTwo 8 p.1.x (eCon all32))
  | none => if e.op = 4 ∧ isB e.y 1 = true ∧ e.x.op = 17 then some (eTwo 8 e.x.x (eCon all32)) else none
def extS (e : Ex) (op : Int) : Option (Ex × Int) := match shS e op with
  | some (a, n) => if n = 24 ∧ (mulS a).2 = 16777216 then some ((mulS a).1, 1) else if n = 16 ∧ (mulS a).2 = 65536 then some ((mulS a).1, 2) else none
  | none => none
def sgnS (e : Ex) : Option Ex := (extS e 11).map fun p => .mk 19 0 0 p.2 [p.1]
def zerS (e : Ex) : Option Ex := (extS e 10).map fun p => eTwo 6 p.1 (eCon (if p.2 = 1 then 255 else 65535))
def hiS (e : Ex) (op : Int) : Option Ex := match shS e op with
  | some (x, k) => if k = 31 then some x else none
  | none => none
def nzS (e : Ex) : Option Ex := match hiS e 10 with
  | some a => ((ordS a 7).find? fun p => decide (p.2.op = 17) && sameB p.2.x p.1).map fun p => eTwo 13 p.1 (eCon 0)
  | none => none
def restS (e : Ex) : Option Ex := if e.op = 4 then (match shS (mulS e.y).1 10 with
  | some (x, k) => if (mulS e.y).2 = pw k ∧ sameB x e.x = true then some (eTwo 6 x (eCon (IntKind.u32.wrap (pw k - 1)))) else none
  | none => none) else none
def signS (e : Ex) : Option Ex := (hiS e 10).map fun x => eTwo 14 x (eCon 0)
def shfS (e : Ex) : Option Ex := (shS e 9).map fun p => eTwo 5 p.1 (eCon (pw p.2))
def absB (e : Ex) : Bool := decide (e.op = 4) && (match hiS e.y 11 with
  | some x => (ordS e.x 8).any fun p => sameB p.1 x && sameB p.2 e.y
  | none => false)
def selB (e : Ex) (g : Bool) : Bool := (ordS e 8).any fun p => (ordS p.2 6).any fun q =>
  decide (q.2.op = 17) && decide (q.2.x.op = 14) && ((ordS q.1 8).any fun r => sameB r.1 q.2.x.x && sameB r.2 q.2.x.y) && sameB p.1 (if g then q.2.x.x else q.2.x.y)
/-- An idiom by its number: what replaces the expression, if it matches. -/
def applyS (i : Nat) (e : Ex) : Option Ex := match i with
  | 0 => sumS e 3
  | 1 => sumS e 4
  | 2 => negS e
  | 3 => invS e
  | 4 => sgnS e
  | 5 => zerS e
  | 6 => nzS e
  | 7 => restS e
  | 8 => signS e
  | 9 => shfS e
  | 10 => if absB e then some e else none
  | 11 => if selB e false then some e else none
  | _ => if selB e true then some e else none
/-- The first idiom of those from i on, below n. -/
def firstS (e : Ex) : Nat → Nat → Option (Nat × Ex)
  | _, 0 => none
  | i, n + 1 => match applyS i e with
    | some x => some (i, x)
    | none => firstS e (i + 1) n
/-- The weight of an operator. -/
def wOp (op : Int) : Nat := if op = 3 ∨ op = 4 ∨ op = 9 ∨ op = 10 ∨ op = 11 then 2 else 1
mutual
def Ex.wt : Ex → Nat
  | .mk op _ _ _ l => wOp op + wts l
def wts : List Ex → Nat
  | [] => 0
  | e :: l => e.wt + wts l
end
theorem wt_eq (e : Ex) : e.wt = wOp e.op + wts e.l := by cases e; rw [Ex.wt]; rfl
theorem wOp_le (op : Int) : 1 ≤ wOp op ∧ wOp op ≤ 2 := by unfold wOp; split <;> omega
theorem wt_pos (e : Ex) : 0 < e.wt := by rw [wt_eq]; have := (wOp_le e.op).1; omega
theorem wts_mem {x : Ex} : ∀ {l : List Ex}, x ∈ l → x.wt ≤ wts l
  | y :: l, h => by
    rw [wts]
    rcases List.mem_cons.1 h with rfl | h
    · omega
    · have := wts_mem h; omega
theorem wt_mem {e x : Ex} (h : x ∈ e.l) : x.wt < e.wt := by
  have := wts_mem h
  have := (wOp_le e.op).1
  rw [wt_eq e]
  omega
@[simp] theorem wt_con (n : Int) : (eCon n).wt = 1 := rfl
theorem wt_two (op : Int) (a b : Ex) : (eTwo op a b).wt = wOp op + a.wt + b.wt := by simp [eTwo, Ex.wt, wts]; omega
theorem wt_one (op : Int) (a : Ex) : (eOne op a).wt = wOp op + a.wt := by simp [eOne, Ex.wt, wts]
/-- An expression rewritten, with so much fuel; has anything been replaced? -/
def rwF : Nat → Ex → Ex × Bool
  | 0, e => (e, false)
  | k + 1, e =>
    let e' : Ex := .mk e.op e.n e.v e.wd (e.l.map fun x => (rwF k x).1)
    match firstS e' 0 10 with
    | some (_, x) => ((rwF k x).1, true)
    | none => (e', e.l.any fun x => (rwF k x).2)
end Go.Proofs.YtjgeicfbgpcopaaDoor
