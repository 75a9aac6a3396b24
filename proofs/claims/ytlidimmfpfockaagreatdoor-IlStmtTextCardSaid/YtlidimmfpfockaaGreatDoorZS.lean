/- Texts that the claim leans on, laid one behind the other: Na, Nb, Nc, Nd, Ne, Nf, Ng, Nh, Ni, Nj, Nk. -/
import Derived.Test.YtlidimmfpfockaaGreatDoorZG
import Derived.Test.YtlidimmfpfockaaGreatDoorZK
import Derived.Test.YtlidimmfpfockaaGreatDoorZH
import Derived.Test.YtlidimmfpfockaaGreatDoorAo
import Derived.Test.YtlidimmfpfockaaGreatDoorZB
set_option linter.unusedSimpArgs false
set_option linter.unusedVariables false
set_option linter.unnecessarySimpa false
/- The simplification as plain functions on expression trees; it ends, and what it answers is no greater and stays. No program in sight. -/
namespace Go.Proofs.YtlidimmfpfockaaGreatDoor
open Go.RowKit
/-- No load occurs. -/
def safeB : Ex → Bool
  | .mk o _ _ _ l => !decide (o = 18) && safeL l
where safeL : List Ex → Bool
  | [] => true
  | e :: l => safeB e && safeL l
theorem safeB_eq (e : Ex) : safeB e = (!decide (e.op = 18) && e.l.all safeB) := by
  obtain ⟨o, n, v, w, l⟩ := e
  have : ∀ l : List Ex, safeB.safeL l = l.all safeB := by
    intro l
    induction l with
    | nil => rfl
    | cons a l ih => simp only [safeB.safeL, ih, List.all_cons]
  simp only [safeB, this, Ex.op_mk, Ex.l_mk]
  rfl
/-- Obviously 0 or 1. -/
def boolB (e : Ex) : Bool := decide (12 ≤ e.op ∧ e.op ≤ 16) || isB e 0 || isB e 1
/-- The lowest bytes are all ones. -/
def covB (n w : Int) : Bool := decide (w = 1 ∧ n % 256 = 255 ∨ w = 2 ∧ n % 65536 = 65535)
/-- The value of an operator whose operands are constants. -/
def foldV (e : Ex) : Int :=
  if e.op = 16 then (if e.x.n = 0 then 1 else 0) else if e.op = 17 then (-e.x.n) % 4294967296 else if e.op = 19 then rEx e.x.n e.wd else apR e.op e.x.n e.y.n
/-- Rule 1. -/
def sFold (e : Ex) : Option Ex := if e.op = 18 ∨ e.l = [] ∨ (e.l.all fun x => decide (x.op = 1)) = false then none else some (eCon (foldV e))
/-- Rules 2 to 6. -/
def sEarly (op : Int) (x y : Ex) : Option Ex :=
  if (comB op = true ∨ op = 12 ∨ op = 13) ∧ x.op = 1 ∧ y.op ≠ 1 then some (eTwo op y x)
  else if op = 4 ∧ y.op = 1 then some (eTwo 3 x (eCon ((-y.n) % 4294967296)))
  else if y.op = 1 ∧ ((op = 3 ∨ op = 7 ∨ op = 8) ∧ y.n = 0 ∨ op = 5 ∧ y.n = 1 ∨ op = 6 ∧ y.n = all32 ∨ (op = 9 ∨ op = 10 ∨ op = 11) ∧ y.n % 32 = 0) then some x
  else if (op = 5 ∨ op = 6) ∧ isB y 0 = true ∧ safeB x = true then some (eCon 0)
  else if (op = 9 ∨ op = 10 ∨ op = 11) ∧ isB x 0 = true ∧ safeB y = true then some (eCon 0)
  else if op = 7 ∧ isB y all32 = true ∧ safeB x = true then some (eCon all32)
  else if y.op = 1 ∧ comB op = true ∧ x.op = op ∧ x.y.op = 1 then some (eTwo op x.x (eCon (apR op x.y.n y.n))) else none
/-- Rule 7, for two operands. -/
def sSign (op : Int) (x y : Ex) : Option Ex :=
  if op = 4 ∧ isB x 0 = true then some (eOne 17 y) else if op = 3 ∧ y.op = 17 then some (eTwo 4 x y.x)
  else if op = 3 ∧ x.op = 17 then some (eTwo 4 y x.x) else if op = 4 ∧ y.op = 17 then some (eTwo 3 x y.x) else none
/-- Rule 8. -/
def sSame (op : Int) (x y : Ex) : Option Ex :=
  if sameB x y = false then none else if op = 6 ∨ op = 7 then some x else if safeB x = false then none
  else if op = 4 ∨ op = 8 ∨ op = 13 ∨ op = 14 ∨ op = 15 then some (eCon 0) else if op = 12 then some (eCon 1) else none
/-- Rule 9. -/
def sTruth (op : Int) (x y : Ex) : Option Ex :=
  if op = 12 ∧ isB y 0 = true then some (eOne 16 x) else if boolB x = false then none
  else if op = 13 ∧ isB y 0 = true ∨ op = 12 ∧ isB y 1 = true then some x else if op = 13 ∧ isB y 1 = true then some (eOne 16 x) else none
/-- Rule 11. -/
def sMove (op : Int) (x y : Ex) : Option Ex :=
  if op = 13 ∧ isB y 0 = true ∧ (x.op = 4 ∨ x.op = 8) then some (eTwo 13 x.x x.y)
  else if (op = 12 ∨ op = 13) ∧ y.op = 1 ∧ x.op = 3 ∧ x.y.op = 1 then some (eTwo op x.x (eCon ((y.n - x.y.n) % 4294967296)))
  else if (op = 12 ∨ op = 13) ∧ y.op = 1 ∧ x.op = 8 ∧ x.y.op = 1 then some (eTwo op x.x (eCon (xorI .u32 x.y.n y.n))) else none
/-- Rule 12. -/
def sBelow (op : Int) (x y : Ex) : Option Ex :=
  if op = 15 ∧ isB x 0 = true then some (eTwo 13 y (eCon 0)) else if op = 15 ∧ isB y 1 = true then some (eOne 16 x)
  else if op = 15 ∧ isB y 0 = true ∧ safeB x = true then some (eCon 0) else none
/-- Rule 13, for &. -/
def sMask (op : Int) (x y : Ex) : Option Ex := if op = 6 ∧ x.op = 18 ∧ y.op = 1 ∧ covB y.n x.wd = true then some x else none
/-- An operator with two operands. -/
def sTwo (op : Int) (x y : Ex) : Option Ex :=
  ((((((sEarly op x y).or (sSign op x y)).or (sSame op x y)).or (sTruth op x y)).or (sMove op x y)).or (sBelow op x y)).or (sMask op x y)
/-- Rule 10. -/
def sNot (x : Ex) : Option Ex :=
  if x.op = 12 then some (eTwo 13 x.x x.y) else if x.op = 13 ∨ x.op = 4 ∨ x.op = 8 then some (eTwo 12 x.x x.y)
  else if x.op = 16 then (if boolB x.x = true then some x.x else some (eTwo 13 x.x (eCon 0)))
  else if x.op = 3 ∧ x.y.op = 1 then some (eTwo 12 x.x (eCon ((-x.y.n) % 4294967296))) else none
/-- Rule 7, for -. -/
def sNeg (x : Ex) : Option Ex := if x.op = 17 then some x.x else if x.op = 4 then some (eTwo 4 x.y x.x) else none
/-- Rule 13, for sext. -/
def sExt (w : Int) (x : Ex) : Option Ex :=
  if x.op = 6 ∧ x.y.op = 1 ∧ covB x.y.n w = true then some (.mk 19 0 0 w [x.x]) else if x.op = 19 then some (.mk 19 0 0 (min w x.wd) [x.x]) else none
/-- The first rule that applies. -/
def sRest (e : Ex) : Option Ex :=
  if e.op = 16 then sNot e.x else if e.op = 17 then sNeg e.x else if e.op = 19 then sExt e.wd e.x else if 3 ≤ e.op ∧ e.op ≤ 15 then sTwo e.op e.x e.y else none
def sRule (e : Ex) : Option Ex := (sFold e).or (sRest e)
/-- Simplified, with so much fuel. -/
def simpF : Nat → Ex → Ex
  | 0, e => e
  | k + 1, e => match sRule (.mk e.op e.n e.v e.wd (e.l.map (simpF k))) with
    | some r => simpF k r
    | none => .mk e.op e.n e.v e.wd (e.l.map (simpF k))
/-! ### it ends -/
def lcW : List Ex → Nat
  | [a, b] => if a.op = 1 ∧ b.op ≠ 1 then 1 else 0
  | _ => 0
/-- The weight of an expression, for the rules. -/
def sw : Ex → Nat
  | .mk o _ _ _ l => 4 + (if o = 4 ∨ o = 16 then 1 else 0) + lcW l + sws l
where sws : List Ex → Nat
  | [] => 0
  | e :: l => sw e + sws l
theorem sw_con (n : Int) : sw (eCon n) = 4 := rfl
theorem sw_two (op : Int) (a b : Ex) : sw (eTwo op a b) = 4 + (if op = 4 ∨ op = 16 then 1 else 0) + (if a.op = 1 ∧ b.op ≠ 1 then 1 else 0) + sw a + sw b := by
  simp only [eTwo, sw, lcW, sw.sws]; omega
theorem sw_one (op w : Int) (a : Ex) : sw (.mk op 0 0 w [a]) = 4 + (if op = 4 ∨ op = 16 then 1 else 0) + sw a := by
  simp only [sw, lcW, sw.sws]; omega
theorem sw_pos (e : Ex) : 4 ≤ sw e := by obtain ⟨o, n, v, w, l⟩ := e; simp only [sw]; omega
/-- A replacement: well-formed, lighter, no greater. -/
structure SLess (x e : Ex) : Prop where
  form : formB x = true
  sw : sw x < sw e
  nodes : x.nodes ≤ e.nodes
  depth : x.depth ≤ e.depth
theorem nodes_one' (op w : Int) (a : Ex) : (Ex.mk op 0 0 w [a]).nodes = a.nodes + 1 := by simp [Ex.nodes, Ex.nodess]
theorem depth_one' (op w : Int) (a : Ex) : (Ex.mk op 0 0 w [a]).depth = a.depth + 1 := by simp [Ex.depth, Ex.depths]
theorem form_con' {e : Ex} (h : formB e = true) (ho : e.op = 1) : e = eCon e.n ∧ sw e = 4 ∧ e.nodes = 1 ∧ e.depth = 1 := by
  have := form_con h ho
  refine ⟨this, ?_, ?_, ?_⟩ <;> rw [this] <;> rfl
theorem form_two3 {e : Ex} (h : formB e = true) (h3 : 3 ≤ e.op) (h15 : e.op ≤ 15) : formB e.x = true ∧ formB e.y = true ∧
    sw e = 4 + (if e.op = 4 ∨ e.op = 16 then 1 else 0) + (if e.x.op = 1 ∧ e.y.op ≠ 1 then 1 else 0) + sw e.x + sw e.y ∧ e.nodes = e.x.nodes + e.y.nodes + 1 ∧ e.depth = max e.x.depth e.y.depth + 1 := by
  obtain ⟨he, hx, hy⟩ := two_parts h h3 h15
  refine ⟨hx, hy, ?_, ?_, ?_⟩
  · have := congrArg sw he
    rwa [sw_two] at this
  · have := congrArg Ex.nodes he
    rwa [nodes_two] at this
  · have := congrArg Ex.depth he
    rwa [depth_two] at this
/-- An operator with one operand. -/
theorem form_one3 {e : Ex} (h : formB e = true) (h3 : 16 ≤ e.op) : e = .mk e.op 0 0 e.wd [e.x] ∧ formB e.x = true ∧ sw e = 4 + (if e.op = 4 ∨ e.op = 16 then 1 else 0) + sw e.x ∧ e.nodes = e.x.nodes + 1 ∧ e.depth = e.x.depth + 1 := by
  have hop := form_op h
  have hone : ∃ a, e = .mk e.op 0 0 e.wd [a] ∧ formB a = true := by
    rcases (show e.op = 16 ∨ e.op = 17 ∨ e.op = 18 ∨ e.op = 19 by omega) with ho | ho | ho | ho
    · obtain ⟨a, he, ha⟩ := form_one h (.inl ho)
      exact ⟨a, by conv => lhs; rw [he]
                   rw [he]; rfl, ha⟩
    · obtain ⟨a, he, ha⟩ := form_one h (.inr ho)
      exact ⟨a, by conv => lhs; rw [he]
                   rw [he]; rfl, ha⟩
    · obtain ⟨a, he, ha, _⟩ := form_wide h (.inl ho); exact ⟨a, he, ha⟩
    · obtain ⟨a, he, ha, _⟩ := form_wide h (.inr ho); exact ⟨a, he, ha⟩
  obtain ⟨a, he, ha⟩ := hone
  have hx : e.x = a := by rw [he]; rfl
  rw [hx]
  refine ⟨he, ha, ?_, ?_, ?_⟩
  · have := congrArg sw he
    rwa [sw_one] at this
  · have := congrArg Ex.nodes he
    rwa [nodes_one'] at this
  · have := congrArg Ex.depth he
    rwa [depth_one'] at this
end Go.Proofs.YtlidimmfpfockaaGreatDoor

/- The simplification ends: every rule's replacement is well-formed, lighter and no greater; what is simplified stays. No program in sight. -/
namespace Go.Proofs.YtlidimmfpfockaaGreatDoor
open Go.RowKit
set_option linter.unusedSectionVars false

section
variable {op : Int} {x y r : Ex} (h3 : 3 ≤ op) (h15 : op ≤ 15) (hx : formB x = true) (hy : formB y = true)
include h3 h15 hx hy
theorem searly_less (hc : ¬ (x.op = 1 ∧ y.op = 1)) (h : sEarly op x y = some r) : SLess r (eTwo op x y) := by
  have nx := Ex.nodes_pos x
  have dx := depth_pos x
  have ny := Ex.nodes_pos y
  have dy := depth_pos y
  have wx := sw_pos x
  have wy := sw_pos y
  unfold sEarly at h
  split at h
  · rename_i c
    simp only [Option.some.injEq] at h
    subst h
    refine ⟨form_eTwo h3 h15 hy hx, ?_, by rw [nodes_two, nodes_two]; omega, by rw [depth_two, depth_two]; omega⟩
    rw [sw_two, sw_two]
    (repeat' split) <;> omega
  split at h
  · rename_i c
    simp only [Option.some.injEq] at h
    subst h
    obtain ⟨_, y1, y2, y3⟩ := form_con' hy c.2
    refine ⟨form_eTwo (by omega) (by omega) hx (form_eCon _), ?_, by rw [nodes_two, nodes_two, nodes_con]; omega, by rw [depth_two, depth_two, depth_con]; omega⟩
    rw [sw_two, sw_two, sw_con, y1]
    simp only [eCon_op, ne_eq, not_true_eq_false, and_false, ↓reduceIte]
    (repeat' split) <;> omega
  split at h
  · rename_i c
    simp only [Option.some.injEq] at h
    subst h
    refine ⟨hx, ?_, by rw [nodes_two]; omega, by rw [depth_two]; omega⟩
    rw [sw_two]
    (repeat' split) <;> omega
  split at h
  · simp only [Option.some.injEq] at h
    subst h
    refine ⟨form_eCon _, ?_, by rw [nodes_two, nodes_con]; omega, by rw [depth_two, depth_con]; omega⟩
    rw [sw_two, sw_con]
    (repeat' split) <;> omega
  split at h
  · simp only [Option.some.injEq] at h
    subst h
    refine ⟨form_eCon _, ?_, by rw [nodes_two, nodes_con]; omega, by rw [depth_two, depth_con]; omega⟩
    rw [sw_two, sw_con]
    (repeat' split) <;> omega
  split at h
  · simp only [Option.some.injEq] at h
    subst h
    refine ⟨form_eCon _, ?_, by rw [nodes_two, nodes_con]; omega, by rw [depth_two, depth_con]; omega⟩
    rw [sw_two, sw_con]
    (repeat' split) <;> omega
  split at h
  · rename_i c
    simp only [Option.some.injEq] at h
    subst h
    obtain ⟨f1, f2, q1, q2, q3⟩ := form_two3 hx (by omega) (by omega)
    obtain ⟨_, y1, y2, y3⟩ := form_con' hy c.1
    obtain ⟨_, z1, z2, z3⟩ := form_con' f2 c.2.2.2
    have d1 := depth_pos x.x
    refine ⟨form_eTwo h3 h15 f1 (form_eCon _), ?_, by rw [nodes_two, nodes_two, nodes_con]; omega, by rw [depth_two, depth_two, depth_con]; omega⟩
    rw [sw_two, sw_two, sw_con, y1, q1, z1]
    simp only [eCon_op, ne_eq, not_true_eq_false, and_false, ↓reduceIte]
    (repeat' split) <;> omega
  · cases h
theorem ssign_less (h : sSign op x y = some r) : SLess r (eTwo op x y) := by
  have nx := Ex.nodes_pos x
  have dx := depth_pos x
  have ny := Ex.nodes_pos y
  have dy := depth_pos y
  have wx := sw_pos x
  have wy := sw_pos y
  unfold sSign at h
  split at h
  · rename_i c
    simp only [Option.some.injEq] at h
    subst h
    refine ⟨form_eOne (.inr rfl) hy, ?_, by rw [nodes_two, nodes_one]; omega, by rw [depth_two, depth_one]; omega⟩
    rw [sw_two, show eOne 17 y = .mk 17 0 0 0 [y] from rfl, sw_one]
    (repeat' split) <;> omega
  split at h
  · rename_i c
    simp only [Option.some.injEq] at h
    subst h
    obtain ⟨_, f1, q1, q2, q3⟩ := form_one3 hy (by omega)
    refine ⟨form_eTwo (by omega) (by omega) hx f1, ?_, by rw [nodes_two, nodes_two]; omega, by rw [depth_two, depth_two]; omega⟩
    rw [sw_two, sw_two, q1]
    (repeat' split) <;> omega
  split at h
  · rename_i c
    simp only [Option.some.injEq] at h
    subst h
    obtain ⟨_, f1, q1, q2, q3⟩ := form_one3 hx (by omega)
    refine ⟨form_eTwo (by omega) (by omega) hy f1, ?_, by rw [nodes_two, nodes_two]; omega, by rw [depth_two, depth_two]; omega⟩
    rw [sw_two, sw_two, q1]
    (repeat' split) <;> omega
  split at h
  · rename_i c
    simp only [Option.some.injEq] at h
    subst h
    obtain ⟨_, f1, q1, q2, q3⟩ := form_one3 hy (by omega)
    refine ⟨form_eTwo (by omega) (by omega) hx f1, ?_, by rw [nodes_two, nodes_two]; omega, by rw [depth_two, depth_two]; omega⟩
    rw [sw_two, sw_two, q1]
    (repeat' split) <;> omega
  · cases h
theorem ssame_less (h : sSame op x y = some r) : SLess r (eTwo op x y) := by
  have nx := Ex.nodes_pos x
  have dx := depth_pos x
  have ny := Ex.nodes_pos y
  have dy := depth_pos y
  have wx := sw_pos x
  have wy := sw_pos y
  have hcon : ∀ n : Int, SLess (eCon n) (eTwo op x y) := fun n => by
    refine ⟨form_eCon _, ?_, by rw [nodes_two, nodes_con]; omega, by rw [depth_two, depth_con]; omega⟩
    rw [sw_two, sw_con]
    (repeat' split) <;> omega
  unfold sSame at h
  split at h
  · cases h
  split at h
  · simp only [Option.some.injEq] at h
    subst h
    refine ⟨hx, ?_, by rw [nodes_two]; omega, by rw [depth_two]; omega⟩
    rw [sw_two]
    (repeat' split) <;> omega
  split at h
  · cases h
  split at h
  · simp only [Option.some.injEq] at h
    subst h
    exact hcon _
  split at h
  · simp only [Option.some.injEq] at h
    subst h
    exact hcon _
  · cases h
theorem struth_less (h : sTruth op x y = some r) : SLess r (eTwo op x y) := by
  have nx := Ex.nodes_pos x
  have dx := depth_pos x
  have ny := Ex.nodes_pos y
  have dy := depth_pos y
  have wx := sw_pos x
  have wy := sw_pos y
  have hnot : SLess (eOne 16 x) (eTwo op x y) := by
    refine ⟨form_eOne (.inl rfl) hx, ?_, by rw [nodes_two, nodes_one]; omega, by rw [depth_two, depth_one]; omega⟩
    rw [sw_two, show eOne 16 x = .mk 16 0 0 0 [x] from rfl, sw_one]
    (repeat' split) <;> omega
  unfold sTruth at h
  split at h
  · simp only [Option.some.injEq] at h
    subst h
    exact hnot
  split at h
  · cases h
  split at h
  · simp only [Option.some.injEq] at h
    subst h
    refine ⟨hx, ?_, by rw [nodes_two]; omega, by rw [depth_two]; omega⟩
    rw [sw_two]
    (repeat' split) <;> omega
  split at h
  · simp only [Option.some.injEq] at h
    subst h
    exact hnot
  · cases h
theorem smove_less (h : sMove op x y = some r) : SLess r (eTwo op x y) := by
  have ny := Ex.nodes_pos y
  have dy := depth_pos y
  have wy := sw_pos y
  have hcon : ∀ (op' n : Int), (op = 12 ∨ op = 13) ∧ y.op = 1 ∧ x.op = op' ∧ x.y.op = 1 → (op' = 3 ∨ op' = 8) → SLess (eTwo op x.x (eCon n)) (eTwo op x y) := fun op' n c c2 => by
    obtain ⟨f1, f2, q1, q2, q3⟩ := form_two3 hx (by omega) (by omega)
    obtain ⟨_, y1, y2, y3⟩ := form_con' hy c.2.1
    obtain ⟨_, z1, z2, z3⟩ := form_con' f2 c.2.2.2
    have d1 := depth_pos x.x
    refine ⟨form_eTwo h3 h15 f1 (form_eCon _), ?_, by rw [nodes_two, nodes_two, nodes_con]; omega, by rw [depth_two, depth_two, depth_con]; omega⟩
    rw [sw_two, sw_two, sw_con, y1, q1, z1]
    simp only [eCon_op, ne_eq, not_true_eq_false, and_false, ↓reduceIte]
    (repeat' split) <;> omega
  unfold sMove at h
  split at h
  · rename_i c
    simp only [Option.some.injEq] at h
    subst h
    obtain ⟨f1, f2, q1, q2, q3⟩ := form_two3 hx (by omega) (by omega)
    refine ⟨form_eTwo (by omega) (by omega) f1 f2, ?_, by rw [nodes_two, nodes_two]; omega, by rw [depth_two, depth_two]; omega⟩
    rw [sw_two, sw_two, q1]
    (repeat' split) <;> omega
  split at h
  · rename_i c
    simp only [Option.some.injEq] at h
    subst h
    exact hcon 3 _ c (.inl rfl)
  split at h
  · rename_i c
    simp only [Option.some.injEq] at h
    subst h
    exact hcon 8 _ c (.inr rfl)
  · cases h
theorem sbelow_less (hc : ¬ (x.op = 1 ∧ y.op = 1)) (h : sBelow op x y = some r) : SLess r (eTwo op x y) := by
  have nx := Ex.nodes_pos x
  have dx := depth_pos x
  have ny := Ex.nodes_pos y
  have dy := depth_pos y
  have wx := sw_pos x
  have wy := sw_pos y
  unfold sBelow at h
  split at h
  · rename_i c
    rw [isB_iff] at c
    simp only [Option.some.injEq] at h
    subst h
    obtain ⟨_, x1, x2, x3⟩ := form_con' hx c.2.1
    refine ⟨form_eTwo (by omega) (by omega) hy (form_eCon _), ?_, by rw [nodes_two, nodes_two, nodes_con]; omega, by rw [depth_two, depth_two, depth_con]; omega⟩
    rw [sw_two, sw_two, sw_con, x1]
    simp only [eCon_op, ne_eq, not_true_eq_false, and_false, ↓reduceIte]
    (repeat' split) <;> omega
  split at h
  · simp only [Option.some.injEq] at h
    subst h
    refine ⟨form_eOne (.inl rfl) hx, ?_, by rw [nodes_two, nodes_one]; omega, by rw [depth_two, depth_one]; omega⟩
    rw [sw_two, show eOne 16 x = .mk 16 0 0 0 [x] from rfl, sw_one]
    (repeat' split) <;> omega
  split at h
  · simp only [Option.some.injEq] at h
    subst h
    refine ⟨form_eCon _, ?_, by rw [nodes_two, nodes_con]; omega, by rw [depth_two, depth_con]; omega⟩
    rw [sw_two, sw_con]
    (repeat' split) <;> omega
  · cases h
theorem smask_less (h : sMask op x y = some r) : SLess r (eTwo op x y) := by
  have ny := Ex.nodes_pos y
  have dy := depth_pos y
  have wy := sw_pos y
  unfold sMask at h
  split at h
  · simp only [Option.some.injEq] at h
    subst h
    refine ⟨hx, ?_, by rw [nodes_two]; omega, by rw [depth_two]; omega⟩
    rw [sw_two]
    (repeat' split) <;> omega
  · cases h
theorem stwo_less (hc : ¬ (x.op = 1 ∧ y.op = 1)) (h : sTwo op x y = some r) : SLess r (eTwo op x y) := by
  unfold sTwo at h
  simp only [Option.or_eq_some_iff, Option.or_eq_none_iff] at h
  rcases h with (((((h | h) | h) | h) | h) | h) | h
  · exact searly_less h3 h15 hx hy hc h
  · exact ssign_less h3 h15 hx hy h.2
  · exact ssame_less h3 h15 hx hy h.2
  · exact struth_less h3 h15 hx hy h.2
  · exact smove_less h3 h15 hx hy h.2
  · exact sbelow_less h3 h15 hx hy hc h.2
  · exact smask_less h3 h15 hx hy h.2
end
theorem snot_less {x r : Ex} (hx : formB x = true) (h : sNot x = some r) : SLess r (eOne 16 x) := by
  have hw : sw (eOne 16 x) = 5 + sw x := by rw [show eOne 16 x = .mk 16 0 0 0 [x] from rfl, sw_one]; simp
  unfold sNot at h
  split at h
  · rename_i c
    simp only [Option.some.injEq] at h
    subst h
    obtain ⟨f1, f2, q1, q2, q3⟩ := form_two3 hx (by omega) (by omega)
    refine ⟨form_eTwo (by omega) (by omega) f1 f2, ?_, by rw [nodes_two, nodes_one]; omega, by rw [depth_two, depth_one]; omega⟩
    rw [sw_two, hw, q1]
    (repeat' split) <;> omega
  split at h
  · rename_i c
    simp only [Option.some.injEq] at h
    subst h
    obtain ⟨f1, f2, q1, q2, q3⟩ := form_two3 hx (by omega) (by omega)
    refine ⟨form_eTwo (by omega) (by omega) f1 f2, ?_, by rw [nodes_two, nodes_one]; omega, by rw [depth_two, depth_one]; omega⟩
    rw [sw_two, hw, q1]
    (repeat' split) <;> omega
  split at h
  · rename_i c
    obtain ⟨_, f1, q1, q2, q3⟩ := form_one3 hx (by omega)
    split at h
    · simp only [Option.some.injEq] at h
      subst h
      refine ⟨f1, ?_, by rw [nodes_one]; omega, by rw [depth_one]; omega⟩
      rw [hw, q1]
      (repeat' split) <;> omega
    · simp only [Option.some.injEq] at h
      subst h
      have d1 := depth_pos x.x
      refine ⟨form_eTwo (by omega) (by omega) f1 (form_eCon _), ?_, by rw [nodes_two, nodes_one, nodes_con]; omega, by rw [depth_two, depth_one, depth_con]; omega⟩
      rw [sw_two, hw, sw_con, q1]
      simp only [eCon_op, ne_eq, not_true_eq_false, and_false, ↓reduceIte]
      (repeat' split) <;> omega
  split at h
  · rename_i c
    simp only [Option.some.injEq] at h
    subst h
    obtain ⟨f1, f2, q1, q2, q3⟩ := form_two3 hx (by omega) (by omega)
    obtain ⟨_, z1, z2, z3⟩ := form_con' f2 c.2
    have d1 := depth_pos x.x
    refine ⟨form_eTwo (by omega) (by omega) f1 (form_eCon _), ?_, by rw [nodes_two, nodes_one, nodes_con]; omega, by rw [depth_two, depth_one, depth_con]; omega⟩
    rw [sw_two, hw, sw_con, q1, z1]
    simp only [eCon_op, ne_eq, not_true_eq_false, and_false, ↓reduceIte]
    (repeat' split) <;> omega
  · cases h
theorem sneg_less {x r : Ex} (hx : formB x = true) (h : sNeg x = some r) : SLess r (eOne 17 x) := by
  have hw : sw (eOne 17 x) = 4 + sw x := by rw [show eOne 17 x = .mk 17 0 0 0 [x] from rfl, sw_one]; simp
  unfold sNeg at h
  split at h
  · rename_i c
    simp only [Option.some.injEq] at h
    subst h
    obtain ⟨_, f1, q1, q2, q3⟩ := form_one3 hx (by omega)
    refine ⟨f1, ?_, by rw [nodes_one]; omega, by rw [depth_one]; omega⟩
    rw [hw, q1]
    (repeat' split) <;> omega
  split at h
  · rename_i c
    simp only [Option.some.injEq] at h
    subst h
    obtain ⟨f1, f2, q1, q2, q3⟩ := form_two3 hx (by omega) (by omega)
    refine ⟨form_eTwo (by omega) (by omega) f2 f1, ?_, by rw [nodes_two, nodes_one]; omega, by rw [depth_two, depth_one]; omega⟩
    rw [sw_two, hw, q1]
    (repeat' split) <;> omega
  · cases h
theorem sext_less {x r : Ex} {w : Int} (hx : formB x = true) (hw : w = 1 ∨ w = 2) (h : sExt w x = some r) : SLess r (.mk 19 0 0 w [x]) := by
  unfold sExt at h
  split at h
  · rename_i c
    simp only [Option.some.injEq] at h
    subst h
    obtain ⟨f1, f2, q1, q2, q3⟩ := form_two3 hx (by omega) (by omega)
    refine ⟨form_sext hw f1, ?_, by rw [nodes_one', nodes_one']; omega, by rw [depth_one', depth_one']; omega⟩
    rw [sw_one, sw_one, q1]
    (repeat' split) <;> omega
  split at h
  · rename_i c
    simp only [Option.some.injEq] at h
    subst h
    obtain ⟨_, f1, q1, q2, q3⟩ := form_one3 hx (by omega)
    obtain ⟨_, _, _, hw2⟩ := form_wide hx (.inr c)
    refine ⟨form_sext (by omega) f1, ?_, by rw [nodes_one', nodes_one']; omega, by rw [depth_one', depth_one']; omega⟩
    rw [sw_one, sw_one, q1]
    (repeat' split) <;> omega
  · cases h
theorem e_one {e : Ex} (h : formB e = true) (ho : e.op = 16 ∨ e.op = 17) : e = eOne e.op e.x := (one_part h ho).1
theorem srule_less {e r : Ex} (hf : formB e = true) (h : sRule e = some r) : SLess r e := by
  have hop := form_op hf
  unfold sRule at h
  rw [Option.or_eq_some_iff] at h
  rcases h with h | ⟨h0, h⟩
  · unfold sFold at h
    split at h
    · cases h
    rename_i c
    simp only [Option.some.injEq] at h
    subst h
    have hne : e.op ≠ 1 ∧ e.op ≠ 2 := by
      constructor
      · intro h1
        exact c (.inr (.inl (by rw [form_con hf h1]; rfl)))
      · intro h1
        exact c (.inr (.inl (by rw [(form_var hf h1).1]; rfl)))
    by_cases h15 : e.op ≤ 15
    · obtain ⟨f1, f2, q1, q2, q3⟩ := form_two3 hf (by omega) h15
      have := sw_pos e.x
      have := sw_pos e.y
      exact ⟨form_eCon _, by rw [sw_con]; omega, by rw [nodes_con]; omega, by rw [depth_con]; omega⟩
    · obtain ⟨_, f1, q1, q2, q3⟩ := form_one3 hf (by omega)
      have := sw_pos e.x
      exact ⟨form_eCon _, by rw [sw_con]; omega, by rw [nodes_con]; omega, by rw [depth_con]; omega⟩
  · unfold sRest at h
    split at h
    · rename_i c
      have he := e_one hf (.inl c)
      have := snot_less (form_one3 hf (by omega)).2.1 h
      rw [c] at he
      rwa [← he] at this
    split at h
    · rename_i c
      have he := e_one hf (.inr c)
      have := sneg_less (form_one3 hf (by omega)).2.1 h
      rw [c] at he
      rwa [← he] at this
    split at h
    · rename_i c
      obtain ⟨he, f1, _⟩ := form_one3 hf (by omega)
      obtain ⟨_, _, _, hw2⟩ := form_wide hf (.inr c)
      have := sext_less f1 (by omega) h
      rw [c] at he
      rwa [← he] at this
    split at h
    · rename_i c
      obtain ⟨he, f1, f2⟩ := two_parts hf c.1 c.2
      have hcc : ¬ (e.x.op = 1 ∧ e.y.op = 1) := fun hcc => by
        unfold sFold at h0
        split at h0
        · rename_i c2
          rcases c2 with c2 | c2 | c2
          · omega
          · rw [he] at c2
            simp at c2
          · rw [he] at c2
            simp [hcc.1, hcc.2] at c2
        · cases h0
      have := stwo_less c.1 c.2 f1 f2 hcc h
      rwa [← he] at this
    · cases h
end Go.Proofs.YtlidimmfpfockaaGreatDoor

/- What is simplified is well-formed and no greater; simplified once more it stays. No program in sight. -/
namespace Go.Proofs.YtlidimmfpfockaaGreatDoor
open Go.RowKit
/-- No rule applies, nowhere. -/
inductive Norm : Ex → Prop where
  | mk {e : Ex} : sRule e = none → (∀ x ∈ e.l, Norm x) → Norm e
theorem sw_mem {e x : Ex} (h : x ∈ e.l) : sw x < sw e := by
  obtain ⟨o, n, v, w, l⟩ := e
  have : sw x ≤ sw.sws l := by
    simp only [Ex.l_mk] at h
    induction l with
    | nil => cases h
    | cons a l ih =>
      simp only [sw.sws]
      rcases List.mem_cons.1 h with rfl | h
      · omega
      · have := ih h
        omega
  simp only [sw]
  omega
/-- Simplified: well-formed, no greater, normal. -/
structure SOk (x e : Ex) : Prop where
  form : formB x = true
  sw : sw x ≤ sw e
  nodes : x.nodes ≤ e.nodes
  depth : x.depth ≤ e.depth
  con : e.op = 1 → x = e
  ncon : x.op = 1 → e.op = 1 ∨ 8 ≤ Go.Proofs.YtlidimmfpfockaaGreatDoor.sw e
  norm : Norm x
theorem rule_con {e : Ex} (h : formB e = true) (ho : e.op = 1) : sRule e = none := by
  rw [form_con h ho]
  simp [sRule, sFold, sRest, eCon]
theorem rule_op {e r : Ex} (hf : formB e = true) (h : sRule e = some r) : 3 ≤ e.op := by
  have hop := form_op hf
  by_cases h1 : e.op = 1
  · rw [rule_con hf h1] at h
    cases h
  by_cases h2 : e.op = 2
  · rw [(form_var hf h2).1] at h
    simp [sRule, sFold, sRest, eVar] at h
  omega
theorem sw_map {f : Ex → Ex} {e : Ex} (hf : formB e = true) (h : ∀ x ∈ e.l, sw (f x) ≤ sw x ∧ formB (f x) = true ∧ (x.op = 1 → f x = x) ∧ ((f x).op = 1 → x.op = 1 ∨ 8 ≤ sw x)) : sw (.mk e.op e.n e.v e.wd (e.l.map f)) ≤ sw e := by
  have hop := form_op hf
  by_cases h1 : e.op = 1
  · rw [form_con hf h1]
    exact Nat.le_refl _
  by_cases h2 : e.op = 2
  · rw [(form_var hf h2).1]
    exact Nat.le_refl _
  by_cases h15 : e.op ≤ 15
  · obtain ⟨a, b, he, ha, hb⟩ := form_two hf (by omega) h15
    obtain ⟨op, ho⟩ : ∃ op, e.op = op := ⟨_, rfl⟩
    rw [ho] at he
    subst he
    obtain ⟨a1, a2, a3, a4⟩ := h a (by simp)
    obtain ⟨b1, b2, b3, b4⟩ := h b (by simp)
    show sw (eTwo op (f a) (f b)) ≤ _
    rw [sw_two, sw_two]
    have q : (if (f a).op = 1 ∧ (f b).op ≠ 1 then 1 else 0) + sw (f a) ≤ (if a.op = 1 ∧ b.op ≠ 1 then 1 else 0) + sw a := by
      by_cases c : a.op = 1
      · rw [a3 c]
        by_cases d : b.op = 1
        · rw [b3 d]
          exact Nat.le_refl _
        · have : (if a.op = 1 ∧ b.op ≠ 1 then 1 else 0) = 1 := if_pos ⟨c, d⟩
          rw [this]
          split <;> omega
      · by_cases c2 : (f a).op = 1
        · have w4 := (form_con' a2 c2).2.1
          rcases a4 c2 with h | h
          · exact absurd h c
          · split <;> split <;> omega
        · rw [if_neg fun h => c2 h.1]
          omega
    omega
  · obtain ⟨he, ha, _⟩ := form_one3 hf (by omega)
    obtain ⟨op, ho⟩ : ∃ op, e.op = op := ⟨_, rfl⟩
    obtain ⟨a, hx⟩ : ∃ a, e.x = a := ⟨_, rfl⟩
    obtain ⟨w, hw⟩ : ∃ w, e.wd = w := ⟨_, rfl⟩
    rw [ho, hx, hw] at he
    subst he
    have := (h a (by simp)).1
    show sw (.mk op 0 0 w [f a]) ≤ _
    rw [sw_one, sw_one]
    omega
theorem simp_ok : ∀ (k : Nat) (e : Ex), formB e = true → sw e ≤ k → SOk (simpF k e) e := by
  intro k
  induction k with
  | zero => intro e _ h; have := sw_pos e; omega
  | succ k ih =>
  intro e hf hw
  have hop := form_op hf
  have hch : ∀ x ∈ e.l, SOk (simpF k x) x := fun x hx => ih x ((form_all hf).2 x hx) (by have := sw_mem hx; omega)
  have f1 : formB (.mk e.op e.n e.v e.wd (e.l.map (simpF k))) = true := form_map (f := simpF k) hf fun x hx => (hch x hx).form
  have f2 := sw_map (f := simpF k) hf fun x hx => ⟨(hch x hx).sw, (hch x hx).form, (hch x hx).con, (hch x hx).ncon⟩
  have f3 : (Ex.mk e.op e.n e.v e.wd (e.l.map (simpF k))).nodes ≤ e.nodes ∧ (Ex.mk e.op e.n e.v e.wd (e.l.map (simpF k))).depth ≤ e.depth := by
    have hl : ∀ l : List Ex, (∀ x ∈ l, SOk (simpF k x) x) → Ex.nodess (l.map (simpF k)) ≤ Ex.nodess l ∧ Ex.depths (l.map (simpF k)) ≤ Ex.depths l := by
      intro l
      induction l with
      | nil => intro _; exact ⟨Nat.le_refl _, Nat.le_refl _⟩
      | cons a l ihl =>
        intro h
        have h1 := h a (by simp)
        have h2 := ihl fun x hx => h x (by simp [hx])
        have := h1.nodes
        have := h1.depth
        simp only [List.map_cons, Ex.nodess, Ex.depths]
        omega
    have := hl e.l hch
    obtain ⟨o, n, v, w, l⟩ := e
    simp only [Ex.nodes, Ex.depth, Ex.op_mk, Ex.n_mk, Ex.v_mk, Ex.wd_mk, Ex.l_mk] at this ⊢
    omega
  have f4 : e.op = 1 → (Ex.mk e.op e.n e.v e.wd (e.l.map (simpF k))) = e := fun h1 => by
    have := form_con hf h1
    rw [this]
    rfl
  have f5 : ∀ x ∈ (Ex.mk e.op e.n e.v e.wd (e.l.map (simpF k))).l, Norm x := fun x hx => by
    simp only [Ex.l_mk, List.mem_map] at hx
    obtain ⟨y, hy, rfl⟩ := hx
    exact (hch y hy).norm
  have hop' : (Ex.mk e.op e.n e.v e.wd (e.l.map (simpF k))).op = e.op := rfl
  obtain ⟨e', he'⟩ : ∃ e', Ex.mk e.op e.n e.v e.wd (e.l.map (simpF k)) = e' := ⟨_, rfl⟩
  have hs : simpF (k + 1) e = match sRule e' with
      | some r => simpF k r
      | none => e' := by rw [← he']; rfl
  rw [he'] at f1 f2 f3 f4 f5 hop'
  rw [hs]
  cases hr : sRule e' with
  | none => exact ⟨f1, f2, f3.1, f3.2, f4, fun h => .inl (by rw [hop'] at h; exact h), .mk hr f5⟩
  | some r =>
    have hl := srule_less f1 hr
    have h3 := rule_op f1 hr
    have hi := ih r hl.form (by have := hl.sw; omega)
    have i1 := hi.sw
    have i2 := hi.nodes
    have i3 := hi.depth
    have l1 := hl.sw
    have l2 := hl.nodes
    have l3 := hl.depth
    refine ⟨hi.form, by simp only; omega, by simp only; omega, by simp only; omega, fun h => by omega, fun _ => .inr ?_, hi.norm⟩
    by_cases h15 : e.op ≤ 15
    · obtain ⟨_, _, q, _⟩ := form_two3 hf (by omega) h15
      have := sw_pos e.x
      omega
    · obtain ⟨_, _, q, _⟩ := form_one3 hf (by omega)
      have := sw_pos e.x
      omega
theorem norm_simp {e : Ex} (h : Norm e) : ∀ k, simpF k e = e := by
  induction h with
  | mk hr hl ih =>
  rename_i e
  intro k
  cases k with
  | zero => rfl
  | succ k =>
    have : e.l.map (simpF k) = e.l := by
      conv => rhs; rw [← List.map_id e.l]
      exact List.map_congr_left fun x hx => ih x hx k
    simp only [simpF, this, Ex.eta, hr]
end Go.Proofs.YtlidimmfpfockaaGreatDoor

/- Arithmetic on 32 bits that the rules of simplification lean on. No program in sight. -/
namespace Go.Proofs.YtlidimmfpfockaaGreatDoor
open Go.RowKit
theorem bv_back (b : BitVec 32) : BitVec.ofInt 32 (b.toNat : Int) = b := by simp
theorem andI_comm (a b : Int) : andI .u32 a b = andI .u32 b a := by rw [andI_eq, andI_eq, BitVec.and_comm]
theorem orI_cm (a b : Int) : orI .u32 a b = orI .u32 b a := by rw [orI_eq, orI_eq, BitVec.or_comm]
theorem andI_assoc (a b c : Int) : andI .u32 (andI .u32 a b) c = andI .u32 a (andI .u32 b c) := by
  rw [andI_eq a b, andI_eq b c, andI_eq, andI_eq, bv_back, bv_back, BitVec.and_assoc]
theorem orI_assoc (a b c : Int) : orI .u32 (orI .u32 a b) c = orI .u32 a (orI .u32 b c) := by
  rw [orI_eq a b, orI_eq b c, orI_eq, orI_eq, bv_back, bv_back, BitVec.or_assoc]
theorem xorI_assoc (a b c : Int) : xorI .u32 (xorI .u32 a b) c = xorI .u32 a (xorI .u32 b c) := by
  rw [xorI_eq a b, xorI_eq b c, xorI_eq, xorI_eq, bv_back, bv_back, BitVec.xor_assoc]
theorem bv_all : BitVec.ofInt 32 4294967295 = BitVec.allOnes 32 := rfl
theorem bv_zero : BitVec.ofInt 32 0 = 0#32 := rfl
theorem andI_all {a : Int} (h : R32 a) : andI .u32 a 4294967295 = a := by rw [andI_eq, bv_all, BitVec.and_allOnes, ofInt_nat h]
theorem andI_zero (a : Int) : andI .u32 a 0 = 0 := by rw [andI_eq, bv_zero, BitVec.and_zero]; rfl
theorem orI_zero {a : Int} (h : R32 a) : orI .u32 a 0 = a := by rw [orI_eq, bv_zero, BitVec.or_zero, ofInt_nat h]
theorem orI_all (a : Int) : orI .u32 a 4294967295 = 4294967295 := by rw [orI_eq, bv_all, BitVec.or_allOnes]; rfl
theorem xorI_zero {a : Int} (h : R32 a) : xorI .u32 a 0 = a := by rw [xorI_eq, bv_zero, BitVec.xor_zero, ofInt_nat h]
theorem xorI_self (a : Int) : xorI .u32 a a = 0 := by rw [xorI_eq, BitVec.xor_self]; rfl
theorem andI_self {a : Int} (h : R32 a) : andI .u32 a a = a := by rw [andI_eq, BitVec.and_self, ofInt_nat h]
theorem orI_self {a : Int} (h : R32 a) : orI .u32 a a = a := by rw [orI_eq, BitVec.or_self, ofInt_nat h]
theorem xorI_r32 (a b : Int) : R32 (xorI .u32 a b) := by rw [xorI_eq]; exact bits_in _
theorem andI_r32 (a b : Int) : R32 (andI .u32 a b) := by rw [andI_eq]; exact bits_in _
theorem xorI_back {a b : Int} (hb : R32 b) : xorI .u32 a (xorI .u32 a b) = b := by rw [← xorI_assoc, xorI_self, xorI_comm, xorI_zero hb]
/-- z ^ c = d just where z = c ^ d. -/
theorem xorI_move {z c d : Int} (hz : R32 z) (hd : R32 d) : xorI .u32 z c = d ↔ z = xorI .u32 c d := by
  constructor
  · rintro rfl
    rw [xorI_comm z c, xorI_back hz]
  · rintro rfl
    rw [xorI_comm (xorI .u32 c d) c, xorI_back hd]
theorem xorI_eq0 {a b : Int} (ha : R32 a) (hb : R32 b) : xorI .u32 a b = 0 ↔ a = b := by
  rw [xorI_move ha r32_0, xorI_zero hb]
theorem and_low {x c : Int} (hx : R32 x) (hc : R32 c) (k : Nat) (hk : k ≤ 31) (h : c % 2 ^ k = 2 ^ k - 1) : andI .u32 x c % 2 ^ k = x % 2 ^ k := by
  rw [← mask_eq (andI_r32 x c) k hk, ← mask_eq hx k hk, andI_assoc]
  have : andI .u32 c (2 ^ k - 1) = 2 ^ k - 1 := by rw [mask_eq hc k hk, h]
  rw [this]
theorem and_low_r32 {x c : Int} (hx : R32 x) (hc : R32 c) (k : Nat) (hk : k ≤ 31) (h : c % 2 ^ k = 2 ^ k - 1) (hlt : x < 2 ^ k) : andI .u32 x c = x := by
  have h1 : x % 2 ^ k = x := Int.emod_eq_of_lt hx.1 hlt
  have h2 : andI .u32 x (2 ^ k - 1) = x := by rw [mask_eq hx k hk, h1]
  have h3 : andI .u32 c (2 ^ k - 1) = 2 ^ k - 1 := by rw [mask_eq hc k hk, h]
  rw [← h2, andI_assoc, andI_comm (2 ^ k - 1) c, h3]
theorem ext_and {x c w : Int} (hx : R32 x) (hc : R32 c) (h : covB c w = true) : rEx (andI .u32 x c) w = rEx x w := by
  simp only [covB, decide_eq_true_eq] at h
  rcases h with ⟨rfl, h⟩ | ⟨rfl, h⟩
  · have := and_low hx hc 8 (by omega) (by simpa using h)
    simp only [rEx, rTr]
    simp at this
    simp [this]
  · have := and_low hx hc 16 (by omega) (by simpa using h)
    simp only [rEx, rTr]
    simp at this
    simp [this]
theorem ext_ext {x v w : Int} (hx : R32 x) (hv : v = 1 ∨ v = 2) (hw : w = 1 ∨ w = 2) : rEx (rEx x v) w = rEx x (min w v) := by
  have h1 := hx.1
  have h2 := hx.2
  rcases hv with rfl | rfl <;> rcases hw with rfl | rfl
  · have : min (1 : Int) 1 = 1 := by omega
    rw [this]
    simp only [rEx, rTr]
    simp
    (repeat' split) <;> omega
  · have : min (2 : Int) 1 = 1 := by omega
    rw [this]
    simp only [rEx, rTr]
    simp
    (repeat' split) <;> omega
  · have : min (1 : Int) 2 = 1 := by omega
    rw [this]
    simp only [rEx, rTr]
    simp
    (repeat' split) <;> omega
  · have : min (2 : Int) 2 = 2 := by omega
    rw [this]
    simp only [rEx, rTr]
    simp
    (repeat' split) <;> omega
theorem sa_32 {c : Int} (h : c % 32 = 0) : sa c = 0 := by unfold sa; omega
theorem sg_us {x : Int} (h : R32 x) : us (sg x) = x := by
  have h1 := h.1
  have h2 := h.2
  unfold us sg
  split <;> split <;> omega
theorem sh_zero {c x : Int} (hx : R32 x) (h : c % 32 = 0) : rShl x c = x ∧ rShr x c = x ∧ rSar x c = x := by
  have h1 := hx.1
  have h2 := hx.2
  simp only [rShl, rShr, rSar, sa_32 h]
  refine ⟨?_, ?_, ?_⟩
  · simp
    omega
  · simp
  · simp [sg_us hx]
theorem zero_sh (y : Int) : rShl 0 y = 0 ∧ rShr 0 y = 0 ∧ rSar 0 y = 0 := by
  simp [rShl, rShr, rSar, sg, us]
theorem ap_comm {op : Int} (h : comB op = true ∨ op = 12 ∨ op = 13) (a b : Int) : apR op a b = apR op b a := by
  have : op = 3 ∨ op = 5 ∨ op = 6 ∨ op = 7 ∨ op = 8 ∨ op = 12 ∨ op = 13 := by
    simp only [comB, Bool.or_eq_true, decide_eq_true_eq] at h
    omega
  rcases this with rfl | rfl | rfl | rfl | rfl | rfl | rfl
  · simp [apR, Int.add_comm]
  · simp [apR, Int.mul_comm]
  · simp [apR, andI_comm a b]
  · simp [apR, orI_cm a b]
  · simp [apR, xorI_comm a b]
  · simp [apR, eq_comm (a := a)]
  · simp [apR, eq_comm (a := a)]
theorem ap_assoc {op : Int} (h : comB op = true) (a b c : Int) : apR op (apR op a b) c = apR op a (apR op b c) := by
  have : op = 3 ∨ op = 5 ∨ op = 6 ∨ op = 7 ∨ op = 8 := by
    simp only [comB, Bool.or_eq_true, decide_eq_true_eq] at h
    omega
  rcases this with rfl | rfl | rfl | rfl | rfl
  · simp [apR]
    omega
  · simp only [apR]
    simp
    rw [Int.mul_emod, Int.emod_emod, ← Int.mul_emod, Int.mul_assoc, Int.mul_emod a (b * c % 4294967296), Int.emod_emod, ← Int.mul_emod]
  · simp [apR, andI_assoc]
  · simp [apR, orI_assoc]
  · simp [apR, xorI_assoc]
end Go.Proofs.YtlidimmfpfockaaGreatDoor

/- Every rule's replacement has the value, or the error, of what it replaces; so has what is simplified. No program in sight. -/
namespace Go.Proofs.YtlidimmfpfockaaGreatDoor
open Go.RowKit
set_option linter.unusedSectionVars false
section
variable {V : List Int} {L : Int → Int → Int × Int} {E : Int}
theorem ev_one' (op w : Int) (a : Ex) : evR V L (.mk op 0 0 w [a]) = if (evR V L a).2 ≠ 0 then (0, (evR V L a).2) else
    if op = 16 then (if (evR V L a).1 = 0 then 1 else 0, 0) else if op = 17 then ((-(evR V L a).1) % 4294967296, 0) else if op = 18 then L (evR V L a).1 w else (rEx (evR V L a).1 w, 0) := rfl
theorem ev_not (a : Ex) : evR V L (eOne 16 a) = if (evR V L a).2 ≠ 0 then (0, (evR V L a).2) else (if (evR V L a).1 = 0 then 1 else 0, 0) := rfl
theorem ev_E (h1 : ∀ a w, (L a w).2 = 0 ∨ (L a w).2 = E) : ∀ e, (evR V L e).2 = 0 ∨ (evR V L e).2 = E := by
  intro e
  induction e using Ex.ind with
  | h e ih =>
  obtain ⟨o, n, v, w, l⟩ := e
  match l, ih with
  | [], _ => simp only [evR]; split <;> simp
  | [a], ih =>
    have := ih a (by simp)
    simp only [evR]
    split
    · exact this
    · split
      · simp
      · split
        · simp
        · split
          · exact h1 _ _
          · simp
  | [a, b], ih =>
    have ha := ih a (by simp)
    have hb := ih b (by simp)
    simp only [evR]
    split
    · exact ha
    · split
      · exact hb
      · simp
  | a :: b :: c :: l, _ => simp [evR]
/-- A value, or the one error. -/
theorem leaf (h : EvOk V L) (h1 : ∀ a w, (L a w).2 = 0 ∨ (L a w).2 = E) (e : Ex) (hf : formB e = true) (hn : OkN e) : (∃ v, R32 v ∧ evR V L e = (v, 0)) ∨ evR V L e = (0, E) := by
  obtain ⟨a, b⟩ := ev_ok V L h e hn hf
  by_cases h0 : (evR V L e).2 = 0
  · left
    exact ⟨_, a, by rw [← h0]⟩
  · right
    rcases ev_E h1 e with h2 | h2
    · exact absurd h2 h0
    · rw [← h2, ← b h0]
theorem ev_safe : ∀ e, safeB e = true → (evR V L e).2 = 0 := by
  intro e
  induction e using Ex.ind with
  | h e ih =>
  intro hs
  rw [safeB_eq] at hs
  simp only [Bool.and_eq_true, Bool.not_eq_true', decide_eq_false_iff_not, List.all_eq_true] at hs
  obtain ⟨h18, hl⟩ := hs
  obtain ⟨o, n, v, w, l⟩ := e
  simp only [Ex.op_mk, Ex.l_mk] at h18 hl ih
  match l, ih, hl with
  | [], _, _ => simp only [evR]; split <;> rfl
  | [a], ih, hl =>
    have := ih a (by simp) (hl a (by simp))
    simp only [evR]
    rw [if_neg (by rw [this]; simp)]
    split
    · rfl
    · split
      · rfl
      · first | rfl | rw [if_neg h18]
  | [a, b], ih, hl =>
    have ha := ih a (by simp) (hl a (by simp))
    have hb := ih b (by simp) (hl b (by simp))
    simp only [evR]
    rw [if_neg (by rw [ha]; simp), if_neg (by rw [hb]; simp)]
  | a :: b :: c :: l, _, _ => simp [evR]
theorem ev_bool {e : Ex} (hf : formB e = true) (hb : boolB e = true) : (evR V L e).1 = 0 ∨ (evR V L e).1 = 1 := by
  simp only [boolB, Bool.or_eq_true, decide_eq_true_eq, isB_iff] at hb
  rcases hb with (hb | hb) | hb
  · by_cases h15 : e.op ≤ 15
    · obtain ⟨a, b, he, _⟩ := form_two hf (by omega) h15
      obtain ⟨op, ho⟩ : ∃ op, e.op = op := ⟨_, rfl⟩
      rw [ho] at he hb h15
      rw [he, ev_two]
      split
      · exact .inl rfl
      · split
        · exact .inl rfl
        · rcases (show op = 12 ∨ op = 13 ∨ op = 14 ∨ op = 15 by omega) with rfl | rfl | rfl | rfl <;> simp only [apR] <;> simp <;> omega
    · obtain ⟨a, he, _⟩ := form_one hf (.inl (by omega))
      rw [show e.op = 16 by omega] at he
      rw [he, ev_not]
      split
      · exact .inl rfl
      · split <;> simp
  · rw [form_con hf hb.1, hb.2]
    exact .inl rfl
  · rw [form_con hf hb.1, hb.2]
    exact .inr rfl
theorem ev_const {e : Ex} (hf : formB e = true) (ho : e.op = 1) : evR V L e = (e.n, 0) := by
  conv => lhs; rw [form_con hf ho]
  rfl
end
section
variable {V : List Int} {L : Int → Int → Int × Int} {E : Int} (h : EvOk V L) (hE : E ≠ 0) (h1 : ∀ a w, (L a w).2 = 0 ∨ (L a w).2 = E)
include h hE h1
section
variable {op : Int} {x y r : Ex} (h3 : 3 ≤ op) (h15 : op ≤ 15) (hx : formB x = true) (hy : formB y = true) (nx : OkN x) (ny : OkN y)
include h3 h15 hx hy nx ny
theorem searly_ev (hr : sEarly op x y = some r) : evR V L r = evR V L (eTwo op x y) ∧ OkN r := by
  have lx := leaf h h1 x hx nx
  have ly := leaf h h1 y hy ny
  unfold sEarly at hr
  split at hr
  · rename_i c
    simp only [Option.some.injEq] at hr
    subst hr
    refine ⟨?_, okN_two ny nx⟩
    have hc := ap_comm c.1
    rw [ev_two, ev_two, ev_const hx c.2.1]
    rcases ly with ⟨b, rb, eb⟩ | eb <;> simp [eb, hE, hc]
  split at hr
  · rename_i c
    obtain ⟨rfl, c⟩ := c
    simp only [Option.some.injEq] at hr
    subst hr
    refine ⟨?_, okN_two nx (okN_con (r32_mod _))⟩
    rw [ev_two, ev_two, ev_con, ev_const hy c]
    rcases lx with ⟨b, rb, eb⟩ | eb <;> simp [eb, hE, apR]
    omega
  split at hr
  · rename_i c
    simp only [Option.some.injEq] at hr
    subst hr
    refine ⟨?_, nx⟩
    rw [ev_two, ev_const hy c.1]
    rcases lx with ⟨b, rb, eb⟩ | eb
    · have hb := rb.1
      have hb2 := rb.2
      rw [eb]
      simp
      rcases c.2 with ⟨rfl | rfl | rfl, d⟩ | ⟨rfl, d⟩ | ⟨rfl, d⟩ | ⟨rfl | rfl | rfl, d⟩
      · simp [apR, d]; omega
      · simp [apR, d, orI_zero rb]
      · simp [apR, d, xorI_zero rb]
      · simp [apR, d]; omega
      · simp [apR, d, andI_all rb]
      · simp [apR, (sh_zero rb d).1]
      · simp [apR, (sh_zero rb d).2.1]
      · simp [apR, (sh_zero rb d).2.2]
    · simp [eb, hE]
  split at hr
  · rename_i c
    rw [isB_iff] at c
    simp only [Option.some.injEq] at hr
    subst hr
    refine ⟨?_, okN_con r32_0⟩
    have hs := ev_safe (V := V) (L := L) x c.2.2
    rw [ev_two, ev_con, ev_const hy c.2.1.1, hs, c.2.1.2]
    rcases c.1 with rfl | rfl <;> simp [apR, andI_zero]
  split at hr
  · rename_i c
    rw [isB_iff] at c
    simp only [Option.some.injEq] at hr
    subst hr
    refine ⟨?_, okN_con r32_0⟩
    have hs := ev_safe (V := V) (L := L) y c.2.2
    rw [ev_two, ev_con, ev_const hx c.2.1.1, hs, c.2.1.2]
    have hz := zero_sh (evR V L y).1
    rcases c.1 with rfl | rfl | rfl <;> simp [apR, hz]
  split at hr
  · rename_i c
    rw [isB_iff] at c
    obtain ⟨rfl, c⟩ := c
    simp only [Option.some.injEq] at hr
    subst hr
    refine ⟨?_, okN_con ⟨by decide, by decide⟩⟩
    have hs := ev_safe (V := V) (L := L) x c.2
    rw [ev_two, ev_con, ev_const hy c.1.1, hs, c.1.2]
    simp [apR, orI_all]
  split at hr
  · rename_i c
    obtain ⟨c1, c2, c3, c4⟩ := c
    simp only [Option.some.injEq] at hr
    subst hr
    obtain ⟨he, f1, f2⟩ := two_parts hx (by omega) (by omega)
    obtain ⟨n1, n2⟩ := okN_x nx hx (by omega) (by omega)
    refine ⟨?_, okN_two n1 (okN_con (apR_r32 n2.n ny.n))⟩
    have hass := ap_assoc c2
    rw [ev_two, ev_two, ev_con, ev_const hy c1]
    have ex : evR V L x = evR V L (eTwo op x.x x.y) := by rw [← c3, ← he]
    rw [ex, ev_two, ev_const f2 c4]
    rcases leaf h h1 x.x f1 n1 with ⟨b, rb, eb⟩ | eb <;> simp [eb, hE, hass]
  · cases hr
theorem ssign_ev (hr : sSign op x y = some r) : evR V L r = evR V L (eTwo op x y) ∧ OkN r := by
  have lx := leaf h h1 x hx nx
  have ly := leaf h h1 y hy ny
  unfold sSign at hr
  split at hr
  · rename_i c
    obtain ⟨rfl, c⟩ := c
    rw [isB_iff] at c
    simp only [Option.some.injEq] at hr
    subst hr
    refine ⟨?_, okN_one ny⟩
    rw [ev_two, ev_neg, ev_const hx c.1, c.2]
    rcases ly with ⟨b, rb, eb⟩ | eb <;> simp [eb, hE, apR]
  split at hr
  · rename_i c
    obtain ⟨rfl, c⟩ := c
    simp only [Option.some.injEq] at hr
    subst hr
    obtain ⟨he, f1⟩ := one_part hy (.inr c)
    have n1 := okN_x1 ny hy c
    rw [c] at he
    refine ⟨?_, okN_two nx n1⟩
    conv => rhs; rw [he]
    rw [ev_two, ev_two, ev_neg]
    rcases lx with ⟨a, ra, ea⟩ | ea <;> rcases leaf h h1 y.x f1 n1 with ⟨b, rb, eb⟩ | eb <;> simp [ea, eb, hE, apR]
    omega
  split at hr
  · rename_i c
    obtain ⟨rfl, c⟩ := c
    simp only [Option.some.injEq] at hr
    subst hr
    obtain ⟨he, f1⟩ := one_part hx (.inr c)
    have n1 := okN_x1 nx hx c
    rw [c] at he
    refine ⟨?_, okN_two ny n1⟩
    conv => rhs; rw [he]
    rw [ev_two, ev_two, ev_neg]
    rcases ly with ⟨a, ra, ea⟩ | ea <;> rcases leaf h h1 x.x f1 n1 with ⟨b, rb, eb⟩ | eb <;> simp [ea, eb, hE, apR]
    omega
  split at hr
  · rename_i c
    obtain ⟨rfl, c⟩ := c
    simp only [Option.some.injEq] at hr
    subst hr
    obtain ⟨he, f1⟩ := one_part hy (.inr c)
    have n1 := okN_x1 ny hy c
    rw [c] at he
    refine ⟨?_, okN_two nx n1⟩
    conv => rhs; rw [he]
    rw [ev_two, ev_two, ev_neg]
    rcases lx with ⟨a, ra, ea⟩ | ea <;> rcases leaf h h1 y.x f1 n1 with ⟨b, rb, eb⟩ | eb <;> simp [ea, eb, hE, apR]
  · cases hr
theorem ssame_ev (hr : sSame op x y = some r) : evR V L r = evR V L (eTwo op x y) ∧ OkN r := by
  have lx := leaf h h1 x hx nx
  unfold sSame at hr
  split at hr
  · cases hr
  rename_i c0
  have hxy : x = y := sameB_iff.1 (by simpa using c0)
  subst hxy
  split at hr
  · rename_i c
    simp only [Option.some.injEq] at hr
    subst hr
    refine ⟨?_, nx⟩
    rw [ev_two]
    rcases lx with ⟨a, ra, ea⟩ | ea
    · rcases c with rfl | rfl
      · simp [ea, apR, andI_self ra]
      · simp [ea, apR, orI_self ra]
    · simp [ea, hE]
  split at hr
  · cases hr
  rename_i c1
  have hs := ev_safe (V := V) (L := L) x (by simpa using c1)
  split at hr
  · rename_i c
    simp only [Option.some.injEq] at hr
    subst hr
    refine ⟨?_, okN_con r32_0⟩
    rw [ev_two, ev_con, hs]
    rcases c with rfl | rfl | rfl | rfl | rfl <;> simp [apR, xorI_self]
  split at hr
  · rename_i c
    subst c
    simp only [Option.some.injEq] at hr
    subst hr
    refine ⟨?_, okN_con r32_1⟩
    rw [ev_two, ev_con, hs]
    simp [apR]
  · cases hr
theorem struth_ev (hr : sTruth op x y = some r) : evR V L r = evR V L (eTwo op x y) ∧ OkN r := by
  have lx := leaf h h1 x hx nx
  unfold sTruth at hr
  split at hr
  · rename_i c
    obtain ⟨rfl, c⟩ := c
    rw [isB_iff] at c
    simp only [Option.some.injEq] at hr
    subst hr
    refine ⟨?_, okN_one nx⟩
    rw [ev_two, ev_not, ev_const hy c.1, c.2]
    rcases lx with ⟨a, ra, ea⟩ | ea <;> simp [ea, hE, apR]
  split at hr
  · cases hr
  rename_i c0
  have hb := ev_bool (V := V) (L := L) hx (by simpa using c0)
  split at hr
  · rename_i c
    simp only [isB_iff] at c
    simp only [Option.some.injEq] at hr
    subst hr
    refine ⟨?_, nx⟩
    rcases c with ⟨rfl, c⟩ | ⟨rfl, c⟩
    all_goals
      rw [ev_two, ev_const hy c.1, c.2]
      rcases lx with ⟨a, ra, ea⟩ | ea
      · rw [ea] at hb ⊢
        simp at hb
        rcases hb with rfl | rfl <;> simp [apR]
      · simp [ea, hE]
  split at hr
  · rename_i c
    obtain ⟨rfl, c⟩ := c
    rw [isB_iff] at c
    simp only [Option.some.injEq] at hr
    subst hr
    refine ⟨?_, okN_one nx⟩
    rw [ev_two, ev_not, ev_const hy c.1, c.2]
    rcases lx with ⟨a, ra, ea⟩ | ea
    · rw [ea] at hb ⊢
      simp at hb
      rcases hb with rfl | rfl <;> simp [apR]
    · simp [ea, hE]
  · cases hr
theorem smove_ev (hr : sMove op x y = some r) : evR V L r = evR V L (eTwo op x y) ∧ OkN r := by
  unfold sMove at hr
  split at hr
  · rename_i c
    obtain ⟨rfl, c, c2⟩ := c
    rw [isB_iff] at c
    simp only [Option.some.injEq] at hr
    subst hr
    obtain ⟨he, f1, f2⟩ := two_parts hx (by omega) (by omega)
    obtain ⟨n1, n2⟩ := okN_x nx hx (by omega) (by omega)
    refine ⟨?_, okN_two n1 n2⟩
    conv => rhs; rw [he]
    rw [ev_two, ev_two, ev_two, ev_const hy c.1, c.2]
    rcases leaf h h1 x.x f1 n1 with ⟨a, ra, ea⟩ | ea <;> rcases leaf h h1 x.y f2 n2 with ⟨b, rb, eb⟩ | eb <;> simp [ea, eb, hE]
    have := ra.1
    have := ra.2
    have := rb.1
    have := rb.2
    rcases c2 with c2 | c2
    · rw [c2]
      simp [apR]
      by_cases hab : a = b
      · simp [hab]
      · rw [if_neg hab, if_neg (by omega)]
    · rw [c2]
      simp [apR, xorI_eq0 ra rb]
  split at hr
  · rename_i c
    obtain ⟨c0, c1, c2, c3⟩ := c
    simp only [Option.some.injEq] at hr
    subst hr
    obtain ⟨he, f1, f2⟩ := two_parts hx (by omega) (by omega)
    obtain ⟨n1, n2⟩ := okN_x nx hx (by omega) (by omega)
    refine ⟨?_, okN_two n1 (okN_con (r32_mod _))⟩
    have hyn := ny.n
    have hxn := n2.n
    rw [c2] at he
    conv => rhs; rw [he]
    rw [ev_two, ev_two, ev_two, ev_con, ev_const hy c1, ev_const f2 c3]
    generalize y.n = d at *
    generalize x.y.n = k at *
    rcases leaf h h1 x.x f1 n1 with ⟨a, ra, ea⟩ | ea <;> simp [ea, hE]
    have := ra.1
    have := ra.2
    have := hyn.1
    have := hyn.2
    have := hxn.1
    have := hxn.2
    rcases c0 with rfl | rfl
    all_goals
      simp [apR]
      by_cases hq : a = (d - k) % 4294967296
      · rw [if_pos hq, if_pos (by omega)]
      · rw [if_neg hq, if_neg (by omega)]
  split at hr
  · rename_i c
    obtain ⟨c0, c1, c2, c3⟩ := c
    simp only [Option.some.injEq] at hr
    subst hr
    obtain ⟨he, f1, f2⟩ := two_parts hx (by omega) (by omega)
    obtain ⟨n1, n2⟩ := okN_x nx hx (by omega) (by omega)
    refine ⟨?_, okN_two n1 (okN_con (xorI_r32 _ _))⟩
    have hyn := ny.n
    rw [c2] at he
    conv => rhs; rw [he]
    rw [ev_two, ev_two, ev_two, ev_con, ev_const hy c1, ev_const f2 c3]
    rcases leaf h h1 x.x f1 n1 with ⟨a, ra, ea⟩ | ea <;> simp [ea, hE]
    have hm := xorI_move (c := x.y.n) ra hyn
    rcases c0 with rfl | rfl <;> simp [apR, hm]
  · cases hr
theorem sbelow_ev (hr : sBelow op x y = some r) : evR V L r = evR V L (eTwo op x y) ∧ OkN r := by
  have lx := leaf h h1 x hx nx
  have ly := leaf h h1 y hy ny
  unfold sBelow at hr
  split at hr
  · rename_i c
    obtain ⟨rfl, c⟩ := c
    rw [isB_iff] at c
    simp only [Option.some.injEq] at hr
    subst hr
    refine ⟨?_, okN_two ny (okN_con r32_0)⟩
    rw [ev_two, ev_two, ev_con, ev_const hx c.1, c.2]
    rcases ly with ⟨b, rb, eb⟩ | eb <;> simp [eb, hE, apR]
    have := rb.1
    by_cases hb : b = 0
    · rw [if_pos hb, if_neg (by omega)]
    · rw [if_neg hb, if_pos (by omega)]
  split at hr
  · rename_i c
    obtain ⟨rfl, c⟩ := c
    rw [isB_iff] at c
    simp only [Option.some.injEq] at hr
    subst hr
    refine ⟨?_, okN_one nx⟩
    rw [ev_two, ev_not, ev_const hy c.1, c.2]
    rcases lx with ⟨b, rb, eb⟩ | eb <;> simp [eb, hE, apR]
    have := rb.1
    by_cases hb : b = 0
    · rw [if_pos hb, if_pos (by omega)]
    · rw [if_neg hb, if_neg (by omega)]
  split at hr
  · rename_i c
    obtain ⟨rfl, c, c2⟩ := c
    rw [isB_iff] at c
    simp only [Option.some.injEq] at hr
    subst hr
    refine ⟨?_, okN_con r32_0⟩
    have hs := ev_safe (V := V) (L := L) x c2
    rw [ev_two, ev_con, ev_const hy c.1, c.2]
    rcases lx with ⟨b, rb, eb⟩ | eb
    · have := rb.1
      simp [eb, apR]
      omega
    · rw [eb] at hs
      exact absurd hs hE
  · cases hr
theorem smask_ev (hB : ∀ a w, (w = 1 → (L a w).1 < 256) ∧ (w = 2 → (L a w).1 < 65536)) (hr : sMask op x y = some r) : evR V L r = evR V L (eTwo op x y) ∧ OkN r := by
  unfold sMask at hr
  split at hr
  · rename_i c
    obtain ⟨rfl, c1, c2, c3⟩ := c
    simp only [Option.some.injEq] at hr
    subst hr
    refine ⟨?_, nx⟩
    rw [ev_two, ev_const hy c2]
    have hyn := ny.n
    have lx := leaf h h1 x hx nx
    obtain ⟨a, he, ha, _⟩ := form_wide hx (.inl c1)
    have hlt : ∀ v : Int, evR V L x = (v, 0) → (x.wd = 1 → v < 256) ∧ (x.wd = 2 → v < 65536) := fun v hv => by
      rw [c1] at he
      rw [he, ev_one'] at hv
      split at hv
      · have := congrArg Prod.fst hv
        simp only at this
        subst this
        exact ⟨fun _ => by omega, fun _ => by omega⟩
      · simp at hv
        have := hB (evR V L a).1 x.wd
        rw [hv] at this
        exact this
    rcases lx with ⟨b, rb, eb⟩ | eb
    · have := hlt b eb
      simp only [covB, decide_eq_true_eq] at c3
      rw [eb]
      simp [apR]
      rcases c3 with ⟨c3, c4⟩ | ⟨c3, c4⟩
      · exact (and_low_r32 rb hyn 8 (by omega) (by simpa using c4) (by simpa using this.1 c3)).symm
      · exact (and_low_r32 rb hyn 16 (by omega) (by simpa using c4) (by simpa using this.2 c3)).symm
    · simp [eb, hE]
  · cases hr
theorem stwo_ev (hB : ∀ a w, (w = 1 → (L a w).1 < 256) ∧ (w = 2 → (L a w).1 < 65536)) (hr : sTwo op x y = some r) : evR V L r = evR V L (eTwo op x y) ∧ OkN r := by
  unfold sTwo at hr
  simp only [Option.or_eq_some_iff, Option.or_eq_none_iff] at hr
  rcases hr with (((((hr | hr) | hr) | hr) | hr) | hr) | hr
  · exact searly_ev h hE h1 h3 h15 hx hy nx ny hr
  · exact ssign_ev h hE h1 h3 h15 hx hy nx ny hr.2
  · exact ssame_ev h hE h1 h3 h15 hx hy nx ny hr.2
  · exact struth_ev h hE h1 h3 h15 hx hy nx ny hr.2
  · exact smove_ev h hE h1 h3 h15 hx hy nx ny hr.2
  · exact sbelow_ev h hE h1 h3 h15 hx hy nx ny hr.2
  · exact smask_ev h hE h1 h3 h15 hx hy nx ny hB hr.2
end
theorem snot_ev {x r : Ex} (hx : formB x = true) (nx : OkN x) (hr : sNot x = some r) : evR V L r = evR V L (eOne 16 x) ∧ OkN r := by
  unfold sNot at hr
  split at hr
  · rename_i c
    simp only [Option.some.injEq] at hr
    subst hr
    obtain ⟨he, f1, f2⟩ := two_parts hx (by omega) (by omega)
    obtain ⟨n1, n2⟩ := okN_x nx hx (by omega) (by omega)
    refine ⟨?_, okN_two n1 n2⟩
    rw [c] at he
    conv => rhs; rw [he]
    rw [ev_not, ev_two, ev_two]
    rcases leaf h h1 x.x f1 n1 with ⟨a, ra, ea⟩ | ea <;> rcases leaf h h1 x.y f2 n2 with ⟨b, rb, eb⟩ | eb <;> simp [ea, eb, hE, apR]
  split at hr
  · rename_i c
    simp only [Option.some.injEq] at hr
    subst hr
    obtain ⟨he, f1, f2⟩ := two_parts hx (by omega) (by omega)
    obtain ⟨n1, n2⟩ := okN_x nx hx (by omega) (by omega)
    refine ⟨?_, okN_two n1 n2⟩
    conv => rhs; rw [he]
    rw [ev_not, ev_two, ev_two]
    rcases leaf h h1 x.x f1 n1 with ⟨a, ra, ea⟩ | ea <;> rcases leaf h h1 x.y f2 n2 with ⟨b, rb, eb⟩ | eb <;> simp [ea, eb, hE]
    have := ra.1
    have := ra.2
    have := rb.1
    have := rb.2
    rcases c with c | c | c
    · rw [c]
      simp [apR]
    · rw [c]
      simp [apR]
      by_cases hab : a = b
      · simp [hab]
      · rw [if_neg hab, if_neg (by omega)]
    · rw [c]
      simp [apR, xorI_eq0 ra rb]
  split at hr
  · rename_i c
    obtain ⟨he, f1⟩ := one_part hx (.inl c)
    have hl : x.l = [x.x] := by
      have := congrArg Ex.l he
      simpa using this
    have n1 : OkN x.x := nx.l _ (by rw [hl]; simp)
    rw [c] at he
    have lx := leaf h h1 x.x f1 n1
    split at hr
    · rename_i hb
      have hb := ev_bool (V := V) (L := L) f1 hb
      simp only [Option.some.injEq] at hr
      subst hr
      refine ⟨?_, n1⟩
      conv => rhs; rw [he]
      rw [ev_not, ev_not]
      rcases lx with ⟨a, ra, ea⟩ | ea
      · rw [ea] at hb ⊢
        simp at hb
        rcases hb with rfl | rfl <;> simp
      · simp [ea, hE]
    · simp only [Option.some.injEq] at hr
      subst hr
      refine ⟨?_, okN_two n1 (okN_con r32_0)⟩
      conv => rhs; rw [he]
      rw [ev_not, ev_not, ev_two, ev_con]
      rcases lx with ⟨a, ra, ea⟩ | ea <;> simp [ea, hE, apR]
  split at hr
  · rename_i c
    obtain ⟨c1, c2⟩ := c
    simp only [Option.some.injEq] at hr
    subst hr
    obtain ⟨he, f1, f2⟩ := two_parts hx (by omega) (by omega)
    obtain ⟨n1, n2⟩ := okN_x nx hx (by omega) (by omega)
    refine ⟨?_, okN_two n1 (okN_con (r32_mod _))⟩
    have hxn := n2.n
    rw [c1] at he
    conv => rhs; rw [he]
    rw [ev_not, ev_two, ev_two, ev_con, ev_const f2 c2]
    generalize x.y.n = k at *
    rcases leaf h h1 x.x f1 n1 with ⟨a, ra, ea⟩ | ea <;> simp [ea, hE, apR]
    have := ra.1
    have := ra.2
    have := hxn.1
    have := hxn.2
    by_cases hq : a = -k % 4294967296
    · rw [if_pos hq, if_pos (by omega)]
    · rw [if_neg hq, if_neg (by omega)]
  · cases hr
theorem sneg_ev {x r : Ex} (hx : formB x = true) (nx : OkN x) (hr : sNeg x = some r) : evR V L r = evR V L (eOne 17 x) ∧ OkN r := by
  unfold sNeg at hr
  split at hr
  · rename_i c
    simp only [Option.some.injEq] at hr
    subst hr
    obtain ⟨he, f1⟩ := one_part hx (.inr c)
    have n1 := okN_x1 nx hx c
    rw [c] at he
    refine ⟨?_, n1⟩
    conv => rhs; rw [he]
    rw [ev_neg, ev_neg]
    rcases leaf h h1 x.x f1 n1 with ⟨a, ra, ea⟩ | ea <;> simp [ea, hE]
    have := ra.1
    have := ra.2
    omega
  split at hr
  · rename_i c
    simp only [Option.some.injEq] at hr
    subst hr
    obtain ⟨he, f1, f2⟩ := two_parts hx (by omega) (by omega)
    obtain ⟨n1, n2⟩ := okN_x nx hx (by omega) (by omega)
    refine ⟨?_, okN_two n2 n1⟩
    rw [c] at he
    conv => rhs; rw [he]
    rw [ev_neg, ev_two, ev_two]
    rcases leaf h h1 x.x f1 n1 with ⟨a, ra, ea⟩ | ea <;> rcases leaf h h1 x.y f2 n2 with ⟨b, rb, eb⟩ | eb <;> simp [ea, eb, hE, apR]
    omega
  · cases hr
theorem sext_ev {x r : Ex} {w : Int} (hx : formB x = true) (nx : OkN x) (hw : w = 1 ∨ w = 2) (hr : sExt w x = some r) : evR V L r = evR V L (.mk 19 0 0 w [x]) ∧ OkN r := by
  unfold sExt at hr
  split at hr
  · rename_i c
    obtain ⟨c1, c2, c3⟩ := c
    simp only [Option.some.injEq] at hr
    subst hr
    obtain ⟨he, f1, f2⟩ := two_parts hx (by omega) (by omega)
    obtain ⟨n1, n2⟩ := okN_x nx hx (by omega) (by omega)
    refine ⟨?_, .mk r32_0 (by simpa using n1)⟩
    have hxn := n2.n
    rw [c1] at he
    conv => rhs; rw [he]
    rw [ev_one', ev_one', ev_two, ev_const f2 c2]
    rcases leaf h h1 x.x f1 n1 with ⟨a, ra, ea⟩ | ea <;> simp [ea, hE, apR]
    exact (ext_and ra hxn c3).symm
  split at hr
  · rename_i c
    simp only [Option.some.injEq] at hr
    subst hr
    obtain ⟨he, f1, _⟩ := form_one3 hx (by omega)
    obtain ⟨_, _, _, hw2⟩ := form_wide hx (.inr c)
    have hl : x.l = [x.x] := by
      have := congrArg Ex.l he
      simpa using this
    have n1 : OkN x.x := nx.l _ (by rw [hl]; simp)
    refine ⟨?_, .mk r32_0 (by simpa using n1)⟩
    rw [c] at he
    conv => rhs; rw [he]
    rw [ev_one', ev_one', ev_one']
    rcases leaf h h1 x.x f1 n1 with ⟨a, ra, ea⟩ | ea <;> simp [ea, hE]
    exact (ext_ext ra (by omega) hw).symm
  · cases hr
theorem fold_ev {e : Ex} (hf : formB e = true) (hn : OkN e) (h18 : e.op ≠ 18) (hl : e.l ≠ []) (hc : (e.l.all fun x => decide (x.op = 1)) = true) : evR V L (eCon (foldV e)) = evR V L e ∧ OkN (eCon (foldV e)) := by
  have hop := form_op hf
  have h12 : e.op ≠ 1 ∧ e.op ≠ 2 := by
    constructor
    · intro h1
      exact hl (by rw [form_con hf h1]; rfl)
    · intro h1
      exact hl (by rw [(form_var hf h1).1]; rfl)
  have key : evR V L e = (foldV e, 0) := by
    by_cases h15 : e.op ≤ 15
    · obtain ⟨he, f1, f2⟩ := two_parts hf (by omega) h15
      have hall : e.x.op = 1 ∧ e.y.op = 1 := by
        rw [he] at hc
        simpa using hc
      rw [foldV, if_neg (by omega), if_neg (by omega), if_neg (by omega)]
      conv => lhs; rw [he]
      rw [ev_two, ev_const f1 hall.1, ev_const f2 hall.2]
      simp
    · obtain ⟨he, f1, _⟩ := form_one3 hf (by omega)
      have hall : e.x.op = 1 := by
        rw [he] at hc
        simpa using hc
      rw [foldV]
      conv => lhs; rw [he]
      rw [ev_one', ev_const f1 hall]
      rcases (show e.op = 16 ∨ e.op = 17 ∨ e.op = 19 by omega) with ho | ho | ho <;> simp [ho]
  have hr := (ev_ok V L h e hn hf).1
  rw [key] at hr ⊢
  exact ⟨rfl, okN_con hr⟩
theorem rule_ev (hB : ∀ a w, (w = 1 → (L a w).1 < 256) ∧ (w = 2 → (L a w).1 < 65536)) {e r : Ex} (hf : formB e = true) (hn : OkN e) (hr : sRule e = some r) : evR V L r = evR V L e ∧ OkN r := by
  have hop := form_op hf
  unfold sRule at hr
  rw [Option.or_eq_some_iff] at hr
  rcases hr with hr | ⟨_, hr⟩
  · unfold sFold at hr
    split at hr
    · cases hr
    rename_i c
    simp only [Option.some.injEq] at hr
    subst hr
    refine fold_ev h hE h1 hf hn (fun h => c (.inl h)) (fun h => c (.inr (.inl h))) ?_
    cases hq : e.l.all fun x => decide (x.op = 1)
    · exact absurd (.inr (.inr hq)) c
    · rfl
  · have hx1 : 16 ≤ e.op → OkN e.x := fun h16 => by
      obtain ⟨he, f1, _⟩ := form_one3 hf h16
      have hl : e.l = [e.x] := by
        have := congrArg Ex.l he
        simpa using this
      exact hn.l _ (by rw [hl]; simp)
    unfold sRest at hr
    split at hr
    · rename_i c
      have he := e_one hf (.inl c)
      have := snot_ev h hE h1 (form_one3 hf (by omega)).2.1 (hx1 (by omega)) hr
      rw [c] at he
      rwa [← he] at this
    split at hr
    · rename_i c
      have he := e_one hf (.inr c)
      have := sneg_ev h hE h1 (form_one3 hf (by omega)).2.1 (hx1 (by omega)) hr
      rw [c] at he
      rwa [← he] at this
    split at hr
    · rename_i c
      obtain ⟨he, f1, _⟩ := form_one3 hf (by omega)
      obtain ⟨_, _, _, hw2⟩ := form_wide hf (.inr c)
      have := sext_ev h hE h1 f1 (hx1 (by omega)) (by omega) hr
      rw [c] at he
      rwa [← he] at this
    split at hr
    · rename_i c
      obtain ⟨he, f1, f2⟩ := two_parts hf c.1 c.2
      obtain ⟨n1, n2⟩ := okN_x hn hf c.1 c.2
      have := stwo_ev h hE h1 c.1 c.2 f1 f2 n1 n2 hB hr
      rwa [← he] at this
    · cases hr
/-- What is simplified has the value, or the error, of the expression. -/
theorem simp_ev (hB : ∀ a w, (w = 1 → (L a w).1 < 256) ∧ (w = 2 → (L a w).1 < 65536)) : ∀ (k : Nat) (e : Ex), formB e = true → OkN e → sw e ≤ k → evR V L (simpF k e) = evR V L e ∧ OkN (simpF k e) := by
  intro k
  induction k with
  | zero => intro e _ _ h; have := sw_pos e; omega
  | succ k ih =>
  intro e hf hn hw
  have hop := form_op hf
  have hch : ∀ x ∈ e.l, evR V L (simpF k x) = evR V L x ∧ OkN (simpF k x) := fun x hx => ih x ((form_all hf).2 x hx) (hn.l x hx) (by have := sw_mem hx; omega)
  have f1 : formB (.mk e.op e.n e.v e.wd (e.l.map (simpF k))) = true := form_map (f := simpF k) hf fun x hx => (simp_ok k x ((form_all hf).2 x hx) (by have := sw_mem hx; omega)).form
  have f2 := sw_map (f := simpF k) hf fun x hx => by
    have := simp_ok k x ((form_all hf).2 x hx) (by have := sw_mem hx; omega)
    exact ⟨this.sw, this.form, this.con, this.ncon⟩
  have f3 : evR V L (.mk e.op e.n e.v e.wd (e.l.map (simpF k))) = evR V L e ∧ OkN (.mk e.op e.n e.v e.wd (e.l.map (simpF k))) := by
    refine ⟨?_, .mk hn.n fun y hy => ?_⟩
    · obtain ⟨o, n, v, w, l⟩ := e
      simp only [Ex.op_mk, Ex.n_mk, Ex.v_mk, Ex.wd_mk, Ex.l_mk] at hch ⊢
      match l, hch with
      | [], _ => rfl
      | [a], hch =>
        have ha := (hch a (by simp)).1
        simp only [List.map_cons, List.map_nil, evR, ha]
      | [a, b], hch =>
        have ha := (hch a (by simp)).1
        have hb := (hch b (by simp)).1
        simp only [List.map_cons, List.map_nil, evR, ha, hb]
      | a :: b :: c :: l, _ => simp [evR]
    · simp only [Ex.l_mk, List.mem_map] at hy
      obtain ⟨x, hx, rfl⟩ := hy
      exact (hch x hx).2
  simp only [simpF]
  cases hr : sRule (.mk e.op e.n e.v e.wd (e.l.map (simpF k))) with
  | none => exact f3
  | some r =>
    have hl := srule_less f1 hr
    have hv := rule_ev h hE h1 hB f1 f3.2 hr
    have hi := ih r hl.form hv.2 (by have := hl.sw; omega)
    exact ⟨by rw [hi.1, hv.1, f3.1], hi.2⟩
end
end Go.Proofs.YtlidimmfpfockaaGreatDoor

/- Contracts: simplify's small functions. -/
namespace Go.Proofs.YtlidimmfpfockaaGreatDoor
open Go.RowKit
/-- An expression's box. -/
abbrev exC (e : Ex) : Blk := ⟨0, true, 38, 5, [[aI .i64 e.op, aI .u32 e.n, aI .i64 e.v, aI .i64 e.wd, .d (.sl 5 (Ex.ds e.l))]]⟩
/-- The box of the zero expression. -/
abbrev nilC : Blk := ⟨0, true, 38, 5, [[aI .i64 0, aI .u32 0, aI .i64 0, aI .i64 0, .d (.v (.slice none 0 0))]]⟩
theorem smnumber_af (e : Ex) : AF Tryz.prog 225 [exA e] (.tup [aI .u32 e.n, aB (decide (e.op = 1))]) := by
  refine af_of Tryz.func225 rfl (by kernel_rfl) (by simp [Tryz.ntmps225]) fun _ => ?_; simp [Tryz.f225, Ex.d_eq]
  refine adraw [] (by kernel_rfl) (by kernel_rfl) (by kernel_rfl) (by kernel_rfl) ?_; simp [Ex.d_eq]
theorem smis_af (e : Ex) (n : Int) : AF Tryz.prog 87 [exA e, aI .u32 n] (aB (isB e n)) := by
  refine af_of Tryz.func87 rfl (by kernel_rfl) (by simp [Tryz.ntmps87]) fun _ => ?_; simp [Tryz.f87, Ex.d_eq]
  refine aG_split (fun g1 => ?_) (fun g1 => by simp at g1; simp [isB, g1])
  simp at g1
  simp [isB, g1]
theorem smone_af (op : Int) (x : Ex) : AF Tryz.prog 82 [aI .i64 op, exA x] (exA (eOne op x)) := by
  refine af_of Tryz.func82 rfl (by kernel_rfl) (by simp [Tryz.ntmps82]) fun _ => ?_; simp [Tryz.f82, Ex.d_eq]
theorem smboolean_af (e : Ex) : AF Tryz.prog 232 [exA e] (aB (boolB e)) := by
  refine af_of Tryz.func232 rfl (by kernel_rfl) (by simp [Tryz.ntmps232]) fun _ => ?_; simp [Tryz.f232, Ex.d_eq]
  unfold boolB
  by_cases h12 : e.op = 12
  · simp [h12]
  by_cases h13 : e.op = 13
  · simp [h13]
  by_cases h14 : e.op = 14
  · simp [h14]
  by_cases h15 : e.op = 15
  · simp [h15]
  by_cases h16 : e.op = 16
  · simp [h16]
  have hd : decide (12 ≤ e.op ∧ e.op ≤ 16) = false := by simp; omega
  simp [h12, h13, h14, h15, h16, hd]
  refine aCall_of (smis_af e 0) (by simp) (by simp [Ex.d_eq]) ?_; simp [Ex.d_eq]
  cases h0 : isB e 0
  · simp
    refine aCall_of (smis_af e 1) (by simp) (by simp [Ex.d_eq]) ?_; simp [Ex.d_eq]
  · simp
theorem smcommutes_af (op : Int) : AF Tryz.prog 224 [aI .i64 op] (aB (comB op || decide (op = 12) || decide (op = 13))) := by
  refine af_of Tryz.func224 rfl (by kernel_rfl) (by simp [Tryz.ntmps224]) fun _ => ?_; simp [Tryz.f224, Ex.d_eq]
  unfold comB
  by_cases h3 : op = 3
  · simp [h3]
  by_cases h5 : op = 5
  · simp [h5]
  by_cases h6 : op = 6
  · simp [h6]
  by_cases h7 : op = 7
  · simp [h7]
  by_cases h8 : op = 8
  · simp [h8]
  by_cases h12 : op = 12
  · simp [h12]
  by_cases h13 : op = 13
  · simp [h13]
  simp [h3, h5, h6, h7, h8, h12, h13]
/-- An operator's operands, when the right one is a constant. -/
def splitR (e : Ex) (op : Int) : AV := if e.op = op ∧ e.l.length = 2 then .tup [exA e.x, aI .u32 e.y.n, aB (decide (e.y.op = 1))] else .tup [exA eNil, aI .u32 0, aB false]
theorem smsplit_af (e : Ex) (op : Int) : AF Tryz.prog 233 [exA e, aI .i64 op] (splitR e op) := by
  obtain ⟨o, n, v, w, l⟩ := e
  refine af_of Tryz.func233 rfl (by kernel_rfl) (by simp [Tryz.ntmps233]) fun _ => ?_; simp [Tryz.f233, Ex.d_eq]
  by_cases h : o = op
  case neg => simp [h, splitR]
  subst h
  by_cases hl : l.length = 2
  case neg => simp [hl, splitR, show ¬ ((l.length : Int) = 2) by omega]
  match l, hl with
  | [a, b], _ =>
  simp [Ex.d_eq]
  refine aCall_of (smnumber_af b) (by simp) (by simp [Ex.d_eq]) ?_; simp [Ex.d_eq]
  simp [splitR, Ex.d_eq]
  exact decide_eq_decide.2 Iff.rfl
theorem smcovers_af (n w : Int) (hw : w = 1 ∨ w = 2) (hn : 0 ≤ n ∧ n < 4294967296) : AF Tryz.prog 234 [aI .u32 n, aI .i64 w] (aB (covB n w)) := by
  have m8 := mask_eq hn 8 (by omega)
  have m16 := mask_eq hn 16 (by omega)
  simp at m8 m16
  have w1 : IntKind.u64.wrap 1 = 1 := by decide +kernel
  have w2 : IntKind.u64.wrap 2 = 2 := by decide +kernel
  have w8 : IntKind.u64.wrap 8 = 8 := by decide +kernel
  have w16 : IntKind.u64.wrap 16 = 16 := by decide +kernel
  have s8 : shlI .u32 1 8 = 256 := by decide +kernel
  have s16 : shlI .u32 1 16 = 65536 := by decide +kernel
  unfold covB
  rcases hw with rfl | rfl
  · refine af_of Tryz.func234 rfl (by kernel_rfl) (by simp [Tryz.ntmps234]) fun _ => ?_; simp [Tryz.f234, Ex.d_eq]
    simp [w1, w8, s8, m8]
  · refine af_of Tryz.func234 rfl (by kernel_rfl) (by simp [Tryz.ntmps234]) fun _ => ?_; simp [Tryz.f234, Ex.d_eq]
    simp [w2, w16, s16, m16]
theorem smsafe_af : ∀ (e : Ex), e.nodes ≤ 1000000000 → AF Tryz.prog 262 [exA e] (aB (safeB e)) := by
  intro x
  induction x using Ex.ind with
  | h x ih =>
    intro hn
    have hlen := x.nodes_len
    have n1 : x.l.length ≤ maxLen := by unfold maxLen; omega
    rw [safeB_eq]
    refine af_of Tryz.func262 rfl (by kernel_rfl) (by simp [Tryz.ntmps262]) fun _ => ?_; simp [Tryz.f262, Ex.d_eq]
    by_cases h18 : x.op = 18
    · simp [h18]
    simp [h18]
    refine aLoop_of (α := Nat) (fun i e A => i ≤ x.l.length ∧ (∃ N : AHeap, A = exC x :: N) ∧ (x.l.take i).all safeB = true ∧
      e 11 = aI .i64 i ∧ e 10 = aI .i64 x.l.length ∧ e 9 = .d (.sl 5 (Ex.ds x.l)) ∧ e 1 = .ptr 0 0 0 0) (fun i => x.l.length - i) 0 (Sub.refl _ _ _) ⟨by omega, ⟨[], by simp⟩, by simp, by simp, by simp, by simp, by simp⟩ ?_
    rintro i e A ⟨hi, ⟨N, rfl⟩, hall, e11, e10, e9, e1⟩ K hK
    rcases Nat.lt_or_ge i x.l.length with hlt | hge
    case inr =>
      obtain rfl : i = x.l.length := by omega
      rw [List.take_length] at hall
      simp [e11, e10, hall]
    obtain ⟨y, hy⟩ : ∃ y, x.l[i]? = some y := ⟨_, List.getElem?_eq_getElem hlt⟩
    have hy2 := (List.getElem?_eq_some_iff.1 hy).2
    simp [e11, e10, e9, hlt, hy, hy2, Ex.d_eq]
    refine aCall_of (ih y (List.mem_of_getElem? hy) (by have := Ex.nodes_mem (List.mem_of_getElem? hy); omega)) (by simp) (by simp [Ex.d_eq]) ?_
    simp [e11]
    have hall' : (x.l.take (i + 1)).all safeB = safeB y := by
      rw [List.take_add_one, hy, List.all_append, hall]
      simp
    cases hs : safeB y
    · have : x.l.all safeB = false := by
        simp only [List.all_eq_false]
        exact ⟨y, List.mem_of_getElem? hy, by simp [hs]⟩
      simp [this]
    · simp [e11, succ_wrap hlt n1]
      refine hK (i + 1) _ _ _ _ (Sub.refl _ _ _) ⟨by omega, ⟨_, by simp; rfl⟩, by rw [hall', hs], by simp, by simp [e10], by simp [e9], by simp [e1]⟩ (by omega)
end Go.Proofs.YtlidimmfpfockaaGreatDoor

/- Contracts: ileval's value of an operator of constants; simplify.constants. -/
namespace Go.Proofs.YtlidimmfpfockaaGreatDoor
open Go.RowKit
section
variable {x y : Int} (hx : R32 x) (hy : R32 y)
include hy
theorem shI_sa : shI y = (sa y : Int) := by
  have := mask_eq hy 5 (by omega)
  simp at this
  unfold shI sa
  rw [this]
  omega
theorem shl_r : shlI .u32 x (shI y) = rShl x y := by
  rw [shI_sa hy]
  have : sa y < 32 := by unfold sa; omega
  unfold shlI rShl
  rw [u32e]
  simp [IntKind.bits, Nat.min_eq_left (show sa y ≤ 32 by omega)]
theorem shr_r : shrI .u32 x (shI y) = rShr x y := by
  rw [shI_sa hy]
  have : sa y < 32 := by unfold sa; omega
  unfold shrI rShr
  simp [IntKind.bits, Nat.min_eq_left (show sa y ≤ 32 by omega)]
  exact Int.fdiv_eq_ediv_of_nonneg _ (Int.le_of_lt (Int.pow_pos (by omega)))
include hx
omit hy in
theorem i32_sgN : IntKind.i32.wrap x = sg x := by
  have h1 := hx.1
  have h2 := hx.2
  rw [i32wm]
  unfold sg
  rw [Int.emod_eq_of_lt h1 h2]
theorem sar_r : IntKind.u32.wrap (shrI .i32 (IntKind.i32.wrap x) (shI y)) = rSar x y := by
  rw [shI_sa hy, i32_sgN hx]
  have : sa y < 32 := by unfold sa; omega
  unfold shrI rSar
  simp [IntKind.bits, Nat.min_eq_left (show sa y ≤ 32 by omega)]
  have hp : (0 : Int) < 2 ^ sa y := Int.pow_pos (by omega)
  rw [Int.fdiv_eq_ediv_of_nonneg _ (Int.le_of_lt hp), u32e]
  have hs : -2147483648 ≤ sg x ∧ sg x < 2147483648 := by
    have := hx.1
    have := hx.2
    unfold sg
    split <;> omega
  have h1 : -2147483648 ≤ sg x / 2 ^ sa y ∧ sg x / 2 ^ sa y < 2147483648 := by
    rcases Int.lt_or_le (sg x) 0 with h | h
    · have h2 := Int.ediv_neg_of_neg_of_pos h hp
      have h3 : sg x ≤ sg x / 2 ^ sa y := by
        rw [Int.le_ediv_iff_mul_le hp]
        have := Int.mul_le_mul_of_nonpos_left (Int.le_of_lt h) (show (1 : Int) ≤ 2 ^ sa y by omega)
        omega
      omega
    · have := Int.ediv_nonneg h (Int.le_of_lt hp)
      have := Int.ediv_le_self (2 ^ sa y) h
      omega
  unfold us
  split <;> omega
theorem appI_apR (op : Nat) (h3 : 3 ≤ op) (h15 : op ≤ 15) : appI op x y = apR op x y := by
  have a := shl_r (x := x) hy
  have b := shr_r (x := x) hy
  have c := sar_r hx hy
  have d := i32_sgN hx
  have d' := i32_sgN hy
  have c' := c
  rw [u32e, d] at c'
  obtain rfl | rfl | rfl | rfl | rfl | rfl | rfl | rfl | rfl | rfl | rfl | rfl | rfl : op = 3 ∨ op = 4 ∨ op = 5 ∨ op = 6 ∨ op = 7 ∨ op = 8 ∨ op = 9 ∨ op = 10 ∨ op = 11 ∨ op = 12 ∨ op = 13 ∨ op = 14 ∨ op = 15 := by omega
  all_goals simp [appI, appL, apR, a, b, c', d, d', u32e]
end
theorem bextend_af (n w : Int) (hn : R32 n) (hw : w = 1 ∨ w = 2) : AF Tryz.prog 272 [aI .u32 n, aI .i64 w] (aI .u32 (rEx n w)) := by
  have h1 := hn.1
  have h2 := hn.2
  rcases hw with rfl | rfl
  · refine af_of Tryz.func272 rfl (by kernel_rfl) (by simp [Tryz.ntmps272]) fun _ => ?_; simp [Tryz.f272, Ex.d_eq]
    simp [IntKind.wrap, IntKind.signed, IntKind.bits, rEx, rTr]
    split <;> omega
  · refine af_of Tryz.func272 rfl (by kernel_rfl) (by simp [Tryz.ntmps272]) fun _ => ?_; simp [Tryz.f272, Ex.d_eq]
    simp [IntKind.wrap, IntKind.signed, IntKind.bits, rEx, rTr]
    split <;> omega
theorem ieval_con (n : Int) : AF Tryz.prog 260 [exA (eCon n), noVars, noMem] (.tup [aU n, aI .i64 0]) := ieval_af (.con n)
theorem ieval_two (op : Int) (a b : Int) (ha : R32 a) (hb : R32 b) (h3 : 3 ≤ op) (h15 : op ≤ 15) : AF Tryz.prog 260 [exA (eTwo op (eCon a) (eCon b)), noVars, noMem] (.tup [aU (apR op a b), aI .i64 0]) := by
  obtain ⟨o, rfl⟩ : ∃ o : Nat, op = o := ⟨op.toNat, by omega⟩
  rw [← appI_apR ha hb o (by omega) (by omega)]
  exact ieval_af (.two (by omega) (by omega) (.con a) (.con b))
theorem ieval_one (op w a : Int) (ha : R32 a) (ho : op = 16 ∨ op = 17 ∨ op = 19 ∧ (w = 1 ∨ w = 2)) : AF Tryz.prog 260 [exA (.mk op 0 0 w [eCon a]), noVars, noMem]
    (.tup [aU (foldV (.mk op 0 0 w [eCon a])), aI .i64 0]) := by
  rcases ho with rfl | rfl | ⟨rfl, hw⟩
  · refine af_of Tryz.func260 rfl (by kernel_rfl) (by simp [Tryz.ntmps260]) fun _ => ?_; simp [Tryz.f260, Ex.d_eq]
    refine aLoop_iter 2 ?_; simp [Ex.d_eq]
    refine aCall_of (ieval_con a) (by simp) (by simp [Ex.d_eq]) ?_; simp [Ex.d_eq]
    refine aCall_of (bapply_af 12 a 0 (by omega)) (by simp) (by simp [Ex.d_eq]) ?_; simp [Ex.d_eq]
    by_cases h : a = 0 <;> simp [foldV, appI, appL, h]
  · refine af_of Tryz.func260 rfl (by kernel_rfl) (by simp [Tryz.ntmps260]) fun _ => ?_; simp [Tryz.f260, Ex.d_eq]
    refine aLoop_iter 2 ?_; simp [Ex.d_eq]
    refine aCall_of (ieval_con a) (by simp) (by simp [Ex.d_eq]) ?_; simp [Ex.d_eq]
    simp [foldV, u32e]
  · refine af_of Tryz.func260 rfl (by kernel_rfl) (by simp [Tryz.ntmps260]) fun _ => ?_; simp [Tryz.f260, Ex.d_eq]
    refine aLoop_iter 2 ?_; simp [Ex.d_eq]
    refine aCall_of (ieval_con a) (by simp) (by simp [Ex.d_eq]) ?_; simp [Ex.d_eq]
    refine aCall_of (bextend_af a w ha hw) (by simp) (by simp [Ex.d_eq]) ?_; simp [Ex.d_eq]
    simp [foldV]
/-- The value of an operator of constants. -/
theorem ieval_fold {e : Ex} (hf : formB e = true) (hn : OkN e) (h18 : e.op ≠ 18) (hl : e.l ≠ []) (hc : ∀ x ∈ e.l, x.op = 1) : AF Tryz.prog 260 [exA e, noVars, noMem] (.tup [aU (foldV e), aI .i64 0]) := by
  have hop := form_op hf
  have h1 : e.op ≠ 1 := fun h => by rw [form_con hf h] at hl; exact hl rfl
  have h2 : e.op ≠ 2 := fun h => by rw [(form_var hf h).1] at hl; exact hl rfl
  by_cases h15 : e.op ≤ 15
  · obtain ⟨he, hx, hy⟩ := two_parts hf (by omega) h15
    have hel : e.l = [e.x, e.y] := by
      have := congrArg Ex.l he
      simpa using this
    have cx := form_con hx (hc _ (by rw [hel]; simp))
    have cy := form_con hy (hc _ (by rw [hel]; simp))
    obtain ⟨nx, ny⟩ := okN_x hn hf (by omega) h15
    have hv : foldV e = apR e.op e.x.n e.y.n := by
      unfold foldV
      rw [if_neg (by omega), if_neg (by omega), if_neg (by omega)]
    rw [hv]
    have := ieval_two e.op e.x.n e.y.n nx.n ny.n (by omega) h15
    rwa [← cx, ← cy, ← he] at this
  · obtain ⟨he, hx, _⟩ := form_one3 hf (by omega)
    have hel : e.l = [e.x] := by
      have := congrArg Ex.l he
      simpa using this
    have cx := form_con hx (hc _ (by rw [hel]; simp))
    have nx := (hn.l e.x (by rw [hel]; simp)).n
    have hw : e.op = 19 → e.wd = 1 ∨ e.wd = 2 := fun h => by
      obtain ⟨_, _, _, hw⟩ := form_wide hf (.inr h)
      omega
    have := ieval_one e.op e.wd e.x.n nx (by omega)
    rwa [← cx, ← he] at this
theorem iexprF_af {e : Ex} (hf : formB e = true) (hs : shalB 64 e = true) (hn : OkN e) (h18 : e.op ≠ 18) (hl : e.l ≠ []) (hc : ∀ x ∈ e.l, x.op = 1) :
    AF Tryz.prog 223 [exA e, .agg [.d (.v (.slice none 0 0))], noMem] (.tup [aU (foldV e), aI .i64 0]) := by
  refine af_of Tryz.func223 rfl (by kernel_rfl) (by simp [Tryz.ntmps223]) fun _ => ?_; simp [Tryz.f223, Ex.d_eq]
  refine aCall_of (check_af e) (by simp) (by simp [Ex.d_eq]) ?_; simp [Ex.d_eq]
  simp [hs, hf]
  refine aCall_of (ieval_fold hf hn h18 hl hc) (by simp) (by simp [Ex.d_eq]) ?_; simp [Ex.d_eq]
theorem shal_con {e : Ex} (hf : formB e = true) (hc : ∀ x ∈ e.l, x.op = 1) : shalB 64 e = true := by
  rw [shal_iff]
  have hd : e.depth = Ex.depths e.l + 1 := by obtain ⟨o, n, v, w, l⟩ := e; simp [Ex.depth]
  have : ∀ l : List Ex, (∀ x ∈ l, formB x = true ∧ x.op = 1) → Ex.depths l ≤ 1 := by
    intro l
    induction l with
    | nil => intro _; simp [Ex.depths]
    | cons a l ih =>
      intro h
      have h1 := ih fun x hx => h x (by simp [hx])
      obtain ⟨h2, h3⟩ := h a (by simp)
      have := (form_con' h2 h3).2.2.2
      simp only [Ex.depths]
      omega
  have := this e.l fun x hx => ⟨(form_all hf).2 x hx, hc x hx⟩
  omega
theorem smconstants_af (e : Ex) (hf : formB e = true) (hn : OkN e) : AF Tryz.prog 181 [exA e] (oA e (sFold e)) := by
  have hlen := e.nodes_len
  unfold sFold
  by_cases h18 : e.op = 18
  · refine af_of Tryz.func181 rfl (by kernel_rfl) (by simp [Tryz.ntmps181]) fun _ => ?_; simp [Tryz.f181, Ex.d_eq]
    simp [h18]
  by_cases hl : e.l = []
  · refine af_of Tryz.func181 rfl (by kernel_rfl) (by simp [Tryz.ntmps181]) fun _ => ?_; simp [Tryz.f181, Ex.d_eq]
    simp [h18, hl]
  have hl0 : 0 < e.l.length := List.length_pos_iff.2 hl
  have hlm : e.l.length ≤ 2 := by
    have hop := form_op hf
    have h1 := (form_all hf).1
    by_cases h1' : e.op = 1
    · rw [h1', okE_con] at h1; omega
    by_cases h2' : e.op = 2
    · rw [h2', okE_var] at h1; omega
    by_cases h15 : e.op ≤ 15
    · rw [okE_two (by omega) h15] at h1; omega
    · have := (form_one3 hf (by omega)).1
      have := congrArg Ex.l this
      simp at this
      rw [this]; simp
  simp only [h18, hl, false_or]
  obtain ⟨R, hR⟩ : ∃ R, (if (e.l.all fun x => decide (x.op = 1)) = false then none else some (eCon (foldV e))) = R := ⟨_, rfl⟩
  rw [hR]
  refine af_of Tryz.func181 rfl (by kernel_rfl) (by simp [Tryz.ntmps181]) fun _ => ?_; simp [Tryz.f181, Ex.d_eq]
  simp [h18, hl]
  refine aLoop_of (α := Nat) (fun i g A => i ≤ e.l.length ∧ (∃ N : AHeap, A = exC e :: nilC :: N) ∧ (e.l.take i).all (fun x => decide (x.op = 1)) = true ∧
    g 21 = aI .i64 i ∧ g 20 = aI .i64 e.l.length ∧ g 19 = .d (.sl 5 (Ex.ds e.l)) ∧ g 1 = .ptr 0 0 0 0 ∧ g 2 = .ptr 1 0 0 0) (fun i => e.l.length - i) 0 (Sub.refl _ _ _) ⟨by omega, ⟨[], by simp⟩, by simp, by simp, by simp, by simp, by simp, by simp⟩ ?_
  rintro i g A ⟨hi, ⟨N, rfl⟩, hall, e21, e20, e19, e1, e2⟩ K hK
  rcases Nat.lt_or_ge i e.l.length with hlt | hge
  case inr =>
    obtain rfl : i = e.l.length := by omega
    rw [List.take_length] at hall
    rw [if_neg (by rw [hall]; simp)] at hR
    subst hR
    simp [e21, e20, e1, e2]
    have hc : ∀ x ∈ e.l, x.op = 1 := by simpa [List.all_eq_true] using hall
    refine aCall_of (iexprF_af hf (shal_con hf hc) hn h18 hl hc) (by simp) (by simp [Ex.d_eq]) ?_; simp [Ex.d_eq]
    refine aCall_of (const_af (foldV e)) (by simp) (by simp [Ex.d_eq]) ?_; simp [Ex.d_eq]
    simp [e2]
  obtain ⟨y, hy⟩ : ∃ y, e.l[i]? = some y := ⟨_, List.getElem?_eq_getElem hlt⟩
  have hy2 := (List.getElem?_eq_some_iff.1 hy).2
  have hall' : (e.l.take (i + 1)).all (fun x => decide (x.op = 1)) = decide (y.op = 1) := by
    rw [List.take_add_one, hy, List.all_append, hall]
    simp
  by_cases h1 : y.op = 1
  case neg =>
    have : (e.l.all fun x => decide (x.op = 1)) = false := by
      rw [List.all_eq_false]
      exact ⟨y, List.mem_of_getElem? hy, by simp [h1]⟩
    rw [if_pos this] at hR
    subst hR
    simp [e21, e20, e19, e1, e2, hlt, hy, hy2, Ex.d_eq, h1]
  simp [e21, e20, e19, e1, e2, hlt, hy, hy2, Ex.d_eq, h1, succ_wrap hlt (show e.l.length ≤ maxLen by unfold maxLen; omega)]
  refine hK (i + 1) _ _ _ _ (Sub.refl _ _ _) ⟨by omega, ⟨_, by simp; rfl⟩, by rw [hall']; simp [h1], by simp, by simp [e20], by simp [e19], by simp [e1], by simp [e2]⟩ (by omega)
end Go.Proofs.YtlidimmfpfockaaGreatDoor

/- Contracts: simplify's rules for two operands: neutral, grouped. -/
namespace Go.Proofs.YtlidimmfpfockaaGreatDoor
open Go.RowKit
def sNeu (op : Int) (x y : Ex) : Option Ex :=
  if y.op = 1 ∧ ((op = 3 ∨ op = 7 ∨ op = 8) ∧ y.n = 0 ∨ op = 5 ∧ y.n = 1 ∨ op = 6 ∧ y.n = all32 ∨ (op = 9 ∨ op = 10 ∨ op = 11) ∧ y.n % 32 = 0) then some x
  else if (op = 5 ∨ op = 6) ∧ isB y 0 = true ∧ safeB x = true then some (eCon 0)
  else if (op = 9 ∨ op = 10 ∨ op = 11) ∧ isB x 0 = true ∧ safeB y = true then some (eCon 0)
  else if op = 7 ∧ isB y all32 = true ∧ safeB x = true then some (eCon all32) else none
theorem if_congr' {α : Type} {b c : Prop} [Decidable b] [Decidable c] {x y : α} (h : b ↔ c) : (if b then x else y) = if c then x else y := by
  by_cases hc : c
  · rw [if_pos hc, if_pos (h.2 hc)]
  · rw [if_neg hc, if_neg (fun hb => hc (h.1 hb))]
set_option maxHeartbeats 1000000 in
set_option maxRecDepth 8000 in
theorem smneutral_af (op : Int) (x y : Ex) (hy : formB y = true) (ny : R32 y.n) (sx : x.nodes ≤ 1000000000) (sy : y.nodes ≤ 1000000000) :
    AF Tryz.prog 226 [aI .i64 op, exA x, exA y] (oA eNil (sNeu op x y)) := by
  have htm : y.n.tmod 32 = y.n % 32 := Int.tmod_eq_emod_of_nonneg ny.1
  obtain ⟨R, hR⟩ : ∃ R, sNeu op x y = R := ⟨_, rfl⟩
  rw [hR]
  unfold sNeu at hR
  rcases (show op = 3 ∨ op = 8 ∨ op = 7 ∨ op = 5 ∨ op = 6 ∨ op = 9 ∨ op = 10 ∨ op = 11 ∨ (op ≠ 3 ∧ op ≠ 5 ∧ op ≠ 6 ∧ op ≠ 7 ∧ op ≠ 8 ∧ op ≠ 9 ∧ op ≠ 10 ∧ op ≠ 11) by omega) with rfl | rfl | rfl | rfl | rfl | rfl | rfl | rfl | ⟨o3, o5, o6, o7, o8, o9, o10, o11⟩
  · refine af_of Tryz.func226 rfl (by kernel_rfl) (by simp [Tryz.ntmps226]) fun _ => ?_; simp [Tryz.f226, Ex.d_eq]
    refine aCall_of (smnumber_af y) (by simp) (by simp [Ex.d_eq]) ?_; simp [Ex.d_eq]
    by_cases h1 : y.op = 1
    · obtain ⟨m, rfl⟩ : ∃ m, y = eCon m := ⟨_, form_con hy h1⟩
      have htm' : m.tmod 32 = m % 32 := htm
      by_cases h2 : m = 0
      · simp [h2]
        rw [← hR]
        simp [h2]
      · simp [h2]
        rw [← hR]
        simp [h2]
    · simp [h1]
      rw [← hR]
      simp [h1]
  · refine af_of Tryz.func226 rfl (by kernel_rfl) (by simp [Tryz.ntmps226]) fun _ => ?_; simp [Tryz.f226, Ex.d_eq]
    refine aCall_of (smnumber_af y) (by simp) (by simp [Ex.d_eq]) ?_; simp [Ex.d_eq]
    by_cases h1 : y.op = 1
    · obtain ⟨m, rfl⟩ : ∃ m, y = eCon m := ⟨_, form_con hy h1⟩
      have htm' : m.tmod 32 = m % 32 := htm
      by_cases h2 : m = 0
      · simp [h2]
        rw [← hR]
        simp [h2]
      · simp [h2]
        rw [← hR]
        simp [h2]
    · simp [h1]
      rw [← hR]
      simp [h1]
  · refine af_of Tryz.func226 rfl (by kernel_rfl) (by simp [Tryz.ntmps226]) fun _ => ?_; simp [Tryz.f226, Ex.d_eq]
    refine aCall_of (smnumber_af y) (by simp) (by simp [Ex.d_eq]) ?_; simp [Ex.d_eq]
    by_cases h1 : y.op = 1
    · obtain ⟨m, rfl⟩ : ∃ m, y = eCon m := ⟨_, form_con hy h1⟩
      have htm' : m.tmod 32 = m % 32 := htm
      by_cases h2 : m = 0
      · simp [h2]
        rw [← hR]
        simp [h2]
      · simp [h2]
        refine aCall_of (smis_af (eCon m) 4294967295) (by simp) (by simp [Ex.d_eq]) ?_; simp [Ex.d_eq]
        cases h3 : isB (eCon m) 4294967295
        · simp
          rw [← hR]
          simp [h2, h3, all32]
        · simp
          refine aCall_of (smsafe_af x sx) (by simp) (by simp [Ex.d_eq]) ?_; simp [Ex.d_eq]
          cases h4 : safeB x
          · simp
            rw [← hR]
            simp [h2, h3, h4, all32]
          · simp
            rw [← hR]
            have hc := (isB_iff.1 h3).2
            simp at hc
            subst hc
            simp [h2, h3, h4, all32]
    · simp [h1]
      refine aCall_of (smis_af y 4294967295) (by simp) (by simp [Ex.d_eq]) ?_; simp [Ex.d_eq]
      cases h3 : isB y 4294967295
      · simp
        rw [← hR]
        simp [h1, h3, all32]
      · simp
        refine aCall_of (smsafe_af x sx) (by simp) (by simp [Ex.d_eq]) ?_; simp [Ex.d_eq]
        cases h4 : safeB x
        · simp
          rw [← hR]
          simp [h1, h3, h4, all32]
        · simp
          rw [← hR]
          exact absurd (isB_iff.1 h3).1 h1
  · refine af_of Tryz.func226 rfl (by kernel_rfl) (by simp [Tryz.ntmps226]) fun _ => ?_; simp [Tryz.f226, Ex.d_eq]
    refine aCall_of (smnumber_af y) (by simp) (by simp [Ex.d_eq]) ?_; simp [Ex.d_eq]
    by_cases h1 : y.op = 1
    · obtain ⟨m, rfl⟩ : ∃ m, y = eCon m := ⟨_, form_con hy h1⟩
      have htm' : m.tmod 32 = m % 32 := htm
      by_cases h2 : m = 1
      · simp [h2]
        rw [← hR]
        simp [h2]
      · simp [h2]
        refine aCall_of (smis_af (eCon m) 0) (by simp) (by simp [Ex.d_eq]) ?_; simp [Ex.d_eq]
        cases h3 : isB (eCon m) 0
        · simp
          rw [← hR]
          simp [h2, h3, all32]
        · simp
          refine aCall_of (smsafe_af x sx) (by simp) (by simp [Ex.d_eq]) ?_; simp [Ex.d_eq]
          cases h4 : safeB x
          · simp
            rw [← hR]
            simp [h2, h3, h4, all32]
          · simp
            refine aCall_of (const_af 0) (by simp) (by simp [Ex.d_eq]) ?_; simp [Ex.d_eq]
            rw [← hR]
            simp [h2, h3, h4]
    · simp [h1]
      refine aCall_of (smis_af y 0) (by simp) (by simp [Ex.d_eq]) ?_; simp [Ex.d_eq]
      cases h3 : isB y 0
      · simp
        rw [← hR]
        simp [h1, h3, all32]
      · simp
        refine aCall_of (smsafe_af x sx) (by simp) (by simp [Ex.d_eq]) ?_; simp [Ex.d_eq]
        cases h4 : safeB x
        · simp
          rw [← hR]
          simp [h1, h3, h4, all32]
        · simp
          refine aCall_of (const_af 0) (by simp) (by simp [Ex.d_eq]) ?_; simp [Ex.d_eq]
          rw [← hR]
          simp [h1, h3, h4]
  · refine af_of Tryz.func226 rfl (by kernel_rfl) (by simp [Tryz.ntmps226]) fun _ => ?_; simp [Tryz.f226, Ex.d_eq]
    refine aCall_of (smnumber_af y) (by simp) (by simp [Ex.d_eq]) ?_; simp [Ex.d_eq]
    by_cases h1 : y.op = 1
    · obtain ⟨m, rfl⟩ : ∃ m, y = eCon m := ⟨_, form_con hy h1⟩
      have htm' : m.tmod 32 = m % 32 := htm
      by_cases h2 : m = all32
      · simp [h2, all32]
        rw [← hR]
        simp [h2]
      · simp [h2, all32]
        refine aCall_of (smis_af (eCon m) 0) (by simp) (by simp [Ex.d_eq]) ?_; simp [Ex.d_eq]
        cases h3 : isB (eCon m) 0
        · simp
          rw [← hR]
          simp [h2, h3, all32]
        · simp
          refine aCall_of (smsafe_af x sx) (by simp) (by simp [Ex.d_eq]) ?_; simp [Ex.d_eq]
          cases h4 : safeB x
          · simp
            rw [← hR]
            simp [h2, h3, h4, all32]
          · simp
            refine aCall_of (const_af 0) (by simp) (by simp [Ex.d_eq]) ?_; simp [Ex.d_eq]
            rw [← hR]
            simp [h2, h3, h4]
    · simp [h1]
      refine aCall_of (smis_af y 0) (by simp) (by simp [Ex.d_eq]) ?_; simp [Ex.d_eq]
      cases h3 : isB y 0
      · simp
        rw [← hR]
        simp [h1, h3, all32]
      · simp
        refine aCall_of (smsafe_af x sx) (by simp) (by simp [Ex.d_eq]) ?_; simp [Ex.d_eq]
        cases h4 : safeB x
        · simp
          rw [← hR]
          simp [h1, h3, h4, all32]
        · simp
          refine aCall_of (const_af 0) (by simp) (by simp [Ex.d_eq]) ?_; simp [Ex.d_eq]
          rw [← hR]
          simp [h1, h3, h4]
  · refine af_of Tryz.func226 rfl (by kernel_rfl) (by simp [Tryz.ntmps226]) fun _ => ?_; simp [Tryz.f226, Ex.d_eq]
    refine aCall_of (smnumber_af y) (by simp) (by simp [Ex.d_eq]) ?_; simp [Ex.d_eq]
    by_cases h1 : y.op = 1
    · obtain ⟨m, rfl⟩ : ∃ m, y = eCon m := ⟨_, form_con hy h1⟩
      have htm' : m.tmod 32 = m % 32 := htm
      by_cases h2 : m % 32 = 0
      · simp [h2, htm']
        rw [← hR]
        simp [h2]
      · simp [h2, htm']
        refine aCall_of (smis_af x 0) (by simp) (by simp [Ex.d_eq]) ?_; simp [Ex.d_eq]
        cases h3 : isB x 0
        · simp
          rw [← hR]
          simp [h2, h3]
        · simp
          refine aCall_of (smsafe_af (eCon m) sy) (by simp) (by simp [Ex.d_eq]) ?_; simp [Ex.d_eq]
          cases h4 : safeB (eCon m)
          · simp
            rw [← hR]
            simp [h2, h3, h4]
          · simp
            refine aCall_of (const_af 0) (by simp) (by simp [Ex.d_eq]) ?_; simp [Ex.d_eq]
            rw [← hR]
            simp [h2, h3, h4]
    · simp [h1]
      refine aCall_of (smis_af x 0) (by simp) (by simp [Ex.d_eq]) ?_; simp [Ex.d_eq]
      cases h3 : isB x 0
      · simp
        rw [← hR]
        simp [h1, h3]
      · simp
        refine aCall_of (smsafe_af y sy) (by simp) (by simp [Ex.d_eq]) ?_; simp [Ex.d_eq]
        cases h4 : safeB y
        · simp
          rw [← hR]
          simp [h1, h3, h4]
        · simp
          refine aCall_of (const_af 0) (by simp) (by simp [Ex.d_eq]) ?_; simp [Ex.d_eq]
          rw [← hR]
          simp [h1, h3, h4]
  · refine af_of Tryz.func226 rfl (by kernel_rfl) (by simp [Tryz.ntmps226]) fun _ => ?_; simp [Tryz.f226, Ex.d_eq]
    refine aCall_of (smnumber_af y) (by simp) (by simp [Ex.d_eq]) ?_; simp [Ex.d_eq]
    by_cases h1 : y.op = 1
    · obtain ⟨m, rfl⟩ : ∃ m, y = eCon m := ⟨_, form_con hy h1⟩
      have htm' : m.tmod 32 = m % 32 := htm
      by_cases h2 : m % 32 = 0
      · simp [h2, htm']
        rw [← hR]
        simp [h2]
      · simp [h2, htm']
        refine aCall_of (smis_af x 0) (by simp) (by simp [Ex.d_eq]) ?_; simp [Ex.d_eq]
        cases h3 : isB x 0
        · simp
          rw [← hR]
          simp [h2, h3]
        · simp
          refine aCall_of (smsafe_af (eCon m) sy) (by simp) (by simp [Ex.d_eq]) ?_; simp [Ex.d_eq]
          cases h4 : safeB (eCon m)
          · simp
            rw [← hR]
            simp [h2, h3, h4]
          · simp
            refine aCall_of (const_af 0) (by simp) (by simp [Ex.d_eq]) ?_; simp [Ex.d_eq]
            rw [← hR]
            simp [h2, h3, h4]
    · simp [h1]
      refine aCall_of (smis_af x 0) (by simp) (by simp [Ex.d_eq]) ?_; simp [Ex.d_eq]
      cases h3 : isB x 0
      · simp
        rw [← hR]
        simp [h1, h3]
      · simp
        refine aCall_of (smsafe_af y sy) (by simp) (by simp [Ex.d_eq]) ?_; simp [Ex.d_eq]
        cases h4 : safeB y
        · simp
          rw [← hR]
          simp [h1, h3, h4]
        · simp
          refine aCall_of (const_af 0) (by simp) (by simp [Ex.d_eq]) ?_; simp [Ex.d_eq]
          rw [← hR]
          simp [h1, h3, h4]
  · refine af_of Tryz.func226 rfl (by kernel_rfl) (by simp [Tryz.ntmps226]) fun _ => ?_; simp [Tryz.f226, Ex.d_eq]
    refine aCall_of (smnumber_af y) (by simp) (by simp [Ex.d_eq]) ?_; simp [Ex.d_eq]
    by_cases h1 : y.op = 1
    · obtain ⟨m, rfl⟩ : ∃ m, y = eCon m := ⟨_, form_con hy h1⟩
      have htm' : m.tmod 32 = m % 32 := htm
      by_cases h2 : m % 32 = 0
      · simp [h2, htm']
        rw [← hR]
        simp [h2]
      · simp [h2, htm']
        refine aCall_of (smis_af x 0) (by simp) (by simp [Ex.d_eq]) ?_; simp [Ex.d_eq]
        cases h3 : isB x 0
        · simp
          rw [← hR]
          simp [h2, h3]
        · simp
          refine aCall_of (smsafe_af (eCon m) sy) (by simp) (by simp [Ex.d_eq]) ?_; simp [Ex.d_eq]
          cases h4 : safeB (eCon m)
          · simp
            rw [← hR]
            simp [h2, h3, h4]
          · simp
            refine aCall_of (const_af 0) (by simp) (by simp [Ex.d_eq]) ?_; simp [Ex.d_eq]
            rw [← hR]
            simp [h2, h3, h4]
    · simp [h1]
      refine aCall_of (smis_af x 0) (by simp) (by simp [Ex.d_eq]) ?_; simp [Ex.d_eq]
      cases h3 : isB x 0
      · simp
        rw [← hR]
        simp [h1, h3]
      · simp
        refine aCall_of (smsafe_af y sy) (by simp) (by simp [Ex.d_eq]) ?_; simp [Ex.d_eq]
        cases h4 : safeB y
        · simp
          rw [← hR]
          simp [h1, h3, h4]
        · simp
          refine aCall_of (const_af 0) (by simp) (by simp [Ex.d_eq]) ?_; simp [Ex.d_eq]
          rw [← hR]
          simp [h1, h3, h4]
  · refine af_of Tryz.func226 rfl (by kernel_rfl) (by simp [Tryz.ntmps226]) fun _ => ?_; simp [Tryz.f226, Ex.d_eq]
    refine aCall_of (smnumber_af y) (by simp) (by simp [Ex.d_eq]) ?_; simp [Ex.d_eq]
    have hR' : R = none := by
      rw [← hR, if_neg (fun h => by have := h.2; omega), if_neg (fun h => by have := h.1; omega), if_neg (fun h => by have := h.1; omega), if_neg (fun h => by have := h.1; omega)]
    subst hR'
    clear hR
    by_cases h1 : y.op = 1
    · simp [h1, o3, o5, o6, o7, o8, o9, o10, o11]
    · simp [h1, o5, o6, o7, o9, o10, o11]
def sGrp (op : Int) (x y : Ex) : Option Ex := if y.op = 1 ∧ comB op = true ∧ x.op = op ∧ x.y.op = 1 then some (eTwo op x.x (eCon (apR op x.y.n y.n))) else none
theorem split_two {x : Ex} {op : Int} (hx : formB x = true) (h : x.op = op) (h3 : 3 ≤ op) (h15 : op ≤ 15) : splitR x op = .tup [exA x.x, aI .u32 x.y.n, aB (decide (x.y.op = 1))] := by
  obtain ⟨a, b, rfl, _⟩ := form_two' hx h h3 h15
  simp [splitR]
theorem split_no {x : Ex} {op : Int} (h : x.op ≠ op) : splitR x op = .tup [exA eNil, aI .u32 0, aB false] := by simp [splitR, h]
theorem smgrouped_af (op : Int) (x y : Ex) (hx : formB x = true) (sx : x.nodes ≤ 1000000000) (h3 : 3 ≤ op) (h15 : op ≤ 15) :
    AF Tryz.prog 227 [aI .i64 op, exA x, exA y] (oA eNil (sGrp op x y)) := by
  obtain ⟨R, hR⟩ : ∃ R, sGrp op x y = R := ⟨_, rfl⟩
  rw [hR]
  unfold sGrp at hR
  refine af_of Tryz.func227 rfl (by kernel_rfl) (by simp [Tryz.ntmps227]) fun _ => ?_; simp [Tryz.f227, Ex.d_eq]
  refine aCall_of (smnumber_af y) (by simp) (by simp [Ex.d_eq]) ?_; simp [Ex.d_eq]
  by_cases h1 : y.op = 1
  case neg =>
    simp [h1]
    rw [← hR]
    simp [h1]
  simp [h1]
  have hsp := smsplit_af x op
  by_cases h2 : x.op = op
  case neg =>
    rw [split_no h2] at hsp
    refine aCall_of (hsp) (by simp) (by simp [Ex.d_eq]) ?_; simp [Ex.d_eq]
    rw [← hR]
    simp [h2]
  obtain ⟨hxx, hxy, _, hxn, _⟩ := form_two3 hx (by omega) (by omega)
  rw [split_two hx h2 h3 h15] at hsp
  refine aCall_of (hsp) (by simp) (by simp [Ex.d_eq]) ?_; simp [Ex.d_eq]
  by_cases h4 : x.y.op = 1
  case neg =>
    simp [h4]
    rw [← hR]
    simp [h4]
  simp [h4]
  rw [if_congr' (c := comB op = true) (by simp [h1, h2, h4])] at hR
  subst hR
  rcases (show op = 3 ∨ op = 5 ∨ op = 6 ∨ op = 7 ∨ op = 8 ∨ (op ≠ 3 ∧ op ≠ 5 ∧ op ≠ 6 ∧ op ≠ 7 ∧ op ≠ 8) by omega) with rfl | rfl | rfl | rfl | rfl | ⟨o3, o5, o6, o7, o8⟩
  · simp [comB]
    rw [show apR 3 x.y.n y.n = IntKind.u32.wrap (x.y.n + y.n) from by simp [apR, u32e]]
    refine adraw [] (by kernel_rfl) (by kernel_rfl) (by kernel_rfl) (by kernel_rfl) ?_; simp [Ex.d_eq]
    refine adC_of (const_af (IntKind.u32.wrap (x.y.n + y.n))) (by simp) trivial (by simp) (by simp [Ex.d_eq]) ?_; simp [Ex.d_eq]
    refine adC_of (two_af 3 x.x (eCon (IntKind.u32.wrap (x.y.n + y.n))) (by omega) (by simp)) (by simp) trivial (by simp) (by simp [Ex.d_eq]) ?_; simp [Ex.d_eq]
  · simp [comB]
    rw [show apR 5 x.y.n y.n = IntKind.u32.wrap (x.y.n * y.n) from by simp [apR, u32e]]
    refine adraw [] (by kernel_rfl) (by kernel_rfl) (by kernel_rfl) (by kernel_rfl) ?_; simp [Ex.d_eq]
    refine adC_of (const_af (IntKind.u32.wrap (x.y.n * y.n))) (by simp) trivial (by simp) (by simp [Ex.d_eq]) ?_; simp [Ex.d_eq]
    refine adC_of (two_af 5 x.x (eCon (IntKind.u32.wrap (x.y.n * y.n))) (by omega) (by simp)) (by simp) trivial (by simp) (by simp [Ex.d_eq]) ?_; simp [Ex.d_eq]
  · simp [comB]
    rw [show apR 6 x.y.n y.n = andI .u32 x.y.n y.n from by simp [apR, u32e]]
    refine adraw [] (by kernel_rfl) (by kernel_rfl) (by kernel_rfl) (by kernel_rfl) ?_; simp [Ex.d_eq]
    refine adC_of (const_af (andI .u32 x.y.n y.n)) (by simp) trivial (by simp) (by simp [Ex.d_eq]) ?_; simp [Ex.d_eq]
    refine adC_of (two_af 6 x.x (eCon (andI .u32 x.y.n y.n)) (by omega) (by simp)) (by simp) trivial (by simp) (by simp [Ex.d_eq]) ?_; simp [Ex.d_eq]
  · simp [comB]
    rw [show apR 7 x.y.n y.n = orI .u32 x.y.n y.n from by simp [apR, u32e]]
    refine adraw [] (by kernel_rfl) (by kernel_rfl) (by kernel_rfl) (by kernel_rfl) ?_; simp [Ex.d_eq]
    refine adC_of (const_af (orI .u32 x.y.n y.n)) (by simp) trivial (by simp) (by simp [Ex.d_eq]) ?_; simp [Ex.d_eq]
    refine adC_of (two_af 7 x.x (eCon (orI .u32 x.y.n y.n)) (by omega) (by simp)) (by simp) trivial (by simp) (by simp [Ex.d_eq]) ?_; simp [Ex.d_eq]
  · simp [comB]
    rw [show apR 8 x.y.n y.n = xorI .u32 x.y.n y.n from by simp [apR, u32e]]
    refine adraw [] (by kernel_rfl) (by kernel_rfl) (by kernel_rfl) (by kernel_rfl) ?_; simp [Ex.d_eq]
    refine adC_of (const_af (xorI .u32 x.y.n y.n)) (by simp) trivial (by simp) (by simp [Ex.d_eq]) ?_; simp [Ex.d_eq]
    refine adC_of (two_af 8 x.x (eCon (xorI .u32 x.y.n y.n)) (by omega) (by simp)) (by simp) trivial (by simp) (by simp [Ex.d_eq]) ?_; simp [Ex.d_eq]
  · simp [comB, o3, o5, o6, o7, o8]
end Go.Proofs.YtlidimmfpfockaaGreatDoor

/- Contracts: simplify's rules for two operands: equal, truth, moved, below. -/
namespace Go.Proofs.YtlidimmfpfockaaGreatDoor
open Go.RowKit
set_option maxRecDepth 8000 in
theorem smequal_af (op : Int) (x y : Ex) (sx : x.nodes ≤ 1000000000) : ∃ j, AF Tryz.prog 228 [aI .i64 op, exA x, exA y] (oA j (sSame op x y)) := by
  unfold sSame
  cases hs : sameB x y
  · refine ⟨eNil, ?_⟩
    refine af_of Tryz.func228 rfl (by kernel_rfl) (by simp [Tryz.ntmps228]) fun _ => ?_; simp [Tryz.f228, Ex.d_eq]
    refine aCall_of (same_af x y) (by simp) (by simp [Ex.d_eq]) ?_; simp [Ex.d_eq]
    simp [hs]
  rcases (show op = 4 ∨ op = 8 ∨ op = 13 ∨ op = 15 ∨ op = 14 ∨ op = 12 ∨ op = 6 ∨ op = 7 ∨ (op ≠ 4 ∧ op ≠ 8 ∧ op ≠ 13 ∧ op ≠ 15 ∧ op ≠ 14 ∧ op ≠ 12 ∧ op ≠ 6 ∧ op ≠ 7) by omega) with rfl | rfl | rfl | rfl | rfl | rfl | rfl | rfl | ⟨o4, o8, o13, o15, o14, o12, o6, o7⟩
  · refine ⟨eCon 0, ?_⟩
    refine af_of Tryz.func228 rfl (by kernel_rfl) (by simp [Tryz.ntmps228]) fun _ => ?_; simp [Tryz.f228, Ex.d_eq]
    refine aCall_of (same_af x y) (by simp) (by simp [Ex.d_eq]) ?_; simp [Ex.d_eq]
    simp [hs]
    refine adraw [] (by kernel_rfl) (by kernel_rfl) (by kernel_rfl) (by kernel_rfl) ?_; simp [Ex.d_eq]
    refine adC_of (const_af 0) (by simp) trivial (by simp) (by simp [Ex.d_eq]) ?_; simp [Ex.d_eq]
    refine adC_of (smsafe_af x sx) (by simp) trivial (by simp) (by simp [Ex.d_eq]) ?_; simp [Ex.d_eq]
    cases hb : safeB x <;> simp
  · refine ⟨eCon 0, ?_⟩
    refine af_of Tryz.func228 rfl (by kernel_rfl) (by simp [Tryz.ntmps228]) fun _ => ?_; simp [Tryz.f228, Ex.d_eq]
    refine aCall_of (same_af x y) (by simp) (by simp [Ex.d_eq]) ?_; simp [Ex.d_eq]
    simp [hs]
    refine adraw [] (by kernel_rfl) (by kernel_rfl) (by kernel_rfl) (by kernel_rfl) ?_; simp [Ex.d_eq]
    refine adC_of (const_af 0) (by simp) trivial (by simp) (by simp [Ex.d_eq]) ?_; simp [Ex.d_eq]
    refine adC_of (smsafe_af x sx) (by simp) trivial (by simp) (by simp [Ex.d_eq]) ?_; simp [Ex.d_eq]
    cases hb : safeB x <;> simp
  · refine ⟨eCon 0, ?_⟩
    refine af_of Tryz.func228 rfl (by kernel_rfl) (by simp [Tryz.ntmps228]) fun _ => ?_; simp [Tryz.f228, Ex.d_eq]
    refine aCall_of (same_af x y) (by simp) (by simp [Ex.d_eq]) ?_; simp [Ex.d_eq]
    simp [hs]
    refine adraw [] (by kernel_rfl) (by kernel_rfl) (by kernel_rfl) (by kernel_rfl) ?_; simp [Ex.d_eq]
    refine adC_of (const_af 0) (by simp) trivial (by simp) (by simp [Ex.d_eq]) ?_; simp [Ex.d_eq]
    refine adC_of (smsafe_af x sx) (by simp) trivial (by simp) (by simp [Ex.d_eq]) ?_; simp [Ex.d_eq]
    cases hb : safeB x <;> simp
  · refine ⟨eCon 0, ?_⟩
    refine af_of Tryz.func228 rfl (by kernel_rfl) (by simp [Tryz.ntmps228]) fun _ => ?_; simp [Tryz.f228, Ex.d_eq]
    refine aCall_of (same_af x y) (by simp) (by simp [Ex.d_eq]) ?_; simp [Ex.d_eq]
    simp [hs]
    refine adraw [] (by kernel_rfl) (by kernel_rfl) (by kernel_rfl) (by kernel_rfl) ?_; simp [Ex.d_eq]
    refine adC_of (const_af 0) (by simp) trivial (by simp) (by simp [Ex.d_eq]) ?_; simp [Ex.d_eq]
    refine adC_of (smsafe_af x sx) (by simp) trivial (by simp) (by simp [Ex.d_eq]) ?_; simp [Ex.d_eq]
    cases hb : safeB x <;> simp
  · refine ⟨eCon 0, ?_⟩
    refine af_of Tryz.func228 rfl (by kernel_rfl) (by simp [Tryz.ntmps228]) fun _ => ?_; simp [Tryz.f228, Ex.d_eq]
    refine aCall_of (same_af x y) (by simp) (by simp [Ex.d_eq]) ?_; simp [Ex.d_eq]
    simp [hs]
    refine adraw [] (by kernel_rfl) (by kernel_rfl) (by kernel_rfl) (by kernel_rfl) ?_; simp [Ex.d_eq]
    refine adC_of (const_af 0) (by simp) trivial (by simp) (by simp [Ex.d_eq]) ?_; simp [Ex.d_eq]
    refine adC_of (smsafe_af x sx) (by simp) trivial (by simp) (by simp [Ex.d_eq]) ?_; simp [Ex.d_eq]
    cases hb : safeB x <;> simp
  · refine ⟨eCon 1, ?_⟩
    refine af_of Tryz.func228 rfl (by kernel_rfl) (by simp [Tryz.ntmps228]) fun _ => ?_; simp [Tryz.f228, Ex.d_eq]
    refine aCall_of (same_af x y) (by simp) (by simp [Ex.d_eq]) ?_; simp [Ex.d_eq]
    simp [hs]
    refine adraw [] (by kernel_rfl) (by kernel_rfl) (by kernel_rfl) (by kernel_rfl) ?_; simp [Ex.d_eq]
    refine adC_of (const_af 1) (by simp) trivial (by simp) (by simp [Ex.d_eq]) ?_; simp [Ex.d_eq]
    refine adC_of (smsafe_af x sx) (by simp) trivial (by simp) (by simp [Ex.d_eq]) ?_; simp [Ex.d_eq]
    cases hb : safeB x <;> simp
  · refine ⟨eNil, ?_⟩
    refine af_of Tryz.func228 rfl (by kernel_rfl) (by simp [Tryz.ntmps228]) fun _ => ?_; simp [Tryz.f228, Ex.d_eq]
    refine aCall_of (same_af x y) (by simp) (by simp [Ex.d_eq]) ?_; simp [Ex.d_eq]
    simp [hs]
  · refine ⟨eNil, ?_⟩
    refine af_of Tryz.func228 rfl (by kernel_rfl) (by simp [Tryz.ntmps228]) fun _ => ?_; simp [Tryz.f228, Ex.d_eq]
    refine aCall_of (same_af x y) (by simp) (by simp [Ex.d_eq]) ?_; simp [Ex.d_eq]
    simp [hs]
  · refine ⟨eNil, ?_⟩
    refine af_of Tryz.func228 rfl (by kernel_rfl) (by simp [Tryz.ntmps228]) fun _ => ?_; simp [Tryz.f228, Ex.d_eq]
    refine aCall_of (same_af x y) (by simp) (by simp [Ex.d_eq]) ?_; simp [Ex.d_eq]
    simp [hs, o4, o8, o13, o15, o14, o12, o6, o7]
theorem smtruth_af (op : Int) (x y : Ex) : AF Tryz.prog 229 [aI .i64 op, exA x, exA y] (oA eNil (sTruth op x y)) := by
  unfold sTruth
  rcases (show op = 12 ∨ op = 13 ∨ (op ≠ 12 ∧ op ≠ 13) by omega) with rfl | rfl | ⟨o12, o13⟩
  · refine af_of Tryz.func229 rfl (by kernel_rfl) (by simp [Tryz.ntmps229]) fun _ => ?_; simp [Tryz.f229, Ex.d_eq]
    refine aCall_of (smis_af y 0) (by simp) (by simp [Ex.d_eq]) ?_; simp [Ex.d_eq]
    cases h0 : isB y 0
    · simp
      refine aCall_of (smboolean_af x) (by simp) (by simp [Ex.d_eq]) ?_; simp [Ex.d_eq]
      cases hb : boolB x
      · simp
      · simp
        refine aCall_of (smis_af y 1) (by simp) (by simp [Ex.d_eq]) ?_; simp [Ex.d_eq]
        cases h1 : isB y 1 <;> simp
    · simp
      refine aCall_of (smone_af 16 x) (by simp) (by simp [Ex.d_eq]) ?_; simp [Ex.d_eq]
  · refine af_of Tryz.func229 rfl (by kernel_rfl) (by simp [Tryz.ntmps229]) fun _ => ?_; simp [Tryz.f229, Ex.d_eq]
    refine aCall_of (smboolean_af x) (by simp) (by simp [Ex.d_eq]) ?_; simp [Ex.d_eq]
    cases hb : boolB x
    · simp
    · simp
      refine aCall_of (smis_af y 0) (by simp) (by simp [Ex.d_eq]) ?_; simp [Ex.d_eq]
      cases h0 : isB y 0
      · simp
        refine aCall_of (smis_af y 1) (by simp) (by simp [Ex.d_eq]) ?_; simp [Ex.d_eq]
        cases h1 : isB y 1
        · simp
        · simp
          refine aCall_of (smone_af 16 x) (by simp) (by simp [Ex.d_eq]) ?_; simp [Ex.d_eq]
      · simp
  · refine af_of Tryz.func229 rfl (by kernel_rfl) (by simp [Tryz.ntmps229]) fun _ => ?_; simp [Tryz.f229, Ex.d_eq]
    simp [o12, o13]
    refine aCall_of (smboolean_af x) (by simp) (by simp [Ex.d_eq]) ?_; simp [Ex.d_eq]
    cases hb : boolB x <;> simp [o12, o13]
theorem smbelow_af (x y : Ex) (sx : x.nodes ≤ 1000000000) (sy : y.nodes ≤ 1000000000) : AF Tryz.prog 231 [exA x, exA y] (oA eNil (sBelow 15 x y)) := by
  unfold sBelow
  refine af_of Tryz.func231 rfl (by kernel_rfl) (by simp [Tryz.ntmps231]) fun _ => ?_; simp [Tryz.f231, Ex.d_eq]
  refine aCall_of (smis_af x 0) (by simp) (by simp [Ex.d_eq]) ?_; simp [Ex.d_eq]
  cases h0 : isB x 0
  · simp
    refine aCall_of (smis_af y 1) (by simp) (by simp [Ex.d_eq]) ?_; simp [Ex.d_eq]
    cases h1 : isB y 1
    · simp
      refine aCall_of (smis_af y 0) (by simp) (by simp [Ex.d_eq]) ?_; simp [Ex.d_eq]
      cases h2 : isB y 0
      · simp
      · simp
        refine aCall_of (smsafe_af x sx) (by simp) (by simp [Ex.d_eq]) ?_; simp [Ex.d_eq]
        cases h3 : safeB x
        · simp
        · simp
          refine aCall_of (const_af 0) (by simp) (by simp [Ex.d_eq]) ?_; simp [Ex.d_eq]
    · simp
      refine aCall_of (smone_af 16 x) (by simp) (by simp [Ex.d_eq]) ?_; simp [Ex.d_eq]
  · simp
    refine adraw [] (by kernel_rfl) (by kernel_rfl) (by kernel_rfl) (by kernel_rfl) ?_; simp [Ex.d_eq]
    refine adC_of (const_af 0) (by simp) trivial (by simp) (by simp [Ex.d_eq]) ?_; simp [Ex.d_eq]
    refine adC_of (two_af 13 y (eCon 0) sy (by simp)) (by simp) trivial (by simp) (by simp [Ex.d_eq]) ?_; simp [Ex.d_eq]
theorem smmoved_af (op : Int) (x y : Ex) (hx : formB x = true) (sx : x.nodes ≤ 1000000000) : AF Tryz.prog 230 [aI .i64 op, exA x, exA y] (oA eNil (sMove op x y)) := by
  obtain ⟨R, hR⟩ : ∃ R, sMove op x y = R := ⟨_, rfl⟩
  rw [hR]
  unfold sMove at hR
  have s3 := smsplit_af x 3
  have s8 := smsplit_af x 8
  rcases (show op = 12 ∨ op = 13 ∨ (op ≠ 12 ∧ op ≠ 13) by omega) with rfl | rfl | ⟨o12, o13⟩
  · refine af_of Tryz.func230 rfl (by kernel_rfl) (by simp [Tryz.ntmps230]) fun _ => ?_; simp [Tryz.f230, Ex.d_eq]
    refine aCall_of (smnumber_af y) (by simp) (by simp [Ex.d_eq]) ?_; simp [Ex.d_eq]
    by_cases h1 : y.op = 1
    case neg =>
      simp [h1]
      rw [← hR]
      simp [h1]
    simp [h1]
    by_cases k3 : x.op = 3
    · have g3 := s3
      rw [split_two hx k3 (by omega) (by omega)] at g3
      obtain ⟨_, _, _, hxn, _⟩ := form_two3 hx (by omega) (by omega)
      refine aCall_of (g3) (by simp) (by simp [Ex.d_eq]) ?_; simp [Ex.d_eq]
      by_cases h4 : x.y.op = 1
      · simp [h4]
        refine adraw [] (by kernel_rfl) (by kernel_rfl) (by kernel_rfl) (by kernel_rfl) ?_; simp [Ex.d_eq]
        refine adC_of (const_af (IntKind.u32.wrap (y.n - x.y.n))) (by simp) trivial (by simp) (by simp [Ex.d_eq]) ?_; simp [Ex.d_eq]
        refine adC_of (two_af 12 x.x (eCon (IntKind.u32.wrap (y.n - x.y.n))) (by omega) (by simp)) (by simp) trivial (by simp) (by simp [Ex.d_eq]) ?_; simp [Ex.d_eq]
        rw [← hR]
        simp [h1, k3, h4, u32e, Ex.d_eq]
      · simp [h4]
        have g8 := s8
        rw [split_no (by omega)] at g8
        refine aCall_of (g8) (by simp) (by simp [Ex.d_eq]) ?_; simp [Ex.d_eq]
        rw [← hR]
        simp [h1, k3, h4]
    · have g3 := s3
      rw [split_no k3] at g3
      refine aCall_of (g3) (by simp) (by simp [Ex.d_eq]) ?_; simp [Ex.d_eq]
      have g8 := s8
      by_cases k8 : x.op = 8
      · rw [split_two hx k8 (by omega) (by omega)] at g8
        obtain ⟨_, _, _, hxn, _⟩ := form_two3 hx (by omega) (by omega)
        refine aCall_of (g8) (by simp) (by simp [Ex.d_eq]) ?_; simp [Ex.d_eq]
        by_cases h4 : x.y.op = 1
        · simp [h4]
          refine adraw [] (by kernel_rfl) (by kernel_rfl) (by kernel_rfl) (by kernel_rfl) ?_; simp [Ex.d_eq]
          refine adC_of (const_af (xorI .u32 x.y.n y.n)) (by simp) trivial (by simp) (by simp [Ex.d_eq]) ?_; simp [Ex.d_eq]
          refine adC_of (two_af 12 x.x (eCon (xorI .u32 x.y.n y.n)) (by omega) (by simp)) (by simp) trivial (by simp) (by simp [Ex.d_eq]) ?_; simp [Ex.d_eq]
          rw [← hR]
          simp [h1, k8, h4, Ex.d_eq]
        · simp [h4]
          rw [← hR]
          simp [h1, k8, h4, Ex.d_eq]
      · rw [split_no k8] at g8
        refine aCall_of (g8) (by simp) (by simp [Ex.d_eq]) ?_; simp [Ex.d_eq]
        rw [← hR]
        simp [h1, k3, k8]
  · refine af_of Tryz.func230 rfl (by kernel_rfl) (by simp [Tryz.ntmps230]) fun _ => ?_; simp [Tryz.f230, Ex.d_eq]
    refine aCall_of (smis_af y 0) (by simp) (by simp [Ex.d_eq]) ?_; simp [Ex.d_eq]
    cases h0 : isB y 0
    · simp
      refine aCall_of (smnumber_af y) (by simp) (by simp [Ex.d_eq]) ?_; simp [Ex.d_eq]
      by_cases h1 : y.op = 1
      case neg =>
        simp [h1]
        rw [← hR]
        simp [h1, h0]
      simp [h1]
      by_cases k3 : x.op = 3
      · have g3 := s3
        rw [split_two hx k3 (by omega) (by omega)] at g3
        obtain ⟨_, _, _, hxn, _⟩ := form_two3 hx (by omega) (by omega)
        refine aCall_of (g3) (by simp) (by simp [Ex.d_eq]) ?_; simp [Ex.d_eq]
        by_cases h4 : x.y.op = 1
        · simp [h4]
          refine adraw [] (by kernel_rfl) (by kernel_rfl) (by kernel_rfl) (by kernel_rfl) ?_; simp [Ex.d_eq]
          refine adC_of (const_af (IntKind.u32.wrap (y.n - x.y.n))) (by simp) trivial (by simp) (by simp [Ex.d_eq]) ?_; simp [Ex.d_eq]
          refine adC_of (two_af 13 x.x (eCon (IntKind.u32.wrap (y.n - x.y.n))) (by omega) (by simp)) (by simp) trivial (by simp) (by simp [Ex.d_eq]) ?_; simp [Ex.d_eq]
          rw [← hR]
          simp [h1, k3, h4, u32e, Ex.d_eq, h0]
        · simp [h4]
          have g8 := s8
          rw [split_no (by omega)] at g8
          refine aCall_of (g8) (by simp) (by simp [Ex.d_eq]) ?_; simp [Ex.d_eq]
          rw [← hR]
          simp [h1, k3, h4, h0]
      · have g3 := s3
        rw [split_no k3] at g3
        refine aCall_of (g3) (by simp) (by simp [Ex.d_eq]) ?_; simp [Ex.d_eq]
        have g8 := s8
        by_cases k8 : x.op = 8
        · rw [split_two hx k8 (by omega) (by omega)] at g8
          obtain ⟨_, _, _, hxn, _⟩ := form_two3 hx (by omega) (by omega)
          refine aCall_of (g8) (by simp) (by simp [Ex.d_eq]) ?_; simp [Ex.d_eq]
          by_cases h4 : x.y.op = 1
          · simp [h4]
            refine adraw [] (by kernel_rfl) (by kernel_rfl) (by kernel_rfl) (by kernel_rfl) ?_; simp [Ex.d_eq]
            refine adC_of (const_af (xorI .u32 x.y.n y.n)) (by simp) trivial (by simp) (by simp [Ex.d_eq]) ?_; simp [Ex.d_eq]
            refine adC_of (two_af 13 x.x (eCon (xorI .u32 x.y.n y.n)) (by omega) (by simp)) (by simp) trivial (by simp) (by simp [Ex.d_eq]) ?_; simp [Ex.d_eq]
            rw [← hR]
            simp [h1, k8, h4, Ex.d_eq, h0]
          · simp [h4]
            rw [← hR]
            simp [h1, k8, h4, Ex.d_eq, h0]
        · rw [split_no k8] at g8
          refine aCall_of (g8) (by simp) (by simp [Ex.d_eq]) ?_; simp [Ex.d_eq]
          rw [← hR]
          simp [h1, k3, k8, h0]
    · by_cases k4 : x.op = 4
      · obtain ⟨a, b, rfl, ha, hb⟩ := form_two' hx k4 (by omega) (by omega)
        simp only [nodes_two] at sx
        simp
        refine adraw [] (by kernel_rfl) (by kernel_rfl) (by kernel_rfl) (by kernel_rfl) ?_; simp [Ex.d_eq]
        refine adC_of (two_af 13 a b (by omega) (by omega)) (by simp) trivial (by simp) (by simp [Ex.d_eq]) ?_; simp [Ex.d_eq]
        rw [← hR]
        simp [h0]
      by_cases k8 : x.op = 8
      · obtain ⟨a, b, rfl, ha, hb⟩ := form_two' hx k8 (by omega) (by omega)
        simp only [nodes_two] at sx
        simp
        refine adraw [] (by kernel_rfl) (by kernel_rfl) (by kernel_rfl) (by kernel_rfl) ?_; simp [Ex.d_eq]
        refine adC_of (two_af 13 a b (by omega) (by omega)) (by simp) trivial (by simp) (by simp [Ex.d_eq]) ?_; simp [Ex.d_eq]
        rw [← hR]
        simp [h0]
      simp [k4, k8]
      refine aCall_of (smnumber_af y) (by simp) (by simp [Ex.d_eq]) ?_; simp [Ex.d_eq]
      by_cases h1 : y.op = 1
      case neg =>
        simp [h1]
        rw [← hR]
        simp [h1, h0, k4, k8]
      simp [h1]
      by_cases k3 : x.op = 3
      · have g3 := s3
        rw [split_two hx k3 (by omega) (by omega)] at g3
        obtain ⟨_, _, _, hxn, _⟩ := form_two3 hx (by omega) (by omega)
        refine aCall_of (g3) (by simp) (by simp [Ex.d_eq]) ?_; simp [Ex.d_eq]
        by_cases h4 : x.y.op = 1
        · simp [h4]
          refine adraw [] (by kernel_rfl) (by kernel_rfl) (by kernel_rfl) (by kernel_rfl) ?_; simp [Ex.d_eq]
          refine adC_of (const_af (IntKind.u32.wrap (y.n - x.y.n))) (by simp) trivial (by simp) (by simp [Ex.d_eq]) ?_; simp [Ex.d_eq]
          refine adC_of (two_af 13 x.x (eCon (IntKind.u32.wrap (y.n - x.y.n))) (by omega) (by simp)) (by simp) trivial (by simp) (by simp [Ex.d_eq]) ?_; simp [Ex.d_eq]
          rw [← hR]
          simp [h1, k3, h4, u32e, Ex.d_eq, h0, k4, k8]
        · simp [h4]
          have g8 := s8
          rw [split_no (by omega)] at g8
          refine aCall_of (g8) (by simp) (by simp [Ex.d_eq]) ?_; simp [Ex.d_eq]
          rw [← hR]
          simp [h1, k3, h4, h0, k4, k8]
      · have g3 := s3
        rw [split_no k3] at g3
        refine aCall_of (g3) (by simp) (by simp [Ex.d_eq]) ?_; simp [Ex.d_eq]
        have g8 := s8
        rw [split_no k8] at g8
        refine aCall_of (g8) (by simp) (by simp [Ex.d_eq]) ?_; simp [Ex.d_eq]
        rw [← hR]
        simp [h1, k3, h0, k4, k8]
  · refine af_of Tryz.func230 rfl (by kernel_rfl) (by simp [Tryz.ntmps230]) fun _ => ?_; simp [Tryz.f230, Ex.d_eq]
    simp [o13]
    refine aCall_of (smnumber_af y) (by simp) (by simp [Ex.d_eq]) ?_; simp [Ex.d_eq]
    rw [if_neg (by omega), if_neg (by omega), if_neg (by omega)] at hR
    subst hR
    by_cases h1 : y.op = 1 <;> simp [h1, o12, o13]
end Go.Proofs.YtlidimmfpfockaaGreatDoor

/- Contracts: simplify's rules negated, signs, extended. -/
namespace Go.Proofs.YtlidimmfpfockaaGreatDoor
open Go.RowKit
set_option maxRecDepth 8000 in
theorem smnegated_af (x : Ex) (hx : formB x = true) (sx : x.nodes ≤ 1000000000) : AF Tryz.prog 184 [exA x] (oA eNil (sNot x)) := by
  have hop := form_op hx
  have s3 := smsplit_af x 3
  rcases (show x.op = 12 ∨ x.op = 13 ∨ x.op = 4 ∨ x.op = 8 ∨ x.op = 16 ∨ x.op = 3 ∨ (x.op ≠ 12 ∧ x.op ≠ 13 ∧ x.op ≠ 4 ∧ x.op ≠ 8 ∧ x.op ≠ 16 ∧ x.op ≠ 3) by omega) with k | k | k | k | k | k | ⟨k12, k13, k4, k8, k16, k3⟩
  · obtain ⟨a, b, rfl, ha, hb⟩ := form_two' hx k (by omega) (by omega)
    simp only [nodes_two] at sx
    refine af_of Tryz.func184 rfl (by kernel_rfl) (by simp [Tryz.ntmps184]) fun _ => ?_; simp [Tryz.f184, Ex.d_eq]
    refine adraw [] (by kernel_rfl) (by kernel_rfl) (by kernel_rfl) (by kernel_rfl) ?_; simp [Ex.d_eq]
    refine adC_of (two_af 13 a b (by omega) (by omega)) (by simp) trivial (by simp) (by simp [Ex.d_eq]) ?_; simp [Ex.d_eq]
    simp [sNot]
  · obtain ⟨a, b, rfl, ha, hb⟩ := form_two' hx k (by omega) (by omega)
    simp only [nodes_two] at sx
    refine af_of Tryz.func184 rfl (by kernel_rfl) (by simp [Tryz.ntmps184]) fun _ => ?_; simp [Tryz.f184, Ex.d_eq]
    refine adraw [] (by kernel_rfl) (by kernel_rfl) (by kernel_rfl) (by kernel_rfl) ?_; simp [Ex.d_eq]
    refine adC_of (two_af 12 a b (by omega) (by omega)) (by simp) trivial (by simp) (by simp [Ex.d_eq]) ?_; simp [Ex.d_eq]
    simp [sNot]
  · obtain ⟨a, b, rfl, ha, hb⟩ := form_two' hx k (by omega) (by omega)
    simp only [nodes_two] at sx
    refine af_of Tryz.func184 rfl (by kernel_rfl) (by simp [Tryz.ntmps184]) fun _ => ?_; simp [Tryz.f184, Ex.d_eq]
    refine adraw [] (by kernel_rfl) (by kernel_rfl) (by kernel_rfl) (by kernel_rfl) ?_; simp [Ex.d_eq]
    refine adC_of (two_af 12 a b (by omega) (by omega)) (by simp) trivial (by simp) (by simp [Ex.d_eq]) ?_; simp [Ex.d_eq]
    simp [sNot]
  · obtain ⟨a, b, rfl, ha, hb⟩ := form_two' hx k (by omega) (by omega)
    simp only [nodes_two] at sx
    refine af_of Tryz.func184 rfl (by kernel_rfl) (by simp [Tryz.ntmps184]) fun _ => ?_; simp [Tryz.f184, Ex.d_eq]
    refine adraw [] (by kernel_rfl) (by kernel_rfl) (by kernel_rfl) (by kernel_rfl) ?_; simp [Ex.d_eq]
    refine adC_of (two_af 12 a b (by omega) (by omega)) (by simp) trivial (by simp) (by simp [Ex.d_eq]) ?_; simp [Ex.d_eq]
    simp [sNot]
  · obtain ⟨a, ha', ha⟩ := form_one hx (.inl k)
    rw [k] at ha'
    subst ha'
    simp only [nodes_one] at sx
    refine af_of Tryz.func184 rfl (by kernel_rfl) (by simp [Tryz.ntmps184]) fun _ => ?_; simp [Tryz.f184, Ex.d_eq]
    refine aCall_of (smboolean_af a) (by simp) (by simp [Ex.d_eq]) ?_; simp [Ex.d_eq]
    cases hb : boolB a
    · simp
      refine adraw [] (by kernel_rfl) (by kernel_rfl) (by kernel_rfl) (by kernel_rfl) ?_; simp [Ex.d_eq]
      refine adC_of (const_af 0) (by simp) trivial (by simp) (by simp [Ex.d_eq]) ?_; simp [Ex.d_eq]
      refine adC_of (two_af 13 a (eCon 0) (by omega) (by simp)) (by simp) trivial (by simp) (by simp [Ex.d_eq]) ?_; simp [Ex.d_eq]
      simp [sNot, hb, Ex.d_eq]
    · simp [sNot, hb]
  · obtain ⟨a, b, rfl, ha, hb⟩ := form_two' hx k (by omega) (by omega)
    simp only [nodes_two] at sx
    rw [split_two hx k (by omega) (by omega)] at s3
    refine af_of Tryz.func184 rfl (by kernel_rfl) (by simp [Tryz.ntmps184]) fun _ => ?_; simp [Tryz.f184, Ex.d_eq]
    refine aCall_of (s3) (by simp) (by simp [Ex.d_eq]) ?_; simp [Ex.d_eq]
    by_cases h4 : b.op = 1
    · simp [h4]
      refine adraw [] (by kernel_rfl) (by kernel_rfl) (by kernel_rfl) (by kernel_rfl) ?_; simp [Ex.d_eq]
      refine adC_of (const_af (IntKind.u32.wrap (0 - b.n))) (by simp) trivial (by simp) (by simp [Ex.d_eq]) ?_; simp [Ex.d_eq]
      refine adC_of (two_af 12 a (eCon (IntKind.u32.wrap (0 - b.n))) (by omega) (by simp)) (by simp) trivial (by simp) (by simp [Ex.d_eq]) ?_; simp [Ex.d_eq]
      simp [sNot, h4, u32e, Ex.d_eq]
    · simp [h4, sNot]
  · rw [split_no k3] at s3
    have hn : sNot x = none := by simp [sNot, k12, k13, k4, k8, k16, k3]
    rw [hn]
    refine af_of Tryz.func184 rfl (by kernel_rfl) (by simp [Tryz.ntmps184]) fun _ => ?_; simp [Tryz.f184, Ex.d_eq]
    simp [k12, k13, k4, k8, k16]
    refine aCall_of (s3) (by simp) (by simp [Ex.d_eq]) ?_; simp [Ex.d_eq]
def sSignE (e : Ex) : Option Ex := if e.op = 3 ∨ e.op = 4 then sSign e.op e.x e.y else if e.op = 17 then sNeg e.x else none
theorem smsigns_af (e : Ex) (hf : formB e = true) (se : e.nodes ≤ 1000000000) : AF Tryz.prog 183 [exA e] (oA e (sSignE e)) := by
  have hop := form_op hf
  rcases (show e.op = 4 ∨ e.op = 3 ∨ e.op = 17 ∨ (e.op ≠ 4 ∧ e.op ≠ 3 ∧ e.op ≠ 17) by omega) with k | k | k | ⟨k4, k3, k17⟩
  · obtain ⟨x, y, rfl, hx, hy⟩ := form_two' hf k (by omega) (by omega)
    simp only [nodes_two] at se
    refine af_of Tryz.func183 rfl (by kernel_rfl) (by simp [Tryz.ntmps183]) fun _ => ?_; simp [Tryz.f183, Ex.d_eq]
    refine adraw [(10, 5), (10, 7)] (by kernel_rfl) (by kernel_rfl) (by kernel_rfl) (by kernel_rfl) ?_; simp [Ex.d_eq]
    refine aCall_of (smis_af x 0) (by simp) (by simp [Ex.d_eq]) ?_; simp [Ex.d_eq]
    cases h0 : isB x 0
    · simp
      by_cases h1 : y.op = 17
      · obtain ⟨z, rfl, hz⟩ := form_one' hy h1
        simp only [nodes_one] at se
        simp
        refine adraw [] (by kernel_rfl) (by kernel_rfl) (by kernel_rfl) (by kernel_rfl) ?_; simp [Ex.d_eq]
        refine adC_of (two_af 3 x z (by omega) (by omega)) (by simp) trivial (by simp) (by simp [Ex.d_eq]) ?_; simp [Ex.d_eq]
        simp [sSignE, sSign, h0, Ex.d_eq]
      · simp [h1, sSignE, sSign, h0, Ex.d_eq]
    · simp
      refine aCall_of (smone_af 17 y) (by simp) (by simp [Ex.d_eq]) ?_; simp [Ex.d_eq]
      simp [sSignE, sSign, h0, Ex.d_eq]
  · obtain ⟨x, y, rfl, hx, hy⟩ := form_two' hf k (by omega) (by omega)
    simp only [nodes_two] at se
    refine af_of Tryz.func183 rfl (by kernel_rfl) (by simp [Tryz.ntmps183]) fun _ => ?_; simp [Tryz.f183, Ex.d_eq]
    refine adraw [(10, 5), (10, 7)] (by kernel_rfl) (by kernel_rfl) (by kernel_rfl) (by kernel_rfl) ?_; simp [Ex.d_eq]
    by_cases h1 : y.op = 17
    · obtain ⟨z, rfl, hz⟩ := form_one' hy h1
      simp only [nodes_one] at se
      simp
      refine adraw [] (by kernel_rfl) (by kernel_rfl) (by kernel_rfl) (by kernel_rfl) ?_; simp [Ex.d_eq]
      refine adC_of (two_af 4 x z (by omega) (by omega)) (by simp) trivial (by simp) (by simp [Ex.d_eq]) ?_; simp [Ex.d_eq]
      simp [sSignE, sSign, Ex.d_eq]
    simp [h1]
    by_cases h2 : x.op = 17
    · obtain ⟨z, rfl, hz⟩ := form_one' hx h2
      simp only [nodes_one] at se
      simp
      refine adraw [] (by kernel_rfl) (by kernel_rfl) (by kernel_rfl) (by kernel_rfl) ?_; simp [Ex.d_eq]
      refine adC_of (two_af 4 y z (by omega) (by omega)) (by simp) trivial (by simp) (by simp [Ex.d_eq]) ?_; simp [Ex.d_eq]
      simp [sSignE, sSign, h1, Ex.d_eq]
    · simp [h1, h2, sSignE, sSign, Ex.d_eq]
  · obtain ⟨x, rfl, hx⟩ := form_one' hf k
    simp only [nodes_one] at se
    refine af_of Tryz.func183 rfl (by kernel_rfl) (by simp [Tryz.ntmps183]) fun _ => ?_; simp [Tryz.f183, Ex.d_eq]
    by_cases h1 : x.op = 17
    · obtain ⟨z, rfl, hz⟩ := form_one' hx h1
      simp [sSignE, sNeg, Ex.d_eq]
    simp [h1]
    by_cases h2 : x.op = 4
    · obtain ⟨a, b, rfl, ha, hb⟩ := form_two' hx h2 (by omega) (by omega)
      simp only [nodes_two] at se
      simp
      refine adraw [] (by kernel_rfl) (by kernel_rfl) (by kernel_rfl) (by kernel_rfl) ?_; simp [Ex.d_eq]
      refine adC_of (two_af 4 b a (by omega) (by omega)) (by simp) trivial (by simp) (by simp [Ex.d_eq]) ?_; simp [Ex.d_eq]
      simp [sSignE, sNeg, Ex.d_eq]
    · simp [h1, h2, sSignE, sNeg, Ex.d_eq]
  · refine af_of Tryz.func183 rfl (by kernel_rfl) (by simp [Tryz.ntmps183]) fun _ => ?_; simp [Tryz.f183, Ex.d_eq]
    simp [k4, k3, k17, sSignE, Ex.d_eq]
def sExtE (e : Ex) : Option Ex := if e.op = 19 then sExt e.wd e.x else sMask e.op e.x e.y
theorem cov_4 (n : Int) : covB n 4 = false := by simp [covB]
theorem smextended_af (e : Ex) (hf : formB e = true) (he : OkN e) (se : e.nodes ≤ 1000000000) : AF Tryz.prog 185 [exA e] (oA e (sExtE e)) := by
  have s6 := smsplit_af e 6
  rcases (show e.op = 19 ∨ e.op = 6 ∨ (e.op ≠ 19 ∧ e.op ≠ 6) by omega) with k | k | ⟨k19, k6⟩
  · obtain ⟨x, hx', hx, hw⟩ := form_wide hf (.inr k)
    have hw' : e.wd = 1 ∨ e.wd = 2 := by omega
    have nx : OkN x := he.l x (by rw [hx']; simp)
    obtain ⟨w, hwd⟩ : ∃ w, e.wd = w := ⟨_, rfl⟩
    rw [k, hwd] at hx'
    rw [hwd] at hw'
    subst hx'
    clear hwd k hw
    rw [split_no (by simp)] at s6
    have t6 := smsplit_af x 6
    have hE : sExtE (.mk 19 0 0 w [x]) = sExt w x := by simp [sExtE]
    rw [hE]
    unfold sExt
    by_cases h6 : x.op = 6
    · obtain ⟨a, b, rfl, ha, hb⟩ := form_two' hx h6 (by omega) (by omega)
      rw [split_two hx h6 (by omega) (by omega)] at t6
      have nb : R32 b.n := (nx.l b (by simp)).n
      by_cases h1 : b.op = 1
      · obtain ⟨m, rfl⟩ : ∃ m, b = eCon m := ⟨_, form_con hb h1⟩
        refine af_of Tryz.func185 rfl (by kernel_rfl) (by simp [Tryz.ntmps185]) fun _ => ?_; simp [Tryz.f185, Ex.d_eq]
        refine aCall_of (t6) (by simp) (by simp [Ex.d_eq]) ?_; simp [Ex.d_eq]
        refine aCall_of (smcovers_af m w hw' nb) (by simp) (by simp [Ex.d_eq]) ?_; simp [Ex.d_eq]
        cases hc : covB m w
        · simp
          refine aCall_of (s6) (by simp) (by simp [Ex.d_eq]) ?_; simp [Ex.d_eq]
        · simp
      · refine af_of Tryz.func185 rfl (by kernel_rfl) (by simp [Tryz.ntmps185]) fun _ => ?_; simp [Tryz.f185, Ex.d_eq]
        refine aCall_of (t6) (by simp) (by simp [Ex.d_eq]) ?_; simp [Ex.d_eq]
        simp [h1]
        refine aCall_of (s6) (by simp) (by simp [Ex.d_eq]) ?_; simp [Ex.d_eq]
    · rw [split_no h6] at t6
      refine af_of Tryz.func185 rfl (by kernel_rfl) (by simp [Tryz.ntmps185]) fun _ => ?_; simp [Tryz.f185, Ex.d_eq]
      refine aCall_of (t6) (by simp) (by simp [Ex.d_eq]) ?_; simp [Ex.d_eq]
      by_cases h19 : x.op = 19
      · obtain ⟨a, ha', ha, _⟩ := form_wide hx (.inr h19)
        obtain ⟨v, hv⟩ : ∃ v, x.wd = v := ⟨_, rfl⟩
        rw [h19, hv] at ha'
        subst ha'
        simp
        refine adraw [] (by kernel_rfl) (by kernel_rfl) (by kernel_rfl) (by kernel_rfl) ?_; simp [Ex.d_eq]
        rw [Int.min_def]
        split <;> split <;> omega
      · simp [h19, h6]
        refine aCall_of (s6) (by simp) (by simp [Ex.d_eq]) ?_; simp [Ex.d_eq]
  · obtain ⟨x, y, rfl, hx, hy⟩ := form_two' hf k (by omega) (by omega)
    rw [split_two hf k (by omega) (by omega)] at s6
    have ny : R32 y.n := (he.l y (by simp)).n
    have hE : sExtE (eTwo 6 x y) = sMask 6 x y := by simp [sExtE]
    rw [hE]
    unfold sMask
    by_cases h1 : y.op = 1
    case neg =>
      refine af_of Tryz.func185 rfl (by kernel_rfl) (by simp [Tryz.ntmps185]) fun _ => ?_; simp [Tryz.f185, Ex.d_eq]
      refine aCall_of (s6) (by simp) (by simp [Ex.d_eq]) ?_; simp [Ex.d_eq]
      simp [h1, Ex.d_eq]
    obtain ⟨m, rfl⟩ : ∃ m, y = eCon m := ⟨_, form_con hy h1⟩
    by_cases h18 : x.op = 18
    case neg =>
      refine af_of Tryz.func185 rfl (by kernel_rfl) (by simp [Tryz.ntmps185]) fun _ => ?_; simp [Tryz.f185, Ex.d_eq]
      refine aCall_of (s6) (by simp) (by simp [Ex.d_eq]) ?_; simp [Ex.d_eq]
      simp [h18, Ex.d_eq]
    obtain ⟨a, ha', ha, hw⟩ := form_wide hx (.inl h18)
    obtain ⟨v, hv⟩ : ∃ v, x.wd = v := ⟨_, rfl⟩
    rw [h18, hv] at ha' hw
    subst ha'
    by_cases h4 : v = 4
    · subst h4
      refine af_of Tryz.func185 rfl (by kernel_rfl) (by simp [Tryz.ntmps185]) fun _ => ?_; simp [Tryz.f185, Ex.d_eq]
      refine aCall_of (s6) (by simp) (by simp [Ex.d_eq]) ?_; simp [Ex.d_eq]
      simp [cov_4, Ex.d_eq]
    · refine af_of Tryz.func185 rfl (by kernel_rfl) (by simp [Tryz.ntmps185]) fun _ => ?_; simp [Tryz.f185, Ex.d_eq]
      refine aCall_of (s6) (by simp) (by simp [Ex.d_eq]) ?_; simp [Ex.d_eq]
      simp [show v < 4 by omega]
      refine aCall_of (smcovers_af m v (by omega) ny) (by simp) (by simp [Ex.d_eq]) ?_; simp [Ex.d_eq]
      cases hc : covB m v <;> simp [Ex.d_eq]
  · rw [split_no k6] at s6
    have hE : sExtE e = none := by simp [sExtE, sMask, k19, k6]
    rw [hE]
    refine af_of Tryz.func185 rfl (by kernel_rfl) (by simp [Tryz.ntmps185]) fun _ => ?_; simp [Tryz.f185, Ex.d_eq]
    simp [k19]
    refine aCall_of (s6) (by simp) (by simp [Ex.d_eq]) ?_; simp [Ex.d_eq]
end Go.Proofs.YtlidimmfpfockaaGreatDoor

/- Contracts: simplify.binary, simplify.rule. -/
namespace Go.Proofs.YtlidimmfpfockaaGreatDoor
open Go.RowKit
def sFlip (op : Int) (x y : Ex) : Option Ex :=
  if (comB op = true ∨ op = 12 ∨ op = 13) ∧ x.op = 1 ∧ y.op ≠ 1 then some (eTwo op y x) else if op = 4 ∧ y.op = 1 then some (eTwo 3 x (eCon ((-y.n) % 4294967296))) else none
theorem early_eq (op : Int) (x y : Ex) : sEarly op x y = (sFlip op x y).or ((sNeu op x y).or (sGrp op x y)) := by
  unfold sEarly sFlip sNeu sGrp
  repeat' split
  all_goals first | rfl | contradiction
set_option maxRecDepth 8000 in
theorem smbinary1_af (op : Int) (x y : Ex) (h3 : 3 ≤ op) (h15 : op ≤ 15) (hx : formB x = true) (hy : formB y = true) (ny : R32 y.n) (sx : x.nodes ≤ 1000000000) (sy : y.nodes ≤ 1000000000) :
    AF Tryz.prog 182 [exA (eTwo op x y), aB true] (oA eNil (sEarly op x y)) := by
  rw [early_eq]
  obtain ⟨R, hR⟩ : ∃ R, (sFlip op x y).or ((sNeu op x y).or (sGrp op x y)) = R := ⟨_, rfl⟩
  rw [hR]
  refine af_of Tryz.func182 rfl (by kernel_rfl) (by simp [Tryz.ntmps182]) fun _ => ?_; simp [Tryz.f182, Ex.d_eq]
  refine adraw [(10, 5), (10, 7)] (by kernel_rfl) (by kernel_rfl) (by kernel_rfl) (by kernel_rfl) ?_; simp [Ex.d_eq]
  refine aCall_of (smcommutes_af op) (by simp) (by simp [Ex.d_eq]) ?_; simp [Ex.d_eq]
  obtain ⟨c, hc⟩ : ∃ c, (comB op || decide (op = 12) || decide (op = 13)) = c := ⟨_, rfl⟩
  have hc' : (comB op = true ∨ op = 12 ∨ op = 13) ↔ c = true := by rw [← hc]; simp [or_assoc]
  rw [hc]
  have hrest : ¬ (c = true ∧ x.op = 1 ∧ y.op ≠ 1) → sFlip op x y = if op = 4 ∧ y.op = 1 then some (eTwo 3 x (eCon ((-y.n) % 4294967296))) else none := fun h => by
    unfold sFlip
    rw [if_neg (fun hh => h ⟨hc'.1 hh.1, hh.2⟩)]
  by_cases hA : c = true ∧ x.op = 1 ∧ y.op ≠ 1
  · obtain ⟨rfl, h1, h2⟩ := hA
    obtain ⟨m, rfl⟩ : ∃ m, x = eCon m := ⟨_, form_con hx h1⟩
    have hF : sFlip op (eCon m) y = some (eTwo op y (eCon m)) := by
      unfold sFlip
      rw [if_pos ⟨hc'.2 rfl, h1, h2⟩]
    rw [hF] at hR
    simp only [Option.some_or] at hR
    subst hR
    simp [h2]
    refine aCall_of (two_af op y (eCon m) sy (by simp)) (by simp) (by simp [Ex.d_eq]) ?_; simp [Ex.d_eq]
  have hF := hrest hA
  rw [hF] at hR
  clear hrest hF hc' hc
  cases c
  · clear hA
    simp
    by_cases h1 : y.op = 1
    case neg =>
      rw [if_neg (fun h => h1 h.2)] at hR
      simp only [Option.none_or] at hR
      refine aCall_of (smnumber_af y) (by simp) (by simp [Ex.d_eq]) ?_; simp [Ex.d_eq]
      simp [h1]
      refine aCall_of (smneutral_af op (x) (y) hy ny sx sy) (by simp) (by simp [Ex.d_eq]) ?_; simp [Ex.d_eq]
      cases hN : sNeu op (x) (y) with
      | none =>
        rw [hN] at hR
        simp only [Option.none_or] at hR
        subst hR
        simp
        refine aCall_of (smgrouped_af op (x) (y) hx sx h3 h15) (by simp) (by simp [Ex.d_eq]) ?_; simp [Ex.d_eq]
      | some r =>
        rw [hN] at hR
        simp only [Option.some_or] at hR
        subst hR
        simp
    obtain ⟨m, rfl⟩ : ∃ m, y = eCon m := ⟨_, form_con hy h1⟩
    refine aCall_of (smnumber_af (eCon m)) (by simp) (by simp [Ex.d_eq]) ?_; simp [Ex.d_eq]
    by_cases h4 : op = 4
    · subst h4
      simp
      refine adraw [] (by kernel_rfl) (by kernel_rfl) (by kernel_rfl) (by kernel_rfl) ?_; simp [Ex.d_eq]
      refine adC_of (const_af (IntKind.u32.wrap (0 - m))) (by simp) trivial (by simp) (by simp [Ex.d_eq]) ?_; simp [Ex.d_eq]
      refine adC_of (two_af 3 (x) (eCon (IntKind.u32.wrap (0 - m))) sx (by simp)) (by simp) trivial (by simp) (by simp [Ex.d_eq]) ?_; simp [Ex.d_eq]
      rw [← hR]
      simp [u32e, Ex.d_eq]
    rw [if_neg (fun h => h4 h.1)] at hR
    simp only [Option.none_or] at hR
    simp [h4]
    refine aCall_of (smneutral_af op (x) (eCon m) hy ny sx sy) (by simp) (by simp [Ex.d_eq]) ?_; simp [Ex.d_eq]
    cases hN : sNeu op (x) (eCon m) with
    | none =>
      rw [hN] at hR
      simp only [Option.none_or] at hR
      subst hR
      simp
      refine aCall_of (smgrouped_af op (x) (eCon m) hx sx h3 h15) (by simp) (by simp [Ex.d_eq]) ?_; simp [Ex.d_eq]
    | some r =>
      rw [hN] at hR
      simp only [Option.some_or] at hR
      subst hR
      simp
  · by_cases hx1 : x.op = 1
    case neg =>
      clear hA
      simp [hx1]
      by_cases h1 : y.op = 1
      case neg =>
        rw [if_neg (fun h => h1 h.2)] at hR
        simp only [Option.none_or] at hR
        refine aCall_of (smnumber_af y) (by simp) (by simp [Ex.d_eq]) ?_; simp [Ex.d_eq]
        simp [h1]
        refine aCall_of (smneutral_af op (x) (y) hy ny sx sy) (by simp) (by simp [Ex.d_eq]) ?_; simp [Ex.d_eq]
        cases hN : sNeu op (x) (y) with
        | none =>
          rw [hN] at hR
          simp only [Option.none_or] at hR
          subst hR
          simp
          refine aCall_of (smgrouped_af op (x) (y) hx sx h3 h15) (by simp) (by simp [Ex.d_eq]) ?_; simp [Ex.d_eq]
        | some r =>
          rw [hN] at hR
          simp only [Option.some_or] at hR
          subst hR
          simp
      obtain ⟨m, rfl⟩ : ∃ m, y = eCon m := ⟨_, form_con hy h1⟩
      refine aCall_of (smnumber_af (eCon m)) (by simp) (by simp [Ex.d_eq]) ?_; simp [Ex.d_eq]
      by_cases h4 : op = 4
      · subst h4
        simp
        refine adraw [] (by kernel_rfl) (by kernel_rfl) (by kernel_rfl) (by kernel_rfl) ?_; simp [Ex.d_eq]
        refine adC_of (const_af (IntKind.u32.wrap (0 - m))) (by simp) trivial (by simp) (by simp [Ex.d_eq]) ?_; simp [Ex.d_eq]
        refine adC_of (two_af 3 (x) (eCon (IntKind.u32.wrap (0 - m))) sx (by simp)) (by simp) trivial (by simp) (by simp [Ex.d_eq]) ?_; simp [Ex.d_eq]
        rw [← hR]
        simp [u32e, Ex.d_eq]
      rw [if_neg (fun h => h4 h.1)] at hR
      simp only [Option.none_or] at hR
      simp [h4]
      refine aCall_of (smneutral_af op (x) (eCon m) hy ny sx sy) (by simp) (by simp [Ex.d_eq]) ?_; simp [Ex.d_eq]
      cases hN : sNeu op (x) (eCon m) with
      | none =>
        rw [hN] at hR
        simp only [Option.none_or] at hR
        subst hR
        simp
        refine aCall_of (smgrouped_af op (x) (eCon m) hx sx h3 h15) (by simp) (by simp [Ex.d_eq]) ?_; simp [Ex.d_eq]
      | some r =>
        rw [hN] at hR
        simp only [Option.some_or] at hR
        subst hR
        simp
    have h1 : y.op = 1 := by
      rcases Decidable.em (y.op = 1) with h | h
      · exact h
      · exact absurd ⟨rfl, hx1, h⟩ hA
    clear hA
    obtain ⟨k, rfl⟩ : ∃ k, x = eCon k := ⟨_, form_con hx hx1⟩
    simp [h1]
    obtain ⟨m, rfl⟩ : ∃ m, y = eCon m := ⟨_, form_con hy h1⟩
    refine aCall_of (smnumber_af (eCon m)) (by simp) (by simp [Ex.d_eq]) ?_; simp [Ex.d_eq]
    by_cases h4 : op = 4
    · subst h4
      simp
      refine adraw [] (by kernel_rfl) (by kernel_rfl) (by kernel_rfl) (by kernel_rfl) ?_; simp [Ex.d_eq]
      refine adC_of (const_af (IntKind.u32.wrap (0 - m))) (by simp) trivial (by simp) (by simp [Ex.d_eq]) ?_; simp [Ex.d_eq]
      refine adC_of (two_af 3 (eCon k) (eCon (IntKind.u32.wrap (0 - m))) sx (by simp)) (by simp) trivial (by simp) (by simp [Ex.d_eq]) ?_; simp [Ex.d_eq]
      rw [← hR]
      simp [u32e, Ex.d_eq]
    rw [if_neg (fun h => h4 h.1)] at hR
    simp only [Option.none_or] at hR
    simp [h4]
    refine aCall_of (smneutral_af op (eCon k) (eCon m) hy ny sx sy) (by simp) (by simp [Ex.d_eq]) ?_; simp [Ex.d_eq]
    cases hN : sNeu op (eCon k) (eCon m) with
    | none =>
      rw [hN] at hR
      simp only [Option.none_or] at hR
      subst hR
      simp
      refine aCall_of (smgrouped_af op (eCon k) (eCon m) hx sx h3 h15) (by simp) (by simp [Ex.d_eq]) ?_; simp [Ex.d_eq]
    | some r =>
      rw [hN] at hR
      simp only [Option.some_or] at hR
      subst hR
      simp
end Go.Proofs.YtlidimmfpfockaaGreatDoor
