/- Texts that the claim leans on, laid one behind the other: Ca, Cb, Da. -/
import Derived.Test.YtpmpiidndgjaaaaGreatZB
import Derived.Lib.Join
import Derived.Test.YtpmpiidndgjaaaaGreatSh
set_option linter.unusedSimpArgs false
set_option linter.unusedVariables false
set_option linter.unnecessarySimpa false
/- Contracts: slices.IndexFunc, slices.ContainsFunc, at expressions; il.CheckExpr and what it calls. -/
namespace Go.Proofs.YtpmpiidndgjaaaaGreat
open Go.RowKit
/-- A call that leaves the blocks as they were, but for garbage. -/
def Same0 (A : AHeap) (r0 : AV) (r : AV) (A' : AHeap) : Prop := r = r0 ∧ ∃ N, A' = A ++ N
/-- The garbage is dropped. -/
theorem AC.drop {P : Program} {f : FuncId} {args : List AV} {A : AHeap} {r0 : AV} (h : AC P f args A (Same0 A r0)) : AC P f args A fun r A' => r = cln A.length r0 ∧ A' = A.map (clnB A.length) :=
  h.sub fun r A' ⟨hr, N, hA⟩ => by
    subst hr hA
    exact ⟨_, _, Sub.take A.length (Nat.le_refl _), rfl, by simp⟩
/-- At no blocks: a contract from data to data. -/
theorem AC.af {P : Program} {f : FuncId} {args : List AV} {r : AV} (h : AC P f args [] (Res r)) : AF P f args r := by
  intro H w vs hH hs hm
  refine (h H none0 w vs hH (rel_nil H w) hs (by rw [nn_nil]; exact hm)).mono ?_
  rintro en w' ⟨v, r', ι', A', hv, hr, hR, hst, hval⟩
  unfold Res resO at hr
  split at hr
  · rename_i r0 r1 hr0
    have := reiV_sound (ι' := none0) (A' := []) hR hr0 hval
    exact ⟨v, hv, ⟨NLe.shp _ _ _ hr this.1, NLe.mem _ _ _ hr this.2⟩, hst.ext⟩
  · exact hr.elim
/-- Has an expression at most n levels? -/
def shalB : Nat → Ex → Bool
  | 0, _ => false
  | n + 1, e => e.l.all (shalB n)
end Go.Proofs.YtpmpiidndgjaaaaGreat

/- Contracts: il.formed, il.CheckExpr; the reference's CheckExpr. -/
namespace Go.Proofs.YtpmpiidndgjaaaaGreat
open Go.RowKit
/-- Is an expression well-formed but for its operands? -/
def okE (op n v w : Int) (k : Nat) : Bool :=
  if op = 1 then v == 0 && w == 0 && k == 0
  else if op = 2 then n == 0 && w == 0 && k == 0 && (decide (0 ≤ v) && decide (v < 65536))
  else if 3 ≤ op ∧ op ≤ 15 then n == 0 && v == 0 && w == 0 && k == 2
  else if op = 16 ∨ op = 17 then n == 0 && v == 0 && w == 0 && k == 1
  else if op = 18 then n == 0 && v == 0 && (w == 1 || w == 2 || w == 4) && k == 1
  else if op = 19 then n == 0 && v == 0 && (w == 1 || w == 2) && k == 1
  else false
/-- Is an expression well-formed, apart from its levels? -/
def formB : Ex → Bool
  | .mk op n v w l => okE op n v w l.length && forms l
where forms : List Ex → Bool
  | [] => true
  | e :: l => formB e && forms l
theorem formB_eq (e : Ex) : formB e = (okE e.op e.n e.v e.wd e.l.length && e.l.all formB) := by
  have h : ∀ l, formB.forms l = l.all formB := by
    intro l
    induction l with
    | nil => rfl
    | cons a l ih => simp only [formB.forms, ih, List.all_cons]
  cases e
  simp only [formB, h]
  rfl
end Go.Proofs.YtpmpiidndgjaaaaGreat

/- Contracts: strings.Join, strconv.Itoa, il's texts, as far as the examples need them. -/
namespace Go.Proofs.YtpmpiidndgjaaaaGreat
open Go.RowKit
abbrev aS (s : ByteArray) : AV := .d (.v (.string s))
/-- Strings, as a slice's elements. -/
def strs (xs : List ByteArray) : List (List D) := xs.map fun x => [.v (.string x)]
@[simp] theorem strs_nil : strs [] = [] := rfl
@[simp] theorem strs_cons (x : ByteArray) (xs : List ByteArray) : strs (x :: xs) = [.v (.string x)] :: strs xs := rfl
/-- Strings, one after the other. -/
def cat (xs : List ByteArray) : ByteArray := ⟨(xs.flatMap fun x => x.data.toList).toArray⟩
theorem join_nil' (xs : List (List UInt8)) : Lib.join xs [] = xs.flatten := by
  induction xs with
  | nil => rfl
  | cons x xs ih =>
    cases xs with
    | nil => simp [Lib.join_one]
    | cons y ys =>
      rw [Lib.join_cons]
      simp [Lib.joinTail]
end Go.Proofs.YtpmpiidndgjaaaaGreat
