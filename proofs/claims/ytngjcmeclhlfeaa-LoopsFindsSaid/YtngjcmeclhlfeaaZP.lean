/- Texts that the claim leans on, laid one behind the other: Bb, Ca, Cb, Ja, Mn, Bc, Bd, Be, Bf, Bg, Da, Db, Ga, Gb, Gc, Gd, Ge, Mj, Ml, Mo, Ha, Js, Jb, Jc, Jf, Oa, Jg. -/
import Derived.Test.YtngjcmeclhlfeaaBa
import Derived.Test.YtngjcmeclhlfeaaFacts
import Derived.Test.YtngjcmeclhlfeaaAp
import Derived.Test.YtngjcmeclhlfeaaAn
import Derived.Lib.Join
import Derived.Test.YtngjcmeclhlfeaaSh
import Derived.Test.YtngjcmeclhlfeaaAt
set_option linter.unusedSimpArgs false
set_option linter.unusedVariables false
set_option linter.unnecessarySimpa false
/- Contracts: il.Same. -/
namespace Go.Proofs.Ytngjcmeclhlfeaa
open Go.RowKit
end Go.Proofs.Ytngjcmeclhlfeaa

/- Contracts: slices.IndexFunc, slices.ContainsFunc, at expressions; il.CheckExpr and what it calls. -/
namespace Go.Proofs.Ytngjcmeclhlfeaa
open Go.RowKit
/-- A call that leaves the blocks as they were, but for garbage. -/
def Same0 (A : AHeap) (r0 : AV) (r : AV) (A' : AHeap) : Prop := r = r0 ∧ ∃ N, A' = A ++ N
/-- The garbage is dropped. -/
theorem AC.drop {P : Program} {f : FuncId} {args : List AV} {A : AHeap} {r0 : AV} (h : AC P f args A (Same0 A r0)) : AC P f args A fun r A' => r = cln A.length r0 ∧ A' = A.map (clnB A.length) :=
  h.sub fun r A' ⟨hr, N, hA⟩ => by
    subst hr hA
    exact ⟨_, _, Sub.take A.length (Nat.le_refl _), rfl, by simp⟩
/-- At no blocks: a contract from data to data. -/
theorem AC.af {P : Program} {f : FuncId} {args : List AV} {r : AV} (h : AC P f args [] (Res r)) : AF P f args r := by
  intro H w vs hH hs hm
  refine (h H none0 w vs hH (rel_nil H w) hs (by rw [nn_nil]; exact hm)).mono ?_
  rintro en w' ⟨v, r', ι', A', hv, hr, hR, hst, hval⟩
  unfold Res resO at hr
  split at hr
  · rename_i r0 r1 hr0
    have := reiV_sound (ι' := none0) (A' := []) hR hr0 hval
    exact ⟨v, hv, ⟨NLe.shp _ _ _ hr this.1, NLe.mem _ _ _ hr this.2⟩, hst.ext⟩
  · exact hr.elim
end Go.Proofs.Ytngjcmeclhlfeaa

/- Contracts: il.formed, il.CheckExpr; the reference's CheckExpr. -/
namespace Go.Proofs.Ytngjcmeclhlfeaa
open Go.RowKit
end Go.Proofs.Ytngjcmeclhlfeaa

/- Graphs as plain data, and as abstract values; when they are well-formed. No program in sight. -/
namespace Go.Proofs.Ytngjcmeclhlfeaa
open Go.RowKit
/-- A statement. -/
structure St where
  op : Int
  va : Int
  wd : Int
  nx : Int
  el : Int
  tg : Int
  e : List Ex
  cs : List Int
/-- A block. -/
structure Bl where
  ad : Int
  s : List St
/-- A graph. -/
structure Gr where
  ad : Int
  b : List Bl
/-- Numbers, as a slice's elements. -/
def i64s (l : List Int) : List (List D) := l.map fun n => [.v (.int .i64 n)]
@[simp] theorem i64s_nil : i64s [] = [] := rfl
@[simp] theorem i64s_cons (n : Int) (l : List Int) : i64s (n :: l) = [.v (.int .i64 n)] :: i64s l := rfl
@[simp] theorem i64s_len (l : List Int) : (i64s l).length = l.length := by simp [i64s]
@[simp] theorem i64s_get (l : List Int) (i : Nat) : (i64s l)[i]? = (l[i]?).map fun n => [.v (.int .i64 n)] := by simp [i64s]
@[simp] theorem i64s_at (l : List Int) (i : Nat) (h : i < (i64s l).length) : (i64s l)[i] = [.v (.int .i64 (l[i]'(by simpa using h)))] := by simp [i64s]
@[simp] theorem i64s_all (l : List Int) : (i64s l).take l.length = i64s l := by rw [List.take_of_length_le]; simp
@[simp] theorem i64s_app (l m : List Int) : i64s (l ++ m) = i64s l ++ i64s m := by simp [i64s]
def St.d (s : St) : List D := [.v (.int .i64 s.op), .v (.int .i64 s.va), .v (.int .i64 s.wd), .v (.int .i64 s.nx), .v (.int .i64 s.el), .v (.int .u32 s.tg), .sl 5 (Ex.ds s.e), .sl 1 (i64s s.cs)]
theorem St.d_eq (s : St) : St.d s = [.v (.int .i64 s.op), .v (.int .i64 s.va), .v (.int .i64 s.wd), .v (.int .i64 s.nx), .v (.int .i64 s.el), .v (.int .u32 s.tg), .sl 5 (Ex.ds s.e), .sl 1 (i64s s.cs)] := rfl
@[simp] theorem St.d_len (s : St) : (St.d s).length = 8 := rfl
/-- Statements, as a slice's elements. -/
def sts (l : List St) : List (List D) := l.map St.d
@[simp] theorem sts_nil : sts [] = [] := rfl
@[simp] theorem sts_cons (s : St) (l : List St) : sts (s :: l) = s.d :: sts l := rfl
@[simp] theorem sts_len (l : List St) : (sts l).length = l.length := by simp [sts]
@[simp] theorem sts_get (l : List St) (i : Nat) : (sts l)[i]? = (l[i]?).map St.d := by simp [sts]
@[simp] theorem sts_at (l : List St) (i : Nat) (h : i < (sts l).length) : (sts l)[i] = St.d (l[i]'(by simpa using h)) := by simp [sts]
@[simp] theorem sts_all (l : List St) : (sts l).take l.length = sts l := by rw [List.take_of_length_le]; simp
@[simp] theorem sts_app (l m : List St) : sts (l ++ m) = sts l ++ sts m := by simp [sts]
@[simp] theorem sts_take (l : List St) (n : Nat) : (sts l).take n = sts (l.take n) := by simp [sts]
def Bl.d (b : Bl) : List D := [.v (.int .u32 b.ad), .sl 8 (sts b.s)]
theorem Bl.d_eq (b : Bl) : Bl.d b = [.v (.int .u32 b.ad), .sl 8 (sts b.s)] := rfl
@[simp] theorem Bl.d_len (b : Bl) : (Bl.d b).length = 2 := rfl
/-- Blocks, as a slice's elements. -/
def bls' (l : List Bl) : List (List D) := l.map Bl.d
@[simp] theorem bls_nil : bls' [] = [] := rfl
@[simp] theorem bls_cons (b : Bl) (l : List Bl) : bls' (b :: l) = b.d :: bls' l := rfl
@[simp] theorem bls_len (l : List Bl) : (bls' l).length = l.length := by simp [bls']
@[simp] theorem bls_get (l : List Bl) (i : Nat) : (bls' l)[i]? = (l[i]?).map Bl.d := by simp [bls']
@[simp] theorem bls_at (l : List Bl) (i : Nat) (h : i < (bls' l).length) : (bls' l)[i] = Bl.d (l[i]'(by simpa using h)) := by simp [bls']
@[simp] theorem bls_all (l : List Bl) : (bls' l).take l.length = bls' l := by rw [List.take_of_length_le]; simp
@[simp] theorem bls_app (l m : List Bl) : bls' (l ++ m) = bls' l ++ bls' m := by simp [bls']
/-- A statement, by value. -/
@[simp] def stV (s : St) : AV := .agg [aI .i64 s.op, aI .i64 s.va, aI .i64 s.wd, aI .i64 s.nx, aI .i64 s.el, aI .u32 s.tg, .d (.sl 5 (Ex.ds s.e)), .d (.sl 1 (i64s s.cs))]
/-- A block, by value. -/
@[simp] def blV (b : Bl) : AV := .agg [aI .u32 b.ad, .d (.sl 8 (sts b.s))]
/-- A graph, by value. -/
@[simp] def grV (g : Gr) : AV := .agg [aI .u32 g.ad, .d (.sl 2 (bls' g.b))]
/-! ### the checks -/
/-- The blocks to which a statement goes. -/
def tgts (s : St) : List Int := if s.op = 6 then [s.nx] else if s.op = 7 then [s.nx, s.el] else if s.op = 8 then s.cs else []
def succL (b : Bl) : List Int := match b.s.getLast? with
  | some s => tgts s
  | none => []
end Go.Proofs.Ytngjcmeclhlfeaa

/- Contract: the reference's Insert. -/
namespace Go.Proofs.Ytngjcmeclhlfeaa
open Go.RowKit
end Go.Proofs.Ytngjcmeclhlfeaa

/- Contracts: slices.Clone, il.own, il.Two, il.Const, il.Var. -/
namespace Go.Proofs.Ytngjcmeclhlfeaa
open Go.RowKit
theorem bds_all {sz : Nat} : ∀ {xs : List (List D)}, BdS sz xs → ((dEls xs).all fun x => x.length == sz) = true
  | [], _ => rfl
  | x :: xs, h => by
    simp only [BdS] at h
    have := bds_all h.2.2
    simp [h.1] at this ⊢
    exact this
end Go.Proofs.Ytngjcmeclhlfeaa

/- Contracts: il.Two, il.Const, il.Var; flagfuse's makers and conditions; the reference's makers. -/
namespace Go.Proofs.Ytngjcmeclhlfeaa
open Go.RowKit
def eCon (n : Int) : Ex := .mk 1 n 0 0 []
def eVar (v : Int) : Ex := .mk 2 0 v 0 []
def eTwo (op : Int) (a b : Ex) : Ex := .mk op 0 0 0 [a, b]
def eOne (op : Int) (a : Ex) : Ex := .mk op 0 0 0 [a]
section
variable (op n v : Int) (a b : Ex)
@[simp] theorem eCon_op : (eCon n).op = 1 := rfl
@[simp] theorem eCon_n : (eCon n).n = n := rfl
@[simp] theorem eCon_v : (eCon n).v = 0 := rfl
@[simp] theorem eCon_wd : (eCon n).wd = 0 := rfl
@[simp] theorem eCon_l : (eCon n).l = [] := rfl
@[simp] theorem eVar_op : (eVar v).op = 2 := rfl
@[simp] theorem eVar_n : (eVar v).n = 0 := rfl
@[simp] theorem eVar_v : (eVar v).v = v := rfl
@[simp] theorem eVar_wd : (eVar v).wd = 0 := rfl
@[simp] theorem eVar_l : (eVar v).l = [] := rfl
@[simp] theorem eTwo_op : (eTwo op a b).op = op := rfl
@[simp] theorem eTwo_n : (eTwo op a b).n = 0 := rfl
@[simp] theorem eTwo_v : (eTwo op a b).v = 0 := rfl
@[simp] theorem eTwo_wd : (eTwo op a b).wd = 0 := rfl
@[simp] theorem eTwo_l : (eTwo op a b).l = [a, b] := rfl
@[simp] theorem eOne_op : (eOne op a).op = op := rfl
@[simp] theorem eOne_n : (eOne op a).n = 0 := rfl
@[simp] theorem eOne_v : (eOne op a).v = 0 := rfl
@[simp] theorem eOne_wd : (eOne op a).wd = 0 := rfl
@[simp] theorem eOne_l : (eOne op a).l = [a] := rfl
@[simp] theorem nodes_con : (eCon n).nodes = 1 := rfl
@[simp] theorem nodes_var : (eVar v).nodes = 1 := rfl
@[simp] theorem nodes_two : (eTwo op a b).nodes = a.nodes + b.nodes + 1 := by simp [eTwo, Ex.nodes, Ex.nodess]
@[simp] theorem nodes_one : (eOne op a).nodes = a.nodes + 1 := by simp [eOne, Ex.nodes, Ex.nodess]
end
end Go.Proofs.Ytngjcmeclhlfeaa

/- Contracts: the conditions and the flag expressions (printed by gen_be.py). -/
namespace Go.Proofs.Ytngjcmeclhlfeaa
open Go.RowKit
end Go.Proofs.Ytngjcmeclhlfeaa

/- Contracts: the flag expressions, Recognize, size (printed by gen_be.py). -/
namespace Go.Proofs.Ytngjcmeclhlfeaa
open Go.RowKit
end Go.Proofs.Ytngjcmeclhlfeaa

/- Contracts: Recognize, of flagfuse and of the reference; the law's size. -/
namespace Go.Proofs.Ytngjcmeclhlfeaa
open Go.RowKit
end Go.Proofs.Ytngjcmeclhlfeaa

/- Contracts: strings.Join, strconv.Itoa, il's texts, as far as the examples need them. -/
namespace Go.Proofs.Ytngjcmeclhlfeaa
open Go.RowKit
/-- Strings, as a slice's elements. -/
def strs (xs : List ByteArray) : List (List D) := xs.map fun x => [.v (.string x)]
@[simp] theorem strs_nil : strs [] = [] := rfl
@[simp] theorem strs_cons (x : ByteArray) (xs : List ByteArray) : strs (x :: xs) = [.v (.string x)] :: strs xs := rfl
end Go.Proofs.Ytngjcmeclhlfeaa

/- Contracts: il.Print at the example's expression; the law's example; FlagfuseConditions. -/
namespace Go.Proofs.Ytngjcmeclhlfeaa
open Go.RowKit
end Go.Proofs.Ytngjcmeclhlfeaa

/- Contracts: the reference's makers of expressions. -/
namespace Go.Proofs.Ytngjcmeclhlfeaa
open Go.RowKit
end Go.Proofs.Ytngjcmeclhlfeaa

/- Contracts: the guards on an expression's size (law 19's Nodes and Small). -/
namespace Go.Proofs.Ytngjcmeclhlfeaa
open Go.RowKit
mutual
/-- What law 19's Nodes computes. -/
def nodI : Ex → Int → Int → Int
  | .mk _ _ _ _ l, m, n => if m < 1 ∨ n < 1 ∨ 4 < l.length then -1 else nodL l (m - 1) (n - 1)
def nodL : List Ex → Int → Int → Int
  | [], _, n => n
  | x :: l, m, n => if 0 ≤ n then nodL l m (nodI x m n) else n
end
theorem nodI_eq (e : Ex) (m n : Int) : nodI e m n = if m < 1 ∨ n < 1 ∨ 4 < e.l.length then -1 else nodL e.l (m - 1) (n - 1) := by
  cases e
  rw [nodI]
  rfl
theorem nodL_neg (l : List Ex) (m n : Int) (h : n < 0) : nodL l m n = n := by
  cases l with
  | nil => rw [nodL]
  | cons x l => rw [nodL, if_neg (by omega)]
mutual
theorem nodI_le : ∀ (e : Ex) (m n : Int), -1 ≤ n → -1 ≤ nodI e m n ∧ (nodI e m n = -1 ∨ nodI e m n + e.nodes = n ∧ e.depth ≤ m)
  | .mk o k v w l, m, n, h => by
    rw [nodI]
    split
    · exact ⟨by omega, .inl rfl⟩
    · rename_i hc
      have := nodL_le l (m - 1) (n - 1) (by omega)
      refine ⟨this.1, ?_⟩
      simp only [Ex.nodes, Ex.depth]
      rcases this.2 with h1 | h1
      · exact .inl h1
      · right
        omega
theorem nodL_le : ∀ (l : List Ex) (m n : Int), -1 ≤ n → -1 ≤ nodL l m n ∧ (nodL l m n = -1 ∨ nodL l m n + Ex.nodess l = n ∧ (Ex.depths l : Int) ≤ max m 0)
  | [], m, n, h => by
    rw [nodL]
    refine ⟨h, .inr ⟨by simp [Ex.nodess], by simp only [Ex.depths]; omega⟩⟩
  | x :: l, m, n, h => by
    rw [nodL]
    split
    · have h1 := nodI_le x m n h
      have h2 := nodL_le l m (nodI x m n) h1.1
      refine ⟨h2.1, ?_⟩
      simp only [Ex.nodess, Ex.depths]
      rcases h2.2 with h3 | h3
      · exact .inl h3
      · rcases h1.2 with h4 | h4
        · left
          rw [h4]
          exact nodL_neg l m _ (by omega)
        · right
          omega
    · exact ⟨h, .inl (by omega)⟩
end
theorem nodes_af : ∀ (e : Ex) (m n : Int), -1000000 ≤ m → m ≤ 1000000 → -1 ≤ n → n ≤ 1000000 → AF Try.prog 49 [exA e, aI .i64 m, aI .i64 n] (aI .i64 (nodI e m n)) := by
  intro e
  induction e using Ex.ind with
  | h e ih =>
  intro m n hm1 hm2 hn1 hn2
  refine af_of Try.func49 rfl (by kernel_rfl) (by simp [Try.ntmps49]) fun _ => ?_
  rw [nodI_eq]
  by_cases h1 : m < 1
  · simp [Try.f49, h1]
  by_cases h2 : n < 1
  · simp [Try.f49, h1, h2]
  by_cases h3 : 4 < e.l.length
  · simp [Try.f49, h1, h2, show (4 : Int) < e.l.length by omega, h3]
  simp [Try.f49, h1, h2, h3, show ¬ ((4 : Int) < e.l.length) by omega]
  obtain ⟨R, hR⟩ : ∃ R, nodL e.l (m - 1) (n - 1) = R := ⟨_, rfl⟩
  rw [hR]
  refine aLoop_of (α := Nat) (fun i g A => i ≤ e.l.length ∧ A = [⟨0, true, 76, 5, [[aI .i64 e.op, aI .u32 e.n, aI .i64 e.v, aI .i64 e.wd, .d (.sl 5 (Ex.ds e.l))]]⟩] ∧ g 3 = .ptr 0 0 0 0 ∧ g 8 = aI .i64 i ∧ g 1 = aI .i64 m ∧
    ∃ c : Int, g 7 = aI .i64 c ∧ -1 ≤ c ∧ c ≤ 1000000 ∧ nodL (e.l.drop i) (m - 1) c = R) (fun i => e.l.length - i) 0 (Sub.refl _ _ _)
    ⟨by omega, by simp, by simp, by simp, by simp, n - 1, by simp [i64w (n := n - 1) (by omega)], by omega, by omega, by simpa using hR⟩ ?_
  rintro i g A ⟨hi, rfl, g3, g8, g1, c, g7, hc1, hc2, hcR⟩ K hK
  rcases Nat.lt_or_ge i e.l.length with hlt | hge
  case inr =>
    obtain rfl : i = e.l.length := by omega
    simp at hcR
    rw [nodL] at hcR
    subst hcR
    simp [g3, g8, g7]
  by_cases hc : 0 ≤ c
  case neg =>
    rw [nodL_neg _ _ _ (by omega)] at hcR
    subst hcR
    simp [g3, g8, g7, hlt, hc]
  obtain ⟨x, hx⟩ : ∃ x, e.l[i]? = some x := ⟨_, List.getElem?_eq_getElem hlt⟩
  have hx' := (List.getElem?_eq_some_iff.1 hx).2
  have hd : e.l.drop i = x :: e.l.drop (i + 1) := by rw [List.drop_eq_getElem_cons hlt, hx']
  rw [hd, nodL, if_pos hc] at hcR
  simp [g3, g8, g7, g1, hlt, hc, hx, hx', Ex.d_eq, i64w (n := m - 1) (by omega)]
  have hb := nodI_le x (m - 1) c hc1
  have := Ex.nodes_pos x
  refine aCall_of (ih x (List.mem_of_getElem? hx) (m - 1) c (by omega) (by omega) hc1 hc2) (by simp) (by simp) ?_
  simp [g8, i64w (n := (i : Int) + 1) (by omega)]
  refine hK (i + 1) _ _ _ _ (Sub.refl _ _ _) ⟨by omega, by simp [Ex.d_eq], by simp [g3], by simp, by simp [g1], nodI x (m - 1) c, by simp, hb.1, by omega, hcR⟩ (by omega)
end Go.Proofs.Ytngjcmeclhlfeaa

/- Contracts: the reference's check of an expression. -/
namespace Go.Proofs.Ytngjcmeclhlfeaa
open Go.RowKit
end Go.Proofs.Ytngjcmeclhlfeaa

/- Contracts: the reference's check of an expression (printed by gen_gd.py). -/
namespace Go.Proofs.Ytngjcmeclhlfeaa
open Go.RowKit
end Go.Proofs.Ytngjcmeclhlfeaa

/- Contracts: law 28's expressions; the reference's size. -/
namespace Go.Proofs.Ytngjcmeclhlfeaa
open Go.RowKit
end Go.Proofs.Ytngjcmeclhlfeaa

/- Contract: il.Size, by il.visit with a closure that counts. -/
namespace Go.Proofs.Ytngjcmeclhlfeaa
open Go.RowKit
end Go.Proofs.Ytngjcmeclhlfeaa

/- Contracts: the closures of il.Fresh, il.visit with them. -/
namespace Go.Proofs.Ytngjcmeclhlfeaa
open Go.RowKit
end Go.Proofs.Ytngjcmeclhlfeaa

/- The variables of an expression: in the order in which they stand; ascending, each once. No program in sight. -/
namespace Go.Proofs.Ytngjcmeclhlfeaa
open Go.RowKit
def Asc (l : List Int) : Prop := l.Pairwise (· < ·)
/-- Ascending lists of the same members are the same. -/
theorem asc_ext : ∀ {l m : List Int}, Asc l → Asc m → (∀ v, v ∈ l ↔ v ∈ m) → l = m
  | [], [], _, _, _ => rfl
  | [], b :: m, _, _, h => absurd ((h b).2 (by simp)) (by simp)
  | a :: l, [], _, _, h => absurd ((h a).1 (by simp)) (by simp)
  | a :: l, b :: m, h1, h2, h => by
    obtain ⟨p1, p2⟩ := List.pairwise_cons.1 h1
    obtain ⟨q1, q2⟩ := List.pairwise_cons.1 h2
    have e1 : a = b := by
      have x := (h a).1 (by simp)
      have y := (h b).2 (by simp)
      rcases List.mem_cons.1 x with rfl | x
      · rfl
      rcases List.mem_cons.1 y with rfl | y
      · rfl
      have := q1 a x
      have := p1 b y
      omega
    subst e1
    rw [asc_ext p2 q2 fun v => ?_]
    constructor
    · intro hv
      have := p1 v hv
      rcases List.mem_cons.1 ((h v).1 (by simp [hv])) with rfl | hv
      · omega
      · exact hv
    · intro hv
      have := q1 v hv
      rcases List.mem_cons.1 ((h v).2 (by simp [hv])) with rfl | hv
      · omega
      · exact hv
end Go.Proofs.Ytngjcmeclhlfeaa

/- The idioms as plain functions on expression trees. No program in sight. -/
namespace Go.Proofs.Ytngjcmeclhlfeaa
open Go.RowKit
namespace Ex
def x (e : Ex) : Ex := e.l.getD 0 (eCon 0)
def y (e : Ex) : Ex := e.l.getD 1 (eCon 0)
end Ex
section
variable (op n v w : Int) (a b : Ex) (l : List Ex)
@[simp] theorem x_two : (eTwo op a b).x = a := rfl
@[simp] theorem y_two : (eTwo op a b).y = b := rfl
@[simp] theorem x_one : (eOne op a).x = a := rfl
@[simp] theorem x_mk : (Ex.mk op n v w (a :: l)).x = a := rfl
@[simp] theorem y_mk : (Ex.mk op n v w (a :: b :: l)).y = b := rfl
end
/-- The weight of an operator. -/
def wOp (op : Int) : Nat := if op = 3 ∨ op = 4 ∨ op = 9 ∨ op = 10 ∨ op = 11 then 2 else 1
mutual
def Ex.wt : Ex → Nat
  | .mk op _ _ _ l => wOp op + wts l
def wts : List Ex → Nat
  | [] => 0
  | e :: l => e.wt + wts l
end
@[simp] theorem wt_con (n : Int) : (eCon n).wt = 1 := rfl
end Go.Proofs.Ytngjcmeclhlfeaa

/- Contracts: slices.IndexFunc, slices.ContainsFunc, slices.Clone, at statements and at numbers (printed by gen_slices.py). -/
namespace Go.Proofs.Ytngjcmeclhlfeaa
open Go.RowKit
/-- slices.IndexFunc, with a predicate that changes nothing. -/
theorem index_in_ac {f : Nat} {fs cs : List AV} {p : Int → Bool} (A : AHeap) (l : List Int) (hf : okF Try.prog f = true) (hp : ∀ a ∈ l, ∀ N, AC Try.prog f (fs ++ [aI .i64 a] ++ cs) (A ++ N) (Same0 A (aB (p a)))) :
    AC Try.prog 57 [.d (.sl 1 (i64s l)), .fn f fs cs] A (Same0 A (aI .i64 (match l.findIdx? p with | some i => (i : Int) | none => -1))) := by
  refine ac_of Try.func57 rfl (by kernel_rfl) (by simp [Try.ntmps57]) fun hb => ?_
  have n1 : l.length ≤ maxLen := by simpa using hb.1.1
  clear hb
  obtain ⟨R, hR⟩ : ∃ R : Int, (match l.findIdx? p with | some i => (i : Int) | none => -1) = R := ⟨_, rfl⟩
  rw [hR]
  simp [Try.f57]
  refine aLoop_of (α := Nat) (fun i e A' => i ≤ l.length ∧ (∃ N, A' = A ++ N) ∧ e 8 = aI .i64 i ∧ e 7 = aI .i64 l.length ∧ e 0 = .d (.sl 1 (i64s l)) ∧ e 1 = .fn f fs cs ∧
    ∀ (j : Nat) (a : Int), j < i → l[j]? = some a → p a = false) (fun i => l.length - i) 0 (Sub.refl _ _ _) ⟨by omega, ⟨[], by simp⟩, by simp, by simp, by simp, by simp, by intro j a hj; omega⟩ ?_
  rintro i e A' ⟨hi, ⟨N, rfl⟩, e8, e7, e0, e1, hall⟩ K hK
  simp [e8, e7]
  refine aCond_split (fun hlt => ?_) (fun hge => ?_)
  · simp at hlt
    have hi1 := List.getElem?_eq_getElem hlt
    simp [e0, e1, e8, hi1]
    refine aCall_ofc (hp l[i] (List.mem_of_getElem? hi1) N) hf ?_
    rintro _ _ ⟨rfl, N', rfl⟩
    simp
    refine aCond_split (fun ht => ?_) (fun hf => ?_)
    · have : l.findIdx? p = some i := by
        rw [List.findIdx?_eq_some_iff_getElem]
        exact ⟨hlt, ht, fun j hj => by simpa using hall j _ hj (List.getElem?_eq_getElem (by omega))⟩
      rw [this] at hR
      subst hR
      simp [Same0]
    · simp [e8, succ_wrap hlt n1]
      refine hK (i + 1) _ _ _ _ (Sub.refl _ _ _) ⟨by omega, ⟨N', rfl⟩, by simp, by simp [e7], by simp [e0], by simp [e1], fun j a hj ha => ?_⟩ (by omega)
      rcases Nat.lt_or_ge j i with h | h
      · exact hall j a h ha
      · obtain rfl : j = i := by omega
        rw [hi1] at ha
        obtain rfl := Option.some.inj ha
        exact hf
  · simp at hge
    have : l.findIdx? p = none := by
      rw [List.findIdx?_eq_none_iff]
      intro x hx
      obtain ⟨j, hj⟩ := List.getElem?_of_mem hx
      exact hall j x (by have := (List.getElem?_eq_some_iff.1 hj).1; omega) hj
    rw [this] at hR
    subst hR
    simp [Same0]
theorem contains_in_ac {f : Nat} {fs cs : List AV} {p : Int → Bool} (A : AHeap) (l : List Int) (hf : okF Try.prog f = true) (hp : ∀ a ∈ l, ∀ N, AC Try.prog f (fs ++ [aI .i64 a] ++ cs) (A ++ N) (Same0 A (aB (p a)))) :
    AC Try.prog 32 [.d (.sl 1 (i64s l)), .fn f fs cs] A (Same0 A (aB (l.any p))) := by
  refine ac_of Try.func32 rfl (by kernel_rfl) (by simp [Try.ntmps32]) fun hb => ?_
  simp [Try.f32]
  refine aCall_ofc (index_in_ac A l hf hp) (by simp) ?_
  rintro _ _ ⟨rfl, N, rfl⟩
  simp [Same0]
  cases h : l.findIdx? p with
  | none =>
    rw [List.findIdx?_eq_none_iff] at h
    simpa using h
  | some i =>
    rw [List.findIdx?_eq_some_iff_getElem] at h
    obtain ⟨hi, hp, _⟩ := h
    simpa using ⟨_, List.getElem_mem hi, hp⟩
theorem clone_in_ac (A : AHeap) (xs : List (List D)) (hl : xs.length ≤ 1000000000) :
    AC Try.prog 75 [.d (.sl 1 xs)] A fun r A' => r = .own A.length 1 0 xs.length ∧ A' = A ++ [⟨1, true, 3, 1, dEls xs⟩] := by
  refine AC.sub (R := fun r A' => (r = .own A.length 1 0 xs.length ∧ A' = A ++ [⟨1, true, 3, 1, dEls xs⟩]) ∨ (r = .d (.v (.slice none 0 0)) ∧ xs = [] ∧ A' = A)) (ac_of Try.func75 rfl (by kernel_rfl) (by simp [Try.ntmps75]) fun hb => ?_) ?_
  · have hall := bds_all hb.1.2
    clear hb
    simp [Try.f75]
    refine aRaw_app byt_35 ?_
    simp [hall]
    unfold maxLen
    omega
  · rintro r A' (⟨rfl, rfl⟩ | ⟨rfl, rfl, rfl⟩)
    · exact ⟨_, _, Sub.refl _ _ _, rfl, rfl⟩
    · refine ⟨_, _, (Sub.ghost 1 3 1).trans (Sub.env (e' := fun _ => .own A'.length 1 0 0) fun i => VLe.nil_own (k := ⟨1, true, 3, 1, []⟩) (by simp) rfl), ?_, ?_⟩ <;> simp
end Go.Proofs.Ytngjcmeclhlfeaa

/- Contracts: il.CheckGraph and what it calls. -/
namespace Go.Proofs.Ytngjcmeclhlfeaa
open Go.RowKit
theorem op_cases (op : Int) : op = 1 ∨ op = 2 ∨ op = 3 ∨ op = 4 ∨ op = 5 ∨ op = 6 ∨ op = 7 ∨ op = 8 ∨ op = 9 ∨ op = 10 ∨ (¬ op = 1 ∧ ¬ op = 2 ∧ ¬ op = 3 ∧ ¬ op = 4 ∧ ¬ op = 5 ∧ ¬ op = 6 ∧ ¬ op = 7 ∧ ¬ op = 8 ∧ ¬ op = 9 ∧ ¬ op = 10) := by omega
end Go.Proofs.Ytngjcmeclhlfeaa

/- Contracts: il.Successors, il.shaped, il.CheckGraph. -/
namespace Go.Proofs.Ytngjcmeclhlfeaa
open Go.RowKit
/-- The box of a graph, of a block. -/
abbrev gB (g : Gr) : Blk := ⟨0, true, 25, 2, [[aI .u32 g.ad, .d (.sl 2 (bls' g.b))]]⟩
theorem last_get {α : Type} {l : List α} {n : Nat} (h : l.length = n + 1) : ∃ s, l[n]? = some s ∧ l.getLast? = some s := by
  refine ⟨l[n], List.getElem?_eq_getElem (by omega), ?_⟩
  rw [List.getLast?_eq_getElem?, show l.length - 1 = n by omega]
  exact List.getElem?_eq_getElem (by omega)
/-- Sizes that a machine holds. -/
def GrFit (g : Gr) : Prop := g.b.length ≤ 1000000 ∧ ∀ b ∈ g.b, b.s.length ≤ 1000000 ∧ ∀ s ∈ b.s, s.e.length ≤ 1000000 ∧ s.cs.length ≤ 2000000
end Go.Proofs.Ytngjcmeclhlfeaa

/- Contracts: the reference's comparisons of numbers, statements, graphs. -/
namespace Go.Proofs.Ytngjcmeclhlfeaa
open Go.RowKit
end Go.Proofs.Ytngjcmeclhlfeaa

/- The rewriting of blocks by flagfuse as plain functions. No program in sight. -/
namespace Go.Proofs.Ytngjcmeclhlfeaa
open Go.RowKit
end Go.Proofs.Ytngjcmeclhlfeaa

/- Contract: law 19's SmallGraph. -/
namespace Go.Proofs.Ytngjcmeclhlfeaa
open Go.RowKit
/-- What SmallGraph leaves of n after some statements, some blocks. -/
def stsI (m : Int) : List St → Int → Int
  | [], n => n
  | s :: l, n => if 4 < s.e.length ∨ 100 < s.cs.length ∨ nodL s.e m n < 0 then -1 else stsI m l (nodL s.e m n)
def blsI (m : Int) : List Bl → Int → Int
  | [], n => n
  | b :: l, n => if 1100 < b.s.length ∨ stsI m b.s n < 0 then -1 else blsI m l (stsI m b.s n)
def smallG (g : Gr) (m : Int) : Bool := !decide (300 < g.b.length) && decide (0 ≤ blsI m g.b 20000)
theorem stsI_le (m : Int) : ∀ (l : List St) (n : Int), 0 ≤ n → stsI m l n ≤ n ∧ (0 ≤ stsI m l n → ∀ s ∈ l, s.e.length ≤ 4 ∧ s.cs.length ≤ 100 ∧ (Ex.nodess s.e : Int) ≤ n ∧ (Ex.depths s.e : Int) ≤ max m 0)
  | [], n, h => by simp [stsI]
  | s :: l, n, h => by
    simp only [stsI]
    split
    · exact ⟨by omega, fun h => by omega⟩
    · rename_i hc
      have h1 := nodL_le s.e m n (by omega)
      have h2 := stsI_le m l (nodL s.e m n) (by omega)
      have hp := Ex.nodess_len s.e
      refine ⟨by omega, fun h0 x hx => ?_⟩
      rcases List.mem_cons.1 hx with rfl | hx
      · omega
      · have := h2.2 h0 x hx
        omega
theorem blsI_le (m : Int) : ∀ (l : List Bl) (n : Int), 0 ≤ n → 0 ≤ blsI m l n → ∀ b ∈ l, b.s.length ≤ 1100 ∧ ∀ s ∈ b.s, s.e.length ≤ 4 ∧ s.cs.length ≤ 100 ∧ (Ex.nodess s.e : Int) ≤ n ∧ (Ex.depths s.e : Int) ≤ max m 0
  | [], n, h, _ => by simp
  | b :: l, n, h, h0 => by
    simp only [blsI] at h0
    split at h0
    · omega
    · rename_i hc
      have h1 := stsI_le m b.s n h
      intro x hx
      rcases List.mem_cons.1 hx with rfl | hx
      · exact ⟨by omega, fun s hs => by have := h1.2 (by omega) s hs; omega⟩
      · have := blsI_le m l (stsI m b.s n) (by omega) h0 x hx
        exact ⟨this.1, fun s hs => by have := this.2 s hs; omega⟩
theorem smallG_fit {g : Gr} {m : Int} (h : smallG g m = true) : GrFit g ∧ g.b.length ≤ 300 ∧ ∀ b ∈ g.b, b.s.length ≤ 1100 ∧ ∀ s ∈ b.s, s.e.length ≤ 4 ∧ s.cs.length ≤ 100 ∧ Ex.nodess s.e ≤ 20000 ∧ (Ex.depths s.e : Int) ≤ max m 0 := by
  simp [smallG] at h
  have := blsI_le m g.b 20000 (by omega) h.2
  refine ⟨⟨by omega, fun b hb => ?_⟩, h.1, fun b hb => ?_⟩
  · have h1 := this b hb
    exact ⟨by omega, fun s hs => by have := h1.2 s hs; omega⟩
  · have h1 := this b hb
    exact ⟨by omega, fun s hs => by have := h1.2 s hs; omega⟩
theorem smallg_af (g : Gr) (m : Int) (h1 : -1000000 ≤ m) (h2 : m ≤ 1000000) : AF Try.prog 23 [grV g, aI .i64 m] (aB (smallG g m)) := by
  obtain ⟨R, hR⟩ : ∃ R, smallG g m = R := ⟨_, rfl⟩
  rw [hR]
  rw [smallG] at hR
  refine af_of Try.func23 rfl (by kernel_rfl) (by simp [Try.ntmps23]) fun _ => ?_; simp [Try.f23, Ex.d_eq]
  by_cases h3 : 300 < g.b.length
  · simp [h3] at hR
    subst hR
    simp [show (300 : Int) < g.b.length by omega]
  have hl : g.b.length ≤ maxLen := by unfold maxLen; omega
  simp [h3] at hR
  simp [show ¬ (300 : Int) < g.b.length by omega]
  refine aLoop_st (α := Nat × Int) (fun p => [(2, .ptr 0 0 0 0), (1, aI .i64 m), (5, aI .i64 p.2), (6, aI .i64 p.1)]) (fun _ => [gB g])
    (fun p => p.1 ≤ g.b.length ∧ 0 ≤ p.2 ∧ p.2 ≤ 20000 ∧ decide (0 ≤ blsI m (g.b.drop p.1) p.2) = R) (fun p => g.b.length - p.1) (0, 20000) (Sub.refl _ _ _) 1 (by omega) (by simp) (by simp) ⟨by omega, by omega, by omega, by simpa using hR⟩ ?_
  rintro ⟨i, n⟩ ⟨hi, hn0, hn1, hx⟩ K hK
  simp only at hi hn0 hn1 hx hK ⊢
  rcases Nat.lt_or_ge i g.b.length with hlt | hge
  case inr =>
    obtain rfl : i = g.b.length := by omega
    simp [blsI, hn0] at hx
    subst hx
    simp
  obtain ⟨b, hb⟩ : ∃ b, g.b[i]? = some b := ⟨_, List.getElem?_eq_getElem hlt⟩
  have hb2 := (List.getElem?_eq_some_iff.1 hb).2
  have hdrop : g.b.drop i = b :: g.b.drop (i + 1) := by rw [List.drop_eq_getElem_cons hlt, hb2]
  rw [hdrop, blsI] at hx
  simp [hlt, hb, hb2, Bl.d_eq]
  by_cases h4 : 1100 < b.s.length
  · rw [if_pos (.inl h4)] at hx
    simp at hx
    subst hx
    simp [show (1100 : Int) < b.s.length by omega]
  have hbl : b.s.length ≤ maxLen := by unfold maxLen; omega
  simp [show ¬ (1100 : Int) < b.s.length by omega]
  have hle := stsI_le m b.s n hn0
  refine aLoop_st (α := Nat × Int) (fun p => [(2, .ptr 0 0 0 0), (1, aI .i64 m), (5, aI .i64 p.2), (6, aI .i64 i), (7, aI .i64 p.1)]) (fun _ => [gB g])
    (fun p => p.1 ≤ b.s.length ∧ 0 ≤ p.2 ∧ p.2 ≤ 20000 ∧ stsI m (b.s.drop p.1) p.2 = stsI m b.s n) (fun p => b.s.length - p.1) (0, n) (Sub.refl _ _ _) 1 (by omega) (by simp) (by simp) ⟨by omega, by omega, by omega, by simp⟩ ?_
  rintro ⟨k, n2⟩ ⟨hk, hk0, hk1, hy⟩ K2 hK2
  simp only at hk hk0 hk1 hy hK2 ⊢
  rcases Nat.lt_or_ge k b.s.length with hlt2 | hge2
  case inr =>
    obtain rfl : k = b.s.length := by omega
    simp [stsI] at hy
    rw [← hy, if_neg (by omega)] at hx
    simp [hlt, hb, hb2, Bl.d_eq, succ_wrap hlt hl]
    exact hK (i + 1, n2) ⟨by simp only; omega, hk0, hk1, hx⟩ (by simp only; omega) (Sub.refl _ _ _) 1 (by omega) (by simp) (by simp)
  obtain ⟨s, hs⟩ : ∃ s, b.s[k]? = some s := ⟨_, List.getElem?_eq_getElem hlt2⟩
  have hs2 := (List.getElem?_eq_some_iff.1 hs).2
  have hdrop2 : b.s.drop k = s :: b.s.drop (k + 1) := by rw [List.drop_eq_getElem_cons hlt2, hs2]
  rw [hdrop2, stsI] at hy
  simp [hlt, hb, hb2, Bl.d_eq, hlt2, hs, hs2, St.d_eq]
  have hno : stsI m b.s n = -1 → R = false := fun h => by
    rw [h, if_pos (.inr (by omega))] at hx
    simpa using hx.symm
  by_cases h5 : 4 < s.e.length
  · rw [if_pos (.inl h5)] at hy
    have := hno hy.symm
    subst this
    simp [show (4 : Int) < s.e.length by omega]
  simp [show ¬ (4 : Int) < s.e.length by omega]
  by_cases h6 : 100 < s.cs.length
  · rw [if_pos (.inr (.inl h6))] at hy
    have := hno hy.symm
    subst this
    simp [show (100 : Int) < s.cs.length by omega]
  simp [show ¬ (100 : Int) < s.cs.length by omega]
  have hel : s.e.length ≤ maxLen := by unfold maxLen; omega
  refine aLoop_st (α := Nat × Int) (fun p => [(2, .ptr 0 0 0 0), (1, aI .i64 m), (5, aI .i64 p.2), (6, aI .i64 i), (7, aI .i64 k), (8, .ptr 1 0 0 0), (9, aI .i64 p.1)])
    (fun _ => [gB g, ⟨0, true, 73, 8, [[aI .i64 s.op, aI .i64 s.va, aI .i64 s.wd, aI .i64 s.nx, aI .i64 s.el, aI .u32 s.tg, .d (.sl 5 (Ex.ds s.e)), .d (.sl 1 (i64s s.cs))]]⟩])
    (fun p => p.1 ≤ s.e.length ∧ 0 ≤ p.2 ∧ p.2 ≤ 20000 ∧ nodL (s.e.drop p.1) m p.2 = nodL s.e m n2) (fun p => s.e.length - p.1) (0, n2) (Sub.refl _ _ _) 2 (by omega) (by simp) (by simp) ⟨by omega, by omega, by omega, by simp⟩ ?_
  rintro ⟨q, n3⟩ ⟨hq, hq0, hq1, hz⟩ K3 hK3
  simp only at hq hq0 hq1 hz hK3 ⊢
  rcases Nat.lt_or_ge q s.e.length with hlt3 | hge3
  case inr =>
    obtain rfl : q = s.e.length := by omega
    simp [nodL] at hz
    rw [← hz, if_neg (by omega)] at hy
    simp [succ_wrap hlt2 hbl]
    exact hK2 (k + 1, n3) ⟨by simp only; omega, hq0, hq1, hy⟩ (by simp only; omega) (Sub.refl _ _ _) 1 (by omega) (by simp) (by simp)
  obtain ⟨x, hxi⟩ : ∃ x, s.e[q]? = some x := ⟨_, List.getElem?_eq_getElem hlt3⟩
  have hx2 := (List.getElem?_eq_some_iff.1 hxi).2
  have hdrop3 : s.e.drop q = x :: s.e.drop (q + 1) := by rw [List.drop_eq_getElem_cons hlt3, hx2]
  rw [hdrop3, nodL, if_pos hq0] at hz
  have hnod := nodI_le x m n3 (by omega)
  simp [hlt3, hxi, hx2, Ex.d_eq]
  refine aCall_of (nodes_af x m n3 h1 h2 (by omega) (by omega)) (by simp) (by simp [Ex.d_eq]) ?_; simp [Ex.d_eq]
  by_cases h7 : nodI x m n3 < 0
  · rw [nodL_neg _ _ _ h7] at hz
    rw [if_pos (.inr (.inr (by rw [← hz]; exact h7)))] at hy
    have := hno hy.symm
    subst this
    simp [h7]
  · simp [h7, succ_wrap hlt3 hel]
    exact hK3 (q + 1, nodI x m n3) ⟨by simp only; omega, by simp only; omega, by simp only; omega, hz⟩ (by simp only; omega) (Sub.refl _ _ _) 2 (by omega) (by simp) (by simp)
end Go.Proofs.Ytngjcmeclhlfeaa
