/- The abstract calculator: maps. No program in sight. -/
import Derived.Test.YtngjcmeclhlfeaaAz
import Derived.Carry
set_option linter.unusedSimpArgs false
set_option linter.unusedVariables false
set_option linter.unnecessarySimpa false
namespace Go.Proofs.Ytngjcmeclhlfeaa
open Go.RowKit
section
variable {P : Program} {H : Nat → Prop} {ι ι' : Place} {A A' : AHeap} {w w' : World} {e : AEnv} {ec : Env} {C : Ctx} {n : Nat} {K : AKont}
/-- Keys that are numbers, strings or bools. -/
def plainK : TypeDesc → Bool
  | .int _ | .string | .bool => true
  | _ => false
theorem run_checkK {kt : TypeId} {d : TypeDesc} {v : Value} {em : Bool} (hd : P.underlying kt = some d) (hp : plainK d = true) : (Instr.checkKey em 10000 kt v).run P w = .ok () w := by
  unfold Instr.checkKey
  simp only [Sem.run_bind, run_underlying hd, Result.andThen_ok]
  cases d <;> simp [plainK] at hp <;> rfl
/-- Where a key stands. -/
def findA (d : TypeDesc) (k : Value) : List (List AV) → Nat → Option (Option (Nat × List AV))
  | [], _ => some none
  | (.d (.v x) :: row) :: l, i => match Instr.sameNow d k x with
    | some true => some (some (i, row))
    | some false => findA d k l (i + 1)
    | none => none
  | _, _ => none
theorem run_findKey {kt : TypeId} {d : TypeDesc} {k : Value} {es : List MapEntry} {r : Option (Nat × Value)} (hd : P.underlying kt = some d) (h : Instr.findNow d k es 0 = some r) : (Instr.findKey kt k es).run P w = .ok r w := by
  unfold Instr.findKey
  simp [run_underlying hd, h]
/-- The element's zero value. -/
def zeroM (P : Program) (et ty : Nat) : Option AV := match zv P et with
  | some (.agg cs) => if ty = 1000002 ∧ (cs.toList.all fun v => v.oneCell') = true then some (.agg (cs.toList.map fun v => .d (.v v))) else none
  | some z => if ty = 1000001 ∧ z.oneCell' = true then some (.d (.v z)) else none
  | none => none
def valM (ty : Nat) (vc : List AV) : Option AV := if ty = 1000001 then (match vc with
  | [c] => some c
  | _ => none) else some (.agg vc)
def okM (ok : Bool) (c : AV) (b : Bool) : AV := if ok then .tup [c, .d (.v (.bool b))] else c
/-- m[k], v, ok = m[k]. -/
def lookupA (P : Program) (t : TypeId) (A : AHeap) (ok : Bool) (x y : AV) : Option AV := match P.underlying t with
  | some (.map kt et) => match P.underlying kt with
    | some d => if plainK d = true then (match x, y with
      | .mp b ver, .d (.v kv) => (match A[b]? with
        | some k => if ver = k.ver ∧ (k.ty = 1000001 ∨ k.ty = 1000002) then (match findA d kv k.els 0 with
          | some (some (_, vc)) => (match valM k.ty vc with
            | some c => some (okM ok c true)
            | none => none)
          | some none => (match zeroM P et k.ty with
            | some c => some (okM ok c false)
            | none => none)
          | none => none) else none
        | none => none)
      | .d (.v (.map none)), .d (.v kv) => (match zeroM P et 1000001 with
        | some c => some (okM ok c false)
        | none => (match zeroM P et 1000002 with
          | some c => some (okM ok c false)
          | none => none))
      | _, _ => none) else none
    | none => none
  | _ => none
/-- A map is made. -/
def makeM (P : Program) (t : TypeId) : Option (Nat × Nat) := match P.underlying t with
  | some (.map kt et) => match zv P et with
    | some (.agg cs) => some (1000002, cs.size + 1)
    | some _ => match P.underlying kt with
      | some (.struct _) => some (1000003, P.cellsOf kt + 1)
      | _ => some (1000001, 2)
    | none => none
  | _ => none
def isAgg : AV → Bool
  | .agg _ => true
  | _ => false
/-- m[k] = v. -/
def updA (P : Program) (t : TypeId) (A : AHeap) (x y z : AV) : Option AHeap := match P.underlying t with
  | some (.map kt et) => match P.underlying kt with
    | some d => if plainK d = true then (match x, y with
      | .mp b ver, .d (.v kv) => (match A[b]?, cellsA z with
        | some k, some vc => if ver = k.ver ∧ k.wr = true ∧ kv.oneCell' = true ∧ vc.length + 1 = k.sz ∧ ((k.ty = 1000001 ∧ isAgg z = false) ∨ (k.ty = 1000002 ∧ isAgg z = true)) then (match findA d kv k.els 0 with
          | some (some (j, _)) => some (A.set b (setEls k (k.els.set j (.d (.v kv) :: vc))))
          | some none => some (A.set b (setEls k (k.els ++ [.d (.v kv) :: vc])))
          | none => none) else none
        | _, _ => none)
      | _, _ => none) else none
    | none => none
  | _ => none
/-- Where a struct key stands. -/
def findKA (P : Program) (kt : TypeId) (ks : List Value) : List (List AV) → Nat → Option (Option (Nat × AV))
  | [], _ => some none
  | row :: l, i => match allV row.dropLast, row.getLast? with
    | some xs, some vc => (match eqV P kt ks.toArray xs.toArray with
      | some true => some (some (i, vc))
      | some false => findKA P kt ks l (i + 1)
      | none => none)
    | _, _ => none
/-- Struct keys of plain fields. -/
def okKS (P : Program) (kt : TypeId) (ks : List Value) : Bool := match P.underlying kt with
  | some (.struct fs) => fs.toList.all fun f => f.name == "_" || (P.plainKey f.type && decide (f.offset < ks.length))
  | _ => false
/-- m[k], v, ok = m[k], where k is a struct. -/
def lookupK (P : Program) (t : TypeId) (A : AHeap) (ok : Bool) (x y : AV) : Option AV := match P.underlying t with
  | some (.map kt et) => (match x, aggV y with
    | .mp b ver, some ks => (match A[b]? with
      | some k => if ver = k.ver ∧ k.ty = 1000003 ∧ okKS P kt ks = true then (match findKA P kt ks k.els 0 with
        | some (some (_, vc)) => some (okM ok vc true)
        | some none => (match zeroM P et 1000001 with
          | some c => some (okM ok c false)
          | none => none)
        | none => none) else none
      | none => none)
    | _, _ => none)
  | _ => none
/-- m[k] = v, where k is a struct that the map does not hold yet. -/
def updK (P : Program) (t : TypeId) (A : AHeap) (x y z : AV) : Option AHeap := match P.underlying t with
  | some (.map kt et) => (match x, aggV y with
    | .mp b ver, some ks => (match A[b]?, cellsA z with
      | some k, some vc => if ver = k.ver ∧ k.wr = true ∧ k.ty = 1000003 ∧ okKS P kt ks = true ∧ (ks.all fun v => v.oneCell') = true ∧ ks.length + 1 = k.sz ∧ isAgg z = false then (match findKA P kt ks k.els 0 with
          | some none => some (A.set b (setEls k (k.els ++ [ks.map (fun v => .d (.v v)) ++ vc])))
          | _ => none) else none
      | _, _ => none)
    | _, _ => none)
  | _ => none
/-- The entry of a struct key that the map does not hold yet: the element's zero is laid; the value and the stamp. -/
def entryK (P : Program) (t : TypeId) (A : AHeap) (x y : AV) : Option (AV × AHeap) := match P.underlying t with
  | some (.map kt et) => (match x, aggV y with
    | .mp b ver, some ks => (match A[b]?, zv P et with
      | some k, some u => if ver = k.ver ∧ k.wr = true ∧ k.ty = 1000003 ∧ okKS P kt ks = true ∧ (ks.all fun v => v.oneCell') = true ∧ ks.length + 1 = k.sz ∧ u.oneCell' = true then (match findKA P kt ks k.els 0 with
          | some none => some (.tup [.d (.v u), .d (.v (.int .i64 k.els.length))], A.set b (setEls k (k.els ++ [ks.map (fun v => .d (.v v)) ++ [.d (.v u)]])))
          | _ => none) else none
      | _, _ => none)
    | _, _ => none)
  | _ => none
/-- An entry of a map with struct keys gets a value, by its stamp. -/
def entStK (P : Program) (A : AHeap) (x y z : AV) : Option AHeap := match x, y with
  | .mp b ver, .d (.v (.int _ (.ofNat s))) => (match A[b]?, cellsA z with
    | some k, some vc => if ver = k.ver ∧ k.wr = true ∧ k.ty = 1000003 ∧ isAgg z = false then (match k.els[s]? with
      | some row => some (A.set b (setEls k (k.els.set s (row.dropLast ++ vc))))
      | none => none) else none
    | _, _ => none)
  | _, _ => none
/-- m[k] and m[k] = v, whatever the keys. -/
def lookupE (P : Program) (t : TypeId) (A : AHeap) (ok : Bool) (x y : AV) : Option AV := match lookupA P t A ok x y with
  | some r => some r
  | none => lookupK P t A ok x y
def updE (P : Program) (t : TypeId) (A : AHeap) (x y z : AV) : Option AHeap := match updA P t A x y z with
  | some r => some r
  | none => updK P t A x y z
/-- len of a map of one's own. -/
def lenM (P : Program) (t : TypeId) (A : AHeap) (x : AV) : Option AV := match P.underlying t, x with
  | some (.map _ _), .mp b ver => (match A[b]? with
    | some k => if ver = k.ver ∧ (k.ty = 1000001 ∨ k.ty = 1000002) then some (.d (.v (.int .i64 k.els.length))) else none
    | none => none)
  | _, _ => none
end
end Go.Proofs.Ytngjcmeclhlfeaa
