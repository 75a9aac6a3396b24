import Derived.Below
import Derived.Carry
import Derived.WalkKit
import Derived.Orders
import Derived.ChangeKeysEq
import Derived.Laws.StructEq
set_option linter.all false
namespace Go.Proofs.YtfnbhkbfelllgaaGreatDoor
theorem gSI.{u} {α:Type u} {l:List α} {i:Nat} {a:α}:l[i]? = some a↔∃ h:i < l.length,l[i]=a:=List.getElem?_eq_some_iff
theorem gMO.{u} {α:Type u} {l:List α} {i:Nat} {a:α} (e:l[i]? = some a):a∈l:=List.mem_of_getElem? e
theorem gEG.{u} {α:Type u} {l:List α} {i:Nat} (h:i < l.length):l[i]? = some l[i]:=List.getElem?_eq_getElem h
theorem gSN.{u} {α:Type u} {l:List α} {i j:Nat} {a:α} (h:i≠j):(l.set i a)[j]? = l[j]? := List.getElem?_set_ne h
theorem gAL.{u} {α:Type u} {l m:List α} {i:Nat} (h:i < l.length):(l++m)[i]? = l[i]? := List.getElem?_append_left h
theorem gSS.{u} {α:Type u} {l:List α} {i:Nat} {a:α} (h:i < l.length):(l.set i a)[i]? = some a:=List.getElem?_set_self h
theorem oSI.{u} {α:Type u} {a b:α} (h:some a=some b):a=b:=Option.some.inj h
open Go.RowKit
abbrev Env:=Nat→Value
def ev (e:Env):Operand→Value
 | .tmp t=>e t
 | .const v=>v
 | .global g=>.pointer (some ⟨g,0,none⟩)
 | .func f=>.func (.func f) #[] #[]
def upd (e:Env) (d:Option Nat) (v:Value):Env:=match d with
 | none=>e
 | some d=>fun i=>if i=d then v else e i
def tk (P:Program) (t:TypeId):Option (Bool×Nat):=match P.underlying t,P.info? t with
 | some (.struct _),some i=>some (true,i.size)
 | some (.array _ _),some i=>some (true,i.size)
 | some _,some i=>some (false,i.size)
 | _,_=>none
def fo (P:Program) (s f:Nat):Option Nat:=match P.underlying s with
 | some (.struct fs) => match fs[f]? with
   | some fd => match P.info? fd.type with
     | some i=>if i.size=0 then none else some fd.offset
     | none=>none
   | none=>none
 | _=>none
def ft (P:Program) (s f:Nat):Option (Nat×Nat):=match P.underlying s with
 | some (.struct fs) => match fs[f]? with
   | some fd=>some (fd.type,fd.offset)
   | none=>none
 | _=>none
def sl (P:Program) (t:TypeId):Option (Nat×Nat):=match P.underlying t with
 | some (.slice e) => match P.info? e with
   | some i=>some (e,i.size)
   | none=>none
 | _=>none
def ar (P:Program) (t:TypeId):Option (Nat×Nat×Nat):=match P.underlying t with
 | some (.array n e) => match P.info? e with
   | some i=>some (n,e,i.size)
   | none=>none
 | _=>none
def zv (P:Program) (t:TypeId):Option Value:=(P.info? t).bind (·.zero)
def isInt (P:Program) (t:TypeId):Option IntKind:=match P.underlying t with
 | some (.int k)=>some k
 | _=>none
def isStr (P:Program) (t:TypeId):Bool:=match P.underlying t with
 | some .string=>true
 | _=>false
def pt (P:Program) (t:TypeId) (cs:Array Value) (off:Nat):Option Value:=match tk P t with
 | some (true,n)=>some (.agg (cs.extract off (off + n)))
 | some (false,_)=>cs[off]?
 | none=>none
def binI (op:BinOp) (k:IntKind) (a b:Int):Option Value:=match op with
 | .add=>some (.int k (k.wrap (a + b)))
 | .sub=>some (.int k (k.wrap (a - b)))
 | .mul=>some (.int k (k.wrap (a * b)))
 | .quo=>if b=0 then none else some (.int k (k.wrap (a.tdiv b)))
 | .rem=>if b=0 then none else some (.int k (a.tmod b))
 | .and=>some (.int k (k.wrap (BitVec.ofInt k.bits a &&& BitVec.ofInt k.bits b).toNat))
 | .or=>some (.int k (k.wrap (BitVec.ofInt k.bits a ||| BitVec.ofInt k.bits b).toNat))
 | .xor=>some (.int k (k.wrap (BitVec.ofInt k.bits a ^^^ BitVec.ofInt k.bits b).toNat))
 | .andNot=>some (.int k (k.wrap (BitVec.ofInt k.bits a &&& ~~~ BitVec.ofInt k.bits b).toNat))
 | .eql=>some (.bool (decide (a=b)))
 | .neq=>some (.bool (!decide (a=b)))
 | .lss=>some (.bool (a < b))
 | .leq=>some (.bool (a≤b))
 | .gtr=>some (.bool (a > b))
 | .geq=>some (.bool (a ≥ b))
 | .shl=>none
 | .shr=>none
def binS (op:BinOp) (a b:ByteArray):Option Value:=match op with
 | .add=>if ((a.size + b.size:Nat):Int) > IntKind.i64.max then none else some (.string (a++b))
 | .eql=>some (.bool (a.toList == b.toList))
 | .neq=>some (.bool !(a.toList == b.toList))
 | _=>none
def shf (op:BinOp) (k:IntKind) (a b:Int):Option Value:=
 if b < 0 then none else match op with
 | .shl=>some (.int k (k.wrap (a * 2 ^ (min b.toNat k.bits))))
 | .shr=>some (.int k (a.fdiv (2 ^ (min b.toNat k.bits))))
 | _=>none
def eqC (P:Program) (t:TypeId) (a b:Value):Option Bool:=match P.underlying t with
 | some d=>Instr.sameNow d a b
 | none=>none
def eqFs (P:Program) (xs ys:Array Value):List Field→Option Bool
 | []=>some true
 | f :: fs => if f.name = "_" then eqFs P xs ys fs else match xs[f.offset]?, ys[f.offset]? with
   | some a, some b => (match eqC P f.type a b with
     | some true=>eqFs P xs ys fs
     | some false=>some false
     | none=>none)
   | _,_=>none
def eqIs (P:Program) (el:TypeId) (xs ys:Array Value):List Nat→Option Bool
 | []=>some true
 | i :: is => match xs[i]?, ys[i]? with
   | some a, some b => (match eqC P el a b with
     | some true=>eqIs P el xs ys is
     | some false=>some false
     | none=>none)
   | _,_=>none
def eqV (P:Program) (t:TypeId) (xs ys:Array Value):Option Bool:=match P.underlying t with
 | some (.struct fs)=>if (P.stoodInHeld t || P.eqGuardType P.depth t)=true then none else eqFs P xs ys fs.toList
 | some (.array n el)=>if P.eqGuardType P.depth t=true∨P.cellsOf el≠1 then none else eqIs P el xs ys (List.range n)
 | _=>none
def nilB (P:Program) (t:TypeId):Value→Value→Option Bool
 | .map x, .map none => match P.underlying t with
   | some (.map _ _)=>some x.isNone
   | _=>none
 | .pointer x, .pointer none => match P.underlying t with
   | some (.pointer _)=>some x.isNone
   | _=>none
 | .func _ _ _, .nilFunc => match P.underlying t with
   | some (.func _ _ _)=>some false
   | _=>none
 | .nilFunc, .nilFunc => match P.underlying t with
   | some (.func _ _ _)=>some true
   | _=>none
 | _,_=>none
def bin (P:Program) (op:BinOp) (t:TypeId) (x y:Value):Option Value:=match op,x,y with
 | .shl,.int k a,.int _ b=>shf .shl k a b
 | .shr,.int k a,.int _ b=>shf .shr k a b
 | op,.int k a,.int k' b=>if k=k' then binI op k a b else none
 | op,.string a,.string b=>binS op a b
 | .eql, .bool a, .bool b => match P.underlying t with
   | some .bool=>some (.bool (a == b))
   | _=>none
 | .neq, .bool a, .bool b => match P.underlying t with
   | some .bool=>some (.bool (!(a == b)))
   | _=>none
 | .eql, .slice none _ _, .slice b _ _ => match P.underlying t with
   | some (.slice _)=>some (.bool b.isNone)
   | _=>none
 | .eql, .slice (some _) _ _, .slice none _ _ => match P.underlying t with
   | some (.slice _)=>some (.bool false)
   | _=>none
 | .neq, .slice none _ _, .slice b _ _ => match P.underlying t with
   | some (.slice _)=>some (.bool !b.isNone)
   | _=>none
 | .neq, .slice (some _) _ _, .slice none _ _ => match P.underlying t with
   | some (.slice _)=>some (.bool true)
   | _=>none
 | .eql, .agg a, .agg b => match eqV P t a b with
   | some r=>some (.bool r)
   | none=>none
 | .neq, .agg a, .agg b => match eqV P t a b with
   | some r=>some (.bool !r)
   | none=>none
 | .eql, a, b => match nilB P t a b with
   | some r=>some (.bool r)
   | none=>none
 | .neq, a, b => match nilB P t a b with
   | some r=>some (.bool !r)
   | none=>none
 | _,_,_=>none
def un (op:UnOp) (x:Value):Option Value:=match op,x with
 | .neg,.int k n=>some (.int k (k.wrap (0 - n)))
 | .xor,.int k n=>binI .xor k (if k.signed then -1 else k.max) n
 | .not,.bool b=>some (.bool !b)
 | _,_=>none
def lenV (P:Program) (t:TypeId) (x:Value):Option Value:=match P.underlying t,x with
 | some .string,.string s=>some (.int .i64 s.size)
 | some (.array n _),_=>some (.int .i64 n)
 | some (.slice _),.slice _ n _=>some (.int .i64 n)
 | _,_=>none
def sb (x:Value) (y:Nat):Option Nat:=match x with
 | .int _ i=>if 0≤i∧i≤y then some i.toNat else none
 | _=>none
def sbs (len cap:Nat) (lo hi mx:Option Value):Option (Nat×Nat×Nat):=
 match (match mx with | some v=>sb v cap | none=>some cap) with
 | none=>none
 | some m =>
   match (match hi,mx with | some v,some _=>sb v m | some v,none=>sb v cap | none,none=>some len | none,some _=>none) with
   | none=>none
   | some h => match (match lo with | some v => sb v h | none => some 0) with
     | none=>none
     | some l=>some (l,h,m)
def pvCall (P:Program) (e:Env) (c:Call):Option Value:=match c.callee with
 | .builtin .len => match c.args.toList, c.argTypes.toList with
   | [x],[t]=>lenV P t (ev e x)
   | _,_=>none
 | .builtin .min => match c.args.toList with
   | [x, y] => (match ev e x, ev e y with
     | .int k a,.int _ b=>some (.int k (if b < a then b else a))
     | _,_=>none)
   | _=>none
 | _=>none
def pv (P:Program) (e:Env):Op→Option Value
 | .move x | .assign x=>some (ev e x)
 | .pick c a b => match ev e c with
   | .bool t=>some (if t then ev e a else ev e b)
   | _=>none
 | .nilCheck x => match ev e x with
   | .pointer (some a)=>some (.pointer (some a))
   | .func (.func f) p q=>some (.func (.func f) p q)
   | _=>none
 | .binOp op t x y _=>bin P op t (ev e x) (ev e y)
 | .unOp op _ x=>un op (ev e x)
 | .convert s d x => match ev e x, P.underlying s, isInt P d with
   | .int _ n,some _,some k=>some (.int k (k.wrap n))
   | _,_,_=>none
 | .makeFunc fn f c=>some (.func fn (f.map (ev e)) (c.map (ev e)))
 | .fieldAddr s x f => match ev e x, fo P s f with
   | .pointer (some ⟨b,o,none⟩),some n=>some (.pointer (some ⟨b,o + n,none⟩))
   | _,_=>none
 | .field t x f => match ev e x, ft P t f with
   | .agg cs,some (ty,off)=>pt P ty cs off
   | _,_=>none
 | .indexAddr t x i => match ev e i with
   | .int _ j => match ev e x with
     | .slice (some ⟨b, o, none⟩) len _ => match sl P t with
       | some (_,sz)=>if 0≤j∧j < len then some (.pointer (some ⟨b,o + j.toNat * sz,none⟩)) else none
       | none=>none
     | .pointer (some ⟨b, o, none⟩) => match ar P t with
       | some (n,_,sz)=>if 0≤j∧j < n then some (.pointer (some ⟨b,o + j.toNat * sz,none⟩)) else none
       | none=>none
     | _=>none
   | _=>none
 | .index t x i => match ev e i with
   | .int _ j => match ev e x with
     | .agg cs => match ar P t with
       | some (n,el,sz)=>if 0≤j∧j < n then pt P el cs (j.toNat * sz) else none
       | none=>none
     | .string s=>if isStr P t then (if 0≤j then (s[j.toNat]?).map (fun b=>.int .u8 b.toNat) else none) else none
     | _=>none
   | _=>none
 | .extract x i => match ev e x with
   | .tuple vs=>vs[i]?
   | _=>none
 | .slice t x lo hi mx => match ev e x with
   | .string s => if isStr P t then (match mx with
     | some _=>none
     | none => match sbs s.size s.size (lo.map (ev e)) (hi.map (ev e)) none with
       | some (l,h,_)=>some (.string (s.extract l h))
       | none=>none) else none
   | .slice a len cap => match sl P t with
     | some (_, sz) => match sbs len cap (lo.map (ev e)) (hi.map (ev e)) (mx.map (ev e)) with
       | some (l,h,m)=>some (.slice (if m=l then a else a.map (·.add (l * sz))) (h - l) (m - l))
       | none=>none
     | none=>none
   | .pointer (some a) => match ar P t with
     | some (n, _, sz) => match sbs n n (lo.map (ev e)) (hi.map (ev e)) (mx.map (ev e)) with
       | some (l,h,m)=>some (.slice (some (if m=l then a else a.add (l * sz))) (h - l) (m - l))
       | none=>none
     | none=>none
   | _=>none
 | .call c=>pvCall P e c
 | _=>none
section
variable {P:Program}
theorem tk_agg {t n:Nat} (h:tk P t=some (true,n)):(∀ w,(isAgg t).run P w = .ok true w)∧(∀ w,(sizeOf t).run P w = .ok n w):=by
 unfold tk at h
 split at h<;>simp at h<;>rename_i h1 h2<;>(try obtain⟨h3,h4⟩:=h)<;>(try subst h) <;>
  exact⟨fun w=>by simp[isAgg,run_underlying h1],fun w=>by simp[sizeOf,typeInfo,h2]⟩
theorem tk_one {t n:Nat} (h:tk P t=some (false,n)):(∀ w,(isAgg t).run P w = .ok false w)∧(∀ w,(sizeOf t).run P w = .ok n w):=by
 unfold tk at h
 split at h<;>simp at h
 rename_i d i hs ha h1 h2
 subst h
 refine⟨fun w=>?_,fun w=>by simp[sizeOf,typeInfo,h2]⟩
 simp only[isAgg]
 cases d<;>simp_all [run_underlying h1]
theorem run_part {t:Nat} {cs:Array Value} {off:Nat} {v:Value} (h:pt P t cs off=some v) (w:World):(part t cs off).run P w = .ok v w:=by
 unfold pt at h
 split at h
 ·rename_i n hk
  obtain⟨h1,h2⟩:=tk_agg hk
  simp at h
  subst h
  simp[part,h1,h2]
 ·rename_i n hk
  obtain⟨h1,h2⟩:=tk_one hk
  simp[part,h1,h]
 ·cases h
end
end Go.Proofs.YtfnbhkbfelllgaaGreatDoor
