import Derived.Test.YtfnbhkbfelllgaaGreatDoorAl
import Derived.Test.YtfnbhkbfelllgaaGreatDoorAt
import Derived.Test.YtfnbhkbfelllgaaGreatDoorAx
import Derived.Test.YtfnbhkbfelllgaaGreatDoorAo
import Derived.Test.YtfnbhkbfelllgaaGreatDoorAy
import Derived.Test.YtfnbhkbfelllgaaGreatDoorAz
import Derived.Test.YtfnbhkbfelllgaaGreatDoorAA
import Derived.Test.YtfnbhkbfelllgaaGreatDoorAB
import Derived.Test.YtfnbhkbfelllgaaGreatDoorAr
import Derived.Laws.BytesArg
set_option linter.all false
namespace Go.Proofs.YtfnbhkbfelllgaaGreatDoor
open Go.RowKit
def bytesOf:List (List AV)→Option (List Int)
 | []=>some []
 | [.d (.v (.int .u8 n))] :: l => match bytesOf l with
   | some ns=>some (n::ns)
   | none=>none
 | _=>none
inductive XR where
 | nx (e:AEnv) (A:AHeap)
 | ex (j:Nat) (e:AEnv) (A:AHeap)
 | rt (e:AEnv) (A:AHeap)
abbrev XF:=FuncId→List AV→AHeap→Option (AV×AHeap)
def XFok (P:Program) (F:XF):Prop:=∀ f args A r A',F f args A=some (r,A')→okF P f=true∧AC P f args A fun r1 A1=>r1=r∧A1=A'
def xset (r:Option AV) (e:AEnv) (d:Option Nat) (A:AHeap):Option (AEnv×AHeap):=match r with
 | some v=>some (aupd e d v,A)
 | none=>none
def xnew (r:Option (AV×Blk)) (e:AEnv) (d:Option Nat) (A:AHeap):Option (AEnv×AHeap):=match r with
 | some (v,k)=>some (aupd e d v,A++[k])
 | none=>none
def xstr (P:Program) (s t:TypeId) (r:Option (List (List AV))) (e:AEnv) (d:Option Nat) (A:AHeap):Option (AEnv×AHeap):=match P.underlying s,P.underlying t,r with
 | some (.slice el), some .string, some new => match P.underlying el, bytesOf new with
   | some (.int .u8),some xs=>some (aupd e d (.d (.v (.string (strOfNums xs)))),A)
   | _,_=>none
 | _,_,_=>none
def xnx (A:AHeap) (e:AEnv) (d:Option Nat):AV→Option (AEnv×AHeap)
 | .ptr b ver 0 0 => match A[b]? with
   | some ⟨ver', true, 1000000, 2, [[.d (.v (.string s)), .d (.v (.int .i64 (.ofNat p)))]]⟩ =>
     if ver'=ver then (if h:p < s.size then (if (s[p]'h).toNat < 128 then some (aupd e d (.tup [.d (.v (.bool true)),.d (.v (.int .i64 p)),.d (.v (.int .i32 (s[p]'h).toNat))]),A.set b (itB ver s (p + 1))) else none) else some (aupd e d (.tup [.d (.v (.bool false))]),A)) else none
   | _=>none
 | _=>none
theorem xnx_spec {P:Program} {n:Nat} {x:Operand} {e e':AEnv} {d:Option Nat} {ty:TypeId} {pos:String} {af:Array Edge} {gd:Option (Nat×Bool)} {A A':AHeap} (h:xnx A e d (eva e x)=some (e',A')) {K:AKont} (hk:K e' A'):aRaw P n ⟨d,.next x true,ty,pos,af,gd⟩ e A K:=by
 unfold xnx at h
 split at h
 case h_2=>cases h
 rename_i b ver hx
 split at h
 case h_2=>cases h
 rename_i ver' s p hA
 split at h
 case isFalse=>cases h
 rename_i hv
 subst hv
 split at h
 ·rename_i hp
  split at h
  ·rename_i ha
   simp only[Option.some.injEq,Prod.mk.injEq] at h
   obtain⟨rfl,rfl⟩:=h
   exact aRaw_next hx hA (fun _=>⟨ha,hk⟩) (fun h=>by omega)
  ·cases h
 ·rename_i hp
  simp only[Option.some.injEq,Prod.mk.injEq] at h
  obtain⟨rfl,rfl⟩:=h
  exact aRaw_next hx hA (fun h=>absurd h hp) (fun _=>hk)
def xop (P:Program) (F:XF) (o:Oper) (e:AEnv) (A:AHeap):Option (AEnv×AHeap):=match o.op with
 | .load t a=>xset (alv P A t (eva e a)) e o.dst A
 | .store t a x => match astv P A t (eva e a) (eva e x) with
   | some A'=>some (aupd e o.dst .any,A')
   | none=>none
 | .alloc t=>xnew (newA P A.length e (.alloc t)) e o.dst A
 | .box t x=>xnew (newA P A.length e (.box t x)) e o.dst A
 | .buildSlice t len ps=>xnew (newA P A.length e (.buildSlice t len ps)) e o.dst A
 | .makeSlice t x y => match eva e x, eva e y with
   | .d (.v (.int _ (.ofNat l))), .d (.v (.int _ (.ofNat c))) => (match byt P t with
     | some (el, sz, bytes) => (match zvA P el with
       | some z=>if l≤c∧c≤maxLen∧bytes * c≤140737488355328 then some (aupd e o.dst (.own A.length 0 0 l),A++[⟨0,true,el,sz,List.replicate l z⟩]) else none
       | none=>none)
     | none=>none)
   | _,_=>none
 | .range t x => match P.underlying t, eva e x with
   | some .string,.d (.v (.string s))=>some (aupd e o.dst (.ptr A.length 0 0 0),A++[itB 0 s 0])
   | _,_=>none
 | .next x true=>xnx A e o.dst (eva e x)
 | .call c => match c.callee with
   | .value f => match eva e f with
     | .fn g fs cs => match F g (fs ++ c.args.toList.map (eva e) ++ cs) A with
       | some (r,A')=>some (aupd e o.dst r,A')
       | none=>none
     | _=>none
   | .builtin .len=>xset (apv P A e (.call c)) e o.dst A
   | .builtin .append => match c.args.toList, c.argTypes.toList with
     | [s, x], [t, t'] => if t' = t then (match byt P t with
       | some (el, sz, bytes) => match appT el sz A (eva e s) (eva e x) with
         | some (r,A',m)=>if m≤maxLen∧m * bytes≤140737488355328 then some (aupd e o.dst r,A') else none
         | none=>none
       | none=>none) else (match P.underlying t',eva e s,eva e x with
       | some (.int .i64), .d (.v (.slice none 0 0)), .d (.v (.int .i64 (.ofNat m))) => (match byt P t with
         | some (el, sz, bytes) => (match zvA P el with
           | some z=>if 0 < m∧m≤maxLen∧m * bytes≤140737488355328 then some (aupd e o.dst (.own A.length 0 0 m),A++[⟨0,true,el,sz,List.replicate m z⟩]) else none
           | none=>none)
         | none=>none)
       | _,_,_=>none)
     | _,_=>none
   | .builtin .cap => match c.args.toList, c.argTypes.toList with
     | [x], [t] => (match P.underlying t, eva e x with
       | some (.slice _),.d (.v (.slice none 0 0))=>some (aupd e o.dst (.d (.v (.int .i64 0))),A)
       | _,_=>none)
     | _,_=>none
   | .builtin .min => match c.args.toList with
     | [x, y] => (match eva e x, eva e y with
       | .d (.v (.int k a)),.d (.v (.int _ b))=>some (aupd e o.dst (.d (.v (.int k (if b < a then b else a)))),A)
       | _,_=>none)
     | _=>none
   | .builtin .max => match c.args.toList with
     | [x, y] => (match eva e x, eva e y with
       | .d (.v (.int k a)),.d (.v (.int _ b))=>some (aupd e o.dst (.d (.v (.int k (if a < b then b else a)))),A)
       | _,_=>none)
     | _=>none
   | .builtin .clear => match c.args.toList, c.argTypes.toList with
     | [x], [t] => (match clearA P t A (eva e x) with
       | some A'=>some (aupd e o.dst (.tup []),A')
       | none=>none)
     | _,_=>none
   | _=>none
 | .convert s d x => match eva e x with
   | .d (.v (.int k m))=>xset (apv P A e (.convert s d x)) e o.dst A
   | _=>none
 | .binOp op t x y u => match op, eva e x, eva e y with
   | .eql, .d (.sl _ xs), .d (.v (.slice none _ _)) => if (sl P t).isSome then (match xs with
     | []=>none
     | _::_=>some (aupd e o.dst (.d (.v (.bool false))),A)) else none
   | .neq, .d (.sl _ xs), .d (.v (.slice none _ _)) => if (sl P t).isSome then (match xs with
     | []=>none
     | _::_=>some (aupd e o.dst (.d (.v (.bool true))),A)) else none
   | .eql,.own b ver _ len,.d (.v (.slice none _ _))=>if (sl P t).isSome=true∧0 < len∧(curB A b ver).isSome=true then some (aupd e o.dst (.d (.v (.bool false))),A) else none
   | .neq,.own b ver _ len,.d (.v (.slice none _ _))=>if (sl P t).isSome=true∧0 < len∧(curB A b ver).isSome=true then some (aupd e o.dst (.d (.v (.bool true))),A) else none
   | _,_,_=>xset (apv P A e (.binOp op t x y u)) e o.dst A
 | .move .. | .assign .. | .pick .. | .nilCheck .. | .unOp .. | .makeFunc .. | .fieldAddr .. | .field .. | .indexAddr .. | .index .. | .extract .. | .slice .. | .build .. => xset (apv P A e o.op) e o.dst A
 | _=>none
def xops (P:Program) (F:XF) (ops:Array Oper):List Oper→AEnv→AHeap→Option (AEnv×AHeap)
 | [],e,A=>some (e,A)
 | o :: os, e, A => match o.guard with
   | none => match xop P F o e A with
     | some (e',A')=>xops P F ops os e' A'
     | none=>none
   | some (j, want) => match agval e ((ops[j]?).bind (·.dst)) with
     | some b => if b = some want then (match xop P F o e A with
       | some (e',A')=>xops P F ops os e' A'
       | none=>none) else xops P F ops os (aupd e o.dst (.tup [])) A
     | none=>none
def xdo (P:Program) (n0:Nat) (F:XF) (i:Nat) (o:Oper) (σ:ADS):Option ADS:=match o.op with
 | .load t a => match eva σ.e a with
   | .ptr b ver j of => if b < n0 then (match alv P σ.A t (.ptr b ver j of) with
     | some v=>some ⟨aupd σ.e o.dst v,σ.A,(i,b)::σ.lds,σ.sts,σ.st⟩
     | none=>none) else none
   | .ip cs => match alv P σ.A t (.ip cs) with
     | some v=>some ⟨aupd σ.e o.dst v,σ.A,σ.lds,σ.sts,σ.st⟩
     | none=>none
   | _=>none
 | .store t a x => match eva σ.e a with
   | .ptr b ver j of => match curB σ.A b ver with
     | some k=>if k.wr=true then some ⟨aupd σ.e o.dst .any,σ.A,σ.lds,(i,b)::σ.sts,σ.st++[(t,.ptr b ver j of,eva σ.e x)]⟩ else none
     | none=>none
   | _=>none
 | .alloc t => match newA P σ.A.length σ.e (.alloc t) with
   | some (v,k)=>some ⟨aupd σ.e o.dst v,σ.A++[k],σ.lds,σ.sts,σ.st⟩
   | none=>none
 | .box t x => match newA P σ.A.length σ.e (.box t x) with
   | some (v,k)=>some ⟨aupd σ.e o.dst v,σ.A++[k],σ.lds,σ.sts,σ.st⟩
   | none=>none
 | .buildSlice t len ps => match newA P σ.A.length σ.e (.buildSlice t len ps) with
   | some (v,k)=>some ⟨aupd σ.e o.dst v,σ.A++[k],σ.lds,σ.sts,σ.st⟩
   | none=>none
 | .makeSlice t x y => match newA P σ.A.length σ.e (.makeSlice t x y) with
   | some (v,k)=>some ⟨aupd σ.e o.dst v,σ.A++[k],σ.lds,σ.sts,σ.st⟩
   | none=>none
 | .call c => match c.callee with
   | .value f => match eva σ.e f with
     | .fn g fs cs => match (if clo.cloL (fs ++ c.args.toList.map (eva σ.e) ++ cs) then some (fs ++ c.args.toList.map (eva σ.e) ++ cs) else omap (reiV false σ.A 9) (fs ++ c.args.toList.map (eva σ.e) ++ cs)) with
       | some args' => match F g args' [] with
         | some (r0, A') => match reiV false A' 9 r0 with
           | some r=>if clo r=true∧(clo.cloL (fs++c.args.toList.map (eva σ.e)++cs)=true∨scal r=true) then some ⟨aupd σ.e o.dst r,σ.A,σ.lds,σ.sts,σ.st⟩ else none
           | none=>none
         | none=>none
       | none=>none
     | _=>none
   | .builtin .len => match apv P σ.A σ.e (.call c) with
     | some v=>some ⟨aupd σ.e o.dst v,σ.A,σ.lds,σ.sts,σ.st⟩
     | none=>none
   | _=>none
 | .move .. | .assign .. | .pick .. | .nilCheck .. | .binOp .. | .unOp .. | .makeFunc .. | .fieldAddr .. | .field .. | .indexAddr .. | .index .. | .extract .. | .slice .. | .convert .. | .build .. => match apv P σ.A σ.e o.op with
   | some v=>some ⟨aupd σ.e o.dst v,σ.A,σ.lds,σ.sts,σ.st⟩
   | none=>none
 | _=>none
def xds (P:Program) (n0:Nat) (F:XF) (ops:List Oper):Nat→List Oper→ADS→Option ADS
 | _,[],σ=>some σ
 | i, o :: os, σ => match o.guard with
   | none => match xdo P n0 F i o σ with
     | some σ'=>xds P n0 F ops (i + 1) os σ'
     | none=>none
   | some (j, want) => match agval σ.e ((ops[j]?).bind (·.dst)) with
     | some b => if b = some want then (match xdo P n0 F i o σ with
       | some σ'=>xds P n0 F ops (i + 1) os σ'
       | none=>none) else xds P n0 F ops (i + 1) os ⟨aupd σ.e o.dst (.tup []),σ.A,σ.lds,σ.sts,σ.st⟩
     | none=>none
def xsto (P:Program):List (TypeId×AV×AV)→AHeap→Option AHeap
 | [],A=>some A
 | (t, p, v) :: l, A => match astv P A t p v with
   | some A1=>xsto P l A1
   | none=>none
def lateB (late lds sts:List (Nat×Nat)):Bool:=late.all fun p=>sts.all fun s=>lds.all fun d=>s.1 != p.1 || d.1 != p.2 || s.2 != d.2
def xdrawAt (P:Program) (F:XF) (l:List Oper) (e:AEnv) (A:AHeap) (c:Nat):Option (AEnv×AHeap):=
 if P.follows .mixedOrders=true∧okD (l.take c)=true∧okT (l.take c)=true∧endOk (l.take c) (l.drop c)=true then
  (match xds P A.length F (l.take c) 0 (l.take c) ⟨e,A,[],[],[]⟩ with
  | some σ => if lateB (lateOf (l.take c)) σ.lds σ.sts = true then (match xsto P σ.st σ.A with
    | some A1=>xops P F l.toArray (l.drop c) σ.e A1
    | none=>none) else none
  | none=>none) else none
def isLine:Op→Bool
 | .call c => match c.callee with
   | .builtin .len=>false
   | _=>true
 | .mapUpdate .. | .lookup .. | .makeMap .. | .makeInterface .. | .typeAssert .. | .range .. | .next .. => true
 | _=>false
def isMap:Op→Bool
 | .call c => match c.callee with
   | .builtin .len=>false
   | .value _=>false
   | _=>true
 | .mapUpdate .. | .lookup .. | .makeMap .. | .makeInterface .. | .typeAssert .. | .range .. | .next .. => true
 | _=>false
def cutBy (p:Op→Bool):List Oper→Nat
 | []=>0
 | o::os=>if p o.op then 0 else cutBy p os + 1
def xcuts (P:Program) (F:XF) (l:List Oper) (e:AEnv) (A:AHeap):List Nat→Option (AEnv×AHeap)
 | []=>none
 | c :: cs => match xdrawAt P F l e A c with
   | some r=>some r
   | none=>xcuts P F l e A cs
def xdraw0 (P:Program) (F:XF) (l:List Oper) (e:AEnv) (A:AHeap):Option (AEnv×AHeap):=
 xcuts P F l e A (let a:=cutBy isMap l; let b:=cutBy isLine l; if b=a then [a] else [a,b])
def xseq (P:Program) (F:XF):List Oper→AEnv→AHeap→Option (List (AEnv×AHeap))
 | [],e,A=>some [(e,A)]
 | o :: os, e, A => match xop P F o e A with
   | some (e', A') => match xseq P F os e' A' with
     | some l=>some ((e,A)::l)
     | none=>none
   | none=>none
def pfx (n k:Nat):Array Bool:=(List.replicate k true++List.replicate (n - k) false).toArray
def eqE (ops:List Oper) (e e1:AEnv):Bool:=ops.all fun o=>match o.dst with | some d=>beqA (e d) (e1 d) | none=>true
def hitS (n f:Nat) (L:Array Bool) (st:List (AEnv×AHeap)):Option (AEnv×AHeap):=if f≤n∧L.toList=(pfx n (n - f)).toList then st[n - f]? else none
def xany (P:Program) (F:XF) (ops:List Oper) (st:List (AEnv×AHeap)):Nat→Array Bool→AEnv→AHeap→Bool
 | 0,_,_,_=>false
 | f + 1, L, e, A => (!(Region.ready .any ops.toArray L).isEmpty) && (Region.ready .any ops.toArray L).all fun i => match ops[i]? with
   | some o => o.guard.isNone && (match xop P F o e A with
     | some (e', A') => (match hitS ops.length f (L.setIfInBounds i true) st with
       | some (e1,A1)=>eqE ops e' e1 && beqH A' A1
       | none=>xany P F ops st f (L.setIfInBounds i true) e' A')
     | none=>false)
   | none=>false
def xanyAll (P:Program) (F:XF) (ops:List Oper) (st:List (AEnv×AHeap)):Bool:=
 ((List.range ops.length).all fun k => match st[k]? with
   | some (e,A)=>xany P F ops st (ops.length - k) (pfx ops.length k) e A
   | none=>false) && (Region.ready .any ops.toArray (pfx ops.length ops.length)).isEmpty
def still:Op→Bool
 | .load .. | .lookup .. | .makeInterface .. | .typeAssert .. | .convert .. | .binOp .. | .move .. | .assign .. | .pick .. | .nilCheck .. | .unOp .. | .makeFunc .. | .fieldAddr .. | .field .. | .indexAddr .. | .index .. | .extract .. | .slice .. | .build .. => true
 | .call c => match c.callee with
   | .builtin .len | .builtin .cap | .builtin .min | .builtin .max=>true
   | _=>false
 | _=>false
def liveB (P:Program) (op:Op):Option Blk:=match op with
 | .alloc t => (match zvA P t with
   | some z=>if t < 1000000∧¬ (16 < z.length∧rowsB P t=true) then some ⟨1,true,t,z.length,[z]⟩ else none
   | none=>none)
 | _=>none
def isLive:Op→Bool
 | .alloc _ | .makeMap _ none | .makeSlice .. => true
 | _=>false
def liveX (P:Program) (e:AEnv) (r:Nat):Op→Option (AV×Blk)
 | .alloc t => (match liveB P (.alloc t) with
   | some k=>some (.ptr r 1 0 0,k)
   | none=>none)
 | .makeMap t none => (match makeM P t with
   | some (tg,sz)=>some (.mp r 1,⟨1,true,tg,sz,[]⟩)
   | none=>none)
 | .makeSlice t x y => (match eva e x, eva e y with
   | .d (.v (.int _ (.ofNat l))), .d (.v (.int _ (.ofNat c))) => (match byt P t with
     | some (el, sz, bytes) => (match zvA P el with
       | some z=>if l≤c∧c≤maxLen∧bytes * c≤140737488355328 then some (.own r 1 0 l,⟨1,true,el,sz,List.replicate l z⟩) else none
       | none=>none)
     | none=>none)
   | _,_=>none)
 | _=>none
def chgP (ops:List Oper) (j:Nat):Bool:=match ops[j]? with
 | some o=>!still o.op
 | none=>false
def heapM (T:List (Nat×AHeap)) (m:Nat):Option AHeap:=(T.find? fun t=>t.1 == m).map (·.2)
def mayP (ops:List Oper) (ms:List Nat) (m i:Nat):Bool:=!m.testBit i && (List.range ops.length).all fun j=>!chgP ops j || ((if (ms.getD i 0).testBit j then m.testBit j else true) && (if m.testBit j then !(ms.getD j 0).testBit i else true))
def slotP (ms:List Nat) (ops:List Oper) (i:Nat) (o:Oper):Bool:=(List.range ops.length).all fun j=>match ops[j]? with
 | some q => (match q.dst with
   | some d=>(i == j || (match o.dst with | some d'=>d != d' | none=>true)) && (!(seen ops o).contains d || (decide (j < i) && (ms.getD i 0).testBit j))
   | none=>true)
 | none=>true
def fullP (ops:List Oper):Nat:=(List.range ops.length).foldl (fun m j=>if chgP ops j then m ||| 2 ^ j else m) 0
def countL (ops:List Oper):Nat:=ops.countP fun o=>isLive o.op
def ghosts (ops:List Oper) (A:AHeap):AHeap:=A++List.replicate (countL ops) ⟨0,true,0,0,[]⟩
def xdraw (P:Program) (F:XF) (l:List Oper) (e:AEnv) (A:AHeap):Option (AEnv×AHeap):=match xdraw0 P F l e A with
 | some r=>some r
 | none => if P.follows .mixedOrders = true ∧ l.length ≤ 10 ∧ (∀ o ∈ l, o.guard = none) then (match xseq P F l e A with
   | some st=>if xanyAll P F l st=true then st[l.length]? else none
   | none=>none) else none
def xloop:Nat→(AEnv→AHeap→Option XR)→AEnv→AHeap→Option XR
 | 0,_,_,_=>none
 | n + 1, f, e, A => match f e A with
   | some (.nx e' A')=>xloop n f e' A'
   | r=>r
def xc (P:Program) (F:XF) (lf:Nat):Code→AEnv→AHeap→Option XR
 | .skip,e,A=>some (.nx e A)
 | .region _ ops d, e, A => match (if d then xdraw P F ops.toList e A else xops P F ops ops.toList e A) with
   | some (e',A')=>some (.nx e' A')
   | none=>none
 | .seq a b, e, A => match xc P F lf a e A with
   | some (.nx e' A')=>xc P F lf b e' A'
   | r=>r
 | .cond c a b, e, A => match eva e c with
   | .d (.v (.bool t))=>if t then xc P F lf a e A else xc P F lf b e A
   | _=>none
 | .block id c, e, A => match xc P F lf c e A with
   | some (.ex j e' A')=>if id=j then some (.nx e' A') else some (.ex j e' A')
   | r=>r
 | .exit id,e,A=>some (.ex id e A)
 | .loop c,e,A=>xloop lf (xc P F lf c) e A
 | .ret,e,A=>some (.rt e A)
 | .scope c,e,A=>xc P F lf c e A
 | .label _,e,A=>some (.nx e A)
 | _,_,_=>none
def xend (P:Program) (rs:List ResultVar):Option XR→Option (AV×AHeap)
 | some (.nx e A) => match aresAll P e A rs with
   | some l=>some (atup l,A)
   | none=>none
 | some (.rt e A) => match aresAll P e A rs with
   | some l=>some (atup l,A)
   | none=>none
 | _=>none
def xfun (P:Program) (orc:XF) (lf:Nat):Nat→XF
 | 0,f,args,A=>orc f args A
 | n + 1, f, args, A => match orc f args A with
   | some r=>some r
   | none => match P.funcs[f]? with
     | some fn => match fn.body with
       | some c=>if okF P f=true∧dstsOk fn.ntmps c=true∧args.length≤fn.ntmps then xend P fn.results.toList (xc P (xfun P orc lf n) lf c (aenv0 args) A) else none
       | none=>none
     | none=>none
def xres (P:Program) (orc:XF) (lf n:Nat) (f:FuncId) (args:List AV):Option AV:=match xfun P orc lf n f args [] with
 | some (r,A')=>reiV false A' 9 r
 | none=>none
def xtrue (P:Program) (orc:XF) (lf n:Nat) (f:FuncId) (args:List AV):Bool:=match xres P orc lf n f args with
 | some (.d (.v (.bool b)))=>b
 | _=>false
section
variable {P:Program} {F:XF} {n:Nat}
theorem xset_spec {r:Option AV} {e e':AEnv} {d:Option Nat} {A A':AHeap} (h:xset r e d A=some (e',A')) {K:AKont} (hk:K e' A'):aSet r e d K A:=by
 unfold xset at h
 split at h
 ·simp only[Option.some.injEq,Prod.mk.injEq] at h
  obtain⟨rfl,rfl⟩:=h
  exact⟨_,rfl,hk⟩
 ·cases h
theorem xnew_spec {r:Option (AV×Blk)} {e e':AEnv} {d:Option Nat} {A A':AHeap} (h:xnew r e d A=some (e',A')) {K:AKont} (hk:K e' A'):aNew r e d K A:=by
 unfold xnew at h
 split at h
 ·simp only[Option.some.injEq,Prod.mk.injEq] at h
  obtain⟨rfl,rfl⟩:=h
  exact⟨_,_,rfl,hk⟩
 ·cases h
theorem xop_spec (hF:XFok P F) {o:Oper} {e e':AEnv} {A A':AHeap} (h:xop P F o e A=some (e',A')) {K:AKont} (hk:K e' A'):avop P n o K e A:=by
 obtain⟨d,op,ty,pos,af,gd⟩:=o
 cases op with
 | load t a=>exact xset_spec h hk
 | store t a x =>
   simp only[xop] at h
   split at h
   ·simp only[Option.some.injEq,Prod.mk.injEq] at h
    obtain⟨rfl,rfl⟩:=h
    exact⟨_,‹_›,hk⟩
   ·cases h
 | alloc t=>exact xnew_spec h hk
 | box t x=>exact xnew_spec h hk
 | buildSlice t len ps=>exact xnew_spec h hk
 | range t x =>
   simp only[xop] at h
   split at h
   ·rename_i s ht hx
    simp only[Option.some.injEq,Prod.mk.injEq] at h
    obtain⟨rfl,rfl⟩:=h
    exact aRaw_range ht hx hk
   ·cases h
 | next x str =>
   cases str with
   | true=>exact xnx_spec h hk
   | false=>cases h
 | makeSlice t x y =>
   simp only[xop] at h
   split at h
   ·rename_i k1 l k2 c hx hy
    split at h
    ·rename_i el sz bytes hby
     split at h
     ·rename_i z hz
      split at h
      ·rename_i hc
       simp only[Option.some.injEq,Prod.mk.injEq] at h
       obtain⟨rfl,rfl⟩:=h
       exact aRaw_make hby hz hx hy hc.1 hc.2.1 hc.2.2 hk
      ·cases h
     ·cases h
    ·cases h
   ·cases h
 | call c =>
   obtain⟨cl,args,ats⟩:=c
   simp only[xop] at h
   split at h
   ·rename_i f
    split at h
    ·rename_i g fs cs hg
     split at h
     ·rename_i r A1 hr
      simp only[Option.some.injEq,Prod.mk.injEq] at h
      obtain⟨rfl,rfl⟩:=h
      obtain⟨h1,h2⟩:=hF _ _ _ _ _ hr
      show aCall P _ _ _ _ _ _
      exact⟨g,fs,cs,hg,h1,h2.mono fun r1 A1 ⟨e1,e2⟩=>by subst e1 e2; exact hk⟩
     ·cases h
    ·cases h
   ·unfold xset at h
    split at h
    case h_2=>cases h
    rename_i v hv
    simp only[Option.some.injEq,Prod.mk.injEq] at h
    obtain⟨rfl,rfl⟩:=h
    exact .inl ⟨_,hv,hk⟩
   ·split at h
    ·rename_i s x t t' h1 h2
     split at h
     ·rename_i ht
      subst ht
      split at h
      ·rename_i el sz bytes hby
       split at h
       ·rename_i r A1 m hr
        split at h
        ·rename_i hm
         simp only[Option.some.injEq,Prod.mk.injEq] at h
         obtain⟨rfl,rfl⟩:=h
         obtain rfl:args=#[s,x]:=by rw[← Array.toArray_toList (xs:=args),h1]
         obtain rfl:ats=#[t',t']:=by rw[← Array.toArray_toList (xs:=ats),h2]
         show aRaw P n _ e A K
         exact aRaw_appT hby ⟨_,_,_,hr,hm.1,hm.2,hk⟩
        ·cases h
       ·cases h
      ·cases h
     ·split at h
      ·rename_i m ht' hs hx
       split at h
       ·rename_i el sz bytes hby
        split at h
        ·rename_i z hz
         split at h
         ·rename_i hc
          simp only[Option.some.injEq,Prod.mk.injEq] at h
          obtain⟨rfl,rfl⟩:=h
          obtain rfl:args=#[s,x]:=by rw[← Array.toArray_toList (xs:=args),h1]
          obtain rfl:ats=#[t,t']:=by rw[← Array.toArray_toList (xs:=ats),h2]
          show aRaw P n _ e A K
          exact aRaw_appz hby hz ht' hs hx hc.1 hc.2.1 hc.2.2 hk
         ·cases h
        ·cases h
       ·cases h
      ·cases h
    ·cases h
   ·split at h
    ·rename_i x t h1 h2
     split at h
     ·rename_i el ht hx
      simp only[Option.some.injEq,Prod.mk.injEq] at h
      obtain⟨rfl,rfl⟩:=h
      obtain rfl:args=#[x]:=by rw[← Array.toArray_toList (xs:=args),h1]
      obtain rfl:ats=#[t]:=by rw[← Array.toArray_toList (xs:=ats),h2]
      show aRaw P n _ e A K
      exact aRaw_cap ht hx hk
     ·cases h
    ·cases h
   ·split at h
    ·rename_i x y h1
     split at h
     ·rename_i k a k' b hx hy
      simp only[Option.some.injEq,Prod.mk.injEq] at h
      obtain⟨rfl,rfl⟩:=h
      obtain rfl:args=#[x,y]:=by rw[← Array.toArray_toList (xs:=args),h1]
      show aRaw P n _ e A K
      exact aRaw_min hx hy hk
     ·cases h
    ·cases h
   ·split at h
    ·rename_i x y h1
     split at h
     ·rename_i k a k' b hx hy
      simp only[Option.some.injEq,Prod.mk.injEq] at h
      obtain⟨rfl,rfl⟩:=h
      obtain rfl:args=#[x,y]:=by rw[← Array.toArray_toList (xs:=args),h1]
      show aRaw P n _ e A K
      exact aRaw_max hx hy hk
     ·cases h
    ·cases h
   ·split at h
    ·rename_i x t h1 h2
     split at h
     ·rename_i A1 hc
      simp only[Option.some.injEq,Prod.mk.injEq] at h
      obtain⟨rfl,rfl⟩:=h
      obtain rfl:args=#[x]:=by rw[← Array.toArray_toList (xs:=args),h1]
      obtain rfl:ats=#[t]:=by rw[← Array.toArray_toList (xs:=ats),h2]
      show aRaw P n _ e A K
      exact aRaw_clear hc hk
     ·cases h
    ·cases h
   ·cases h
 | convert s d' x =>
   simp only[xop] at h
   simp only[avop]
   split at h
   ·rename_i hx
    rw[hx]
    exact xset_spec h hk
   ·cases h
 | binOp op t x y u =>
   simp only[xop] at h
   simp only[avop]
   split at h
   ·rename_i h1 h2
    rw[h1,h2]
    split at h
    ·rename_i hs
     split at h
     ·cases h
     ·simp only[Option.some.injEq,Prod.mk.injEq] at h
      obtain⟨rfl,rfl⟩:=h
      refine⟨hs,fun b hb=>?_⟩
      cases b
      ·exact hk
      ·simp at hb
    ·cases h
   ·rename_i h1 h2
    rw[h1,h2]
    split at h
    ·rename_i hs
     split at h
     ·cases h
     ·simp only[Option.some.injEq,Prod.mk.injEq] at h
      obtain⟨rfl,rfl⟩:=h
      refine⟨hs,fun b hb=>?_⟩
      cases b
      ·simp at hb
      ·exact hk
    ·cases h
   ·rename_i h1 h2
    rw[h1,h2]
    split at h
    ·rename_i hs
     simp only[Option.some.injEq,Prod.mk.injEq] at h
     obtain⟨rfl,rfl⟩:=h
     refine⟨hs.1,fun r hr=>?_⟩
     cases r
     ·exact hk
     ·rcases hr rfl with hr | hr
      ·omega
      ·rw[hr] at hs; simp at hs
    ·cases h
   ·rename_i h1 h2
    rw[h1,h2]
    split at h
    ·rename_i hs
     simp only[Option.some.injEq,Prod.mk.injEq] at h
     obtain⟨rfl,rfl⟩:=h
     refine⟨hs.1,fun r hr=>?_⟩
     cases r
     ·rcases hr rfl with hr | hr
      ·omega
      ·rw[hr] at hs; simp at hs
     ·exact hk
    ·cases h
   ·unfold aBin
    split
    all_goals first
     | exact xset_spec h hk
     | (rename_i a1 a2 a3 a4; exfalso; first | exact a1 _ _ _ _ rfl ‹_› ‹_› | exact a2 _ _ _ _ rfl ‹_› ‹_› | exact a3 _ _ _ _ _ _ rfl ‹_› ‹_› | exact a4 _ _ _ _ _ _ rfl ‹_› ‹_›)
     | (exfalso; rename_i g1 g2 g3 g4 g5 g6; first | exact g1 _ _ _ _ rfl ‹_› ‹_› | exact g2 _ _ _ _ rfl ‹_› ‹_› | exact g3 _ _ _ _ _ _ rfl ‹_› ‹_› | exact g4 _ _ _ _ _ _ rfl ‹_› ‹_›)
 | move | assign | pick | nilCheck | unOp | makeFunc | fieldAddr | field | indexAddr | index | extract | slice | build =>
   simp only[xop] at h
   exact xset_spec h hk
 | _=>simp[xop] at h
theorem xops_spec (hF:XFok P F) {ops:Array Oper}:∀ (l:List Oper) (e e':AEnv) (A A':AHeap),xops P F ops l e A=some (e',A')→∀ {K:AKont},K e' A'→avops P n ops l K e A
 | [], e, e', A, A', h, K, hk => by
   simp only[xops,Option.some.injEq,Prod.mk.injEq] at h
   obtain⟨rfl,rfl⟩:=h
   exact hk
 | o :: os, e, e', A, A', h, K, hk => by
   simp only[xops] at h
   simp only[avops]
   cases hg:o.guard with
   | none =>
     rw[hg] at h
     simp only at h ⊢
     split at h
     ·rename_i e1 A1 h1
      exact xop_spec hF h1 (xops_spec hF os _ _ _ _ h hk)
     ·cases h
   | some jw =>
     obtain⟨j,want⟩:=jw
     rw[hg] at h
     simp only at h ⊢
     split at h
     ·rename_i b hb
      refine⟨b,hb,?_⟩
      split at h
      ·rename_i hw
       rw[if_pos hw]
       split at h
       ·rename_i e1 A1 h1
        exact xop_spec hF h1 (xops_spec hF os _ _ _ _ h hk)
       ·cases h
      ·rename_i hw
       rw[if_neg hw]
       exact xops_spec hF os _ _ _ _ h hk
     ·cases h
theorem ac_res {f:FuncId} {args:List AV} {r:AV} (h:AC P f args [] (Res r)):AF P f args r:=by
 intro H w vs hH hs hm
 refine (h H none0 w vs hH (rel_nil H w) hs (by rw[nn_nil]; exact hm)).mono ?_
 rintro en w' ⟨v,r',ι',A',hv,hr,hR,hst,hval⟩
 unfold Res resO at hr
 split at hr
 ·rename_i r0 r1 hr0
  have:=reiV_sound (ι':=none0) (A':=[]) hR hr0 hval
  exact⟨v,hv,⟨NLe.shp _ _ _ hr this.1,NLe.mem _ _ _ hr this.2⟩,hst.ext⟩
 ·exact hr.elim
theorem XFok.af (hF:XFok P F) {f:FuncId} {args:List AV} {r0 r:AV} {A':AHeap} (h:F f args []=some (r0,A')) (hr:reiV false A' 9 r0=some r):AF P f args r:=
 ac_res ((hF _ _ _ _ _ h).2.mono fun r1 A1 ⟨e1,e2⟩=>by
  subst e1 e2
  show resO (reiV false A1 9 r1) r
  rw[hr]
  exact NLe.refl r)
theorem xdo_spec (hF:XFok P F) {n0 i:Nat} {o:Oper} {σ σ':ADS} (h:xdo P n0 F i o σ=some σ') {K1:ADS→Prop} (hk:K1 σ'):avdo P n0 (fun _ _=>True) i o K1 σ:=by
 obtain⟨d,op,ty,pos,af,gd⟩:=o
 have hset:∀ {r:Option AV},(match r with
  | some v=>some (⟨aupd σ.e d v,σ.A,σ.lds,σ.sts,σ.st⟩:ADS)
  | none=>none)=some σ'→adSet r K1 σ d:=by
  intro r h
  split at h
  ·simp only[Option.some.injEq] at h
   subst h
   exact⟨_,rfl,hk⟩
  ·cases h
 have hnew:∀ {r:Option (AV×Blk)},(match r with
  | some (v,k)=>some (⟨aupd σ.e d v,σ.A++[k],σ.lds,σ.sts,σ.st⟩:ADS)
  | none=>none)=some σ'→adNew r K1 σ d:=by
  intro r h
  split at h
  ·simp only[Option.some.injEq] at h
   subst h
   exact⟨_,_,rfl,hk⟩
  ·cases h
 cases op with
 | load t a =>
   simp only[xdo] at h
   show adLoad n0 (eva σ.e a) (alv P σ.A t (eva σ.e a)) i K1 σ d
   split at h
   ·rename_i b ver j of hp
    rw[hp]
    split at h
    ·rename_i hb
     split at h
     ·rename_i v hv
      simp only[Option.some.injEq] at h
      subst h
      exact⟨hb,_,hv,hk⟩
     ·cases h
    ·cases h
   ·rename_i cs hp
    rw[hp]
    split at h
    ·rename_i v hv
     simp only[Option.some.injEq] at h
     subst h
     exact⟨_,hv,hk⟩
    ·cases h
   ·cases h
 | store t a x =>
   simp only[xdo] at h
   show adStore t (eva σ.e a) (eva σ.e x) i K1 σ d
   split at h
   ·rename_i b ver j of hp
    rw[hp]
    split at h
    ·rename_i k hk'
     split at h
     ·rename_i hw
      simp only[Option.some.injEq] at h
      subst h
      exact⟨⟨k,hk',hw⟩,hk⟩
     ·cases h
    ·cases h
   ·cases h
 | alloc t=>exact hnew h
 | box t x=>exact hnew h
 | buildSlice t len ps=>exact hnew h
 | makeSlice t x y=>exact hnew h
 | call c =>
   obtain⟨cl,args,ats⟩:=c
   simp only[xdo] at h
   split at h
   ·rename_i f
    show adC P _ (eva σ.e f) (args.toList.map (eva σ.e)) K1 σ d
    split at h
    ·rename_i g fs cs hg
     generalize hL:fs++args.toList.map (eva σ.e)++cs=L at h
     split at h
     ·rename_i args' ha
      split at h
      ·rename_i r0 A1 hr0
       split at h
       ·rename_i r hr
        split at h
        ·rename_i hc
         simp only[Option.some.injEq] at h
         subst h
         have haf:=hF.af hr0 hr
         refine⟨g,fs,cs,r,args',hg,(hF _ _ _ _ _ hr0).1,trivial,hc.1,?_,haf,hk⟩
         rw[hL]
         split at ha
         ·rename_i hcl
          simp only[Option.some.injEq] at ha
          subst ha
          exact .inl ⟨hcl,NLeL.refl _⟩
         ·rename_i hcl
          refine .inr ⟨?_,hc.2.resolve_left hcl⟩
          rw[ha]
          exact NLeL.refl _
        ·cases h
       ·cases h
      ·cases h
     ·cases h
    ·cases h
   ·exact hset h
   ·cases h
 | move | assign | pick | nilCheck | binOp | unOp | makeFunc | fieldAddr | field | indexAddr | index | extract | slice | convert | build =>
   simp only[xdo] at h
   exact hset h
 | _=>simp[xdo] at h
theorem xds_spec (hF:XFok P F) {n0:Nat} {ops:List Oper} {late:List (Nat×Nat)} {K:AKont}:∀ (l:List Oper) (i:Nat) (σ σ':ADS),xds P n0 F ops i l σ=some σ'→adEnd P late K σ'→avd P n0 ops late (fun _ _=>True) K i l σ
 | [], i, σ, σ', h, hk => by
   simp only[xds,Option.some.injEq] at h
   subst h
   exact hk
 | o :: os, i, σ, σ', h, hk => by
   simp only[xds] at h
   simp only[avd]
   cases hg:o.guard with
   | none =>
     rw[hg] at h
     simp only at h ⊢
     split at h
     ·rename_i σ1 h1
      exact xdo_spec hF h1 (xds_spec hF os _ _ _ h hk)
     ·cases h
   | some jw =>
     obtain⟨j,want⟩:=jw
     rw[hg] at h
     simp only at h ⊢
     split at h
     ·rename_i b hb
      refine⟨b,hb,?_⟩
      split at h
      ·rename_i hw
       rw[if_pos hw]
       split at h
       ·rename_i σ1 h1
        exact xdo_spec hF h1 (xds_spec hF os _ _ _ h hk)
       ·cases h
      ·rename_i hw
       rw[if_neg hw]
       exact xds_spec hF os _ _ _ h hk
     ·cases h
theorem xsto_spec:∀ (l:List (TypeId×AV×AV)) (A A':AHeap),xsto P l A=some A'→∀ {k:AHeap→Prop},k A'→astAll P l A k
 | [], A, A', h, k, hk => by
   simp only[xsto,Option.some.injEq] at h
   subst h
   exact hk
 | (t, p, v) :: l, A, A', h, k, hk => by
   simp only[xsto] at h
   split at h
   ·exact⟨_,‹_›,xsto_spec l _ _ h hk⟩
   ·cases h
theorem lateB_spec {late lds sts:List (Nat×Nat)} (h:lateB late lds sts=true):lateOk late lds sts:=by
 intro k j bk bj h1 h2 h3
 simp only[lateB,List.all_eq_true] at h
 have:=h _ h1 _ h2 _ h3
 simpa using this
theorem xdrawAt_spec (hF:XFok P F) {l:List Oper} {id:Nat} {e e':AEnv} {A A':AHeap} {c:Nat} (h:xdrawAt P F l e A c=some (e',A')) {K:AKont} (hk:K e' A'):aDraw P n id l.toArray K e A:=by
 unfold xdrawAt at h
 split at h
 ·rename_i hc
  split at h
  ·rename_i σ hσ
   split at h
   ·rename_i hl
    split at h
    ·rename_i A1 hA1
     exact adraw2 c _ hc.1 hc.2.1 rfl hc.2.2.1 hc.2.2.2 (xds_spec hF _ _ _ _ hσ ⟨lateB_spec hl,xsto_spec _ _ _ hA1 (xops_spec hF _ _ _ _ _ h hk)⟩)
    ·cases h
   ·cases h
  ·cases h
 ·cases h
theorem xcuts_spec (hF:XFok P F) {l:List Oper} {id:Nat} {e e':AEnv} {A A':AHeap} {K:AKont} (hk:K e' A'):∀ (cs:List Nat),xcuts P F l e A cs=some (e',A')→aDraw P n id l.toArray K e A
 | [],h=>by cases h
 | c :: cs, h => by
   unfold xcuts at h
   split at h
   ·rename_i r hr
    simp only[Option.some.injEq] at h
    subst h
    exact xdrawAt_spec hF hr hk
   ·exact xcuts_spec hF hk cs h
theorem xdraw0_spec (hF:XFok P F) {l:List Oper} {id:Nat} {e e':AEnv} {A A':AHeap} (h:xdraw0 P F l e A=some (e',A')) {K:AKont} (hk:K e' A'):aDraw P n id l.toArray K e A:=xcuts_spec hF hk _ h
def XGood (bs:List (Nat×AKont)) (r k:AKont):XR→Prop
 | .nx e A=>k e A
 | .ex j e A=>aexitK bs j e A
 | .rt e A=>r e A
theorem xloop_spec {f:AEnv→AHeap→Option XR} {c:Code} {bs:List (Nat×AKont)} {r:AKont} (hf:∀ e A x,f e A=some x→∀ k,XGood bs r k x→avc P n c bs r k e A):∀ (m:Nat) (e:AEnv) (A:AHeap) (x:XR),xloop m f e A=some x→∀ k,XGood bs r k x→aLoop n (avc P n c bs r) e A:=by
 intro m e A x h k hx
 refine⟨fun m e A=>∃ x,xloop m f e A=some x∧XGood bs r (fun _ _=>False) x,⟨m,e,A,Sub.refl _ _ _,x,h,?_⟩,?_⟩
 ·cases x with
  | nx e1 A1 =>
    exfalso
    clear hx
    induction m generalizing e A with
    | zero=>simp[xloop] at h
    | succ m ih =>
      simp only[xloop] at h
      split at h
      ·exact ih _ _ h
      ·rename_i hn
       exact hn _ _ h
  | ex j e1 A1=>exact hx
  | rt e1 A1=>exact hx
 ·rintro m e A ⟨x,h,hx⟩
  cases m with
  | zero=>simp[xloop] at h
  | succ m =>
    simp only[xloop] at h
    split at h
    ·rename_i e1 A1 h1
     exact hf _ _ _ h1 _ ⟨m,Nat.lt_succ_self _,e1,A1,Sub.refl _ _ _,x,h,hx⟩
    ·rename_i hn
     refine hf _ _ _ h _ ?_
     cases x with
     | nx e1 A1=>exact absurd h (hn e1 A1)
     | ex j e1 A1=>exact hx
     | rt e1 A1=>exact hx
theorem xset_upd {r:Option AV} {e e':AEnv} {d:Option Nat} {A A':AHeap} (h:xset r e d A=some (e',A')):∃ v,e'=aupd e d v:=by
 unfold xset at h
 split at h
 ·simp only[Option.some.injEq,Prod.mk.injEq] at h; exact⟨_,h.1.symm⟩
 ·cases h
theorem xnew_upd {r:Option (AV×Blk)} {e e':AEnv} {d:Option Nat} {A A':AHeap} (h:xnew r e d A=some (e',A')):∃ v,e'=aupd e d v:=by
 unfold xnew at h
 split at h
 ·simp only[Option.some.injEq,Prod.mk.injEq] at h; exact⟨_,h.1.symm⟩
 ·cases h
theorem xnx_upd {x:AV} {e e':AEnv} {d:Option Nat} {A A':AHeap} (h:xnx A e d x=some (e',A')):∃ v,e'=aupd e d v:=by
 unfold xnx at h
 repeat' split at h
 all_goals first | (cases h; done) | (simp only[Option.some.injEq,Prod.mk.injEq] at h; exact⟨_,h.1.symm⟩)
theorem xop_upd {o:Oper} {e e':AEnv} {A A':AHeap} (h:xop P F o e A=some (e',A')):∃ v,e'=aupd e o.dst v:=by
 unfold xop at h
 repeat' split at h
 all_goals first
  | (cases h; done)
  | exact xset_upd h
  | exact xnew_upd h
  | exact xnx_upd h
  | (simp only[Option.some.injEq,Prod.mk.injEq] at h; exact⟨_,h.1.symm⟩)
theorem xop_out {o:Oper} {e e':AEnv} {A A':AHeap} (h:xop P F o e A=some (e',A')) {i:Nat} (hi:o.dst≠some i):e' i=e i:=by
 obtain⟨v,hv⟩:=xop_upd h
 rw[hv]
 cases hd:o.dst with
 | none=>rfl
 | some d =>
   show (if i=d then v else e i)=e i
   rw[if_neg]
   intro he
   exact hi (by rw[hd,he])
theorem xseq_out {ops:List Oper}:∀ (l:List Oper) (e:AEnv) (A:AHeap) (st:List (AEnv×AHeap)),(∀ o∈l,o∈ops)→xseq P F l e A=some st→st[0]? = some (e,A)∧∀ p∈st,∀ i,(∀ o∈ops,o.dst≠some i)→p.1 i=e i
 | [], e, A, st, _, h => by
   simp only[xseq,Option.some.injEq] at h
   subst h
   simp
 | o :: os, e, A, st, hl, h => by
   simp only[xseq] at h
   split at h
   case h_2=>cases h
   rename_i e1 A1 h1
   split at h
   case h_2=>cases h
   rename_i l hl2
   simp only[Option.some.injEq] at h
   subst h
   refine⟨rfl,fun p hp i hi=>?_⟩
   rcases List.mem_cons.1 hp with rfl | hp
   ·rfl
   ·rw[(xseq_out os _ _ _ (fun o ho=>hl o (by simp[ho])) hl2).2 p hp i hi,xop_out h1 (hi o (hl o (by simp)))]
theorem eqE_spec {ops:List Oper} {e e1:AEnv} (h:eqE ops e e1=true) (he:∀ i,(∀ o∈ops,o.dst≠some i)→e i=e1 i):e=e1:=by
 funext i
 by_cases hi:∃ o∈ops,o.dst=some i
 ·obtain⟨o,ho,hd⟩:=hi
  have:=List.all_eq_true.1 h o ho
  rw[hd] at this
  exact beqA_eq _ _ this
 ·exact he i fun o ho hd=>hi ⟨o,ho,hd⟩
theorem xany_spec (hF:XFok P F) {ops:List Oper} {st:List (AEnv×AHeap)} {e0:AEnv} {K:AKont} (hst:∀ p∈st,∀ i,(∀ o∈ops,o.dst≠some i)→p.1 i=e0 i):∀ (f:Nat),(∀ f',f' < f→∀ k,k + f'=ops.length→∀ e A,st[k]? = some (e,A)→aAny P n ops K f' (pfx ops.length k) e A) →
 ∀ (L:Array Bool) (e:AEnv) (A:AHeap),(∀ i,(∀ o∈ops,o.dst≠some i)→e i=e0 i)→xany P F ops st f L e A=true→aAny P n ops K f L e A
 | 0,_,L,e,A,he,h=>by simp[xany] at h
 | f + 1, ih, L, e, A, he, h => by
   simp only[xany,Bool.and_eq_true,Bool.not_eq_true'] at h
   obtain⟨h1,h2⟩:=h
   refine⟨fun h0=>absurd h1 (by simp[h0]),fun i hi=>?_⟩
   have h3:=List.all_eq_true.1 h2 i hi
   split at h3
   case h_2=>cases h3
   rename_i o ho
   simp only[Bool.and_eq_true] at h3
   obtain⟨hg,h4⟩:=h3
   refine⟨o,ho,by simpa using hg,?_⟩
   split at h4
   case h_2=>cases h4
   rename_i e' A' hx
   have he':∀ i,(∀ o∈ops,o.dst≠some i)→e' i=e0 i:=fun i hi=>(xop_out hx (hi o (gMO ho))).trans (he i hi)
   refine xop_spec hF hx ?_
   split at h4
   ·rename_i e1 A1 hh
    simp only[Bool.and_eq_true] at h4
    unfold hitS at hh
    split at hh
    case isFalse=>cases hh
    rename_i hc
    have hL:L.setIfInBounds i true=pfx ops.length (ops.length - f):=by
     rw[← Array.toArray_toList (xs:=L.setIfInBounds i true),hc.2]
    have hE:=eqE_spec h4.1 fun i hi=>(he' i hi).trans (hst _ (gMO hh) i hi).symm
    rw[hL,hE,beqH_eq _ _ h4.2]
    exact ih f (by omega) _ (by omega) _ _ hh
   ·exact xany_spec hF hst f (fun f' hf'=>ih f' (by omega)) _ _ _ he' h4
theorem xanyAll_spec (hF:XFok P F) {ops:List Oper} {st:List (AEnv×AHeap)} {e e1:AEnv} {A A1:AHeap} {K:AKont} (hs:xseq P F ops e A=some st) (h:xanyAll P F ops st=true) (h1:st[ops.length]? = some (e1,A1)) (hk:K e1 A1) :
 aAny P n ops K ops.length (Array.replicate ops.length false) e A:=by
 obtain⟨s0,s1⟩:=xseq_out (ops:=ops) ops e A st (fun _ h=>h) hs
 simp only[xanyAll,Bool.and_eq_true,List.isEmpty_iff] at h
 obtain⟨h2,h3⟩:=h
 have key:∀ f,∀ f',f'≤f→∀ k,k + f'=ops.length→∀ e A,st[k]? = some (e,A)→aAny P n ops K f' (pfx ops.length k) e A:=by
  intro f
  induction f with
  | zero =>
    intro f' hf' k hkf e A hA
    obtain rfl:f'=0:=by omega
    obtain rfl:k=ops.length:=by omega
    rw[h1] at hA
    obtain⟨rfl,rfl⟩:=Prod.mk.inj (oSI hA)
    exact⟨h3,hk⟩
  | succ f ih =>
    intro f' hf' k hkf e A hA
    rcases Nat.lt_or_ge f' (f + 1) with hlt | hge
    ·exact ih f' (by omega) k hkf e A hA
    ·obtain rfl:f'=f + 1:=by omega
     have:=List.all_eq_true.1 h2 k (List.mem_range.2 (by omega))
     rw[hA] at this
     simp only[show ops.length - k=f + 1 by omega] at this
     exact xany_spec hF s1 (f + 1) (fun f'' hf'' k' hk' e' A' hA'=>ih f'' (by omega) k' hk' e' A' hA') _ _ _ (s1 _ (gMO hA)) this
 have:=key ops.length ops.length (Nat.le_refl _) 0 (by omega) e A s0
 have hp:pfx ops.length 0=Array.replicate ops.length false:=by
  simp[pfx]
 rwa [hp] at this
section
variable {H:Nat→Prop} {ι:Place} {A:AHeap} {w:World}
theorem rel_atO {r:Nat} {k0 k:Blk} {o:Obj} {arr:Array Value} (hR:Rel H ι A w) (hH:∀ c,H c→c < w.heap.size) (h0:A[r]? = some k0) (hv:k0.ver < k.ver) (ho:(k.ty < 1000000∧o = .cells arr k.ty)∨ObjIs o k.ty k.sz arr) (hx:¬ k.ty < 1000000→arr.size=k.els.length * k.sz) (hl:k.els.length * k.sz≤arr.size) (hc:Cells ι A (Nn H ι A) w k arr) :
 Rel H (newI ι r w.heap.size arr.size) (A.set r k) (w.alloc o)∧Step ι A w (newI ι r w.heap.size arr.size) (A.set r k) (w.alloc o):=by
 have hlt:=(gSI.1 h0).1
 have hget:∀ (b:Nat) (k':Blk),(A.set r k)[b]? = some k'→(b≠r∧A[b]? = some k')∨(b=r∧k'=k):=by
  intro b k' h
  by_cases he:r=b
  ·subst he
   rw[gSS hlt] at h
   exact .inr ⟨rfl,(oSI h).symm⟩
  ·rw[gSN he] at h
   exact .inl ⟨fun h=>he h.symm,h⟩
 have hst:Step ι A w (newI ι r w.heap.size arr.size) (A.set r k) (w.alloc o):=by
  refine⟨fun b k' hb=>?_,fun c hm=>?_,fun c hc' _=>heap_push_lt w _ hc',by rw[size_push]; omega,rfl,rfl,rfl⟩
  ·by_cases he:r=b
   ·subst he
    rw[h0] at hb
    obtain rfl:=oSI hb
    exact⟨k,by rw[gSS hlt],Nat.le_of_lt hv,fun h=>by omega⟩
   ·exact⟨k',by rw[gSN he]; exact hb,Nat.le_refl _,fun _=>⟨by simp only[newI]; rw[if_neg (fun h=>he h.symm)],rfl⟩⟩
  ·obtain⟨b,k',n,h1,h2,h3⟩:=hm
   rcases hget b k' h1 with⟨hne,h4⟩ | ⟨rfl,rfl⟩
   ·simp only[newI] at h3
    rw[if_neg hne] at h3
    exact .inl ⟨b,k',n,h4,h2,h3⟩
   ·simp only[newI,if_true,Option.some.injEq,Prod.mk.injEq] at h3
    exact .inr (by omega)
 have hv:∀ c u,Val ι A (Nn H ι A) w c u→Val (newI ι r w.heap.size arr.size) (A.set r k) (Nn H (newI ι r w.heap.size arr.size) (A.set r k)) (w.alloc o) c u:=fun c u h=>Val.step hst h
 refine⟨⟨fun b k' hb=>?_,fun b k' c n hb hc'=>?_,fun b b' k1 k2 c n n' h1 h2 g1 g2=>?_⟩,hst⟩
 ·rcases hget b k' hb with⟨hne,h4⟩ | ⟨rfl,rfl⟩
  ·exact BlkRel.step (hR.blk b k' h4) (by simp only[newI]; rw[if_neg hne]) (fun c n hι=>heap_push_lt w _ (hR.hid b k' c n h4 hι).2) hv
  ·unfold BlkRel
   simp only[newI,if_true]
   refine⟨arr,(by
    rcases ho with⟨h1,rfl⟩ | h1
    ·exact .inl ⟨h1,heap_push w _⟩
    ·exact .inr ⟨_,heap_push w _,h1⟩),⟨fun _=>rfl,hx⟩,hl,fun i x hi=>⟨(hc i x hi).1,fun j av hj=>?_⟩⟩
   obtain⟨u,e1,e2,e3⟩:=(hc i x hi).2 j av hj
   exact⟨u,e1,hv _ _ e2,e3⟩
 ·rcases hget b k' hb with⟨hne,h4⟩ | ⟨rfl,rfl⟩
  ·simp only[newI] at hc'
   rw[if_neg hne] at hc'
   have:=hR.hid b k' c n h4 hc'
   exact⟨this.1,by rw[size_push]; omega⟩
  ·simp only[newI,if_true,Option.some.injEq,Prod.mk.injEq] at hc'
   obtain⟨rfl,_⟩:=hc'
   exact⟨fun h=>by have:=hH _ h; omega,by rw[size_push]; omega⟩
 ·rcases hget b k1 h1 with⟨hne,h4⟩ | ⟨rfl,rfl⟩<;>rcases hget b' k2 h2 with⟨hne',h4'⟩ | ⟨rfl,rfl⟩
  ·simp only[newI] at g1 g2
   rw[if_neg hne] at g1
   rw[if_neg hne'] at g2
   exact hR.inj b b' k1 k2 c n n' h4 h4' g1 g2
  ·simp only[newI,if_true,Option.some.injEq,Prod.mk.injEq] at g1 g2
   rw[if_neg hne] at g1
   have:=(hR.hid b k1 c n h4 g1).2
   omega
  ·simp only[newI,if_true,Option.some.injEq,Prod.mk.injEq] at g1 g2
   rw[if_neg hne'] at g2
   have:=(hR.hid b' k2 c n' h4' g2).2
   omega
  ·rfl
theorem rel_at {r:Nat} {k0 k:Blk} {arr:Array Value} (hR:Rel H ι A w) (hH:∀ c,H c→c < w.heap.size) (h0:A[r]? = some k0) (hv:k0.ver < k.ver) (hty:k.ty < 1000000) (hl:k.els.length * k.sz≤arr.size) (hc:Cells ι A (Nn H ι A) w k arr) :
 Rel H (newI ι r w.heap.size arr.size) (A.set r k) (w.alloc (.cells arr k.ty))∧Step ι A w (newI ι r w.heap.size arr.size) (A.set r k) (w.alloc (.cells arr k.ty)):=rel_atO hR hH h0 hv (.inl ⟨hty,rfl⟩) (fun h=>absurd hty h) hl hc
end
theorem alloc_at {n r:Nat} {o:Oper} {kl k0:Blk} {e:AEnv} {A:AHeap} {K:AKont} (hl:liveB P o.op=some kl) (h0:A[r]? = some k0) (hv:k0.ver=0) (hk:K (aupd e o.dst (.ptr r 1 0 0)) (A.set r kl)) {C:Ctx} {ec:Env} {w:World} (hn:C.A.length=n) (hS:Sta C e A ec w):vop P o (Lift C K) ec w:=by
 obtain⟨d,op,ty,pos,af,gd⟩:=o
 simp only at hl hk
 unfold liveB at hl
 split at hl
 case h_2=>cases hl
 rename_i t
 split at hl
 case h_2=>cases hl
 rename_i zA hz
 split at hl
 case isFalse=>cases hl
 rename_i hc
 obtain⟨ht,hrow⟩:=hc
 simp only[Option.some.injEq] at hl
 subst hl
 have hnew:newA P 0 e (.alloc t)=some (.ptr 0 0 0 0,⟨0,true,t,zA.length,[zA]⟩):=by
  simp only[newA,hz,Option.map_some]
  rw[if_neg hrow]
 obtain⟨h0',ι,h1,h2,h3,h4⟩:=hS
 obtain⟨t',cs,f,hno⟩:=newA_sound h3 hnew
 have hof:=hno.of
 simp only[newOf,Option.map_eq_some_iff] at hof
 have hty:=hno.ty
 simp only at hty
 subst hty
 obtain⟨zz,hzz,hcs⟩:=hof
 simp only[Prod.mk.injEq] at hcs
 obtain⟨_,rfl,rfl⟩:=hcs
 have hlen:=hno.len
 simp only[List.length_cons,List.length_nil,Nat.zero_add,Nat.one_mul] at hlen
 obtain⟨g1,g2⟩:=rel_at (r:=r) (k:=⟨1,true,t,zA.length,[zA]⟩) (arr:=zz.cells.toList.toArray) h1 (fun c hc=>Nat.lt_of_lt_of_le (h0'.1 c hc) h2.size) h0 (by rw[hv]; exact Nat.zero_lt_one) ht (by simpa using Nat.le_of_eq hlen) fun i x hi=>by
  have a:=hno.shp ι A h3 i x hi
  refine⟨a.1,fun j c hj=>?_⟩
  obtain⟨u,b1,b2⟩:=a.2 j c hj
  have b3:=hno.mem (Nn C.H ι A) w h4 i x hi j c hj u b1
  exact⟨u,by simpa using b1,⟨b2,b3.1⟩,b3.2⟩
 show vNew ((zv P t).map fun z=>(t,z.cells.toList)) (fun a=>.pointer (some a)) ec d (Lift C K) w
 refine⟨t,zz.cells.toList,by rw[hzz]; rfl,_,_,hk,h0',_,g1,h2.trans g2,shp_upd (fun i=>Shp.step g2.stab _ _ (h3 i)) ?_,mem_upd (fun i=>Mem.keep g2.keepD _ _ (h4 i)) (by simp[Mem])⟩
 have hlt:=(gSI.1 h0).1
 simp only[Shp]
 exact⟨⟨_,rfl⟩,_,by rw[gSS hlt],Nat.le_refl _,fun _=>⟨w.heap.size,zz.cells.toList.toArray.size,by simp[newI],by simp⟩⟩
section
variable {ops:List Oper} {ia r:Nat} {kl:Blk} {e0:AEnv} {A0:AHeap} {E:Nat→AEnv} {H:Nat→AHeap}
end
section
variable {ops:List Oper} {n0:Nat} {F:XF}
theorem live_at {n r:Nat} {o:Oper} {v:AV} {k k0:Blk} {e:AEnv} {A:AHeap} {K:AKont} (hl:liveX P e r o.op=some (v,k)) (h0:A[r]? = some k0) (hv:k0.ver=0) (hk:K (aupd e o.dst v) (A.set r k)) {C:Ctx} {ec:Env} {w:World} (hn:C.A.length=n) (hS:Sta C e A ec w):vop P o (Lift C K) ec w:=by
 obtain⟨d,op,ty,pos,af,gd⟩:=o
 simp only at hl hk
 have hlt:=(gSI.1 h0).1
 cases op with
 | alloc t =>
   simp only[liveX] at hl
   split at hl
   case h_2=>cases hl
   rename_i k' hb
   simp only[Option.some.injEq,Prod.mk.injEq] at hl
   obtain⟨rfl,rfl⟩:=hl
   exact alloc_at (o:=⟨d,.alloc t,ty,pos,af,gd⟩) hb h0 hv hk hn hS
 | makeMap t q =>
   cases q with
   | some q=>simp[liveX] at hl
   | none =>
     simp only[liveX] at hl
     split at hl
     case h_2=>cases hl
     rename_i tg sz hm
     simp only[Option.some.injEq,Prod.mk.injEq] at hl
     obtain⟨rfl,rfl⟩:=hl
     obtain⟨hsz,htg⟩:=makeM_sz hm
     obtain⟨h0',ι,h1,h2,h3,h4⟩:=hS
     obtain⟨g1,g2⟩:=rel_atO (o:=.map #[] 0) (r:=r) h1 (fun c hc=>Nat.lt_of_lt_of_le (h0'.1 c hc) h2.size) h0 (k:=⟨1,true,tg,sz,[]⟩) (arr:=#[]) (by rw[hv]; exact Nat.zero_lt_one)
      (.inr (by
       rcases htg with h | h | h
       ·exact .inr (.inl ⟨#[],0,rfl,rfl,stamps0,hsz,by simp,.inl ⟨h,by simp⟩⟩)
       ·exact .inr (.inl ⟨#[],0,rfl,rfl,stamps0,hsz,by simp,.inr ⟨h,by simp⟩⟩)
       ·exact .inr (.inr (.inl ⟨#[],0,rfl,rfl,stamps0,hsz,h,by simp⟩)))) (fun _=>by simp) (by simp) (fun i x hi=>by simp at hi)
     have hrun:(Instr.makeMap t none).run P w = .ok (.map (some w.heap.size)) (w.alloc (.map #[] 0)):=rfl
     show vRaw P ⟨d,.makeMap t none,ty,pos,af,gd⟩ ec (Lift C K) w
     unfold vRaw execOp
     simp only[Sem.run_bind,Sem.run_pure,Option.map_none,hrun,Result.andThen_ok]
     refine⟨_,_,hk,h0',_,g1,h2.trans g2,shp_upd (fun i=>Shp.step g2.stab _ _ (h3 i)) ?_,mem_upd (fun i=>Mem.keep g2.keepD _ _ (h4 i)) (by simp[Mem])⟩
     simp only[Shp]
     exact⟨⟨_,rfl⟩,_,by rw[gSS hlt],Nat.le_refl _,fun _=>⟨w.heap.size,0,by simp[newI],rfl⟩⟩
 | makeSlice t x y =>
   simp only[liveX] at hl
   split at hl
   case h_2=>cases hl
   rename_i k1 l k2 c hx hy
   split at hl
   case h_2=>cases hl
   rename_i el sz bytes hby
   split at hl
   case h_2=>cases hl
   rename_i z hz
   split at hl
   case isFalse=>cases hl
   rename_i hc
   obtain⟨hlc,hm,hb⟩:=hc
   simp only[Option.some.injEq,Prod.mk.injEq] at hl
   obtain⟨rfl,rfl⟩:=hl
   obtain⟨h0',ι,h1,h2,h3,h4⟩:=hS
   obtain⟨i,z0,e1,e2,e3,e4,e5,e6,e7⟩:=byt_spec hby
   obtain⟨z1,f1,f2,f3⟩:=zvA_spec hz
   have hz0:z1=z0:=by
    unfold zv at f1
    rw[e2] at f1
    simp only[Option.bind_some,e6,Option.some.injEq] at f1
    exact f1.symm
   subst hz0
   have hrun:(Instr.makeSlice t (ev ec x) (ev ec y)).run P w = .ok (.slice (some ⟨w.heap.size,0,none⟩) l c) (w.alloc (.cells (madeCells z1.cells (c * sz)) el)):=by
    have ax:ev ec x = .int k1 (l:Int):=by have:=eva_shp h3 x; rw[hx] at this; simpa [Shp] using this
    have ay:ev ec y = .int k2 (c:Int):=by have:=eva_shp h3 y; rw[hy] at this; simpa [Shp] using this
    rw[ax,ay]
    unfold maxLen at hm
    have hb':(i.bytes:Int) * (c:Int)≤281474976710656:=by
     rw[e4,← Int.natCast_mul]
     omega
    have:=run_make (P:=P) w t el i z1 e1 e2 e6 k1 k2 (l:Int) (c:Int) (by omega) (by omega) hb' (by omega)
    simpa [e3] using this
   have hsz:(madeCells z1.cells (c * sz)).size=c * sz:=size_madeCells _ _
   have hzl:z.length=sz:=by rw[f2,List.length_map,Array.length_toList]; exact e7
   obtain⟨g1,g2⟩:=rel_at (r:=r) h1 (fun c hc=>Nat.lt_of_lt_of_le (h0'.1 c hc) h2.size) h0 (k:=⟨1,true,el,sz,List.replicate l z⟩) (arr:=madeCells z1.cells (c * sz)) (by rw[hv]; exact Nat.zero_lt_one) (byt_ty hby) (by
    rw[hsz]
    simp only[List.length_replicate]
    exact Nat.mul_le_mul_right _ hlc) (fun j x hj=>by
    rw[List.getElem?_replicate] at hj
    split at hj
    case isFalse=>cases hj
    rename_i hjl
    simp only[Option.some.injEq] at hj
    subst hj
    refine⟨hzl,fun q a hq=>?_⟩
    have hql:q < sz:=by have:=(gSI.1 hq).1; omega
    rw[f2,List.getElem?_map,Option.map_eq_some_iff] at hq
    obtain⟨v,hv,rfl⟩:=hq
    have hlt:j * sz + q < c * sz:=by
     have:(j + 1) * sz≤c * sz:=Nat.mul_le_mul_right _ (by omega)
     rw[Nat.add_mul] at this
     omega
    refine⟨v,?_,⟨by simp[Shp],by simp only[Mem,Rd,true_and]; exact f3 v (gMO hv)⟩,f3 v (gMO hv)⟩
    unfold madeCells
    rw[Array.getElem?_map,Array.getElem?_range,if_pos hlt]
    simp only[Option.map_some,Option.some.injEq]
    rw[e7,show (j * sz + q) % sz=q by rw[Nat.mul_comm,Nat.mul_add_mod,Nat.mod_eq_of_lt hql]]
    have hv':z1.cells[q]? = some v:=by simpa using hv
    rw[getElem!_def,hv'])
   show vRaw P ⟨d,.makeSlice t x y,ty,pos,af,gd⟩ ec (Lift C K) w
   unfold vRaw execOp
   simp only[Sem.run_bind,Sem.run_pure,hrun,Result.andThen_ok]
   refine⟨_,_,hk,h0',_,g1,h2.trans g2,shp_upd (fun i=>Shp.step g2.stab _ _ (h3 i)) ?_,mem_upd (fun i=>Mem.keep g2.keepD _ _ (h4 i)) (by simp[Mem])⟩
   simp only[Shp]
   exact⟨⟨_,_,_,rfl⟩,_,by rw[gSS hlt],Nat.le_refl _,fun _=>.inr ⟨w.heap.size,(madeCells z1.cells (c * sz)).size,c,by simp[newI],by simp,hlc,hm,by rw[hsz]; simp⟩⟩
 | _=>simp[liveX] at hl
def aStG (P:Program) (n:Nat) (ops:List Oper) (o:Oper) (e:AEnv) (A:AHeap) (K:AKont):Prop:=match o.guard with
 | none=>∀ (C:Ctx) (ec:Env) (w:World),C.A.length=n→Sta C e A ec w→vop P o (Lift C K) ec w
 | some (j,want)=>∃ b,agval e ((ops[j]?).bind (·.dst))=some b∧if b=some want then (∀ (C:Ctx) (ec:Env) (w:World),C.A.length=n→Sta C e A ec w→vop P o (Lift C K) ec w) else K (aupd e o.dst (.tup [])) A
def aAnyG (P:Program) (n:Nat) (ops:List Oper) (k:AKont):Nat→Array Bool→AKont
 | 0,L=>fun e A=>Region.ready .any ops.toArray L=[]∧k e A
 | f + 1,L=>fun e A=>(Region.ready .any ops.toArray L=[]→k e A)∧∀ i∈Region.ready .any ops.toArray L,∃ o,ops[i]? = some o∧aStG P n ops o e A (aAnyG P n ops k f (L.setIfInBounds i true))
theorem aAnyG_sound {n:Nat} {C:Ctx} {K:AKont} {m:Nat} (hn:C.A.length=n) (hd:∀ o∈ops,∀ d',o.dst=some d'→d' < m):∀ (f:Nat) (L:Array Bool) (e:AEnv) (A:AHeap) (a:Act) (w:World),Fr m a→Sta C e A (envOf a) w→aAnyG P n ops K f L e A →
 wpAny P .any ops.toArray (fun ex a' w'=>ex = .normal∧Fr m a'∧Lift C K (envOf a') w') f L a w
 | 0,L,e,A,a,w,hf,hS,h=>⟨h.1,rfl,hf,e,A,h.2,hS⟩
 | f + 1, L, e, A, a, w, hf, hS, h => by
   refine⟨fun hr=>⟨rfl,hf,e,A,h.1 hr,hS⟩,fun i hi=>?_⟩
   obtain⟨o,ho,hv⟩:=h.2 i hi
   have hd0:=hd o (gMO ho)
   have run:(∀ (C:Ctx) (ec:Env) (w:World),C.A.length=n→Sta C e A ec w→vop P o (Lift C (aAnyG P n ops K f (L.setIfInBounds i true))) ec w)→o.wp P a w (wpAny P .any ops.toArray (fun ex a' w'=>ex = .normal∧Fr m a'∧Lift C K (envOf a') w') f (L.setIfInBounds i true)) (fun ex a' w'=>ex = .normal∧Fr m a'∧Lift C K (envOf a') w'):=fun hv=>
    vop_sound hf hd0 (fun a w hf' ⟨e',A',h',hS'⟩=>aAnyG_sound hn hd f _ e' A' a w hf' hS' h') (hv C _ w hn hS)
   unfold wpOp
   simp only[List.getElem?_toArray,ho]
   unfold aStG at hv
   split at hv
   ·rename_i hg
    rw[if_pos (by simp[Region.wanted,hg])]
    exact .inl (run hv)
   ·rename_i j want hg
    obtain⟨b,hb,hv⟩:=hv
    have hy:=agval_sound hS hb
    have hy2:yielded ops.toArray a.tmps j=b:=by
     rw[gval_eq]
     simpa using hy
    by_cases hbw:b=some want
    ·rw[if_pos hbw] at hv
     rw[if_pos (by simp[Region.wanted,hg,hy2,hbw])]
     exact .inl (run hv)
    ·rw[if_neg hbw] at hv
     rw[if_neg (by simp[Region.wanted,hg,hy2,hbw])]
     exact aAnyG_sound hn hd f _ _ _ _ _ (hf.put _ _) (by rw[envOf_put hf hd0]; exact hS.undef _) hv
theorem adraw_allG {n:Nat} {K:AKont} {e:AEnv} {A:AHeap} {id:Nat} (hm:P.follows .mixedOrders=true) (h:aAnyG P n ops K ops.length (Array.replicate ops.length false) e A):aDraw P n id ops.toArray K e A:=by
 intro C ec w hn hS m a hf hd he
 subst he
 refine wp_region_any hm ?_
 simpa using aAnyG_sound hn (fun o ho=>hd o (by simpa using ho)) ops.length _ e A a w.drew hf hS.drew h
theorem heapM_mem {T:List (Nat×AHeap)} {m:Nat} {A:AHeap} (h:heapM T m=some A):(m,A)∈T:=by
 unfold heapM at h
 simp only[Option.map_eq_some_iff] at h
 obtain⟨t,h1,h2⟩:=h
 have h3:=List.mem_of_find?_eq_some h1
 have h4:=List.find?_some h1
 simp only[beq_iff_eq] at h4
 rw[← h4,← h2]
 exact h3
structure MidP (ops:List Oper) (e0 e1:AEnv) (T:List (Nat×AHeap)) (L:Array Bool) (e:AEnv) (A:AHeap):Prop where
 sz:L.size=ops.length
 cl:Closed ops (Lst L)
 hp:∃ m,heapM T m=some A∧∀ j,m.testBit j=true↔(chgP ops j=true∧Lst L j)
 val:∀ (j:Nat) (o:Oper) (t:Nat),Lst L j→ops[j]? = some o→o.dst=some t→e t=e1 t
 out:∀ t,(∀ (j:Nat) (o:Oper),Lst L j→ops[j]? = some o→o.dst≠some t)→e t=e0 t
theorem chgP_lt {j:Nat} (h:chgP ops j=true):j < ops.length:=by
 unfold chgP at h
 split at h
 ·rename_i o ho; exact (gSI.1 ho).1
 ·cases h
theorem Sub.ghosts {n:Nat} {e:AEnv}:∀ (m:Nat) {A:AHeap},Sub n e A e (A++List.replicate m ⟨0,true,0,0,[]⟩)
 | 0,A=>by simpa using Sub.refl _ _ _
 | m + 1, A => by
   intro C ec w hn hS
   have h1:=Sub.ghost 0 0 0 C ec w hn hS
   have h2:=Sub.ghosts m (A:=A++[⟨0,true,0,0,[]⟩]) C ec w hn h1
   rw[List.append_assoc] at h2
   simpa [List.replicate_succ] using h2
end
theorem xdraw_spec (hF:XFok P F) {l:List Oper} {id:Nat} {e e':AEnv} {A A':AHeap} (h:xdraw P F l e A=some (e',A')) {K:AKont} (hk:K e' A'):aDraw P n id l.toArray K e A:=by
 unfold xdraw at h
 split at h
 ·rename_i r hr
  simp only[Option.some.injEq] at h
  subst h
  exact xdraw0_spec hF hr hk
 ·split at h
  case isFalse=>cases h
  rename_i hc
  split at h
  case h_2=>cases h
  rename_i st hx
  split at h
  case isFalse=>cases h
  rename_i hy
  exact adraw_all hc.1 (xanyAll_spec hF hx hy h hk)
theorem xc_spec (hF:XFok P F) {lf:Nat}:∀ (c:Code) (e:AEnv) (A:AHeap) (x:XR),xc P F lf c e A=some x→∀ (bs:List (Nat×AKont)) (r k:AKont),XGood bs r k x→avc P n c bs r k e A
 | .skip, e, A, x, h, bs, r, k, hx => by
   simp only[xc,Option.some.injEq] at h
   subst h
   exact hx
 | .region id ops d, e, A, x, h, bs, r, k, hx => by
   simp only[xc] at h
   split at h
   ·rename_i e1 A1 h1
    simp only[Option.some.injEq] at h
    subst h
    cases d with
    | false=>exact xops_spec hF _ _ _ _ _ (by simpa using h1) hx
    | true =>
      have:=xdraw_spec (n:=n) (id:=id) hF (l:=ops.toList) (by simpa using h1) (K:=k) hx
      rw[Array.toArray_toList] at this
      exact this
   ·cases h
 | .seq a b, e, A, x, h, bs, r, k, hx => by
   simp only[xc] at h
   split at h
   ·rename_i e1 A1 h1
    exact xc_spec hF a _ _ _ h1 _ _ _ (xc_spec hF b _ _ _ h _ _ _ hx)
   ·rename_i hn
    refine xc_spec hF a _ _ _ h _ _ _ ?_
    cases x with
    | nx e1 A1=>exact absurd h (hn e1 A1)
    | ex j e1 A1=>exact hx
    | rt e1 A1=>exact hx
 | .cond c a b, e, A, x, h, bs, r, k, hx => by
   simp only[xc] at h
   split at h
   ·rename_i t ht
    refine⟨t,ht,?_⟩
    cases t with
    | true=>exact xc_spec hF a _ _ _ (by simpa using h) _ _ _ hx
    | false=>exact xc_spec hF b _ _ _ (by simpa using h) _ _ _ hx
   ·cases h
 | .block id c, e, A, x, h, bs, r, k, hx => by
   simp only[xc] at h
   show avc P n c ((id,k)::bs) r k e A
   split at h
   ·rename_i j e1 A1 h1
    refine xc_spec hF c _ _ _ h1 _ _ _ ?_
    show aexitK ((id,k)::bs) j e1 A1
    simp only[aexitK]
    split at h
    ·rename_i hj
     simp only[Option.some.injEq] at h
     subst h
     rw[if_pos hj]
     exact hx
    ·rename_i hj
     simp only[Option.some.injEq] at h
     subst h
     rw[if_neg hj]
     exact hx
   ·rename_i hn
    refine xc_spec hF c _ _ _ h _ _ _ ?_
    cases x with
    | nx e1 A1=>exact hx
    | ex j e1 A1=>exact absurd h (hn j e1 A1)
    | rt e1 A1=>exact hx
 | .exit id, e, A, x, h, bs, r, k, hx => by
   simp only[xc,Option.some.injEq] at h
   subst h
   exact hx
 | .loop c, e, A, x, h, bs, r, k, hx => by
   simp only[xc] at h
   exact xloop_spec (fun e A x h k hx=>xc_spec hF c e A x h bs r k hx) lf e A x h k hx
 | .ret, e, A, x, h, bs, r, k, hx => by
   simp only[xc,Option.some.injEq] at h
   subst h
   exact hx
 | .scope c, e, A, x, h, bs, r, k, hx => by
   simp only[xc] at h
   exact xc_spec hF c _ _ _ h bs r k hx
 | .label _, e, A, x, h, bs, r, k, hx => by
   simp only[xc,Option.some.injEq] at h
   subst h
   exact hx
 | .rangeFunc ..,e,A,x,h,bs,r,k,hx=>by simp[xc] at h
theorem xfun_ok {orc:XF} (ho:XFok P orc) (lf:Nat):∀ n,XFok P (xfun P orc lf n)
 | 0=>ho
 | n + 1 => by
   intro f args A r A' h
   simp only[xfun] at h
   split at h
   ·rename_i r0 h0
    simp only[Option.some.injEq] at h
    subst h
    exact ho _ _ _ _ _ h0
   ·split at h
    ·rename_i fn hfn
     split at h
     ·rename_i c hc
      split at h
      ·rename_i hok
       refine⟨hok.1,ac_of hfn hc hok.2.1 hok.2.2 fun _=>?_⟩
       unfold xend at h
       split at h
       ·rename_i e1 A1 h1
        split at h
        ·rename_i l hl
         simp only[Option.some.injEq,Prod.mk.injEq] at h
         obtain⟨rfl,rfl⟩:=h
         exact xc_spec (xfun_ok ho lf n) _ _ _ _ h1 _ _ _ ⟨l,hl,rfl,rfl⟩
        ·cases h
       ·rename_i e1 A1 h1
        split at h
        ·rename_i l hl
         simp only[Option.some.injEq,Prod.mk.injEq] at h
         obtain⟨rfl,rfl⟩:=h
         exact xc_spec (xfun_ok ho lf n) _ _ _ _ h1 _ _ _ ⟨l,hl,rfl,rfl⟩
        ·cases h
       ·cases h
      ·cases h
     ·cases h
    ·cases h
theorem xres_af {orc:XF} (ho:XFok P orc) {lf n:Nat} {f:FuncId} {args:List AV} {r:AV} (h:xres P orc lf n f args=some r):AF P f args r:=by
 unfold xres at h
 split at h
 ·rename_i r0 A' h0
  exact (xfun_ok ho lf n).af h0 h
 ·cases h
theorem xtrue_af {orc:XF} (ho:XFok P orc) {lf n:Nat} {f:FuncId} {args:List AV} (h:xtrue P orc lf n f args=true):AF P f args (.d (.v (.bool true))):=by
 unfold xtrue at h
 split at h
 ·rename_i b hb
  subst h
  exact xres_af ho hb
 ·cases h
end
end Go.Proofs.YtfnbhkbfelllgaaGreatDoor
