import Derived.Test.YtfnbhkbfelllgaaGreatDoorAa
import Derived.Test.YtfnbhkbfelllgaaGreatDoorVcK
set_option linter.all false
namespace Go.Proofs.YtfnbhkbfelllgaaGreatDoor
open Go.RowKit
abbrev AEnv:=Nat→AV
def ofV:Value→AV
 | .agg cs=>if cs.all (fun v=>v.oneCell') then .agg (cs.toList.map fun v=>.d (.v v)) else .any
 | .tuple _=>.any
 | .func (.func f) a b=>if a.isEmpty && b.isEmpty then .fn f [] [] else .any
 | .bool b=>.d (.v (.bool b))
 | .int k n=>.d (.v (.int k n))
 | .string s=>.d (.v (.string s))
 | .slice none n c=>.d (.v (.slice none n c))
 | .pointer none=>.d (.v (.pointer none))
 | .map none=>.d (.v (.map none))
 | .nilFunc=>.d (.v .nilFunc)
 | _=>.any
def eva (e:AEnv):Operand→AV
 | .tmp t=>e t
 | .const v=>ofV v
 | .global _=>.any
 | .func f=>.fn f [] []
def aupd (e:AEnv) (d:Option Nat) (v:AV):AEnv:=match d with
 | none=>e
 | some d=>fun i=>if i=d then v else e i
def av1:AV→Option Value
 | .d (.v x)=>some x
 | _=>none
def okOne:Option Value→Option AV
 | some v=>if v.oneCell' then some (.d (.v v)) else none
 | none=>none
def curB (A:AHeap) (b ver:Nat):Option Blk:=match A[b]? with
 | some k=>if ver=k.ver∧k.ty < 1000000 then some k else none
 | none=>none
def ptA (P:Program) (t:TypeId) (cs:List AV) (off:Nat):Option AV:=match tk P t with
 | some (true,n)=>some (.agg ((cs.drop off).take n))
 | some (false,_)=>cs[off]?
 | none=>none
def lenA (P:Program) (A:AHeap) (t:TypeId):AV→Option AV
 | .d (.v v)=>okOne (lenV P t v)
 | .d (.sl _ xs) => match sl P t with
   | some _=>some (.d (.v (.int .i64 xs.length)))
   | none=>none
 | .own b ver _ len => match curB A b ver, sl P t with
   | some _,some _=>some (.d (.v (.int .i64 len)))
   | _,_=>none
 | .agg _ => match ar P t with
   | some (n,_,_)=>some (.d (.v (.int .i64 n)))
   | none=>none
 | _=>none
def idA (e : AEnv) (y : Nat) (o : Operand) : Option Nat := match av1 (eva e o) with
    | some (.int _ i)=>if 0≤i∧i≤y then some i.toNat else none
    | _=>none
def bdA (e:AEnv) (len:Nat) (lo hi:Option Operand):Option (Nat×Nat):=
 match (match hi with | some o=>idA e len o | none=>some len) with
 | none=>none
 | some h => match (match lo with | some o => idA e h o | none => some 0) with
   | none=>none
   | some l=>some (l,h)
def cellsA:AV→Option (List AV)
 | .agg cs=>some cs
 | .d (.v x)=>if x.oneCell' then some [.d (.v x)] else none
 | .d (.sl sz xs)=>some [.d (.sl sz xs)]
 | .own b ver i len=>some [.own b ver i len]
 | .ptr b ver i o=>some [.ptr b ver i o]
 | .ip cs=>some [.ip cs]
 | .fn f fs cs=>some [.fn f fs cs]
 | .mp b ver=>some [.mp b ver]
 | .ifc t c=>some [.ifc t c]
 | _=>none
def putA (cs:List AV):Nat→List AV→List AV
 | _,[]=>cs
 | o,v::vs=>putA (cs.set o v) (o + 1) vs
def layA (pl:Nat→Option (Nat×Nat)):List AV→List (Nat×AV)→Option (List AV)
 | cs,[]=>some cs
 | cs, (i, v) :: rest => match pl i, cellsA v with
   | some (o,s),some l=>if l.length=s∧o + s≤cs.length then layA pl (putA cs o l) rest else none
   | _,_=>none
def zvA (P:Program) (t:TypeId):Option (List AV):=match zv P t with
 | some z=>if z.cells.all (fun v=>v.oneCell')=true∧t < 1000000 then some (z.cells.toList.map fun v=>.d (.v v)) else none
 | none=>none
def bldA (P:Program) (t:TypeId) (ps:List (Nat×AV)):Option AV:=match zvA P t with
 | none=>none
 | some z => match places P t with
   | some pl=>(layA (fun i=>pl[i]?) z ps).map .agg
   | none => match ar P t with
     | some (_,_,sz)=>(layA (fun i=>some (i * sz,sz)) z ps).map .agg
     | none=>none
def reptA (z:List AV):Nat→List AV
 | 0=>[]
 | n + 1=>z++reptA z n
def blsA (P:Program) (t:TypeId) (len:Nat) (ps:List (Nat×AV)):Option (Nat×Nat×List AV):=match sl P t with
 | none=>none
 | some (e, sz) => match zvA P e with
   | none=>none
   | some z=>if z.length=sz∧0 < sz∧len * sz≤16777216 then (layA (fun i=>some (i * sz,sz)) (reptA z len) ps).map fun l=>(e,sz,l) else none
def allV:List AV→Option (List Value)
 | []=>some []
 | .d (.v x) :: l => (match allV l with
   | some r=>some (x::r)
   | none=>none)
 | _=>none
def aggV:AV→Option (List Value)
 | .agg cs=>allV cs
 | _=>none
def refK (A:AHeap):AV→Option Value
 | .mp b ver => match A[b]? with
   | some k=>if ver=k.ver then some (.map (some 0)) else none
   | none=>none
 | .ptr b ver _ _ => match A[b]? with
   | some k=>if ver=k.ver then some (.pointer (some ⟨0,0,none⟩)) else none
   | none=>none
 | .ip _=>some (.pointer (some ⟨0,0,none⟩))
 | .fn _ _ _=>some (.func (.func 0) #[] #[])
 | _=>none
def nilCmp (op:BinOp) (a b:AV):Option AV:=match op,a,b with
 | .eql,.d (.sl _ (_::_)),.d (.v (.slice none _ _))=>some (.d (.v (.bool false)))
 | .neq,.d (.sl _ (_::_)),.d (.v (.slice none _ _))=>some (.d (.v (.bool true)))
 | _,_,_=>none
def apv (P:Program) (A:AHeap) (e:AEnv):Op→Option AV
 | .move x | .assign x=>some (eva e x)
 | .pick c a b => match eva e c with
   | .d (.v (.bool t))=>some (if t then eva e a else eva e b)
   | _=>none
 | .nilCheck x => match eva e x with
   | .ptr b ver i o=>(curB A b ver).map fun _=>.ptr b ver i o
   | .ip cs=>some (.ip cs)
   | .fn f p q=>some (.fn f p q)
   | _=>none
 | .binOp op t x y _ => match av1 (eva e x), av1 (eva e y) with
   | some a,some b=>okOne (bin P op t a b)
   | _, _ => match op, refK A (eva e x), eva e y with
     | .eql, some c, .d (.v b) => (match nilB P t c b with
       | some r=>some (.d (.v (.bool r)))
       | none=>none)
     | .neq, some c, .d (.v b) => (match nilB P t c b with
       | some r=>some (.d (.v (.bool !r)))
       | none=>none)
     | op, _, _ => (match aggV (eva e x), aggV (eva e y) with
       | some a,some b=>okOne (bin P op t (.agg a.toArray) (.agg b.toArray))
       | _,_=>none)
 | .unOp op _ x => match av1 (eva e x) with
   | some a=>okOne (un op a)
   | none=>none
 | .convert s d x => match eva e x, P.underlying s, isInt P d with
   | .d (.v (.int _ n)),some _,some k=>some (.d (.v (.int k (k.wrap n))))
   | _,_,_=>none
 | .makeFunc (.func f) a b=>some (.fn f (a.toList.map (eva e)) (b.toList.map (eva e)))
 | .fieldAddr s x f => match eva e x, fo P s f with
   | .ptr b ver i o,some n=>(curB A b ver).map fun _=>.ptr b ver i (o + n)
   | .ip cs,some n=>some (.ip (cs.drop n))
   | _,_=>none
 | .field t x f => match eva e x, ft P t f with
   | .agg cs,some (ty,off)=>ptA P ty cs off
   | _,_=>none
 | .indexAddr t x j => match av1 (eva e j) with
   | some (.int _ j) => if 0 ≤ j then (match eva e x with
     | .d (.sl sz xs) => match sl P t with
       | some (_,sz')=>if sz'=sz then (xs[j.toNat]?).map AV.ip else none
       | none=>none
     | .own b ver i len => match curB A b ver, sl P t with
       | some k,some (_,sz')=>if sz'=k.sz∧j < len then some (.ptr b ver (i + j.toNat) 0) else none
       | _,_=>none
     | .ptr b ver i o => match curB A b ver, ar P t with
       | some k,some (n,_,sz)=>if j < n then (if k.sz=1 then some (.ptr b ver (i + (o + j.toNat * sz)) 0) else some (.ptr b ver i (o + j.toNat * sz))) else none
       | _,_=>none
     | .ip cs => match ar P t with
       | some (n,_,sz)=>if j < n then some (.ip (cs.drop (j.toNat * sz))) else none
       | none=>none
     | _=>none) else none
   | _=>none
 | .index t x j => match av1 (eva e j) with
   | some (.int _ j) => match eva e x with
     | .agg cs => match ar P t with
       | some (n,el,sz)=>if 0≤j∧j < n then ptA P el cs (j.toNat * sz) else none
       | none=>none
     | .d (.v (.string s))=>if isStr P t then (if 0≤j then (s[j.toNat]?).map (fun b=>.d (.v (.int .u8 b.toNat))) else none) else none
     | _=>none
   | _=>none
 | .extract x i => match eva e x with
   | .tup vs=>vs[i]?
   | _=>none
 | .slice t x lo hi none => match eva e x with
   | .d (.v (.string s)) => if isStr P t then (match bdA e s.size lo hi with
     | some (l,h)=>some (.d (.v (.string (s.extract l h))))
     | none=>none) else none
   | .d (.v (.slice none 0 0)) => match sl P t, bdA e 0 lo hi with
     | some _,some _=>some (.d (.v (.slice none 0 0)))
     | _,_=>none
   | .d (.sl sz xs) => match sl P t, bdA e xs.length lo hi with
     | some (_,sz'),some (l,h)=>if sz'=sz then some (.d (.sl sz ((xs.take h).drop l))) else none
     | _,_=>none
   | .own b ver i len => match curB A b ver, sl P t, bdA e len lo hi with
     | some k,some (_,sz'),some (l,h)=>if sz'=k.sz then (if l=0 then some (.own b ver i h) else if l < h then some (.own b ver (i + l) (h - l)) else none) else none
     | _,_,_=>none
   | .ptr b ver i o => match curB A b ver, ar P t with
     | some k, some (n, _, sz) => (match bdA e n lo hi with
       | some (l,h)=>if k.sz=1∧sz=1∧n≤maxLen∧0 < i + o + l∧l < h then some (.own b ver (i + o + l) (h - l)) else none
       | none=>none)
     | _,_=>none
   | _=>none
 | .slice t x none (some hi) (some mx) => match eva e x with
   | .d (.sl sz xs) => match sl P t, idA e xs.length mx with
     | some (_, sz'), some m => (match idA e m hi with
       | some h=>if sz'=sz∧m=xs.length∧h=xs.length then some (.d (.sl sz xs)) else none
       | none=>none)
     | _,_=>none
   | _=>none
 | .call c => match c.callee with
   | .builtin .len => match c.args.toList, c.argTypes.toList with
     | [x],[t]=>lenA P A t (eva e x)
     | _,_=>none
   | .builtin .min => match c.args.toList with
     | [x, y] => (match eva e x, eva e y with
       | .d (.v (.int k a)),.d (.v (.int _ b))=>some (.d (.v (.int k (if b < a then b else a))))
       | _,_=>none)
     | _=>none
   | _=>none
 | .build t ps=>bldA P t (ps.toList.map fun p=>(p.1,eva e p.2))
 | _=>none
section
variable {ι:Place} {A:AHeap} {e:AEnv} {ec:Env} {P:Program}
def EnvS (ι:Place) (A:AHeap) (e:AEnv) (ec:Env):Prop:=∀ i,Shp ι A (e i) (ec i)
def EnvM (N:Nat→Prop) (w:World) (e:AEnv) (ec:Env):Prop:=∀ i,Mem N w (e i) (ec i)
theorem ofV_shp (ι:Place) (A:AHeap) (v:Value):Shp ι A (ofV v) v:=by
 unfold ofV
 split
 ·split
  ·rename_i cs h
   simp only[Shp]
   refine⟨cs.toList,by simp,ShpL.of (by simp) fun i c u hc hu=>?_⟩
   rw[List.getElem?_map,hu] at hc
   simp only[Option.map_some,Option.some.injEq] at hc
   subst hc
   simp[Shp]
  ·simp[Shp]
 ·simp[Shp]
 ·split
  ·rename_i f a b h
   simp only[Bool.and_eq_true,Array.isEmpty_iff] at h
   obtain⟨rfl,rfl⟩:=h
   simp[Shp,ShpL]
  ·simp[Shp]
 all_goals simp[Shp]
theorem ofV_mem (N:Nat→Prop) (w:World) (v:Value):Mem N w (ofV v) v:=by
 unfold ofV
 split
 ·split
  ·rename_i cs h
   simp only[Mem]
   refine⟨cs.toList,by simp,MemL.of (by simp) fun i c u hc hu=>?_,fun x hx=>Array.all_eq_true_iff_forall_mem.1 h x (by simpa using hx)⟩
   rw[List.getElem?_map,hu] at hc
   simp only[Option.map_some,Option.some.injEq] at hc
   subst hc
   simp only[Mem,Rd,true_and]
   exact Array.all_eq_true_iff_forall_mem.1 h u (by simpa using gMO hu)
  ·simp[Mem]
 ·simp[Mem]
 ·split
  ·rename_i f a b h
   simp only[Bool.and_eq_true,Array.isEmpty_iff] at h
   obtain⟨rfl,rfl⟩:=h
   simp[Mem,MemL]
  ·simp[Mem]
 all_goals simp[Mem,Rd,Value.oneCell']
theorem eva_shp (hs:EnvS ι A e ec) (x:Operand):Shp ι A (eva e x) (ev ec x):=by
 cases x with
 | tmp t=>exact hs t
 | const v=>exact ofV_shp ι A v
 | global g=>simp[eva,Shp]
 | func f=>simp[eva,ev,Shp,ShpL]
theorem eva_mem {N:Nat→Prop} {w:World} (hs:EnvM N w e ec) (x:Operand):Mem N w (eva e x) (ev ec x):=by
 cases x with
 | tmp t=>exact hs t
 | const v=>exact ofV_mem N w v
 | global g=>simp[eva,Mem]
 | func f=>simp[eva,ev,Mem,MemL]
theorem shp_upd {d:Option Nat} {r:AV} {u:Value} (hs:EnvS ι A e ec) (h:Shp ι A r u):EnvS ι A (aupd e d r) (upd ec d u):=by
 intro i
 cases d with
 | none=>exact hs i
 | some d =>
   simp only[aupd,upd]
   split
   ·exact h
   ·exact hs i
theorem mem_upd {N:Nat→Prop} {w:World} {d:Option Nat} {r:AV} {u:Value} (hs:EnvM N w e ec) (h:Mem N w r u):EnvM N w (aupd e d r) (upd ec d u):=by
 intro i
 cases d with
 | none=>exact hs i
 | some d =>
   simp only[aupd,upd]
   split
   ·exact h
   ·exact hs i
theorem av1_shp {c:AV} {x u:Value} (h:av1 c=some x) (hs:Shp ι A c u):u=x:=by
 unfold av1 at h
 split at h
 ·simp only[Option.some.injEq] at h; subst h; simpa [Shp] using hs
 ·cases h
theorem okOne_spec {r:Option Value} {c:AV} (h:okOne r=some c):∃ v,r=some v∧c = .d (.v v)∧v.oneCell'=true:=by
 unfold okOne at h
 split at h
 ·split at h
  ·rename_i v hv
   simp only[Option.some.injEq] at h
   exact⟨v,rfl,h.symm,hv⟩
  ·cases h
 ·cases h
theorem curB_spec {b ver:Nat} {k:Blk} (h:curB A b ver=some k):A[b]? = some k∧ver=k.ver:=by
 unfold curB at h
 split at h
 ·split at h
  ·rename_i hc; simp only[Option.some.injEq] at h; subst h; exact⟨‹_›,hc.1⟩
  ·cases h
 ·cases h
theorem curB_ty {b ver:Nat} {k:Blk} (h:curB A b ver=some k):k.ty < 1000000:=by
 unfold curB at h
 split at h
 ·split at h
  ·rename_i hc; simp only[Option.some.injEq] at h; subst h; exact hc.2
  ·cases h
 ·cases h
theorem ptr_shp {b ver i o:Nat} {u:Value} {k:Blk} (h:curB A b ver=some k) (hs:Shp ι A (.ptr b ver i o) u):∃ c n,ι b=some (c,n)∧u = .pointer (some ⟨c,i * k.sz + o,none⟩):=by
 simp only[Shp] at hs
 obtain⟨_,k',h1,h2,h3⟩:=hs
 obtain⟨g1,g2⟩:=curB_spec h
 rw[g1] at h1
 obtain rfl:=oSI h1
 exact h3 g2
theorem own_shp {b ver i len:Nat} {u:Value} {k:Blk} (h:curB A b ver=some k) (hs:Shp ι A (.own b ver i len) u):(len=0∧i=0∧u = .slice none 0 0) ∨
 ∃ c n cap,ι b=some (c,n)∧u = .slice (some ⟨c,i * k.sz,none⟩) len cap∧len≤cap∧cap≤maxLen∧(0 < i∨(i + cap) * k.sz=n):=by
 simp only[Shp] at hs
 obtain⟨_,k',h1,h2,h3⟩:=hs
 obtain⟨g1,g2⟩:=curB_spec h
 rw[g1] at h1
 obtain rfl:=oSI h1
 exact h3 g2
theorem shp_ptr {b ver i o:Nat} {k:Blk} {c n:Nat} (h:curB A b ver=some k) (hι:ι b=some (c,n)):Shp ι A (.ptr b ver i o) (.pointer (some ⟨c,i * k.sz + o,none⟩)):=by
 obtain⟨g1,g2⟩:=curB_spec h
 simp only[Shp]
 exact⟨⟨_,rfl⟩,k,g1,by omega,fun _=>⟨c,n,hι,rfl⟩⟩
theorem ptA_shp {t:TypeId} {cs:List AV} {l:List Value} {off:Nat} {r:AV} (h:ptA P t cs off=some r) (hs:ShpL ι A cs l) :
 ∃ v,pt P t l.toArray off=some v∧Shp ι A r v∧∀ N w,MemL N w cs l→(∀ x∈l,x.oneCell'=true)→Mem N w r v:=by
 unfold ptA at h
 unfold pt
 generalize tk P t=g at h ⊢
 split at h
 ·rename_i n
  simp only[Option.some.injEq] at h
  subst h
  refine⟨.agg (l.toArray.extract off (off + n)),rfl,?_,fun N w hm h1=>?_⟩
  ·simp only[Shp]
   have hl:=hs.len
   refine⟨(l.drop off).take n,by simp[List.extract_eq_take_drop],ShpL.of (by simp[hl]) fun i c u hc hu=>?_⟩
   rw[List.getElem?_take] at hc hu
   split at hc
   ·rw[List.getElem?_drop] at hc hu
    obtain⟨u',h1,h2⟩:=hs.get hc
    rename_i hi
    rw[if_pos hi,h1] at hu
    obtain rfl:=oSI hu
    exact h2
   ·cases hc
  ·simp only[Mem]
   have hl:=hs.len
   refine⟨(l.drop off).take n,by simp[List.extract_eq_take_drop],MemL.of (by simp[hl]) fun i c u hc hu=>?_,fun x hx=>h1 x (List.mem_of_mem_drop (List.mem_of_mem_take hx))⟩
   rw[List.getElem?_take] at hc hu
   split at hc
   ·rename_i hi
    rw[if_pos hi] at hu
    rw[List.getElem?_drop] at hc hu
    exact hm.get hc hu
   ·cases hc
 ·obtain⟨u,h1,h2⟩:=hs.get h
  exact⟨u,by simpa using h1,h2,fun N w hm _=>hm.get h h1⟩
 ·cases h
theorem idA_spec (hs:EnvS ι A e ec) {y:Nat} {o:Operand} {j:Nat} (h:idA e y o=some j) {c:Nat} (hc:y≤c):sb (ev ec o) c=some j∧j≤y:=by
 unfold idA at h
 split at h
 ·rename_i k i ha
  have:=av1_shp ha (eva_shp hs o)
  split at h
  ·simp only[Option.some.injEq] at h
   rw[this]
   simp only[sb]
   rw[if_pos (by omega)]
   exact⟨by rw[h],by omega⟩
  ·cases h
 ·cases h
theorem bdA_spec (hs:EnvS ι A e ec) {len cap:Nat} {lo hi:Option Operand} {l h:Nat} (hb:bdA e len lo hi=some (l,h)) (hc:len≤cap) :
 sbs len cap (lo.map (ev ec)) (hi.map (ev ec)) none=some (l,h,cap)∧l≤h∧h≤len:=by
 unfold bdA at hb
 unfold sbs
 cases hi with
 | none =>
   simp only at hb
   cases lo with
   | none=>simp at hb; obtain⟨rfl,rfl⟩:=hb; simp
   | some o =>
     simp only at hb
     split at hb
     ·cases hb
     ·rename_i j hj
      simp at hb
      obtain⟨rfl,rfl⟩:=hb
      have:=idA_spec hs hj (Nat.le_refl _)
      simp[this.1,this.2]
 | some o' =>
   simp only at hb
   split at hb
   ·cases hb
   ·rename_i h' hh'
    have h1:=idA_spec hs hh' hc
    cases lo with
    | none=>simp at hb; obtain⟨rfl,rfl⟩:=hb; simp[h1.1,h1.2]
    | some o =>
      simp only at hb
      split at hb
      ·cases hb
      ·rename_i j hj
       simp at hb
       obtain⟨rfl,rfl⟩:=hb
       have:=idA_spec hs hj (Nat.le_refl _)
       simp[h1.1,this.1,this.2,h1.2]
theorem cellsA_shp {c:AV} {l:List AV} {u:Value} (h:cellsA c=some l) (hs:Shp ι A c u):ShpL ι A l u.cells.toList∧∀ N w,Mem N w c u→MemL N w l u.cells.toList∧∀ x∈u.cells.toList,x.oneCell'=true:=by
 cases c with
 | any=>simp[cellsA] at h
 | tup cs=>simp[cellsA] at h
 | agg cs =>
   simp[cellsA] at h
   subst h
   simp only[Shp] at hs
   obtain⟨l',rfl,h2⟩:=hs
   refine⟨by simpa [Value.cells] using h2,fun N w hm=>?_⟩
   simp only[Mem] at hm
   obtain⟨l'',h3,h4,h5⟩:=hm
   simp only[Value.agg.injEq] at h3
   have:l'=l'':=by simpa using h3
   subst this
   exact⟨by simpa [Value.cells] using h4,by simpa [Value.cells] using h5⟩
 | d x =>
   cases x with
   | v x =>
     simp only[Shp] at hs
     subst hs
     simp only[cellsA] at h
     split at h
     ·rename_i h1
      simp at h
      subst h
      have hc:u.cells.toList=[u]:=by cases u<;>simp_all [Value.cells,Value.oneCell']
      rw[hc]
      exact⟨by simp[ShpL,Shp],fun N w hm=>⟨by simpa [MemL] using hm,by simpa using h1⟩⟩
     ·cases h
   | sl sz xs =>
     simp[cellsA] at h
     subst h
     have hs':=hs
     simp only[Shp] at hs
     obtain⟨a,c,rfl,_⟩:=hs
     exact⟨by simpa [ShpL,Value.cells] using hs',fun N w hm=>⟨by simpa [MemL,Value.cells] using hm,by simp[Value.cells,Value.oneCell']⟩⟩
 | own b ver i len =>
   simp[cellsA] at h
   subst h
   have hs':=hs
   simp only[Shp] at hs
   obtain⟨⟨a,n,c,rfl⟩,_⟩:=hs
   exact⟨by simpa [ShpL,Value.cells] using hs',fun N w hm=>⟨by simpa [MemL,Value.cells] using hm,by simp[Value.cells,Value.oneCell']⟩⟩
 | ptr b ver i o =>
   simp[cellsA] at h
   subst h
   have hs':=hs
   simp only[Shp] at hs
   obtain⟨⟨a,rfl⟩,_⟩:=hs
   exact⟨by simpa [ShpL,Value.cells] using hs',fun N w hm=>⟨by simpa [MemL,Value.cells] using hm,by simp[Value.cells,Value.oneCell']⟩⟩
 | mp b ver =>
   simp[cellsA] at h
   subst h
   have hs':=hs
   simp only[Shp] at hs
   obtain⟨⟨a,rfl⟩,_⟩:=hs
   exact⟨by simpa [ShpL,Value.cells] using hs',fun N w hm=>⟨by simpa [MemL,Value.cells] using hm,by simp[Value.cells,Value.oneCell']⟩⟩
 | ifc t c =>
   simp[cellsA] at h
   subst h
   have hs':=hs
   simp only[Shp] at hs
   obtain⟨v,rfl,_⟩:=hs
   exact⟨by simpa [ShpL,Value.cells] using hs',fun N w hm=>⟨by simpa [MemL,Value.cells] using hm,by simp[Value.cells,Value.oneCell']⟩⟩
 | ip cs =>
   simp[cellsA] at h
   subst h
   have hs':=hs
   simp only[Shp] at hs
   obtain⟨b,o,rfl⟩:=hs
   exact⟨by simpa [ShpL,Value.cells] using hs',fun N w hm=>⟨by simpa [MemL,Value.cells] using hm,by simp[Value.cells,Value.oneCell']⟩⟩
 | fn f fs cs =>
   simp[cellsA] at h
   subst h
   have hs':=hs
   simp only[Shp] at hs
   obtain⟨l,m,rfl,_⟩:=hs
   exact⟨by simpa [ShpL,Value.cells] using hs',fun N w hm=>⟨by simpa [MemL,Value.cells] using hm,by simp[Value.cells,Value.oneCell']⟩⟩
end
end Go.Proofs.YtfnbhkbfelllgaaGreatDoor
