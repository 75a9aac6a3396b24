import Derived.Test.YtfnbhkbfelllgaaGreatDoorAz
import Derived.Carry
set_option linter.all false
namespace Go.Proofs.YtfnbhkbfelllgaaGreatDoor
open Go.RowKit
section
variable {P:Program} {H:Nat→Prop} {ι ι':Place} {A A':AHeap} {w w':World} {e:AEnv} {ec:Env} {C:Ctx} {n:Nat} {K:AKont}
theorem stamps0:StampsOk #[] 0:=⟨rfl,fun i x h=>by simp at h⟩
theorem stamps_push {es:Array MapEntry} {clock:Nat} {k v:Value} (h:StampsOk es clock):StampsOk (es.push ⟨k,v,clock⟩) (clock + 1):=by
 refine⟨by simp[h.1],fun i x hx=>?_⟩
 rw[Array.toList_push,List.getElem?_append] at hx
 split at hx
 ·exact h.2 i x hx
 ·rename_i hi
  have h1:=(gSI.1 hx).1
  simp only[List.length_singleton] at h1
  have hi0:i=es.toList.length:=by omega
  subst hi0
  simp at hx
  subst hx
  simpa using h.1
theorem stamps_modify {es:Array MapEntry} {clock j:Nat} {f:MapEntry→MapEntry} (hf:∀ x,(f x).born=x.born) (h:StampsOk es clock):StampsOk (es.modify j f) clock:=by
 refine⟨by rw[Array.toList_modify]; simp[h.1],fun i x hx=>?_⟩
 rw[Array.toList_modify,List.getElem?_modify] at hx
 simp only[Option.map_eq_map,Option.map_eq_some_iff] at hx
 obtain⟨x0,hx0,rfl⟩:=hx
 split
 ·rw[hf]; exact h.2 i x0 hx0
 ·exact h.2 i x0 hx0
theorem mapCells_len {sz:Nat}:∀ {es:List MapEntry},(∀ x∈es,x.val.cells.size + 1=sz)→(mapCells es).length=es.length * sz
 | [],_=>by simp[mapCells]
 | x :: es, h => by
   have h1:=h x (by simp)
   have h2:=mapCells_len (es:=es) fun y hy=>h y (by simp[hy])
   simp only[mapCells,List.length_cons,List.length_append,h2,Array.length_toList,Nat.add_mul,Nat.one_mul]
   omega
theorem mapCells_get {sz:Nat}:∀ {es:List MapEntry},(∀ x∈es,x.val.cells.size + 1=sz)→∀ {i:Nat} {x:MapEntry},es[i]? = some x→(mapCells es)[i * sz]? = some x.key∧∀ j,j < x.val.cells.size→(mapCells es)[i * sz + (j + 1)]? = x.val.cells.toList[j]?
 | [],_,i,x,h=>by simp at h
 | y :: es, hs, 0, x, h => by
   simp at h
   subst h
   refine⟨by simp[mapCells],fun j hj=>?_⟩
   simp only[mapCells,Nat.zero_mul,Nat.zero_add,List.cons_append,List.getElem?_cons_succ]
   rw[gAL (by simpa using hj)]
 | y :: es, hs, i + 1, x, h => by
   have h1:=hs y (by simp)
   have ih:=mapCells_get (es:=es) (fun z hz=>hs z (by simp[hz])) (i:=i) (x:=x) (by simpa using h)
   have hsh:∀ q,(mapCells (y::es))[(i + 1) * sz + q]? = (mapCells es)[i * sz + q]? := fun q=>by
    simp only[mapCells,List.cons_append]
    rw[show (i + 1) * sz + q=(i * sz + q + y.val.cells.size) + 1 by rw[Nat.add_mul]; omega,List.getElem?_cons_succ,List.getElem?_append_right (by simp)]
    congr 1
    simp
   exact⟨by have:=hsh 0; simp only[Nat.add_zero] at this; rw[this]; exact ih.1,fun j hj=>by rw[hsh]; exact ih.2 j hj⟩
def Ent (ι:Place) (A:AHeap) (N:Nat→Prop) (w:World) (row:List AV) (x:MapEntry):Prop:=∃ kc vc,row=kc::vc∧Val ι A N w kc x.key∧x.key.oneCell'=true∧ShpL ι A vc x.val.cells.toList∧MemL N w vc x.val.cells.toList∧∀ y∈x.val.cells.toList,y.oneCell'=true
theorem map_at {b ver:Nat} {k:Blk} {u:Value} (hR:Rel H ι A w) (hb:A[b]? = some k) (hty:k.ty=1000001∨k.ty=1000002) (hv:ver=k.ver) (hs:Shp ι A (.mp b ver) u) :
 ∃ c m es clock, ι b = some (c, m) ∧ u = .map (some c) ∧ w.heap[c]? = some (.map es clock) ∧ es.toList.length = k.els.length ∧ 0 < k.sz ∧ (∀ x ∈ es.toList, x.val.cells.size + 1 = k.sz) ∧ (k.ty = 1000001 → ∀ x ∈ es.toList, x.val.oneCell' = true) ∧ (k.ty = 1000002 → ∀ x ∈ es.toList, ∃ cs, x.val = .agg cs) ∧
   (∀ (i:Nat) (row:List AV) (x:MapEntry),(k.els[i]? = some row→es.toList[i]? = some x→Ent ι A (Nn H ι A) w row x))∧StampsOk es clock:=by
 simp only[Shp] at hs
 obtain⟨_,k',hk',hv1,hv2⟩:=hs
 rw[hb] at hk'
 obtain rfl:=oSI hk'
 obtain⟨c,m,hι,hu⟩:=hv2 hv
 have hbr:=hR.blk b _ hb
 unfold BlkRel at hbr
 rw[hι] at hbr
 obtain⟨arr,a1,a2,a3,a4⟩:=hbr
 rcases a1 with a1 | ⟨o,a1,a5⟩
 ·exfalso
  have:=a1.1
  omega
 rcases a5 with⟨_,_,_,h,_⟩ | ⟨es,clock,rfl,harr,hstm,hsz,hw,hk⟩ | ⟨_,_,_,_,_,_,h,_⟩ | ⟨_,_,_,h,_⟩ | ⟨_,_,_,_,_,h,_⟩
 ·omega
 rotate_left
 ·omega
 ·omega
 ·omega
 have hlen:=mapCells_len hw
 have hal:arr.size=es.toList.length * k.sz:=by rw[harr]; simpa using hlen
 have hel:es.toList.length=k.els.length:=by
  have:=a2.2 (by omega)
  rw[hal] at this
  exact Nat.eq_of_mul_eq_mul_right hsz this
 refine⟨c,m,es,clock,hι,hu,a1,hel,hsz,hw,fun h1=>?_,fun h1=>?_,fun i row x hrow hx=>?_,hstm⟩
 ·rcases hk with hk | hk
  ·exact hk.2
  ·omega
 ·rcases hk with hk | hk
  ·omega
  ·exact hk.2
 ·obtain⟨hrl,hcell⟩:=a4 i row hrow
  have hxw:=hw x (gMO hx)
  obtain⟨g1,g2⟩:=mapCells_get hw hx
  cases row with
  | nil=>simp at hrl; omega
  | cons kc vc =>
    have hvl:vc.length=x.val.cells.size:=by simp at hrl; omega
    obtain⟨u0,q1,q2,q3⟩:=hcell 0 kc rfl
    have hk0:u0=x.key:=by
     rw[harr] at q1
     simp only[List.getElem?_toArray,Nat.add_zero] at q1
     rw[g1] at q1
     exact (oSI q1).symm
    subst hk0
    have hc:∀ (j:Nat) (a:AV) (u:Value),vc[j]? = some a→x.val.cells.toList[j]? = some u→Val ι A (Nn H ι A) w a u∧u.oneCell'=true:=by
     intro j a u ha hu'
     obtain⟨u1,p1,p2,p3⟩:=hcell (j + 1) a (by simpa using ha)
     rw[harr] at p1
     simp only[List.getElem?_toArray] at p1
     rw[g2 j (by have:=(gSI.1 ha).1; omega),hu'] at p1
     obtain rfl:=oSI p1
     exact⟨p2,p3⟩
    refine⟨kc,vc,rfl,q2,q3,ShpL.of (by simp; omega) fun j a u ha hu'=>(hc j a u ha hu').1.1,MemL.of (by simp; omega) fun j a u ha hu'=>(hc j a u ha hu').1.2,fun y hy=>?_⟩
    obtain⟨j,hj⟩:=List.getElem?_of_mem hy
    have hjl:=(gSI.1 hj).1
    exact (hc j _ y (gEG (by simp at hjl; omega)) hj).2
def plainK:TypeDesc→Bool
 | .int _ | .string | .bool=>true
 | _=>false
theorem run_checkK {kt:TypeId} {d:TypeDesc} {v:Value} {em:Bool} (hd:P.underlying kt=some d) (hp:plainK d=true):(Instr.checkKey em 10000 kt v).run P w = .ok () w:=by
 unfold Instr.checkKey
 simp only[Sem.run_bind,run_underlying hd,Result.andThen_ok]
 cases d<;>simp[plainK] at hp<;>rfl
def findA (d:TypeDesc) (k:Value):List (List AV)→Nat→Option (Option (Nat×List AV))
 | [],_=>some none
 | (.d (.v x) :: row) :: l, i => match Instr.sameNow d k x with
   | some true=>some (some (i,row))
   | some false=>findA d k l (i + 1)
   | none=>none
 | _,_=>none
theorem findA_sound {d:TypeDesc} {k:Value} {N:Nat→Prop}:∀ (els:List (List AV)) (es:List MapEntry) (i:Nat) (r:Option (Nat×List AV)),es.length=els.length→(∀ (j:Nat) (row:List AV) (x:MapEntry),els[j]? = some row→es[j]? = some x→Ent ι A N w row x)→findA d k els i=some r →
 (r=none∧Instr.findNow d k es i=some none)∨∃ j row x,r=some (i + j,row)∧es[j]? = some x∧els[j]? = some (.d (.v x.key)::row)∧Instr.findNow d k es i=some (some (i + j,x.val))∧Instr.sameNow d k x.key=some true
 | [], es, i, r, hl, _, h => by
   have:es=[]:=List.eq_nil_of_length_eq_zero (by simpa using hl)
   subst this
   simp[findA] at h
   exact .inl ⟨h.symm,rfl⟩
 | y::els,[],i,r,hl,_,h=>by simp at hl
 | y :: els, x :: es, i, r, hl, he, h => by
   obtain⟨kc,vc,rfl,hkv,_⟩:=he 0 _ x rfl rfl
   have hbad:∀ {q:Option (Option (Nat×List AV))},q=none→¬ q=some r:=fun h1 h2=>by rw[h1] at h2; cases h2
   cases kc with
   | d dd =>
     cases dd with
     | sl sz xs=>exact absurd h (hbad rfl)
     | v x' =>
       have hx:x.key=x':=by have:=hkv.1; simpa [Shp] using this
       subst hx
       simp only[findA] at h
       split at h
       ·rename_i hs
        simp only[Option.some.injEq] at h
        subst h
        exact .inr ⟨0,vc,x,rfl,rfl,rfl,by simp[Instr.findNow,hs],hs⟩
       ·rename_i hs
        rcases findA_sound els es (i + 1) r (by simpa using hl) (fun j row z h1 h2=>he (j + 1) row z (by simpa using h1) (by simpa using h2)) h with⟨h1,h2⟩ | ⟨j,row,z,h1,h2,h3,h4,h5⟩
        ·exact .inl ⟨h1,by simp[Instr.findNow,hs,h2]⟩
        ·refine .inr ⟨j + 1,row,z,by rw[h1]; congr 2; omega,by simpa using h2,by simpa using h3,?_,h5⟩
         simp only[Instr.findNow,hs,h4]
         congr 3
         omega
       ·cases h
   | _=>exact absurd h (hbad rfl)
theorem run_findKey {kt:TypeId} {d:TypeDesc} {k:Value} {es:List MapEntry} {r:Option (Nat×Value)} (hd:P.underlying kt=some d) (h:Instr.findNow d k es 0=some r):(Instr.findKey kt k es).run P w = .ok r w:=by
 unfold Instr.findKey
 simp[run_underlying hd,h]
def zeroM (P:Program) (et ty:Nat):Option AV:=match zv P et with
 | some (.agg cs)=>if ty=1000002∧(cs.toList.all fun v=>v.oneCell')=true then some (.agg (cs.toList.map fun v=>.d (.v v))) else none
 | some z=>if ty=1000001∧z.oneCell'=true then some (.d (.v z)) else none
 | none=>none
theorem zeroM_sound {et ty:Nat} {c:AV} (h:zeroM P et ty=some c):∃ z,(∀ w,(zeroValue et).run P w = .ok z w)∧∀ (ι:Place) (A:AHeap) (N:Nat→Prop) (w:World),Val ι A N w c z:=by
 have hz0:∀ z,zv P et=some z→∀ w,(zeroValue et).run P w = .ok z w:=fun z hz w=>by
  unfold zv at hz
  cases hi:P.info? et with
  | none=>rw[hi] at hz; cases hz
  | some i =>
    rw[hi] at hz
    simp only[Option.bind_some] at hz
    simp[zeroValue,typeInfo,hi,hz]
 unfold zeroM at h
 split at h
 ·rename_i cs hz
  split at h
  ·rename_i hc
   simp only[Option.some.injEq] at h
   subst h
   refine⟨_,hz0 _ hz,fun ι A N w=>⟨?_,?_⟩⟩
   ·simp only[Shp]
    exact⟨cs.toList,by simp,val_shp _⟩
   ·simp only[Mem]
    have hone:∀ x∈cs.toList,x.oneCell'=true:=fun x hx=>List.all_eq_true.1 hc.2 x hx
    exact⟨cs.toList,by simp,(val_mem hone).1,hone⟩
  ·cases h
 ·rename_i z _ hz
  split at h
  ·rename_i hc
   simp only[Option.some.injEq] at h
   subst h
   exact⟨_,hz0 _ hz,fun ι A N w=>⟨by simp[Shp],by simp only[Mem,Rd]; exact⟨trivial,hc.2⟩⟩⟩
  ·cases h
 ·cases h
def valM (ty:Nat) (vc:List AV):Option AV:=if ty=1000001 then (match vc with
 | [c]=>some c
 | _=>none) else some (.agg vc)
theorem valM_sound {ty:Nat} {vc:List AV} {c:AV} {N:Nat→Prop} {v:Value} (h:valM ty vc=some c) (h1:ty=1000001→v.oneCell'=true) (h2:¬ ty=1000001→∃ cs,v = .agg cs) (s1:ShpL ι A vc v.cells.toList) (s2:MemL N w vc v.cells.toList) (s3:∀ y∈v.cells.toList,y.oneCell'=true) :
 Val ι A N w c v:=by
 unfold valM at h
 split at h
 ·rename_i hty
  split at h
  ·simp only[Option.some.injEq] at h
   subst h
   have hc:v.cells.toList=[v]:=by have:=h1 hty; cases v<;>simp_all [Value.cells,Value.oneCell']
   rw[hc] at s1 s2
   simp only[ShpL] at s1
   simp only[MemL] at s2
   obtain⟨u,l,e1,e2,_⟩:=s1
   obtain⟨u',l',e3,e4,_⟩:=s2
   simp at e1 e3
   obtain⟨rfl,_⟩:=e1
   obtain⟨rfl,_⟩:=e3
   exact⟨e2,e4⟩
  ·cases h
 ·rename_i hty
  simp only[Option.some.injEq] at h
  subst h
  obtain⟨cs,rfl⟩:=h2 hty
  simp only[Value.cells] at s1 s2 s3
  exact⟨by simp only[Shp]; exact⟨_,by simp,s1⟩,by simp only[Mem]; exact⟨_,by simp,s2,s3⟩⟩
def okM (ok:Bool) (c:AV) (b:Bool):AV:=if ok then .tup [c,.d (.v (.bool b))] else c
def lookupA (P:Program) (t:TypeId) (A:AHeap) (ok:Bool) (x y:AV):Option AV:=match P.underlying t with
 | some (.map kt et) => match P.underlying kt with
   | some d => if plainK d = true then (match x, y with
     | .mp b ver, .d (.v kv) => (match A[b]? with
       | some k => if ver = k.ver ∧ (k.ty = 1000001 ∨ k.ty = 1000002) then (match findA d kv k.els 0 with
         | some (some (_, vc)) => (match valM k.ty vc with
           | some c=>some (okM ok c true)
           | none=>none)
         | some none => (match zeroM P et k.ty with
           | some c=>some (okM ok c false)
           | none=>none)
         | none=>none) else none
       | none=>none)
     | .d (.v (.map none)), .d (.v kv) => (match zeroM P et 1000001 with
       | some c=>some (okM ok c false)
       | none => (match zeroM P et 1000002 with
         | some c=>some (okM ok c false)
         | none=>none))
     | _,_=>none) else none
   | none=>none
 | _=>none
theorem okM_val {ok b:Bool} {c:AV} {v:Value} {N:Nat→Prop} (h:Val ι A N w c v):Val ι A N w (okM ok c b) (if ok then .tuple #[v,.bool b] else v):=by
 unfold okM
 cases ok
 ·exact h
 ·refine⟨?_,?_⟩
  ·simp only[if_true,Shp]
   exact⟨[v,.bool b],rfl,by simp[ShpL,Shp]; exact h.1⟩
  ·simp only[if_true,Mem]
   exact⟨[v,.bool b],rfl,by simp[MemL,Mem,Rd,Value.oneCell']; exact h.2⟩
theorem aRaw_lookup {x y:Operand} {t:TypeId} {ok:Bool} {d:Option Nat} {ty:TypeId} {pos:String} {af:Array Edge} {gd:Option (Nat×Bool)} {r:AV} (h:lookupA P t A ok (eva e x) (eva e y)=some r) (hk:K (aupd e d r) A):aRaw P n ⟨d,.lookup t x y ok,ty,pos,af,gd⟩ e A K:=by
 rintro C ec w hn ⟨h0,ι,h1,h2,h3,h4⟩
 have key:∃ v,(Instr.lookup t (ev ec x) (ev ec y) ok).run P w = .ok v w∧Val ι A (Nn C.H ι A) w r v:=by
  unfold lookupA at h
  split at h
  case h_2=>cases h
  rename_i kt et ht
  split at h
  case h_2=>cases h
  rename_i dd hd
  split at h
  case isFalse=>cases h
  rename_i hp
  split at h
  ·rename_i b ver kv hx hy
   have ey:ev ec y=kv:=by have:=eva_shp h3 y; rw[hy] at this; simpa [Shp] using this
   have sx:=eva_shp h3 x
   rw[hx] at sx
   split at h
   case h_2=>cases h
   rename_i k hb
   split at h
   case isFalse=>cases h
   rename_i hc
   obtain⟨c,m,es,clock,hι,hu,ho,hel,hsz,hw,hone,hagg,hent,hstm⟩:=map_at h1 hb hc.2 hc.1 sx
   have hg:(getObj c).run P w = .ok (.map es clock) w:=by simp[getObj,Sem.run,ho]
   have hck:=run_checkK (P:=P) (w:=w) (v:=kv) (em:=es.isEmpty) hd hp
   have hsome:∀ p,(Instr.findKey kt kv es.toList).run P w = .ok (some p) w→(Instr.lookup t (ev ec x) (ev ec y) ok).run P w = .ok (if ok then .tuple #[p.2,.bool true] else p.2) w:=by
    intro p hq
    rw[hu,ey]
    cases ok<;>simp[Instr.lookup,run_underlying ht,hg,hck,hq]
   have hnone:∀ z,(zeroValue et).run P w = .ok z w→(Instr.findKey kt kv es.toList).run P w = .ok none w→(Instr.lookup t (ev ec x) (ev ec y) ok).run P w = .ok (if ok then .tuple #[z,.bool false] else z) w:=by
    intro z hz hq
    rw[hu,ey]
    cases ok<;>simp[Instr.lookup,run_underlying ht,hg,hck,hq,hz]
   split at h
   ·rename_i j vc hf
    split at h
    case h_2=>cases h
    rename_i c' hv
    simp only[Option.some.injEq] at h
    subst h
    rcases findA_sound k.els es.toList 0 _ hel hent hf with⟨h5,_⟩ | ⟨j',row,x',h5,h6,h7,h8,_⟩
    ·cases h5
    ·simp only[Option.some.injEq,Prod.mk.injEq] at h5
     obtain⟨_,rfl⟩:=h5
     have hm:=gMO h6
     obtain⟨kc,vc2,he,_,_,s1,s2,s3⟩:=hent j' _ x' h7 h6
     simp only[List.cons.injEq] at he
     obtain⟨_,rfl⟩:=he
     exact⟨_,hsome _ (run_findKey hd h8),okM_val (valM_sound hv (fun ht=>hone ht x' hm) (fun ht=>hagg (by omega) x' hm) s1 s2 s3)⟩
   ·rename_i hf
    split at h
    case h_2=>cases h
    rename_i c' hv
    simp only[Option.some.injEq] at h
    subst h
    obtain⟨z,hz,hzv⟩:=zeroM_sound hv
    rcases findA_sound k.els es.toList 0 _ hel hent hf with⟨_,h5⟩ | ⟨j',row,x',h5,_⟩
    ·exact⟨_,hnone z (hz w) (run_findKey hd h5),okM_val (hzv _ _ _ _)⟩
    ·cases h5
   ·cases h
  ·rename_i kv hx hy
   have ey:ev ec y=kv:=by have:=eva_shp h3 y; rw[hy] at this; simpa [Shp] using this
   have exx:ev ec x = .map none:=by have:=eva_shp h3 x; rw[hx] at this; simpa [Shp] using this
   have hck:=run_checkK (P:=P) (w:=w) (v:=kv) (em:=true) hd hp
   have hq:=run_findKey (P:=P) (w:=w) (kt:=kt) (k:=kv) (es:=[]) hd rfl
   have hnone:∀ z,(zeroValue et).run P w = .ok z w→(Instr.lookup t (ev ec x) (ev ec y) ok).run P w = .ok (if ok then .tuple #[z,.bool false] else z) w:=by
    intro z hz
    rw[exx,ey]
    cases ok<;>simp[Instr.lookup,run_underlying ht,hck,hq,hz]
   split at h
   ·rename_i c' hv
    simp only[Option.some.injEq] at h
    subst h
    obtain⟨z,hz,hzv⟩:=zeroM_sound hv
    exact⟨_,hnone z (hz w),okM_val (hzv _ _ _ _)⟩
   ·split at h
    case h_2=>cases h
    rename_i c' hv
    simp only[Option.some.injEq] at h
    subst h
    obtain⟨z,hz,hzv⟩:=zeroM_sound hv
    exact⟨_,hnone z (hz w),okM_val (hzv _ _ _ _)⟩
  ·cases h
 obtain⟨v,hrun,hv⟩:=key
 unfold vRaw execOp
 simp only[Sem.run_bind,Sem.run_pure,hrun,Result.andThen_ok]
 exact⟨_,_,hk,h0,ι,h1,h2,shp_upd h3 hv.1,mem_upd h4 hv.2⟩
def makeM (P:Program) (t:TypeId):Option (Nat×Nat):=match P.underlying t with
 | some (.map kt et) => match zv P et with
   | some (.agg cs)=>some (1000002,cs.size + 1)
   | some _ => match P.underlying kt with
     | some (.struct _)=>some (1000003,P.cellsOf kt + 1)
     | _=>some (1000001,2)
   | none=>none
 | _=>none
theorem makeM_sz {t ty sz:Nat} (h:makeM P t=some (ty,sz)):0 < sz∧(ty=1000001∨ty=1000002∨ty=1000003):=by
 unfold makeM at h
 split at h
 ·split at h
  ·simp only[Option.some.injEq,Prod.mk.injEq] at h; omega
  ·split at h<;>simp only[Option.some.injEq,Prod.mk.injEq] at h<;>omega
  ·cases h
 ·cases h
theorem aRaw_makeMap {t:TypeId} {d:Option Nat} {ty:TypeId} {pos:String} {af:Array Edge} {gd:Option (Nat×Bool)} {tg sz:Nat} (h:makeM P t=some (tg,sz)) (hk:K (aupd e d (.mp A.length 0)) (A++[⟨0,true,tg,sz,[]⟩])) :
 aRaw P n ⟨d,.makeMap t none,ty,pos,af,gd⟩ e A K:=by
 rintro C ec w hn ⟨h0,ι,h1,h2,h3,h4⟩
 obtain⟨hsz,htg⟩:=makeM_sz h
 obtain⟨g1,g2⟩:=rel_newO (o:=.map #[] 0) h1 (fun c hc=>Nat.lt_of_lt_of_le (h0.1 c hc) h2.size) (k:=⟨0,true,tg,sz,[]⟩) (arr:=#[])
  (.inr (by
   rcases htg with h | h | h
   ·exact .inr (.inl ⟨#[],0,rfl,rfl,stamps0,hsz,by simp,.inl ⟨h,by simp⟩⟩)
   ·exact .inr (.inl ⟨#[],0,rfl,rfl,stamps0,hsz,by simp,.inr ⟨h,by simp⟩⟩)
   ·exact .inr (.inr (.inl ⟨#[],0,rfl,rfl,stamps0,hsz,h,by simp⟩)))) (by simp) (fun _=>by simp) (fun i x hi=>by simp at hi)
 have hrun:(Instr.makeMap t none).run P w = .ok (.map (some w.heap.size)) (w.alloc (.map #[] 0)):=rfl
 unfold vRaw execOp
 simp only[Sem.run_bind,Sem.run_pure,Option.map_none,hrun,Result.andThen_ok]
 refine⟨_,_,hk,h0,_,g1,h2.trans g2,shp_upd (fun i=>Shp.step g2.stab _ _ (h3 i)) ?_,mem_upd (fun i=>Mem.keep g2.keepD _ _ (h4 i)) (by simp[Mem])⟩
 simp only[Shp]
 exact⟨⟨_,rfl⟩,_,by simp; rfl,Nat.le_refl _,fun _=>⟨w.heap.size,0,by simp[newI],rfl⟩⟩
theorem mapCells_of {N:Nat→Prop} {k:Blk} {es:List MapEntry} (hw:∀ x∈es,x.val.cells.size + 1=k.sz) (hel:es.length=k.els.length) (he:∀ (i:Nat) (row:List AV) (x:MapEntry),k.els[i]? = some row→es[i]? = some x→Ent ι A N w row x) :
 (mapCells es).length=k.els.length * k.sz∧∀ (i:Nat) (x:List AV),k.els[i]? = some x→x.length=k.sz∧∀ (j:Nat) (c:AV),x[j]? = some c→∃ u,(mapCells es).toArray[i * k.sz + j]? = some u∧Val ι A N w c u∧u.oneCell'=true:=by
 refine⟨by rw[mapCells_len hw,hel],fun i row hrow=>?_⟩
 have hlt:=(gSI.1 hrow).1
 obtain⟨x,hx⟩:∃ x,es[i]? = some x:=⟨_,gEG (by omega)⟩
 obtain⟨kc,vc,rfl,a1,a2,a3,a4,a5⟩:=he i row x hrow hx
 obtain⟨g1,g2⟩:=mapCells_get hw hx
 have hxw:=hw x (gMO hx)
 have hvl:=a3.len
 refine⟨by simp at hvl ⊢; omega,fun j c hj=>?_⟩
 cases j with
 | zero =>
   simp at hj
   subst hj
   exact⟨x.key,by simpa using g1,a1,a2⟩
 | succ j =>
   simp at hj
   obtain⟨u,hu,hs⟩:=a3.get hj
   have hjl:=(gSI.1 hu).1
   simp at hjl
   exact⟨u,by rw[List.getElem?_toArray,g2 j hjl]; exact hu,⟨hs,a4.get hj hu⟩,a5 u (gMO hu)⟩
def isAgg:AV→Bool
 | .agg _=>true
 | _=>false
def updA (P:Program) (t:TypeId) (A:AHeap) (x y z:AV):Option AHeap:=match P.underlying t with
 | some (.map kt et) => match P.underlying kt with
   | some d => if plainK d = true then (match x, y with
     | .mp b ver, .d (.v kv) => (match A[b]?, cellsA z with
       | some k, some vc => if ver = k.ver ∧ k.wr = true ∧ kv.oneCell' = true ∧ vc.length + 1 = k.sz ∧ ((k.ty = 1000001 ∧ isAgg z = false) ∨ (k.ty = 1000002 ∧ isAgg z = true)) then (match findA d kv k.els 0 with
         | some (some (j,_))=>some (A.set b (setEls k (k.els.set j (.d (.v kv)::vc))))
         | some none=>some (A.set b (setEls k (k.els++[.d (.v kv)::vc])))
         | none=>none) else none
       | _,_=>none)
     | _,_=>none) else none
   | none=>none
 | _=>none
theorem same_bits {d:TypeDesc} {k x:Value} (h:Instr.sameNow d k x=some true):Instr.sameBits 10000 x k=true:=by
 unfold Instr.sameNow at h
 split at h
 ·split at h
  ·rename_i he
   simp only[Option.some.injEq,beq_iff_eq] at h
   simp[Instr.sameBits,he,h]
  ·cases h
 ·rename_i a b
  simp only[Option.some.injEq] at h
  simp only[Instr.sameBits]
  have he:a.data=b.data:=by
   have h':(a.data == b.data)=true:=h
   exact eq_of_beq h'
  show (b.data == a.data)=true
  rw[he]
  exact beq_self_eq_true _
 ·simp only[Option.some.injEq,beq_iff_eq] at h
  simp[Instr.sameBits,h]
 ·cases h
theorem cellsA_one {c:AV} {l:List AV} {u:Value} (h:cellsA c=some l) (ha:isAgg c=false) (hs:Shp ι A c u):u.oneCell'=true:=by
 cases c with
 | any=>simp[cellsA] at h
 | tup cs=>simp[cellsA] at h
 | agg cs=>simp[isAgg] at ha
 | d x =>
   cases x with
   | v x =>
     simp only[Shp] at hs
     subst hs
     simp only[cellsA] at h
     split at h
     ·assumption
     ·cases h
   | sl sz xs=>simp only[Shp] at hs; obtain⟨a,c,rfl,_⟩:=hs; rfl
 | own b ver i len=>simp only[Shp] at hs; obtain⟨⟨a,n,c,rfl⟩,_⟩:=hs; rfl
 | ptr b ver i o=>simp only[Shp] at hs; obtain⟨⟨a,rfl⟩,_⟩:=hs; rfl
 | ip cs=>simp only[Shp] at hs; obtain⟨b,o,rfl⟩:=hs; rfl
 | fn f fs cs=>simp only[Shp] at hs; obtain⟨l,m,rfl,_⟩:=hs; rfl
 | mp b ver=>simp only[Shp] at hs; obtain⟨⟨a,rfl⟩,_⟩:=hs; rfl
 | ifc t c=>simp only[Shp] at hs; obtain⟨v,rfl,_⟩:=hs; rfl
theorem isAgg_shp {c:AV} {u:Value} (ha:isAgg c=true) (hs:Shp ι A c u):∃ cs,u = .agg cs:=by
 cases c<;>simp[isAgg] at ha
 simp only[Shp] at hs
 obtain⟨l,rfl,_⟩:=hs
 exact⟨_,rfl⟩
theorem aRaw_mapUpdate {x y z:Operand} {t:TypeId} {d:Option Nat} {ty:TypeId} {pos:String} {af:Array Edge} {gd:Option (Nat×Bool)} (h:updA P t A (eva e x) (eva e y) (eva e z)=some A') (hk:K (aupd e d .any) A') :
 aRaw P n ⟨d,.mapUpdate t x y z,ty,pos,af,gd⟩ e A K:=by
 rintro C ec w hn ⟨h0,ι,h1,h2,h3,h4⟩
 have key:∃ w',(Instr.mapUpdate t (ev ec x) (ev ec y) (ev ec z)).run P w = .ok () w'∧Rel C.H ι A' w'∧Step ι A w ι A' w':=by
  unfold updA at h
  split at h
  case h_2=>cases h
  rename_i kt et ht
  split at h
  case h_2=>cases h
  rename_i dd hd
  split at h
  case isFalse=>cases h
  rename_i hp
  split at h
  case h_2=>cases h
  rename_i b ver kv hx hy
  have ey:ev ec y=kv:=by have:=eva_shp h3 y; rw[hy] at this; simpa [Shp] using this
  have sx:=eva_shp h3 x
  rw[hx] at sx
  split at h
  case h_2=>cases h
  rename_i k vc hb hvc
  split at h
  case isFalse=>cases h
  rename_i hc
  obtain⟨hver,hwr,hkone,hvl,hshape⟩:=hc
  have hty:k.ty=1000001∨k.ty=1000002:=hshape.imp And.left And.left
  obtain⟨c,m,es,clock,hι,hu,ho,hel,hsz,hw,hone,hagg,hent,hstm⟩:=map_at h1 hb hty hver sx
  have sz:=eva_shp h3 z
  have mz:=eva_mem h4 z
  obtain⟨c1,c2⟩:=cellsA_shp hvc sz
  obtain⟨c3,c4⟩:=c2 _ _ mz
  have hcl:=c1.len
  obtain⟨u,hue⟩:∃ u,ev ec z=u:=⟨_,rfl⟩
  rw[hue] at c1 c3 c4 hcl sz
  have huw:u.cells.size + 1=k.sz:=by simp at hcl; omega
  have hu1:k.ty=1000001→u.oneCell'=true:=fun ht'=>by
   rcases hshape with⟨_,ha⟩ | ⟨h',_⟩
   ·exact cellsA_one hvc ha sz
   ·omega
  have hu2:k.ty=1000002→∃ cs,u = .agg cs:=fun ht'=>by
   rcases hshape with⟨h',_⟩ | ⟨_,ha⟩
   ·omega
   ·exact isAgg_shp ha sz
  have hentN:∀ born,Ent ι A (Nn C.H ι A) w (.d (.v kv)::vc) ⟨kv,u,born⟩:=fun born=>⟨_,vc,rfl,⟨by simp[Shp],by simp only[Mem,Rd]; exact⟨trivial,hkone⟩⟩,hkone,c1,c3,c4⟩
  have hg:(getObj c).run P w = .ok (.map es clock) w:=by simp[getObj,Sem.run,ho]
  have hck:=run_checkK (P:=P) (w:=w) (v:=kv) (em:=false) hd hp
  have fin:∀ (es':Array MapEntry) (clock':Nat) (els':List (List AV)),StampsOk es' clock'→(∀ x∈es'.toList,x∈es.toList∨∃ born,x=⟨kv,u,born⟩)→es'.toList.length=els'.length →
   (∀ (i:Nat) (row:List AV) (x:MapEntry),els'[i]? = some row→es'.toList[i]? = some x→Ent ι A (Nn C.H ι A) w row x) →
   Rel C.H ι (A.set b (setEls k els')) { w with heap:=w.heap.setIfInBounds c (.map es' clock') }∧Step ι A w ι (A.set b (setEls k els')) { w with heap:=w.heap.setIfInBounds c (.map es' clock') }:=by
   intro es' clock' els' hstm' hmem hlen hent'
   have hw':∀ x∈es'.toList,x.val.cells.size + 1=k.sz:=fun x hx=>by
    rcases hmem x hx with h | ⟨born,rfl⟩
    ·exact hw x h
    ·exact huw
   obtain⟨q1,q2⟩:=mapCells_of (k:=setEls k els') hw' hlen hent'
   refine rel_turn (arr:=(mapCells es'.toList).toArray) h1 hb hwr hι rfl rfl (by simpa [setEls] using hwr) (.inr (.inl ⟨es',clock',rfl,rfl,hstm',hsz,hw',?_⟩)) (by simpa using q1) q2
   rcases hty with ht' | ht'
   ·refine .inl ⟨ht',fun x hx=>?_⟩
    rcases hmem x hx with h | ⟨born,rfl⟩
    ·exact hone ht' x h
    ·exact hu1 ht'
   ·refine .inr ⟨ht',fun x hx=>?_⟩
    rcases hmem x hx with h | ⟨born,rfl⟩
    ·exact hagg ht' x h
    ·exact hu2 ht'
  split at h
  ·rename_i j row0 hf
   simp only[Option.some.injEq] at h
   subst h
   rcases findA_sound k.els es.toList 0 _ hel hent hf with⟨h5,_⟩ | ⟨j',row,x',h5,h6,h7,h8,h9⟩
   ·cases h5
   simp only[Option.some.injEq,Prod.mk.injEq] at h5
   obtain⟨hj,rfl⟩:=h5
   rw[Nat.zero_add] at hj h8
   subst hj
   have hj1:=(gSI.1 h6).1
   have hx6:es[j]? = some x':=by simpa using h6
   obtain⟨f1,f2⟩:=fin (es.modify j fun e=>{ e with key:=kv,val:=u }) clock (k.els.set j (.d (.v kv)::vc)) (stamps_modify (fun _=>rfl) hstm) (fun x hx=>by
    obtain⟨i,hi⟩:=List.getElem?_of_mem hx
    rw[Array.toList_modify,List.getElem?_modify] at hi
    simp only[Option.map_eq_map,Option.map_eq_some_iff] at hi
    obtain⟨x0,hx0,rfl⟩:=hi
    split
    ·exact .inr ⟨x0.born,rfl⟩
    ·exact .inl (gMO hx0)) (by simp[Array.toList_modify,← hel]) (fun i row x hrow hx=>by
    rw[Array.toList_modify,List.getElem?_modify] at hx
    simp only[Option.map_eq_map,Option.map_eq_some_iff] at hx
    obtain⟨x0,hx0,rfl⟩:=hx
    by_cases hij:j=i
    ·subst hij
     rw[gSS (by omega)] at hrow
     simp only[Option.some.injEq] at hrow
     subst hrow
     rw[if_pos rfl]
     exact hentN x0.born
    ·rw[gSN hij] at hrow
     rw[if_neg hij]
     exact hent i row x0 hrow hx0)
   refine⟨_,?_,f1,f2⟩
   rw[hu,ey,hue]
   have hq:=run_findKey (P:=P) (w:=w) (kt:=kt) hd h8
   have hsb:=same_bits h9
   simp[Instr.mapUpdate,run_underlying ht,hg,hck,hq,Instr.keyThatStays,hx6,hsb,setObj,Sem.run,Result.andThen,ho]
  ·rename_i hf
   simp only[Option.some.injEq] at h
   subst h
   rcases findA_sound k.els es.toList 0 _ hel hent hf with⟨_,h8⟩ | ⟨j',row,x',h5,_⟩
   ·obtain⟨f1,f2⟩:=fin (es.push ⟨kv,u,clock⟩) (clock + 1) (k.els++[.d (.v kv)::vc]) (stamps_push hstm) (fun x hx=>by
     simp only[Array.toList_push,List.mem_append,List.mem_singleton] at hx
     exact hx.imp id fun h=>⟨clock,h⟩) (by simp; simpa using hel) (fun i row x hrow hx=>by
     rw[Array.toList_push,List.getElem?_append] at hx
     rw[List.getElem?_append] at hrow
     split at hx
     ·rename_i hi
      rw[if_pos (by omega)] at hrow
      exact hent i row x hrow hx
     ·rename_i hi
      rw[if_neg (by omega)] at hrow
      have hi0:i=es.toList.length:=by
       have:=(gSI.1 hx).1
       simp at this hi ⊢
       omega
      subst hi0
      rw[hel] at hrow
      simp at hx hrow
      subst hx hrow
      exact hentN clock)
    refine⟨_,?_,f1,f2⟩
    rw[hu,ey,hue]
    have hq:=run_findKey (P:=P) (w:=w) (kt:=kt) hd h8
    simp[Instr.mapUpdate,run_underlying ht,hg,hck,hq,setObj,Sem.run,Result.andThen,ho]
   ·cases h5
  ·cases h
 obtain⟨w',hrun,g1,g2⟩:=key
 unfold vRaw execOp
 simp only[Sem.run_bind,Sem.run_pure,hrun,Result.andThen_ok]
 exact⟨_,_,hk,h0,ι,g1,h2.trans g2,shp_upd (fun i=>Shp.step g2.stab _ _ (h3 i)) (by simp[Shp]),mem_upd (fun i=>Mem.keep g2.keepD _ _ (h4 i)) (by simp[Mem])⟩
end
end Go.Proofs.YtfnbhkbfelllgaaGreatDoor
