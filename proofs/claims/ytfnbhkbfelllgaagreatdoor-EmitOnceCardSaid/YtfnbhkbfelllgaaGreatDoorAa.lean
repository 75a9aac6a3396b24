import Derived.Test.YtfnbhkbfelllgaaGreatDoorVcX
import Derived.Test.YtfnbhkbfelllgaaGreatDoorTb
set_option linter.all false
namespace Go.Proofs.YtfnbhkbfelllgaaGreatDoor
open Go.RowKit
inductive D where
 | v (x:Value)
 | sl (sz:Nat) (xs:List (List D))
mutual
def Rd (H:Nat→Prop) (w:World):D→Value→Prop
 | .v x,u=>u=x∧x.oneCell'=true
 | .sl sz xs,u=>∃ (a:Option Addr) (cap:Nat),u = .slice a xs.length cap∧xs.length≤cap∧cap≤maxLen ∧
  (xs=[]∨∃ b off,a=some ⟨b,off,none⟩∧(b < w.heap.size∧¬ H b)∧RdS H w sz b off xs)
def RdE (H:Nat→Prop) (w:World) (b:Nat):Nat→List D→Prop
 | _,[]=>True
 | o,d::ds=>(∃ u,w.cell? ⟨b,o,none⟩=some u∧Rd H w d u)∧RdE H w b (o + 1) ds
def RdS (H:Nat→Prop) (w:World) (sz b:Nat):Nat→List (List D)→Prop
 | _,[]=>True
 | o,x::xs=>x.length=sz∧RdE H w b o x∧RdS H w sz b (o + sz) xs
end
def SameB (w w':World) (b:Nat):Prop:=w'.heap[b]? = w.heap[b]?
theorem SameB.cell {w w':World} {b o:Nat} (h:SameB w w' b):w'.cell? ⟨b,o,none⟩=w.cell? ⟨b,o,none⟩:=World.cell?_of_block h
section
variable {H H':Nat→Prop} {w w':World}
def KeepD (H:Nat→Prop) (w:World) (H':Nat→Prop) (w':World):Prop:=∀ b,b < w.heap.size→¬ H b→(b < w'.heap.size∧¬ H' b)∧SameB w w' b
mutual
theorem Rd.keep (hk:KeepD H w H' w'):∀ (d:D) (u:Value),Rd H w d u→Rd H' w' d u
 | .v x,u,h=>by simpa [Rd] using h
 | .sl sz xs, u, h => by
   simp only[Rd] at h ⊢
   obtain⟨a,cap,h1,h2,h3,h4⟩:=h
   refine⟨a,cap,h1,h2,h3,?_⟩
   rcases h4 with h4 | ⟨b,off,ha,hb,hs⟩
   ·exact .inl h4
   ·exact .inr ⟨b,off,ha,(hk b hb.1 hb.2).1,RdS.keep hk hb off xs hs⟩
theorem RdE.keep (hk:KeepD H w H' w') {b:Nat} (hb:b < w.heap.size∧¬ H b):∀ (o:Nat) (ds:List D),RdE H w b o ds→RdE H' w' b o ds
 | o,[],h=>by simp[RdE]
 | o, d :: ds, h => by
   simp only[RdE] at h ⊢
   obtain⟨⟨u,hc,hr⟩,h2⟩:=h
   exact⟨⟨u,by rw[(hk b hb.1 hb.2).2.cell]; exact hc,Rd.keep hk d u hr⟩,RdE.keep hk hb (o + 1) ds h2⟩
theorem RdS.keep (hk:KeepD H w H' w') {sz b:Nat} (hb:b < w.heap.size∧¬ H b):∀ (o:Nat) (xs:List (List D)),RdS H w sz b o xs→RdS H' w' sz b o xs
 | o,[],h=>by simp[RdS]
 | o, x :: xs, h => by
   simp only[RdS] at h ⊢
   exact⟨h.1,RdE.keep hk hb o x h.2.1,RdS.keep hk hb (o + sz) xs h.2.2⟩
end
theorem Rd.one {d:D} {u:Value} (h:Rd H w d u):u.oneCell'=true:=by
 cases d with
 | v x=>simp only[Rd] at h; rw[h.1]; exact h.2
 | sl sz xs=>simp only[Rd] at h; obtain⟨a,cap,rfl,_⟩:=h; rfl
theorem RdE.get {b:Nat}:∀ {o:Nat} {ds:List D},RdE H w b o ds→∀ {j:Nat} {d:D},ds[j]? = some d→∃ u,w.cell? ⟨b,o + j,none⟩=some u∧Rd H w d u
 | o,[],_,j,d,hj=>by simp at hj
 | o, x :: ds, h, j, d, hj => by
   simp only[RdE] at h
   cases j with
   | zero=>simp at hj; subst hj; exact h.1
   | succ j =>
     obtain⟨u,hc,hr⟩:=RdE.get h.2 (j:=j) (d:=d) (by simpa using hj)
     exact⟨u,by rw[show o + (j + 1)=o + 1 + j by omega]; exact hc,hr⟩
theorem RdE.of {b:Nat}:∀ {o:Nat} {ds:List D},(∀ (j:Nat) (d:D),ds[j]? = some d→∃ u,w.cell? ⟨b,o + j,none⟩=some u∧Rd H w d u)→RdE H w b o ds
 | o,[],_=>by simp[RdE]
 | o, x :: ds, h => by
   simp only[RdE]
   refine⟨by simpa using h 0 x rfl,RdE.of fun j d hj=>?_⟩
   obtain⟨u,hc,hr⟩:=h (j + 1) d (by simpa using hj)
   exact⟨u,by rw[show o + 1 + j=o + (j + 1) by omega]; exact hc,hr⟩
theorem RdE.drop {b o:Nat} {ds:List D} (h:RdE H w b o ds) (n:Nat):RdE H w b (o + n) (ds.drop n):=by
 refine RdE.of fun j d hj=>?_
 rw[List.getElem?_drop] at hj
 obtain⟨u,hc,hr⟩:=h.get hj
 exact⟨u,by rw[Nat.add_assoc]; exact hc,hr⟩
theorem RdS.get {sz b:Nat}:∀ {o:Nat} {xs:List (List D)},RdS H w sz b o xs→∀ {i:Nat} {x:List D},xs[i]? = some x→x.length=sz∧RdE H w b (o + i * sz) x
 | o,[],_,i,x,hi=>by simp at hi
 | o, y :: xs, h, i, x, hi => by
   simp only[RdS] at h
   cases i with
   | zero=>simp at hi; subst hi; exact⟨h.1,by simpa using h.2.1⟩
   | succ i =>
     have:=RdS.get h.2.2 (i:=i) (x:=x) (by simpa using hi)
     rwa [show o + sz + i * sz=o + (i + 1) * sz by rw[Nat.add_mul]; omega] at this
theorem RdS.of {sz b:Nat}:∀ {o:Nat} {xs:List (List D)},(∀ (i:Nat) (x:List D),xs[i]? = some x→x.length=sz∧RdE H w b (o + i * sz) x)→RdS H w sz b o xs
 | o,[],_=>by simp[RdS]
 | o, y :: xs, h => by
   simp only[RdS]
   refine⟨(h 0 y rfl).1,by simpa using (h 0 y rfl).2,RdS.of fun i x hi=>?_⟩
   have:=h (i + 1) x (by simpa using hi)
   rwa [show o + sz + i * sz=o + (i + 1) * sz by rw[Nat.add_mul]; omega]
end
inductive AV where
 | any
 | d (x:D)
 | own (b ver i len:Nat)
 | ptr (b ver i o:Nat)
 | ip (cs:List D)
 | agg (cs:List AV)
 | tup (cs:List AV)
 | fn (f:Nat) (fs cs:List AV)
 | mp (b ver:Nat)
 | ifc (t:Nat) (c:AV)
structure Blk where
 ver:Nat
 wr:Bool
 ty:Nat
 sz:Nat
 els:List (List AV)
abbrev AHeap:=List Blk
abbrev Place:=Nat→Option (Nat×Nat)
mutual
def Shp (ι:Place) (A:AHeap):AV→Value→Prop
 | .any,_=>True
 | .d (.v x),u=>u=x
 | .d (.sl _ xs),u=>∃ a c,u = .slice a xs.length c∧xs.length≤c∧(xs=[]∨∃ b o,a=some ⟨b,o,none⟩)
 | .own b ver i len,u=>(∃ a n c,u = .slice a n c)∧∃ k,A[b]? = some k∧ver≤k.ver∧(ver=k.ver→(len=0∧i=0∧u = .slice none 0 0) ∨
  ∃ c n cap,ι b=some (c,n)∧u = .slice (some ⟨c,i * k.sz,none⟩) len cap∧len≤cap∧cap≤maxLen∧(0 < i∨(i + cap) * k.sz=n))
 | .ptr b ver i o,u=>(∃ a,u = .pointer a)∧∃ k,A[b]? = some k∧ver≤k.ver∧(ver=k.ver→∃ c n,ι b=some (c,n)∧u = .pointer (some ⟨c,i * k.sz + o,none⟩))
 | .ip _,u=>∃ b o,u = .pointer (some ⟨b,o,none⟩)
 | .agg cs,u=>∃ l:List Value,u = .agg l.toArray∧ShpL ι A cs l
 | .tup cs,u=>∃ l:List Value,u = .tuple l.toArray∧ShpL ι A cs l
 | .fn f fs cs,u=>∃ l m:List Value,u = .func (.func f) l.toArray m.toArray∧ShpL ι A fs l∧ShpL ι A cs m
 | .mp b ver,u=>(∃ r,u = .map r)∧∃ k,A[b]? = some k∧ver≤k.ver∧(ver=k.ver→∃ c n,ι b=some (c,n)∧u = .map (some c))
 | .ifc t c,u=>∃ v,u = .iface t v∧Shp ι A c v
def ShpL (ι:Place) (A:AHeap):List AV→List Value→Prop
 | [],l=>l=[]
 | c::cs,l=>∃ u l',l=u::l'∧Shp ι A c u∧ShpL ι A cs l'
end
mutual
def Mem (N:Nat→Prop) (w:World):AV→Value→Prop
 | .d x,u=>Rd N w x u
 | .ip cs,u=>∃ b o,u = .pointer (some ⟨b,o,none⟩)∧(b < w.heap.size∧¬ N b)∧RdE N w b o cs
 | .agg cs,u=>∃ l:List Value,u = .agg l.toArray∧MemL N w cs l∧∀ x∈l,x.oneCell'=true
 | .tup cs,u=>∃ l:List Value,u = .tuple l.toArray∧MemL N w cs l
 | .fn f fs cs,u=>∃ l m:List Value,u = .func (.func f) l.toArray m.toArray∧MemL N w fs l∧MemL N w cs m
 | .ifc t c,u=>∃ v,u = .iface t v∧Mem N w c v
 | _,_=>True
def MemL (N:Nat→Prop) (w:World):List AV→List Value→Prop
 | [],l=>l=[]
 | c::cs,l=>∃ u l',l=u::l'∧Mem N w c u∧MemL N w cs l'
end
def Val (ι:Place) (A:AHeap) (N:Nat→Prop) (w:World) (c:AV) (u:Value):Prop:=Shp ι A c u∧Mem N w c u
def Mu (ι:Place) (A:AHeap) (c:Nat):Prop:=∃ b k n,A[b]? = some k∧k.wr=true∧ι b=some (c,n)
def Nn (H:Nat→Prop) (ι:Place) (A:AHeap) (c:Nat):Prop:=H c∨Mu ι A c
def GbAt (T:List (Nat×List Value)) (w:World):Prop:=∀ p∈T,p.1 < w.heap.size∧(∀ (j:Nat) (u:Value),p.2[j]? = some u→w.cell? ⟨p.1,j,none⟩=some u)∧∃ t f,w.heap[p.1]? = some (.cells p.2.toArray t f)
def GbNum (w:World):Prop:=∀ g∈GBI,g < w.heap.size∧∃ m:Int,w.cell? ⟨g,0,none⟩=some (.int .i64 m)
def GbIs (w:World):Prop:=GbAt GB w∧GbNum w
def HOk (H:Nat→Prop) (ι:Place) (A:AHeap) (w:World):Prop:=(∀ c,H c→c < w.heap.size)∧GbIs w∧(∀ p∈GB,¬ Mu ι A p.1)∧∀ g∈GBI,¬ Mu ι A g
def Cells (ι:Place) (A:AHeap) (N:Nat→Prop) (w:World) (k:Blk) (arr:Array Value):Prop:=
 ∀ (i:Nat) (x:List AV),k.els[i]? = some x→x.length=k.sz∧∀ (j:Nat) (c:AV),x[j]? = some c→∃ u,arr[i * k.sz + j]? = some u∧Val ι A N w c u∧u.oneCell'=true
def mapCells:List MapEntry→List Value
 | []=>[]
 | x::l=>x.key::x.val.cells.toList++mapCells l
def StampsOk (es:Array MapEntry) (clock:Nat):Prop:=clock=es.toList.length∧∀ (i:Nat) (x:MapEntry),es.toList[i]? = some x→x.born=i
def mapCellsK:List MapEntry→List Value
 | []=>[]
 | x::l=>(x.key.cells.toList++x.val.cells.toList)++mapCellsK l
def esL (L:List (Nat×Int×Bool)):List MapEntry:=L.map fun x=>⟨.int .i64 x.2.1,.bool x.2.2,x.1⟩
def setCells (c:Nat) (L:List (Nat×Int×Bool)):List (List Value):=[.int .i64 c,.int .i64 0,.int .i64 0]::L.map fun x=>[.int .i64 x.1,.int .i64 x.2.1,.bool x.2.2]
def SetOk (c:Nat) (L:List (Nat×Int×Bool)):Prop:=(L.map (·.1)).Nodup∧(∀ x∈L,x.1 < c)∧(L.map (·.2.1)).Nodup
def itCells (m since last:Nat) (seen:List Nat):List Value:=.map (some m) :: .int .i64 since :: .int .i64 last::seen.map fun s:Nat=>.int .i64 s
def ObjIs (o:Obj) (ty sz:Nat) (arr:Array Value):Prop:=
 (∃ s p,o = .stringIter s p∧ty=1000000∧arr=#[.string s,.int .i64 p]) ∨
 (∃ es clock,o = .map es clock∧arr=(mapCells es.toList).toArray∧StampsOk es clock∧0 < sz∧(∀ x∈es.toList,x.val.cells.size + 1=sz)∧((ty=1000001∧∀ x∈es.toList,x.val.oneCell'=true)∨(ty=1000002∧∀ x∈es.toList,∃ cs,x.val = .agg cs))) ∨
 (∃ es clock,o = .map es clock∧arr=(mapCellsK es.toList).toArray∧StampsOk es clock∧0 < sz∧ty=1000003∧∀ x∈es.toList,(∃ cs,x.key = .agg cs)∧x.val.oneCell'=true∧x.key.cells.size + 1=sz) ∨
 (∃ c L,o = .map (esL L).toArray c∧ty=1000005∧sz=3∧arr=(setCells c L).flatten.toArray∧SetOk c L) ∨
 (∃ m since seen last,o = .mapIter (some m) since (seen:List Nat).toArray last∧ty=1000004∧sz=1∧arr=(itCells m since last seen).toArray)
def Stands (w:World) (c ty sz:Nat) (arr:Array Value):Prop:=(ty < 1000000∧w.heap[c]? = some (.cells arr ty (0,0)))∨∃ o,w.heap[c]? = some o∧ObjIs o ty sz arr
theorem objIs_ty {o:Obj} {ty sz:Nat} {arr:Array Value} (h:ObjIs o ty sz arr):¬ ty < 1000000:=by
 rcases h with⟨_,_,_,h,_⟩ | ⟨_,_,_,_,_,_,_,⟨h,_⟩ | ⟨h,_⟩⟩ | ⟨_,_,_,_,_,_,h,_⟩ | ⟨_,_,_,h,_⟩ | ⟨_,_,_,_,_,h,_⟩<;>omega
theorem Stands.cells {w:World} {c ty sz:Nat} {arr:Array Value} (h:Stands w c ty sz arr) (ht:ty < 1000000):w.heap[c]? = some (.cells arr ty (0,0)):=by
 rcases h with h | ⟨o,_,h2⟩
 ·exact h.2
 ·exact absurd ht (objIs_ty h2)
theorem Stands.same {w w':World} {c ty sz:Nat} {arr:Array Value} (h:Stands w c ty sz arr) (hs:SameB w w' c):Stands w' c ty sz arr:=by
 unfold SameB at hs
 unfold Stands
 rw[hs]
 exact h
def BlkRel (ι:Place) (A:AHeap) (N:Nat→Prop) (w:World) (b:Nat) (k:Blk):Prop:=match ι b with
 | some (c,n)=>∃ arr:Array Value,Stands w c k.ty k.sz arr∧((k.ty < 1000000→arr.size=n)∧(¬ k.ty < 1000000→arr.size=k.els.length * k.sz))∧k.els.length * k.sz≤arr.size∧Cells ι A N w k arr
 | none=>k.els=[]
structure Rel (H:Nat→Prop) (ι:Place) (A:AHeap) (w:World):Prop where
 blk:∀ (b:Nat) (k:Blk),A[b]? = some k→BlkRel ι A (Nn H ι A) w b k
 hid:∀ (b:Nat) (k:Blk) (c n:Nat),A[b]? = some k→ι b=some (c,n)→¬ H c∧c < w.heap.size
 inj:∀ (b b':Nat) (k k':Blk) (c n n':Nat),A[b]? = some k→A[b']? = some k'→ι b=some (c,n)→ι b'=some (c,n')→b=b'
structure Step (ι:Place) (A:AHeap) (w:World) (ι':Place) (A':AHeap) (w':World):Prop where
 stab:∀ (b:Nat) (k:Blk),A[b]? = some k→∃ k',A'[b]? = some k'∧k.ver≤k'.ver∧(k.ver=k'.ver→ι' b=ι b∧k'.sz=k.sz)
 newM:∀ c,Mu ι' A' c→Mu ι A c∨w.heap.size≤c
 keep:∀ c,c < w.heap.size→¬ Mu ι A c→SameB w w' c
 size:w.heap.size≤w'.heap.size
 os:w'.os=w.os
 tape:w'.tape=w.tape
 output:w'.output=w.output
section
variable {H:Nat→Prop} {ι ι' ι'':Place} {A A' A'':AHeap} {w w' w'':World}
theorem Step.refl (ι:Place) (A:AHeap) (w:World):Step ι A w ι A w:=
 ⟨fun b k h=>⟨k,h,Nat.le_refl _,fun _=>⟨rfl,rfl⟩⟩,fun _ h=>.inl h,fun _ _ _=>rfl,Nat.le_refl _,rfl,rfl,rfl⟩
theorem Step.trans (h:Step ι A w ι' A' w') (g:Step ι' A' w' ι'' A'' w''):Step ι A w ι'' A'' w'' where
 stab b k hb:=by
  obtain⟨k1,h1,h2,h3⟩:=h.stab b k hb
  obtain⟨k2,g1,g2,g3⟩:=g.stab b k1 h1
  refine⟨k2,g1,by omega,fun he=>?_⟩
  have h4:=h3 (by omega)
  have g4:=g3 (by omega)
  exact⟨g4.1.trans h4.1,g4.2.trans h4.2⟩
 newM c hc:=by
  rcases g.newM c hc with hc | hc
  ·exact h.newM c hc
  ·exact .inr (Nat.le_trans h.size hc)
 keep c hc hm:=by
  have h1:=h.keep c hc hm
  have h2:=g.keep c (Nat.lt_of_lt_of_le hc h.size) fun h'=>(h.newM c h').elim hm fun h'=>by omega
  exact h2.trans h1
 size:=Nat.le_trans h.size g.size
 os:=g.os.trans h.os
 tape:=g.tape.trans h.tape
 output:=g.output.trans h.output
theorem Step.keepD (h:Step ι A w ι' A' w'):KeepD (Nn H ι A) w (Nn H ι' A') w':=fun b hb hn=>
 ⟨⟨Nat.lt_of_lt_of_le hb h.size,fun hh=>hh.elim (fun hh=>hn (.inl hh)) fun hh=>(h.newM b hh).elim (fun hh=>hn (.inr hh)) fun hh=>by omega⟩,h.keep b hb fun hh=>hn (.inr hh)⟩
theorem GbIs.ext (h:GbIs w) (hx:Ext w w'):GbIs w':=⟨fun p hp=>⟨Nat.lt_of_lt_of_le (h.1 p hp).1 hx.size,fun j u hu=>hx.cell ((h.1 p hp).2.1 j u hu),by
 obtain⟨t,f,he⟩:=(h.1 p hp).2.2
 exact⟨t,f,(hx.heap (h.1 p hp).1).trans he⟩⟩,fun g hg=>⟨Nat.lt_of_lt_of_le (h.2 g hg).1 hx.size,by
 obtain⟨m,hm⟩:=(h.2 g hg).2
 exact⟨m,hx.cell hm⟩⟩⟩
theorem HOk.step (h:HOk H ι A w) (hs:Step ι A w ι' A' w'):HOk H ι' A' w':=
 ⟨fun c hc=>Nat.lt_of_lt_of_le (h.1 c hc) hs.size,⟨fun p hp=>⟨Nat.lt_of_lt_of_le (h.2.1.1 p hp).1 hs.size,fun j u hu=>by
  rw[(hs.keep p.1 (h.2.1.1 p hp).1 (h.2.2.1 p hp)).cell]
  exact (h.2.1.1 p hp).2.1 j u hu,by
  obtain⟨t,f,he⟩:=(h.2.1.1 p hp).2.2
  exact⟨t,f,(hs.keep p.1 (h.2.1.1 p hp).1 (h.2.2.1 p hp)).trans he⟩⟩,fun g hg=>⟨Nat.lt_of_lt_of_le (h.2.1.2 g hg).1 hs.size,by
  rw[(hs.keep g (h.2.1.2 g hg).1 (h.2.2.2 g hg)).cell]
  exact (h.2.1.2 g hg).2⟩⟩,fun p hp hm=>(hs.newM p.1 hm).elim (h.2.2.1 p hp) fun hge=>by have:=(h.2.1.1 p hp).1; omega,
  fun g hg hm=>(hs.newM g hm).elim (h.2.2.2 g hg) fun hge=>by have:=(h.2.1.2 g hg).1; omega⟩
theorem HOk.nil (h:∀ c,H c→c < w.heap.size) (hg:GbIs w):HOk H (fun _=>none) [] w:=⟨h,hg,fun _ _ ⟨_,_,_,h,_⟩=>by simp at h,fun _ _ ⟨_,_,_,h,_⟩=>by simp at h⟩
theorem Step.ext (h:Step ι [] w ι' A' w'):Ext w w':=⟨h.os,h.tape,h.output,h.size,fun k hk=>h.keep k hk (by rintro⟨b,k',n,h,_⟩; simp at h)⟩
mutual
theorem Shp.step (hs:∀ (b:Nat) (k:Blk),A[b]? = some k→∃ k',A'[b]? = some k'∧k.ver≤k'.ver∧(k.ver=k'.ver→ι' b=ι b∧k'.sz=k.sz)):∀ (c:AV) (u:Value),Shp ι A c u→Shp ι' A' c u
 | .any,u,h=>by simp[Shp]
 | .d (.v x),u,h=>by simpa [Shp] using h
 | .d (.sl _ xs),u,h=>by simpa [Shp] using h
 | .own b ver i len, u, h => by
   simp only[Shp] at h ⊢
   obtain⟨h0,k,h1,h2,h3⟩:=h
   obtain⟨k',g1,g2,g3⟩:=hs b k h1
   refine⟨h0,k',g1,by omega,fun he=>?_⟩
   obtain⟨e1,e2⟩:=g3 (by omega)
   rw[e1,e2]
   exact h3 (by omega)
 | .ptr b ver i o, u, h => by
   simp only[Shp] at h ⊢
   obtain⟨h0,k,h1,h2,h3⟩:=h
   obtain⟨k',g1,g2,g3⟩:=hs b k h1
   refine⟨h0,k',g1,by omega,fun he=>?_⟩
   obtain⟨e1,e2⟩:=g3 (by omega)
   rw[e1,e2]
   exact h3 (by omega)
 | .ip _,u,h=>by simpa [Shp] using h
 | .agg cs, u, h => by
   simp only[Shp] at h ⊢
   obtain⟨l,h1,h2⟩:=h
   exact⟨l,h1,ShpL.step hs cs l h2⟩
 | .tup cs, u, h => by
   simp only[Shp] at h ⊢
   obtain⟨l,h1,h2⟩:=h
   exact⟨l,h1,ShpL.step hs cs l h2⟩
 | .fn f fs cs, u, h => by
   simp only[Shp] at h ⊢
   obtain⟨l,m,h1,h2,h3⟩:=h
   exact⟨l,m,h1,ShpL.step hs fs l h2,ShpL.step hs cs m h3⟩
 | .mp b ver, u, h => by
   simp only[Shp] at h ⊢
   obtain⟨h0,k,h1,h2,h3⟩:=h
   obtain⟨k',g1,g2,g3⟩:=hs b k h1
   refine⟨h0,k',g1,by omega,fun he=>?_⟩
   obtain⟨e1,e2⟩:=g3 (by omega)
   rw[e1]
   exact h3 (by omega)
 | .ifc t c, u, h => by
   simp only[Shp] at h ⊢
   obtain⟨v,h1,h2⟩:=h
   exact⟨v,h1,Shp.step hs c v h2⟩
theorem ShpL.step (hs:∀ (b:Nat) (k:Blk),A[b]? = some k→∃ k',A'[b]? = some k'∧k.ver≤k'.ver∧(k.ver=k'.ver→ι' b=ι b∧k'.sz=k.sz)):∀ (cs:List AV) (l:List Value),ShpL ι A cs l→ShpL ι' A' cs l
 | [],l,h=>by simpa [ShpL] using h
 | c :: cs, l, h => by
   simp only[ShpL] at h ⊢
   obtain⟨u,l',h1,h2,h3⟩:=h
   exact⟨u,l',h1,Shp.step hs c u h2,ShpL.step hs cs l' h3⟩
end
mutual
theorem Mem.keep {N N':Nat→Prop} (hk:KeepD N w N' w'):∀ (c:AV) (u:Value),Mem N w c u→Mem N' w' c u
 | .any,u,h=>by simp[Mem]
 | .d x, u, h => by
   simp only[Mem] at h ⊢
   exact Rd.keep hk x u h
 | .own b ver i len,u,h=>by simp[Mem]
 | .ptr b ver i o,u,h=>by simp[Mem]
 | .ip cs, u, h => by
   simp only[Mem] at h ⊢
   obtain⟨b,o,h1,h2,h3⟩:=h
   exact⟨b,o,h1,(hk b h2.1 h2.2).1,RdE.keep hk h2 o cs h3⟩
 | .agg cs, u, h => by
   simp only[Mem] at h ⊢
   obtain⟨l,h1,h2,h3⟩:=h
   exact⟨l,h1,MemL.keep hk cs l h2,h3⟩
 | .tup cs, u, h => by
   simp only[Mem] at h ⊢
   obtain⟨l,h1,h2⟩:=h
   exact⟨l,h1,MemL.keep hk cs l h2⟩
 | .fn f fs cs, u, h => by
   simp only[Mem] at h ⊢
   obtain⟨l,m,h1,h2,h3⟩:=h
   exact⟨l,m,h1,MemL.keep hk fs l h2,MemL.keep hk cs m h3⟩
 | .mp b ver,u,h=>by simp[Mem]
 | .ifc t c, u, h => by
   simp only[Mem] at h ⊢
   obtain⟨v,h1,h2⟩:=h
   exact⟨v,h1,Mem.keep hk c v h2⟩
theorem MemL.keep {N N':Nat→Prop} (hk:KeepD N w N' w'):∀ (cs:List AV) (l:List Value),MemL N w cs l→MemL N' w' cs l
 | [],l,h=>by simpa [MemL] using h
 | c :: cs, l, h => by
   simp only[MemL] at h ⊢
   obtain⟨u,l',h1,h2,h3⟩:=h
   exact⟨u,l',h1,Mem.keep hk c u h2,MemL.keep hk cs l' h3⟩
end
theorem Val.step (hs:Step ι A w ι' A' w') {c:AV} {u:Value} (h:Val ι A (Nn H ι A) w c u):Val ι' A' (Nn H ι' A') w' c u:=
 ⟨Shp.step hs.stab c u h.1,Mem.keep hs.keepD c u h.2⟩
theorem ShpL.len:∀ {cs:List AV} {l:List Value},ShpL ι A cs l→l.length=cs.length
 | [],l,h=>by simp only[ShpL] at h; subst h; rfl
 | c :: cs, l, h => by
   simp only[ShpL] at h
   obtain⟨u,l',rfl,_,h3⟩:=h
   simp[ShpL.len h3]
theorem ShpL.get:∀ {cs:List AV} {l:List Value},ShpL ι A cs l→∀ {i:Nat} {c:AV},cs[i]? = some c→∃ u,l[i]? = some u∧Shp ι A c u
 | [],l,h,i,c,hi=>by simp at hi
 | x :: cs, l, h, i, c, hi => by
   simp only[ShpL] at h
   obtain⟨u,l',rfl,h2,h3⟩:=h
   cases i with
   | zero=>simp at hi; subst hi; exact⟨u,rfl,h2⟩
   | succ i=>simpa using ShpL.get h3 (i:=i) (c:=c) (by simpa using hi)
theorem MemL.get {N:Nat→Prop}:∀ {cs:List AV} {l:List Value},MemL N w cs l→∀ {i:Nat} {c:AV} {u:Value},cs[i]? = some c→l[i]? = some u→Mem N w c u
 | [],l,h,i,c,u,hi,_=>by simp at hi
 | x :: cs, l, h, i, c, u, hi, hu => by
   simp only[MemL] at h
   obtain⟨u',l',rfl,h2,h3⟩:=h
   cases i with
   | zero=>simp at hi hu; subst hi hu; exact h2
   | succ i=>exact MemL.get h3 (i:=i) (by simpa using hi) (by simpa using hu)
theorem ShpL.of:∀ {cs:List AV} {l:List Value},l.length=cs.length→(∀ (i:Nat) (c:AV) (u:Value),cs[i]? = some c→l[i]? = some u→Shp ι A c u)→ShpL ι A cs l
 | [],l,hl,_=>by simp only[ShpL]; exact List.eq_nil_of_length_eq_zero (by simpa using hl)
 | c :: cs, l, hl, h => by
   simp only[ShpL]
   cases l with
   | nil=>simp at hl
   | cons u l=>exact⟨u,l,rfl,h 0 c u rfl rfl,ShpL.of (by simpa using hl) fun i c' u' hc hu=>h (i + 1) c' u' (by simpa using hc) (by simpa using hu)⟩
theorem MemL.of {N:Nat→Prop}:∀ {cs:List AV} {l:List Value},l.length=cs.length→(∀ (i:Nat) (c:AV) (u:Value),cs[i]? = some c→l[i]? = some u→Mem N w c u)→MemL N w cs l
 | [],l,hl,_=>by simp only[MemL]; exact List.eq_nil_of_length_eq_zero (by simpa using hl)
 | c :: cs, l, hl, h => by
   simp only[MemL]
   cases l with
   | nil=>simp at hl
   | cons u l=>exact⟨u,l,rfl,h 0 c u rfl rfl,MemL.of (by simpa using hl) fun i c' u' hc hu=>h (i + 1) c' u' (by simpa using hc) (by simpa using hu)⟩
end
end Go.Proofs.YtfnbhkbfelllgaaGreatDoor
