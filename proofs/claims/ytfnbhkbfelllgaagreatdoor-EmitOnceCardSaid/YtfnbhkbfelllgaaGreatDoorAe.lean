import Derived.Test.YtfnbhkbfelllgaaGreatDoorAd
set_option linter.all false
namespace Go.Proofs.YtfnbhkbfelllgaaGreatDoor
open Go.RowKit
section
variable {P:Program} {H:Nat→Prop} {ι ι':Place} {A A':AHeap} {w w':World} {e:AEnv} {ec:Env} {C:Ctx}
def newI (ι:Place) (n c m:Nat):Place:=fun b=>if b=n then some (c,m) else ι b
theorem heap_push (w:World) (o:Obj):(w.alloc o).heap[w.heap.size]? = some o:=by
 show (w.heap.push o)[w.heap.size]? = some o
 simp
theorem heap_push_lt (w:World) (o:Obj) {b:Nat} (h:b < w.heap.size):SameB w (w.alloc o) b:=by
 show (w.heap.push o)[b]? = w.heap[b]?
 rw[Array.getElem?_push_lt h]
 simp[h]
theorem size_push (w:World) (o:Obj):(w.alloc o).heap.size=w.heap.size + 1:=Array.size_push _
theorem chunk_get {sz:Nat}:∀ (n:Nat) (l:List AV) (i:Nat) (x:List AV),(chunk sz n l)[i]? = some x→i < n∧x=(l.drop (i * sz)).take sz
 | 0,l,i,x,h=>by simp[chunk] at h
 | n + 1, l, i, x, h => by
   simp only[chunk] at h
   cases i with
   | zero=>simp at h; simp[h]
   | succ i =>
     have:=chunk_get n (l.drop sz) i x (by simpa using h)
     refine⟨by omega,?_⟩
     rw[this.2,List.drop_drop,Nat.add_mul,Nat.one_mul,Nat.add_comm]
theorem chunk_len {sz:Nat}:∀ (n:Nat) (l:List AV),(chunk sz n l).length=n
 | 0,l=>rfl
 | n + 1,l=>by simp[chunk,chunk_len n]
theorem rel_newO {o:Obj} (hR:Rel H ι A w) (hH:∀ c,H c→c < w.heap.size) {k:Blk} {arr:Array Value} (ho:(k.ty < 1000000∧o = .cells arr k.ty)∨ObjIs o k.ty k.sz arr) (hl:k.els.length * k.sz≤arr.size) (hx:¬ k.ty < 1000000→arr.size=k.els.length * k.sz) (hc:Cells ι A (Nn H ι A) w k arr) :
 Rel H (newI ι A.length w.heap.size arr.size) (A++[k]) (w.alloc o)∧Step ι A w (newI ι A.length w.heap.size arr.size) (A++[k]) (w.alloc o):=by
 have hget:∀ (b:Nat) (k':Blk),(A++[k])[b]? = some k'→(b < A.length∧A[b]? = some k')∨(b=A.length∧k'=k):=by
  intro b k' h
  rw[List.getElem?_append] at h
  split at h
  ·exact .inl ⟨‹_›,h⟩
  ·rename_i hn
   have h0:=(gSI.1 h).1
   simp at h0
   have:b=A.length:=by omega
   subst this
   simp at h
   exact .inr ⟨rfl,h.symm⟩
 have hst:Step ι A w (newI ι A.length w.heap.size arr.size) (A++[k]) (w.alloc o):=by
  refine⟨fun b k' hb=>?_,fun c hm=>?_,fun c hc' _=>heap_push_lt w _ hc',by rw[size_push]; omega,rfl,rfl,rfl⟩
  ·have hlt:=(gSI.1 hb).1
   exact⟨k',by rw[gAL hlt]; exact hb,Nat.le_refl _,fun _=>⟨by simp only[newI]; rw[if_neg (by omega)],rfl⟩⟩
  ·obtain⟨b,k',n,h1,h2,h3⟩:=hm
   rcases hget b k' h1 with⟨hlt,h4⟩ | ⟨rfl,rfl⟩
   ·simp only[newI] at h3
    rw[if_neg (by omega)] at h3
    exact .inl ⟨b,k',n,h4,h2,h3⟩
   ·simp only[newI,if_true,Option.some.injEq,Prod.mk.injEq] at h3
    exact .inr (by omega)
 have hv:∀ c u,Val ι A (Nn H ι A) w c u→Val (newI ι A.length w.heap.size arr.size) (A++[k]) (Nn H (newI ι A.length w.heap.size arr.size) (A++[k])) (w.alloc o) c u:=fun c u h=>Val.step hst h
 refine⟨⟨fun b k' hb=>?_,fun b k' c n hb hc'=>?_,fun b b' k1 k2 c n n' h1 h2 g1 g2=>?_⟩,hst⟩
 ·rcases hget b k' hb with⟨hlt,h4⟩ | ⟨rfl,rfl⟩
  ·exact BlkRel.step (hR.blk b k' h4) (by simp only[newI]; rw[if_neg (by omega)]) (fun c n hι=>heap_push_lt w _ (hR.hid b k' c n h4 hι).2) hv
  ·unfold BlkRel
   simp only[newI,if_true]
   refine⟨arr,ho.elim (fun h=>.inl ⟨h.1,h.2 ▸ heap_push w _⟩) (fun h=>.inr ⟨o,heap_push w _,h⟩),⟨fun _=>rfl,hx⟩,hl,fun i x hi=>⟨(hc i x hi).1,fun j av hj=>?_⟩⟩
   obtain⟨u,e1,e2,e3⟩:=(hc i x hi).2 j av hj
   exact⟨u,e1,hv _ _ e2,e3⟩
 ·rcases hget b k' hb with⟨hlt,h4⟩ | ⟨rfl,rfl⟩
  ·simp only[newI] at hc'
   rw[if_neg (by omega)] at hc'
   have:=hR.hid b k' c n h4 hc'
   exact⟨this.1,by rw[size_push]; omega⟩
  ·simp only[newI,if_true,Option.some.injEq,Prod.mk.injEq] at hc'
   obtain⟨rfl,_⟩:=hc'
   exact⟨fun h=>by have:=hH _ h; omega,by rw[size_push]; omega⟩
 ·rcases hget b k1 h1 with⟨hlt,h4⟩ | ⟨rfl,rfl⟩<;>rcases hget b' k2 h2 with⟨hlt',h4'⟩ | ⟨rfl,rfl⟩
  ·simp only[newI] at g1 g2
   rw[if_neg (by omega)] at g1 g2
   exact hR.inj b b' k1 k2 c n n' h4 h4' g1 g2
  ·simp only[newI,if_true,Option.some.injEq,Prod.mk.injEq] at g1 g2
   rw[if_neg (by omega)] at g1
   have:=(hR.hid b k1 c n h4 g1).2
   omega
  ·simp only[newI,if_true,Option.some.injEq,Prod.mk.injEq] at g1 g2
   rw[if_neg (by omega)] at g2
   have:=(hR.hid b' k2 c n' h4' g2).2
   omega
  ·rfl
theorem rel_new (hR:Rel H ι A w) (hH:∀ c,H c→c < w.heap.size) {k:Blk} {arr:Array Value} (hty:k.ty < 1000000) (hl:k.els.length * k.sz≤arr.size) (hc:Cells ι A (Nn H ι A) w k arr) :
 Rel H (newI ι A.length w.heap.size arr.size) (A++[k]) (w.alloc (.cells arr k.ty))∧Step ι A w (newI ι A.length w.heap.size arr.size) (A++[k]) (w.alloc (.cells arr k.ty)):=rel_newO hR hH (.inl ⟨hty,rfl⟩) hl (fun h=>absurd hty h) hc
structure NewOk (P:Program) (e:AEnv) (ec:Env) (op:Op) (n:Nat) (r:AV) (k:Blk) (t:TypeId) (cs:List Value) (f:Addr→Value):Prop where
 of:newOf P ec op=some (t,cs,f)
 ty:k.ty=t
 ver:k.ver=0
 len:k.els.length * k.sz=cs.length
 shp:∀ ι A,EnvS ι A e ec→∀ (i:Nat) (x:List AV),k.els[i]? = some x→x.length=k.sz∧∀ (j:Nat) (c:AV),x[j]? = some c→∃ u,cs[i * k.sz + j]? = some u∧Shp ι A c u
 mem:∀ N w,EnvM N w e ec→∀ (i:Nat) (x:List AV),k.els[i]? = some x→∀ (j:Nat) (c:AV),x[j]? = some c→∀ u,cs[i * k.sz + j]? = some u→Mem N w c u∧u.oneCell'=true
 val:∀ (ι:Place) (A:AHeap) (c:Nat),A[n]? = some k→ι n=some (c,cs.length)→Shp ι A r (f ⟨c,0,none⟩)
 free:∀ N w u,Mem N w r u
 tyl:k.ty < 1000000
theorem mkA_ty {t el m:Nat} {x y z:AV} (h:mkA P t x y=some (el,z,m)):el < 1000000:=by
 unfold mkA at h
 split at h
 case h_2=>cases h
 split at h
 case h_2=>cases h
 split at h
 case h_2=>cases h
 rename_i hz
 simp only[Option.some.injEq,Prod.mk.injEq] at h
 obtain⟨rfl,_⟩:=h
 exact zvA_ty hz
theorem newA_ty {op:Op} {n:Nat} {r:AV} {k:Blk} (h:newA P n e op=some (r,k)):k.ty < 1000000:=by
 unfold newA at h
 split at h
 ·simp only[Option.map_eq_some_iff,Prod.mk.injEq] at h
  obtain⟨zA,hz,rfl,rfl⟩:=h
  have:=zvA_ty hz
  split<;>exact this
 ·split at h
  ·rename_i hty
   simp only[Option.map_eq_some_iff,Prod.mk.injEq] at h
   obtain⟨l,hl,rfl,rfl⟩:=h
   exact hty
  ·cases h
 ·simp only[Option.map_eq_some_iff,Prod.mk.injEq] at h
  obtain⟨⟨el,sz,rA⟩,hb,rfl,rfl⟩:=h
  unfold blsA at hb
  split at hb
  ·cases hb
  ·split at hb
   ·cases hb
   ·rename_i hz
    split at hb
    ·simp only[Option.map_eq_some_iff,Prod.mk.injEq] at hb
     obtain⟨_,_,rfl,_⟩:=hb
     exact zvA_ty hz
    ·cases hb
 ·simp only[Option.map_eq_some_iff,Prod.mk.injEq] at h
  obtain⟨⟨el,zz,m⟩,hm,rfl,rfl⟩:=h
  exact mkA_ty hm
 ·cases h
theorem newA_sound (hs:EnvS ι A e ec) {op:Op} {n:Nat} {r:AV} {k:Blk} (h:newA P n e op=some (r,k)):∃ t cs f,NewOk P e ec op n r k t cs f:=by
 have htyl:=newA_ty h
 unfold newA at h
 split at h
 ·rename_i t
  simp only[Option.map_eq_some_iff,Prod.mk.injEq] at h
  obtain⟨zA,hz,rfl,rfl⟩:=h
  obtain⟨z,h1,rfl,h3⟩:=zvA_spec hz
  split
  ·refine⟨t,z.cells.toList,fun a=>.pointer (some a),by simp[newOf,h1],rfl,rfl,by simp,?_,?_,?_,by simp[Mem],by first | exact htyl | (split at htyl<;>exact htyl) | simp_all⟩
   ·intro ι A _ i x hi
    simp only[List.map_map,List.getElem?_map,Option.map_eq_some_iff,Function.comp] at hi
    obtain⟨v,hv,rfl⟩:=hi
    refine⟨rfl,fun j c hj=>?_⟩
    cases j with
    | succ j=>simp at hj
    | zero =>
      simp only[List.getElem?_cons_zero,Option.some.injEq] at hj
      subst hj
      exact⟨v,by simpa using hv,by simp[Shp]⟩
   ·intro N w _ i x hi j c hj u hu
    simp only[List.map_map,List.getElem?_map,Option.map_eq_some_iff,Function.comp] at hi
    obtain⟨v,hv,rfl⟩:=hi
    cases j with
    | succ j=>simp at hj
    | zero =>
      simp only[List.getElem?_cons_zero,Option.some.injEq] at hj
      subst hj
      have:v=u:=by
       have hu':z.cells.toList[i]? = some u:=by simpa using hu
       rw[hv] at hu'
       exact oSI hu'
      subst this
      have h1v:=h3 v (gMO hv)
      exact⟨by simp only[Mem,Rd]; exact⟨trivial,h1v⟩,h1v⟩
   ·intro ι A c hA hι
    simp only[Shp]
    exact⟨⟨_,rfl⟩,_,hA,Nat.le_refl _,fun _=>⟨c,_,hι,by simp⟩⟩
  refine⟨t,z.cells.toList,fun a=>.pointer (some a),by simp[newOf,h1],rfl,rfl,by simp,?_,?_,?_,by simp[Mem],by first | exact htyl | (split at htyl<;>exact htyl) | simp_all⟩
  ·intro ι A _ i x hi
   cases i with
   | succ i=>simp at hi
   | zero =>
     simp only[List.getElem?_cons_zero,Option.some.injEq] at hi
     subst hi
     refine⟨by simp,fun j c hj=>?_⟩
     obtain⟨u,g1,g2⟩:=(val_shp (ι:=ι) (A:=A) z.cells.toList).get hj
     exact⟨u,by simpa using g1,g2⟩
  ·intro N w _ i x hi j c hj u hu
   cases i with
   | succ i=>simp at hi
   | zero =>
     simp only[List.getElem?_cons_zero,Option.some.injEq] at hi
     subst hi
     have hu':z.cells.toList[j]? = some u:=by simpa using hu
     exact⟨(val_mem (N:=N) (w:=w) h3).1.get hj hu',h3 u (gMO hu')⟩
  ·intro ι A c hA hι
   simp only[Shp]
   exact⟨⟨_,rfl⟩,_,hA,Nat.le_refl _,fun _=>⟨c,_,hι,by simp⟩⟩
 ·rename_i t x
  split at h
  case isFalse=>cases h
  simp only[Option.map_eq_some_iff,Prod.mk.injEq] at h
  obtain⟨l,hl,rfl,rfl⟩:=h
  obtain⟨c1,c2⟩:=cellsA_shp hl (eva_shp hs x)
  have hcl:=c1.len
  refine⟨t,(ev ec x).cells.toList,fun a=>.pointer (some a),by simp[newOf],rfl,rfl,by simpa using hcl.symm,?_,?_,?_,by simp[Mem],by first | exact htyl | (split at htyl<;>exact htyl) | simp_all⟩
  ·intro ι A hs' i x' hi
   cases i with
   | succ i=>simp at hi
   | zero =>
     simp only[List.getElem?_cons_zero,Option.some.injEq] at hi
     subst hi
     refine⟨rfl,fun j c hj=>?_⟩
     obtain⟨u,g1,g2⟩:=(cellsA_shp hl (eva_shp hs' x)).1.get hj
     exact⟨u,by simpa using g1,g2⟩
  ·intro N w hm i x' hi j c hj u hu
   cases i with
   | succ i=>simp at hi
   | zero =>
     simp only[List.getElem?_cons_zero,Option.some.injEq] at hi
     subst hi
     have hu':(ev ec x).cells.toList[j]? = some u:=by simpa using hu
     obtain⟨c3,c4⟩:=c2 N w (eva_mem hm x)
     exact⟨c3.get hj hu',c4 u (gMO hu')⟩
  ·intro ι A c hA hι
   simp only[Shp]
   exact⟨⟨_,rfl⟩,_,hA,Nat.le_refl _,fun _=>⟨c,_,hι,by simp⟩⟩
 ·rename_i t len ps
  simp only[Option.map_eq_some_iff,Prod.mk.injEq] at h
  obtain⟨⟨el,sz,rA⟩,hb,rfl,rfl⟩:=h
  obtain⟨hsl,hsz,l,b1,b2,b3,b4⟩:=blsA_sound hs hb
  have hrl:=b3.len
  have hat:∀ (i:Nat) (x:List AV),(chunk sz len rA)[i]? = some x→x.length=sz∧∀ (j:Nat) (c:AV),x[j]? = some c→rA[i * sz + j]? = some c:=by
   intro i x hi
   obtain⟨hlt,rfl⟩:=chunk_get _ _ _ _ hi
   have:=Nat.mul_le_mul_right sz (show i + 1≤len by omega)
   rw[Nat.add_mul,Nat.one_mul] at this
   refine⟨by simp; omega,fun j c hj=>?_⟩
   rw[List.getElem?_take] at hj
   split at hj
   ·rwa [List.getElem?_drop] at hj
   ·cases hj
  refine⟨el,l,fun a=>.slice (some a) len len,?_,rfl,rfl,by simp only[chunk_len]; omega,?_,?_,?_,by simp[Mem],by first | exact htyl | (split at htyl<;>exact htyl) | simp_all⟩
  ·simp only[newOf]
   rw[b1]
   rfl
  ·intro ι A hs' i x hi
   obtain⟨a1,a2⟩:=hat i x hi
   refine⟨a1,fun j c hj=>?_⟩
   obtain⟨_,_,l',b1',_,b3',_⟩:=blsA_sound hs' hb
   rw[b1] at b1'
   simp only[Option.some.injEq,Prod.mk.injEq,true_and] at b1'
   subst b1'
   exact b3'.get (a2 j c hj)
  ·intro N w hm i x hi j c hj u hu
   obtain⟨a1,a2⟩:=hat i x hi
   have:=b4 N w hm
   exact⟨this.1.get (a2 j c hj) hu,this.2 u (gMO hu)⟩
  ·intro ι A c hA hι
   simp only[Shp]
   refine⟨⟨_,_,_,rfl⟩,_,hA,Nat.le_refl _,fun _=>.inr ⟨c,_,len,hι,by simp,Nat.le_refl _,?_,.inr (by simp[b2])⟩⟩
   have:len * 1≤len * sz:=Nat.mul_le_mul_left _ (by omega)
   have hle:len * sz≤16777216:=by
    unfold blsA at hb
    rw[hsl] at hb
    simp only at hb
    split at hb
    ·cases hb
    ·split at hb
     ·rename_i hh
      exact hh.2.2
     ·cases hb
   unfold maxLen
   omega
 ·rename_i t x y
  simp only[Option.map_eq_some_iff,Prod.mk.injEq] at h
  obtain⟨⟨el,zz,m⟩,hm,rfl,rfl⟩:=h
  unfold mkA at hm
  split at hm
  case h_2=>cases hm
  rename_i k l k' c hxx hyy
  split at hm
  case h_2=>cases hm
  rename_i el' cs m' hmk
  split at hm
  case h_2=>cases hm
  rename_i z hz
  simp only[Option.some.injEq,Prod.mk.injEq] at hm
  obtain⟨rfl,rfl,rfl⟩:=hm
  have ex:ev ec x = .int k l:=by have:=eva_shp hs x; rw[hxx] at this; simpa [Shp] using this
  have ey:ev ec y = .int k' c:=by have:=eva_shp hs y; rw[hyy] at this; simpa [Shp] using this
  obtain⟨z',g1,g2,g3⟩:=zvA_spec hz
  obtain⟨v,hv⟩:∃ v,z'.cells.toList=[v]:=by
   match hl:z'.cells.toList,g2 with
   | [v],_=>exact⟨v,rfl⟩
   | [],h=>simp at h
   | a::b::l,h=>simp at h
  rw[hv] at g2
  simp only[List.map_cons,List.map_nil,List.cons.injEq,and_true] at g2
  subst g2
  have hcs:cs=List.replicate m' v∧m'≤65536:=by
   have hmk':=hmk
   unfold mkOf at hmk'
   simp only at hmk'
   split at hmk'
   case h_2=>cases hmk'
   rename_i e0 hu
   split at hmk'
   case h_2=>cases hmk'
   rename_i i0 hi
   split at hmk'
   case h_2=>cases hmk'
   rename_i z0 hz0
   split at hmk'
   case isFalse=>cases hmk'
   rename_i hc
   simp only[Option.some.injEq,Prod.mk.injEq] at hmk'
   obtain⟨rfl,rfl,rfl⟩:=hmk'
   have hzz:z'=z0:=by
    unfold zv at g1
    rw[hi] at g1
    simp only[Option.bind_some,hz0,Option.some.injEq] at g1
    exact g1.symm
   subst hzz
   have hz1:z'.cells=#[v]:=by rw[← Array.toArray_toList (xs:=z'.cells),hv]
   exact⟨by rw[hz1]; rfl,by omega⟩
  obtain⟨rfl,hm2⟩:=hcs
  have v1:=g3 v (by rw[hv]; simp)
  refine⟨el',List.replicate m' v,fun a=>.slice (some a) m' m',by simp[newOf,ex,ey,hmk],rfl,rfl,by simp,?_,?_,?_,by simp[Mem],by first | exact htyl | (split at htyl<;>exact htyl) | simp_all⟩
  ·intro ι A _ i x' hi
   simp only[List.getElem?_replicate] at hi
   split at hi
   case isFalse=>cases hi
   rename_i hlt
   simp only[Option.some.injEq] at hi
   subst hi
   refine⟨rfl,fun j c' hj=>?_⟩
   cases j with
   | succ j=>simp at hj
   | zero =>
     simp only[List.getElem?_cons_zero,Option.some.injEq] at hj
     subst hj
     exact⟨v,by simp[hlt],by simp[Shp]⟩
  ·intro N w _ i x' hi j c' hj u hu
   simp only[List.getElem?_replicate] at hi
   split at hi
   case isFalse=>cases hi
   rename_i hlt
   simp only[Option.some.injEq] at hi
   subst hi
   cases j with
   | succ j=>simp at hj
   | zero =>
     simp only[List.getElem?_cons_zero,Option.some.injEq] at hj
     subst hj
     obtain rfl:v=u:=by
      have hu':=hu
      simp[hlt] at hu'
      exact hu'
     exact⟨by simp only[Mem,Rd]; exact⟨trivial,v1⟩,v1⟩
  ·intro ι A c' hA hι
   simp only[Shp]
   refine⟨⟨_,_,_,rfl⟩,_,hA,Nat.le_refl _,fun _=>.inr ⟨c',_,m',hι,by simp,Nat.le_refl _,by unfold maxLen; omega,.inr (by simp)⟩⟩
 ·cases h
theorem sta_new (h:Sta C e A ec w) {op:Op} {r:AV} {k:Blk} {t:TypeId} {cs:List Value} {f:Addr→Value} (hn:NewOk P e ec op A.length r k t cs f) (d:Option Nat) :
 Sta C (aupd e d r) (A++[k]) (upd ec d (f ⟨w.heap.size,0,none⟩)) (w.alloc (.cells cs.toArray t)):=by
 obtain⟨h0,ι,h1,h2,h3,h4⟩:=h
 have hH:∀ c,C.H c→c < w.heap.size:=fun c hc=>Nat.lt_of_lt_of_le (h0.1 c hc) h2.size
 obtain⟨g1,g2⟩:=rel_new h1 hH (k:=k) (arr:=cs.toArray) hn.tyl (by simpa using Nat.le_of_eq hn.len) (fun i x hi=>⟨(hn.shp ι A h3 i x hi).1,fun j c hj=>by
  obtain⟨u,e1,e2⟩:=(hn.shp ι A h3 i x hi).2 j c hj
  have:=hn.mem _ w h4 i x hi j c hj u e1
  exact⟨u,by simpa using e1,⟨e2,this.1⟩,this.2⟩⟩)
 rw[hn.ty] at g1 g2
 refine⟨h0,_,g1,h2.trans g2,shp_upd (fun i=>?_) (hn.val _ _ _ (by simp) (by simp[newI])),mem_upd (fun i=>?_) (hn.free _ _ _)⟩
 ·exact Shp.step g2.stab _ _ (h3 i)
 ·exact Mem.keep g2.keepD _ _ (h4 i)
def AC (P:Program) (f:FuncId) (args:List AV) (A:AHeap) (R:AV→AHeap→Prop):Prop:=
 ∀ (H : Nat → Prop) (ι : Place) (w : World) (vs : List Value), HOk H ι A w → Rel H ι A w → ShpL ι A args vs → MemL (Nn H ι A) w args vs →
   Calls P f vs.toArray w fun en w'=>∃ v r ι' A',en = .returned v∧R r A'∧Rel H ι' A' w'∧Step ι A w ι' A' w'∧Val ι' A' (Nn H ι' A') w' r v
def AF (P:Program) (f:FuncId) (args:List AV) (r:AV):Prop:=
 ∀ (H : Nat → Prop) (w : World) (vs : List Value), HOk H (fun _ => none) [] w → ShpL (fun _ => none) [] args vs → MemL H w args vs →
   Calls P f vs.toArray w fun en w'=>∃ v,en = .returned v∧Val (fun _=>none) [] H w' r v∧Ext w w'
theorem AC.mono {f:FuncId} {args:List AV} {R R':AV→AHeap→Prop} (h:AC P f args A R) (hr:∀ r A',R r A'→R' r A'):AC P f args A R':=fun H ι w vs h1 h2 h3 h4=>
 (h H ι w vs h1 h2 h3 h4).mono fun _ _ ⟨v,r,ι',A',a,b,c⟩=>⟨v,r,ι',A',a,hr _ _ b,c⟩
def aSet (r:Option AV) (e:AEnv) (d:Option Nat) (K:AKont) (A:AHeap):Prop:=∃ v,r=some v∧K (aupd e d v) A
def aSto (r:Option AHeap) (e:AEnv) (d:Option Nat) (K:AKont):Prop:=∃ A,r=some A∧K (aupd e d .any) A
def aNew (r:Option (AV×Blk)) (e:AEnv) (d:Option Nat) (K:AKont) (A:AHeap):Prop:=∃ v k,r=some (v,k)∧K (aupd e d v) (A++[k])
def aCall (P:Program) (f:AV) (args:List AV) (A:AHeap) (d:Option Nat) (e:AEnv) (K:AKont):Prop:=
 ∃ g fs cs,f = .fn g fs cs∧okF P g=true∧AC P g (fs++args++cs) A fun r A'=>K (aupd e d r) A'
def aBin (P:Program) (t:TypeId) (op:BinOp) (x y:AV) (r:Option AV) (e:AEnv) (d:Option Nat) (K:AKont) (A:AHeap):Prop:=match op,x,y with
 | .eql,.d (.sl _ xs),.d (.v (.slice none _ _))=>(sl P t).isSome=true∧∀ b:Bool,(b=true→xs=[])→K (aupd e d (.d (.v (.bool b)))) A
 | .neq,.d (.sl _ xs),.d (.v (.slice none _ _))=>(sl P t).isSome=true∧∀ b:Bool,(b=false→xs=[])→K (aupd e d (.d (.v (.bool b)))) A
 | .eql,.own b ver _ len,.d (.v (.slice none _ _))=>(sl P t).isSome=true∧∀ r:Bool,(r=true→len=0∨curB A b ver=none)→K (aupd e d (.d (.v (.bool r)))) A
 | .neq,.own b ver _ len,.d (.v (.slice none _ _))=>(sl P t).isSome=true∧∀ r:Bool,(r=false→len=0∨curB A b ver=none)→K (aupd e d (.d (.v (.bool r)))) A
 | _,_,_=>aSet r e d K A
def aRaw (P:Program) (n:Nat) (o:Oper) (e:AEnv) (A:AHeap) (K:AKont):Prop:=∀ (C:Ctx) (ec:Env) (w:World),C.A.length=n→Sta C e A ec w→vRaw P o ec (Lift C K) w
def mpArg (e:AEnv) (c:Call):Bool:=match c.args.toList with
 | [x] => (match eva e x with
   | .mp _ _=>true
   | _=>false)
 | _=>false
def avop (P:Program) (n:Nat) (o:Oper) (K:AKont) (e:AEnv) (A:AHeap):Prop:=match o.op with
 | .load t a=>aSet (alv P A t (eva e a)) e o.dst K A
 | .store t a x=>aSto (astv P A t (eva e a) (eva e x)) e o.dst K
 | .alloc t=>aNew (newA P A.length e (.alloc t)) e o.dst K A
 | .box t x=>aNew (newA P A.length e (.box t x)) e o.dst K A
 | .buildSlice t len ps=>aNew (newA P A.length e (.buildSlice t len ps)) e o.dst K A
 | .call c => match c.callee with
   | .value f=>aCall P (eva e f) (c.args.toList.map (eva e)) A o.dst e K
   | .builtin .len=>aSet (apv P A e (.call c)) e o.dst K A∨(mpArg e c=true∧aRaw P n o e A K)
   | _=>aRaw P n o e A K
 | .convert s d x => match eva e x with
   | .d (.v (.int _ _))=>aSet (apv P A e (.convert s d x)) e o.dst K A
   | .d (.v (.string _))=>aRaw P n o e A K
   | .d (.sl _ _)=>aRaw P n o e A K
   | .own _ _ _ _=>aRaw P n o e A K
   | _=>False
 | .binOp op t x y u=>aBin P t op (eva e x) (eva e y) (apv P A e (.binOp op t x y u)) e o.dst K A
 | .move .. | .assign .. | .pick .. | .nilCheck .. | .unOp .. | .makeFunc .. | .fieldAddr .. | .field .. | .indexAddr .. | .index .. | .extract .. | .slice .. | .build .. => aSet (apv P A e o.op) e o.dst K A
 | _=>aRaw P n o e A K
def agval (e:AEnv) (d:Option Nat):Option (Option Bool):=match d with
 | some d => match e d with
   | .d (.v (.bool b))=>some (some b)
   | .tup _=>some none
   | _=>none
 | none=>some none
def aG (g:Option (Option Bool)) (want:Bool) (K1 K2:AKont) (e:AEnv) (d:Option Nat) (A:AHeap):Prop:=∃ b,g=some b∧if b=some want then K1 e A else K2 (aupd e d (.tup [])) A
def avops (P:Program) (n:Nat) (ops:Array Oper):List Oper→AKont→AEnv→AHeap→Prop
 | [],k,e,A=>k e A
 | o :: os, k, e, A => match o.guard with
   | none=>avop P n o (avops P n ops os k) e A
   | some (j,want)=>aG (agval e ((ops[j]?).bind (·.dst))) want (avop P n o (avops P n ops os k)) (avops P n ops os k) e o.dst A
def aDraw (P:Program) (n id:Nat) (ops:Array Oper) (k:AKont) (e:AEnv) (A:AHeap):Prop:=∀ (C:Ctx) (ec:Env) (w:World),C.A.length=n→Sta C e A ec w→vDraw P id ops (Lift C k) ec w
def aCond (v:AV) (K1 K2:AKont) (e:AEnv) (A:AHeap):Prop:=∃ b,v = .d (.v (.bool b))∧if b then K1 e A else K2 e A
def aexitK:List (Nat×AKont)→Nat→AKont
 | [],_=>fun _ _=>False
 | (i,k)::bs,j=>if i=j then k else aexitK bs j
def Sub (n:Nat) (e:AEnv) (A:AHeap) (e':AEnv) (A':AHeap):Prop:=∀ (C:Ctx) (ec:Env) (w:World),C.A.length=n→Sta C e A ec w→Sta C e' A' ec w
def AJ (n:Nat) (J:AKont):AKont:=fun e A=>∃ e' A',Sub n e A e' A'∧J e' A'
def aLoop (n:Nat) (body:AKont→AKont) (e:AEnv) (A:AHeap):Prop:=
 ∃ J:Nat→AKont,(∃ m,AJ n (J m) e A)∧∀ m e A,J m e A→body (fun e' A'=>∃ m',m' < m∧AJ n (J m') e' A') e A
def avc (P:Program) (n:Nat):Code→List (Nat×AKont)→AKont→AKont→AEnv→AHeap→Prop
 | .skip,_,_,k,e,A=>k e A
 | .region id ops false,_,_,k,e,A=>avops P n ops ops.toList k e A
 | .region id ops true,_,_,k,e,A=>aDraw P n id ops k e A
 | .seq a b,bs,r,k,e,A=>avc P n a bs r (avc P n b bs r k) e A
 | .cond c a b,bs,r,k,e,A=>aCond (eva e c) (avc P n a bs r k) (avc P n b bs r k) e A
 | .block id c,bs,r,k,e,A=>avc P n c ((id,k)::bs) r k e A
 | .exit id,bs,_,_,e,A=>aexitK bs id e A
 | .loop c,bs,r,_,e,A=>aLoop n (avc P n c bs r) e A
 | .ret,_,r,_,e,A=>r e A
 | .scope c,bs,r,k,e,A=>avc P n c bs r k e A
 | .label _,_,_,k,e,A=>k e A
 | _,_,_,_,_,_=>False
section
variable {n:Nat} {K:AKont}
theorem sound_set {op:Op} {r:AV} (hS:Sta C e A ec w) (h:apv P A e op=some r):∃ v,pvB P ec op=some v∧∀ d,Sta C (aupd e d r) A (upd ec d v) w:=by
 obtain⟨h0,ι,h1,h2,h3,h4⟩:=hS
 obtain⟨v,g1,g2,g3⟩:=apv_sound h3 h
 exact⟨v,g1,fun d=>⟨h0,ι,h1,h2,shp_upd h3 g2,mem_upd h4 (g3 _ _ h4)⟩⟩
theorem ShpL.app {ι:Place} {A:AHeap}:∀ {a b:List AV} {l m:List Value},ShpL ι A a l→ShpL ι A b m→ShpL ι A (a++b) (l++m)
 | [],b,l,m,h,g=>by simp only[ShpL] at h; subst h; simpa using g
 | c :: a, b, l, m, h, g => by
   simp only[ShpL] at h
   obtain⟨u,l',rfl,h2,h3⟩:=h
   simp only[List.cons_append,ShpL]
   exact⟨u,l'++m,rfl,h2,ShpL.app h3 g⟩
theorem MemL.app {N:Nat→Prop} {w:World}:∀ {a b:List AV} {l m:List Value},MemL N w a l→MemL N w b m→MemL N w (a++b) (l++m)
 | [],b,l,m,h,g=>by simp only[MemL] at h; subst h; simpa using g
 | c :: a, b, l, m, h, g => by
   simp only[MemL] at h
   obtain⟨u,l',rfl,h2,h3⟩:=h
   simp only[List.cons_append,MemL]
   exact⟨u,l'++m,rfl,h2,MemL.app h3 g⟩
theorem shpL_map (hs:EnvS ι A e ec) (l:List Operand):ShpL ι A (l.map (eva e)) (l.map (ev ec)):=ShpL.of (by simp) fun i c u hc hu=>by
 rw[List.getElem?_map] at hc hu
 cases hl:l[i]? with
 | none=>rw[hl] at hc; simp at hc
 | some x =>
   rw[hl] at hc hu
   simp at hc hu
   subst hc hu
   exact eva_shp hs x
theorem memL_map {N:Nat→Prop} (hm:EnvM N w e ec) (l:List Operand):MemL N w (l.map (eva e)) (l.map (ev ec)):=MemL.of (by simp) fun i c u hc hu=>by
 rw[List.getElem?_map] at hc hu
 cases hl:l[i]? with
 | none=>rw[hl] at hc; simp at hc
 | some x =>
   rw[hl] at hc hu
   simp at hc hu
   subst hc hu
   exact eva_mem hm x
theorem call_sound {f:Operand} {args:Array Operand} {d:Option Nat} (hS:Sta C e A ec w) (h:aCall P (eva e f) (args.toList.map (eva e)) A d e K):vCallV P (ev ec f) (args.map (ev ec)) w d ec (Lift C K):=by
 obtain⟨h0,ι,h1,h2,h3,h4⟩:=hS
 obtain⟨g,fs,cs,hf,hok,hac⟩:=h
 have hfs:=eva_shp h3 f
 have hfm:=eva_mem h4 f
 rw[hf] at hfs hfm
 simp only[Shp] at hfs
 simp only[Mem] at hfm
 obtain⟨l,m,hu,s1,s2⟩:=hfs
 obtain⟨l',m',hu',m1,m2⟩:=hfm
 rw[hu] at hu'
 simp only[Value.func.injEq,true_and] at hu'
 obtain⟨e1,e2⟩:=hu'
 have e1:l=l':=by simpa using e1
 have e2:m=m':=by simpa using e2
 subst e1 e2
 refine⟨g,l.toArray,m.toArray,hu,hok,?_⟩
 have:=hac C.H ι w (l++args.toList.map (ev ec)++m) (h0.step h2) h1 (ShpL.app (ShpL.app s1 (shpL_map h3 _)) s2) (MemL.app (MemL.app m1 (memL_map h4 _)) m2)
 have harr:(l++args.toList.map (ev ec)++m).toArray=l.toArray++args.map (ev ec)++m.toArray:=by simp
 rw[harr] at this
 refine this.mono fun en w' ⟨v,r,ι',A',hv,hk,hR',hst,hval⟩=>⟨v,hv,_,_,hk,h0,ι',hR',h2.trans hst,shp_upd (fun i=>Shp.step hst.stab _ _ (h3 i)) hval.1,mem_upd (fun i=>Mem.keep hst.keepD _ _ (h4 i)) hval.2⟩
theorem own_nil {b ver i len:Nat} {u:Value} (hs:Shp ι A (.own b ver i len) u) (hn:∃ m c,u = .slice none m c):len=0∨curB A b ver=none:=by
 cases hk:curB A b ver with
 | none=>exact .inr rfl
 | some k =>
   rcases own_shp hk hs with⟨h,_⟩ | ⟨c,n,cap,_,h,_⟩
   ·exact .inl h
   ·obtain⟨m,c',hn⟩:=hn
    rw[hn] at h
    cases h
theorem avop_sound {o:Oper} (hn:C.A.length=n) (hS:Sta C e A ec w) (h:avop P n o K e A):vop P o (Lift C K) ec w:=by
 have hset:aSet (apv P A e o.op) e o.dst K A→∃ v,pvB P ec o.op=some v∧Lift C K (upd ec o.dst v) w:=by
  rintro⟨r,hr,hk⟩
  obtain⟨v,g1,g2⟩:=sound_set hS hr
  exact⟨v,g1,_,_,hk,g2 _⟩
 have hraw:aRaw P n o e A K→vRaw P o ec (Lift C K) w:=fun h=>h C ec w hn hS
 have hnew:aNew (newA P A.length e o.op) e o.dst K A→∃ t cs f,newOf P ec o.op=some (t,cs,f)∧Lift C K (upd ec o.dst (f ⟨w.heap.size,0,none⟩)) (w.alloc (.cells cs.toArray t)):=by
  rintro⟨r,k,hr,hk⟩
  have hS2:=hS
  obtain⟨_,ι,_,_,h3,_⟩:=hS2
  obtain⟨t,cs,f,hno⟩:=newA_sound h3 hr
  exact⟨t,cs,f,hno.of,_,_,hk,sta_new hS hno _⟩
 have hS':=hS
 unfold avop at h
 unfold vop
 generalize hop:o.op=op at h hset hnew
 cases op with
 | load t a =>
   obtain⟨r,hr,hk⟩:=h
   obtain⟨h0,ι,h1,h2,h3,h4⟩:=hS
   obtain⟨v,g1,g2⟩:=alv_sound hr h1 (eva_shp h3 a) (eva_mem h4 a)
   exact⟨v,g1,_,_,hk,h0,ι,h1,h2,shp_upd h3 g2.1,mem_upd h4 g2.2⟩
 | store t a x =>
   obtain⟨A',hr,hk⟩:=h
   obtain⟨h0,ι,h1,h2,h3,h4⟩:=hS
   obtain⟨w',g1,g2,g3⟩:=astv_sound hr h1 (eva_shp h3 a) (eva_shp h3 x) (eva_mem h4 x)
   exact⟨w',g1,_,_,hk,h0,ι,g2,h2.trans g3,shp_upd (fun i=>Shp.step g3.stab _ _ (h3 i)) (by simp[Shp]),mem_upd (fun i=>Mem.keep g3.keepD _ _ (h4 i)) (by simp[Mem])⟩
 | alloc t =>
   obtain⟨t',cs,f,g1,g2⟩:=hnew h
   simp only[newOf,Option.map_eq_some_iff,Prod.mk.injEq] at g1
   obtain⟨z,hz,rfl,rfl,rfl⟩:=g1
   exact⟨t,_,by rw[hz]; rfl,g2⟩
 | box t x =>
   obtain⟨t',cs,f,g1,g2⟩:=hnew h
   simp only[newOf,Option.some.injEq,Prod.mk.injEq] at g1
   obtain⟨rfl,rfl,rfl⟩:=g1
   exact⟨t,_,rfl,g2⟩
 | buildSlice t len ps =>
   obtain⟨t',cs,f,g1,g2⟩:=hnew h
   simp only[newOf,Option.map_eq_some_iff,Prod.mk.injEq] at g1
   obtain⟨z,hz,rfl,rfl,rfl⟩:=g1
   exact⟨_,_,hz,g2⟩
 | call c =>
   obtain⟨callee,args,ats⟩:=c
   cases callee with
   | value f=>exact call_sound hS h
   | invoke=>exact hraw h
   | builtin b =>
     cases b<;>first | exact hraw h | (rcases h with h | h; exact .inl (by obtain⟨v,g1,g2⟩:=hset h; exact⟨v,g1,g2⟩); exact .inr (hraw h.2))
 | convert s d x =>
   simp only at h ⊢
   split at h
   ·rename_i k i hx
    obtain⟨v,g1,g2⟩:=hset h
    obtain⟨_,ι,_,_,h3,_⟩:=hS'
    have:=eva_shp h3 x
    rw[hx] at this
    simp only[Shp] at this
    simp only[this]
    exact⟨v,g1,g2⟩
   ·rename_i x' hx
    obtain⟨_,ι,_,_,h3,_⟩:=hS'
    have:=eva_shp h3 x
    rw[hx] at this
    simp only[Shp] at this
    simp only[this]
    exact hraw h
   ·rename_i sz xs hx
    obtain⟨_,ι,_,_,h3,_⟩:=hS'
    have:=eva_shp h3 x
    rw[hx] at this
    simp only[Shp] at this
    obtain⟨a,c,hu,_⟩:=this
    simp only[hu]
    exact hraw h
   ·rename_i b ver i len hx
    obtain⟨_,ι,_,_,h3,_⟩:=hS'
    have:=eva_shp h3 x
    rw[hx] at this
    simp only[Shp] at this
    obtain⟨⟨a,m,c,hu⟩,_⟩:=this
    simp only[hu]
    exact hraw h
   ·exact h.elim
 | move x=>obtain⟨v,g1,g2⟩:=hset h; simp only[pvB,pv,Option.some.injEq] at g1; subst g1; exact g2
 | assign x=>obtain⟨v,g1,g2⟩:=hset h; simp only[pvB,pv,Option.some.injEq] at g1; subst g1; exact g2
 | binOp op t x y u =>
   simp only at h
   have hsl:(sl P t).isSome=true→∃ el,P.underlying t=some (.slice el):=by
    intro hx
    unfold sl at hx
    split at hx
    ·exact⟨_,by assumption⟩
    ·cases hx
   have hS2:=hS
   obtain⟨h0,ι,h1,h2,h3,h4⟩:=hS2
   have hx:=eva_shp h3 x
   have hy:=eva_shp h3 y
   have hfin:∀ (b:Bool),K (aupd e o.dst (.d (.v (.bool b)))) A→Lift C K (upd ec o.dst (.bool b)) w:=fun b hk=>⟨_,_,hk,h0,ι,h1,h2,shp_upd h3 (by simp[Shp]),mem_upd h4 (by simp[Mem,Rd,Value.oneCell'])⟩
   unfold aBin at h
   split at h
   ·rename_i sz xs n' c' ex ey
    obtain⟨hs,h⟩:=h
    obtain⟨el,hu⟩:=hsl hs
    rw[ex] at hx
    rw[ey] at hy
    simp only[Shp] at hx hy
    obtain⟨a,c,hx,hl,hn⟩:=hx
    refine⟨.bool a.isNone,by cases a<;>simp[pv,hx,hy,bin,hu],hfin _ (h _ fun hb=>?_)⟩
    rcases hn with hn | ⟨b,q,rfl⟩
    ·exact hn
    ·cases hb
   ·rename_i sz xs n' c' ex ey
    obtain⟨hs,h⟩:=h
    obtain⟨el,hu⟩:=hsl hs
    rw[ex] at hx
    rw[ey] at hy
    simp only[Shp] at hx hy
    obtain⟨a,c,hx,hl,hn⟩:=hx
    refine⟨.bool !a.isNone,by cases a<;>simp[pv,hx,hy,bin,hu],hfin _ (h _ fun hb=>?_)⟩
    rcases hn with hn | ⟨b,q,rfl⟩
    ·exact hn
    ·cases hb
   ·rename_i b ver i len n' c' ex ey
    obtain⟨hs,h⟩:=h
    obtain⟨el,hu⟩:=hsl hs
    rw[ex] at hx
    rw[ey] at hy
    have hxs:=hx
    simp only[Shp] at hx hy
    obtain⟨⟨a,m,c,hx⟩,_⟩:=hx
    refine⟨.bool a.isNone,by cases a<;>simp[pv,hx,hy,bin,hu],hfin _ (h _ fun hb=>own_nil hxs ?_)⟩
    cases a
    ·exact⟨_,_,hx⟩
    ·cases hb
   ·rename_i b ver i len n' c' ex ey
    obtain⟨hs,h⟩:=h
    obtain⟨el,hu⟩:=hsl hs
    rw[ex] at hx
    rw[ey] at hy
    have hxs:=hx
    simp only[Shp] at hx hy
    obtain⟨⟨a,m,c,hx⟩,_⟩:=hx
    refine⟨.bool !a.isNone,by cases a<;>simp[pv,hx,hy,bin,hu],hfin _ (h _ fun hb=>own_nil hxs ?_)⟩
    cases a
    ·exact⟨_,_,hx⟩
    ·cases hb
   ·exact hset h
 | pick | nilCheck | unOp | makeFunc | fieldAddr | field | indexAddr | index | extract | slice=>exact hset h
 | build t ps=>exact hset h
 | _=>exact hraw h
end
end
end Go.Proofs.YtfnbhkbfelllgaaGreatDoor
