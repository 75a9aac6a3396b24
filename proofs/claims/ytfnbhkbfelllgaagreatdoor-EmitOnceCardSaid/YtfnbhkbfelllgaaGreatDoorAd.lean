import Derived.Test.YtfnbhkbfelllgaaGreatDoorAc
set_option linter.all false
namespace Go.Proofs.YtfnbhkbfelllgaaGreatDoor
open Go.RowKit
abbrev AKont:=AEnv→AHeap→Prop
def alv (P:Program) (A:AHeap) (t:TypeId):AV→Option AV
 | .ptr b ver i o => match curB A b ver with
   | some k => match tk P t, k.els[i]? with
     | some (true,n),some x=>if o + n≤x.length then some (.agg ((x.drop o).take n)) else none
     | some (false,_),some x=>x[o]?
     | _,_=>none
   | none=>none
 | .ip cs => match tk P t with
   | some (true,n)=>if n≤cs.length then some (.agg ((cs.take n).map AV.d)) else none
   | some (false,_)=>(cs[0]?).map AV.d
   | none=>none
 | _=>none
def setEls (k:Blk) (els:List (List AV)):Blk:=⟨k.ver,k.wr,k.ty,k.sz,els⟩
def astv (P:Program) (A:AHeap) (t:TypeId) (p v:AV):Option AHeap:=match p with
 | .ptr b ver i o => match curB A b ver with
   | some k => match tk P t, cellsA v, k.els[i]? with
     | some (_,n),some l,some x=>if k.wr=true∧l.length=n∧o + n≤x.length then some (A.set b (setEls k (k.els.set i (putA x o l)))) else none
     | _,_,_=>none
   | none=>none
 | _=>none
def chunk (sz:Nat):Nat→List AV→List (List AV)
 | 0,_=>[]
 | n + 1,l=>l.take sz::chunk sz n (l.drop sz)
def rowsB (P:Program) (t:TypeId):Bool:=match ar P t with
 | some (_,_,1)=>true
 | _=>false
def mkA (P:Program) (t:TypeId) (x y:AV):Option (Nat×AV×Nat):=match x,y with
 | .d (.v (.int k l)), .d (.v (.int k' c)) => match mkOf P t (.int k l) (.int k' c) with
   | some (el, _, n) => match zvA P el with
     | some [z]=>some (el,z,n)
     | _=>none
   | none=>none
 | _,_=>none
def newA (P:Program) (n:Nat) (e:AEnv):Op→Option (AV×Blk)
 | .alloc t=>(zvA P t).map fun z=>(.ptr n 0 0 0,if 16 < z.length∧rowsB P t=true then ⟨0,true,t,1,z.map fun c=>[c]⟩ else ⟨0,true,t,z.length,[z]⟩)
 | .box t x=>if t < 1000000 then (cellsA (eva e x)).map fun l=>(.ptr n 0 0 0,⟨0,true,t,l.length,[l]⟩) else none
 | .buildSlice t len ps=>(blsA P t len (ps.toList.map fun p=>(p.1,eva e p.2))).map fun r=>(.own n 0 0 len,⟨0,true,r.1,r.2.1,chunk r.2.1 len r.2.2⟩)
 | .makeSlice t x y=>(mkA P t (eva e x) (eva e y)).map fun r=>(.own n 0 0 r.2.2,⟨0,true,r.1,1,List.replicate r.2.2 [r.2.1]⟩)
 | _=>none
structure Ctx where
 H:Nat→Prop
 ι:Place
 A:AHeap
 w:World
def Sta (C:Ctx) (e:AEnv) (A:AHeap) (ec:Env) (w:World):Prop:=
 HOk C.H C.ι C.A C.w∧∃ ι,Rel C.H ι A w∧Step C.ι C.A C.w ι A w∧EnvS ι A e ec∧EnvM (Nn C.H ι A) w e ec
def Lift (C:Ctx) (K:AKont):Kont:=fun ec w=>∃ e A,K e A∧Sta C e A ec w
section
variable {P:Program} {H:Nat→Prop} {ι ι':Place} {A A':AHeap} {w w':World} {e:AEnv} {ec:Env} {C:Ctx}
theorem curB_get {b ver:Nat} {k:Blk} (h:curB A b ver=some k):A[b]? = some k:=(curB_spec h).1
theorem Sta.upd (h:Sta C e A ec w) {d:Option Nat} {r:AV} {u:Value} (hr:∀ ι,EnvS ι A e ec→EnvM (Nn C.H ι A) w e ec→Rel C.H ι A w→Val ι A (Nn C.H ι A) w r u):Sta C (aupd e d r) A (upd ec d u) w:=by
 obtain⟨h0,ι,h1,h2,h3,h4⟩:=h
 have:=hr ι h3 h4 h1
 exact⟨h0,ι,h1,h2,shp_upd h3 this.1,mem_upd h4 this.2⟩
theorem val_any (u:Value) {N:Nat→Prop}:Val ι A N w .any u:=⟨by simp[Shp],by simp[Mem]⟩
theorem val_undef {N:Nat→Prop}:Val ι A N w (.tup []) Go.undef:=⟨by simp only[Shp]; exact⟨[],rfl,by simp[ShpL]⟩,by simp only[Mem]; exact⟨[],rfl,by simp[MemL]⟩⟩
theorem Sta.undef (h:Sta C e A ec w) (d:Option Nat):Sta C (aupd e d (.tup [])) A (Go.Proofs.YtfnbhkbfelllgaaGreatDoor.upd ec d Go.undef) w:=h.upd fun _ _ _ _=>val_undef
theorem BlkRel.step {b:Nat} {k:Blk} {N N':Nat→Prop} (h:BlkRel ι A N w b k) (hι:ι' b=ι b) (hw:∀ c n,ι b=some (c,n)→SameB w w' c) (hv:∀ c u,Val ι A N w c u→Val ι' A' N' w' c u):BlkRel ι' A' N' w' b k:=by
 unfold BlkRel at h ⊢
 rw[hι]
 split at h
 ·rename_i c n hc
  obtain⟨arr,h1,h2,h3,h4⟩:=h
  refine⟨arr,h1.same (hw c n hc),h2,h3,fun i x hi=>⟨(h4 i x hi).1,fun j av hj=>?_⟩⟩
  obtain⟨u,g1,g2,g3⟩:=(h4 i x hi).2 j av hj
  exact⟨u,g1,hv _ _ g2,g3⟩
 ·exact h
theorem cellsFrom_of {b:Nat}:∀ (n o:Nat) (l:List Value),l.length=n→(∀ j u,l[j]? = some u→w.cell? ⟨b,o + j,none⟩=some u)→cellsFrom w b o n=some l
 | 0, o, l, hl, _ => by
   have:=List.eq_nil_of_length_eq_zero hl
   subst this
   rfl
 | n + 1,o,[],hl,_=>by simp at hl
 | n + 1, o, u :: l, hl, h => by
   simp only[cellsFrom]
   rw[show w.cell? ⟨b,o,none⟩=some u by simpa using h 0 u rfl]
   simp only
   rw[cellsFrom_of n (o + 1) l (by simpa using hl) fun j v hj=>by rw[show o + 1 + j=o + (j + 1) by omega]; exact h (j + 1) v (by simpa using hj)]
   rfl
theorem cell_in {c:Nat} {arr:Array Value} {t:Nat} {f:Nat×Nat} (h:w.heap[c]? = some (.cells arr t f)) (j:Nat):w.cell? ⟨c,j,none⟩=arr[j]? := by
 simp[World.cell?,h]
theorem frozen_in {c:Nat} {arr:Array Value} {t:Nat} (h:w.heap[c]? = some (.cells arr t (0,0))) (j:Nat):w.frozen? ⟨c,j,none⟩=false:=by
 simp[World.frozen?,h]
theorem choose_row {α β:Type} {R:Nat→α→β→Prop}:∀ (l:List α),(∀ i x,l[i]? = some x→∃ y,R i x y)→∃ m:List β,m.length=l.length∧∀ i x y,l[i]? = some x→m[i]? = some y→R i x y
 | l, h => by
   have hx:∀ i:Fin l.length,∃ y,R i l[i] y:=fun i=>h i _ (by simp)
   refine⟨List.ofFn fun i:Fin l.length=>(hx i).choose,by simp,fun i x y hi hy=>?_⟩
   have hlt:i < l.length:=(gSI.1 hi).1
   rw[gEG hlt] at hi
   rw[gEG (by simpa using hlt)] at hy
   simp only[Option.some.injEq] at hi hy
   subst hi hy
   simpa using (hx ⟨i,hlt⟩).choose_spec
theorem alv_sound {t:TypeId} {p r:AV} {u:Value} (h:alv P A t p=some r) (hR:Rel H ι A w) (hs:Shp ι A p u) (hm:Mem (Nn H ι A) w p u):∃ v,lv P t u w=some v∧Val ι A (Nn H ι A) w r v:=by
 unfold alv at h
 split at h
 ·rename_i b ver i o
  split at h
  ·rename_i k hk
   obtain⟨c,n,hι,rfl⟩:=ptr_shp hk hs
   have hb:=hR.blk b k (curB_get hk)
   unfold BlkRel at hb
   rw[hι] at hb
   obtain⟨arr,a1,a2,a3,a4⟩:=hb
   have a1:=a1.cells (curB_ty hk)
   have a2:=a2.1 (curB_ty hk)
   have hcell:∀ {x:List AV},k.els[i]? = some x→∀ (j:Nat) (av:AV),x[j]? = some av→∃ v,w.cell? ⟨c,i * k.sz + j,none⟩=some v∧Val ι A (Nn H ι A) w av v∧v.oneCell'=true:=by
    intro x hx j av hj
    obtain⟨v,g1,g2,g3⟩:=(a4 i x hx).2 j av hj
    exact⟨v,by rw[cell_in a1]; exact g1,g2,g3⟩
   split at h
   ·rename_i m x htk hx
    split at h
    ·rename_i hle
     simp only[Option.some.injEq] at h
     subst h
     have hrow:∀ (j:Nat) (av:AV),((x.drop o).take m)[j]? = some av→∃ v,w.cell? ⟨c,i * k.sz + o + j,none⟩=some v∧Val ι A (Nn H ι A) w av v∧v.oneCell'=true:=by
      intro j av hj
      rw[List.getElem?_take] at hj
      split at hj
      ·rw[List.getElem?_drop] at hj
       obtain⟨v,g⟩:=hcell hx _ _ hj
       exact⟨v,by rw[Nat.add_assoc]; exact g⟩
      ·cases hj
     obtain⟨l,hl,hlr⟩:=choose_row _ hrow
     have hlen:((x.drop o).take m).length=m:=by simp; omega
     refine⟨.agg l.toArray,?_,?_,?_⟩
     ·simp only[lv,htk]
      rw[cellsFrom_of m _ l (by rw[hl,hlen]) fun j v hj=>?_]
      ·rfl
      ·have hlt:=(gSI.1 hj).1
       exact (hlr j _ v (gEG (by omega)) hj).1
     ·simp only[Shp]
      exact⟨l,rfl,ShpL.of hl fun j av v h1 h2=>(hlr j av v h1 h2).2.1.1⟩
     ·simp only[Mem]
      refine⟨l,rfl,MemL.of hl fun j av v h1 h2=>(hlr j av v h1 h2).2.1.2,fun v hv=>?_⟩
      obtain⟨j,hj⟩:=List.getElem?_of_mem hv
      have hlt:=(gSI.1 hj).1
      exact (hlr j _ v (gEG (by omega)) hj).2.2
    ·cases h
   ·rename_i m x htk hx
    obtain⟨v,g1,g2,g3⟩:=hcell hx o r h
    exact⟨v,by simp only[lv,htk]; exact g1,g2⟩
   ·cases h
  ·cases h
 ·rename_i cs
  simp only[Mem] at hm
  obtain⟨b,o,rfl,h1,h2⟩:=hm
  split at h
  ·rename_i n htk
   split at h
   ·rename_i hle
    simp only[Option.some.injEq] at h
    subst h
    have hrow:∀ (j:Nat) (x:D),(cs.take n)[j]? = some x→∃ v,w.cell? ⟨b,o + j,none⟩=some v∧Rd (Nn H ι A) w x v:=by
     intro j x hj
     rw[List.getElem?_take] at hj
     split at hj
     ·exact h2.get hj
     ·cases hj
    obtain⟨l,hl,hlr⟩:=choose_row _ hrow
    have hlen:(cs.take n).length=n:=by simp; omega
    have hdsh:∀ (x:D) (v:Value),Rd (Nn H ι A) w x v→Shp ι A (.d x) v:=by
     intro x v hr
     cases x with
     | v y=>simp only[Rd] at hr; simp only[Shp]; exact hr.1
     | sl sz xs =>
       simp only[Rd] at hr
       obtain⟨a,cap,e1,e2,_,e4⟩:=hr
       simp only[Shp]
       exact⟨a,cap,e1,e2,e4.imp id fun⟨b,off,e,_⟩=>⟨b,off,e⟩⟩
    refine⟨.agg l.toArray,?_,?_,?_⟩
    ·simp only[lv,htk]
     rw[cellsFrom_of n _ l (by rw[hl,hlen]) fun j v hj=>?_]
     ·rfl
     ·have hlt:=(gSI.1 hj).1
      exact (hlr j _ v (gEG (by omega)) hj).1
    ·simp only[Shp]
     refine⟨l,rfl,ShpL.of (by simp[hl]) fun j av v g1 g2=>?_⟩
     rw[List.getElem?_map] at g1
     simp only[Option.map_eq_some_iff] at g1
     obtain⟨x,g1,rfl⟩:=g1
     exact hdsh x v (hlr j x v g1 g2).2
    ·simp only[Mem]
     refine⟨l,rfl,MemL.of (by simp[hl]) fun j av v g1 g2=>?_,fun v hv=>?_⟩
     ·rw[List.getElem?_map] at g1
      simp only[Option.map_eq_some_iff] at g1
      obtain⟨x,g1,rfl⟩:=g1
      simp only[Mem]
      exact (hlr j x v g1 g2).2
     ·obtain⟨j,hj⟩:=List.getElem?_of_mem hv
      have hlt:=(gSI.1 hj).1
      exact (hlr j _ v (gEG (by omega)) hj).2.one
   ·cases h
  ·rename_i n htk
   simp only[Option.map_eq_some_iff] at h
   obtain⟨x,hx,rfl⟩:=h
   obtain⟨v,g1,g2⟩:=h2.get hx
   refine⟨v,by simp only[lv,htk]; simpa using g1,?_,by simp only[Mem]; exact g2⟩
   cases x with
   | v y=>simp only[Rd] at g2; simp only[Shp]; exact g2.1
   | sl sz xs =>
     simp only[Rd] at g2
     obtain⟨a,cap,e1,e2,_,e4⟩:=g2
     simp only[Shp]
     exact⟨a,cap,e1,e2,e4.imp id fun⟨b,off,e,_⟩=>⟨b,off,e⟩⟩
  ·cases h
 ·cases h
theorem sto_in {c:Nat} {t:Nat}:∀ (vs:List Value) (w:World) (o:Nat) (arr:Array Value),w.heap[c]? = some (.cells arr t (0,0))→o + vs.length≤arr.size→(∀ u∈vs,u.oneCell'=true) →
 ∃ w' arr', sto w c o vs = some w' ∧ w'.heap[c]? = some (.cells arr' t (0, 0)) ∧ arr'.size = arr.size ∧ (∀ k, arr'[k]? = if o ≤ k ∧ k < o + vs.length then vs[k - o]? else arr[k]?) ∧
   w'.heap.size=w.heap.size∧(∀ b,b≠c→SameB w w' b)∧w'.os=w.os∧w'.tape=w.tape∧w'.output=w.output
 | [],w,o,arr,hg,_,_=>⟨w,arr,rfl,hg,rfl,fun k=>by rw[if_neg (by simp only[List.length_nil]; omega)],rfl,fun _ _=>rfl,rfl,rfl,rfl⟩
 | v :: vs, w, o, arr, hg, hl, h1 => by
   simp only[List.length_cons] at hl
   have hcell:(w.cell? ⟨c,o,none⟩).isSome=true:=by
    rw[cell_in hg,Array.getElem?_eq_getElem (by omega)]
    rfl
   have hset:(w.setCell ⟨c,o,none⟩ v).heap[c]? = some (.cells (arr.setIfInBounds o v) t (0,0)):=by
    simp only[World.setCell,Array.getElem?_modify,if_pos rfl,hg]
    simp
   have hfar:∀ b,b≠c→(w.setCell ⟨c,o,none⟩ v).heap[b]? = w.heap[b]? := fun b hb=>by
    simp only[World.setCell,Array.getElem?_modify]
    rw[if_neg (fun h=>hb h.symm)]
   have hsz:(w.setCell ⟨c,o,none⟩ v).heap.size=w.heap.size:=by simp[World.setCell]
   have ih:=sto_in vs (w.setCell ⟨c,o,none⟩ v) (o + 1) _ hset (by simp only[Array.size_setIfInBounds]; omega) fun u hu=>h1 u (List.mem_cons_of_mem _ hu)
   obtain⟨w',arr',a1,a2,a3,a4,a5,a6,a7,a8,a9⟩:=ih
   refine⟨w',arr',?_,a2,by simpa using a3,fun k=>?_,a5.trans hsz,fun b hb=>(a6 b hb).trans (hfar b hb),a7,a8,a9⟩
   ·simp only[sto]
    rw[if_pos ⟨h1 v (List.mem_cons_self ..),hcell,frozen_in hg o⟩]
    exact a1
   ·rw[a4 k]
    by_cases hk:k=o
    ·subst hk
     rw[if_neg (by omega),if_pos (by simp only[List.length_cons]; omega)]
     rw[Array.getElem?_setIfInBounds_self_of_lt (by omega)]
     simp
    ·by_cases hk2:o + 1≤k∧k < o + 1 + vs.length
     ·rw[if_pos hk2,if_pos (by simp only[List.length_cons]; omega)]
      rw[show k - o=(k - (o + 1)) + 1 by omega,List.getElem?_cons_succ]
     ·rw[if_neg hk2,if_neg (by simp only[List.length_cons]; omega)]
      rw[Array.getElem?_setIfInBounds_ne (fun h=>hk h.symm)]
theorem putA_get:∀ (vs cs:List AV) (o:Nat),o + vs.length≤cs.length→∀ k,(putA cs o vs)[k]? = if o≤k∧k < o + vs.length then vs[k - o]? else cs[k]?
 | [],cs,o,_,k=>by rw[if_neg (by simp only[List.length_nil]; omega)]; rfl
 | v :: vs, cs, o, h, k => by
   simp only[List.length_cons] at h
   simp only[putA]
   rw[putA_get vs _ (o + 1) (by simp only[List.length_set]; omega) k]
   by_cases hk:k=o
   ·subst hk
    rw[if_neg (by omega),if_pos (by simp only[List.length_cons]; omega),gSS (by omega)]
    simp
   ·by_cases hk2:o + 1≤k∧k < o + 1 + vs.length
    ·rw[if_pos hk2,if_pos (by simp only[List.length_cons]; omega)]
     rw[show k - o=(k - (o + 1)) + 1 by omega,List.getElem?_cons_succ]
    ·rw[if_neg hk2,if_neg (by simp only[List.length_cons]; omega),gSN (fun h=>hk h.symm)]
theorem Mu_set {b:Nat} {k k':Blk} (hb:A[b]? = some k) (hw:k'.wr=k.wr) (c:Nat):Mu ι (A.set b k') c↔Mu ι A c:=by
 have hlt:=(gSI.1 hb).1
 constructor
 ·rintro⟨b',k2,n,h1,h2,h3⟩
  by_cases he:b=b'
  ·subst he
   rw[gSS hlt] at h1
   obtain rfl:=oSI h1
   exact⟨b,k,n,hb,by rw[← hw]; exact h2,h3⟩
  ·rw[gSN he] at h1
   exact⟨b',k2,n,h1,h2,h3⟩
 ·rintro⟨b',k2,n,h1,h2,h3⟩
  by_cases he:b=b'
  ·subst he
   rw[hb] at h1
   obtain rfl:=oSI h1
   exact⟨b,k',n,gSS hlt,by rw[hw]; exact h2,h3⟩
  ·exact⟨b',k2,n,by rw[gSN he]; exact h1,h2,h3⟩
theorem Nn_set {b:Nat} {k k':Blk} (hb:A[b]? = some k) (hw:k'.wr=k.wr):Nn H ι (A.set b k')=Nn H ι A:=by
 funext c
 simp only[Nn,Mu_set hb hw]
theorem astv_sound {t:TypeId} {p v:AV} {u x:Value} (h:astv P A t p v=some A') (hR:Rel H ι A w) (hs:Shp ι A p u) (hsv:Shp ι A v x) (hmv:Mem (Nn H ι A) w v x) :
 ∃ w',stv P t u x w=some w'∧Rel H ι A' w'∧Step ι A w ι A' w':=by
 unfold astv at h
 split at h
 ·rename_i b ver i o
  split at h
  ·rename_i k hk
   obtain⟨c,n,hι,rfl⟩:=ptr_shp hk hs
   have hAb:=curB_get hk
   have hlt:=(gSI.1 hAb).1
   have hb:=hR.blk b k hAb
   unfold BlkRel at hb
   rw[hι] at hb
   obtain⟨arr,a1,a2,a3,a4⟩:=hb
   have a1:=a1.cells (curB_ty hk)
   have a2:=a2.1 (curB_ty hk)
   split at h
   ·rename_i g m l y htk hl hy
    split at h
    ·rename_i hh
     obtain⟨hwr,hlm,hle⟩:=hh
     simp only[Option.some.injEq] at h
     obtain⟨c1,c2⟩:=cellsA_shp hl hsv
     obtain⟨c3,c4⟩:=c2 _ _ hmv
     have hcl:=c1.len
     have hyl:=(a4 i y hy).1
     have hilt:=(gSI.1 hy).1
     have hroom:i * k.sz + k.sz≤arr.size:=by
      have:=Nat.mul_le_mul_right k.sz (show i + 1≤k.els.length by omega)
      rw[Nat.add_mul,Nat.one_mul] at this
      omega
     obtain⟨w',arr',s1,s2,s3,s4,s5,s6,s7,s8,s9⟩:=sto_in x.cells.toList w (i * k.sz + o) arr a1 (by omega) c4
     have hst:Step ι A w ι A' w':=by
      subst h
      refine⟨fun b' k' hb'=>?_,fun c' hc'=>.inl ((Mu_set (k':=setEls k (k.els.set i (putA y o l))) hAb rfl c').1 hc'),fun c' hc' hn=>s6 c' fun he=>hn (he ▸ ⟨b,k,n,hAb,hwr,hι⟩),by omega,s7,s8,s9⟩
      by_cases he:b=b'
      ·subst he
       rw[hAb] at hb'
       obtain rfl:=oSI hb'
       exact⟨_,gSS hlt,Nat.le_refl _,fun _=>⟨rfl,rfl⟩⟩
      ·exact⟨k',by rw[gSN he]; exact hb',Nat.le_refl _,fun _=>⟨rfl,rfl⟩⟩
     refine⟨w',?_,?_,hst⟩
     ·simp only[stv,htk]
      rw[if_pos (by simpa using hcl.trans hlm)]
      exact s1
     ·have hN:Nn H ι A'=Nn H ι A:=by subst h; exact Nn_set (k':=setEls k (k.els.set i (putA y o l))) hAb rfl
      have hget:∀ (b':Nat) (k':Blk),A'[b']? = some k'→(b'=b∧k'=setEls k (k.els.set i (putA y o l)))∨(b'≠b∧A[b']? = some k'):=by
       intro b' k' hb'
       subst h
       by_cases he:b=b'
       ·subst he
        rw[gSS hlt] at hb'
        exact .inl ⟨rfl,(oSI hb').symm⟩
       ·rw[gSN he] at hb'
        exact .inr ⟨fun h=>he h.symm,hb'⟩
      have hblk:∀ (b':Nat) (k':Blk),A'[b']? = some k'→∃ k2:Blk,A[b']? = some k2:=by
       intro b' k' hb'
       rcases hget b' k' hb' with⟨rfl,_⟩ | ⟨_,h2⟩
       ·exact⟨k,hAb⟩
       ·exact⟨k',h2⟩
      have hv:∀ c u,Val ι A (Nn H ι A) w c u→Val ι A' (Nn H ι A') w' c u:=fun c u hv=>Val.step hst hv
      refine⟨fun b' k' hb'=>?_,fun b' k' c' n' hb' hc'=>?_,fun b1 b2 k1 k2 c1 n1 n2 h1 h2=>?_⟩
      ·rcases hget b' k' hb' with⟨rfl,rfl⟩ | ⟨hne,hb2⟩
       ·unfold BlkRel
        rw[hι]
        have hkt:=curB_ty hk
        refine⟨arr',.inl ⟨hkt,s2⟩,⟨fun _=>s3.trans a2,fun h=>absurd hkt h⟩,by rw[s3]; simpa [setEls] using a3,fun i' x' hi'=>?_⟩
        simp only[setEls] at hi' ⊢
        by_cases hii:i=i'
        ·subst hii
         rw[gSS hilt] at hi'
         obtain rfl:=oSI hi'
         refine⟨by rw[putA_len]; exact hyl,fun j av hj=>?_⟩
         rw[putA_get l y o (by omega) j] at hj
         rw[s4]
         by_cases hjo:o≤j∧j < o + l.length
         ·rw[if_pos hjo] at hj
          rw[if_pos (by omega),show i * k.sz + j - (i * k.sz + o)=j - o by omega]
          obtain⟨u',g1,g2⟩:=c1.get hj
          exact⟨u',g1,hv _ _ ⟨g2,c3.get hj g1⟩,c4 u' (gMO g1)⟩
         ·rw[if_neg hjo] at hj
          rw[if_neg (by omega)]
          obtain⟨u',g1,g2,g3⟩:=(a4 i y hy).2 j av hj
          exact⟨u',g1,hv _ _ g2,g3⟩
        ·rw[gSN hii] at hi'
         refine⟨(a4 i' x' hi').1,fun j av hj=>?_⟩
         obtain⟨u',g1,g2,g3⟩:=(a4 i' x' hi').2 j av hj
         have hjl:=(gSI.1 hj).1
         rw[(a4 i' x' hi').1] at hjl
         refine⟨u',?_,hv _ _ g2,g3⟩
         rw[s4,if_neg]
         ·exact g1
         ·rintro⟨p1,p2⟩
          rcases Nat.lt_or_ge i i' with hlt' | hge
          ·have:=Nat.mul_le_mul_right k.sz (show i + 1≤i' by omega)
           rw[Nat.add_mul,Nat.one_mul] at this
           omega
          ·have:=Nat.mul_le_mul_right k.sz (show i' + 1≤i by omega)
           rw[Nat.add_mul,Nat.one_mul] at this
           omega
       ·refine BlkRel.step (hR.blk b' k' hb2) rfl (fun c' n' hc'=>s6 c' fun he=>hne ?_) hv
        subst he
        exact hR.inj b' b k' k _ n' n hb2 hAb hc' hι
      ·obtain⟨k2,hk2⟩:=hblk b' k' hb'
       have:=hR.hid b' k2 c' n' hk2 hc'
       exact⟨this.1,by omega⟩
      ·obtain⟨k1',h1'⟩:=hblk b1 k1 h1
       obtain⟨k2',h2'⟩:=hblk b2 k2 h2
       exact hR.inj b1 b2 k1' k2' c1 n1 n2 h1' h2'
    ·cases h
   ·cases h
  ·cases h
 ·cases h
end
end Go.Proofs.YtfnbhkbfelllgaaGreatDoor
