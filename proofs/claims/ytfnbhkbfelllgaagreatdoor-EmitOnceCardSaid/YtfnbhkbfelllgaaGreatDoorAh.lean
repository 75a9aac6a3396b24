import Derived.Test.YtfnbhkbfelllgaaGreatDoorAg
import Derived.Maps.AppendAt
set_option linter.all false
namespace Go.Proofs.YtfnbhkbfelllgaaGreatDoor
open Go.RowKit
def dEls (xs:List (List D)):List (List AV):=xs.map fun x=>x.map AV.d
def elsOf (A:AHeap):AV→Option (List (List AV))
 | .d (.v (.slice none 0 0))=>some []
 | .d (.sl _ xs)=>some (dEls xs)
 | .own b ver i len => match curB A b ver with
   | some k=>if i + len≤k.els.length then some ((k.els.drop i).take len) else none
   | none=>none
 | _=>none
def byt (P:Program) (t:TypeId):Option (Nat×Nat×Nat):=match P.underlying t with
 | some (.slice e) => match P.info? e with
   | some i => match i.zero with
     | some z=>if (0 < i.size∧z.cells.size=i.size)∧e < 1000000 then some (e,i.size,i.bytes) else none
     | none=>none
   | none=>none
 | _=>none
def appA (e sz:Nat) (A:AHeap) (s x:AV):Option (AV×AHeap×Nat):=match elsOf A x with
 | some new => if new.all (fun x => x.length == sz) then (match s with
   | .d (.v (.slice none 0 0))=>some (.own A.length 0 0 new.length,A++[⟨0,true,e,sz,new⟩],new.length)
   | .own b ver i len => match curB A b ver with
     | some k=>if i=0∧len=k.els.length∧k.wr=true∧k.ty=e∧k.sz=sz then some (.own b (ver + 1) 0 (len + new.length),A.set b ⟨ver + 1,true,e,sz,k.els++new⟩,len + new.length) else none
     | none=>none
   | _=>none) else none
 | none=>none
def aApp (r:Option (AV×AHeap×Nat)) (bytes:Nat) (e:AEnv) (d:Option Nat) (K:AKont):Prop:=∃ v A m,r=some (v,A,m)∧m≤maxLen∧m * bytes≤140737488355328∧K (aupd e d v) A
section
variable {P:Program} {H:Nat→Prop} {ι ι':Place} {A A':AHeap} {w w':World} {e:AEnv} {ec:Env} {C:Ctx} {n:Nat}
theorem rows_cells {V:AV→Value→Prop} {sz b:Nat}:∀ (new:List (List AV)) (off:Nat),(∀ (i:Nat) (x:List AV),new[i]? = some x→x.length=sz∧∀ (j:Nat) (c:AV),x[j]? = some c→∃ u,w.cell? ⟨b,off + i * sz + j,none⟩=some u∧V c u∧u.oneCell'=true) →
 ∃ news:List Value,news.length=new.length * sz∧(∀ (p:Nat) (u:Value),news[p]? = some u→w.cell? ⟨b,off + p,none⟩=some u)∧(∀ u∈news,u.oneCell'=true) ∧
 ∀ (i:Nat) (x:List AV),new[i]? = some x→∀ (j:Nat) (c:AV),x[j]? = some c→∃ u,news[i * sz + j]? = some u∧V c u∧u.oneCell'=true
 | [],off,_=>⟨[],by simp,by simp,by simp,by simp⟩
 | y :: new, off, h => by
   obtain⟨hy,hyc⟩:=h 0 y rfl
   obtain⟨l,hl,hlr⟩:=choose_row y hyc
   obtain⟨news,n1,n2,n3,n4⟩:=rows_cells (V:=V) new (off + sz) fun i x hi=>by
    have:=h (i + 1) x (by simpa using hi)
    refine⟨this.1,fun j c hj=>?_⟩
    rw[show off + sz + i * sz + j=off + (i + 1) * sz + j by rw[Nat.add_mul]; omega]
    exact this.2 j c hj
   have hl':l.length=sz:=by omega
   refine⟨l++news,by simp[n1,hl',Nat.add_mul]; omega,fun p u hp=>?_,fun u hu=>?_,fun i x hi j c hj=>?_⟩
   ·rw[List.getElem?_append] at hp
    split at hp
    ·rename_i hlt
     have:=(hlr p _ u (gEG (by omega)) hp).1
     simpa using this
    ·have:=n2 _ _ hp
     rwa [show off + sz + (p - l.length)=off + p by omega] at this
   ·rcases List.mem_append.1 hu with hu | hu
    ·obtain⟨j,hj⟩:=List.getElem?_of_mem hu
     have hlt:=(gSI.1 hj).1
     exact (hlr j _ u (gEG (by omega)) hj).2.2
    ·exact n3 u hu
   ·cases i with
    | zero =>
      simp at hi
      subst hi
      have hlt:=(gSI.1 hj).1
      have hu:l[j]? = some (l[j]'(by omega)):=gEG (by omega)
      refine⟨_,?_,(hlr j c _ hj hu).2⟩
      rw[Nat.zero_mul,Nat.zero_add,gAL (by omega)]
      exact hu
    | succ i =>
      obtain⟨u,g1,g2⟩:=n4 i x (by simpa using hi) j c hj
      refine⟨u,?_,g2⟩
      rw[List.getElem?_append_right (by rw[Nat.add_mul]; omega),Nat.add_mul,show i * sz + 1 * sz + j - l.length=i * sz + j by omega]
      exact g1
theorem byt_spec {t el sz bytes:Nat} (h:byt P t=some (el,sz,bytes)):∃ i z,P.underlying t=some (.slice el)∧P.info? el=some i∧i.size=sz∧i.bytes=bytes∧0 < sz∧i.zero=some z∧z.cells.size=sz:=by
 unfold byt at h
 split at h
 ·rename_i e' hu
  split at h
  ·rename_i i hi
   split at h
   ·rename_i z hz
    split at h
    ·rename_i hh
     simp only[Option.some.injEq,Prod.mk.injEq] at h
     obtain⟨rfl,rfl,rfl⟩:=h
     exact⟨i,z,hu,hi,rfl,rfl,hh.1.1,hz,hh.1.2⟩
    ·cases h
   ·cases h
  ·cases h
 ·cases h
theorem byt_ty {t el sz bytes:Nat} (h:byt P t=some (el,sz,bytes)):el < 1000000:=by
 unfold byt at h
 split at h
 ·split at h
  ·split at h
   ·split at h
    ·rename_i hh
     simp only[Option.some.injEq,Prod.mk.injEq] at h
     obtain⟨rfl,_⟩:=h
     exact hh.2
    ·cases h
   ·cases h
  ·cases h
 ·cases h
theorem elsOf_sound (hR:Rel H ι A w) {sz:Nat} {x:AV} {u:Value} {new:List (List AV)} (h:elsOf A x=some new) (hlen:new.all (fun x=>x.length == sz)=true) (hv:Val ι A (Nn H ι A) w x u) :
 ∃ (a : Option Addr) (c : Nat) (news : List Value), u = .slice a new.length c ∧ news.length = new.length * sz ∧ (a = none → new = []) ∧ (∀ b, a = some b → ∀ (p : Nat) (v : Value), news[p]? = some v → w.cell? (b.add p) = some v) ∧ (∀ v ∈ news, v.oneCell' = true) ∧
   ∀ (i:Nat) (x:List AV),new[i]? = some x→∀ (j:Nat) (c:AV),x[j]? = some c→∃ v,news[i * sz + j]? = some v∧Val ι A (Nn H ι A) w c v∧v.oneCell'=true:=by
 have hl:∀ (i:Nat) (y:List AV),new[i]? = some y→y.length=sz:=fun i y hy=>by
  have:=List.all_eq_true.1 hlen y (gMO hy)
  simpa using this
 have hadd:∀ (c o p:Nat),(⟨c,o,none⟩:Addr).add p=⟨c,o + p,none⟩:=fun c o p=>by simp only[Addr.add]; split<;>simp_all
 unfold elsOf at h
 split at h
 ·simp only[Option.some.injEq] at h
  subst h
  have:=hv.1
  simp only[Shp] at this
  subst this
  exact⟨none,0,[],by simp,by simp,by simp,by simp,by simp,by simp⟩
 ·rename_i s xs
  simp only[Option.some.injEq] at h
  subst h
  have:=hv.2
  simp only[Mem,Rd] at this
  obtain⟨a,cap,rfl,_,_,h4⟩:=this
  rcases h4 with rfl | ⟨b,off,rfl,_,hs⟩
  ·exact⟨a,cap,[],by simp[dEls],by simp[dEls],by simp[dEls],by simp,by simp,by simp[dEls]⟩
  ·have hx0:∀ (i:Nat) (y:List AV),(dEls xs)[i]? = some y→y.length=sz∧∀ (j:Nat) (c:AV),y[j]? = some c→∃ u,w.cell? ⟨b,off + i * sz + j,none⟩=some u∧Val ι A (Nn H ι A) w c u∧u.oneCell'=true:=by
    intro i y hy
    have hyl:=hl i y hy
    refine⟨hyl,fun j c hj=>?_⟩
    simp only[dEls,List.getElem?_map,Option.map_eq_some_iff] at hy
    obtain⟨y',hy',rfl⟩:=hy
    have hg:=hs.get hy'
    have hss:s=sz:=by
     have h1:=hg.1
     simp at hyl
     omega
    subst hss
    simp only[List.getElem?_map,Option.map_eq_some_iff] at hj
    obtain⟨d,hd,rfl⟩:=hj
    obtain⟨v,g1,g2⟩:=hg.2.get hd
    exact⟨v,g1,d_val g2,g2.one⟩
   obtain⟨news,n1,n2,n3,n4⟩:=rows_cells (V:=Val ι A (Nn H ι A) w) (dEls xs) off hx0
   refine⟨some ⟨b,off,none⟩,cap,news,by simp[dEls],n1,by simp,fun b' hb' p v hp=>?_,n3,n4⟩
   simp only[Option.some.injEq] at hb'
   subst hb'
   rw[hadd]
   exact n2 p v hp
 ·rename_i b ver i len
  split at h
  ·rename_i k hk
   split at h
   ·rename_i hle
    simp only[Option.some.injEq] at h
    subst h
    have hnl:((k.els.drop i).take len).length=len:=by simp; omega
    rcases own_shp hk hv.1 with⟨rfl,_,rfl⟩ | ⟨c,m,cap,hι,rfl,hlc,hcm,hcn⟩
    ·exact⟨none,0,[],by simp,by simp,by simp,by simp,by simp,by simp⟩
    ·have hb:=hR.blk b k (curB_get hk)
     unfold BlkRel at hb
     rw[hι] at hb
     obtain⟨arr,a1,a2,a3,a4⟩:=hb
     have a1:=a1.cells (curB_ty hk)
     have a2:=a2.1 (curB_ty hk)
     have hx0:∀ (t:Nat) (y:List AV),((k.els.drop i).take len)[t]? = some y→y.length=sz∧∀ (j:Nat) (c':AV),y[j]? = some c'→∃ u,w.cell? ⟨c,i * k.sz + t * sz + j,none⟩=some u∧Val ι A (Nn H ι A) w c' u∧u.oneCell'=true:=by
      intro t y hy
      have hyl:=hl t y hy
      refine⟨hyl,fun j c' hj=>?_⟩
      rw[List.getElem?_take] at hy
      split at hy
      ·rw[List.getElem?_drop] at hy
       obtain⟨q1,q2⟩:=a4 _ y hy
       have hss:k.sz=sz:=by omega
       obtain⟨u,g1,g2,g3⟩:=q2 j c' hj
       refine⟨u,?_,g2,g3⟩
       rw[cell_in a1,← g1,Nat.add_mul,hss]
      ·cases hy
     obtain⟨news,n1,n2,n3,n4⟩:=rows_cells (V:=Val ι A (Nn H ι A) w) _ (i * k.sz) hx0
     refine⟨_,cap,news,by rw[hnl],n1,by simp,fun b' hb' p v hp=>?_,n3,n4⟩
     simp only[Option.some.injEq] at hb'
     subst hb'
     rw[hadd]
     exact n2 p v hp
   ·cases h
  ·cases h
 ·cases h
def placeOf (sz:Nat):Value→Option (Nat×Nat)
 | .slice (some g) _ cap=>some (g.block,cap * sz)
 | _=>none
theorem app_sound {t ty el sz bytes:Nat} {s x r:AV} {us ux:Value} {m:Nat} (hby:byt P t=some (el,sz,bytes)) (h:appA el sz A s x=some (r,A',m)) (hm:m≤maxLen) (hmb:m * bytes≤140737488355328)
 (hR:Rel H ι A w) (hH:∀ c,H c→c < w.heap.size) (hs:Val ι A (Nn H ι A) w s us) (hx:Val ι A (Nn H ι A) w x ux) :
 ∃ v w' ι',(Builtin.append_ #[t,t] ty #[us,ux]).run P w = .ok v w'∧Rel H ι' A' w'∧Step ι A w ι' A' w'∧Val ι' A' (Nn H ι' A') w' r v∧∀ c,c < w.heap.size→¬ some c=us.ownBlock→SameB w w' c:=by
 obtain⟨i,z,hu,hi,his,hib,hsz,hz,hzs⟩:=byt_spec hby
 unfold appA at h
 split at h
 case h_2=>cases h
 rename_i new hnew
 split at h
 case isFalse=>cases h
 rename_i hall
 obtain⟨a,c,news,rfl,n1,n0,n2,n3,n4⟩:=elsOf_sound hR hnew hall hx
 have hnl:∀ (i:Nat) (y:List AV),new[i]? = some y→y.length=sz:=fun i y hy=>by
  have:=List.all_eq_true.1 hall y (gMO hy)
  simpa using this
 have hrun:∀ (old:Nat) (xs:List Value),w.ownsRow 0 el sz us old xs→old + new.length≤maxLen→(old + new.length) * bytes≤140737488355328 →
  ∃ v' w',(Builtin.append_ #[t,t] ty #[us,.slice a new.length c]).run P w = .ok v' w'∧w'.ownsRow 0 el sz v' (old + new.length) (xs++news)∧w.grownBy w' us.ownBlock∧(v'.ownBlock=us.ownBlock∨v'.ownBlock=some w.heap.size):=by
  intro old xs hown hle hleb
  cases a with
  | some a =>
    obtain⟨v',w',h1,h2,h3,_,h5⟩:=run_append_own_at (P:=P) (w:=w) 0 t ty el i z sz bytes hu hi hz his hib hzs hsz us old xs hown a new.length c news n1 (fun j u hj=>n2 a rfl j u hj) n3 hle hleb (Nat.zero_le _)
    exact⟨v',w',h1,h2,h3,h5⟩
  | none =>
    have hn:=n0 rfl
    subst hn
    have hnn:news=[]:=List.eq_nil_of_length_eq_zero (by simpa using n1)
    subst hnn
    refine⟨us,w,?_,by simpa using hown,⟨rfl,rfl,rfl,Nat.le_refl _,fun _ _ _=>rfl⟩,.inl rfl⟩
    rcases hown.2 with⟨rfl,_⟩ | ⟨g,cap,cur,rfl,_,hg,hnc,hcm,hcs,_⟩
    ·simp[Builtin.append_,run_underlying hu,sizeOf,typeInfo,hi,Builtin.lenOf,Builtin.firstCells]
    ·simp[Builtin.append_,run_underlying hu,sizeOf,typeInfo,hi,Builtin.lenOf,Builtin.firstCells,hnc,storeCells]
 split at h
 ·-- to nil
  simp only[Option.some.injEq,Prod.mk.injEq] at h
  obtain⟨rfl,rfl,rfl⟩:=h
  have hs1:=hs.1
  simp only[Shp] at hs1
  subst hs1
  obtain⟨v',w',h1,h2,h3,h5⟩:=hrun 0 [] (World.ownsRow_nil _ _ _ _) (by omega) (by rw[Nat.zero_add]; exact hmb)
  rw[Nat.zero_add,List.nil_append] at h2
  let ι':Place:=fun b=>if b=A.length then (placeOf sz v') else ι b
  have hlt:∀ b,b < A.length→ι' b=ι b:=fun b hb=>by simp only[ι']; rw[if_neg (by omega)]
  have hget:∀ (b:Nat) (k':Blk),(A++[⟨0,true,el,sz,new⟩])[b]? = some k'→(b < A.length∧A[b]? = some k')∨(b=A.length∧k'=⟨0,true,el,sz,new⟩):=by
   intro b k' h
   rw[List.getElem?_append] at h
   split at h
   ·exact .inl ⟨‹_›,h⟩
   ·have h0:=(gSI.1 h).1
    simp at h0
    have:b=A.length:=by omega
    subst this
    simp at h
    exact .inr ⟨rfl,h.symm⟩
  have hown':∀ c q,ι' A.length=some (c,q)→c=w.heap.size∧∃ cap cur,v' = .slice (some ⟨c,0,none⟩) new.length cap∧w'.heap[c]? = some (.cells cur el (0,0))∧new.length≤cap∧cap≤maxLen∧cur.size=cap * sz∧q=cap * sz∧cur.toList.take (new.length * sz)=news:=by
   intro c q hq
   simp only[ι',if_true] at hq
   rcases h2.2 with⟨rfl,_⟩ | ⟨g,cap,cur,rfl,_,hg,hnc,hcm,hcs,htk⟩
   ·simp[placeOf] at hq
   ·simp only[placeOf,Option.some.injEq,Prod.mk.injEq] at hq
    obtain⟨rfl,rfl⟩:=hq
    refine⟨?_,cap,cur,rfl,hg,hnc,hcm,hcs,rfl,htk⟩
    simp[Value.ownBlock] at h5
    exact h5
  have hst:Step ι A w ι' (A++[⟨0,true,el,sz,new⟩]) w':=by
   refine⟨fun b k hb=>⟨k,by rw[gAL (gSI.1 hb).1]; exact hb,Nat.le_refl _,fun _=>⟨hlt b (gSI.1 hb).1,rfl⟩⟩,fun c hc=>?_,fun c hc _=>h3.block c hc (by simp[Value.ownBlock]),h3.size,h3.os,h3.tape,h3.output⟩
   obtain⟨b,k,q,g1,g2,g3⟩:=hc
   rcases hget b k g1 with⟨hb,hk⟩ | ⟨rfl,rfl⟩
   ·exact .inl ⟨b,k,q,hk,g2,by rw[← hlt b hb]; exact g3⟩
   ·exact .inr (by rw[(hown' c q g3).1]; exact Nat.le_refl _)
  have hv:∀ c u,Val ι A (Nn H ι A) w c u→Val ι' (A++[⟨0,true,el,sz,new⟩]) (Nn H ι' (A++[⟨0,true,el,sz,new⟩])) w' c u:=fun c u hv=>Val.step hst hv
  refine⟨v',w',ι',h1,⟨fun b k hb=>?_,fun b k c q hb hc=>?_,fun b1 b2 k1 k2 c q1 q2 g1 g2 g3 g4=>?_⟩,hst,?_,fun c hc hn=>h3.block c hc hn⟩
  ·rcases hget b k hb with⟨hb',hk⟩ | ⟨rfl,rfl⟩
   ·exact BlkRel.step (hR.blk b k hk) (hlt b hb') (fun c q hc=>h3.block c (hR.hid b k c q hk hc).2 (by simp[Value.ownBlock])) hv
   ·unfold BlkRel
    split
    ·rename_i c q hq
     obtain⟨_,cap,cur,_,hg,hnc,_,hcs,rfl,htk⟩:=hown' c q hq
     refine⟨cur,.inl ⟨byt_ty hby,hg⟩,⟨fun _=>hcs,fun h=>absurd (byt_ty hby) h⟩,by rw[hcs]; exact Nat.mul_le_mul_right _ hnc,fun i' y hy=>⟨hnl i' y hy,fun j av hj=>?_⟩⟩
     obtain⟨u,e1,e2,e3⟩:=n4 i' y hy j av hj
     refine⟨u,?_,hv _ _ e2,e3⟩
     rw[← htk,List.getElem?_take] at e1
     split at e1
     ·simpa using e1
     ·cases e1
    ·rename_i hq
     rcases h2.2 with⟨_,h0⟩ | ⟨g,cap,cur,hvg,_⟩
     ·exact List.eq_nil_of_length_eq_zero h0
     ·simp[ι',hvg,placeOf] at hq
  ·rcases hget b k hb with⟨hb',hk⟩ | ⟨rfl,rfl⟩
   ·rw[hlt b hb'] at hc
    have:=hR.hid b k c q hk hc
    exact⟨this.1,Nat.lt_of_lt_of_le this.2 h3.size⟩
   ·obtain⟨rfl,cap,cur,_,hg,_⟩:=hown' c q hc
    exact⟨fun hh=>by have:=hH _ hh; omega,(Array.getElem?_eq_some_iff.1 hg).1⟩
  ·rcases hget b1 k1 g1 with⟨hb1,hk1⟩ | ⟨rfl,rfl⟩<;>rcases hget b2 k2 g2 with⟨hb2,hk2⟩ | ⟨rfl,rfl⟩
   ·rw[hlt b1 hb1] at g3
    rw[hlt b2 hb2] at g4
    exact hR.inj b1 b2 k1 k2 c q1 q2 hk1 hk2 g3 g4
   ·rw[hlt b1 hb1] at g3
    have h6:=(hR.hid b1 k1 c q1 hk1 g3).2
    have h7:=(hown' c q2 g4).1
    omega
   ·rw[hlt b2 hb2] at g4
    have h6:=(hR.hid b2 k2 c q2 hk2 g4).2
    have h7:=(hown' c q1 g3).1
    omega
   ·rfl
  ·refine⟨?_,by simp[Mem]⟩
   simp only[Shp]
   rcases h2.2 with⟨hvn,h0⟩ | ⟨g,cap,cur,hvg,_,hg,hnc,hcm,hcs,htk⟩
   ·exact⟨⟨_,_,_,hvn⟩,_,by simp; rfl,Nat.le_refl _,fun _=>.inl ⟨h0,by trivial,hvn⟩⟩
   ·refine⟨⟨_,_,_,hvg⟩,⟨0,true,el,sz,new⟩,by simp,Nat.le_refl _,fun _=>.inr ⟨g,cap * sz,cap,?_,by simpa using hvg,hnc,hcm,.inr (by simp)⟩⟩
    simp only[ι',if_true,hvg,placeOf]
 ·-- to a block of one's own
  rename_i b ver i0 len
  split at h
  case h_2=>cases h
  rename_i k hk
  split at h
  case isFalse=>cases h
  rename_i hh
  obtain⟨rfl,hlen,hwr,hkty,hksz⟩:=hh
  simp only[Option.some.injEq,Prod.mk.injEq] at h
  obtain⟨rfl,rfl,rfl⟩:=h
  have hAb:=curB_get hk
  have hver:=(curB_spec hk).2
  have hblt:=(gSI.1 hAb).1
  have hbr:=hR.blk b k hAb
  obtain⟨xs,hown,hxs,hob⟩:∃ xs:List Value,w.ownsRow 0 el sz us len xs∧(∀ (i:Nat) (y:List AV),k.els[i]? = some y→y.length=sz∧∀ (j:Nat) (av:AV),y[j]? = some av→∃ u,xs[i * sz + j]? = some u∧Val ι A (Nn H ι A) w av u∧u.oneCell'=true) ∧
   (∀ c,us.ownBlock=some c→∃ q,ι b=some (c,q)):=by
   rcases own_shp hk hs.1 with⟨h0,_,rfl⟩ | ⟨c,q,cap,hι,rfl,hlc,hcm,hcn⟩
   ·have hels:k.els=[]:=List.eq_nil_of_length_eq_zero (by omega)
    rw[h0]
    exact⟨[],World.ownsRow_nil _ _ _ _,by simp[hels],by simp[Value.ownBlock]⟩
   ·unfold BlkRel at hbr
    rw[hι] at hbr
    obtain⟨arr,a1,a2,a3,a4⟩:=hbr
    have a1:=a1.cells (curB_ty hk)
    have a2:=a2.1 (curB_ty hk)
    have hmul:len * sz≤cap * sz:=Nat.mul_le_mul_right _ hlc
    have hcn:=hcn.resolve_left (Nat.lt_irrefl 0)
    have hcap:arr.size=cap * sz:=by rw[a2,← hcn,hksz,Nat.zero_add]
    refine⟨arr.toList.take (len * sz),⟨by simp; omega,.inr ⟨c,cap,arr,by simp,Nat.zero_le _,by rw[← hkty]; exact a1,hlc,hcm,hcap,rfl⟩⟩,fun i' y hy=>?_,fun c' hc'=>?_⟩
    ·obtain⟨q1,q2⟩:=a4 i' y hy
     rw[hksz] at q1 q2
     refine⟨q1,fun j av hj=>?_⟩
     obtain⟨u,e1,e2,e3⟩:=q2 j av hj
     have hjl:=(gSI.1 hj).1
     have hil:=(gSI.1 hy).1
     have:=Nat.mul_le_mul_right sz (show i' + 1≤len by omega)
     rw[Nat.add_mul,Nat.one_mul] at this
     refine⟨u,?_,e2,e3⟩
     rw[List.getElem?_take_of_lt (by omega)]
     simpa using e1
    ·simp only[Value.ownBlock,Option.some.injEq] at hc'
     subst hc'
     exact⟨q,hι⟩
  obtain⟨v',w',h1,h2,h3,h5⟩:=hrun len xs hown hm hmb
  let k':Blk:=⟨ver + 1,true,el,sz,k.els++new⟩
  let ι':Place:=fun b'=>if b'=b then (placeOf sz v') else ι b'
  have hne:∀ b',b'≠b→ι' b'=ι b':=fun b' hb=>by simp only[ι']; rw[if_neg hb]
  have hget:∀ (b':Nat) (k2:Blk),(A.set b k')[b']? = some k2→(b'=b∧k2=k')∨(b'≠b∧A[b']? = some k2):=by
   intro b' k2 hb'
   by_cases he:b=b'
   ·subst he
    rw[gSS hblt] at hb'
    exact .inl ⟨rfl,(oSI hb').symm⟩
   ·rw[gSN he] at hb'
    exact .inr ⟨fun h=>he h.symm,hb'⟩
  have hown':∀ c q,ι' b=some (c,q)→(c=w.heap.size∨∃ q',ι b=some (c,q'))∧∃ cap cur,v' = .slice (some ⟨c,0,none⟩) (len + new.length) cap∧w'.heap[c]? = some (.cells cur el (0,0))∧len + new.length≤cap∧cap≤maxLen∧cur.size=cap * sz∧q=cap * sz ∧
   cur.toList.take ((len + new.length) * sz)=xs++news:=by
   intro c q hq
   simp only[ι',if_true] at hq
   rcases h2.2 with⟨rfl,_⟩ | ⟨g,cap,cur,rfl,_,hg,hnc,hcm,hcs,htk⟩
   ·simp[placeOf] at hq
   ·simp only[placeOf,Option.some.injEq,Prod.mk.injEq] at hq
    obtain⟨rfl,rfl⟩:=hq
    refine⟨?_,cap,cur,rfl,hg,hnc,hcm,hcs,rfl,htk⟩
    rcases h5 with h5 | h5
    ·exact .inr (hob g (by rw[← h5]; rfl))
    ·simp[Value.ownBlock] at h5
     exact .inl h5
  have hMb:∀ c q,ι b=some (c,q)→Mu ι A c:=fun c q hc=>⟨b,k,q,hAb,hwr,hc⟩
  have hblock:∀ c,c < w.heap.size→¬ Mu ι A c→SameB w w' c:=fun c hc hn=>h3.block c hc fun he=>by
   obtain⟨q,hq⟩:=hob c he.symm
   exact hn (hMb c q hq)
  have hst:Step ι A w ι' (A.set b k') w':=by
   refine⟨fun b' k2 hb'=>?_,fun c hc=>?_,hblock,h3.size,h3.os,h3.tape,h3.output⟩
   ·by_cases he:b'=b
    ·subst he
     rw[hAb] at hb'
     obtain rfl:=oSI hb'
     exact⟨k',gSS hblt,by simp only[k']; omega,fun hh=>by simp only[k'] at hh; omega⟩
    ·exact⟨k2,by rw[gSN (Ne.symm he)]; exact hb',Nat.le_refl _,fun _=>⟨hne b' he,rfl⟩⟩
   ·obtain⟨b',k2,q,g1,g2,g3⟩:=hc
    rcases hget b' k2 g1 with⟨rfl,rfl⟩ | ⟨hb',hk2⟩
    ·rcases (hown' c q g3).1 with h6 | ⟨q',h6⟩
     ·exact .inr (by omega)
     ·exact .inl (hMb c q' h6)
    ·exact .inl ⟨b',k2,q,hk2,g2,by rw[← hne b' hb']; exact g3⟩
  have hv:∀ c u,Val ι A (Nn H ι A) w c u→Val ι' (A.set b k') (Nn H ι' (A.set b k')) w' c u:=fun c u hv=>Val.step hst hv
  refine⟨v',w',ι',h1,⟨fun b' k2 hb'=>?_,fun b' k2 c q hb' hc=>?_,fun b1 b2 k1 k2 c q1 q2 g1 g2 g3 g4=>?_⟩,hst,?_,fun c hc hn=>h3.block c hc hn⟩
  ·rcases hget b' k2 hb' with⟨rfl,rfl⟩ | ⟨hb2,hk2⟩
   ·unfold BlkRel
    split
    ·rename_i c q hq
     obtain⟨_,cap,cur,_,hg,hnc,_,hcs,rfl,htk⟩:=hown' c q hq
     have hxl:=hown.1
     refine⟨cur,.inl ⟨byt_ty hby,hg⟩,⟨fun _=>hcs,fun h=>absurd (byt_ty hby) h⟩,by simp only[k',List.length_append]; rw[← hlen,hcs]; exact Nat.mul_le_mul_right _ hnc,fun i' y hy=>?_⟩
     simp only[k'] at hy ⊢
     have hcur:∀ (p:Nat) (u:Value),(xs++news)[p]? = some u→cur[p]? = some u:=by
      intro p u hp
      rw[← htk,List.getElem?_take] at hp
      split at hp
      ·simpa using hp
      ·cases hp
     rw[List.getElem?_append] at hy
     split at hy
     ·rename_i hil
      refine⟨(hxs i' y hy).1,fun j av hj=>?_⟩
      obtain⟨u,e1,e2,e3⟩:=(hxs i' y hy).2 j av hj
      refine⟨u,hcur _ _ ?_,hv _ _ e2,e3⟩
      rw[gAL (gSI.1 e1).1]
      exact e1
     ·rename_i hil
      refine⟨hnl _ y hy,fun j av hj=>?_⟩
      obtain⟨u,e1,e2,e3⟩:=n4 _ y hy j av hj
      refine⟨u,hcur _ _ ?_,hv _ _ e2,e3⟩
      have hge:=Nat.mul_le_mul_right sz (show len≤i' by omega)
      rw[List.getElem?_append_right (by rw[hxl]; omega),hxl]
      rw[← hlen,Nat.sub_mul] at e1
      rw[show i' * sz + j - len * sz=i' * sz - len * sz + j by omega]
      exact e1
    ·rename_i hq
     rcases h2.2 with⟨_,h0⟩ | ⟨g,cap,cur,hvg,_⟩
     ·exact List.eq_nil_of_length_eq_zero (by simp only[k',List.length_append]; omega)
     ·simp[ι',hvg,placeOf] at hq
   ·refine BlkRel.step (hR.blk b' k2 hk2) (hne b' hb2) (fun c q hc=>?_) hv
    refine h3.block c (hR.hid b' k2 c q hk2 hc).2 fun he=>hb2 ?_
    obtain⟨q',hq'⟩:=hob c he.symm
    exact hR.inj b' b k2 k c q q' hk2 hAb hc hq'
  ·rcases hget b' k2 hb' with⟨rfl,rfl⟩ | ⟨hb2,hk2⟩
   ·obtain⟨h6,cap,cur,_,hg,_⟩:=hown' c q hc
    refine⟨fun hh=>?_,(Array.getElem?_eq_some_iff.1 hg).1⟩
    rcases h6 with rfl | ⟨q',h6⟩
    ·have:=hH _ hh; omega
    ·exact (hR.hid b' k c q' hAb h6).1 hh
   ·rw[hne b' hb2] at hc
    have:=hR.hid b' k2 c q hk2 hc
    exact⟨this.1,Nat.lt_of_lt_of_le this.2 h3.size⟩
  ·rcases hget b1 k1 g1 with⟨rfl,rfl⟩ | ⟨hb1,hk1⟩<;>rcases hget b2 k2 g2 with⟨rfl,rfl⟩ | ⟨hb2,hk2⟩
   ·rfl
   ·rw[hne b2 hb2] at g4
    rcases (hown' c q1 g3).1 with rfl | ⟨q',h6⟩
    ·have:=(hR.hid b2 k2 _ q2 hk2 g4).2; omega
    ·exact hR.inj b1 b2 k k2 c q' q2 hAb hk2 h6 g4
   ·rw[hne b1 hb1] at g3
    rcases (hown' c q2 g4).1 with rfl | ⟨q',h6⟩
    ·have:=(hR.hid b1 k1 _ q1 hk1 g3).2; omega
    ·exact hR.inj b1 b2 k1 k c q1 q' hk1 hAb g3 h6
   ·rw[hne b1 hb1] at g3
    rw[hne b2 hb2] at g4
    exact hR.inj b1 b2 k1 k2 c q1 q2 hk1 hk2 g3 g4
  ·refine⟨?_,by simp[Mem]⟩
   simp only[Shp]
   rcases h2.2 with⟨hvn,h0⟩ | ⟨g,cap,cur,hvg,_,hg,hnc,hcm,hcs,htk⟩
   ·exact⟨⟨_,_,_,hvn⟩,k',gSS hblt,Nat.le_refl _,fun _=>.inl ⟨h0,by trivial,hvn⟩⟩
   ·refine⟨⟨_,_,_,hvg⟩,k',gSS hblt,Nat.le_refl _,fun _=>.inr ⟨g,cap * sz,cap,?_,by simpa using hvg,hnc,hcm,.inr (by simp[k'])⟩⟩
    simp only[ι',if_true,hvg,placeOf]
 ·cases h
theorem aRaw_app {s x:Operand} {t el sz bytes:Nat} {d:Option Nat} {ty:TypeId} {pos:String} {af:Array Edge} {gd:Option (Nat×Bool)} {K:AKont} (hby:byt P t=some (el,sz,bytes))
 (h:aApp (appA el sz A (eva e s) (eva e x)) bytes e d K):aRaw P n ⟨d,.call ⟨.builtin .append,#[s,x],#[t,t]⟩,ty,pos,af,gd⟩ e A K:=by
 obtain⟨r,A',m,hr,hm,hmb,hk⟩:=h
 rintro C ec w hn ⟨h0,ι,h1,h2,h3,h4⟩
 obtain⟨v,w',ι',g1,g2,g3,g4,_⟩:=app_sound (ty:=ty) hby hr hm hmb h1 (fun c hc=>Nat.lt_of_lt_of_le (h0.1 c hc) h2.size) ⟨eva_shp h3 s,eva_mem h4 s⟩ ⟨eva_shp h3 x,eva_mem h4 x⟩
 unfold vRaw execOp
 simp only[resolve,invoke,Sem.run_bind,Sem.run_pure,Result.andThen_ok]
 simp only[Go.builtin,List.map_toArray,List.map_cons,List.map_nil,Sem.run_bind,g1,Result.andThen_ok,Sem.run_pure]
 exact⟨_,_,hk,h0,ι',g2,h2.trans g3,shp_upd (fun i=>Shp.step g3.stab _ _ (h3 i)) g4.1,mem_upd (fun i=>Mem.keep g3.keepD _ _ (h4 i)) g4.2⟩
end
end Go.Proofs.YtfnbhkbfelllgaaGreatDoor
