import Derived.Test.YtfnbhkbfelllgaaGreatDoorAx
import Derived.Test.YtfnbhkbfelllgaaGreatDoorAo
import Derived.Test.YtfnbhkbfelllgaaGreatDoorAs
set_option linter.all false
namespace Go.Proofs.YtfnbhkbfelllgaaGreatDoor
open Go.RowKit
section
variable {P:Program} {H:Nat→Prop} {ι ι':Place} {A A':AHeap} {w w':World} {e:AEnv} {ec:Env} {C:Ctx} {n:Nat} {K:AKont}
theorem row_new {el sz:Nat} {new:List (List AV)} {news:List Value} {v':Value} (hty:el < 1000000) (hR:Rel H ι A w) (hH:∀ c,H c→c < w.heap.size) (h2:w'.ownsRow 0 el sz v' new.length news) (h3:w.grownBy w' none)
 (h5:v'.ownBlock=none∨v'.ownBlock=some w.heap.size) (hnl:∀ (i:Nat) (y:List AV),new[i]? = some y→y.length=sz)
 (n4:∀ (i:Nat) (x:List AV),new[i]? = some x→∀ (j:Nat) (c:AV),x[j]? = some c→∃ v,news[i * sz + j]? = some v∧Val ι A (Nn H ι A) w c v∧v.oneCell'=true) :
 ∃ ι',Rel H ι' (A++[⟨0,true,el,sz,new⟩]) w'∧Step ι A w ι' (A++[⟨0,true,el,sz,new⟩]) w'∧Val ι' (A++[⟨0,true,el,sz,new⟩]) (Nn H ι' (A++[⟨0,true,el,sz,new⟩])) w' (.own A.length 0 0 new.length) v':=by
 let ι':Place:=fun b=>if b=A.length then (placeOf sz v') else ι b
 have hlt:∀ b,b < A.length→ι' b=ι b:=fun b hb=>by simp only[ι']; rw[if_neg (by omega)]
 have hget:∀ (b:Nat) (k':Blk),(A++[⟨0,true,el,sz,new⟩])[b]? = some k'→(b < A.length∧A[b]? = some k')∨(b=A.length∧k'=⟨0,true,el,sz,new⟩):=by
  intro b k' h
  rw[List.getElem?_append] at h
  split at h
  ·exact .inl ⟨‹_›,h⟩
  ·have h0:=(gSI.1 h).1
   simp at h0
   have:b=A.length:=by omega
   subst this
   simp at h
   exact .inr ⟨rfl,h.symm⟩
 have hown':∀ c q,ι' A.length=some (c,q)→c=w.heap.size∧∃ cap cur,v' = .slice (some ⟨c,0,none⟩) new.length cap∧w'.heap[c]? = some (.cells cur el (0,0))∧new.length≤cap∧cap≤maxLen∧cur.size=cap * sz∧q=cap * sz∧cur.toList.take (new.length * sz)=news:=by
  intro c q hq
  simp only[ι',if_true] at hq
  rcases h2.2 with⟨rfl,_⟩ | ⟨g,cap,cur,rfl,_,hg,hnc,hcm,hcs,htk⟩
  ·simp[placeOf] at hq
  ·simp only[placeOf,Option.some.injEq,Prod.mk.injEq] at hq
   obtain⟨rfl,rfl⟩:=hq
   refine⟨?_,cap,cur,rfl,hg,hnc,hcm,hcs,rfl,htk⟩
   simp[Value.ownBlock] at h5
   exact h5
 have hst:Step ι A w ι' (A++[⟨0,true,el,sz,new⟩]) w':=by
  refine⟨fun b k hb=>⟨k,by rw[gAL (gSI.1 hb).1]; exact hb,Nat.le_refl _,fun _=>⟨hlt b (gSI.1 hb).1,rfl⟩⟩,fun c hc=>?_,fun c hc _=>h3.block c hc (by simp),h3.size,h3.os,h3.tape,h3.output⟩
  obtain⟨b,k,q,g1,g2,g3⟩:=hc
  rcases hget b k g1 with⟨hb,hk⟩ | ⟨rfl,rfl⟩
  ·exact .inl ⟨b,k,q,hk,g2,by rw[← hlt b hb]; exact g3⟩
  ·exact .inr (by rw[(hown' c q g3).1]; exact Nat.le_refl _)
 have hv:∀ c u,Val ι A (Nn H ι A) w c u→Val ι' (A++[⟨0,true,el,sz,new⟩]) (Nn H ι' (A++[⟨0,true,el,sz,new⟩])) w' c u:=fun c u hv=>Val.step hst hv
 refine⟨ι',⟨fun b k hb=>?_,fun b k c q hb hc=>?_,fun b1 b2 k1 k2 c q1 q2 g1 g2 g3 g4=>?_⟩,hst,?_⟩
 ·rcases hget b k hb with⟨hb',hk⟩ | ⟨rfl,rfl⟩
  ·exact BlkRel.step (hR.blk b k hk) (hlt b hb') (fun c q hc=>h3.block c (hR.hid b k c q hk hc).2 (by simp)) hv
  ·unfold BlkRel
   split
   ·rename_i c q hq
    obtain⟨_,cap,cur,_,hg,hnc,_,hcs,rfl,htk⟩:=hown' c q hq
    refine⟨cur,.inl ⟨hty,hg⟩,⟨fun _=>hcs,fun h=>absurd hty h⟩,by rw[hcs]; exact Nat.mul_le_mul_right _ hnc,fun i' y hy=>⟨hnl i' y hy,fun j av hj=>?_⟩⟩
    obtain⟨u,e1,e2,e3⟩:=n4 i' y hy j av hj
    refine⟨u,?_,hv _ _ e2,e3⟩
    rw[← htk,List.getElem?_take] at e1
    split at e1
    ·simpa using e1
    ·cases e1
   ·rename_i hq
    rcases h2.2 with⟨_,h0⟩ | ⟨g,cap,cur,hvg,_⟩
    ·exact List.eq_nil_of_length_eq_zero h0
    ·simp[ι',hvg,placeOf] at hq
 ·rcases hget b k hb with⟨hb',hk⟩ | ⟨rfl,rfl⟩
  ·rw[hlt b hb'] at hc
   have:=hR.hid b k c q hk hc
   exact⟨this.1,Nat.lt_of_lt_of_le this.2 h3.size⟩
  ·obtain⟨rfl,cap,cur,_,hg,_⟩:=hown' c q hc
   exact⟨fun hh=>by have:=hH _ hh; omega,(Array.getElem?_eq_some_iff.1 hg).1⟩
 ·rcases hget b1 k1 g1 with⟨hb1,hk1⟩ | ⟨rfl,rfl⟩<;>rcases hget b2 k2 g2 with⟨hb2,hk2⟩ | ⟨rfl,rfl⟩
  ·rw[hlt b1 hb1] at g3
   rw[hlt b2 hb2] at g4
   exact hR.inj b1 b2 k1 k2 c q1 q2 hk1 hk2 g3 g4
  ·rw[hlt b1 hb1] at g3
   have h6:=(hR.hid b1 k1 c q1 hk1 g3).2
   have h7:=(hown' c q2 g4).1
   omega
  ·rw[hlt b2 hb2] at g4
   have h6:=(hR.hid b2 k2 c q2 hk2 g4).2
   have h7:=(hown' c q1 g3).1
   omega
  ·rfl
 ·refine⟨?_,by simp[Mem]⟩
  simp only[Shp]
  rcases h2.2 with⟨hvn,h0⟩ | ⟨g,cap,cur,hvg,_,hg,hnc,hcm,hcs,htk⟩
  ·exact⟨⟨_,_,_,hvn⟩,_,by simp; rfl,Nat.le_refl _,fun _=>.inl ⟨h0,by trivial,hvn⟩⟩
  ·refine⟨⟨_,_,_,hvg⟩,⟨0,true,el,sz,new⟩,by simp,Nat.le_refl _,fun _=>.inr ⟨g,cap * sz,cap,?_,by simpa using hvg,hnc,hcm,.inr (by simp)⟩⟩
   simp only[ι',if_true,hvg,placeOf]
theorem aRaw_cap {x:Operand} {t el:TypeId} {d:Option Nat} {ty:TypeId} {pos:String} {af:Array Edge} {gd:Option (Nat×Bool)} (ht:P.underlying t=some (.slice el)) (hx:eva e x = .d (.v (.slice none 0 0))) (hk:K (aupd e d (.d (.v (.int .i64 0)))) A) :
 aRaw P n ⟨d,.call ⟨.builtin .cap,#[x],#[t]⟩,ty,pos,af,gd⟩ e A K:=by
 rintro C ec w hn ⟨h0,ι,h1,h2,h3,h4⟩
 have ex:ev ec x = .slice none 0 0:=by have:=eva_shp h3 x; rw[hx] at this; simpa [Shp] using this
 unfold vRaw execOp
 simp only[resolve,invoke,Sem.run_bind,Sem.run_pure,Result.andThen_ok]
 simp[Go.builtin,Builtin.cap_,ex,run_underlying ht]
 refine⟨_,_,hk,h0,ι,h1,h2,shp_upd h3 (by simp[Shp]; rfl),mem_upd h4 (by simp[Mem,Rd,Value.oneCell']; rfl)⟩
theorem aRaw_appz {s x:Operand} {t t' el sz bytes m:Nat} {z:List AV} {d:Option Nat} {ty:TypeId} {pos:String} {af:Array Edge} {gd:Option (Nat×Bool)} (hby:byt P t=some (el,sz,bytes)) (hz:zvA P el=some z)
 (ht':P.underlying t'=some (.int .i64)) (hs:eva e s = .d (.v (.slice none 0 0))) (hx:eva e x = .d (.v (.int .i64 m))) (h0:0 < m) (hm:m≤maxLen) (hmb:m * bytes≤140737488355328)
 (hk:K (aupd e d (.own A.length 0 0 m)) (A++[⟨0,true,el,sz,List.replicate m z⟩])):aRaw P n ⟨d,.call ⟨.builtin .append,#[s,x],#[t,t']⟩,ty,pos,af,gd⟩ e A K:=by
 rintro C ec w hn ⟨hh0,ι,h1,h2,h3,h4⟩
 obtain⟨i,z0,hu,hi,his,hib,hsz,hz0,hzs⟩:=byt_spec hby
 obtain⟨z1,f1,f2,f3⟩:=zvA_spec hz
 have hz1:z1=z0:=by
  unfold zv at f1
  rw[hi] at f1
  simp only[Option.bind_some,hz0,Option.some.injEq] at f1
  exact f1.symm
 subst hz1
 have es:ev ec s = .slice none 0 0:=by have:=eva_shp h3 s; rw[hs] at this; simpa [Shp] using this
 have ex:ev ec x = .int .i64 m:=by have:=eva_shp h3 x; rw[hx] at this; simpa [Shp] using this
 have hwr:IntKind.i64.wrap (m:Int)=m:=by unfold maxLen at hm; exact i64w (by omega)
 have hge:=grownCap_ge w m 0 el
 have hcm:grownCap w m 0 el≤maxLen:=grownCap_le_maxLen w m 0 el hm
 have hzl:z.length=sz:=by rw[f2,List.length_map,Array.length_toList,hzs]
 have hrun:(Builtin.append_ #[t,t'] ty #[.slice none 0 0,.int .i64 m]).run P w =
  .ok (.slice (some ⟨w.heap.size,0,none⟩) m (grownCap w m 0 el)) (w.drew.alloc (.cells (Builtin.zeroCells z1.cells m++Builtin.zeroCells z1.cells (grownCap w m 0 el - m)) el)):=by
  have hm0:m≠0:=by omega
  have hm63:¬ ((9223372036854775807:Int) < m):=by unfold maxLen at hm; omega
  have hb1:¬ ((281474976710656:Int) < (m:Int) * (i.bytes:Int)):=by
   rw[hib,← Int.natCast_mul]
   omega
  have hb2:¬ (281474976710656 < Builtin.nextslicecap m 0 * i.bytes):=by rw[nextslicecap_zero h0,hib]; omega
  have hneg:¬ ((m:Int) < 0):=by omega
  have hms:m * i.size≠0:=by rw[his]; exact Nat.ne_of_gt (Nat.mul_pos h0 hsz)
  simp[Builtin.append_,run_underlying hu,run_underlying ht',sizeOf,typeInfo,zeroValue,hi,hz0,asInt,asIntOf,hwr,hm0,hm63,hb1,hb2,hneg,hms,Question.forced,run_firstCells_none,newRow,grownCap]
 have hzc:∀ q,(Builtin.zeroCells z1.cells q).size=q * sz:=fun q=>by rw[size_zeroCells,hzs]
 have hlen:(List.replicate m z).length=m:=List.length_replicate
 obtain⟨ι',g1,g2,g3⟩:=row_new (el:=el) (sz:=sz) (new:=List.replicate m z) (news:=(Builtin.zeroCells z1.cells m).toList) (v':=.slice (some ⟨w.heap.size,0,none⟩) m (grownCap w m 0 el))
  (w':=w.drew.alloc (.cells (Builtin.zeroCells z1.cells m++Builtin.zeroCells z1.cells (grownCap w m 0 el - m)) el)) (byt_ty hby) h1 (fun c hc=>Nat.lt_of_lt_of_le (hh0.1 c hc) h2.size)
  ⟨by rw[hlen,Array.length_toList,hzc],.inr ⟨w.heap.size,_,_,by rw[hlen],Nat.zero_le _,heap_alloc_new w.drew _,by rw[hlen]; exact hge,hcm,by
   rw[Array.size_append,hzc,hzc,← Nat.add_mul]; congr 1; omega,by
   rw[hlen,Array.toList_append,← hzc m,← Array.length_toList]; exact List.take_left⟩⟩
  ⟨rfl,rfl,rfl,by simp,fun k hk _=>heap_push_lt w.drew _ hk⟩ (.inr rfl) (fun i y hy=>by
   rw[List.getElem?_replicate] at hy
   split at hy
   ·cases hy; exact hzl
   ·cases hy) (fun j x hj q c hq=>by
   rw[List.getElem?_replicate] at hj
   split at hj
   case isFalse=>cases hj
   rename_i hjm
   cases hj
   have hql:q < sz:=by have:=(gSI.1 hq).1; omega
   rw[f2,List.getElem?_map,Option.map_eq_some_iff] at hq
   obtain⟨v,hv,rfl⟩:=hq
   have hltt:j * sz + q < m * sz:=by
    have:(j + 1) * sz≤m * sz:=Nat.mul_le_mul_right _ (by omega)
    rw[Nat.add_mul] at this
    omega
   refine⟨v,?_,⟨by simp[Shp],by simp only[Mem,Rd,true_and]; exact f3 v (gMO hv)⟩,f3 v (gMO hv)⟩
   rw[Array.getElem?_toList]
   unfold Builtin.zeroCells
   rw[hzs,Array.getElem?_map,Array.getElem?_range,if_pos hltt]
   simp only[Option.map_some,Option.some.injEq]
   rw[show (j * sz + q) % sz=q by rw[Nat.mul_comm,Nat.mul_add_mod,Nat.mod_eq_of_lt hql]]
   have hv':z1.cells[q]? = some v:=by simpa using hv
   rw[getElem!_def,hv'])
 rw[hlen] at g3
 unfold vRaw execOp
 simp only[resolve,invoke,Sem.run_bind,Sem.run_pure,Result.andThen_ok]
 simp only[Go.builtin,List.map_toArray,List.map_cons,List.map_nil,Sem.run_bind,es,ex,hrun,Result.andThen_ok,Sem.run_pure]
 exact⟨_,_,hk,hh0,ι',g1,h2.trans g2,shp_upd (fun i=>Shp.step g2.stab _ _ (h3 i)) g3.1,mem_upd (fun i=>Mem.keep g2.keepD _ _ (h4 i)) g3.2⟩
end
end Go.Proofs.YtfnbhkbfelllgaaGreatDoor
