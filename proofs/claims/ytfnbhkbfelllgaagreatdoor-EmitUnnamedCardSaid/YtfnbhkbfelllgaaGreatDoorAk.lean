import Derived.Test.YtfnbhkbfelllgaaGreatDoorAj
set_option linter.all false
namespace Go.Proofs.YtfnbhkbfelllgaaGreatDoor
open Go.RowKit
def cln (m:Nat):AV→AV
 | .own b ver i len=>if b < m then .own b ver i len else .any
 | .ptr b ver i o=>if b < m then .ptr b ver i o else .any
 | .agg cs=>.agg (clnL m cs)
 | .tup cs=>.tup (clnL m cs)
 | .fn f fs cs=>.fn f (clnL m fs) (clnL m cs)
 | .mp b ver=>if b < m then .mp b ver else .any
 | .ifc t c=>.ifc t (cln m c)
 | .any=>.any
 | .d x=>.d x
 | .ip cs=>.ip cs
where clnL (m:Nat):List AV→List AV
 | []=>[]
 | c::cs=>cln m c::clnL m cs
theorem cln_d (m:Nat) (ds:List D):(ds.map AV.d).map (cln m)=ds.map AV.d:=by
 rw[List.map_map]
 rfl
def clnE (m:Nat) (els:List (List AV)):List (List AV):=els.map fun x=>x.map (cln m)
def clnB (m:Nat) (k:Blk):Blk:=⟨k.ver,k.wr,k.ty,k.sz,clnE m k.els⟩
@[simp] theorem clnE_dEls (m : Nat) (xs : List (List D)) : clnE m (dEls xs) = dEls xs := by
  simp only[clnE,dEls,List.map_map]
  apply List.map_congr_left
  intro x _
  exact cln_d m x
@[simp] theorem clnE_nil (m:Nat):clnE m []=[]:=rfl
@[simp] theorem clnE_cons (m:Nat) (x:List AV) (xs:List (List AV)):clnE m (x::xs)=x.map (cln m)::clnE m xs:=rfl
section
variable {P:Program} {H:Nat→Prop} {ι ι':Place} {A A':AHeap} {w w':World} {e:AEnv} {ec:Env} {C:Ctx} {n:Nat}
theorem take_get (A:AHeap) (m b:Nat):((A.take m).map (clnB m))[b]? = if b < m then (A[b]?).map (clnB m) else none:=by
 rw[List.getElem?_map,List.getElem?_take]
 split<;>rfl
mutual
theorem cln_shp (m:Nat):∀ (c:AV) (u:Value),Shp ι A c u→Shp ι ((A.take m).map (clnB m)) (cln m c) u
 | .any,u,h=>by simp[cln,Shp]
 | .d (.v x),u,h=>by simpa [cln,Shp] using h
 | .d (.sl _ xs),u,h=>by simpa [cln,Shp] using h
 | .own b ver i len, u, h => by
   simp only[cln]
   split
   ·rename_i hb
    simp only[Shp] at h ⊢
    obtain⟨h0,k,h1,h2,h3⟩:=h
    exact⟨h0,clnB m k,by rw[take_get,if_pos hb,h1]; rfl,h2,h3⟩
   ·simp[Shp]
 | .ptr b ver i o, u, h => by
   simp only[cln]
   split
   ·rename_i hb
    simp only[Shp] at h ⊢
    obtain⟨h0,k,h1,h2,h3⟩:=h
    exact⟨h0,clnB m k,by rw[take_get,if_pos hb,h1]; rfl,h2,h3⟩
   ·simp[Shp]
 | .ip _,u,h=>by simpa [cln,Shp] using h
 | .agg cs, u, h => by
   simp only[cln,Shp] at h ⊢
   obtain⟨l,h1,h2⟩:=h
   exact⟨l,h1,clnL_shp m cs l h2⟩
 | .tup cs, u, h => by
   simp only[cln,Shp] at h ⊢
   obtain⟨l,h1,h2⟩:=h
   exact⟨l,h1,clnL_shp m cs l h2⟩
 | .fn f fs cs, u, h => by
   simp only[cln,Shp] at h ⊢
   obtain⟨l,l',h1,h2,h3⟩:=h
   exact⟨l,l',h1,clnL_shp m fs l h2,clnL_shp m cs l' h3⟩
 | .mp b ver, u, h => by
   simp only[cln]
   split
   ·rename_i hb
    simp only[Shp] at h ⊢
    obtain⟨h0,k,h1,h2,h3⟩:=h
    exact⟨h0,clnB m k,by rw[take_get,if_pos hb,h1]; rfl,h2,h3⟩
   ·simp[Shp]
 | .ifc t c, u, h => by
   simp only[cln,Shp] at h ⊢
   obtain⟨v,h1,h2⟩:=h
   exact⟨v,h1,cln_shp m c v h2⟩
theorem clnL_shp (m:Nat):∀ (cs:List AV) (l:List Value),ShpL ι A cs l→ShpL ι ((A.take m).map (clnB m)) (cln.clnL m cs) l
 | [],l,h=>by simpa [cln.clnL,ShpL] using h
 | c :: cs, l, h => by
   simp only[cln.clnL,ShpL] at h ⊢
   obtain⟨u,l',h1,h2,h3⟩:=h
   exact⟨u,l',h1,cln_shp m c u h2,clnL_shp m cs l' h3⟩
end
mutual
theorem cln_mem {N:Nat→Prop} (m:Nat):∀ (c:AV) (u:Value),Mem N w c u→Mem N w (cln m c) u
 | .any,u,h=>by simp[cln,Mem]
 | .d x,u,h=>by simpa [cln] using h
 | .own b ver i len,u,h=>by simp only[cln]; split<;>simp[Mem]
 | .ptr b ver i o,u,h=>by simp only[cln]; split<;>simp[Mem]
 | .ip _,u,h=>by simpa [cln] using h
 | .agg cs, u, h => by
   simp only[cln,Mem] at h ⊢
   obtain⟨l,h1,h2,h3⟩:=h
   exact⟨l,h1,clnL_mem m cs l h2,h3⟩
 | .tup cs, u, h => by
   simp only[cln,Mem] at h ⊢
   obtain⟨l,h1,h2⟩:=h
   exact⟨l,h1,clnL_mem m cs l h2⟩
 | .fn f fs cs, u, h => by
   simp only[cln,Mem] at h ⊢
   obtain⟨l,l',h1,h2,h3⟩:=h
   exact⟨l,l',h1,clnL_mem m fs l h2,clnL_mem m cs l' h3⟩
 | .mp b ver,u,h=>by simp only[cln]; split<;>simp[Mem]
 | .ifc t c, u, h => by
   simp only[cln,Mem] at h ⊢
   obtain⟨v,h1,h2⟩:=h
   exact⟨v,h1,cln_mem m c v h2⟩
theorem clnL_mem {N:Nat→Prop} (m:Nat):∀ (cs:List AV) (l:List Value),MemL N w cs l→MemL N w (cln.clnL m cs) l
 | [],l,h=>by simpa [cln.clnL,MemL] using h
 | c :: cs, l, h => by
   simp only[cln.clnL,MemL] at h ⊢
   obtain⟨u,l',h1,h2,h3⟩:=h
   exact⟨u,l',h1,cln_mem m c u h2,clnL_mem m cs l' h3⟩
end
theorem Sub.take (m:Nat) (hm:n≤m) {e:AEnv} {A:AHeap}:Sub n e A (fun i=>cln m (e i)) ((A.take m).map (clnB m)):=by
 rintro C ec w hn ⟨h0,ι,h1,h2,h3,h4⟩
 have hget:∀ (b:Nat) (k:Blk),((A.take m).map (clnB m))[b]? = some k→∃ k0,A[b]? = some k0∧k=clnB m k0∧b < m:=by
  intro b k h
  rw[take_get] at h
  split at h
  ·simp only[Option.map_eq_some_iff] at h
   obtain⟨k0,hk,rfl⟩:=h
   exact⟨k0,hk,rfl,‹_›⟩
  ·cases h
 have hmu:∀ c,Mu ι ((A.take m).map (clnB m)) c→Mu ι A c:=by
  rintro c ⟨b,k,q,g1,g2,g3⟩
  obtain⟨k0,e1,rfl,_⟩:=hget b k g1
  exact⟨b,k0,q,e1,g2,g3⟩
 have hN:∀ c,Nn C.H ι ((A.take m).map (clnB m)) c→Nn C.H ι A c:=fun c h=>h.imp id (hmu c)
 have hv:∀ c u,Val ι A (Nn C.H ι A) w c u→Val ι ((A.take m).map (clnB m)) (Nn C.H ι ((A.take m).map (clnB m))) w (cln m c) u:=fun c u h=>⟨cln_shp m c u h.1,(cln_mem m c u h.2).weak hN⟩
 refine⟨h0,ι,⟨fun b k hb=>?_,fun b k c q hb hc=>?_,fun b b' k k' c q q' g1 g2=>?_⟩,⟨fun b k hb=>?_,fun c hc=>h2.newM c (hmu c hc),h2.keep,h2.size,h2.os,h2.tape,h2.output⟩,fun i=>(hv _ _ ⟨h3 i,h4 i⟩).1,fun i=>(hv _ _ ⟨h3 i,h4 i⟩).2⟩
 ·obtain⟨k0,e1,rfl,_⟩:=hget b k hb
  have:=h1.blk b k0 e1
  unfold BlkRel at this ⊢
  split
  ·rename_i c q hι
   rw[hι] at this
   obtain⟨arr,a1,a2,a3,a4⟩:=this
   refine⟨arr,a1,⟨a2.1,by simpa [clnB,clnE] using a2.2⟩,by simpa [clnB,clnE] using a3,fun i x hi=>?_⟩
   simp only[clnB,clnE,List.getElem?_map,Option.map_eq_some_iff] at hi ⊢
   obtain⟨y,hy,rfl⟩:=hi
   refine⟨by simpa using (a4 i y hy).1,fun j av hj=>?_⟩
   simp only[List.getElem?_map,Option.map_eq_some_iff] at hj
   obtain⟨av0,hj0,rfl⟩:=hj
   obtain⟨u,g1,g2,g3⟩:=(a4 i y hy).2 j av0 hj0
   exact⟨u,g1,hv _ _ g2,g3⟩
  ·rename_i hι
   rw[hι] at this
   simp only at this
   simp[clnB,clnE,this]
 ·obtain⟨k0,e1,rfl,_⟩:=hget b k hb
  exact h1.hid b k0 c q e1 hc
 ·obtain⟨k0,e1,rfl,_⟩:=hget b k g1
  obtain⟨k0',e1',rfl,_⟩:=hget b' k' g2
  exact h1.inj b b' k0 k0' c q q' e1 e1'
 ·obtain⟨k',g1,g2,g3⟩:=h2.stab b k hb
  have hlt:=(gSI.1 hb).1
  exact⟨clnB m k',by rw[take_get,if_pos (by omega),g1]; rfl,g2,g3⟩
def frz (B:List Nat) (A:AHeap):AHeap:=A.mapIdx fun b k=>if B.contains b then ⟨k.ver,false,k.ty,k.sz,k.els⟩ else k
theorem Sub.frz (B:List Nat) {e:AEnv} {A:AHeap}:Sub n e A e (frz B A):=by
 rintro C ec w hn ⟨h0,ι,h1,h2,h3,h4⟩
 have hget:∀ (b:Nat) (k:Blk),(Go.Proofs.YtfnbhkbfelllgaaGreatDoor.frz B A)[b]? = some k→∃ k0,A[b]? = some k0∧k.ver=k0.ver∧k.ty=k0.ty∧k.sz=k0.sz∧k.els=k0.els∧(k.wr=true→k0.wr=true):=by
  intro b k h
  simp only[Go.Proofs.YtfnbhkbfelllgaaGreatDoor.frz,List.getElem?_mapIdx,Option.map_eq_some_iff] at h
  obtain⟨k0,hk,rfl⟩:=h
  refine⟨k0,hk,?_⟩
  split<;>simp
 have hput:∀ (b:Nat) (k:Blk),A[b]? = some k→∃ k',(Go.Proofs.YtfnbhkbfelllgaaGreatDoor.frz B A)[b]? = some k'∧k'.ver=k.ver∧k'.sz=k.sz:=by
  intro b k h
  simp only[Go.Proofs.YtfnbhkbfelllgaaGreatDoor.frz,List.getElem?_mapIdx,h,Option.map_some,Option.some.injEq]
  refine⟨_,rfl,?_⟩
  split<;>simp
 have hmu:∀ c,Mu ι (Go.Proofs.YtfnbhkbfelllgaaGreatDoor.frz B A) c→Mu ι A c:=by
  rintro c ⟨b,k,q,g1,g2,g3⟩
  obtain⟨k0,e1,_,_,_,_,e6⟩:=hget b k g1
  exact⟨b,k0,q,e1,e6 g2,g3⟩
 have hst:Step ι A w ι (Go.Proofs.YtfnbhkbfelllgaaGreatDoor.frz B A) w:=⟨fun b k hb=>by
  obtain⟨k',e1,e2,e3⟩:=hput b k hb
  exact⟨k',e1,by omega,fun _=>⟨rfl,e3⟩⟩,fun c hc=>.inl (hmu c hc),fun _ _ _=>rfl,Nat.le_refl _,rfl,rfl,rfl⟩
 have hv:∀ c u,Val ι A (Nn C.H ι A) w c u→Val ι (Go.Proofs.YtfnbhkbfelllgaaGreatDoor.frz B A) (Nn C.H ι (Go.Proofs.YtfnbhkbfelllgaaGreatDoor.frz B A)) w c u:=fun c u hv=>Val.step hst hv
 refine⟨h0,ι,⟨fun b k hb=>?_,fun b k c q hb hc=>?_,fun b b' k k' c q q' g1 g2=>?_⟩,h2.trans hst,fun i=>(hv _ _ ⟨h3 i,h4 i⟩).1,fun i=>(hv _ _ ⟨h3 i,h4 i⟩).2⟩
 ·obtain⟨k0,e1,_,e3,e4,e5,_⟩:=hget b k hb
  have:=h1.blk b k0 e1
  unfold BlkRel Cells at this ⊢
  rw[e3,e4,e5]
  split
  ·rename_i c q hι
   rw[hι] at this
   obtain⟨arr,a1,a2,a3,a4⟩:=this
   refine⟨arr,a1,a2,a3,fun i x hi=>⟨(a4 i x hi).1,fun j av hj=>?_⟩⟩
   obtain⟨u,g1,g2,g3⟩:=(a4 i x hi).2 j av hj
   exact⟨u,g1,hv _ _ g2,g3⟩
  ·rename_i hι
   rw[hι] at this
   exact this
 ·obtain⟨k0,e1,_⟩:=hget b k hb
  exact h1.hid b k0 c q e1 hc
 ·obtain⟨k0,e1,_⟩:=hget b k g1
  obtain⟨k0',e1',_⟩:=hget b' k' g2
  exact h1.inj b b' k0 k0' c q q' e1 e1'
end
end Go.Proofs.YtfnbhkbfelllgaaGreatDoor
