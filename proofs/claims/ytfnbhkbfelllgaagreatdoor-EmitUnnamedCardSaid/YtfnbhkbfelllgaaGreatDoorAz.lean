import Derived.Test.YtfnbhkbfelllgaaGreatDoorAl
import Derived.Laws.RangeString
set_option linter.all false
namespace Go.Proofs.YtfnbhkbfelllgaaGreatDoor
open Go.RowKit
section
variable {P:Program} {H:Nat→Prop} {ι ι':Place} {A A':AHeap} {w w':World} {e:AEnv} {ec:Env} {C:Ctx} {n:Nat} {K:AKont}
def itB (ver:Nat) (s:ByteArray) (p:Nat):Blk:=⟨ver,true,1000000,2,[[.d (.v (.string s)),.d (.v (.int .i64 p))]]⟩
theorem rel_turn {b:Nat} {k k':Blk} {c m:Nat} {o:Obj} {arr:Array Value} (hR:Rel H ι A w) (hb:A[b]? = some k) (hw:k.wr=true) (hι:ι b=some (c,m)) (hv0:k'.ver=k.ver) (hs0:k'.sz=k.sz) (hw0:k'.wr=true) (ho:ObjIs o k'.ty k'.sz arr)
 (hl:arr.size=k'.els.length * k'.sz) (hc:∀ (i:Nat) (x:List AV),k'.els[i]? = some x→x.length=k'.sz∧∀ (j:Nat) (a:AV),x[j]? = some a→∃ u,arr[i * k'.sz + j]? = some u∧Val ι A (Nn H ι A) w a u∧u.oneCell'=true) :
 Rel H ι (A.set b k') { w with heap:=w.heap.setIfInBounds c o }∧Step ι A w ι (A.set b k') { w with heap:=w.heap.setIfInBounds c o }:=by
 have hlt:=(gSI.1 hb).1
 have hcl:=(hR.hid b k c m hb hι).2
 have hget:∀ (b':Nat) (k2:Blk),(A.set b k')[b']? = some k2→(b'=b∧k2=k')∨(b'≠b∧A[b']? = some k2):=by
  intro b' k2 hb'
  by_cases he:b=b'
  ·subst he
   rw[gSS hlt] at hb'
   exact .inl ⟨rfl,(oSI hb').symm⟩
  ·rw[gSN he] at hb'
   exact .inr ⟨fun h=>he h.symm,hb'⟩
 have hblk:∀ (b':Nat) (k2:Blk),(A.set b k')[b']? = some k2→∃ k3:Blk,A[b']? = some k3∧(k2.wr=true→k3.wr=true):=by
  intro b' k2 hb'
  rcases hget b' k2 hb' with⟨rfl,rfl⟩ | ⟨_,h2⟩
  ·exact⟨k,hb,fun _=>hw⟩
  ·exact⟨k2,h2,id⟩
 have hsame:∀ q,q≠c→SameB w { w with heap:=w.heap.setIfInBounds c o } q:=fun q hq=>by
  show (w.heap.setIfInBounds c o)[q]? = w.heap[q]?
  rw[Array.getElem?_setIfInBounds_ne (fun h=>hq h.symm)]
 have hst:Step ι A w ι (A.set b k') { w with heap:=w.heap.setIfInBounds c o }:=by
  refine⟨fun b' k2 hb'=>?_,fun q hq=>?_,fun q hq hn=>hsame q fun he=>hn (he ▸ ⟨b,k,m,hb,hw,hι⟩),by simp,rfl,rfl,rfl⟩
  ·by_cases he:b=b'
   ·subst he
    rw[hb] at hb'
    obtain rfl:=oSI hb'
    exact⟨k',gSS hlt,by omega,fun _=>⟨rfl,hs0⟩⟩
   ·exact⟨k2,by rw[gSN he]; exact hb',Nat.le_refl _,fun _=>⟨rfl,rfl⟩⟩
  ·obtain⟨b',k2,q',g1,g2,g3⟩:=hq
   obtain⟨k3,g4,g5⟩:=hblk b' k2 g1
   exact .inl ⟨b',k3,q',g4,g5 g2,g3⟩
 have hv:∀ a u,Val ι A (Nn H ι A) w a u→Val ι (A.set b k') (Nn H ι (A.set b k')) { w with heap:=w.heap.setIfInBounds c o } a u:=fun a u hv=>Val.step hst hv
 have hnew:({ w with heap:=w.heap.setIfInBounds c o }:World).heap[c]? = some o:=by
  show (w.heap.setIfInBounds c o)[c]? = some o
  rw[Array.getElem?_setIfInBounds_self,if_pos hcl]
 refine⟨⟨fun b' k2 hb'=>?_,fun b' k2 c2 n2 hb' hc'=>?_,fun b1 b2 k1 k2 c1 n1 n2 g1 g2 g3 g4=>?_⟩,hst⟩
 ·rcases hget b' k2 hb' with⟨rfl,rfl⟩ | ⟨hne,hb2⟩
  ·unfold BlkRel
   rw[hι]
   refine⟨arr,.inr ⟨o,hnew,ho⟩,⟨fun h=>absurd h (objIs_ty ho),fun _=>hl⟩,Nat.le_of_eq hl.symm,fun i x hi=>⟨(hc i x hi).1,fun j a hj=>?_⟩⟩
   obtain⟨u,e1,e2,e3⟩:=(hc i x hi).2 j a hj
   exact⟨u,e1,hv _ _ e2,e3⟩
  ·refine BlkRel.step (hR.blk b' k2 hb2) rfl (fun c2 n2 hc'=>hsame c2 fun he=>hne ?_) hv
   subst he
   exact hR.inj b' b k2 k _ n2 m hb2 hb hc' hι
 ·obtain⟨k3,g4,_⟩:=hblk b' k2 hb'
  have:=hR.hid b' k3 c2 n2 g4 hc'
  exact⟨this.1,by simpa using this.2⟩
 ·obtain⟨k1',h1',_⟩:=hblk b1 k1 g1
  obtain⟨k2',h2',_⟩:=hblk b2 k2 g2
  exact hR.inj b1 b2 k1' k2' c1 n1 n2 h1' h2' g3 g4
theorem itB_cells {N:Nat→Prop} (ver:Nat) (s:ByteArray) (p:Nat):∀ (i:Nat) (x:List AV),(itB ver s p).els[i]? = some x→x.length=(itB ver s p).sz∧∀ (j:Nat) (a:AV),x[j]? = some a→∃ u,(#[Value.string s,.int .i64 p]:Array Value)[i * (itB ver s p).sz + j]? = some u∧Val ι A N w a u∧u.oneCell'=true:=by
 intro i x hi
 cases i with
 | succ i=>simp[itB] at hi
 | zero =>
   simp only[itB,List.getElem?_cons_zero,Option.some.injEq] at hi
   subst hi
   refine⟨rfl,fun j a hj=>?_⟩
   match j,hj with
   | 0, hj =>
     simp at hj
     subst hj
     exact⟨.string s,by simp[itB],⟨by simp[Shp],by simp[Mem,Rd,Value.oneCell']⟩,rfl⟩
   | 1, hj =>
     simp at hj
     subst hj
     exact⟨.int .i64 p,by simp[itB],⟨by simp[Shp],by simp[Mem,Rd,Value.oneCell']⟩,rfl⟩
   | j + 2,hj=>simp at hj
theorem aRaw_range {x:Operand} {t:TypeId} {d:Option Nat} {ty:TypeId} {pos:String} {af:Array Edge} {gd:Option (Nat×Bool)} {s:ByteArray} (ht:P.underlying t=some .string) (hx:eva e x = .d (.v (.string s)))
 (hk:K (aupd e d (.ptr A.length 0 0 0)) (A++[itB 0 s 0])):aRaw P n ⟨d,.range t x,ty,pos,af,gd⟩ e A K:=by
 rintro C ec w hn ⟨h0,ι,h1,h2,h3,h4⟩
 have ex:ev ec x = .string s:=by have:=eva_shp h3 x; rw[hx] at this; simpa [Shp] using this
 obtain⟨g1,g2⟩:=rel_newO (o:=.stringIter s 0) h1 (fun c hc=>Nat.lt_of_lt_of_le (h0.1 c hc) h2.size) (k:=itB 0 s 0) (arr:=#[.string s,.int .i64 0]) (.inr (.inl ⟨s,0,rfl,rfl,rfl⟩)) (by simp[itB]) (fun _=>by simp[itB]) (itB_cells 0 s 0)
 have hrun:(Instr.range t (ev ec x)).run P w = .ok (.pointer (some ⟨w.heap.size,0,none⟩)) (w.alloc (.stringIter s 0)):=by
  rw[ex]
  exact run_range_string w t s ht
 unfold vRaw execOp
 simp only[Sem.run_bind,Sem.run_pure,hrun,Result.andThen_ok]
 refine⟨_,_,hk,h0,_,g1,h2.trans g2,shp_upd (fun i=>Shp.step g2.stab _ _ (h3 i)) ?_,mem_upd (fun i=>Mem.keep g2.keepD _ _ (h4 i)) (by simp[Mem])⟩
 simp only[Shp]
 exact⟨⟨_,rfl⟩,_,by simp; rfl,Nat.le_refl _,fun _=>⟨w.heap.size,2,by simp[newI],by simp⟩⟩
theorem aRaw_next {x:Operand} {b ver p:Nat} {d:Option Nat} {ty:TypeId} {pos:String} {af:Array Edge} {gd:Option (Nat×Bool)} {s:ByteArray} (hx:eva e x = .ptr b ver 0 0) (hb:A[b]? = some (itB ver s p))
 (hk:∀ h:p < s.size,s[p].toNat < 128∧K (aupd e d (.tup [.d (.v (.bool true)),.d (.v (.int .i64 p)),.d (.v (.int .i32 s[p].toNat))])) (A.set b (itB ver s (p + 1))))
 (hk2:s.size≤p→K (aupd e d (.tup [.d (.v (.bool false))])) A):aRaw P n ⟨d,.next x true,ty,pos,af,gd⟩ e A K:=by
 rintro C ec w hn ⟨h0,ι,h1,h2,h3,h4⟩
 have hs:=eva_shp h3 x
 rw[hx] at hs
 simp only[Shp] at hs
 obtain⟨_,k',hk',hv1,hv2⟩:=hs
 rw[hb] at hk'
 obtain rfl:=oSI hk'
 obtain⟨c,m,hι,hu⟩:=hv2 rfl
 simp only[Nat.zero_mul,Nat.add_zero] at hu
 have hbr:=h1.blk b _ hb
 unfold BlkRel at hbr
 rw[hι] at hbr
 obtain⟨arr,a1,_,a3,a4⟩:=hbr
 have hobj:w.heap[c]? = some (.stringIter s p):=by
  rcases a1 with a1 | ⟨o,a1,a5⟩
  ·exact absurd a1.1 (by simp[itB])
  ·rcases a5 with⟨s',p',rfl,_,rfl⟩ | ⟨_,_,_,_,_,_,_,⟨h,_⟩ | ⟨h,_⟩⟩ | ⟨_,_,_,_,_,_,h,_⟩ | ⟨_,_,_,h,_⟩ | ⟨_,_,_,_,_,h,_⟩
   ·obtain⟨_,q⟩:=a4 0 _ rfl
    obtain⟨u0,q1,q2,_⟩:=q 0 _ rfl
    obtain⟨u1,q3,q4,_⟩:=q 1 _ rfl
    have q2:=q2.1
    have q4:=q4.1
    simp only[Shp] at q2 q4
    subst q2 q4
    simp at q1 q3
    obtain rfl:=q1
    have:p'=p:=by omega
    subst this
    exact a1
   ·simp[itB] at h
   ·simp[itB] at h
   ·simp[itB] at h
   ·simp[itB] at h
   ·simp[itB] at h
 rcases Nat.lt_or_ge p s.size with hlt | hge
 ·obtain⟨ha,hK⟩:=hk hlt
  obtain⟨g1,g2⟩:=rel_turn (o:=.stringIter s (p + 1)) (arr:=#[.string s,.int .i64 ((p + 1:Nat):Int)]) h1 hb rfl hι (k':=itB ver s (p + 1)) rfl rfl rfl (.inl ⟨s,p + 1,rfl,rfl,rfl⟩) (by simp[itB]) (itB_cells ver s (p + 1))
  have hrun:(Instr.next (ev ec x) true ty).run P w = .ok (.tuple #[.bool true,.int .i64 p,.int .i32 s[p].toNat]) { w with heap:=w.heap.setIfInBounds c (.stringIter s (p + 1)) }:=by
   rw[hu]
   simp[Instr.next,getObj,setObj,Sem.run,Result.andThen,hobj,hlt,decode_ascii s p hlt ha,goInt]
  unfold vRaw execOp
  simp only[Sem.run_bind,Sem.run_pure,hrun,Result.andThen_ok]
  refine⟨_,_,hK,h0,ι,g1,h2.trans g2,shp_upd (fun i=>Shp.step g2.stab _ _ (h3 i)) ?_,mem_upd (fun i=>Mem.keep g2.keepD _ _ (h4 i)) ?_⟩
  ·simp only[Shp]
   exact⟨_,rfl,by simp[ShpL,Shp]⟩
  ·simp only[Mem]
   exact⟨_,rfl,by simp[MemL,Mem,Rd,Value.oneCell']⟩
 ·have hK:=hk2 hge
  have hrun:(Instr.next (ev ec x) true ty).run P w = .ok (.tuple #[.bool false]) w:=by
   rw[hu]
   simp[Instr.next,getObj,Sem.run,Result.andThen,hobj,show ¬ p < s.size by omega]
  unfold vRaw execOp
  simp only[Sem.run_bind,Sem.run_pure,hrun,Result.andThen_ok]
  refine⟨_,_,hK,h0,ι,h1,h2,shp_upd h3 ?_,mem_upd h4 ?_⟩
  ·simp only[Shp]
   exact⟨_,rfl,by simp[ShpL,Shp]⟩
  ·simp only[Mem]
   exact⟨_,rfl,by simp[MemL,Mem,Rd,Value.oneCell']⟩
end
end Go.Proofs.YtfnbhkbfelllgaaGreatDoor
