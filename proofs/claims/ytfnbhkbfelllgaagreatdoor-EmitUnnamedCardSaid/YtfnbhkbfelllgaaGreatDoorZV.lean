import Derived.Test.YtfnbhkbfelllgaaGreatDoorAs
import Derived.Test.YtfnbhkbfelllgaaGreatDoorAm
import Derived.Test.YtfnbhkbfelllgaaGreatDoorAq
import Derived.Test.YtfnbhkbfelllgaaGreatDoorAB
import Derived.Laws.IdiomRangeMap
import Derived.Test.YtfnbhkbfelllgaaGreatDoorZP
import Derived.Test.YtfnbhkbfelllgaaGreatDoorAp
import Derived.Test.YtfnbhkbfelllgaaGreatDoorBa
set_option linter.all false
set_option linter.all false
namespace Go.Proofs.YtfnbhkbfelllgaaGreatDoor
open Go.RowKit
def taint2 (l:List Oper):List Nat:=taintOf l (taintOf l [])
def okT2 (l:List Oper):Bool:=l.all (okTo (taint2 l))
section
variable {P:Program} {n:Nat}
theorem adrawT {id:Nat} {l:List Oper} {k:AKont} {e:AEnv} {A:AHeap} (late:List (Nat×Nat)) (hm:P.follows .mixedOrders=true) (hok:okD l=true) (hlate:lateOf l=late) (hT:okT2 l=true)
 (h:avd P A.length l late (fun _ _=>True) k 0 l ⟨e,A,[],[],[]⟩):aDraw P n id l.toArray k e A:=by
 rintro C ec w hn ⟨h0,ι,h1,h2,h3,h4⟩
 obtain⟨rs,h⟩:=avd_ex l 0 _ h
 refine draw late (fun i=>spR (Zr C.H ι A w) (rs i)) hm hok hlate ?_
 refine avd_sound (T:=taint2 l) h1 h0 h2 l 0 ι ⟨e,A,[],[],[]⟩ ⟨ec,[],[],[],[],[],[]⟩ (fun o ho=>List.all_eq_true.1 hT o ho) ⟨⟨fun _ _ h=>h,fun _ _=>rfl,fun b k hb hk=>?_,fun b b' c m m' g1 g2=>absurd g1 (Nat.not_le.2 g2),fun c hc=>absurd hc List.not_mem_nil,Nat.le_refl _⟩,h3,fun w' hx _ i=>old_mem hx (h4 i),fun t _=>h4 t,fun x hx=>absurd hx List.not_mem_nil,fun x hx=>absurd hx List.not_mem_nil,rfl,fun i x y hx=>by simp at hx⟩ h
 have:=(gSI.1 hk).1
 simp only at this
 omega
end
end Go.Proofs.YtfnbhkbfelllgaaGreatDoor
set_option linter.all false
namespace Go.Proofs.YtfnbhkbfelllgaaGreatDoor
open Go.RowKit
def putR:List Oper→List AV→AEnv→AEnv
 | o::os,v::vs,e=>putR os vs (aupd e o.dst v)
 | _,_,e=>e
def dvA (e:AEnv):Option Nat→AV
 | some d=>e d
 | none=>.any
theorem putR_out:∀ (ops:List Oper) (vs:List AV) (e:AEnv) (t:Nat),(∀ o∈ops,o.dst≠some t)→putR ops vs e t=e t
 | [],vs,e,t,_=>by cases vs<;>rfl
 | o::os,[],e,t,_=>rfl
 | o :: os, v :: vs, e, t, h => by
   rw[putR,putR_out os vs _ t fun q hq=>h q (List.mem_cons_of_mem _ hq)]
   have:=h o List.mem_cons_self
   cases hd:o.dst with
   | none=>rfl
   | some d =>
     have hne:t≠d:=fun h0=>this (by rw[hd,h0])
     simp only[aupd,upd,if_neg hne]
def stR (P:Program) (n:Nat) (T:List (Nat×AHeap)) (e1:AEnv) (i:Nat) (o:Oper) (m:Nat) (A:AHeap):Prop:=
 ∀ (e:AEnv) (K:AKont),(∀ x∈o.op.operands,eva e x=eva e1 x)→∀ A3,(if still o.op=true then some A else heapM T (m ||| 2 ^ i))=some A3→K (aupd e o.dst (dvA e1 o.dst)) A3→avop P n o K e A
def rowsR (P:Program) (n:Nat) (ops:List Oper) (T:List (Nat×AHeap)) (e1:AEnv):Nat→List Oper→Prop
 | _,[]=>True
 | i,o::os=>(∀ t∈T,mayP ops (masks [] ops) t.1 i=true→stR P n T e1 i o t.1 t.2)∧rowsR P n ops T e1 (i + 1) os
def combR (ops : List Oper) (ms : List Nat) : Bool := ((List.range ops.length).all fun i => match ops[i]? with
    | some o=>(match o.guard with | none=>true | some _=>false) && (o.after.toList.all fun ed=>!Region.binds .any ed || decide (ed.on < i)) && slotP (masks [] ops) ops i o
    | none=>true) && (ms.all fun m=>(List.range ops.length).all (fun j=>!chgP ops j || m.testBit j) == (m == fullP ops)) &&
 ms.all fun m=>(List.range ops.length).all fun i=>!chgP ops i || !mayP ops (masks [] ops) m i || ms.contains (m ||| 2 ^ i)
theorem heapM_some:∀ {T:List (Nat×AHeap)} {m:Nat},(T.map (·.1)).contains m=true→heapM T m≠none:=by
 intro T m h hn
 unfold heapM at hn
 simp only[Option.map_eq_none_iff,List.find?_eq_none,beq_iff_eq] at hn
 rw[List.contains_iff_mem,List.mem_map] at h
 obtain⟨t,ht,rfl⟩:=h
 exact hn t ht rfl
theorem rowsR_get {P:Program} {n:Nat} {ops:List Oper} {T:List (Nat×AHeap)} {e1:AEnv}:∀ (l:List Oper) (k:Nat),rowsR P n ops T e1 k l→∀ (i:Nat) (o:Oper),l[i]? = some o→∀ t∈T,mayP ops (masks [] ops) t.1 (k + i)=true→stR P n T e1 (k + i) o t.1 t.2
 | [],k,_,i,o,h=>by simp at h
 | q :: l, k, h, 0, o, ho => by
   obtain rfl:q=o:=by simpa using ho
   exact h.1
 | q :: l, k, h, i + 1, o, ho => by
   have:=rowsR_get l (k + 1) h.2 i o (by simpa using ho)
   rwa [show k + 1 + i=k + (i + 1) by omega] at this
section
variable {P:Program} {n:Nat} {K:AKont} {ops:List Oper}
theorem adrawR_all {e0 e1:AEnv} {T:List (Nat×AHeap)} {A':AHeap} (ho:∀ t,(∀ o∈ops,o.dst≠some t)→e1 t=e0 t) (hc:combR ops (T.map (·.1))=true) (h:rowsR P n ops T e1 0 ops) (hA:heapM T (fullP ops)=some A') (hk:K e1 A') :
 ∀ (f:Nat) (L:Array Bool) (e:AEnv) (A:AHeap),MidP ops e0 e1 T L e A→(List.range ops.length).countP (fun i=>!L.getD i false)≤f→aAny P n ops K f L e A:=by
 simp only[combR,Bool.and_eq_true] at hc
 obtain⟨⟨hc1,hc2⟩,hc3⟩:=hc
 have hnoT:∀ (i:Nat) (o:Oper),ops[i]? = some o→¬ still o.op=true→∀ (m:Nat) (A:AHeap),heapM T m=some A→mayP ops (masks [] ops) m i=true→heapM T (m ||| 2 ^ i)=none→False:=fun i o ho hst m A hm hmay hn=>by
  have h1:=List.all_eq_true.1 hc3 m (List.mem_map.2 ⟨_,heapM_mem hm,rfl⟩)
  have h2:=List.all_eq_true.1 h1 i (List.mem_range.2 (gSI.1 ho).1)
  have hch:chgP ops i=true:=by simp[chgP,ho,hst]
  rw[hch,hmay] at h2
  simp only[Bool.not_true,Bool.false_or] at h2
  exact heapM_some h2 hn
 have hall:∀ (i:Nat) (o:Oper),ops[i]? = some o→o.guard=none∧(o.after.toList.all fun ed=>!Region.binds .any ed || decide (ed.on < i))=true∧slotP (masks [] ops) ops i o=true:=fun i o ho=>by
  have:=List.all_eq_true.1 hc1 i (List.mem_range.2 (gSI.1 ho).1)
  rw[ho] at this
  simp only[Bool.and_eq_true] at this
  refine⟨?_,this.1.2,this.2⟩
  have hg:=this.1.1
  split at hg
  ·assumption
  ·cases hg
 have hfull:∀ t∈T,(∀ j,chgP ops j=true→t.1.testBit j=true)→t.1=fullP ops:=fun t ht hj=>by
  have:=List.all_eq_true.1 hc2 t.1 (List.mem_map.2 ⟨t,ht,rfl⟩)
  rw[beq_iff_eq] at this
  have h1:(List.range ops.length).all (fun j=>!chgP ops j || t.1.testBit j)=true:=by
   rw[List.all_eq_true]
   intro j _
   cases hcj:chgP ops j with
   | false=>rfl
   | true=>simp[hj j hcj]
  rw[h1] at this
  simpa using this.symm
 have hslot:∀ (i j:Nat) (oi oj:Oper) (d:Nat),ops[i]? = some oi→ops[j]? = some oj→oj.dst=some d→(i≠j→oi.dst≠some d)∧(d∈seen ops oi→j < i∧((masks [] ops).getD i 0).testBit j=true):=by
  intro i j oi oj d hi hj hd
  have hs:=(hall i oi hi).2.2
  simp only[slotP,List.all_eq_true,List.mem_range] at hs
  have:=hs j (gSI.1 hj).1
  rw[hj] at this
  simp only[hd,Bool.or_eq_true,beq_iff_eq,Bool.and_eq_true,Bool.not_eq_true',decide_eq_true_eq] at this
  refine⟨fun hij h0=>?_,fun h0=>?_⟩
  ·have:=this.1.resolve_left hij
   rw[h0] at this
   simp at this
  ·rcases this.2 with h2 | h2
   ·have:(seen ops oi).contains d=true:=by simpa using h0
    rw[this] at h2
    cases h2
   ·exact h2
 have hback:∀ (i:Nat) (o:Oper),ops[i]? = some o→∀ e∈o.after,Region.binds .any e=true→e.on < i:=fun i o ho e he hb=>by
  have:=List.all_eq_true.1 (hall i o ho).2.1 e (by simpa using he)
  simpa [hb] using this
 have hsome:∀ {L:Array Bool},L.size=ops.length→(∃ j,j < ops.length∧¬ Lst L j)→∃ i,i∈Region.ready .any ops.toArray L:=by
  rintro L hs ⟨j,hj,hu⟩
  induction j using Nat.strongRecOn with
  | _ j ih =>
    by_cases hb:∃ k,k < j∧¬ Lst L k
    ·obtain⟨k,hk,hn⟩:=hb
     exact ih k hk (by omega) hn
    ·refine⟨j,mem_ready.2 ⟨?_,ops[j],by simp[hj],fun e he hbi=>?_⟩⟩
     ·unfold Lst at hu
      simp[hs,hj] at hu ⊢
      exact hu
     ·have:=hback j ops[j] (by simp[hj]) e he hbi
      exact Classical.byContradiction fun hn=>hb ⟨e.on,this,hn⟩
 have hfin:∀ {L:Array Bool} {e:AEnv} {A:AHeap},MidP ops e0 e1 T L e A→(∀ j,j < ops.length→Lst L j)→K e A:=by
  intro L e A hM hl
  have he:e=e1:=by
   funext t
   by_cases hw:∃ (j:Nat) (o:Oper),ops[j]? = some o∧o.dst=some t
   ·obtain⟨j,o,ho,hd⟩:=hw
    exact hM.val j o t (hl j (gSI.1 ho).1) ho hd
   ·rw[hM.out t fun j o _ ho hd=>hw ⟨j,o,ho,hd⟩,ho t fun o hm hd=>by
     obtain⟨j,hj⟩:=List.getElem?_of_mem hm
     exact hw ⟨j,o,hj,hd⟩]
  obtain⟨m,hp1,hp2⟩:=hM.hp
  have hm:=hfull _ (heapM_mem hp1) fun j hc=>(hp2 j).2 ⟨hc,hl j (chgP_lt hc)⟩
  simp only at hm
  rw[hm,hA] at hp1
  rw[he,← oSI hp1]
  exact hk
 intro f
 induction f with
 | zero =>
   intro L e A hM hf
   have hl:∀ j,j < ops.length→Lst L j:=fun j hj=>by
    have h0:(List.range ops.length).countP (fun i=>!L.getD i false)=0:=by omega
    rw[List.countP_eq_zero] at h0
    have:=h0 j (List.mem_range.2 hj)
    unfold Lst
    simpa using this
   refine⟨?_,hfin hM hl⟩
   rw[List.eq_nil_iff_forall_not_mem]
   intro i hi
   obtain⟨o,hn⟩:=next_of hi
   exact hn.un (hl i (gSI.1 hn.ho).1)
 | succ f ih =>
   intro L e A hM hf
   refine⟨fun h0=>hfin hM fun j hj=>Classical.byContradiction fun hn=>?_,fun i hi=>?_⟩
   ·obtain⟨i,hi⟩:=hsome hM.sz ⟨j,hj,hn⟩
    rw[h0] at hi
    cases hi
   ·obtain⟨o,hn⟩:=next_of hi
    have hil:=(gSI.1 hn.ho).1
    refine⟨o,hn.ho,(hall i o hn.ho).1,?_⟩
    have hseen:∀ t∈seen ops o,e1 t=e t:=fun t hsn=>by
     by_cases hw:∃ (j:Nat) (q:Oper),ops[j]? = some q∧q.dst=some t
     ·obtain⟨j,q,hq,hd⟩:=hw
      obtain⟨hlt,hsl⟩:=(hslot i j o q t hn.ho hq hd).2 hsn
      exact (hM.val j q t (mask_in hM.cl hn.ho hn.all hsl) hq hd).symm
     ·rw[hM.out t fun j o _ ho hd=>hw ⟨j,o,ho,hd⟩,ho t fun o hm hd=>by
       obtain⟨j,hj⟩:=List.getElem?_of_mem hm
       exact hw ⟨j,o,hj,hd⟩]
    have hag:∀ x∈o.op.operands,eva e x=eva e1 x:=fun x hx=>(eva_agree fun t he=>hseen t (by
     simp only[seen,List.mem_append,List.mem_filterMap]
     exact .inl ⟨_,by simpa using hx,by rw[he]⟩)).symm
    have hsz:i < L.size:=by rw[hM.sz]; exact hil
    obtain⟨m,hp1,hp2⟩:=hM.hp
    have hmay:mayP ops (masks [] ops) m i=true:=by
     unfold mayP
     simp only[Bool.and_eq_true,Bool.not_eq_true',List.all_eq_true,List.mem_range,Bool.or_eq_true]
     refine⟨?_,fun j hj=>?_⟩
     ·cases hb:m.testBit i with
      | false=>rfl
      | true=>exact absurd ((hp2 i).1 hb).2 hn.un
     ·cases hc:chgP ops j with
      | false=>exact .inl rfl
      | true =>
        refine .inr ⟨?_,?_⟩
        ·split
         ·rename_i hb
          exact (hp2 j).2 ⟨hc,mask_in hM.cl hn.ho hn.all hb⟩
         ·rfl
        ·split
         ·rename_i hb
          have hl:=((hp2 j).1 hb).2
          have hoj:ops[j]? = some ops[j]:=by simp[hj]
          cases hb2:((masks [] ops).getD j 0).testBit i with
          | false=>rfl
          | true=>exact absurd (mask_in hM.cl hoj (hM.cl j _ hoj hl) hb2) hn.un
         ·rfl
    have hstep:=rowsR_get ops 0 h i o hn.ho _ (heapM_mem hp1) (by rw[Nat.zero_add]; exact hmay)
    simp only[Nat.zero_add] at hstep
    have mid:∀ A3,(if still o.op=true then some A else heapM T (m ||| 2 ^ i))=some A3→MidP ops e0 e1 T (L.setIfInBounds i true) (aupd e o.dst (dvA e1 o.dst)) A3:=by
     intro A3 hA3
     refine⟨by simp[hM.sz],?_,?_,?_,?_⟩
     ·intro j oj hj hl ed he hb
      rw[Lst_set hsz] at hl ⊢
      rcases hl with hl | rfl
      ·exact .inl (hM.cl j oj hj hl ed he hb)
      ·obtain rfl:o=oj:=by rw[hn.ho] at hj; exact oSI hj
       exact .inl (hn.all ed he hb)
     ·by_cases hst:still o.op=true
      ·rw[if_pos hst] at hA3
       obtain rfl:=oSI hA3
       refine⟨m,hp1,fun j=>?_⟩
       rw[hp2 j,Lst_set hsz]
       constructor
       ·rintro⟨a,b⟩; exact⟨a,.inl b⟩
       ·rintro⟨a,b | rfl⟩
        ·exact⟨a,b⟩
        ·simp[chgP,hn.ho,hst] at a
      ·rw[if_neg hst] at hA3
       refine⟨m ||| 2 ^ i,hA3,fun j=>?_⟩
       rw[Nat.testBit_or,Bool.or_eq_true,hp2 j,Lst_set hsz,Nat.testBit_two_pow,decide_eq_true_eq]
       constructor
       ·rintro (⟨a,b⟩ | rfl)
        ·exact⟨a,.inl b⟩
        ·exact⟨by simp[chgP,hn.ho,hst],.inr rfl⟩
       ·rintro⟨a,b | rfl⟩
        ·exact .inl ⟨a,b⟩
        ·exact .inr rfl
     ·intro j oj t hl hj hd
      rw[Lst_set hsz] at hl
      by_cases hji:j=i
      ·subst hji
       obtain rfl:o=oj:=by rw[hn.ho] at hj; exact oSI hj
       rw[hd]
       simp only[aupd,upd,if_true,dvA]
      ·have hl:=hl.resolve_right hji
       rw[← hM.val j oj t hl hj hd]
       cases hdo:o.dst with
       | none=>rfl
       | some d' =>
         have:t≠d':=fun h0=>(hslot i j o oj t hn.ho hj hd).1 (Ne.symm hji) (by rw[hdo,h0])
         simp only[aupd,upd,if_neg this]
     ·intro t ht
      have ht':∀ (j:Nat) (o:Oper),Lst L j→ops[j]? = some o→o.dst≠some t:=fun j q hl hq=>ht j q ((Lst_set hsz j).2 (.inl hl)) hq
      rw[← hM.out t ht']
      have:=ht i o ((Lst_set hsz i).2 (.inr rfl)) hn.ho
      cases hdo:o.dst with
      | none=>rfl
      | some d' =>
        have:t≠d':=fun h0=>this (by rw[hdo,h0])
        simp only[aupd,upd,if_neg this]
    have hcnt:=cnt_set (N:=ops.length) (L:=L) hil hsz hn.un
    by_cases hst:still o.op=true
    ·have h3:(if still o.op=true then some A else heapM T (m ||| 2 ^ i))=some A:=if_pos hst
     exact hstep e _ hag A h3 (ih _ _ _ (mid A h3) (by omega))
    ·cases hq:heapM T (m ||| 2 ^ i) with
     | none=>exact False.elim (hnoT i o hn.ho hst m A hp1 hmay hq)
     | some A3 =>
       have h3:(if still o.op=true then some A else heapM T (m ||| 2 ^ i))=some A3:=by rw[if_neg hst,hq]
       exact hstep e _ hag A3 h3 (ih _ _ _ (mid A3 h3) (by omega))
theorem adrawR {id:Nat} {l:List Oper} {e:AEnv} {A A':AHeap} (vs:List AV) (T:List (Nat×AHeap)) (hm:P.follows .mixedOrders=true) (hc:combR l (T.map (·.1))=true) (h0:heapM T 0=some A) (hA:heapM T (fullP l)=some A')
 (h:rowsR P n l T (putR l vs e) 0 l) (hk:K (putR l vs e) A'):aDraw P n id l.toArray K e A:=by
 refine adraw_all hm (adrawR_all (e0:=e) (fun t ht=>putR_out l vs e t ht) hc h hA hk _ (Array.replicate l.length false) e A ⟨by simp,fun j o _ hl=>absurd hl ?_,⟨0,h0,fun j=>⟨fun h=>by simp at h,fun h=>absurd h.2 ?_⟩⟩,fun j o t hl=>absurd hl ?_,fun t _=>rfl⟩ ?_)
 all_goals first
  | (refine Nat.le_trans List.countP_le_length ?_; simp; done)
  | (intro h; unfold Lst at h; rw[getD_replicate_false'] at h; cases h)
end
end Go.Proofs.YtfnbhkbfelllgaaGreatDoor
set_option linter.all false
namespace Go.Proofs.YtfnbhkbfelllgaaGreatDoor
open Go.RowKit
section
variable {P:Program} {H:Nat→Prop} {ι ι':Place} {A A':AHeap} {w w':World} {e:AEnv} {ec:Env} {C:Ctx} {n:Nat} {K:AKont}
def msB (v c:Nat) (L:List (Nat×Int×Bool)):Blk:=⟨v,true,1000005,3,(setCells c L).map (·.map fun x=>AV.d (D.v x))⟩
theorem flat_get {α:Type} {sz:Nat}:∀ {X:List (List α)},(∀ r∈X,r.length=sz)→∀ {i j:Nat} {r:List α},X[i]? = some r→j < sz→X.flatten[i * sz + j]? = r[j]?
 | [],_,i,j,r,h,_=>by simp at h
 | x :: X, hX, 0, j, r, h, hj => by
   simp at h
   subst h
   rw[List.flatten_cons,Nat.zero_mul,Nat.zero_add,gAL (by rw[hX x (by simp)]; exact hj)]
 | x :: X, hX, i + 1, j, r, h, hj => by
   have hx:=hX x (by simp)
   rw[List.flatten_cons,List.getElem?_append_right (by rw[hx,Nat.add_mul]; omega),show (i + 1) * sz + j - x.length=i * sz + j by rw[hx,Nat.add_mul]; omega]
   exact flat_get (fun r hr=>hX r (by simp[hr])) (by simpa using h) hj
theorem flat_len {α:Type} {sz:Nat}:∀ {X:List (List α)},(∀ r∈X,r.length=sz)→X.flatten.length=X.length * sz
 | [],_=>by simp
 | x :: X, hX => by
   rw[List.flatten_cons,List.length_append,flat_len fun r hr=>hX r (by simp[hr]),hX x (by simp),List.length_cons,Nat.add_mul]
   omega
theorem cells_flat {N:Nat→Prop} {k:Blk} {X:List (List Value)} {arr:Array Value} (hels:k.els=X.map (·.map fun v=>AV.d (D.v v))) (hX:∀ r∈X,r.length=k.sz) (hs:arr.size=k.els.length * k.sz) (hpos:0 < k.sz) (hc:Cells ι A N w k arr):arr.toList=X.flatten:=by
 have hl:X.length=k.els.length:=by rw[hels]; simp
 apply List.ext_getElem?
 intro q
 by_cases hq:q < X.length * k.sz
 ·have hi:q / k.sz < X.length:=Nat.div_lt_of_lt_mul (by rw[Nat.mul_comm]; exact hq)
  have hj:q % k.sz < k.sz:=Nat.mod_lt _ hpos
  have hqq:q / k.sz * k.sz + q % k.sz=q:=by have:=Nat.div_add_mod q k.sz; rw[Nat.mul_comm] at this; exact this
  obtain⟨r,hr⟩:∃ r,X[q / k.sz]? = some r:=⟨_,gEG hi⟩
  have hrl:=hX r (gMO hr)
  obtain⟨x,hx⟩:∃ x,r[q % k.sz]? = some x:=⟨_,gEG (by omega)⟩
  obtain⟨_,h2⟩:=hc (q / k.sz) (r.map fun v=>AV.d (D.v v)) (by rw[hels,List.getElem?_map,hr]; rfl)
  obtain⟨u,e1,e2,_⟩:=h2 (q % k.sz) (.d (.v x)) (by rw[List.getElem?_map,hx]; rfl)
  have hu:u=x:=by have:=e2.1; simpa [Shp] using this
  subst hu
  rw[hqq] at e1
  have h3:=flat_get hX hr hj
  rw[hqq] at h3
  rw[Array.getElem?_toList,e1,h3,hx]
 ·rw[List.getElem?_eq_none (by rw[Array.length_toList,hs,← hl]; omega),List.getElem?_eq_none (by rw[flat_len hX]; omega)]
theorem setL_inj:∀ {L L':List (Nat×Int×Bool)},(L.map fun x=>[Value.int .i64 x.1,Value.int .i64 x.2.1,Value.bool x.2.2]).flatten=(L'.map fun x=>[Value.int .i64 x.1,Value.int .i64 x.2.1,Value.bool x.2.2]).flatten→L=L'
 | [],[],_=>rfl
 | [],y::L',h=>by simp at h
 | x::L,[],h=>by simp at h
 | (a, b, c) :: L, (a', b', c') :: L', h => by
   simp only[List.map_cons,List.flatten_cons,List.cons_append,List.nil_append,List.cons.injEq,Value.int.injEq,Value.bool.injEq,true_and] at h
   obtain⟨h1,h2,h3,h4⟩:=h
   have h1':a=a':=by omega
   rw[h1',h2,h3,setL_inj h4]
theorem set_inj {c c':Nat} {L L':List (Nat×Int×Bool)} (h:(setCells c L).flatten=(setCells c' L').flatten):c=c'∧L=L':=by
 unfold setCells at h
 simp only[List.flatten_cons,List.cons_append,List.nil_append,List.cons.injEq,Value.int.injEq,true_and] at h
 exact⟨by omega,setL_inj h.2⟩
theorem setCells_row {c:Nat} {L:List (Nat×Int×Bool)}:∀ r∈setCells c L,r.length=3:=by
 intro r hr
 unfold setCells at hr
 rcases List.mem_cons.1 hr with rfl | hr
 ·rfl
 ·obtain⟨x,_,rfl⟩:=List.mem_map.1 hr
  rfl
theorem setCells_one {c:Nat} {L:List (Nat×Int×Bool)}:∀ r∈setCells c L,∀ x∈r,x.oneCell'=true:=by
 intro r hr x hx
 unfold setCells at hr
 rcases List.mem_cons.1 hr with rfl | hr
 ·simp at hx
  rcases hx with rfl | rfl<;>rfl
 ·obtain⟨y,_,rfl⟩:=List.mem_map.1 hr
  simp at hx
  rcases hx with rfl | rfl | rfl<;>rfl
theorem set_at {b v c:Nat} {L:List (Nat×Int×Bool)} {u:Value} (hR:Rel H ι A w) (hb:A[b]? = some (msB v c L)) (hs:Shp ι A (.mp b v) u) :
 ∃ r m,ι b=some (r,m)∧u = .map (some r)∧w.heap[r]? = some (.map (esL L).toArray c)∧SetOk c L:=by
 simp only[Shp] at hs
 obtain⟨_,k',hk',hv1,hv2⟩:=hs
 rw[hb] at hk'
 obtain rfl:=oSI hk'
 obtain⟨r,m,hι,hu⟩:=hv2 rfl
 have hbr:=hR.blk b _ hb
 unfold BlkRel at hbr
 rw[hι] at hbr
 obtain⟨arr,a1,a2,a3,a4⟩:=hbr
 have hty:(msB v c L).ty=1000005:=rfl
 rcases a1 with a1 | ⟨o,a1,a5⟩
 ·have:=a1.1
  rw[hty] at this
  exact absurd this (by decide)
 rw[hty] at a5
 rcases a5 with⟨_,_,_,h,_⟩ | ⟨_,_,_,_,_,_,_,⟨h,_⟩ | ⟨h,_⟩⟩ | ⟨_,_,_,_,_,_,h,_⟩ | ⟨c',L',rfl,_,_,harr,hok⟩ | ⟨_,_,_,_,_,h,_⟩
 ·exact absurd h (by decide)
 ·exact absurd h (by decide)
 ·exact absurd h (by decide)
 ·exact absurd h (by decide)
 ·have hfl:=cells_flat (X:=setCells c L) rfl setCells_row (a2.2 (by rw[hty]; decide)) (Nat.zero_lt_succ 2) a4
  rw[harr] at hfl
  obtain⟨rfl,rfl⟩:=set_inj hfl
  exact⟨r,m,hι,hu,a1,hok⟩
 ·exact absurd h (by decide)
theorem msB_cells {N:Nat→Prop} (v c:Nat) (L:List (Nat×Int×Bool)):∀ (i:Nat) (x:List AV),(msB v c L).els[i]? = some x→x.length=(msB v c L).sz∧∀ (j:Nat) (a:AV),x[j]? = some a→∃ u,(setCells c L).flatten.toArray[i * (msB v c L).sz + j]? = some u∧Val ι A N w a u∧u.oneCell'=true:=by
 intro i x hi
 simp only[msB,List.getElem?_map,Option.map_eq_some_iff] at hi
 obtain⟨r,hr,rfl⟩:=hi
 have hrl:=setCells_row r (gMO hr)
 refine⟨by simpa [msB] using hrl,fun j a hj=>?_⟩
 simp only[List.getElem?_map,Option.map_eq_some_iff] at hj
 obtain⟨u,hu,rfl⟩:=hj
 have hj3:j < 3:=by have:=(gSI.1 hu).1; omega
 have h1:=setCells_one r (gMO hr) u (gMO hu)
 exact⟨u,by rw[List.getElem?_toArray]; exact (flat_get setCells_row hr hj3).trans hu,⟨by simp[Shp],by simp only[Mem,Rd]; exact⟨trivial,h1⟩⟩,h1⟩
theorem msB_len (v c:Nat) (L:List (Nat×Int×Bool)):(setCells c L).flatten.toArray.size=(msB v c L).els.length * (msB v c L).sz:=by
 have:=flat_len (X:=setCells c L) setCells_row
 simpa [msB] using this
theorem rel_setS {b v c c' r m:Nat} {L L':List (Nat×Int×Bool)} (hR:Rel H ι A w) (hb:A[b]? = some (msB v c L)) (hι:ι b=some (r,m)) (hok:SetOk c' L') :
 Rel H ι (A.set b (msB v c' L')) { w with heap:=w.heap.setIfInBounds r (.map (esL L').toArray c') }∧Step ι A w ι (A.set b (msB v c' L')) { w with heap:=w.heap.setIfInBounds r (.map (esL L').toArray c') }:=
 rel_turn (o:=.map (esL L').toArray c') (arr:=(setCells c' L').flatten.toArray) hR hb rfl hι rfl rfl rfl (.inr (.inr (.inr (.inl ⟨c',L',rfl,rfl,rfl,rfl,hok⟩)))) (msB_len v c' L') (msB_cells v c' L')
theorem aRaw_makeS {t:TypeId} {d:Option Nat} {ty:TypeId} {pos:String} {af:Array Edge} {gd:Option (Nat×Bool)} (hk:K (aupd e d (.mp A.length 0)) (A++[msB 0 0 []])) :
 aRaw P n ⟨d,.makeMap t none,ty,pos,af,gd⟩ e A K:=by
 rintro C ec w hn ⟨h0,ι,h1,h2,h3,h4⟩
 obtain⟨g1,g2⟩:=rel_newO (o:=.map #[] 0) h1 (fun c hc=>Nat.lt_of_lt_of_le (h0.1 c hc) h2.size) (k:=msB 0 0 []) (arr:=(setCells 0 []).flatten.toArray)
  (.inr (.inr (.inr (.inr (.inl ⟨0,[],rfl,rfl,rfl,rfl,by simp[SetOk]⟩))))) (Nat.le_of_eq (msB_len 0 0 []).symm) (fun _=>msB_len 0 0 []) (msB_cells 0 0 [])
 have hrun:(Instr.makeMap t none).run P w = .ok (.map (some w.heap.size)) (w.alloc (.map #[] 0)):=rfl
 unfold vRaw execOp
 simp only[Sem.run_bind,Sem.run_pure,hrun,Result.andThen_ok]
 refine⟨_,_,hk,h0,_,g1,h2.trans g2,shp_upd (fun i=>Shp.step g2.stab _ _ (h3 i)) ?_,mem_upd (fun i=>Mem.keep g2.keepD _ _ (h4 i)) (by simp[Mem])⟩
 simp only[Shp]
 exact⟨⟨_,rfl⟩,_,by simp; rfl,Nat.le_refl _,fun _=>⟨w.heap.size,_,by simp[newI]; rfl,rfl⟩⟩
def inS (L:List (Nat×Int×Bool)) (k:Int):Bool:=match L.find? (fun x=>x.2.1 == k) with
 | some x=>x.2.2
 | none=>false
theorem find_none {q:IntKind} {k:Int}:∀ {L:List (Nat×Int×Bool)} {i:Nat},(∀ x∈L,x.2.1≠k)→Instr.findNow (.int q) (.int .i64 k) (esL L) i=some none
 | [],_,_=>rfl
 | x :: L, i, h => by
   have h1:=h x (by simp)
   have h2:(k == x.2.1)=false:=by simpa using Ne.symm h1
   have ih:=find_none (q:=q) (L:=L) (i:=i + 1) (fun y hy=>h y (by simp[hy]))
   show (match Instr.sameNow (.int q) (.int .i64 k) (.int .i64 x.2.1) with | some true=>some (some (i,Value.bool x.2.2)) | some false=>Instr.findNow (.int q) (.int .i64 k) (esL L) (i + 1) | none=>none)=some none
   simp[Instr.sameNow,h2,ih]
theorem find_some {q:IntKind} {k:Int} {x:Nat×Int×Bool} {L2:List (Nat×Int×Bool)} (hx:x.2.1=k):∀ {L:List (Nat×Int×Bool)} {i:Nat},(∀ x∈L,x.2.1≠k)→Instr.findNow (.int q) (.int .i64 k) (esL (L++x::L2)) i=some (some (i + L.length,.bool x.2.2))
 | [], i, _ => by
   show (match Instr.sameNow (.int q) (.int .i64 k) (.int .i64 x.2.1) with | some true=>some (some (i,Value.bool x.2.2)) | some false=>Instr.findNow (.int q) (.int .i64 k) (esL L2) (i + 1) | none=>none)=_
   simp[Instr.sameNow,hx]
 | y :: L, i, h => by
   have h1:=h y (by simp)
   have h2:(k == y.2.1)=false:=by simpa using Ne.symm h1
   have ih:=find_some (q:=q) (L2:=L2) hx (L:=L) (i:=i + 1) (fun z hz=>h z (by simp[hz]))
   show (match Instr.sameNow (.int q) (.int .i64 k) (.int .i64 y.2.1) with | some true=>some (some (i,Value.bool y.2.2)) | some false=>Instr.findNow (.int q) (.int .i64 k) (esL (L++x::L2)) (i + 1) | none=>none)=_
   simp[Instr.sameNow,h2,ih]
   omega
theorem find_split (k:Int):∀ (L:List (Nat×Int×Bool)),(∀ x∈L,x.2.1≠k)∨∃ L1 x L2,L=L1++x::L2∧x.2.1=k∧∀ y∈L1,y.2.1≠k
 | []=>.inl (by simp)
 | x :: L => by
   by_cases hx:x.2.1=k
   ·exact .inr ⟨[],x,L,rfl,hx,by simp⟩
   ·rcases find_split k L with h | ⟨L1,y,L2,rfl,h1,h2⟩
    ·exact .inl fun y hy=>by rcases List.mem_cons.1 hy with rfl | hy; exact hx; exact h y hy
    ·exact .inr ⟨x::L1,y,L2,rfl,h1,fun z hz=>by rcases List.mem_cons.1 hz with rfl | hz; exact hx; exact h2 z hz⟩
theorem inS_none {L:List (Nat×Int×Bool)} {k:Int} (h:∀ x∈L,x.2.1≠k):inS L k=false:=by
 unfold inS
 rw[List.find?_eq_none.2 (fun x hx=>by simpa using h x hx)]
theorem inS_some {L1 L2:List (Nat×Int×Bool)} {x:Nat×Int×Bool} {k:Int} (hx:x.2.1=k) (h:∀ y∈L1,y.2.1≠k):inS (L1++x::L2) k=x.2.2:=by
 unfold inS
 rw[List.find?_append,List.find?_eq_none.2 (fun x hx=>by simpa using h x hx)]
 simp[hx]
theorem setOk_add {c:Nat} {L:List (Nat×Int×Bool)} {k:Int} {v:Bool} (h:SetOk c L) (hk:∀ x∈L,x.2.1≠k):SetOk (c + 1) (L++[(c,k,v)]):=by
 refine⟨?_,fun x hx=>?_,?_⟩
 ·rw[List.map_append,List.nodup_append]
  refine⟨h.1,by simp,fun a ha b hb he=>?_⟩
  obtain⟨x,hx,rfl⟩:=List.mem_map.1 ha
  simp at hb
  have:=h.2.1 x hx
  omega
 ·rcases List.mem_append.1 hx with hx | hx
  ·have:=h.2.1 x hx; omega
  ·simp at hx; subst hx; exact Nat.lt_succ_self _
 ·rw[List.map_append,List.nodup_append]
  refine⟨h.2.2,by simp,fun a ha b hb he=>?_⟩
  obtain⟨x,hx,rfl⟩:=List.mem_map.1 ha
  simp at hb
  exact hk x hx (by rw[he,hb])
section
variable {x y z:Operand} {t kt et:TypeId} {d:Option Nat} {ty:TypeId} {pos:String} {af:Array Edge} {gd:Option (Nat×Bool)} {b v c:Nat} {L:List (Nat×Int×Bool)} {k:Int}
theorem aRaw_lookS (ht:P.underlying t=some (.map kt et)) (hkt:P.underlying kt=some (.int .i64)) (hz:zv P et=some (.bool false)) (hx:eva e x = .mp b v) (hy:eva e y = .d (.v (.int .i64 k))) (hb:A[b]? = some (msB v c L))
 (hk:K (aupd e d (.d (.v (.bool (inS L k))))) A):aRaw P n ⟨d,.lookup t x y false,ty,pos,af,gd⟩ e A K:=by
 rintro C ec w hn ⟨h0,ι,h1,h2,h3,h4⟩
 have sx:=eva_shp h3 x
 rw[hx] at sx
 have ey:ev ec y = .int .i64 k:=by have:=eva_shp h3 y; rw[hy] at this; simpa [Shp] using this
 obtain⟨r,m,hι,hu,ho,hok⟩:=set_at h1 hb sx
 have hg:(getObj r).run P w = .ok (.map (esL L).toArray c) w:=by simp[getObj,Sem.run,ho]
 have hck:∀ em,(Instr.checkKey em 10000 kt (.int .i64 k)).run P w = .ok () w:=fun em=>run_checkK hkt rfl
 have hzr:(zeroValue et).run P w = .ok (.bool false) w:=by
  unfold zv at hz
  cases hi:P.info? et with
  | none=>rw[hi] at hz; cases hz
  | some i =>
    rw[hi] at hz
    simp only[Option.bind_some] at hz
    simp[zeroValue,typeInfo,hi,hz]
 have hrun:(Instr.lookup t (ev ec x) (ev ec y) false).run P w = .ok (.bool (inS L k)) w:=by
  rw[hu,ey]
  rcases find_split k L with h | ⟨L1,p,L2,rfl,h5,h6⟩
  ·rw[inS_none h]
   have hf:=run_findKey (w:=w) hkt (find_none (q:=.i64) (i:=0) h)
   simp[Instr.lookup,run_underlying ht,hg,hck,hf,hzr]
  ·rw[inS_some h5 h6]
   have hf:=run_findKey (w:=w) hkt (find_some (q:=.i64) (i:=0) (L2:=L2) h5 h6)
   simp[Instr.lookup,run_underlying ht,hg,hck,hf]
 unfold vRaw execOp
 simp only[Sem.run_bind,Sem.run_pure,hrun,Result.andThen_ok]
 exact⟨_,_,hk,h0,ι,h1,h2,shp_upd h3 (by simp[Shp]),mem_upd h4 (by simp[Mem,Rd,Value.oneCell'])⟩
theorem run_updS {r:Nat} {v':Bool} (ht:P.underlying t=some (.map kt et)) (hkt:P.underlying kt=some (.int .i64)) (ho:w.heap[r]? = some (.map (esL L).toArray c)) (hn:∀ x∈L,x.2.1≠k) :
 (Instr.mapUpdate t (.map (some r)) (.int .i64 k) (.bool v')).run P w = .ok () { w with heap:=w.heap.setIfInBounds r (.map (esL (L++[(c,k,v')])).toArray (c + 1)) }:=by
 have hg:(getObj r).run P w = .ok (.map (esL L).toArray c) w:=by simp[getObj,Sem.run,ho]
 have hck:=run_checkK (P:=P) (w:=w) (v:=.int .i64 k) (em:=false) hkt rfl
 have hf:=run_findKey (w:=w) hkt (find_none (q:=.i64) (i:=0) hn)
 have he:(esL L).toArray.push ⟨.int .i64 k,.bool v',c⟩=(esL (L++[(c,k,v')])).toArray:=by simp[esL]
 simp[Instr.mapUpdate,run_underlying ht,hg,hck,hf,setObj,Sem.run,ho,he]
theorem aRaw_updS {v':Bool} (ht:P.underlying t=some (.map kt et)) (hkt:P.underlying kt=some (.int .i64)) (hx:eva e x = .mp b v) (hy:eva e y = .d (.v (.int .i64 k))) (hz:eva e z = .d (.v (.bool v'))) (hb:A[b]? = some (msB v c L))
 (hnk:∀ x∈L,x.2.1≠k) (hk:K (aupd e d .any) (A.set b (msB v (c + 1) (L++[(c,k,v')])))):aRaw P n ⟨d,.mapUpdate t x y z,ty,pos,af,gd⟩ e A K:=by
 rintro C ec w hn ⟨h0,ι,h1,h2,h3,h4⟩
 have sx:=eva_shp h3 x
 rw[hx] at sx
 have ey:ev ec y = .int .i64 k:=by have:=eva_shp h3 y; rw[hy] at this; simpa [Shp] using this
 have ez:ev ec z = .bool v':=by have:=eva_shp h3 z; rw[hz] at this; simpa [Shp] using this
 obtain⟨r,m,hι,hu,ho,hok⟩:=set_at h1 hb sx
 have hrun:=run_updS (v':=v') ht hkt ho hnk
 obtain⟨g1,g2⟩:=rel_setS h1 hb hι (setOk_add (v:=v') hok hnk)
 rw[← ey,← ez,← hu] at hrun
 unfold vRaw execOp
 simp only[Sem.run_bind,Sem.run_pure,hrun,Result.andThen_ok]
 exact⟨_,_,hk,h0,ι,g1,h2.trans g2,shp_upd (fun i=>Shp.step g2.stab _ _ (h3 i)) (by simp[Shp]),mem_upd (fun i=>Mem.keep g2.keepD _ _ (h4 i)) (by simp[Mem])⟩
theorem aRaw_insS {v':Bool} (ht:P.underlying t=some (.map kt et)) (hkt:P.underlying kt=some (.int .i64)) (hx:eva e x = .mp b v) (hy:eva e y = .d (.v (.int .i64 k))) (hz:eva e z = .d (.v (.bool v'))) (hb:A[b]? = some (msB v c L))
 (hnk:∀ x∈L,x.2.1≠k) (hk:K (aupd e d .any) (A.set b (msB v (c + 1) (L++[(c,k,v')])))):aRaw P n ⟨d,.insert t x y z,ty,pos,af,gd⟩ e A K:=
 fun C ec w hn hS=>aRaw_updS (d:=d) (ty:=ty) (pos:=pos) (af:=af) (gd:=gd) ht hkt hx hy hz hb hnk hk C ec w hn hS
end
section
variable {x:Operand} {t kt et:TypeId} {d:Option Nat} {ty:TypeId} {pos:String} {af:Array Edge} {gd:Option (Nat×Bool)} {b v c q s:Nat} {L:List (Nat×Int×Bool)} {S:List Nat} {k:Int}
end
end
section
variable {P:Program} {K:AKont} {e:AEnv} {A:AHeap} {d:Option Nat}
theorem AC.frz (B:List Nat) {f:FuncId} {args:List AV} {R:AV→AHeap→Prop} (h:AC P f args (frz B A) R):AC P f args A R:=by
 intro H ι w vs hH hR h1 h2
 have hl:=h1.len
 obtain⟨_,ι',g1,g2,g3,g4⟩:=Sub.frz (n:=A.length) B (e:=fun i=>args.getD i .any) (A:=A) ⟨H,ι,A,w⟩ (fun i=>vs.getD i default) w rfl ⟨hH,ι,hR,Step.refl _ _ _,fun i=>by
  rcases Nat.lt_or_ge i args.length with hi | hi
  ·obtain⟨u,hu,hs⟩:=h1.get (gEG hi)
   simp only[List.getD,gEG hi,hu,Option.getD_some]
   exact hs
  ·simp only[List.getD,List.getElem?_eq_none hi,Option.getD_none]
   simp[Shp],fun i=>by
  rcases Nat.lt_or_ge i args.length with hi | hi
  ·obtain⟨u,hu,hs⟩:=h1.get (gEG hi)
   simp only[List.getD,gEG hi,hu,Option.getD_some]
   exact h2.get (gEG hi) hu
  ·simp only[List.getD,List.getElem?_eq_none hi,Option.getD_none]
   simp[Mem]⟩
 refine (h H ι' w vs (hH.step g2) g1 (ShpL.of hl fun i c u hc hu=>?_) (MemL.of hl fun i c u hc hu=>?_)).mono ?_
 ·have:=g3 i
  simpa [List.getD,hc,hu] using this
 ·have:=g4 i
  simpa [List.getD,hc,hu] using this
 ·rintro en w' ⟨v,r,ι'',A'',a,b,c1,c2,c3⟩
  exact⟨v,r,ι'',A'',a,b,c1,g2.trans c2,c3⟩
theorem aCall_ofz (B:List Nat) {g:FuncId} {fs args cs args':List AV} {r:AV} (h:AF P g args' r) (hok:okF P g=true) (hr:argO (omap (reiV true (frz B A) 9) (fs++args++cs)) args') (hk:K (aupd e d r) (frz B A)):aCall P (.fn g fs cs) args A d e K:=
 ⟨g,fs,cs,rfl,hok,AC.frz B ((h.ac hr).mono fun r' A' ⟨e1,e2⟩=>by subst e1 e2; exact hk)⟩
end
def AtH (A:AHeap) (r:AV):AV→AHeap→Prop:=fun r' A'=>r'=r∧A=A'
mutual
theorem cln_mono {m m':Nat} (hm:m≤m'):∀ c:AV,cln m c=c→cln m' c=c
 | .any,_=>rfl
 | .d _,_=>rfl
 | .ip _,_=>rfl
 | .own b ver i len, h => by
   simp only[cln] at h ⊢
   split at h
   ·rw[if_pos (by omega)]
   ·cases h
 | .ptr b ver i o, h => by
   simp only[cln] at h ⊢
   split at h
   ·rw[if_pos (by omega)]
   ·cases h
 | .mp b ver, h => by
   simp only[cln] at h ⊢
   split at h
   ·rw[if_pos (by omega)]
   ·cases h
 | .agg cs, h => by
   simp only[cln,AV.agg.injEq] at h ⊢
   exact clnL_mono hm cs h
 | .tup cs, h => by
   simp only[cln,AV.tup.injEq] at h ⊢
   exact clnL_mono hm cs h
 | .fn f fs cs, h => by
   simp only[cln,AV.fn.injEq,true_and] at h ⊢
   exact⟨clnL_mono hm fs h.1,clnL_mono hm cs h.2⟩
 | .ifc t c, h => by
   simp only[cln,AV.ifc.injEq,true_and] at h ⊢
   exact cln_mono hm c h
theorem clnL_mono {m m':Nat} (hm:m≤m'):∀ cs:List AV,cln.clnL m cs=cs→cln.clnL m' cs=cs
 | [],_=>rfl
 | c :: cs, h => by
   simp only[cln.clnL,List.cons.injEq] at h ⊢
   exact⟨cln_mono hm c h.1,clnL_mono hm cs h.2⟩
end
theorem map_fix {α:Type} {f:α→α}:∀ {l:List α},l.map f=l↔∀ x∈l,f x=x
 | []=>by simp
 | a::l=>by simp[map_fix (l:=l)]
theorem clnB_iff {m:Nat} {b:Blk}:clnB m b=b↔∀ x∈b.els,∀ c∈x,cln m c=c:=by
 obtain⟨v,w,t,s,els⟩:=b
 simp only[clnB,clnE,Blk.mk.injEq,true_and,map_fix]
theorem clnB_mono {m m':Nat} (hm:m≤m') {b:Blk} (h:clnB m b=b):clnB m' b=b:=
 clnB_iff.2 fun x hx c hc=>cln_mono hm c (clnB_iff.1 h x hx c hc)
def ClH (H:AHeap):Prop:=∀ b∈H,clnB H.length b=b
theorem ClH.fix {H:AHeap} (h:ClH H):H.map (clnB H.length)=H:=map_fix.2 h
theorem ClH.app {H N:AHeap} (h:ClH H) (hn:∀ b∈N,clnB (H.length + N.length) b=b):ClH (H++N):=by
 intro b hb
 rw[List.length_append]
 rcases List.mem_append.1 hb with h1 | h1
 ·exact clnB_mono (by omega) (h b h1)
 ·exact hn b h1
section
variable {P:Program} {H:Nat→Prop} {ι ι':Place} {A N:AHeap} {w w':World}
theorem shp_less (hc:ClH A) {c:AV} (hcl:cln A.length c=c) {u:Value} (h:Shp ι (A++N) c u):Shp ι A c u:=by
 have:=cln_shp A.length c u h
 rw[hcl,List.take_left,hc.fix] at this
 exact this
theorem shpL_less (hc:ClH A) {cs:List AV} (hcl:cln.clnL A.length cs=cs) {l:List Value} (h:ShpL ι (A++N) cs l):ShpL ι A cs l:=by
 have:=clnL_shp A.length cs l h
 rw[hcl,List.take_left,hc.fix] at this
 exact this
theorem shp_more (he:∀ b,b < A.length→ι' b=ι b) {c:AV} {u:Value} (h:Shp ι A c u):Shp ι' (A++N) c u:=
 Shp.step (fun b k hb=>⟨k,by rw[gAL (gSI.1 hb).1]; exact hb,Nat.le_refl _,fun _=>⟨he b (gSI.1 hb).1,rfl⟩⟩) c u h
def HN (H:Nat→Prop) (ι:Place) (A N:AHeap) (c:Nat):Prop:=H c∨∃ b k n,N[b]? = some k∧k.wr=true∧ι (A.length + b)=some (c,n)
theorem get_N {b:Nat} {k:Blk} (h:N[b]? = some k):(A++N)[A.length + b]? = some k:=by rw[List.getElem?_append_right (by omega),Nat.add_sub_cancel_left]; exact h
theorem get_A {b:Nat} {k:Blk} (h:A[b]? = some k):(A++N)[b]? = some k:=by rw[gAL (gSI.1 h).1]; exact h
theorem get_AN {b:Nat} {k:Blk} (h:(A++N)[b]? = some k):(b < A.length∧A[b]? = some k)∨∃ j,b=A.length + j∧N[j]? = some k:=by
 rcases Nat.lt_or_ge b A.length with hb | hb
 ·rw[gAL hb] at h
  exact .inl ⟨hb,h⟩
 ·rw[List.getElem?_append_right hb] at h
  exact .inr ⟨b - A.length,by omega,h⟩
theorem nn_HN (he:∀ b,b < A.length→ι' b=ι b):Nn (HN H ι A N) ι' A=Nn H ι (A++N):=by
 funext c
 apply propext
 constructor
 ·rintro ((h | ⟨b,k,n,h1,h2,h3⟩) | ⟨b,k,n,h1,h2,h3⟩)
  ·exact .inl h
  ·exact .inr ⟨_,k,n,get_N h1,h2,h3⟩
  ·exact .inr ⟨b,k,n,get_A h1,h2,by rw[← he b (gSI.1 h1).1]; exact h3⟩
 ·rintro (h | ⟨b,k,n,h1,h2,h3⟩)
  ·exact .inl (.inl h)
  ·rcases get_AN h1 with⟨hb,h4⟩ | ⟨j,rfl,h4⟩
   ·exact .inr ⟨b,k,n,h4,h2,by rw[he b hb]; exact h3⟩
   ·exact .inl (.inr ⟨j,k,n,h4,h2,h3⟩)
theorem AC.frame {f:FuncId} {args:List AV} {r:AV} (hcl:ClH A) (ha:cln.clnL A.length args=args) (h:AC P f args A (AtH A r)):AC P f args (A++N) (AtH (A++N) r):=by
 intro H ι w vs hH hR hs hm
 have hnn:Nn (HN H ι A N) ι A=Nn H ι (A++N):=nn_HN fun _ _=>rfl
 have hdis:∀ (b:Nat) (k:Blk) (c n:Nat),A[b]? = some k→ι b=some (c,n)→∀ (j:Nat) (k':Blk) (n':Nat),N[j]? = some k'→ι (A.length + j)=some (c,n')→False:=fun b k c n hb hi j k' n' hj hi'=>by
  have:=hR.inj b _ k k' c n n' (get_A hb) (get_N hj) hi hi'
  have:=(gSI.1 hb).1
  omega
 have hH':HOk (HN H ι A N) ι A w:=by
  refine⟨fun c hc=>?_,hH.2.1,fun p hp hM=>?_,fun g hg hM=>?_⟩
  ·rcases hc with hc | ⟨b,k,n,h1,h2,h3⟩
   ·exact hH.1 c hc
   ·exact (hR.hid _ k c n (get_N h1) h3).2
  ·obtain⟨b,k,n,h1,h2,h3⟩:=hM
   exact hH.2.2.1 p hp ⟨b,k,n,get_A h1,h2,h3⟩
  ·obtain⟨b,k,n,h1,h2,h3⟩:=hM
   exact hH.2.2.2 g hg ⟨b,k,n,get_A h1,h2,h3⟩
 have hR':Rel (HN H ι A N) ι A w:=by
  refine⟨fun b k hb=>?_,fun b k c n hb hi=>?_,fun b b' k k' c n n' hb hb' hi hi'=>hR.inj b b' k k' c n n' (get_A hb) (get_A hb') hi hi'⟩
  ·rw[hnn]
   have hk:=clnB_iff.1 (hcl k (gMO hb))
   have h0:=hR.blk b k (get_A hb)
   unfold BlkRel at h0 ⊢
   split at h0
   case h_2=>exact h0
   ·obtain⟨arr,a1,a2,a3,a4⟩:=h0
    refine⟨arr,a1,a2,a3,fun i x hx=>⟨(a4 i x hx).1,fun j c hc=>?_⟩⟩
    obtain⟨u,u1,u2,u3⟩:=(a4 i x hx).2 j c hc
    exact⟨u,u1,⟨shp_less hcl (hk x (gMO hx) c (gMO hc)) u2.1,u2.2⟩,u3⟩
  ·have:=hR.hid b k c n (get_A hb) hi
   refine⟨?_,this.2⟩
   rintro (h1 | ⟨j,k',n',h1,h2,h3⟩)
   ·exact this.1 h1
   ·exact hdis b k c n hb hi j k' n' h1 h3
 refine (h _ ι w vs hH' hR' (shpL_less hcl ha hs) (by rw[hnn]; exact hm)).mono ?_
 rintro en w' ⟨v,r',ι1,A1,hv,⟨rfl,rfl⟩,hR1,hS1,hval⟩
 have hι:∀ b,b < A.length→ι1 b=ι b:=fun b hb=>by
  obtain⟨k',h1,h2,h3⟩:=hS1.stab b _ (gEG hb)
  rw[gEG hb] at h1
  obtain rfl:=oSI h1
  exact (h3 rfl).1
 have hnn1:Nn (HN H ι A N) ι1 A=Nn H ι (A++N):=nn_HN hι
 have hmu:∀ c,Mu ι A c→Mu ι (A++N) c:=fun c ⟨b,k,n,h1,h2,h3⟩=>⟨b,k,n,get_A h1,h2,h3⟩
 have hst:Step ι (A++N) w ι (A++N) w':=⟨fun b k hb=>⟨k,hb,Nat.le_refl _,fun _=>⟨rfl,rfl⟩⟩,fun c hc=>.inl hc,fun c hc hn=>hS1.keep c hc fun h=>hn (hmu c h),hS1.size,hS1.os,hS1.tape,hS1.output⟩
 refine⟨v,r',ι,A++N,hv,⟨rfl,rfl⟩,⟨fun b k hb=>?_,fun b k c n hb hi=>?_,hR.inj⟩,hst,?_⟩
 ·rcases get_AN hb with⟨hlt,h4⟩ | ⟨j,rfl,h4⟩
  ·have h0:=hR1.blk b k h4
   rw[hnn1] at h0
   unfold BlkRel at h0 ⊢
   rw[hι b hlt] at h0
   split at h0
   case h_2=>exact h0
   ·obtain⟨arr,a1,a2,a3,a4⟩:=h0
    refine⟨arr,a1,a2,a3,fun i x hx=>⟨(a4 i x hx).1,fun j c hc=>?_⟩⟩
    obtain⟨u,u1,u2,u3⟩:=(a4 i x hx).2 j c hc
    exact⟨u,u1,⟨shp_more (fun b hb=>(hι b hb).symm) u2.1,u2.2⟩,u3⟩
  ·refine (hR.blk _ k hb).step rfl (fun c n hc=>?_) fun c u hv=>Val.step hst hv
   refine hS1.keep c (hR.hid _ k c n hb hc).2 ?_
   rintro⟨b,k',n',h1,h2,h3⟩
   exact hdis b k' c n' h1 h3 j k n h4 hc
 ·have:=hR.hid b k c n hb hi
  exact⟨this.1,Nat.lt_of_lt_of_le this.2 hS1.size⟩
 ·rw[← hnn1]
  exact⟨shp_more (fun b hb=>(hι b hb).symm) hval.1,hval.2⟩
end
def frzF (n:Nat) (A:AHeap):AHeap:=frz ((List.range A.length).filter fun b=>decide (n≤b)) A
def ResH (A:AHeap) (r0:AV):AV→AHeap→Prop:=fun r A'=>resO (reiV true (frzF A.length A') 9 r) r0∧(A'.take A.length).map (clnB A.length)=A
theorem VLe.nle {A:AHeap} {c c':AV} (h:NLe c c'):VLe A c c':=fun _ _ _ u _ hu=>⟨NLe.shp c c' u h hu.1,NLe.mem c c' u h hu.2⟩
theorem frzF_take {n:Nat} {A:AHeap}:(frzF n A).take n=A.take n:=by
 apply List.ext_getElem?
 intro j
 rw[List.getElem?_take,List.getElem?_take]
 split
 ·rename_i hj
  unfold frzF frz
  rw[List.getElem?_mapIdx]
  cases h:A[j]? with
  | none=>rfl
  | some k =>
    have:((List.range A.length).filter fun b=>decide (n≤b)).contains j=false:=by
     rw[Bool.eq_false_iff]
     intro hc
     have:=List.mem_filter.1 (List.contains_iff_mem.1 hc)
     have h2:=of_decide_eq_true this.2
     omega
    simp only[Option.map_some,this]
    rfl
 ·rfl
theorem AC.resH {P:Program} {f:FuncId} {args:List AV} {A:AHeap} {r0:AV} (hr:cln A.length r0=r0) (h:AC P f args A (ResH A r0)):AC P f args A (AtH A r0):=
 h.sub fun r A' ⟨h1,h2⟩=>by
  cases hr1:reiV true (frzF A.length A') 9 r with
  | none=>rw[hr1] at h1; exact h1.elim
  | some r1=>
  rw[hr1] at h1
  have h3:NLe r1 r0:=h1
  refine⟨r0,A,?_,rfl,rfl⟩
  have s1:Sub A.length (fun _=>r) A' (fun _=>r) (frzF A.length A'):=Sub.frz _
  have s2:Sub A.length (fun _=>r) (frzF A.length A') (fun _=>r1) (frzF A.length A'):=Sub.env fun _=>VLe.rei hr1
  have s3:Sub A.length (fun _=>r1) (frzF A.length A') (fun _=>r0) (frzF A.length A'):=Sub.env fun _=>VLe.nle h3
  have s4:Sub A.length (fun _=>r0) (frzF A.length A') (fun _=>cln A.length r0) (((frzF A.length A').take A.length).map (clnB A.length)):=Sub.take _ (Nat.le_refl _)
  rw[frzF_take,h2,hr] at s4
  exact ((s1.trans s2).trans s3).trans s4
theorem frzF_get (n j:Nat) (A:AHeap):(frzF n A)[j]? = (A[j]?).map fun k=>if n≤j then ⟨k.ver,false,k.ty,k.sz,k.els⟩ else k:=by
 unfold frzF frz
 rw[List.getElem?_mapIdx]
 cases h:A[j]? with
 | none=>rfl
 | some k =>
   have hj:=(gSI.1 h).1
   simp only[Option.map_some,Option.some.injEq]
   by_cases hn:n≤j
   ·have:((List.range A.length).filter fun b=>decide (n≤b)).contains j=true:=List.contains_iff_mem.2 (List.mem_filter.2 ⟨List.mem_range.2 hj,by simpa using hn⟩)
    simp only[this,if_true,hn]
   ·have:((List.range A.length).filter fun b=>decide (n≤b)).contains j=false:=by
     rw[Bool.eq_false_iff]
     intro hc
     have h2:=of_decide_eq_true (List.mem_filter.1 (List.contains_iff_mem.1 hc)).2
     omega
    simp only[this,hn]
    rfl
@[simp] theorem frzF_nil (n:Nat):frzF n []=[]:=rfl
@[simp] theorem frzF_succ (n : Nat) (a : Blk) (A : AHeap) : frzF (n + 1) (a :: A) = a :: frzF n A := by
  apply List.ext_getElem?
  intro j
  rw[frzF_get]
  cases j with
  | zero=>simp
  | succ j=>simp[frzF_get]
@[simp] theorem frzF_zero (a : Blk) (A : AHeap) : frzF 0 (a :: A) = ⟨a.ver, false, a.ty, a.sz, a.els⟩ :: frzF 0 A := by
  apply List.ext_getElem?
  intro j
  rw[frzF_get]
  cases j with
  | zero=>simp
  | succ j=>simp[frzF_get]
end Go.Proofs.YtfnbhkbfelllgaaGreatDoor
set_option linter.all false
namespace Go.Proofs.YtfnbhkbfelllgaaGreatDoor
open Go.RowKit
def msR (L:List (Int×List Int)):List (List AV):=L.map fun p=>[.d (.v (.int .i64 p.1)),.d (.sl 1 (i64s p.2))]
def msM (L:List (Int×List Int)):Blk:=⟨1,true,1000001,2,msR L⟩
def lkS (x:Int):List (Int×List Int)→Option (List Int)
 | []=>none
 | p::l=>if p.1=x then some p.2 else lkS x l
def ixS (x:Int):List (Int×List Int)→Nat
 | []=>0
 | p::l=>if p.1=x then 0 else ixS x l + 1
def upS (x:Int) (v:List Int):List (Int×List Int)→List (Int×List Int)
 | []=>[(x,v)]
 | p::l=>if p.1=x then (x,v)::l else p::upS x v l
theorem find_ms (x:Int):∀ (L:List (Int×List Int)) (i:Nat),findA (.int .i64) (.int .i64 x) (msR L) i=some ((lkS x L).map fun v=>(i + ixS x L,[AV.d (.sl 1 (i64s v))]))
 | [],i=>by simp[msR,findA,lkS]
 | p :: l, i => by
   have ih:=find_ms x l (i + 1)
   simp only[msR] at ih
   simp only[msR,List.map_cons,findA,Instr.sameNow]
   by_cases h:p.1=x
   ·have h2:(x == p.1)=true:=by simp[h]
    simp[h,h2,lkS,ixS]
   ·have h2:(x == p.1)=false:=by simp; omega
    simp[h,h2,lkS,ixS,ih]
    cases lkS x l
    ·simp
    ·simp; omega
theorem ups_set (x:Int) (v:List Int):∀ (L:List (Int×List Int)),(lkS x L≠none→(msR L).set (ixS x L) [.d (.v (.int .i64 x)),.d (.sl 1 (i64s v))]=msR (upS x v L))∧(lkS x L=none→msR L++[[.d (.v (.int .i64 x)),.d (.sl 1 (i64s v))]]=msR (upS x v L))
 | []=>by simp[lkS,msR,upS]
 | p :: l => by
   obtain⟨h1,h2⟩:=ups_set x v l
   simp only[msR] at h1 h2
   by_cases h:p.1=x
   ·simp[lkS,ixS,upS,h,msR]
   ·simp[lkS,ixS,upS,h,msR]
    exact⟨by simpa using h1,by simpa using h2⟩
section
variable {P:Program} {A:AHeap} {b:Nat} {L:List (Int×List Int)} {t kt et:TypeId}
theorem upd_ms (hu:P.underlying t=some (.map kt et)) (hk:P.underlying kt=some (.int .i64)) (hb:A[b]? = some (msM L)) (x:Int) (v:List Int) :
 updA P t A (.mp b 1) (.d (.v (.int .i64 x))) (.d (.sl 1 (i64s v)))=some (A.set b (msM (upS x v L))):=by
 have hf:=find_ms x L 0
 obtain⟨h1,h2⟩:=ups_set x v L
 unfold updA
 rw[hu]
 simp only[hk]
 rw[hb]
 cases hl:lkS x L with
 | none =>
   rw[hl] at hf
   simp[plainK,cellsA,isAgg,Value.oneCell',hf,msM,setEls,h2 hl]
 | some w =>
   rw[hl] at hf
   have:=h1 (by rw[hl]; simp)
   simp at hf
   simp[plainK,cellsA,isAgg,Value.oneCell',hf,msM,setEls,this]
theorem look_ms (hu:P.underlying t=some (.map kt et)) (hk:P.underlying kt=some (.int .i64)) (hz:zv P et=some (.slice none 0 0)) (hb:A[b]? = some (msM L)) (x:Int) (ok:Bool) :
 lookupA P t A ok (.mp b 1) (.d (.v (.int .i64 x)))=some (okM ok (match lkS x L with | some v=>.d (.sl 1 (i64s v)) | none=>.d (.v (.slice none 0 0))) (lkS x L).isSome):=by
 have hf:=find_ms x L 0
 unfold lookupA
 rw[hu]
 simp only[hk]
 rw[hb]
 cases hl:lkS x L with
 | none =>
   rw[hl] at hf
   simp at hf
   simp[plainK,hf,msM,zeroM,hz,okM,Value.oneCell']
 | some w =>
   rw[hl] at hf
   simp at hf
   simp[plainK,hf,msM,valM,okM]
theorem cln_msM (m:Nat) (L:List (Int×List Int)):clnB m (msM L)=msM L:=by
 unfold clnB msM msR clnE
 simp
end
section
variable {P:Program} {K:AKont} {e:AEnv} {A:AHeap} {d:Option Nat}
theorem VLe.ip {b ver i o:Nat} {k:Blk} {x:List AV} {cs:List D} (hb:A[b]? = some k) (hv:ver=k.ver) (hw:k.wr=false) (hx:k.els[i]? = some x) (hcs:x.drop o=cs.map AV.d) (hty:k.ty < 1000000):VLe A (.ptr b ver i o) (.ip cs):=by
 intro H ι w u hR hu
 have h1:=hu.1
 simp only[Shp] at h1
 obtain⟨_,k',hk',_,h2⟩:=h1
 rw[hb] at hk'
 obtain rfl:=oSI hk'
 obtain⟨c,n,hι,rfl⟩:=h2 hv
 have hblk:=hR.blk b k hb
 unfold BlkRel at hblk
 rw[hι] at hblk
 obtain⟨arr,a1,a2,a3,a4⟩:=hblk
 have a1:=a1.cells hty
 have hhid:=hR.hid b k c n hb hι
 have hnn:¬ Nn H ι A c:=by
  rintro (h | ⟨b',k',n',h1,h2,h3⟩)
  ·exact hhid.1 h
  ·obtain rfl:=hR.inj b b' k k' c n n' hb h1 hι h3
   rw[hb] at h1
   obtain rfl:=oSI h1
   rw[hw] at h2
   cases h2
 refine⟨by simp only[Shp]; exact⟨c,_,rfl⟩,?_⟩
 simp only[Mem]
 refine⟨c,_,rfl,⟨hhid.2,hnn⟩,RdE.of fun j dd hj=>?_⟩
 have hxo:x[o + j]? = some (.d dd):=by
  rw[← List.getElem?_drop,hcs]
  simp[hj]
 obtain⟨h3,h4⟩:=a4 i x hx
 obtain⟨v,g1,g2,_⟩:=h4 (o + j) (.d dd) hxo
 refine⟨v,?_,?_⟩
 ·rw[cell_in a1]
  rw[← g1]
  congr 1
  omega
 ·have:=g2.2
  simpa only[Mem] using this
theorem AC.argle {f:FuncId} {args args':List AV} {R:AV→AHeap→Prop} (h:AC P f args' A R) (hl:args.length=args'.length) (hv:∀ (i:Nat) (c c':AV),args[i]? = some c→args'[i]? = some c'→VLe A c c'):AC P f args A R:=by
 intro H ι w vs hH hR h1 h2
 have hlen:=h1.len
 have hval:∀ (i:Nat) (c':AV) (u:Value),args'[i]? = some c'→vs[i]? = some u→Val ι A (Nn H ι A) w c' u:=fun i c' u hc' hu=>by
  have hi:i < args.length:=by rw[hl]; exact (gSI.1 hc').1
  have hc:=gEG hi
  obtain⟨u',hu',hs⟩:=h1.get hc
  rw[hu] at hu'
  obtain rfl:=oSI hu'
  exact hv i _ c' hc hc' H ι w u hR ⟨hs,h2.get hc hu⟩
 refine h H ι w vs hH hR (ShpL.of (by omega) fun i c u hc hu=>(hval i c u hc hu).1) (MemL.of (by omega) fun i c u hc hu=>(hval i c u hc hu).2)
end
end Go.Proofs.YtfnbhkbfelllgaaGreatDoor
set_option linter.all false
namespace Go.Proofs.YtfnbhkbfelllgaaGreatDoor
open Go.RowKit
def avopG (P:Program) (n:Nat) (o:Oper) (K:AKont) (e:AEnv) (A:AHeap):Prop:=∀ (C:Ctx) (ec:Env) (w:World),C.A.length=n→Sta C e A ec w→vop P o (Lift C K) ec w
theorem avopG_of {P:Program} {n:Nat} {o:Oper} {K:AKont} {e:AEnv} {A:AHeap} (h:avop P n o K e A):avopG P n o K e A:=fun _ _ _ hn hS=>avop_sound hn hS h
theorem avopG_live {P:Program} {n:Nat} {o:Oper} {K:AKont} {e:AEnv} {A:AHeap} (r:Nat) {v:AV} {k k0:Blk} (hl:liveX P e r o.op=some (v,k)) (h0:A[r]? = some k0) (hv:k0.ver=0) (hk:K (aupd e o.dst v) (A.set r k)):avopG P n o K e A:=
 fun _ _ _ hn hS=>live_at hl h0 hv hk hn hS
def stG (P:Program) (n:Nat) (T:List (Nat×AHeap)) (e1:AEnv) (i:Nat) (o:Oper) (m:Nat) (A:AHeap):Prop:=
 ∀ (e:AEnv) (K:AKont),(∀ x∈o.op.operands,eva e x=eva e1 x)→∀ A3,(if still o.op=true then some A else heapM T (m ||| 2 ^ i))=some A3→K (aupd e o.dst (dvA e1 o.dst)) A3→avopG P n o K e A
def rowsG (P:Program) (n:Nat) (ops:List Oper) (T:List (Nat×AHeap)) (e1:AEnv):Nat→List Oper→Prop
 | _,[]=>True
 | i,o::os=>(∀ t∈T,mayP ops (masks [] ops) t.1 i=true→stG P n T e1 i o t.1 t.2)∧rowsG P n ops T e1 (i + 1) os
theorem rowsG_get {P:Program} {n:Nat} {ops:List Oper} {T:List (Nat×AHeap)} {e1:AEnv}:∀ (l:List Oper) (k:Nat),rowsG P n ops T e1 k l→∀ (i:Nat) (o:Oper),l[i]? = some o→∀ t∈T,mayP ops (masks [] ops) t.1 (k + i)=true→stG P n T e1 (k + i) o t.1 t.2
 | [],k,_,i,o,h=>by simp at h
 | q :: l, k, h, 0, o, ho => by
   obtain rfl:q=o:=by simpa using ho
   exact h.1
 | q :: l, k, h, i + 1, o, ho => by
   have:=rowsG_get l (k + 1) h.2 i o (by simpa using ho)
   rwa [show k + 1 + i=k + (i + 1) by omega] at this
section
variable {P:Program} {n:Nat} {K:AKont} {ops:List Oper}
theorem adrawG_all {e0 e1:AEnv} {T:List (Nat×AHeap)} {A':AHeap} (ho:∀ t,(∀ o∈ops,o.dst≠some t)→e1 t=e0 t) (hc:combR ops (T.map (·.1))=true) (h:rowsG P n ops T e1 0 ops) (hA:heapM T (fullP ops)=some A') (hk:K e1 A') :
 ∀ (f:Nat) (L:Array Bool) (e:AEnv) (A:AHeap),MidP ops e0 e1 T L e A→(List.range ops.length).countP (fun i=>!L.getD i false)≤f→aAnyG P n ops K f L e A:=by
 simp only[combR,Bool.and_eq_true] at hc
 obtain⟨⟨hc1,hc2⟩,hc3⟩:=hc
 have hnoT:∀ (i:Nat) (o:Oper),ops[i]? = some o→¬ still o.op=true→∀ (m:Nat) (A:AHeap),heapM T m=some A→mayP ops (masks [] ops) m i=true→heapM T (m ||| 2 ^ i)=none→False:=fun i o ho hst m A hm hmay hn=>by
  have h1:=List.all_eq_true.1 hc3 m (List.mem_map.2 ⟨_,heapM_mem hm,rfl⟩)
  have h2:=List.all_eq_true.1 h1 i (List.mem_range.2 (gSI.1 ho).1)
  have hch:chgP ops i=true:=by simp[chgP,ho,hst]
  rw[hch,hmay] at h2
  simp only[Bool.not_true,Bool.false_or] at h2
  exact heapM_some h2 hn
 have hall:∀ (i:Nat) (o:Oper),ops[i]? = some o→o.guard=none∧(o.after.toList.all fun ed=>!Region.binds .any ed || decide (ed.on < i))=true∧slotP (masks [] ops) ops i o=true:=fun i o ho=>by
  have:=List.all_eq_true.1 hc1 i (List.mem_range.2 (gSI.1 ho).1)
  rw[ho] at this
  simp only[Bool.and_eq_true] at this
  refine⟨?_,this.1.2,this.2⟩
  have hg:=this.1.1
  split at hg
  ·assumption
  ·cases hg
 have hfull:∀ t∈T,(∀ j,chgP ops j=true→t.1.testBit j=true)→t.1=fullP ops:=fun t ht hj=>by
  have:=List.all_eq_true.1 hc2 t.1 (List.mem_map.2 ⟨t,ht,rfl⟩)
  rw[beq_iff_eq] at this
  have h1:(List.range ops.length).all (fun j=>!chgP ops j || t.1.testBit j)=true:=by
   rw[List.all_eq_true]
   intro j _
   cases hcj:chgP ops j with
   | false=>rfl
   | true=>simp[hj j hcj]
  rw[h1] at this
  simpa using this.symm
 have hslot:∀ (i j:Nat) (oi oj:Oper) (d:Nat),ops[i]? = some oi→ops[j]? = some oj→oj.dst=some d→(i≠j→oi.dst≠some d)∧(d∈seen ops oi→j < i∧((masks [] ops).getD i 0).testBit j=true):=by
  intro i j oi oj d hi hj hd
  have hs:=(hall i oi hi).2.2
  simp only[slotP,List.all_eq_true,List.mem_range] at hs
  have:=hs j (gSI.1 hj).1
  rw[hj] at this
  simp only[hd,Bool.or_eq_true,beq_iff_eq,Bool.and_eq_true,Bool.not_eq_true',decide_eq_true_eq] at this
  refine⟨fun hij h0=>?_,fun h0=>?_⟩
  ·have:=this.1.resolve_left hij
   rw[h0] at this
   simp at this
  ·rcases this.2 with h2 | h2
   ·have:(seen ops oi).contains d=true:=by simpa using h0
    rw[this] at h2
    cases h2
   ·exact h2
 have hback:∀ (i:Nat) (o:Oper),ops[i]? = some o→∀ e∈o.after,Region.binds .any e=true→e.on < i:=fun i o ho e he hb=>by
  have:=List.all_eq_true.1 (hall i o ho).2.1 e (by simpa using he)
  simpa [hb] using this
 have hsome:∀ {L:Array Bool},L.size=ops.length→(∃ j,j < ops.length∧¬ Lst L j)→∃ i,i∈Region.ready .any ops.toArray L:=by
  rintro L hs ⟨j,hj,hu⟩
  induction j using Nat.strongRecOn with
  | _ j ih =>
    by_cases hb:∃ k,k < j∧¬ Lst L k
    ·obtain⟨k,hk,hn⟩:=hb
     exact ih k hk (by omega) hn
    ·refine⟨j,mem_ready.2 ⟨?_,ops[j],by simp[hj],fun e he hbi=>?_⟩⟩
     ·unfold Lst at hu
      simp[hs,hj] at hu ⊢
      exact hu
     ·have:=hback j ops[j] (by simp[hj]) e he hbi
      exact Classical.byContradiction fun hn=>hb ⟨e.on,this,hn⟩
 have hfin:∀ {L:Array Bool} {e:AEnv} {A:AHeap},MidP ops e0 e1 T L e A→(∀ j,j < ops.length→Lst L j)→K e A:=by
  intro L e A hM hl
  have he:e=e1:=by
   funext t
   by_cases hw:∃ (j:Nat) (o:Oper),ops[j]? = some o∧o.dst=some t
   ·obtain⟨j,o,ho,hd⟩:=hw
    exact hM.val j o t (hl j (gSI.1 ho).1) ho hd
   ·rw[hM.out t fun j o _ ho hd=>hw ⟨j,o,ho,hd⟩,ho t fun o hm hd=>by
     obtain⟨j,hj⟩:=List.getElem?_of_mem hm
     exact hw ⟨j,o,hj,hd⟩]
  obtain⟨m,hp1,hp2⟩:=hM.hp
  have hm:=hfull _ (heapM_mem hp1) fun j hc=>(hp2 j).2 ⟨hc,hl j (chgP_lt hc)⟩
  simp only at hm
  rw[hm,hA] at hp1
  rw[he,← oSI hp1]
  exact hk
 intro f
 induction f with
 | zero =>
   intro L e A hM hf
   have hl:∀ j,j < ops.length→Lst L j:=fun j hj=>by
    have h0:(List.range ops.length).countP (fun i=>!L.getD i false)=0:=by omega
    rw[List.countP_eq_zero] at h0
    have:=h0 j (List.mem_range.2 hj)
    unfold Lst
    simpa using this
   refine⟨?_,hfin hM hl⟩
   rw[List.eq_nil_iff_forall_not_mem]
   intro i hi
   obtain⟨o,hn⟩:=next_of hi
   exact hn.un (hl i (gSI.1 hn.ho).1)
 | succ f ih =>
   intro L e A hM hf
   refine⟨fun h0=>hfin hM fun j hj=>Classical.byContradiction fun hn=>?_,fun i hi=>?_⟩
   ·obtain⟨i,hi⟩:=hsome hM.sz ⟨j,hj,hn⟩
    rw[h0] at hi
    cases hi
   ·obtain⟨o,hn⟩:=next_of hi
    have hil:=(gSI.1 hn.ho).1
    refine⟨o,hn.ho,?_⟩
    unfold aStG
    rw[(hall i o hn.ho).1]
    have hseen:∀ t∈seen ops o,e1 t=e t:=fun t hsn=>by
     by_cases hw:∃ (j:Nat) (q:Oper),ops[j]? = some q∧q.dst=some t
     ·obtain⟨j,q,hq,hd⟩:=hw
      obtain⟨hlt,hsl⟩:=(hslot i j o q t hn.ho hq hd).2 hsn
      exact (hM.val j q t (mask_in hM.cl hn.ho hn.all hsl) hq hd).symm
     ·rw[hM.out t fun j o _ ho hd=>hw ⟨j,o,ho,hd⟩,ho t fun o hm hd=>by
       obtain⟨j,hj⟩:=List.getElem?_of_mem hm
       exact hw ⟨j,o,hj,hd⟩]
    have hag:∀ x∈o.op.operands,eva e x=eva e1 x:=fun x hx=>(eva_agree fun t he=>hseen t (by
     simp only[seen,List.mem_append,List.mem_filterMap]
     exact .inl ⟨_,by simpa using hx,by rw[he]⟩)).symm
    have hsz:i < L.size:=by rw[hM.sz]; exact hil
    obtain⟨m,hp1,hp2⟩:=hM.hp
    have hmay:mayP ops (masks [] ops) m i=true:=by
     unfold mayP
     simp only[Bool.and_eq_true,Bool.not_eq_true',List.all_eq_true,List.mem_range,Bool.or_eq_true]
     refine⟨?_,fun j hj=>?_⟩
     ·cases hb:m.testBit i with
      | false=>rfl
      | true=>exact absurd ((hp2 i).1 hb).2 hn.un
     ·cases hc:chgP ops j with
      | false=>exact .inl rfl
      | true =>
        refine .inr ⟨?_,?_⟩
        ·split
         ·rename_i hb
          exact (hp2 j).2 ⟨hc,mask_in hM.cl hn.ho hn.all hb⟩
         ·rfl
        ·split
         ·rename_i hb
          have hl:=((hp2 j).1 hb).2
          have hoj:ops[j]? = some ops[j]:=by simp[hj]
          cases hb2:((masks [] ops).getD j 0).testBit i with
          | false=>rfl
          | true=>exact absurd (mask_in hM.cl hoj (hM.cl j _ hoj hl) hb2) hn.un
         ·rfl
    have hstep:=rowsG_get ops 0 h i o hn.ho _ (heapM_mem hp1) (by rw[Nat.zero_add]; exact hmay)
    simp only[Nat.zero_add] at hstep
    have mid:∀ A3,(if still o.op=true then some A else heapM T (m ||| 2 ^ i))=some A3→MidP ops e0 e1 T (L.setIfInBounds i true) (aupd e o.dst (dvA e1 o.dst)) A3:=by
     intro A3 hA3
     refine⟨by simp[hM.sz],?_,?_,?_,?_⟩
     ·intro j oj hj hl ed he hb
      rw[Lst_set hsz] at hl ⊢
      rcases hl with hl | rfl
      ·exact .inl (hM.cl j oj hj hl ed he hb)
      ·obtain rfl:o=oj:=by rw[hn.ho] at hj; exact oSI hj
       exact .inl (hn.all ed he hb)
     ·by_cases hst:still o.op=true
      ·rw[if_pos hst] at hA3
       obtain rfl:=oSI hA3
       refine⟨m,hp1,fun j=>?_⟩
       rw[hp2 j,Lst_set hsz]
       constructor
       ·rintro⟨a,b⟩; exact⟨a,.inl b⟩
       ·rintro⟨a,b | rfl⟩
        ·exact⟨a,b⟩
        ·simp[chgP,hn.ho,hst] at a
      ·rw[if_neg hst] at hA3
       refine⟨m ||| 2 ^ i,hA3,fun j=>?_⟩
       rw[Nat.testBit_or,Bool.or_eq_true,hp2 j,Lst_set hsz,Nat.testBit_two_pow,decide_eq_true_eq]
       constructor
       ·rintro (⟨a,b⟩ | rfl)
        ·exact⟨a,.inl b⟩
        ·exact⟨by simp[chgP,hn.ho,hst],.inr rfl⟩
       ·rintro⟨a,b | rfl⟩
        ·exact .inl ⟨a,b⟩
        ·exact .inr rfl
     ·intro j oj t hl hj hd
      rw[Lst_set hsz] at hl
      by_cases hji:j=i
      ·subst hji
       obtain rfl:o=oj:=by rw[hn.ho] at hj; exact oSI hj
       rw[hd]
       simp only[aupd,upd,if_true,dvA]
      ·have hl:=hl.resolve_right hji
       rw[← hM.val j oj t hl hj hd]
       cases hdo:o.dst with
       | none=>rfl
       | some d' =>
         have:t≠d':=fun h0=>(hslot i j o oj t hn.ho hj hd).1 (Ne.symm hji) (by rw[hdo,h0])
         simp only[aupd,upd,if_neg this]
     ·intro t ht
      have ht':∀ (j:Nat) (o:Oper),Lst L j→ops[j]? = some o→o.dst≠some t:=fun j q hl hq=>ht j q ((Lst_set hsz j).2 (.inl hl)) hq
      rw[← hM.out t ht']
      have:=ht i o ((Lst_set hsz i).2 (.inr rfl)) hn.ho
      cases hdo:o.dst with
      | none=>rfl
      | some d' =>
        have:t≠d':=fun h0=>this (by rw[hdo,h0])
        simp only[aupd,upd,if_neg this]
    have hcnt:=cnt_set (N:=ops.length) (L:=L) hil hsz hn.un
    by_cases hst:still o.op=true
    ·have h3:(if still o.op=true then some A else heapM T (m ||| 2 ^ i))=some A:=if_pos hst
     exact hstep e _ hag A h3 (ih _ _ _ (mid A h3) (by omega))
    ·cases hq:heapM T (m ||| 2 ^ i) with
     | none=>exact False.elim (hnoT i o hn.ho hst m A hp1 hmay hq)
     | some A3 =>
       have h3:(if still o.op=true then some A else heapM T (m ||| 2 ^ i))=some A3:=by rw[if_neg hst,hq]
       exact hstep e _ hag A3 h3 (ih _ _ _ (mid A3 h3) (by omega))
theorem adrawG {id:Nat} {l:List Oper} {e:AEnv} {A A':AHeap} (g:Nat) (vs:List AV) (T:List (Nat×AHeap)) (hm:P.follows .mixedOrders=true) (hc:combR l (T.map (·.1))=true) (h0:heapM T 0=some (A++List.replicate g ⟨0,true,0,0,[]⟩)) (hA:heapM T (fullP l)=some A')
 (h:rowsG P n l T (putR l vs e) 0 l) (hk:K (putR l vs e) A'):aDraw P n id l.toArray K e A:=by
 intro C ec w hn hS
 refine (adraw_allG hm (adrawG_all (e0:=e) (fun t ht=>putR_out l vs e t ht) hc h hA hk _ (Array.replicate l.length false) e (A++List.replicate g ⟨0,true,0,0,[]⟩) ⟨by simp,fun j o _ hl=>absurd hl ?_,⟨0,h0,fun j=>⟨fun h=>by simp at h,fun h=>absurd h.2 ?_⟩⟩,fun j o t hl=>absurd hl ?_,fun t _=>rfl⟩ ?_)) C ec w hn (Sub.ghosts _ C ec w hn hS)
 all_goals first
  | (refine Nat.le_trans List.countP_le_length ?_; simp; done)
  | (intro h; unfold Lst at h; rw[getD_replicate_false'] at h; cases h)
end
section
variable {P:Program}
theorem own_up {ι:Place} {A:AHeap} {r len:Nat} {k:Blk} {u:Value} (hr:r < A.length) (hk:k.ver=0) (h:Shp ι (A.set r k) (.own r 0 0 len) u):Shp ι (A.set r ⟨1,k.wr,k.ty,k.sz,k.els⟩) (.own r 1 0 len) u:=by
 simp only[Shp] at h ⊢
 obtain⟨h1,k',h2,h3,h4⟩:=h
 rw[gSS hr] at h2
 obtain rfl:=oSI h2
 refine⟨h1,_,by rw[gSS hr],Nat.le_refl _,fun _=>?_⟩
 exact h4 hk.symm
theorem slice_at {n r t len:Nat} {ps:Array (Nat×Operand)} {o:Oper} {k k0:Blk} {e:AEnv} {A:AHeap} {K:AKont} (ho:o.op = .buildSlice t len ps) (hl:newA P r e (.buildSlice t len ps)=some (.own r 0 0 len,k)) (h0:A[r]? = some k0) (hv:k0.ver=0)
 (hk:K (aupd e o.dst (.own r 1 0 len)) (A.set r ⟨1,k.wr,k.ty,k.sz,k.els⟩)) {C:Ctx} {ec:Env} {w:World} (hn:C.A.length=n) (hS:Sta C e A ec w):vop P o (Lift C K) ec w:=by
 obtain⟨d,op,ty,pos,af,gd⟩:=o
 obtain⟨kv,kw,kt,ks,ke⟩:=k
 simp only at ho hk
 subst ho
 have hlt:=(gSI.1 h0).1
 obtain⟨h0',ι,h1,h2,h3,h4⟩:=hS
 obtain⟨t',cs,f,hno⟩:=newA_sound h3 hl
 have hof:=hno.of
 have hty:=hno.ty
 simp only at hty
 subst hty
 have hlen:=hno.len
 obtain⟨g1,g2⟩:=rel_at (r:=r) (k:=⟨1,kw,kt,ks,ke⟩) (arr:=cs.toArray) h1 (fun c hc=>Nat.lt_of_lt_of_le (h0'.1 c hc) h2.size) h0 (by rw[hv]; exact Nat.zero_lt_one) hno.tyl (by simpa using Nat.le_of_eq hlen) fun i x hi=>by
  have a:=hno.shp ι A h3 i x hi
  refine⟨a.1,fun j c hj=>?_⟩
  obtain⟨u,b1,b2⟩:=a.2 j c hj
  have b3:=hno.mem (Nn C.H ι A) w h4 i x hi j c hj u b1
  exact⟨u,by simpa using b1,⟨b2,b3.1⟩,b3.2⟩
 have hval:=own_up (k:=⟨kv,kw,kt,ks,ke⟩) hlt hno.ver (hno.val (newI ι r w.heap.size cs.toArray.size) (A.set r ⟨kv,kw,kt,ks,ke⟩) w.heap.size (by rw[gSS hlt]) (by simp[newI]))
 simp only[newOf,Option.map_eq_some_iff,Prod.mk.injEq] at hof
 obtain⟨z,hz,rfl,rfl,rfl⟩:=hof
 exact⟨_,_,hz,_,_,hk,h0',_,g1,h2.trans g2,shp_upd (fun i=>Shp.step g2.stab _ _ (h3 i)) hval,mem_upd (fun i=>Mem.keep g2.keepD _ _ (h4 i)) (by simp[Mem])⟩
theorem avopG_slice {n t len:Nat} {ps:Array (Nat×Operand)} {o:Oper} {K:AKont} {e:AEnv} {A:AHeap} (r:Nat) {k k0:Blk} (ho:o.op = .buildSlice t len ps) (hl:newA P r e (.buildSlice t len ps)=some (.own r 0 0 len,k)) (h0:A[r]? = some k0) (hv:k0.ver=0) (hk:K (aupd e o.dst (.own r 1 0 len)) (A.set r ⟨1,k.wr,k.ty,k.sz,k.els⟩)):avopG P n o K e A:=
 fun _ _ _ hn hS=>slice_at ho hl h0 hv hk hn hS
end
section
variable {P:Program}
theorem ptr_up {ι:Place} {A:AHeap} {r:Nat} {k:Blk} {u:Value} (hr:r < A.length) (hk:k.ver=0) (h:Shp ι (A.set r k) (.ptr r 0 0 0) u):Shp ι (A.set r ⟨1,k.wr,k.ty,k.sz,k.els⟩) (.ptr r 1 0 0) u:=by
 simp only[Shp] at h ⊢
 obtain⟨h1,k',h2,h3,h4⟩:=h
 rw[gSS hr] at h2
 obtain rfl:=oSI h2
 refine⟨h1,_,by rw[gSS hr],Nat.le_refl _,fun _=>?_⟩
 exact h4 hk.symm
theorem box_at {n r t:Nat} {x:Operand} {o:Oper} {k k0:Blk} {e:AEnv} {A:AHeap} {K:AKont} (ho:o.op = .box t x) (hl:newA P r e (.box t x)=some (.ptr r 0 0 0,k)) (h0:A[r]? = some k0) (hv:k0.ver=0)
 (hk:K (aupd e o.dst (.ptr r 1 0 0)) (A.set r ⟨1,k.wr,k.ty,k.sz,k.els⟩)) {C:Ctx} {ec:Env} {w:World} (hn:C.A.length=n) (hS:Sta C e A ec w):vop P o (Lift C K) ec w:=by
 obtain⟨d,op,ty,pos,af,gd⟩:=o
 obtain⟨kv,kw,kt,ks,ke⟩:=k
 simp only at ho hk
 subst ho
 have hlt:=(gSI.1 h0).1
 obtain⟨h0',ι,h1,h2,h3,h4⟩:=hS
 obtain⟨t',cs,f,hno⟩:=newA_sound h3 hl
 have hof:=hno.of
 have hty:=hno.ty
 simp only at hty
 subst hty
 have hlen:=hno.len
 obtain⟨g1,g2⟩:=rel_at (r:=r) (k:=⟨1,kw,kt,ks,ke⟩) (arr:=cs.toArray) h1 (fun c hc=>Nat.lt_of_lt_of_le (h0'.1 c hc) h2.size) h0 (by rw[hv]; exact Nat.zero_lt_one) hno.tyl (by simpa using Nat.le_of_eq hlen) fun i x hi=>by
  have a:=hno.shp ι A h3 i x hi
  refine⟨a.1,fun j c hj=>?_⟩
  obtain⟨u,b1,b2⟩:=a.2 j c hj
  have b3:=hno.mem (Nn C.H ι A) w h4 i x hi j c hj u b1
  exact⟨u,by simpa using b1,⟨b2,b3.1⟩,b3.2⟩
 have hval:=ptr_up (k:=⟨kv,kw,kt,ks,ke⟩) hlt hno.ver (hno.val (newI ι r w.heap.size cs.toArray.size) (A.set r ⟨kv,kw,kt,ks,ke⟩) w.heap.size (by rw[gSS hlt]) (by simp[newI]))
 simp only[newOf,Option.map_eq_some_iff,Option.some.injEq,Prod.mk.injEq] at hof
 obtain⟨rfl,rfl,rfl⟩:=hof
 refine⟨_,_,rfl,_,_,hk,h0',_,?_,h2.trans g2,shp_upd (fun i=>Shp.step g2.stab _ _ (h3 i)) hval,mem_upd (fun i=>Mem.keep g2.keepD _ _ (h4 i)) (by simp[Mem])⟩
 exact g1
theorem avopG_box {n t:Nat} {x:Operand} {o:Oper} {K:AKont} {e:AEnv} {A:AHeap} (r:Nat) {k k0:Blk} (ho:o.op = .box t x) (hl:newA P r e (.box t x)=some (.ptr r 0 0 0,k)) (h0:A[r]? = some k0) (hv:k0.ver=0) (hk:K (aupd e o.dst (.ptr r 1 0 0)) (A.set r ⟨1,k.wr,k.ty,k.sz,k.els⟩)):avopG P n o K e A:=
 fun _ _ _ hn hS=>box_at ho hl h0 hv hk hn hS
theorem live_mk {e:AEnv} {r t el sz bytes n:Nat} {x y:Operand} {z:List AV} (hx:eva e x=aI .i64 n) (hy:eva e y=aI .i64 n) (hb:byt P t=some (el,sz,bytes)) (hz:zvA P el=some z) (h1:n≤maxLen) (h2:bytes * n≤140737488355328) :
 liveX P e r (.makeSlice t x y)=some (.own r 1 0 n,⟨1,true,el,sz,List.replicate n z⟩):=by
 simp only[liveX]
 rw[hx,hy]
 show (match byt P t with
  | some (el, sz, bytes) => (match zvA P el with
    | some z=>if n≤n∧n≤maxLen∧bytes * n≤140737488355328 then some (.own r 1 0 n,⟨1,true,el,sz,List.replicate n z⟩) else none
    | none=>none)
  | none=>none)=some (AV.own r 1 0 n,(⟨1,true,el,sz,List.replicate n z⟩:Blk))
 rw[hb]
 simp only[hz]
 rw[if_pos ⟨Nat.le_refl _,h1,h2⟩]
end
end Go.Proofs.YtfnbhkbfelllgaaGreatDoor
set_option linter.all false
namespace Go.Proofs.YtfnbhkbfelllgaaGreatDoor
open Go.RowKit
def ubR (U:List Int):List (List AV):=U.map fun x=>[.d (.v (.int .i64 x)),.d (.v (.bool true))]
def ubB (U:List Int):Blk:=⟨0,true,1000001,2,ubR U⟩
def insU (x:Int) (U:List Int):List Int:=if x∈U then U else U++[x]
theorem insU_mem {x y:Int} {U:List Int}:y∈insU x U↔y∈U∨y=x:=by
 unfold insU
 split
 ·rename_i h
  exact⟨.inl,fun h2=>h2.elim id fun e=>e ▸ h⟩
 ·simp
theorem find_ub (x:Int):∀ (U:List Int) (i:Nat),findA (.int .i64) (.int .i64 x) (ubR U) i=some (if x∈U then some (i + U.idxOf x,[AV.d (.v (.bool true))]) else none)
 | [],i=>by simp[ubR,findA]
 | y :: U, i => by
   have ih:=find_ub x U (i + 1)
   simp only[ubR] at ih
   simp only[ubR,List.map_cons,findA,Instr.sameNow]
   by_cases h:y=x
   ·subst h
    simp[List.idxOf_cons_self]
   ·have h2:(x == y)=false:=by simp; omega
    have h1:¬ x=y:=fun e=>h e.symm
    have h3:(y == x)=false:=by simpa using h
    have h4:(y::U).idxOf x=U.idxOf x + 1:=by rw[List.idxOf_cons,h3]; rfl
    simp[h,h1,h2,h4,ih]
    by_cases hm:x∈U
    ·simp[hm]; omega
    ·simp[hm]
theorem ub_same {x:Int}:∀ {U:List Int},x∈U→(ubR U).set (U.idxOf x) [.d (.v (.int .i64 x)),.d (.v (.bool true))]=ubR U
 | y :: U, h => by
   by_cases e:y=x
   ·subst e
    simp[ubR,List.idxOf_cons_self]
   ·have h3:(y == x)=false:=by simpa using e
    have h4:(y::U).idxOf x=U.idxOf x + 1:=by rw[List.idxOf_cons,h3]; rfl
    have h5:x∈U:=by
     rcases List.mem_cons.1 h with h | h
     ·exact absurd h.symm e
     ·exact h
    have:=ub_same h5
    rw[h4]
    simp only[ubR,List.map_cons,List.set_cons_succ] at this ⊢
    rw[this]
section
variable {P:Program} {A:AHeap} {b:Nat} {U:List Int} {t kt et:TypeId}
theorem upd_ub (hu:P.underlying t=some (.map kt et)) (hk:P.underlying kt=some (.int .i64)) (hb:A[b]? = some (ubB U)) (x:Int) :
 updA P t A (.mp b 0) (.d (.v (.int .i64 x))) (.d (.v (.bool true)))=some (A.set b (ubB (insU x U))):=by
 have hf:=find_ub x U 0
 unfold updA
 rw[hu]
 simp only[hk]
 rw[hb]
 by_cases hx:x∈U
 ·rw[if_pos hx] at hf
  have:=ub_same hx
  simp at hf
  simp[plainK,cellsA,isAgg,Value.oneCell',hf,ubB,setEls,this,insU,hx]
 ·rw[if_neg hx] at hf
  have:ubR U++[[AV.d (.v (.int .i64 x)),AV.d (.v (.bool true))]]=ubR (U++[x]):=by simp[ubR]
  simp[plainK,cellsA,isAgg,Value.oneCell',hf,ubB,setEls,this,insU,hx]
theorem look_ub (hu:P.underlying t=some (.map kt et)) (hk:P.underlying kt=some (.int .i64)) (hz:zv P et=some (.bool false)) (hb:A[b]? = some (ubB U)) (x:Int) :
 lookupA P t A false (.mp b 0) (.d (.v (.int .i64 x)))=some (.d (.v (.bool (decide (x∈U))))):=by
 have hf:=find_ub x U 0
 unfold lookupA
 rw[hu]
 simp only[hk]
 rw[hb]
 by_cases hx:x∈U
 ·rw[if_pos hx] at hf
  simp at hf
  simp[plainK,hf,ubB,valM,okM,hx]
 ·rw[if_neg hx] at hf
  simp[plainK,hf,ubB,zeroM,hz,okM,Value.oneCell',hx]
theorem cln_ub (m:Nat) (U:List Int):clnB m (ubB U)=ubB U:=by
 unfold clnB ubB ubR clnE
 simp
end
theorem nmy {b:Bool} {P:Prop} (h:b=false:=by kernel_rfl) (h':b=true):P:=absurd h' (Bool.eq_false_iff.1 h)
end Go.Proofs.YtfnbhkbfelllgaaGreatDoor
