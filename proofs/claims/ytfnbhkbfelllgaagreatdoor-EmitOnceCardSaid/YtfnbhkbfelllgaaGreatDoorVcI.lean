import Derived.Test.YtfnbhkbfelllgaaGreatDoorVcH
set_option linter.all false
namespace Go.Proofs.YtfnbhkbfelllgaaGreatDoor
open Go.RowKit
section
variable {P:Program} {ops:List Oper} {late:List (Nat×Nat)} {sp:Nat→Spec} {w0:World} {K:Kont} {e0:Env} {n:Nat}
structure Inv (P:Program) (ops:List Oper) (sp:Nat→Spec) (w0:World) (e0:Env) (n:Nat) (listed:Array Bool) (a:Act) (w:World) (c:Nat→Par) (β:Nat→Nat) (w1:World):Prop where
 fr:Fr n a
 sz:listed.size=ops.length
 cl:Closed ops (Lst listed)
 fresh:Fresh ops w0 c β
 rgs:∀ j,∀ r∈(c j).rg,r.2≤w1.heap.size
 ext:Ext w0 w1
 val:∀ (j:Nat) (o:Oper) (t:Nat),Lst listed j→ops[j]? = some o→o.dst=some t→envOf a t=valD P ops sp w0 j o c β (SD P ops sp w0 e0 c β j).e
 old:∀ t,(∀ (j:Nat) (o:Oper),Lst listed j→ops[j]? = some o→o.dst≠some t)→envOf a t=e0 t
 facts:∀ x∈(SD P ops sp w0 e0 c β ops.length).facts,Lst listed x.1→x.2 w1
 st:stAll P ((SD P ops sp w0 e0 c β ops.length).st.filter fun x=>listed.getD x.1 false) w1=some w
 blk:∀ (j:Nat) (o:Oper),ops[j]? = some o→isNew o.op=true→if Lst listed j∧guardB ops o (SD P ops sp w0 e0 c β j).e=true then β j < w1.heap.size else w1.heap.size≤β j
theorem Lst_set {listed:Array Bool} {i:Nat} (hi:i < listed.size) (j:Nat):Lst (listed.setIfInBounds i true) j↔Lst listed j∨j=i:=by
 unfold Lst
 by_cases h:j=i
 ·subst h
  simp[hi]
 ·rw[getD_set_ne false (Ne.symm h)]
  simp[h]
section
variable {listed:Array Bool} {a:Act} {w:World} {c:Nat→Par} {β:Nat→Nat} {w1:World} {i:Nat} {o:Oper}
structure Next1 (ops:List Oper) (listed:Array Bool) (i:Nat) (o:Oper):Prop where
 ho:ops[i]? = some o
 un:¬ Lst listed i
 all:∀ e∈o.after,Region.binds .any e=true→Lst listed e.on
theorem next_of (hi:i∈Region.ready .any ops.toArray listed):∃ o,Next1 ops listed i o:=by
 obtain⟨h1,o,h2,h3⟩:=mem_ready.1 hi
 refine⟨o,by simpa using h2,fun h=>?_,h3⟩
 unfold Lst at h
 rcases Nat.lt_or_ge i listed.size with hlt | hge
 ·simp[hlt] at h1 h; rw[h1] at h; cases h
 ·simp[Array.getElem?_eq_none hge] at h
theorem Next1.mask (hn:Next1 ops listed i o) (hc:Closed ops (Lst listed)) {j:Nat} (h:((masks [] ops).getD i 0).testBit j=true):Lst listed j:=mask_in hc hn.ho hn.all h
theorem need_listed (hok:Ok ops) (hc:Closed ops (Lst listed)) {j:Nat} (hl:Lst listed j):Need ops (Lst listed) j:=by
 intro oj hoj t ht k ok hk hok' hd
 have:=hok.slot j k oj ok t hoj hok' hd ht (by omega)
 rw[if_pos hk] at this
 exact mask_in hc hoj (hc j oj hoj hl) this
theorem next_agree (hok:Ok ops) (hI:Inv P ops sp w0 e0 n listed a w c β w1) (hs:Shown P ops sp w0 c β (start e0)) (hn:Next1 ops listed i o):∀ t∈seen ops o,envOf a t=(SD P ops sp w0 e0 c β i).e t:=by
 intro t ht
 by_cases hw:∃ (j:Nat) (oj:Oper),ops[j]? = some oj∧oj.dst=some t
 ·obtain⟨j,oj,hj,hd⟩:=hw
  by_cases hji:j=i
  ·subst hji
   obtain rfl:o=oj:=by rw[hn.ho] at hj; exact oSI hj
   rw[hI.old t fun k ok hk hok' hdk=>hn.un (by rw[← hok.dst _ _ _ _ _ hok' hj hdk hd]; exact hk)]
   exact (runD_old hs t j fun k ok hk hok' hdk=>by
    have:=hok.dst _ _ _ _ _ hok' hj hdk hd
    omega).symm
  ·have hsl:=hok.slot i j o oj t hn.ho hj hd ht (Ne.symm hji)
   by_cases hlt:j < i
   ·rw[if_pos hlt] at hsl
    have hl:=hn.mask hI.cl hsl
    rw[hI.val j oj t hl hj hd]
    exact (runD_val hs hok.dst hj hd i hlt).symm
   ·rw[if_neg hlt] at hsl
    have hlj:¬ Lst listed j:=fun hl=>hn.un (mask_in hI.cl hj (hI.cl j oj hj hl) hsl)
    rw[hI.old t fun k ok hk hok' hdk=>hlj (by rw[← hok.dst _ _ _ _ _ hok' hj hdk hd]; exact hk)]
    exact (runD_old hs t i fun k ok hk hok' hdk=>by
     have:=hok.dst _ _ _ _ _ hok' hj hdk hd
     omega).symm
 ·rw[hI.old t fun k ok _ hok' hdk=>hw ⟨k,ok,hok',hdk⟩]
  exact (runD_old hs t i fun k ok _ hok' hdk=>hw ⟨k,ok,hok',hdk⟩).symm
theorem closed_set (hI:Inv P ops sp w0 e0 n listed a w c β w1) (hn:Next1 ops listed i o):Closed ops (Lst (listed.setIfInBounds i true)):=by
 have hi:i < listed.size:=by rw[hI.sz]; exact (gSI.1 hn.ho).1
 intro j oj hj hl e he hb
 rw[Lst_set hi] at hl ⊢
 rcases hl with hl | rfl
 ·exact .inl (hI.cl j oj hj hl e he hb)
 ·obtain rfl:o=oj:=by rw[hn.ho] at hj; exact oSI hj
  exact .inl (hn.all e he hb)
theorem put_val (hok:Ok ops) (hd:∀ d',o.dst=some d'→d' < n) (hI:Inv P ops sp w0 e0 n listed a w c β w1) (hn:Next1 ops listed i o) {v:Value} {c':Nat→Par} {β':Nat→Nat}
 (hsame:∀ (j:Nat) (oj:Oper),Lst listed j→ops[j]? = some oj→valD P ops sp w0 j oj c' β' (SD P ops sp w0 e0 c' β' j).e=valD P ops sp w0 j oj c β (SD P ops sp w0 e0 c β j).e)
 (hv:v=valD P ops sp w0 i o c' β' (SD P ops sp w0 e0 c' β' i).e) :
 (∀ (j:Nat) (oj:Oper) (t:Nat),Lst (listed.setIfInBounds i true) j→ops[j]? = some oj→oj.dst=some t→envOf (a.put o.dst v) t=valD P ops sp w0 j oj c' β' (SD P ops sp w0 e0 c' β' j).e) ∧
 (∀ t,(∀ (j:Nat) (oj:Oper),Lst (listed.setIfInBounds i true) j→ops[j]? = some oj→oj.dst≠some t)→envOf (a.put o.dst v) t=e0 t):=by
 have hi:i < listed.size:=by rw[hI.sz]; exact (gSI.1 hn.ho).1
 rw[envOf_put hI.fr hd]
 refine⟨fun j oj t hl hj ht=>?_,fun t ht=>?_⟩
 ·rw[Lst_set hi] at hl
  by_cases hji:j=i
  ·subst hji
   obtain rfl:o=oj:=by rw[hn.ho] at hj; exact oSI hj
   rw[ht]
   simp[upd,hv]
  ·have hl:Lst listed j:=by rcases hl with h | h; exact h; exact absurd h hji
   rw[hsame j oj hl hj,← hI.val j oj t hl hj ht]
   cases hdd:o.dst with
   | none=>rfl
   | some d =>
     simp only[upd]
     rw[if_neg (by rintro rfl; exact hji (hok.dst _ _ _ _ _ hj hn.ho ht hdd))]
 ·have h1:=hI.old t fun j oj hl hj=>ht j oj ((Lst_set hi j).2 (.inl hl)) hj
  have h2:=ht i o ((Lst_set hi i).2 (.inr rfl)) hn.ho
  cases hdd:o.dst with
  | none=>exact h1
  | some d =>
    simp only[upd]
    rw[if_neg (by rintro rfl; exact h2 hdd)]
    exact h1
theorem inv_same (hok:Ok ops) (hd:∀ d',o.dst=some d'→d' < n) (hI:Inv P ops sp w0 e0 n listed a w c β w1) (hn:Next1 ops listed i o) {v:Value} {w':World}
 (hv:v=valD P ops sp w0 i o c β (SD P ops sp w0 e0 c β i).e)
 (hst:stAll P ((SD P ops sp w0 e0 c β ops.length).st.filter fun x=>(listed.setIfInBounds i true).getD x.1 false) w1=some w')
 (hfa:∀ x∈(SD P ops sp w0 e0 c β ops.length).facts,x.1=i→x.2 w1)
 (hnew:isNew o.op=true→guardB ops o (SD P ops sp w0 e0 c β i).e=false) :
 Inv P ops sp w0 e0 n (listed.setIfInBounds i true) (a.put o.dst v) w' c β w1:=by
 have hi:i < listed.size:=by rw[hI.sz]; exact (gSI.1 hn.ho).1
 obtain⟨h1,h2⟩:=put_val hok hd hI hn (v:=v) (c':=c) (β':=β) (fun _ _ _ _=>rfl) hv
 refine⟨hI.fr.put _ _,by simp[hI.sz],closed_set hI hn,hI.fresh,hI.rgs,hI.ext,h1,h2,fun x hx hl=>?_,hst,fun j oj hj hjn=>?_⟩
 ·rw[Lst_set hi] at hl
  rcases hl with hl | hl
  ·exact hI.facts x hx hl
  ·exact hfa x hx hl
 ·have hb:=hI.blk j oj hj hjn
  by_cases hji:j=i
  ·subst hji
   obtain rfl:o=oj:=by rw[hn.ho] at hj; exact oSI hj
   rw[if_neg (fun h=>by rw[hnew hjn] at h; exact absurd h.2 (by simp))]
   rw[if_neg (fun h=>hn.un h.1)] at hb
   exact hb
  ·have:(Lst (listed.setIfInBounds i true) j∧guardB ops oj (SD P ops sp w0 e0 c β j).e=true)↔(Lst listed j∧guardB ops oj (SD P ops sp w0 e0 c β j).e=true):=by
    rw[Lst_set hi]; simp[hji]
   by_cases hg:Lst listed j∧guardB ops oj (SD P ops sp w0 e0 c β j).e=true
   ·rw[if_pos (this.2 hg)]; rw[if_pos hg] at hb; exact hb
   ·rw[if_neg (fun h=>hg (this.1 h))]; rw[if_neg hg] at hb; exact hb
theorem no_stores (hok:Ok ops) (hI:Inv P ops sp w0 e0 n listed a w c β w1) (hn:Next1 ops listed i o) (hcn:(isCall o.op || isNew o.op)=true):∀ (j:Nat) (oj:Oper),ops[j]? = some oj→isStore oj.op=true→¬ Lst listed j:=by
 intro j oj hj hs hl
 have:=(hok.store j i oj o hj hn.ho hs hcn).2
 exact hn.un (mask_in hI.cl hj (hI.cl j oj hj hl) this)
theorem filter_none (c:Nat→Par) (β:Nat→Nat) {L:Array Bool} (h:∀ (j:Nat) (oj:Oper),ops[j]? = some oj→isStore oj.op=true→¬ Lst L j):((SD P ops sp w0 e0 c β ops.length).st.filter fun x=>L.getD x.1 false)=[]:=by
 rw[List.filter_eq_nil_iff]
 intro x hx
 obtain⟨_,o,ho,hs⟩:=(class_of (P:=P) (sp:=sp) (w0:=w0) (e0:=e0) (c:=c) (β:=β) ops.length).2 x hx
 exact h x.1 o ho hs
theorem inv_new (hok:Ok ops) (hd:∀ d',o.dst=some d'→d' < n) (hvd:vd P ops late sp w0 K 0 ops (start e0)) (hI:Inv P ops sp w0 e0 n listed a w c β w1) (hn:Next1 ops listed i o)
 (hcn:(isCall o.op || isNew o.op)=true) {v:Value} {w2:World} (hx:Ext w1 w2) (x:Par) (hrx:∀ r∈x.rg,r.2≤w2.heap.size∧((isNew o.op=false∧w1.heap.size≤r.1)∨∃ k,r∈(c k).rg)) (hb:isNew o.op=true→w1.heap.size < w2.heap.size)
 (hv:∀ c' β',c' i=x→(isNew o.op=true→β' i=w1.heap.size)→v=valD P ops sp w0 i o c' β' (SD P ops sp w0 e0 c β i).e)
 (hfa:∀ c' β',c' i=x→(isNew o.op=true→β' i=w1.heap.size)→∀ f,(stepD P ops sp w0 i o c' β' (SD P ops sp w0 e0 c' β' i)).facts=(SD P ops sp w0 e0 c' β' i).facts++f →
  (∀ t∈seen ops o,(SD P ops sp w0 e0 c' β' i).e t=(SD P ops sp w0 e0 c β i).e t)→∀ y∈f,y.2 w2)
 (hg:guardB ops o (SD P ops sp w0 e0 c β i).e=true) :
 ∃ c' β',Inv P ops sp w0 e0 n (listed.setIfInBounds i true) (a.put o.dst v) w2 c' β' w2:=by
 have hi:i < listed.size:=by rw[hI.sz]; exact (gSI.1 hn.ho).1
 have hs:Shown P ops sp w0 c β (start e0):=fun j oj hj=>(vd_run hvd rfl rfl c hI.fresh ops.length (Nat.le_refl _)).2 j oj (gSI.1 hj).1 hj
 let c':Nat→Par:=fun j=>if j=i then x else c j
 let β':Nat→Nat:=fun j=>if j=i then w1.heap.size else if β j < w1.heap.size then β j else w2.heap.size + j
 have hc'i:c' i=x:=by simp[c']
 have hβ'i:β' i=w1.heap.size:=by simp[β']
 have hne:∀ j,Lst listed j→j≠i:=fun j hl h=>hn.un (h ▸ hl)
 have hfresh:Fresh ops w0 c' β':=by
  have hw01:=hI.ext.size
  have hw12:=hx.size
  have hin:NewAt ops i→w1.heap.size < w2.heap.size:=fun⟨oi,ho,hnw⟩=>by
   obtain rfl:o=oi:=by rw[hn.ho] at ho; exact oSI ho
   exact hb hnw
  intro j hj
  refine⟨?_,fun k hk hjk=>?_,fun k=>?_⟩
  ·simp only[β']
   have:=(hI.fresh j hj).1
   split
   ·omega
   ·split<;>omega
  ·simp only[β'] at hjk
   by_cases h1:j=i<;>by_cases h2:k=i
   ·rw[h1,h2]
   ·rw[if_pos h1,if_neg h2] at hjk
    have:=hin (h1 ▸ hj)
    split at hjk<;>omega
   ·rw[if_neg h1,if_pos h2] at hjk
    have:=hin (h2 ▸ hk)
    split at hjk<;>omega
   ·rw[if_neg h1,if_neg h2] at hjk
    split at hjk<;>split at hjk
    ·exact (hI.fresh j hj).2.1 k hk hjk
    ·omega
    ·omega
    ·omega
  ·intro r hr
   have hrk:=hI.rgs k r
   have hfk:=(hI.fresh j hj).2.2
   have hnew:j=i→isNew o.op=true:=fun h=>by
    obtain⟨oj,hoj,hnj⟩:=hj
    rw[h,hn.ho] at hoj
    obtain rfl:=oSI hoj
    exact hnj
   simp only[β',c'] at hr ⊢
   by_cases h2:k=i
   ·rw[if_pos h2] at hr
    obtain⟨h3,h4⟩:=hrx r hr
    by_cases h1:j=i
    ·rw[if_pos h1]
     rcases h4 with⟨h5,_⟩ | ⟨k',h5⟩
     ·rw[hnew h1] at h5; cases h5
     ·have:=hI.rgs k' r h5; omega
    ·rw[if_neg h1]
     split
     ·rcases h4 with⟨_,h5⟩ | ⟨k',h5⟩
      ·omega
      ·exact hfk k' r h5
     ·omega
   ·rw[if_neg h2] at hr
    have h3:=hrk hr
    by_cases h1:j=i
    ·rw[if_pos h1]
     omega
    ·rw[if_neg h1]
     split
     ·exact hfk k r hr
     ·omega
 have hs':Shown P ops sp w0 c' β' (start e0):=fun j oj hj=>(vd_run hvd rfl rfl c' hfresh ops.length (Nat.le_refl _)).2 j oj (gSI.1 hj).1 hj
 have hL:∀ j,Lst listed j→c j=c' j∧∀ (oj:Oper),ops[j]? = some oj→guardB ops oj (SD P ops sp w0 e0 c β j).e=true→isNew oj.op=true→β j=β' j:=by
  intro j hl
  refine⟨by simp[c',hne j hl],fun oj hj hgj hnj=>?_⟩
  have:=hI.blk j oj hj hnj
  rw[if_pos ⟨hl,hgj⟩] at this
  simp[β',hne j hl,this]
 have hneed:∀ j,Lst listed j→Need ops (Lst listed) j:=fun j hl=>need_listed hok hI.cl hl
 have hag:∀ (j:Nat) (oj:Oper),Lst listed j→ops[j]? = some oj→∀ u∈seen ops oj,(SD P ops sp w0 e0 c β j).e u=(SD P ops sp w0 e0 c' β' j).e u:=fun j oj hl hj u hu=>
  runD_agree hs hs' hL hneed j u fun k ok hk hok' hdk=>hneed j hl oj hj u hu k ok hk hok' hdk
 have hagi:∀ u∈seen ops o,(SD P ops sp w0 e0 c' β' i).e u=(SD P ops sp w0 e0 c β i).e u:=fun u hu=>
  (runD_agree hs hs' hL hneed i u fun k ok hk hok' hdk=>by
   have:=hok.slot i k o ok u hn.ho hok' hdk hu (by omega)
   rw[if_pos hk] at this
   exact hn.mask hI.cl this).symm
 obtain⟨h1,h2⟩:=put_val hok hd hI hn (v:=v) (c':=c') (β':=β')
  (fun j oj hl hj=>(valD_agree (hag j oj hl hj) (hL j hl).1 fun hgj hnj=>(hL j hl).2 oj hj (by rw[guard_agree (hag j oj hl hj)]; exact hgj) hnj).symm)
  (by
   rw[hv c' β' hc'i fun _=>hβ'i]
   exact (valD_agree hagi rfl fun _ _=>rfl).symm)
 have hno:=no_stores hok hI hn hcn
 have hw:w=w1:=by
  have:=hI.st
  rw[filter_none c β hno] at this
  simpa [stAll] using this.symm
 have hno':∀ (j:Nat) (oj:Oper),ops[j]? = some oj→isStore oj.op=true→¬ Lst (listed.setIfInBounds i true) j:=by
  intro j oj hj hst hl
  rw[Lst_set hi] at hl
  rcases hl with hl | rfl
  ·exact hno j oj hj hst hl
  ·obtain rfl:o=oj:=by rw[hn.ho] at hj; exact oSI hj
   have h3:isStore o.op=true:=hst
   cases hop:o.op<;>simp[hop,isStore,isCall,isPure,isNew] at h3 hcn
 refine⟨c',β',hI.fr.put _ _,by simp[hI.sz],closed_set hI hn,hfresh,(fun j r hr=>by
  have h12:=hx.size
  simp only[c'] at hr
  split at hr
  ·exact (hrx r hr).1
  ·have:=hI.rgs j r hr; omega),hI.ext.trans hx,h1,h2,fun y hy hl=>?_,by rw[filter_none c' β' hno']; rfl,fun j oj hj hjn=>?_⟩
 ·rw[Lst_set hi] at hl
  by_cases hyi:y.1=i
  ·obtain⟨f,s,g1,_,g3,_⟩:=grow_of (P:=P) (ops:=ops) (sp:=sp) (w0:=w0) (e0:=e0) (c:=c') (β:=β') (i + 1) ops.length (by rw[← hI.sz]; omega)
   have hcl:=(class_of (P:=P) (ops:=ops) (sp:=sp) (w0:=w0) (e0:=e0) (c:=c') (β:=β') i).1
   rw[g1] at hy
   rcases List.mem_append.1 hy with hy | hy
   ·obtain⟨f',k1,k2⟩:=stepD_keep (P:=P) (ops:=ops) (sp:=sp) (w0:=w0) (c:=c') (β:=β') (hs' i o hn.ho)
    have hst:(SD P ops sp w0 e0 c' β' (i + 1))=stepD P ops sp w0 i o c' β' (SD P ops sp w0 e0 c' β' i):=by simp only[runD,hn.ho]
    rw[hst,k1] at hy
    rcases List.mem_append.1 hy with hy | hy
    ·have:=(hcl y hy).1; omega
    ·exact hfa c' β' hc'i (fun _=>hβ'i) f' k1 hagi y hy
   ·have:=g3 y hy; omega
  ·have hl:Lst listed y.1:=by rcases hl with h | h; exact h; exact absurd h hyi
   have hy':=facts_agree hs hs' hL hneed ops.length y hy hl
   exact facts_keep hs ops.length y hy' w1 w2 hx (hI.facts y hy' hl)
 ·by_cases hji:j=i
  ·subst hji
   obtain rfl:o=oj:=by rw[hn.ho] at hj; exact oSI hj
   rw[if_pos ⟨(Lst_set hi j).2 (.inr rfl),by rw[guard_agree hagi]; exact hg⟩,hβ'i]
   exact hb hjn
  ·have hbk:=hI.blk j oj hj hjn
   have hw12:=hx.size
   by_cases hl:Lst listed j
   ·have hgg:=guard_agree (hag j oj hl hj)
    by_cases hgj:guardB ops oj (SD P ops sp w0 e0 c β j).e=true
    ·rw[if_pos ⟨hl,hgj⟩] at hbk
     rw[if_pos ⟨(Lst_set hi j).2 (.inl hl),by rw[← hgg]; exact hgj⟩]
     simp only[β',hji,if_false,hbk,if_true]
     omega
    ·rw[if_neg (fun h=>hgj h.2)] at hbk
     rw[if_neg (fun h=>hgj (by rw[hgg]; exact h.2))]
     simp only[β',hji,if_false]
     rw[if_neg (by omega)]
     omega
   ·rw[if_neg (fun h=>hl h.1)] at hbk
    rw[if_neg (fun h=>by rcases (Lst_set hi j).1 h.1 with h | h; exact hl h; exact hji h)]
    simp only[β',hji,if_false]
    rw[if_neg (by omega)]
    omega
end
end
end Go.Proofs.YtfnbhkbfelllgaaGreatDoor
