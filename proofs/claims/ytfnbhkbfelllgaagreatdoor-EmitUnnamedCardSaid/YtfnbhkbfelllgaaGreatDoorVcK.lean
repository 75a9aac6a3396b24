import Derived.Test.YtfnbhkbfelllgaaGreatDoorVcJ
set_option linter.all false
namespace Go.Proofs.YtfnbhkbfelllgaaGreatDoor
open Go.RowKit
section
variable {P:Program} {ops:List Oper} {late:List (Nat×Nat)} {sp:Nat→Spec} {w0:World} {K:Kont} {e0:Env} {n:Nat}
theorem stAll_one {l1:List (Nat×TypeId×Value×Value)} {x:Nat×TypeId×Value×Value} {l2:List (Nat×TypeId×Value×Value)} {w w1 w':World} (h1:stAll P l1 w=some w1) (h:stAll P (l1++[x]++l2) w=some w') :
 ∃ w2,stv P x.2.1 x.2.2.1 x.2.2.2 w1=some w2∧stAll P (l1++[x]) w=some w2:=by
 rw[List.append_assoc,stAll_append,h1] at h
 obtain⟨i,t,p,v⟩:=x
 simp only[Option.bind_some,List.cons_append,List.nil_append,stAll] at h
 split at h
 ·rename_i w2 hw2
  refine⟨w2,hw2,?_⟩
  rw[stAll_append,h1]
  simp only[Option.bind_some,stAll,hw2]
 ·cases h
theorem late_in (hlate:lateOf ops=late) {k j:Nat} {ok oj:Oper} (hk:ops[k]? = some ok) (hj:ops[j]? = some oj) (hs:isStore ok.op=true) (hl:isLoad oj.op=true) (hn:¬ (j < k∧((masks [] ops).getD k 0).testBit j=true)):(k,j)∈late:=by
 rw[← hlate]
 unfold lateOf
 simp only[List.mem_flatMap,List.mem_range,List.mem_filterMap]
 refine⟨k,(gSI.1 hk).1,j,(gSI.1 hj).1,?_⟩
 rw[hk,hj]
 simp only[hs,hl,Bool.true_and,Bool.not_eq_true',Bool.and_eq_false_iff,decide_eq_false_iff_not]
 rw[if_pos]
 by_cases h:j < k
 ·right
  cases hb:((masks [] ops).getD k 0).testBit j with
  | false=>rfl
  | true=>exact absurd ⟨h,hb⟩ hn
 ·exact .inl h
theorem inv_step (hok:Ok ops) (hlate:lateOf ops=late) (hd:∀ o∈ops,∀ d',o.dst=some d'→d' < n) (hvd:vd P ops late sp w0 K 0 ops (start e0))
 {listed:Array Bool} {a:Act} {w:World} {c:Nat→Par} {β:Nat→Nat} {w1:World} (hI:Inv P ops sp w0 e0 n listed a w c β w1) {i:Nat} (hi:i∈Region.ready .any ops.toArray listed) (Q:Exit→Act→World→Prop) :
 wpOp P ops.toArray Q i (fun a' w'=>∃ c β w1,Inv P ops sp w0 e0 n (listed.setIfInBounds i true) a' w' c β w1) a w:=by
 obtain⟨o,hn⟩:=next_of hi
 have hs:Shown P ops sp w0 c β (start e0):=fun j oj hj=>(vd_run hvd rfl rfl c hI.fresh ops.length (Nat.le_refl _)).2 j oj (gSI.1 hj).1 hj
 have hag:=next_agree hok hI hs hn
 have hgd:guardB ops o (envOf a)=guardB ops o (SD P ops sp w0 e0 c β i).e:=guard_agree hag
 have hev:=ev_agree hag
 have hdo:∀ d',o.dst=some d'→d' < n:=hd o (gMO hn.ho)
 have hob:=hs i o hn.ho
 unfold wpOp
 rw[show ops.toArray[i]? = some o by simpa using hn.ho]
 simp only
 rw[guard_wanted,hgd]
 by_cases hg:guardB ops o (SD P ops sp w0 e0 c β i).e=true
 case neg=>
  rw[if_neg hg]
  have hgf:guardB ops o (SD P ops sp w0 e0 c β i).e=false:=by simpa using hg
  obtain⟨hf1,hf2⟩:=step_none (P:=P) (ops:=ops) (sp:=sp) (w0:=w0) (c:=c) (β:=β) (i:=i) (o:=o) (σ:=SD P ops sp w0 e0 c β i) (.inl hgf)
  obtain⟨s,hst,hs1,hs2⟩:=st_split (c:=c) (β:=β) (e0:=e0) (sp:=sp) (w0:=w0) (P:=P) hn.ho (s0:=[]) (by simpa using hf2)
  refine⟨c,β,w1,inv_same hok hdo hI hn (by unfold valD; rw[if_neg hg]) ?_ (fun x hx hxi=>absurd hxi (no_tag hn.ho hf1 x hx)) (fun _=>hgf)⟩
  rw[filter_same]
  ·exact hI.st
  ·intro x hx
   rw[hst] at hx
   simp only[List.append_nil,List.mem_append] at hx
   rcases hx with hx | hx
   ·have:=hs1 x hx; omega
   ·have:=hs2 x hx; omega
 rw[if_pos hg]
 left
 unfold OblD at hob
 have hob:=hob hg
 by_cases hp:isPure o.op=true
 ·have hnl:(∀ t a,o.op ≠ .load t a)∧(∀ t a x,o.op ≠ .store t a x):=⟨fun t a h=>by rw[h] at hp; simp[isPure] at hp,fun t a x h=>by rw[h] at hp; simp[isPure] at hp⟩
  have hv:∃ v,pvB P (SD P ops sp w0 e0 c β i).e o.op=some v:=by
   generalize hop:o.op=op at hob hp
   cases op<;>first | (simp only[isPure,Bool.false_eq_true] at hp; done) | (simp only[hp,if_true] at hob; exact hob)
  obtain⟨v,hv⟩:=hv
  have hvD:v=valD P ops sp w0 i o c β (SD P ops sp w0 e0 c β i).e:=by
   unfold valD
   rw[if_pos hg]
   generalize hop:o.op=op at hv hp
   cases op<;>first | (simp only[isPure,Bool.false_eq_true] at hp; done) | (simp only[hp,if_true,hv,Option.getD_some])
  unfold Oper.wp
  rw[eval_envOf,pvB_run (by rw[pvB_agree hev]; exact hv)]
  simp only[Oper.upon]
  obtain⟨hf1,hf2⟩:=step_none (P:=P) (ops:=ops) (sp:=sp) (w0:=w0) (c:=c) (β:=β) (i:=i) (o:=o) (σ:=SD P ops sp w0 e0 c β i) (.inr (.inl hp))
  obtain⟨s,hst,hs1,hs2⟩:=st_split (c:=c) (β:=β) (e0:=e0) (sp:=sp) (w0:=w0) (P:=P) hn.ho (s0:=[]) (by simpa using hf2)
  refine⟨c,β,w1,inv_same hok hdo hI hn hvD ?_ (fun x hx hxi=>absurd hxi (no_tag hn.ho hf1 x hx)) (fun hnw=>?_)⟩
  ·rw[filter_same]
   ·exact hI.st
   ·intro x hx
    rw[hst] at hx
    simp only[List.append_nil,List.mem_append] at hx
    rcases hx with hx | hx
    ·have:=hs1 x hx; omega
    ·have:=hs2 x hx; omega
  ·generalize hop:o.op=op at hnw hp
   cases op<;>simp[isPure,isNew] at hnw hp
 by_cases hl:isLoad o.op=true
 ·have hop:∃ t ad,o.op = .load t ad:=by
   generalize hop:o.op=op at hl
   cases op<;>simp only[isLoad,Bool.false_eq_true] at hl
   exact⟨_,_,rfl⟩
  obtain⟨t,ad,hop⟩:=hop
  rw[hop] at hob
  obtain⟨b,off,v,hpt,hlv,hblt⟩:=hob
  have hevad:ev (envOf a) ad=ev (SD P ops sp w0 e0 c β i).e ad:=hev ad (by rw[hop]; simp[Op.operands])
  have hvD:v=valD P ops sp w0 i o c β (SD P ops sp w0 e0 c β i).e:=by
   unfold valD
   rw[if_pos hg,hop]
   simp only[hlv,Option.getD_some]
  have hcell:∀ off',w.cell? ⟨b,off',none⟩=w0.cell? ⟨b,off',none⟩:=by
   intro off'
   have h1:w1.cell? ⟨b,off',none⟩=w0.cell? ⟨b,off',none⟩:=Below.cell hI.ext hblt
   rw[← h1]
   refine stAll_cell _ w1 w (fun x hx=>?_) hI.st off'
   obtain⟨hx1,hx2⟩:=List.mem_filter.1 hx
   obtain⟨hst1,hst2⟩:=sts_of hs ops.length
   obtain⟨bk,offk,hpk,hk⟩:=hst1 x hx1
   refine⟨bk,offk,hpk,?_⟩
   have hld:=hst2 i o t ad b off (gSI.1 hn.ho).1 hn.ho hop hg hpt
   obtain⟨_,ok,hok',hstk⟩:=(class_of (P:=P) (ops:=ops) (sp:=sp) (w0:=w0) (e0:=e0) (c:=c) (β:=β) ops.length).2 x hx1
   refine (vd_end hvd rfl rfl c hI.fresh).1 x.1 i bk b (late_in hlate hok' hn.ho hstk hl fun hbit=>?_) hk hld
   exact hn.un (mask_in hI.cl hok' (hI.cl x.1 ok hok' hx2) hbit.2)
  unfold Oper.wp
  have hrun:(execOp a.eval o).run P w = .ok (.value v) w:=by
   rw[eval_envOf]
   have:lv P t (ev (envOf a) ad) w=some v:=by
    rw[hevad,hpt,lv_congr hcell,← hpt]
    exact hlv
   simp[execOp,hop,lv_run this]
  rw[hrun]
  simp only[Oper.upon]
  obtain⟨hf1,hf2⟩:=step_none (P:=P) (ops:=ops) (sp:=sp) (w0:=w0) (c:=c) (β:=β) (i:=i) (o:=o) (σ:=SD P ops sp w0 e0 c β i) (.inr (.inr hl))
  obtain⟨s,hst,hs1,hs2⟩:=st_split (c:=c) (β:=β) (e0:=e0) (sp:=sp) (w0:=w0) (P:=P) hn.ho (s0:=[]) (by simpa using hf2)
  refine⟨c,β,w1,inv_same hok hdo hI hn hvD ?_ (fun x hx hxi=>absurd hxi (no_tag hn.ho hf1 x hx)) (fun hnw=>by rw[hop] at hnw; simp[isNew] at hnw)⟩
  rw[filter_same]
  ·exact hI.st
  ·intro x hx
   rw[hst] at hx
   simp only[List.append_nil,List.mem_append] at hx
   rcases hx with hx | hx
   ·have:=hs1 x hx; omega
   ·have:=hs2 x hx; omega
 by_cases hsto:isStore o.op=true
 ·have hop:∃ t ad x,o.op = .store t ad x:=by
   generalize hop:o.op=op at hsto
   cases op<;>simp only[isStore,Bool.false_eq_true] at hsto
   exact⟨_,_,_,rfl⟩
  obtain⟨t,ad,xv,hop⟩:=hop
  have hstep:(stepD P ops sp w0 i o c β (SD P ops sp w0 e0 c β i)).st=(SD P ops sp w0 e0 c β i).st++[(i,t,ev (SD P ops sp w0 e0 c β i).e ad,ev (SD P ops sp w0 e0 c β i).e xv)]:=by
   unfold stepD; rw[if_pos hg,hop]
  have hf1:(stepD P ops sp w0 i o c β (SD P ops sp w0 e0 c β i)).facts=(SD P ops sp w0 e0 c β i).facts:=by
   unfold stepD; rw[if_pos hg,hop]
  obtain⟨s,hst,hs1,hs2⟩:=st_split hn.ho hstep
  have hcls:=class_of (P:=P) (ops:=ops) (sp:=sp) (w0:=w0) (e0:=e0) (c:=c) (β:=β) ops.length
  have hfall:FactsAll (SD P ops sp w0 e0 c β ops.length).facts w1:=facts_all fun x hx=>by
   obtain⟨_,oj,hoj,hcn⟩:=hcls.1 x hx
   exact hI.facts x hx (hn.mask hI.cl (hok.store i x.1 o oj hn.ho hoj hsto hcn).2)
  obtain⟨wf,hwf,_⟩:=(vd_end hvd rfl rfl c hI.fresh).2 w1 hI.ext hfall
  have hil:i < listed.size:=by rw[hI.sz]; exact (gSI.1 hn.ho).1
  have hpre:∀ x∈(SD P ops sp w0 e0 c β i).st,Lst listed x.1:=fun x hx=>by
   obtain⟨hlt,oj,hoj,hstj⟩:=(class_of (P:=P) (ops:=ops) (sp:=sp) (w0:=w0) (e0:=e0) (c:=c) (β:=β) i).2 x hx
   exact hn.mask hI.cl (hok.stores i x.1 o oj hn.ho hoj hsto hstj hlt)
  have hpost:∀ x∈s,¬ Lst listed x.1:=fun x hx hl=>by
   have hm:x∈(SD P ops sp w0 e0 c β ops.length).st:=by rw[hst]; exact List.mem_append.2 (.inr hx)
   obtain⟨_,oj,hoj,hstj⟩:=hcls.2 x hm
   exact hn.un (mask_in hI.cl hoj (hI.cl x.1 oj hoj hl) (hok.stores x.1 i oj o hoj hn.ho hstj hsto (hs2 x hx)))
  have hfil:((SD P ops sp w0 e0 c β ops.length).st.filter fun x=>listed.getD x.1 false)=(SD P ops sp w0 e0 c β i).st:=by
   have f1:(s.filter fun x=>listed.getD x.1 false)=[]:=List.filter_eq_nil_iff.2 (fun x hx=>hpost x hx)
   have f2:([(i,t,ev (SD P ops sp w0 e0 c β i).e ad,ev (SD P ops sp w0 e0 c β i).e xv)].filter fun x=>listed.getD x.1 false)=[]:=
    List.filter_eq_nil_iff.2 (fun x hx=>by obtain rfl:=List.mem_singleton.1 hx; exact hn.un)
   rw[hst,List.filter_append,List.filter_append,List.filter_eq_self.2 hpre,f1,f2]
   simp
  have hfil':((SD P ops sp w0 e0 c β ops.length).st.filter fun x=>(listed.setIfInBounds i true).getD x.1 false)=(SD P ops sp w0 e0 c β i).st++[(i,t,ev (SD P ops sp w0 e0 c β i).e ad,ev (SD P ops sp w0 e0 c β i).e xv)]:=by
   have f0:((SD P ops sp w0 e0 c β i).st.filter fun x=>(listed.setIfInBounds i true).getD x.1 false)=(SD P ops sp w0 e0 c β i).st:=List.filter_eq_self.2 (fun x hx=>(Lst_set hil x.1).2 (.inl (hpre x hx)))
   have f1:(s.filter fun x=>(listed.setIfInBounds i true).getD x.1 false)=[]:=List.filter_eq_nil_iff.2 (fun x hx=>fun h=>by
    rcases (Lst_set hil x.1).1 h with h | h
    ·exact hpost x hx h
    ·have:=hs2 x hx; omega)
   have f2:([(i,t,ev (SD P ops sp w0 e0 c β i).e ad,ev (SD P ops sp w0 e0 c β i).e xv)].filter fun x=>(listed.setIfInBounds i true).getD x.1 false)=[(i,t,ev (SD P ops sp w0 e0 c β i).e ad,ev (SD P ops sp w0 e0 c β i).e xv)]:=
    List.filter_eq_self.2 (fun x hx=>by obtain rfl:=List.mem_singleton.1 hx; exact (Lst_set hil i).2 (.inr rfl))
   rw[hst,List.filter_append,List.filter_append,f0,f1,f2]
   simp
  have hw:=hI.st
  rw[hfil] at hw
  rw[hst] at hwf
  obtain⟨w2,hw2,hst2⟩:=stAll_one hw hwf
  simp only at hw2
  unfold Oper.wp
  have hrun:(execOp a.eval o).run P w = .ok .skip w2:=by
   rw[eval_envOf]
   rw[← hev ad (by rw[hop]; simp[Op.operands]),← hev xv (by rw[hop]; simp[Op.operands])] at hw2
   simp[execOp,hop,stv_run hw2]
  rw[hrun]
  simp only[Oper.upon]
  refine⟨c,β,w1,inv_same hok hdo hI hn (by unfold valD; rw[if_pos hg,hop]) (by rw[hfil']; exact hst2) (fun x hx hxi=>absurd hxi (no_tag hn.ho hf1 x hx)) (fun hnw=>by rw[hop] at hnw; simp[isNew] at hnw)⟩
 have hcn:(isCall o.op || isNew o.op)=true:=by
  by_cases hnw:isNew o.op=true
  ·simp[hnw]
  ·simp[isCall,hp,hl,hsto,hnw]
 have hw:w=w1:=by
  have:=hI.st
  rw[filter_none c β (no_stores hok hI hn hcn)] at this
  simpa [stAll] using this.symm
 by_cases hnw:isNew o.op=true
 ·have hr:∃ r,newOf P (SD P ops sp w0 e0 c β i).e o.op=some r:=by
   generalize hop:o.op=op at hob hnw
   cases op<;>simp only[isNew,Bool.false_eq_true] at hnw<;>(simp only[isPure,isNew,Bool.false_eq_true,if_false,if_true] at hob; exact hob)
  obtain⟨⟨t,cs,f⟩,hr⟩:=hr
  unfold Oper.wp
  rw[eval_envOf,newOf_run (by rw[newOf_agree hev]; exact hr)]
  simp only[Oper.upon]
  obtain⟨c',β',hI'⟩:=inv_new hok hdo hvd hI hn hcn (v:=f ⟨w1.heap.size,0,none⟩) (w2:=w1.alloc (.cells cs.toArray t)) ((Ext.refl w1).alloc _) (c i) (fun r hr=>⟨Nat.le_trans (hI.rgs i r hr) ((Ext.refl w1).alloc _).size,.inr ⟨i,hr⟩⟩) (fun _=>by simp)
   (fun c' β' _ hb=>by
    unfold valD
    rw[if_pos hg]
    have hb:=hb hnw
    generalize hop:o.op=op at hr hnw
    cases op<;>simp only[isNew,Bool.false_eq_true] at hnw<;>simp only[isPure,isNew,Bool.false_eq_true,if_false,if_true,hr,hb])
   (fun c' β' _ hb fs hfs hagr y hy=>by
    have hb:=hb hnw
    have hgr:guardB ops o (SD P ops sp w0 e0 c' β' i).e=true:=by rw[guard_agree hagr]; exact hg
    have hr':newOf P (SD P ops sp w0 e0 c' β' i).e o.op=some (t,cs,f):=by rw[newOf_agree (ev_agree hagr)]; exact hr
    have:(stepD P ops sp w0 i o c' β' (SD P ops sp w0 e0 c' β' i)).facts=(SD P ops sp w0 e0 c' β' i).facts++[(i,fun w=>w.heap[β' i]? = some (.cells cs.toArray t (0,0)))]:=by
     unfold stepD
     rw[if_pos hgr]
     generalize hop:o.op=op at hr' hnw
     cases op<;>simp only[isNew,Bool.false_eq_true] at hnw<;>simp only[isPure,isNew,Bool.false_eq_true,if_false,if_true,hr']
    rw[this] at hfs
    have:=List.append_cancel_left hfs
    subst this
    obtain rfl:=List.mem_singleton.1 hy
    simp only[hb]
    show (w1.heap.push _)[w1.heap.size]? = _
    simp)
   hg
  rw[hw]
  exact⟨c',β',_,hI'⟩
 ·have hcall:(∀ x w w',Ext w w'→(sp i).B x w→(sp i).B x w')∧∀ w,Ext w0 w→FactsAll (SD P ops sp w0 e0 c β i).facts w→specAt P o (SD P ops sp w0 e0 c β i).e (sp i) (SD P ops sp w0 e0 c β i).rg w:=by
   generalize hop:o.op=op at hob hnw hp hl hsto
   cases op<;>first | (simp only[isPure,not_true_eq_false] at hp; done) | (simp only[isNew,not_true_eq_false] at hnw; done) | (simp only[isStore,not_true_eq_false] at hsto; done) | (simp only[isLoad,not_true_eq_false] at hl; done) | (simp only[hp,hnw,if_false,Bool.false_eq_true] at hob; exact hob)
  have hisc:isCall o.op=true:=by simpa [hnw] using hcn
  have hfall:FactsAll (SD P ops sp w0 e0 c β i).facts w1:=facts_all fun x hx=>by
   obtain⟨hlt,oj,hoj,hcnj⟩:=(class_of (P:=P) (ops:=ops) (sp:=sp) (w0:=w0) (e0:=e0) (c:=c) (β:=β) i).1 x hx
   obtain⟨f,s,g1,_,_,_⟩:=grow_of (P:=P) (ops:=ops) (sp:=sp) (w0:=w0) (e0:=e0) (c:=c) (β:=β) i ops.length (Nat.le_of_lt (gSI.1 hn.ho).1)
   exact hI.facts x (by rw[g1]; exact List.mem_append.2 (.inl hx)) (hn.mask hI.cl (hok.call i x.1 o oj hn.ho hoj hisc hlt hcnj))
  have hsp:=hcall.2 w1 hI.ext hfall
  have hend:∀ x w2,Ext w1 w2→(sp i).B x w2→(∀ r∈x.rg,(w1.heap.size≤r.1∧r.2≤w2.heap.size)∨r∈(SD P ops sp w0 e0 c β i).rg)→∃ c' β' w1',Inv P ops sp w0 e0 n (listed.setIfInBounds i true) (a.put o.dst ((sp i).F x)) w2 c' β' w1':=by
   intro x w2 hx hb hrx
   obtain⟨c',β',hI'⟩:=inv_new hok hdo hvd hI hn hcn (v:=(sp i).F x) (w2:=w2) hx x (fun r hr=>by
    rcases hrx r hr with h | h
    ·exact⟨h.2,.inl ⟨by simpa using hnw,h.1⟩⟩
    ·obtain⟨k,hk⟩:=runD_rg c β (start e0) rfl i r h
     exact⟨Nat.le_trans (hI.rgs k r hk) hx.size,.inr ⟨k,hk⟩⟩) (fun h=>absurd h hnw)
    (fun c' β' hc _=>by
     unfold valD
     rw[if_pos hg]
     generalize hop:o.op=op at hnw hp hl hsto
     cases op<;>first | (simp only[isPure,not_true_eq_false] at hp; done) | (simp only[isNew,not_true_eq_false] at hnw; done) | (simp only[isStore,not_true_eq_false] at hsto; done) | (simp only[isLoad,not_true_eq_false] at hl; done) | (simp only[hp,hnw,if_false,Bool.false_eq_true,hc]))
    (fun c' β' hc _ fs hfs hagr y hy=>by
     have hgr:guardB ops o (SD P ops sp w0 e0 c' β' i).e=true:=by rw[guard_agree hagr]; exact hg
     have:(stepD P ops sp w0 i o c' β' (SD P ops sp w0 e0 c' β' i)).facts=(SD P ops sp w0 e0 c' β' i).facts++[(i,(sp i).B (c' i))]:=by
      unfold stepD
      rw[if_pos hgr]
      generalize hop:o.op=op at hnw hp hl hsto
      cases op<;>first | (simp only[isPure,not_true_eq_false] at hp; done) | (simp only[isNew,not_true_eq_false] at hnw; done) | (simp only[isStore,not_true_eq_false] at hsto; done) | (simp only[isLoad,not_true_eq_false] at hl; done) | (simp only[hp,hnw,if_false,Bool.false_eq_true])
     rw[this] at hfs
     have:=List.append_cancel_left hfs
     subst this
     obtain rfl:=List.mem_singleton.1 hy
     simp only[hc]
     exact hb)
    hg
   exact⟨c',β',_,hI'⟩
  rw[hw]
  unfold Oper.wp
  have hcongr:execOp a.eval o=execOp (ev (SD P ops sp w0 e0 c β i).e) o:=by
   rw[eval_envOf]
   exact execOp_congr o (hok.nosel i o hn.ho) hev
  unfold specAt at hsp
  split at hsp
  ·rename_i cl hop
   split at hsp
   ·rename_i f hf
    obtain⟨g,first,captured,hv,hokf,hC⟩:=hsp
    have hrun:(execOp a.eval o).run P w1 = .ok (.enter g (first++cl.args.map (ev (SD P ops sp w0 e0 c β i).e)++captured)) w1:=by
     rw[hcongr]
     simp[execOp,hop,resolve,hf,hv,Deferred.ofValue,invoke,okF_call hokf]
    rw[hrun]
    simp only[Oper.upon]
    exact hC.mono fun en w2 ⟨x,he,hb,hx,hrx⟩=>by
     subst he
     exact hend x w2 hx hb hrx
   ·obtain⟨x,w2,hrun,hb,hx,hrx⟩:=hsp
    rw[hcongr,hrun]
    simp only[Oper.upon]
    exact hend x w2 hx hb hrx
  ·obtain⟨x,w2,hrun,hb,hx,hrx⟩:=hsp
   rw[hcongr,hrun]
   simp only[Oper.upon]
   exact hend x w2 hx hb hrx
theorem getD_replicate_false' (m j:Nat):(Array.replicate m false).getD j false=false:=by
 rcases Nat.lt_or_ge j m with h | h
 ·simp[h]
 ·simp[h]
theorem any_of_inv (hok:Ok ops) (hlate:lateOf ops=late) (hd:∀ o∈ops,∀ d',o.dst=some d'→d' < n) (hvd:vd P ops late sp w0 K 0 ops (start e0)) {Q:Exit→Act→World→Prop}
 (hQ:∀ a w,Fr n a→K (envOf a) w→Q .normal a w) :
 ∀ (fuel:Nat) (listed:Array Bool) (a:Act) (w:World),(List.range ops.length).countP (fun i=>!listed.getD i false)≤fuel→(∃ c β w1,Inv P ops sp w0 e0 n listed a w c β w1)→wpAny P .any ops.toArray Q fuel listed a w:=by
 have hfin:∀ (listed:Array Bool) (a:Act) (w:World),(∃ c β w1,Inv P ops sp w0 e0 n listed a w c β w1)→Region.ready .any ops.toArray listed=[]→Q .normal a w:=by
  intro listed a w ⟨c,β,w1,hI⟩ hr
  have hs:Shown P ops sp w0 c β (start e0):=fun j oj hj=>(vd_run hvd rfl rfl c hI.fresh ops.length (Nat.le_refl _)).2 j oj (gSI.1 hj).1 hj
  have hall:∀ j,j < ops.length→Lst listed j:=by
   intro j
   induction j using Nat.strongRecOn with
   | _ j ih =>
     intro hj
     by_cases hl:Lst listed j
     ·exact hl
     ·exfalso
      have ho:ops[j]? = some (ops[j]'hj):=gEG hj
      have:j∈Region.ready .any ops.toArray listed:=by
       refine mem_ready.2 ⟨?_,ops[j]'hj,by simp,fun e he hb=>?_⟩
       ·unfold Lst at hl
        have hsz:j < listed.size:=by rw[hI.sz]; exact hj
        simp[hsz] at hl ⊢
        exact hl
       ·exact ih e.on (hok.back j _ ho e he hb) (by have:=hok.back j _ ho e he hb; omega)
      rw[hr] at this
      cases this
  have hcls:=class_of (P:=P) (ops:=ops) (sp:=sp) (w0:=w0) (e0:=e0) (c:=c) (β:=β) ops.length
  obtain⟨w',hw',hk⟩:=(vd_end hvd rfl rfl c hI.fresh).2 w1 hI.ext (facts_all fun x hx=>hI.facts x hx (hall x.1 (hcls.1 x hx).1))
  have hst:=hI.st
  rw[List.filter_eq_self.2 (fun x hx=>hall x.1 (hcls.2 x hx).1),hw'] at hst
  obtain rfl:=oSI hst
  have he:envOf a=(SD P ops sp w0 e0 c β ops.length).e:=by
   funext t
   by_cases hwr:∃ (j:Nat) (oj:Oper),ops[j]? = some oj∧oj.dst=some t
   ·obtain⟨j,oj,hj,hdj⟩:=hwr
    have hlt:=(gSI.1 hj).1
    rw[hI.val j oj t (hall j hlt) hj hdj]
    exact (runD_val hs hok.dst hj hdj _ hlt).symm
   ·rw[hI.old t fun j oj _ hj hdj=>hwr ⟨j,oj,hj,hdj⟩]
    exact (runD_old hs t _ fun j oj _ hj hdj=>hwr ⟨j,oj,hj,hdj⟩).symm
  exact hQ a w' hI.fr (by rw[he]; exact hk)
 intro fuel
 induction fuel with
 | zero =>
   intro listed a w hf hI
   have hr:Region.ready .any ops.toArray listed=[]:=by
    cases hr:Region.ready .any ops.toArray listed with
    | nil=>rfl
    | cons i l =>
      exfalso
      have hi:i∈Region.ready .any ops.toArray listed:=by rw[hr]; exact List.mem_cons_self
      obtain⟨o,hn⟩:=next_of hi
      have h0:(List.range ops.length).countP (fun i=>!listed.getD i false)=0:=by omega
      rw[List.countP_eq_zero] at h0
      have:=h0 i (List.mem_range.2 (gSI.1 hn.ho).1)
      simp at this
      exact hn.un (by unfold Lst; simpa using this)
   exact⟨hr,hfin listed a w hI hr⟩
 | succ fuel ih =>
   intro listed a w hf hI
   refine⟨hfin listed a w hI,fun i hi=>?_⟩
   obtain⟨c,β,w1,hI⟩:=hI
   obtain⟨o,hn⟩:=next_of hi
   have hil:i < listed.size:=by rw[hI.sz]; exact (gSI.1 hn.ho).1
   refine wpOp_mono (fun a' w' hI'=>ih _ a' w' ?_ hI') (inv_step hok hlate hd hvd hI hi Q)
   have hlt:(List.range ops.length).countP (fun j=>!(listed.setIfInBounds i true).getD j false) < (List.range ops.length).countP (fun j=>!listed.getD j false):=by
    have hmem:i∈List.range ops.length:=List.mem_range.2 (gSI.1 hn.ho).1
    rw[List.countP_eq_length_filter,List.countP_eq_length_filter]
    have hsub:((List.range ops.length).filter fun j=>!(listed.setIfInBounds i true).getD j false)=((List.range ops.length).filter fun j=>!listed.getD j false).filter (fun j=>j != i):=by
     rw[List.filter_filter]
     apply List.filter_congr
     intro j hj
     by_cases hji:j=i
     ·subst hji
      simp[hil]
     ·rw[getD_set_ne false (Ne.symm hji)]
      simp[hji]
    rw[hsub]
    have hin:i∈(List.range ops.length).filter fun j=>!listed.getD j false:=List.mem_filter.2 ⟨hmem,by
     have:=hn.un
     unfold Lst at this
     simpa using this⟩
    exact List.length_filter_lt_length_iff_exists.2 ⟨i,hin,by simp⟩
   omega
theorem draw {id:Nat} {l:List Oper} {k:Kont} {e:Env} {w:World} (late:List (Nat×Nat)) (sp:Nat→Spec) (hm:P.follows .mixedOrders=true) (hok:okD l=true) (hlate:lateOf l=late)
 (h:vd P l late sp w k 0 l ⟨e,[],[],[],[],[],[]⟩):vDraw P id l.toArray k e w:=by
 intro n a hf hd he
 subst he
 refine wp_region_any hm ?_
 have hok':=okD_spec hok
 refine any_of_inv (sp:=sp) (w0:=w) (K:=k) (e0:=envOf a) (n:=n) hok' hlate (fun o ho=>hd o (by simpa using ho)) h (fun a' w' hf' hk=>⟨rfl,hf',hk⟩) _ _ _ _ ?_ ?_
 ·refine Nat.le_trans List.countP_le_length ?_
  simp
 ·have hnone:∀ j,¬ Lst (Array.replicate l.toArray.size false) j:=fun j h=>by
   unfold Lst at h
   rw[getD_replicate_false'] at h
   cases h
  refine⟨fun _=>⟨undef,[]⟩,fun j=>w.heap.size + j,w.drew,hf,by simp,fun j o _ hl=>absurd hl (hnone j),fun i hi=>⟨by omega,fun j hj hij=>by omega,fun j r hr=>absurd hr List.not_mem_nil⟩,fun j r hr=>absurd hr List.not_mem_nil,(Ext.refl w).drew,fun j o t hl=>absurd hl (hnone j),fun t _=>rfl,fun x hx hl=>absurd hl (hnone x.1),?_,fun j o hj hnw=>?_⟩
  ·rw[filter_none (fun _=>⟨undef,[]⟩) _ (fun j oj _ _=>hnone j)]
   rfl
  ·rw[if_neg (fun h=>hnone j h.1)]
   show w.heap.size≤_
   omega
end
end Go.Proofs.YtfnbhkbfelllgaaGreatDoor
