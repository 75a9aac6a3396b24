import Derived.Test.YtfnbhkbfelllgaaGreatDoorZR
import Derived.Test.YtfnbhkbfelllgaaGreatDoorZP
import Derived.Test.YtfnbhkbfelllgaaGreatDoorZV
import Derived.Test.YtfnbhkbfelllgaaGreatDoorZS
import Derived.Test.YtfnbhkbfelllgaaGreatDoorZZ
import Derived.Test.YtfnbhkbfelllgaaGreatDoorAy
import Derived.Test.YtfnbhkbfelllgaaGreatDoorAx
set_option linter.all false
namespace Go.Proofs.YtfnbhkbfelllgaaGreatDoor
open Go.RowKit
theorem index_nd_ac {f:Nat} {fs cs:List AV} {p:Nd→Bool} (A:AHeap) (l:List Nd) (hf:okF Tryz.prog f=true) (hp:∀ a∈l,∀ N,AC Tryz.prog f (fs++[ndA a]++cs) (A++N) (Same0 A (aB (p a)))) :
 AC Tryz.prog 138 [.d (.sl 5 (Nd.ds l)),.fn f fs cs] A (Same0 A (aI .i64 (match l.findIdx? p with | some i=>(i:Int) | none=>-1))):=by
 refine ac_of Tryz.func138 rfl (by kernel_rfl) (by simp[Tryz.ntmps138]) fun hb=>?_
 have n1:l.length≤maxLen:=by simpa using hb.1.1
 clear hb
 obtain⟨R,hR⟩:∃ R:Int,(match l.findIdx? p with | some i=>(i:Int) | none=>-1)=R:=⟨_,rfl⟩
 rw[hR]
 simp[Tryz.f138]
 refine aLoop_of (α:=Nat) (fun i e A'=>i≤l.length∧(∃ N,A'=A++N)∧e 8=aI .i64 i∧e 7=aI .i64 l.length∧e 0 = .d (.sl 5 (Nd.ds l))∧e 1 = .fn f fs cs ∧
  ∀ (j:Nat) (a:Nd),j < i→l[j]? = some a→p a=false) (fun i=>l.length - i) 0 (Sub.refl _ _ _) ⟨by omega,⟨[],by simp⟩,by simp,by simp,by simp,by simp,by intro j a hj; omega⟩ ?_
 rintro i e A' ⟨hi,⟨N,rfl⟩,e8,e7,e0,e1,hall⟩ K hK
 simp[e8,e7]
 refine aCond_split (fun hlt=>?_) (fun hge=>?_)
 ·simp at hlt
  have hi1:=gEG hlt
  simp[e0,e1,e8,hi1,Nd.d_eq]
  refine aCall_ofc (hp l[i] (gMO hi1) N) hf ?_
  rintro _ _ ⟨rfl,N',rfl⟩
  simp
  refine aCond_split (fun ht=>?_) (fun hf=>?_)
  ·have:l.findIdx? p=some i:=by
    rw[List.findIdx?_eq_some_iff_getElem]
    exact⟨hlt,ht,fun j hj=>by simpa using hall j _ hj (gEG (by omega))⟩
   rw[this] at hR
   subst hR
   simp[Same0]
  ·simp[e8,succ_wrap hlt n1]
   refine hK (i + 1) _ _ _ _ (Sub.refl _ _ _) ⟨by omega,⟨N',rfl⟩,by simp,by simp[e7],by simp[e0],by simp[e1],fun j a hj ha=>?_⟩ (by omega)
   rcases Nat.lt_or_ge j i with h | h
   ·exact hall j a h ha
   ·obtain rfl:j=i:=by omega
    rw[hi1] at ha
    obtain rfl:=oSI ha
    exact hf
 ·simp at hge
  have:l.findIdx? p=none:=by
   rw[List.findIdx?_eq_none_iff]
   intro x hx
   obtain⟨j,hj⟩:=List.getElem?_of_mem hx
   exact hall j x (by have:=(gSI.1 hj).1; omega) hj
  rw[this] at hR
  subst hR
  simp[Same0]
theorem contains_nd_ac {f:Nat} {fs cs:List AV} {p:Nd→Bool} (A:AHeap) (l:List Nd) (hf:okF Tryz.prog f=true) (hp:∀ a∈l,∀ N,AC Tryz.prog f (fs++[ndA a]++cs) (A++N) (Same0 A (aB (p a)))) :
 AC Tryz.prog 63 [.d (.sl 5 (Nd.ds l)),.fn f fs cs] A (Same0 A (aB (l.any p))):=by
 refine ac_of Tryz.func63 rfl (by kernel_rfl) (by simp[Tryz.ntmps63]) fun hb=>?_
 simp[Tryz.f63]
 refine aCall_ofc (index_nd_ac A l hf hp) (by simp) ?_
 rintro _ _ ⟨rfl,N,rfl⟩
 simp[Same0]
 cases h:l.findIdx? p with
 | none =>
   rw[List.findIdx?_eq_none_iff] at h
   simpa using h
 | some i =>
   rw[List.findIdx?_eq_some_iff_getElem] at h
   obtain⟨hi,hp,_⟩:=h
   simpa using ⟨_,List.getElem_mem hi,hp⟩
abbrev bxBo (j:Bool):Blk:=⟨0,true,4,1,[[aB j]]⟩
theorem stinloops1_ac (x:Nd) (j:Bool) (b0:Blk) (N:AHeap) (ih:AF Tryz.prog 67 [ndA x,aB j] (aB (inlB x j))):AC Tryz.prog 140 [ndA x,.ptr 1 0 0 0] ([b0,bxBo j]++N) (Same0 [b0,bxBo j] (aB (!inlB x j))):=by
 refine ac_of Tryz.func140 rfl (by kernel_rfl) (by simp[Tryz.ntmps140]) fun _=>?_
 simp[Tryz.f140]
 refine aCall_of ih (by kernel_rfl) (by simp) ?_
 simp[Same0]
set_option maxRecDepth 100000 in
theorem stinloops_af:∀ (e:Nd) (i:Bool),AF Tryz.prog 67 [ndA e,aB i] (aB (inlB e i)):=by
 intro e
 induction e using Nd.ind with
 | h e ih=>
 intro i
 obtain⟨R,hR⟩:∃ R,inlB e i=R:=⟨_,rfl⟩
 rw[hR]
 rw[inlB_eq] at hR
 obtain⟨j,hj⟩:∃ j,(i || decide (e.kd=4) || decide (e.kd=5))=j:=⟨_,rfl⟩
 rw[hj] at hR
 have hany:(e.l.any fun x=>!inlB x j) = !(e.l.all fun x=>inlB x j):=by simp[List.any_eq_not_all_not]
 have hc:=fun b0:Blk=>contains_nd_ac (f:=140) (fs:=[]) (cs:=[.ptr 1 0 0 0]) (p:=fun x=>!inlB x j) [b0,bxBo j] e.l (by kernel_rfl) (fun a ha N=>stinloops1_ac a j b0 N (ih a ha j))
 rw[hany] at hc
 refine af_of Tryz.func67 rfl (by kernel_rfl) (by simp[Tryz.ntmps67]) fun _=>?_; simp[Tryz.f67,Ex.d_eq]
 cases i
 case' false=>
  by_cases h7:e.kd=7
  ·rw[if_pos ⟨.inl h7,rfl⟩] at hR
   subst hR
   simp[h7]
  by_cases h8:e.kd=8
  ·rw[if_pos ⟨.inr h8,rfl⟩] at hR
   subst hR
   simp[h8]
  rw[if_neg (fun h=>h.1.elim h7 h8)] at hR
  simp[h7,h8]
  by_cases h4:e.kd=4
  case' pos=>
   simp[h4] at hj
   subst hj
   simp[h4]
  case' neg=>
   by_cases h5:e.kd=5
   case' pos=>
    simp[h5] at hj
    subst hj
    simp[h5]
   case' neg=>
    simp[h4,h5] at hj
    subst hj
    simp[h4,h5]
 case' true=>
  rw[if_neg (fun h=>by cases h.2)] at hR
  simp at hj
  subst hj
  by_cases h7:e.kd=7
  case' pos=>simp[h7]
  case' neg=>
   by_cases h8:e.kd=8
   case' pos=>simp[h8]
   case' neg=>simp[h7,h8]
 all_goals
  refine aCall_ofc (hc _).drop (by kernel_rfl) ?_
  rintro _ _ ⟨rfl,rfl⟩
  subst hR
  simp
theorem i64s_rows (L:List Int):∀ r∈dEls (i64s L),r.length=1:=fun r hr=>by
 simp only[dEls,i64s,List.map_map,List.mem_map] at hr
 obtain⟨n,_,rfl⟩:=hr
 rfl
theorem labs_len (l:List Nd):(labs l).length≤l.length:=by
 unfold labs
 rw[List.length_map]
 exact List.length_filter_le _ _
theorem blks_len (l:List Nd):(blks l).length≤l.length:=by
 unfold blks
 rw[List.length_map]
 exact List.length_filter_le _ _
set_option maxRecDepth 100000 in
set_option maxHeartbeats 0 in
theorem stformed_af (e:Nd) (hm:e.l.length≤1000000):AF Tryz.prog 65 [ndA e] (aB (ndOk e)):=by
 obtain⟨R,hR⟩:∃ R,ndOk e=R:=⟨_,rfl⟩
 rw[hR]
 refine af_of Tryz.func65 rfl (by kernel_rfl) (by simp[Tryz.ntmps65]) fun _=>?_; simp[Tryz.f65,Ex.d_eq]
 by_cases h1:e.kd=1
 ·by_cases hc:e.cd=[]
  ·by_cases hb:e.bk=0
   ·by_cases hg:e.lb=0
    ·simp[ndOk,condN,h1,hc,hb,hg] at hR
     subst hR
     simp[h1,hc,hb,hg]
    ·simp[ndOk,condN,h1,hc,hb,hg] at hR
     subst hR
     simp[h1,hc,hb,hg]
   ·simp[ndOk,condN,h1,hc,hb] at hR
    subst hR
    simp[h1,hc,hb]
  ·simp[ndOk,condN,h1,hc] at hR
   subst hR
   simp[h1,hc]
 by_cases h2:e.kd=2
 ·by_cases hc:e.cd=[]
  ·by_cases hl:e.l=[]
   ·by_cases hg:e.lb=0
    ·simp[ndOk,condN,h2,hc,hl,hg] at hR
     subst hR
     simp[h2,hc,hl,hg]
    ·simp[ndOk,condN,h2,hc,hl,hg] at hR
     subst hR
     simp[h2,hc,hl,hg]
   ·simp[ndOk,condN,h2,hc,hl] at hR
    subst hR
    simp[h2,hc,hl]
  ·simp[ndOk,condN,h2,hc] at hR
   subst hR
   simp[h2,hc]
 by_cases h4:e.kd=4
 ·by_cases hc:e.cd=[]
  ·by_cases hl:e.l.length=1
   ·have hl2:(e.l.length:Int)=1:=by omega
    by_cases hb:e.bk=0
    ·by_cases hg:e.lb=0
     ·simp[ndOk,condN,h4,hc,hl,hl2,hb,hg] at hR
      subst hR
      simp[h4,hc,hl,hl2,hb,hg]
     ·simp[ndOk,condN,h4,hc,hl,hl2,hb,hg] at hR
      subst hR
      simp[h4,hc,hl,hl2,hb,hg]
    ·simp[ndOk,condN,h4,hc,hl,hl2,hb] at hR
     subst hR
     simp[h4,hc,hl,hl2,hb]
   ·have hl2:¬ (e.l.length:Int)=1:=by omega
    simp[ndOk,condN,h4,hc,hl,hl2] at hR
    subst hR
    simp[h4,hc,hl,hl2]
  ·simp[ndOk,condN,h4,hc] at hR
   subst hR
   simp[h4,hc]
 by_cases h7:e.kd=7
 ·by_cases hc:e.cd=[]
  ·by_cases hl:e.l=[]
   ·by_cases hb:e.bk=0
    ·by_cases hg:e.lb=0
     ·simp[ndOk,condN,h7,hc,hl,hb,hg] at hR
      subst hR
      simp[h7,hc,hl,hb,hg]
     ·simp[ndOk,condN,h7,hc,hl,hb,hg] at hR
      subst hR
      simp[h7,hc,hl,hb,hg]
    ·simp[ndOk,condN,h7,hc,hl,hb] at hR
     subst hR
     simp[h7,hc,hl,hb]
   ·simp[ndOk,condN,h7,hc,hl] at hR
    subst hR
    simp[h7,hc,hl]
  ·simp[ndOk,condN,h7,hc] at hR
   subst hR
   simp[h7,hc]
 by_cases h8:e.kd=8
 ·by_cases hc:e.cd=[]
  ·by_cases hl:e.l=[]
   ·by_cases hb:e.bk=0
    ·by_cases hg:e.lb=0
     ·simp[ndOk,condN,h8,hc,hl,hb,hg] at hR
      subst hR
      simp[h8,hc,hl,hb,hg]
     ·simp[ndOk,condN,h8,hc,hl,hb,hg] at hR
      subst hR
      simp[h8,hc,hl,hb,hg]
    ·simp[ndOk,condN,h8,hc,hl,hb] at hR
     subst hR
     simp[h8,hc,hl,hb]
   ·simp[ndOk,condN,h8,hc,hl] at hR
    subst hR
    simp[h8,hc,hl]
  ·simp[ndOk,condN,h8,hc] at hR
   subst hR
   simp[h8,hc]
 by_cases h9:e.kd=9
 ·by_cases hc:e.cd=[]
  ·by_cases hl:e.l=[]
   ·by_cases hb:e.bk=0
    ·by_cases hn:e.lb < 0
     ·have hn2:¬ 0≤e.lb:=by omega
      simp[ndOk,condN,h9,hc,hl,hb,hn,hn2] at hR
      subst hR
      simp[h9,hc,hl,hb,hn,hn2]
     ·have hn2:0≤e.lb:=by omega
      simp[ndOk,condN,h9,hc,hl,hb,hn,hn2] at hR
      subst hR
      simp[h9,hc,hl,hb,hn,hn2]
    ·simp[ndOk,condN,h9,hc,hl,hb] at hR
     subst hR
     simp[h9,hc,hl,hb]
   ·simp[ndOk,condN,h9,hc,hl] at hR
    subst hR
    simp[h9,hc,hl]
  ·simp[ndOk,condN,h9,hc] at hR
   subst hR
   simp[h9,hc]
 by_cases h10:e.kd=10
 ·by_cases hc:e.cd=[]
  ·by_cases hl:e.l=[]
   ·by_cases hb:e.bk=0
    ·by_cases hn:e.lb < 0
     ·have hn2:¬ 0≤e.lb:=by omega
      simp[ndOk,condN,h10,hc,hl,hb,hn,hn2] at hR
      subst hR
      simp[h10,hc,hl,hb,hn,hn2]
     ·have hn2:0≤e.lb:=by omega
      simp[ndOk,condN,h10,hc,hl,hb,hn,hn2] at hR
      subst hR
      simp[h10,hc,hl,hb,hn,hn2]
    ·simp[ndOk,condN,h10,hc,hl,hb] at hR
     subst hR
     simp[h10,hc,hl,hb]
   ·simp[ndOk,condN,h10,hc,hl] at hR
    subst hR
    simp[h10,hc,hl]
  ·simp[ndOk,condN,h10,hc] at hR
   subst hR
   simp[h10,hc]
 by_cases h11:e.kd=11
 ·by_cases hc:e.cd=[]
  ·by_cases hl:e.l=[]
   ·by_cases hb:e.bk=0
    ·by_cases hg:e.lb=0
     ·simp[ndOk,condN,h11,hc,hl,hb,hg] at hR
      subst hR
      simp[h11,hc,hl,hb,hg]
     ·simp[ndOk,condN,h11,hc,hl,hb,hg] at hR
      subst hR
      simp[h11,hc,hl,hb,hg]
    ·simp[ndOk,condN,h11,hc,hl,hb] at hR
     subst hR
     simp[h11,hc,hl,hb]
   ·simp[ndOk,condN,h11,hc,hl] at hR
    subst hR
    simp[h11,hc,hl]
  ·simp[ndOk,condN,h11,hc] at hR
   subst hR
   simp[h11,hc]
 by_cases h12:e.kd=12
 ·by_cases hc:e.cd=[]
  ·by_cases hl:e.l=[]
   ·by_cases hb:e.bk=0
    ·by_cases hg:e.lb=0
     ·simp[ndOk,condN,h12,hc,hl,hb,hg] at hR
      subst hR
      simp[h12,hc,hl,hb,hg]
     ·simp[ndOk,condN,h12,hc,hl,hb,hg] at hR
      subst hR
      simp[h12,hc,hl,hb,hg]
    ·simp[ndOk,condN,h12,hc,hl,hb] at hR
     subst hR
     simp[h12,hc,hl,hb]
   ·simp[ndOk,condN,h12,hc,hl] at hR
    subst hR
    simp[h12,hc,hl]
  ·simp[ndOk,condN,h12,hc] at hR
   subst hR
   simp[h12,hc]
 by_cases h3:e.kd=3
 ·by_cases hc:e.cd.length=1
  ·have hc2:(e.cd.length:Int)=1:=by omega
   obtain⟨c,hcc⟩:=List.length_eq_one_iff.1 hc
   by_cases hl:e.l.length=2
   ·have hl2:(e.l.length:Int)=2:=by omega
    by_cases hb:e.bk=0
    ·by_cases hg:e.lb=0
     ·have hx:exErr c=(if shalB 64 c=true then (if formB c=true then 0 else 2) else 20):=rfl
      simp[ndOk,condN,h3,hcc,hl,hl2,hb,hg] at hR
      rw[hx] at hR
      simp[h3,hcc,hl,hl2,hb,hg,Ex.d_eq]
      refine aCall_of (check_af c) (by kernel_rfl) (by simp) ?_
      subst hR
      simp
     ·simp[ndOk,condN,h3,hcc,hl,hl2,hb,hg] at hR
      subst hR
      simp[h3,hcc,hl,hl2,hb,hg]
    ·simp[ndOk,condN,h3,hcc,hl,hl2,hb] at hR
     subst hR
     simp[h3,hcc,hl,hl2,hb]
   ·have hl2:¬ (e.l.length:Int)=2:=by omega
    simp[ndOk,condN,h3,hcc,hl,hl2] at hR
    subst hR
    simp[h3,hcc,hl,hl2]
  ·have hc2:¬ (e.cd.length:Int)=1:=by omega
   simp[ndOk,condN,h3,hc,hc2] at hR
   subst hR
   simp[h3,hc,hc2]
 by_cases h5:e.kd=5
 ·by_cases hc:e.cd.length=1
  ·have hc2:(e.cd.length:Int)=1:=by omega
   obtain⟨c,hcc⟩:=List.length_eq_one_iff.1 hc
   by_cases hl:e.l.length=1
   ·have hl2:(e.l.length:Int)=1:=by omega
    by_cases hg:e.lb=0
    ·have hx:exErr c=(if shalB 64 c=true then (if formB c=true then 0 else 2) else 20):=rfl
     simp[ndOk,condN,h5,hcc,hl,hl2,hg] at hR
     rw[hx] at hR
     simp[h5,hcc,hl,hl2,hg,Ex.d_eq]
     refine aCall_of (check_af c) (by kernel_rfl) (by simp) ?_
     subst hR
     simp
    ·simp[ndOk,condN,h5,hcc,hl,hl2,hg] at hR
     subst hR
     simp[h5,hcc,hl,hl2,hg]
   ·have hl2:¬ (e.l.length:Int)=1:=by omega
    simp[ndOk,condN,h5,hcc,hl,hl2] at hR
    subst hR
    simp[h5,hcc,hl,hl2]
  ·have hc2:¬ (e.cd.length:Int)=1:=by omega
   simp[ndOk,condN,h5,hc,hc2] at hR
   subst hR
   simp[h5,hc,hc2]
 by_cases h6:e.kd=6
 ·obtain⟨M,hM⟩:∃ M:Int,(if (e.l.length:Int) < 1 then 1 else (e.l.length:Int))=M:=⟨_,rfl⟩
  obtain⟨W,hW⟩:∃ W:Int,(if 64 < M then 64 else M)=W:=⟨_,rfl⟩
  simp[h6]
  refine adrawR [.ptr 0 0 0 4,.d (.sl 5 (Nd.ds e.l)),aI .i64 e.l.length,aI .i64 M,aI .i64 W,aI .i64 1,aI .i64 W]
   [(0,[⟨0,true,29,5,[[aI .i64 6,aI .i64 e.bk,aI .i64 e.lb,.d (.sl 5 (Ex.ds e.cd)),.d (.sl 5 (Nd.ds e.l))]]⟩])] (by kernel_rfl) (by kernel_rfl) (by simp[heapM]) rfl ?_ ?_
  ·simp only[rowsR,List.mem_cons,List.not_mem_nil,or_false,forall_eq_or_imp,forall_eq]
   refine⟨?m0,?m1,?m2,?m3,?m4,?m5,?m6,trivial⟩
   case m0 | m1 | m2 | m5 | m6=>
    intro hmay
    clear hmay
    intro e' K' h A4 hA hk
    simp only[Op.operands,Call.operands] at h
    try simp[still,heapM,putR,dvA] at h
    simp[still,heapM,putR,dvA] at hA hk
    subst hA
    try simp[h]
    try exact hk
   case m3=>
    intro hmay
    clear hmay
    intro e' K' h A4 hA hk
    simp only[Op.operands,Call.operands] at h
    simp[still,heapM,putR,dvA] at h
    simp[still,heapM,putR,dvA] at hA hk
    subst hA
    exact aRaw_max (a:=e.l.length) (b:=1) (k:=.i64) (k':=.i64) (by simp[h]) (by simp[h]) (by rw[hM]; exact hk)
   case m4=>
    intro hmay
    clear hmay
    intro e' K' h A4 hA hk
    simp only[Op.operands,Call.operands] at h
    simp[still,heapM,putR,dvA] at h
    simp[still,heapM,putR,dvA] at hA hk
    subst hA
    exact aRaw_min (a:=M) (b:=64) (k:=.i64) (k':=.i64) (by simp[h]) (by simp[h]) (by rw[hW]; exact hk)
  simp[putR]
  by_cases hc:e.cd.length=1
  case neg=>
   have hc2:¬ (e.cd.length:Int)=1:=by omega
   simp[ndOk,condN,h6,hc,hc2] at hR
   subst hR
   simp[h6,hc,hc2]
  have hc2:(e.cd.length:Int)=1:=by omega
  obtain⟨c,hcc⟩:=List.length_eq_one_iff.1 hc
  by_cases hl0:e.l=[]
  ·have hW1:W=1:=by subst hW; subst hM; simp[hl0]
   simp[ndOk,condN,h6,hcc,hl0] at hR
   subst hR
   simp[h6,hcc,hl0,hW1]
  have hpos:1≤e.l.length:=by have:=List.length_pos_iff.2 hl0; omega
  have hM2:M=e.l.length:=by rw[← hM,if_neg (by omega)]
  by_cases h64:e.l.length≤64
  case neg=>
   have hW1:W=64:=by rw[← hW,if_pos (by omega)]
   have hl2:¬ (e.l.length:Int)=64:=by omega
   simp[ndOk,condN,h6,hcc,h64] at hR
   subst hR
   simp[h6,hcc,hW1,hl2]
  have hW1:W=e.l.length:=by rw[← hW,if_neg (by omega)]; exact hM2
  have hp2:0 < e.l.length:=by omega
  by_cases hb:e.bk=0
  case neg=>
   simp[ndOk,condN,h6,hcc,h64,hb] at hR
   subst hR
   simp[h6,hcc,hW1,hb]
  by_cases hg:e.lb=0
  case neg=>
   simp[ndOk,condN,h6,hcc,h64,hb,hg] at hR
   subst hR
   simp[h6,hcc,hW1,hb,hg]
  have hx:exErr c=(if shalB 64 c=true then (if formB c=true then 0 else 2) else 20):=rfl
  simp[ndOk,condN,h6,hcc,h64,hb,hg,hl0,hpos] at hR
  rw[hx] at hR
  simp[h6,hcc,hW1,hb,hg,Ex.d_eq]
  refine aCall_of (check_af c) (by kernel_rfl) (by simp) ?_
  subst hR
  simp
 by_cases hlo:e.kd < 1
 ·have hlo2:¬ 1≤e.kd:=by omega
  simp[ndOk,hlo2] at hR
  subst hR
  simp[h1,h2,h3,h4,h5,h7,h8,h9,h10,h11,h12,h6,hlo]
 by_cases hhi:12 < e.kd
 ·have hhi2:¬ e.kd≤12:=by omega
  simp[ndOk,hhi2] at hR
  subst hR
  simp[h1,h2,h3,h4,h5,h7,h8,h9,h10,h11,h12,h6,hlo,hhi]
 omega
theorem stcheck1_ac (x:Nd) (hx:x.l.length≤1000000) (A:AHeap):AC Tryz.prog 64 [ndA x] A (Same0 A (aB (!ndOk x))):=by
 refine ac_of Tryz.func64 rfl (by kernel_rfl) (by simp[Tryz.ntmps64]) fun _=>?_
 simp[Tryz.f64]
 refine aCall_of (stformed_af x hx) (by kernel_rfl) (by simp[Nd.d_eq]) ?_
 simp[Same0]
def whB (g:Gr) (e:Nd):Bool:=!decide (e.kd=5) || match (if 0≤e.bk then g.b[e.bk.toNat]? else none) with
 | some b=>decide (b.s.length=1)
 | none=>false
def cdB (m:Nat) (e:Nd):Bool:=e.cd.all (namedB m)
inductive Sx where
 | mk (kd wd:Int) (nm:ByteArray) (e:List Cx) (l el:List Sx) (cs:List (List Sx))
namespace Sx
def kd:Sx→Int | mk k _ _ _ _ _ _=>k
def wd:Sx→Int | mk _ w _ _ _ _ _=>w
def nm:Sx→ByteArray | mk _ _ n _ _ _ _=>n
def e:Sx→List Cx | mk _ _ _ e _ _ _=>e
def l:Sx→List Sx | mk _ _ _ _ l _ _=>l
def el:Sx→List Sx | mk _ _ _ _ _ l _=>l
def cs:Sx→List (List Sx) | mk _ _ _ _ _ _ c=>c
section
variable (k w:Int) (n:ByteArray) (x:List Cx) (a b:List Sx) (c:List (List Sx))
@[simp] theorem kd_mk:(mk k w n x a b c).kd=k:=rfl
@[simp] theorem wd_mk:(mk k w n x a b c).wd=w:=rfl
@[simp] theorem nm_mk:(mk k w n x a b c).nm=n:=rfl
@[simp] theorem e_mk:(mk k w n x a b c).e=x:=rfl
@[simp] theorem l_mk:(mk k w n x a b c).l=a:=rfl
@[simp] theorem el_mk:(mk k w n x a b c).el=b:=rfl
@[simp] theorem cs_mk:(mk k w n x a b c).cs=c:=rfl
end
mutual
def d:Sx→List D
 | mk k w n x a b c=>[.v (.int .i64 k),.v (.int .i64 w),.v (.string n),.sl 5 (Cx.ds x),.sl 7 (ds a),.sl 7 (ds b),.sl 1 (dss c)]
def ds:List Sx→List (List D)
 | []=>[]
 | s::l=>d s::ds l
def dss:List (List Sx)→List (List D)
 | []=>[]
 | a::l=>[.sl 7 (ds a)]::dss l
end
@[simp] theorem ds_nil:ds []=[]:=rfl
@[simp] theorem ds_cons (s:Sx) (l:List Sx):ds (s::l)=d s::ds l:=rfl
@[simp] theorem dss_nil:dss []=[]:=rfl
@[simp] theorem dss_cons (a:List Sx) (l:List (List Sx)):dss (a::l)=[.sl 7 (ds a)]::dss l:=rfl
theorem ds_map:∀ l,ds l=l.map d
 | []=>rfl
 | s::l=>by simp[ds_map l]
theorem dss_map:∀ l,dss l=l.map fun a=>[.sl 7 (ds a)]
 | []=>rfl
 | s::l=>by simp[dss_map l]
@[simp] theorem ds_len (l:List Sx):(ds l).length=l.length:=by simp[ds_map]
@[simp] theorem ds_get (l:List Sx) (i:Nat):(ds l)[i]? = (l[i]?).map d:=by simp[ds_map]
@[simp] theorem ds_at (l:List Sx) (i:Nat) (h:i < (ds l).length):(ds l)[i]=d (l[i]'(by simpa using h)):=by simp[ds_map]
@[simp] theorem ds_all (l:List Sx):(ds l).take l.length=ds l:=by simp[ds_map,← List.map_take]
@[simp] theorem ds_app (l m:List Sx):ds (l++m)=ds l++ds m:=by simp[ds_map]
@[simp] theorem dss_len (l:List (List Sx)):(dss l).length=l.length:=by simp[dss_map]
@[simp] theorem dss_at (l:List (List Sx)) (i:Nat) (h:i < (dss l).length):(dss l)[i]=[.sl 7 (ds (l[i]'(by simpa using h)))]:=by simp[dss_map]
@[simp] theorem dss_app (l m:List (List Sx)):dss (l++m)=dss l++dss m:=by simp[dss_map]
theorem d_eq:∀ s:Sx,d s=[.v (.int .i64 s.kd),.v (.int .i64 s.wd),.v (.string s.nm),.sl 5 (Cx.ds s.e),.sl 7 (ds s.l),.sl 7 (ds s.el),.sl 1 (dss s.cs)]
 | mk _ _ _ _ _ _ _=>rfl
@[simp] theorem d_len (s:Sx):(d s).length=7:=by rw[d_eq]; rfl
theorem ind {p:Sx→Prop} (h:∀ s:Sx,(∀ x∈s.l,p x)→(∀ x∈s.el,p x)→(∀ a∈s.cs,∀ x∈a,p x)→p s):∀ s,p s
 | .mk k w n e a b c=>h _ (fun x hx=>Sx.ind h x) (fun x hx=>Sx.ind h x) (fun l hl x hx=>Sx.ind h x)
termination_by s=>SizeOf.sizeOf s
decreasing_by
 ·have h1:x∈a:=hx
  have:=List.sizeOf_lt_of_mem h1
  simp only[Sx.mk.sizeOf_spec]
  omega
 ·have h1:x∈b:=hx
  have:=List.sizeOf_lt_of_mem h1
  simp only[Sx.mk.sizeOf_spec]
  omega
 ·have h1:l∈c:=hl
  have h2:=List.sizeOf_lt_of_mem h1
  have:=List.sizeOf_lt_of_mem hx
  simp only[Sx.mk.sizeOf_spec]
  omega
mutual
def nodes:Sx→Nat
 | mk _ _ _ _ a b c=>nodess a + nodess b + nodesss c + 1
def nodess:List Sx→Nat
 | []=>0
 | s::l=>nodes s + nodess l
def nodesss:List (List Sx)→Nat
 | []=>0
 | a::l=>nodess a + nodesss l
end
end Sx
@[simp] def sxA (s:Sx):AV:=.agg [aI .i64 s.kd,aI .i64 s.wd,aS s.nm,.d (.sl 5 (Cx.ds s.e)),.d (.sl 7 (Sx.ds s.l)),.d (.sl 7 (Sx.ds s.el)),.d (.sl 1 (Sx.dss s.cs))]
def callV (calls:List ByteArray) (at':List Int) (t:Int):ByteArray:=match at'.findIdx? (fun a=>decide (a=t)) with
 | some i=>calls.getD i ⟨#[]⟩
 | none=>⟨#[]⟩
def emS (names calls:List ByteArray) (at':List Int) (s:St):Sx:=
 .mk s.op (if s.op=2 then s.wd else 0) (if s.op=1∨s.op=3 then nameV names s.va else if s.op=5 then callV calls at' s.tg else ⟨#[]⟩) (s.e.map (trE names)) [] [] []
def labV (n:Int):ByteArray:=bs (108::Lib.decDigits n.toNat)
def kdV (k:Int):Int:=if k=3 then 6 else if k=4 then 8 else if k=5 then 7 else if k=6 then 9 else if k=7 then 10 else if k=8 then 11 else if k=9 then 12 else if k=10 then 13 else if k=11 then 14 else if k=12 then 15 else 0
def emB (names calls:List ByteArray) (at':List Int) (g:Gr) (k:Int):List Sx:=match g.b[k.toNat]? with
 | some b=>b.s.dropLast.map (emS names calls at')
 | none=>[]
def emN (names calls:List ByteArray) (at':List Int) (g:Gr):Nd→List Sx
 | .mk k b n c l =>
   let r:=emNs names calls at' g l
   if k=1 then r.flatten else if k=2 then emB names calls at' g b else
   [.mk (kdV k) 0 (if k=9∨k=10 then labV n else ⟨#[]⟩) (c.map (trE names)) (if k=3∨k=4∨k=5 then r.getD 0 [] else []) (if k=3 then r.getD 1 [] else []) (if k=6 then r else [])]
where emNs (names calls:List ByteArray) (at':List Int) (g:Gr):List Nd→List (List Sx)
 | []=>[]
 | x::l=>emN names calls at' g x::emNs names calls at' g l
theorem emNs_map (names calls:List ByteArray) (at':List Int) (g:Gr):∀ l,emN.emNs names calls at' g l=l.map (emN names calls at' g)
 | []=>rfl
 | x::l=>by simp[emN.emNs,emNs_map names calls at' g l]
theorem emN_eq (names calls:List ByteArray) (at':List Int) (g:Gr) (e:Nd):emN names calls at' g e =
 if e.kd=1 then (e.l.map (emN names calls at' g)).flatten else if e.kd=2 then emB names calls at' g e.bk else
 [.mk (kdV e.kd) 0 (if e.kd=9∨e.kd=10 then labV e.lb else ⟨#[]⟩) (e.cd.map (trE names)) (if e.kd=3∨e.kd=4∨e.kd=5 then (e.l.map (emN names calls at' g)).getD 0 [] else []) (if e.kd=3 then (e.l.map (emN names calls at' g)).getD 1 [] else []) (if e.kd=6 then e.l.map (emN names calls at' g) else [])]:=by
 obtain⟨k,b,n,c,l⟩:=e
 rw[emN,emNs_map]
 rfl
theorem pigeon {α:Type} [DecidableEq α]:∀ {l m:List α},l.Nodup→(∀ x∈l,x∈m)→m.length≤l.length→∀ x∈m,x∈l
 | [], m, _, _, hl, x, hx => by
   have:m=[]:=List.length_eq_zero_iff.1 (by simpa using hl)
   rw[this] at hx
   exact hx
 | a :: l, m, hn, hs, hl, x, hx => by
   obtain⟨h1,h2⟩:=List.nodup_cons.1 hn
   have ham:a∈m:=hs a (by simp)
   by_cases hxa:x=a
   ·simp[hxa]
   ·refine List.mem_cons_of_mem _ (pigeon (m:=m.erase a) h2 (fun y hy=>?_) ?_ x ((List.mem_erase_of_ne hxa).2 hx))
    ·have hya:y≠a:=fun h=>h1 (h ▸ hy)
     exact (List.mem_erase_of_ne hya).2 (hs y (by simp[hy]))
    ·rw[List.length_erase_of_mem ham]
     simp only[List.length_cons] at hl
     omega
theorem nodup_subset_len {α:Type} [DecidableEq α]:∀ {l m:List α},l.Nodup→(∀ x∈l,x∈m)→l.length≤m.length
 | [],m,_,_=>by simp
 | a :: l, m, hn, hs => by
   obtain⟨h1,h2⟩:=List.nodup_cons.1 hn
   have ham:a∈m:=hs a (by simp)
   have:=nodup_subset_len (m:=m.erase a) h2 fun y hy=>(List.mem_erase_of_ne (fun h:y=a=>h1 (h ▸ hy))).2 (hs y (by simp[hy]))
   rw[List.length_erase_of_mem ham] at this
   have:=List.length_pos_of_mem ham
   simp only[List.length_cons]
   omega
def cvrB (g:Gr) (n:Nd):Bool:=
 (blks n.pre).all (fun b=>decide (b∈nI (ordN g))) && decide (blks n.pre).Nodup && decide ((blks n.pre).length=(ordN g).length) && n.pre.all (whB g)
def okB (g:Gr) (e:Nd):Bool:=!isBk e || (decide (e.bk∈nI (ordN g)) && (!decide (e.kd=5) || match g.b[e.bk.toNat]? with
 | some b=>decide (b.s.length≤1)
 | none=>false))
theorem nI_memK {L:List Nat} {k:Nat}:(k:Int)∈nI L↔k∈L:=by
 simp only[nI,List.mem_map]
 constructor
 ·rintro⟨a,ha,h⟩
  have:a=k:=by exact_mod_cast h
  exact this ▸ ha
 ·exact fun h=>⟨k,h,rfl⟩
theorem nI_memE {L:List Nat} {x:Int} (h:x∈nI L):∃ k∈L,x=(k:Int):=by
 simp only[nI,List.mem_map] at h
 obtain⟨a,ha,h⟩:=h
 exact⟨a,ha,h.symm⟩
theorem nI_nodup {L:List Nat} (h:L.Nodup):(nI L).Nodup:=by
 unfold nI
 rw[List.nodup_iff_pairwise_ne,List.pairwise_map]
 exact (List.nodup_iff_pairwise_ne.1 h).imp fun hne he=>hne (by exact_mod_cast he)
theorem grErr_closed {g:Gr} (hc:grErr g=0):0 < g.b.length∧(∀ b∈g.b,closedB g.b.length b=true)∧∀ b∈g.b,stsErr b.s=0:=by
 unfold grErr at hc
 split at hc
 ·omega
 split at hc
 ·omega
 rename_i h2
 have h3:¬ g.b.length=0:=fun h=>h2 (.inl h)
 have h4:g.b.all (closedB g.b.length)=true:=by
  cases h:g.b.all (closedB g.b.length)
  ·exact absurd (.inr h) h2
  ·rfl
 exact⟨by omega,List.all_eq_true.1 h4,blsErr_mem hc⟩
theorem grErr_pos {g:Gr} (hc:grErr g=0):0 < g.b.length:=(grErr_closed hc).1
theorem stmts_pos {g:Gr} (hc:grErr g=0) {b:Bl} (hb:b∈g.b):1≤b.s.length:=by
 have:=(grErr_closed hc).2.1 b hb
 unfold closedB at this
 cases h:b.s with
 | nil=>rw[h] at this; cases this
 | cons a l=>simp
theorem nodup_of_cover {α:Type} [DecidableEq α]:∀ {l m:List α},m.Nodup→(∀ x∈m,x∈l)→l.length≤m.length→l.Nodup
 | l, [], _, _, hl => by
   have:l=[]:=List.length_eq_zero_iff.1 (by simpa using hl)
   simp[this]
 | l, a :: m, hn, hs, hl => by
   obtain⟨h1,h2⟩:=List.nodup_cons.1 hn
   have hal:a∈l:=hs a (by simp)
   have hlen:=List.length_erase_of_mem hal
   have hpos:=List.length_pos_of_mem hal
   have hsub:∀ x∈m,x∈l.erase a:=fun x hx=>(List.mem_erase_of_ne (fun h:x=a=>h1 (h ▸ hx))).2 (hs x (by simp[hx]))
   simp only[List.length_cons] at hl
   have ih:=nodup_of_cover (l:=l.erase a) h2 hsub (by omega)
   have hna:a∉l.erase a:=fun h=>by
    have:=pigeon (l:=m) (m:=l.erase a) h2 hsub (by omega) a h
    exact h1 this
   exact (List.perm_cons_erase hal).nodup_iff.2 (List.nodup_cons.2 ⟨hna,ih⟩)
theorem blks_mem {l:List Nd} {e:Nd} (h:e∈l) (hk:isBk e=true):e.bk∈blks l:=by
 unfold blks
 exact List.mem_map.2 ⟨e,List.mem_filter.2 ⟨h,hk⟩,rfl⟩
theorem blks_mem2 {l:List Nd} {b:Int} (h:b∈blks l):∃ e∈l,isBk e=true∧e.bk=b:=by
 unfold blks at h
 obtain⟨e,he,hb⟩:=List.mem_map.1 h
 obtain⟨h1,h2⟩:=List.mem_filter.1 he
 exact⟨e,h1,h2,hb⟩
theorem cov_iff {g:Gr} (hc:grErr g=0) (n:Nd):(n.pre.all (okB g) && (ordN g).all fun k=>decide ((blks n.pre).count (k:Int)=1))=cvrB g n:=by
 have hnd:=ordN_nodup (edgOk g) (grErr_pos hc)
 rw[Bool.eq_iff_iff]
 simp only[cvrB,Bool.and_eq_true,List.all_eq_true,decide_eq_true_eq]
 constructor
 ·rintro⟨h1,h2⟩
  have hin:∀ b∈blks n.pre,b∈nI (ordN g):=fun b hb=>by
   obtain⟨e,he,hk,rfl⟩:=blks_mem2 hb
   have:=h1 e he
   simp only[okB,hk,Bool.not_true,Bool.false_or,Bool.and_eq_true,decide_eq_true_eq] at this
   exact this.1
  have hN:(blks n.pre).Nodup:=by
   rw[List.nodup_iff_count]
   intro b
   by_cases hb:b∈blks n.pre
   ·obtain⟨k,hk,rfl⟩:=nI_memE (hin b hb)
    rw[h2 k hk]
    exact Nat.le_refl _
   ·rw[List.count_eq_zero.2 hb]
    omega
  have hsub:∀ x∈nI (ordN g),x∈blks n.pre:=fun x hx=>by
   obtain⟨k,hk,rfl⟩:=nI_memE hx
   exact List.count_pos_iff.1 (by rw[h2 k hk]; omega)
  have l1:=nodup_subset_len hN hin
  have l2:=nodup_subset_len (nI_nodup hnd) hsub
  simp only[nI,List.length_map] at l1 l2
  refine⟨⟨⟨hin,hN⟩,by omega⟩,fun e he=>?_⟩
  have:=h1 e he
  unfold whB
  by_cases h5:e.kd=5
  ·have hb:isBk e=true:=by simp[isBk,h5]
   simp only[okB,hb,h5,Bool.not_true,Bool.false_or,Bool.and_eq_true,decide_eq_true_eq,decide_true] at this ⊢
   obtain⟨t1,t2⟩:=this
   obtain⟨k,hk,hkb⟩:=nI_memE t1
   rw[hkb] at t2 ⊢
   rw[if_pos (by omega)]
   have hlt:=ordN_lt (edgOk g) k hk
   rw[Int.toNat_natCast] at t2 ⊢
   rw[gEG hlt] at t2 ⊢
   simp only[decide_eq_true_eq] at t2 ⊢
   have:=stmts_pos hc (List.getElem_mem hlt)
   omega
  ·simp[h5]
 ·rintro⟨⟨⟨h1,h2⟩,h3⟩,h4⟩
  refine⟨fun e he=>?_,fun k hk=>?_⟩
  ·unfold okB
   cases hb:isBk e with
   | false=>rfl
   | true =>
     have hm:=h1 _ (blks_mem he hb)
     simp only[Bool.not_true,Bool.false_or,Bool.and_eq_true,decide_eq_true_eq]
     refine⟨hm,?_⟩
     have:=h4 e he
     unfold whB at this
     by_cases h5:e.kd=5
     ·simp only[h5,decide_true,Bool.not_true,Bool.false_or] at this ⊢
      split at this
      ·rename_i b hb
       split at hb
       ·rw[hb]
        simp at this ⊢
        omega
       ·cases hb
      ·cases this
     ·simp[h5]
  ·have:(k:Int)∈blks n.pre:=pigeon h2 h1 (by simp only[nI,List.length_map]; omega) _ (nI_memK.2 hk)
   have h5:=(List.nodup_iff_count.1 h2) (k:Int)
   have:=List.count_pos_iff.2 this
   omega
theorem compact_nodup (L:List Int):(Lib.compact (srt L)).length < L.length↔¬ L.Nodup:=by
 obtain⟨h1,h2⟩:=fold_compact L
 rw[h1]
 have ha:Asc (L.foldl insL []):=fold_asc (by simp[Asc])
 have hn:(L.foldl insL []).Nodup:=by
  rw[List.nodup_iff_pairwise_ne]
  exact List.Pairwise.imp (fun h=>by omega) ha
 constructor
 ·intro h hd
  have:=nodup_subset_len (l:=L) (m:=L.foldl insL []) hd fun x hx=>fold_mem.2 (.inr hx)
  omega
 ·intro h
  rcases Nat.lt_or_ge (L.foldl insL []).length L.length with h3 | h3
  ·exact h3
  ·refine absurd ?_ h
   have hp:∀ x∈L.foldl insL [],x∈L:=fun x hx=>by simpa using fold_mem.1 hx
   exact nodup_of_cover hn hp h3
def ckE (g:Gr) (n:Nd):Int:=
 if grErr g≠0 then grErr g else if n.pre.all ndOk=false then 2 else if cvrB g n=false then 18 else if inlB n false=false then 21 else
 if (gots n.pre).all (fun t=>decide (t∈labs n.pre))=false then 9 else if (labs n.pre).Nodup then 0 else 8
def u32L (l:List Int):List (List D):=l.map fun n=>[.v (.int .u32 n)]
@[simp] theorem u32L_len (l:List Int):(u32L l).length=l.length:=by simp[u32L]
@[simp] theorem u32L_at (l:List Int) (i:Nat) (h:i < (u32L l).length):(u32L l)[i]=[.v (.int .u32 (l[i]'(by simpa using h)))]:=by simp[u32L]
abbrev emD (g:Gr) (names calls:List ByteArray) (ats:List Int):List D:=[.v (.int .u32 g.ad),.sl 2 (bls' g.b),.sl 1 (strs names),.sl 1 (strs calls),.sl 1 (u32L ats)]
@[simp] theorem Cx.d_len (e:Cx):(Cx.d e).length=5:=by rw[Cx.d_eq]; rfl
set_option maxRecDepth 100000 in
theorem emexprs_af (g:Gr) (names calls:List ByteArray) (ats:List Int) (l:List Ex) (hl:l.length≤1000000) (hn:∀ e∈l,e.nodes≤100000000∧namedB names.length e=true) :
 AF Tryz.prog 78 [.ip (emD g names calls ats),.d (.sl 5 (Ex.ds l))] (.d (.sl 5 (Cx.ds (l.map (trE names))))):=by
 have hm:l.length≤maxLen:=by unfold maxLen; omega
 refine af_of Tryz.func78 rfl (by kernel_rfl) (by simp[Tryz.ntmps78]) fun _=>?_; simp[Tryz.f78,Ex.d_eq]
 refine aLoop_st (fun i:Nat=>[(0,.ip (emD g names calls ats)),(5,.own 0 i 0 i),(8,.d (.sl 5 (Ex.ds l))),(9,aI .i64 l.length),(10,aI .i64 i)]) (fun i=>[⟨i,true,56,5,dEls (Cx.ds ((l.take i).map (trE names)))⟩])
  (fun i=>i≤l.length) (fun i=>l.length - i) 0 ((Sub.ghost 0 56 5).trans (Sub.slot (s:=5) (c:=.own 0 0 0 0) (VLe.nil_own (k:=⟨0,true,56,5,[]⟩) (by simp) rfl))) 1 (by omega) (by simp) (by simp) (by omega) ?_
 rintro i hi K hK
 rcases Nat.lt_or_ge i l.length with hlt | hge
 case inr=>
  obtain rfl:i=l.length:=by omega
  rw[List.take_length]
  have ht:List.take l.length (Cx.ds (List.map (trE names) l))=Cx.ds (List.map (trE names) l):=List.take_of_length_le (by simp)
  simp[ht]
 obtain⟨y,hy⟩:∃ y,l[i]? = some y:=⟨_,gEG hlt⟩
 have hy2:=(gSI.1 hy).2
 have hym:=gMO hy
 have hmin:min i l.length=i:=by omega
 have cy:=emtranslate_af names y (hn y hym).1 (hn y hym).2
 simp[hlt,hy,hy2,Ex.d_eq]
 refine adraw2 8 [] (by kernel_rfl) (by kernel_rfl) (by kernel_rfl) (by kernel_rfl) (by kernel_rfl) ?_
 simp[hlt,hy,hy2,Ex.d_eq]
 refine adC_of cy (by simp) trivial (by simp) (by simp) ?_
 simp[hmin]
 refine aRaw_app byt_54 ?_
 simp[hmin]
 refine⟨by unfold maxLen; omega,by omega,?_⟩
 simp[succ_wrap hlt hm]
 refine hK (i + 1) (by omega) (by omega) (Sub.take 1 (Nat.zero_le _)) 1 (by omega) ?_ (by simp)
 simp
 rw[List.take_add_one,List.getElem?_map,hy]
 simp[Cx.ds_map,dEls,Cx.d_eq,List.map_take]
theorem grow_sx_ac (A:AHeap) (m:Nat) (hm:m≤1000000):AC Tryz.prog 200 [.d (.v (.slice none 0 0)),aI .i64 m] A (fun r A'=>r = .own A.length 0 0 0∧A'=A++[⟨0,true,71,7,[]⟩]):=by
 rcases Nat.eq_zero_or_pos m with h0 | h0
 ·subst h0
  refine AC.sub (R:=fun r A'=>r = .d (.v (.slice none 0 0))∧A'=A) (ac_of Tryz.func200 rfl (by kernel_rfl) (by simp[Tryz.ntmps200]) fun _=>?_) ?_
  ·simp[Tryz.f200]
   refine aRaw_cap (Tryz.underlying37) (by simp) ?_
   simp
  ·rintro r A' ⟨rfl,rfl⟩
   refine⟨_,_,(Sub.ghost 0 71 7).trans (Sub.env (e':=fun _=>.own A'.length 0 0 0) fun i=>VLe.nil_own (k:=⟨0,true,71,7,[]⟩) (by simp) rfl),?_,?_⟩<;>simp
 ·refine AC.sub (R:=fun r A'=>r = .own A.length 0 0 0∧A'=A++[⟨0,true,71,7,List.replicate m [.d (.v (.int .i64 0)),.d (.v (.int .i64 0)),.d (.v (.string ⟨#[]⟩)),.d (.v (.slice none 0 0)),.d (.v (.slice none 0 0)),.d (.v (.slice none 0 0)),.d (.v (.slice none 0 0))]⟩]) (ac_of Tryz.func200 rfl (by kernel_rfl) (by simp[Tryz.ntmps200]) fun _=>?_) ?_
  ·have h1:¬ (m:Int) < 0:=by omega
   have h2:(0:Int) < m:=by omega
   simp[Tryz.f200,h1]
   refine aRaw_cap (Tryz.underlying37) (by simp) ?_
   simp[h0,h2,i64w (n:=(m:Int)) (by omega)]
   refine aRaw_cap (Tryz.underlying37) (by simp) ?_
   simp
   refine aRaw_appz (m:=m) (z:=[.d (.v (.int .i64 0)),.d (.v (.int .i64 0)),.d (.v (.string ⟨#[]⟩)),.d (.v (.slice none 0 0)),.d (.v (.slice none 0 0)),.d (.v (.slice none 0 0)),.d (.v (.slice none 0 0))]) byt_37 (by simp) (Tryz.underlying3) (by simp) (by simp) h0 (by unfold maxLen; omega) (by omega) ?_
   simp
  ·rintro r A' ⟨rfl,rfl⟩
   refine⟨_,_,Sub.trunc (b:=A.length) (k:=⟨0,true,71,7,List.replicate m [.d (.v (.int .i64 0)),.d (.v (.int .i64 0)),.d (.v (.string ⟨#[]⟩)),.d (.v (.slice none 0 0)),.d (.v (.slice none 0 0)),.d (.v (.slice none 0 0)),.d (.v (.slice none 0 0))]⟩) 0 (by simp) (show 71 < 1000000 by decide),?_,?_⟩<;>simp[setEls]
theorem ds_rows (l:List Sx):∀ r∈dEls (Sx.ds l),r.length=7:=fun r hr=>by
 simp only[dEls,Sx.ds_map,List.map_map,List.mem_map] at hr
 obtain⟨s,_,rfl⟩:=hr
 simp
theorem flat_take {α:Type} {L:List (List α)} {i:Nat} {x:List α} (h:L[i]? = some x):(L.take (i + 1)).flatten=(L.take i).flatten++x:=by
 rw[List.take_add_one,h,List.flatten_append]
 simp
theorem flat_le {α:Type} (L:List (List α)) (i:Nat):(L.take i).flatten.length≤L.flatten.length:=by
 have h:=congrArg List.flatten (List.take_append_drop i L)
 rw[List.flatten_append] at h
 have:=congrArg List.length h
 rw[List.length_append] at this
 omega
set_option maxRecDepth 100000 in
set_option maxHeartbeats 0 in
theorem concat_sx_af (L:List (List Sx)) (hl:L.length≤1000000) (ht:L.flatten.length≤1000000):AF Tryz.prog 144 [.d (.sl 1 (Sx.dss L))] (.d (.sl 7 (Sx.ds L.flatten))):=by
 have hm:L.length≤maxLen:=by unfold maxLen; omega
 have hFl:=flat_le L
 have hFt:=fun (i:Nat) (x:List Sx) (h:L[i]? = some x)=>flat_take h
 have hF0:(L.take 0).flatten=[]:=rfl
 have hFn:(L.take L.length).flatten=L.flatten:=by rw[List.take_length]
 obtain⟨F,hF⟩:∃ F:Nat→List Sx,(fun i=>(L.take i).flatten)=F:=⟨_,rfl⟩
 replace hF:∀ i,(L.take i).flatten=F i:=fun i=>congrFun hF i
 obtain⟨G,hG⟩:∃ G,L.flatten=G:=⟨_,rfl⟩
 simp only[hF] at hFl hFt hF0 hFn
 simp only[hG] at hFl hFn ht
 rw[hG]
 refine af_of Tryz.func144 rfl (by kernel_rfl) (by simp[Tryz.ntmps144]) fun _=>?_; simp[Tryz.f144,Ex.d_eq]
 refine aLoop_st (fun i:Nat=>[(0,.d (.sl 1 (Sx.dss L))),(3,aI .i64 ((F i).length:Nat)),(9,.d (.sl 1 (Sx.dss L))),(10,aI .i64 L.length),(11,aI .i64 i)]) (fun _=>[])
  (fun i=>i≤L.length) (fun i=>L.length - i) 0 (Sub.refl _ _ _) 0 (by omega) (by simp) (by simp[hF0]) (by omega) ?_
 rintro i hi K hK
 have hfl:=hFl i
 rcases Nat.lt_or_ge i L.length with hlt | hge
 case inl=>
  obtain⟨y,hy⟩:∃ y,L[i]? = some y:=⟨_,gEG hlt⟩
  have hy2:=(gSI.1 hy).2
  have hfl2:=hFl (i + 1)
  have hft:=hFt i y hy
  rw[hft,List.length_append] at hfl2
  obtain⟨q,hq⟩:∃ q,(F i).length=q:=⟨_,rfl⟩
  rw[hq] at hfl hfl2
  have hyl:y.length≤maxLen:=by unfold maxLen; omega
  have hw:IntKind.i64.wrap ((q:Int) + (y.length:Int))=(q:Int) + (y.length:Int):=i64w (by omega)
  have hnn:¬ (q:Int) + (y.length:Int) < 0:=by omega
  simp only[hq]
  simp[hlt,hy,hy2,hw,hnn,succ_wrap hlt hm]
  refine hK (i + 1) (by omega) (by omega) (Sub.refl _ _ _) 0 (by omega) (by simp) ?_
  rw[hft,List.length_append,hq]
  simp
 obtain rfl:i=L.length:=by omega
 rw[hFn]
 simp
 refine aCall_ofc (grow_sx_ac [] G.length ht) (by kernel_rfl) ?_
 rintro _ _ ⟨rfl,rfl⟩
 simp
 refine aLoop_st (fun i:Nat=>[(6,.own 0 i 0 (F i).length),(25,.d (.sl 1 (Sx.dss L))),(26,aI .i64 L.length),(27,aI .i64 i)]) (fun i=>[⟨i,true,71,7,dEls (Sx.ds (F i))⟩])
  (fun i=>i≤L.length) (fun i=>L.length - i) 0 (Sub.refl _ _ _) 1 (by omega) (by simp[hF0]) (by simp[hF0]) (by omega) ?_
 rintro i hi K2 hK2
 have hfl:=hFl i
 rcases Nat.lt_or_ge i L.length with hlt | hge
 case inl=>
  obtain⟨y,hy⟩:∃ y,L[i]? = some y:=⟨_,gEG hlt⟩
  have hy2:=(gSI.1 hy).2
  have hfl2:=hFl (i + 1)
  have hft:=hFt i y hy
  rw[hft,List.length_append] at hfl2
  simp[hlt,hy,hy2]
  refine aRaw_app byt_37 ?_
  simp
  rw[if_pos (ds_rows _)]
  simp
  refine⟨by unfold maxLen; omega,by omega,?_⟩
  simp[succ_wrap hlt hm]
  refine hK2 (i + 1) (by omega) (by omega) (Sub.refl _ _ _) 1 (by omega) ?_ ?_
  ·rw[hft]; simp
  ·rw[hft]; simp
 obtain rfl:i=L.length:=by omega
 rw[hFn]
 simp
theorem emjoin_af (L:List (List Sx)) (hl:L.length≤1000000) (ht:L.flatten.length≤1000000):AF Tryz.prog 79 [.d (.sl 1 (Sx.dss L))] (.d (.sl 7 (Sx.ds L.flatten))):=by
 refine af_of Tryz.func79 rfl (by kernel_rfl) (by simp[Tryz.ntmps79]) fun _=>?_; simp[Tryz.f79,Ex.d_eq]
 refine aCall_of (concat_sx_af L hl ht) (by simp) (by simp[Ex.d_eq]) ?_; simp[Ex.d_eq]
theorem emlabel_af (n:Int) (h0:0≤n) (hn:n≤9223372036854775807):AF Tryz.prog 82 [aI .i64 n] (aS (labV n)):=by
 obtain⟨u,rfl⟩:∃ u:Nat,n=u:=⟨n.toNat,by omega⟩
 have ci:=itoaW_af (u:Int) (by omega)
 rw[xInt_nat (by omega),Int.toNat_natCast] at ci
 have hdl:=dec_len u (by omega)
 refine af_of Tryz.func82 rfl (by kernel_rfl) (by simp[Tryz.ntmps82]) fun _=>?_; simp[Tryz.f82,Ex.d_eq]
 refine aCall_of (ci) (by simp) (by simp[Ex.d_eq]) ?_; simp[Ex.d_eq]
 simp (disch:=first | omega | (simp; done)) [sz_ok,labV]
theorem indexu32_af (l:List Int) (v:Int) (hl:l.length≤maxLen):AF Tryz.prog 77 [.d (.sl 1 (u32L l)),aI .u32 v] (aI .i64 (match l.findIdx? (fun a=>decide (a=v)) with | some i=>(i:Int) | none=>-1)):=by
 obtain⟨R,hR⟩:∃ R:Int,(match l.findIdx? (fun a=>decide (a=v)) with | some i=>(i:Int) | none=>-1)=R:=⟨_,rfl⟩
 rw[hR]
 refine af_of Tryz.func77 rfl (by kernel_rfl) (by simp[Tryz.ntmps77]) fun _=>?_; simp[Tryz.f77,Ex.d_eq]
 refine aLoop_st (fun i:Nat=>[(0,.d (.sl 1 (u32L l))),(1,aI .u32 v),(7,aI .i64 l.length),(8,aI .i64 i)]) (fun _=>[]) (fun i=>i≤l.length∧∀ j a,j < i→l[j]? = some a→a≠v) (fun i=>l.length - i) 0 (Sub.refl _ _ _) 0 (by omega) (by simp) (by simp) ⟨by omega,by intro j a hj; omega⟩ ?_
 rintro i ⟨hi,hall⟩ K hK
 rcases Nat.lt_or_ge i l.length with hlt | hge
 case inr=>
  obtain rfl:i=l.length:=by omega
  have:l.findIdx? (fun a=>decide (a=v))=none:=by
   rw[List.findIdx?_eq_none_iff]
   intro x hx
   obtain⟨j,hj⟩:=List.getElem?_of_mem hx
   simpa using hall j x (gSI.1 hj).1 hj
  rw[this] at hR
  simp only at hR
  subst hR
  simp
 obtain⟨a,ha⟩:∃ a,l[i]? = some a:=⟨_,gEG hlt⟩
 have ha2:=(gSI.1 ha).2
 by_cases hav:a=v
 ·have:l.findIdx? (fun a=>decide (a=v))=some i:=by
   rw[List.findIdx?_eq_some_iff_getElem]
   refine⟨hlt,by simp[ha2,hav],fun j hj=>?_⟩
   have:=hall j l[j] hj (gEG (by omega))
   simpa using this
  rw[this] at hR
  simp only at hR
  subst hR
  subst hav
  simp[hlt,ha,ha2]
 ·simp[hlt,ha,ha2,show ¬ v=a from fun h=>hav h.symm,succ_wrap hlt hl]
  refine hK (i + 1) ⟨by omega,fun j b hj hb=>?_⟩ (by omega) (Sub.refl _ _ _) 0 (by omega) (by simp) (by simp)
  rcases Nat.lt_or_ge j i with h | h
  ·exact hall j b h hb
  ·obtain rfl:j=i:=by omega
   rw[ha] at hb
   obtain rfl:=oSI hb
   exact hav
theorem containsu32_af (l:List Int) (v:Int) (hl:l.length≤maxLen):AF Tryz.prog 31 [.d (.sl 1 (u32L l)),aI .u32 v] (aB (decide (v∈l))):=by
 refine af_of Tryz.func31 rfl (by kernel_rfl) (by simp[Tryz.ntmps31]) fun _=>?_; simp[Tryz.f31,Ex.d_eq]
 refine aCall_of (indexu32_af l v hl) (by simp) (by simp[Ex.d_eq]) ?_; simp[Ex.d_eq]
 cases h:l.findIdx? (fun a=>decide (a=v)) with
 | none =>
   rw[List.findIdx?_eq_none_iff] at h
   have:¬ v∈l:=fun hv=>by have:=h v hv; simp at this
   simp[this]
 | some i =>
   rw[List.findIdx?_eq_some_iff_getElem] at h
   obtain⟨hi,hp,_⟩:=h
   have:v∈l:=by
    have h2:l[i]=v:=by simpa using hp
    rw[← h2]
    exact List.getElem_mem hi
   simp[this]
def emOk (names:List ByteArray) (ats:List Int) (s:St):Prop:=1≤s.op∧s.op≤5∧s.e.length≤1000000∧(∀ e∈s.e,e.nodes≤100000000∧namedB names.length e=true)∧((s.op=1∨s.op=3)→0≤s.va∧s.va < names.length)∧(s.op=5→s.tg∈ats)
theorem name_at {names:List ByteArray} {v:Int} (h0:0≤v) (h1:v < names.length):∃ w:Nat,v=w∧w < names.length∧names[w]? = some (nameV names v):=by
 obtain⟨w,rfl⟩:∃ w:Nat,v=w:=⟨v.toNat,by omega⟩
 have hw:w < names.length:=by omega
 refine⟨w,rfl,hw,?_⟩
 unfold nameV
 rw[List.getD_eq_getElem?_getD,Int.toNat_natCast,gEG hw]
 rfl
theorem call_at {calls:List ByteArray} {ats:List Int} {t:Int} (hl:calls.length=ats.length) (h:t∈ats):∃ i:Nat,ats.findIdx? (fun a=>decide (a=t))=some i∧i < calls.length∧calls[i]? = some (callV calls ats t):=by
 cases hf:ats.findIdx? (fun a=>decide (a=t)) with
 | none =>
   rw[List.findIdx?_eq_none_iff] at hf
   have:=hf t h
   simp at this
 | some i =>
   have hf2:=hf
   rw[List.findIdx?_eq_some_iff_getElem] at hf2
   obtain⟨hi,_⟩:=hf2
   refine⟨i,rfl,by omega,?_⟩
   unfold callV
   rw[hf]
   simp only
   rw[List.getD_eq_getElem?_getD,gEG (by omega)]
   rfl
abbrev nilV:AV:=.d (.v (.slice none 0 0))
abbrev nBx (k w:Int) (nm:ByteArray) (e:AV):Blk:=⟨0,true,71,7,[[aI .i64 k,aI .i64 w,aS nm,e,nilV,nilV,nilV]]⟩
abbrev sB (s:St):Blk:=⟨0,true,62,8,[[aI .i64 s.op,aI .i64 s.va,aI .i64 s.wd,aI .i64 s.nx,aI .i64 s.el,aI .u32 s.tg,.d (.sl 5 (Ex.ds s.e)),.d (.sl 1 (i64s s.cs))]]⟩
set_option maxRecDepth 100000 in
set_option maxHeartbeats 0 in
theorem emstmt_af (g:Gr) (names calls:List ByteArray) (ats:List Int) (hcl:calls.length=ats.length) (hal:ats.length≤1000000) (s:St) (hs:emOk names ats s) :
 AF Tryz.prog 145 [.ip (emD g names calls ats),stV s] (sxA (emS names calls ats s)):=by
 obtain⟨o1,o5,hel,hen,hva,hca⟩:=hs
 have hx:=emexprs_af g names calls ats s.e hel hen
 have ham:ats.length≤maxLen:=by unfold maxLen; omega
 obtain⟨F,hF⟩:∃ F,emS names calls ats s=F:=⟨_,rfl⟩
 rw[hF]
 unfold emS at hF
 refine af_of Tryz.func145 rfl (by kernel_rfl) (by simp[Tryz.ntmps145]) fun _=>?_; simp[Tryz.f145,Ex.d_eq]
 refine aCall_of hx (by kernel_rfl) (by simp) ?_
 rcases (by omega:s.op=1∨s.op=2∨s.op=3∨s.op=4∨s.op=5) with h | h | h | h | h
 ·obtain⟨w,hw,hwl,hwn⟩:=name_at (hva (.inl h)).1 (hva (.inl h)).2
  simp[h] at hF
  subst hF
  obtain⟨z,hz⟩:∃ z,nameV names s.va=z:=⟨_,rfl⟩
  rw[hz] at hwn ⊢
  have hwn2:=(gSI.1 hwn).2
  simp[h]
  refine adraw [(9,3),(9,5),(9,7)] (by kernel_rfl) (by kernel_rfl) (by kernel_rfl) (by kernel_rfl) ?_
  simp[h,hw,hwl,hwn,hwn2,lateOk_cons,setEls]
 ·simp[h] at hF
  subst hF
  simp[h]
  refine adraw [(3,1)] (by kernel_rfl) (by kernel_rfl) (by kernel_rfl) (by kernel_rfl) ?_
  simp[h,lateOk_cons,setEls]
 ·obtain⟨w,hw,hwl,hwn⟩:=name_at (hva (.inr h)).1 (hva (.inr h)).2
  simp[h] at hF
  subst hF
  obtain⟨z,hz⟩:∃ z,nameV names s.va=z:=⟨_,rfl⟩
  rw[hz] at hwn ⊢
  have hwn2:=(gSI.1 hwn).2
  simp[h]
  refine adraw [(9,3),(9,5),(9,7)] (by kernel_rfl) (by kernel_rfl) (by kernel_rfl) (by kernel_rfl) ?_
  simp[h,hw,hwl,hwn,hwn2,lateOk_cons,setEls]
 ·simp[h] at hF
  subst hF
  simp[h,setEls]
 ·obtain⟨i,hi,hil,hic⟩:=call_at hcl (hca h)
  have ci:=indexu32_af ats s.tg ham
  rw[hi] at ci
  simp only at ci
  simp[h] at hF
  subst hF
  obtain⟨z,hz⟩:∃ z,callV calls ats s.tg=z:=⟨_,rfl⟩
  rw[hz] at hic ⊢
  have hic2:=(gSI.1 hic).2
  simp[h]
  refine adrawR [.ip (emD g names calls ats),.ip (emD g names calls ats),.ip [.sl 1 (strs calls),.sl 1 (u32L ats)],.d (.sl 1 (strs calls)),.ip (emD g names calls ats),.ip (emD g names calls ats),.ip [.sl 1 (u32L ats)],.d (.sl 1 (u32L ats)),.ptr 0 0 0 5,aI .u32 s.tg,aI .i64 i,.ip [.v (.string z)],aS z,.ptr 2 0 0 0,.any,.ptr 2 0 0 2,.any]
   [(0,[sB s,nBx 0 0 ⟨#[]⟩ nilV,nBx 0 0 ⟨#[]⟩ (.d (.sl 5 (Cx.ds (s.e.map (trE names)))))]),(1024,[sB s,nBx 0 0 ⟨#[]⟩ nilV,nBx 0 0 ⟨#[]⟩ (.d (.sl 5 (Cx.ds (s.e.map (trE names)))))]),(17408,[sB s,nBx 0 0 ⟨#[]⟩ nilV,nBx 5 0 ⟨#[]⟩ (.d (.sl 5 (Cx.ds (s.e.map (trE names)))))]),(82944,[sB s,nBx 0 0 ⟨#[]⟩ nilV,nBx 5 0 z (.d (.sl 5 (Cx.ds (s.e.map (trE names)))))])]
   (by kernel_rfl) (by kernel_rfl) (by simp[heapM,h]) rfl ?_ ?_
  ·simp only[rowsR,List.mem_cons,List.not_mem_nil,or_false,forall_eq_or_imp,forall_eq]
   refine⟨⟨?m0_0,?m0_1024,?m0_17408,nmy⟩,⟨?m1_0,?m1_1024,?m1_17408,nmy⟩,⟨?m2_0,?m2_1024,?m2_17408,nmy⟩,⟨?m3_0,?m3_1024,?m3_17408,nmy⟩,⟨?m4_0,nmy,nmy,nmy⟩,⟨?m5_0,nmy,nmy,nmy⟩,⟨?m6_0,nmy,nmy,nmy⟩,⟨?m7_0,nmy,nmy,nmy⟩,⟨?m8_0,nmy,nmy,nmy⟩,⟨?m9_0,nmy,nmy,nmy⟩,⟨?m10_0,nmy,nmy,nmy⟩,⟨nmy,?m11_1024,?m11_17408,nmy⟩,⟨nmy,?m12_1024,?m12_17408,nmy⟩,⟨?m13_0,?m13_1024,nmy,nmy⟩,⟨nmy,?m14_1024,nmy,nmy⟩,⟨nmy,nmy,?m15_17408,nmy⟩,⟨nmy,nmy,?m16_17408,nmy⟩,trivial⟩
   all_goals
    intro hmay
    clear hmay
    intro e' K' h A3 hA hk
    simp only[Op.operands,Call.operands] at h
    simp[still,heapM,putR,dvA] at h hA hk
    subst hA
    simp[h,hil,hic,hic2,setEls]
    try exact hk
   case m10_0=>
    refine aCall_of ci (by simp) (by simp) ?_
    exact hk
  simp[putR]
set_option maxRecDepth 100000 in
theorem emblock_af (g:Gr) (names calls:List ByteArray) (ats:List Int) (hcl:calls.length=ats.length) (hal:ats.length≤1000000) (k:Nat) (b:Bl) (hb:g.b[k]? = some b) (hbl:b.s.length≤1000000) (hb1:1≤b.s.length) (hs:∀ s∈b.s.dropLast,emOk names ats s) :
 AF Tryz.prog 80 [.ip (emD g names calls ats),aI .i64 k] (.d (.sl 7 (Sx.ds (emB names calls ats g k)))):=by
 have hkl:=(gSI.1 hb).1
 have hb2:=(gSI.1 hb).2
 obtain⟨L,hL⟩:∃ L,b.s.dropLast=L:=⟨_,rfl⟩
 have hLl:L.length=b.s.length - 1:=by rw[← hL]; simp
 obtain⟨m,hm⟩:∃ m,b.s.length=m + 1:=⟨b.s.length - 1,by omega⟩
 have hLm:L.length=m:=by omega
 have htk:b.s.take m=L:=by rw[← hL,List.dropLast_eq_take]; congr 1; omega
 have hF:emB names calls ats g k=L.map (emS names calls ats):=by
  unfold emB
  rw[Int.toNat_natCast,hb]
  simp only[hL]
 rw[hF]
 rw[hL] at hs
 have hlm:L.length≤maxLen:=by unfold maxLen; omega
 have hmi:IntKind.i64.wrap ((m:Int) + 1 - 1)=(m:Int):=by rw[show (m:Int) + 1 - 1=m by omega]; exact i64w (by omega)
 have htk2:List.take m (sts b.s)=sts L:=by rw[sts_take,htk]
 refine af_of Tryz.func80 rfl (by kernel_rfl) (by simp[Tryz.ntmps80]) fun _=>?_; simp[Tryz.f80,Ex.d_eq]
 simp[hkl,hb,hb2,Bl.d_eq,hm,i64w (n:=(m:Int)) (by omega),htk,hLm,show (m:Int)≤(m:Int) + 1 by omega]
 refine aLoop_st (fun i:Nat=>[(0,.ip (emD g names calls ats)),(5,.own 0 i 0 i),(22,.d (.sl 8 (sts L))),(23,aI .i64 L.length),(24,aI .i64 i)]) (fun i=>[⟨i,true,71,7,dEls (Sx.ds ((L.take i).map (emS names calls ats)))⟩])
  (fun i=>i≤L.length) (fun i=>L.length - i) 0 ((Sub.ghost 0 71 7).trans (Sub.slot (s:=5) (c:=.own 0 0 0 0) (VLe.nil_own (k:=⟨0,true,71,7,[]⟩) (by simp) rfl))) 1 (by omega) (by simp) (by simp[hLm]) (by omega) ?_
 rintro i hi K hK
 rcases Nat.lt_or_ge i L.length with hlt | hge
 case inr=>
  obtain rfl:i=L.length:=by omega
  rw[List.take_length]
  have ht:List.take L.length (Sx.ds (List.map (emS names calls ats) L))=Sx.ds (List.map (emS names calls ats) L):=List.take_of_length_le (by simp)
  simp[ht]
 obtain⟨y,hy⟩:∃ y,L[i]? = some y:=⟨_,gEG hlt⟩
 have hy2:=(gSI.1 hy).2
 have hym:=gMO hy
 have hmin:min i L.length=i:=by omega
 have cy:=emstmt_af g names calls ats hcl hal y (hs y hym)
 simp[hlt,hy,hy2,St.d_eq]
 refine aCall_of cy (by kernel_rfl) (by simp) ?_
 simp[hmin]
 refine aRaw_app byt_37 ?_
 simp[hmin]
 refine⟨by unfold maxLen; omega,by omega,?_⟩
 simp[succ_wrap hlt hlm]
 refine hK (i + 1) (by omega) (by omega) (Sub.take 1 (Nat.zero_le _)) 1 (by omega) ?_ (by simp)
 simp
 rw[List.take_add_one,List.getElem?_map,hy]
 simp[Sx.ds_map,dEls,Sx.d_eq,List.map_take]
def cntL (n:Nat) (B:List Int):List Int:=(List.range n).map fun k:Nat=>((B.count (k:Int):Nat):Int)
@[simp] theorem cntL_len (n:Nat) (B:List Int):(cntL n B).length=n:=by simp[cntL]
theorem cntL_get {n k:Nat} (B:List Int) (h:k < n):(cntL n B)[k]? = some ((B.count (k:Int):Nat):Int):=by simp[cntL,h]
theorem cntL_add {n b:Nat} (B:List Int) (h:b < n):(cntL n B).set b (((B.count (b:Int):Nat):Int) + 1)=cntL n (B++[(b:Int)]):=by
 apply List.ext_getElem?
 intro j
 rw[List.getElem?_set]
 by_cases hj:j < n
 ·rw[cntL_get _ hj,cntL_get _ hj,List.count_append]
  by_cases hb:b=j
  ·subst hb
   simp[h]
  ·have:¬ (b:Int)=(j:Int):=by omega
   simp[hb,this]
 ·rw[List.getElem?_eq_none (by simpa using hj)]
  rw[if_neg (by omega),List.getElem?_eq_none (by simpa using hj)]
theorem cntL_nil (n:Nat):cntL n []=List.replicate n 0:=by
 apply List.ext_getElem?
 intro j
 by_cases hj:j < n
 ·rw[cntL_get _ hj]; simp[hj]
 ·rw[List.getElem?_eq_none (by simpa using hj),List.getElem?_eq_none (by simpa using hj)]
theorem ord_bool {g:Gr} {k:Nat} (h:k < g.b.length):(reachN g)[k]? = some (decide (k∈ordN g)):=by
 rw[reachN_get h]
 simp[dgN]
theorem blks_take1 {L:List Nd} {i:Nat} {x:Nd} (h:L[i]? = some x):blks (L.take (i + 1))=blks (L.take i)++(if isBk x=true then [x.bk] else []):=by
 rw[List.take_add_one,h]
 unfold blks
 rw[List.filter_append,List.map_append]
 cases hb:isBk x<;>simp[hb]
def rchD (g:Gr):List (List D):=(reachN g).map fun b=>[.v (.bool b)]
theorem rchD_get {g:Gr} {k:Nat} (h:k < g.b.length):(rchD g)[k]? = some [.v (.bool (decide (k∈ordN g)))]:=by simp[rchD,ord_bool h]
@[simp] theorem rchD_len (g:Gr):(rchD g).length=g.b.length:=by simp[rchD]
theorem i64s_set (l:List Int) (i:Nat) (v:Int):dEls (i64s (l.set i v))=(dEls (i64s l)).set i [.d (.v (.int .i64 v))]:=by simp[dEls,i64s,List.map_set]
theorem zeros_i64 (n:Nat):List.replicate n [AV.d (.v (.int .i64 0))]=dEls (i64s (cntL n [])):=by
 rw[cntL_nil]
 simp[dEls,i64s]
set_option maxRecDepth 100000 in
set_option maxHeartbeats 0 in
theorem stcovers_af (g:Gr) (hg:GrFit g) (L:List Nd) (hL:L.length≤1000000) (hcl:∀ b∈g.b,1≤b.s.length):AF Tryz.prog 66 [.d (.sl 5 (Nd.ds L)),grV g] (aB (L.all (okB g) && (ordN g).all fun k=>decide ((blks L).count (k:Int)=1))):=by
 have hg1:=hg.1
 have hgl:g.b.length≤maxLen:=by unfold maxLen; omega
 have hl:L.length≤maxLen:=by unfold maxLen; omega
 have cr:=dmreach_af revOk g hg (edgOk g)
 rw[show ((reachN g).map fun b=>[D.v (.bool b)])=rchD g from rfl] at cr
 obtain⟨R,hR⟩:∃ R,(L.all (okB g) && (ordN g).all fun k=>decide ((blks L).count (k:Int)=1))=R:=⟨_,rfl⟩
 rw[hR]
 refine af_of Tryz.func66 rfl (by kernel_rfl) (by simp[Tryz.ntmps66]) fun _=>?_; simp[Tryz.f66,Ex.d_eq]
 refine aCall_of cr (by kernel_rfl) (by simp) ?_
 simp
 refine aRaw_make (kl:=.i64) (kc:=.i64) (l:=g.b.length) (c:=g.b.length) (z:=[.d (.v (.int .i64 0))]) byt_48 (by simp) (by simp) (by simp) (Nat.le_refl _) hgl (by omega) ?_
 rw[zeros_i64]
 simp
 refine aLoop_st (fun i:Nat=>[(3,.ptr 0 0 0 0),(5,.d (.sl 1 (rchD g))),(6,.own 1 0 0 g.b.length),(16,.d (.sl 5 (Nd.ds L))),(17,aI .i64 L.length),(18,aI .i64 i)])
  (fun i=>[gB g,⟨0,true,3,1,dEls (i64s (cntL g.b.length (blks (L.take i))))⟩])
  (fun i=>i≤L.length∧(L.take i).all (okB g)=true) (fun i=>L.length - i) 0 (Sub.refl _ _ _) 2 (by omega) (by simp[blks]) (by simp) ⟨by omega,by simp⟩ ?_
 rintro i ⟨hi,hall⟩ K hK
 have hbl:=blks_len (L.take i)
 rw[List.length_take] at hbl
 rcases Nat.lt_or_ge i L.length with hlt | hge
 case inl=>
  obtain⟨x,hx⟩:∃ x,L[i]? = some x:=⟨_,gEG hlt⟩
  have hx2:=(gSI.1 hx).2
  have hxm:=gMO hx
  have hbt:=blks_take1 hx
  have hnx:(L.take (i + 1)).all (okB g)=okB g x:=by
   rw[List.take_add_one,hx,List.all_append,hall]
   simp
  have hRx:okB g x=false→R=false:=fun h=>by
   rw[← hR,show L.all (okB g)=false by rw[List.all_eq_false]; exact⟨x,hxm,by simp[h]⟩]
   rfl
  by_cases hbk:isBk x=true
  case neg=>
   have hbk':isBk x=false:=by simpa using hbk
   have h2:¬ x.kd=2:=fun h=>by simp[isBk,h] at hbk
   have h5:¬ x.kd=5:=fun h=>by simp[isBk,h] at hbk
   have hok:okB g x=true:=by simp[okB,hbk']
   simp[hlt,hx,hx2,Nd.d_eq,h2,h5,succ_wrap hlt hl]
   refine hK (i + 1) ⟨by omega,by rw[hnx,hok]⟩ (by omega) (Sub.take 2 (by omega)) 2 (by omega) ?_ ?_
   ·rw[hbt,if_neg hbk,List.append_nil]
    simp
   ·simp
  have hkd:x.kd=2∨x.kd=5:=by simpa [isBk] using hbk
  have hkd2:¬ x.kd=2→x.kd=5:=fun h=>hkd.resolve_left h
  by_cases hlo:x.bk < 0
  ·have hno:okB g x=false:=by
    have:¬ x.bk∈nI (ordN g):=fun h=>by
     obtain⟨k,_,hk⟩:=nI_memE h
     omega
    simp[okB,hbk,this]
   have:=hRx hno
   subst this
   rcases hkd with h | h<;>simp[hlt,hx,hx2,Nd.d_eq,h,hlo]
  obtain⟨w,hw⟩:∃ w:Nat,x.bk=w:=⟨x.bk.toNat,by omega⟩
  have hnw:¬ (w:Int) < 0:=by omega
  by_cases hhi:g.b.length≤w
  ·have hno:okB g x=false:=by
    have:¬ x.bk∈nI (ordN g):=fun h=>by
     obtain⟨k,hk,hk2⟩:=nI_memE h
     have:=ordN_lt (edgOk g) k hk
     omega
    simp[okB,hbk,this]
   have:=hRx hno
   subst this
   rcases hkd with h | h<;>simp[hlt,hx,hx2,Nd.d_eq,h,hw,hnw,hhi]
  have hwl:w < g.b.length:=by omega
  have hrg:=rchD_get hwl
  have hrg2:=(gSI.1 hrg).2
  by_cases hin:w∈ordN g
  case neg=>
   have hno:okB g x=false:=by
    have:¬ x.bk∈nI (ordN g):=fun h=>by rw[hw] at h; exact hin (nI_memK.1 h)
    simp[okB,hbk,this]
   have:=hRx hno
   subst this
   rcases hkd with h | h<;>simp[hlt,hx,hx2,Nd.d_eq,h,hw,hnw,hhi,hwl,hrg,hrg2,hin]
  obtain⟨b,hb⟩:∃ b,g.b[w]? = some b:=⟨_,gEG hwl⟩
  have hb2:=(gSI.1 hb).2
  have hbl1:=hcl b (gMO hb)
  have hcg:=cntL_get (blks (L.take i)) hwl
  have hcle:(blks (L.take i)).count (w:Int)≤L.length:=by
   have:=List.count_le_length (a:=(w:Int)) (l:=blks (L.take i))
   omega
  have hadd:=cntL_add (blks (L.take i)) hwl
  have hm:(x.bk∈nI (ordN g)):=by rw[hw]; exact nI_memK.2 hin
  by_cases h5:x.kd=5∧1 < b.s.length
  ·have hno:okB g x=false:=by
    simp[okB,hbk,hm,h5.1,hw,hb]
    omega
   have:=hRx hno
   subst this
   have h51:(1:Int) < b.s.length:=by omega
   simp[hlt,hx,hx2,Nd.d_eq,h5.1,hw,hnw,hhi,hwl,hrg,hrg2,hin,hb,hb2,Bl.d_eq,h51]
  have hok:okB g x=true:=by
   have hm2:decide (x.bk∈nI (ordN g))=true:=decide_eq_true hm
   unfold okB
   rw[hm2,hw,Int.toNat_natCast,hb]
   by_cases h:x.kd=5
   ·have h1:b.s.length≤1:=by have:¬ 1 < b.s.length:=fun h1=>h5 ⟨h,h1⟩; omega
    simp[h,h1]
   ·simp[h]
  obtain⟨q,hq⟩:∃ q,(blks (L.take i)).count (w:Int)=q:=⟨_,rfl⟩
  rw[hq] at hcg hcle hadd
  have hcg2:=(gSI.1 hcg).2
  have hqw:IntKind.i64.wrap ((q:Int) + 1)=(q:Int) + 1:=i64w (by omega)
  rcases hkd with h | h
  case' inr=>
   have h51:¬ (1:Int) < b.s.length:=by have:¬ 1 < b.s.length:=fun h1=>h5 ⟨h,h1⟩; omega
   simp[hlt,hx,hx2,Nd.d_eq,h,hw,hnw,hhi,hwl,hrg,hrg2,hin,hb,hb2,Bl.d_eq,h51,hcg,hcg2,hqw,succ_wrap hlt hl]
  case' inl=>simp[hlt,hx,hx2,Nd.d_eq,h,hw,hnw,hhi,hwl,hrg,hrg2,hin,hb,hb2,Bl.d_eq,hcg,hcg2,hqw,succ_wrap hlt hl]
  all_goals
   refine hK (i + 1) ⟨by omega,by rw[hnx,hok]⟩ (by omega) (Sub.take 2 (by omega)) 2 (by omega) ?_ ?_
   ·rw[hbt,if_pos hbk,hw,← hadd]
    rw[i64s_set]
    simp[setEls]
   ·simp
 obtain rfl:i=L.length:=by omega
 rw[List.take_length] at hall hbl ⊢
 rw[hall,Bool.true_and] at hR
 obtain⟨C,hC⟩:∃ C,blks L=C:=⟨_,rfl⟩
 rw[hC] at hR ⊢
 simp
 refine aLoop_st (fun k:Nat=>[(6,.own 1 0 0 g.b.length),(70,.d (.sl 1 (rchD g))),(71,aI .i64 g.b.length),(72,aI .i64 k)])
  (fun k=>[gB g,⟨0,true,3,1,dEls (i64s (cntL g.b.length C))⟩])
  (fun k=>k≤g.b.length∧∀ j,j < k→j∈ordN g→C.count (j:Int)=1) (fun k=>g.b.length - k) 0 (Sub.refl _ _ _) 2 (by omega) (by simp) (by simp) ⟨by omega,fun j hj=>by omega⟩ ?_
 rintro k ⟨hk,hal2⟩ K2 hK2
 rcases Nat.lt_or_ge k g.b.length with hlt | hge
 case inr=>
  obtain rfl:k=g.b.length:=by omega
  have:R=true:=by
   rw[← hR,List.all_eq_true]
   exact fun j hj=>by simpa using hal2 j (ordN_lt (edgOk g) j hj) hj
  subst this
  simp
 have hrg:=rchD_get hlt
 have hrg2:=(gSI.1 hrg).2
 have hcg:=cntL_get C hlt
 by_cases hin:k∈ordN g
 case neg=>
  simp[hlt,hrg,hrg2,hin,succ_wrap hlt hgl]
  refine hK2 (k + 1) ⟨by omega,fun j hj hj2=>?_⟩ (by omega) (Sub.refl _ _ _) 2 (by omega) (by simp) (by simp)
  by_cases hjk:j=k
  ·subst hjk; exact absurd hj2 hin
  ·exact hal2 j (by omega) hj2
 by_cases h1:C.count (k:Int)=1
 ·have h1':((C.count (k:Int):Nat):Int)=1:=by omega
  rw[h1'] at hcg
  have hcg2:=(gSI.1 hcg).2
  simp[hlt,hrg,hrg2,hin,hcg,hcg2,succ_wrap hlt hgl]
  refine hK2 (k + 1) ⟨by omega,fun j hj hj2=>?_⟩ (by omega) (Sub.refl _ _ _) 2 (by omega) (by simp) (by simp)
  by_cases hjk:j=k
  ·subst hjk; exact h1
  ·exact hal2 j (by omega) hj2
 ·have hcg2:=(gSI.1 hcg).2
  have h1':¬ ((C.count (k:Int):Nat):Int)=1:=by omega
  have:R=false:=by
   rw[← hR,List.all_eq_false]
   exact⟨k,hin,by simpa using h1⟩
  subst this
  simp[hlt,hrg,hrg2,hin,hcg,hcg2,h1']
set_option maxRecDepth 100000 in
theorem stlabels_ac (n:Nd) (g:Gr) (hn:n.nodes≤1000000):AC Tryz.prog 68 [ndA n] [bxN n,gB g] (fun r A'=>r = .own 3 (labs n.pre).length 0 (labs n.pre).length∧A'=[bxN n,gB g,bxN n,nbk (labs n.pre).length (labs n.pre)]):=by
 have hl:n.pre.length≤maxLen:=by rw[Nd.pre_len]; unfold maxLen; omega
 have hl2:n.pre.length≤1000000:=by rw[Nd.pre_len]; exact hn
 have c1:=stall_af n hn
 obtain⟨L,hL⟩:∃ L,n.pre=L:=⟨_,rfl⟩
 rw[hL] at hl hl2 c1
 rw[hL]
 refine ac_of Tryz.func68 rfl (by kernel_rfl) (by simp[Tryz.ntmps68]) fun _=>?_
 simp[Tryz.f68]
 refine aCall_of c1 (by kernel_rfl) (by simp) ?_
 simp
 refine aLoop_st (fun k:Nat=>[(3,.own 3 (labs (L.take k)).length 0 (labs (L.take k)).length),(7,.d (.sl 5 (Nd.ds L))),(8,aI .i64 L.length),(9,aI .i64 k)])
  (fun k=>[bxN n,gB g,bxN n,⟨(labs (L.take k)).length,true,3,1,dEls (i64s (labs (L.take k)))⟩])
  (fun k=>k≤L.length) (fun k=>L.length - k) 0 ((Sub.ghost 0 3 1).trans (Sub.slot (s:=3) (c:=.own 3 0 0 0) (VLe.nil_own (k:=⟨0,true,3,1,[]⟩) (by simp) rfl))) 4 (by omega) (by simp[labs,Nd.d_eq]) (by simp[labs]) (by omega) ?_
 rintro k hk K hK
 have hlk:=labs_len (L.take k)
 rw[List.length_take] at hlk
 rcases Nat.lt_or_ge k L.length with hlt | hge
 case inl=>
  obtain⟨x,hx⟩:∃ x,L[k]? = some x:=⟨_,gEG hlt⟩
  have hx2:=(gSI.1 hx).2
  have hnx:labs (L.take (k + 1))=labs (L.take k)++(if x.kd=10 then [x.lb] else []):=by
   rw[List.take_add_one,hx]
   unfold labs
   rw[List.filter_append,List.map_append]
   by_cases h:x.kd=10<;>simp[h]
  simp[hlt,hx,hx2,Nd.d_eq]
  by_cases h10:x.kd=10
  ·simp[h10]
   refine aRaw_app byt_48 ?_
   simp
   refine⟨by unfold maxLen; omega,by omega,?_⟩
   simp[succ_wrap hlt hl]
   refine hK (k + 1) (by omega) (by omega) (Sub.take 4 (by omega)) 4 (by omega) ?_ ?_
   ·rw[hnx,if_pos h10]
    simp[Nd.d_eq]
   ·rw[hnx,if_pos h10]
    simp
  ·simp[h10,succ_wrap hlt hl]
   refine hK (k + 1) (by omega) (by omega) (Sub.take 4 (by omega)) 4 (by omega) ?_ ?_
   ·rw[hnx,if_neg h10]
    simp[Nd.d_eq]
   ·rw[hnx,if_neg h10]
    simp
 obtain rfl:k=L.length:=by omega
 rw[List.take_length]
 simp
abbrev lbC (m:Nat):Blk:=⟨0,true,48,1,[[.own 3 m 0 m]]⟩
theorem stcheck2o_ac (x:Nd) (L:List Int) (hl:L.length≤maxLen) (b0 b1 b2:Blk) (N:AHeap) :
 AC Tryz.prog 69 [ndA x,.ptr 4 0 0 0] ([b0,b1,b2,nbk L.length L,lbC L.length]++N) (Same0 [b0,b1,b2,nbk L.length L,lbC L.length] (aB (decide (x.kd=9) && !decide (x.lb∈L)))):=by
 refine ac_of Tryz.func69 rfl (by kernel_rfl) (by simp[Tryz.ntmps69]) fun _=>?_
 simp[Tryz.f69]
 by_cases h:x.kd=9
 ·simp[h]
  refine aCall_ofs (containsin_af L x.lb hl) (by kernel_rfl) (by simp) (by rfl) ?_
  simp[Same0]
 ·simp[h,Same0]
theorem clnO_ac {A:AHeap} {c ver:Nat} {cs:List Int} (hc:cs.length≤2000000) (hb:A[c]? = some (nbk ver cs)):AC Tryz.prog 73 [.own c ver 0 cs.length] A (fun r A'=>r = .own A.length 1 0 cs.length∧A'=A++[nbk 1 cs]):=by
 have hbl:=(gSI.1 hb).1
 refine AC.sub (R:=fun r A'=>(r = .own A.length 1 0 cs.length∧A'=A++[nbk 1 cs])∨(r = .d (.v (.slice none 0 0))∧cs=[]∧A'=A)) (ac_of Tryz.func73 rfl (by kernel_rfl) (by simp[Tryz.ntmps73]) fun hbd=>?_) ?_
 ·clear hbd
  have hcur:curB A c ver=some (nbk ver cs):=by simp[curB,hb]
  simp[Tryz.f73,hb]
  refine⟨by kernel_rfl,fun r hr=>?_⟩
  cases r with
  | true =>
    have:cs=[]:=by
     rcases hr rfl with h | h
     ·simpa using h
     ·rw[hcur] at h; cases h
    subst this
    simp
  | false =>
    simp
    refine aRaw_app byt_48 ?_
    have hall:∀ y∈dEls (i64s cs),y.length=1:=i64s_rows cs
    simp[gAL hbl,hb]
    rw[if_pos hall]
    refine⟨_,_,_,rfl,?_,?_,?_⟩
    ·unfold maxLen; omega
    ·omega
    ·simp
 ·rintro r A' (⟨rfl,rfl⟩ | ⟨rfl,rfl,rfl⟩)
  ·exact⟨_,_,Sub.refl _ _ _,rfl,rfl⟩
  ·refine⟨_,_,(Sub.ghost 1 3 1).trans (Sub.env (e':=fun _=>.own A'.length 1 0 0) fun i=>VLe.nil_own (k:=⟨1,true,3,1,[]⟩) (by simp) rfl),?_,?_⟩<;>simp
abbrev bxK (n:Nd):Blk:=⟨0,true,29,5,[[aI .i64 n.kd,aI .i64 n.bk,aI .i64 n.lb,.d (.sl 5 (Ex.ds n.cd)),.d (.sl 5 (Nd.ds n.l))]]⟩
theorem bxK_eq (n:Nd):bxN n=bxK n:=by simp[bxN,Nd.d_eq]
theorem nodes_of_pre {a:Nd}:∀ {n:Nd},a∈n.pre→a.nodes≤n.nodes:=by
 intro n
 induction n using Nd.ind with
 | h n ih=>
 intro h
 rw[Nd.pre_eq,Nd.pres_flat] at h
 rcases List.mem_cons.1 h with rfl | h
 ·exact Nat.le_refl _
 ·obtain⟨x,hx,hax⟩:=List.mem_flatMap.1 h
  have h1:=ih x hx hax
  have h2:=Nd.nodess_mem hx
  have h3:=n.nodes_eq
  omega
theorem gots_all (l:List Nd) (Q:List Int):(l.any fun x=>decide (x.kd=9) && !decide (x.lb∈Q)) = !((gots l).all fun t=>decide (t∈Q)):=by
 unfold gots
 rw[List.all_map,List.all_filter]
 rw[List.any_eq_not_all_not]
 congr 2
 funext x
 by_cases h:x.kd=9<;>simp[h]
set_option maxRecDepth 100000 in
set_option maxHeartbeats 0 in
theorem stcheck_af (n:Nd) (g:Gr) (hg:GrFit g) (hn:n.nodes≤1000000):AF Tryz.prog 26 [ndA n,grV g] (aI .i64 (ckE g n)):=by
 have hl2:n.pre.length≤1000000:=by rw[Nd.pre_len]; exact hn
 have hLl:=labs_len n.pre
 have c1:=stall_af n hn
 obtain⟨R,hR⟩:∃ R,ckE g n=R:=⟨_,rfl⟩
 rw[hR]
 unfold ckE at hR
 refine af_of Tryz.func26 rfl (by kernel_rfl) (by simp[Tryz.ntmps26]) fun _=>?_; simp[Tryz.f26,Ex.d_eq]
 refine aCall_of (ilcheckg_af g hg) (by kernel_rfl) (by simp) ?_
 by_cases h0:grErr g=0
 case neg=>
  rw[if_pos h0] at hR
  subst hR
  simp[h0]
 rw[if_neg (by simpa using h0)] at hR
 simp[h0]
 refine aCall_of c1 (by kernel_rfl) (by simp[Nd.d_eq]) ?_
 simp
 have ca:=contains_nd_ac (f:=64) (fs:=[]) (cs:=[]) (p:=fun x=>!ndOk x) [bxK n,gB g] n.pre (by kernel_rfl) (fun a ha N=>by
  have:a.l.length≤1000000:=by
   have h1:=Nd.nodess_len a.l
   have h2:=a.nodes_eq
   have h3:a.nodes≤n.nodes:=nodes_of_pre ha
   omega
  have:=stcheck1_ac a this ([bxK n,gB g]++N)
  refine AC.mono (by simpa using this) ?_
  rintro r A' ⟨h1,M,h2⟩
  exact⟨h1,N++M,by rw[h2]; simp⟩)
 have hany:(n.pre.any fun x=>!ndOk x) = !(n.pre.all ndOk):=by simp[List.any_eq_not_all_not]
 rw[hany] at ca
 refine aCall_ofc ca.drop (by kernel_rfl) ?_
 rintro _ _ ⟨rfl,rfl⟩
 cases hok:n.pre.all ndOk with
 | false =>
   rw[if_pos hok] at hR
   subst hR
   simp
 | true=>
 rw[if_neg (by simp[hok])] at hR
 simp
 have cv:=stcovers_af g hg n.pre hl2 (fun b hb=>stmts_pos h0 hb)
 rw[cov_iff h0] at cv
 refine aCall_of cv (by kernel_rfl) (by simp) ?_
 cases hcv:cvrB g n with
 | false =>
   rw[if_pos hcv] at hR
   subst hR
   simp
 | true=>
 rw[if_neg (by simp[hcv])] at hR
 simp
 refine aCall_of (stinloops_af n false) (by kernel_rfl) (by simp[Nd.d_eq]) ?_
 cases hin:inlB n false with
 | false =>
   rw[if_pos hin] at hR
   subst hR
   simp
 | true=>
 rw[if_neg (by simp[hin])] at hR
 simp
 refine aCall_ofc (bxK_eq n ▸ stlabels_ac n g hn) (by kernel_rfl) ?_
 rintro _ _ ⟨rfl,rfl⟩
 obtain⟨Q,hQ⟩:∃ Q,labs n.pre=Q:=⟨_,rfl⟩
 rw[hQ] at hR hLl ⊢
 have hQl:Q.length≤maxLen:=by unfold maxLen; omega
 simp[setEls]
 have cb:=contains_nd_ac (f:=69) (fs:=[]) (cs:=[.ptr 4 0 0 0]) (p:=fun x=>decide (x.kd=9) && !decide (x.lb∈Q)) [bxK n,gB g,bxK n,nbk Q.length Q,lbC Q.length] n.pre (by kernel_rfl) (fun a ha N=>by
  refine AC.mono (stcheck2o_ac a Q hQl (bxK n) (gB g) (bxK n) N) ?_
  rintro r A' ⟨h1,M,h2⟩
  exact⟨h1,M,h2⟩)
 rw[gots_all] at cb
 refine aCall_ofc cb.drop (by kernel_rfl) ?_
 rintro _ _ ⟨rfl,rfl⟩
 cases hgt:(gots n.pre).all fun t=>decide (t∈Q) with
 | false =>
   rw[if_pos hgt] at hR
   subst hR
   simp
 | true=>
 rw[if_neg (by simp[hgt])] at hR
 simp
 refine aCall_ofc (sort_ac Q [bxK n,gB g,bxK n,nbk Q.length Q,lbC Q.length] 3 Q.length 3 (by simp) (by omega)) (by kernel_rfl) ?_
 rintro _ _ ⟨rfl,rfl⟩
 have hfc:=fold_compact Q
 have hcn:=compact_nodup Q
 have hsl:=srt_len Q
 obtain⟨S,hS⟩:∃ S,srt Q=S:=⟨_,rfl⟩
 rw[hS] at hfc hcn hsl
 obtain⟨M,hM⟩:∃ M,Lib.compact S=M:=⟨_,rfl⟩
 rw[hM] at hfc hcn
 rw[← hfc.1] at hfc
 have hMl:=hfc.2
 simp only[hS]
 simp
 have hcl:=clnO_ac (A:=[bxK n,gB g,bxK n,nbk Q.length S,lbC Q.length]) (c:=3) (ver:=Q.length) (cs:=S) (by omega) (by simp)
 rw[hsl] at hcl
 have hco:=compact_ac S M [bxK n,gB g,bxK n,nbk Q.length S,lbC Q.length,nbk 1 S] 5 1 3 (by simp) (by omega) hM (by omega)
 rw[hsl] at hco
 refine adrawR [.own 3 Q.length 0 Q.length,.own 5 1 0 Q.length,.own 5 1 0 M.length,aI .i64 M.length,.own 3 Q.length 0 Q.length,aI .i64 Q.length,aB (decide (M.length < Q.length))]
  [(0,[bxK n,gB g,bxK n,nbk Q.length S,lbC Q.length]),(2,[bxK n,gB g,bxK n,nbk Q.length S,lbC Q.length,nbk 1 S]),(6,[bxK n,gB g,bxK n,nbk Q.length S,lbC Q.length,nbk 1 (M++List.replicate (Q.length - M.length) 0)])]
  (by kernel_rfl) (by kernel_rfl) rfl rfl ?_ ?_
 ·simp only[rowsR,List.mem_cons,List.not_mem_nil,or_false,forall_eq_or_imp,forall_eq]
  refine⟨⟨?m0_0,nmy,nmy⟩,⟨?m1_0,nmy,nmy⟩,⟨nmy,?m2_2,nmy⟩,⟨nmy,nmy,?m3_6⟩,⟨?m4_0,?m4_2,?m4_6⟩,⟨?m5_0,?m5_2,?m5_6⟩,⟨nmy,nmy,?m6_6⟩,trivial⟩
  all_goals
   intro hmay
   clear hmay
   intro e' K' h A3 hA hk
   simp only[Op.operands,Call.operands] at h
   simp[still,heapM,putR,dvA] at h hA hk
   subst hA
   simp[h]
   try exact hk
  case m1_0=>
   refine aCall_ofc hcl (by simp) ?_
   rintro _ _ ⟨rfl,rfl⟩
   exact hk
  case m2_2=>
   refine aCall_ofc hco (by simp) ?_
   rintro _ _ ⟨rfl,rfl⟩
   exact hk
 simp[putR]
 by_cases hnd:Q.Nodup
 ·rw[if_pos hnd] at hR
  subst hR
  have h1:¬ M.length < Q.length:=fun h=>(hcn.1 h) hnd
  simp[h1]
 ·rw[if_neg hnd] at hR
  subst hR
  have h1:M.length < Q.length:=hcn.2 hnd
  simp[h1]
structure EmP (g:Gr) (names calls:List ByteArray) (ats:List Int):Prop where
 cl:calls.length=ats.length
 al:ats.length≤1000000
 bl:∀ b∈g.b,b.s.length≤1000∧1≤b.s.length∧∀ s∈b.s.dropLast,emOk names ats s
def ndP (g:Gr) (names:List ByteArray) (x:Nd):Prop:=ndOk x=true∧(∀ c∈x.cd,c.nodes≤100000000∧namedB names.length c=true)∧(isBk x=true→0≤x.bk∧x.bk < g.b.length)∧x.lb≤9223372036854775807
theorem emN_len {g:Gr} {names calls:List ByteArray} {ats:List Int} (hp:EmP g names calls ats):∀ e:Nd,(emN names calls ats g e).length≤1000 * e.nodes:=by
 intro e
 induction e using Nd.ind with
 | h e ih=>
 have hl:∀ l:List Nd,(∀ x∈l,x∈e.l)→(l.map (emN names calls ats g)).flatten.length≤1000 * Nd.nodess l:=by
  intro l
  induction l with
  | nil=>intro _; simp[Nd.nodess]
  | cons a l ihl =>
    intro h
    have h1:=ih a (h a (by simp))
    have h2:=ihl fun x hx=>h x (by simp[hx])
    simp only[List.map_cons,List.flatten_cons,List.length_append,Nd.nodess,Nat.mul_add]
    omega
 have h1:=hl e.l fun _ h=>h
 have h2:=e.nodes_eq
 rw[emN_eq]
 split
 ·omega
 split
 ·unfold emB
  split
  ·rename_i b hb
   have:=(hp.bl b (gMO hb)).1
   simp
   omega
  ·simp
 ·simp
  omega
theorem emN_le {g:Gr} {names calls:List ByteArray} {ats:List Int} (hp:EmP g names calls ats) (l:List Nd):(l.map (emN names calls ats g)).flatten.length≤1000 * Nd.nodess l:=by
 induction l with
 | nil=>simp[Nd.nodess]
 | cons a l ihl =>
   have h1:=emN_len hp a
   simp only[List.map_cons,List.flatten_cons,List.length_append,Nd.nodess,Nat.mul_add]
   omega
theorem nd_cd {e:Nd} (hok:ndOk e=true):e.cd.length=condN e.kd:=by
 unfold ndOk at hok
 simp only[Bool.and_eq_true] at hok
 exact of_decide_eq_true hok.1.1.1.1.1.2
theorem nd_kd {e:Nd} (hok:ndOk e=true):1≤e.kd∧e.kd≤12:=by
 unfold ndOk at hok
 simp only[Bool.and_eq_true] at hok
 exact⟨of_decide_eq_true hok.1.1.1.1.1.1.1,of_decide_eq_true hok.1.1.1.1.1.1.2⟩
theorem empart_af (g:Gr) (names calls:List ByteArray) (ats:List Int) (e x:Nd) (k:Nat) (hx:e.l[k]? = some x) (r:List Sx) (h:AF Tryz.prog 32 [.ip (emD g names calls ats),ndA x] (.d (.sl 7 (Sx.ds r)))) :
 AF Tryz.prog 81 [.ip (emD g names calls ats),ndA e,aI .i64 k] (.d (.sl 7 (Sx.ds r))):=by
 have hkl:=(gSI.1 hx).1
 have hx2:=(gSI.1 hx).2
 have hn:¬ e.l.length≤k:=by omega
 refine af_of Tryz.func81 rfl (by kernel_rfl) (by simp[Tryz.ntmps81]) fun _=>?_; simp[Tryz.f81,Ex.d_eq]
 simp[hn,hkl,hx,hx2,Nd.d_eq]
 refine aCall_of h (by kernel_rfl) (by simp[Nd.d_eq]) ?_
 simp
abbrev nCx (k:Int) (nm:ByteArray) (e l el cs:AV):Blk:=⟨0,true,71,7,[[aI .i64 k,aI .i64 0,aS nm,e,l,el,cs]]⟩
set_option maxRecDepth 100000 in
set_option maxHeartbeats 0 in
theorem emnode_af {g:Gr} {names calls:List ByteArray} {ats:List Int} (hp:EmP g names calls ats):∀ e:Nd,e.nodes≤1000→(∀ x∈e.pre,ndP g names x)→AF Tryz.prog 32 [.ip (emD g names calls ats),ndA e] (.d (.sl 7 (Sx.ds (emN names calls ats g e)))):=by
 intro e
 induction e using Nd.ind with
 | h e ih=>
 intro hn hall
 obtain⟨hok,hcd,hbk,hlb⟩:=hall e (Nd.mem_pre e)
 have hln:=Nd.nodess_len e.l
 have hne:=Nd.nodes_eq e
 have hl:e.l.length≤maxLen:=by unfold maxLen; omega
 have hcl:e.cd.length≤1000000:=by
  have hcn:=nd_cd hok
  unfold condN at hcn
  split at hcn<;>omega
 have hx:=emexprs_af g names calls ats e.cd hcl hcd
 have ihc:=fun (x:Nd) (hxm:x∈e.l)=>ih x hxm (by have:=Nd.nodess_mem hxm; omega) (fun y hy=>hall y (Nd.mem_pre_kid hxm hy))
 have hfl:=emN_le hp e.l
 obtain⟨F,hF⟩:∃ F,emN names calls ats g e=F:=⟨_,rfl⟩
 rw[hF]
 rw[emN_eq] at hF
 obtain⟨E,hE⟩:∃ E,e.cd.map (trE names)=E:=⟨_,rfl⟩
 rw[hE] at hF hx
 have h1:∀ k:Nat,k < e.l.length→∃ x,e.l[k]? = some x∧x∈e.l:=fun k hk=>⟨e.l[k],gEG hk,List.getElem_mem hk⟩
 have hkd:=nd_kd hok
 refine af_of Tryz.func32 rfl (by kernel_rfl) (by simp[Tryz.ntmps32]) fun _=>?_; simp[Tryz.f32,Ex.d_eq]
 refine aCall_of hx (by kernel_rfl) (by simp) ?_
 rcases (by omega:e.kd=1∨e.kd=2∨e.kd=3∨e.kd=4∨e.kd=5∨e.kd=6∨e.kd=7∨e.kd=8∨e.kd=9∨e.kd=10∨e.kd=11∨e.kd=12) with h | h | h | h | h | h | h | h | h | h | h | h
 ·-- a sequence
  rw[if_pos h] at hF
  subst hF
  have hFt:=fun (i:Nat) (x:Nd) (hx:e.l[i]? = some x)=>(flat_take (L:=e.l.map (emN names calls ats g)) (x:=emN names calls ats g x) (by simp[hx]):((e.l.map (emN names calls ats g)).take (i + 1)).flatten=_)
  have hFl:=flat_le (e.l.map (emN names calls ats g))
  have hF0:((e.l.map (emN names calls ats g)).take 0).flatten=[]:=rfl
  have hFn:((e.l.map (emN names calls ats g)).take e.l.length).flatten=(e.l.map (emN names calls ats g)).flatten:=by rw[List.take_of_length_le]; simp
  obtain⟨F,hF⟩:∃ F:Nat→List Sx,(fun i=>((e.l.map (emN names calls ats g)).take i).flatten)=F:=⟨_,rfl⟩
  replace hF:∀ i,((e.l.map (emN names calls ats g)).take i).flatten=F i:=fun i=>congrFun hF i
  obtain⟨G,hG⟩:∃ G,(e.l.map (emN names calls ats g)).flatten=G:=⟨_,rfl⟩
  simp only[hF] at hFl hFt hF0 hFn
  simp only[hG] at hFl hFn hfl
  rw[hG]
  simp[h]
  refine aLoop_st (fun i:Nat=>[(0,.ip (emD g names calls ats)),(3,.ptr 0 0 0 0),(6,.d (.sl 7 (Sx.ds (F i)))),(7,aI .i64 i)]) (fun _=>[bxK e,nCx 0 ⟨#[]⟩ (.d (.sl 5 (Cx.ds E))) nilV nilV nilV])
   (fun i=>i≤e.l.length) (fun i=>e.l.length - i) 0 (Sub.slot (s:=6) (c:=.d (.sl 7 [])) (VLe.nil_sl 7)) 2 (by omega) (by simp[h]) (by simp[hF0]) (by omega) ?_
  rintro i hi K hK
  rcases Nat.lt_or_ge i e.l.length with hlt | hge
  case inr=>
   obtain rfl:i=e.l.length:=by omega
   rw[hFn]
   simp
  obtain⟨x,hx,hxm⟩:=h1 i hlt
  have hx2:=(gSI.1 hx).2
  have hft:=hFt i x hx
  have hfl2:=hFl (i + 1)
  rw[hft,List.length_append] at hfl2
  have hnlt:¬ (e.l.length:Int)≤(i:Int):=by omega
  have cj:=emjoin_af [F i,emN names calls ats g x] (by simp) (by simp; omega)
  obtain⟨X,hX⟩:∃ X,emN names calls ats g x=X:=⟨_,rfl⟩
  have cx:=ihc x hxm
  rw[hX] at cx cj hft
  simp[hnlt,hlt,hx,hx2,Nd.d_eq]
  refine aCall_of cx (by kernel_rfl) (by simp) ?_
  simp
  refine aCall_ofz [2] cj (by kernel_rfl) (by simp[frz]) ?_
  simp[frz,succ_wrap hlt hl]
  refine hK (i + 1) (by omega) (by omega) (Sub.take 2 (by omega)) 2 (by omega) ?_ ?_
  ·simp
  ·rw[hft]; simp
 ·-- a block
  have hb:=hbk (by simp[isBk,h])
  obtain⟨w,hw⟩:∃ w:Nat,e.bk=w:=⟨e.bk.toNat,by omega⟩
  obtain⟨b,hbb⟩:∃ b,g.b[w]? = some b:=⟨_,gEG (by omega)⟩
  obtain⟨b1,b2,b3⟩:=hp.bl b (gMO hbb)
  have cb:=emblock_af g names calls ats hp.cl hp.al w b hbb (by omega) b2 b3
  rw[if_neg (by omega),if_pos h,hw] at hF
  rw[hF] at cb
  simp[h,hw]
  refine aCall_of cb (by kernel_rfl) (by simp) ?_
  simp
 ·-- an if
  have hl2:e.l.length=2:=by simp[ndOk,h] at hok; omega
  obtain⟨x,hx0,hxm⟩:=h1 0 (by omega)
  obtain⟨y,hy0,hym⟩:=h1 1 (by omega)
  have hel:e.l=[x,y]:=by
   apply List.ext_getElem?
   intro i
   match i with
   | 0=>simp[hx0]
   | 1=>simp[hy0]
   | i + 2=>rw[List.getElem?_eq_none (by omega)]; simp
  obtain⟨X,hX⟩:∃ X,emN names calls ats g x=X:=⟨_,rfl⟩
  obtain⟨Y,hY⟩:∃ Y,emN names calls ats g y=Y:=⟨_,rfl⟩
  have c0:=empart_af g names calls ats e x 0 hx0 X (hX ▸ ihc x hxm)
  have c1:=empart_af g names calls ats e y 1 hy0 Y (hY ▸ ihc y hym)
  simp[h,hel,kdV,hX,hY] at hF
  obtain⟨S0,hS0⟩:∃ S0,Sx.mk 6 0 ⟨#[]⟩ E X Y []=S0:=⟨_,rfl⟩
  rw[hS0] at hF
  simp[h]
  refine adraw [] (by kernel_rfl) (by kernel_rfl) (by kernel_rfl) (by kernel_rfl) ?_
  simp[h]
  refine adC_of c0 (by kernel_rfl) trivial (by simp) (by simp[h]) ?_
  simp[h]
  refine adC_of c1 (by kernel_rfl) trivial (by simp) (by simp[h]) ?_
  simp[h]
  have cj:=emjoin_af [[S0]] (by simp) (by simp)
  try simp[setEls]
  refine aCall_ofz [2,3] cj (by kernel_rfl) (by subst hS0; simp[frz,Sx.d_eq]) ?_
  subst hF
  simp
 ·-- a loop
  have hl2:e.l.length=1:=by simp[ndOk,h] at hok; omega
  obtain⟨x,hx0,hxm⟩:=h1 0 (by omega)
  obtain⟨X,hX⟩:∃ X,emN names calls ats g x=X:=⟨_,rfl⟩
  have c0:=empart_af g names calls ats e x 0 hx0 X (hX ▸ ihc x hxm)
  simp[h,hx0,kdV,hX] at hF
  obtain⟨S0,hS0⟩:∃ S0,Sx.mk 8 0 ⟨#[]⟩ E X [] []=S0:=⟨_,rfl⟩
  rw[hS0] at hF
  simp[h]
  refine aCall_of c0 (by kernel_rfl) (by simp[h]) ?_
  have cj:=emjoin_af [[S0]] (by simp) (by simp)
  try simp[setEls]
  refine aCall_ofz [2,3] cj (by kernel_rfl) (by subst hS0; simp[frz,Sx.d_eq]) ?_
  subst hF
  simp
 ·-- a while
  have hl2:e.l.length=1:=by simp[ndOk,h] at hok; omega
  obtain⟨x,hx0,hxm⟩:=h1 0 (by omega)
  obtain⟨X,hX⟩:∃ X,emN names calls ats g x=X:=⟨_,rfl⟩
  have c0:=empart_af g names calls ats e x 0 hx0 X (hX ▸ ihc x hxm)
  simp[h,hx0,kdV,hX] at hF
  obtain⟨S0,hS0⟩:∃ S0,Sx.mk 7 0 ⟨#[]⟩ E X [] []=S0:=⟨_,rfl⟩
  rw[hS0] at hF
  simp[h]
  refine aCall_of c0 (by kernel_rfl) (by simp[h]) ?_
  have cj:=emjoin_af [[S0]] (by simp) (by simp)
  try simp[setEls]
  refine aCall_ofz [2,3] cj (by kernel_rfl) (by subst hS0; simp[frz,Sx.d_eq]) ?_
  subst hF
  simp
 ·-- a switch
  have hFm:∀ i x,e.l[i]? = some x→(e.l.take (i + 1)).map (emN names calls ats g)=(e.l.take i).map (emN names calls ats g)++[emN names calls ats g x]:=fun i x hx=>by
   rw[List.take_add_one,hx]
   simp
  simp[h,kdV] at hF
  obtain⟨C,hC⟩:∃ C,e.l.map (emN names calls ats g)=C:=⟨_,rfl⟩
  rw[hC] at hF
  have hCl:C.length=e.l.length:=by rw[← hC]; simp
  obtain⟨S0,hS0⟩:∃ S0,Sx.mk 9 0 ⟨#[]⟩ E [] [] C=S0:=⟨_,rfl⟩
  rw[hS0] at hF
  simp[h]
  refine aLoop_st (fun i:Nat=>[(0,.ip (emD g names calls ats)),(3,.ptr 0 0 0 0),(5,.ptr 1 0 0 0),(72,aI .i64 e.l.length),(73,aI .i64 i)]) (fun i=>[bxK e,nCx 9 ⟨#[]⟩ (.d (.sl 5 (Cx.ds E))) nilV nilV (.own 2 i 0 i),⟨i,true,37,1,dEls (Sx.dss ((e.l.take i).map (emN names calls ats g)))⟩])
   (fun i=>i≤e.l.length) (fun i=>e.l.length - i) 0 ((Sub.ghost 0 37 1).trans (Sub.cell (b:=1) (i:=0) (o:=6) (c:=.d (.v (.slice none 0 0))) (c':=.own 2 0 0 0) (by simp[setEls]; rfl) rfl rfl (VLe.nil_own (k:=⟨0,true,37,1,[]⟩) (by simp) rfl))) 3 (by omega) (by simp[setEls,h]) (by simp) (by omega) ?_
  rintro i hi K hK
  rcases Nat.lt_or_ge i e.l.length with hlt | hge
  case inr=>
   obtain rfl:i=e.l.length:=by omega
   rw[List.take_length,hC]
   have hds:List.take e.l.length (Sx.dss C)=Sx.dss C:=List.take_of_length_le (by simp[hCl])
   have hdl:(dEls (Sx.dss C)).length=e.l.length:=by simp[hCl]
   have cj:=emjoin_af [[S0]] (by simp) (by simp)
   simp[setEls]
   refine aCall_ofz [2,3,4] cj (by kernel_rfl) (by subst hS0; simp[frz,Sx.d_eq,hds,hdl,hCl]) ?_
   subst hF
   simp
  obtain⟨x,hx,hxm⟩:=h1 i hlt
  have hft:=hFm i x hx
  obtain⟨X,hX⟩:∃ X,emN names calls ats g x=X:=⟨_,rfl⟩
  have c0:=empart_af g names calls ats e x i hx X (hX ▸ ihc x hxm)
  rw[hX] at hft
  have hmin:min i e.l.length=i:=by omega
  simp[hlt]
  refine adraw2 7 [] (by kernel_rfl) (by kernel_rfl) (by kernel_rfl) (by kernel_rfl) (by kernel_rfl) ?_
  simp[h]
  refine adC_of c0 (by kernel_rfl) trivial (by simp) (by simp[h]) ?_
  simp[hmin]
  refine aRaw_app byt_69 ?_
  simp[hmin]
  refine⟨by unfold maxLen; omega,by omega,?_⟩
  simp[succ_wrap hlt hl]
  refine hK (i + 1) (by omega) (by omega) (Sub.take 3 (by omega)) 3 (by omega) ?_ (by simp)
  rw[hft]
  simp[setEls]
 ·simp[h,kdV] at hF
  obtain⟨S0,hS0⟩:∃ S0,Sx.mk 10 0 ⟨#[]⟩ E [] [] []=S0:=⟨_,rfl⟩
  rw[hS0] at hF
  simp[h]
  have cj:=emjoin_af [[S0]] (by simp) (by simp)
  try simp[setEls]
  refine aCall_ofz [2,3] cj (by kernel_rfl) (by subst hS0; simp[frz,Sx.d_eq]) ?_
  subst hF
  simp
 ·simp[h,kdV] at hF
  obtain⟨S0,hS0⟩:∃ S0,Sx.mk 11 0 ⟨#[]⟩ E [] [] []=S0:=⟨_,rfl⟩
  rw[hS0] at hF
  simp[h]
  have cj:=emjoin_af [[S0]] (by simp) (by simp)
  try simp[setEls]
  refine aCall_ofz [2,3] cj (by kernel_rfl) (by subst hS0; simp[frz,Sx.d_eq]) ?_
  subst hF
  simp
 ·have hlo:0≤e.lb:=by simp[ndOk,h] at hok; omega
  have cl:=emlabel_af e.lb hlo hlb
  obtain⟨z,hz⟩:∃ z,labV e.lb=z:=⟨_,rfl⟩
  rw[hz] at cl
  simp[h,kdV,hz] at hF
  obtain⟨S0,hS0⟩:∃ S0,Sx.mk 12 0 z E [] [] []=S0:=⟨_,rfl⟩
  rw[hS0] at hF
  simp[h]
  refine aCall_of cl (by kernel_rfl) (by simp) ?_
  have cj:=emjoin_af [[S0]] (by simp) (by simp)
  try simp[setEls]
  refine aCall_ofz [2,3] cj (by kernel_rfl) (by subst hS0; simp[frz,Sx.d_eq]) ?_
  subst hF
  simp
 ·have hlo:0≤e.lb:=by simp[ndOk,h] at hok; omega
  have cl:=emlabel_af e.lb hlo hlb
  obtain⟨z,hz⟩:∃ z,labV e.lb=z:=⟨_,rfl⟩
  rw[hz] at cl
  simp[h,kdV,hz] at hF
  obtain⟨S0,hS0⟩:∃ S0,Sx.mk 13 0 z E [] [] []=S0:=⟨_,rfl⟩
  rw[hS0] at hF
  simp[h]
  refine aCall_of cl (by kernel_rfl) (by simp) ?_
  have cj:=emjoin_af [[S0]] (by simp) (by simp)
  try simp[setEls]
  refine aCall_ofz [2,3] cj (by kernel_rfl) (by subst hS0; simp[frz,Sx.d_eq]) ?_
  subst hF
  simp
 ·simp[h,kdV] at hF
  obtain⟨S0,hS0⟩:∃ S0,Sx.mk 14 0 ⟨#[]⟩ E [] [] []=S0:=⟨_,rfl⟩
  rw[hS0] at hF
  simp[h]
  have cj:=emjoin_af [[S0]] (by simp) (by simp)
  try simp[setEls]
  refine aCall_ofz [2,3] cj (by kernel_rfl) (by subst hS0; simp[frz,Sx.d_eq]) ?_
  subst hF
  simp
 ·simp[h,kdV] at hF
  obtain⟨S0,hS0⟩:∃ S0,Sx.mk 15 0 ⟨#[]⟩ E [] [] []=S0:=⟨_,rfl⟩
  rw[hS0] at hF
  simp[h]
  have cj:=emjoin_af [[S0]] (by simp) (by simp)
  try simp[setEls]
  refine aCall_ofz [2,3] cj (by kernel_rfl) (by subst hS0; simp[frz,Sx.d_eq]) ?_
  subst hF
  simp
def gvS (s:St):List Int:=(if s.op=1∨s.op=3 then [s.va] else [])++(s.e.map varsR).flatten
def gvB (b:Bl):List Int:=(b.s.map gvS).flatten
def gvL (g:Gr):List Int:=(g.b.map gvB).flatten
def gvars (g:Gr):List Int:=(gvL g).foldl insL []
theorem fl_take {α β:Type} (f:α→List β) {L:List α} {i:Nat} {x:α} (h:L[i]? = some x):((L.take (i + 1)).map f).flatten=((L.take i).map f).flatten++f x:=by
 rw[List.take_add_one,h]
 simp
theorem fl_le {α β:Type} (f:α→List β) (L:List α) (i:Nat):((L.take i).map f).flatten.length≤(L.map f).flatten.length:=by
 rw[List.map_take]
 exact flat_le _ i
set_option maxRecDepth 100000 in
set_option maxHeartbeats 0 in
theorem emvariables_af (g:Gr) (hg:GrFit g) (hn:∀ b∈g.b,∀ s∈b.s,∀ e∈s.e,e.nodes≤1000000) (hT:(gvL g).length≤100000000):AF Tryz.prog 27 [grV g] (.d (.sl 1 (i64s (gvars g)))):=by
 have hg1:=hg.1
 have hgl:g.b.length≤maxLen:=by unfold maxLen; omega
 have hFt:=fun (i:Nat) (x:Bl) (h:g.b[i]? = some x)=>fl_take gvB h
 have hFl:=fl_le gvB g.b
 have hFn:((g.b.take g.b.length).map gvB).flatten=gvL g:=by rw[List.take_length]; rfl
 have hF0:((g.b.take 0).map gvB).flatten=[]:=rfl
 obtain⟨F,hF⟩:∃ F:Nat→List Int,(fun i=>((g.b.take i).map gvB).flatten)=F:=⟨_,rfl⟩
 replace hF:∀ i,((g.b.take i).map gvB).flatten=F i:=fun i=>congrFun hF i
 rw[show (g.b.map gvB).flatten=gvL g from rfl] at hFl
 simp only[hF] at hFt hFl hFn hF0
 obtain⟨R,hR⟩:∃ R,gvars g=R:=⟨_,rfl⟩
 rw[hR]
 unfold gvars at hR
 obtain⟨V,hV⟩:∃ V,gvL g=V:=⟨_,rfl⟩
 rw[hV] at hR hT hFl hFn
 refine af_of Tryz.func27 rfl (by kernel_rfl) (by simp[Tryz.ntmps27]) fun _=>?_; simp[Tryz.f27,Ex.d_eq]
 refine aLoop_st (α:=Nat×Nat) (fun a=>[(3,.own 1 a.2 0 (F a.1).length),(11,.d (.sl 2 (bls' g.b))),(12,aI .i64 g.b.length),(13,aI .i64 a.1)]) (fun a=>[gB g,nbk a.2 (F a.1)])
  (fun a=>a.1≤g.b.length) (fun a=>g.b.length - a.1) (0,0) ((Sub.ghost 0 3 1).trans (Sub.slot (s:=3) (c:=.own 1 0 0 0) (VLe.nil_own (k:=⟨0,true,3,1,[]⟩) (by simp) rfl))) 2 (by omega) (by simp[hF0]) (by simp[hF0]) (by simp) ?_
 rintro⟨i,v⟩ hi K hK
 simp only at hi hK ⊢
 rcases Nat.lt_or_ge i g.b.length with hlt | hge
 case inr=>
  obtain rfl:i=g.b.length:=by omega
  rw[hFn]
  have hfc:=fold_compact V
  simp
  refine aCall_ofc (sort_ac V [gB g,nbk v V] 1 v 3 (by simp) (by omega)) (by kernel_rfl) ?_
  rintro _ _ ⟨rfl,rfl⟩
  have hsl:=srt_len V
  obtain⟨W,hW⟩:∃ W,srt V=W:=⟨_,rfl⟩
  rw[hW] at hfc hsl ⊢
  rw[hR] at hfc
  simp
  have hco:=compact_ac W R [gB g,nbk v W] 1 v 3 (by simp) (by omega) hfc.1 (by omega)
  rw[hsl] at hco
  refine aCall_ofc hco (by kernel_rfl) ?_
  rintro _ _ ⟨rfl,rfl⟩
  simp
 obtain⟨b,hb⟩:∃ b,g.b[i]? = some b:=⟨_,gEG hlt⟩
 have hb2:=(gSI.1 hb).2
 have hbm:=gMO hb
 obtain⟨f1,f2⟩:=hg.2 b hbm
 have hbl:b.s.length≤maxLen:=by unfold maxLen; omega
 have hFi:=hFl (i + 1)
 have hfti:=hFt i b hb
 rw[hfti,List.length_append] at hFi
 have hMt:=fun (k:Nat) (x:St) (h:b.s[k]? = some x)=>fl_take gvS h
 have hMl:=fl_le gvS b.s
 have hMn:((b.s.take b.s.length).map gvS).flatten=gvB b:=by rw[List.take_length]; rfl
 have hM0:((b.s.take 0).map gvS).flatten=[]:=rfl
 obtain⟨M,hM⟩:∃ M:Nat→List Int,(fun i=>((b.s.take i).map gvS).flatten)=M:=⟨_,rfl⟩
 replace hM:∀ i,((b.s.take i).map gvS).flatten=M i:=fun i=>congrFun hM i
 rw[show (b.s.map gvS).flatten=gvB b from rfl] at hMl
 simp only[hM] at hMt hMl hMn hM0
 obtain⟨P,hP⟩:∃ P,F i=P:=⟨_,rfl⟩
 rw[hP] at hfti hFi ⊢
 simp[hlt,hb,hb2,Bl.d_eq]
 refine aLoop_st (α:=Nat×Nat) (fun a=>[(3,.own 1 a.2 0 (P++M a.1).length),(11,.d (.sl 2 (bls' g.b))),(12,aI .i64 g.b.length),(13,aI .i64 i),(18,.d (.sl 8 (sts b.s))),(19,aI .i64 b.s.length),(20,aI .i64 a.1)]) (fun a=>[gB g,nbk a.2 (P++M a.1)])
  (fun a=>a.1≤b.s.length) (fun a=>b.s.length - a.1) (0,v) (Sub.take 2 (by omega)) 2 (by omega) (by simp[hM0]) (by simp[hM0]) (by simp) ?_
 rintro⟨k,v2⟩ hk K2 hK2
 simp only at hk hK2 ⊢
 rcases Nat.lt_or_ge k b.s.length with hlt2 | hge2
 case inr=>
  obtain rfl:k=b.s.length:=by omega
  rw[hMn]
  simp[succ_wrap hlt hgl]
  refine hK (i + 1,v2) (by simp only; omega) (by simp only; omega) (Sub.refl _ _ _) 2 (by omega) ?_ ?_
  ·simp[hfti]
  ·simp[hfti]
 obtain⟨s,hs⟩:∃ s,b.s[k]? = some s:=⟨_,gEG hlt2⟩
 have hs2:=(gSI.1 hs).2
 have hsm:=gMO hs
 obtain⟨f3,f4⟩:=f2 s hsm
 have hel:s.e.length≤maxLen:=by unfold maxLen; omega
 have hMk:=hMl (k + 1)
 have hftk:=hMt k s hs
 rw[hftk,List.length_append] at hMk
 have hEt:=fun (k:Nat) (x:Ex) (h:s.e[k]? = some x)=>fl_take varsR h
 have hEl:=fl_le varsR s.e
 have hEn:((s.e.take s.e.length).map varsR).flatten=(s.e.map varsR).flatten:=by rw[List.take_length]
 have hE0:((s.e.take 0).map varsR).flatten=[]:=rfl
 obtain⟨E,hE⟩:∃ E:Nat→List Int,(fun i=>((s.e.take i).map varsR).flatten)=E:=⟨_,rfl⟩
 replace hE:∀ i,((s.e.take i).map varsR).flatten=E i:=fun i=>congrFun hE i
 simp only[hE] at hEt hEl hEn hE0
 obtain⟨Q,hQ⟩:∃ Q,(if s.op=1∨s.op=3 then [s.va] else [])=Q:=⟨_,rfl⟩
 have hvs:gvS s=Q++(s.e.map varsR).flatten:=by rw[← hQ]; rfl
 rw[hvs,List.length_append] at hMk
 obtain⟨P2,hP2⟩:∃ P2,P++M k=P2:=⟨_,rfl⟩
 have hP2l:P2.length=P.length + (M k).length:=by rw[← hP2,List.length_append]
 have hnext:P2++Q++(s.e.map varsR).flatten=P++M (k + 1):=by rw[hftk,hvs,← hP2]; simp
 rw[hP2]
 have hQl:Q.length≤1:=by rw[← hQ]; split<;>simp
 by_cases h13:s.op=1∨s.op=3
 case' pos=>
  rw[if_pos h13] at hQ
  subst hQ
  rcases h13 with h13 | h13
  all_goals
   simp[hlt2,hs,hs2,St.d_eq,h13]
   refine aRaw_app byt_48 ?_
   simp
   refine⟨by unfold maxLen; simp at hMk; omega,by simp at hMk; omega,?_⟩
   try simp
   refine aLoop_st (α:=Nat×Nat) (fun a=>[(3,.own 1 a.2 0 (P2++[s.va]++E a.1).length),(11,.d (.sl 2 (bls' g.b))),(12,aI .i64 g.b.length),(13,aI .i64 i),(18,.d (.sl 8 (sts b.s))),(19,aI .i64 b.s.length),(20,aI .i64 k),(38,.d (.sl 5 (Ex.ds s.e))),(39,aI .i64 s.e.length),(40,aI .i64 a.1)]) (fun a=>[gB g,nbk a.2 (P2++[s.va]++E a.1)])
    (fun a=>a.1≤s.e.length) (fun a=>s.e.length - a.1) (0,v2 + 1) (Sub.take 2 (by omega)) 2 (by omega) (by simp[hE0]) (by simp[hE0]) (by simp) ?_
 case' neg=>
  rw[if_neg h13] at hQ
  subst hQ
  have g1:¬ s.op=1:=fun h=>h13 (.inl h)
  have g3:¬ s.op=3:=fun h=>h13 (.inr h)
  simp[hlt2,hs,hs2,St.d_eq,g1,g3]
  refine aLoop_st (α:=Nat×Nat) (fun a=>[(3,.own 1 a.2 0 (P2++[]++E a.1).length),(11,.d (.sl 2 (bls' g.b))),(12,aI .i64 g.b.length),(13,aI .i64 i),(18,.d (.sl 8 (sts b.s))),(19,aI .i64 b.s.length),(20,aI .i64 k),(38,.d (.sl 5 (Ex.ds s.e))),(39,aI .i64 s.e.length),(40,aI .i64 a.1)]) (fun a=>[gB g,nbk a.2 (P2++[]++E a.1)])
   (fun a=>a.1≤s.e.length) (fun a=>s.e.length - a.1) (0,v2) (Sub.take 2 (by omega)) 2 (by omega) (by simp[hE0]) (by simp[hE0]) (by simp) ?_
 all_goals
  simp only[List.length_cons,List.length_nil] at hMk
  rintro⟨j,v3⟩ hj K3 hK3
  simp only at hj hK3 ⊢
  rcases Nat.lt_or_ge j s.e.length with hlt3 | hge3
  case inr=>
   obtain rfl:j=s.e.length:=by omega
   rw[hEn,hnext]
   simp[succ_wrap hlt2 hbl]
   refine hK2 (k + 1,v3) (by simp only; omega) (by simp only; omega) (Sub.refl _ _ _) 2 (by omega) ?_ ?_
   ·simp
   ·simp
  obtain⟨y,hy⟩:∃ y,s.e[j]? = some y:=⟨_,gEG hlt3⟩
  have hy2:=(gSI.1 hy).2
  have hym:=gMO hy
  have hEj:=hEl (j + 1)
  have hftj:=hEt j y hy
  rw[hftj,List.length_append] at hEj
  have cy:=ilvars_af y (hn b hbm s hsm y hym)
  simp[hlt3,hy,hy2,Ex.d_eq]
  refine aCall_of cy (by kernel_rfl) (by simp) ?_
  simp
  refine aRaw_app byt_48 ?_
  simp
  rw[if_pos (i64s_rows _)]
  simp
  refine⟨by unfold maxLen; omega,by omega,?_⟩
  simp[succ_wrap hlt3 hel]
  refine hK3 (j + 1,v3 + 1) (by simp only; omega) (by simp only; omega) (Sub.take 2 (by omega)) 2 (by omega) ?_ ?_
  ·simp[hftj]
  ·simp[hftj,Nat.add_assoc]
   try omega
abbrev bxI (cs:List D):Blk:=⟨0,true,83,1,[[.ip cs]]⟩
theorem emnamed1_ac (g:Gr) (names calls:List ByteArray) (ats:List Int) (v:Int) {A:AHeap} (hA:A[0]? = some (bxI (emD g names calls ats))):AC Tryz.prog 74 [aI .i64 v,.ptr 0 0 0 0] A (Same0 A (aB (decide ((names.length:Int)≤v)))):=by
 have hM:∀ M,(A++M)[0]? = some (bxI (emD g names calls ats)):=fun M=>gAL (gSI.1 hA).1 ▸ hA
 refine ac_of Tryz.func74 rfl (by kernel_rfl) (by simp[Tryz.ntmps74]) fun hb=>?_
 simp[Tryz.f74,hA,hM,Same0]
theorem emnamed2_ac (g:Gr) (names calls:List ByteArray) (ats:List Int) (b1:Blk) (x:Nd) (N:AHeap) (r:Bool) (ih:AF Tryz.prog 28 [.ip (emD g names calls ats),ndA x] (aB r)) :
 AC Tryz.prog 75 [ndA x,.ptr 0 0 0 0] ([bxI (emD g names calls ats),b1]++N) (Same0 [bxI (emD g names calls ats),b1] (aB (!r))):=by
 refine ac_of Tryz.func75 rfl (by kernel_rfl) (by simp[Tryz.ntmps75]) fun hb=>?_
 simp[Tryz.f75]
 refine aCall_of ih (by kernel_rfl) (by simp) ?_
 simp[Same0]
set_option maxRecDepth 100000 in
set_option maxHeartbeats 0 in
theorem emnamed_af (g:Gr) (names calls:List ByteArray) (ats:List Int):∀ e:Nd,e.nodes≤1000000→(∀ x∈e.pre,x.cd.length≤1000000∧∀ c∈x.cd,c.nodes≤1000000∧formB c=true)→AF Tryz.prog 28 [.ip (emD g names calls ats),ndA e] (aB (e.pre.all (cdB names.length))):=by
 intro e
 induction e using Nd.ind with
 | h e ih=>
 intro hn hcd
 have hln:=Nd.nodess_len e.l
 have hne:=Nd.nodes_eq e
 have hl:e.l.length≤maxLen:=by unfold maxLen; omega
 obtain⟨hc1,hc2⟩:=hcd e (Nd.mem_pre e)
 have hcl:e.cd.length≤maxLen:=by unfold maxLen; omega
 have ihc:=fun (x:Nd) (hxm:x∈e.l)=>ih x hxm (by have:=Nd.nodess_mem hxm; omega) (fun y hy=>hcd y (Nd.mem_pre_kid hxm hy))
 obtain⟨R,hR⟩:∃ R,e.pre.all (cdB names.length)=R:=⟨_,rfl⟩
 rw[hR]
 rw[Nd.all_pre] at hR
 refine af_of Tryz.func28 rfl (by kernel_rfl) (by simp[Tryz.ntmps28]) fun _=>?_; simp[Tryz.f28,Ex.d_eq]
 refine aLoop_st (fun k:Nat=>[(2,.ptr 0 0 0 0),(3,.ptr 1 0 0 0),(8,.d (.sl 5 (Ex.ds e.cd))),(9,aI .i64 e.cd.length),(10,aI .i64 k)]) (fun _=>[bxI (emD g names calls ats),bxK e])
  (fun k=>k≤e.cd.length∧(e.cd.take k).all (namedB names.length)=true) (fun k=>e.cd.length - k) 0 (Sub.refl _ _ _) 2 (by omega) (by simp) (by simp) ⟨by omega,by simp⟩ ?_
 rintro k ⟨hk,hall⟩ K hK
 rcases Nat.lt_or_ge k e.cd.length with hlt | hge
 case inl=>
  obtain⟨y,hy⟩:∃ y,e.cd[k]? = some y:=⟨_,gEG hlt⟩
  have hy2:=(gSI.1 hy).2
  have hym:=gMO hy
  obtain⟨hyn,hyf⟩:=hc2 y hym
  have hv:=vars_named (m:=names.length) hyf
  simp[hlt,hy,hy2,Ex.d_eq]
  refine aCall_of (ilvars_af y hyn) (by kernel_rfl) (by simp) ?_
  simp
  have hC:=contains_in_ac (f:=74) (fs:=[]) (cs:=[.ptr 0 0 0 0]) (p:=fun v=>decide ((names.length:Int)≤v)) [bxI (emD g names calls ats),bxK e,⟨0,true,60,5,[[aI .i64 y.op,aI .u32 y.n,aI .i64 y.v,aI .i64 y.wd,.d (.sl 5 (Ex.ds y.l))]]⟩] (varsR y) (by simp) fun a _ N=>by
   refine AC.mono (emnamed1_ac g names calls ats a (A:=[bxI (emD g names calls ats),bxK e,⟨0,true,60,5,[[aI .i64 y.op,aI .u32 y.n,aI .i64 y.v,aI .i64 y.wd,.d (.sl 5 (Ex.ds y.l))]]⟩]++N) rfl) ?_
   rintro r A' ⟨h1,M,h2⟩
   exact⟨h1,N++M,by rw[h2]; simp⟩
  rw[hv] at hC
  refine aCall_ofc hC.drop (by simp) ?_
  rintro _ _ ⟨rfl,rfl⟩
  simp
  cases hm:namedB names.length y
  ·have:R=false:=by
    rw[← hR]
    have:cdB names.length e=false:=by
     unfold cdB
     rw[List.all_eq_false]
     exact⟨y,hym,by simp[hm]⟩
    rw[this]
    rfl
   subst this
   simp
  ·simp[succ_wrap hlt hcl]
   refine hK (k + 1) ⟨by omega,?_⟩ (by omega) (Sub.take 2 (by omega)) 2 (by omega) (by simp) (by simp)
   rw[List.take_add_one,hy,List.all_append,hall]
   simp[hm]
 obtain rfl:k=e.cd.length:=by omega
 rw[List.take_length] at hall
 rw[show cdB names.length e=true from hall,Bool.true_and] at hR
 have ca:=contains_nd_ac (f:=75) (fs:=[]) (cs:=[.ptr 0 0 0 0]) (p:=fun x=>!(x.pre.all (cdB names.length))) [bxI (emD g names calls ats),bxK e] e.l (by kernel_rfl) (fun a ha N=>emnamed2_ac g names calls ats (bxK e) a N _ (ihc a ha))
 have hany:(e.l.any fun x=>!(x.pre.all (cdB names.length))) = !(e.l.all fun x=>x.pre.all (cdB names.length)):=by simp[List.any_eq_not_all_not]
 rw[hany,hR] at ca
 simp
 refine aCall_ofc ca.drop (by kernel_rfl) ?_
 rintro _ _ ⟨rfl,rfl⟩
 simp
theorem emFunc1_ac (s:St) (ats:List Int) (ha:ats.length≤maxLen) {A:AHeap} {q:Nat} (hA:A[q]? = some ⟨0,true,31,1,[[.d (.sl 1 (u32L ats))]]⟩) :
 AC Tryz.prog 30 [stV s,.ptr q 0 0 0] A (Same0 A (aB (decide (s.op=5) && !decide (s.tg∈ats)))):=by
 have hM:∀ M,(A++M)[q]? = some ⟨0,true,31,1,[[.d (.sl 1 (u32L ats))]]⟩:=fun M=>gAL (gSI.1 hA).1 ▸ hA
 refine ac_of Tryz.func30 rfl (by kernel_rfl) (by simp[Tryz.ntmps30]) fun hb=>?_
 simp[Tryz.f30]
 by_cases h:s.op=5
 ·simp[h,hM]
  refine aCall_of (containsu32_af ats s.tg ha) (by kernel_rfl) (by simp) ?_
  simp[Same0]
 ·simp[h,Same0]
structure Fn' where
 nm:ByteArray
 vs:List ByteArray
 bd:List Sx
def fn0:Fn':=⟨⟨#[]⟩,[],[]⟩
def vrs (l:List ByteArray):List (List D):=l.map varD
@[simp] theorem vrs_len (l:List ByteArray):(vrs l).length=l.length:=by simp[vrs]
@[simp] theorem vrs_nil:vrs []=[]:=rfl
@[simp] def fnV (f:Fn'):AV:=.agg [aS f.nm,.d (.sl 6 (vrs f.vs)),.d (.sl 7 (Sx.ds f.bd))]
def knS (m:Nat) (ats:List Int) (s:St):Bool:=(!decide (s.op=1∨s.op=3) || (decide (0≤s.va) && decide (s.va < m))) && s.e.all (namedB m) && (!decide (s.op=5) || decide (s.tg∈ats))
def knG (m:Nat) (ats:List Int) (g:Gr):Bool:=g.b.all fun b=>b.s.all (knS m ats)
def big12 (v:Int):Bool:=decide (12≤v)
def fnVars (names:List ByteArray) (g:Gr):List ByteArray:=((gvars g).filter big12).map (nameV names)
def fnR (g:Gr) (n:Nd) (name:ByteArray) (names calls:List ByteArray) (ats:List Int):Fn'×Int:=
 if calls.length≠ats.length then (fn0,2) else if ckE g n≠0 then (fn0,ckE g n) else
 if (knG names.length ats g && n.pre.all (cdB names.length))=false then (fn0,17) else
 if 256 < (fnVars names g).length then (fn0,6) else (⟨name,fnVars names g,emN names calls ats g n⟩,0)
theorem st_ok {s:St} (h:stErr s=0):exprsN s.op=s.e.length∧exsErr s.e=0∧fieldsB s=true:=by
 unfold stErr at h
 split at h
 ·split at h
  ·split at h
   ·exact⟨by assumption,by assumption,by assumption⟩
   ·omega
  ·exact absurd h (by assumption)
 ·omega
theorem st_va {s:St} (h:stErr s=0) (h1:s.op=1∨s.op=3):0≤s.va∧s.va < 65536:=by
 have:=(st_ok h).2.2
 unfold fieldsB at this
 simp only[Bool.and_eq_true] at this
 have h2:=this.1.1.1.1.1
 rcases h1 with h1 | h1<;>simp[h1] at h2<;>exact h2
theorem st_form {s:St} (h:stErr s=0):∀ e∈s.e,formB e=true:=fun e he=>exErr_zero (exsErr_mem (st_ok h).2.1 e he)
theorem st_op {s:St} (h:stErr s=0):1≤s.op∧s.op≤10:=by
 have:=(st_ok h).1
 unfold exprsN at this
 split at this
 ·omega
 split at this
 ·omega
 split at this
 ·omega
 ·omega
theorem flmap_mem {α β:Type} {f:α→List β} {L:List α} {v:β}:v∈(L.map f).flatten↔∃ x∈L,v∈f x:=by
 rw[List.mem_flatten]
 constructor
 ·rintro⟨l,hl,hv⟩
  obtain⟨x,hx,rfl⟩:=List.mem_map.1 hl
  exact⟨x,hx,hv⟩
 ·rintro⟨x,hx,hv⟩
  exact⟨f x,List.mem_map.2 ⟨x,hx,rfl⟩,hv⟩
theorem gvL_mem {g:Gr} {v:Int}:v∈gvL g↔∃ b∈g.b,∃ s∈b.s,v∈gvS s:=by
 unfold gvL
 rw[flmap_mem]
 unfold gvB
 constructor
 ·rintro⟨b,hb,hv⟩
  exact⟨b,hb,flmap_mem.1 hv⟩
 ·rintro⟨b,hb,hv⟩
  exact⟨b,hb,flmap_mem.2 hv⟩
theorem gvS_mem {s:St} {v:Int}:v∈gvS s↔((s.op=1∨s.op=3)∧v=s.va)∨∃ e∈s.e,v∈varsR e:=by
 unfold gvS
 rw[List.mem_append,flmap_mem]
 by_cases h:s.op=1∨s.op=3
 ·simp[h]
 ·simp[h]
theorem gvL_nn {g:Gr} (h:grErr g=0):∀ v∈gvL g,0≤v:=by
 intro v hv
 obtain⟨b,hb,s,hs,hv⟩:=gvL_mem.1 hv
 have hse:=stsErr_mem ((grErr_closed h).2.2 b hb) s hs
 rcases gvS_mem.1 hv with⟨h1,rfl⟩ | ⟨e,he,hv⟩
 ·exact (st_va hse h1).1
 ·exact form_occ e (st_form hse e he) v (varsR_mem.1 hv)
theorem knG_iff {g:Gr} (h:grErr g=0) (m:Nat) (ats:List Int):knG m ats g=(!((gvL g).any fun v=>decide ((m:Int)≤v)) && g.b.all fun b=>b.s.all fun s=>!(decide (s.op=5) && !decide (s.tg∈ats))):=by
 rw[Bool.eq_iff_iff]
 simp only[knG,knS,Bool.and_eq_true,List.all_eq_true,Bool.not_eq_true',List.any_eq_false,decide_eq_true_eq]
 constructor
 ·intro h1
  refine⟨fun v hv=>?_,fun b hb s hs=>?_⟩
  ·obtain⟨b,hb,s,hs,hv⟩:=gvL_mem.1 hv
   obtain⟨⟨k1,k2⟩,k3⟩:=h1 b hb s hs
   rcases gvS_mem.1 hv with⟨h1,rfl⟩ | ⟨e,he,hv⟩
   ·simp[h1] at k1
    simp
    omega
   ·have:=(named_occ m e).1 (k2 e he) v (varsR_mem.1 hv)
    simp
    omega
  ·obtain⟨⟨k1,k2⟩,k3⟩:=h1 b hb s hs
   by_cases h5:s.op=5
   ·simp[h5] at k3 ⊢
    exact k3
   ·simp[h5]
 ·rintro⟨h1,h2⟩ b hb s hs
  have hse:=stsErr_mem ((grErr_closed h).2.2 b hb) s hs
  have hin:∀ v∈gvS s,v < m:=fun v hv=>by
   have:=h1 v (gvL_mem.2 ⟨b,hb,s,hs,hv⟩)
   simp at this
   omega
  refine⟨⟨?_,fun e he=>?_⟩,?_⟩
  ·by_cases h13:s.op=1∨s.op=3
   ·have:=hin s.va (gvS_mem.2 (.inl ⟨h13,rfl⟩))
    have h0:=(st_va hse h13).1
    simp[h13]
    omega
   ·simp[h13]
  ·rw[named_occ]
   intro v hv
   exact⟨form_occ e (st_form hse e he) v hv,hin v (gvS_mem.2 (.inr ⟨e,he,varsR_mem.2 hv⟩))⟩
  ·have:=h2 b hb s hs
   by_cases h5:s.op=5
   ·simp[h5] at this ⊢
    exact this
   ·simp[h5]
theorem gv_last {g:Gr} (m:Nat):((gvL g).any fun v=>decide ((m:Int)≤v))=match (gvars g).getLast? with | some M=>decide ((m:Int)≤M) | none=>false:=by
 have hm:∀ v,v∈gvars g↔v∈gvL g:=fun v=>by unfold gvars; rw[fold_mem]; simp
 have ha:Asc (gvars g):=fold_asc (by simp[Asc])
 cases hl:(gvars g).getLast? with
 | none =>
   have h0:gvars g=[]:=List.getLast?_eq_none_iff.1 hl
   rw[List.any_eq_false]
   intro v hv
   have:=(hm v).2 hv
   rw[h0] at this
   cases this
 | some M =>
   obtain⟨h1,h2⟩:=asc_last ha hl
   rw[Bool.eq_iff_iff]
   simp only[List.any_eq_true,decide_eq_true_eq]
   constructor
   ·rintro⟨v,hv,hvm⟩
    have:=h2 v ((hm v).2 hv)
    omega
   ·intro h
    exact⟨M,(hm M).1 h1,h⟩
theorem emP_of {g:Gr} {names calls:List ByteArray} {ats:List Int} (h:grErr g=0) (hcl:calls.length=ats.length) (hal:ats.length≤1000000) (hb:∀ b∈g.b,b.s.length≤1000∧∀ s∈b.s,∀ e∈s.e,e.nodes≤1000000) (hk:knG names.length ats g=true):EmP g names calls ats:=by
 refine⟨hcl,hal,fun b hbm=>⟨(hb b hbm).1,stmts_pos h hbm,fun s hs=>?_⟩⟩
 have hsm:s∈b.s:=List.dropLast_subset _ hs
 have hse:=stsErr_mem ((grErr_closed h).2.2 b hbm) s hsm
 have hcb:=(grErr_closed h).2.1 b hbm
 have hks:=List.all_eq_true.1 (List.all_eq_true.1 hk b hbm) s hsm
 simp only[knS,Bool.and_eq_true,List.all_eq_true] at hks
 obtain⟨⟨k1,k2⟩,k3⟩:=hks
 obtain⟨o1,o10⟩:=st_op hse
 have hnt:termB s=false:=by
  unfold closedB at hcb
  split at hcb
  ·simp only[Bool.and_eq_true,Bool.not_eq_true',List.any_eq_false] at hcb
   have:=hcb.1.2 s (by rw[← List.dropLast_eq_take]; exact hs)
   simpa using this
  ·cases hcb
 have o5:s.op≤5:=by
  simp[termB] at hnt
  omega
 have hel:=(st_ok hse).1
 refine⟨o1,o5,?_,fun e he=>⟨by have:=(hb b hbm).2 s hsm e he; omega,k2 e he⟩,fun h13=>?_,fun h5=>?_⟩
 ·unfold exprsN at hel
  split at hel
  ·omega
  split at hel
  ·omega
  split at hel<;>omega
 ·simp[h13] at k1
  omega
 ·simp[h5] at k3
  exact k3
theorem ndP_of {g:Gr} {names:List ByteArray} {n:Nd} (h:ckE g n=0) (hc:∀ x∈n.pre,∀ c∈x.cd,c.nodes≤1000000) (hlb:∀ x∈n.pre,x.lb≤9223372036854775807) (hk:n.pre.all (cdB names.length)=true):grErr g=0∧∀ x∈n.pre,ndP g names x:=by
 unfold ckE at h
 split at h
 ·rename_i h1
  exact absurd h h1
 rename_i h0
 split at h
 ·omega
 rename_i h1
 split at h
 ·omega
 rename_i h2
 have h1:n.pre.all ndOk=true:=by simpa using h1
 have h2:cvrB g n=true:=by simpa using h2
 refine⟨by simpa using h0,fun x hx=>⟨List.all_eq_true.1 h1 x hx,fun c hc'=>⟨by have:=hc x hx c hc'; omega,List.all_eq_true.1 (List.all_eq_true.1 hk x hx) c hc'⟩,fun hb=>?_,hlb x hx⟩⟩
 unfold cvrB at h2
 simp only[Bool.and_eq_true,List.all_eq_true,decide_eq_true_eq] at h2
 obtain⟨k,hk,hkb⟩:=nI_memE (h2.1.1.1 _ (blks_mem hx hb))
 have:=ordN_lt (edgOk g) k hk
 omega
abbrev atB (ats:List Int):Blk:=⟨0,true,31,1,[[.d (.sl 1 (u32L ats))]]⟩
abbrev fzC (nm:ByteArray) (v b:AV):Blk:=⟨0,true,39,3,[[aS nm,v,b]]⟩
abbrev emX (w:Bool) (g:Gr) (names calls:List ByteArray) (ats:List Int):Blk:=⟨0,w,85,5,[[aI .u32 g.ad,.d (.sl 2 (bls' g.b)),.d (.sl 1 (strs names)),.d (.sl 1 (strs calls)),.d (.sl 1 (u32L ats))]]⟩
theorem emX_ac {f:Nat} {g:Gr} {names calls:List ByteArray} {ats:List Int} {n:Nd} {r:AV} {A:AHeap} {q:Nat} (w:Bool) (hq:A[q]? = some (emX w g names calls ats)) (h:AF Tryz.prog f [.ip (emD g names calls ats),ndA n] r) :
 AC Tryz.prog f [.ptr q 0 0 0,ndA n] A (fun r' A'=>r'=r∧A'=frz [q] A):=by
 refine AC.frz [q] (AC.argle (args':=[.ip (emD g names calls ats),ndA n]) (h.ac (by simp)) rfl fun i c c' hc hc'=>?_)
 match i with
 | 0 =>
   simp at hc hc'
   subst hc hc'
   exact VLe.ip (k:=emX false g names calls ats) (x:=[aI .u32 g.ad,.d (.sl 2 (bls' g.b)),.d (.sl 1 (strs names)),.d (.sl 1 (strs calls)),.d (.sl 1 (u32L ats))]) (by simp[frz,hq]) rfl rfl rfl rfl (show 85 < 1000000 by decide)
 | 1 =>
   simp at hc hc'
   subst hc hc'
   exact VLe.refl _
 | i + 2=>simp at hc
set_option maxRecDepth 100000 in
set_option maxHeartbeats 0 in
theorem emFunc_af (g:Gr) (n:Nd) (name:ByteArray) (names calls:List ByteArray) (ats:List Int) (hg:GrFit g) (hb:∀ b∈g.b,b.s.length≤1000∧∀ s∈b.s,∀ e∈s.e,e.nodes≤1000000) (hT:(gvL g).length≤100000000)
 (hn:n.nodes≤1000) (hcd:∀ x∈n.pre,x.cd.length≤1000000∧∀ c∈x.cd,c.nodes≤1000000) (hlb:∀ x∈n.pre,x.lb≤9223372036854775807) (hal:ats.length≤1000000) (hcl:calls.length≤1000000) (hnl:names.length≤1000000) :
 AF Tryz.prog 10 [grV g,ndA n,aS name,strA names,strA calls,.d (.sl 1 (u32L ats))] (.tup [fnV (fnR g n name names calls ats).1,aI .i64 (fnR g n name names calls ats).2]):=by
 have ham:ats.length≤maxLen:=by unfold maxLen; omega
 have hg1:=hg.1
 have hgl:g.b.length≤maxLen:=by unfold maxLen; omega
 obtain⟨R,hR⟩:∃ R,fnR g n name names calls ats=R:=⟨_,rfl⟩
 rw[hR]
 unfold fnR at hR
 refine af_of Tryz.func10 rfl (by kernel_rfl) (by simp[Tryz.ntmps10]) fun _=>?_; simp[Tryz.f10,Ex.d_eq]
 by_cases hlen:calls.length=ats.length
 case neg=>
  rw[if_pos hlen] at hR
  have hlen2:¬ (calls.length:Int)=ats.length:=by omega
  subst hR
  simp[hlen,hlen2,fn0,setEls]
 rw[if_neg (by simpa using hlen)] at hR
 have hck0:grErr g≠0→ckE g n=grErr g:=fun h=>by unfold ckE; rw[if_pos h]
 simp[hlen]
 refine aCall_of (ilcheckg_af g hg) (by kernel_rfl) (by simp) ?_
 by_cases h0:grErr g=0
 case neg=>
  rw[hck0 h0,if_pos h0] at hR
  subst hR
  simp[h0,fn0,setEls]
 simp[h0]
 refine aCall_of (stcheck_af n g hg (by omega)) (by kernel_rfl) (by simp) ?_
 by_cases hck:ckE g n=0
 case neg=>
  rw[if_pos hck] at hR
  subst hR
  simp[hck,fn0,setEls]
 rw[if_neg (by simpa using hck)] at hR
 simp[hck]
 refine aCall_of (emvariables_af g hg (fun b h s hs e he=>(hb b h).2 s hs e he) hT) (by kernel_rfl) (by simp) ?_
 have hck1:=ndP_of (names:=names) hck (fun x hx=>(hcd x hx).2) hlb
 have hok:n.pre.all ndOk=true:=by
  have h:=hck
  unfold ckE at h
  rw[if_neg (by simpa using h0)] at h
  split at h
  ·omega
  ·rename_i h1; simpa using h1
 have hnm:=emX_ac (A:=[gB g,bxK n,atB ats,fzC ⟨#[]⟩ nilV nilV,emX true g names calls ats]) (q:=4) true rfl (emnamed_af g names calls ats n (by omega) (fun x hx=>⟨(hcd x hx).1,fun c hc=>⟨(hcd x hx).2 c hc,by
  have:=List.all_eq_true.1 hok x hx
  unfold ndOk at this
  simp only[Bool.and_eq_true,List.all_eq_true] at this
  exact exErr_zero (of_decide_eq_true (this.2 c hc))⟩⟩))
 have hkn:=knG_iff h0 names.length ats
 have hgv:=gv_last (g:=g) names.length
 rw[hgv] at hkn
 obtain⟨V,hV⟩:∃ V,gvars g=V:=⟨_,rfl⟩
 have hVl:V.length≤100000000:=by
  have:=fold_len (gvL g) []
  rw[← hV]
  unfold gvars
  simp at this
  omega
 have hVm:V.length≤maxLen:=by unfold maxLen; omega
 have hfv:fnVars names g=(V.filter big12).map (nameV names):=by unfold fnVars; rw[hV]
 rw[hfv] at hR
 rw[hV] at hkn ⊢
 have hbig:∀ (M:Int),V.getLast? = some M→(names.length:Int)≤M→R=(fn0,17):=fun M hM h=>by
  rw[hM] at hkn
  simp only[decide_eq_true h,Bool.not_true,Bool.false_and] at hkn
  rw[hkn,Bool.false_and,if_pos rfl] at hR
  exact hR.symm
 have hlow:(V=[]∨∃ M,V.getLast? = some M∧¬ (names.length:Int)≤M)→knG names.length ats g=g.b.all (fun b=>b.s.all fun s=>!(decide (s.op=5) && !decide (s.tg∈ats))):=fun h=>by
  rw[hkn]
  rcases h with h | ⟨M,h1,h2⟩
  ·rw[h]; rfl
  ·rw[h1]; simp only[decide_eq_false h2,Bool.not_false,Bool.true_and]
 have hvin:knG names.length ats g=true→∀ v∈V,0≤v∧v < names.length:=fun h v hv=>by
  have hm:v∈gvL g:=by
   rw[← hV] at hv
   unfold gvars at hv
   rw[fold_mem] at hv
   simpa using hv
  refine⟨gvL_nn h0 v hm,?_⟩
  have h2:=knG_iff h0 names.length ats
  rw[h] at h2
  have h3:=(Bool.and_eq_true_iff.1 h2.symm).1
  simp only[Bool.not_eq_true',List.any_eq_false] at h3
  have:=h3 v hm
  simp at this
  omega
 have hrest:V=[]∨(∃ k M,V.length=k + 1∧V[k]? = some M∧V.getLast? = some M∧(names.length:Int)≤M)∨(∃ k M,V.length=k + 1∧V[k]? = some M∧V.getLast? = some M∧¬ (names.length:Int)≤M):=by
  rcases Nat.eq_zero_or_pos V.length with h | h
  ·exact .inl (List.length_eq_zero_iff.1 h)
  ·obtain⟨M,h1,h2⟩:=last_get (l:=V) (n:=V.length - 1) (by omega)
   by_cases h3:(names.length:Int)≤M
   ·exact .inr (.inl ⟨V.length - 1,M,by omega,h1,h2,h3⟩)
   ·exact .inr (.inr ⟨V.length - 1,M,by omega,h1,h2,h3⟩)
 rcases hrest with hVe | ⟨k,M,hk1,hk2,hk3,hk4⟩ | ⟨k,M,hk1,hk2,hk3,hk4⟩
 case inr.inl=>
  have hk5:=(gSI.1 hk2).2
  have:=hbig M hk3 hk4
  subst this
  simp[hk1,hk2,hk5,hk4,i64w (n:=(k:Int)) (by omega),show (0:Int) < (k:Int) + 1 by omega,fn0,setEls]
 case' inl=>
  have hlw:=hlow (.inl hVe)
  have hV0:V.length=0:=by rw[hVe]; rfl
  simp[hV0]
 case' inr.inr=>
  have hlw:=hlow (.inr ⟨M,hk3,hk4⟩)
  have hk5:=(gSI.1 hk2).2
  simp[hk1,hk2,hk5,hk4,i64w (n:=(k:Int)) (by omega),show (0:Int) < (k:Int) + 1 by omega]
 all_goals
  refine aCall_ofc hnm (by kernel_rfl) ?_
  rintro _ _ ⟨rfl,rfl⟩
  cases hcn:n.pre.all (cdB names.length) with
  | false =>
    rw[hcn,Bool.and_false,if_pos rfl] at hR
    subst hR
    simp[frz,fn0,setEls]
  | true=>
  rw[hcn,Bool.and_true] at hR
  simp[frz]
  refine aLoop_st (fun i:Nat=>[(2,aS name),(3,strA names),(6,.ptr 0 0 0 0),(7,.ptr 1 0 0 0),(11,.ptr 2 0 0 0),(12,.ptr 3 0 0 0),(16,.ptr 4 0 0 0),(17,.d (.sl 1 (i64s V))),(72,.d (.sl 2 (bls' g.b))),(73,aI .i64 g.b.length),(74,aI .i64 i)]) (fun _=>[gB g,bxK n,atB ats,fzC ⟨#[]⟩ nilV nilV,emX false g names calls ats])
   (fun i=>i≤g.b.length∧((g.b.take i).all fun b=>b.s.all fun s=>!(decide (s.op=5) && !decide (s.tg∈ats)))=true) (fun i=>g.b.length - i) 0 (Sub.refl _ _ _) 5 (by omega) (by simp) (by simp) ⟨by omega,by simp⟩ ?_
  rintro i ⟨hi,hall⟩ K hK
  rcases Nat.lt_or_ge i g.b.length with hlt | hge
  case inl=>
   obtain⟨b,hbi⟩:∃ b,g.b[i]? = some b:=⟨_,gEG hlt⟩
   have hb2:=(gSI.1 hbi).2
   have hbm:=gMO hbi
   simp[hlt,hbi,hb2,Bl.d_eq]
   have hC:=contains_st_ac (f:=30) (fs:=[]) (cs:=[.ptr 2 0 0 0]) (p:=fun s=>decide (s.op=5) && !decide (s.tg∈ats)) [gB g,bxK n,atB ats,fzC ⟨#[]⟩ nilV nilV,emX false g names calls ats,bB b] b.s (by kernel_rfl) fun a _ N=>by
    refine AC.mono (emFunc1_ac a ats ham (A:=[gB g,bxK n,atB ats,fzC ⟨#[]⟩ nilV nilV,emX false g names calls ats,bB b]++N) (q:=2) rfl) ?_
    rintro r A' ⟨h1,M,h2⟩
    exact⟨h1,N++M,by rw[h2]; simp⟩
   have hany:(b.s.any fun s=>decide (s.op=5) && !decide (s.tg∈ats)) = !(b.s.all fun s=>!(decide (s.op=5) && !decide (s.tg∈ats))):=by rw[List.any_eq_not_all_not]
   rw[hany] at hC
   refine aCall_ofc hC.drop (by kernel_rfl) ?_
   rintro _ _ ⟨rfl,rfl⟩
   cases hok1:(b.s.all fun s=>!(decide (s.op=5) && !decide (s.tg∈ats))) with
   | false =>
     have:knG names.length ats g=false:=by
      rw[hlw,List.all_eq_false]
      exact⟨b,hbm,Bool.eq_false_iff.1 hok1⟩
     rw[this,if_pos rfl] at hR
     subst hR
     simp[fn0,setEls]
   | true =>
     simp[succ_wrap hlt hgl]
     refine hK (i + 1) ⟨by omega,?_⟩ (by omega) (Sub.take 5 (by omega)) 5 (by omega) (by simp) (by simp)
     rw[List.take_add_one,hbi,List.all_append,hall]
     simp only[Option.toList,List.all_cons,hok1,List.all_nil,Bool.and_self]
  obtain rfl:i=g.b.length:=by omega
  rw[List.take_length] at hall
  rw[hall] at hlw
  rw[hlw] at hR
  rw[if_neg (by simp)] at hR
  have hvi:=hvin hlw
  have hep:EmP g names calls ats:=emP_of h0 hlen hal hb hlw
  have hnd:=emX_ac (A:=[gB g,bxK n,atB ats,fzC ⟨#[]⟩ nilV nilV,emX false g names calls ats,fzC name (.own 6 (fnVars names g).length 0 (fnVars names g).length) nilV,⟨(fnVars names g).length,true,68,6,dEls (vrs (fnVars names g))⟩]) (q:=4) false rfl (emnode_af hep n hn (hck1 hcn).2)
  rw[hfv] at hnd
  have hLt:=fun (i:Nat) (x:Int) (h:V[i]? = some x)=>(by rw[List.take_add_one,h]; by_cases h12:big12 x=true<;>simp[h12]:((V.take (i + 1)).filter big12).map (nameV names)=((V.take i).filter big12).map (nameV names)++if big12 x=true then [nameV names x] else [])
  have hLl:∀ i,(((V.take i).filter big12).map (nameV names)).length≤i:=fun i=>by
   rw[List.length_map]
   have:=List.length_filter_le big12 (V.take i)
   rw[List.length_take] at this
   omega
  have hL0:((V.take 0).filter big12).map (nameV names)=[]:=rfl
  have hLn:((V.take V.length).filter big12).map (nameV names)=(V.filter big12).map (nameV names):=by rw[List.take_length]
  obtain⟨L,hL⟩:∃ L:Nat→List ByteArray,(fun i=>((V.take i).filter big12).map (nameV names))=L:=⟨_,rfl⟩
  replace hL:∀ i,((V.take i).filter big12).map (nameV names)=L i:=fun i=>congrFun hL i
  simp only[hL] at hLt hLl hL0 hLn
  obtain⟨W,hW⟩:∃ W,(V.filter big12).map (nameV names)=W:=⟨_,rfl⟩
  rw[hW] at hLn hR hnd
  simp
  refine aLoop_st (fun i:Nat=>[(3,strA names),(7,.ptr 1 0 0 0),(12,.ptr 3 0 0 0),(16,.ptr 4 0 0 0),(20,.ptr 5 0 0 0),(86,.d (.sl 1 (i64s V))),(87,aI .i64 V.length),(88,aI .i64 i)]) (fun i=>[gB g,bxK n,atB ats,fzC ⟨#[]⟩ nilV nilV,emX false g names calls ats,fzC name (.own 6 (L i).length 0 (L i).length) nilV,⟨(L i).length,true,68,6,dEls (vrs (L i))⟩])
   (fun i=>i≤V.length) (fun i=>V.length - i) 0 ((Sub.ghost 0 68 6).trans (Sub.cell (b:=5) (i:=0) (o:=1) (c:=.d (.v (.slice none 0 0))) (c':=.own 6 0 0 0) (by simp[setEls]; rfl) rfl rfl (VLe.nil_own (k:=⟨0,true,68,6,[]⟩) (by simp) rfl))) 7 (by omega) (by simp[setEls,hL0]) (by simp) (by omega) ?_
  rintro i hi K2 hK2
  have hli:=hLl i
  rcases Nat.lt_or_ge i V.length with hlt2 | hge2
  case inl=>
   obtain⟨x,hx⟩:∃ x,V[i]? = some x:=⟨_,gEG hlt2⟩
   have hx2:=(gSI.1 hx).2
   have hxm:=gMO hx
   have hlt3:=hLt i x hx
   by_cases h12:12≤x
   ·obtain⟨w,hw,hwl,hwn⟩:=name_at (hvi x hxm).1 (hvi x hxm).2
    have hbg:big12 x=true:=by simpa [big12] using h12
    rw[if_pos hbg] at hlt3
    obtain⟨z,hz⟩:∃ z,nameV names x=z:=⟨_,rfl⟩
    rw[hz] at hwn hlt3
    have hwn2:=(gSI.1 hwn).2
    have h12w:(12:Int)≤(w:Int):=by omega
    have hxw:V[i]? = some (w:Int):=by rw[← hw]; exact hx
    have hxw2:=(gSI.1 hxw).2
    simp[hlt2,hxw,hxw2,h12w]
    refine adraw2 9 [] (by kernel_rfl) (by kernel_rfl) (by kernel_rfl) (by kernel_rfl) (by kernel_rfl) ?_
    simp[hwl,hwn,hwn2]
    refine aRaw_app byt_36 ?_
    simp
    refine⟨by unfold maxLen; omega,by omega,?_⟩
    simp[succ_wrap hlt2 hVm,setEls]
    refine hK2 (i + 1) (by omega) (by omega) (Sub.take 7 (by omega)) 7 (by omega) ?_ (by simp)
    rw[hlt3]
    simp[varD,vrs]
   ·have hbg:¬ big12 x=true:=by simpa [big12] using h12
    rw[if_neg hbg,List.append_nil] at hlt3
    simp[hlt2,hx,hx2,h12,succ_wrap hlt2 hVm]
    refine hK2 (i + 1) (by omega) (by omega) (Sub.refl _ _ _) 7 (by omega) ?_ (by simp)
    rw[hlt3]
    simp
  obtain rfl:i=V.length:=by omega
  rw[hLn]
  by_cases h256:256 < W.length
  ·rw[if_pos h256] at hR
   subst hR
   simp[h256,show (256:Int) < W.length by omega,fn0,setEls]
  rw[if_neg h256] at hR
  subst hR
  simp[h256,show ¬ (256:Int) < W.length by omega]
  refine aCall_ofc hnd (by kernel_rfl) ?_
  rintro _ _ ⟨rfl,rfl⟩
  have htk:List.take W.length (vrs W)=vrs W:=List.take_of_length_le (by simp)
  simp[frz,setEls,htk]
theorem fold_in {α:Type} {f:Int→α→Int} (hf:∀ (a:α) (n:Int),0≤n→n≤65536→n≤f n a∧f n a≤65536) {v:Int} {a:α} (ha:∀ n,0≤n→n≤65536→v < f n a):∀ (l:List α) (n:Int),a∈l→0≤n→n≤65536→v < l.foldl f n
 | [],n,h,_,_=>by cases h
 | b :: l, n, h, h0, h1 => by
   have h2:=hf b n h0 h1
   rw[List.foldl_cons]
   rcases List.mem_cons.1 h with rfl | h
   ·have:=ha n h0 h1
    have:=fold_mono hf l (f n a) (by omega) h2.2
    omega
   ·exact fold_in hf ha l (f n b) h (by omega) h2.2
theorem seeE_mono (e:Ex) (n:Int) (h0:0≤n) (h1:n≤65536):n≤seeE n e∧seeE n e≤65536:=by
 rw[seeE_occ]
 exact fold_mono (fun v n _ h=>seeI_mono h) (occ e) n h0 h1
theorem seeI_gt {n v:Int} (h:v≤65535) (h1:n≤65536):v < seeI n v:=by
 rw[seeI_max h1]
 omega
theorem gv_lt {g:Gr} {v:Int} (hv:v∈gvL g) (h:v≤65535):v < seeG g:=by
 obtain⟨b,hb,s,hs,hv⟩:=gvL_mem.1 hv
 refine fold_in (f:=seeB) (a:=b) (fun b n h0 h1=>fold_mono seeS_mono b.s n h0 h1) (fun n h0 h1=>fold_in (f:=seeS) (a:=s) seeS_mono (fun n h0 h1=>?_) b.s n hs h0 h1) g.b 12 hb (by omega) (by omega)
 unfold seeS
 rw[seeEs_fold]
 have hsv:=seeI_mono (n:=n) (v:=s.va) h1
 rcases gvS_mem.1 hv with⟨h13,rfl⟩ | ⟨e,he,hv⟩
 ·rw[if_pos h13]
  have h2:=seeI_gt h h1
  have:=fold_mono seeE_mono s.e (seeI n s.va) (by omega) hsv.2
  omega
 ·have hin:∀ n,0≤n→n≤65536→v < seeE n e:=fun n h0 h1=>by
   rw[seeE_occ]
   exact fold_in (f:=seeI) (a:=v) (fun v n _ h=>seeI_mono h) (fun n _ h1=>seeI_gt h h1) (occ e) n (varsR_mem.1 hv) h0 h1
  split
  ·exact fold_in seeE_mono hin s.e _ he (by omega) hsv.2
  ·exact fold_in seeE_mono hin s.e _ he h0 h1
def upV (g:Gr) (i:Nat):List Int:=((List.range i).map fun j:Nat=>(12:Int) + j).filter fun v=>decide (v∈gvL g)
theorem upV_all {g:Gr} {F:Nat} (hF:seeG g=12 + F) (hv:∀ v∈gvL g,v≤65535):upV g F=(gvars g).filter big12:=by
 have hm:∀ v,v∈gvars g↔v∈gvL g:=fun v=>by unfold gvars; rw[fold_mem]; simp
 have ha:Asc (gvars g):=fold_asc (by simp[Asc])
 refine asc_ext ?_ (List.Pairwise.filter _ ha) fun v=>?_
 ·refine List.Pairwise.filter _ ?_
  rw[List.pairwise_map]
  exact List.Pairwise.imp (fun h=>by omega) List.pairwise_lt_range
 ·unfold upV
  simp only[List.mem_filter,List.mem_map,List.mem_range,decide_eq_true_eq,big12,hm]
  constructor
  ·rintro⟨⟨j,hj,rfl⟩,h⟩
   exact⟨h,by omega⟩
  ·rintro⟨h,h12⟩
   have:=gv_lt h (hv v h)
   exact⟨⟨(v - 12).toNat,by omega,by omega⟩,h⟩
theorem bd_sx {L:List Sx} (h:BdS 7 (Sx.ds L)):∀ s∈L,s.e.length≤maxLen∧s.cs.length≤maxLen:=by
 induction L with
 | nil=>intro s hs; cases hs
 | cons a L ih =>
   simp only[Sx.ds_cons,BdS] at h
   intro s hs
   rcases List.mem_cons.1 hs with rfl | hs
   ·have h1:=h.2.1
    rw[Sx.d_eq] at h1
    simp only[BdE,BdD] at h1
    have e1:=h1.2.2.2.1.1
    have e2:=h1.2.2.2.2.2.2.1.1
    simp at e1 e2
    exact⟨e1,e2⟩
   ·exact ih h.2.2 s hs
theorem sx_nodes (s:Sx):s.nodes=Sx.nodess s.l + Sx.nodess s.el + Sx.nodesss s.cs + 1:=by cases s; rfl
theorem sx_mem {s:Sx}:∀ {L:List Sx},s∈L→s.nodes≤Sx.nodess L
 | a :: L, h => by
   simp only[Sx.nodess]
   rcases List.mem_cons.1 h with rfl | h
   ·omega
   ·have:=sx_mem h; omega
theorem sxs_mem {l:List Sx}:∀ {L:List (List Sx)},l∈L→Sx.nodess l≤Sx.nodesss L
 | a :: L, h => by
   simp only[Sx.nodesss]
   rcases List.mem_cons.1 h with rfl | h
   ·omega
   ·have:=sxs_mem h; omega
theorem gv_flat {α:Type} {f:α→List Int} {c:Nat}:∀ (l:List α),(∀ x∈l,(f x).length≤c)→(l.map f).flatten.length≤l.length * c
 | [],_=>by simp
 | a :: l, h => by
   have h1:=h a (by simp)
   have h2:=gv_flat l fun x hx=>h x (by simp[hx])
   simp only[List.map_cons,List.flatten_cons,List.length_append,List.length_cons,Nat.add_mul,Nat.one_mul]
   omega
theorem light_gv {g:Gr} (h:lightG g=true):(gvL g).length≤100000000:=by
 simp only[lightG,lightB,lightS,Bool.and_eq_true,decide_eq_true_eq,List.all_eq_true] at h
 obtain⟨⟨h1,h2⟩,h3⟩:=h
 have hS:∀ b∈g.b,∀ s∈b.s,(gvS s).length≤262145:=fun b hb s hs=>by
  have:=(h2 b hb).2 s hs
  have he:=gv_flat (f:=varsR) (c:=65536) s.e fun e he=>by
   have h4:=shB_nodes 8 e (this.2 e he)
   have:=varsR_len e
   omega
  have hl:s.e.length * 65536≤4 * 65536:=Nat.mul_le_mul_right _ this.1.1.1
  unfold gvS
  rw[List.length_append]
  have:(if s.op=1∨s.op=3 then [s.va] else []).length≤1:=by split<;>simp
  omega
 have hB:∀ l:List Bl,(∀ b∈l,b∈g.b)→(l.map gvB).flatten.length≤stN l * 262145:=by
  intro l
  induction l with
  | nil=>intro _; simp[stN]
  | cons a l ih =>
    intro hm
    have h4:=ih fun b hb=>hm b (by simp[hb])
    have h5:=gv_flat (f:=gvS) (c:=262145) a.s fun s hs=>hS a (hm a (by simp)) s hs
    simp only[List.map_cons,List.flatten_cons,List.length_append,stN,Nat.add_mul]
    unfold gvB at h4 ⊢
    omega
 have:=hB g.b fun _ h=>h
 have h6:stN g.b * 262145≤100 * 262145:=Nat.mul_le_mul_right _ h3
 unfold gvL
 omega
end Go.Proofs.YtfnbhkbfelllgaaGreatDoor
