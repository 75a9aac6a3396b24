import Derived.Test.YtfnbhkbfelllgaaGreatDoorZP
import Derived.Test.YtfnbhkbfelllgaaGreatDoorZS
import Derived.Test.YtfnbhkbfelllgaaGreatDoorZV
import Derived.Test.YtfnbhkbfelllgaaGreatDoorAx
import Derived.Test.YtfnbhkbfelllgaaGreatDoorAn
set_option linter.all false
namespace Go.Proofs.YtfnbhkbfelllgaaGreatDoor
open Go.RowKit
inductive Cx where
 | mk (op n:Int) (nm:ByteArray) (wd:Int) (l:List Cx)
namespace Cx
def op:Cx→Int | mk o _ _ _ _=>o
def n:Cx→Int | mk _ n _ _ _=>n
def nm:Cx→ByteArray | mk _ _ v _ _=>v
def wd:Cx→Int | mk _ _ _ w _=>w
def l:Cx→List Cx | mk _ _ _ _ l=>l
@[simp] theorem op_mk (o n:Int) (v:ByteArray) (w:Int) (l:List Cx):(mk o n v w l).op=o:=rfl
@[simp] theorem n_mk (o n:Int) (v:ByteArray) (w:Int) (l:List Cx):(mk o n v w l).n=n:=rfl
@[simp] theorem nm_mk (o n:Int) (v:ByteArray) (w:Int) (l:List Cx):(mk o n v w l).nm=v:=rfl
@[simp] theorem wd_mk (o n:Int) (v:ByteArray) (w:Int) (l:List Cx):(mk o n v w l).wd=w:=rfl
@[simp] theorem l_mk (o n:Int) (v:ByteArray) (w:Int) (l:List Cx):(mk o n v w l).l=l:=rfl
mutual
def d:Cx→List D
 | mk o n v w l=>[.v (.int .i64 o),.v (.int .u32 n),.v (.string v),.v (.int .i64 w),.sl 5 (ds l)]
def ds:List Cx→List (List D)
 | []=>[]
 | e::l=>d e::ds l
end
@[simp] theorem ds_nil:ds []=[]:=rfl
@[simp] theorem ds_cons (e:Cx) (l:List Cx):ds (e::l)=d e::ds l:=rfl
theorem ds_map:∀ l,ds l=l.map d
 | []=>rfl
 | e::l=>by simp[ds_map l]
@[simp] theorem ds_len (l:List Cx):(ds l).length=l.length:=by simp[ds_map]
@[simp] theorem ds_get (l:List Cx) (i:Nat):(ds l)[i]? = (l[i]?).map d:=by simp[ds_map]
@[simp] theorem ds_at (l:List Cx) (i:Nat) (h:i < (ds l).length):(ds l)[i]=d (l[i]'(by simpa using h)):=by simp[ds_map]
@[simp] theorem ds_all (l:List Cx):(ds l).take l.length=ds l:=by simp[ds_map,← List.map_take]
theorem d_eq:∀ e:Cx,d e=[.v (.int .i64 e.op),.v (.int .u32 e.n),.v (.string e.nm),.v (.int .i64 e.wd),.sl 5 (ds e.l)]
 | mk _ _ _ _ _=>rfl
end Cx
@[simp] def cxA (e:Cx):AV:=.agg [aI .i64 e.op,aI .u32 e.n,aS e.nm,aI .i64 e.wd,.d (.sl 5 (Cx.ds e.l))]
def nameV (names:List ByteArray) (v:Int):ByteArray:=names.getD v.toNat ⟨#[]⟩
def trE (names:List ByteArray):Ex→Cx
 | .mk o n v w l=>.mk o n (if o=2 then nameV names v else ⟨#[]⟩) w (trEs names l)
where trEs (names:List ByteArray):List Ex→List Cx
 | []=>[]
 | e::l=>trE names e::trEs names l
theorem trEs_map (names:List ByteArray):∀ l,trE.trEs names l=l.map (trE names)
 | []=>rfl
 | e::l=>by simp[trE.trEs,trEs_map names l]
theorem trE_eq (names:List ByteArray) (e:Ex):trE names e = .mk e.op e.n (if e.op=2 then nameV names e.v else ⟨#[]⟩) e.wd (e.l.map (trE names)):=by
 obtain⟨o,n,v,w,l⟩:=e
 rw[trE,trEs_map]
 rfl
def namedB (m:Nat):Ex→Bool
 | .mk o _ v _ l=>!(decide (o=2) && (decide (v < 0) || decide ((m:Int)≤v))) && namedBs m l
where namedBs (m:Nat):List Ex→Bool
 | []=>true
 | e::l=>namedB m e && namedBs m l
theorem namedBs_all (m:Nat):∀ l,namedB.namedBs m l=l.all (namedB m)
 | []=>rfl
 | e::l=>by simp[namedB.namedBs,namedBs_all m l]
theorem namedB_eq (m:Nat) (e:Ex):namedB m e=(!(decide (e.op=2) && (decide (e.v < 0) || decide ((m:Int)≤e.v))) && e.l.all (namedB m)):=by
 obtain⟨o,n,v,w,l⟩:=e
 rw[namedB,namedBs_all]
 rfl
@[simp] theorem strs_len (l:List ByteArray):(strs l).length=l.length:=by simp[strs]
@[simp] theorem strs_at (l:List ByteArray) (i:Nat) (h:i < (strs l).length):(strs l)[i]=[.v (.string (l[i]'(by simpa using h)))]:=by simp[strs]
abbrev strA (names:List ByteArray):AV:=.d (.sl 1 (strs names))
abbrev cxZ:Blk:=⟨0,true,56,5,[[aI .i64 0,aI .u32 0,aS ⟨#[]⟩,aI .i64 0,.d (.v (.slice none 0 0))]]⟩
theorem named_child {m:Nat} {x y:Ex} (h:namedB m x=true) (hy:y∈x.l):namedB m y=true:=by
 rw[namedB_eq,Bool.and_eq_true,List.all_eq_true] at h
 exact h.2 y hy
theorem named_var {m:Nat} {x:Ex} (h:namedB m x=true) (ho:x.op=2):0≤x.v∧x.v < m:=by
 rw[namedB_eq,Bool.and_eq_true] at h
 have:=h.1
 simp[ho] at this
 omega
theorem emtranslate_af (names:List ByteArray):∀ (x:Ex),x.nodes≤100000000→namedB names.length x=true→AF Tryz.prog 51 [exA x,strA names] (cxA (trE names x)):=by
 intro x
 induction x using Ex.ind with
 | h x ih =>
   intro hn hnm
   have hlen:=x.nodes_len
   have n1:x.l.length≤maxLen:=by unfold maxLen; omega
   obtain⟨F,hF⟩:∃ F,trE names x=F:=⟨_,rfl⟩
   rw[hF]
   rw[trE_eq] at hF
   refine af_of Tryz.func51 rfl (by kernel_rfl) (by simp[Tryz.ntmps51]) fun _=>?_
   simp[Tryz.f51]
   by_cases h2:x.op=2
   case' pos=>
    obtain⟨v0,v1⟩:=named_var hnm h2
    obtain⟨w,hw⟩:∃ w:Nat,x.v=w:=⟨x.v.toNat,by omega⟩
    rw[hw] at v1
    have hwl:w < names.length:=by omega
    obtain⟨s,hs⟩:∃ s,names[w]? = some s:=⟨_,gEG hwl⟩
    have hs2:=(gSI.1 hs).2
    have hnv:nameV names x.v=s:=by
     unfold nameV
     rw[hw,List.getD_eq_getElem?_getD]
     simp[hs]
    rw[if_pos h2,hnv] at hF
    simp[h2,hw,hwl,hs,hs2]
   case' neg=>
    obtain⟨s,hs⟩:∃ s,s=(⟨#[]⟩:ByteArray):=⟨_,rfl⟩
    rw[if_neg h2,← hs] at hF
    simp[h2,← hs]
   all_goals
    refine aLoop_st (fun i:Nat=>[(1,strA names),(4,.ptr 1 0 0 0),(5,.ptr 2 0 0 0),(25,.d (.sl 5 (Ex.ds x.l))),(26,aI .i64 x.l.length),(27,aI .i64 i)])
     (fun i=>[bxE x,cxZ,⟨0,true,56,5,[[aI .i64 x.op,aI .u32 x.n,aS s,aI .i64 x.wd,.own 3 i 0 i]]⟩,⟨i,true,56,5,dEls (Cx.ds ((x.l.take i).map (trE names)))⟩])
     (fun i=>i≤x.l.length) (fun i=>x.l.length - i) 0 ((Sub.ghost 0 56 5).trans (Sub.cell (b:=2) (i:=0) (o:=4) (c:=.d (.v (.slice none 0 0))) (c':=.own 3 0 0 0) (by simp[setEls]; rfl) rfl rfl (VLe.nil_own (k:=⟨0,true,56,5,[]⟩) (by simp) rfl))) 4 (by omega) (by simp[setEls,h2, *]) (by simp) (by omega) ?_
    rintro i hi K hK
    rcases Nat.lt_or_ge i x.l.length with hlt | hge
    case inl=>
     obtain⟨y,hy⟩:∃ y,x.l[i]? = some y:=⟨_,gEG hlt⟩
     have hy2:=(gSI.1 hy).2
     have hym:=gMO hy
     have hmin:min i x.l.length=i:=by omega
     simp[hlt,hy,hy2,Ex.d_eq]
     refine adraw2 6 [] (by kernel_rfl) (by kernel_rfl) (by kernel_rfl) (by kernel_rfl) (by kernel_rfl) ?_
     simp[hlt,hy,hy2,Ex.d_eq]
     refine adC_of (ih y hym (by have:=Ex.nodes_mem hym; omega) (named_child hnm hym)) (by simp) trivial (by simp) (by simp) ?_
     simp[hmin]
     refine aRaw_app byt_54 ?_
     simp[hmin]
     refine⟨by unfold maxLen; omega,by omega,?_⟩
     simp[succ_wrap hlt n1]
     refine hK (i + 1) (by omega) (by omega) (Sub.take 4 (Nat.zero_le _)) 4 (by omega) ?_ (by simp)
     simp
     rw[List.take_add_one,List.getElem?_map,hy]
     simp[Cx.ds_map,dEls,Cx.d_eq,List.map_take]
    obtain rfl:i=x.l.length:=by omega
    rw[List.take_length]
    have nl:NLeS (List.take x.l.length (Cx.ds (List.map (trE names) x.l))) (Cx.ds (List.map (trE names) x.l)):=by
     rw[List.take_of_length_le (by simp)]; exact NLeS.refl _
    subst hF
    simp
    exact nl
theorem occs_memR (v:Int):∀ l:List Ex,v∈occ.occs l↔∃ x∈l,v∈occ x
 | []=>by simp[occ.occs]
 | a :: l => by
   rw[occ.occs,List.mem_append,occs_memR v l]
   simp
theorem named_occ (m:Nat):∀ e:Ex,namedB m e=true↔∀ v∈occ e,0≤v∧v < m:=by
 intro e
 induction e using Ex.ind with
 | h e ih =>
   rw[namedB_eq,occ_eq,Bool.and_eq_true,List.all_eq_true]
   constructor
   ·rintro⟨h1,h2⟩ v hv
    rcases List.mem_append.1 hv with hv | hv
    ·split at hv
     ·rename_i ho
      simp at hv
      subst hv
      simp[ho] at h1
      omega
     ·simp at hv
    ·obtain⟨x,hx,hvx⟩:=(occs_memR v e.l).1 hv
     exact (ih x hx).1 (h2 x hx) v hvx
   ·intro h
    refine⟨?_,fun x hx=>(ih x hx).2 fun v hv=>h v (List.mem_append.2 (.inr ((occs_memR v e.l).2 ⟨x,hx,hv⟩)))⟩
    by_cases ho:e.op=2
    ·have:=h e.v (by simp[ho])
     simp
     omega
    ·simp[ho]
theorem form_occ:∀ e:Ex,formB e=true→∀ v∈occ e,0≤v:=by
 intro e
 induction e using Ex.ind with
 | h e ih =>
   intro hf v hv
   rw[occ_eq] at hv
   rcases List.mem_append.1 hv with hv | hv
   ·split at hv
    ·rename_i ho
     simp at hv
     subst hv
     exact (form_var hf ho).2.1
    ·simp at hv
   ·obtain⟨x,hx,hvx⟩:=(occs_memR v e.l).1 hv
    exact ih x hx ((form_all hf).2 x hx) v hvx
theorem vars_named {m:Nat} {e:Ex} (hf:formB e=true):(varsR e).any (fun v=>decide ((m:Int)≤v)) = !namedB m e:=by
 rw[Bool.eq_iff_iff]
 simp only[List.any_eq_true,decide_eq_true_eq,Bool.not_eq_true',← Bool.not_eq_true,named_occ]
 constructor
 ·rintro⟨v,hv,h⟩ h2
  have:=h2 v (varsR_mem.1 hv)
  omega
 ·intro h
  refine Classical.byContradiction fun hn=>h fun v hv=>⟨form_occ e hf v hv,?_⟩
  have:¬ (m:Int)≤v:=fun hm=>hn ⟨v,varsR_mem.2 hv,hm⟩
  omega
theorem exErr_zero {e:Ex} (h:exErr e=0):formB e=true:=by
 unfold exErr at h
 split at h
 ·split at h
  ·assumption
  ·omega
 ·omega
def shB:Nat→Ex→Bool
 | 0,_=>false
 | n + 1,e=>decide (e.l.length≤3) && decide (e.v≤200) && e.l.all (shB n)
theorem shB_nodes:∀ (n:Nat) (e:Ex),shB n e=true→e.nodes≤4 ^ n
 | 0,e,h=>by simp[shB] at h
 | n + 1, e, h => by
   simp only[shB,Bool.and_eq_true,decide_eq_true_eq,List.all_eq_true] at h
   have hs:∀ l:List Ex,(∀ x∈l,x.nodes≤4 ^ n)→Ex.nodess l≤l.length * 4 ^ n:=by
    intro l
    induction l with
    | nil=>intro _; simp[Ex.nodess]
    | cons a l ih =>
      intro h
      have h1:=h a (by simp)
      have h2:=ih fun x hx=>h x (by simp[hx])
      simp only[Ex.nodess,List.length_cons,Nat.add_mul,Nat.one_mul]
      omega
   have h1:=hs e.l fun x hx=>shB_nodes n x (h.2 x hx)
   have h2:e.l.length * 4 ^ n≤3 * 4 ^ n:=Nat.mul_le_mul_right _ h.1.1
   have h3:0 < 4 ^ n:=Nat.pow_pos (by omega)
   rw[nodes_eq,Nat.pow_succ]
   omega
theorem l46shallow_af:∀ (n:Nat),n≤100→∀ (x:Ex),AF Tryz.prog 21 [exA x,aI .i64 n] (aB (shB n x)):=by
 intro n
 induction n with
 | zero =>
   intro _ x
   refine af_of Tryz.func21 rfl (by kernel_rfl) (by simp[Tryz.ntmps21]) fun _=>?_; simp[Tryz.f21,Ex.d_eq]
   simp[shB]
 | succ n ih =>
   intro hn x
   obtain⟨R,hR⟩:∃ R,shB (n + 1) x=R:=⟨_,rfl⟩
   rw[hR]
   simp only[shB] at hR
   refine af_of Tryz.func21 rfl (by kernel_rfl) (by simp[Tryz.ntmps21]) fun hb=>?_
   have n1:x.l.length≤maxLen:=by simpa using hb.1.2.2.2.2.1.1
   clear hb
   simp[Tryz.f21]
   by_cases h3:x.l.length≤3
   case neg=>
    simp[h3] at hR
    subst hR
    simp[show ¬ ((n:Int) + 1 < 1) by omega,show (3:Int) < x.l.length by omega]
   by_cases h200:x.v≤200
   case neg=>
    simp[h200] at hR
    subst hR
    simp[show ¬ ((n:Int) + 1 < 1) by omega,show ¬ (3:Int) < x.l.length by omega,show 200 < x.v by omega]
   simp[h3,h200] at hR
   simp[show ¬ ((n:Int) + 1 < 1) by omega,show ¬ (3:Int) < x.l.length by omega,show ¬ 200 < x.v by omega]
   refine aLoop_st (fun i:Nat=>[(1,aI .i64 ((n:Int) + 1)),(2,.ptr 0 0 0 0),(5,aI .i64 i)]) (fun _=>[bxE x]) (fun i=>i≤x.l.length∧(x.l.take i).all (shB n)=true) (fun i=>x.l.length - i) 0 (Sub.refl _ _ _) 1 (by omega) (by simp) (by simp) ⟨by omega,by simp⟩ ?_
   rintro i ⟨hi,hall⟩ K hK
   rcases Nat.lt_or_ge i x.l.length with hlt | hge
   case inr=>
    obtain rfl:i=x.l.length:=by omega
    rw[List.take_length,hR] at hall
    subst hall
    simp
   obtain⟨y,hy⟩:∃ y,x.l[i]? = some y:=⟨_,gEG hlt⟩
   have hy2:=(gSI.1 hy).2
   have hym:=gMO hy
   have ci:=ih (by omega) y
   simp[hlt,hy,hy2,Ex.d_eq,i64w (n:=(n:Int)) (by omega)]
   cases ho:shB n y<;>rw[ho] at ci
   ·have:R=false:=by rw[← hR,List.all_eq_false]; exact⟨y,hym,by simp[ho]⟩
    subst this
    refine aCall_of (ci) (by simp) (by simp[Ex.d_eq]) ?_; simp[Ex.d_eq]
   ·refine aCall_of (ci) (by simp) (by simp[Ex.d_eq]) ?_; simp[Ex.d_eq]
    simp[succ_wrap hlt n1]
    refine hK (i + 1) ⟨by omega,?_⟩ (by omega) (Sub.refl _ _ _) 1 (by omega) (by simp) (by simp)
    rw[List.take_add_one,hy,List.all_append,hall]
    simp[ho]
inductive Nd where
 | mk (kd bk lb:Int) (cd:List Ex) (l:List Nd)
namespace Nd
def kd:Nd→Int | mk k _ _ _ _=>k
def bk:Nd→Int | mk _ b _ _ _=>b
def lb:Nd→Int | mk _ _ b _ _=>b
def cd:Nd→List Ex | mk _ _ _ c _=>c
def l:Nd→List Nd | mk _ _ _ _ l=>l
@[simp] theorem kd_mk (k b n:Int) (c:List Ex) (l:List Nd):(mk k b n c l).kd=k:=rfl
@[simp] theorem bk_mk (k b n:Int) (c:List Ex) (l:List Nd):(mk k b n c l).bk=b:=rfl
@[simp] theorem lb_mk (k b n:Int) (c:List Ex) (l:List Nd):(mk k b n c l).lb=n:=rfl
@[simp] theorem cd_mk (k b n:Int) (c:List Ex) (l:List Nd):(mk k b n c l).cd=c:=rfl
@[simp] theorem l_mk (k b n:Int) (c:List Ex) (l:List Nd):(mk k b n c l).l=l:=rfl
mutual
def d:Nd→List D
 | mk k b n c l=>[.v (.int .i64 k),.v (.int .i64 b),.v (.int .i64 n),.sl 5 (Ex.ds c),.sl 5 (ds l)]
def ds:List Nd→List (List D)
 | []=>[]
 | e::l=>d e::ds l
end
@[simp] theorem ds_nil:ds []=[]:=rfl
@[simp] theorem ds_cons (e:Nd) (l:List Nd):ds (e::l)=d e::ds l:=rfl
theorem ds_map:∀ l,ds l=l.map d
 | []=>rfl
 | e::l=>by simp[ds_map l]
@[simp] theorem ds_len (l:List Nd):(ds l).length=l.length:=by simp[ds_map]
@[simp] theorem ds_get (l:List Nd) (i:Nat):(ds l)[i]? = (l[i]?).map d:=by simp[ds_map]
@[simp] theorem ds_at (l:List Nd) (i:Nat) (h:i < (ds l).length):(ds l)[i]=d (l[i]'(by simpa using h)):=by simp[ds_map]
@[simp] theorem ds_all (l:List Nd):(ds l).take l.length=ds l:=by simp[ds_map,← List.map_take]
theorem d_eq:∀ e:Nd,d e=[.v (.int .i64 e.kd),.v (.int .i64 e.bk),.v (.int .i64 e.lb),.sl 5 (Ex.ds e.cd),.sl 5 (ds e.l)]
 | mk _ _ _ _ _=>rfl
@[simp] theorem d_len (e:Nd):(d e).length=5:=by rw[d_eq]; rfl
theorem ind {p:Nd→Prop} (h:∀ e,(∀ x∈e.l,p x)→p e):∀ e,p e
 | .mk k b n c l=>h _ fun x hx=>Nd.ind h x
termination_by e=>SizeOf.sizeOf e
decreasing_by
 have h1:x∈l:=hx
 have:=List.sizeOf_lt_of_mem h1
 simp only[Nd.mk.sizeOf_spec]
 omega
mutual
def nodes:Nd→Nat
 | mk _ _ _ _ l=>nodess l + 1
def nodess:List Nd→Nat
 | []=>0
 | e::l=>nodes e + nodess l
end
mutual
def pre:Nd→List Nd
 | mk k b n c l=>mk k b n c l::pres l
def pres:List Nd→List Nd
 | []=>[]
 | e::l=>pre e++pres l
end
theorem nodes_eq (e:Nd):e.nodes=nodess e.l + 1:=by cases e; rfl
theorem pre_eq (e:Nd):e.pre=e::pres e.l:=by cases e; rfl
theorem nodes_pos (e:Nd):0 < e.nodes:=by rw[nodes_eq]; omega
theorem nodess_len:∀ (l:List Nd),l.length≤nodess l
 | []=>Nat.le_refl _
 | e :: l => by
   have:=nodess_len l
   have:=nodes_pos e
   simp only[nodess,List.length_cons]
   omega
theorem nodess_mem {x:Nd}:∀ {l:List Nd},x∈l→x.nodes≤nodess l
 | y :: l, h => by
   simp only[nodess]
   rcases List.mem_cons.1 h with rfl | h
   ·omega
   ·have:=nodess_mem h; omega
theorem pres_app:∀ (l m:List Nd),pres (l++m)=pres l++pres m
 | [],m=>rfl
 | e::l,m=>by simp[pres,pres_app l m]
theorem nodess_app:∀ (l m:List Nd),nodess (l++m)=nodess l + nodess m
 | [],m=>by simp[nodess]
 | e::l,m=>by simp only[List.cons_append,nodess,nodess_app l m]; omega
theorem pre_len:∀ e:Nd,e.pre.length=e.nodes:=by
 intro e
 induction e using Nd.ind with
 | h e ih =>
   rw[pre_eq,nodes_eq]
   simp only[List.length_cons]
   congr 1
   generalize e.l=l at ih
   induction l with
   | nil=>rfl
   | cons a l ihl =>
     simp only[pres,nodess,List.length_append]
     rw[ih a (by simp),ihl fun x hx=>ih x (by simp[hx])]
theorem pres_len (l:List Nd):(pres l).length=nodess l:=by
 induction l with
 | nil=>rfl
 | cons a l ih=>simp only[pres,nodess,List.length_append,pre_len,ih]
theorem pres_flat:∀ l:List Nd,pres l=l.flatMap pre
 | []=>rfl
 | e::l=>by simp[pres,pres_flat l]
theorem mem_pre (e:Nd):e∈e.pre:=by rw[pre_eq]; simp
theorem mem_pre_kid {e x y:Nd} (hx:x∈e.l) (hy:y∈x.pre):y∈e.pre:=by
 rw[pre_eq,pres_flat]
 simp only[List.mem_cons,List.mem_flatMap]
 exact .inr ⟨x,hx,hy⟩
theorem all_pre (p:Nd→Bool) (e:Nd):e.pre.all p=(p e && e.l.all fun x=>x.pre.all p):=by
 rw[pre_eq,pres_flat,List.all_cons,List.all_flatMap]
end Nd
@[simp] def ndA (e:Nd):AV:=.agg [aI .i64 e.kd,aI .i64 e.bk,aI .i64 e.lb,.d (.sl 5 (Ex.ds e.cd)),.d (.sl 5 (Nd.ds e.l))]
def condN (k:Int):Nat:=if k=3∨k=5∨k=6 then 1 else 0
def ndOk (e:Nd):Bool:=
 decide (1≤e.kd) && decide (e.kd≤12) && decide (e.cd.length=condN e.kd) &&
 (if e.kd=1 then true else if e.kd=3 then decide (e.l.length=2) else if e.kd=4∨e.kd=5 then decide (e.l.length=1) else if e.kd=6 then decide (1≤e.l.length) && decide (e.l.length≤64) else decide (e.l.length=0)) &&
 (decide (e.kd=2∨e.kd=5) || decide (e.bk=0)) && (decide (e.kd=9∨e.kd=10) || decide (e.lb=0)) && decide (0≤e.lb) && e.cd.all fun x=>decide (exErr x=0)
def isBk (e:Nd):Bool:=decide (e.kd=2∨e.kd=5)
def blks (l:List Nd):List Int:=(l.filter isBk).map Nd.bk
def labs (l:List Nd):List Int:=(l.filter fun e=>decide (e.kd=10)).map Nd.lb
def gots (l:List Nd):List Int:=(l.filter fun e=>decide (e.kd=9)).map Nd.lb
mutual
def inlB:Nd→Bool→Bool
 | .mk k _ _ _ l,i=>if (k=7∨k=8)∧i=false then false else inlBs l (i || decide (k=4) || decide (k=5))
def inlBs:List Nd→Bool→Bool
 | [],_=>true
 | x::l,i=>inlB x i && inlBs l i
end
theorem inlBs_all (i:Bool):∀ l,inlBs l i=l.all fun x=>inlB x i
 | []=>rfl
 | x::l=>by simp[inlBs,inlBs_all i l]
theorem inlB_eq (e:Nd) (i:Bool):inlB e i=if (e.kd=7∨e.kd=8)∧i=false then false else e.l.all fun x=>inlB x (i || decide (e.kd=4) || decide (e.kd=5)):=by
 obtain⟨k,b,n,c,l⟩:=e
 rw[inlB,inlBs_all]
 rfl
@[simp] theorem Nd.ds_app (l m:List Nd):Nd.ds (l++m)=Nd.ds l++Nd.ds m:=by simp[Nd.ds_map]
abbrev bxN (n:Nd):Blk:=⟨0,true,29,5,[n.d.map AV.d]⟩
theorem nodess_rev (l:List Nd):Nd.nodess l.reverse=Nd.nodess l:=by
 induction l with
 | nil=>rfl
 | cons a l ih=>simp only[List.reverse_cons,Nd.nodess_app,ih,Nd.nodess]; omega
theorem stall_af (n:Nd) (hn:n.nodes≤1000000):AF Tryz.prog 43 [ndA n] (.d (.sl 5 (Nd.ds n.pre))):=by
 obtain⟨F,hF⟩:∃ F,n.pre=F:=⟨_,rfl⟩
 have hFl:F.length=n.nodes:=by rw[← hF,Nd.pre_len]
 rw[hF]
 refine af_of Tryz.func43 rfl (by kernel_rfl) (by simp[Tryz.ntmps43]) fun _=>?_; simp[Tryz.f43,Ex.d_eq]
 refine aLoop_st (α:=List Nd×List Nd) (fun p=>[(3,.own 2 p.1.length 0 p.1.length),(4,.own 1 (p.1.length + p.2.length - 1) 0 p.2.length)])
  (fun p=>[bxN n,⟨p.1.length + p.2.length - 1,true,29,5,dEls (Nd.ds p.2)⟩,⟨p.1.length,true,29,5,dEls (Nd.ds p.1)⟩])
  (fun p=>p.1++Nd.pres p.2.reverse=F) (fun p=>Nd.nodess p.2) ([],[n])
  ((Sub.ghost 0 29 5).trans (Sub.slot (s:=3) (c:=.own 2 0 0 0) (by simp; exact VLe.nil_own (k:=⟨0,true,29,5,[]⟩) (by simp) rfl))) 3 (by omega) (by simp[dEls,Nd.d_eq]) (by simp) (by simp[Nd.pres,hF]) ?_
 rintro⟨O,R⟩ hI K hK
 simp only at hI
 have hlen:O.length + Nd.nodess R=F.length:=by rw[← hI,List.length_append,Nd.pres_len,nodess_rev]
 have hRl:=Nd.nodess_len R
 rcases List.eq_nil_or_concat R with rfl | ⟨R,x,rfl⟩
 ·obtain rfl:O=F:=by simpa [Nd.pres] using hI
  simp
 have hI2:(O++[x])++Nd.pres (R++x.l.reverse).reverse=F:=by
  rw[← hI]
  simp[Nd.pres,Nd.pre_eq,Nd.pres_app]
 simp only[List.concat_eq_append,Nd.nodess_app,Nd.nodess,List.length_append,List.length_cons,List.length_nil] at hlen hRl hK ⊢
 have hxn:=x.nodes_eq
 have hxl:=Nd.nodess_len x.l
 have hv:O.length + (R.length + 1) - 1=O.length + R.length:=by omega
 simp only[hv]
 have hx1:(dEls (Nd.ds (R++[x])))[R.length]? = some (x.d.map AV.d):=by simp[dEls,Nd.ds_map]
 have hlt0:(R.length:Int) < R.length + 1:=by omega
 have hlt1:(R.length:Int)≤R.length + 1:=by omega
 simp[hx1,hlt0,hlt1,i64w (n:=(R.length:Int)) (by omega),Nd.d_eq]
 refine aRaw_app byt_27 ?_
 simp
 refine⟨by unfold maxLen; omega,by omega,?_⟩
 have htk:∀ (L:List Nd) (z:List AV),(dEls (Nd.ds L)++[z]).take L.length=dEls (Nd.ds L):=fun L z=>List.take_left' (by simp[dEls])
 have hds:∀ L:List Nd,dEls (Nd.ds (L++[x]))=dEls (Nd.ds L)++[x.d.map AV.d]:=fun L=>by simp[dEls]
 by_cases h0:x.l=[]
 ·simp[h0]
  refine hK (O++[x],R) (by rw[← hI2,h0]; simp) (by simp only; omega) (Sub.trunc (b:=1) R.length rfl (show 29 < 1000000 by decide)) 3 (by omega) ?_ ?_
  ·simp[setEls,htk,hds,Nd.d_eq,h0]
  ·simp
 have hpos:0 < x.l.length:=List.length_pos_iff.2 h0
 simp[h0,i64w (n:=(x.l.length:Int) - 1) (by omega)]
 refine aLoop_st (α:=Nat) (fun j=>[(3,.own 2 (O.length + 1) 0 (O.length + 1)),(4,.own 1 (O.length + R.length + j) 0 (R.length + j)),(5,.ptr 3 0 0 0),(6,aI .i64 ((x.l.length:Int) - 1 - j))])
  (fun j=>[bxN n,⟨O.length + R.length + j,true,29,5,dEls (Nd.ds (R++x.l.reverse.take j))⟩,⟨O.length + 1,true,29,5,dEls (Nd.ds (O++[x]))⟩,bxN x]) (fun j=>j≤x.l.length) (fun j=>x.l.length - j) 0 (Sub.trunc (b:=1) R.length rfl (show 29 < 1000000 by decide)) 4 (by omega) (by simp[setEls,htk,hds,Nd.d_eq]) (by simp) (by omega) ?_
 rintro j hj K2 hK2
 rcases Nat.lt_or_ge j x.l.length with hlt | hge
 case inr=>
  obtain rfl:j=x.l.length:=by omega
  have hv2:(O++[x]).length + (R++x.l.reverse).length - 1=O.length + R.length + x.l.length:=by simp; omega
  have htkl:x.l.reverse.take x.l.length=x.l.reverse:=List.take_of_length_le (by simp)
  simp[show ¬ (x.l.length:Int)≤(x.l.length:Int) - 1 by omega]
  refine hK (O++[x],R++x.l.reverse) hI2 (by simp only[Nd.nodess_app,nodess_rev]; omega) (Sub.refl _ _ _) 3 (by omega) ?_ ?_
  ·simp only[hv2,htkl]
   simp
  ·simp only[hv2]
   simp
 obtain⟨y,hy⟩:∃ y,x.l[x.l.length - 1 - j]? = some y:=⟨_,gEG (by omega)⟩
 have hy2:=(gSI.1 hy).2
 obtain⟨q,hq⟩:∃ q,x.l.length - 1 - j=q:=⟨_,rfl⟩
 have hq2:(x.l.length:Int) - 1 - j=q:=by omega
 rw[hq] at hy
 simp only[hq] at hy2
 have htk2:x.l.reverse.take (j + 1)=x.l.reverse.take j++[y]:=by
  rw[List.take_add_one,List.getElem?_reverse (by omega),show x.l.length - 1 - j=q from hq,hy]
  rfl
 simp[hq2,hy,hy2,Nd.d_eq,show q < x.l.length by omega]
 have hmin:min j x.l.length=j:=by omega
 refine aRaw_app byt_27 ?_
 simp[hmin]
 refine⟨by unfold maxLen; omega,by omega,?_⟩
 simp[i64w (n:=(q:Int) - 1) (by omega)]
 refine hK2 (j + 1) (by omega) (by omega) (Sub.take 4 (by omega)) 4 (by omega) ?_ ?_
 ·simp[htk2,Nd.d_eq,Nat.add_assoc]
 ·simp[Nat.add_assoc]
  omega
@[simp] theorem bs_app (a b : List UInt8) : bs a ++ bs b = bs (a ++ b) := by
  apply ByteArray.ext
  simp
@[simp] theorem bs_size (l:List UInt8):(bs l).size=l.length:=by simp[ByteArray.size]
theorem sz_ok {α:Type} {x:Int} {a b:α} (h:x≤9223372036854775807):(if 9223372036854775807 < x then a else b)=b:=if_neg (by omega)
def nmS (n:Nat):List ByteArray:=(List.range n).map fun v:Nat=>bs (xVar (v:Int))
theorem nmS_len (n:Nat):(nmS n).length=n:=by simp[nmS]
theorem nmS_succ (n:Nat):nmS (n + 1)=nmS n++[bs (xVar (n:Int))]:=by simp[nmS,List.range_succ]
theorem nmS_12:nmS 12=[⟨#[114,48]⟩,⟨#[114,49]⟩,⟨#[114,50]⟩,⟨#[114,51]⟩,⟨#[114,52]⟩,⟨#[114,53]⟩,⟨#[114,54]⟩,⟨#[114,55]⟩,⟨#[102,122]⟩,⟨#[102,110]⟩,⟨#[102,99]⟩,⟨#[102,118]⟩]:=by decide +kernel
theorem xVar_t {v:Nat} (h:12≤v):xVar (v:Int)=116::Lib.decDigits v:=by
 unfold xVar
 rw[if_neg (by omega),if_neg (by omega),xInt_nat (by omega)]
 simp
theorem clnE_strs (m:Nat) (l:List ByteArray):clnE m (List.map ((fun x=>List.map AV.d x) ∘ fun x=>[D.v (.string x)]) l)=List.map ((fun x=>List.map AV.d x) ∘ fun x=>[D.v (.string x)]) l:=by
 simp[clnE]
def lightS (s:St):Bool:=decide (s.e.length≤4) && decide (s.cs.length≤16) && decide (s.va≤200) && s.e.all (shB 8)
def lightB (b:Bl):Bool:=decide (b.s.length≤100) && b.s.all lightS
def lightG (g:Gr):Bool:=decide (g.b.length≤20) && g.b.all lightB && decide (stN g.b≤100)
theorem lightG_fit {g:Gr} (h:lightG g=true):GrFit g∧(∀ b∈g.b,∀ s∈b.s,s.va≤200∧∀ e∈s.e,shB 8 e=true)∧g.b.length≤20:=by
 simp only[lightG,lightB,lightS,Bool.and_eq_true,decide_eq_true_eq,List.all_eq_true] at h
 obtain⟨⟨h1,h2⟩,h3⟩:=h
 refine⟨⟨by omega,fun b hb=>⟨by have:=(h2 b hb).1; omega,fun s hs=>?_⟩⟩,fun b hb s hs=>?_,h1⟩
 ·have:=(h2 b hb).2 s hs
  omega
 ·have:=(h2 b hb).2 s hs
  exact⟨this.1.2,this.2⟩
theorem l46light_af (g:Gr):AF Tryz.prog 7 [grV g] (aB (lightG g)):=by
 obtain⟨R,hR⟩:∃ R,lightG g=R:=⟨_,rfl⟩
 rw[hR]
 unfold lightG at hR
 refine af_of Tryz.func7 rfl (by kernel_rfl) (by simp[Tryz.ntmps7]) fun _=>?_; simp[Tryz.f7,Ex.d_eq]
 by_cases h20:g.b.length≤20
 case neg=>
  simp[h20] at hR
  subst hR
  simp[show (20:Int) < g.b.length by omega]
 have hgl:g.b.length≤maxLen:=by unfold maxLen; omega
 simp only[h20,decide_true,Bool.true_and] at hR
 simp[show ¬ (20:Int) < g.b.length by omega]
 refine aLoop_st (fun i:Nat=>[(1,.ptr 0 0 0 0),(3,aI .i64 (stN (g.b.take i))),(4,aI .i64 i)]) (fun _=>[gB g])
  (fun i=>i≤g.b.length∧(g.b.take i).all lightB=true) (fun i=>g.b.length - i) 0 (Sub.refl _ _ _) 1 (by omega) (by simp) (by simp[stN]) ⟨by omega,by simp⟩ ?_
 rintro i ⟨hi,hall⟩ K hK
 rcases Nat.lt_or_ge i g.b.length with hlt | hge
 case inr=>
  obtain rfl:i=g.b.length:=by omega
  rw[List.take_length] at hall ⊢
  rw[hall] at hR
  simp only[Bool.true_and] at hR
  rw[← hR]
  simp
  try omega
 obtain⟨b,hb⟩:∃ b,g.b[i]? = some b:=⟨_,gEG hlt⟩
 have hb2:=(gSI.1 hb).2
 have hbm:=gMO hb
 have hst:=stN_take hb
 have hstb:stN (g.b.take i)≤100 * i:=by
  have:∀ l:List Bl,l.all lightB=true→stN l≤100 * l.length:=by
   intro l
   induction l with
   | nil=>simp[stN]
   | cons a l ih =>
     intro h
     simp only[List.all_cons,Bool.and_eq_true,lightB,decide_eq_true_eq] at h
     have:=ih (by simpa [lightB] using h.2)
     simp only[stN,List.length_cons]
     omega
  have:=this _ hall
  simp at this
  omega
 have hbad:lightB b=false→R=false:=fun h=>by
  rw[← hR,show g.b.all lightB=false by rw[List.all_eq_false]; exact⟨b,hbm,by simp[h]⟩]
  rfl
 obtain⟨B,hB⟩:∃ B,lightB b=B:=⟨_,rfl⟩
 unfold lightB at hB
 by_cases h100:b.s.length≤100
 case neg=>
  simp[h100] at hB
  have:=hbad (by simp[lightB,h100])
  subst this
  simp[hlt,hb,hb2,Bl.d_eq,show (100:Int) < b.s.length by omega]
 have hbl:b.s.length≤maxLen:=by unfold maxLen; omega
 simp[h100] at hB
 obtain⟨n0,hn0⟩:∃ n0,stN (g.b.take i)=n0:=⟨_,rfl⟩
 rw[hn0] at hst hstb
 simp only[hn0]
 simp[hlt,hb,hb2,Bl.d_eq,show ¬ (100:Int) < b.s.length by omega]
 refine aLoop_st (fun k:Nat=>[(1,.ptr 0 0 0 0),(3,aI .i64 (n0 + k:Nat)),(4,aI .i64 i),(5,aI .i64 k)]) (fun _=>[gB g])
  (fun k=>k≤b.s.length∧(b.s.take k).all lightS=true) (fun k=>b.s.length - k) 0 (Sub.refl _ _ _) 1 (by omega) (by simp) (by simp) ⟨by omega,by simp⟩ ?_
 rintro k ⟨hk,hal2⟩ K2 hK2
 rcases Nat.lt_or_ge k b.s.length with hlt2 | hge2
 case inr=>
  obtain rfl:k=b.s.length:=by omega
  rw[List.take_length] at hal2
  simp[hlt,hb,hb2,Bl.d_eq,succ_wrap hlt hgl]
  refine hK (i + 1) ⟨by omega,?_⟩ (by omega) (Sub.refl _ _ _) 1 (by omega) (by simp) (by simp[hst])
  rw[List.take_add_one,hb,List.all_append,hall]
  simp[lightB,h100]
  simpa using hal2
 obtain⟨s,hs⟩:∃ s,b.s[k]? = some s:=⟨_,gEG hlt2⟩
 have hs2:=(gSI.1 hs).2
 have hsm:=gMO hs
 have hbad2:lightS s=false→R=false:=fun h=>hbad (by
  unfold lightB
  rw[show b.s.all lightS=false by rw[List.all_eq_false]; exact⟨s,hsm,by simp[h]⟩]
  simp)
 by_cases h4:s.e.length≤4
 case neg=>
  have:=hbad2 (by simp[lightS,h4])
  subst this
  simp[hlt,hb,hb2,Bl.d_eq,hlt2,hs,hs2,St.d_eq,i64w (n:=(n0:Int) + k + 1) (by omega),show (4:Int) < s.e.length by omega]
 have hel:s.e.length≤maxLen:=by unfold maxLen; omega
 by_cases h16:s.cs.length≤16
 case neg=>
  have:=hbad2 (by simp[lightS,h16])
  subst this
  simp[hlt,hb,hb2,Bl.d_eq,hlt2,hs,hs2,St.d_eq,i64w (n:=(n0:Int) + k + 1) (by omega),show ¬ (4:Int) < s.e.length by omega,show (16:Int) < s.cs.length by omega]
 by_cases h200:s.va≤200
 case neg=>
  have:=hbad2 (by simp[lightS,h200])
  subst this
  simp[hlt,hb,hb2,Bl.d_eq,hlt2,hs,hs2,St.d_eq,i64w (n:=(n0:Int) + k + 1) (by omega),show ¬ (4:Int) < s.e.length by omega,show ¬ (16:Int) < s.cs.length by omega,show 200 < s.va by omega]
 simp[hlt,hb,hb2,Bl.d_eq,hlt2,hs,hs2,St.d_eq,i64w (n:=(n0:Int) + k + 1) (by omega),show ¬ (4:Int) < s.e.length by omega,show ¬ (16:Int) < s.cs.length by omega,show ¬ 200 < s.va by omega]
 refine aLoop_st (fun q:Nat=>[(1,.ptr 0 0 0 0),(3,aI .i64 (n0 + k + 1:Nat)),(4,aI .i64 i),(5,aI .i64 k),(6,.ptr 1 0 0 0),(7,aI .i64 q)]) (fun _=>[gB g,⟨0,true,62,8,[[aI .i64 s.op,aI .i64 s.va,aI .i64 s.wd,aI .i64 s.nx,aI .i64 s.el,aI .u32 s.tg,.d (.sl 5 (Ex.ds s.e)),.d (.sl 1 (i64s s.cs))]]⟩])
  (fun q=>q≤s.e.length∧(s.e.take q).all (shB 8)=true) (fun q=>s.e.length - q) 0 (Sub.refl _ _ _) 2 (by omega) (by simp) (by simp) ⟨by omega,by simp⟩ ?_
 rintro q ⟨hq,hal3⟩ K3 hK3
 rcases Nat.lt_or_ge q s.e.length with hlt3 | hge3
 case inr=>
  obtain rfl:q=s.e.length:=by omega
  rw[List.take_length] at hal3
  simp[succ_wrap hlt2 hbl]
  refine hK2 (k + 1) ⟨by omega,?_⟩ (by omega) (Sub.refl _ _ _) 1 (by omega) (by simp) (by simp; try omega)
  rw[List.take_add_one,hs,List.all_append,hal2]
  simp only[Option.toList,List.all_cons,List.all_nil,Bool.and_true,Bool.true_and,lightS,h4,h16,h200,hal3,decide_true]
 obtain⟨y,hy⟩:∃ y,s.e[q]? = some y:=⟨_,gEG hlt3⟩
 have hy2:=(gSI.1 hy).2
 have hym:=gMO hy
 have cy:=l46shallow_af 8 (by omega) y
 cases ho:shB 8 y<;>rw[ho] at cy
 ·have:=hbad2 (by
   unfold lightS
   rw[show s.e.all (shB 8)=false by rw[List.all_eq_false]; exact⟨y,hym,by simp[ho]⟩]
   simp)
  subst this
  simp[hlt3,hy,hy2,Ex.d_eq]
  refine aCall_of (cy) (by simp) (by simp[Ex.d_eq]) ?_; simp[Ex.d_eq]
 ·simp[hlt3,hy,hy2,Ex.d_eq]
  refine aCall_of (cy) (by simp) (by simp[Ex.d_eq]) ?_; simp[Ex.d_eq]
  simp[succ_wrap hlt3 hel]
  refine hK3 (q + 1) ⟨by omega,?_⟩ (by omega) (Sub.refl _ _ _) 2 (by omega) (by simp) (by simp)
  rw[List.take_add_one,hy,List.all_append,hal3]
  simp[ho]
theorem shB_kids {n:Nat} {e:Ex} (h:shB n e=true):e.v≤200∧∃ m,n=m + 1∧∀ x∈e.l,shB m x=true:=by
 cases n with
 | zero=>simp[shB] at h
 | succ n =>
   simp only[shB,Bool.and_eq_true,decide_eq_true_eq,List.all_eq_true] at h
   exact⟨h.1.2,n,rfl,h.2⟩
set_option maxHeartbeats 0 in
theorem emNames_af (g:Gr) (hg:GrFit g) (hn:∀ b∈g.b,∀ s∈b.s,∀ e∈s.e,e.nodes≤1000000000) (h12:12≤seeG g) (hhi:seeG g≤65536):AF Tryz.prog 16 [grV g] (.d (.sl 1 (strs (nmS (seeG g).toNat)))):=by
 obtain⟨F,hF⟩:∃ F:Nat,(seeG g)=12 + F:=⟨(seeG g).toNat - 12,by omega⟩
 have c:=ilfresh_af g hg hn
 rw[hF] at c
 rw[hF,show ((12:Int) + F).toNat=12 + F by omega]
 refine af_of Tryz.func16 rfl (by kernel_rfl) (by simp[Tryz.ntmps16]) fun _=>?_; simp[Tryz.f16,Ex.d_eq]
 refine aLoop_st (fun i:Nat=>[(1,.ptr 0 0 0 0),(3,.own 1 i 0 (12 + i)),(4,aI .i64 (12 + i:Nat))]) (fun i=>[gB g,⟨i,true,9,1,dEls (strs (nmS (12 + i)))⟩])
  (fun i=>i≤F) (fun i=>F - i) 0 (Sub.refl _ _ _) 2 (by omega) (by rw[nmS_12]; simp[strs,dEls]) (by simp) (by omega) ?_
 rintro i hi K hK
 rcases Nat.lt_or_ge i F with hlt | hge
 case inr=>
  obtain rfl:i=F:=by omega
  have ht:(strs (nmS (12 + i))).take (12 + i)=strs (nmS (12 + i)):=by rw[List.take_of_length_le]; simp[strs,nmS_len]
  simp
  refine aCall_of (c) (by simp) (by simp[Ex.d_eq]) ?_; simp[Ex.d_eq]
  simp[ht,nmS_len]
 have hdl:=dec_len (12 + i) (by omega)
 have hx:bs (xVar ((12 + i:Nat):Int))=bs (116::Lib.decDigits (12 + i)):=by rw[xVar_t (by omega)]
 have hxi:xInt (12 + (i:Int))=Lib.decDigits (12 + i):=by rw[xInt_nat (by omega),show ((12:Int) + i).toNat=12 + i by omega]
 have ci:=itoaW_af (12 + (i:Int)) (by omega)
 rw[hxi] at ci
 simp
 refine aCall_of (c) (by simp) (by simp[Ex.d_eq]) ?_; simp[Ex.d_eq]
 simp[hlt]
 refine aCall_of (ci) (by simp) (by simp[Ex.d_eq]) ?_; simp[Ex.d_eq]
 rw[if_neg (show ¬ (9223372036854775807:Int) < 1 + ((Lib.decDigits (12 + i)).length:Int) by omega)]
 simp
 refine aRaw_app byt_30 ?_
 simp[nmS_len,strs]
 refine⟨by unfold maxLen; omega,by omega,?_⟩
 simp[i64w (n:=(12:Int) + i + 1) (by omega)]
 refine hK (i + 1) (by omega) (by omega) (Sub.refl _ _ _) 2 (by omega) ?_ (by simp[Nat.add_assoc,Int.add_assoc])
 rw[← Nat.add_assoc,nmS_succ,hx]
 simp[strs,dEls]
 try exact clnE_strs _ _
theorem gb_space:((0,Lib.asciiSpaceTab.map fun z=>Value.int .u8 z):Nat×List Value)∈GB:=by simp[GB]
theorem fields_af (s:ByteArray) (hs:s.size < 4294967281) (hascii:∀ (j:Nat) b,s.data.toList[j]? = some b→b.toNat < 128) (hl:(Lib.fields s.data.toList).length≤1000) :
  AF Tryz.prog 122 [aS s] (.d (.sl 1 (strs ((Lib.fields s.data.toList).map fun l=>⟨l.toArray⟩)))):=by
 intro H w vs hH hs' _
 simp only[ShpL] at hs'
 obtain⟨u1,l1,rfl,s1,rfl⟩:=hs'
 simp only[Shp] at s1
 subst s1
 have hT:∀ c:Nat,c < 256→w.cell? ⟨0,c,none⟩=some (.int .u8 (if Lib.isSp (UInt8.ofNat c) then 1 else 0)):=fun c hc=>
  (hH.2.1.1 _ gb_space).2.1 c _ (by simp[Lib.asciiSpaceTab,hc])
 refine (Any.strings_Fields_core Sh_lays157 (by kernel_rfl) s w hs hascii hT).mono ?_
 rintro en w' ⟨rfl,rfl⟩
 obtain⟨F,hF⟩:∃ F,Lib.fields s.data.toList=F:=⟨_,rfl⟩
 rw[hF] at hl ⊢
 have hlen:(strs (F.map fun l=>(⟨l.toArray⟩:ByteArray))).length=F.length:=by simp[strs]
 refine⟨_,rfl,⟨?_,?_⟩,(Ext.refl w).alloc _⟩
 ·simp only[Shp,hlen]
  exact⟨_,_,rfl,Nat.le_refl _,.inr ⟨_,_,rfl⟩⟩
 ·simp only[Mem,Rd,hlen]
  refine⟨_,_,rfl,Nat.le_refl _,by unfold maxLen; omega,.inr ⟨_,_,rfl,⟨by rw[size_push]; omega,fun h=>by have:=hH.1 _ h; omega⟩,RdS.of fun i x hi=>?_⟩⟩
  simp only[strs,List.map_map,List.getElem?_map,Option.map_eq_some_iff,Function.comp] at hi
  obtain⟨l,hl',rfl⟩:=hi
  refine⟨rfl,?_⟩
  simp only[RdE,Rd,and_true,Nat.zero_add,Nat.mul_one]
  exact⟨_,by rw[cell_in (heap_push w _)]; simp[hl'],rfl,rfl⟩
theorem gb_maxlen:3∈GBI:=by simp[GBI]
theorem scontains_af (s sub:ByteArray) (hs:s.size < 4294967281):AF Tryz.prog 182 [aS s,aS sub] (aB (Lib.contains s.data.toList sub.data.toList)):=by
 intro H w vs hH hs' _
 simp only[ShpL] at hs'
 obtain⟨u1,l1,rfl,s1,u2,l2,rfl,s2,rfl⟩:=hs'
 simp only[Shp] at s1 s2
 subst s1 s2
 obtain⟨m,hm⟩:=(hH.2.1.2 _ gb_maxlen).2
 refine (Sh_strings_Contains s sub m w hs hm).mono ?_
 rintro en w' ⟨rfl,rfl⟩
 exact⟨_,rfl,⟨by simp[Shp],by simp[Mem,Rd,Value.oneCell']⟩,Ext.refl _⟩
theorem dec_two' {n:Nat} (h:10≤n) (h2:n < 100):Lib.decDigits n=[UInt8.ofNat (48 + n / 10),UInt8.ofNat (48 + n % 10)]:=by
 rw[dec_ge (by omega),dec_lt (by omega)]
 rfl
def orc46:XF:=fun f args A=>
 if f=46 then (match args with
  | [.d (.v (.int .i64 (.ofNat n)))]=>if n < 10 then some (aS ⟨#[UInt8.ofNat (48 + n)]⟩,A) else if n < 100 then some (aS ⟨#[UInt8.ofNat (48 + n / 10),UInt8.ofNat (48 + n % 10)]⟩,A) else none
  | _=>none)
 else if f=122 then (match args with
  | [.d (.v (.string s))]=>if s.size < 4294967281∧(s.data.toList.all fun b=>decide (b.toNat < 128))=true∧(Lib.fields s.data.toList).length≤1000 then some (.d (.sl 1 (strs ((Lib.fields s.data.toList).map fun l=>⟨l.toArray⟩))),A) else none
  | _=>none)
 else if f=182 then (match args with
  | [.d (.v (.string s)),.d (.v (.string sub))]=>if s.size < 4294967281 then some (aB (Lib.contains s.data.toList sub.data.toList),A) else none
  | _=>none)
 else none
theorem orc46_ok:XFok Tryz.prog orc46:=by
 intro f args A r A' h
 unfold orc46 at h
 split at h
 ·rename_i hf
  subst hf
  split at h
  ·rename_i n
   split at h
   ·rename_i hn
    simp only[Option.some.injEq,Prod.mk.injEq] at h
    obtain⟨rfl,rfl⟩:=h
    have h1:=itoaW_af (n:Int) (by omega)
    have h2:bs (xInt (n:Int))=⟨#[UInt8.ofNat (48 + n)]⟩:=by
     rw[xInt_nat (by omega)]
     simp only[Int.toNat_natCast]
     rw[dec_lt hn]
    rw[h2] at h1
    exact⟨by kernel_rfl,AF.acs h1 (by simp[omap,reiV,argO]) rfl⟩
   ·split at h
    ·rename_i hn0 hn
     simp only[Option.some.injEq,Prod.mk.injEq] at h
     obtain⟨rfl,rfl⟩:=h
     have h1:=itoaW_af (n:Int) (by omega)
     have h2:bs (xInt (n:Int))=⟨#[UInt8.ofNat (48 + n / 10),UInt8.ofNat (48 + n % 10)]⟩:=by
      rw[xInt_nat (by omega)]
      simp only[Int.toNat_natCast]
      rw[dec_two' (by omega) (by omega)]
     rw[h2] at h1
     exact⟨by kernel_rfl,AF.acs h1 (by simp[omap,reiV,argO]) rfl⟩
    ·cases h
  ·cases h
 ·split at h
  ·rename_i hf
   subst hf
   split at h
   ·rename_i s
    split at h
    ·rename_i hc
     obtain⟨c1,c2,c3⟩:=hc
     simp only[Option.some.injEq,Prod.mk.injEq] at h
     obtain⟨rfl,rfl⟩:=h
     have h1:=fields_af s c1 (fun j b hb=>by simpa using List.all_eq_true.1 c2 b (gMO hb)) c3
     exact⟨by kernel_rfl,AF.ac h1 (by simp[omap,reiV,argO])⟩
    ·cases h
   ·cases h
  ·split at h
   ·rename_i hf
    subst hf
    split at h
    ·rename_i s sub
     split at h
     ·rename_i hc
      simp only[Option.some.injEq,Prod.mk.injEq] at h
      obtain⟨rfl,rfl⟩:=h
      exact⟨by kernel_rfl,AF.acs (scontains_af s sub hc) (by simp[omap,reiV,argO]) rfl⟩
     ·cases h
    ·cases h
   ·cases h
def orcM (tab:List (FuncId×List AV×AV)) (o:XF):XF:=fun f args A=>match tab.find? (fun t=>decide (t.1=f) && match omap (reiV false A 9) args with | some a=>beqAs a t.2.1 | none=>false) with
 | some t=>some (t.2.2,A)
 | none=>o f args A
theorem orcM_ok {tab:List (FuncId×List AV×AV)} {o:XF} (h:∀ t∈tab,okF Tryz.prog t.1=true∧AF Tryz.prog t.1 t.2.1 t.2.2∧∃ n,t.2.2=aI .i64 n) (ho:XFok Tryz.prog o):XFok Tryz.prog (orcM tab o):=by
 intro f args A r A' hr
 unfold orcM at hr
 split at hr
 ·rename_i t ht
  simp only[Option.some.injEq,Prod.mk.injEq] at hr
  obtain⟨rfl,rfl⟩:=hr
  have hm:=List.mem_of_find?_eq_some ht
  have hp:=List.find?_some ht
  simp only[Bool.and_eq_true,decide_eq_true_eq] at hp
  obtain⟨rfl,hp⟩:=hp
  split at hp
  case h_2=>cases hp
  rename_i a ha
  obtain⟨h1,h2,n,h3⟩:=h t hm
  rw[beqAs_eq _ _ hp] at ha
  rw[h3] at h2 ⊢
  exact⟨h1,AF.acs h2 (by rw[ha]; exact NLeL.refl _) rfl⟩
 ·exact ho f args A r A' hr
def names46:List ByteArray:=[⟨#[114,48]⟩,⟨#[114,49]⟩,⟨#[114,50]⟩,⟨#[114,51]⟩,⟨#[114,52]⟩,⟨#[114,53]⟩,⟨#[114,54]⟩,⟨#[114,55]⟩,⟨#[102,122]⟩,⟨#[102,110]⟩,⟨#[102,99]⟩,⟨#[102,118]⟩]
def t12b:ByteArray:=⟨#[116,49,50]⟩
abbrev dNil:D:=.v (.slice none 0 0)
def varD (s:ByteArray):List D:=[.v (.string s),.v (.int .i64 2),.v (.int .i64 4),.v (.int .i64 0),dNil,dNil]
def nodeD (k:Int) (s:ByteArray) (e:D):List D:=[.v (.int .i64 k),.v (.int .i64 0),.v (.string s),e,dNil,dNil,dNil]
def funcD:List D:=[.v (.string ⟨#[109,97,105,110]⟩),.sl 6 [varD t12b],.sl 7 [nodeD 3 t12b dNil,nodeD 4 ⟨#[]⟩ (.sl 5 [[.v (.int .i64 2),.v (.int .u32 0),.v (.string t12b),.v (.int .i64 0),dNil]]),nodeD 15 ⟨#[]⟩ dNil]]
def unitA:AV:=.agg [.d (.sl 6 (names46.map varD)),.d dNil,.d (.sl 3 [funcD])]
theorem asvars1_af:AF Tryz.prog 124 [.d dNil,.d (.sl 6 (names46.map varD))] (aI .i64 0):=xres_af orc46_ok (lf:=100) (n:=100) (by kernel_rfl)
theorem asvars2_af:AF Tryz.prog 124 [.d (.sl 6 (names46.map varD)),.d (.sl 6 [varD t12b])] (aI .i64 0):=xres_af orc46_ok (lf:=100) (n:=100) (by kernel_rfl)
def orcV:XF:=orcM [(124,[.d dNil,.d (.sl 6 (names46.map varD))],aI .i64 0),(124,[.d (.sl 6 (names46.map varD)),.d (.sl 6 [varD t12b])],aI .i64 0)] orc46
theorem orcV_ok:XFok Tryz.prog orcV:=orcM_ok (fun t ht=>by
 simp only[List.mem_cons,List.not_mem_nil,or_false] at ht
 rcases ht with rfl | rfl
 ·exact⟨by kernel_rfl,asvars1_af,0,rfl⟩
 ·exact⟨by kernel_rfl,asvars2_af,0,rfl⟩) orc46_ok
theorem ascheck1_af:AF Tryz.prog 55 [unitA] (aI .i64 0):=xres_af orcV_ok (lf:=200) (n:=200) (by kernel_rfl)
def orcU:XF:=orcM [(55,[unitA],aI .i64 0)] orc46
theorem orcU_ok:XFok Tryz.prog orcU:=orcM_ok (fun t ht=>by
 simp only[List.mem_cons,List.not_mem_nil,or_false] at ht
 subst ht
 exact⟨by kernel_rfl,ascheck1_af,0,rfl⟩) orc46_ok
theorem l46ex_af:AF Tryz.prog 6 [] (aB true):=xtrue_af orcU_ok (lf:=300) (n:=200) (by kernel_rfl)
theorem seeI_mono {n v:Int} (h:n≤65536):n≤seeI n v∧seeI n v≤65536:=by
 unfold seeI
 split
 ·split<;>omega
 ·omega
theorem fold_mono {α:Type} {f:Int→α→Int} (hf:∀ (a:α) (n:Int),0≤n→n≤65536→n≤f n a∧f n a≤65536):∀ (l:List α) (n:Int),0≤n→n≤65536→n≤l.foldl f n∧l.foldl f n≤65536
 | [],n,h0,h1=>by simp; omega
 | a :: l, n, h0, h1 => by
   have h2:=hf a n h0 h1
   have:=fold_mono hf l (f n a) (by omega) h2.2
   simp only[List.foldl_cons]
   omega
theorem seeEs_fold:∀ (l:List Ex) (n:Int),seeE.seeEs n l=l.foldl seeE n
 | [],n=>by simp[seeE.seeEs]
 | a::l,n=>by simp only[seeE.seeEs,List.foldl_cons]; exact seeEs_fold l _
theorem seeS_mono (s:St) (n:Int) (h0:0≤n) (h1:n≤65536):n≤seeS n s∧seeS n s≤65536:=by
 have hE:∀ (e:Ex) (n:Int),0≤n→n≤65536→n≤seeE n e∧seeE n e≤65536:=fun e n h0 h1=>by
  rw[seeE_occ]
  exact fold_mono (fun v n _ h=>seeI_mono h) (occ e) n h0 h1
 have hl:=fold_mono hE s.e
 unfold seeS
 rw[seeEs_fold]
 have hv:=seeI_mono (n:=n) (v:=s.va) h1
 split
 ·have:=hl (seeI n s.va) (by omega) hv.2
  omega
 ·exact hl n h0 h1
theorem seeG_mono (g:Gr):12≤seeG g∧seeG g≤65536:=
 fold_mono (fun b n h0 h1=>fold_mono seeS_mono b.s n h0 h1) g.b 12 (by omega) (by omega)
end Go.Proofs.YtfnbhkbfelllgaaGreatDoor
