import Derived.Test.YtfnbhkbfelllgaaGreatDoorZE
import Derived.Test.YtfnbhkbfelllgaaGreatDoorZV
import Derived.Test.YtfnbhkbfelllgaaGreatDoorZZ
import Derived.Test.YtfnbhkbfelllgaaGreatDoorAn
import Derived.Test.YtfnbhkbfelllgaaGreatDoorZS
import Derived.Test.YtfnbhkbfelllgaaGreatDoorZR
set_option linter.all false
namespace Go.Proofs.YtfnbhkbfelllgaaGreatDoor
open Go.RowKit
structure Bu where
 g:Gr
 ch:List (List Int)
 ed:List Int
 bo:List (Int×List Int)
structure Ct where
 f:Int
 h:Int
 x:Int
def lkBu (x:Int):List (Int×List Int)→Option (List Int)
 | []=>none
 | p::l=>if p.1=x then some p.2 else lkBu x l
def St.tos (s:St):List Int:=if s.op=6 then [s.nx] else if s.op=7 then [s.nx,s.el] else if s.op=8 then s.cs else []
namespace Bu
def seqN (l:List Nd):Nd:=.mk 1 0 0 [] l
def labN (k:Int):Nd:=.mk 10 0 k [] []
def blkN (k:Int):Nd:=.mk 2 k 0 [] []
def kids (B:Bu) (k:Int):List Int:=B.ch.getD k.toNat []
def edg (B:Bu) (k:Int):Int:=B.ed.getD k.toNat 0
def stsOf (B:Bu) (k:Int):List St:=match B.g.b[k.toNat]? with
 | some b=>b.s
 | none=>[]
def lastS (B:Bu) (k:Int):St:=(B.stsOf k).getLastD ⟨0,0,0,0,0,0,[],[]⟩
def placed (B:Bu) (l:List Int):List Int:=l.filter fun k=>!decide (B.edg k=1)
def inlined (B:Bu) (l:List Int):List Int:=l.filter fun k=>decide (B.edg k=1)
def firstC (l:List Int) (c:Ct):Ct:=match l with
 | x::_=>⟨x,c.h,c.x⟩
 | []=>c
def chainN (code:Int→Ct→Nd):List Int→Ct→List Nd
 | [],_=>[]
 | k::l,c=>code k (firstC l c)::chainN code l c
def wayN (code:Int→Ct→Nd) (inl:List Int) (c:Ct) (y:Int):Nd:=
 if y∈inl then code y c else if y=c.f then seqN [] else if y=c.h then .mk 8 0 0 [] [] else if y=c.x then .mk 7 0 0 [] [] else .mk 9 0 y [] []
def transN (B:Bu) (code:Int→Ct→Nd) (k:Int) (inl:List Int) (c:Ct):Nd:=
 let s:=B.lastS k
 if s.op=6 then wayN code inl c s.nx else if s.op=7 then .mk 3 0 0 (s.e.take 1) [wayN code inl c s.nx,wayN code inl c s.el]
 else if s.op=8 then .mk 6 0 0 (s.e.take 1) (s.cs.map (wayN code inl c)) else if s.op=9 then .mk 11 0 0 [] [] else .mk 12 0 0 [] []
def aftS (B:Bu) (body:List Int) (p:List Int×List Int) (x:Int):List Int×List Int:=
 if x∉body∧(p.1=[]∨B.edg x≠1) then (p.1++[x],p.2) else (p.1,p.2++[x])
def aft (B:Bu) (body l:List Int):List Int×List Int:=l.foldl (B.aftS body) ([],[])
def isWh (B:Bu) (k:Int) (t:Nd):Bool:=decide ((B.stsOf k).length=1) && decide (t.kd=3) && decide ((t.l.getD 1 (seqN [])).kd=7) && !decide ((t.l.getD 0 (seqN [])).kd=7)
def loopN (B:Bu) (code:Int→Ct→Nd) (k:Int) (body:List Int) (c:Ct):Nd:=
 let p:=B.aft body (B.kids k)
 let inner:Ct:=⟨k,k,(firstC p.1 c).f⟩
 let t:=B.transN code k (B.inlined p.2) (firstC (B.placed p.2) inner)
 let tail:=chainN code (B.placed p.2) inner
 let n:Nd:=if B.isWh k t=true then .mk 5 k 0 t.cd [seqN (t.l.getD 0 (seqN [])::tail)] else .mk 4 0 0 [] [seqN (blkN k::t::tail)]
 seqN (labN k::n::chainN code p.1 c)
def codeN (B:Bu):Nat→Int→Ct→Nd
 | 0,_,_=>seqN []
 | f + 1, k, c => match lkBu k B.bo with
   | some body=>B.loopN (B.codeN f) k body c
   | none=>seqN (labN k::blkN k::B.transN (B.codeN f) k (B.inlined (B.kids k)) (firstC (B.placed (B.kids k)) c)::chainN (B.codeN f) (B.placed (B.kids k)) c)
end Bu
def prn (used:List Int):Nd→Nd
 | .mk k b n c l=>.mk k b n c (prns used l)
where prns (used:List Int):List Nd→List Nd
 | []=>[]
 | x::l=>if x.kd≠10∨x.lb∈used then prn used x::prns used l else prns used l
@[simp] def ctA (c:Ct):AV:=.agg [aI .i64 c.f,aI .i64 c.h,aI .i64 c.x]
theorem stfirst_af (l:List Int) (c:Ct) (hl:l.length≤maxLen):AF Tryz.prog 111 [.d (.sl 1 (i64s l)),ctA c] (ctA (Bu.firstC l c)):=by
 refine af_of Tryz.func111 rfl (by kernel_rfl) (by simp[Tryz.ntmps111]) fun _=>?_; simp[Tryz.f111,Ex.d_eq]
 cases l with
 | nil=>simp[Bu.firstC,setEls]
 | cons x l=>simp[Bu.firstC,setEls]
theorem stseq_af (l:List Nd):AF Tryz.prog 112 [.d (.sl 5 (Nd.ds l))] (ndA (Bu.seqN l)):=by
 refine af_of Tryz.func112 rfl (by kernel_rfl) (by simp[Tryz.ntmps112]) fun _=>?_; simp[Tryz.f112,Ex.d_eq]
 simp[Bu.seqN,setEls]
theorem stcopy_af:∀ (e:Ex),e.nodes≤1000000000→AF Tryz.prog 169 [exA e] (exA e):=by
 intro x
 induction x using Ex.ind with
 | h x ih =>
   intro hn
   have hlen:=x.nodes_len
   have n1:x.l.length≤maxLen:=by unfold maxLen; omega
   refine af_of Tryz.func169 rfl (by kernel_rfl) (by simp[Tryz.ntmps169]) fun _=>?_
   simp[Tryz.f169]
   refine aCall_ofc (clone_ac _ (Ex.ds x.l) (by simp; omega)) (by simp) ?_
   rintro _ _ ⟨rfl,rfl⟩
   simp
   refine aLoop_of (α:=Nat) (fun i e A=>i≤x.l.length∧A=[⟨0,true,60,5,[[aI .i64 x.op,aI .u32 x.n,aI .i64 x.v,aI .i64 x.wd,.own 2 1 0 x.l.length]]⟩,⟨0,true,60,5,[[aI .i64 0,aI .u32 0,aI .i64 0,aI .i64 0,.d (.v (.slice none 0 0))]]⟩,⟨1,true,60,5,dEls (Ex.ds x.l)⟩] ∧
    e 11=aI .i64 i∧e 10=aI .i64 x.l.length∧e 1 = .ptr 0 0 0 0∧e 2 = .ptr 1 0 0 0) (fun i=>x.l.length - i) 0 (Sub.refl _ _ _) ⟨by omega,by simp,by simp,by simp,by simp,by simp⟩ ?_
   rintro i e A ⟨hi,rfl,e11,e10,e1,e2⟩ K hK
   simp[e11,e10]
   refine aCond_split (fun hlt=>?_) (fun hge=>?_)
   ·simp at hlt
    have hi1:=gEG hlt
    simp
    refine adraw [] (by kernel_rfl) (by kernel_rfl) (by kernel_rfl) (by kernel_rfl) ?_
    simp[e11,e1,hlt,hi1,Ex.d_eq]
    refine adC_of (ih _ (gMO hi1) (by have:=Ex.nodes_mem (gMO hi1); omega)) (by simp) trivial (by simp) (by simp) ?_
    simp[hlt,Ex.d_eq,e11,succ_wrap hlt n1]
    exact hK (i + 1) _ _ _ _ (Sub.refl _ _ _) ⟨by omega,by simp; exact set_same (by simp[hlt,Ex.d_eq]),by simp,by simp[e10],by simp[e1],by simp[e2]⟩ (by omega)
   ·simp at hge
    simp[e1,e2]
def chD (ch:List (List Int)):List (List D):=ch.map fun l=>[.sl 1 (i64s l)]
@[simp] theorem chD_len (ch:List (List Int)):(chD ch).length=ch.length:=by simp[chD]
@[simp] theorem chD_at (ch:List (List Int)) (i:Nat) (h:i < (chD ch).length):(chD ch)[i]=[.sl 1 (i64s (ch[i]'(by simpa using h)))]:=by simp[chD]
abbrev bdK (B:Bu):Blk:=⟨1,false,148,5,[[aI .u32 B.g.ad,.d (.sl 2 (bls' B.g.b)),.d (.sl 1 (chD B.ch)),.d (.sl 1 (i64s B.ed)),.mp 4 1]]⟩
abbrev hp5 (a0 a1 a2:Blk) (B:Bu):AHeap:=[a0,a1,a2,bdK B,msM B.bo]
structure BuOk (B:Bu):Prop where
 gb:B.g.b.length≤1000000
 st:∀ b∈B.g.b,1≤b.s.length∧b.s.length≤1000000
 ch:B.ch.length=B.g.b.length
 ed:B.ed.length=B.g.b.length
 kid:∀ l∈B.ch,l.length≤1000000∧∀ x∈l,0≤x∧x < B.g.b.length
section
variable (a0 a1 a2:Blk) (B:Bu)
theorem stlast_ac (hcl:ClH (hp5 a0 a1 a2 B)) (hB:BuOk B) (k:Nat) (hk:k < B.g.b.length):AC Tryz.prog 166 [.ptr 3 1 0 0,aI .i64 k] (hp5 a0 a1 a2 B) (AtH (hp5 a0 a1 a2 B) (stV (B.lastS k))):=by
 obtain⟨b,hb⟩:∃ b,B.g.b[k]? = some b:=⟨_,gEG hk⟩
 have hb2:=(gSI.1 hb).2
 obtain⟨f1,f2⟩:=hB.st b (gMO hb)
 obtain⟨n,hn⟩:∃ n,b.s.length=n + 1:=⟨b.s.length - 1,by omega⟩
 obtain⟨s,hs,hs2⟩:=last_get hn
 have hs3:=(gSI.1 hs).2
 have hls:B.lastS k=s:=by
  unfold Bu.lastS Bu.stsOf
  rw[Int.toNat_natCast,hb]
  simp only
  rw[List.getLastD_eq_getLast?,hs2]
  rfl
 rw[hls]
 refine AC.resH (by simp[cln]) (ac_of Tryz.func166 rfl (by kernel_rfl) (by simp[Tryz.ntmps166]) fun _=>?_)
 simp[Tryz.f166,hk,hb,hb2,Bl.d_eq,hn,i64w (n:=(n:Int)) (by omega),hs,hs3,St.d_eq,setEls]
 exact⟨by simp,hcl.fix⟩
theorem cE_mono {m m':Nat} (hm:m≤m') {b:Blk} (h:clnB m b=b):clnE m' b.els=b.els:=congrArg Blk.els (clnB_mono hm h)
theorem cE_ms (m:Nat) (L:List (Int×List Int)):clnE m (msM L).els=(msM L).els:=congrArg Blk.els (cln_msM m L)
theorem filt_take {α:Type} (p:α→Bool) {L:List α} {i:Nat} {x:α} (h:L[i]? = some x):(L.take (i + 1)).filter p=(L.take i).filter p++if p x=true then [x] else []:=by
 rw[List.take_add_one,h,List.filter_append]
 cases hp:p x<;>simp[hp]
set_option maxRecDepth 100000 in
theorem stsplit_ac (hcl:ClH (hp5 a0 a1 a2 B)) (hB:BuOk B) (l:List Int) (hl:l.length≤1000000) (hr:∀ x∈l,0≤x∧x < B.g.b.length) :
 AC Tryz.prog 109 [.ptr 3 1 0 0,.d (.sl 1 (i64s l))] (hp5 a0 a1 a2 B) (AtH (hp5 a0 a1 a2 B) (.tup [.d (.sl 1 (i64s (B.placed l))),.d (.sl 1 (i64s (B.inlined l)))])):=by
 have hm:l.length≤maxLen:=by unfold maxLen; omega
 have hPt:=fun (i:Nat) (x:Int) (h:l[i]? = some x)=>filt_take (fun k=>!decide (B.edg k=1)) h
 have hIt:=fun (i:Nat) (x:Int) (h:l[i]? = some x)=>filt_take (fun k=>decide (B.edg k=1)) h
 have hPl:∀ i,((l.take i).filter fun k=>!decide (B.edg k=1)).length≤i:=fun i=>by
  have:=List.length_filter_le (fun k=>!decide (B.edg k=1)) (l.take i)
  rw[List.length_take] at this
  omega
 have hIl:∀ i,((l.take i).filter fun k=>decide (B.edg k=1)).length≤i:=fun i=>by
  have:=List.length_filter_le (fun k=>decide (B.edg k=1)) (l.take i)
  rw[List.length_take] at this
  omega
 have hP0:((l.take 0).filter fun k=>!decide (B.edg k=1))=[]:=rfl
 have hI0:((l.take 0).filter fun k=>decide (B.edg k=1))=[]:=rfl
 have hPn:((l.take l.length).filter fun k=>!decide (B.edg k=1))=B.placed l:=by rw[List.take_length]; rfl
 have hIn:((l.take l.length).filter fun k=>decide (B.edg k=1))=B.inlined l:=by rw[List.take_length]; rfl
 obtain⟨P,hP⟩:∃ P:Nat→List Int,(fun i=>(l.take i).filter fun k=>!decide (B.edg k=1))=P:=⟨_,rfl⟩
 obtain⟨I,hI⟩:∃ I:Nat→List Int,(fun i=>(l.take i).filter fun k=>decide (B.edg k=1))=I:=⟨_,rfl⟩
 replace hP:∀ i,((l.take i).filter fun k=>!decide (B.edg k=1))=P i:=fun i=>congrFun hP i
 replace hI:∀ i,((l.take i).filter fun k=>decide (B.edg k=1))=I i:=fun i=>congrFun hI i
 simp only[hP] at hPt hPl hP0 hPn
 simp only[hI] at hIt hIl hI0 hIn
 have hc5:=hcl.fix
 simp only[List.map_cons,List.map_nil,List.cons.injEq,and_true,List.length_cons,List.length_nil] at hc5
 obtain⟨c0,c1,c2,c3,c4⟩:=hc5
 refine AC.resH (by simp[cln,cln.clnL]) (ac_of Tryz.func109 rfl (by kernel_rfl) (by simp[Tryz.ntmps109]) fun _=>?_)
 have m0:=cE_mono (m':=7) (by omega) c0
 have m1:=cE_mono (m':=7) (by omega) c1
 have m2:=cE_mono (m':=7) (by omega) c2
 have hedl:=hB.ed
 simp[Tryz.f109]
 refine aLoop_st (fun i:Nat=>[(0,.ptr 3 1 0 0),(4,.own 5 (P i).length 0 (P i).length),(5,.own 6 (I i).length 0 (I i).length),(8,.d (.sl 1 (i64s l))),(9,aI .i64 l.length),(10,aI .i64 i)])
  (fun i=>[a0,a1,a2,bdK B,msM B.bo,nbk (P i).length (P i),nbk (I i).length (I i)]) (fun i=>i≤l.length) (fun i=>l.length - i) 0
  ((Sub.ghost 0 3 1).trans ((Sub.ghost 0 3 1).trans ((Sub.slot (s:=4) (c:=.own 5 0 0 0) (VLe.nil_own (k:=⟨0,true,3,1,[]⟩) (by simp) rfl)).trans (Sub.slot (s:=5) (c:=.own 6 0 0 0) (VLe.nil_own (k:=⟨0,true,3,1,[]⟩) (by simp) rfl))))) 7 (by simp) (by simp[m0,m1,m2,cE_ms,hP0,hI0]) (by simp[hP0,hI0]) (by omega) ?_
 rintro i hi K hK
 have hpi:=hPl i
 have hii:=hIl i
 rcases Nat.lt_or_ge i l.length with hlt | hge
 case inr=>
  obtain rfl:i=l.length:=by omega
  rw[hPn,hIn]
  simp
  refine⟨?_,hcl.fix⟩
  simp
 obtain⟨x,hx⟩:∃ x,l[i]? = some x:=⟨_,gEG hlt⟩
 have hx2:=(gSI.1 hx).2
 obtain⟨x0,x1⟩:=hr x (gMO hx)
 obtain⟨w,hw⟩:∃ w:Nat,x=w:=⟨x.toNat,by omega⟩
 have hwl:w < B.ed.length:=by omega
 obtain⟨ev,hev⟩:∃ ev,B.ed[w]? = some ev:=⟨_,gEG hwl⟩
 have hev2:=(gSI.1 hev).2
 have hedg:B.edg x=ev:=by
  unfold Bu.edg
  rw[hw,Int.toNat_natCast,List.getD_eq_getElem?_getD,hev]
  rfl
 have hp1:=hPt i x hx
 have hi1:=hIt i x hx
 rw[hedg] at hp1 hi1
 have hxw:l[i]? = some (w:Int):=by rw[← hw]; exact hx
 have hxw2:=(gSI.1 hxw).2
 by_cases h1:ev=1
 ·simp[h1] at hp1 hi1
  simp[hlt,hxw,hxw2,hwl,hev,hev2,h1]
  refine aRaw_app byt_48 ?_
  simp
  refine⟨by unfold maxLen; omega,by omega,?_⟩
  simp[succ_wrap hlt hm]
  refine hK (i + 1) (by omega) (by omega) (Sub.take 7 (by simp)) 7 (by simp) ?_ ?_
  ·rw[hp1,hi1,hw]; simp[m0,m1,m2,cE_ms]
  ·rw[hp1,hi1]; simp
 ·simp[h1] at hp1 hi1
  simp[hlt,hxw,hxw2,hwl,hev,hev2,h1]
  refine aRaw_app byt_48 ?_
  simp
  refine⟨by unfold maxLen; omega,by omega,?_⟩
  simp[succ_wrap hlt hm]
  refine hK (i + 1) (by omega) (by omega) (Sub.take 7 (by simp)) 7 (by simp) ?_ ?_
  ·rw[hp1,hi1,hw]; simp[m0,m1,m2,cE_ms]
  ·rw[hp1,hi1]; simp
end
section
variable (a0 a1 a2:Blk) (B:Bu)
abbrev ctK (c:Ct):Blk:=⟨0,true,103,3,[[aI .i64 c.f,aI .i64 c.h,aI .i64 c.x]]⟩
abbrev ndZ:Blk:=⟨0,true,29,5,[[aI .i64 0,aI .i64 0,aI .i64 0,nilV,nilV]]⟩
def CodeOk (code:Int→Ct→Nd) (y:Int):Prop:=∀ c:Ct,AC Tryz.prog 42 [.ptr 3 1 0 0,aI .i64 y,ctA c] (hp5 a0 a1 a2 B) (AtH (hp5 a0 a1 a2 B) (ndA (code y c)))
theorem stway_ac (hcl:ClH (hp5 a0 a1 a2 B)) (code:Int→Ct→Nd) (inl:List Int) (hl:inl.length≤1000000) (c:Ct) (y:Int) (hc:y∈inl→CodeOk a0 a1 a2 B code y) :
 AC Tryz.prog 168 [.ptr 3 1 0 0,aI .i64 y,.d (.sl 1 (i64s inl)),ctA c] (hp5 a0 a1 a2 B) (AtH (hp5 a0 a1 a2 B) (ndA (Bu.wayN code inl c y))):=by
 have hm:inl.length≤maxLen:=by unfold maxLen; omega
 obtain⟨R,hR⟩:∃ R,Bu.wayN code inl c y=R:=⟨_,rfl⟩
 rw[hR]
 unfold Bu.wayN at hR
 refine AC.resH (by simp[cln,cln.clnL]) (ac_of Tryz.func168 rfl (by kernel_rfl) (by simp[Tryz.ntmps168]) fun _=>?_)
 simp[Tryz.f168]
 refine aCall_of (containsin_af inl y hm) (by kernel_rfl) (by simp) ?_
 by_cases hin:y∈inl
 ·rw[if_pos hin] at hR
  have hf:=AC.frame (N:=[ctK c,ndZ]) hcl (by simp[cln,cln.clnL]) (hc hin c)
  rw[hR] at hf
  simp[hin]
  refine aCall_ofc hf (by kernel_rfl) ?_
  rintro _ _ ⟨rfl,rfl⟩
  simp[setEls]
  exact⟨by simp,hcl.fix⟩
 rw[if_neg hin] at hR
 by_cases h1:y=c.f
 ·rw[if_pos h1] at hR
  subst hR
  simp[hin,h1.symm]
  refine aCall_of (stseq_af []) (by kernel_rfl) (by simp) ?_
  simp[setEls,Bu.seqN]
  exact⟨by simp,hcl.fix⟩
 rw[if_neg h1] at hR
 by_cases h2:y=c.h
 ·rw[if_pos h2] at hR
  subst hR
  simp[hin,h1,h2.symm,setEls]
  exact⟨by simp,hcl.fix⟩
 rw[if_neg h2] at hR
 by_cases h3:y=c.x
 ·rw[if_pos h3] at hR
  subst hR
  simp[hin,h1,h2,h3.symm,setEls]
  exact⟨by simp,hcl.fix⟩
 rw[if_neg h3] at hR
 subst hR
 simp[hin,h1,h2,h3,setEls]
 exact⟨by simp,hcl.fix⟩
theorem chain_get (code:Int→Ct→Nd) (c:Ct):∀ (l:List Int) (i:Nat) (k:Int),l[i]? = some k→(Bu.chainN code l c)[i]? = some (code k (Bu.firstC (l.drop (i + 1)) c))
 | [],i,k,h=>by simp at h
 | a :: l, 0, k, h => by
   simp at h
   subst h
   simp[Bu.chainN]
 | a :: l, i + 1, k, h => by
   have:=chain_get code c l i k (by simpa using h)
   simpa [Bu.chainN] using this
theorem chain_len (code:Int→Ct→Nd) (c:Ct):∀ (l:List Int),(Bu.chainN code l c).length=l.length
 | []=>rfl
 | a::l=>by simp[Bu.chainN,chain_len code c l]
set_option maxRecDepth 100000 in
set_option maxHeartbeats 0 in
theorem stchain_ac (hcl:ClH (hp5 a0 a1 a2 B)) (code:Int→Ct→Nd) (l:List Int) (hl:l.length≤1000000) (c:Ct) (hc:∀ y∈l,CodeOk a0 a1 a2 B code y) :
 AC Tryz.prog 113 [.ptr 3 1 0 0,.d (.sl 1 (i64s l)),ctA c] (hp5 a0 a1 a2 B) (AtH (hp5 a0 a1 a2 B) (.d (.sl 5 (Nd.ds (Bu.chainN code l c))))):=by
 have hm:l.length≤maxLen:=by unfold maxLen; omega
 have hcg:=chain_get code c l
 have hcn:=chain_len code c l
 obtain⟨C,hC⟩:∃ C,Bu.chainN code l c=C:=⟨_,rfl⟩
 rw[hC] at hcg hcn
 rw[hC]
 have hc5:=hcl.fix
 simp only[List.map_cons,List.map_nil,List.cons.injEq,and_true,List.length_cons,List.length_nil] at hc5
 obtain⟨c0,c1,c2,c3,c4⟩:=hc5
 have m0:=cE_mono (m':=7) (by omega) c0
 have m1:=cE_mono (m':=7) (by omega) c1
 have m2:=cE_mono (m':=7) (by omega) c2
 refine AC.resH (by simp[cln,cln.clnL]) (ac_of Tryz.func113 rfl (by kernel_rfl) (by simp[Tryz.ntmps113]) fun _=>?_)
 simp[Tryz.f113]
 refine aLoop_st (fun i:Nat=>[(0,.ptr 3 1 0 0),(1,.d (.sl 1 (i64s l))),(5,.ptr 5 0 0 0),(7,.own 6 i 0 i),(11,.d (.sl 1 (i64s l))),(12,aI .i64 l.length),(13,aI .i64 i)])
  (fun i=>[a0,a1,a2,bdK B,msM B.bo,ctK c,⟨i,true,29,5,dEls (Nd.ds (C.take i))⟩]) (fun i=>i≤l.length) (fun i=>l.length - i) 0
  ((Sub.ghost 0 29 5).trans (Sub.slot (s:=7) (c:=.own 6 0 0 0) (VLe.nil_own (k:=⟨0,true,29,5,[]⟩) (by simp) rfl))) 7 (by simp) (by simp[m0,m1,m2,cE_ms]) (by simp) (by omega) ?_
 rintro i hi K hK
 rcases Nat.lt_or_ge i l.length with hlt | hge
 case inr=>
  obtain rfl:i=l.length:=by omega
  rw[← hcn,List.take_length]
  have ht:List.take C.length (Nd.ds C)=Nd.ds C:=List.take_of_length_le (by simp)
  simp[hcn]
  refine⟨?_,hcl.fix⟩
  rw[hcn] at ht
  simp[ht,hcn]
 obtain⟨x,hx⟩:∃ x,l[i]? = some x:=⟨_,gEG hlt⟩
 have hx2:=(gSI.1 hx).2
 have hcx:=hc x (gMO hx)
 have hgi:=hcg i x hx
 have htk:C.take (i + 1)=C.take i++[code x (Bu.firstC (l.drop (i + 1)) c)]:=by rw[List.take_add_one,hgi]; rfl
 have hmin:min i C.length=i:=by omega
 by_cases hnx:i + 1 < l.length
 case' pos=>
  obtain⟨y,hy⟩:∃ y,l[i + 1]? = some y:=⟨_,gEG hnx⟩
  have hy2:=(gSI.1 hy).2
  have hfc:Bu.firstC (l.drop (i + 1)) c=⟨y,c.h,c.x⟩:=by
   rw[List.drop_eq_getElem_cons hnx,hy2]
   rfl
  rw[hfc] at htk
  have hf:=AC.frame (N:=[ctK c,⟨i,true,29,5,dEls (Nd.ds (C.take i))⟩,ctK ⟨y,c.h,c.x⟩]) hcl (by simp[cln,cln.clnL]) (hcx ⟨y,c.h,c.x⟩)
  obtain⟨Z,hZ⟩:∃ Z,code x ⟨y,c.h,c.x⟩=Z:=⟨_,rfl⟩
  rw[hZ] at hf htk
  have hiw:IntKind.i64.wrap ((i:Int) + 1)=((i + 1:Nat):Int):=succ_wrap hlt hm
  have hnx2:(i:Int) + 1 < l.length:=by omega
  have h01:0≤(i:Int) + 1:=by omega
  simp[hlt,hx,hx2,hiw,hnx,hnx2,h01,hy,hy2,setEls]
 case' neg=>
  have hfc:Bu.firstC (l.drop (i + 1)) c=c:=by
   rw[List.drop_of_length_le (by omega)]
   rfl
  rw[hfc] at htk
  have hf:=AC.frame (N:=[ctK c,⟨i,true,29,5,dEls (Nd.ds (C.take i))⟩,ctK c]) hcl (by simp[cln,cln.clnL]) (hcx c)
  obtain⟨Z,hZ⟩:∃ Z,code x c=Z:=⟨_,rfl⟩
  rw[hZ] at hf htk
  have hiw:IntKind.i64.wrap ((i:Int) + 1)=((i + 1:Nat):Int):=succ_wrap hlt hm
  have hnx2:¬ (i:Int) + 1 < l.length:=by omega
  simp[hlt,hx,hx2,hiw,hnx,hnx2]
 all_goals
  refine aCall_ofc hf (by kernel_rfl) ?_
  rintro _ _ ⟨rfl,rfl⟩
  simp[hmin]
  refine aRaw_app byt_27 ?_
  simp[hmin]
  refine⟨by unfold maxLen; omega,by omega,?_⟩
  simp[hiw]
  refine hK (i + 1) (by omega) (by omega) (Sub.take 7 (by simp)) 7 (by simp) ?_ (by simp)
  rw[htk]
  simp[m0,m1,m2,cE_ms,Nd.d_eq]
end
section
variable (a0 a1 a2:Blk) (B:Bu)
abbrev bpK:Blk:=⟨0,true,99,1,[[.ptr 3 1 0 0]]⟩
abbrev ilK (l:List Int):Blk:=⟨0,true,48,1,[[.d (.sl 1 (i64s l))]]⟩
abbrev hp8 (l:List Int) (c:Ct):AHeap:=hp5 a0 a1 a2 B++[bpK,ilK l,ctK c]
theorem hp8_cl (hcl:ClH (hp5 a0 a1 a2 B)) (l:List Int) (c:Ct):ClH (hp8 a0 a1 a2 B l c):=
 hcl.app fun b hb=>by
  simp only[List.mem_cons,List.not_mem_nil,or_false] at hb
  rcases hb with rfl | rfl | rfl<;>simp[clnB,cln,cln.clnL]
theorem sttransfer1_ac (hcl:ClH (hp5 a0 a1 a2 B)) (code:Int→Ct→Nd) (inl:List Int) (hl:inl.length≤1000000) (c:Ct) (y:Int) (hc:y∈inl→CodeOk a0 a1 a2 B code y) :
 AC Tryz.prog 167 [aI .i64 y,.ptr 5 0 0 0,.ptr 6 0 0 0,.ptr 7 0 0 0] (hp8 a0 a1 a2 B inl c) (AtH (hp8 a0 a1 a2 B inl c) (ndA (Bu.wayN code inl c y))):=by
 obtain⟨R,hR⟩:∃ R,Bu.wayN code inl c y=R:=⟨_,rfl⟩
 have hw:=AC.frame (N:=[bpK,ilK inl,ctK c,ndZ]) hcl (by simp[cln,cln.clnL]) (stway_ac a0 a1 a2 B hcl code inl hl c y hc)
 rw[hR] at hw ⊢
 have hc8:=(hp8_cl a0 a1 a2 B hcl inl c).fix
 refine AC.resH (by simp[cln,cln.clnL]) (ac_of Tryz.func167 rfl (by kernel_rfl) (by simp[Tryz.ntmps167]) fun _=>?_)
 simp[Tryz.f167]
 refine aCall_ofc hw (by kernel_rfl) ?_
 rintro _ _ ⟨rfl,rfl⟩
 simp[setEls]
 exact⟨by simp,hc8⟩
abbrev sK8 (s:St):Blk:=⟨0,true,62,8,[[aI .i64 8,aI .i64 s.va,aI .i64 s.wd,aI .i64 s.nx,aI .i64 s.el,aI .u32 s.tg,.d (.sl 5 (Ex.ds s.e)),.d (.sl 1 (i64s s.cs))]]⟩
abbrev sK7 (s:St):Blk:=⟨0,true,62,8,[[aI .i64 7,aI .i64 s.va,aI .i64 s.wd,aI .i64 s.nx,aI .i64 s.el,aI .u32 s.tg,.d (.sl 5 (Ex.ds s.e)),.d (.sl 1 (i64s s.cs))]]⟩
abbrev cdK1 (x:Ex):Blk:=⟨1,true,60,5,[[aI .i64 x.op,aI .u32 x.n,aI .i64 x.v,aI .i64 x.wd,.d (.sl 5 (Ex.ds x.l))]]⟩
abbrev ndR (Y:Nd):List AV:=[aI .i64 Y.kd,aI .i64 Y.bk,aI .i64 Y.lb,.d (.sl 5 (Ex.ds Y.cd)),.d (.sl 5 (Nd.ds Y.l))]
abbrev ndK2 (X Y:Nd):Blk:=⟨1,true,29,5,[ndR X,ndR Y]⟩
abbrev ghK:Blk:=⟨0,true,0,0,[]⟩
abbrev ifK:Blk:=⟨0,true,29,5,[[aI .i64 3,aI .i64 0,aI .i64 0,.own 10 1 0 1,.own 11 1 0 2]]⟩
abbrev cdK (x:Ex):Blk:=⟨0,true,60,5,[[aI .i64 x.op,aI .u32 x.n,aI .i64 x.v,aI .i64 x.wd,.d (.sl 5 (Ex.ds x.l))]]⟩
abbrev swK (v:AV):Blk:=⟨0,true,29,5,[[aI .i64 6,aI .i64 0,aI .i64 0,.own 10 0 0 1,v]]⟩
abbrev ndK1 (Y:Nd):Blk:=⟨0,true,29,5,[[aI .i64 Y.kd,aI .i64 Y.bk,aI .i64 Y.lb,.d (.sl 5 (Ex.ds Y.cd)),.d (.sl 5 (Nd.ds Y.l))]]⟩
structure TrOk (s:St):Prop where
 e:s.op=7∨s.op=8→∃ x l,s.e=x::l∧x.nodes≤1000000000∧s.e.length≤1000000
 cs:s.cs.length≤1000000
set_option maxRecDepth 100000 in
set_option maxHeartbeats 0 in
theorem sttransfer_ac (hcl:ClH (hp5 a0 a1 a2 B)) (hB:BuOk B) (code:Int→Ct→Nd) (k:Nat) (hk:k < B.g.b.length) (inl:List Int) (hl:inl.length≤1000000) (c:Ct) (hs:TrOk (B.lastS k))
 (hc:∀ y∈(B.lastS k).tos,y∈inl→CodeOk a0 a1 a2 B code y) :
 AC Tryz.prog 110 [.ptr 3 1 0 0,aI .i64 k,.d (.sl 1 (i64s inl)),ctA c] (hp5 a0 a1 a2 B) (AtH (hp5 a0 a1 a2 B) (ndA (B.transN code k inl c))):=by
 obtain⟨R,hR⟩:∃ R,B.transN code k inl c=R:=⟨_,rfl⟩
 have hla:=AC.frame (N:=[bpK,ilK inl,ctK c,ndZ]) hcl (by simp[cln,cln.clnL]) (stlast_ac a0 a1 a2 B hcl hB k hk)
 rw[hR]
 unfold Bu.transN at hR
 obtain⟨s,hss⟩:∃ s,B.lastS k=s:=⟨_,rfl⟩
 rw[hss] at hs hc hla hR
 obtain⟨he,hcs⟩:=hs
 have hcm:s.cs.length≤maxLen:=by unfold maxLen; omega
 obtain⟨W,hW⟩:∃ W,Bu.wayN code inl c=W:=⟨_,rfl⟩
 have hw:=fun (y:Int) (hy:y∈s.tos) (N:AHeap)=>AC.frame (N:=N) (hp8_cl a0 a1 a2 B hcl inl c) (by simp[cln,cln.clnL]) (sttransfer1_ac a0 a1 a2 B hcl code inl hl c y (hc y hy))
 rw[hW] at hw hR
 unfold St.tos at hw
 have hc5:=hcl.fix
 refine AC.resH (by simp[cln,cln.clnL]) (ac_of Tryz.func110 rfl (by kernel_rfl) (by simp[Tryz.ntmps110]) fun _=>?_)
 simp[Tryz.f110]
 refine aCall_ofc hla (by kernel_rfl) ?_
 rintro _ _ ⟨rfl,rfl⟩
 simp[St.d_eq,setEls]
 by_cases h6:s.op=6
 ·have hww:=hw s.nx (by simp[h6])
  simp only[h6,if_true] at hR
  rw[hR] at hww
  simp[h6]
  refine aCall_ofc (hww _) (by kernel_rfl) ?_
  rintro _ _ ⟨rfl,rfl⟩
  simp[setEls]
  exact⟨by simp,hc5⟩
 by_cases h7:s.op=7
 ·obtain⟨x,l,hx,hxn,hxl⟩:=he (.inl h7)
  simp[h6,h7,hx] at hR
  have hxe:0 < s.e.length:=by rw[hx]; simp
  have hx0:s.e[0]? = some x:=by rw[hx]; rfl
  have hx1:s.e[0]'hxe=x:=by simp[hx]
  have hw1:=hw s.nx (by simp[h7])
  have hw2:=hw s.el (by simp[h7])
  obtain⟨X,hX⟩:∃ X,W s.nx=X:=⟨_,rfl⟩
  obtain⟨Y,hY⟩:∃ Y,W s.el=Y:=⟨_,rfl⟩
  rw[hX] at hw1 hR
  rw[hY] at hw2 hR
  subst hR
  simp[h6,h7]
  refine adrawG 2 [.ptr 9 0 0 6,.d (.sl 5 (Ex.ds s.e)),.ip x.d,exA x,exA x,.own 10 1 0 1,.fn 167 [] [.ptr 5 0 0 0,.ptr 6 0 0 0,.ptr 7 0 0 0],.ptr 9 0 0 3,aI .i64 s.nx,ndA X,.fn 167 [] [.ptr 5 0 0 0,.ptr 6 0 0 0,.ptr 7 0 0 0],.ptr 9 0 0 4,aI .i64 s.el,ndA Y,.own 11 1 0 2,.agg [aI .i64 3,aI .i64 0,aI .i64 0,.own 10 1 0 1,.own 11 1 0 2],.any]
   [(0, hp8 a0 a1 a2 B inl c ++ [ndZ, sK7 s, ghK, ghK]),
    (16,hp8 a0 a1 a2 B inl c++[ndZ,sK7 s,ghK,ghK]),
    (48,hp8 a0 a1 a2 B inl c++[ndZ,sK7 s,cdK1 x,ghK]),
    (528,hp8 a0 a1 a2 B inl c++[ndZ,sK7 s,ghK,ghK]),
    (560,hp8 a0 a1 a2 B inl c++[ndZ,sK7 s,cdK1 x,ghK]),
    (8720,hp8 a0 a1 a2 B inl c++[ndZ,sK7 s,ghK,ghK]),
    (8752,hp8 a0 a1 a2 B inl c++[ndZ,sK7 s,cdK1 x,ghK]),
    (25104,hp8 a0 a1 a2 B inl c++[ndZ,sK7 s,ghK,ndK2 X Y]),
    (25136,hp8 a0 a1 a2 B inl c++[ndZ,sK7 s,cdK1 x,ndK2 X Y]),
    (90672,hp8 a0 a1 a2 B inl c++[ifK,sK7 s,cdK1 x,ndK2 X Y])]
   (by kernel_rfl) (by kernel_rfl) rfl rfl ?_ ?_
  ·simp only[rowsG,List.mem_cons,List.not_mem_nil,or_false,forall_eq_or_imp,forall_eq]
   refine⟨⟨?g0_0,nmy,nmy,nmy,nmy,nmy,nmy,nmy,nmy,nmy⟩,⟨?g1_0,nmy,nmy,nmy,nmy,nmy,nmy,nmy,nmy,nmy⟩,⟨?g2_0,nmy,nmy,nmy,nmy,nmy,nmy,nmy,nmy,nmy⟩,⟨?g3_0,nmy,nmy,nmy,nmy,nmy,nmy,nmy,nmy,nmy⟩,⟨?g4_0,nmy,nmy,nmy,nmy,nmy,nmy,nmy,nmy,nmy⟩,⟨nmy,?g5_16,nmy,?g5_528,nmy,?g5_8720,nmy,?g5_25104,nmy,nmy⟩,⟨?g6_0,?g6_16,?g6_48,nmy,nmy,nmy,nmy,nmy,nmy,nmy⟩,⟨?g7_0,?g7_16,?g7_48,nmy,nmy,nmy,nmy,nmy,nmy,nmy⟩,⟨?g8_0,?g8_16,?g8_48,nmy,nmy,nmy,nmy,nmy,nmy,nmy⟩,⟨nmy,?g9_16,?g9_48,nmy,nmy,nmy,nmy,nmy,nmy,nmy⟩,⟨?g10_0,?g10_16,?g10_48,?g10_528,?g10_560,nmy,nmy,nmy,nmy,nmy⟩,⟨?g11_0,?g11_16,?g11_48,?g11_528,?g11_560,nmy,nmy,nmy,nmy,nmy⟩,⟨?g12_0,?g12_16,?g12_48,?g12_528,?g12_560,nmy,nmy,nmy,nmy,nmy⟩,⟨nmy,nmy,nmy,?g13_528,?g13_560,nmy,nmy,nmy,nmy,nmy⟩,⟨nmy,nmy,nmy,nmy,nmy,?g14_8720,?g14_8752,nmy,nmy,nmy⟩,⟨nmy,nmy,nmy,nmy,nmy,nmy,nmy,nmy,?g15_25136,nmy⟩,⟨nmy,nmy,nmy,nmy,nmy,nmy,nmy,nmy,?g16_25136,nmy⟩,trivial⟩
   all_goals
    intro hmay
    clear hmay
    intro e' K' h A3 hA hk
    simp only[Op.operands,Call.operands] at h
    simp[still,heapM,putR,dvA] at h hA hk
    subst hA
   case g5_16 | g5_528 | g5_8720 | g5_25104=>
    refine avopG_slice 10 (k:=cdK x) (k0:=ghK) rfl (by simp[h]) rfl rfl ?_
    simpa [Ex.d_eq] using hk
   case g14_8720 | g14_8752=>
    refine avopG_slice 11 (k:=⟨0,true,29,5,[ndR X,ndR Y]⟩) (k0:=ghK) rfl (by simp[h]) rfl rfl ?_
    simpa using hk
   case g4_0=>
    refine avopG_of ?_
    simp[h]
    refine aCall_of (stcopy_af x hxn) (by kernel_rfl) (by simp[Ex.d_eq]) ?_
    simpa using hk
   case g9_16 | g9_48=>
    refine avopG_of ?_
    simp[h]
    refine aCall_ofc (hw1 _) (by kernel_rfl) ?_
    rintro _ _ ⟨rfl,rfl⟩
    exact hk
   case g13_528 | g13_560=>
    refine avopG_of ?_
    simp[h]
    refine aCall_ofc (hw2 _) (by kernel_rfl) ?_
    rintro _ _ ⟨rfl,rfl⟩
    exact hk
   all_goals
    refine avopG_of ?_
    try simp[h,setEls,Ex.d_eq,hx0,hx1,hxe]
    first
    | exact hk
    | simpa [Ex.d_eq] using hk
    | skip
  simp[putR,setEls]
  exact⟨by simp[Ex.d_eq,Nd.d_eq],hc5⟩
 by_cases h8:s.op=8
 ·obtain⟨x,l,hx,hxn,hxl⟩:=he (.inr h8)
  simp[h6,h7,h8,hx] at hR
  have hxe:0 < s.e.length:=by rw[hx]; simp
  have hx0:s.e[0]? = some x:=by rw[hx]; rfl
  have hx1:s.e[0]'hxe=x:=by simp[hx]
  simp[h6,h7,h8,hx0,hx1,hxe,Ex.d_eq]
  refine aCall_of (stcopy_af x hxn) (by kernel_rfl) (by simp[Ex.d_eq]) ?_
  simp[setEls]
  obtain⟨T,hT⟩:∃ T,List.map W s.cs=T:=⟨_,rfl⟩
  rw[hT] at hR
  have hTl:T.length=s.cs.length:=by rw[← hT]; simp
  have hc6:=hcl.fix
  simp only[List.map_cons,List.map_nil,List.cons.injEq,and_true,List.length_cons,List.length_nil] at hc6
  obtain⟨c0,c1,c2,c3,c4⟩:=hc6
  have m0:=cE_mono (m':=13) (by omega) c0
  have m1:=cE_mono (m':=13) (by omega) c1
  have m2:=cE_mono (m':=13) (by omega) c2
  refine aLoop_st (fun i:Nat=>[(8,.ptr 8 0 0 0),(10,.fn 167 [] [.ptr 5 0 0 0,.ptr 6 0 0 0,.ptr 7 0 0 0]),(11,.ptr 11 0 0 0),(54,.d (.sl 1 (i64s s.cs))),(55,aI .i64 s.cs.length),(56,aI .i64 i)])
   (fun i=>hp8 a0 a1 a2 B inl c++[ndZ,sK8 s,cdK x,swK (.own 12 i 0 i),⟨i,true,29,5,dEls (Nd.ds (T.take i))⟩])
   (fun i=>i≤s.cs.length) (fun i=>s.cs.length - i) 0 ((Sub.ghost 0 29 5).trans (Sub.cell (b:=11) (i:=0) (o:=4) (c:=.d (.v (.slice none 0 0))) (c':=.own 12 0 0 0) (by simp; rfl) rfl rfl (VLe.nil_own (k:=⟨0,true,29,5,[]⟩) (by simp) rfl))) 13 (by omega) (by simp[setEls,m0,m1,m2,cE_ms]) (by simp) (by omega) ?_
  rintro i hi K hK
  rcases Nat.lt_or_ge i s.cs.length with hlt | hge
  case inr=>
   obtain rfl:i=s.cs.length:=by omega
   have hds:List.take s.cs.length (Nd.ds T)=Nd.ds T:=List.take_of_length_le (by simp[hTl])
   rw[← hTl,List.take_length]
   rw[hTl]
   subst hR
   simp[setEls,hTl,hds]
   exact⟨by simp[hTl,hds,Ex.d_eq],hc5⟩
  obtain⟨y,hy⟩:∃ y,s.cs[i]? = some y:=⟨_,gEG hlt⟩
  have hy2:=(gSI.1 hy).2
  have hwy:=hw y (by simp[h8]; exact gMO hy) [ndZ,sK8 s,cdK x,swK (.own 12 i 0 i),⟨i,true,29,5,dEls (Nd.ds (T.take i))⟩]
  have hft:T.take (i + 1)=T.take i++[W y]:=by rw[List.take_add_one,← hT,List.getElem?_map,hy]; rfl
  obtain⟨Y,hY⟩:∃ Y,W y=Y:=⟨_,rfl⟩
  rw[hY] at hft hwy
  have hmin:min i T.length=i:=by omega
  simp[hlt,hy,hy2]
  refine adrawR [.ptr 11 0 0 4,.own 12 i 0 i,.fn 167 [] [.ptr 5 0 0 0,.ptr 6 0 0 0,.ptr 7 0 0 0],aI .i64 y,ndA Y,.own 13 0 0 1,.own 12 (i + 1) 0 (i + 1),.ptr 11 0 0 4,.any]
   [(0, hp8 a0 a1 a2 B inl c ++ [ndZ, sK8 s, cdK x, swK (.own 12 i 0 i), ⟨i, true, 29, 5, dEls (Nd.ds (T.take i))⟩]), (16, hp8 a0 a1 a2 B inl c ++ [ndZ, sK8 s, cdK x, swK (.own 12 i 0 i), ⟨i, true, 29, 5, dEls (Nd.ds (T.take i))⟩]),
    (48,hp8 a0 a1 a2 B inl c++[ndZ,sK8 s,cdK x,swK (.own 12 i 0 i),⟨i,true,29,5,dEls (Nd.ds (T.take i))⟩,ndK1 Y]),(112,hp8 a0 a1 a2 B inl c++[ndZ,sK8 s,cdK x,swK (.own 12 i 0 i),⟨i + 1,true,29,5,dEls (Nd.ds (T.take (i + 1)))⟩,ndK1 Y]),
    (368,hp8 a0 a1 a2 B inl c++[ndZ,sK8 s,cdK x,swK (.own 12 (i + 1) 0 (i + 1)),⟨i + 1,true,29,5,dEls (Nd.ds (T.take (i + 1)))⟩,ndK1 Y])]
   (by kernel_rfl) (by kernel_rfl) rfl rfl ?_ ?_
  ·simp only[rowsR,List.mem_cons,List.not_mem_nil,or_false,forall_eq_or_imp,forall_eq]
   refine⟨⟨?h0_0,?h0_16,?h0_48,nmy,nmy⟩,⟨?h1_0,?h1_16,?h1_48,nmy,nmy⟩,⟨?h2_0,nmy,nmy,nmy,nmy⟩,⟨?h3_0,nmy,nmy,nmy,nmy⟩,⟨?h4_0,nmy,nmy,nmy,nmy⟩,⟨nmy,?h5_16,nmy,nmy,nmy⟩,⟨nmy,nmy,?h6_48,nmy,nmy⟩,⟨nmy,nmy,nmy,?h7_112,nmy⟩,⟨nmy,nmy,nmy,?h8_112,nmy⟩,trivial⟩
   all_goals
    intro hmay
    clear hmay
    intro e' K' h A3 hA hk
    simp only[Op.operands,Call.operands] at h
    simp[still,heapM,putR,dvA] at h hA hk
    subst hA
    try simp[h,setEls]
    try exact hk
   case h4_0=>
    refine aCall_ofc hwy (by kernel_rfl) ?_
    rintro _ _ ⟨rfl,rfl⟩
    exact hk
   case h6_48=>
    refine aRaw_app byt_27 ?_
    simp[h,hmin]
    refine⟨by unfold maxLen; omega,by omega,?_⟩
    simpa [hft,Nd.d_eq] using hk
  simp[putR,succ_wrap hlt hcm]
  refine hK (i + 1) (by omega) (by omega) (Sub.take 13 (by omega)) 13 (by omega) ?_ (by simp)
  rw[hft]
  simp[m0,m1,m2,cE_ms,Nd.d_eq]
 by_cases h9:s.op=9
 ·simp[h6,h7,h8,h9] at hR
  subst hR
  simp[h6,h7,h8,h9,setEls]
  exact⟨by simp,hc5⟩
 simp[h6,h7,h8,h9] at hR
 subst hR
 simp[h6,h7,h8,h9,setEls]
 exact⟨by simp,hc5⟩
end
section
variable (a0 a1 a2:Blk) (B:Bu)
abbrev lbK (k:Int):Blk:=⟨0,true,29,5,[[aI .i64 10,aI .i64 0,aI .i64 k,nilV,nilV]]⟩
theorem lkBu_eq (x:Int):∀ L,lkBu x L=lkS x L
 | []=>rfl
 | p::l=>by simp only[lkBu,lkS,lkBu_eq x l]
set_option maxRecDepth 100000 in
set_option maxHeartbeats 0 in
theorem stcode_none_ac (hcl:ClH (hp5 a0 a1 a2 B)) (hB:BuOk B) (code:Int→Ct→Nd) (k:Nat) (hk:k < B.g.b.length) (c:Ct) (hno:lkBu k B.bo=none) (hs:TrOk (B.lastS k)) (hc:∀ y∈B.kids k,CodeOk a0 a1 a2 B code y) :
 AC Tryz.prog 42 [.ptr 3 1 0 0,aI .i64 k,ctA c] (hp5 a0 a1 a2 B) (AtH (hp5 a0 a1 a2 B) (ndA (Bu.seqN (Bu.labN k::Bu.blkN k::B.transN code k (B.inlined (B.kids k)) (Bu.firstC (B.placed (B.kids k)) c)::Bu.chainN code (B.placed (B.kids k)) c)))):=by
 rw[lkBu_eq] at hno
 have hkc:k < B.ch.length:=by rw[hB.ch]; exact hk
 obtain⟨kl,hkl⟩:∃ kl,B.ch[k]? = some kl:=⟨_,gEG hkc⟩
 have hkl2:=(gSI.1 hkl).2
 have hkids:B.kids k=kl:=by unfold Bu.kids; rw[Int.toNat_natCast,List.getD_eq_getElem?_getD,hkl]; rfl
 obtain⟨hl1,hl2⟩:=hB.kid kl (gMO hkl)
 rw[hkids] at hc ⊢
 have hsp:=AC.frame (N:=[ctK c,ndZ,lbK k]) hcl (by simp[cln,cln.clnL]) (stsplit_ac a0 a1 a2 B hcl hB kl hl1 hl2)
 refine AC.resH (by simp[cln,cln.clnL]) (ac_of Tryz.func42 rfl (by kernel_rfl) (by simp[Tryz.ntmps42]) fun _=>?_)
 simp[Tryz.f42]
 refine aRaw_lookup (r:=.tup [nilV,aB false]) (by simpa [okM,hno] using look_ms (P:=Tryz.prog) (t:=146) (kt:=3) (et:=48) (A:=hp5 a0 a1 a2 B++[ctK c,ndZ,lbK k]) (b:=4) (L:=B.bo) (by kernel_rfl) (by kernel_rfl) (by kernel_rfl) rfl k true) ?_
 simp[hk,hkc,hkl,hkl2]
 refine aCall_ofc hsp (by kernel_rfl) ?_
 rintro _ _ ⟨rfl,rfl⟩
 simp
 obtain⟨pl,hpl⟩:∃ pl,B.placed kl=pl:=⟨_,rfl⟩
 obtain⟨il,hil⟩:∃ il,B.inlined kl=il:=⟨_,rfl⟩
 have hple:pl.length≤1000000:=by rw[← hpl]; exact Nat.le_trans (List.length_filter_le _ _) hl1
 have hile:il.length≤1000000:=by rw[← hil]; exact Nat.le_trans (List.length_filter_le _ _) hl1
 have hcp:∀ y∈pl,CodeOk a0 a1 a2 B code y:=fun y hy=>hc y (by rw[← hpl] at hy; exact (List.mem_filter.1 hy).1)
 have hci:∀ y∈il,CodeOk a0 a1 a2 B code y:=fun y hy=>hc y (by rw[← hil] at hy; exact (List.mem_filter.1 hy).1)
 have htr:=AC.frame (N:=[ctK c,ndZ,lbK k]) hcl (by simp[cln,cln.clnL]) (sttransfer_ac a0 a1 a2 B hcl hB code k hk il hile (Bu.firstC pl c) hs fun y _ hy=>hci y hy)
 have hch:=fun (N:AHeap)=>AC.frame (N:=N) hcl (by simp[cln,cln.clnL]) (stchain_ac a0 a1 a2 B hcl code pl hple c hcp)
 rw[hpl,hil]
 obtain⟨T,hT⟩:∃ T,B.transN code k il (Bu.firstC pl c)=T:=⟨_,rfl⟩
 obtain⟨C,hC⟩:∃ C,Bu.chainN code pl c=C:=⟨_,rfl⟩
 rw[hT] at htr ⊢
 rw[hC]
 simp only[hC] at hch
 have hCl:C.length=pl.length:=by rw[← hC]; exact chain_len _ _ _
 have hfi:=stfirst_af pl c (by unfold maxLen; omega)
 refine adrawR [.agg [aI .i64 10,aI .i64 0,aI .i64 k,nilV,nilV],aI .i64 k,.agg [aI .i64 2,aI .i64 k,aI .i64 0,nilV,nilV],.ptr 3 1 0 0,aI .i64 k,.d (.sl 1 (i64s il)),.d (.sl 1 (i64s pl)),ctA c,ctA (Bu.firstC pl c),ndA T,.own 8 0 0 3,.own 8 0 0 3]
  [(0,hp5 a0 a1 a2 B++[ctK c,ndZ,lbK k]),(256,hp5 a0 a1 a2 B++[ctK c,ndZ,lbK k]),(768,hp5 a0 a1 a2 B++[ctK c,ndZ,lbK k]),(1792,hp5 a0 a1 a2 B++[ctK c,ndZ,lbK k,⟨0,true,29,5,[[aI .i64 10,aI .i64 0,aI .i64 k,nilV,nilV],[aI .i64 2,aI .i64 k,aI .i64 0,nilV,nilV],ndR T]⟩])]
  (by kernel_rfl) (by kernel_rfl) rfl rfl ?_ ?_
 ·simp only[rowsR,List.mem_cons,List.not_mem_nil,or_false,forall_eq_or_imp,forall_eq]
  refine⟨⟨?r0_0,?r0_256,?r0_768,nmy⟩,⟨?r1_0,?r1_256,?r1_768,nmy⟩,⟨?r2_0,?r2_256,?r2_768,nmy⟩,⟨?r3_0,?r3_256,nmy,nmy⟩,⟨?r4_0,?r4_256,nmy,nmy⟩,⟨?r5_0,?r5_256,nmy,nmy⟩,⟨?r6_0,nmy,nmy,nmy⟩,⟨?r7_0,nmy,nmy,nmy⟩,⟨?r8_0,nmy,nmy,nmy⟩,⟨nmy,?r9_256,nmy,nmy⟩,⟨nmy,nmy,?r10_768,nmy⟩,⟨nmy,nmy,nmy,?r11_1792⟩,trivial⟩
  all_goals
   intro hmay
   clear hmay
   intro e' K' h A3 hA hk
   simp only[Op.operands,Call.operands] at h
   simp[still,heapM,putR,dvA] at h hA hk
   subst hA
   simp[h,hpl,hil]
   try exact hk
  case r8_0=>
   refine aCall_of hfi (by kernel_rfl) (by simp) ?_
   simpa using hk
  case r9_256=>
   refine aCall_ofc htr (by kernel_rfl) ?_
   rintro _ _ ⟨rfl,rfl⟩
   exact hk
 simp[putR,hpl,hil]
 refine aCall_ofc (hch _) (by kernel_rfl) ?_
 rintro _ _ ⟨rfl,rfl⟩
 simp
 refine aRaw_app byt_27 ?_
 have hd5:∀ x∈dEls (Nd.ds C),x.length=5:=by
  intro x hx
  obtain⟨i,hi⟩:=List.mem_iff_getElem?.1 hx
  simp[Nd.d_eq] at hi
  obtain⟨a,_,rfl⟩:=hi
  simp[Nd.d_eq]
 simp
 rw[if_pos hd5]
 simp
 refine⟨by unfold maxLen; omega,by omega,?_⟩
 refine aCall_ofz [8] (stseq_af (Bu.labN k::Bu.blkN k::T::C)) (by kernel_rfl) (by simp[frz,Nd.d_eq,Bu.labN,Bu.blkN,show 3 + C.length=C.length + 1 + 1 + 1 by omega]) ?_
 simp[frz,setEls]
 exact⟨by simp,hcl.fix⟩
end
def Both (P:List Int) (l:List Nd):Prop:=(blks l).Perm P∧(labs l).Perm P
theorem blks_app (l m:List Nd):blks (l++m)=blks l++blks m:=by simp[blks]
theorem labs_app (l m:List Nd):labs (l++m)=labs l++labs m:=by simp[labs]
theorem Both.app {P Q:List Int} {l m:List Nd} (h:Both P l) (g:Both Q m):Both (P++Q) (l++m):=⟨by rw[blks_app]; exact h.1.append g.1,by rw[labs_app]; exact h.2.append g.2⟩
theorem Both.perm {P Q:List Int} {l:List Nd} (h:Both P l) (hp:P.Perm Q):Both Q l:=⟨h.1.trans hp,h.2.trans hp⟩
theorem Both.nil:Both [] []:=⟨.refl _,.refl _⟩
theorem Both.cons0 {P:List Int} {e:Nd} {l:List Nd} (hb:isBk e=false) (hl:e.kd≠10) (h:Both P l):Both P (e::l):=by
 refine⟨?_,?_⟩
 ·have:blks (e::l)=blks l:=by simp[blks,hb]
  rw[this]; exact h.1
 ·have:labs (e::l)=labs l:=by simp[labs,hl]
  rw[this]; exact h.2
theorem Both.cons2 {P:List Int} {l:List Nd} {e:Nd} {k:Int} {m:List Nd} (hb:isBk e=true) (hl:e.kd≠10) (hk:e.bk=k) (hm:blks m=[]∧labs m=[]) (h:Both P l):Both (k::P) (Bu.labN k::(m++e::l)):=by
 refine⟨?_,?_⟩
 ·have:blks (Bu.labN k::(m++e::l))=k::blks l:=by
   have h1:=hm.1
   unfold blks at h1 ⊢
   simp at h1
   simp[Bu.labN,isBk]
   rw[List.filter_eq_nil_iff.2 (fun a ha=>by simpa [isBk] using h1 a ha)]
   rw[List.filter_cons_of_pos (by simpa [isBk] using hb),List.map_cons,hk]
   rfl
  rw[this]; exact h.1.cons k
 ·have:labs (Bu.labN k::(m++e::l))=k::labs l:=by
   have h1:=hm.2
   unfold labs at h1 ⊢
   simp at h1
   simp[Bu.labN]
   rw[List.filter_eq_nil_iff.2 (fun a ha=>by simp[h1 a ha])]
   simp[hl]
  rw[this]; exact h.2.cons k
theorem Both.chain {sub:Int→List Int} {code:Int→Ct→Nd} (h:∀ y c,Both (sub y) (code y c).pre) (c:Ct):∀ l:List Int,Both (l.flatMap sub) (Nd.pres (Bu.chainN code l c))
 | []=>.nil
 | k :: l => by
   simp only[Bu.chainN,Nd.pres,List.flatMap_cons]
   exact (h k _).app (Both.chain h c l)
theorem Both.way {sub:Int→List Int} {code:Int→Ct→Nd} (h:∀ y c,Both (sub y) (code y c).pre) (inl:List Int) (c:Ct) (y:Int):Both (if y∈inl then sub y else []) (Bu.wayN code inl c y).pre:=by
 unfold Bu.wayN
 split
 ·exact h y c
 all_goals
  (repeat' split)<;>(simp only[Bu.seqN,Nd.pre,Nd.pres]; exact Both.nil.cons0 (by simp[isBk]) (by simp))
theorem way_cases {code:Int→Ct→Nd} (h:∀ y c,(code y c).kd=1) (inl:List Int) (c:Ct) (y:Int):(Bu.wayN code inl c y).kd=1∨(Bu.wayN code inl c y = .mk 8 0 0 [] []∧y=c.h)∨(Bu.wayN code inl c y = .mk 7 0 0 [] []∧y=c.x)∨Bu.wayN code inl c y = .mk 9 0 y [] []:=by
 unfold Bu.wayN
 split
 ·exact .inl (h y c)
 split
 ·exact .inl rfl
 split
 ·rename_i h1; exact .inr (.inl ⟨rfl,h1⟩)
 split
 ·rename_i h1; exact .inr (.inr (.inl ⟨rfl,h1⟩))
 ·exact .inr (.inr (.inr rfl))
theorem code_kd (B:Bu):∀ f k c,(B.codeN f k c).kd=1
 | 0,_,_=>rfl
 | f + 1, k, c => by
   unfold Bu.codeN
   split<;>rfl
theorem trans_if {B:Bu} {code:Int→Ct→Nd} (h:∀ y c,(code y c).kd=1) {k:Int} {inl:List Int} {c:Ct} (h3:(B.transN code k inl c).kd=3) :
 ∃ X Y,B.transN code k inl c = .mk 3 0 0 (B.transN code k inl c).cd [X,Y]∧(B.lastS k).op=7∧X=Bu.wayN code inl c (B.lastS k).nx∧Y=Bu.wayN code inl c (B.lastS k).el:=by
 unfold Bu.transN at h3 ⊢
 simp only at h3 ⊢
 split at h3
 ·rcases way_cases h inl c (B.lastS k).nx with h1 | ⟨h1,_⟩ | ⟨h1,_⟩ | h1
  ·rw[h1] at h3; omega
  all_goals
   rw[h1] at h3
   simp at h3
 split at h3
 ·rename_i h6 h7
  rw[if_neg h6,if_pos h7]
  exact⟨_,_,rfl,h7,rfl,rfl⟩
 split at h3
 ·simp at h3
 split at h3<;>simp at h3
theorem Both.ways {sub:Int→List Int} {code:Int→Ct→Nd} (h:∀ y c,Both (sub y) (code y c).pre) (inl:List Int) (c:Ct):∀ l:List Int,Both (l.flatMap fun y=>if y∈inl then sub y else []) (Nd.pres (l.map (Bu.wayN code inl c)))
 | []=>.nil
 | k :: l => by
   simp only[List.map_cons,Nd.pres,List.flatMap_cons]
   exact (Both.way h inl c k).app (Both.ways h inl c l)
theorem flat_if {sub:Int→List Int} (inl:List Int):∀ l:List Int,(l.flatMap fun y=>if y∈inl then sub y else [])=(l.filter fun y=>decide (y∈inl)).flatMap sub
 | []=>rfl
 | y :: l => by
   simp only[List.flatMap_cons,flat_if inl l,List.filter_cons]
   by_cases h:y∈inl<;>simp[h]
theorem nodup_count1 {l:List Int} (h:l.Nodup) (x:Int):l.count x=if x∈l then 1 else 0:=by
 have h1:=List.nodup_iff_count.1 h x
 by_cases hx:x∈l
 ·have:=List.count_pos_iff.2 hx
  rw[if_pos hx]
  omega
 ·rw[if_neg hx]
  exact List.count_eq_zero.2 hx
theorem nodup_perm {l m:List Int} (hl:l.Nodup) (hm:m.Nodup) (h:∀ x,x∈l↔x∈m):l.Perm m:=by
 rw[List.perm_iff_count]
 intro x
 rw[nodup_count1 hl,nodup_count1 hm]
 simp[h x]
theorem Both.trans (B:Bu) {sub:Int→List Int} {code:Int→Ct→Nd} (h:∀ y c,Both (sub y) (code y c).pre) (k:Int) (inl:List Int) (c:Ct) (hn:inl.Nodup) (h1:∀ y∈inl,(B.lastS k).tos.count y=1) :
 Both (inl.flatMap sub) (B.transN code k inl c).pre:=by
 have key:Both ((B.lastS k).tos.flatMap fun y=>if y∈inl then sub y else []) (B.transN code k inl c).pre:=by
  unfold Bu.transN St.tos
  simp only
  split
  ·simpa using Both.way h inl c (B.lastS k).nx
  split
  ·have:=Both.ways h inl c [(B.lastS k).nx,(B.lastS k).el]
   rw[Nd.pre_eq]
   exact this.cons0 (by simp[isBk]) (by simp)
  split
  ·have:=Both.ways h inl c (B.lastS k).cs
   rw[Nd.pre_eq]
   exact this.cons0 (by simp[isBk]) (by simp)
  split
  ·exact Both.nil.cons0 (by simp[isBk]) (by simp)
  ·exact Both.nil.cons0 (by simp[isBk]) (by simp)
 refine key.perm ?_
 rw[flat_if]
 refine List.Perm.flatMap_right _ ?_
 rw[List.perm_iff_count]
 intro x
 rw[nodup_count1 hn]
 by_cases hx:x∈inl
 ·rw[if_pos hx,List.count_filter (by simpa using hx)]
  exact h1 x hx
 ·rw[if_neg hx]
  exact List.count_eq_zero.2 fun hm=>hx (by simpa using (List.mem_filter.1 hm).2)
def Bu.sub (B:Bu):Nat→Int→List Int
 | 0,_=>[]
 | f + 1,k=>k::(B.kids k).flatMap (B.sub f)
theorem placed_perm (B:Bu) (l:List Int):(B.placed l++B.inlined l).Perm l:=by
 have:=List.filter_append_perm (fun k=>!decide (B.edg k=1)) l
 simpa [Bu.placed,Bu.inlined] using this
theorem aft_perm (B:Bu) (body:List Int):∀ (l:List Int) (p:List Int×List Int),((l.foldl (B.aftS body) p).1++(l.foldl (B.aftS body) p).2).Perm (p.1++p.2++l)
 | [],p=>by simp
 | x :: l, p => by
   rw[List.foldl_cons]
   refine (aft_perm B body l _).trans ?_
   unfold Bu.aftS
   split
   ·have h2:(p.1++[x]++p.2).Perm (p.1++p.2++[x]):=by
     rw[List.append_assoc,List.append_assoc]
     exact List.Perm.append_left _ List.perm_append_comm
    have:=h2.append_right l
    simpa using this
   ·simp
structure BuOne (B:Bu):Prop where
 nd:∀ k,(B.kids k).Nodup
 one:∀ k,∀ y∈B.kids k,B.edg y=1→(B.lastS k).tos.count y=1
theorem flat_perm {sub:Int→List Int} {a b c:List Int} (h:(a++b).Perm c):(b.flatMap sub++a.flatMap sub).Perm (c.flatMap sub):=by
 refine List.perm_append_comm.trans ?_
 rw[← List.flatMap_append]
 exact h.flatMap_right _
theorem code_both {B:Bu} (hB:BuOne B):∀ f k c,Both (B.sub f k) (B.codeN f k c).pre
 | 0, k, c => by
   simp only[Bu.sub,Bu.codeN,Bu.seqN,Nd.pre,Nd.pres]
   exact Both.nil.cons0 (by simp[isBk]) (by simp)
 | f + 1, k, c => by
   have ih:=code_both hB f
   have hin:∀ l:List Int,(∀ y∈l,y∈B.kids k)→∀ y∈B.inlined l,(B.lastS k).tos.count y=1:=fun l hl y hy=>by
    obtain⟨h1,h2⟩:=List.mem_filter.1 hy
    exact hB.one k y (hl y h1) (by simpa using h2)
   simp only[Bu.sub,Bu.codeN]
   split
   ·rename_i body _
    unfold Bu.loopN
    simp only
    have hap:((B.aft body (B.kids k)).1++(B.aft body (B.kids k)).2).Perm (B.kids k):=by
     have:=aft_perm B body (B.kids k) ([],[])
     simpa [Bu.aft] using this
    obtain⟨p,hp⟩:∃ p,B.aft body (B.kids k)=p:=⟨_,rfl⟩
    rw[hp] at hap ⊢
    have hpn:(p.1++p.2).Nodup:=hap.nodup_iff.2 (hB.nd k)
    have hp2:p.2.Nodup:=(List.nodup_append.1 hpn).2.1
    have hT:=fun c=>Both.trans B ih k (B.inlined p.2) c (hp2.filter _) (hin p.2 fun y hy=>hap.mem_iff.1 (by simp[hy]))
    have hC:=fun c=>Both.chain ih c (B.placed p.2)
    have hA:=Both.chain ih c p.1
    have hall:∀ c',Both ((p.2.flatMap (B.sub f))) ((B.transN (B.codeN f) k (B.inlined p.2) c').pre++Nd.pres (Bu.chainN (B.codeN f) (B.placed p.2) ⟨k,k,(Bu.firstC p.1 c).f⟩)):=fun c'=>
     ((hT c').app (hC _)).perm (flat_perm (placed_perm B p.2))
    have hfin:∀ {l:List Nd},Both (p.2.flatMap (B.sub f)) l→Both ((B.kids k).flatMap (B.sub f)) (l++Nd.pres (Bu.chainN (B.codeN f) p.1 c)):=fun h=>(h.app hA).perm (flat_perm hap)
    obtain⟨T,hTe⟩:∃ T,B.transN (B.codeN f) k (B.inlined p.2) (Bu.firstC (B.placed p.2) ⟨k,k,(Bu.firstC p.1 c).f⟩)=T:=⟨_,rfl⟩
    have hT2:=hT (Bu.firstC (B.placed p.2) ⟨k,k,(Bu.firstC p.1 c).f⟩)
    have ha2:=hall (Bu.firstC (B.placed p.2) ⟨k,k,(Bu.firstC p.1 c).f⟩)
    rw[hTe] at hT2 ha2 ⊢
    split
    ·rename_i hw
     have hw3:∃ X Y,T = .mk 3 0 0 T.cd [X,Y]∧Y = .mk 7 0 0 [] []:=by
      simp only[Bu.isWh,Bool.and_eq_true,decide_eq_true_eq] at hw
      obtain⟨⟨⟨_,w2⟩,w3⟩,_⟩:=hw
      rw[← hTe] at w2 w3 ⊢
      obtain⟨X,Y,e1,_,_,e2⟩:=trans_if (code_kd B f) w2
      refine⟨X,Y,e1,?_⟩
      rw[e1] at w3
      simp at w3
      rw[e2] at w3 ⊢
      rcases way_cases (code_kd B f) (B.inlined p.2) (Bu.firstC (B.placed p.2) ⟨k,k,(Bu.firstC p.1 c).f⟩) (B.lastS k).el with h1 | ⟨h1,_⟩ | ⟨h1,_⟩ | h1
      ·omega
      ·rw[h1] at w3; simp at w3
      ·exact h1
      ·rw[h1] at w3; simp at w3
     obtain⟨X,Y,hT3,hY⟩:=hw3
     subst hY
     rw[hT3] at ha2 ⊢
     rw[Nd.pre_eq] at ha2 ⊢
     simp only[Bu.seqN,Nd.pres,Nd.pre,Nd.l_mk,Nd.cd_mk,List.getD_cons_zero,List.append_nil,List.nil_append]
     refine Both.cons0 (by simp[isBk]) (by simp) ?_
     have h2:Both (p.2.flatMap (B.sub f)) (X.pre++Nd.pres (Bu.chainN (B.codeN f) (B.placed p.2) ⟨k,k,(Bu.firstC p.1 c).f⟩)):=by
      refine⟨?_,?_⟩
      ·have:=ha2.1
       simpa [Nd.pres,Nd.pre,blks_app,blks,isBk] using this
      ·have:=ha2.2
       simpa [Nd.pres,Nd.pre,labs_app,labs] using this
     have:=Both.cons2 (k:=k) (e:=.mk 5 k 0 T.cd [.mk 1 0 0 [] (X::Bu.chainN (B.codeN f) (B.placed p.2) ⟨k,k,(Bu.firstC p.1 c).f⟩)]) (m:=[]) (by simp[isBk]) (by simp) rfl ⟨rfl,rfl⟩ ((hfin h2).cons0 (e:=.mk 1 0 0 [] (X::Bu.chainN (B.codeN f) (B.placed p.2) ⟨k,k,(Bu.firstC p.1 c).f⟩)) (by simp[isBk]) (by simp))
     simpa [Bu.labN,Nd.pre,Nd.pres] using this
    ·simp only[Bu.seqN,Nd.pres,Nd.pre,List.append_nil,List.nil_append]
     refine Both.cons0 (by simp[isBk]) (by simp) ?_
     have:=Both.cons2 (k:=k) (e:=Bu.blkN k) (m:=[.mk 4 0 0 [] [.mk 1 0 0 [] (Bu.blkN k::T::Bu.chainN (B.codeN f) (B.placed p.2) ⟨k,k,(Bu.firstC p.1 c).f⟩)],.mk 1 0 0 [] (Bu.blkN k::T::Bu.chainN (B.codeN f) (B.placed p.2) ⟨k,k,(Bu.firstC p.1 c).f⟩)]) (by simp[isBk,Bu.blkN]) (by simp[Bu.blkN]) rfl ⟨by simp[blks,isBk],by simp[labs]⟩ (hfin ha2)
     simpa [Bu.labN,Bu.blkN,Nd.pre,Nd.pres] using this
   ·have hT:=Both.trans B ih k (B.inlined (B.kids k)) (Bu.firstC (B.placed (B.kids k)) c) ((hB.nd k).filter _) (hin _ fun _ h=>h)
    have hC:=Both.chain ih c (B.placed (B.kids k))
    have ha:=(hT.app hC).perm (flat_perm (placed_perm B (B.kids k)))
    have:=Both.cons2 (k:=k) (e:=Bu.blkN k) (m:=[]) (by simp[isBk,Bu.blkN]) (by simp[Bu.blkN]) rfl ⟨rfl,rfl⟩ ha
    simp only[Bu.seqN,Nd.pres,Nd.pre_eq]
    refine Both.cons0 (by simp[isBk]) (by simp) ?_
    simpa [Bu.labN,Bu.blkN,Nd.pre,Nd.pres] using this
structure BuT (B:Bu) (O:List Int) (par:Int→Int) (ms:Int→Nat):Prop where
 nd:O.Nodup
 kid:∀ k∈O,∀ y,y∈B.kids k→y∈O∧y≠0∧par y=k
 kidc:∀ k∈O,∀ y∈O,y≠0→par y=k→y∈B.kids k
 par:∀ y∈O,y≠0→par y∈O∧ms (par y) < ms y
inductive UpI (O:List Int) (par:Int→Int):Int→Int→Prop
 | refl (b:Int):UpI O par b b
 | step {b k:Int}:b∈O→b≠0→UpI O par (par b) k→UpI O par b k
section
variable {B:Bu} {O:List Int} {par:Int→Int} {ms:Int→Nat}
theorem UpI.trans {a b c:Int} (h:UpI O par a b) (g:UpI O par b c):UpI O par a c:=by
 induction h with
 | refl _=>exact g
 | step h1 h2 _ ih=>exact .step h1 h2 (ih g)
theorem UpI.le (h:BuT B O par ms) {b k:Int} (g:UpI O par b k):ms k≤ms b:=by
 induction g with
 | refl _=>exact Nat.le_refl _
 | step h1 h2 _ ih=>have:=(h.par _ h1 h2).2; omega
theorem UpI.top {b k:Int} (g:UpI O par b k):b=k∨∃ y∈O,y≠0∧par y=k∧UpI O par b y:=by
 induction g with
 | refl _=>exact .inl rfl
 | @step b k h1 h2 _ ih =>
   rcases ih with h | ⟨y,y1,y2,y3,y4⟩
   ·exact .inr ⟨b,h1,h2,h,.refl _⟩
   ·exact .inr ⟨y,y1,y2,y3,.step h1 h2 y4⟩
theorem UpI.lin {b x y:Int} (g:UpI O par b x) (g2:UpI O par b y):UpI O par x y∨UpI O par y x:=by
 induction g with
 | refl _=>exact .inl g2
 | @step b k h1 h2 g3 ih =>
   cases g2 with
   | refl _=>exact .inr (.step h1 h2 g3)
   | step _ _ g4=>exact ih g4
theorem sub_up (h:BuT B O par ms):∀ f k b,k∈O→b∈B.sub f k→UpI O par b k∧b∈O
 | 0,k,b,_,hb=>by simp[Bu.sub] at hb
 | f + 1, k, b, hk, hb => by
   simp only[Bu.sub,List.mem_cons,List.mem_flatMap] at hb
   rcases hb with rfl | ⟨y,hy,hb⟩
   ·exact⟨.refl _,hk⟩
   ·obtain⟨k1,k2,k3⟩:=h.kid k hk y hy
    obtain⟨h1,h2⟩:=sub_up h f y b k1 hb
    refine⟨h1.trans (.step k1 k2 (k3 ▸ .refl _)),h2⟩
theorem up_sub (h:BuT B O par ms):∀ f k b,k∈O→UpI O par b k→ms b < f + ms k→b∈B.sub f k
 | 0,k,b,hk,hu,hf=>by have:=hu.le h; omega
 | f + 1, k, b, hk, hu, hf => by
   simp only[Bu.sub,List.mem_cons,List.mem_flatMap]
   rcases hu.top with rfl | ⟨y,y1,y2,y3,y4⟩
   ·exact .inl rfl
   ·have:=(h.par y y1 y2).2
    rw[y3] at this
    exact .inr ⟨y,h.kidc k hk y y1 y2 y3,up_sub h f y b y1 y4 (by omega)⟩
theorem flat_nodup {α:Type} {s:α→List Int}:∀ {l:List α},l.Nodup→(∀ y∈l,(s y).Nodup)→(∀ x∈l,∀ y∈l,x≠y→∀ b,b∈s x→b∈s y→False)→(l.flatMap s).Nodup
 | [],_,_,_=>by simp
 | a :: l, hn, h1, h2 => by
   obtain⟨n1,n2⟩:=List.nodup_cons.1 hn
   rw[List.flatMap_cons,List.nodup_append]
   refine⟨h1 a (by simp),flat_nodup n2 (fun y hy=>h1 y (by simp[hy])) fun x hx y hy=>h2 x (by simp[hx]) y (by simp[hy]),fun x hx y hy he=>?_⟩
   obtain⟨z,hz,hyz⟩:=List.mem_flatMap.1 hy
   subst he
   exact h2 a (by simp) z (by simp[hz]) (fun e=>n1 (e ▸ hz)) x hx hyz
theorem sub_nodup (h:BuT B O par ms) (hn:∀ k,(B.kids k).Nodup):∀ f k,k∈O→(B.sub f k).Nodup
 | 0,k,_=>by simp[Bu.sub]
 | f + 1, k, hk => by
   have hko:=fun y hy=>(h.kid k hk y hy).1
   simp only[Bu.sub,List.nodup_cons]
   refine⟨fun hk2=>?_,flat_nodup (hn k) (fun y hy=>sub_nodup h hn f y (hko y hy)) fun x hx y hy hne b hbx hby=>?_⟩
   ·obtain⟨y,hy,hb⟩:=List.mem_flatMap.1 hk2
    obtain⟨k1,k2,k3⟩:=h.kid k hk y hy
    have h2:=(h.par y k1 k2).2
    have:=(sub_up h f y k k1 hb).1.le h
    rw[k3] at h2
    omega
   ·have key:∀ x y,x∈B.kids k→y∈B.kids k→x≠y→UpI O par x y→False:=fun x y hx hy hne hu=>by
     obtain⟨k1,k2,k3⟩:=h.kid k hk x hx
     obtain⟨l1,l2,l3⟩:=h.kid k hk y hy
     cases hu with
     | refl _=>exact hne rfl
     | step _ _ hu =>
       have:=hu.le h
       have h2:=(h.par y l1 l2).2
       rw[k3] at this
       rw[l3] at h2
       omega
    rcases ((sub_up h f x b (hko x hx) hbx).1).lin ((sub_up h f y b (hko y hy) hby).1) with hu | hu
    ·exact key x y hx hy hne hu
    ·exact key y x hy hx (Ne.symm hne) hu
theorem up_root (h:BuT B O par ms):∀ n b,ms b≤n→b∈O→UpI O par b 0
 | 0, b, hn, hb => by
   by_cases h0:b=0
   ·subst h0; exact .refl _
   ·have:=(h.par b hb h0).2; omega
 | n + 1, b, hn, hb => by
   by_cases h0:b=0
   ·subst h0; exact .refl _
   ·obtain⟨h1,h2⟩:=h.par b hb h0
    exact .step hb h0 (up_root h n _ (by omega) h1)
theorem sub_all (h:BuT B O par ms) (hn:∀ k,(B.kids k).Nodup) (h0:0∈O) {f:Nat} (hf:∀ y∈O,ms y < f):(B.sub f 0).Perm O:=
 nodup_perm (sub_nodup h hn f 0 h0) h.nd fun x=>⟨fun hx=>(sub_up h f 0 x h0 hx).2,fun hx=>up_sub h f 0 x h0 (up_root h _ x (Nat.le_refl _) hx) (by have:=hf x hx; omega)⟩
end
def argsLe (A:AHeap):List AV→List AV→Prop
 | [],[]=>True
 | c::l,c'::l'=>(c=c'∨reiV true A 9 c=some c')∧argsLe A l l'
 | _,_=>False
theorem argsLe_len {A:AHeap}:∀ {l l':List AV},argsLe A l l'→l.length=l'.length
 | [],[],_=>rfl
 | c::l,c'::l',h=>by simp only[List.length_cons,argsLe_len h.2]
theorem argsLe_vle {A:AHeap}:∀ {l l':List AV},argsLe A l l'→∀ (i:Nat) (c c':AV),l[i]? = some c→l'[i]? = some c'→VLe A c c'
 | [],[],_,i,c,c',h,_=>by simp at h
 | c :: l, c' :: l', h, 0, x, x', h1, h2 => by
   simp at h1 h2
   subst h1 h2
   rcases h.1 with e | e
   ·subst e; exact VLe.refl _
   ·exact VLe.rei e
 | c::l,c'::l',h,i + 1,x,x',h1,h2=>argsLe_vle h.2 i x x' (by simpa using h1) (by simpa using h2)
theorem aCall_own {P:Program} {K:AKont} {e:AEnv} {A:AHeap} {d:Option Nat} (Bs:List Nat) {g:FuncId} {args args':List AV} {r:AV} (h:AC P g args' (frz Bs A) (AtH (frz Bs A) r)) (hok:okF P g=true)
 (hr:argsLe (frz Bs A) args args') (hk:K (aupd e d r) (frz Bs A)):aCall P (.fn g [] []) args A d e K:=
 ⟨g,[],[],rfl,hok,by
  have h2:=AC.frz Bs ((AC.argle h (argsLe_len hr) (argsLe_vle hr)).mono fun r' A' ⟨e1,e2⟩=>(by subst e1 e2; exact hk:K (aupd e d r') A'))
  simpa using h2⟩
theorem aCond_meet {P:Program} {n:Nat} {c:Code} {bs:List (Nat×AKont)} {r K:AKont} {b:Bool} {e:AEnv} {A:AHeap} (S:AKont) (hS:∀ e A,S e A→K e A) (h1:b=true→avc P n c bs r S e A) (h2:b=false→S e A) :
 aCond (.d (.v (.bool b))) (avc P n c bs r K) K e A:=aCond_split (fun h=>avc_mono c (ABLe.refl _) hS _ _ (h1 h)) (fun h=>hS _ _ (h2 h))
theorem meetK {Q:Prop} {K:AKont} (S:AKont) (h:(∀ e A,S e A→K e A)→Q) (hS:∀ e A,S e A→K e A):Q:=h hS
theorem aft_len (B:Bu) (body l:List Int):(B.aft body l).1.length + (B.aft body l).2.length=l.length:=by
 have:=(aft_perm B body l ([],[])).length_eq
 simpa [Bu.aft] using this
theorem aft_mem (B:Bu) (body l:List Int):(∀ y∈(B.aft body l).1,y∈l)∧∀ y∈(B.aft body l).2,y∈l:=by
 have:=aft_perm B body l ([],[])
 exact⟨fun y hy=>by have:=this.mem_iff (a:=y); simp only[List.nil_append,List.mem_append] at this; exact this.1 (.inl hy),fun y hy=>by have:=this.mem_iff (a:=y); simp only[List.nil_append,List.mem_append] at this; exact this.1 (.inr hy)⟩
theorem aft_take (B:Bu) (body:List Int) {l:List Int} {i:Nat} {x:Int} (h:l[i]? = some x):B.aft body (l.take (i + 1))=B.aftS body (B.aft body (l.take i)) x:=by
 unfold Bu.aft
 rw[List.take_add_one,h,List.foldl_append]
 rfl
abbrev bcK (k:Nat) (T:Nd) (C:List Nd):Blk:=⟨1,false,29,5,[aI .i64 2,aI .i64 k,aI .i64 0,nilV,nilV]::ndR T::dEls (Nd.ds C)⟩
abbrev lpK (kd b:Int) (cd:AV) (q:Nat):Blk:=⟨0,true,29,5,[[aI .i64 kd,aI .i64 b,aI .i64 0,cd,.own q 0 0 1]]⟩
abbrev ndF (Y:Nd):Blk:=⟨0,false,29,5,[ndR Y]⟩
abbrev nbf (X:List Int):Blk:=⟨X.length,false,3,1,dEls (i64s X)⟩
section
variable (a0 a1 a2:Blk) (B:Bu)
set_option maxRecDepth 100000 in
set_option maxHeartbeats 0 in
theorem stloop_ac (hcl:ClH (hp5 a0 a1 a2 B)) (hB:BuOk B) (code:Int→Ct→Nd) (k:Nat) (hk:k < B.g.b.length) (body:List Int) (hbo:body.length≤1000000) (c:Ct) (hs:TrOk (B.lastS k)) (hk1:∀ y c,(code y c).kd=1) (hc:∀ y∈B.kids k,CodeOk a0 a1 a2 B code y) :
 AC Tryz.prog 108 [.ptr 3 1 0 0,aI .i64 k,.agg [aI .i64 10,aI .i64 0,aI .i64 k,nilV,nilV],.d (.sl 1 (i64s body)),ctA c] (hp5 a0 a1 a2 B) (AtH (hp5 a0 a1 a2 B) (ndA (B.loopN code k body c))):=by
 have hkc:k < B.ch.length:=by rw[hB.ch]; exact hk
 obtain⟨kl,hkl⟩:∃ kl,B.ch[k]? = some kl:=⟨_,gEG hkc⟩
 have hkl2:=(gSI.1 hkl).2
 have hkids:B.kids k=kl:=by unfold Bu.kids; rw[Int.toNat_natCast,List.getD_eq_getElem?_getD,hkl]; rfl
 obtain⟨hl1,hl2⟩:=hB.kid kl (gMO hkl)
 have hlm:kl.length≤maxLen:=by unfold maxLen; omega
 have hbm:body.length≤maxLen:=by unfold maxLen; omega
 obtain⟨R0,hR⟩:∃ R0,B.loopN code k body c=R0:=⟨_,rfl⟩
 rw[hR]
 unfold Bu.loopN at hR
 simp only at hR
 rw[hkids] at hc hR
 obtain⟨hm1,hm2⟩:=aft_mem B body kl
 have hAl:=fun i=>aft_len B body (kl.take i)
 have hAt:=fun (i:Nat) (x:Int) (h:kl[i]? = some x)=>aft_take B body h
 have hA0:B.aft body (kl.take 0)=([],[]):=rfl
 have hAn:B.aft body (kl.take kl.length)=B.aft body kl:=by rw[List.take_length]
 obtain⟨F,hF⟩:∃ F:Nat→List Int×List Int,(fun i=>B.aft body (kl.take i))=F:=⟨_,rfl⟩
 replace hF:∀ i,B.aft body (kl.take i)=F i:=fun i=>congrFun hF i
 simp only[hF] at hAl hAt hA0 hAn
 have hc5:=hcl.fix
 simp only[List.map_cons,List.map_nil,List.cons.injEq,and_true,List.length_cons,List.length_nil] at hc5
 obtain⟨c0,c1,c2,c3,c4⟩:=hc5
 have m0:=cE_mono (m':=10) (by omega) c0
 have m1:=cE_mono (m':=10) (by omega) c1
 have m2:=cE_mono (m':=10) (by omega) c2
 refine AC.resH (by simp[cln,cln.clnL]) (ac_of Tryz.func108 rfl (by kernel_rfl) (by simp[Tryz.ntmps108]) fun _=>?_)
 simp[Tryz.f108,hk,hkc,hkl,hkl2]
 refine aLoop_st (fun i:Nat=>[(0,.ptr 3 1 0 0),(1,aI .i64 k),(3,.d (.sl 1 (i64s body))),(7,.ptr 5 0 0 0),(9,.ptr 6 0 0 0),(10,.ptr 7 0 0 0),(11,.own 8 (F i).1.length 0 (F i).1.length),(12,.own 9 (F i).2.length 0 (F i).2.length),(28,.d (.sl 1 (i64s kl))),(29,aI .i64 kl.length),(30,aI .i64 i)])
  (fun i=>[a0,a1,a2,bdK B,msM B.bo,lbK k,ctK c,ndZ,nbk (F i).1.length (F i).1,nbk (F i).2.length (F i).2]) (fun i=>i≤kl.length) (fun i=>kl.length - i) 0
  ((Sub.ghost 0 3 1).trans ((Sub.ghost 0 3 1).trans ((Sub.slot (s:=11) (c:=.own 8 0 0 0) (VLe.nil_own (k:=⟨0,true,3,1,[]⟩) (by simp) rfl)).trans (Sub.slot (s:=12) (c:=.own 9 0 0 0) (VLe.nil_own (k:=⟨0,true,3,1,[]⟩) (by simp) rfl))))) 10 (by simp) (by simp[m0,m1,m2,cE_ms,hA0]) (by simp[hA0]) (by omega) ?_
 rintro i hi K hK
 have hali:=hAl i
 rw[List.length_take] at hali
 rcases Nat.lt_or_ge i kl.length with hlt | hge
 case inl=>
  obtain⟨x,hx⟩:∃ x,kl[i]? = some x:=⟨_,gEG hlt⟩
  have hx2:=(gSI.1 hx).2
  obtain⟨x0,x1⟩:=hl2 x (gMO hx)
  obtain⟨w,hw⟩:∃ w:Nat,x=w:=⟨x.toNat,by omega⟩
  have hwl:w < B.ed.length:=by rw[hB.ed]; omega
  obtain⟨ev,hev⟩:∃ ev,B.ed[w]? = some ev:=⟨_,gEG hwl⟩
  have hev2:=(gSI.1 hev).2
  have hedg:B.edg x=ev:=by
   unfold Bu.edg
   rw[hw,Int.toNat_natCast,List.getD_eq_getElem?_getD,hev]
   rfl
  have hA1:=hAt i x hx
  unfold Bu.aftS at hA1
  rw[hedg] at hA1
  have hxw:kl[i]? = some (w:Int):=by rw[← hw]; exact hx
  have hxw2:=(gSI.1 hxw).2
  obtain⟨P,R,hFi⟩:∃ P R,F i=(P,R):=⟨_,_,rfl⟩
  rw[hFi] at hA1 hali
  simp only[hFi]
  simp only at hali
  have hcon:=containsin_af body (w:Int) hbm
  rw[hw] at hA1
  by_cases hb:(w:Int)∈body
  ·rw[if_neg (by simp[hb])] at hA1
   simp[hlt,hxw,hxw2]
   refine aCall_of hcon (by kernel_rfl) (by simp) ?_
   simp[hb]
   refine aRaw_app byt_48 ?_
   simp
   refine⟨by unfold maxLen; omega,by omega,?_⟩
   simp[succ_wrap hlt hlm]
   refine hK (i + 1) (by omega) (by omega) (Sub.take 10 (by simp)) 10 (by simp) ?_ ?_
   ·rw[hA1]; simp[m0,m1,m2,cE_ms]
   ·rw[hA1]; simp
  by_cases hP:P=[]
  ·subst hP
   rw[if_pos (by simp[hb])] at hA1
   simp[hlt,hxw,hxw2]
   refine aCall_of hcon (by kernel_rfl) (by simp) ?_
   simp[hb]
   refine aRaw_app byt_48 ?_
   simp
   refine⟨by unfold maxLen; omega,?_⟩
   simp[succ_wrap hlt hlm]
   refine hK (i + 1) (by omega) (by omega) (Sub.take 10 (by simp)) 10 (by simp) ?_ ?_
   ·rw[hA1]; simp[m0,m1,m2,cE_ms]
   ·rw[hA1]; simp
  have hPl:P.length≠0:=fun h=>hP (List.length_eq_zero_iff.1 h)
  by_cases h1:ev=1
  ·rw[if_neg (by simp[hb,hP,h1])] at hA1
   simp[hlt,hxw,hxw2]
   refine aCall_of hcon (by kernel_rfl) (by simp) ?_
   simp[hb,hP,hPl,hwl,hev,hev2,h1]
   refine aRaw_app byt_48 ?_
   simp
   refine⟨by unfold maxLen; omega,by omega,?_⟩
   simp[succ_wrap hlt hlm]
   refine hK (i + 1) (by omega) (by omega) (Sub.take 10 (by simp)) 10 (by simp) ?_ ?_
   ·rw[hA1]; simp[m0,m1,m2,cE_ms]
   ·rw[hA1]; simp
  ·rw[if_pos (by simp[hb,h1])] at hA1
   simp[hlt,hxw,hxw2]
   refine aCall_of hcon (by kernel_rfl) (by simp) ?_
   simp[hb,hP,hPl,hwl,hev,hev2,h1]
   refine aRaw_app byt_48 ?_
   simp
   refine⟨by unfold maxLen; omega,by omega,?_⟩
   simp[succ_wrap hlt hlm]
   refine hK (i + 1) (by omega) (by omega) (Sub.take 10 (by simp)) 10 (by simp) ?_ ?_
   ·rw[hA1]; simp[m0,m1,m2,cE_ms]
   ·rw[hA1]; simp
 obtain rfl:i=kl.length:=by omega
 rw[hAn]
 obtain⟨P,R,hFi⟩:∃ P R,B.aft body kl=(P,R):=⟨_,_,rfl⟩
 rw[hFi] at hR hm1 hm2 ⊢
 simp only at hR hm1 hm2 ⊢
 have hPR:P.length + R.length=kl.length:=by have:=aft_len B body kl; rw[hFi] at this; exact this
 have hsp:=AC.frame (N:=[lbK k,ctK c,ndZ,nbf P,nbf R]) hcl (by simp[cln,cln.clnL]) (stsplit_ac a0 a1 a2 B hcl hB R (by omega) fun x hx=>hl2 x (hm2 x hx))
 have hRt:List.take R.length (dEls (i64s R))=dEls (i64s R):=List.take_of_length_le (by simp)
 have hPt:List.take P.length (dEls (i64s P))=dEls (i64s P):=List.take_of_length_le (by simp)
 obtain⟨pl,hpl⟩:∃ pl,B.placed R=pl:=⟨_,rfl⟩
 obtain⟨il,hil⟩:∃ il,B.inlined R=il:=⟨_,rfl⟩
 rw[hpl,hil] at hR hsp
 have hple:pl.length≤1000000:=by rw[← hpl]; exact Nat.le_trans (List.length_filter_le _ _) (by omega)
 have hile:il.length≤1000000:=by rw[← hil]; exact Nat.le_trans (List.length_filter_le _ _) (by omega)
 have hcp:∀ y∈pl,CodeOk a0 a1 a2 B code y:=fun y hy=>hc y (by rw[← hpl] at hy; exact hm2 y (List.mem_filter.1 hy).1)
 have hci:∀ y∈il,CodeOk a0 a1 a2 B code y:=fun y hy=>hc y (by rw[← hil] at hy; exact hm2 y (List.mem_filter.1 hy).1)
 have hca:∀ y∈P,CodeOk a0 a1 a2 B code y:=fun y hy=>hc y (hm1 y hy)
 simp
 refine aCall_own [8,9] (args':=[.ptr 3 1 0 0,.d (.sl 1 (i64s R))]) (by simpa [frz] using hsp) (by kernel_rfl) ⟨.inl rfl,.inr (by simp[frz,hRt]),trivial⟩ ?_
 simp[frz]
 obtain⟨fx,hfx⟩:∃ fx,(Bu.firstC P c).f=fx:=⟨_,rfl⟩
 rw[hfx] at hR
 have hP0:P.length=0→fx=c.f:=fun h=>by rw[← hfx,List.length_eq_zero_iff.1 h]; rfl
 have hP1:0 < P.length→P[0]? = some fx:=fun h=>by
  match P,h with
  | x::l,_=>rw[← hfx]; rfl
 refine aCond_meet (fun e A=>e 0 = .ptr 3 1 0 0∧e 1=aI .i64 k∧e 7 = .ptr 5 0 0 0∧e 9 = .ptr 6 0 0 0∧e 10 = .ptr 7 0 0 0∧e 11 = .own 8 P.length 0 P.length∧e 16 = .d (.sl 1 (i64s pl))∧e 17 = .d (.sl 1 (i64s il))∧e 18 = .ptr 10 0 0 0 ∧
  A=[a0,a1,a2,bdK B,msM B.bo,lbK k,ctK c,ndZ,nbf P,nbf R,ctK ⟨k,k,fx⟩]) ?_ (fun h=>?_) (fun h=>?_)
 case refine_2=>
  simp at h
  have hg:=hP1 h
  have hg2:=(gSI.1 hg).2
  simp[h,hg,hg2,setEls]
 case refine_3=>
  simp at h
  simp[h,hP0]
 rintro e A ⟨e0,e1,e7,e9,e10,e11,e16,e17,e18,rfl⟩
 obtain⟨T,hT⟩:∃ T,B.transN code k il (Bu.firstC pl ⟨k,k,fx⟩)=T:=⟨_,rfl⟩
 obtain⟨C,hC⟩:∃ C,Bu.chainN code pl ⟨k,k,fx⟩=C:=⟨_,rfl⟩
 obtain⟨D,hD⟩:∃ D,Bu.chainN code P c=D:=⟨_,rfl⟩
 rw[hT,hC,hD] at hR
 have hCl:C.length=pl.length:=by rw[← hC]; exact chain_len _ _ _
 have hDl:D.length=P.length:=by rw[← hD]; exact chain_len _ _ _
 have hfi:=stfirst_af pl ⟨k,k,fx⟩ (by unfold maxLen; omega)
 have htr:=fun (N:AHeap)=>AC.frame (N:=N) hcl (by simp[cln,cln.clnL]) (sttransfer_ac a0 a1 a2 B hcl hB code k hk il hile (Bu.firstC pl ⟨k,k,fx⟩) hs fun y _ hy=>hci y hy)
 have hch:=fun (N:AHeap)=>AC.frame (N:=N) hcl (by simp[cln,cln.clnL]) (stchain_ac a0 a1 a2 B hcl code pl hple ⟨k,k,fx⟩ hcp)
 have hca2:=fun (N:AHeap)=>AC.frame (N:=N) hcl (by simp[cln,cln.clnL]) (stchain_ac a0 a1 a2 B hcl code P (by omega) c hca)
 rw[hT] at htr
 rw[hC] at hch
 rw[hD] at hca2
 simp[e0,e1,e16,e17,e18]
 refine aCall_of hfi (by kernel_rfl) (by simp) ?_
 simp[e0,e1,e16,e17,e18]
 refine aCall_ofc (htr _) (by kernel_rfl) ?_
 rintro _ _ ⟨rfl,rfl⟩
 simp[e0,e1,e16,e17,e18]
 refine aCall_ofc (hch _) (by kernel_rfl) ?_
 rintro _ _ ⟨rfl,rfl⟩
 simp[e0,e1,e16,e17,e18]
 refine aRaw_app byt_27 ?_
 have hd5:∀ L:List Nd,∀ x∈dEls (Nd.ds L),x.length=5:=by
  intro L x hx
  obtain⟨i,hi⟩:=List.mem_iff_getElem?.1 hx
  simp[Nd.d_eq] at hi
  obtain⟨a,_,rfl⟩:=hi
  simp[Nd.d_eq]
 simp
 rw[if_pos (hd5 C)]
 simp
 refine⟨by unfold maxLen; omega,by omega,?_⟩
 refine aCall_ofz [12] (stseq_af (Bu.blkN k::T::C)) (by kernel_rfl) (by simp[frz,Nd.d_eq,Bu.blkN,show 2 + C.length=C.length + 1 + 1 by omega]) ?_
 obtain⟨b,hb⟩:∃ b,B.g.b[k]? = some b:=⟨_,gEG hk⟩
 have hb2:=(gSI.1 hb).2
 have hsl:(B.stsOf k).length=b.s.length:=by unfold Bu.stsOf; rw[Int.toNat_natCast,hb]
 obtain⟨n0,hn0⟩:∃ n0,Bu.seqN (Bu.blkN k::T::C)=n0:=⟨_,rfl⟩
 have hT3:T.kd=3→∃ X Y,T = .mk 3 0 0 T.cd [X,Y]:=fun h=>by
  rw[← hT] at h ⊢
  obtain⟨X,Y,h1,_⟩:=trans_if hk1 h
  exact⟨X,Y,h1⟩
 have hwh:B.isWh k T=(decide (b.s.length=1) && decide (T.kd=3) && decide ((T.l.getD 1 (Bu.seqN [])).kd=7) && !decide ((T.l.getD 0 (Bu.seqN [])).kd=7)):=by unfold Bu.isWh; rw[hsl]
 rw[hn0]
 refine meetK (K:=?K) (fun e A=>e 0 = .ptr 3 1 0 0∧e 7 = .ptr 5 0 0 0∧e 9 = .ptr 6 0 0 0∧e 10 = .ptr 7 0 0 0∧e 11 = .own 8 P.length 0 P.length∧e 21 = .ptr 14 0 0 0∧B.isWh k T=false ∧
  A=[a0,a1,a2,bdK B,msM B.bo,lbK k,ctK c,ndZ,nbf P,nbf R,ctK ⟨k,k,fx⟩,ndK1 T,bcK k T C,ndK1 n0,⟨0,true,29,5,[[aI .i64 4,aI .i64 0,aI .i64 0,nilV,.own 13 0 0 1]]⟩]) (fun hrest=>?main) ?rest
 case main=>
  simp[frz,setEls,e0,e1,hk,hb,hb2,Bl.d_eq]
  by_cases h1:b.s.length=1
  case neg=>
   have hw:B.isWh k T=false:=by rw[hwh]; simp[h1]
   have h1i:¬ (b.s.length:Int)=1:=by omega
   simp[h1,h1i]
   refine hrest _ _ ?_
   exact⟨by simp[e0],by simp[e7],by simp[e9],by simp[e10],by simp[e11],by simp,hw,rfl⟩
  have h1i:(b.s.length:Int)=1:=by omega
  by_cases h3:T.kd=3
  case neg=>
   have hw:B.isWh k T=false:=by rw[hwh]; simp[h3]
   simp[h1,h1i,h3]
   refine hrest _ _ ?_
   exact⟨by simp[e0],by simp[e7],by simp[e9],by simp[e10],by simp[e11],by simp,hw,rfl⟩
  obtain⟨X,Y,hXY⟩:=hT3 h3
  have hTl:T.l=[X,Y]:=by rw[hXY]; rfl
  rw[hTl] at hwh
  by_cases h7:Y.kd=7
  case neg=>
   have hw:B.isWh k T=false:=by rw[hwh]; simp[h7]
   simp[h1,h1i,h3,hTl,Nd.d_eq,h7]
   refine hrest _ _ ?_
   exact⟨by simp[e0],by simp[e7],by simp[e9],by simp[e10],by simp[e11],by simp,hw,by simp[h3,hTl,Nd.d_eq]⟩
  by_cases h8:X.kd=7
  case pos=>
   have hw:B.isWh k T=false:=by rw[hwh]; simp[h8]
   simp[h1,h1i,h3,hTl,Nd.d_eq,h7,h8]
   refine hrest _ _ ?_
   exact⟨by simp[e0],by simp[e7],by simp[e9],by simp[e10],by simp[e11],by simp,hw,by simp[h3,hTl,Nd.d_eq,h7,h8]⟩
  have hw:B.isWh k T=true:=by rw[hwh]; simp[h1,h3,h7,h8]
  rw[hw,if_pos rfl] at hR
  clear hrest
  simp[h1,h1i,h3,hTl,Nd.d_eq,h7,h8]
  refine meetK (K:=?K2) (fun e A=>e 0 = .ptr 3 1 0 0∧e 1=aI .i64 k∧e 7 = .ptr 5 0 0 0∧e 9 = .ptr 6 0 0 0∧e 10 = .ptr 7 0 0 0∧e 11 = .own 8 P.length 0 P.length∧e 19 = .ptr 11 0 0 0∧e 20 = .d (.sl 5 (Nd.ds C))∧e 21 = .ptr 14 0 0 0 ∧
   A=[a0,a1,a2,bdK B,msM B.bo,lbK k,ctK c,ndZ,nbf P,nbf R,ctK ⟨k,k,fx⟩,ndK1 T,bcK k T C,ndK1 n0,lpK 4 0 nilV 13]) (fun hrest=>?main2) ?rest2
  case main2=>
   refine hrest _ _ ?_
   exact⟨by simp[e0],by simp[e1],by simp[e7],by simp[e9],by simp[e10],by simp[e11],by simp,by simp,by simp,by simp[h3,hTl,Nd.d_eq,h7]⟩
  clear e0 e1 e7 e9 e10 e11 e16 e17 e18 e
  rintro e A ⟨e0,e1,e7,e9,e10,e11,e19,e20,e21,rfl⟩
  obtain⟨m0,hm0⟩:∃ m0,Bu.seqN (X::C)=m0:=⟨_,rfl⟩
  have hTX:T.l.getD 0 (Bu.seqN [])=X:=by rw[hTl]; rfl
  rw[hTX,hm0] at hR
  have hsm:=stseq_af (X::C)
  rw[hm0] at hsm
  have hCt:List.take pl.length (Nd.ds C)=Nd.ds C:=List.take_of_length_le (by simp[hCl])
  refine adrawR [aI .i64 k,.ptr 11 0 0 3,.d (.sl 5 (Ex.ds T.cd)),.ptr 11 0 0 4,.d (.sl 5 (Nd.ds [X,Y])),.ip X.d,ndA X,.own 15 0 0 1,.d (.sl 5 (Nd.ds C)),.own 15 1 0 (1 + C.length),ndA m0,.own 16 0 0 1,.agg [aI .i64 5,aI .i64 k,aI .i64 0,.d (.sl 5 (Ex.ds T.cd)),.own 16 0 0 1],.any]
   [(0,[a0,a1,a2,bdK B,msM B.bo,lbK k,ctK c,ndZ,nbf P,nbf R,ctK ⟨k,k,fx⟩,ndK1 T,bcK k T C,ndK1 n0,lpK 4 0 nilV 13]),(128,[a0,a1,a2,bdK B,msM B.bo,lbK k,ctK c,ndZ,nbf P,nbf R,ctK ⟨k,k,fx⟩,ndK1 T,bcK k T C,ndK1 n0,lpK 4 0 nilV 13,⟨0,true,29,5,[ndR X]⟩]),(640,[a0,a1,a2,bdK B,msM B.bo,lbK k,ctK c,ndZ,nbf P,nbf R,ctK ⟨k,k,fx⟩,ndK1 T,bcK k T C,ndK1 n0,lpK 4 0 nilV 13,⟨1,true,29,5,ndR X::dEls (Nd.ds C)⟩]),(1664,[a0,a1,a2,bdK B,msM B.bo,lbK k,ctK c,ndZ,nbf P,nbf R,ctK ⟨k,k,fx⟩,ndK1 T,bcK k T C,ndK1 n0,lpK 4 0 nilV 13,⟨1,false,29,5,ndR X::dEls (Nd.ds C)⟩]),(3712,[a0,a1,a2,bdK B,msM B.bo,lbK k,ctK c,ndZ,nbf P,nbf R,ctK ⟨k,k,fx⟩,ndK1 T,bcK k T C,ndK1 n0,lpK 4 0 nilV 13,⟨1,false,29,5,ndR X::dEls (Nd.ds C)⟩,ndK1 m0]),(11904,[a0,a1,a2,bdK B,msM B.bo,lbK k,ctK c,ndZ,nbf P,nbf R,ctK ⟨k,k,fx⟩,ndK1 T,bcK k T C,ndK1 n0,lpK 5 k (.d (.sl 5 (Ex.ds T.cd))) 16,⟨1,false,29,5,ndR X::dEls (Nd.ds C)⟩,ndK1 m0])]
   (by kernel_rfl) (by kernel_rfl) rfl rfl ?_ ?_
  ·simp only[rowsR,List.mem_cons,List.not_mem_nil,or_false,forall_eq_or_imp,forall_eq]
   refine⟨⟨?w0_0,?w0_128,?w0_640,?w0_1664,?w0_3712,nmy⟩,⟨?w1_0,?w1_128,?w1_640,?w1_1664,?w1_3712,nmy⟩,⟨?w2_0,?w2_128,?w2_640,?w2_1664,?w2_3712,nmy⟩,⟨?w3_0,nmy,nmy,nmy,nmy,nmy⟩,⟨?w4_0,nmy,nmy,nmy,nmy,nmy⟩,⟨?w5_0,nmy,nmy,nmy,nmy,nmy⟩,⟨?w6_0,nmy,nmy,nmy,nmy,nmy⟩,⟨?w7_0,nmy,nmy,nmy,nmy,nmy⟩,⟨?w8_0,?w8_128,nmy,nmy,nmy,nmy⟩,⟨nmy,?w9_128,nmy,nmy,nmy,nmy⟩,⟨nmy,nmy,?w10_640,nmy,nmy,nmy⟩,⟨nmy,nmy,nmy,?w11_1664,nmy,nmy⟩,⟨nmy,nmy,nmy,nmy,?w12_3712,nmy⟩,⟨nmy,nmy,nmy,nmy,?w13_3712,nmy⟩,trivial⟩
   all_goals
    intro hmay
    clear hmay
    intro e' K' h A3 hA hk
    simp only[Op.operands,Call.operands] at h
    simp[still,heapM,putR,dvA] at h hA hk
    subst hA
    simp[h,e0,e1,e7,e9,e10,e11,e19,e20,e21,hTl,Nd.d_eq]
    first | exact hk | simpa [Nd.d_eq] using hk | skip
   case w9_128=>
    refine aRaw_app byt_27 ?_
    simp[h]
    rw[if_pos (hd5 C)]
    simp
    refine⟨by unfold maxLen; omega,by omega,?_⟩
    simpa [hCl] using hk
   case w10_640=>
    refine aCall_ofz [15] hsm (by kernel_rfl) (by simp[frz,Nd.d_eq,hCl,show 1 + pl.length=pl.length + 1 by omega,hCt]) ?_
    simpa [frz,hCl] using hk
  simp[putR,setEls]
  refine meetK (K:=?K3) (fun e A=>e 0 = .ptr 3 1 0 0∧e 7 = .ptr 5 0 0 0∧e 9 = .ptr 6 0 0 0∧e 10 = .ptr 7 0 0 0∧e 11 = .own 8 P.length 0 P.length∧e 21 = .ptr 14 0 0 0 ∧
   A=[a0,a1,a2,bdK B,msM B.bo,lbK k,ctK c,ndZ,nbf P,nbf R,ctK ⟨k,k,fx⟩,ndK1 T,bcK k T C,ndK1 n0,lpK 5 k (.d (.sl 5 (Ex.ds T.cd))) 16,⟨1,false,29,5,ndR X::dEls (Nd.ds C)⟩,ndK1 m0]) (fun hrest=>?main3) ?rest3
  case main3=>
   refine hrest _ _ ?_
   exact⟨by simp[e0],by simp[e7],by simp[e9],by simp[e10],by simp[e11],by simp[e21],rfl⟩
  rintro e A ⟨f0,f7,f9,f10,f11,f21,rfl⟩
  have hsq:=stseq_af (Bu.labN k :: .mk 5 k 0 T.cd [m0]::D)
  rw[hR] at hsq
  have hDt:List.take P.length (Nd.ds D)=Nd.ds D:=List.take_of_length_le (by simp[hDl])
  refine adrawR [.agg [aI .i64 10,aI .i64 0,aI .i64 k,nilV,nilV],.agg [aI .i64 5,aI .i64 k,aI .i64 0,.d (.sl 5 (Ex.ds T.cd)),.own 16 0 0 1],.own 17 0 0 2,.ptr 3 1 0 0,.own 8 P.length 0 P.length,ctA c,.d (.sl 5 (Nd.ds D)),.own 17 1 0 (2 + D.length),ndA R0,.any]
   [(0, [a0, a1, a2, bdK B, msM B.bo, lbK k, ctK c, ndZ, nbf P, nbf R, ctK ⟨k, k, fx⟩, ndK1 T, bcK k T C, ndK1 n0, lpK 5 k (.d (.sl 5 (Ex.ds T.cd))) 16, ⟨1, false, 29, 5, ndR X :: dEls (Nd.ds C)⟩, ndK1 m0]), (4, [a0, a1, a2, bdK B, msM B.bo, lbK k, ctK c, ndZ, nbf P, nbf R, ctK ⟨k, k, fx⟩, ndK1 T, bcK k T C, ndK1 n0, lpK 5 k (.d (.sl 5 (Ex.ds T.cd))) 16, ⟨1, false, 29, 5, ndR X :: dEls (Nd.ds C)⟩, ndK1 m0, ⟨0, true, 29, 5, [[aI .i64 10, aI .i64 0, aI .i64 k, nilV, nilV], [aI .i64 5, aI .i64 k, aI .i64 0, .d (.sl 5 (Ex.ds T.cd)), .own 16 0 0 1]]⟩]), (64, [a0, a1, a2, bdK B, msM B.bo, lbK k, ctK c, ndZ, nbf P, nbf R, ctK ⟨k, k, fx⟩, ndK1 T, bcK k T C, ndK1 n0, lpK 5 k (.d (.sl 5 (Ex.ds T.cd))) 16, ⟨1, false, 29, 5, ndR X :: dEls (Nd.ds C)⟩, ndK1 m0]), (68, [a0, a1, a2, bdK B, msM B.bo, lbK k, ctK c, ndZ, nbf P, nbf R, ctK ⟨k, k, fx⟩, ndK1 T, bcK k T C, ndK1 n0, lpK 5 k (.d (.sl 5 (Ex.ds T.cd))) 16, ⟨1, false, 29, 5, ndR X :: dEls (Nd.ds C)⟩, ndK1 m0, ⟨0, true, 29, 5, [[aI .i64 10, aI .i64 0, aI .i64 k, nilV, nilV], [aI .i64 5, aI .i64 k, aI .i64 0, .d (.sl 5 (Ex.ds T.cd)), .own 16 0 0 1]]⟩]),
    (196,[a0,a1,a2,bdK B,msM B.bo,lbK k,ctK c,ndZ,nbf P,nbf R,ctK ⟨k,k,fx⟩,ndK1 T,bcK k T C,ndK1 n0,lpK 5 k (.d (.sl 5 (Ex.ds T.cd))) 16,⟨1,false,29,5,ndR X::dEls (Nd.ds C)⟩,ndK1 m0,⟨1,true,29,5,[aI .i64 10,aI .i64 0,aI .i64 k,nilV,nilV]::[aI .i64 5,aI .i64 k,aI .i64 0,.d (.sl 5 (Ex.ds T.cd)),.own 16 0 0 1]::dEls (Nd.ds D)⟩]),(452,[a0,a1,a2,bdK B,msM B.bo,lbK k,ctK c,ndZ,nbf P,nbf R,ctK ⟨k,k,fx⟩,ndK1 T,bcK k T C,ndK1 n0,lpK 5 k (.d (.sl 5 (Ex.ds T.cd))) 16,⟨1,false,29,5,ndR X::dEls (Nd.ds C)⟩,ndF m0,⟨1,false,29,5,[aI .i64 10,aI .i64 0,aI .i64 k,nilV,nilV]::[aI .i64 5,aI .i64 k,aI .i64 0,.d (.sl 5 (Ex.ds T.cd)),.own 16 0 0 1]::dEls (Nd.ds D)⟩]),(964,[a0,a1,a2,bdK B,msM B.bo,lbK k,ctK c,ndK1 R0,nbf P,nbf R,ctK ⟨k,k,fx⟩,ndK1 T,bcK k T C,ndK1 n0,lpK 5 k (.d (.sl 5 (Ex.ds T.cd))) 16,⟨1,false,29,5,ndR X::dEls (Nd.ds C)⟩,ndF m0,⟨1,false,29,5,[aI .i64 10,aI .i64 0,aI .i64 k,nilV,nilV]::[aI .i64 5,aI .i64 k,aI .i64 0,.d (.sl 5 (Ex.ds T.cd)),.own 16 0 0 1]::dEls (Nd.ds D)⟩])]
   (by kernel_rfl) (by kernel_rfl) rfl rfl ?_ ?_
  ·simp only[rowsR,List.mem_cons,List.not_mem_nil,or_false,forall_eq_or_imp,forall_eq]
   refine⟨⟨?v0_0,nmy,?v0_64,nmy,nmy,nmy,nmy⟩,⟨?v1_0,nmy,?v1_64,nmy,nmy,nmy,nmy⟩,⟨?v2_0,nmy,?v2_64,nmy,nmy,nmy,nmy⟩,⟨?v3_0,?v3_4,nmy,nmy,nmy,nmy,nmy⟩,⟨?v4_0,?v4_4,nmy,nmy,nmy,nmy,nmy⟩,⟨?v5_0,?v5_4,nmy,nmy,nmy,nmy,nmy⟩,⟨?v6_0,?v6_4,nmy,nmy,nmy,nmy,nmy⟩,⟨nmy,nmy,nmy,?v7_68,nmy,nmy,nmy⟩,⟨nmy,nmy,nmy,nmy,?v8_196,nmy,nmy⟩,⟨nmy,nmy,nmy,nmy,nmy,?v9_452,nmy⟩,trivial⟩
   all_goals
    intro hmay
    clear hmay
    intro e' K' h A3 hA hk
    simp only[Op.operands,Call.operands] at h
    simp[still,heapM,putR,dvA] at h hA hk
    subst hA
    simp[h,f0,f7,f9,f10,f11,f21]
    try exact hk
   case v6_0 | v6_4=>
    refine aCall_own [] (args':=[.ptr 3 1 0 0,.d (.sl 1 (i64s P)),ctA c]) (by simpa [frz] using hca2 _) (by kernel_rfl) ⟨.inl rfl,.inr (by simp[frz,hPt]),.inl rfl,trivial⟩ ?_
    simpa [frz] using hk
   case v7_68=>
    refine aRaw_app byt_27 ?_
    simp[h]
    rw[if_pos (hd5 D)]
    simp
    refine⟨by unfold maxLen; omega,by omega,?_⟩
    exact hk
   case v8_196=>
    refine aCall_ofz [16,17] hsq (by kernel_rfl) (by simp[frz,Nd.d_eq,Bu.labN,hDl,show 2 + P.length=P.length + 1 + 1 by omega,hDt]) ?_
    simpa [frz,hDl] using hk
  simp[putR,setEls,f10]
  exact⟨by simp,hcl.fix⟩
 rintro e A ⟨f0,f7,f9,f10,f11,f21,hw,rfl⟩
 rw[hw,if_neg (by simp),hn0] at hR
 have hsq:=stseq_af (Bu.labN k :: .mk 4 0 0 [] [n0]::D)
 rw[hR] at hsq
 have hDt:List.take P.length (Nd.ds D)=Nd.ds D:=List.take_of_length_le (by simp[hDl])
 refine adrawR [.agg [aI .i64 10,aI .i64 0,aI .i64 k,nilV,nilV],.agg [aI .i64 4,aI .i64 0,aI .i64 0,nilV,.own 13 0 0 1],.own 15 0 0 2,.ptr 3 1 0 0,.own 8 P.length 0 P.length,ctA c,.d (.sl 5 (Nd.ds D)),.own 15 1 0 (2 + D.length),ndA R0,.any]
  [(0, [a0, a1, a2, bdK B, msM B.bo, lbK k, ctK c, ndZ, nbf P, nbf R, ctK ⟨k, k, fx⟩, ndK1 T, bcK k T C, ndK1 n0, lpK 4 0 nilV 13]), (4, [a0, a1, a2, bdK B, msM B.bo, lbK k, ctK c, ndZ, nbf P, nbf R, ctK ⟨k, k, fx⟩, ndK1 T, bcK k T C, ndK1 n0, lpK 4 0 nilV 13, ⟨0, true, 29, 5, [[aI .i64 10, aI .i64 0, aI .i64 k, nilV, nilV], [aI .i64 4, aI .i64 0, aI .i64 0, nilV, .own 13 0 0 1]]⟩]), (64, [a0, a1, a2, bdK B, msM B.bo, lbK k, ctK c, ndZ, nbf P, nbf R, ctK ⟨k, k, fx⟩, ndK1 T, bcK k T C, ndK1 n0, lpK 4 0 nilV 13]), (68, [a0, a1, a2, bdK B, msM B.bo, lbK k, ctK c, ndZ, nbf P, nbf R, ctK ⟨k, k, fx⟩, ndK1 T, bcK k T C, ndK1 n0, lpK 4 0 nilV 13, ⟨0, true, 29, 5, [[aI .i64 10, aI .i64 0, aI .i64 k, nilV, nilV], [aI .i64 4, aI .i64 0, aI .i64 0, nilV, .own 13 0 0 1]]⟩]),
   (196,[a0,a1,a2,bdK B,msM B.bo,lbK k,ctK c,ndZ,nbf P,nbf R,ctK ⟨k,k,fx⟩,ndK1 T,bcK k T C,ndK1 n0,lpK 4 0 nilV 13,⟨1,true,29,5,[aI .i64 10,aI .i64 0,aI .i64 k,nilV,nilV]::[aI .i64 4,aI .i64 0,aI .i64 0,nilV,.own 13 0 0 1]::dEls (Nd.ds D)⟩]),(452,[a0,a1,a2,bdK B,msM B.bo,lbK k,ctK c,ndZ,nbf P,nbf R,ctK ⟨k,k,fx⟩,ndK1 T,bcK k T C,ndF n0,lpK 4 0 nilV 13,⟨1,false,29,5,[aI .i64 10,aI .i64 0,aI .i64 k,nilV,nilV]::[aI .i64 4,aI .i64 0,aI .i64 0,nilV,.own 13 0 0 1]::dEls (Nd.ds D)⟩]),(964,[a0,a1,a2,bdK B,msM B.bo,lbK k,ctK c,ndK1 R0,nbf P,nbf R,ctK ⟨k,k,fx⟩,ndK1 T,bcK k T C,ndF n0,lpK 4 0 nilV 13,⟨1,false,29,5,[aI .i64 10,aI .i64 0,aI .i64 k,nilV,nilV]::[aI .i64 4,aI .i64 0,aI .i64 0,nilV,.own 13 0 0 1]::dEls (Nd.ds D)⟩])]
  (by kernel_rfl) (by kernel_rfl) rfl rfl ?_ ?_
 ·simp only[rowsR,List.mem_cons,List.not_mem_nil,or_false,forall_eq_or_imp,forall_eq]
  refine⟨⟨?b0_0,nmy,?b0_64,nmy,nmy,nmy,nmy⟩,⟨?b1_0,nmy,?b1_64,nmy,nmy,nmy,nmy⟩,⟨?b2_0,nmy,?b2_64,nmy,nmy,nmy,nmy⟩,⟨?b3_0,?b3_4,nmy,nmy,nmy,nmy,nmy⟩,⟨?b4_0,?b4_4,nmy,nmy,nmy,nmy,nmy⟩,⟨?b5_0,?b5_4,nmy,nmy,nmy,nmy,nmy⟩,⟨?b6_0,?b6_4,nmy,nmy,nmy,nmy,nmy⟩,⟨nmy,nmy,nmy,?b7_68,nmy,nmy,nmy⟩,⟨nmy,nmy,nmy,nmy,?b8_196,nmy,nmy⟩,⟨nmy,nmy,nmy,nmy,nmy,?b9_452,nmy⟩,trivial⟩
  all_goals
   intro hmay
   clear hmay
   intro e' K' h A3 hA hk
   simp only[Op.operands,Call.operands] at h
   simp[still,heapM,putR,dvA] at h hA hk
   subst hA
   simp[h,f0,f7,f9,f10,f11,f21]
   try exact hk
  case b6_0 | b6_4=>
   refine aCall_own [] (args':=[.ptr 3 1 0 0,.d (.sl 1 (i64s P)),ctA c]) (by simpa [frz] using hca2 _) (by kernel_rfl) ⟨.inl rfl,.inr (by simp[frz,hPt]),.inl rfl,trivial⟩ ?_
   simpa [frz] using hk
  case b7_68=>
   refine aRaw_app byt_27 ?_
   simp[h]
   rw[if_pos (hd5 D)]
   simp
   refine⟨by unfold maxLen; omega,by omega,?_⟩
   exact hk
  case b8_196=>
   refine aCall_ofz [13,15] hsq (by kernel_rfl) (by simp[frz,Nd.d_eq,Bu.labN,hDl,show 2 + P.length=P.length + 1 + 1 by omega,hDt]) ?_
   simpa [frz,hDl] using hk
 simp[putR,setEls,f10]
 exact⟨by simp,hcl.fix⟩
end
structure NdG (B:Bu) (O:List Int) (e:Nd):Prop where
 form:ndOk e=true
 wh:whB B.g e=true
 nolb:e.kd=1∨∀ x∈e.l,x.kd≠10
 lb:e.kd=9∨e.kd=10→e.lb∈O
 cd:∀ x∈e.cd,∃ b∈B.g.b,∃ s∈b.s,x∈s.e
structure BuL (B:Bu) (O:List Int):Prop where
 nn:∀ k∈O,0≤k
 tos:∀ k∈O,∀ y∈(B.lastS k).tos,y∈O
 kids:∀ k,∀ y∈B.kids k,y∈O
 br:∀ k∈O,(B.lastS k).op=7∨(B.lastS k).op=8→∃ x,(B.lastS k).e.take 1=[x]∧exErr x=0
 sw:∀ k∈O,(B.lastS k).op=8→1≤(B.lastS k).cs.length∧(B.lastS k).cs.length≤64
 mem:∀ k∈O,∃ b∈B.g.b,B.lastS k∈b.s
theorem whB_of {g:Gr} {e:Nd} (h0:0≤e.bk) (h:∃ b,g.b[e.bk.toNat]? = some b∧b.s.length=1):whB g e=true:=by
 obtain⟨b,h1,h2⟩:=h
 unfold whB
 rw[if_pos h0,h1]
 simp[h2]
def AllG (B:Bu) (O:List Int) (n:Nd):Prop:=∀ e∈n.pre,NdG B O e
section
variable {B:Bu} {O:List Int}
theorem AllG.mk {n:Nd} (h:NdG B O n) (hl:∀ x∈n.l,AllG B O x):AllG B O n:=by
 intro e he
 rw[Nd.pre_eq,Nd.pres_flat] at he
 rcases List.mem_cons.1 he with rfl | he
 ·exact h
 ·obtain⟨x,hx,hex⟩:=List.mem_flatMap.1 he
  exact hl x hx e hex
theorem AllG.seq {l:List Nd} (hl:∀ x∈l,AllG B O x):AllG B O (Bu.seqN l):=
 .mk ⟨by simp[Bu.seqN,ndOk,condN],by simp[Bu.seqN,whB],.inl rfl,fun h=>by simp[Bu.seqN] at h,by simp[Bu.seqN]⟩ hl
theorem AllG.leaf {k b n:Int} (h:ndOk (.mk k b n [] [])=true) (h5:k≠5) (hl:k=9∨k=10→n∈O):AllG B O (.mk k b n [] []):=
 .mk ⟨h,by simp[whB,h5],.inr (by simp),hl,by simp⟩ (by simp)
theorem AllG.way (hB:BuL B O) {code:Int→Ct→Nd} (inl:List Int) (c:Ct) (y:Int) (hy:y∈O) (h:y∈inl→AllG B O (code y c)):AllG B O (Bu.wayN code inl c y):=by
 have:=hB.nn y hy
 unfold Bu.wayN
 split
 ·rename_i hi; exact h hi
 split
 ·exact .seq (by simp)
 split
 ·exact .leaf (by simp[ndOk,condN]) (by simp) (by simp)
 split
 ·exact .leaf (by simp[ndOk,condN]) (by simp) (by simp)
 ·exact .leaf (by simp[ndOk,condN,this]) (by simp) (fun _=>hy)
theorem way_nolb {code:Int→Ct→Nd} (h:∀ y c,(code y c).kd=1) (inl:List Int) (c:Ct) (y:Int):(Bu.wayN code inl c y).kd≠10:=by
 rcases way_cases h inl c y with h1 | ⟨h1,_⟩ | ⟨h1,_⟩ | h1
 ·omega
 all_goals rw[h1]; simp
theorem AllG.trans (hB:BuL B O) {code:Int→Ct→Nd} (hk1:∀ y c,(code y c).kd=1) (k:Int) (hk:k∈O) (inl:List Int) (c:Ct) (h:∀ y∈inl,AllG B O (code y c)):AllG B O (B.transN code k inl c):=by
 have ht:=hB.tos k hk
 have hW:∀ y∈(B.lastS k).tos,AllG B O (Bu.wayN code inl c y):=fun y hy=>.way hB inl c y (ht y hy) (h y)
 obtain⟨b,hb,hs⟩:=hB.mem k hk
 have hcd:∀ x∈(B.lastS k).e.take 1,∃ b∈B.g.b,∃ s∈b.s,x∈s.e:=fun x hx=>⟨b,hb,_,hs,List.mem_of_mem_take hx⟩
 unfold Bu.transN
 simp only
 split
 ·rename_i h6
  exact hW _ (by simp[St.tos,h6])
 split
 ·rename_i h6 h7
  obtain⟨x,hx,hx0⟩:=hB.br k hk (.inl h7)
  refine .mk ⟨by simp[ndOk,condN,hx,hx0],by simp[whB],.inr ?_,by simp,hcd⟩ ?_
  ·intro x hx
   simp at hx
   rcases hx with rfl | rfl<;>exact way_nolb hk1 _ _ _
  ·intro x hx
   simp at hx
   rcases hx with rfl | rfl
   ·exact hW _ (by simp[St.tos,h6,h7])
   ·exact hW _ (by simp[St.tos,h6,h7])
 split
 ·rename_i h6 h7 h8
  obtain⟨x,hx,hx0⟩:=hB.br k hk (.inr h8)
  obtain⟨c1,c2⟩:=hB.sw k hk h8
  refine .mk ⟨by simp[ndOk,condN,hx,hx0,c1,c2],by simp[whB],.inr ?_,by simp,hcd⟩ ?_
  ·intro x hx
   simp only[Nd.l_mk,List.mem_map] at hx
   obtain⟨y,_,rfl⟩:=hx
   exact way_nolb hk1 _ _ _
  ·intro x hx
   simp only[Nd.l_mk,List.mem_map] at hx
   obtain⟨y,hy,rfl⟩:=hx
   exact hW _ (by simp[St.tos,h8,hy])
 split
 ·exact .leaf (by simp[ndOk,condN]) (by simp) (by simp)
 ·exact .leaf (by simp[ndOk,condN]) (by simp) (by simp)
theorem AllG.chain {code:Int→Ct→Nd} (c:Ct):∀ l:List Int,(∀ y∈l,∀ c,AllG B O (code y c))→∀ x∈Bu.chainN code l c,AllG B O x
 | [],_,x,hx=>by simp[Bu.chainN] at hx
 | k :: l, h, x, hx => by
   simp only[Bu.chainN,List.mem_cons] at hx
   rcases hx with rfl | hx
   ·exact h k (by simp) _
   ·exact AllG.chain c l (fun y hy=>h y (by simp[hy])) x hx
theorem AllG.lab (hB:BuL B O) {k:Int} (hk:k∈O):AllG B O (Bu.labN k):=.leaf (by have:=hB.nn k hk; simp[ndOk,condN,this]) (by simp) (fun _=>hk)
theorem AllG.blk (k:Int):AllG B O (Bu.blkN k):=.leaf (by simp[ndOk,condN]) (by simp) (by simp)
theorem code_allG (hB:BuL B O):∀ f k c,k∈O→AllG B O (B.codeN f k c)
 | 0,k,c,_=>.seq (by simp)
 | f + 1, k, c, hk => by
   have ih:=code_allG hB f
   have hin:∀ l:List Int,(∀ y∈l,y∈B.kids k)→∀ y∈B.inlined l,∀ c,AllG B O (B.codeN f y c):=fun l hl y hy c=>ih y c (hB.kids k y (hl y (List.mem_filter.1 hy).1))
   have hpl:∀ l:List Int,(∀ y∈l,y∈B.kids k)→∀ y∈B.placed l,∀ c,AllG B O (B.codeN f y c):=fun l hl y hy c=>ih y c (hB.kids k y (hl y (List.mem_filter.1 hy).1))
   unfold Bu.codeN
   split
   ·rename_i body _
    unfold Bu.loopN
    simp only
    have hap:((B.aft body (B.kids k)).1++(B.aft body (B.kids k)).2).Perm (B.kids k):=by
     have:=aft_perm B body (B.kids k) ([],[])
     simpa [Bu.aft] using this
    obtain⟨p,hp⟩:∃ p,B.aft body (B.kids k)=p:=⟨_,rfl⟩
    rw[hp] at hap ⊢
    have hp1:∀ y∈p.1,y∈B.kids k:=fun y hy=>hap.mem_iff.1 (by simp[hy])
    have hp2:∀ y∈p.2,y∈B.kids k:=fun y hy=>hap.mem_iff.1 (by simp[hy])
    have hT:=AllG.trans hB (code_kd B f) k hk (B.inlined p.2) (Bu.firstC (B.placed p.2) ⟨k,k,(Bu.firstC p.1 c).f⟩) fun y hy=>hin p.2 hp2 y hy _
    have hC:=AllG.chain (B:=B) (O:=O) ⟨k,k,(Bu.firstC p.1 c).f⟩ (B.placed p.2) (hpl p.2 hp2)
    have hA:=AllG.chain (B:=B) (O:=O) c p.1 (code:=B.codeN f) fun y hy c=>ih y c (hB.kids k y (hp1 y hy))
    obtain⟨T,hTe⟩:∃ T,B.transN (B.codeN f) k (B.inlined p.2) (Bu.firstC (B.placed p.2) ⟨k,k,(Bu.firstC p.1 c).f⟩)=T:=⟨_,rfl⟩
    rw[hTe] at hT ⊢
    refine .seq fun x hx=>?_
    rcases List.mem_cons.1 hx with rfl | hx
    ·exact .lab hB hk
    rcases List.mem_cons.1 hx with rfl | hx
    ·split
     ·rename_i hw
      simp only[Bu.isWh,Bool.and_eq_true,decide_eq_true_eq] at hw
      obtain⟨⟨⟨w1,w2⟩,w3⟩,_⟩:=hw
      rw[← hTe] at w2
      obtain⟨X,Y,e1,e2,_,_⟩:=trans_if (code_kd B f) w2
      rw[hTe] at e1
      obtain⟨x,hx1,hx0⟩:=hB.br k hk (.inl e2)
      have hcd1:T.cd=[x]:=by
       rw[← hTe]
       unfold Bu.transN
       simp[e2,hx1]
      have hTn:=hT T (Nd.mem_pre T)
      refine .mk ⟨by rw[hcd1]; simp[ndOk,condN,hx0],?_,.inr (by simp[Bu.seqN]),by simp,hTn.cd⟩ ?_
      ·have hk0:=hB.nn k hk
       unfold Bu.stsOf at w1
       refine whB_of hk0 ?_
       cases hb:B.g.b[k.toNat]? with
       | none=>rw[hb] at w1; simp at w1
       | some b=>rw[hb] at w1; exact⟨b,hb,by simpa using w1⟩
      ·intro z hz
       simp only[Nd.l_mk,List.mem_cons,List.not_mem_nil,or_false] at hz
       subst hz
       refine .seq fun z hz=>?_
       rcases List.mem_cons.1 hz with rfl | hz
       ·have:T.l.getD 0 (Bu.seqN [])∈T.l:=by rw[e1]; simp
        exact fun e he=>hT e (Nd.mem_pre_kid this he)
       ·exact hC z hz
     ·refine .mk ⟨by simp[ndOk,condN],by simp[whB],.inr (by simp[Bu.seqN]),by simp,by simp⟩ ?_
      intro z hz
      simp only[Nd.l_mk,List.mem_cons,List.not_mem_nil,or_false] at hz
      subst hz
      refine .seq fun z hz=>?_
      rcases List.mem_cons.1 hz with rfl | hz
      ·exact .blk k
      rcases List.mem_cons.1 hz with rfl | hz
      ·exact hT
      ·exact hC z hz
    ·exact hA x hx
   ·refine .seq fun x hx=>?_
    rcases List.mem_cons.1 hx with rfl | hx
    ·exact .lab hB hk
    rcases List.mem_cons.1 hx with rfl | hx
    ·exact .blk k
    rcases List.mem_cons.1 hx with rfl | hx
    ·exact AllG.trans hB (code_kd B f) k hk _ _ fun y hy=>hin _ (fun _ h=>h) y hy _
    ·exact AllG.chain c _ (hpl _ fun _ h=>h) x hx
def CtI (c:Ct) (i:Bool):Prop:=i=false→c.h = -1∧c.x = -1
theorem CtI.first {c:Ct} {i:Bool} (h:CtI c i) (l:List Int):CtI (Bu.firstC l c) i:=by
 intro hi
 have:=h hi
 unfold Bu.firstC
 split<;>exact this
theorem inl_of {e:Nd} {i:Bool} (h:(e.kd=7∨e.kd=8)→i=true) (hl:∀ x∈e.l,inlB x (i || decide (e.kd=4) || decide (e.kd=5))=true):inlB e i=true:=by
 rw[inlB_eq]
 split
 ·rename_i h1
  have:=h h1.1
  rw[h1.2] at this
  cases this
 ·simpa using hl
theorem inl_to {e:Nd} {i:Bool} (h:inlB e i=true):((e.kd=7∨e.kd=8)→i=true)∧∀ x∈e.l,inlB x (i || decide (e.kd=4) || decide (e.kd=5))=true:=by
 rw[inlB_eq] at h
 split at h
 ·cases h
 ·rename_i h1
  refine⟨fun h2=>?_,by simpa using h⟩
  cases i with
  | true=>rfl
  | false=>exact absurd ⟨h2,rfl⟩ h1
theorem inl_seq {l:List Nd} {i:Bool} (h:∀ x∈l,inlB x i=true):inlB (Bu.seqN l) i=true:=inl_of (by simp[Bu.seqN]) (by simpa [Bu.seqN] using h)
theorem inl_way (hB:BuL B O) {code:Int→Ct→Nd} {i:Bool} (inl:List Int) (c:Ct) (hc:CtI c i) (y:Int) (hy:y∈O) (h:y∈inl→inlB (code y c) i=true):inlB (Bu.wayN code inl c y) i=true:=by
 have:=hB.nn y hy
 unfold Bu.wayN
 split
 ·rename_i hi; exact h hi
 split
 ·exact inl_seq (by simp)
 split
 ·rename_i h1
  cases i with
  | true=>exact inl_of (by simp) (by simp)
  | false=>have:=hc rfl; omega
 split
 ·rename_i h1
  cases i with
  | true=>exact inl_of (by simp) (by simp)
  | false=>have:=hc rfl; omega
 ·exact inl_of (by simp) (by simp)
theorem inl_trans (hB:BuL B O) {code:Int→Ct→Nd} {i:Bool} (k:Int) (hk:k∈O) (inl:List Int) (c:Ct) (hc:CtI c i) (h:∀ y∈inl,inlB (code y c) i=true):inlB (B.transN code k inl c) i=true:=by
 have hW:∀ y∈(B.lastS k).tos,inlB (Bu.wayN code inl c y) i=true:=fun y hy=>inl_way hB inl c hc y (hB.tos k hk y hy) (h y)
 unfold Bu.transN
 simp only
 split
 ·rename_i h6
  exact hW _ (by simp[St.tos,h6])
 split
 ·rename_i h6 h7
  have h1:=hW (B.lastS k).nx (by simp[St.tos,h7])
  have h2:=hW (B.lastS k).el (by simp[St.tos,h7])
  exact inl_of (by simp) (by simp[h1,h2])
 split
 ·rename_i h6 h7 h8
  refine inl_of (by simp) fun x hx=>?_
  simp only[Nd.l_mk,List.mem_map] at hx
  obtain⟨y,hy,rfl⟩:=hx
  simpa using hW y (by simp[St.tos,h8,hy])
 split<;>exact inl_of (by simp) (by simp)
theorem inl_chain {code:Int→Ct→Nd} {i:Bool} (c:Ct) (hc:CtI c i):∀ l:List Int,(∀ y∈l,∀ c,CtI c i→inlB (code y c) i=true)→∀ x∈Bu.chainN code l c,inlB x i=true
 | [],_,x,hx=>by simp[Bu.chainN] at hx
 | k :: l, h, x, hx => by
   simp only[Bu.chainN,List.mem_cons] at hx
   rcases hx with rfl | hx
   ·exact h k (by simp) _ (hc.first l)
   ·exact inl_chain c hc l (fun y hy=>h y (by simp[hy])) x hx
theorem code_inl (hB:BuL B O):∀ f k c i,k∈O→CtI c i→inlB (B.codeN f k c) i=true
 | 0,k,c,i,_,_=>inl_seq (by simp)
 | f + 1, k, c, i, hk, hc => by
   have ih:=code_inl hB f
   have hin:∀ l:List Int,(∀ y∈l,y∈B.kids k)→∀ y∈B.inlined l,∀ c i,CtI c i→inlB (B.codeN f y c) i=true:=fun l hl y hy c i h=>ih y c i (hB.kids k y (hl y (List.mem_filter.1 hy).1)) h
   have hpl:∀ l:List Int,(∀ y∈l,y∈B.kids k)→∀ y∈B.placed l,∀ i c,CtI c i→inlB (B.codeN f y c) i=true:=fun l hl y hy i c h=>ih y c i (hB.kids k y (hl y (List.mem_filter.1 hy).1)) h
   unfold Bu.codeN
   split
   ·rename_i body _
    unfold Bu.loopN
    simp only
    have hap:((B.aft body (B.kids k)).1++(B.aft body (B.kids k)).2).Perm (B.kids k):=by
     have:=aft_perm B body (B.kids k) ([],[])
     simpa [Bu.aft] using this
    obtain⟨p,hp⟩:∃ p,B.aft body (B.kids k)=p:=⟨_,rfl⟩
    rw[hp] at hap ⊢
    have hp1:∀ y∈p.1,y∈B.kids k:=fun y hy=>hap.mem_iff.1 (by simp[hy])
    have hp2:∀ y∈p.2,y∈B.kids k:=fun y hy=>hap.mem_iff.1 (by simp[hy])
    have hct:∀ c,CtI c true:=fun c h=>by cases h
    have hT:=inl_trans hB k hk (B.inlined p.2) (Bu.firstC (B.placed p.2) ⟨k,k,(Bu.firstC p.1 c).f⟩) (hct _) fun y hy=>hin p.2 hp2 y hy _ _ (hct _)
    have hC:=inl_chain ⟨k,k,(Bu.firstC p.1 c).f⟩ (hct _) (B.placed p.2) fun y hy=>hpl p.2 hp2 y hy true
    have hA:=inl_chain c hc p.1 (code:=B.codeN f) fun y hy c=>ih y c i (hB.kids k y (hp1 y hy))
    obtain⟨T,hTe⟩:∃ T,B.transN (B.codeN f) k (B.inlined p.2) (Bu.firstC (B.placed p.2) ⟨k,k,(Bu.firstC p.1 c).f⟩)=T:=⟨_,rfl⟩
    rw[hTe] at hT ⊢
    refine inl_seq fun x hx=>?_
    rcases List.mem_cons.1 hx with rfl | hx
    ·exact inl_of (by simp[Bu.labN]) (by simp[Bu.labN])
    rcases List.mem_cons.1 hx with rfl | hx
    ·split
     ·rename_i hw
      simp only[Bu.isWh,Bool.and_eq_true,decide_eq_true_eq] at hw
      obtain⟨⟨⟨w1,w2⟩,w3⟩,_⟩:=hw
      rw[← hTe] at w2
      obtain⟨X,Y,e1,e2,_,_⟩:=trans_if (code_kd B f) w2
      rw[hTe] at e1
      have h0:inlB X true=true:=by
       rw[e1] at hT
       have:=(inl_to hT).2 X (by simp)
       simpa using this
      have:inlB (Bu.seqN (T.l.getD 0 (Bu.seqN [])::Bu.chainN (B.codeN f) (B.placed p.2) ⟨k,k,(Bu.firstC p.1 c).f⟩)) true=true:=inl_seq fun z hz=>by
       rcases List.mem_cons.1 hz with rfl | hz
       ·rw[e1]; exact h0
       ·exact hC z hz
      refine inl_of (by simp) fun z hz=>?_
      simp only[Nd.l_mk,List.mem_cons,List.not_mem_nil,or_false] at hz
      subst hz
      simpa using this
     ·have:inlB (Bu.seqN (Bu.blkN k::T::Bu.chainN (B.codeN f) (B.placed p.2) ⟨k,k,(Bu.firstC p.1 c).f⟩)) true=true:=inl_seq fun z hz=>by
       rcases List.mem_cons.1 hz with rfl | hz
       ·exact inl_of (by simp[Bu.blkN]) (by simp[Bu.blkN])
       rcases List.mem_cons.1 hz with rfl | hz
       ·exact hT
       ·exact hC z hz
      refine inl_of (by simp) fun z hz=>?_
      simp only[Nd.l_mk,List.mem_cons,List.not_mem_nil,or_false] at hz
      subst hz
      simpa using this
    ·exact hA x hx
   ·refine inl_seq fun x hx=>?_
    rcases List.mem_cons.1 hx with rfl | hx
    ·exact inl_of (by simp[Bu.labN]) (by simp[Bu.labN])
    rcases List.mem_cons.1 hx with rfl | hx
    ·exact inl_of (by simp[Bu.blkN]) (by simp[Bu.blkN])
    rcases List.mem_cons.1 hx with rfl | hx
    ·exact inl_trans hB k hk _ _ (hc.first _) fun y hy=>hin _ (fun _ h=>h) y hy _ _ (hc.first _)
    ·exact inl_chain c hc _ (fun y hy=>hpl _ (fun _ h=>h) y hy i) x hx
end
theorem prns_eq (used:List Int):∀ l,prn.prns used l=(l.filter fun x=>decide (x.kd≠10∨x.lb∈used)).map (prn used)
 | []=>rfl
 | x :: l => by
   simp only[prn.prns,prns_eq used l,List.filter_cons]
   by_cases h:x.kd≠10∨x.lb∈used<;>simp[h]
theorem prn_eq (used:List Int) (e:Nd):prn used e = .mk e.kd e.bk e.lb e.cd (prn.prns used e.l):=by cases e; rfl
@[simp] theorem prn_kd (used:List Int) (e:Nd):(prn used e).kd=e.kd:=by rw[prn_eq]; rfl
theorem ndOk_seq:∀ {e:Nd} (l:List Nd),e.kd=1→ndOk e=true→ndOk (.mk e.kd e.bk e.lb e.cd l)=true
 | .mk k b n c l', l, h, h2 => by
   have:k=1:=h
   subst this
   exact h2
section
variable {B:Bu} {O:List Int}
theorem lab_leaf {e:Nd} (h:NdG B O e) (h10:e.kd=10):e.l=[]:=by
 have:=h.form
 simp[ndOk,h10] at this
 exact this.1.1.1.2
theorem lab_pre {e:Nd} (h:AllG B O e) (h10:e.kd=10):e.pre=[e]:=by
 rw[Nd.pre_eq,lab_leaf (h e (Nd.mem_pre e)) h10]
 rfl
theorem blks_cons (e:Nd) (l:List Nd):blks (e::l)=(if isBk e=true then [e.bk] else [])++blks l:=by
 unfold blks
 rw[List.filter_cons]
 split<;>simp
theorem labs_cons (e:Nd) (l:List Nd):labs (e::l)=(if e.kd=10 then [e.lb] else [])++labs l:=by
 unfold labs
 rw[List.filter_cons]
 by_cases h:e.kd=10<;>simp[h]
theorem gots_cons (e:Nd) (l:List Nd):gots (e::l)=(if e.kd=9 then [e.lb] else [])++gots l:=by
 unfold gots
 rw[List.filter_cons]
 by_cases h:e.kd=9<;>simp[h]
theorem gots_app (l m:List Nd):gots (l++m)=gots l++gots m:=by simp[gots]
theorem prn_keep (used:List Int):∀ e:Nd,AllG B O e→blks (prn used e).pre=blks e.pre∧gots (prn used e).pre=gots e.pre ∧
 ((e.kd≠10∨e.lb∈used)→labs (prn used e).pre=(labs e.pre).filter fun x=>decide (x∈used))∧AllG B O (prn used e)∧∀ i,inlB e i=true→inlB (prn used e) i=true:=by
 intro e
 induction e using Nd.ind with
 | h e ih=>
 intro hA
 have hl:∀ l:List Nd,(∀ x∈l,x∈e.l)→blks (Nd.pres (prn.prns used l))=blks (Nd.pres l)∧gots (Nd.pres (prn.prns used l))=gots (Nd.pres l)∧labs (Nd.pres (prn.prns used l))=(labs (Nd.pres l)).filter fun x=>decide (x∈used):=by
  intro l
  induction l with
  | nil=>intro _; exact⟨rfl,rfl,rfl⟩
  | cons a l ihl =>
    intro hm
    have ha:=hm a (by simp)
    have hAa:AllG B O a:=fun x hx=>hA x (Nd.mem_pre_kid ha hx)
    obtain⟨a1,a2,a3,_,_⟩:=ih a ha hAa
    obtain⟨h1,h2,h3⟩:=ihl fun x hx=>hm x (by simp[hx])
    by_cases hk:a.kd≠10∨a.lb∈used
    ·simp only[prn.prns,if_pos hk,Nd.pres,blks_app,gots_app,labs_app,List.filter_append,a1,a2,a3 hk,h1,h2,h3,and_self]
    ·have h10:a.kd=10:=Classical.byContradiction fun h=>hk (.inl h)
     have hn:a.lb∉used:=fun h=>hk (.inr h)
     simp only[prn.prns,if_neg hk,Nd.pres,blks_app,gots_app,labs_app,List.filter_append,h1,h2,h3]
     rw[lab_pre hAa h10]
     simp[blks,gots,labs,isBk,h10,hn]
 obtain⟨l1,l2,l3⟩:=hl e.l fun _ h=>h
 have hE:=hA e (Nd.mem_pre e)
 have hkids:∀ x∈prn.prns used e.l,∃ y∈e.l,x=prn used y:=fun x hx=>by
  rw[prns_eq] at hx
  obtain⟨y,hy,rfl⟩:=List.mem_map.1 hx
  exact⟨y,(List.mem_filter.1 hy).1,rfl⟩
 have hpe:(prn used e).pre=prn used e::Nd.pres (prn.prns used e.l):=by
  rw[Nd.pre_eq]
  congr 2
  rw[prn_eq]
  rfl
 have hlen:e.kd=1∨(prn.prns used e.l).length=e.l.length:=by
  rcases hE.nolb with h | h
  ·exact .inl h
  ·right
   rw[prns_eq,List.length_map,List.filter_eq_self.2]
   intro x hx
   have:=h x hx
   simp[this]
 refine⟨?_,?_,fun hk=>?_,?_,fun i hi=>?_⟩
 ·rw[hpe,Nd.pre_eq,blks_cons,blks_cons,l1,prn_eq]
  rfl
 ·rw[hpe,Nd.pre_eq,gots_cons,gots_cons,l2,prn_eq]
  rfl
 ·rw[hpe,Nd.pre_eq e,labs_cons,labs_cons,l3,List.filter_append,prn_eq]
  simp only[Nd.kd_mk,Nd.lb_mk]
  congr 1
  by_cases h10:e.kd=10
  ·have:e.lb∈used:=by
    rcases hk with h | h
    ·exact absurd h10 h
    ·exact h
   simp[h10,this]
  ·simp[h10]
 ·refine .mk ⟨?_,?_,?_,?_,?_⟩ ?_
  ·have:=hE.form
   rw[prn_eq]
   rcases hlen with h | h
   ·exact ndOk_seq _ h this
   ·simp only[ndOk,Nd.kd_mk,Nd.bk_mk,Nd.lb_mk,Nd.cd_mk,Nd.l_mk,h] at this ⊢
    exact this
  ·have:=hE.wh
   rw[prn_eq]
   exact this
  ·rw[prn_eq]
   simp only[Nd.kd_mk,Nd.l_mk]
   rcases hE.nolb with h | h
   ·exact .inl h
   ·right
    intro x hx
    obtain⟨y,hy,rfl⟩:=hkids x hx
    rw[prn_kd]
    exact h y hy
  ·rw[prn_eq]
   exact hE.lb
  ·rw[prn_eq]
   exact hE.cd
  ·intro x hx
   rw[prn_eq] at hx
   obtain⟨y,hy,rfl⟩:=hkids x hx
   exact (ih y hy fun z hz=>hA z (Nd.mem_pre_kid hy hz)).2.2.2.1
 ·obtain⟨i1,i2⟩:=inl_to hi
  rw[prn_eq]
  refine inl_of i1 fun x hx=>?_
  obtain⟨y,hy,rfl⟩:=hkids x hx
  exact (ih y hy fun z hz=>hA z (Nd.mem_pre_kid hy hz)).2.2.2.2 _ (i2 y hy)
theorem build_ok {par:Int→Int} {ms:Int→Nat} (h1:BuOne B) (h2:BuL B O) (h3:BuT B O par ms) (h0:0∈O) (hO:O=nI (ordN B.g)) (hg:grErr B.g=0) {f:Nat} (hf:∀ y∈O,ms y < f) (used:List Int)
 (hu:∀ x∈gots (B.codeN f 0 ⟨-1,-1,-1⟩).pre,x∈used):ckE B.g (prn used (B.codeN f 0 ⟨-1,-1,-1⟩))=0∧AllG B O (prn used (B.codeN f 0 ⟨-1,-1,-1⟩))∧(blks (prn used (B.codeN f 0 ⟨-1,-1,-1⟩)).pre).Perm O:=by
 have hb:=(code_both h1 f 0 ⟨-1,-1,-1⟩).perm (sub_all h3 h1.nd h0 hf)
 have hA:=code_allG h2 f 0 ⟨-1,-1,-1⟩ h0
 have hI:=code_inl h2 f 0 ⟨-1,-1,-1⟩ false h0 fun _=>⟨rfl,rfl⟩
 have hk1:=code_kd B f 0 ⟨-1,-1,-1⟩
 obtain⟨n,hn⟩:∃ n,B.codeN f 0 ⟨-1,-1,-1⟩=n:=⟨_,rfl⟩
 rw[hn] at hb hA hI hk1 hu ⊢
 obtain⟨p1,p2,p3,p4,p5⟩:=prn_keep used n hA
 replace p3:=p3 (.inl (by omega))
 have hlab:∀ x∈gots n.pre,x∈labs n.pre:=fun x hx=>by
  obtain⟨e,he,hx⟩:=List.mem_map.1 hx
  obtain⟨e1,e2⟩:=List.mem_filter.1 he
  subst hx
  exact hb.2.mem_iff.2 ((hA e e1).lb (.inl (by simpa using e2)))
 refine⟨?_,p4,p1 ▸ hb.1⟩
 unfold ckE
 rw[if_neg (by simp[hg]),if_neg,if_neg,if_neg,if_neg,if_pos]
 ·rw[p3]
  exact (hb.2.nodup_iff.2 h3.nd).filter _
 ·rw[p2,p3]
  simp only[Bool.not_eq_false,List.all_eq_true,decide_eq_true_eq,List.mem_filter]
  exact fun x hx=>⟨hlab x hx,hu x hx⟩
 ·simp[p5 false hI]
 ·simp only[Bool.not_eq_false,cvrB,p1,Bool.and_eq_true,List.all_eq_true,decide_eq_true_eq]
  refine⟨⟨⟨fun x hx=>hO ▸ hb.1.mem_iff.1 hx,hb.1.nodup_iff.2 h3.nd⟩,?_⟩,fun e he=>(p4 e he).wh⟩
  rw[hb.1.length_eq,hO]
  simp[nI]
 ·simp only[Bool.not_eq_false,List.all_eq_true]
  exact fun e he=>(p4 e he).form
end
def succK (g:Gr) (k:Nat):List Int:=match g.b[k]? with
 | some b=>succL b
 | none=>[]
def chT (g:Gr) (o:Nat→Option Nat) (L:List Nat) (d:Nat):List Int:=nI (L.filter fun k=>decide (o k=some d))
def edT (g:Gr) (L:List Nat) (x:Nat):Int:=(((L.flatMap (succK g)).count (x:Int):Nat):Int)
def buN (g:Gr) (o:Nat→Option Nat) (bo:List (Int×List Int)):Bu:=⟨g,(List.range g.b.length).map (chT g o (ordN g)),(List.range g.b.length).map (edT g (ordN g)),bo⟩
section
variable {g:Gr} {o:Nat→Option Nat} {bo:List (Int×List Int)}
theorem bu_kids (k:Int):(buN g o bo).kids k=if k.toNat < g.b.length then chT g o (ordN g) k.toNat else []:=by
 unfold Bu.kids buN
 simp only[List.getD_eq_getElem?_getD,List.getElem?_map]
 by_cases h:k.toNat < g.b.length
 ·rw[if_pos h,List.getElem?_range h]
  rfl
 ·rw[if_neg h,List.getElem?_eq_none (by simpa using h)]
  rfl
theorem chT_mem {L:List Nat} {d:Nat} {y:Int}:y∈chT g o L d↔∃ m∈L,o m=some d∧y=(m:Int):=by
 unfold chT
 constructor
 ·intro h
  obtain⟨m,hm,rfl⟩:=nI_memE h
  obtain⟨h1,h2⟩:=List.mem_filter.1 hm
  exact⟨m,h1,by simpa using h2,rfl⟩
 ·rintro⟨m,h1,h2,rfl⟩
  exact nI_memK.2 (List.mem_filter.2 ⟨h1,by simpa using h2⟩)
theorem bu_edg {k:Nat} (h:k < g.b.length):(buN g o bo).edg (k:Int)=edT g (ordN g) k:=by
 unfold Bu.edg buN
 simp only[List.getD_eq_getElem?_getD,List.getElem?_map,Int.toNat_natCast]
 rw[List.getElem?_range h]
 rfl
theorem bu_tos (k:Int):((buN g o bo).lastS k).tos=succK g k.toNat:=by
 unfold Bu.lastS Bu.stsOf buN succK
 simp only
 cases g.b[k.toNat]? with
 | none=>rfl
 | some b =>
   simp only[succL,List.getLastD_eq_getLast?]
   cases b.s.getLast? with
   | none=>rfl
   | some s=>rfl
theorem bu_last {k:Nat} {b:Bl} (hg:grErr g=0) (hb:g.b[k]? = some b):(buN g o bo).lastS (k:Int)∈b.s:=by
 have h1:=stmts_pos hg (gMO hb)
 unfold Bu.lastS Bu.stsOf buN
 simp only[Int.toNat_natCast,hb,List.getLastD_eq_getLast?]
 cases hl:b.s.getLast? with
 | none=>rw[List.getLast?_eq_none_iff] at hl; rw[hl] at h1; simp at h1
 | some s=>exact List.mem_of_getLast? hl
theorem succK_in (hg:grErr g=0) {k:Nat} {y:Int} (h:y∈succK g k):0≤y∧y < g.b.length:=by
 unfold succK at h
 cases hb:g.b[k]? with
 | none=>rw[hb] at h; cases h
 | some b =>
   rw[hb] at h
   simp only at h
   have hc:=(grErr_closed hg).2.1 b (gMO hb)
   unfold closedB at hc
   unfold succL at h
   cases hl:b.s.getLast? with
   | none=>rw[hl] at h; cases h
   | some s =>
     rw[hl] at h hc
     simp only[Bool.and_eq_true,Bool.not_eq_true',List.any_eq_false] at hc
     have:=hc.2 y h
     simp at this
     omega
theorem edg_succ (hg:grErr g=0) {k x:Nat} (hk:k < g.b.length):x∈edgN g k↔(x:Int)∈succK g k:=by
 unfold edgN
 rw[gEG hk]
 have hs:succK g k=succL g.b[k]:=by unfold succK; rw[gEG hk]
 show x∈((succL g.b[k]).filter (inG g)).map Int.toNat↔_
 rw[← hs]
 simp only[List.mem_map,List.mem_filter]
 constructor
 ·rintro⟨a,⟨h1,h2⟩,h3⟩
  have:=succK_in hg h1
  have e:a=(x:Int):=by omega
  exact e ▸ h1
 ·intro h
  exact⟨_,⟨h,inG_iff.2 (succK_in hg h)⟩,by simp⟩
theorem ord_rcE {k:Nat}:k∈ordN g↔(dgN g).rc k=true:=by
 show _↔(ordN g).contains k=true
 simp
theorem succ_ord (hg:grErr g=0) {k x:Nat} (hk:k∈ordN g) (h:(x:Int)∈succK g k):x∈ordN g:=by
 have h0:=grErr_pos hg
 rw[ord_rcE] at hk ⊢
 exact (rc_iff h0 x).2 (.step ((rc_iff h0 k).1 hk) ((edg_succ hg (dgN_lt (edgOk g) hk)).2 h) trivial)
theorem count_flat {f:Nat→List Int} {x:Int}:∀ {L:List Nat} {k:Nat},k∈L→(f k).count x≤(L.flatMap f).count x
 | a :: L, k, h => by
   rw[List.flatMap_cons,List.count_append]
   rcases List.mem_cons.1 h with rfl | h
   ·omega
   ·have:=count_flat (f:=f) (x:=x) h; omega
theorem count_flat2 {f:Nat→List Int} {x:Int}:∀ {L:List Nat} {k q:Nat},k∈L→q∈L→k≠q→(f k).count x + (f q).count x≤(L.flatMap f).count x
 | a :: L, k, q, h, h2, hne => by
   rw[List.flatMap_cons,List.count_append]
   rcases List.mem_cons.1 h with e | h3
   ·rcases List.mem_cons.1 h2 with e2 | h4
    ·exact absurd (e.trans e2.symm) hne
    ·have:=count_flat (f:=f) (x:=x) h4
     rw[e]
     omega
   ·rcases List.mem_cons.1 h2 with e2 | h4
    ·have:=count_flat (f:=f) (x:=x) h3
     rw[e2]
     omega
    ·have:=count_flat2 (f:=f) (x:=x) h3 h4 hne; omega
theorem one_edge (hg:grErr g=0) (ho:TreeOk g o) {y k:Nat} (hy:o y=some k) (h1:edT g (ordN g) y=1):(succK g k).count (y:Int)=1:=by
 have h0:=grErr_pos hg
 have hG:=dgN_ok (edgOk g) h0
 have hi:=tree_inv ho
 obtain⟨yr,y0,kv,kp⟩:=hi y k hy
 have h1':((ordN g).flatMap (succK g)).count (y:Int)=1:=by unfold edT at h1; omega
 obtain⟨p,hp,hpr,hpl⟩:=hG.par y yr y0
 have hpe:=(turn_mem (dgN_lt (edgOk g) yr)).1 hp
 have hps:(y:Int)∈succK g p:=(edg_succ hg hpe.1).1 hpe.2
 have hpo:=ord_rcE.2 hpr
 have hpc:=List.count_pos_iff.2 hps
 have huni:∀ q,(dgN g).rc q=true→y∈edgN g q→q=p:=fun q hq he=>Classical.byContradiction fun hne=>by
  have hqs:=List.count_pos_iff.2 ((edg_succ hg (dgN_lt (edgOk g) hq)).1 he)
  have:=count_flat2 (f:=succK g) (x:=(y:Int)) (ord_rcE.2 hq) hpo hne
  omega
 have hpy:p≠y:=fun e=>by rw[e] at hpl; omega
 have hdp:domB g p y=true:=by
  rw[domB_iff h0,dm_iff h0]
  intro hpt
  cases hpt with
  | refl _=>exact y0 rfl
  | @step b _ hb he _ =>
    have:=huni b (hb.rc h0) he
    exact hb.last this
 have hky:domB g k y=true:=(tree_dom h0 ho yr).1 (.step hy (.refl k))
 have hyk:y≠k:=fun e=>by rw[e] at kp; omega
 have hkp:Anc o k p:=by
  have:=(tree_dom h0 ho yr).2 hdp
  exact this.tail hpy.symm hy
 have hpk:domB g k p=true:=by
  rw[domB_iff h0,dm_iff h0]
  intro hpt
  rw[domB_iff h0,dm_iff h0] at hky
  exact hky (.step hpt hpe.2 hyk)
 have hpk2:Anc o p k:=(tree_dom h0 ho hpr).2 hpk
 have hek:k=p:=by
  rcases hi.anc hkp with e | ⟨_,h2⟩
  ·exact e
  ·rcases hi.anc hpk2 with e | ⟨_,h3⟩
   ·exact e.symm
   ·omega
 subst hek
 have:=count_flat (f:=succK g) (x:=(y:Int)) hpo
 omega
theorem bu_one (hg:grErr g=0) (ho:TreeOk g o):BuOne (buN g o bo):=by
 have hnd:=ordN_nodup (edgOk g) (grErr_pos hg)
 refine⟨fun k=>?_,fun k y hy h1=>?_⟩
 ·rw[bu_kids]
  split
  ·exact nI_nodup (hnd.filter _)
  ·simp
 ·rw[bu_kids] at hy
  split at hy
  ·obtain⟨m,hm,hom,rfl⟩:=chT_mem.1 hy
   rw[bu_tos]
   rw[bu_edg (dgN_lt (edgOk g) (ord_rcE.1 hm))] at h1
   exact one_edge hg ho hom h1
  ·cases hy
theorem bu_l (hg:grErr g=0):BuL (buN g o bo) (nI (ordN g)):=by
 have key:∀ k∈nI (ordN g),∃ b∈g.b,(buN g o bo).lastS k∈b.s:=fun k hk=>by
  obtain⟨m,hm,rfl⟩:=nI_memE hk
  have hlt:=dgN_lt (edgOk g) (ord_rcE.1 hm)
  have hb:=gEG hlt
  exact⟨_,gMO hb,bu_last hg hb⟩
 have hst:∀ k∈nI (ordN g),stErr ((buN g o bo).lastS k)=0:=fun k hk=>by
  obtain⟨b,hb,hs⟩:=key k hk
  exact stsErr_mem ((grErr_closed hg).2.2 b hb) _ hs
 refine⟨fun k hk=>?_,fun k hk y hy=>?_,fun k y hy=>?_,fun k hk h78=>?_,fun k hk h8=>?_,key⟩
 ·obtain⟨m,_,rfl⟩:=nI_memE hk
  omega
 ·obtain⟨m,hm,rfl⟩:=nI_memE hk
  rw[bu_tos,Int.toNat_natCast] at hy
  obtain⟨y0,y1⟩:=succK_in hg hy
  obtain⟨w,hw⟩:∃ w:Nat,y=w:=⟨y.toNat,by omega⟩
  subst hw
  exact nI_memK.2 (succ_ord hg hm hy)
 ·rw[bu_kids] at hy
  split at hy
  ·obtain⟨m,hm,_,rfl⟩:=chT_mem.1 hy
   exact nI_memK.2 hm
  ·cases hy
 ·obtain⟨h1,h2,_⟩:=st_ok (hst k hk)
  generalize (buN g o bo).lastS k=s at h1 h2 h78
  have h3:exprsN s.op=1:=by
   unfold exprsN
   rcases h78 with h | h<;>simp[h]
  rw[h3] at h1
  match hse:s.e with
  | []=>rw[hse] at h1; simp at h1
  | x::l=>exact⟨x,rfl,exsErr_mem h2 x (by rw[hse]; simp)⟩
 ·obtain⟨_,_,h3⟩:=st_ok (hst k hk)
  generalize (buN g o bo).lastS k=s at h3 h8
  unfold fieldsB at h3
  simp[h8] at h3
  omega
def parI (o:Nat→Option Nat) (y:Int):Int:=match o y.toNat with
 | some k=>(k:Int)
 | none=>-1
def msI (g:Gr) (y:Int):Nat:=(dgN g).pl y.toNat
theorem bu_t (hg:grErr g=0) (ho:TreeOk g o):BuT (buN g o bo) (nI (ordN g)) (parI o) (msI g):=by
 have h0:=grErr_pos hg
 have hnd:=ordN_nodup (edgOk g) h0
 have hi:=tree_inv ho
 refine⟨nI_nodup hnd,fun k hk y hy=>?_,fun k hk y hy hy0 hp=>?_,fun y hy hy0=>?_⟩
 ·rw[bu_kids] at hy
  split at hy
  ·obtain⟨m,hm,hom,rfl⟩:=chT_mem.1 hy
   refine⟨nI_memK.2 hm,fun e=>(hi m _ hom).2.1 (by show m=0; omega),?_⟩
   obtain⟨q,_,rfl⟩:=nI_memE hk
   unfold parI
   rw[Int.toNat_natCast,hom]
   simp
  ·cases hy
 ·obtain⟨m,hm,rfl⟩:=nI_memE hy
  obtain⟨q,hq,rfl⟩:=nI_memE hk
  rw[bu_kids,Int.toNat_natCast,if_pos (dgN_lt (edgOk g) (ord_rcE.1 hq))]
  refine chT_mem.2 ⟨m,hm,?_,rfl⟩
  unfold parI at hp
  rw[Int.toNat_natCast] at hp
  cases hom:o m with
  | none=>rw[hom] at hp; simp at hp; try omega
  | some d =>
    rw[hom] at hp
    simp only at hp
    have:d=q:=by omega
    rw[this]
 ·obtain⟨m,hm,rfl⟩:=nI_memE hy
  obtain⟨_,hv⟩:=tree_vl ho (ord_rcE.1 hm)
  rcases hv with e | e
  ·exact absurd (by have:m=0:=e; omega) hy0
  ·obtain⟨d,hd⟩:=Option.isSome_iff_exists.1 e
   obtain⟨_,_,hdv,hlt⟩:=hi m d hd
   unfold parI msI
   rw[Int.toNat_natCast,hd]
   exact⟨nI_memK.2 (ord_rcE.2 hdv.1),by simpa using hlt⟩
theorem bu_ok (hg:grErr g=0) (ho:TreeOk g o) {f:Nat} (hf:g.b.length < f) (used:List Int) (hu:∀ x∈gots ((buN g o bo).codeN f 0 ⟨-1,-1,-1⟩).pre,x∈used) :
 ckE g (prn used ((buN g o bo).codeN f 0 ⟨-1,-1,-1⟩))=0∧AllG (buN g o bo) (nI (ordN g)) (prn used ((buN g o bo).codeN f 0 ⟨-1,-1,-1⟩))∧(blks (prn used ((buN g o bo).codeN f 0 ⟨-1,-1,-1⟩)).pre).Perm (nI (ordN g)):=by
 have h0:=grErr_pos hg
 refine build_ok (B:=buN g o bo) (bu_one hg ho) (bu_l hg) (bu_t hg ho) (nI_memK.2 (ord_rcE.2 (dgN_ok (edgOk g) h0).root)) rfl hg (fun y _=>?_) used hu
 have:=(tree_mu h0 ho).2 y.toNat
 show (dgN g).pl y.toNat < f
 omega
end
section
variable (a0 a1 a2:Blk) (B:Bu)
set_option maxRecDepth 100000 in
theorem stcode_some_ac (hcl:ClH (hp5 a0 a1 a2 B)) (hB:BuOk B) (code:Int→Ct→Nd) (k:Nat) (hk:k < B.g.b.length) (c:Ct) (body:List Int) (hbo:lkBu k B.bo=some body) (hbl:body.length≤1000000) (hs:TrOk (B.lastS k)) (hk1:∀ y c,(code y c).kd=1)
 (hc:∀ y∈B.kids k,CodeOk a0 a1 a2 B code y) :
 AC Tryz.prog 42 [.ptr 3 1 0 0,aI .i64 k,ctA c] (hp5 a0 a1 a2 B) (AtH (hp5 a0 a1 a2 B) (ndA (B.loopN code k body c))):=by
 rw[lkBu_eq] at hbo
 have hlo:=AC.frame (N:=[ctK c,ndZ,lbK k]) hcl (by simp[cln,cln.clnL]) (stloop_ac a0 a1 a2 B hcl hB code k hk body hbl c hs hk1 hc)
 obtain⟨R,hR⟩:∃ R,B.loopN code k body c=R:=⟨_,rfl⟩
 rw[hR] at hlo ⊢
 refine AC.resH (by simp[cln,cln.clnL]) (ac_of Tryz.func42 rfl (by kernel_rfl) (by simp[Tryz.ntmps42]) fun _=>?_)
 simp[Tryz.f42]
 refine aRaw_lookup (r:=.tup [.d (.sl 1 (i64s body)),aB true]) (by simpa [okM,hbo] using look_ms (P:=Tryz.prog) (t:=146) (kt:=3) (et:=48) (A:=hp5 a0 a1 a2 B++[ctK c,ndZ,lbK k]) (b:=4) (L:=B.bo) (by kernel_rfl) (by kernel_rfl) (by kernel_rfl) rfl k true) ?_
 simp
 refine aCall_ofc hlo (by kernel_rfl) ?_
 rintro _ _ ⟨rfl,rfl⟩
 simp[setEls]
 exact⟨by simp,hcl.fix⟩
end
structure BuFit (B:Bu):Prop where
 ok:BuOk B
 tr:∀ k:Nat,k < B.g.b.length→TrOk (B.lastS k)
 bo:∀ k body,lkBu k B.bo=some body→body.length≤1000000
theorem code_ok {a0 a1 a2:Blk} {g:Gr} {o:Nat→Option Nat} {bo:List (Int×List Int)} (hcl:ClH (hp5 a0 a1 a2 (buN g o bo))) (hF:BuFit (buN g o bo)) (hg:grErr g=0) (ho:TreeOk g o) :
 ∀ (f:Nat) (k:Int),k∈nI (ordN g)→g.b.length < f + msI g k→CodeOk a0 a1 a2 (buN g o bo) ((buN g o bo).codeN f) k
 | 0, k, _, hf => by
   have:=(tree_mu (grErr_pos hg) ho).2 k.toNat
   unfold msI at hf
   omega
 | f + 1, k, hk, hf => by
   intro c
   have hT:=bu_t (bo:=bo) hg ho
   have hc:∀ y∈(buN g o bo).kids k,CodeOk a0 a1 a2 (buN g o bo) ((buN g o bo).codeN f) y:=fun y hy=>by
    obtain⟨h1,h2,h3⟩:=hT.kid k hk y hy
    have:=(hT.par y h1 h2).2
    rw[h3] at this
    exact code_ok hcl hF hg ho f y h1 (by omega)
   obtain⟨m,hm,rfl⟩:=nI_memE hk
   have hml:m < (buN g o bo).g.b.length:=dgN_lt (edgOk g) (ord_rcE.1 hm)
   unfold Bu.codeN
   cases hbo:lkBu (m:Int) (buN g o bo).bo with
   | none=>exact stcode_none_ac a0 a1 a2 _ hcl hF.ok _ m hml c hbo (hF.tr m hml) hc
   | some body=>exact stcode_some_ac a0 a1 a2 _ hcl hF.ok _ m hml c body hbo (hF.bo m body hbo) (hF.tr m hml) (code_kd _ f) hc
abbrev bdX (g:Gr):Blk:=⟨1,true,148,5,[[aI .u32 g.ad,.d (.sl 2 (bls' g.b)),.own 6 1 0 g.b.length,.own 5 1 0 g.b.length,.mp 4 1]]⟩
abbrev ghB0:Blk:=⟨0,true,0,0,[]⟩
abbrev mpX:Blk:=⟨1,true,1000001,2,[]⟩
abbrev edX (n:Nat):Blk:=⟨1,true,3,1,List.replicate n [aI .i64 0]⟩
abbrev chX (n:Nat):Blk:=⟨1,true,48,1,List.replicate n [.d (.v (.slice none 0 0))]⟩
abbrev nbe (E:List Int):Blk:=⟨1,true,3,1,dEls (i64s E)⟩
abbrev chv (T:List (List Nat)):Blk:=⟨1,true,48,1,rowsT 7 T⟩
abbrev hpB (g:Gr) (E:List Int) (T:List (List Nat)) (N:AHeap):AHeap:=gB g::ndZ::gB g::bdX g::mpX::nbe E::chv T::(blkT T++N)
def Tc (g:Gr) (o:Nat→Option Nat) (L:List Nat):List (List Nat):=mkT g.b.length fun d=>L.filter fun k=>decide (o k=some d)
def Ec (g:Gr) (L:List Nat):List Int:=fI g.b.length (edT g L)
@[simp] theorem Tc_len (g:Gr) (o:Nat→Option Nat) (L:List Nat):(Tc g o L).length=g.b.length:=by simp[Tc]
@[simp] theorem Ec_len (g:Gr) (L:List Nat):(Ec g L).length=g.b.length:=by simp[Ec]
theorem Tc_none {g:Gr} {o:Nat→Option Nat} {L:List Nat} {k:Nat} (h:o k=none):Tc g o (L++[k])=Tc g o L:=by
 unfold Tc
 refine mkT_ext fun x _=>?_
 rw[List.filter_append]
 simp[h]
theorem Tc_some {g:Gr} {o:Nat→Option Nat} {L:List Nat} {k d:Nat} (h:o k=some d):Tc g o (L++[k])=(Tc g o L).set d ((L.filter fun k=>decide (o k=some d))++[k]):=by
 unfold Tc
 rw[mkT_set]
 refine mkT_ext fun x _=>?_
 rw[List.filter_append]
 by_cases hx:x=d
 ·subst hx
  simp[h]
 ·have:¬ d=x:=fun e=>hx e.symm
  simp[h,hx,this]
theorem Ec_next (g:Gr) (L:List Nat) (k:Nat):Ec g (L++[k])=fI g.b.length fun x=>edT g L x + (((succK g k).count (x:Int):Nat):Int):=by
 unfold Ec
 refine fI_ext fun x _=>?_
 unfold edT
 rw[List.flatMap_append,List.count_append]
 simp
theorem Sub.rowTv {n v:Nat} {e:AEnv} {o:Nat} (N:AHeap) (pre:AHeap) (w:Nat):∀ (m j:Nat),j + m=w→pre.length + 1=o →
 Sub n e (pre++⟨v,true,48,1,rowsT o (List.replicate j [])++List.replicate m [.d (.v (.slice none 0 0))]⟩::(blkT (List.replicate w [])++N)) e (pre++⟨v,true,48,1,rowsT o (List.replicate w [])⟩::(blkT (List.replicate w [])++N))
 | 0, j, hw, _ => by
   obtain rfl:j=w:=by omega
   simpa using Sub.refl _ _ _
 | m + 1, j, hw, ho => by
   have h1:=Sub.rowTv (n:=n) (v:=v) (e:=e) N pre w m (j + 1) (by omega) ho
   refine Sub.trans ?_ h1
   have hb:(pre++(⟨v,true,48,1,rowsT o (List.replicate j [])++List.replicate (m + 1) [.d (.v (.slice none 0 0))]⟩:Blk)::(blkT (List.replicate w [])++N))[pre.length]? = some ⟨v,true,48,1,rowsT o (List.replicate j [])++List.replicate (m + 1) [.d (.v (.slice none 0 0))]⟩:=by
    rw[List.getElem?_append_right (Nat.le_refl _)]
    simp
   have hx:(rowsT o (List.replicate j [])++List.replicate (m + 1) [AV.d (.v (.slice none 0 0))])[j]? = some [.d (.v (.slice none 0 0))]:=by
    rw[List.getElem?_append_right (by simp[rowsT_len])]
    simp[rowsT_len]
   have hk:(pre++(⟨v,true,48,1,rowsT o (List.replicate j [])++List.replicate (m + 1) [.d (.v (.slice none 0 0))]⟩:Blk)::(blkT (List.replicate w [])++N))[j + o]? = some ⟨0,true,3,1,[]⟩:=by
    rw[List.getElem?_append_right (by omega),show j + o - pre.length=j + 1 by omega,List.getElem?_cons_succ]
    have:(List.replicate w ([]:List Nat))[j]? = some []:=by rw[List.getElem?_replicate,if_pos (by omega)]
    exact blkT_get this N
   have hs:=Sub.cell (n:=n) (e:=e) (b:=pre.length) (i:=j) (o:=0) (c:=.d (.v (.slice none 0 0))) (c':=.own (j + o) 0 0 0) hb hx rfl (VLe.nil_own hk rfl)
   have hs':Sub n e _ e _:=hs
   simp only[List.set_cons_zero] at hs'
   have heq:(pre++(⟨v,true,48,1,rowsT o (List.replicate j [])++List.replicate (m + 1) [.d (.v (.slice none 0 0))]⟩:Blk)::(blkT (List.replicate w [])++N)).set pre.length (setEls ⟨v,true,48,1,rowsT o (List.replicate j [])++List.replicate (m + 1) [.d (.v (.slice none 0 0))]⟩ ((rowsT o (List.replicate j [])++List.replicate (m + 1) [AV.d (.v (.slice none 0 0))]).set j [AV.own (j + o) 0 0 0]))=pre++⟨v,true,48,1,rowsT o (List.replicate (j + 1) [])++List.replicate m [.d (.v (.slice none 0 0))]⟩::(blkT (List.replicate w [])++N):=by
    rw[List.set_append_right _ _ (Nat.le_refl _),Nat.sub_self,List.set_cons_zero]
    have h2:=set_mid (rowsT o (List.replicate j [])) [AV.d (.v (.slice none 0 0))] [AV.own (j + o) 0 0 0] m
    rw[rowsT_len,List.length_replicate] at h2
    have h3:rowsT o (List.replicate j [])++[[AV.own (j + o) 0 0 0]]=rowsT o (List.replicate (j + 1) []):=by
     rw[List.replicate_succ',rowsT,rowsT,List.mapIdx_append]
     simp
    simp only[setEls]
    rw[h2,h3]
   rw[heq] at hs'
   exact hs'
theorem edT_le {g:Gr} (hg:GrFit g) (L:List Nat) (x:Nat):edT g L x≤((L.length * 2000000:Nat):Int):=by
 unfold edT
 have:∀ L:List Nat,(L.flatMap (succK g)).count (x:Int)≤L.length * 2000000:=by
  intro L
  induction L with
  | nil=>simp
  | cons a L ih =>
    rw[List.flatMap_cons,List.count_append,List.length_cons,Nat.succ_mul]
    have h1:(succK g a).count (x:Int)≤2000000:=by
     refine Nat.le_trans List.count_le_length ?_
     unfold succK
     cases hb:g.b[a]? with
     | none=>simp
     | some b=>exact succL_len hg (gMO hb)
    omega
 have:=this L
 omega
abbrev fzK (k:Blk):Blk:=⟨k.ver,false,k.ty,k.sz,k.els⟩
theorem frzF_all (A:AHeap):frzF 0 A=A.map fzK:=by
 apply List.ext_getElem?
 intro j
 rw[frzF_get,List.getElem?_map]
 simp
theorem reiTf {A:AHeap} {T:List (List Nat)} {o:Nat} (hA:∀ (j:Nat) (L:List Nat),T[j]? = some L→A[j + o]? = some (fzK (dPb L))) (d:Nat):omap (fun x=>omap (reiD true A (d + 1)) x) (rowsT o T)=some (dataT T):=by
 refine omap_ext (by simp[rowsT_len,dataT]) fun i a r ha hr=>?_
 simp only[rowsT,List.getElem?_mapIdx,Option.map_eq_some_iff] at ha
 obtain⟨L,hL,rfl⟩:=ha
 simp only[dataT,List.getElem?_map,hL,Option.map_some,Option.some.injEq] at hr
 subst hr
 have hg:=hA i L hL
 have ht:List.take L.length (dEls (i64s (nI L)))=dEls (i64s (nI L)):=List.take_of_length_le (by simp)
 simp[omap,reiD,curB,hg,ht,fzK,dPb]
theorem dataT_ch (g:Gr) (o:Nat→Option Nat) (bo:List (Int×List Int)):dataT (Tc g o (ordN g))=chD (buN g o bo).ch:=by
 unfold dataT chD Tc mkT buN chT
 simp[List.map_map,Function.comp_def]
noncomputable def boT (L:List Lp):List (Int×List Int):=L.foldl (fun M x=>upS x.hd x.bd M) []
theorem boT_app (L:List Lp) (x:Lp):boT (L++[x])=upS x.hd x.bd (boT L):=by simp[boT]
theorem newb_done {n:Nat} {e:AEnv} (g:Gr) (o:Nat→Option Nat) (N:AHeap):∃ A3,Sub n e (hpB g (Ec g (ordN g)) (Tc g o (ordN g)) N) e A3∧(A3.take 5).map (clnB 5)=[gB g,ndZ,gB g,bdK (buN g o []),mpX]:=by
 obtain⟨T,hT⟩:∃ T,Tc g o (ordN g)=T:=⟨_,rfl⟩
 have hTl:T.length=g.b.length:=by rw[← hT]; simp
 have hdt:=dataT_ch g o []
 rw[hT] at hdt ⊢
 have hA:frzF 5 (hpB g (Ec g (ordN g)) T N)=gB g::ndZ::gB g::bdX g::mpX::fzK (nbe (Ec g (ordN g)))::fzK (chv T)::(blkT T++N).map fzK:=by
  simp[hpB,frzF_all]
 have s1:Sub n e (hpB g (Ec g (ordN g)) T N) e (frzF 5 (hpB g (Ec g (ordN g)) T N)):=Sub.frz _
 rw[hA] at s1
 obtain⟨A1,hA1⟩:∃ A1,gB g::ndZ::gB g::bdX g::mpX::fzK (nbe (Ec g (ordN g)))::fzK (chv T)::(blkT T++N).map fzK=A1:=⟨_,rfl⟩
 have hget:∀ (j:Nat) (L:List Nat),T[j]? = some L→A1[j + 7]? = some (fzK (dPb L)):=fun j L h=>by
  rw[← hA1]
  simp only[List.getElem?_cons_succ,List.getElem?_map,blkT_get h N,Option.map_some]
 have hr1:reiV true A1 9 (.own 6 1 0 g.b.length)=some (.d (.sl 1 (chD (buN g o []).ch))):=by
  have h6:A1[6]? = some (fzK (chv T)):=by rw[← hA1]; rfl
  have ht:List.take g.b.length (rowsT 7 T)=rowsT 7 T:=List.take_of_length_le (by simp[rowsT_len,hTl])
  have hrw:=reiTf hget 7
  simp only[reiV,rei1,reiD,curB,h6]
  rw[if_pos (by simp)]
  simp only
  rw[if_pos ⟨by simp[rowsT_len,hTl],by simp⟩]
  simp only[List.drop_zero,ht]
  rw[hrw,hdt]
  rfl
 have hr2:reiV true A1 9 (.own 5 1 0 g.b.length)=some (.d (.sl 1 (i64s (buN g o []).ed))):=by
  have h5:A1[5]? = some (fzK (nbe (Ec g (ordN g)))):=by rw[← hA1]; rfl
  have ht:List.take g.b.length (dEls (i64s (Ec g (ordN g))))=dEls (i64s (Ec g (ordN g))):=List.take_of_length_le (by simp)
  simp only[reiV,rei1,reiD,curB,h5]
  rw[if_pos (by simp)]
  simp only
  rw[if_pos ⟨by simp,by simp⟩]
  simp only[List.drop_zero,ht,omap_dEls]
  rfl
 rw[hA1] at s1
 have h3:A1[3]? = some (bdX g):=by rw[← hA1]; rfl
 have s2:=Sub.cell (n:=n) (e:=e) (A:=A1) (b:=3) (i:=0) (o:=2) (c':=.d (.sl 1 (chD (buN g o []).ch))) h3 rfl rfl (VLe.rei hr1)
 obtain⟨A2,hA2⟩:∃ A2,A1.set 3 (setEls (bdX g) ((bdX g).els.set 0 ([aI .u32 g.ad,.d (.sl 2 (bls' g.b)),.own 6 1 0 g.b.length,.own 5 1 0 g.b.length,.mp 4 1].set 2 (.d (.sl 1 (chD (buN g o []).ch))))))=A2:=⟨_,rfl⟩
 have s2':Sub n e A1 e A2:=hA2 ▸ s2
 have g5:A2[5]? = some (fzK (nbe (Ec g (ordN g)))):=by rw[← hA2,← hA1]; rfl
 have hr3:reiV true A2 9 (.own 5 1 0 g.b.length)=some (.d (.sl 1 (i64s (buN g o []).ed))):=by
  have ht:List.take g.b.length (dEls (i64s (Ec g (ordN g))))=dEls (i64s (Ec g (ordN g))):=List.take_of_length_le (by simp)
  simp only[reiV,rei1,reiD,curB,g5]
  rw[if_pos (by simp)]
  simp only
  rw[if_pos ⟨by simp,by simp⟩]
  simp only[List.drop_zero,ht,omap_dEls]
  rfl
 have g3:A2[3]? = some ⟨1,true,148,5,[[aI .u32 g.ad,.d (.sl 2 (bls' g.b)),.d (.sl 1 (chD (buN g o []).ch)),.own 5 1 0 g.b.length,.mp 4 1]]⟩:=by rw[← hA2,← hA1]; rfl
 have s3:=Sub.cell (n:=n) (e:=e) (A:=A2) (b:=3) (i:=0) (o:=3) (c':=.d (.sl 1 (i64s (buN g o []).ed))) g3 rfl rfl (VLe.rei hr3)
 have s4:=Sub.frz (n:=n) (e:=e) [3] (A:=A2.set 3 (setEls ⟨1,true,148,5,[[aI .u32 g.ad,.d (.sl 2 (bls' g.b)),.d (.sl 1 (chD (buN g o []).ch)),.own 5 1 0 g.b.length,.mp 4 1]]⟩ [[aI .u32 g.ad,.d (.sl 2 (bls' g.b)),.d (.sl 1 (chD (buN g o []).ch)),.d (.sl 1 (i64s (buN g o []).ed)),.mp 4 1]]))
 have hfin:((frz [3] (A2.set 3 (setEls ⟨1,true,148,5,[[aI .u32 g.ad,.d (.sl 2 (bls' g.b)),.d (.sl 1 (chD (buN g o []).ch)),.own 5 1 0 g.b.length,.mp 4 1]]⟩ [[aI .u32 g.ad,.d (.sl 2 (bls' g.b)),.d (.sl 1 (chD (buN g o []).ch)),.d (.sl 1 (i64s (buN g o []).ed)),.mp 4 1]]))).take 5).map (clnB 5)=[gB g,ndZ,gB g,bdK (buN g o []),mpX]:=by
  rw[← hA2,← hA1]
  simp[frz,setEls,clnB,cln,cln.clnL]
  exact⟨rfl,rfl⟩
 exact⟨_,((s1.trans s2').trans s3).trans s4,hfin⟩
theorem Sub.newb {n:Nat} {e:AEnv} (g:Gr):Sub n e [gB g,ndZ,gB g,bdX g,mpX,edX g.b.length,chX g.b.length] e (hpB g (List.replicate g.b.length 0) (List.replicate g.b.length []) []):=by
 have h1:=Sub.ghostT (n:=n) (e:=e) g.b.length (A:=[gB g,ndZ,gB g,bdX g,mpX,edX g.b.length,chX g.b.length])
 have h2:=Sub.rowTv (n:=n) (v:=1) (e:=e) (o:=7) [] [gB g,ndZ,gB g,bdX g,mpX,edX g.b.length] g.b.length g.b.length 0 (by omega) rfl
 refine Sub.trans h1 ?_
 have h3:rowsT 7 (List.replicate 0 [])=[]:=rfl
 rw[h3] at h2
 have h4:dEls (i64s (List.replicate g.b.length 0))=List.replicate g.b.length [aI .i64 0]:=by simp[dEls,i64s]
 show Sub n e _ e (gB g::ndZ::gB g::bdX g::mpX::⟨1,true,3,1,dEls (i64s (List.replicate g.b.length 0))⟩::chv (List.replicate g.b.length [])::(blkT (List.replicate g.b.length [])++[]))
 rw[h4]
 simpa using h2
set_option maxRecDepth 100000 in
set_option maxHeartbeats 0 in
theorem stnewb_ac (g:Gr) (hg:GrFit g) (hsm:g.b.length≤400) (hge:grErr g=0) (o:Nat→Option Nat) (ho:TreeOk g o) (hto:AF Tryz.prog 104 [grV g] (.d (.sl 1 (i64s (oI g.b.length o))))):AC Tryz.prog 41 [grV g] [gB g,ndZ] (fun r A'=>r = .ptr 3 1 0 0∧A'=hp5 (gB g) ndZ (gB g) (buN g o (boT (findL g)))):=by
 have hgl:g.b.length≤maxLen:=by unfold maxLen; omega
 have h0:=grErr_pos hge
 refine ac_of Tryz.func41 rfl (by kernel_rfl) (by simp[Tryz.ntmps41]) fun _=>?_
 simp[Tryz.f41]
 refine adrawG 4 [.agg [aI .u32 g.ad,.d (.sl 2 (bls' g.b))],.ptr 2 0 0 1,.d (.sl 2 (bls' g.b)),aI .i64 g.b.length,.own 6 1 0 g.b.length,.ptr 2 0 0 1,.d (.sl 2 (bls' g.b)),aI .i64 g.b.length,.own 5 1 0 g.b.length,.mp 4 1,.agg [aI .u32 g.ad,.d (.sl 2 (bls' g.b)),.own 6 1 0 g.b.length,.own 5 1 0 g.b.length,.mp 4 1],.ptr 3 1 0 0,.ptr 3 1 0 0]
  [(0, [gB g, ndZ, gB g, ghB0, ghB0, ghB0, ghB0]),
   (16,[gB g,ndZ,gB g,ghB0,ghB0,ghB0,chX g.b.length]),
   (256,[gB g,ndZ,gB g,ghB0,ghB0,edX g.b.length,ghB0]),
   (512,[gB g,ndZ,gB g,ghB0,mpX,ghB0,ghB0]),
   (272,[gB g,ndZ,gB g,ghB0,ghB0,edX g.b.length,chX g.b.length]),
   (528,[gB g,ndZ,gB g,ghB0,mpX,ghB0,chX g.b.length]),
   (768,[gB g,ndZ,gB g,ghB0,mpX,edX g.b.length,ghB0]),
   (784,[gB g,ndZ,gB g,ghB0,mpX,edX g.b.length,chX g.b.length]),
   (2832,[gB g,ndZ,gB g,bdX g,mpX,edX g.b.length,chX g.b.length])]
  (by kernel_rfl) (by kernel_rfl) (by simp[heapM,List.replicate]) rfl ?_ ?_
 ·simp only[rowsG,List.mem_cons,List.not_mem_nil,or_false,forall_eq_or_imp,forall_eq]
  refine⟨⟨?q0_0,?q0_16,?q0_256,?q0_512,?q0_272,?q0_528,?q0_768,?q0_784,nmy⟩,⟨?q1_0,nmy,?q1_256,?q1_512,nmy,nmy,?q1_768,nmy,nmy⟩,⟨?q2_0,nmy,?q2_256,?q2_512,nmy,nmy,?q2_768,nmy,nmy⟩,⟨?q3_0,nmy,?q3_256,?q3_512,nmy,nmy,?q3_768,nmy,nmy⟩,⟨?q4_0,nmy,?q4_256,?q4_512,nmy,nmy,?q4_768,nmy,nmy⟩,⟨?q5_0,?q5_16,nmy,?q5_512,nmy,?q5_528,nmy,nmy,nmy⟩,⟨?q6_0,?q6_16,nmy,?q6_512,nmy,?q6_528,nmy,nmy,nmy⟩,⟨?q7_0,?q7_16,nmy,?q7_512,nmy,?q7_528,nmy,nmy,nmy⟩,⟨?q8_0,?q8_16,nmy,?q8_512,nmy,?q8_528,nmy,nmy,nmy⟩,⟨?q9_0,?q9_16,?q9_256,nmy,?q9_272,nmy,nmy,nmy,nmy⟩,⟨nmy,nmy,nmy,nmy,nmy,nmy,nmy,?q10_784,nmy⟩,⟨nmy,nmy,nmy,nmy,nmy,nmy,nmy,?q11_784,nmy⟩,⟨nmy,nmy,nmy,nmy,nmy,nmy,nmy,nmy,?q12_2832⟩,trivial⟩
  case q4_0 | q4_256 | q4_512 | q4_768=>
   intro hmay
   clear hmay
   intro e' K' h A4 hA hk
   simp only[Op.operands,Call.operands] at h
   try simp[still,heapM,putR,dvA] at h
   simp[still,heapM,putR,dvA] at hA hk
   subst hA
   refine avopG_live 6 (v:=.own 6 1 0 g.b.length) (k:=chX g.b.length) (k0:=ghB0) (live_mk (by simpa using h) (by simpa using h) byt_145 (by kernel_rfl) hgl (by omega)) rfl rfl ?_
   simpa using hk
  case q8_0 | q8_16 | q8_512 | q8_528=>
   intro hmay
   clear hmay
   intro e' K' h A4 hA hk
   simp only[Op.operands,Call.operands] at h
   try simp[still,heapM,putR,dvA] at h
   simp[still,heapM,putR,dvA] at hA hk
   subst hA
   refine avopG_live 5 (v:=.own 5 1 0 g.b.length) (k:=edX g.b.length) (k0:=ghB0) (live_mk (by simpa using h) (by simpa using h) byt_48 (by kernel_rfl) hgl (by omega)) rfl rfl ?_
   simpa using hk
  case q9_0 | q9_16 | q9_256 | q9_272=>
   intro hmay
   clear hmay
   intro e' K' h A4 hA hk
   simp only[Op.operands,Call.operands] at h
   try simp[still,heapM,putR,dvA] at h
   simp[still,heapM,putR,dvA] at hA hk
   subst hA
   refine avopG_live 4 (v:=.mp 4 1) (k:=mpX) (k0:=ghB0) (by kernel_rfl) rfl rfl ?_
   simpa using hk
  case q11_784=>
   intro hmay
   clear hmay
   intro e' K' h A4 hA hk
   simp only[Op.operands,Call.operands] at h
   try simp[still,heapM,putR,dvA] at h
   simp[still,heapM,putR,dvA] at hA hk
   subst hA
   refine avopG_box 3 (k:=⟨0,true,148,5,(bdX g).els⟩) (k0:=ghB0) rfl (by simp[h]) rfl rfl ?_
   simpa using hk
  all_goals
   intro hmay
   clear hmay
   intro e' K' h A4 hA hk
   simp only[Op.operands,Call.operands] at h
   try simp[still,heapM,putR,dvA] at h
   simp[still,heapM,putR,dvA] at hA hk
   subst hA
   refine avopG_of ?_
   simp[h]
   first | exact hk | simpa using hk | skip
 simp[putR]
 refine aCall_of hto (by kernel_rfl) (by simp) ?_
 simp
 refine aCall_of (dmOrder_af revOk g hg (edgOk g)) (by kernel_rfl) (by simp) ?_
 simp
 have hi:=tree_inv ho
 have hol:=ordN_len (edgOk g) (g:=g)
 have hT0:Tc g o []=List.replicate g.b.length []:=by
  unfold Tc mkT
  simp[List.map_const']
 have hE0:Ec g []=List.replicate g.b.length 0:=by
  unfold Ec fI edT
  simp[List.map_const']
 refine aLoop_of (α:=Nat) (fun i e A=>i≤(ordN g).length∧(∃ N:AHeap,A=hpB g (Ec g ((ordN g).take i)) (Tc g o ((ordN g).take i)) N) ∧
  e 29=aI .i64 i∧e 28=aI .i64 (ordN g).length∧e 27 = .d (.sl 1 (i64s (nI (ordN g))))∧e 4 = .d (.sl 1 (i64s (oI g.b.length o)))∧e 3 = .ptr 3 1 0 0∧e 1 = .ptr 2 0 0 0) (fun i=>(ordN g).length - i) 0 (Sub.newb g)
  ⟨by omega,⟨[],by rw[List.take_zero,hT0,hE0]⟩,by simp,by simp,by simp,by simp,by simp,by simp⟩ ?_
 rintro i e A ⟨hi1,⟨N,rfl⟩,e29,e28,e27,e4,e3,e1⟩ K hK
 rcases Nat.lt_or_ge i (ordN g).length with hlt | hge
 case inr=>
  obtain rfl:i=(ordN g).length:=by omega
  clear hK
  rw[List.take_length]
  obtain⟨F,hF⟩:∃ F,findL g=F:=⟨_,rfl⟩
  have hFl:F.length≤maxLen:=by
   rw[← hF]
   unfold findL
   rw[withP_len]
   unfold fnd0
   rw[List.length_map]
   have:=List.length_filter_le (isHd g) (ordN g)
   unfold maxLen
   omega
  have hfi:=lpfind_af g hg hsm
  rw[hF] at hfi ⊢
  simp[e29,e28,e1]
  refine aCall_of hfi (by kernel_rfl) (by simp) ?_
  simp
  obtain⟨A3,hs3,hA3⟩:=newb_done (n:=2) (e:=aupd (aupd (aupd (aupd (aupd e (some 30) (aB false)) (some 77) (.agg [aI .u32 g.ad,.d (.sl 2 (bls' g.b))])) (some 78) (.d (.sl 4 (lps F)))) (some 79) (aI .i64 F.length)) (some 80) (aI .i64 0)) g o N
  refine aLoop_st (fun i:Nat=>[(3,.ptr 3 1 0 0),(78,.d (.sl 4 (lps F))),(79,aI .i64 F.length),(80,aI .i64 i)]) (fun i=>[gB g,ndZ,gB g,bdK (buN g o []),msM (boT (F.take i))]) (fun i=>i≤F.length) (fun i=>F.length - i) 0 hs3 5 (by omega) (by rw[hA3]; rfl) (by simp[e3]) (by omega) ?_
  rintro i hi2 K hK
  rcases Nat.lt_or_ge i F.length with hlt2 | hge2
  case inr=>
   obtain rfl:i=F.length:=by omega
   rw[List.take_length]
   simp
   exact⟨⟨rfl,rfl,rfl,rfl⟩,rfl⟩
  obtain⟨x,hx⟩:∃ x,F[i]? = some x:=⟨_,gEG hlt2⟩
  have hxg:=lps_get hx
  have hxg2:=(gSI.1 hxg).2
  have htk:F.take (i + 1)=F.take i++[x]:=by rw[List.take_add_one,hx]; rfl
  have hbo:boT (F.take (i + 1))=upS x.hd x.bd (boT (F.take i)):=by rw[htk,boT_app]
  obtain⟨M,hM⟩:∃ M,boT (F.take i)=M:=⟨_,rfl⟩
  rw[hM] at hbo ⊢
  have hup:=upd_ms (P:=Tryz.prog) (t:=146) (kt:=3) (et:=48) (A:=[gB g,ndZ,gB g,bdK (buN g o []),msM M,⟨0,true,153,4,[[aI .i64 x.hd,.d (.sl 1 (i64s x.bd)),.d (.sl 1 (i64s x.ex)),aI .i64 x.pa]]⟩]) (b:=4) (L:=M) (by kernel_rfl) (by kernel_rfl) rfl x.hd x.bd
  simp[hlt2,hxg,hxg2]
  refine adraw2 8 [] (by kernel_rfl) (by kernel_rfl) (by kernel_rfl) (by kernel_rfl) (by kernel_rfl) ?_
  simp
  refine aRaw_mapUpdate (A':=[gB g,ndZ,gB g,bdK (buN g o []),msM (upS x.hd x.bd M),⟨0,true,153,4,[[aI .i64 x.hd,.d (.sl 1 (i64s x.bd)),.d (.sl 1 (i64s x.ex)),aI .i64 x.pa]]⟩]) (by simpa using hup) ?_
  simp[succ_wrap hlt2 hFl]
  refine hK (i + 1) (by omega) (by omega) (Sub.take 5 (by omega)) 5 (by omega) ?_ (by simp)
  rw[hbo]
  simp[cE_ms]
 obtain⟨k,hk⟩:∃ k,(ordN g)[i]? = some k:=⟨_,gEG hlt⟩
 have hk2:=(gSI.1 hk).2
 have hkn:=ordN_lt (edgOk g) k (gMO hk)
 have hd:=oI_get o hkn
 have hd2:=(gSI.1 hd).2
 have htk:(ordN g).take (i + 1)=(ordN g).take i++[k]:=by rw[List.take_add_one,hk]; rfl
 have hT1:=@Tc_none g o ((ordN g).take i) k
 have hT2:=fun d=>@Tc_some g o ((ordN g).take i) k d
 have hE1:=Ec_next g ((ordN g).take i) k
 rw[← htk] at hT1 hE1
 simp only[← htk] at hT2
 obtain⟨b,hb⟩:∃ b,g.b[k]? = some b:=⟨_,gEG hkn⟩
 have hb2:=(gSI.1 hb).2
 have hsk:succK g k=succL b:=by unfold succK; rw[hb]
 rw[hsk] at hE1
 simp[e29,e28,e27,e4,e3,e1,hlt,hk,hk2,hkn,hd,hd2]
 obtain⟨E,hE⟩:∃ E,Ec g ((ordN g).take i)=E:=⟨_,rfl⟩
 rw[hE]
 refine aCond_meet (fun e A=>(∃ N:AHeap,A=hpB g E (Tc g o ((ordN g).take (i + 1))) N)∧e 29=aI .i64 i∧e 28=aI .i64 (ordN g).length∧e 27 = .d (.sl 1 (i64s (nI (ordN g))))∧e 4 = .d (.sl 1 (i64s (oI g.b.length o)))∧e 3 = .ptr 3 1 0 0∧e 1 = .ptr 2 0 0 0∧e 6=aI .i64 k) ?_ (fun h=>?_) (fun h=>?_)
 case refine_3=>
  simp at h
  have hok:o k=none:=by
   cases hok:o k with
   | none=>rfl
   | some d=>unfold oV at h; rw[hok] at h; simp at h; omega
  exact⟨⟨N,by rw[hT1 hok]⟩,by simp[e29],by simp[e28],by simp[e27],by simp[e4],by simp[e3],by simp[e1],by simp⟩
 case refine_2=>
  simp at h
  obtain⟨d,hok⟩:∃ d,o k=some d:=by
   cases hok:o k with
   | none=>unfold oV at h; rw[hok] at h; simp at h
   | some d=>exact⟨d,rfl⟩
  have hov:oV o k=(d:Int):=by unfold oV; rw[hok]
  have hdn:=dgN_lt (edgOk g) (hi k d hok).2.2.1.1
  have hT3:=hT2 d hok
  obtain⟨T,hT⟩:∃ T,Tc g o ((ordN g).take i)=T:=⟨_,rfl⟩
  have hTl:T.length=g.b.length:=by rw[← hT]; simp
  have hL:T[d]? = some (((ordN g).take i).filter fun k=>decide (o k=some d)):=by rw[← hT]; exact mkT_get _ hdn
  rw[hT] at hT3 ⊢
  obtain⟨L,hLL⟩:∃ L,(((ordN g).take i).filter fun k=>decide (o k=some d))=L:=⟨_,rfl⟩
  rw[hLL] at hL hT3
  have hLn:L.length≤1000:=by
   rw[← hLL]
   have:=List.length_filter_le (fun k=>decide (o k=some d)) ((ordN g).take i)
   rw[List.length_take] at this
   omega
  rw[hov]
  have hrT:=rowsT_get (o:=7) hL
  have hrT2:=(gSI.1 hrT).2
  have hbg:=fun N=>blkT_get hL N
  have hp:dPb (L++[k])=⟨L.length + 1,true,3,1,dEls (i64s (nI L))++[[AV.d (D.v (Value.int .i64 k))]]⟩:=by simp[dPb,nI,i64s,dEls]
  have hset:∀ N,(blkT T++N).set d ⟨L.length + 1,true,3,1,dEls (i64s (nI L))++[[AV.d (D.v (Value.int .i64 k))]]⟩=blkT (T.set d (L++[k]))++N:=fun N=>by rw[← hp]; exact blkT_set hL _ N
  have hrs:=rowsT_set 7 T d (L++[k])
  rw[show (L++[k]).length=L.length + 1 by simp] at hrs
  refine adrawR [.ptr 3 1 0 0,.ptr 3 1 0 0,.ptr 3 1 0 2,.own 6 1 0 g.b.length,aI .i64 d,.ptr 3 1 0 0,.ptr 3 1 0 0,.ptr 3 1 0 2,.own 6 1 0 g.b.length,aI .i64 d,.ptr 6 1 d 0,.own (d + 7) L.length 0 L.length,aI .i64 k,.own (hpB g E T N).length 0 0 1,.own (d + 7) (L.length + 1) 0 (L.length + 1),.ptr 6 1 d 0,.any]
   [(0,hpB g E T N),(8192,hpB g E T (N++[⟨0,true,3,1,[[aI .i64 k]]⟩])),(24576,gB g::ndZ::gB g::bdX g::mpX::nbe E::chv T::(blkT (T.set d (L++[k]))++(N++[⟨0,true,3,1,[[aI .i64 k]]⟩]))),(90112,hpB g E (T.set d (L++[k])) (N++[⟨0,true,3,1,[[aI .i64 k]]⟩]))]
   (by kernel_rfl) (by kernel_rfl) rfl rfl ?_ ?_
  ·simp only[rowsR,List.mem_cons,List.not_mem_nil,or_false,forall_eq_or_imp,forall_eq]
   refine⟨⟨?c0_0,?c0_8192,?c0_24576,nmy⟩,⟨?c1_0,?c1_8192,?c1_24576,nmy⟩,⟨?c2_0,?c2_8192,?c2_24576,nmy⟩,⟨?c3_0,?c3_8192,?c3_24576,nmy⟩,⟨?c4_0,?c4_8192,?c4_24576,nmy⟩,⟨?c5_0,?c5_8192,nmy,nmy⟩,⟨?c6_0,?c6_8192,nmy,nmy⟩,⟨?c7_0,?c7_8192,nmy,nmy⟩,⟨?c8_0,?c8_8192,nmy,nmy⟩,⟨?c9_0,?c9_8192,nmy,nmy⟩,⟨?c10_0,?c10_8192,nmy,nmy⟩,⟨?c11_0,?c11_8192,nmy,nmy⟩,⟨?c12_0,nmy,nmy,nmy⟩,⟨?c13_0,nmy,nmy,nmy⟩,⟨nmy,?c14_8192,nmy,nmy⟩,⟨nmy,nmy,?c15_24576,nmy⟩,⟨nmy,nmy,?c16_24576,nmy⟩,trivial⟩
   all_goals
    intro hmay
    clear hmay
    intro e' K' h A3 hA hk
    simp only[Op.operands,Call.operands] at h
    simp[still,heapM,putR,dvA] at h hA hk
    subst hA
    simp[h,e29,e28,e27,e4,e3,e1,hrT,hrT2,hbg,hdn,rowsT_len,hTl]
    try exact hk
   case c14_8192=>
    refine aRaw_app byt_48 ?_
    simp[h,hbg]
    refine⟨by unfold maxLen; omega,by omega,?_⟩
    simpa [hset] using hk
   case c16_24576=>
    simpa [hrs] using hk
  rw[hT3]
  exact⟨⟨_,rfl⟩,by simp[putR,e29],by simp[putR,e28],by simp[putR,e27],by simp[putR,e4],by simp[putR,e3],by simp[putR,e1],by simp[putR]⟩
 clear e29 e28 e27 e4 e3 e1 e
 rintro e A ⟨⟨N,rfl⟩,e29,e28,e27,e4,e3,e1,e6⟩
 have hslen:=succL_len hg (gMO hb)
 have hsm2:(succL b).length≤maxLen:=by unfold maxLen; omega
 have hsin:∀ x∈succL b,0≤x∧x < g.b.length:=fun x hx=>succK_in hge (k:=k) (by rw[hsk]; exact hx)
 have hbl:b.s.length≤maxLen∧∀ s∈b.s,s.cs.length≤1000000000:=by
  obtain⟨h2,h3⟩:=hg.2 b (gMO hb)
  exact⟨by unfold maxLen; omega,fun s hs=>by have:=(h3 s hs).2; omega⟩
 have hfb:∀ x,edT g ((ordN g).take i) x≤800000000:=fun x=>by
  have h1:=edT_le hg ((ordN g).take i) x
  rw[List.length_take] at h1
  have h2:min i (ordN g).length * 2000000≤400 * 2000000:=Nat.mul_le_mul_right _ (by omega)
  omega
 simp[e6,e1,hkn,hb,hb2,Bl.d_eq]
 refine aCall_of (ilsucc_af b hbl.1 hbl.2) (by kernel_rfl) (by simp) ?_
 simp
 have hE0':E=fI g.b.length fun x=>edT g ((ordN g).take i) x + ((((succL b).take 0).count (x:Int):Nat):Int):=by
  rw[← hE]
  unfold Ec
  exact fI_ext fun x _=>by simp
 refine aLoop_of (α:=Nat) (fun j e A=>j≤(succL b).length∧(∃ N:AHeap,A=hpB g (fI g.b.length fun x=>edT g ((ordN g).take i) x + ((((succL b).take j).count (x:Int):Nat):Int)) (Tc g o ((ordN g).take (i + 1))) N) ∧
  e 62=aI .i64 j∧e 61=aI .i64 (succL b).length∧e 60 = .d (.sl 1 (i64s (succL b)))∧e 29=aI .i64 i∧e 28=aI .i64 (ordN g).length∧e 27 = .d (.sl 1 (i64s (nI (ordN g))))∧e 4 = .d (.sl 1 (i64s (oI g.b.length o)))∧e 3 = .ptr 3 1 0 0∧e 1 = .ptr 2 0 0 0) (fun j=>(succL b).length - j) 0 (Sub.refl _ _ _)
  ⟨by omega,⟨N,by rw[← hE0']⟩,by simp,by simp,by simp,by simp[e29],by simp[e28],by simp[e27],by simp[e4],by simp[e3],by simp[e1]⟩ ?_
 clear e29 e28 e27 e4 e3 e1 e6 e
 rintro j e A ⟨hj,⟨N,rfl⟩,e62,e61,e60,e29,e28,e27,e4,e3,e1⟩ K2 hK2
 rcases Nat.lt_or_ge j (succL b).length with hjl | hjg
 case inr=>
  obtain rfl:j=(succL b).length:=by omega
  rw[List.take_length,← hE1]
  simp[e62,e61,e29,succ_wrap hlt (by unfold maxLen; omega)]
  exact hK (i + 1) _ _ _ _ (Sub.refl _ _ _) ⟨by omega,⟨N,rfl⟩,by simp,by simp[e28],by simp[e27],by simp[e4],by simp[e3],by simp[e1]⟩ (by omega)
 obtain⟨x,hx⟩:∃ x,(succL b)[j]? = some x:=⟨_,gEG hjl⟩
 obtain⟨x0,x1⟩:=hsin x (gMO hx)
 obtain⟨w,hw⟩:∃ w:Nat,x=w:=⟨x.toNat,by omega⟩
 subst hw
 have hx2:=(gSI.1 hx).2
 have hwn:w < g.b.length:=by omega
 have htj:(succL b).take (j + 1)=(succL b).take j++[(w:Int)]:=by rw[List.take_add_one,hx]; rfl
 obtain⟨f,hf⟩:∃ f:Nat→Int,(fun x=>edT g ((ordN g).take i) x + ((((succL b).take j).count (x:Int):Nat):Int))=f:=⟨_,rfl⟩
 have hfw:f w≤1000000000∧0≤f w:=by
  rw[← hf]
  have h1:=hfb w
  have h2:((succL b).take j).count (w:Int)≤(succL b).length:=Nat.le_trans List.count_le_length (by rw[List.length_take]; omega)
  have h3:0≤edT g ((ordN g).take i) w:=by unfold edT; omega
  show edT g ((ordN g).take i) w + ((((succL b).take j).count (w:Int):Nat):Int)≤1000000000∧0≤edT g ((ordN g).take i) w + ((((succL b).take j).count (w:Int):Nat):Int)
  omega
 have hfn:(fun x:Nat=>edT g ((ordN g).take i) x + ((((succL b).take (j + 1)).count (x:Int):Nat):Int))=fun y=>if y=w then f w + 1 else f y:=by
  funext y
  rw[htj,List.count_append,← hf]
  by_cases hy:y=w
  ·subst hy
   simp
   omega
  ·have:¬ (w:Int)=(y:Int):=by omega
   simp[hy,this]
 have hfg:=nB_get (fI_get f hwn)
 have hfg2:=(gSI.1 hfg).2
 have hfs:=fI_set (n:=g.b.length) (x:=w) f (f w + 1)
 rw[hf]
 simp[e62,e61,e60,e3,hjl,hx,hx2,hwn,hfg,hfg2,i64w (n:=f w + 1) (by omega),nE_set,hfs,succ_wrap hjl hsm2]
 refine hK2 (j + 1) _ _ _ _ (Sub.refl _ _ _) ⟨by omega,⟨N,by rw[hfn]⟩,by simp,by simp[e61],by simp[e60],by simp[e29],by simp[e28],by simp[e27],by simp[e4],by simp[e3],by simp[e1]⟩ (by omega)
section
variable (x0 x1 x2 x3 x4 x5:Blk) (U:List Int)
abbrev hq7:AHeap:=[x0,x1,x2,x3,x4,x5,ubB U]
theorem prns_take {used:List Int} {l:List Nd} {i:Nat} {x:Nd} (h:l[i]? = some x):prn.prns used (l.take (i + 1))=prn.prns used (l.take i)++if x.kd≠10∨x.lb∈used then [prn used x] else []:=by
 rw[prns_eq,prns_eq,List.take_add_one,h,List.filter_append,List.map_append]
 congr 1
 by_cases hc:x.kd≠10∨x.lb∈used<;>simp[hc]
set_option maxRecDepth 100000 in
set_option maxHeartbeats 0 in
theorem stprune_ac (hcl:ClH (hq7 x0 x1 x2 x3 x4 x5 U)):∀ n:Nd,n.nodes≤1000000→AC Tryz.prog 44 [ndA n,.mp 6 0] (hq7 x0 x1 x2 x3 x4 x5 U) (AtH (hq7 x0 x1 x2 x3 x4 x5 U) (ndA (prn U n))):=by
 intro n
 induction n using Nd.ind with
 | h n ih=>
 intro hn
 rw[Nd.nodes_eq] at hn
 have hlen:=Nd.nodess_len n.l
 have hlm:n.l.length≤maxLen:=by unfold maxLen; omega
 obtain⟨R,hR⟩:∃ R,prn U n=R:=⟨_,rfl⟩
 rw[hR]
 rw[prn_eq] at hR
 have hCt:=fun (i:Nat) (x:Nd) (h:n.l[i]? = some x)=>prns_take (used:=U) h
 have hCl:∀ i,(prn.prns U (n.l.take i)).length≤i:=fun i=>by
  rw[prns_eq,List.length_map]
  have:=List.length_filter_le (fun x:Nd=>decide (x.kd≠10∨x.lb∈U)) (n.l.take i)
  rw[List.length_take] at this
  omega
 have hC0:prn.prns U (n.l.take 0)=[]:=rfl
 have hCn:prn.prns U (n.l.take n.l.length)=prn.prns U n.l:=by rw[List.take_length]
 obtain⟨C,hC⟩:∃ C:Nat→List Nd,(fun i=>prn.prns U (n.l.take i))=C:=⟨_,rfl⟩
 replace hC:∀ i,prn.prns U (n.l.take i)=C i:=fun i=>congrFun hC i
 simp only[hC] at hCt hCl hC0 hCn
 have hc7:=hcl.fix
 simp only[List.map_cons,List.map_nil,List.cons.injEq,and_true,List.length_cons,List.length_nil] at hc7
 obtain⟨c0,c1,c2,c3,c4,c5,c6⟩:=hc7
 have m0:=cE_mono (m':=10) (by omega) c0
 have m1:=cE_mono (m':=10) (by omega) c1
 have m2:=cE_mono (m':=10) (by omega) c2
 have m3:=cE_mono (m':=10) (by omega) c3
 have m4:=cE_mono (m':=10) (by omega) c4
 have m5:=cE_mono (m':=10) (by omega) c5
 have m6:=cE_mono (m':=10) (by omega) c6
 refine AC.resH (by simp[cln,cln.clnL]) (ac_of Tryz.func44 rfl (by kernel_rfl) (by simp[Tryz.ntmps44]) fun _=>?_)
 simp[Tryz.f44]
 refine aLoop_st (fun i:Nat=>[(1,.mp 6 0),(2,.ptr 7 0 0 0),(4,.ptr 8 0 0 0),(5,.own 9 (C i).length 0 (C i).length),(9,.d (.sl 5 (Nd.ds n.l))),(10,aI .i64 n.l.length),(11,aI .i64 i)])
  (fun i=>[x0,x1,x2,x3,x4,x5,ubB U,ndK1 n,ndZ,⟨(C i).length,true,29,5,dEls (Nd.ds (C i))⟩]) (fun i=>i≤n.l.length) (fun i=>n.l.length - i) 0
  ((Sub.ghost 0 29 5).trans (Sub.slot (s:=5) (c:=.own 9 0 0 0) (VLe.nil_own (k:=⟨0,true,29,5,[]⟩) (by simp) rfl))) 10 (by simp) (by simp[m0,m1,m2,m3,m4,m5,m6,hC0]) (by simp[hC0]) (by omega) ?_
 rintro i hi K hK
 have hci:=hCl i
 rcases Nat.lt_or_ge i n.l.length with hlt | hge
 case inr=>
  obtain rfl:i=n.l.length:=by omega
  rw[hCn]
  obtain⟨D,hD⟩:∃ D,prn.prns U n.l=D:=⟨_,rfl⟩
  rw[hD] at hR ⊢
  subst hR
  simp[setEls]
  exact⟨by simp,hcl.fix⟩
 obtain⟨x,hx⟩:∃ x,n.l[i]? = some x:=⟨_,gEG hlt⟩
 have hx2:=(gSI.1 hx).2
 have hxn:=Nd.nodess_mem (gMO hx)
 have hC1:=hCt i x hx
 obtain⟨E,hE⟩:∃ E,C i=E:=⟨_,rfl⟩
 rw[hE] at hC1 hci ⊢
 have hlk:=look_ub (P:=Tryz.prog) (t:=104) (kt:=3) (et:=4) (A:=hq7 x0 x1 x2 x3 x4 x5 U++[ndK1 n,ndZ,⟨E.length,true,29,5,dEls (Nd.ds E)⟩,ndK1 x]) (b:=6) (U:=U) (by kernel_rfl) (by kernel_rfl) (by kernel_rfl) rfl x.lb
 have hrec:=AC.frame (N:=[ndK1 n,ndZ,⟨E.length,true,29,5,dEls (Nd.ds E)⟩,ndK1 x]) hcl (by simp[cln,cln.clnL]) (ih x (gMO hx) (by omega))
 obtain⟨Y,hY⟩:∃ Y,prn U x=Y:=⟨_,rfl⟩
 rw[hY] at hrec hC1
 have push:(x.kd≠10∨x.lb∈U)→C (i + 1)=E++[Y]:=fun h=>by rw[hC1,if_pos h]
 simp[hlt,hx,hx2,Nd.d_eq]
 by_cases h10:x.kd=10
 case' pos=>
  have hk10:(!decide (x.kd=10))=false:=by simp[h10]
  simp[hk10]
  refine aRaw_lookup (r:=aB (decide (x.lb∈U))) (by simpa using hlk) ?_
  by_cases hin:x.lb∈U
  case' neg=>
   rw[if_neg (by simp[h10,hin]),List.append_nil] at hC1
   simp[hin,succ_wrap hlt hlm]
   refine hK (i + 1) (by omega) (by omega) (Sub.take 10 (by simp)) 10 (by simp) ?_ ?_
   ·rw[hC1]; simp[m0,m1,m2,m3,m4,m5,m6]
   ·rw[hC1]; simp
  have hp:=push (.inr hin)
  simp[hin]
 case' neg=>
  have hp:=push (.inl h10)
  have hk10:(!decide (x.kd=10))=true:=by simp[h10]
  simp[hk10]
 all_goals
  refine aCall_ofc (by simpa using hrec) (by kernel_rfl) ?_
  rintro _ _ ⟨rfl,rfl⟩
  simp
  refine aRaw_app byt_27 ?_
  simp
  refine⟨by unfold maxLen; omega,by omega,?_⟩
  simp[succ_wrap hlt hlm]
  refine hK (i + 1) (by omega) (by omega) (Sub.take 10 (by simp)) 10 (by simp) ?_ ?_
  ·rw[hp]; simp[m0,m1,m2,m3,m4,m5,m6,Nd.d_eq]
  ·rw[hp]; simp
end
def wS (W:Int→Nat) (l:List Int):Nat:=(l.map W).sum
theorem wS_cons (W:Int→Nat) (a:Int) (l:List Int):wS W (a::l)=W a + wS W l:=by simp[wS]
theorem wS_app (W:Int→Nat) (l m:List Int):wS W (l++m)=wS W l + wS W m:=by simp[wS]
theorem wS_perm (W:Int→Nat) {l m:List Int} (h:l.Perm m):wS W l=wS W m:=by
 induction h with
 | nil=>rfl
 | cons x _ ih=>rw[wS_cons,wS_cons,ih]
 | swap x y l=>simp only[wS_cons]; omega
 | trans _ _ h1 h2=>rw[h1,h2]
theorem wS_le {W:Int→Nat} {m:Nat}:∀ {l:List Int},(∀ x∈l,W x≤m)→wS W l≤l.length * m
 | [],_=>by simp[wS]
 | a :: l, h => by
   have:=wS_le (l:=l) fun x hx=>h x (by simp[hx])
   have:=h a (by simp)
   rw[wS_cons,List.length_cons,Nat.succ_mul]
   omega
def trW (B:Bu) (k:Int):Nat:=6 + (B.lastS k).tos.length + (B.kids k).length
section
variable {B:Bu} {sub:Int→List Int} {code:Int→Ct→Nd} {W:Int→Nat}
theorem chain_nodes (h:∀ y c,(code y c).nodes≤1 + wS W (sub y)) (c:Ct):∀ l:List Int,Nd.nodess (Bu.chainN code l c)≤l.length + wS W (l.flatMap sub)
 | []=>by simp[Bu.chainN,Nd.nodess]
 | k :: l => by
   simp only[Bu.chainN,Nd.nodess,List.flatMap_cons,wS_app,List.length_cons]
   have:=h k (Bu.firstC l c)
   have:=chain_nodes h c l
   omega
theorem way_nodes (h:∀ y c,(code y c).nodes≤1 + wS W (sub y)) (inl:List Int) (c:Ct) (y:Int):(Bu.wayN code inl c y).nodes≤1 + wS W (if y∈inl then sub y else []):=by
 unfold Bu.wayN
 split
 ·have:=h y c
  omega
 ·(repeat' split)<;>simp[Bu.seqN,Nd.nodes,Nd.nodess]
theorem ways_nodes (h:∀ y c,(code y c).nodes≤1 + wS W (sub y)) (inl:List Int) (c:Ct):∀ l:List Int,Nd.nodess (l.map (Bu.wayN code inl c))≤l.length + wS W (l.flatMap fun y=>if y∈inl then sub y else [])
 | []=>by simp[Nd.nodess]
 | k :: l => by
   simp only[List.map_cons,Nd.nodess,List.flatMap_cons,wS_app,List.length_cons]
   have:=way_nodes h inl c k
   have:=ways_nodes h inl c l
   omega
theorem trans_nodes (h:∀ y c,(code y c).nodes≤1 + wS W (sub y)) (k:Int) (inl:List Int) (c:Ct) (hn:inl.Nodup) (h1:∀ y∈inl,(B.lastS k).tos.count y=1) :
 (B.transN code k inl c).nodes≤1 + (B.lastS k).tos.length + wS W (inl.flatMap sub):=by
 have key:(B.transN code k inl c).nodes≤1 + (B.lastS k).tos.length + wS W ((B.lastS k).tos.flatMap fun y=>if y∈inl then sub y else []):=by
  unfold Bu.transN St.tos
  simp only
  split
  ·have:=way_nodes h inl c (B.lastS k).nx
   simp
   omega
  split
  ·have:=ways_nodes h inl c [(B.lastS k).nx,(B.lastS k).el]
   rw[Nd.nodes_eq]
   simp only[List.map_cons,List.map_nil,Nd.l_mk] at this ⊢
   omega
  split
  ·have:=ways_nodes h inl c (B.lastS k).cs
   rw[Nd.nodes_eq]
   simp only[Nd.l_mk] at this ⊢
   omega
  split<;>simp[Nd.nodes,Nd.nodess]
 rw[flat_if] at key
 refine Nat.le_trans key (Nat.le_of_eq ?_)
 congr 1
 refine wS_perm _ (List.Perm.flatMap_right _ ?_)
 rw[List.perm_iff_count]
 intro x
 rw[nodup_count1 hn]
 by_cases hx:x∈inl
 ·rw[if_pos hx,List.count_filter (by simpa using hx)]
  exact h1 x hx
 ·rw[if_neg hx]
  exact List.count_eq_zero.2 fun hm=>hx (by simpa using (List.mem_filter.1 hm).2)
end
theorem code_nodes {B:Bu} (hB:BuOne B):∀ f k c,(B.codeN f k c).nodes≤1 + wS (trW B) (B.sub f k)
 | 0,k,c=>by simp[Bu.codeN,Bu.seqN,Nd.nodes,Nd.nodess]
 | f + 1, k, c => by
   have ih:=code_nodes hB f
   have hin:∀ l:List Int,(∀ y∈l,y∈B.kids k)→∀ y∈B.inlined l,(B.lastS k).tos.count y=1:=fun l hl y hy=>by
    obtain⟨h1,h2⟩:=List.mem_filter.1 hy
    exact hB.one k y (hl y h1) (by simpa using h2)
   have hplace:∀ l:List Int,wS (trW B) ((B.placed l).flatMap (B.sub f)) + wS (trW B) ((B.inlined l).flatMap (B.sub f))=wS (trW B) (l.flatMap (B.sub f))∧(B.placed l).length≤l.length:=fun l=>by
    refine⟨?_,List.length_filter_le _ _⟩
    rw[← wS_app,← List.flatMap_append]
    exact wS_perm _ ((placed_perm B l).flatMap_right _)
   simp only[Bu.sub,Bu.codeN,wS_cons]
   split
   ·rename_i body _
    unfold Bu.loopN
    simp only
    have hap:((B.aft body (B.kids k)).1++(B.aft body (B.kids k)).2).Perm (B.kids k):=by
     have:=aft_perm B body (B.kids k) ([],[])
     simpa [Bu.aft] using this
    obtain⟨p,hp⟩:∃ p,B.aft body (B.kids k)=p:=⟨_,rfl⟩
    rw[hp] at hap ⊢
    have hpn:(p.1++p.2).Nodup:=hap.nodup_iff.2 (hB.nd k)
    have hp2:p.2.Nodup:=(List.nodup_append.1 hpn).2.1
    have hlen:=hap.length_eq
    rw[List.length_append] at hlen
    have hsum:wS (trW B) (p.1.flatMap (B.sub f)) + wS (trW B) (p.2.flatMap (B.sub f))=wS (trW B) ((B.kids k).flatMap (B.sub f)):=by
     rw[← wS_app,← List.flatMap_append]
     exact wS_perm _ (hap.flatMap_right _)
    obtain⟨q1,q2⟩:=hplace p.2
    have hT:=trans_nodes (B:=B) ih k (B.inlined p.2) (Bu.firstC (B.placed p.2) ⟨k,k,(Bu.firstC p.1 c).f⟩) (hp2.filter _) (hin p.2 fun y hy=>hap.mem_iff.1 (by simp[hy]))
    have hC:=chain_nodes ih ⟨k,k,(Bu.firstC p.1 c).f⟩ (B.placed p.2)
    have hA:=chain_nodes ih c p.1
    obtain⟨T,hTe⟩:∃ T,B.transN (B.codeN f) k (B.inlined p.2) (Bu.firstC (B.placed p.2) ⟨k,k,(Bu.firstC p.1 c).f⟩)=T:=⟨_,rfl⟩
    rw[hTe] at hT ⊢
    have hX:(T.l.getD 0 (Bu.seqN [])).nodes≤T.nodes:=by
     rw[Nd.nodes_eq T]
     cases T.l with
     | nil=>simp[Bu.seqN,Nd.nodes,Nd.nodess]
     | cons a l=>simp[Nd.nodess]; omega
    split
    ·simp only[Bu.seqN,Bu.labN,Nd.nodes,Nd.nodess] at hX ⊢
     unfold trW at *
     omega
    ·simp only[Bu.seqN,Bu.labN,Bu.blkN,Nd.nodes,Nd.nodess]
     unfold trW at *
     omega
   ·obtain⟨q1,q2⟩:=hplace (B.kids k)
    have hT:=trans_nodes (B:=B) ih k (B.inlined (B.kids k)) (Bu.firstC (B.placed (B.kids k)) c) ((hB.nd k).filter _) (hin _ fun _ h=>h)
    have hC:=chain_nodes ih c (B.placed (B.kids k))
    simp only[Bu.seqN,Bu.labN,Bu.blkN,Nd.nodes,Nd.nodess]
    unfold trW at *
    omega
theorem prn_nodes (used:List Int):∀ e:Nd,(prn used e).nodes≤e.nodes:=by
 intro e
 induction e using Nd.ind with
 | h e ih=>
 have hl:∀ l:List Nd,(∀ x∈l,x∈e.l)→Nd.nodess (prn.prns used l)≤Nd.nodess l:=by
  intro l
  induction l with
  | nil=>intro _; exact Nat.le_refl _
  | cons a l ihl =>
    intro hm
    have h1:=ih a (hm a (by simp))
    have h2:=ihl fun x hx=>hm x (by simp[hx])
    simp only[prn.prns]
    split
    ·simp only[Nd.nodess]; omega
    ·simp only[Nd.nodess]; omega
 have:=hl e.l fun _ h=>h
 rw[prn_eq,Nd.nodes_eq e,Nd.nodes_eq]
 simp only[Nd.l_mk]
 omega
mutual
def cnxS:Sx→Nat
 | .mk k _ _ _ a b c=>(if k≤5 then 1 else 0) + cnxL a + cnxL b + cnxM c
def cnxL:List Sx→Nat
 | []=>0
 | s::l=>cnxS s + cnxL l
def cnxM:List (List Sx)→Nat
 | []=>0
 | a::l=>cnxL a + cnxM l
end
theorem cnxS_eq (s:Sx):cnxS s=(if s.kd≤5 then 1 else 0) + cnxL s.l + cnxL s.el + cnxM s.cs:=by cases s; rfl
theorem cnxL_app:∀ l m:List Sx,cnxL (l++m)=cnxL l + cnxL m
 | [],m=>by simp[cnxL]
 | s::l,m=>by simp only[List.cons_append,cnxL,cnxL_app l m]; omega
theorem cnxL_flat:∀ l:List (List Sx),cnxL l.flatten=cnxM l
 | []=>rfl
 | a::l=>by simp only[List.flatten_cons,cnxL_app,cnxM,cnxL_flat l]
def wB (g:Gr) (b:Int):Nat:=match g.b[b.toNat]? with
 | some x=>x.s.length - 1
 | none=>0
theorem body_op {g:Gr} (hg:grErr g=0) {b:Bl} (hb:b∈g.b):∀ s∈b.s.dropLast,s.op≤5:=by
 intro s hs
 have h1:=(grErr_closed hg).2.1 b hb
 have h2:=st_op (stsErr_mem ((grErr_closed hg).2.2 b hb) s (List.dropLast_subset _ hs))
 unfold closedB at h1
 split at h1
 ·simp only[Bool.and_eq_true,Bool.not_eq_true',List.any_eq_false] at h1
  rw[List.dropLast_eq_take] at hs
  have:=h1.1.2 s hs
  simp[termB] at this
  omega
 ·cases h1
theorem cnt_body {names calls:List ByteArray} {ats:List Int}:∀ l:List St,(∀ s∈l,s.op≤5)→cnxL (l.map (emS names calls ats))=l.length
 | [],_=>rfl
 | s :: l, h => by
   simp only[List.map_cons,cnxL,cnt_body l fun x hx=>h x (by simp[hx]),List.length_cons]
   have:cnxS (emS names calls ats s)=1:=by
    rw[cnxS_eq]
    simp[emS,h s (by simp),cnxL,cnxM]
   omega
theorem cnt_em {g:Gr} (hg:grErr g=0) (names calls:List ByteArray) (ats:List Int):∀ e:Nd,(∀ x∈e.pre,ndOk x=true∧whB g x=true)→cnxL (emN names calls ats g e)=wS (wB g) (blks e.pre):=by
 intro e
 induction e using Nd.ind with
 | h e ih=>
 intro h
 obtain⟨hok,hwh⟩:=h e (Nd.mem_pre e)
 have hl:∀ l:List Nd,(∀ x∈l,x∈e.l)→cnxM (l.map (emN names calls ats g))=wS (wB g) (blks (Nd.pres l)):=by
  intro l
  induction l with
  | nil=>intro _; rfl
  | cons a l ihl =>
    intro hm
    have ha:=hm a (by simp)
    simp only[List.map_cons,cnxM,Nd.pres,blks_app,wS_app,ih a ha fun x hx=>h x (Nd.mem_pre_kid ha hx),ihl fun x hx=>hm x (by simp[hx])]
 have hL:=hl e.l fun _ h=>h
 rw[emN_eq,Nd.pre_eq,blks_cons,wS_app,← hL]
 have hnil:e.l.length=0→e.l=[]:=fun h=>List.length_eq_zero_iff.1 h
 have hk1:1≤e.kd∧e.kd≤12:=by
  simp only[ndOk,Bool.and_eq_true,decide_eq_true_eq] at hok
  exact⟨hok.1.1.1.1.1.1.1,hok.1.1.1.1.1.1.2⟩
 have hlen:(if e.kd=1 then true else if e.kd=3 then decide (e.l.length=2) else if e.kd=4∨e.kd=5 then decide (e.l.length=1) else if e.kd=6 then decide (1≤e.l.length) && decide (e.l.length≤64) else decide (e.l.length=0))=true:=by
  simp only[ndOk,Bool.and_eq_true] at hok
  exact hok.1.1.1.1.2
 by_cases h1:e.kd=1
 ·rw[if_pos h1,cnxL_flat]
  simp[isBk,h1,wS]
 rw[if_neg h1] at hlen ⊢
 by_cases h2:e.kd=2
 ·have hl0:e.l=[]:=hnil (by simpa [h2] using hlen)
  rw[if_pos h2,hl0]
  simp only[isBk,h2,true_or,decide_true,if_true,List.map_nil,cnxM,Nat.add_zero]
  unfold emB wS wB
  simp only[List.map_cons,List.map_nil,List.sum_cons,List.sum_nil,Nat.add_zero]
  cases hb:g.b[e.bk.toNat]? with
  | none=>rfl
  | some b =>
    simp only
    rw[cnt_body _ (body_op hg (gMO hb))]
    simp
 rw[if_neg h2]
 have hkd:¬ kdV e.kd≤5:=by
  obtain⟨k1,k2⟩:=hk1
  have:e.kd=3∨e.kd=4∨e.kd=5∨e.kd=6∨e.kd=7∨e.kd=8∨e.kd=9∨e.kd=10∨e.kd=11∨e.kd=12:=by omega
  rcases this with h | h | h | h | h | h | h | h | h | h<;>simp[kdV,h]
 simp only[cnxL,cnxS_eq,Sx.kd_mk,Sx.l_mk,Sx.el_mk,Sx.cs_mk,if_neg hkd,Nat.zero_add,Nat.add_zero]
 by_cases h3:e.kd=3
 ·have hl2:e.l.length=2:=by simpa [h3] using hlen
  match hel:e.l,hl2 with
  | [X,Y],_=>simp[h3,isBk,wS,cnxM,cnxL,kdV]
 by_cases h45:e.kd=4∨e.kd=5
 ·have hl1:e.l.length=1:=by simpa [h3,h45] using hlen
  match hel:e.l,hl1 with
  | [X], _ =>
    rcases h45 with h4 | h5
    ·simp[h4,isBk,wS,cnxM,cnxL,kdV]
    ·have hw:wB g e.bk=0:=by
      unfold whB at hwh
      simp only[h5,decide_true,Bool.not_true,Bool.false_or] at hwh
      unfold wB
      split at hwh
      ·rename_i b hb
       split at hb
       ·rw[hb]
        simp at hwh ⊢
        omega
       ·cases hb
      ·cases hwh
     simp[h5,isBk,wS,cnxM,cnxL,hw,kdV]
 rw[if_neg h3,if_neg h45] at hlen
 by_cases h6:e.kd=6
 ·simp[h6,isBk,wS,cnxL,kdV]
 ·rw[if_neg h6] at hlen
  have hl0:e.l=[]:=hnil (by simpa using hlen)
  have hnb:isBk e=false:=by
   unfold isBk
   simp
   omega
  rw[hl0,hnb]
  simp[h3,h6,cnxL,cnxM,wS]
  exact if_neg hkd
theorem see_le {g:Gr} {m:Int} (h12:12≤m) (h:∀ v∈gvL g,v < m):seeG g≤m:=by
 have fold_le:∀ {α:Type} {f:Int→α→Int} (l:List α) (n:Int),(∀ a∈l,∀ n,n≤m→f n a≤m)→n≤m→l.foldl f n≤m:=by
  intro α f l
  induction l with
  | nil=>intro n _ h; exact h
  | cons a l ih =>
    intro n hf hn
    rw[List.foldl_cons]
    exact ih _ (fun b hb=>hf b (by simp[hb])) (hf a (by simp) n hn)
 have hI:∀ v n,v < m→n≤m→seeI n v≤m:=fun v n hv hn=>by
  unfold seeI
  split
  ·split<;>omega
  ·exact hn
 unfold seeG
 refine fold_le g.b 12 (fun b hb n hn=>?_) h12
 refine fold_le b.s n (fun s hs n hn=>?_) hn
 have hgv:∀ v∈gvS s,v < m:=fun v hv=>h v (gvL_mem.2 ⟨b,hb,s,hs,hv⟩)
 unfold seeS
 rw[seeEs_fold]
 refine fold_le s.e _ (fun e he n hn=>?_) ?_
 ·rw[seeE_occ]
  exact fold_le (occ e) n (fun v hv n hn=>hI v n (hgv v (gvS_mem.2 (.inr ⟨e,he,varsR_mem.2 hv⟩))) hn) hn
 ·split
  ·rename_i h13
   exact hI _ _ (hgv _ (gvS_mem.2 (.inl ⟨h13,rfl⟩))) hn
  ·exact hn
def gotU (l:List Nd):List Int:=l.foldl (fun U x=>if x.kd=9 then insU x.lb U else U) []
theorem gotU_app (l:List Nd) (x:Nd):gotU (l++[x])=if x.kd=9 then insU x.lb (gotU l) else gotU l:=by simp[gotU]
theorem gotU_mem:∀ (l:List Nd) (x:Int),x∈gots l→x∈gotU l:=by
 have key:∀ (l:List Nd) (U:List Int) (x:Int),x∈U∨x∈gots l→x∈l.foldl (fun U x=>if x.kd=9 then insU x.lb U else U) U:=by
  intro l
  induction l with
  | nil=>intro U x h; simpa [gots] using h
  | cons a l ih =>
    intro U x h
    rw[List.foldl_cons]
    refine ih _ x ?_
    rw[gots_cons] at h
    by_cases h9:a.kd=9
    ·simp[h9] at h ⊢
     rw[insU_mem]
     rcases h with h | h | h
     ·exact .inl (.inl h)
     ·exact .inl (.inr h)
     ·exact .inr h
    ·simpa [h9] using h
 intro l x h
 exact key l [] x (.inr h)
theorem lk_boT:∀ (L:List Lp) (M:List (Int×List Int)) (k:Int) (v:List Int),lkS k (L.foldl (fun M x=>upS x.hd x.bd M) M)=some v→(∃ x∈L,x.bd=v)∨lkS k M=some v
 | [],M,k,v,h=>.inr h
 | x :: L, M, k, v, h => by
   rw[List.foldl_cons] at h
   rcases lk_boT L _ k v h with⟨y,hy,e⟩ | h2
   ·exact .inl ⟨y,by simp[hy],e⟩
   ·have hup:∀ M:List (Int×List Int),lkS k (upS x.hd x.bd M)=some v→x.bd=v∨lkS k M=some v:=by
     intro M
     induction M with
     | nil =>
       intro h
       simp only[upS,lkS] at h
       split at h
       ·exact .inl (oSI h)
       ·cases h
     | cons p M ih =>
       intro h
       simp only[upS] at h
       split at h
       ·rename_i hp
        simp only[lkS] at h ⊢
        split at h
        ·exact .inl (oSI h)
        ·rename_i hne
         rw[if_neg (by rw[hp]; exact hne)]
         exact .inr h
       ·simp only[lkS] at h ⊢
        split at h
        ·rename_i hpk
         rw[if_pos hpk]
         exact .inr h
        ·rename_i hne
         rw[if_neg hne]
         exact ih h
    rcases hup M h2 with e | e
    ·exact .inl ⟨x,by simp,e⟩
    ·exact .inr e
theorem bu_tr {g:Gr} {o:Nat→Option Nat} {bo:List (Int×List Int)} (hg:GrFit g) (hge:grErr g=0) (hx:∀ b∈g.b,∀ s∈b.s,∀ e∈s.e,e.nodes≤1000000) {k:Nat} (hk:k < g.b.length):TrOk ((buN g o bo).lastS k):=by
 have hb:=gEG hk
 have hbm:=gMO hb
 have hs:=bu_last (o:=o) (bo:=bo) hge hb
 have hse:=stsErr_mem ((grErr_closed hge).2.2 _ hbm) _ hs
 obtain⟨f1,f2⟩:=(hg.2 _ hbm).2 _ hs
 obtain⟨h1,_,h3⟩:=st_ok hse
 have hxs:=hx _ hbm _ hs
 generalize (buN g o bo).lastS k=s at *
 refine⟨fun h78=>?_,?_⟩
 ·have h3:exprsN s.op=1:=by
   unfold exprsN
   rcases h78 with h | h<;>simp[h]
  rw[h3] at h1
  match hse:s.e with
  | []=>rw[hse] at h1; simp at h1
  | x::l=>exact⟨x,l,rfl,by have:=hxs x (by rw[hse]; simp); omega,by rw[← hse]; omega⟩
 ·unfold fieldsB at h3
  simp only[Bool.and_eq_true] at h3
  have h4:=h3.2
  split at h4
  ·simp at h4
   omega
  ·simp at h4
   rw[h4]
   simp
theorem bu_fit {g:Gr} {o:Nat→Option Nat} (hg:GrFit g) (hsm:g.b.length≤400) (hge:grErr g=0) (hx:∀ b∈g.b,∀ s∈b.s,∀ e∈s.e,e.nodes≤1000000):BuFit (buN g o (boT (findL g))):=by
 have h0:=grErr_pos hge
 refine⟨⟨?_,?_,?_,?_,?_⟩,fun k hk=>bu_tr hg hge hx hk,fun k body h=>?_⟩
 ·show g.b.length≤1000000
  omega
 ·exact fun b hb=>⟨stmts_pos hge hb,(hg.2 b hb).1⟩
 ·simp[buN]
 ·simp[buN]
 ·intro l hl
  simp only[buN,List.mem_map,List.mem_range] at hl
  obtain⟨d,hd,rfl⟩:=hl
  have hol:=ordN_len (edgOk g) (g:=g)
  refine⟨?_,fun x hx=>?_⟩
  ·unfold chT
   have:=List.length_filter_le (fun k=>decide (o k=some d)) (ordN g)
   simp only[nI,List.length_map]
   omega
  ·obtain⟨m,hm,_,rfl⟩:=chT_mem.1 hx
   have:=ordN_lt (edgOk g) m hm
   exact⟨by omega,by show (m:Int) < (g.b.length:Int); omega⟩
 ·rw[lkBu_eq] at h
  rcases lk_boT (findL g) [] k body h with⟨x,hx,rfl⟩ | h2
  ·obtain⟨i,hi⟩:=List.mem_iff_getElem?.1 hx
   have hbd:∃ h,x.bd=nI (bodyL g h):=by
    unfold findL withP at hi
    rw[List.getElem?_mapIdx] at hi
    cases hy:(fnd0 g (ordN g))[i]? with
    | none=>rw[hy] at hi; cases hi
    | some y =>
      rw[hy] at hi
      simp only[Option.map_some,Option.some.injEq] at hi
      obtain⟨h,_,_,e⟩:=fnd0_mem (gMO hy)
      refine⟨h,?_⟩
      rw[← hi]
      split<;>rw[e]<;>rfl
   obtain⟨h,hbd⟩:=hbd
   have:=bodyL_len g h
   rw[hbd]
   simp only[nI,List.length_map]
   omega
  ·cases h2
theorem bu_cl (g:Gr) (B:Bu):ClH (hp5 (gB g) ndZ (gB g) B):=by
 intro b hb
 simp only[List.mem_cons,List.not_mem_nil,or_false] at hb
 rcases hb with rfl | rfl | rfl | rfl | rfl
 ·simp[clnB,cln,cln.clnL]
 ·simp[clnB,cln,cln.clnL]
 ·simp[clnB,cln,cln.clnL]
 ·simp[clnB,cln,cln.clnL]
 ·exact cln_msM _ _
theorem cE_ub (m:Nat) (U:List Int):clnE m (ubB U).els=(ubB U).els:=congrArg Blk.els (cln_ub m U)
theorem cl_hq7 (g:Gr) (B:Bu) (n:Nd) (U:List Int):ClH (hq7 (gB g) ndZ (gB g) (bdK B) (msM B.bo) (ndK1 n) U):=by
 intro b hb
 simp only[List.mem_cons,List.not_mem_nil,or_false] at hb
 rcases hb with rfl | rfl | rfl | rfl | rfl | rfl | rfl
 ·simp[clnB,cln,cln.clnL]
 ·simp[clnB,cln,cln.clnL]
 ·simp[clnB,cln,cln.clnL]
 ·simp[clnB,cln,cln.clnL]
 ·exact cln_msM _ _
 ·simp[clnB,cln,cln.clnL]
 ·exact cln_ub _ _
set_option maxRecDepth 100000 in
set_option maxHeartbeats 0 in
theorem stbuild_ex (g:Gr) (hg:GrFit g) (hsm:g.b.length≤20) (hge:grErr g=0) (hx:∀ b∈g.b,∀ s∈b.s,s.cs.length≤16∧∀ e∈s.e,e.nodes≤1000000) :
 ∃ n:Nd,ckE g n=0∧(∀ e∈n.pre,ndOk e=true∧whB g e=true∧e.lb≤1000000∧∀ x∈e.cd,∃ b∈g.b,∃ s∈b.s,x∈s.e)∧n.nodes≤1000∧AF Tryz.prog 15 [grV g] (.tup [ndA n,aI .i64 0]):=by
 have h0:=grErr_pos hge
 obtain⟨o,ho,hto⟩:=dmTree_ex g hg (edgOk g)
 replace ho:=ho h0
 obtain⟨B,hB⟩:∃ B,buN g o (boT (findL g))=B:=⟨_,rfl⟩
 have hBg:B.g=g:=by rw[← hB]; rfl
 have hnb:=stnewb_ac g hg (by omega) hge o ho hto
 have hcl:=bu_cl g B
 have hcode:=code_ok (a0:=gB g) (a1:=ndZ) (a2:=gB g) (g:=g) (o:=o) (bo:=boT (findL g)) (by rw[hB]; exact hcl) (bu_fit hg (by omega) hge fun b hb s hs=>(hx b hb s hs).2) hge ho (g.b.length + 1) 0
  (nI_memK.2 (ord_rcE.2 (dgN_ok (edgOk g) h0).root)) (by omega) ⟨-1,-1,-1⟩
 have hok:=fun used hu=>bu_ok (bo:=boT (findL g)) hge ho (f:=g.b.length + 1) (by omega) used hu
 have hnd:=code_nodes (bu_one (bo:=boT (findL g)) hge ho) (g.b.length + 1) 0 ⟨-1,-1,-1⟩
 have hsub:=sub_all (bu_t (bo:=boT (findL g)) hge ho) (bu_one (bo:=boT (findL g)) hge ho).nd (nI_memK.2 (ord_rcE.2 (dgN_ok (edgOk g) h0).root)) (f:=g.b.length + 1) (fun y _=>by
  have:=(tree_mu h0 ho).2 y.toNat
  show (dgN g).pl y.toNat < g.b.length + 1
  omega)
 have hW:∀ k∈nI (ordN g),trW (buN g o (boT (findL g))) k≤42:=fun k hk=>by
  obtain⟨m,hm,rfl⟩:=nI_memE hk
  have hml:=ordN_lt (edgOk g) m hm
  have h1:((buN g o (boT (findL g))).lastS (m:Int)).tos.length≤16:=by
   have hb:=gEG hml
   have hl:=bu_last (o:=o) (bo:=boT (findL g)) hge hb
   have:=(hx _ (gMO hb) _ hl).1
   unfold St.tos
   (repeat' split)<;>simp<;>omega
  have h2:((buN g o (boT (findL g))).kids (m:Int)).length≤20:=by
   rw[bu_kids]
   split
   ·unfold chT
    have:=List.length_filter_le (fun k=>decide (o k=some (m:Int).toNat)) (ordN g)
    have:=ordN_len (edgOk g) (g:=g)
    simp only[nI,List.length_map]
    omega
   ·simp
  unfold trW
  omega
 rw[hB] at hnb hcode hok hnd hsub hW
 obtain⟨n0,hn0⟩:∃ n0,B.codeN (g.b.length + 1) 0 ⟨-1,-1,-1⟩=n0:=⟨_,rfl⟩
 rw[hn0] at hcode hok hnd
 have hn1:n0.nodes≤1000:=by
  rw[wS_perm _ hsub] at hnd
  have h1:=wS_le (l:=nI (ordN g)) hW
  have h2:=ordN_len (edgOk g) (g:=g)
  simp only[nI,List.length_map] at h1
  have h3:(ordN g).length * 42≤20 * 42:=Nat.mul_le_mul_right _ (by omega)
  simp only[nI] at hnd
  omega
 have hpl:n0.pre.length=n0.nodes:=Nd.pre_len n0
 obtain⟨k1,k2,k3⟩:=hok (gotU n0.pre) (gotU_mem n0.pre)
 refine⟨prn (gotU n0.pre) n0,k1,fun e he=>?_,?_,?_⟩
 ·have:=k2 e he
  refine⟨this.form,by have:=this.wh; rw[hBg] at this; exact this,?_,by have:=this.cd; rw[hBg] at this; exact this⟩
  by_cases h:e.kd=9∨e.kd=10
  ·obtain⟨m,hm,e2⟩:=nI_memE (this.lb h)
   have:=ordN_lt (edgOk g) m hm
   omega
  ·have h2:=this.form
   simp only[ndOk,Bool.and_eq_true] at h2
   have h3:=h2.1.1.2
   simp[h] at h3
   omega
 ·have:=prn_nodes (gotU n0.pre) n0
  omega
 have hpr:=fun U=>stprune_ac (gB g) ndZ (gB g) (bdK B) (msM B.bo) (ndK1 n0) U (cl_hq7 g B n0 U) n0 (by omega)
 have hal:=stall_af n0 (by omega)
 obtain⟨F,hF⟩:∃ F,n0.pre=F:=⟨_,rfl⟩
 rw[hF] at hal hpl ⊢
 have hFl:F.length≤maxLen:=by unfold maxLen; omega
 obtain⟨R,hR⟩:∃ R,prn (gotU F) n0=R:=⟨_,rfl⟩
 replace hpr:=hpr (gotU F)
 rw[hR] at hpr ⊢
 refine af_of Tryz.func15 rfl (by kernel_rfl) (by simp[Tryz.ntmps15]) fun _=>?_; simp[Tryz.f15,Ex.d_eq]
 refine aCall_of (ilcheckg_af g hg) (by kernel_rfl) (by simp) ?_
 simp[hge]
 refine aCall_ofc hnb (by kernel_rfl) ?_
 rintro _ _ ⟨rfl,rfl⟩
 simp
 refine aCall_ofc hcode (by kernel_rfl) ?_
 rintro _ _ ⟨rfl,rfl⟩
 simp
 refine aRaw_makeMap (tg:=1000001) (sz:=2) (by kernel_rfl) ?_
 simp
 refine aCall_of hal (by kernel_rfl) (by simp) ?_
 simp
 refine aLoop_st (fun i:Nat=>[(2,.ptr 1 0 0 0),(5,.ptr 5 0 0 0),(6,.mp 6 0),(21,.d (.sl 5 (Nd.ds F))),(22,aI .i64 F.length),(23,aI .i64 i)]) (fun i=>hp5 (gB g) ndZ (gB g) B++[ndK1 n0,ubB (gotU (F.take i))]) (fun i=>i≤F.length) (fun i=>F.length - i) 0
  (Sub.refl _ _ _) 7 (by omega) (by simp[cE_ms]; rfl) (by simp) (by omega) ?_
 rintro i hi K hK
 rcases Nat.lt_or_ge i F.length with hlt | hge2
 case inr=>
  obtain rfl:i=F.length:=by omega
  rw[List.take_length]
  simp
  refine aCall_ofc hpr (by kernel_rfl) ?_
  rintro _ _ ⟨rfl,rfl⟩
  simp[setEls]
 obtain⟨x,hx⟩:∃ x,F[i]? = some x:=⟨_,gEG hlt⟩
 have hx2:=(gSI.1 hx).2
 have hgu:gotU (F.take (i + 1))=if x.kd=9 then insU x.lb (gotU (F.take i)) else gotU (F.take i):=by rw[List.take_add_one,hx]; exact gotU_app _ _
 obtain⟨U,hU⟩:∃ U,gotU (F.take i)=U:=⟨_,rfl⟩
 rw[hU] at hgu ⊢
 have hup:=upd_ub (P:=Tryz.prog) (t:=104) (kt:=3) (et:=4) (A:=hp5 (gB g) ndZ (gB g) B++[ndK1 n0,ubB U,ndK1 x]) (b:=6) (U:=U) (by kernel_rfl) (by kernel_rfl) rfl x.lb
 simp[hlt,hx,hx2,Nd.d_eq]
 by_cases h9:x.kd=9
 ·rw[if_pos h9] at hgu
  have hk9:(decide (x.kd=9))=true:=by simp[h9]
  simp[hk9]
  refine aRaw_mapUpdate (A':=hp5 (gB g) ndZ (gB g) B++[ndK1 n0,ubB (insU x.lb U),ndK1 x]) (by simpa using hup) ?_
  simp[succ_wrap hlt hFl]
  refine hK (i + 1) (by omega) (by omega) (Sub.take 7 (by omega)) 7 (by omega) ?_ (by simp)
  rw[hgu]
  simp[cE_ms,cE_ub]
 ·rw[if_neg h9] at hgu
  simp[h9,succ_wrap hlt hFl]
  refine hK (i + 1) (by omega) (by omega) (Sub.take 7 (by omega)) 7 (by omega) ?_ (by simp)
  rw[hgu]
  simp[cE_ms,cE_ub]
set_option maxRecDepth 100000 in
theorem stblocks_af (n:Nd) (hn:n.nodes≤1000000):AF Tryz.prog 17 [ndA n] (.d (.sl 1 (i64s (blks n.pre)))):=by
 have hal:=stall_af n (by omega)
 have hpl:n.pre.length=n.nodes:=Nd.pre_len n
 obtain⟨F,hF⟩:∃ F,n.pre=F:=⟨_,rfl⟩
 rw[hF] at hal hpl ⊢
 have hFl:F.length≤maxLen:=by unfold maxLen; omega
 have hCl:∀ i,(blks (F.take i)).length≤i:=fun i=>by
  unfold blks
  rw[List.length_map]
  have:=List.length_filter_le isBk (F.take i)
  rw[List.length_take] at this
  omega
 refine af_of Tryz.func17 rfl (by kernel_rfl) (by simp[Tryz.ntmps17]) fun _=>?_; simp[Tryz.f17,Ex.d_eq]
 refine aCall_of hal (by kernel_rfl) (by simp) ?_
 simp
 refine aLoop_st (fun i:Nat=>[(3,.own 1 (blks (F.take i)).length 0 (blks (F.take i)).length),(7,.d (.sl 5 (Nd.ds F))),(8,aI .i64 F.length),(9,aI .i64 i)]) (fun i=>[ndK1 n,nbk (blks (F.take i)).length (blks (F.take i))]) (fun i=>i≤F.length) (fun i=>F.length - i) 0
  ((Sub.ghost 0 3 1).trans (Sub.slot (s:=3) (c:=.own 1 0 0 0) (VLe.nil_own (k:=⟨0,true,3,1,[]⟩) (by simp) rfl))) 2 (by omega) (by simp[blks]) (by simp[blks]) (by omega) ?_
 rintro i hi K hK
 have hci:=hCl i
 rcases Nat.lt_or_ge i F.length with hlt | hge
 case inr=>
  obtain rfl:i=F.length:=by omega
  rw[List.take_length]
  simp
 obtain⟨x,hx⟩:∃ x,F[i]? = some x:=⟨_,gEG hlt⟩
 have hx2:=(gSI.1 hx).2
 have hC1:=blks_take1 hx
 obtain⟨E,hE⟩:∃ E,blks (F.take i)=E:=⟨_,rfl⟩
 rw[hE] at hC1 hci ⊢
 simp[hlt,hx,hx2,Nd.d_eq]
 by_cases h2:x.kd=2
 case' pos=>
  have hp:blks (F.take (i + 1))=E++[x.bk]:=by rw[hC1]; simp[isBk,h2]
  have hk2:decide (x.kd=2)=true:=by simp[h2]
  simp[hk2]
 case' neg=>
  by_cases h5:x.kd=5
  case' neg=>
   have hp:blks (F.take (i + 1))=E:=by rw[hC1]; simp[isBk,h2,h5]
   simp[h2,h5,succ_wrap hlt hFl]
   refine hK (i + 1) (by omega) (by omega) (Sub.take 2 (by omega)) 2 (by omega) ?_ ?_
   ·rw[hp]; simp
   ·rw[hp]; simp
  have hp:blks (F.take (i + 1))=E++[x.bk]:=by rw[hC1]; simp[isBk,h5]
  have hk2:decide (x.kd=2)=false:=by simp[h2]
  have hk5:decide (x.kd=5)=true:=by simp[h5]
  simp[hk2,hk5]
 all_goals
  refine aRaw_app byt_48 ?_
  simp
  refine⟨by unfold maxLen; omega,by omega,?_⟩
  simp[succ_wrap hlt hFl]
  refine hK (i + 1) (by omega) (by omega) (Sub.take 2 (by omega)) 2 (by omega) ?_ ?_
  ·rw[hp]; simp
  ·rw[hp]; simp
def clsG (g:Gr):Bool:=g.b.any fun b=>b.s.any fun s=>decide (s.op=5)
theorem l46calls_af (g:Gr) (hg:GrFit g):AF Tryz.prog 13 [grV g] (aB (clsG g)):=by
 have hgl:g.b.length≤maxLen:=by have:=hg.1; unfold maxLen; omega
 obtain⟨R,hR⟩:∃ R,clsG g=R:=⟨_,rfl⟩
 rw[hR]
 unfold clsG at hR
 refine af_of Tryz.func13 rfl (by kernel_rfl) (by simp[Tryz.ntmps13]) fun _=>?_; simp[Tryz.f13,Ex.d_eq]
 refine aLoop_st (fun i:Nat=>[(1,.ptr 0 0 0 0),(3,aI .i64 i)]) (fun _=>[gB g])
  (fun i=>i≤g.b.length∧((g.b.take i).any fun b=>b.s.any fun s=>decide (s.op=5))=false) (fun i=>g.b.length - i) 0 (Sub.refl _ _ _) 1 (by omega) (by simp) (by simp) ⟨by omega,by simp⟩ ?_
 rintro i ⟨hi,hall⟩ K hK
 rcases Nat.lt_or_ge i g.b.length with hlt | hge
 case inr=>
  obtain rfl:i=g.b.length:=by omega
  rw[List.take_length] at hall
  rw[hall] at hR
  subst hR
  simp
 obtain⟨b,hb⟩:∃ b,g.b[i]? = some b:=⟨_,gEG hlt⟩
 have hb2:=(gSI.1 hb).2
 have hbm:=gMO hb
 have hbl:b.s.length≤maxLen:=by have:=(hg.2 b hbm).1; unfold maxLen; omega
 simp[hlt]
 refine aLoop_st (fun k:Nat=>[(1,.ptr 0 0 0 0),(3,aI .i64 i),(4,aI .i64 k)]) (fun _=>[gB g])
  (fun k=>k≤b.s.length∧((b.s.take k).any fun s=>decide (s.op=5))=false) (fun k=>b.s.length - k) 0 (Sub.refl _ _ _) 1 (by omega) (by simp) (by simp) ⟨by omega,by simp⟩ ?_
 rintro k ⟨hk,hal2⟩ K2 hK2
 rcases Nat.lt_or_ge k b.s.length with hlt2 | hge2
 case inr=>
  obtain rfl:k=b.s.length:=by omega
  rw[List.take_length] at hal2
  simp[hlt,hb,hb2,Bl.d_eq,succ_wrap hlt hgl]
  refine hK (i + 1) ⟨by omega,?_⟩ (by omega) (Sub.refl _ _ _) 1 (by omega) (by simp) (by simp)
  rw[List.take_add_one,hb,List.any_append,hall]
  simpa using hal2
 obtain⟨s,hs⟩:∃ s,b.s[k]? = some s:=⟨_,gEG hlt2⟩
 have hs2:=(gSI.1 hs).2
 have hsm:=gMO hs
 by_cases h5:s.op=5
 ·have:R=true:=by
   rw[← hR,List.any_eq_true]
   exact⟨b,hbm,by rw[List.any_eq_true]; exact⟨s,hsm,by simp[h5]⟩⟩
  subst this
  have hk5:decide (s.op=5)=true:=by simp[h5]
  simp[hlt,hb,hb2,Bl.d_eq,hlt2,hs,hs2,St.d_eq,hk5]
 ·simp[hlt,hb,hb2,Bl.d_eq,hlt2,hs,hs2,St.d_eq,h5,succ_wrap hlt2 hbl]
  refine hK2 (k + 1) ⟨by omega,?_⟩ (by omega) (Sub.refl _ _ _) 1 (by omega) (by simp) (by simp)
  rw[List.take_add_one,hs,List.any_append,hal2]
  simp[h5]
theorem cnxL_take {l:List Sx} {i:Nat} {x:Sx} (h:l[i]? = some x):cnxL (l.take (i + 1))=cnxL (l.take i) + cnxS x:=by
 rw[List.take_add_one,h,cnxL_app]
 simp[cnxL]
theorem cnxM_app:∀ l m:List (List Sx),cnxM (l++m)=cnxM l + cnxM m
 | [],m=>by simp[cnxM]
 | s::l,m=>by simp only[List.cons_append,cnxM,cnxM_app l m]; omega
theorem cnxM_take {l:List (List Sx)} {i:Nat} {x:List Sx} (h:l[i]? = some x):cnxM (l.take (i + 1))=cnxM (l.take i) + cnxL x:=by
 rw[List.take_add_one,h,cnxM_app]
 simp[cnxM]
theorem cnxL_part (l:List Sx) (i:Nat):cnxL (l.take i)≤cnxL l:=by
 have h:=cnxL_app (l.take i) (l.drop i)
 rw[List.take_append_drop] at h
 omega
theorem cnxM_part (l:List (List Sx)) (i:Nat):cnxM (l.take i)≤cnxM l:=by
 have h:=cnxM_app (l.take i) (l.drop i)
 rw[List.take_append_drop] at h
 omega
theorem cnxM_mem {a:List Sx}:∀ {l:List (List Sx)},a∈l→cnxL a≤cnxM l
 | b :: l, h => by
   simp only[cnxM]
   rcases List.mem_cons.1 h with rfl | h
   ·omega
   ·have:=cnxM_mem h; omega
set_option maxRecDepth 100000 in
set_option maxHeartbeats 0 in
theorem l46count_af:∀ (N:Nat) (L:List Sx),Sx.nodess L≤N→cnxL L≤1000000000→AF Tryz.prog 18 [.d (.sl 7 (Sx.ds L))] (aI .i64 (cnxL L)):=by
 intro N
 induction N using Nat.strongRecOn with
 | ind N ih=>
 intro L hN hcb
 refine af_of Tryz.func18 rfl (by kernel_rfl) (by simp[Tryz.ntmps18]) fun hb=>?_
 have hm:L.length≤maxLen:=by simpa using hb.1.1
 have hsz:=bd_sx hb.1.2
 clear hb
 simp[Tryz.f18]
 refine aLoop_st (fun i:Nat=>[(0,.d (.sl 7 (Sx.ds L))),(3,aI .i64 (cnxL (L.take i):Nat)),(4,aI .i64 i)]) (fun _=>[]) (fun i=>i≤L.length) (fun i=>L.length - i) 0 (Sub.refl _ _ _) 0 (by omega) (by simp) (by simp[cnxL]) (by omega) ?_
 rintro i hi K hK
 rcases Nat.lt_or_ge i L.length with hlt | hge
 case inr=>
  obtain rfl:i=L.length:=by omega
  rw[List.take_length]
  simp
 obtain⟨s,hs⟩:∃ s,L[i]? = some s:=⟨_,gEG hlt⟩
 have hs2:=(gSI.1 hs).2
 have hsm:=gMO hs
 obtain⟨he,hc⟩:=hsz s hsm
 have hn1:=sx_nodes s
 have hn2:=sx_mem hsm
 have hct:=cnxL_take hs
 have hcp:=cnxL_part L (i + 1)
 have hcs:=cnxS_eq s
 have c1:=ih (Sx.nodess s.l) (by omega) s.l (Nat.le_refl _) (by omega)
 have c2:=ih (Sx.nodess s.el) (by omega) s.el (Nat.le_refl _) (by omega)
 obtain⟨n0,hn0⟩:∃ n0,cnxL (L.take i)=n0:=⟨_,rfl⟩
 rw[hn0] at hct ⊢
 obtain⟨q,hq⟩:∃ q:Nat,(if s.kd≤5 then 1 else 0)=q:=⟨_,rfl⟩
 rw[hq] at hcs
 obtain⟨u1,hu1⟩:∃ u,cnxL s.l=u:=⟨_,rfl⟩
 obtain⟨u2,hu2⟩:∃ u,cnxL s.el=u:=⟨_,rfl⟩
 rw[hu1] at c1 hcs
 rw[hu2] at c2 hcs
 simp[hlt,hs,hs2,Sx.d_eq]
 refine aCond_meet (fun e A=>e 0 = .d (.sl 7 (Sx.ds L))∧e 3=aI .i64 ((n0 + q:Nat):Int)∧e 4=aI .i64 i∧A=[]) ?_ (fun h=>?_) (fun h=>?_)
 case refine_2=>
  simp at h
  rw[if_pos h] at hq
  subst hq
  simp[i64w (n:=(n0:Int) + 1) (by omega)]
 case refine_3=>
  simp at h
  rw[if_neg (by omega)] at hq
  subst hq
  simp
 rintro e A ⟨e0,e3,e4,rfl⟩
 refine adrawT [] (by kernel_rfl) (by kernel_rfl) (by kernel_rfl) (by kernel_rfl) ?_
 simp[e0,e3,e4,hlt,hs,hs2,Sx.d_eq]
 refine adC_of c1 (by kernel_rfl) trivial (by simp) (by simp) ?_
 simp[e0,e3,e4,hlt,hs,hs2,Sx.d_eq,i64w (n:=(n0:Int) + q + u1) (by omega)]
 refine adC_of c2 (by kernel_rfl) trivial (by simp) (by simp) ?_
 simp[e0,e3,e4,hlt,hs,hs2,Sx.d_eq,i64w (n:=(n0:Int) + q + u1 + u2) (by omega)]
 refine aLoop_st (fun k:Nat=>[(0,.d (.sl 7 (Sx.ds L))),(3,aI .i64 ((n0 + q + u1 + u2 + cnxM (s.cs.take k):Nat):Int)),(4,aI .i64 i),(5,aI .i64 k)]) (fun _=>[]) (fun k=>k≤s.cs.length) (fun k=>s.cs.length - k) 0 (Sub.refl _ _ _) 0 (by omega) (by simp) (by simp[cnxM,e0,e4]) (by omega) ?_
 rintro k hk K3 hK3
 rcases Nat.lt_or_ge k s.cs.length with hlt3 | hge3
 case inr=>
  obtain rfl:k=s.cs.length:=by omega
  rw[List.take_length]
  simp[hlt,hs,hs2,Sx.d_eq,succ_wrap hlt hm]
  refine hK (i + 1) (by omega) (by omega) (Sub.refl _ _ _) 0 (by omega) (by simp) ?_
  rw[hct,hcs]
  simp
  omega
 obtain⟨y,hy⟩:∃ y,s.cs[k]? = some y:=⟨_,gEG hlt3⟩
 have hy2:=(gSI.1 hy).2
 have hym:=gMO hy
 have hn3:=sxs_mem hym
 have hn4:=cnxM_mem hym
 have c3:=ih (Sx.nodess y) (by omega) y (Nat.le_refl _) (by omega)
 have hmt:=cnxM_take hy
 have hmp:=cnxM_part s.cs (k + 1)
 obtain⟨m0,hm0⟩:∃ m0,cnxM (s.cs.take k)=m0:=⟨_,rfl⟩
 rw[hm0] at hmt ⊢
 obtain⟨u3,hu3⟩:∃ u,cnxL y=u:=⟨_,rfl⟩
 rw[hu3] at c3 hmt
 simp[hlt,hs,hs2,Sx.d_eq,hlt3,hy,hy2]
 refine aCall_of c3 (by kernel_rfl) (by simp) ?_
 simp[i64w (n:=(n0:Int) + q + u1 + u2 + m0 + u3) (by omega),succ_wrap hlt3 hc]
 refine hK3 (k + 1) (by omega) (by omega) (Sub.refl _ _ _) 0 (by omega) (by simp) ?_
 rw[hmt]
 simp
 omega
theorem light_var {g:Gr} (hL:lightG g=true) (hg:grErr g=0):∀ v∈gvL g,0≤v∧v≤200:=by
 have hoc:∀ (e:Ex) (n:Nat),shB n e=true→∀ v∈occ e,v≤200:=by
  intro e
  induction e using Ex.ind with
  | h e ih =>
    intro n hs v hv
    obtain⟨h1,m,_,h3⟩:=shB_kids hs
    rw[occ_eq] at hv
    rcases List.mem_append.1 hv with hv | hv
    ·split at hv
     ·simp at hv; omega
     ·simp at hv
    ·obtain⟨x,hx,hvx⟩:=(occs_memR v e.l).1 hv
     exact ih x hx m (h3 x hx) v hvx
 intro v hv
 refine⟨gvL_nn hg v hv,?_⟩
 obtain⟨b,hb,s,hs,hv⟩:=gvL_mem.1 hv
 obtain⟨h1,h2⟩:=(lightG_fit hL).2.1 b hb s hs
 rcases gvS_mem.1 hv with⟨_,rfl⟩ | ⟨e,he,hv⟩
 ·exact h1
 ·exact hoc e 8 (h2 e he) v (varsR_mem.1 hv)
theorem fn_unnamed {g:Gr} {n:Nd} (hg:grErr g=0) (hn:ckE g n=0) (nm:ByteArray) (names:List ByteArray) (hl:(names.length:Int) + 1=seeG g) (h13:12≤names.length):fnR g n nm names [] []=(fn0,17):=by
 unfold fnR
 rw[if_neg (by simp),if_neg (by simp[hn]),if_pos]
 have:knG names.length [] g=false:=by
  rw[knG_iff hg]
  have:((gvL g).any fun v=>decide ((names.length:Int)≤v))=true:=by
   cases h:(gvL g).any fun v=>decide ((names.length:Int)≤v) with
   | true=>rfl
   | false =>
     rw[List.any_eq_false] at h
     have:=see_le (g:=g) (m:=names.length) (by omega) fun v hv=>by
      have:=h v hv
      simp at this
      exact this
     omega
  rw[this]
  rfl
 rw[this]
 rfl
theorem fn_named {g:Gr} {n:Nd} (hL:lightG g=true) (hc:clsG g=false) (hg:grErr g=0) (hn:ckE g n=0) (hcd:∀ e∈n.pre,∀ x∈e.cd,∃ b∈g.b,∃ s∈b.s,x∈s.e) (nm:ByteArray) (names:List ByteArray) (hl:(names.length:Int)=seeG g) :
 (fnR g n nm names [] []).2=0∧(fnR g n nm names [] []).1.bd=emN names [] [] g n:=by
 have hv:=light_var hL hg
 have hk:knG names.length [] g=true:=by
  rw[knG_iff hg]
  have h1:((gvL g).any fun v=>decide ((names.length:Int)≤v))=false:=by
   rw[List.any_eq_false]
   intro v hv2
   have:=gv_lt hv2 (by have:=hv v hv2; omega)
   simp
   omega
  rw[h1]
  simp only[Bool.not_false,Bool.true_and,List.all_eq_true]
  intro b hb s hs
  unfold clsG at hc
  rw[List.any_eq_false] at hc
  have:=hc b hb
  rw[Bool.not_eq_true,List.any_eq_false] at this
  have:=this s hs
  simp at this
  simp[this]
 have hk2:n.pre.all (cdB names.length)=true:=by
  rw[List.all_eq_true]
  intro e he
  unfold cdB
  rw[List.all_eq_true]
  intro x hx
  obtain⟨b,hb,s,hs,hxs⟩:=hcd e he x hx
  have:=List.all_eq_true.1 (List.all_eq_true.1 hk b hb) s hs
  simp only[knS,Bool.and_eq_true,List.all_eq_true] at this
  exact this.1.2 x hxs
 have hfv:¬ 256 < (fnVars names g).length:=by
  obtain⟨h12,_⟩:=seeG_mono g
  obtain⟨F,hF⟩:∃ F:Nat,seeG g=12 + F:=⟨(seeG g - 12).toNat,by omega⟩
  have h1:=see_le (g:=g) (m:=201) (by omega) fun v hv2=>by have:=hv v hv2; omega
  have h2:=upV_all hF fun v hv2=>by have:=hv v hv2; omega
  unfold fnVars
  rw[List.length_map,← h2]
  unfold upV
  have:=List.length_filter_le (fun v:Int=>decide (v∈gvL g)) ((List.range F).map fun j:Nat=>(12:Int) + j)
  simp only[List.length_map,List.length_range] at this
  omega
 have:fnR g n nm names [] []=(⟨nm,fnVars names g,emN names [] [] g n⟩,0):=by
  unfold fnR
  rw[if_neg (by simp),if_neg (by simp[hn]),if_neg (by simp[hk,hk2]),if_neg hfv]
 rw[this]
 exact⟨rfl,rfl⟩
theorem ck_parts {g:Gr} {n:Nd} (hg:grErr g=0) (hn:ckE g n=0):(∀ e∈n.pre,ndOk e=true∧whB g e=true)∧∀ b∈blks n.pre,0≤b∧b < g.b.length:=by
 unfold ckE at hn
 rw[if_neg (by simp[hg])] at hn
 split at hn
 ·omega
 rename_i h1
 split at hn
 ·omega
 rename_i h2
 simp only[Bool.not_eq_false,List.all_eq_true] at h1
 simp only[Bool.not_eq_false,cvrB,Bool.and_eq_true,List.all_eq_true,decide_eq_true_eq] at h2
 refine⟨fun e he=>⟨h1 e he,h2.2 e he⟩,fun b hb=>?_⟩
 obtain⟨m,hm,rfl⟩:=nI_memE (h2.1.1.1 b hb)
 have:=ordN_lt (edgOk g) m hm
 omega
theorem strs_take (L:List ByteArray) (k:Nat):List.take k (strs L)=strs (L.take k):=by simp[strs,List.map_take]
set_option maxRecDepth 100000 in
set_option maxHeartbeats 0 in
theorem lawunnamed46_af (g:Gr):AF Tryz.prog 4 [grV g] (aB true):=by
 refine af_of Tryz.func4 rfl (by kernel_rfl) (by simp[Tryz.ntmps4]) fun _=>?_; simp[Tryz.f4,Ex.d_eq]
 refine aCall_of (l46ex_af) (by simp) (by simp[Ex.d_eq]) ?_; simp[Ex.d_eq]
 refine aCall_of (l46light_af g) (by kernel_rfl) (by simp) ?_
 cases hL:lightG g
 ·simp
 obtain⟨hfit,hv,h20⟩:=lightG_fit hL
 simp
 refine aCall_of (l46calls_af g hfit) (by kernel_rfl) (by simp) ?_
 cases hC:clsG g
 case true=>simp
 simp
 refine aCall_of (r19checkg_af g hfit) (by kernel_rfl) (by simp) ?_
 by_cases hg:grErr g=0
 case neg=>simp[hg]
 have hxs:∀ b∈g.b,∀ s∈b.s,s.cs.length≤16∧∀ e∈s.e,e.nodes≤1000000:=fun b hb s hs=>by
  refine⟨?_,fun e he=>?_⟩
  ·simp only[lightG,lightB,lightS,Bool.and_eq_true,decide_eq_true_eq,List.all_eq_true] at hL
   exact ((hL.1.2 b hb).2 s hs).1.1.2
  ·have:=shB_nodes 8 e ((hv b hb s hs).2 e he)
   omega
 have hbn:∀ b∈g.b,b.s.length≤1000∧∀ s∈b.s,∀ e∈s.e,e.nodes≤1000000:=fun b hb=>by
  refine⟨?_,fun s hs e he=>(hxs b hb s hs).2 e he⟩
  simp only[lightG,lightB,Bool.and_eq_true,decide_eq_true_eq,List.all_eq_true] at hL
  have:=(hL.1.2 b hb).1
  omega
 obtain⟨n,hn0,hnp,hnn,cB⟩:=stbuild_ex g hfit h20 hg hxs
 obtain⟨h12,hhi⟩:=seeG_mono g
 have cN:=emNames_af g hfit (fun b hb s hs e he=>by have:=(hxs b hb s hs).2 e he; omega) h12 hhi
 obtain⟨L,hLs⟩:∃ L,nmS (seeG g).toNat=L:=⟨_,rfl⟩
 have hlen:L.length=(seeG g).toNat:=by rw[← hLs,nmS_len]
 rw[hLs] at cN
 simp[hg]
 refine aCall_of cB (by kernel_rfl) (by simp) ?_
 simp
 refine aCall_of cN (by kernel_rfl) (by simp) ?_
 simp
 by_cases h13:L.length < 13
 ·simp[h13,show (L.length:Int) < 13 by omega]
 have hcd:∀ x∈n.pre,x.cd.length≤1000000∧∀ c∈x.cd,c.nodes≤1000000:=fun x hx=>by
  obtain⟨h1,_,_,h4⟩:=hnp x hx
  refine⟨?_,fun c hc=>?_⟩
  ·simp only[ndOk,Bool.and_eq_true,decide_eq_true_eq] at h1
   have:=h1.1.1.1.1.1.2
   unfold condN at this
   split at this<;>omega
  ·obtain⟨b,hb,s,hs,hcs⟩:=h4 c hc
   exact (hxs b hb s hs).2 c hcs
 have cF:=emFunc_af g n ⟨#[109,97,105,110]⟩ (L.take (L.length - 1)) [] [] hfit hbn (light_gv hL) hnn hcd (fun x hx=>by have:=(hnp x hx).2.2.1; omega) (by simp) (by simp) (by rw[List.length_take]; omega)
 rw[fn_unnamed hg hn0 _ _ (by rw[List.length_take]; omega) (by rw[List.length_take]; omega)] at cF
 simp[h13,show ¬ (L.length:Int) < 13 by omega]
 obtain⟨k,hk⟩:∃ k,L.length=k + 1:=⟨L.length - 1,by omega⟩
 have hwr:IntKind.i64.wrap ((k:Int) + 1 - 1)=(k:Int):=by rw[Int.add_sub_cancel]; exact i64w (by omega)
 rw[hk,Nat.add_sub_cancel] at cF
 have hst:=strs_take L k
 refine adrawR [grV g,ndA n,strA L,strA L,aI .i64 ((k + 1:Nat):Int),aI .i64 k,strA (L.take k),.tup [fnV fn0,aI .i64 17],.tup [fnV fn0,aI .i64 17],fnV fn0,aI .i64 17,.ptr 2 0 0 0,.any,aI .i64 17]
  [(0,[gB g,ndK1 n]),(128,[gB g,ndK1 n]),(2048,[gB g,ndK1 n,fzC ⟨#[]⟩ nilV nilV]),(2176,[gB g,ndK1 n,fzC ⟨#[]⟩ nilV nilV]),(6272,[gB g,ndK1 n,fzC ⟨#[]⟩ (.d (.sl 6 [])) (.d (.sl 7 []))])]
  (by kernel_rfl) (by kernel_rfl) rfl rfl ?_ ?_
 ·simp only[rowsR,List.mem_cons,List.not_mem_nil,or_false,forall_eq_or_imp,forall_eq]
  refine⟨⟨?u0_0,nmy,?u0_2048,nmy,nmy⟩,⟨?u1_0,nmy,?u1_2048,nmy,nmy⟩,⟨?u2_0,nmy,?u2_2048,nmy,nmy⟩,⟨?u3_0,nmy,?u3_2048,nmy,nmy⟩,⟨?u4_0,nmy,?u4_2048,nmy,nmy⟩,⟨?u5_0,nmy,?u5_2048,nmy,nmy⟩,⟨?u6_0,nmy,?u6_2048,nmy,nmy⟩,⟨?u7_0,nmy,?u7_2048,nmy,nmy⟩,⟨nmy,?u8_128,nmy,?u8_2176,nmy⟩,⟨nmy,?u9_128,nmy,?u9_2176,nmy⟩,⟨nmy,?u10_128,nmy,?u10_2176,?u10_6272⟩,⟨?u11_0,?u11_128,nmy,nmy,nmy⟩,⟨nmy,nmy,nmy,?u12_2176,nmy⟩,⟨nmy,nmy,nmy,nmy,?u13_6272⟩,trivial⟩
  all_goals
   intro hmay
   clear hmay
   intro e' K' h A3 hA hk2
   simp only[Op.operands,Call.operands] at h
   simp[still,heapM,putR,dvA] at h hA hk2
   subst hA
   simp[h,hk,hwr,i64w (n:=(k:Int)) (by omega),show (k:Int)≤(k:Int) + 1 by omega,hst,setEls,fn0]
   first | exact hk2 | (refine aCall_of cF (by kernel_rfl) (by simp[show u32L []=[] from rfl]) ?_; simpa [fn0] using hk2) | skip
 simp[putR]
set_option maxRecDepth 100000 in
set_option maxHeartbeats 0 in
theorem lawonce46_af (g:Gr):AF Tryz.prog 5 [grV g] (aB true):=by
 refine af_of Tryz.func5 rfl (by kernel_rfl) (by simp[Tryz.ntmps5]) fun _=>?_; simp[Tryz.f5,Ex.d_eq]
 refine aCall_of (l46ex_af) (by simp) (by simp[Ex.d_eq]) ?_; simp[Ex.d_eq]
 refine aCall_of (l46light_af g) (by kernel_rfl) (by simp) ?_
 cases hL:lightG g
 ·simp
 obtain⟨hfit,hv,h20⟩:=lightG_fit hL
 simp
 refine aCall_of (l46calls_af g hfit) (by kernel_rfl) (by simp) ?_
 cases hC:clsG g
 case true=>simp
 simp
 refine aCall_of (r19checkg_af g hfit) (by kernel_rfl) (by simp) ?_
 by_cases hg:grErr g=0
 case neg=>simp[hg]
 have hxs:∀ b∈g.b,∀ s∈b.s,s.cs.length≤16∧∀ e∈s.e,e.nodes≤1000000:=fun b hb s hs=>by
  refine⟨?_,fun e he=>?_⟩
  ·simp only[lightG,lightB,lightS,Bool.and_eq_true,decide_eq_true_eq,List.all_eq_true] at hL
   exact ((hL.1.2 b hb).2 s hs).1.1.2
  ·have:=shB_nodes 8 e ((hv b hb s hs).2 e he)
   omega
 have hbn:∀ b∈g.b,b.s.length≤1000∧∀ s∈b.s,∀ e∈s.e,e.nodes≤1000000:=fun b hb=>by
  refine⟨?_,fun s hs e he=>(hxs b hb s hs).2 e he⟩
  simp only[lightG,lightB,Bool.and_eq_true,decide_eq_true_eq,List.all_eq_true] at hL
  have:=(hL.1.2 b hb).1
  omega
 obtain⟨n,hn0,hnp,hnn,cB⟩:=stbuild_ex g hfit h20 hg hxs
 obtain⟨h12,hhi⟩:=seeG_mono g
 have cN:=emNames_af g hfit (fun b hb s hs e he=>by have:=(hxs b hb s hs).2 e he; omega) h12 hhi
 obtain⟨L,hLs⟩:∃ L,nmS (seeG g).toNat=L:=⟨_,rfl⟩
 have hlen:L.length=(seeG g).toNat:=by rw[← hLs,nmS_len]
 rw[hLs] at cN
 simp[hg]
 refine aCall_of cB (by kernel_rfl) (by simp) ?_
 simp
 have hcd:∀ x∈n.pre,x.cd.length≤1000000∧∀ c∈x.cd,c.nodes≤1000000:=fun x hx=>by
  obtain⟨h1,_,_,h4⟩:=hnp x hx
  refine⟨?_,fun c hc=>?_⟩
  ·simp only[ndOk,Bool.and_eq_true,decide_eq_true_eq] at h1
   have:=h1.1.1.1.1.1.2
   unfold condN at this
   split at this<;>omega
  ·obtain⟨b,hb,s,hs,hcs⟩:=h4 c hc
   exact (hxs b hb s hs).2 c hcs
 have cF:=emFunc_af g n ⟨#[109,97,105,110]⟩ L [] [] hfit hbn (light_gv hL) hnn hcd (fun x hx=>by have:=(hnp x hx).2.2.1; omega) (by simp) (by simp) (by omega)
 obtain⟨r1,r2⟩:=fn_named hL hC hg hn0 (fun e he=>(hnp e he).2.2.2) ⟨#[109,97,105,110]⟩ L (by omega)
 obtain⟨p1,p2⟩:=ck_parts hg hn0
 have hcnt:=cnt_em hg L [] [] n p1
 obtain⟨f,hf⟩:∃ f,(fnR g n ⟨#[109,97,105,110]⟩ L [] []).1=f:=⟨_,rfl⟩
 rw[r1,hf] at cF
 rw[hf] at r2
 rw[← r2] at hcnt
 have cBl:=stblocks_af n (by omega)
 obtain⟨W,hW⟩:∃ W,blks n.pre=W:=⟨_,rfl⟩
 rw[hW] at cBl hcnt p2
 refine adrawR [grV g,ndA n,grV g,strA L,.tup [fnV f,aI .i64 0],.tup [fnV f,aI .i64 0],fnV f,aI .i64 0,.ptr 2 0 0 0,.any,aI .i64 0]
  [(0,[gB g,ndK1 n]),(8,[gB g,ndK1 n]),(16,[gB g,ndK1 n]),(24,[gB g,ndK1 n]),(256,[gB g,ndK1 n,fzC ⟨#[]⟩ nilV nilV]),(264,[gB g,ndK1 n,fzC ⟨#[]⟩ nilV nilV]),(272,[gB g,ndK1 n,fzC ⟨#[]⟩ nilV nilV]),(280,[gB g,ndK1 n,fzC ⟨#[]⟩ nilV nilV]),(792,[gB g,ndK1 n,fzC f.nm (.d (.sl 6 (vrs f.vs))) (.d (.sl 7 (Sx.ds f.bd)))])]
  (by kernel_rfl) (by kernel_rfl) rfl rfl ?_ ?_
 ·simp only[rowsR,List.mem_cons,List.not_mem_nil,or_false,forall_eq_or_imp,forall_eq]
  refine⟨⟨?o0_0,?o0_8,nmy,nmy,?o0_256,?o0_264,nmy,nmy,nmy⟩,⟨?o1_0,?o1_8,nmy,nmy,?o1_256,?o1_264,nmy,nmy,nmy⟩,⟨?o2_0,nmy,nmy,nmy,?o2_256,nmy,nmy,nmy,nmy⟩,⟨?o3_0,nmy,nmy,nmy,?o3_256,nmy,nmy,nmy,nmy⟩,⟨nmy,?o4_8,nmy,nmy,nmy,?o4_264,nmy,nmy,nmy⟩,⟨nmy,nmy,nmy,?o5_24,nmy,nmy,nmy,?o5_280,nmy⟩,⟨nmy,nmy,nmy,?o6_24,nmy,nmy,nmy,?o6_280,nmy⟩,⟨nmy,nmy,nmy,?o7_24,nmy,nmy,nmy,?o7_280,?o7_792⟩,⟨?o8_0,?o8_8,?o8_16,?o8_24,nmy,nmy,nmy,nmy,nmy⟩,⟨nmy,nmy,nmy,nmy,nmy,nmy,nmy,?o9_280,nmy⟩,⟨nmy,nmy,nmy,nmy,nmy,nmy,nmy,nmy,?o10_792⟩,trivial⟩
  all_goals
   intro hmay
   clear hmay
   intro e' K' h A3 hA hk2
   simp only[Op.operands,Call.operands] at h
   simp[still,heapM,putR,dvA] at h hA hk2
   subst hA
   simp[h,setEls]
   first | exact hk2 | (refine aCall_of cN (by kernel_rfl) (by simp) ?_; simpa using hk2) | (refine aCall_of cF (by kernel_rfl) (by simp[show u32L []=[] from rfl]) ?_; simpa using hk2) | skip
 simp[putR]
 refine aCall_of cBl (by kernel_rfl) (by simp) ?_
 simp
 have hWl:W.length≤maxLen:=by
  rw[← hW]
  have h1:(blks n.pre).length≤n.pre.length:=by
   unfold blks
   rw[List.length_map]
   exact List.length_filter_le _ _
  rw[Nd.pre_len] at h1
  unfold maxLen
  omega
 have hws:∀ i,i≤W.length→wS (wB g) (W.take i)≤i * 1000:=fun i hi=>by
  have:=wS_le (W:=wB g) (m:=1000) (l:=W.take i) fun x _=>by
   unfold wB
   cases hb:g.b[x.toNat]? with
   | none=>simp
   | some b=>have:=(hbn b (gMO hb)).1; simp only; omega
  rw[List.length_take,Nat.min_eq_left hi] at this
  exact this
 have hWn:W.length≤1000:=by
  rw[← hW]
  have h1:(blks n.pre).length≤n.pre.length:=by
   unfold blks
   rw[List.length_map]
   exact List.length_filter_le _ _
  rw[Nd.pre_len] at h1
  omega
 have cCn:=l46count_af (Sx.nodess f.bd) f.bd (Nat.le_refl _) (by
  have:=hws W.length (Nat.le_refl _)
  rw[List.take_length] at this
  have h2:W.length * 1000≤1000 * 1000:=Nat.mul_le_mul_right _ hWn
  omega)
 rw[hcnt] at cCn
 refine aLoop_st (fun i:Nat=>[(1,.ptr 0 0 0 0),(5,.ptr 2 0 0 0),(6,aI .i64 (wS (wB g) (W.take i):Nat)),(7,.d (.sl 1 (i64s W))),(8,aI .i64 i)]) (fun _=>[gB g,ndK1 n,fzC f.nm (.d (.sl 6 (vrs f.vs))) (.d (.sl 7 (Sx.ds f.bd)))]) (fun i=>i≤W.length) (fun i=>W.length - i) 0 (Sub.refl _ _ _) 3 (by omega) (by simp) (by simp[wS]) (by omega) ?_
 rintro i hi K hK
 rcases Nat.lt_or_ge i W.length with hlt | hge
 case inr=>
  obtain rfl:i=W.length:=by omega
  rw[List.take_length]
  simp
  refine aCall_of cCn (by kernel_rfl) (by simp) ?_
  simp
 obtain⟨x,hx⟩:∃ x,W[i]? = some x:=⟨_,gEG hlt⟩
 obtain⟨x0,x1⟩:=p2 x (gMO hx)
 obtain⟨w,hw⟩:∃ w:Nat,x=w:=⟨x.toNat,by omega⟩
 subst hw
 have hx2:=(gSI.1 hx).2
 have hwn:w < g.b.length:=by omega
 obtain⟨b,hb⟩:∃ b,g.b[w]? = some b:=⟨_,gEG hwn⟩
 have hb2:=(gSI.1 hb).2
 have hb1:=stmts_pos hg (gMO hb)
 have hbn1:=(hbn b (gMO hb)).1
 have hwb:wB g (w:Int)=b.s.length - 1:=by unfold wB; rw[Int.toNat_natCast,hb]
 have hws1:wS (wB g) (W.take (i + 1))=wS (wB g) (W.take i) + (b.s.length - 1):=by
  rw[List.take_add_one,hx,wS_app,← hwb]
  simp[wS]
 have hwsi:=hws i hi
 have h2:i * 1000≤1000 * 1000:=Nat.mul_le_mul_right _ (by omega)
 obtain⟨c,hc⟩:∃ c,wS (wB g) (W.take i)=c:=⟨_,rfl⟩
 rw[hc] at hws1 hwsi ⊢
 simp[hlt]
 refine adraw [] (by kernel_rfl) (by kernel_rfl) (by kernel_rfl) (by kernel_rfl) ?_
 simp[hlt,hx,hx2,hwn,x0,x1]
 refine adrawT [] (by kernel_rfl) (by kernel_rfl) (by kernel_rfl) (by kernel_rfl) ?_
 simp[hlt,hx,hx2,hwn,hb,hb2,Bl.d_eq,i64w (n:=(c:Int) + b.s.length) (by omega),i64w (n:=(c:Int) + b.s.length - 1) (by omega),succ_wrap hlt hWl]
 refine hK (i + 1) (by omega) (by omega) (Sub.refl _ _ _) 3 (by omega) (by simp) ?_
 rw[hws1]
 simp
 omega
end Go.Proofs.YtfnbhkbfelllgaaGreatDoor
