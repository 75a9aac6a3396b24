import Derived.Test.YtfnbhkbfelllgaaGreatDoorBa
import Derived.Test.YtfnbhkbfelllgaaGreatDoorFacts
import Derived.Lib.Join
import Derived.Test.YtfnbhkbfelllgaaGreatDoorSh
import Derived.Test.YtfnbhkbfelllgaaGreatDoorAp
import Derived.Test.YtfnbhkbfelllgaaGreatDoorAn
import Derived.Test.YtfnbhkbfelllgaaGreatDoorAt
import Derived.WalkMore
import Derived.BigFrame
set_option linter.all false
namespace Go.Proofs.YtfnbhkbfelllgaaGreatDoor
open Go.RowKit
def Same0 (A:AHeap) (r0:AV) (r:AV) (A':AHeap):Prop:=r=r0∧∃ N,A'=A++N
theorem AC.drop {P:Program} {f:FuncId} {args:List AV} {A:AHeap} {r0:AV} (h:AC P f args A (Same0 A r0)):AC P f args A fun r A'=>r=cln A.length r0∧A'=A.map (clnB A.length):=
 h.sub fun r A' ⟨hr,N,hA⟩=>by
  subst hr hA
  exact⟨_,_,Sub.take A.length (Nat.le_refl _),rfl,by simp⟩
theorem indexFunc_ac {f:Nat} {fs cs:List AV} {p:Ex→Bool} (A:AHeap) (l:List Ex) (hf:okF Tryz.prog f=true) (hp:∀ a∈l,∀ N,AC Tryz.prog f (fs++[exA a]++cs) (A++N) (Same0 A (aB (p a)))) :
 AC Tryz.prog 218 [.d (.sl 5 (Ex.ds l)),.fn f fs cs] A (Same0 A (aI .i64 (match l.findIdx? p with | some i=>(i:Int) | none=>-1))):=by
 refine ac_of Tryz.func218 rfl (by kernel_rfl) (by simp[Tryz.ntmps218]) fun hb=>?_
 have n1:l.length≤maxLen:=by simpa using hb.1.1
 clear hb
 obtain⟨R,hR⟩:∃ R:Int,(match l.findIdx? p with | some i=>(i:Int) | none=>-1)=R:=⟨_,rfl⟩
 rw[hR]
 simp[Tryz.f218]
 refine aLoop_of (α:=Nat) (fun i e A'=>i≤l.length∧(∃ N,A'=A++N)∧e 8=aI .i64 i∧e 7=aI .i64 l.length∧e 0 = .d (.sl 5 (Ex.ds l))∧e 1 = .fn f fs cs ∧
  ∀ (j:Nat) (a:Ex),j < i→l[j]? = some a→p a=false) (fun i=>l.length - i) 0 (Sub.refl _ _ _) ⟨by omega,⟨[],by simp⟩,by simp,by simp,by simp,by simp,by intro j a hj; omega⟩ ?_
 rintro i e A' ⟨hi,⟨N,rfl⟩,e8,e7,e0,e1,hall⟩ K hK
 simp[e8,e7]
 refine aCond_split (fun hlt=>?_) (fun hge=>?_)
 ·simp at hlt
  have hi1:=gEG hlt
  simp[e0,e1,e8,hi1,Ex.d_eq]
  refine aCall_ofc (hp l[i] (gMO hi1) N) hf ?_
  rintro _ _ ⟨rfl,N',rfl⟩
  simp
  refine aCond_split (fun ht=>?_) (fun hf=>?_)
  ·have:l.findIdx? p=some i:=by
    rw[List.findIdx?_eq_some_iff_getElem]
    exact⟨hlt,ht,fun j hj=>by simpa using hall j _ hj (gEG (by omega))⟩
   rw[this] at hR
   subst hR
   simp[Same0]
  ·simp[e8,succ_wrap hlt n1]
   refine hK (i + 1) _ _ _ _ (Sub.refl _ _ _) ⟨by omega,⟨N',rfl⟩,by simp,by simp[e7],by simp[e0],by simp[e1],fun j a hj ha=>?_⟩ (by omega)
   rcases Nat.lt_or_ge j i with h | h
   ·exact hall j a h ha
   ·obtain rfl:j=i:=by omega
    rw[hi1] at ha
    obtain rfl:=oSI ha
    exact hf
 ·simp at hge
  have:l.findIdx? p=none:=by
   rw[List.findIdx?_eq_none_iff]
   intro x hx
   obtain⟨j,hj⟩:=List.getElem?_of_mem hx
   exact hall j x (by have:=(gSI.1 hj).1; omega) hj
  rw[this] at hR
  subst hR
  simp[Same0]
theorem containsFunc_ac {f:Nat} {fs cs:List AV} {p:Ex→Bool} (A:AHeap) (l:List Ex) (hf:okF Tryz.prog f=true) (hp:∀ a∈l,∀ N,AC Tryz.prog f (fs++[exA a]++cs) (A++N) (Same0 A (aB (p a)))) :
 AC Tryz.prog 171 [.d (.sl 5 (Ex.ds l)),.fn f fs cs] A (Same0 A (aB (l.any p))):=by
 refine ac_of Tryz.func171 rfl (by kernel_rfl) (by simp[Tryz.ntmps171]) fun hb=>?_
 simp[Tryz.f171]
 refine aCall_ofc (indexFunc_ac A l hf hp) (by simp) ?_
 rintro _ _ ⟨rfl,N,rfl⟩
 simp[Same0]
 cases h:l.findIdx? p with
 | none =>
   rw[List.findIdx?_eq_none_iff] at h
   simpa using h
 | some i =>
   rw[List.findIdx?_eq_some_iff_getElem] at h
   obtain⟨hi,hp,_⟩:=h
   simpa using ⟨_,List.getElem_mem hi,hp⟩
def shalB:Nat→Ex→Bool
 | 0,_=>false
 | n + 1,e=>e.l.all (shalB n)
theorem shallow1_ac {n:Nat} (hn:n≤1000000000) (ih:∀ e:Ex,AF Tryz.prog 118 [exA e,aI .i64 n] (aB (shalB n e))) (b0 b1:Blk) (h1:b1=⟨0,true,3,1,[[aI .i64 (n + 1:Nat)]]⟩) (x:Ex) (N:AHeap) :
 AC Tryz.prog 172 [exA x,.ptr 1 0 0 0] ([b0,b1]++N) (Same0 [b0,b1] (aB (!shalB n x))):=by
 subst h1
 refine ac_of Tryz.func172 rfl (by kernel_rfl) (by simp[Tryz.ntmps172]) fun hb=>?_
 simp[Tryz.f172,i64w (n:=(n:Int)) (by omega)]
 refine aCall_of (ih x) (by simp) (by simp) ?_
 simp[Same0]
theorem shallow_af:∀ (n:Nat) (e:Ex),n≤1000000000→AF Tryz.prog 118 [exA e,aI .i64 n] (aB (shalB n e)):=by
 intro n
 induction n with
 | zero =>
   intro e _
   refine af_of Tryz.func118 rfl (by kernel_rfl) (by simp[Tryz.ntmps118]) fun hb=>?_
   simp[Tryz.f118,shalB]
 | succ n ih =>
   intro e hn
   refine af_of Tryz.func118 rfl (by kernel_rfl) (by simp[Tryz.ntmps118]) fun hb=>?_
   clear hb
   simp[Tryz.f118,show (1:Int)≤(n:Int) + 1 by omega]
   refine aCall_ofc (containsFunc_ac _ e.l (p:=fun x=>!shalB n x) (by simp) fun x _ N=>shallow1_ac (by omega) (fun e=>ih e (by omega)) _ _ rfl x N).drop (by simp) ?_
   rintro _ _ ⟨rfl,rfl⟩
   simp
   rw[shalB,List.not_all_eq_any_not]
theorem variable_af (v:Int):AF Tryz.prog 173 [aI .i64 v] (aB (decide (0≤v) && decide (v < 65536))):=by
 refine af_of Tryz.func173 rfl (by kernel_rfl) (by simp[Tryz.ntmps173]) fun _=>?_
 simp[Tryz.f173]
 refine aG_split (fun h=>?_) (fun h=>?_)
 ·simp at h
  simp[h]
 ·simp at h
  simp[show ¬ (0:Int)≤v by omega]
theorem access_af (v:Int):AF Tryz.prog 174 [aI .i64 v] (aB (decide (v=1) || decide (v=2) || decide (v=4))):=by
 refine af_of Tryz.func174 rfl (by kernel_rfl) (by simp[Tryz.ntmps174]) fun _=>?_
 by_cases h1:v=1
 ·subst h1
  simp[Tryz.f174]
 by_cases h2:v=2
 ·subst h2
  simp[Tryz.f174]
 simp[Tryz.f174,h1,h2]
def okE (op n v w:Int) (k:Nat):Bool:=
 if op=1 then v == 0 && w == 0 && k == 0
 else if op=2 then n == 0 && w == 0 && k == 0 && (decide (0≤v) && decide (v < 65536))
 else if 3≤op∧op≤15 then n == 0 && v == 0 && w == 0 && k == 2
 else if op=16∨op=17 then n == 0 && v == 0 && w == 0 && k == 1
 else if op=18 then n == 0 && v == 0 && (w == 1 || w == 2 || w == 4) && k == 1
 else if op=19 then n == 0 && v == 0 && (w == 1 || w == 2) && k == 1
 else false
def formB:Ex→Bool
 | .mk op n v w l=>okE op n v w l.length && forms l
where forms:List Ex→Bool
 | []=>true
 | e::l=>formB e && forms l
theorem formB_eq (e:Ex):formB e=(okE e.op e.n e.v e.wd e.l.length && e.l.all formB):=by
 have h:∀ l,formB.forms l=l.all formB:=by
  intro l
  induction l with
  | nil=>rfl
  | cons a l ih=>simp only[formB.forms,ih,List.all_cons]
 cases e
 simp only[formB,h]
 rfl
theorem formed1_ac {x:Ex} (ih:AF Tryz.prog 119 [exA x] (aB (formB x))) (A N:AHeap):AC Tryz.prog 175 [exA x] (A++N) (Same0 A (aB (!formB x))):=by
 refine ac_of Tryz.func175 rfl (by kernel_rfl) (by simp[Tryz.ntmps175]) fun _=>?_
 simp[Tryz.f175]
 refine aCall_of ih (by simp) (by simp) ?_
 simp[Same0]
theorem formed_af:∀ (e:Ex),AF Tryz.prog 119 [exA e] (aB (formB e)):=by
 intro x
 induction x using Ex.ind with
 | h x ih =>
   have hany:∀ A:AHeap,AC Tryz.prog 171 [.d (.sl 5 (Ex.ds x.l)),.fn 175 [] []] A fun r A'=>r=aB (x.l.any fun y=>!formB y)∧A'=A.map (clnB A.length):=fun A=>
    (containsFunc_ac (fs:=[]) (cs:=[]) (p:=fun y=>!formB y) A x.l (by simp) fun y hy N=>formed1_ac (ih y hy) A N).drop
   rw[formB_eq]
   refine af_of Tryz.func119 rfl (by kernel_rfl) (by simp[Tryz.ntmps119]) fun _=>?_
   obtain⟨R,hR⟩:∃ R,(okE x.op x.n x.v x.wd x.l.length && x.l.all formB)=R:=⟨_,rfl⟩
   rw[hR]
   have hlast:(x.l.any fun y=>!formB y) = !(x.l.all formB):=by rw[List.not_all_eq_any_not]
   simp[Tryz.f119]
   by_cases h1:x.op=1
   ·simp[h1]
    refine aG_split (fun g0=>?_) (fun g0=>by simp at g0; rw[← hR]; simp[okE,h1,g0])
    simp at g0
    simp[g0]
    refine aG_split (fun g1=>?_) (fun g1=>by simp at g1; rw[← hR]; simp[okE,h1,g0,g1])
    simp at g1
    simp[g1]
    refine aG_split (fun g2=>?_) (fun g2=>by simp at g2; rw[← hR]; simp[okE,h1,g0,g1,g2])
    simp at g2
    simp[g2]
    refine aCall_ofc (by have h:=hany; rw[g2] at h; exact h _) (by simp) ?_
    rintro _ _ ⟨rfl,rfl⟩
    simp
    rw[← hR]
    simp[okE,h1,g0,g1,g2]
   simp[h1]
   by_cases h2:x.op=2
   ·simp[h2]
    refine aCall_of (variable_af x.v) (by simp) (by simp) ?_
    simp
    by_cases hv:0≤x.v∧x.v < 65536
    ·simp[hv]
     refine aG_split (fun g0=>?_) (fun g0=>by simp at g0; rw[← hR]; simp[okE,h1,h2,hv.1,hv.2,g0])
     simp at g0
     simp[g0]
     refine aG_split (fun g1=>?_) (fun g1=>by simp at g1; rw[← hR]; simp[okE,h1,h2,hv.1,hv.2,g0,g1])
     simp at g1
     simp[g1]
     refine aG_split (fun g2=>?_) (fun g2=>by simp at g2; rw[← hR]; simp[okE,h1,h2,hv.1,hv.2,g0,g1,g2])
     simp at g2
     simp[g2]
     refine aCall_ofc (by have h:=hany; rw[g2] at h; exact h _) (by simp) ?_
     rintro _ _ ⟨rfl,rfl⟩
     simp
     rw[← hR]
     simp[okE,h1,h2,hv.1,hv.2,g0,g1,g2]
    ·have hv':(decide (0≤x.v) && decide (x.v < 65536))=false:=by simp; omega
     simp[hv']
     rw[← hR]
     simp[okE,h1,h2,hv']
   simp[h2]
   by_cases h3:3≤x.op∧x.op≤15
   ·simp[h3.1,h3.2]
    refine aG_split (fun g0=>?_) (fun g0=>by simp at g0; rw[← hR]; simp[okE,h1,h2,h3.1,h3.2,g0])
    simp at g0
    simp[g0]
    refine aG_split (fun g1=>?_) (fun g1=>by simp at g1; rw[← hR]; simp[okE,h1,h2,h3.1,h3.2,g0,g1])
    simp at g1
    simp[g1]
    refine aG_split (fun g2=>?_) (fun g2=>by simp at g2; rw[← hR]; simp[okE,h1,h2,h3.1,h3.2,g0,g1,g2])
    simp at g2
    simp[g2]
    refine aG_split (fun g3=>?_) (fun g3=>by simp at g3; have gk:¬ x.l.length=2:=(by omega); rw[← hR]; simp[okE,h1,h2,h3.1,h3.2,g0,g1,g2,gk,g3])
    simp at g3
    simp[g3]
    have gk:x.l.length=2:=by omega
    refine aCall_ofc (hany _) (by simp) ?_
    rintro _ _ ⟨rfl,rfl⟩
    simp
    rw[← hR,hlast]
    simp[okE,h1,h2,h3.1,h3.2,g0,g1,g2,gk]
   have hno:∀ (K1 K2:AKont) (e:AEnv) (d:Option Nat) (A:AHeap),True:=fun _ _ _ _ _=>trivial
   by_cases h3a:3≤x.op
   ·have h3b:¬ x.op≤15:=fun h=>h3 ⟨h3a,h⟩
    simp[h3a,h3b]
    by_cases h16:x.op=16
    ·simp[h16]
     refine aG_split (fun g0=>?_) (fun g0=>by simp at g0; rw[← hR]; simp[okE,h1,h2,h3a,h3b,h16,g0])
     simp at g0
     simp[g0]
     refine aG_split (fun g1=>?_) (fun g1=>by simp at g1; rw[← hR]; simp[okE,h1,h2,h3a,h3b,h16,g0,g1])
     simp at g1
     simp[g1]
     refine aG_split (fun g2=>?_) (fun g2=>by simp at g2; rw[← hR]; simp[okE,h1,h2,h3a,h3b,h16,g0,g1,g2])
     simp at g2
     simp[g2]
     refine aG_split (fun g3=>?_) (fun g3=>by simp at g3; have gk:¬ x.l.length=1:=(by omega); rw[← hR]; simp[okE,h1,h2,h3a,h3b,h16,g0,g1,g2,gk,g3])
     simp at g3
     simp[g3]
     have gk:x.l.length=1:=by omega
     refine aCall_ofc (hany _) (by simp) ?_
     rintro _ _ ⟨rfl,rfl⟩
     simp
     rw[← hR,hlast]
     simp[okE,h1,h2,h3a,h3b,h16,g0,g1,g2,gk]
    simp[h16]
    by_cases h17:x.op=17
    ·simp[h17]
     refine aG_split (fun g0=>?_) (fun g0=>by simp at g0; rw[← hR]; simp[okE,h1,h2,h3a,h3b,h16,h17,g0])
     simp at g0
     simp[g0]
     refine aG_split (fun g1=>?_) (fun g1=>by simp at g1; rw[← hR]; simp[okE,h1,h2,h3a,h3b,h16,h17,g0,g1])
     simp at g1
     simp[g1]
     refine aG_split (fun g2=>?_) (fun g2=>by simp at g2; rw[← hR]; simp[okE,h1,h2,h3a,h3b,h16,h17,g0,g1,g2])
     simp at g2
     simp[g2]
     refine aG_split (fun g3=>?_) (fun g3=>by simp at g3; have gk:¬ x.l.length=1:=(by omega); rw[← hR]; simp[okE,h1,h2,h3a,h3b,h16,h17,g0,g1,g2,gk,g3])
     simp at g3
     simp[g3]
     have gk:x.l.length=1:=by omega
     refine aCall_ofc (hany _) (by simp) ?_
     rintro _ _ ⟨rfl,rfl⟩
     simp
     rw[← hR,hlast]
     simp[okE,h1,h2,h3a,h3b,h16,h17,g0,g1,g2,gk]
    simp[h17]
    by_cases h18:x.op=18
    ·simp[h18]
     refine aCall_of (access_af x.wd) (by simp) (by simp) ?_
     simp
     cases hw:(decide (x.wd=1) || decide (x.wd=2) || decide (x.wd=4)) with
     | false =>
       simp[hw]
       rw[← hR]
       simp at hw
       simp[okE,h18,hw]
     | true =>
       have hw':(x.wd == 1 || x.wd == 2 || x.wd == 4)=true:=by simpa using hw
       simp[hw]
       refine aG_split (fun g0=>?_) (fun g0=>by simp at g0; rw[← hR]; simp[okE,h18,hw',g0])
       simp at g0
       simp[g0]
       refine aG_split (fun g1=>?_) (fun g1=>by simp at g1; rw[← hR]; simp[okE,h18,hw',g0,g1])
       simp at g1
       simp[g1]
       refine aG_split (fun g2=>?_) (fun g2=>by simp at g2; have gk:¬ x.l.length=1:=(by omega); rw[← hR]; simp[okE,h18,hw',g0,g1,gk,g2])
       simp at g2
       simp[g2]
       have gk:x.l.length=1:=by omega
       refine aCall_ofc (hany _) (by simp) ?_
       rintro _ _ ⟨rfl,rfl⟩
       simp
       rw[← hR,hlast]
       simp[okE,h18,hw',g0,g1,gk]
    simp[h18]
    by_cases h19:x.op=19
    ·simp[h19]
     cases hw:(decide (x.wd=1) || decide (x.wd=2)) with
     | false =>
       simp at hw
       simp[hw]
       rw[← hR]
       simp[okE,h19,hw]
     | true =>
       have hw':(x.wd == 1 || x.wd == 2)=true:=by simpa using hw
       by_cases hw1:x.wd=1
       ·simp[hw1]
        refine aG_split (fun g0=>?_) (fun g0=>by simp at g0; rw[← hR]; simp[okE,h19,hw1,g0])
        simp at g0
        simp[g0]
        refine aG_split (fun g1=>?_) (fun g1=>by simp at g1; rw[← hR]; simp[okE,h19,hw1,g0,g1])
        simp at g1
        simp[g1]
        refine aG_split (fun g2=>?_) (fun g2=>by simp at g2; have gk:¬ x.l.length=1:=(by omega); rw[← hR]; simp[okE,h19,hw1,g0,g1,gk,g2])
        simp at g2
        simp[g2]
        have gk:x.l.length=1:=by omega
        refine aCall_ofc (hany _) (by simp) ?_
        rintro _ _ ⟨rfl,rfl⟩
        simp
        rw[← hR,hlast]
        simp[okE,h19,hw1,g0,g1,gk]
       have hw2:x.wd=2:=by simp[hw1] at hw; exact hw
       simp[hw2]
       refine aG_split (fun g0=>?_) (fun g0=>by simp at g0; rw[← hR]; simp[okE,h19,hw2,g0])
       simp at g0
       simp[g0]
       refine aG_split (fun g1=>?_) (fun g1=>by simp at g1; rw[← hR]; simp[okE,h19,hw2,g0,g1])
       simp at g1
       simp[g1]
       refine aG_split (fun g2=>?_) (fun g2=>by simp at g2; have gk:¬ x.l.length=1:=(by omega); rw[← hR]; simp[okE,h19,hw2,g0,g1,gk,g2])
       simp at g2
       simp[g2]
       have gk:x.l.length=1:=by omega
       refine aCall_ofc (hany _) (by simp) ?_
       rintro _ _ ⟨rfl,rfl⟩
       simp
       rw[← hR,hlast]
       simp[okE,h19,hw2,g0,g1,gk]
    simp[h19]
    rw[← hR]
    simp[okE,h1,h2,h3a,h3b,h16,h17,h18,h19]
   ·simp[h3a,show ¬ x.op=16 by omega,show ¬ x.op=17 by omega,show ¬ x.op=18 by omega,show ¬ x.op=19 by omega]
    rw[← hR]
    simp[okE,h1,h2,h3a,show ¬ x.op=16 by omega,show ¬ x.op=17 by omega,show ¬ x.op=18 by omega,show ¬ x.op=19 by omega]
theorem check_af (e:Ex):AF Tryz.prog 47 [exA e] (aI .i64 (if shalB 64 e=true then (if formB e=true then 0 else 2) else 20)):=by
 refine af_of Tryz.func47 rfl (by kernel_rfl) (by simp[Tryz.ntmps47]) fun _=>?_
 simp[Tryz.f47]
 refine aCall_of (shallow_af 64 e (by omega)) (by simp) (by simp) ?_
 simp
 cases h1:shalB 64 e with
 | false=>simp
 | true =>
   simp
   refine aCall_of (formed_af e) (by simp) (by simp) ?_
   simp
   cases h2:formB e with
   | false=>simp
   | true=>simp
theorem bds_all {sz:Nat}:∀ {xs:List (List D)},BdS sz xs→((dEls xs).all fun x=>x.length == sz)=true
 | [],_=>rfl
 | x :: xs, h => by
   simp only[BdS] at h
   have:=bds_all h.2.2
   simp[h.1] at this ⊢
   exact this
theorem clone_ac (A:AHeap) (xs:List (List D)) (hl:xs.length≤1000000000) :
 AC Tryz.prog 213 [.d (.sl 5 xs)] A fun r A'=>r = .own A.length 1 0 xs.length∧A'=A++[⟨1,true,60,5,dEls xs⟩]:=by
 refine AC.sub (R:=fun r A'=>(r = .own A.length 1 0 xs.length∧A'=A++[⟨1,true,60,5,dEls xs⟩])∨(r = .d (.v (.slice none 0 0))∧xs=[]∧A'=A)) (ac_of Tryz.func213 rfl (by kernel_rfl) (by simp[Tryz.ntmps213]) fun hb=>?_) ?_
 ·have hall:=bds_all hb.1.2
  clear hb
  simp[Tryz.f213]
  refine aRaw_app byt_26 ?_
  simp[hall]
  unfold maxLen
  omega
 ·rintro r A' (⟨rfl,rfl⟩ | ⟨rfl,rfl,rfl⟩)
  ·exact⟨_,_,Sub.refl _ _ _,rfl,rfl⟩
  ·refine⟨_,_,(Sub.ghost 1 60 5).trans (Sub.env (e':=fun _=>.own A'.length 1 0 0) fun i=>VLe.nil_own (k:=⟨1,true,60,5,[]⟩) (by simp) rfl),?_,?_⟩<;>simp
def eCon (n:Int):Ex:=.mk 1 n 0 0 []
def eVar (v:Int):Ex:=.mk 2 0 v 0 []
def eTwo (op:Int) (a b:Ex):Ex:=.mk op 0 0 0 [a,b]
def eOne (op:Int) (a:Ex):Ex:=.mk op 0 0 0 [a]
section
variable (op n v:Int) (a b:Ex)
@[simp] theorem eCon_op:(eCon n).op=1:=rfl
@[simp] theorem eCon_n:(eCon n).n=n:=rfl
@[simp] theorem eCon_v:(eCon n).v=0:=rfl
@[simp] theorem eCon_wd:(eCon n).wd=0:=rfl
@[simp] theorem eCon_l:(eCon n).l=[]:=rfl
@[simp] theorem eVar_op:(eVar v).op=2:=rfl
@[simp] theorem eVar_n:(eVar v).n=0:=rfl
@[simp] theorem eVar_v:(eVar v).v=v:=rfl
@[simp] theorem eVar_wd:(eVar v).wd=0:=rfl
@[simp] theorem eVar_l:(eVar v).l=[]:=rfl
@[simp] theorem eTwo_op:(eTwo op a b).op=op:=rfl
@[simp] theorem eTwo_n:(eTwo op a b).n=0:=rfl
@[simp] theorem eTwo_v:(eTwo op a b).v=0:=rfl
@[simp] theorem eTwo_wd:(eTwo op a b).wd=0:=rfl
@[simp] theorem eTwo_l:(eTwo op a b).l=[a,b]:=rfl
@[simp] theorem eOne_op:(eOne op a).op=op:=rfl
@[simp] theorem eOne_n:(eOne op a).n=0:=rfl
@[simp] theorem eOne_v:(eOne op a).v=0:=rfl
@[simp] theorem eOne_wd:(eOne op a).wd=0:=rfl
@[simp] theorem eOne_l:(eOne op a).l=[a]:=rfl
@[simp] theorem nodes_con:(eCon n).nodes=1:=rfl
@[simp] theorem nodes_var:(eVar v).nodes=1:=rfl
end
abbrev aS (s:ByteArray):AV:=.d (.v (.string s))
def strs (xs:List ByteArray):List (List D):=xs.map fun x=>[.v (.string x)]
@[simp] theorem strs_nil:strs []=[]:=rfl
@[simp] theorem strs_cons (x:ByteArray) (xs:List ByteArray):strs (x::xs)=[.v (.string x)]::strs xs:=rfl
theorem nodess_take {l:List Ex} {i:Nat} {x:Ex} (h:l[i]? = some x):Ex.nodess (l.take (i + 1))=Ex.nodess (l.take i) + x.nodes:=by
 have:∀ (a b:List Ex),Ex.nodess (a++b)=Ex.nodess a + Ex.nodess b:=by
  intro a b
  induction a with
  | nil=>simp[Ex.nodess]
  | cons y a ih=>simp[Ex.nodess,ih]; omega
 rw[List.take_add_one,h,this]
 simp[Ex.nodess]
theorem nodess_take_le:∀ (l:List Ex) (i:Nat),Ex.nodess (l.take i)≤Ex.nodess l
 | [],i=>by simp
 | x::l,0=>by simp[Ex.nodess]
 | x::l,i + 1=>by have:=nodess_take_le l i; simp[Ex.nodess]; omega
theorem nodes_eq (x:Ex):x.nodes=Ex.nodess x.l + 1:=by cases x; rfl
theorem rdeep_af:∀ (k:Nat) (e:Ex),k≤1000000→AF Tryz.prog 153 [exA e,aI .i64 k] (aB (!shalB k e)):=by
 intro k
 induction k with
 | zero =>
   intro e _
   refine af_of Tryz.func153 rfl (by kernel_rfl) (by simp[Tryz.ntmps153]) fun _=>?_
   simp[Tryz.f153,shalB]
 | succ k ih =>
   intro e hk
   refine af_of Tryz.func153 rfl (by kernel_rfl) (by simp[Tryz.ntmps153]) fun hb=>?_
   have n1:e.l.length≤maxLen:=by simpa using hb.1.2.2.2.2.1.1
   clear hb
   obtain⟨R,hR⟩:∃ R,(!shalB (k + 1) e)=R:=⟨_,rfl⟩
   rw[hR]
   rw[shalB] at hR
   simp[Tryz.f153,show ¬ ((k:Int) + 1 < 1) by omega]
   refine aLoop_of (α:=Nat) (fun i g A=>i≤e.l.length∧A=[⟨0,true,60,5,[[aI .i64 e.op,aI .u32 e.n,aI .i64 e.v,aI .i64 e.wd,.d (.sl 5 (Ex.ds e.l))]]⟩]∧g 2 = .ptr 0 0 0 0∧g 5=aI .i64 i∧g 1=aI .i64 (k + 1:Nat) ∧
    ∀ x∈e.l.take i,shalB k x=true) (fun i=>e.l.length - i) 0 (Sub.refl _ _ _) ⟨by omega,by simp,by simp,by simp,by simp,by simp⟩ ?_
   rintro i g A ⟨hi,rfl,g2,g5,g1,hall⟩ K hK
   rcases Nat.lt_or_ge i e.l.length with hlt | hge
   case inr=>
    obtain rfl:i=e.l.length:=by omega
    have:e.l.all (shalB k)=true:=by simpa using hall
    rw[this] at hR
    subst hR
    simp[g2,g5]
   obtain⟨x,hx⟩:∃ x,e.l[i]? = some x:=⟨_,gEG hlt⟩
   have hx':=(gSI.1 hx).2
   simp[g2,g5,g1,hlt,hx,hx',Ex.d_eq,i64w (n:=(k:Int)) (by omega)]
   refine aCall_of (ih x (by omega)) (by simp) (by simp) ?_
   simp
   refine aCond_split (fun h=>?_) (fun h=>?_)
   ·simp at h
    have:e.l.all (shalB k)=false:=by
     rw[List.all_eq_false]
     exact⟨x,gMO hx,by simp[h]⟩
    rw[this] at hR
    subst hR
    simp
   ·simp at h
    simp[g5,succ_wrap hlt n1]
    refine hK (i + 1) _ _ _ _ (Sub.refl _ _ _) ⟨by omega,by simp[Ex.d_eq],by simp[g2],by simp,by simp[g1],fun y hy=>?_⟩ (by omega)
    rw[List.take_add_one,hx] at hy
    rcases List.mem_append.1 hy with hy | hy
    ·exact hall y hy
    ·obtain rfl:y=x:=by simpa using hy
     exact h
theorem risvar_af (v:Int):AF Tryz.prog 103 [aI .i64 v] (aB (decide (0≤v) && decide (v < 65536))):=by
 refine af_of Tryz.func103 rfl (by kernel_rfl) (by simp[Tryz.ntmps103]) fun _=>?_
 by_cases h:0≤v<;>simp[Tryz.f103,h]
theorem rformed_af:∀ (e:Ex),AF Tryz.prog 154 [exA e] (aB (formB e)):=by
 intro x
 induction x using Ex.ind with
 | h x ih =>
   rw[formB_eq]
   refine af_of Tryz.func154 rfl (by kernel_rfl) (by simp[Tryz.ntmps154]) fun hb=>?_
   have n1:x.l.length≤maxLen:=by simpa using hb.1.2.2.2.2.1.1
   clear hb
   obtain⟨R,hR⟩:∃ R,(okE x.op x.n x.v x.wd x.l.length && x.l.all formB)=R:=⟨_,rfl⟩
   rw[hR]
   simp[Tryz.f154]
   refine aLoop_of (α:=Nat) (fun i g A=>i≤x.l.length∧A=[⟨0,true,60,5,[[aI .i64 x.op,aI .u32 x.n,aI .i64 x.v,aI .i64 x.wd,.d (.sl 5 (Ex.ds x.l))]]⟩]∧g 1 = .ptr 0 0 0 0∧g 3=aI .i64 i ∧
    ∀ y∈x.l.take i,formB y=true) (fun i=>x.l.length - i) 0 (Sub.refl _ _ _) ⟨by omega,by simp,by simp,by simp,by simp⟩ ?_
   rintro i g A ⟨hi,rfl,g1,g3,hall⟩ K hK
   rcases Nat.lt_or_ge i x.l.length with hlt | hge
   case inl=>
    obtain⟨y,hy⟩:∃ y,x.l[i]? = some y:=⟨_,gEG hlt⟩
    have hy':=(gSI.1 hy).2
    simp[g1,g3,hlt,hy,hy',Ex.d_eq]
    refine aCall_of (ih y (gMO hy)) (by simp) (by simp) ?_
    simp
    refine aCond_split (fun h=>?_) (fun h=>?_)
    ·simp at h
     have:x.l.all formB=false:=by
      rw[List.all_eq_false]
      exact⟨y,gMO hy,by simp[h]⟩
     rw[this,Bool.and_false] at hR
     subst hR
     simp
    ·simp at h
     simp[g3,succ_wrap hlt n1]
     refine hK (i + 1) _ _ _ _ (Sub.refl _ _ _) ⟨by omega,by simp[Ex.d_eq],by simp[g1],by simp,fun z hz=>?_⟩ (by omega)
     rw[List.take_add_one,hy] at hz
     rcases List.mem_append.1 hz with hz | hz
     ·exact hall z hz
     ·obtain rfl:z=y:=by simpa using hz
      exact h
   obtain rfl:i=x.l.length:=by omega
   have hl:x.l.all formB=true:=by simpa using hall
   rw[hl,Bool.and_true] at hR
   clear hl hall hK ih
   subst hR
   simp[g1,g3]
   have q1:((x.l.length:Int)=1)=(x.l.length=1):=propext (by omega)
   have q2:((x.l.length:Int)=2)=(x.l.length=2):=propext (by omega)
   by_cases h1:x.op=1
   ·simp[h1,g1]
    by_cases c0:x.v=0<;>by_cases c1:x.wd=0<;>by_cases c2:x.l.length=0<;>simp[g1,okE,q1,q2,h1,c0,c1,c2]
   simp[h1]
   by_cases h2:x.op=2
   ·simp[h2,g1]
    by_cases c0:x.n=0
    case neg=>simp[g1,okE,h2,c0]
    by_cases c1:x.wd=0
    case neg=>simp[g1,okE,h2,c0,c1]
    by_cases c2:x.l.length=0
    case neg=>simp[g1,okE,h2,c0,c1,c2]
    simp[g1,h2,c0,c1,c2]
    refine aCall_of (risvar_af x.v) (by simp) (by simp) ?_
    simp[okE,h2,c0,c1,c2]
   simp[h2]
   by_cases h16:x.op=16
   ·simp[h16,g1]
    by_cases c0:x.n=0<;>by_cases c1:x.v=0<;>by_cases c2:x.wd=0<;>by_cases c3:x.l.length=1<;>simp[g1,okE,q1,q2,h16,c0,c1,c2,c3]
   simp[h16]
   by_cases h17:x.op=17
   ·simp[h17,g1]
    by_cases c0:x.n=0<;>by_cases c1:x.v=0<;>by_cases c2:x.wd=0<;>by_cases c3:x.l.length=1<;>simp[g1,okE,q1,q2,h17,c0,c1,c2,c3]
   simp[h17]
   by_cases h18:x.op=18
   ·simp[h18,g1]
    by_cases c0:x.n=0
    case neg=>simp[g1,okE,h18,c0]
    by_cases c1:x.v=0
    case neg=>simp[g1,okE,h18,c0,c1]
    by_cases w1:x.wd=1
    ·by_cases c2:x.l.length=1<;>simp[g1,okE,q1,q2,h18,c0,c1,w1,c2]
    by_cases w2:x.wd=2
    ·by_cases c2:x.l.length=1<;>simp[g1,okE,q1,q2,h18,c0,c1,w2,c2]
    by_cases w4:x.wd=4
    ·by_cases c2:x.l.length=1<;>simp[g1,okE,q1,q2,h18,c0,c1,w4,c2]
    simp[g1,okE,h18,c0,c1,w1,w2,w4]
   simp[h18]
   by_cases h19:x.op=19
   ·simp[h19,g1]
    by_cases c0:x.n=0
    case neg=>simp[g1,okE,h19,c0]
    by_cases c1:x.v=0
    case neg=>simp[g1,okE,h19,c0,c1]
    by_cases w1:x.wd=1
    ·by_cases c2:x.l.length=1<;>simp[g1,okE,q1,q2,h19,c0,c1,w1,c2]
    by_cases w2:x.wd=2
    ·by_cases c2:x.l.length=1<;>simp[g1,okE,q1,q2,h19,c0,c1,w2,c2]
    simp[g1,okE,h19,c0,c1,w1,w2]
   simp[h19,g1]
   by_cases ha:3≤x.op
   case neg=>simp[g1,okE,h1,h2,h16,h17,h18,h19,ha]
   by_cases hb:x.op≤15
   case neg=>simp[g1,okE,h1,h2,h16,h17,h18,h19,ha,hb]
   by_cases c0:x.n=0<;>by_cases c1:x.v=0<;>by_cases c2:x.wd=0<;>by_cases c3:x.l.length=2<;>simp[g1,okE,q1,q2,h1,h2,h16,h17,h18,h19,ha,hb,c0,c1,c2,c3]
theorem rcheck_af (e:Ex):AF Tryz.prog 101 [exA e] (aI .i64 (if shalB 64 e=true then (if formB e=true then 0 else 2) else 20)):=by
 refine af_of Tryz.func101 rfl (by kernel_rfl) (by simp[Tryz.ntmps101]) fun _=>?_
 simp[Tryz.f101]
 refine aCall_of (rdeep_af 64 e (by omega)) (by simp) (by simp) ?_
 simp
 refine aCond_split (fun h=>?_) (fun h=>?_)
 ·simp at h
  simp[h]
 ·simp at h
  simp[h]
  refine aCall_of (rformed_af e) (by simp) (by simp) ?_
  simp
  refine aCond_split (fun h2=>?_) (fun h2=>?_)
  ·simp at h2
   simp[h2]
  ·simp at h2
   simp[h2]
namespace Ex
def x (e:Ex):Ex:=e.l.getD 0 (eCon 0)
def y (e:Ex):Ex:=e.l.getD 1 (eCon 0)
end Ex
section
variable (op n v w:Int) (a b:Ex) (l:List Ex)
@[simp] theorem x_two:(eTwo op a b).x=a:=rfl
@[simp] theorem y_two:(eTwo op a b).y=b:=rfl
@[simp] theorem x_one:(eOne op a).x=a:=rfl
@[simp] theorem x_mk:(Ex.mk op n v w (a::l)).x=a:=rfl
@[simp] theorem y_mk:(Ex.mk op n v w (a::b::l)).y=b:=rfl
end
theorem form_all {e:Ex} (h:formB e=true):okE e.op e.n e.v e.wd e.l.length=true∧∀ x∈e.l,formB x=true:=by
 rw[formB_eq,Bool.and_eq_true,List.all_eq_true] at h
 exact h
theorem okE_var {n v w:Int} {k:Nat}:okE 2 n v w k=true↔n=0∧w=0∧k=0∧0≤v∧v < 65536:=by simp[okE,and_assoc]
theorem form_var {e:Ex} (h:formB e=true) (ho:e.op=2):e=eVar e.v∧0≤e.v∧e.v < 65536:=by
 have h1:=(form_all h).1
 rw[ho,okE_var] at h1
 obtain⟨op,n,v,w,l⟩:=e
 simp only[Ex.op_mk,Ex.n_mk,Ex.v_mk,Ex.wd_mk,Ex.l_mk] at h1 ho
 obtain⟨rfl,rfl,hl,h2,h3⟩:=h1
 subst ho
 match l,hl with
 | [],_=>exact⟨rfl,h2,h3⟩
def wOp (op:Int):Nat:=if op=3∨op=4∨op=9∨op=10∨op=11 then 2 else 1
mutual
def Ex.wt:Ex→Nat
 | .mk op _ _ _ l=>wOp op + wts l
def wts:List Ex→Nat
 | []=>0
 | e::l=>e.wt + wts l
end
@[simp] theorem wt_con (n:Int):(eCon n).wt=1:=rfl
structure St where
 op:Int
 va:Int
 wd:Int
 nx:Int
 el:Int
 tg:Int
 e:List Ex
 cs:List Int
structure Bl where
 ad:Int
 s:List St
structure Gr where
 ad:Int
 b:List Bl
def i64s (l:List Int):List (List D):=l.map fun n=>[.v (.int .i64 n)]
@[simp] theorem i64s_nil:i64s []=[]:=rfl
@[simp] theorem i64s_cons (n:Int) (l:List Int):i64s (n::l)=[.v (.int .i64 n)]::i64s l:=rfl
@[simp] theorem i64s_len (l:List Int):(i64s l).length=l.length:=by simp[i64s]
@[simp] theorem i64s_get (l:List Int) (i:Nat):(i64s l)[i]? = (l[i]?).map fun n=>[.v (.int .i64 n)]:=by simp[i64s]
@[simp] theorem i64s_at (l:List Int) (i:Nat) (h:i < (i64s l).length):(i64s l)[i]=[.v (.int .i64 (l[i]'(by simpa using h)))]:=by simp[i64s]
@[simp] theorem i64s_all (l:List Int):(i64s l).take l.length=i64s l:=by rw[List.take_of_length_le]; simp
@[simp] theorem i64s_app (l m:List Int):i64s (l++m)=i64s l++i64s m:=by simp[i64s]
def St.d (s:St):List D:=[.v (.int .i64 s.op),.v (.int .i64 s.va),.v (.int .i64 s.wd),.v (.int .i64 s.nx),.v (.int .i64 s.el),.v (.int .u32 s.tg),.sl 5 (Ex.ds s.e),.sl 1 (i64s s.cs)]
theorem St.d_eq (s:St):St.d s=[.v (.int .i64 s.op),.v (.int .i64 s.va),.v (.int .i64 s.wd),.v (.int .i64 s.nx),.v (.int .i64 s.el),.v (.int .u32 s.tg),.sl 5 (Ex.ds s.e),.sl 1 (i64s s.cs)]:=rfl
@[simp] theorem St.d_len (s:St):(St.d s).length=8:=rfl
def sts (l:List St):List (List D):=l.map St.d
@[simp] theorem sts_nil:sts []=[]:=rfl
@[simp] theorem sts_cons (s:St) (l:List St):sts (s::l)=s.d::sts l:=rfl
@[simp] theorem sts_len (l:List St):(sts l).length=l.length:=by simp[sts]
@[simp] theorem sts_get (l:List St) (i:Nat):(sts l)[i]? = (l[i]?).map St.d:=by simp[sts]
@[simp] theorem sts_at (l:List St) (i:Nat) (h:i < (sts l).length):(sts l)[i]=St.d (l[i]'(by simpa using h)):=by simp[sts]
@[simp] theorem sts_take (l:List St) (n:Nat):(sts l).take n=sts (l.take n):=by simp[sts]
def Bl.d (b:Bl):List D:=[.v (.int .u32 b.ad),.sl 8 (sts b.s)]
theorem Bl.d_eq (b:Bl):Bl.d b=[.v (.int .u32 b.ad),.sl 8 (sts b.s)]:=rfl
@[simp] theorem Bl.d_len (b:Bl):(Bl.d b).length=2:=rfl
def bls' (l:List Bl):List (List D):=l.map Bl.d
@[simp] theorem bls_nil:bls' []=[]:=rfl
@[simp] theorem bls_cons (b:Bl) (l:List Bl):bls' (b::l)=b.d::bls' l:=rfl
@[simp] theorem bls_len (l:List Bl):(bls' l).length=l.length:=by simp[bls']
@[simp] theorem bls_get (l:List Bl) (i:Nat):(bls' l)[i]? = (l[i]?).map Bl.d:=by simp[bls']
@[simp] theorem bls_at (l:List Bl) (i:Nat) (h:i < (bls' l).length):(bls' l)[i]=Bl.d (l[i]'(by simpa using h)):=by simp[bls']
@[simp] def stV (s:St):AV:=.agg [aI .i64 s.op,aI .i64 s.va,aI .i64 s.wd,aI .i64 s.nx,aI .i64 s.el,aI .u32 s.tg,.d (.sl 5 (Ex.ds s.e)),.d (.sl 1 (i64s s.cs))]
@[simp] def blV (b:Bl):AV:=.agg [aI .u32 b.ad,.d (.sl 8 (sts b.s))]
@[simp] def grV (g:Gr):AV:=.agg [aI .u32 g.ad,.d (.sl 2 (bls' g.b))]
def exErr (e:Ex):Int:=if shalB 64 e=true then (if formB e=true then 0 else 2) else 20
def exprsN (op:Int):Int:=
 if op=1∨op=4∨op=7∨op=8 then 1 else if op=2 then 2 else if op=3∨op=5∨op=6∨op=9∨op=10 then 0 else -1
def fieldsB (s:St):Bool:=
 let va:=(s.op == 1 || s.op == 3)
 (if va then decide (0≤s.va) && decide (s.va < 65536) else s.va == 0) &&
 (if s.op=2 then (s.wd == 1 || s.wd == 2 || s.wd == 4) else s.wd == 0) &&
 (s.op == 6 || s.op == 7 || s.nx == 0) && (s.op == 7 || s.el == 0) && (s.op == 5 || s.tg == 0) &&
 (if s.op=8 then decide (1≤s.cs.length) && decide (s.cs.length≤64) else decide (s.cs=[]))
def exsErr:List Ex→Int
 | []=>0
 | e::l=>if exErr e=0 then exsErr l else exErr e
def stErr (s:St):Int:=if exprsN s.op=s.e.length then (if exsErr s.e=0 then (if fieldsB s=true then 0 else 2) else exsErr s.e) else 2
def stsErr:List St→Int
 | []=>0
 | s::l=>if stErr s=0 then stsErr l else stErr s
def blsErr:List Bl→Int
 | []=>0
 | b::l=>if stsErr b.s=0 then blsErr l else stsErr b.s
def termB (s:St):Bool:=decide (6≤s.op) && decide (s.op≤10)
def tgts (s:St):List Int:=if s.op=6 then [s.nx] else if s.op=7 then [s.nx,s.el] else if s.op=8 then s.cs else []
def succL (b:Bl):List Int:=match b.s.getLast? with
 | some s=>tgts s
 | none=>[]
def closedB (n:Nat) (b:Bl):Bool:=match b.s.getLast? with
 | some s=>termB s && !(b.s.take (b.s.length - 1)).any termB && !(tgts s).any fun k=>decide (k < 0) || decide ((n:Int)≤k)
 | none=>false
def stN:List Bl→Nat
 | []=>0
 | b::l=>b.s.length + stN l
def grErr (g:Gr):Int:=
 if 256 < g.b.length∨1024 < stN g.b then 6
 else if g.b.length=0∨g.b.all (closedB g.b.length)=false then 18
 else blsErr g.b
theorem blsErr_mem:∀ {l:List Bl},blsErr l=0→∀ b∈l,stsErr b.s=0
 | [],_,b,hb=>by cases hb
 | a :: l, h, b, hb => by
   simp only[blsErr] at h
   split at h
   ·rename_i h0
    rcases List.mem_cons.1 hb with rfl | hb
    ·exact h0
    ·exact blsErr_mem h b hb
   ·exact absurd h ‹_›
theorem stsErr_mem:∀ {l:List St},stsErr l=0→∀ s∈l,stErr s=0
 | [],_,b,hb=>by cases hb
 | a :: l, h, b, hb => by
   simp only[stsErr] at h
   split at h
   ·rename_i h0
    rcases List.mem_cons.1 hb with rfl | hb
    ·exact h0
    ·exact stsErr_mem h b hb
   ·exact absurd h ‹_›
theorem exsErr_mem:∀ {l:List Ex},exsErr l=0→∀ e∈l,exErr e=0
 | [],_,b,hb=>by cases hb
 | a :: l, h, b, hb => by
   simp only[exsErr] at h
   split at h
   ·rename_i h0
    rcases List.mem_cons.1 hb with rfl | hb
    ·exact h0
    ·exact exsErr_mem h b hb
   ·exact absurd h ‹_›
abbrev bxE (e:Ex):Blk:=⟨0,true,60,5,[[aI .i64 e.op,aI .u32 e.n,aI .i64 e.v,aI .i64 e.wd,.d (.sl 5 (Ex.ds e.l))]]⟩
def lowN (n:Int):List Int→Nat
 | []=>0
 | a::l=>if a < n then lowN n l + 1 else 0
def insL (l:List Int) (n:Int):List Int:=if l[lowN n l]? = some n then l else l.take (lowN n l)++n::l.drop (lowN n l)
theorem dEls_i64 (l:List Int):(∀ x,x∈dEls (i64s l)→x.length=1)↔True:=by
 refine iff_true_intro fun x hx=>?_
 simp only[dEls,i64s,List.map_map,List.mem_map] at hx
 obtain⟨n,_,rfl⟩:=hx
 rfl
abbrev cellI (n:Int):Blk:=⟨0,true,3,1,[[aI .i64 n]]⟩
abbrev cellF:Blk:=⟨0,true,162,1,[[.fn 114 [] [.ptr 1 0 0 0]]]⟩
def seeI (n v:Int):Int:=if n≤v then (if 65535 < v then 65535 else v) + 1 else n
def seeE (n:Int):Ex→Int
 | .mk o _ w _ l=>seeEs (if o=2 then seeI n w else n) l
where seeEs (n:Int):List Ex→Int
 | []=>n
 | e::l=>seeEs (seeE n e) l
theorem seeI_range {n v:Int} (h0:0≤n) (h1:n≤65536):0≤seeI n v∧seeI n v≤65536:=by
 unfold seeI
 split
 ·split<;>omega
 ·omega
theorem fresh1_ac (b0 b2:Blk) (v n:Int) (N:AHeap) (h0:0≤n) (h1:n≤65536):AC Tryz.prog 114 [aI .i64 v,.ptr 1 0 0 0] (b0::cellI n::b2::N) (fun r A'=>r = .tup []∧∃ N',A'=b0::cellI (seeI n v)::b2::(N++N')):=by
 refine ac_of Tryz.func114 rfl (by kernel_rfl) (by simp[Tryz.ntmps114]) fun hb=>?_
 have hr:=seeI_range (v:=v) h0 h1
 unfold seeI at *
 by_cases h:n≤v
 ·rw[if_pos h] at hr ⊢
  simp[Tryz.f114,h]
  refine aRaw_min (k:=.i64) (k':=.i64) (a:=v) (b:=65535) (by simp) (by simp) ?_
  generalize (if 65535 < v then (65535:Int) else v)=m at *
  simp[i64w (n:=m + 1) (by omega)]
 ·simp[Tryz.f114,h]
theorem fresh2_ac (x:Ex) (b0:Blk) (n:Int) (N:AHeap) (h0:0≤n) (h1:n≤65536):AC Tryz.prog 116 [exA x,.ptr 2 0 0 0] (b0::cellI n::cellF::N) (fun r A'=>r = .tup []∧∃ N',A'=b0::cellI (if x.op=2 then seeI n x.v else n)::cellF::(N++N')):=by
 refine ac_of Tryz.func116 rfl (by kernel_rfl) (by simp[Tryz.ntmps116]) fun hb=>?_
 by_cases h:x.op=2
 ·simp[Tryz.f116,h]
  refine aCall_ofc (fresh1_ac b0 cellF x.v n _ h0 h1) (by simp) ?_
  rintro _ _ ⟨rfl,N1,rfl⟩
  simp
 ·simp[Tryz.f116,h]
theorem seeE_range:∀ (x:Ex) (n:Int),0≤n→n≤65536→0≤seeE n x∧seeE n x≤65536:=by
 intro x
 induction x using Ex.ind with
 | h x ih=>
 obtain⟨o,k,w,wd,l⟩:=x
 intro n h0 h1
 have hl:∀ l:List Ex,(∀ x∈l,∀ (n:Int),0≤n→n≤65536→0≤seeE n x∧seeE n x≤65536)→∀ n:Int,0≤n→n≤65536→0≤seeE.seeEs n l∧seeE.seeEs n l≤65536:=by
  intro l
  induction l with
  | nil=>intro _ n h0 h1; simp only[seeE.seeEs]; omega
  | cons a l ihl =>
    intro h n h0 h1
    have:=h a (by simp) n h0 h1
    simp only[seeE.seeEs]
    exact ihl (fun x hx=>h x (by simp[hx])) _ this.1 this.2
 simp only[seeE]
 have hr:=seeI_range (v:=w) h0 h1
 split
 ·exact hl l ih _ hr.1 hr.2
 ·exact hl l ih _ h0 h1
theorem seeEs_take {l:List Ex} {i:Nat} {x:Ex} (h:l[i]? = some x) (n:Int):seeE.seeEs n (l.take (i + 1))=seeE (seeE.seeEs n (l.take i)) x:=by
 induction l generalizing i n with
 | nil=>simp at h
 | cons a l ih =>
   cases i with
   | zero=>simp at h; subst h; simp[seeE.seeEs]
   | succ i=>simp only[List.take_succ_cons,seeE.seeEs,ih (by simpa using h)]
theorem seeEs_range:∀ (l:List Ex) (n:Int),0≤n→n≤65536→0≤seeE.seeEs n l∧seeE.seeEs n l≤65536
 | [],n,h0,h1=>by simp only[seeE.seeEs]; omega
 | a :: l, n, h0, h1 => by
   have:=seeE_range a n h0 h1
   simp only[seeE.seeEs]
   exact seeEs_range l _ this.1 this.2
theorem visitF_ac:∀ (x:Ex) (b0:Blk) (n:Int) (N:AHeap),0≤n→n≤65536→x.nodes≤1000000000 →
 AC Tryz.prog 115 [exA x,.fn 116 [] [.ptr 2 0 0 0]] (b0::cellI n::cellF::N) (fun r A'=>r = .tup []∧∃ N',A'=b0::cellI (seeE n x)::cellF::(N++N')):=by
 intro x
 induction x using Ex.ind with
 | h x ih =>
   intro b0 n N h0 h1 hn
   have hlen:=x.nodes_len
   have n1:x.l.length≤maxLen:=by unfold maxLen; omega
   have hne:seeE n x=seeE.seeEs (if x.op=2 then seeI n x.v else n) x.l:=by cases x; rfl
   rw[hne]
   have hr:0≤(if x.op=2 then seeI n x.v else n)∧(if x.op=2 then seeI n x.v else n)≤65536:=by
    split
    ·exact seeI_range h0 h1
    ·omega
   have c2:=fun N=>fresh2_ac x b0 n N h0 h1
   generalize (if x.op=2 then seeI n x.v else n)=m at *
   refine ac_of Tryz.func115 rfl (by kernel_rfl) (by simp[Tryz.ntmps115]) fun hb=>?_
   simp[Tryz.f115]
   refine aCall_ofc (c2 _) (by simp) ?_
   rintro _ _ ⟨rfl,N1,rfl⟩
   simp
   refine aLoop_of (α:=Nat) (fun i e A=>i≤x.l.length∧(∃ N',A=b0::cellI (seeE.seeEs m (x.l.take i))::cellF::(N++N')) ∧
    e 12=aI .i64 i∧e 11=aI .i64 x.l.length∧e 10 = .d (.sl 5 (Ex.ds x.l))∧e 1 = .fn 116 [] [.ptr 2 0 0 0]) (fun i=>x.l.length - i) 0 (Sub.refl _ _ _)
    ⟨by omega,⟨_,by simp[seeE.seeEs]; rfl⟩,by simp,by simp,by simp,by simp⟩ ?_
   rintro i e A ⟨hi,⟨N',rfl⟩,e12,e11,e10,e1⟩ K hK
   rcases Nat.lt_or_ge i x.l.length with hlt | hge
   case inr=>
    obtain rfl:i=x.l.length:=by omega
    rw[List.take_length]
    simp[e12,e11]
   obtain⟨y,hy⟩:∃ y,x.l[i]? = some y:=⟨_,gEG hlt⟩
   have hy2:=(gSI.1 hy).2
   have hm:=Ex.nodes_mem (gMO hy)
   have ht:=seeEs_take hy m
   have hrr:=seeEs_range (x.l.take i) m hr.1 hr.2
   rw[show x.l.take (i + 1)=x.l.take (i + 1) from rfl] at ht
   generalize hq:seeE.seeEs m (x.l.take i)=q at *
   simp[e12,e11,e10,e1,hlt,hy,hy2,Ex.d_eq]
   refine aCall_ofc (ih y (gMO hy) b0 q _ hrr.1 hrr.2 (by omega)) (by simp) ?_
   rintro _ _ ⟨rfl,N2,rfl⟩
   simp[e12,succ_wrap hlt n1]
   refine hK (i + 1) _ _ _ _ (Sub.refl _ _ _) ⟨by omega,⟨_,by rw[ht]⟩,by simp,by simp[e11],by simp[e10],by simp[e1]⟩ (by omega)
def occ:Ex→List Int
 | .mk o _ w _ l=>(if o=2 then [w] else [])++occs l
where occs:List Ex→List Int
 | []=>[]
 | e::l=>occ e++occs l
def varsR:Ex→List Int
 | .mk o _ w _ l=>varsRs (if o=2 then [w] else []) l
where varsRs (out:List Int):List Ex→List Int
 | []=>out
 | e::l=>varsRs ((varsR e).foldl insL out) l
theorem occ_eq (e:Ex):occ e=(if e.op=2 then [e.v] else [])++occ.occs e.l:=by cases e; rfl
theorem varsR_eq (e:Ex):varsR e=varsR.varsRs (if e.op=2 then [e.v] else []) e.l:=by cases e; rfl
def Asc (l:List Int):Prop:=l.Pairwise (· < ·)
def insR (n:Int):List Int→List Int
 | []=>[n]
 | a::l=>if a < n then a::insR n l else if a=n then a::l else n::a::l
theorem insL_eq (n:Int):∀ l:List Int,insL l n=insR n l
 | []=>by simp[insL,insR,lowN]
 | a :: l => by
   have ih:=insL_eq n l
   unfold insL at ih ⊢
   by_cases h:a < n
   ·simp only[lowN,if_pos h,insR,List.getElem?_cons_succ,List.take_succ_cons,List.drop_succ_cons]
    rw[← ih]
    split<;>simp
   ·simp only[lowN,if_neg h,insR,List.getElem?_cons_zero,List.take_zero,List.drop_zero,Option.some.injEq,List.nil_append]
theorem insR_mem (n v:Int):∀ l:List Int,v∈insR n l↔v=n∨v∈l
 | []=>by simp[insR]
 | a :: l => by
   simp only[insR]
   split
   ·simp only[List.mem_cons,insR_mem n v l]
    constructor
    ·rintro (h | h | h)
     ·exact .inr (.inl h)
     ·exact .inl h
     ·exact .inr (.inr h)
    ·rintro (h | h | h)
     ·exact .inr (.inl h)
     ·exact .inl h
     ·exact .inr (.inr h)
   ·split
    ·rename_i h
     subst h
     simp only[List.mem_cons]
     constructor
     ·exact .inr
     ·rintro (h | h)
      ·exact .inl h
      ·exact h
    ·simp only[List.mem_cons]
theorem insR_asc (n:Int):∀ {l:List Int},Asc l→Asc (insR n l)
 | [],_=>by simp[insR,Asc]
 | a :: l, h => by
   obtain⟨h1,h2⟩:=List.pairwise_cons.1 h
   have ih:=insR_asc n h2
   simp only[insR]
   split
   ·refine List.pairwise_cons.2 ⟨fun v hv=>?_,ih⟩
    rcases (insR_mem n v l).1 hv with rfl | hv
    ·assumption
    ·exact h1 v hv
   ·split
    ·exact h
    ·refine List.pairwise_cons.2 ⟨fun v hv=>?_,h⟩
     rcases List.mem_cons.1 hv with rfl | hv
     ·omega
     ·have:=h1 v hv
      omega
theorem insR_len (n:Int):∀ l:List Int,(insR n l).length≤l.length + 1
 | []=>by simp[insR]
 | a :: l => by
   have:=insR_len n l
   simp only[insR]
   split
   ·simp; omega
   ·split<;>simp
theorem insL_mem {n v:Int} {l:List Int}:v∈insL l n↔v=n∨v∈l:=by rw[insL_eq,insR_mem]
theorem insL_asc {n:Int} {l:List Int} (h:Asc l):Asc (insL l n):=by rw[insL_eq]; exact insR_asc n h
theorem insL_len (l:List Int) (n:Int):(insL l n).length≤l.length + 1:=by rw[insL_eq]; exact insR_len n l
theorem fold_mem {v:Int}:∀ {m l:List Int},v∈m.foldl insL l↔v∈l∨v∈m
 | [],l=>by simp
 | a :: m, l => by
   simp only[List.foldl_cons,fold_mem (m:=m),insL_mem,List.mem_cons]
   constructor
   ·rintro ((h | h) | h)
    ·exact .inr (.inl h)
    ·exact .inl h
    ·exact .inr (.inr h)
   ·rintro (h | h | h)
    ·exact .inl (.inr h)
    ·exact .inl (.inl h)
    ·exact .inr h
theorem fold_asc:∀ {m l:List Int},Asc l→Asc (m.foldl insL l)
 | [],_,h=>h
 | a :: m, l, h => by
   rw[List.foldl_cons]
   exact fold_asc (m:=m) (insL_asc h)
theorem fold_len:∀ (m l:List Int),(m.foldl insL l).length≤l.length + m.length
 | [],l=>by simp
 | a :: m, l => by
   have h1:=fold_len m (insL l a)
   have h2:=insL_len l a
   simp only[List.foldl_cons,List.length_cons]
   omega
theorem varsR_all:∀ e:Ex,(∀ v,v∈varsR e↔v∈occ e)∧Asc (varsR e)∧(varsR e).length≤e.nodes:=by
 intro e
 induction e using Ex.ind with
 | h e ih=>
 have hl:∀ (l:List Ex),(∀ x∈l,(∀ v,v∈varsR x↔v∈occ x)∧Asc (varsR x)∧(varsR x).length≤x.nodes)→∀ out:List Int,Asc out →
  (∀ v,v∈varsR.varsRs out l↔v∈out∨v∈occ.occs l)∧Asc (varsR.varsRs out l)∧(varsR.varsRs out l).length≤out.length + Ex.nodess l:=by
  intro l
  induction l with
  | nil=>intro _ out h; simp[varsR.varsRs,occ.occs,h]
  | cons a l ihl =>
    intro h out ho
    obtain⟨a1,a2,a3⟩:=h a (by simp)
    obtain⟨b1,b2,b3⟩:=ihl (fun x hx=>h x (by simp[hx])) ((varsR a).foldl insL out) (fold_asc ho)
    have b4:=fold_len (varsR a) out
    refine⟨fun v=>?_,b2,?_⟩
    ·simp only[varsR.varsRs,occ.occs,b1 v,fold_mem,a1 v,List.mem_append]
     exact or_assoc
    ·simp only[varsR.varsRs,Ex.nodess]
     omega
 have h0:Asc (if e.op=2 then [e.v] else []):=by split<;>simp[Asc]
 have h1:(if e.op=2 then [e.v] else []).length≤1:=by split<;>simp
 obtain⟨c1,c2,c3⟩:=hl e.l ih _ h0
 have hne:e.nodes=Ex.nodess e.l + 1:=by cases e; rfl
 rw[varsR_eq,occ_eq,hne]
 refine⟨fun v=>by rw[c1 v,List.mem_append],c2,by omega⟩
theorem varsR_mem {e:Ex} {v:Int}:v∈varsR e↔v∈occ e:=(varsR_all e).1 v
theorem varsR_asc (e:Ex):Asc (varsR e):=(varsR_all e).2.1
theorem varsR_len (e:Ex):(varsR e).length≤e.nodes:=(varsR_all e).2.2
theorem asc_ext:∀ {l m:List Int},Asc l→Asc m→(∀ v,v∈l↔v∈m)→l=m
 | [],[],_,_,_=>rfl
 | [],b::m,_,_,h=>absurd ((h b).2 (by simp)) (by simp)
 | a::l,[],_,_,h=>absurd ((h a).1 (by simp)) (by simp)
 | a :: l, b :: m, h1, h2, h => by
   obtain⟨p1,p2⟩:=List.pairwise_cons.1 h1
   obtain⟨q1,q2⟩:=List.pairwise_cons.1 h2
   have e1:a=b:=by
    have x:=(h a).1 (by simp)
    have y:=(h b).2 (by simp)
    rcases List.mem_cons.1 x with rfl | x
    ·rfl
    rcases List.mem_cons.1 y with rfl | y
    ·rfl
    have:=q1 a x
    have:=p1 b y
    omega
   subst e1
   rw[asc_ext p2 q2 fun v=>?_]
   constructor
   ·intro hv
    have:=p1 v hv
    rcases List.mem_cons.1 ((h v).1 (by simp[hv])) with rfl | hv
    ·omega
    ·exact hv
   ·intro hv
    have:=q1 v hv
    rcases List.mem_cons.1 ((h v).2 (by simp[hv])) with rfl | hv
    ·omega
    ·exact hv
theorem asc_last {l:List Int} {M:Int} (h:Asc l) (hM:l.getLast? = some M):M∈l∧∀ v∈l,v≤M:=by
 obtain⟨ys,rfl⟩:=List.getLast?_eq_some_iff.1 hM
 refine⟨by simp,fun v hv=>?_⟩
 rcases List.mem_append.1 hv with hv | hv
 ·have:=(List.pairwise_append.1 h).2.2 v hv M (by simp)
  omega
 ·simp at hv
  omega
theorem seeE_occ:∀ (e:Ex) (n:Int),seeE n e=(occ e).foldl seeI n:=by
 intro e
 induction e using Ex.ind with
 | h e ih=>
 obtain⟨o,k,w,wd,l⟩:=e
 intro n
 have hl:∀ l:List Ex,(∀ x∈l,∀ n:Int,seeE n x=(occ x).foldl seeI n)→∀ n:Int,seeE.seeEs n l=(occ.occs l).foldl seeI n:=by
  intro l
  induction l with
  | nil=>intro _ n; rfl
  | cons a l ihl=>intro h n; simp only[seeE.seeEs,occ.occs,List.foldl_append,h a (by simp),ihl fun x hx=>h x (by simp[hx])]
 simp only[seeE,occ,List.foldl_append,hl l ih]
 split<;>rfl
theorem seeI_max {n v:Int} (h:n≤65536):seeI n v=max n (min v 65535 + 1):=by
 unfold seeI
 split
 ·split<;>omega
 ·omega
theorem index_st_ac {f:Nat} {fs cs:List AV} {p:St→Bool} (A:AHeap) (l:List St) (hf:okF Tryz.prog f=true) (hp:∀ a∈l,∀ N,AC Tryz.prog f (fs++[stV a]++cs) (A++N) (Same0 A (aB (p a)))) :
 AC Tryz.prog 76 [.d (.sl 8 (sts l)),.fn f fs cs] A (Same0 A (aI .i64 (match l.findIdx? p with | some i=>(i:Int) | none=>-1))):=by
 refine ac_of Tryz.func76 rfl (by kernel_rfl) (by simp[Tryz.ntmps76]) fun hb=>?_
 have n1:l.length≤maxLen:=by simpa using hb.1.1
 clear hb
 obtain⟨R,hR⟩:∃ R:Int,(match l.findIdx? p with | some i=>(i:Int) | none=>-1)=R:=⟨_,rfl⟩
 rw[hR]
 simp[Tryz.f76]
 refine aLoop_of (α:=Nat) (fun i e A'=>i≤l.length∧(∃ N,A'=A++N)∧e 8=aI .i64 i∧e 7=aI .i64 l.length∧e 0 = .d (.sl 8 (sts l))∧e 1 = .fn f fs cs ∧
  ∀ (j:Nat) (a:St),j < i→l[j]? = some a→p a=false) (fun i=>l.length - i) 0 (Sub.refl _ _ _) ⟨by omega,⟨[],by simp⟩,by simp,by simp,by simp,by simp,by intro j a hj; omega⟩ ?_
 rintro i e A' ⟨hi,⟨N,rfl⟩,e8,e7,e0,e1,hall⟩ K hK
 simp[e8,e7]
 refine aCond_split (fun hlt=>?_) (fun hge=>?_)
 ·simp at hlt
  have hi1:=gEG hlt
  simp[e0,e1,e8,hi1,St.d_eq]
  refine aCall_ofc (hp l[i] (gMO hi1) N) hf ?_
  rintro _ _ ⟨rfl,N',rfl⟩
  simp
  refine aCond_split (fun ht=>?_) (fun hf=>?_)
  ·have:l.findIdx? p=some i:=by
    rw[List.findIdx?_eq_some_iff_getElem]
    exact⟨hlt,ht,fun j hj=>by simpa using hall j _ hj (gEG (by omega))⟩
   rw[this] at hR
   subst hR
   simp[Same0]
  ·simp[e8,succ_wrap hlt n1]
   refine hK (i + 1) _ _ _ _ (Sub.refl _ _ _) ⟨by omega,⟨N',rfl⟩,by simp,by simp[e7],by simp[e0],by simp[e1],fun j a hj ha=>?_⟩ (by omega)
   rcases Nat.lt_or_ge j i with h | h
   ·exact hall j a h ha
   ·obtain rfl:j=i:=by omega
    rw[hi1] at ha
    obtain rfl:=oSI ha
    exact hf
 ·simp at hge
  have:l.findIdx? p=none:=by
   rw[List.findIdx?_eq_none_iff]
   intro x hx
   obtain⟨j,hj⟩:=List.getElem?_of_mem hx
   exact hall j x (by have:=(gSI.1 hj).1; omega) hj
  rw[this] at hR
  subst hR
  simp[Same0]
theorem contains_st_ac {f:Nat} {fs cs:List AV} {p:St→Bool} (A:AHeap) (l:List St) (hf:okF Tryz.prog f=true) (hp:∀ a∈l,∀ N,AC Tryz.prog f (fs++[stV a]++cs) (A++N) (Same0 A (aB (p a)))) :
 AC Tryz.prog 29 [.d (.sl 8 (sts l)),.fn f fs cs] A (Same0 A (aB (l.any p))):=by
 refine ac_of Tryz.func29 rfl (by kernel_rfl) (by simp[Tryz.ntmps29]) fun hb=>?_
 simp[Tryz.f29]
 refine aCall_ofc (index_st_ac A l hf hp) (by simp) ?_
 rintro _ _ ⟨rfl,N,rfl⟩
 simp[Same0]
 cases h:l.findIdx? p with
 | none =>
   rw[List.findIdx?_eq_none_iff] at h
   simpa using h
 | some i =>
   rw[List.findIdx?_eq_some_iff_getElem] at h
   obtain⟨hi,hp,_⟩:=h
   simpa using ⟨_,List.getElem_mem hi,hp⟩
theorem index_in_ac {f:Nat} {fs cs:List AV} {p:Int→Bool} (A:AHeap) (l:List Int) (hf:okF Tryz.prog f=true) (hp:∀ a∈l,∀ N,AC Tryz.prog f (fs++[aI .i64 a]++cs) (A++N) (Same0 A (aB (p a)))) :
 AC Tryz.prog 120 [.d (.sl 1 (i64s l)),.fn f fs cs] A (Same0 A (aI .i64 (match l.findIdx? p with | some i=>(i:Int) | none=>-1))):=by
 refine ac_of Tryz.func120 rfl (by kernel_rfl) (by simp[Tryz.ntmps120]) fun hb=>?_
 have n1:l.length≤maxLen:=by simpa using hb.1.1
 clear hb
 obtain⟨R,hR⟩:∃ R:Int,(match l.findIdx? p with | some i=>(i:Int) | none=>-1)=R:=⟨_,rfl⟩
 rw[hR]
 simp[Tryz.f120]
 refine aLoop_of (α:=Nat) (fun i e A'=>i≤l.length∧(∃ N,A'=A++N)∧e 8=aI .i64 i∧e 7=aI .i64 l.length∧e 0 = .d (.sl 1 (i64s l))∧e 1 = .fn f fs cs ∧
  ∀ (j:Nat) (a:Int),j < i→l[j]? = some a→p a=false) (fun i=>l.length - i) 0 (Sub.refl _ _ _) ⟨by omega,⟨[],by simp⟩,by simp,by simp,by simp,by simp,by intro j a hj; omega⟩ ?_
 rintro i e A' ⟨hi,⟨N,rfl⟩,e8,e7,e0,e1,hall⟩ K hK
 simp[e8,e7]
 refine aCond_split (fun hlt=>?_) (fun hge=>?_)
 ·simp at hlt
  have hi1:=gEG hlt
  simp[e0,e1,e8,hi1]
  refine aCall_ofc (hp l[i] (gMO hi1) N) hf ?_
  rintro _ _ ⟨rfl,N',rfl⟩
  simp
  refine aCond_split (fun ht=>?_) (fun hf=>?_)
  ·have:l.findIdx? p=some i:=by
    rw[List.findIdx?_eq_some_iff_getElem]
    exact⟨hlt,ht,fun j hj=>by simpa using hall j _ hj (gEG (by omega))⟩
   rw[this] at hR
   subst hR
   simp[Same0]
  ·simp[e8,succ_wrap hlt n1]
   refine hK (i + 1) _ _ _ _ (Sub.refl _ _ _) ⟨by omega,⟨N',rfl⟩,by simp,by simp[e7],by simp[e0],by simp[e1],fun j a hj ha=>?_⟩ (by omega)
   rcases Nat.lt_or_ge j i with h | h
   ·exact hall j a h ha
   ·obtain rfl:j=i:=by omega
    rw[hi1] at ha
    obtain rfl:=oSI ha
    exact hf
 ·simp at hge
  have:l.findIdx? p=none:=by
   rw[List.findIdx?_eq_none_iff]
   intro x hx
   obtain⟨j,hj⟩:=List.getElem?_of_mem hx
   exact hall j x (by have:=(gSI.1 hj).1; omega) hj
  rw[this] at hR
  subst hR
  simp[Same0]
theorem contains_in_ac {f:Nat} {fs cs:List AV} {p:Int→Bool} (A:AHeap) (l:List Int) (hf:okF Tryz.prog f=true) (hp:∀ a∈l,∀ N,AC Tryz.prog f (fs++[aI .i64 a]++cs) (A++N) (Same0 A (aB (p a)))) :
 AC Tryz.prog 48 [.d (.sl 1 (i64s l)),.fn f fs cs] A (Same0 A (aB (l.any p))):=by
 refine ac_of Tryz.func48 rfl (by kernel_rfl) (by simp[Tryz.ntmps48]) fun hb=>?_
 simp[Tryz.f48]
 refine aCall_ofc (index_in_ac A l hf hp) (by simp) ?_
 rintro _ _ ⟨rfl,N,rfl⟩
 simp[Same0]
 cases h:l.findIdx? p with
 | none =>
   rw[List.findIdx?_eq_none_iff] at h
   simpa using h
 | some i =>
   rw[List.findIdx?_eq_some_iff_getElem] at h
   obtain⟨hi,hp,_⟩:=h
   simpa using ⟨_,List.getElem_mem hi,hp⟩
theorem clone_in_ac (A:AHeap) (xs:List (List D)) (hl:xs.length≤1000000000) :
 AC Tryz.prog 73 [.d (.sl 1 xs)] A fun r A'=>r = .own A.length 1 0 xs.length∧A'=A++[⟨1,true,3,1,dEls xs⟩]:=by
 refine AC.sub (R:=fun r A'=>(r = .own A.length 1 0 xs.length∧A'=A++[⟨1,true,3,1,dEls xs⟩])∨(r = .d (.v (.slice none 0 0))∧xs=[]∧A'=A)) (ac_of Tryz.func73 rfl (by kernel_rfl) (by simp[Tryz.ntmps73]) fun hb=>?_) ?_
 ·have hall:=bds_all hb.1.2
  clear hb
  simp[Tryz.f73]
  refine aRaw_app byt_48 ?_
  simp[hall]
  unfold maxLen
  omega
 ·rintro r A' (⟨rfl,rfl⟩ | ⟨rfl,rfl,rfl⟩)
  ·exact⟨_,_,Sub.refl _ _ _,rfl,rfl⟩
  ·refine⟨_,_,(Sub.ghost 1 3 1).trans (Sub.env (e':=fun _=>.own A'.length 1 0 0) fun i=>VLe.nil_own (k:=⟨1,true,3,1,[]⟩) (by simp) rfl),?_,?_⟩<;>simp
theorem ilterm_af (s:St):AF Tryz.prog 134 [stV s] (aB (termB s)):=by
 refine af_of Tryz.func134 rfl (by kernel_rfl) (by simp[Tryz.ntmps134]) fun _=>?_; simp[Tryz.f134,Ex.d_eq]
 by_cases h:6≤s.op<;>simp[h,termB]
theorem op_cases (op:Int):op=1∨op=2∨op=3∨op=4∨op=5∨op=6∨op=7∨op=8∨op=9∨op=10∨(¬ op=1∧¬ op=2∧¬ op=3∧¬ op=4∧¬ op=5∧¬ op=6∧¬ op=7∧¬ op=8∧¬ op=9∧¬ op=10):=by omega
theorem ilexprs_af (op:Int):AF Tryz.prog 136 [aI .i64 op] (aI .i64 (exprsN op)):=by
 refine af_of Tryz.func136 rfl (by kernel_rfl) (by simp[Tryz.ntmps136]) fun _=>?_
 rcases op_cases op with h | h | h | h | h | h | h | h | h | h | h<;>simp[Tryz.f136,exprsN,h]
theorem ilfields_af (s:St):AF Tryz.prog 137 [stV s] (aB (fieldsB s)):=by
 obtain⟨R,hR⟩:∃ R,fieldsB s=R:=⟨_,rfl⟩
 rw[hR]
 refine af_of Tryz.func137 rfl (by kernel_rfl) (by simp[Tryz.ntmps137]) fun _=>?_
 rcases op_cases s.op with h | h | h | h | h | h | h | h | h | h | h<;>simp[Tryz.f137,h]
 case inl | inr.inr.inl=>
  have c:=variable_af s.va
  cases hV:(decide (0≤s.va) && decide (s.va < 65536))<;>rw[hV] at c
  ·refine aCall_of c (by simp) (by simp[Ex.d_eq]) ?_; simp[Ex.d_eq]
   rw[← hR]; simp only[fieldsB,h,hV]; simp
  ·refine aCall_of c (by simp) (by simp[Ex.d_eq]) ?_; simp[Ex.d_eq]
   try simp[h]
   repeat' (refine aG_split (fun g=>?_) (fun g=>?_)<;>simp at g<;>simp[*])
   all_goals (rw[← hR]; simp only[fieldsB,h,hV]; simp[*])
 case inr.inl=>
  have c:=access_af s.wd
  cases hV:(decide (s.wd=1) || decide (s.wd=2) || decide (s.wd=4))<;>rw[hV] at c
  ·refine aCall_of c (by simp) (by simp[Ex.d_eq]) ?_; simp[Ex.d_eq]
   rw[← hR]; simp only[fieldsB,h]; simp at hV; simp[hV]
  ·refine aCall_of c (by simp) (by simp[Ex.d_eq]) ?_; simp[Ex.d_eq]
   try simp[h]
   repeat' (refine aG_split (fun g=>?_) (fun g=>?_)<;>simp at g<;>simp[*])
   all_goals (rw[← hR]; simp only[fieldsB,h]; simp at hV; simp[*])
 case inr.inr.inr.inr.inr.inr.inl=>
  refine adraw [(5,3)] (by kernel_rfl) (by kernel_rfl) (by kernel_rfl) (by kernel_rfl) ?_; simp[Ex.d_eq]
  try simp[h]
  repeat' (refine aG_split (fun g=>?_) (fun g=>?_)<;>simp at g<;>simp[*])
  all_goals (rw[← hR]; simp[fieldsB, *])
 case inr.inr.inr.inr.inr.inr.inr.inl=>
  by_cases g1:s.cs.length < 1
  ·have g2:¬ 1≤s.cs.length:=by omega
   have g3:s.cs=[]:=List.length_eq_zero_iff.1 (by omega)
   simp[g3]
   rw[← hR]; simp[fieldsB,h,g3]
  have g2:1≤s.cs.length:=by omega
  have g3:¬ (s.cs.length:Int) < 1:=by omega
  simp[g3]
  by_cases g4:s.cs.length≤64
  ·have g5:¬ (64:Int) < s.cs.length:=by omega
   simp[g5,h]
   repeat' (refine aG_split (fun g=>?_) (fun g=>?_)<;>simp at g<;>simp[*])
   all_goals (rw[← hR]; simp[fieldsB, *])
  ·have g5:(64:Int) < s.cs.length:=by omega
   simp[g5]
   rw[← hR]; simp[fieldsB,h,g4]
 all_goals
  repeat' (refine aG_split (fun g=>?_) (fun g=>?_)<;>simp at g<;>simp[*])
  all_goals (rw[← hR]; simp[fieldsB, *])
theorem exs_drop {l:List Ex} {i:Nat} {x:Ex} (h:l[i]? = some x):exsErr (l.drop i)=if exErr x=0 then exsErr (l.drop (i + 1)) else exErr x:=by
 obtain⟨hi,rfl⟩:=gSI.1 h
 rw[List.drop_eq_getElem_cons hi]
 rfl
theorem ilcheckst_af (s:St) (hl:s.e.length≤maxLen):AF Tryz.prog 62 [stV s] (aI .i64 (stErr s)):=by
 obtain⟨R,hR⟩:∃ R,stErr s=R:=⟨_,rfl⟩
 rw[hR]
 refine af_of Tryz.func62 rfl (by kernel_rfl) (by simp[Tryz.ntmps62]) fun _=>?_; simp[Tryz.f62,Ex.d_eq]
 refine aCall_of (ilexprs_af s.op) (by simp) (by simp[Ex.d_eq]) ?_; simp[Ex.d_eq]
 by_cases h1:exprsN s.op=s.e.length
 case neg=>
  have:R=2:=by rw[← hR,stErr,if_neg h1]
  subst this
  by_cases h2:exprsN s.op < 0
  ·simp[h2]
  ·simp[h2,h1]
 simp[h1,show ¬ (s.e.length:Int) < 0 by omega]
 refine aLoop_st (fun i:Nat=>[(1,.ptr 0 0 0 0),(20,.d (.sl 5 (Ex.ds s.e))),(21,aI .i64 s.e.length),(22,aI .i64 i)]) (fun _=>[⟨0,true,62,8,[s.d.map AV.d]⟩])
  (fun i=>i≤s.e.length∧exsErr (s.e.drop i)=exsErr s.e) (fun i=>s.e.length - i) 0 (Sub.refl _ _ _) 1 (by omega) (by simp[St.d_eq]) (by simp) ⟨by omega,by simp⟩ ?_
 rintro i ⟨hi,hx⟩ K hK
 rcases Nat.lt_or_ge i s.e.length with hlt | hge
 case inr=>
  obtain rfl:i=s.e.length:=by omega
  simp[exsErr] at hx
  simp[St.d_eq]
  refine aCall_of (ilfields_af s) (by simp) (by simp[Ex.d_eq]) ?_; simp[Ex.d_eq]
  rw[stErr,if_pos h1,if_pos hx.symm] at hR
  cases hf:fieldsB s<;>rw[hf] at hR<;>simp at hR<;>simp[hR]
 obtain⟨y,hy⟩:∃ y,s.e[i]? = some y:=⟨_,gEG hlt⟩
 have hy2:=(gSI.1 hy).2
 rw[exs_drop hy] at hx
 simp[hlt,hy,hy2,Ex.d_eq]
 refine aCall_of (check_af y) (by simp) (by simp[Ex.d_eq]) ?_; simp[Ex.d_eq]
 rw[show (if shalB 64 y=true then (if formB y=true then (0:Int) else 2) else 20)=exErr y from rfl]
 by_cases h0:exErr y=0
 ·rw[if_pos h0] at hx
  simp[h0,succ_wrap hlt hl]
  exact hK (i + 1) ⟨by omega,hx⟩ (by omega) (Sub.refl _ _ _) 1 (by omega) (by simp[St.d_eq]) (by simp)
 ·rw[if_neg h0] at hx
  have:R=exErr y:=by rw[← hR,stErr,if_pos h1,if_neg (by rw[← hx]; exact h0),hx]
  subst this
  simp[h0]
abbrev gB (g:Gr):Blk:=⟨0,true,25,2,[[aI .u32 g.ad,.d (.sl 2 (bls' g.b))]]⟩
abbrev bB (b:Bl):Blk:=⟨0,true,52,2,[[aI .u32 b.ad,.d (.sl 8 (sts b.s))]]⟩
theorem last_get {α:Type} {l:List α} {n:Nat} (h:l.length=n + 1):∃ s,l[n]? = some s∧l.getLast? = some s:=by
 refine⟨l[n],gEG (by omega),?_⟩
 rw[List.getLast?_eq_getElem?,show l.length - 1=n by omega]
 exact gEG (by omega)
theorem ilsucc_af (b:Bl) (hl:b.s.length≤maxLen) (hc:∀ s∈b.s,s.cs.length≤1000000000):AF Tryz.prog 106 [blV b] (.d (.sl 1 (i64s (succL b)))):=by
 obtain⟨R,hR⟩:∃ R,succL b=R:=⟨_,rfl⟩
 rw[hR]
 refine af_of Tryz.func106 rfl (by kernel_rfl) (by simp[Tryz.ntmps106]) fun _=>?_; simp[Tryz.f106,Ex.d_eq]
 cases hn:b.s.length with
 | zero =>
   have:b.s=[]:=List.length_eq_zero_iff.1 hn
   rw[succL,this] at hR
   simp at hR
   subst hR
   simp[this]
 | succ n =>
   obtain⟨s,hs,hs2⟩:=last_get hn
   have hs3:=(gSI.1 hs).2
   have hne:¬ b.s=[]:=fun h=>by rw[h] at hn; simp at hn
   unfold maxLen at hl
   rw[succL,hs2] at hR
   simp only[tgts] at hR
   simp[hn,hne,show ¬ (n:Int) + 1=0 by omega,i64w (n:=(n:Int)) (by omega),hs,hs3,St.d_eq]
   rcases op_cases s.op with h | h | h | h | h | h | h | h | h | h | h<;>simp[h] at hR<;>subst hR<;>simp[h]
   refine aCall_ofc (clone_in_ac _ (i64s s.cs) (by simpa using hc s (gMO hs))) (by simp) ?_
   rintro _ _ ⟨rfl,rfl⟩
   simp
theorem shaped1_ac (g:Gr) (b0:Blk) (hl:g.b.length≤maxLen) (k:Int) (N:AHeap):AC Tryz.prog 135 [aI .i64 k,.ptr 0 0 0 0] ([gB g,b0]++N) (Same0 [gB g,b0] (aB (decide (k < 0) || decide ((g.b.length:Int)≤k)))):=by
 refine ac_of Tryz.func135 rfl (by kernel_rfl) (by simp[Tryz.ntmps135]) fun hb=>?_
 by_cases h:k < 0<;>simp[Tryz.f135,h,Same0]
def GrFit (g:Gr):Prop:=g.b.length≤1000000∧∀ b∈g.b,b.s.length≤1000000∧∀ s∈b.s,s.e.length≤1000000∧s.cs.length≤2000000
theorem all_drop {α:Type} {p:α→Bool} {l:List α} {i:Nat} {x:α} (h:l[i]? = some x):(l.drop i).all p=(p x && (l.drop (i + 1)).all p):=by
 obtain⟨hi,rfl⟩:=gSI.1 h
 rw[List.drop_eq_getElem_cons hi,List.all_cons]
theorem ilshaped_af (g:Gr) (hg:GrFit g):AF Tryz.prog 61 [grV g] (aB (!decide (g.b.length=0) && g.b.all (closedB g.b.length))):=by
 have hl:g.b.length≤maxLen:=by have:=hg.1; unfold maxLen; omega
 obtain⟨R,hR⟩:∃ R,(!decide (g.b.length=0) && g.b.all (closedB g.b.length))=R:=⟨_,rfl⟩
 rw[hR]
 refine af_of Tryz.func61 rfl (by kernel_rfl) (by simp[Tryz.ntmps61]) fun _=>?_; simp[Tryz.f61,Ex.d_eq]
 by_cases h0:g.b=[]
 ·rw[h0] at hR ⊢
  simp at hR
  subst hR
  simp
 have h0':¬ g.b.length=0:=fun h=>h0 (List.length_eq_zero_iff.1 h)
 simp[h0'] at hR
 simp[h0,h0']
 refine aLoop_st (fun i:Nat=>[(1,.ptr 0 0 0 0),(11,.d (.sl 2 (bls' g.b))),(12,aI .i64 g.b.length),(13,aI .i64 i)]) (fun _=>[gB g])
  (fun i=>i≤g.b.length∧(g.b.drop i).all (closedB g.b.length)=R) (fun i=>g.b.length - i) 0 (Sub.refl _ _ _) 1 (by omega) (by simp) (by simp) ⟨by omega,by simpa using hR⟩ ?_
 rintro i ⟨hi,hx⟩ K hK
 rcases Nat.lt_or_ge i g.b.length with hlt | hge
 case inr=>
  obtain rfl:i=g.b.length:=by omega
  simp at hx
  subst hx
  simp
 obtain⟨b,hb⟩:∃ b,g.b[i]? = some b:=⟨_,gEG hlt⟩
 have hb2:=(gSI.1 hb).2
 obtain⟨f1,f2⟩:=hg.2 b (gMO hb)
 have hbl:b.s.length≤maxLen:=by unfold maxLen; omega
 rw[all_drop hb] at hx
 simp[hlt,hb,hb2,Bl.d_eq]
 cases hn:b.s.length with
 | zero =>
   have hne:b.s=[]:=List.length_eq_zero_iff.1 hn
   have:closedB g.b.length b=false:=by
    rw[closedB,hne]
    rfl
   rw[this] at hx
   simp at hx
   subst hx
   simp[hne]
 | succ n =>
   obtain⟨s,hs,hs2⟩:=last_get hn
   have hs3:=(gSI.1 hs).2
   have hcl:closedB g.b.length b=(termB s && !(b.s.take n).any termB && !(succL b).any fun k=>decide (k < 0) || decide ((g.b.length:Int)≤k)):=by
    rw[closedB,succL,hs2,hn]
    rfl
   rw[hcl] at hx
   have hnn:¬ (n:Int) + 1=0:=by omega
   have hne:¬ b.s=[]:=fun h=>by rw[h] at hn; simp at hn
   have hw:=i64w (n:=(n:Int)) (by omega)
   simp[hnn,hne,hw,hs,hs3,St.d_eq,hn]
   have ct:=ilterm_af s
   cases ht:termB s
   ·rw[ht] at hx ct
    simp at hx
    subst hx
    refine aCall_of ct (by simp) (by simp[Ex.d_eq]) ?_; simp[Ex.d_eq]
   rw[ht] at ct hx
   refine aCall_of ct (by simp) (by simp[Ex.d_eq]) ?_; simp[Ex.d_eq]
   simp[hnn,hw,hn,show (n:Int)≤(n:Int) + 1 by omega]
   refine aCall_ofc (contains_st_ac (f:=134) (fs:=[]) (cs:=[]) (p:=termB) [gB g,bB b] (b.s.take n) (by simp) fun a _ N=>(AF.ac (A:=[gB g,bB b]++N) (ilterm_af a) (by simp)).mono fun r A' h=>⟨h.1,N,h.2⟩).drop (by simp) ?_
   rintro _ _ ⟨rfl,rfl⟩
   simp
   cases ha:(b.s.take n).any termB<;>rw[ha] at hx
   ·simp at hx
    simp
    refine aCall_of (ilsucc_af b hbl fun s hs=>by have:=(f2 s hs).2; omega) (by simp) (by simp[Ex.d_eq]) ?_; simp[Ex.d_eq]
    refine aCall_ofc (contains_in_ac (f:=135) (fs:=[]) (cs:=[.ptr 0 0 0 0]) (p:=fun k=>decide (k < 0) || decide ((g.b.length:Int)≤k)) [gB g,bB b] (succL b) (by simp) fun a _ N=>shaped1_ac g (bB b) hl a N).drop (by simp) ?_
    rintro _ _ ⟨rfl,rfl⟩
    simp
    cases hk:(succL b).any fun k=>decide (k < 0) || decide ((g.b.length:Int)≤k)
    ·rw[hk] at hx
     simp at hx
     simp[succ_wrap hlt hl]
     exact hK (i + 1) ⟨by omega,by simpa using hx⟩ (by omega) (Sub.refl _ _ _) 1 (by omega) (by simp) (by simp)
    ·rw[hk] at hx
     simp at hx
     subst hx
     simp
   ·simp at hx
    subst hx
    simp
theorem stN_app:∀ (l m:List Bl),stN (l++m)=stN l + stN m
 | [],m=>by simp[stN]
 | b::l,m=>by simp only[List.cons_append,stN,stN_app l m]; omega
theorem stN_take {l:List Bl} {i:Nat} {b:Bl} (h:l[i]? = some b):stN (l.take (i + 1))=stN (l.take i) + b.s.length:=by
 rw[List.take_add_one,h,stN_app]
 simp[stN]
theorem stN_le:∀ {l:List Bl},(∀ b∈l,b.s.length≤1000000)→stN l≤1000000 * l.length
 | [],_=>by simp[stN]
 | b :: l, h => by
   have h1:=stN_le fun x hx=>h x (List.mem_cons_of_mem b hx)
   have h2:=h b (List.mem_cons_self ..)
   simp only[stN,List.length_cons]
   omega
theorem bls_drop {l:List Bl} {i:Nat} {x:Bl} (h:l[i]? = some x):blsErr (l.drop i)=if stsErr x.s=0 then blsErr (l.drop (i + 1)) else stsErr x.s:=by
 obtain⟨hi,rfl⟩:=gSI.1 h
 rw[List.drop_eq_getElem_cons hi]
 rfl
theorem sts_drop {l:List St} {i:Nat} {x:St} (h:l[i]? = some x):stsErr (l.drop i)=if stErr x=0 then stsErr (l.drop (i + 1)) else stErr x:=by
 obtain⟨hi,rfl⟩:=gSI.1 h
 rw[List.drop_eq_getElem_cons hi]
 rfl
theorem ilcheckg_af (g:Gr) (hg:GrFit g):AF Tryz.prog 25 [grV g] (aI .i64 (grErr g)):=by
 have hl:g.b.length≤maxLen:=by have:=hg.1; unfold maxLen; omega
 have hN:∀ i,stN (g.b.take i)≤1000000000000:=fun i=>by
  have h1:=stN_le (l:=g.b.take i) fun b hb=>(hg.2 b (List.mem_of_mem_take hb)).1
  have h2:=hg.1
  have h3:(g.b.take i).length≤g.b.length:=by simp; omega
  have:=Nat.mul_le_mul_left 1000000 (Nat.le_trans h3 h2)
  omega
 obtain⟨R,hR⟩:∃ R,grErr g=R:=⟨_,rfl⟩
 rw[hR]
 refine af_of Tryz.func25 rfl (by kernel_rfl) (by simp[Tryz.ntmps25]) fun _=>?_; simp[Tryz.f25,Ex.d_eq]
 refine aLoop_st (fun i:Nat=>[(1,.ptr 0 0 0 0),(12,.d (.sl 2 (bls' g.b))),(13,aI .i64 g.b.length),(14,aI .i64 i),(3,aI .i64 (stN (g.b.take i)))]) (fun _=>[gB g])
  (fun i=>i≤g.b.length) (fun i=>g.b.length - i) 0 (Sub.refl _ _ _) 1 (by omega) (by simp) (by simp[stN]) (by omega) ?_
 rintro i hi K hK
 rcases Nat.lt_or_ge i g.b.length with hlt | hge
 case inl=>
  obtain⟨b,hb⟩:∃ b,g.b[i]? = some b:=⟨_,gEG hlt⟩
  have hb2:=(gSI.1 hb).2
  have hs:=stN_take hb
  have h1:=hN (i + 1)
  simp[hlt,hb,hb2,Bl.d_eq,succ_wrap hlt hl,i64w (n:=(stN (g.b.take i):Int) + b.s.length) (by omega)]
  exact hK (i + 1) (by omega) (by omega) (Sub.refl _ _ _) 1 (by omega) (by simp) (by simp[hs])
 obtain rfl:i=g.b.length:=by omega
 rw[List.take_length]
 rw[grErr] at hR
 simp
 by_cases h1:256 < g.b.length
 ·rw[if_pos (.inl h1)] at hR
  simp[show (256:Int) < g.b.length by omega,hR]
 simp[show ¬ (256:Int) < g.b.length by omega]
 by_cases h2:1024 < stN g.b
 ·rw[if_pos (.inr h2)] at hR
  simp[show (1024:Int) < stN g.b by omega,hR]
 simp[show ¬ (1024:Int) < stN g.b by omega]
 rw[if_neg (by omega)] at hR
 have c:=ilshaped_af g hg
 cases h3:(!decide (g.b.length=0) && g.b.all (closedB g.b.length))<;>rw[h3] at c
 ·rw[if_pos (by simp at h3; by_cases h0:g.b.length=0; exact .inl h0; right; simpa using h3 (fun h=>h0 (by rw[h]; rfl)))] at hR
  subst hR
  refine aCall_of c (by simp) (by simp[Ex.d_eq]) ?_; simp[Ex.d_eq]
 rw[if_neg (by simp at h3; rintro (h | h); exact h3.1 (List.length_eq_zero_iff.1 h); rw[List.all_eq_false] at h; obtain⟨x,hx,hx2⟩:=h; exact hx2 (h3.2 x hx))] at hR
 refine aCall_of c (by simp) (by simp[Ex.d_eq]) ?_; simp[Ex.d_eq]
 clear hK K c
 refine aLoop_st (fun i:Nat=>[(1,.ptr 0 0 0 0),(36,.d (.sl 2 (bls' g.b))),(37,aI .i64 g.b.length),(38,aI .i64 i)]) (fun _=>[gB g])
  (fun i=>i≤g.b.length∧blsErr (g.b.drop i)=R) (fun i=>g.b.length - i) 0 (Sub.refl _ _ _) 1 (by omega) (by simp) (by simp) ⟨by omega,by simpa using hR⟩ ?_
 rintro i ⟨hi,hx⟩ K hK
 rcases Nat.lt_or_ge i g.b.length with hlt | hge
 case inr=>
  obtain rfl:i=g.b.length:=by omega
  simp[blsErr] at hx
  simp[hx]
 obtain⟨b,hb⟩:∃ b,g.b[i]? = some b:=⟨_,gEG hlt⟩
 have hb2:=(gSI.1 hb).2
 obtain⟨f1,f2⟩:=hg.2 b (gMO hb)
 have hbl:b.s.length≤maxLen:=by unfold maxLen; omega
 rw[bls_drop hb] at hx
 simp[hlt,hb,hb2,Bl.d_eq]
 refine aLoop_st (fun k:Nat=>[(1,.ptr 0 0 0 0),(36,.d (.sl 2 (bls' g.b))),(37,aI .i64 g.b.length),(38,aI .i64 i),(43,.d (.sl 8 (sts b.s))),(44,aI .i64 b.s.length),(45,aI .i64 k)]) (fun _=>[gB g])
  (fun k=>k≤b.s.length∧stsErr (b.s.drop k)=stsErr b.s) (fun k=>b.s.length - k) 0 (Sub.refl _ _ _) 1 (by omega) (by simp) (by simp) ⟨by omega,by simp⟩ ?_
 rintro k ⟨hk,hy⟩ K2 hK2
 rcases Nat.lt_or_ge k b.s.length with hlt2 | hge2
 case inr=>
  obtain rfl:k=b.s.length:=by omega
  simp[stsErr] at hy
  rw[if_pos hy.symm] at hx
  simp[succ_wrap hlt hl]
  exact hK (i + 1) ⟨by omega,hx⟩ (by omega) (Sub.refl _ _ _) 1 (by omega) (by simp) (by simp)
 obtain⟨s,hs⟩:∃ s,b.s[k]? = some s:=⟨_,gEG hlt2⟩
 have hs2:=(gSI.1 hs).2
 have f3:=(f2 s (gMO hs)).1
 rw[sts_drop hs] at hy
 simp[hlt2,hs,hs2,St.d_eq]
 refine aCall_of (ilcheckst_af s (by unfold maxLen; omega)) (by simp) (by simp[Ex.d_eq]) ?_; simp[Ex.d_eq]
 by_cases h0:stErr s=0
 ·rw[if_pos h0] at hy
  simp[h0,succ_wrap hlt2 hbl]
  exact hK2 (k + 1) ⟨by omega,hy⟩ (by omega) (Sub.refl _ _ _) 1 (by omega) (by simp) (by simp)
 ·rw[if_neg h0] at hy
  rw[if_neg (by rw[← hy]; exact h0),← hy] at hx
  subst hx
  simp[h0]
def R32 (x:Int):Prop:=0≤x∧x < 4294967296
inductive OkN:Ex→Prop where
 | mk {e:Ex}:R32 e.n→(∀ x∈e.l,OkN x)→OkN e
theorem OkN.n {e:Ex} (h:OkN e):R32 e.n:=by cases h; assumption
theorem OkN.l {e:Ex} (h:OkN e):∀ x∈e.l,OkN x:=by cases h; assumption
section
variable (V:List Int) (L:Int→Int→Int×Int)
end
theorem r19ends_af (s:St):AF Tryz.prog 98 [stV s] (aB (termB s)):=by
 refine af_of Tryz.func98 rfl (by kernel_rfl) (by simp[Tryz.ntmps98]) fun _=>?_; simp[Tryz.f98,Ex.d_eq]
 by_cases h:6≤s.op<;>simp[h,termB]
theorem r19exprs_af (op:Int) (h1:1≤op) (h2:op≤10):AF Tryz.prog 100 [aI .i64 op] (aI .i64 (exprsN op)):=by
 refine af_of Tryz.func100 rfl (by kernel_rfl) (by simp[Tryz.ntmps100]) fun _=>?_
 rcases op_cases op with h | h | h | h | h | h | h | h | h | h | h<;>first | omega | simp[Tryz.f100,exprsN,h]
def unusedB (s:St):Bool:=
 (s.op == 1 || s.op == 3 || s.va == 0) && (s.op == 2 || s.wd == 0) && (s.op == 6 || s.op == 7 || s.nx == 0) && (s.op == 7 || s.el == 0) && (s.op == 5 || s.tg == 0) && (s.op == 8 || decide (s.cs=[]))
set_option maxHeartbeats 1000000 in
theorem r19unused_af (s:St):AF Tryz.prog 102 [stV s] (aB (unusedB s)):=by
 obtain⟨R,hR⟩:∃ R,unusedB s=R:=⟨_,rfl⟩
 rw[hR]
 refine af_of Tryz.func102 rfl (by kernel_rfl) (by simp[Tryz.ntmps102]) fun _=>?_
 rcases op_cases s.op with h | h | h | h | h | h | h | h | h | h | h<;>simp[Tryz.f102,h]
 all_goals
  repeat' (refine aG_split (fun g=>?_) (fun g=>?_)<;>simp at g<;>simp[*])
  all_goals (rw[← hR]; simp[unusedB, *])
theorem fields_ref (s:St):fieldsB s=(unusedB s && (decide (0≤s.va) && decide (s.va < 65536)) && !(decide (s.op=2) && !decide (s.wd=1) && !decide (s.wd=2) && !decide (s.wd=4)) && !(decide (s.op=8) && (decide (s.cs.length < 1) || decide (64 < s.cs.length)))):=by
 rw[Bool.eq_iff_iff]
 rcases op_cases s.op with h | h | h | h | h | h | h | h | h | h | h<;>simp[fieldsB,unusedB,h]<;>simp only[← List.length_eq_zero_iff]<;>omega
theorem r19checkst_af (s:St) (hl:s.e.length≤maxLen):AF Tryz.prog 40 [stV s] (aI .i64 (stErr s)):=by
 obtain⟨R,hR⟩:∃ R,stErr s=R:=⟨_,rfl⟩
 rw[hR]
 refine af_of Tryz.func40 rfl (by kernel_rfl) (by simp[Tryz.ntmps40]) fun _=>?_; simp[Tryz.f40,Ex.d_eq]
 by_cases h1:s.op < 1
 ·have:exprsN s.op = -1:=by unfold exprsN; rw[if_neg (by omega),if_neg (by omega),if_neg (by omega)]
  rw[stErr,if_neg (by rw[this]; omega)] at hR
  subst hR
  refine adraw [] (by kernel_rfl) (by kernel_rfl) (by kernel_rfl) (by kernel_rfl) ?_; simp[Ex.d_eq]
  simp[h1]
 by_cases h2:10 < s.op
 ·have:exprsN s.op = -1:=by unfold exprsN; rw[if_neg (by omega),if_neg (by omega),if_neg (by omega)]
  rw[stErr,if_neg (by rw[this]; omega)] at hR
  subst hR
  refine adraw [] (by kernel_rfl) (by kernel_rfl) (by kernel_rfl) (by kernel_rfl) ?_; simp[Ex.d_eq]
  simp[h1,h2]
 refine adraw [] (by kernel_rfl) (by kernel_rfl) (by kernel_rfl) (by kernel_rfl) ?_; simp[Ex.d_eq]
 simp[h1,h2]
 refine adC_of (r19exprs_af s.op (by omega) (by omega)) (by simp) trivial (by simp) (by simp[Ex.d_eq]) ?_; simp[Ex.d_eq]
 by_cases h3:exprsN s.op=s.e.length
 case neg=>
  rw[stErr,if_neg h3] at hR
  subst hR
  simp[show ¬ (s.e.length:Int)=exprsN s.op from fun h=>h3 h.symm]
 simp[h3]
 refine aLoop_st (fun i:Nat=>[(1,.ptr 0 0 0 0),(3,aI .i64 i)]) (fun _=>[⟨0,true,62,8,[s.d.map AV.d]⟩])
  (fun i=>i≤s.e.length∧exsErr (s.e.drop i)=exsErr s.e) (fun i=>s.e.length - i) 0 (Sub.refl _ _ _) 1 (by omega) (by simp[St.d_eq]) (by simp) ⟨by omega,by simp⟩ ?_
 rintro i ⟨hi,hx⟩ K hK
 rcases Nat.lt_or_ge i s.e.length with hlt | hge
 case inr=>
  obtain rfl:i=s.e.length:=by omega
  simp[exsErr] at hx
  rw[stErr,if_pos h3,if_pos hx.symm,fields_ref] at hR
  simp[St.d_eq]
  have c1:=r19unused_af s
  cases hU:unusedB s<;>rw[hU] at c1 hR
  ·simp at hR
   subst hR
   refine aCall_of c1 (by simp) (by simp[Ex.d_eq]) ?_; simp[Ex.d_eq]
  refine aCall_of c1 (by simp) (by simp[Ex.d_eq]) ?_; simp[Ex.d_eq]
  have c2:=risvar_af s.va
  cases hV:(decide (0≤s.va) && decide (s.va < 65536))<;>rw[hV] at c2 hR
  ·simp at hR
   subst hR
   refine aCall_of c2 (by simp) (by simp[Ex.d_eq]) ?_; simp[Ex.d_eq]
  refine aCall_of c2 (by simp) (by simp[Ex.d_eq]) ?_; simp[Ex.d_eq]
  by_cases h2:s.op=2
  ·by_cases w1:s.wd=1
   ·simp[h2,w1] at hR
    subst hR
    simp[h2,w1,St.d_eq]
   by_cases w2:s.wd=2
   ·simp[h2,w2] at hR
    subst hR
    simp[h2,w2,St.d_eq]
   by_cases w4:s.wd=4
   ·simp[h2,w4] at hR
    subst hR
    simp[h2,w4,St.d_eq]
   simp[h2,w1,w2,w4] at hR
   subst hR
   simp[h2,w1,w2,w4,St.d_eq]
  ·by_cases h8:s.op=8
   ·by_cases g1:s.cs.length < 1
    ·have g2:s.cs=[]:=List.length_eq_zero_iff.1 (by omega)
     simp[h8,g2] at hR
     subst hR
     simp[h2,h8,g2,St.d_eq]
    ·have g2:¬ (s.cs.length:Int) < 1:=by omega
     have g4:¬ s.cs=[]:=fun h=>by rw[h] at g1; simp at g1
     by_cases g3:64 < s.cs.length
     ·have g5:(64:Int) < s.cs.length:=by omega
      simp[h8,g3] at hR
      subst hR
      simp[h2,h8,g2,g5,St.d_eq]
     ·have g5:¬ (64:Int) < s.cs.length:=by omega
      simp[h8,g1,g3,g4] at hR
      subst hR
      simp[h2,h8,g2,g5,St.d_eq]
   ·simp[h2,h8] at hR
    subst hR
    simp[h2,h8,St.d_eq]
 obtain⟨y,hy⟩:∃ y,s.e[i]? = some y:=⟨_,gEG hlt⟩
 have hy2:=(gSI.1 hy).2
 rw[exs_drop hy] at hx
 simp[hlt,hy,hy2,Ex.d_eq,St.d_eq]
 refine aCall_of (rcheck_af y) (by simp) (by simp[Ex.d_eq]) ?_; simp[Ex.d_eq]
 rw[show (if shalB 64 y=true then (if formB y=true then (0:Int) else 2) else 20)=exErr y from rfl]
 by_cases h0:exErr y=0
 ·rw[if_pos h0] at hx
  simp[h0,succ_wrap hlt hl]
  exact hK (i + 1) ⟨by omega,hx⟩ (by omega) (Sub.refl _ _ _) 1 (by omega) (by simp[St.d_eq]) (by simp)
 ·rw[if_neg h0] at hx
  have:R=exErr y:=by rw[← hR,stErr,if_pos h3,if_neg (by rw[← hx]; exact h0),hx]
  subst this
  simp[h0]
theorem r19targets_af (s:St):AF Tryz.prog 99 [stV s] (.d (.sl 1 (i64s (tgts s)))):=by
 refine af_of Tryz.func99 rfl (by kernel_rfl) (by simp[Tryz.ntmps99]) fun _=>?_
 rcases op_cases s.op with h | h | h | h | h | h | h | h | h | h | h<;>simp[Tryz.f99,tgts,h]
theorem any_drop {α:Type} {p:α→Bool} {l:List α} {i:Nat} {x:α} (h:l[i]? = some x):(l.drop i).any p=(p x || (l.drop (i + 1)).any p):=by
 obtain⟨hi,rfl⟩:=gSI.1 h
 rw[List.drop_eq_getElem_cons hi,List.any_cons]
theorem closed_ends {l:List St} {n:Nat} {s:St} (hn:l.length=n + 1) (hs:l[n]? = some s):(termB s && !(l.take n).any termB)=true↔∀ (i:Nat) (x:St),l[i]? = some x→termB x=decide (i=n):=by
 constructor
 ·intro h i x hx
  simp at h
  have hi:=(gSI.1 hx).1
  by_cases hin:i=n
  ·subst hin
   rw[hs] at hx
   obtain rfl:=oSI hx
   simp[h.1]
  ·have:x∈l.take n:=gMO (i:=i) (by rw[List.getElem?_take,if_pos (by omega)]; exact hx)
   simpa [hin] using h.2 x this
 ·intro h
  simp
  refine⟨by simpa using h n s hs,fun x hx=>?_⟩
  obtain⟨i,hi⟩:=List.getElem?_of_mem hx
  rw[List.getElem?_take] at hi
  split at hi
  ·simpa [show i≠n by omega] using h i x hi
  ·cases hi
theorem r19closed_af (b:Bl) (n:Nat) (hl:b.s.length≤1000000) (hn:n≤1000000) (hc:∀ s∈b.s,s.cs.length≤2000000):AF Tryz.prog 39 [blV b,aI .i64 n] (aB (closedB n b)):=by
 have hbl:b.s.length≤maxLen:=by unfold maxLen; omega
 obtain⟨R,hR⟩:∃ R,closedB n b=R:=⟨_,rfl⟩
 rw[hR]
 refine af_of Tryz.func39 rfl (by kernel_rfl) (by simp[Tryz.ntmps39]) fun _=>?_; simp[Tryz.f39,Ex.d_eq]
 cases hm:b.s.length with
 | zero =>
   have hne:b.s=[]:=List.length_eq_zero_iff.1 hm
   rw[closedB,hne] at hR
   simp at hR
   subst hR
   simp[hne]
 | succ m =>
   obtain⟨s,hs,hs2⟩:=last_get hm
   have hs3:=(gSI.1 hs).2
   have hne:¬ b.s=[]:=fun h=>by rw[h] at hm; simp at hm
   have hcl:closedB n b=((termB s && !(b.s.take m).any termB) && !(tgts s).any fun k=>decide (k < 0) || decide ((n:Int)≤k)):=by
    rw[closedB,hs2,hm]
    rfl
   have hends:=closed_ends hm hs
   have hw:=i64w (n:=(m:Int)) (by omega)
   simp[hne]
   refine aLoop_st (fun i:Nat=>[(2,.ptr 0 0 0 0),(5,aI .i64 i),(1,aI .i64 n)]) (fun _=>[bB b])
    (fun i=>i≤b.s.length∧∀ (j:Nat) (x:St),j < i→b.s[j]? = some x→termB x=decide (j=m)) (fun i=>b.s.length - i) 0 (Sub.refl _ _ _) 1 (by omega) (by simp) (by simp) ⟨by omega,by intro j x hj; omega⟩ ?_
   rintro i ⟨hi,hx⟩ K hK
   rcases Nat.lt_or_ge i b.s.length with hlt | hge
   case inl=>
    obtain⟨y,hy⟩:∃ y,b.s[i]? = some y:=⟨_,gEG hlt⟩
    have hy2:=(gSI.1 hy).2
    simp[hlt]
    refine adraw [] (by kernel_rfl) (by kernel_rfl) (by kernel_rfl) (by kernel_rfl) ?_; simp[Ex.d_eq]
    simp[hlt,hy,hy2,St.d_eq]
    refine adC_of (r19ends_af y) (by simp) trivial (by simp) (by simp[Ex.d_eq]) ?_; simp[Ex.d_eq]
    simp[hm,hw]
    by_cases ht:termB y=decide (i=m)
    ·have ht2:termB y=decide ((i:Int)=m):=by rw[ht,Bool.eq_iff_iff]; simp; omega
     simp[ht2,succ_wrap hlt hbl]
     refine hK (i + 1) ⟨by omega,fun j x hj hjx=>?_⟩ (by omega) (Sub.refl _ _ _) 1 (by omega) (by simp) (by simp)
     rcases Nat.lt_or_ge j i with h | h
     ·exact hx j x h hjx
     ·obtain rfl:j=i:=by omega
      rw[hy] at hjx
      obtain rfl:=oSI hjx
      exact ht
    ·have ht2:¬ termB y=decide ((i:Int)=m):=fun h=>ht (by rw[h,Bool.eq_iff_iff]; simp; omega)
     have:R=false:=by
      rw[← hR,hcl]
      cases h:(termB s && !(b.s.take m).any termB)
      ·rfl
      ·exact absurd (hends.1 h i y hy) ht
     subst this
     cases hty:termB y<;>by_cases him:(i:Int)=m<;>simp[hty,him] at ht2 ⊢
   obtain rfl:i=b.s.length:=by omega
   rw[hcl,hends.2 fun j x hj=>hx j x (gSI.1 hj).1 hj,Bool.true_and] at hR
   have hts:(tgts s).length≤2000000:=by
    have:=hc s (gMO hs)
    unfold tgts
    split<;>(try split)<;>(try split)<;>simp<;>omega
   simp[hm,hw,hs,hs3,St.d_eq]
   refine aCall_of (r19targets_af s) (by simp) (by simp[Ex.d_eq]) ?_; simp[Ex.d_eq]
   generalize tgts s=T at *
   clear hK hx K hcl
   refine aLoop_st (fun i:Nat=>[(6,.d (.sl 1 (i64s T))),(7,aI .i64 i),(1,aI .i64 n)]) (fun _=>[])
    (fun i=>i≤T.length∧(!(T.drop i).any fun k=>decide (k < 0) || decide ((n:Int)≤k))=R) (fun i=>T.length - i) 0 (Sub.refl _ _ _) 0 (by omega) (by simp) (by simp) ⟨by omega,by simpa using hR⟩ ?_
   rintro i ⟨hi,hx⟩ K hK
   rcases Nat.lt_or_ge i T.length with hlt | hge
   case inr=>
    obtain rfl:i=T.length:=by omega
    simp at hx
    subst hx
    simp
   obtain⟨k,hk⟩:∃ k,T[i]? = some k:=⟨_,gEG hlt⟩
   have hk2:=(gSI.1 hk).2
   rw[any_drop hk] at hx
   by_cases h1:k < 0
   ·simp[h1] at hx
    subst hx
    simp[hlt,hk,hk2,h1]
   by_cases h2:(n:Int)≤k
   ·simp[h2] at hx
    subst hx
    simp[hlt,hk,hk2,h1,h2]
   simp[h1,h2] at hx
   simp[hlt,hk,hk2,h1,h2,i64w (n:=(i:Int) + 1) (by omega)]
   exact hK (i + 1) ⟨by omega,by simpa using hx⟩ (by omega) (Sub.refl _ _ _) 0 (by omega) (by simp) (by simp)
theorem r19checkg_af (g:Gr) (hg:GrFit g):AF Tryz.prog 14 [grV g] (aI .i64 (grErr g)):=by
 have hl:g.b.length≤maxLen:=by have:=hg.1; unfold maxLen; omega
 have hN:∀ i,stN (g.b.take i)≤1000000000000:=fun i=>by
  have h1:=stN_le (l:=g.b.take i) fun b hb=>(hg.2 b (List.mem_of_mem_take hb)).1
  have h2:=hg.1
  have h3:(g.b.take i).length≤g.b.length:=by simp; omega
  have:=Nat.mul_le_mul_left 1000000 (Nat.le_trans h3 h2)
  omega
 obtain⟨R,hR⟩:∃ R,grErr g=R:=⟨_,rfl⟩
 rw[hR]
 rw[grErr] at hR
 refine af_of Tryz.func14 rfl (by kernel_rfl) (by simp[Tryz.ntmps14]) fun _=>?_; simp[Tryz.f14,Ex.d_eq]
 by_cases h1:256 < g.b.length
 ·rw[if_pos (.inl h1)] at hR
  simp[show (256:Int) < g.b.length by omega,hR]
 simp[show ¬ (256:Int) < g.b.length by omega]
 refine aLoop_st (fun i:Nat=>[(1,.ptr 0 0 0 0),(4,aI .i64 i),(3,aI .i64 (stN (g.b.take i)))]) (fun _=>[gB g])
  (fun i=>i≤g.b.length) (fun i=>g.b.length - i) 0 (Sub.refl _ _ _) 1 (by omega) (by simp) (by simp[stN]) (by omega) ?_
 rintro i hi K hK
 rcases Nat.lt_or_ge i g.b.length with hlt | hge
 case inl=>
  obtain⟨b,hb⟩:∃ b,g.b[i]? = some b:=⟨_,gEG hlt⟩
  have hb2:=(gSI.1 hb).2
  have hs:=stN_take hb
  have h1:=hN (i + 1)
  simp[hlt,hb,hb2,Bl.d_eq,succ_wrap hlt hl,i64w (n:=(stN (g.b.take i):Int) + b.s.length) (by omega)]
  exact hK (i + 1) (by omega) (by omega) (Sub.refl _ _ _) 1 (by omega) (by simp) (by simp[hs])
 obtain rfl:i=g.b.length:=by omega
 rw[List.take_length]
 simp
 by_cases h2:1024 < stN g.b
 ·rw[if_pos (.inr h2)] at hR
  simp[show (1024:Int) < stN g.b by omega,hR]
 simp[show ¬ (1024:Int) < stN g.b by omega]
 rw[if_neg (by omega)] at hR
 by_cases h0:g.b=[]
 ·rw[if_pos (.inl (by rw[h0]; rfl))] at hR
  subst hR
  simp[h0]
 have h0':¬ g.b.length=0:=fun h=>h0 (List.length_eq_zero_iff.1 h)
 simp[h0]
 clear hK K
 refine aLoop_st (fun i:Nat=>[(1,.ptr 0 0 0 0),(5,aI .i64 i)]) (fun _=>[gB g])
  (fun i=>i≤g.b.length∧(g.b.drop i).all (closedB g.b.length)=g.b.all (closedB g.b.length)) (fun i=>g.b.length - i) 0 (Sub.refl _ _ _) 1 (by omega) (by simp) (by simp) ⟨by omega,by simp⟩ ?_
 rintro i ⟨hi,hx⟩ K hK
 rcases Nat.lt_or_ge i g.b.length with hlt | hge
 case inl=>
  obtain⟨b,hb⟩:∃ b,g.b[i]? = some b:=⟨_,gEG hlt⟩
  have hb2:=(gSI.1 hb).2
  obtain⟨f1,f2⟩:=hg.2 b (gMO hb)
  rw[all_drop hb] at hx
  simp[hlt]
  refine adraw [] (by kernel_rfl) (by kernel_rfl) (by kernel_rfl) (by kernel_rfl) ?_; simp[Ex.d_eq]
  simp[hlt,hb,hb2,Bl.d_eq]
  refine adC_of (r19closed_af b g.b.length f1 hg.1 fun s hs=>(f2 s hs).2) (by simp) trivial (by simp) (by simp[Ex.d_eq]) ?_; simp[Ex.d_eq]
  cases hc:closedB g.b.length b
  ·rw[hc,Bool.false_and] at hx
   rw[if_pos (.inr hx.symm)] at hR
   subst hR
   simp
  ·rw[hc,Bool.true_and] at hx
   simp[succ_wrap hlt hl]
   exact hK (i + 1) ⟨by omega,hx⟩ (by omega) (Sub.refl _ _ _) 1 (by omega) (by simp) (by simp)
 obtain rfl:i=g.b.length:=by omega
 rw[List.drop_length] at hx
 rw[if_neg (by rw[← hx]; simp[h0])] at hR
 simp
 clear hK K
 refine aLoop_st (fun i:Nat=>[(1,.ptr 0 0 0 0),(6,aI .i64 i)]) (fun _=>[gB g])
  (fun i=>i≤g.b.length∧blsErr (g.b.drop i)=R) (fun i=>g.b.length - i) 0 (Sub.refl _ _ _) 1 (by omega) (by simp) (by simp) ⟨by omega,by simpa using hR⟩ ?_
 rintro i ⟨hi,hx⟩ K hK
 rcases Nat.lt_or_ge i g.b.length with hlt | hge
 case inr=>
  obtain rfl:i=g.b.length:=by omega
  simp[blsErr] at hx
  simp[hx]
 obtain⟨b,hb⟩:∃ b,g.b[i]? = some b:=⟨_,gEG hlt⟩
 have hb2:=(gSI.1 hb).2
 obtain⟨f1,f2⟩:=hg.2 b (gMO hb)
 have hbl:b.s.length≤maxLen:=by unfold maxLen; omega
 rw[bls_drop hb] at hx
 simp[hlt]
 refine aLoop_st (fun k:Nat=>[(1,.ptr 0 0 0 0),(6,aI .i64 i),(7,aI .i64 k)]) (fun _=>[gB g])
  (fun k=>k≤b.s.length∧stsErr (b.s.drop k)=stsErr b.s) (fun k=>b.s.length - k) 0 (Sub.refl _ _ _) 1 (by omega) (by simp) (by simp) ⟨by omega,by simp⟩ ?_
 rintro k ⟨hk,hy⟩ K2 hK2
 rcases Nat.lt_or_ge k b.s.length with hlt2 | hge2
 case inr=>
  obtain rfl:k=b.s.length:=by omega
  simp[stsErr] at hy
  rw[if_pos hy.symm] at hx
  simp[hlt,hb,hb2,Bl.d_eq,succ_wrap hlt hl]
  exact hK (i + 1) ⟨by omega,hx⟩ (by omega) (Sub.refl _ _ _) 1 (by omega) (by simp) (by simp)
 obtain⟨s,hs⟩:∃ s,b.s[k]? = some s:=⟨_,gEG hlt2⟩
 have hs2:=(gSI.1 hs).2
 have f3:=(f2 s (gMO hs)).1
 rw[sts_drop hs] at hy
 simp[hlt,hb,hb2,Bl.d_eq,hlt2,hs,hs2,St.d_eq]
 refine aCall_of (r19checkst_af s (by unfold maxLen; omega)) (by simp) (by simp[Ex.d_eq]) ?_; simp[Ex.d_eq]
 by_cases h0:stErr s=0
 ·rw[if_pos h0] at hy
  simp[h0,succ_wrap hlt2 hbl]
  exact hK2 (k + 1) ⟨by omega,hy⟩ (by omega) (Sub.refl _ _ _) 1 (by omega) (by simp) (by simp)
 ·rw[if_neg h0] at hy
  rw[if_neg (by rw[← hy]; exact h0),← hy] at hx
  subst hx
  simp[h0]
end Go.Proofs.YtfnbhkbfelllgaaGreatDoor
