import Derived.Test.YtfnbhkbfelllgaaGreatDoorAa
import Derived.Test.YtfnbhkbfelllgaaGreatDoorRows
import Derived.Carry
import Derived.WalkKit
import Derived.OpenShut
import Derived.SizedLaws
import Derived.Test.YtfnbhkbfelllgaaGreatDoorBa
import Derived.Deep.DeepHandedRow
import Derived.Lay
set_option linter.all false
namespace Go.Proofs.YtfnbhkbfelllgaaGreatDoor
open Go.RowKit Go.ChangeShapes Go.WideShapes
mutual
def wt:D→Nat
 | .v (.string s)=>s.size + 1
 | .v _=>1
 | .sl _ xs=>wtS xs + 1
def wtL:List D→Nat
 | []=>0
 | d::ds=>wt d + wtL ds
def wtS:List (List D)→Nat
 | []=>0
 | x::xs=>wtL x + wtS xs
end
theorem wtL_app:∀ (a b:List D),wtL (a++b)=wtL a + wtL b
 | [],b=>by simp[wtL]
 | d::a,b=>by simp only[List.cons_append,wtL,wtL_app a b]; omega
theorem wtL_flat:∀ (xs:List (List D)),wtL xs.flatten=wtS xs
 | []=>by simp[wtL,wtS]
 | x::xs=>by simp only[List.flatten_cons,wtL_app,wtS,wtL_flat xs]
def RdR (w:World):List D→List Value→Prop
 | [],l=>l=[]
 | d::ds,l=>∃ u l',l=u::l'∧Rd (fun _=>False) w d u∧RdR w ds l'
theorem RdR.len {w:World}:∀ {ds:List D} {cs:List Value},RdR w ds cs→cs.length=ds.length
 | [],cs,h=>by simp only[RdR] at h; subst h; rfl
 | d :: ds, cs, h => by
   simp only[RdR] at h
   obtain⟨u,l,rfl,_,h⟩:=h
   simp[h.len]
theorem RdR.get {w:World}:∀ {ds:List D} {cs:List Value},RdR w ds cs→∀ {j:Nat} {d:D},ds[j]? = some d→∃ u,cs[j]? = some u∧Rd (fun _=>False) w d u
 | [],cs,h,j,d,hj=>by simp at hj
 | x :: ds, cs, h, j, d, hj => by
   simp only[RdR] at h
   obtain⟨u,l,rfl,h1,h2⟩:=h
   cases j with
   | zero=>simp at hj; subst hj; exact⟨u,rfl,h1⟩
   | succ j=>simpa using h2.get (j:=j) (d:=d) (by simpa using hj)
theorem RdR.app {w:World}:∀ {ds:List D} {cs:List Value},RdR w ds cs→∀ {ds':List D} {cs':List Value},RdR w ds' cs'→RdR w (ds++ds') (cs++cs')
 | [],cs,h,_,_,h'=>by simp only[RdR] at h; subst h; simpa using h'
 | x :: ds, cs, h, _, _, h' => by
   simp only[RdR] at h
   obtain⟨u,l,rfl,h1,h2⟩:=h
   simp only[List.cons_append,RdR]
   exact⟨u,_,rfl,h1,h2.app h'⟩
theorem RdR.parts {w:World}:∀ (dss:List (List D)) (sizes:List Nat) (cs:List Value),dss.length=sizes.length→cs.length=sizes.sum →
 (∀ (i:Nat) (x:List D) (s:Nat),dss[i]? = some x→sizes[i]? = some s→RdR w x ((cs.drop (sizes.take i).sum).take s))→RdR w dss.flatten cs
 | [], [], cs, _, hc, _ => by
   simp only[List.flatten_nil,RdR]
   exact List.eq_nil_of_length_eq_zero (by simpa using hc)
 | d :: dss, s :: sizes, cs, hl, hc, h => by
   rw[List.flatten_cons,← List.take_append_drop s cs]
   refine RdR.app (by simpa using h 0 d s rfl rfl) ?_
   refine RdR.parts dss sizes (cs.drop s) (by simpa using hl) (by simp[hc]) fun i d' s' hd hs=>?_
   have:=h (i + 1) d' s' (by simpa using hd) (by simpa using hs)
   simpa [List.drop_drop,Nat.add_comm] using this
 | [],_::_,_,hl,_,_=>by simp at hl
 | _::_,[],_,hl,_,_=>by simp at hl
def Has (P:Program):Nat→TypeId→List D→Prop
 | 0,_,_=>False
 | k + 1, t, ds => match P.underlying t with
   | some .bool=>∃ b,ds=[.v (.bool b)]
   | some (.int k')=>∃ n,ds=[.v (.int k' n)]∧(Lit.int k' n).wf=true
   | some .string=>∃ s,ds=[.v (.string s)]∧s.size≤maxLen
   | some (.slice e)=>∃ xs,ds=[.sl (P.cellsOf e) xs]∧xs.length≤maxLen∧∀ x∈xs,Has P k e x
   | some (.struct fs)=>∃ dss:List (List D),ds=dss.flatten∧dss.length=fs.size∧∀ (i:Nat) (f:Field) (x:List D),fs[i]? = some f→dss[i]? = some x→Has P k f.type x
   | some (.array n e)=>∃ dss:List (List D),ds=dss.flatten∧dss.length=n∧∀ x∈dss,Has P k e x
   | _=>False
def plainB (P:Program) (S:List TypeId):Bool:=S.all fun t=>match P.underlying t with
 | some .bool | some (.int _) | some .string=>true
 | some (.slice e)=>S.contains e && P.cellsOf e != 0 && P.bytesOf e != 0
 | some (.struct fs)=>fs.toList.all fun f=>S.contains f.type
 | some (.array _ e)=>S.contains e
 | _=>false
theorem choose_list {α β:Type} {R:Nat→α→β→Prop}:∀ (l:List α),(∀ i x,l[i]? = some x→∃ y,R i x y)→∃ m:List β,m.length=l.length∧∀ i x y,l[i]? = some x→m[i]? = some y→R i x y
 | l, h => by
   have hx:∀ i:Fin l.length,∃ y,R i l[i] y:=fun i=>h i _ (by simp)
   refine⟨List.ofFn fun i:Fin l.length=>(hx i).choose,by simp,fun i x y hi hy=>?_⟩
   have hlt:i < l.length:=by
    rcases Nat.lt_or_ge i l.length with h | h
    ·exact h
    ·rw[List.getElem?_eq_none h] at hi; cases hi
   rw[gEG hlt] at hi
   rw[gEG (by simpa using hlt)] at hy
   simp only[Option.some.injEq] at hi hy
   subst hi hy
   simpa using (hx ⟨i,hlt⟩).choose_spec
theorem spot_none {w:World} {a:Addr} {u:Value} (h:w.cell? a=some u):a.spot=none:=by
 simp only[World.cell?] at h
 split at h
 ·split at h
  ·cases h
  ·rename_i hs; simpa using hs
 ·cases h
theorem add_none {a:Addr} (h:a.spot=none) (n:Nat):a.add n=⟨a.block,a.off + n,none⟩:=by
 cases a
 simp only at h
 subst h
 simp only[Addr.add]
 split<;>simp_all
theorem sum_replicate (n s:Nat):(List.replicate n s).sum=n * s:=by
 induction n with
 | zero=>simp
 | succ n ih=>simp[List.replicate_succ,ih,Nat.add_mul,Nat.add_comm]
theorem wtS_le {Hh:Type}:∀ (dss:List (List D)) (ys:List (DataW Hh)),dss.length≤ys.length→(∀ (i:Nat) (x:List D) (y:DataW Hh),dss[i]? = some x→ys[i]? = some y→wtL x≤Rows.uptoBulk y)→wtS dss≤Rows.uptoBulkAll ys
 | [],ys,_,_=>by simp[wtS]
 | x::dss,[],hl,_=>by simp at hl
 | x :: dss, y :: ys, hl, h => by
   have h0:=h 0 x y rfl rfl
   have h1:=wtS_le dss ys (by simpa using hl) fun i x y hx hy=>h (i + 1) x y (by simpa using hx) (by simpa using hy)
   simp only[wtS,Rows.uptoBulkAll]
   omega
mutual
def lensD:D→List Nat
 | .sl _ xs=>xs.length::lensS xs
 | .v _=>[]
def lensT:List D→List Nat
 | []=>[]
 | d::l=>lensD d++lensT l
def lensS:List (List D)→List Nat
 | []=>[]
 | x::xs=>lensT x++lensS xs
end
theorem lensT_app:∀ (a b:List D),lensT (a++b)=lensT a++lensT b
 | [],b=>rfl
 | d::l,b=>by simp[lensT,lensT_app l b]
theorem lensS_get:∀ {xs:List (List D)} {n:Nat},n∈lensS xs→∃ (i:Nat) (x:List D),xs[i]? = some x∧n∈lensT x
 | [],n,h=>by simp[lensS] at h
 | x :: xs, n, h => by
   rw[lensS] at h
   rcases List.mem_append.1 h with h | h
   ·exact⟨0,x,rfl,h⟩
   ·obtain⟨i,y,hy,hn⟩:=lensS_get h
    exact⟨i + 1,y,by simpa using hy,hn⟩
theorem lensT_flat:∀ {xs:List (List D)} {n:Nat},n∈lensT xs.flatten→∃ (i:Nat) (x:List D),xs[i]? = some x∧n∈lensT x
 | [],n,h=>by simp[lensT] at h
 | x :: xs, n, h => by
   rw[List.flatten_cons,lensT_app] at h
   rcases List.mem_append.1 h with h | h
   ·exact⟨0,x,rfl,h⟩
   ·obtain⟨i,y,hy,hn⟩:=lensT_flat h
    exact⟨i + 1,y,by simpa using hy,hn⟩
def LenOk {Hh:Type} (P:Program) (t:TypeId) (ds:List D) (x:DataW Hh):Prop:=∀ n∈lensT ds,0 < n→∃ m∈DataW.weights P t x,n≤m
theorem weights_all {Hh:Type} {P:Program} {e:TypeId}:∀ {l:List (DataW Hh)} {i:Nat} {d:DataW Hh},l[i]? = some d→∀ n∈DataW.weights P e d,n∈DataW.weightsAll P e l
 | [],i,d,h,_,_=>by simp at h
 | a :: l, 0, d, h, n, hn => by
   simp at h
   subst h
   simp only[DataW.weightsAll,List.mem_append]
   exact .inl hn
 | a :: l, i + 1, d, h, n, hn => by
   simp only[DataW.weightsAll,List.mem_append]
   exact .inr (weights_all (by simpa using h) n hn)
theorem rd_of_trodN {Hh:Type} {enc:TypeId×Value→Hh} {P:Program} {w:World} {base:Nat} {spare:Nat→Bool} {held:Bool} {S:List TypeId} (hS:plainB P S=true)
 (hrow:∀ t∈S,rowFine P t=true∧isVar P t=true) :
 ∀ (fuel : Nat) (t : TypeId) (cs : List Value) (x : DataW Hh × List MemPlace), t ∈ S → DataW.trod enc P w base spare held fuel t cs = some x →
   ∃ ds,RdR w ds cs∧Has P fuel t ds∧cs.length=P.cellsOf t∧wtL ds≤Rows.uptoBulk x.1∧LenOk P t ds x.1
 | 0,t,cs,x,_,h=>by simp[DataW.trod] at h
 | fuel + 1, t, cs, x, ht, h => by
   have hp:=List.all_eq_true.1 hS t ht
   obtain⟨hfine,hvar⟩:=hrow t ht
   cases hu:P.underlying t with
   | none=>simp[hu] at hp
   | some k =>
     simp only[rowFine,hvar,hu,Bool.not_true,Bool.false_or] at hfine
     rw[hu] at hp
     cases k with
     | bool =>
       obtain⟨b,rfl,rfl⟩:=DataW.trod_bool hu h
       exact⟨[.v (.bool b)],by simp[RdR,Rd,Value.oneCell'],by simp[Has,hu],by simpa using (beq_iff_eq.1 hfine).symm,by simp[wtL,wt,Rows.uptoBulk],by simp[LenOk,lensT,lensD]⟩
     | int k' =>
       obtain⟨n,rfl,rfl,hw⟩:=DataW.trod_int hu h
       exact⟨[.v (.int k' n)],by simp[RdR,Rd,Value.oneCell'],by simp[Has,hu,hw],by simpa using (beq_iff_eq.1 hfine).symm,by simp[wtL,wt,Rows.uptoBulk],by simp[LenOk,lensT,lensD]⟩
     | string =>
       obtain⟨s,rfl,rfl,hw⟩:=DataW.trod_string hu h
       exact⟨[.v (.string s)],by simp[RdR,Rd,Value.oneCell'],by simp[Has,hu,hw],by simpa using (beq_iff_eq.1 hfine).symm,by simp only[wtL,wt,Rows.uptoBulk,Array.length_toList]; exact Nat.le_refl _,by simp[LenOk,lensT,lensD]⟩
     | slice e =>
       have he:e∈S:=by simp at hp; exact hp.1.1
       have hz:0 < P.cellsOf e:=by simp at hp; omega
       have hby:1≤P.bytesOf e:=by simp at hp; omega
       have hc1:P.cellsOf t=1:=by simp only[Bool.and_eq_true,beq_iff_eq] at hfine; exact hfine.2
       rcases DataW.trod_slice hu h with⟨rfl,rfl⟩ | ⟨a,len,cap,elems,rest,n,hn,rfl,rfl,_,hlc,hcm,hel,hat,_⟩
       ·refine⟨[.sl (P.cellsOf e) []],?_,?_,by simp[hc1],by simp[wtL,wt,wtS,Rows.uptoBulk],?_⟩
        ·simp only[RdR,Rd]
         exact⟨_,_,rfl,⟨none,0,rfl,by simp,by unfold maxLen; omega,.inl trivial⟩,rfl⟩
        ·simp only[Has,hu]
         exact⟨[],rfl,by simp,by simp⟩
        ·intro n hn h0
         simp[lensT,lensD,lensS] at hn
         omega
       ·obtain rfl:n=fuel:=by omega
        have hget:∀ (i:Nat) (y:DataW Hh×List MemPlace),elems[i]? = some y→∃ d,(d.length=P.cellsOf e∧(∀ j x,d[j]? = some x→∃ u,w.cell? ((a.add (i * P.cellsOf e)).add j)=some u∧Rd (fun _=>False) w x u))∧Has P n e d∧wtL d≤Rows.uptoBulk y.1∧LenOk P e d y.1:=by
         intro i y hy
         have hi:i < len:=by
          rcases Nat.lt_or_ge i len with h | h
          ·exact h
          ·rw[List.getElem?_eq_none (by omega)] at hy; cases hy
         have:=hat i hi
         rw[hy] at this
         obtain⟨cs',hc,ht'⟩:=Option.bind_eq_some_iff.1 this
         obtain⟨d,hd,hh,hl,hw,hn⟩:=rd_of_trodN hS hrow n e cs' y he ht'
         obtain⟨_,hl',hcell⟩:=World.cells?_some hc
         refine⟨d,⟨by rw[← hd.len]; exact hl,fun j x hx=>?_⟩,hh,hw,hn⟩
         obtain⟨u,hu,hr⟩:=hd.get hx
         have hj:j < cs'.length:=(gSI.1 hu).1
         exact⟨u,by rw[hcell j (by omega),hu],hr⟩
        obtain⟨dss,hdl,hds⟩:=choose_list elems hget
        refine⟨[.sl (P.cellsOf e) dss],?_,?_,by simp[hc1],?_,?_⟩
        ·simp only[RdR,Rd]
         refine⟨_,_,rfl,⟨some a,cap,by rw[hdl,hel],by omega,hcm,?_⟩,rfl⟩
         by_cases h0:dss=[]
         ·exact .inl h0
         ·right
          have hget':∀ (i:Nat) (d:List D),dss[i]? = some d→d.length=P.cellsOf e∧∀ j x,d[j]? = some x→∃ u,w.cell? ((a.add (i * P.cellsOf e)).add j)=some u∧Rd (fun _=>False) w x u:=by
           intro i d hi
           have hlt:i < elems.length:=by
            rw[← hdl]
            exact (gSI.1 hi).1
           exact (hds i _ d (gEG hlt) hi).1
          have hcl:∃ u,w.cell? a=some u:=by
           cases dss with
           | nil=>exact absurd rfl h0
           | cons d0 _ =>
             obtain⟨hl',hc'⟩:=hget' 0 d0 rfl
             obtain⟨u,hu,_⟩:=hc' 0 (d0[0]'(by omega)) (gEG (by omega))
             exact⟨u,by simpa [Addr.add] using hu⟩
          have hsp:a.spot=none:=by
           obtain⟨u,hu⟩:=hcl
           exact spot_none hu
          have hblt:a.block < w.heap.size:=by
           obtain⟨u,hu⟩:=hcl
           exact World.block_lt_of_cell? _ _ hu
          refine⟨a.block,a.off,by cases a; simp only at hsp; subst hsp; rfl,⟨hblt,by simp⟩,?_⟩
          refine RdS.of fun i d hi=>⟨(hget' i d hi).1,RdE.of fun j x hx=>?_⟩
          obtain⟨u,hu,hr⟩:=(hget' i d hi).2 j x hx
          refine⟨u,?_,hr⟩
          rwa [add_none hsp,add_none rfl] at hu
        ·simp only[Has,hu]
         refine⟨dss,rfl,by omega,fun x hx=>?_⟩
         obtain⟨i,hi⟩:=List.getElem?_of_mem hx
         have hlt:i < elems.length:=by
          rw[← hdl]
          exact (gSI.1 hi).1
         exact (hds i _ x (gEG hlt) hi).2.1
        ·have:=wtS_le dss (elems.map (·.1)) (by simp[hdl]) fun i x y hx hy=>by
          rw[List.getElem?_map,Option.map_eq_some_iff] at hy
          obtain⟨z,hz,rfl⟩:=hy
          exact (hds i z x hz hx).2.2.1
         simp only[wtL,wt,Rows.uptoBulk]
         omega
        ·intro n hn h0
         simp only[lensT,lensD,List.append_nil,List.mem_cons] at hn
         rcases hn with rfl | hn
         case inr=>
          obtain⟨i,d,hi,hm⟩:=lensS_get hn
          have hlt:i < elems.length:=by
           rw[← hdl]
           exact (gSI.1 hi).1
          obtain⟨m',h1,h2⟩:=(hds i _ d (gEG hlt) hi).2.2.2 n hm h0
          refine⟨m',?_,h2⟩
          simp only[DataW.weights,hu,List.mem_cons,List.mem_append]
          exact .inr (.inl (weights_all (i:=i) (d:=(elems[i]).1) (by simp[hlt]) m' h1))
         refine⟨(elems.length + rest.length) * P.bytesOf e,by simp[DataW.weights,hu],?_⟩
         have:=Nat.mul_le_mul_left (elems.length + rest.length) hby
         omega
     | struct fs =>
       obtain⟨xs,n,hn,rfl,hcl,hxl,hat⟩:=DataW.trod_struct hu h
       obtain rfl:n=fuel:=by omega
       simp only[Bool.and_eq_true,beq_iff_eq,List.all_eq_true] at hfine hp
       have hoff:∀ (i:Nat) (f:Field),fs[i]? = some f→f.offset=((fs.toList.take i).map fun f=>P.cellsOf f.type).sum:=by
        intro i f hf
        have hlt:i < fs.size:=(Array.getElem?_eq_some_iff.1 hf).1
        have:=hfine.2 i (by simp[hlt])
        have hf':fs.toList[i]? = some f:=by simpa using hf
        rw[hf'] at this
        simpa using this
       have hget:∀ (i:Nat) (f:Field),fs.toList[i]? = some f→∃ d,RdR w d ((cs.drop f.offset).take (P.cellsOf f.type))∧Has P n f.type d∧∃ y,xs[i]? = some y∧wtL d≤Rows.uptoBulk y.1∧LenOk P f.type d y.1:=by
        intro i f hf
        have hlt:i < fs.size:=by simpa using (gSI.1 hf).1
        have hm:f∈fs.toList:=gMO hf
        have h1:=hat i f (by simpa using hf)
        rw[gEG (by omega)] at h1
        obtain⟨d,hd,hh,_,hw,hn⟩:=rd_of_trodN hS hrow n f.type _ _ (by simpa using hp f hm) h1
        exact⟨d,hd,hh,_,gEG (by omega),hw,hn⟩
       obtain⟨dss,hdl,hds⟩:=choose_list fs.toList hget
       refine⟨dss.flatten,?_,?_,hcl,?_,?_⟩
       ·refine RdR.parts dss (fs.toList.map fun f=>P.cellsOf f.type) cs (by simpa using hdl) (by rw[hcl]; exact hfine.1.2) fun i d s hd hs=>?_
        simp only[List.getElem?_map,Option.map_eq_some_iff] at hs
        obtain⟨f,hf,rfl⟩:=hs
        have:=(hds i f d hf hd).1
        rw[hoff i f (by simpa using hf)] at this
        rwa [← List.map_take]
       ·simp only[Has,hu]
        exact⟨dss,rfl,by simpa using hdl,fun i f x hf hx=>(hds i f x (by simpa using hf) hx).2.1⟩
       ·rw[wtL_flat]
        have:=wtS_le dss (xs.map (·.1)) (by simp at hdl; simp[hxl,hdl]) fun i x y hx hy=>by
         rw[List.getElem?_map,Option.map_eq_some_iff] at hy
         obtain⟨z,hz,rfl⟩:=hy
         have hlt:i < fs.toList.length:=by
          rw[← hdl]
          exact (gSI.1 hx).1
         obtain⟨_,_,y,hy,hw,_⟩:=hds i _ x (gEG hlt) hx
         rw[hz] at hy
         cases hy
         exact hw
        simp only[Rows.uptoBulk]
        omega
       ·intro m hm h0
        obtain⟨i,d,hi,hm⟩:=lensT_flat hm
        have hlt:i < fs.toList.length:=by
         rw[← hdl]
         exact (gSI.1 hi).1
        obtain⟨_,_,y,hy,_,hn⟩:=hds i _ d (gEG hlt) hi
        obtain⟨m',h1,h2⟩:=hn m hm h0
        refine⟨m',?_,h2⟩
        simp only[DataW.weights,hu]
        exact DataW.weights_mem_each (j:=i) (t:=(fs.toList[i]).type) (d:=y.1) (by simp[List.getElem?_map,gEG hlt]) (by simp[hy]) m' h1
     | array m e =>
       obtain⟨xs,n,hn,rfl,hcl,hxl,hat⟩:=DataW.trod_array hu h
       obtain rfl:n=fuel:=by omega
       simp only[Bool.and_eq_true,beq_iff_eq] at hfine
       have hget:∀ (i:Nat) (y:Nat),(List.range m)[i]? = some y→∃ d,RdR w d ((cs.drop (i * P.cellsOf e)).take (P.cellsOf e))∧Has P n e d∧∃ y,xs[i]? = some y∧wtL d≤Rows.uptoBulk y.1∧LenOk P e d y.1:=by
        intro i y hy
        have hlt:i < m:=by simpa using (gSI.1 hy).1
        have h1:=hat i hlt
        rw[gEG (by omega)] at h1
        obtain⟨d,hd,hh,_,hw,hn⟩:=rd_of_trodN hS hrow n e _ _ (by simpa using hp) h1
        exact⟨d,hd,hh,_,gEG (by omega),hw,hn⟩
       obtain⟨dss,hdl,hds⟩:=choose_list (List.range m) hget
       simp only[List.length_range] at hdl
       refine⟨dss.flatten,?_,?_,hcl,?_,?_⟩
       ·refine RdR.parts dss (List.replicate m (P.cellsOf e)) cs (by simpa using hdl) (by rw[hcl,sum_replicate]; exact hfine.2) fun i d s hd hs=>?_
        have hlt:i < m:=by
         rw[← hdl]
         exact (gSI.1 hd).1
        simp only[List.getElem?_replicate,hlt,if_true,Option.some.injEq] at hs
        subst hs
        rw[List.take_replicate,sum_replicate,Nat.min_eq_left (by omega)]
        exact (hds i i d (by simp[hlt]) hd).1
       ·simp only[Has,hu]
        refine⟨dss,rfl,hdl,fun x hx=>?_⟩
        obtain⟨i,hi⟩:=List.getElem?_of_mem hx
        have hlt:i < m:=by
         rw[← hdl]
         exact (gSI.1 hi).1
        exact (hds i i x (by simp[hlt]) hi).2.1
       ·rw[wtL_flat]
        have:=wtS_le dss (xs.map (·.1)) (by simp; omega) fun i x y hx hy=>by
         rw[List.getElem?_map,Option.map_eq_some_iff] at hy
         obtain⟨z,hz,rfl⟩:=hy
         have hlt:i < m:=by
          rw[← hdl]
          exact (gSI.1 hx).1
         obtain⟨_,_,y,hy,hw,_⟩:=hds i i x (by simp[hlt]) hx
         rw[hz] at hy
         cases hy
         exact hw
        simp only[Rows.uptoBulk]
        omega
       ·intro n hn h0
        obtain⟨i,d,hi,hn⟩:=lensT_flat hn
        have hlt:i < m:=by
         rw[← hdl]
         exact (gSI.1 hi).1
        obtain⟨_,_,y,hy,_,hk⟩:=hds i i d (by simp[hlt]) hi
        obtain⟨m',h1,h2⟩:=hk n hn h0
        refine⟨m',?_,h2⟩
        simp only[DataW.weights,hu]
        exact weights_all (i:=i) (d:=y.1) (by simp[hy]) m' h1
     | _=>simp at hp
theorem rd_of_trod {Hh:Type} {enc:TypeId×Value→Hh} {P:Program} {w:World} {base:Nat} {spare:Nat→Bool} {held:Bool} {S:List TypeId} (hS:plainB P S=true)
 (hrow:∀ t∈S,rowFine P t=true∧isVar P t=true) (fuel:Nat) (t:TypeId) (cs:List Value) (x:DataW Hh×List MemPlace) (ht:t∈S) (h:DataW.trod enc P w base spare held fuel t cs=some x) :
 ∃ ds,RdR w ds cs∧Has P fuel t ds∧cs.length=P.cellsOf t∧wtL ds≤Rows.uptoBulk x.1:=by
 obtain⟨ds,h1,h2,h3,h4,_⟩:=rd_of_trodN hS hrow fuel t cs x ht h
 exact⟨ds,h1,h2,h3,h4⟩
open Go.RowKit Go.ChangeShapes Go.WideShapes
theorem shp_d {ι:Place} {A:AHeap} {H:Nat→Prop} {w:World} {d:D} {u:Value} (h:Rd H w d u):Shp ι A (.d d) u:=by
 cases d with
 | v x=>simp only[Rd] at h; simp only[Shp]; exact h.1
 | sl sz xs =>
   simp only[Rd] at h
   obtain⟨a,cap,rfl,h2,_,h4⟩:=h
   simp only[Shp]
   refine⟨a,cap,rfl,h2,?_⟩
   rcases h4 with h4 | ⟨b,o,ha,_⟩
   ·exact .inl h4
   ·exact .inr ⟨b,o,ha⟩
theorem mem_d {H:Nat→Prop} {w:World} {d:D} {u:Value} (h:Rd H w d u):Mem H w (.d d) u:=by simpa [Mem] using h
def ArgL (w:World):List AV→List Value→Prop
 | [],l=>l=[]
 | c::cs,l=>∃ u l',l=u::l'∧(Shp (fun _=>none) [] c u∧Mem (fun _=>False) w c u)∧ArgL w cs l'
theorem ArgL.shp {w:World}:∀ {cs:List AV} {l:List Value},ArgL w cs l→ShpL (fun _=>none) [] cs l
 | [],l,h=>by simpa [ArgL,ShpL] using h
 | c :: cs, l, h => by
   simp only[ArgL] at h
   obtain⟨u,l',rfl,h1,h2⟩:=h
   simp only[ShpL]
   exact⟨u,l',rfl,h1.1,h2.shp⟩
theorem ArgL.mem {w:World}:∀ {cs:List AV} {l:List Value},ArgL w cs l→MemL (fun _=>False) w cs l
 | [],l,h=>by simpa [ArgL,MemL] using h
 | c :: cs, l, h => by
   simp only[ArgL] at h
   obtain⟨u,l',rfl,h1,h2⟩:=h
   simp only[MemL]
   exact⟨u,l',rfl,h1.2,h2.mem⟩
theorem ArgL.nil (w:World):ArgL w [] []:=rfl
theorem ArgL.cons {w:World} {c:AV} {u:Value} {cs:List AV} {l:List Value} (h:Shp (fun _=>none) [] c u∧Mem (fun _=>False) w c u) (hl:ArgL w cs l):ArgL w (c::cs) (u::l):=⟨u,l,rfl,h,hl⟩
theorem RdR.args {w:World}:∀ {ds:List D} {cs:List Value},RdR w ds cs→ArgL w (ds.map .d) cs
 | [],cs,h=>by simpa [RdR,ArgL] using h
 | d :: ds, cs, h => by
   simp only[RdR] at h
   obtain⟨u,l,rfl,h1,h2⟩:=h
   exact ArgL.cons ⟨shp_d h1,mem_d h1⟩ h2.args
theorem RdR.ones {w:World}:∀ {ds:List D} {cs:List Value},RdR w ds cs→∀ x∈cs,x.oneCell'=true
 | [],cs,h,x,hx=>by simp only[RdR] at h; subst h; simp at hx
 | d :: ds, cs, h, x, hx => by
   simp only[RdR] at h
   obtain⟨u,l,rfl,h1,h2⟩:=h
   rcases List.mem_cons.1 hx with rfl | hx
   ·exact h1.one
   ·exact h2.ones x hx
section
variable {Hh:Type} {enc:TypeId×Value→Hh} {P:Program} {w:World} {base:Nat} {spare:Nat→Bool} {held:Bool} {S:List TypeId}
theorem arg_struct (hS:plainB P S=true) (hrow:(S.all fun t=>rowFine P t && isVar P t)=true) {t:TypeId} {fs:Array Field} (ht:t∈S) (hu:P.underlying t=some (.struct fs)) {r:Reach} {b0:Nat} {v:Value} {d:DataW Hh} {ps:List MemPlace}
 (hval:Value.okWide P w r b0 t v) (hd:DataW.Trod enc P w base spare held t v d ps) :
 ∃ fuel ds,Has P fuel t ds∧wtL ds≤Rows.uptoBulk d∧Shp (fun _=>none) [] (.agg (ds.map .d)) v∧Mem (fun _=>False) w (.agg (ds.map .d)) v:=by
 obtain⟨fuel,hf⟩:=hd
 simp only[Value.okWide,hu] at hval
 obtain⟨cs,rfl,_,_⟩:=hval
 have hrow':∀ t∈S,rowFine P t=true∧isVar P t=true:=fun t ht=>by simpa using List.all_eq_true.1 hrow t ht
 obtain⟨ds,h1,h2,_,h3⟩:=rd_of_trod hS hrow' fuel t _ _ ht hf
 have h1:RdR w ds cs.toList:=by simpa [Value.cells] using h1
 refine⟨fuel,ds,h2,h3,?_,?_⟩
 ·simp only[Shp]
  exact⟨cs.toList,rfl,h1.args.shp⟩
 ·simp only[Mem]
  exact⟨cs.toList,rfl,h1.args.mem,h1.ones⟩
end
def Ex.fits:Ex→Prop
 | .mk o n v wd l=>(Lit.int .i64 o).wf=true∧(Lit.int .u32 n).wf=true∧(Lit.int .i64 v).wf=true∧(Lit.int .i64 wd).wf=true∧l.length≤maxLen∧fitss l
where fitss:List Ex→Prop
 | []=>True
 | e::l=>Ex.fits e∧fitss l
theorem ex_of_has {P:Program} {T:TypeId} {f0 f1 f2 f3 f4:Field} (hT:P.underlying T=some (.struct #[f0,f1,f2,f3,f4])) (h0:P.underlying f0.type=some (.int .i64)) (h1:P.underlying f1.type=some (.int .u32))
 (h2:P.underlying f2.type=some (.int .i64)) (h3:P.underlying f3.type=some (.int .i64)) (h4:P.underlying f4.type=some (.slice T)) (hc:P.cellsOf T=5) :
 ∀ (k:Nat) (ds:List D),Has P k T ds→∃ e:Ex,ds=e.d∧e.fits:=by
 intro k
 induction k using Nat.strongRecOn with
 | _ k ih =>
   intro ds h
   cases k with
   | zero=>simp[Has] at h
   | succ k =>
     simp only[Has,hT] at h
     obtain⟨dss,rfl,hl,hf⟩:=h
     match dss,hl with
     | [a0, a1, a2, a3, a4], _ =>
       have g0:=hf 0 f0 a0 rfl rfl
       have g1:=hf 1 f1 a1 rfl rfl
       have g2:=hf 2 f2 a2 rfl rfl
       have g3:=hf 3 f3 a3 rfl rfl
       have g4:=hf 4 f4 a4 rfl rfl
       cases k with
       | zero=>simp[Has] at g0
       | succ k =>
         simp only[Has,h0,h1,h2,h3,h4] at g0 g1 g2 g3 g4
         obtain⟨o,rfl,w0⟩:=g0
         obtain⟨n,rfl,w1⟩:=g1
         obtain⟨v,rfl,w2⟩:=g2
         obtain⟨wd,rfl,w3⟩:=g3
         obtain⟨xs,rfl,w4,hx⟩:=g4
         have:∀ xs:List (List D),(∀ x∈xs,Has P k T x)→∃ l:List Ex,xs=Ex.ds l∧Ex.fits.fitss l:=by
          intro xs
          induction xs with
          | nil=>exact fun _=>⟨[],rfl,trivial⟩
          | cons x xs ihx =>
            intro hx
            obtain⟨l,rfl,hl⟩:=ihx fun y hy=>hx y (List.mem_cons_of_mem _ hy)
            obtain⟨e,rfl,he⟩:=ih k (by omega) x (hx x (List.mem_cons_self ..))
            exact⟨e::l,rfl,he,hl⟩
         obtain⟨l,rfl,hl⟩:=this xs hx
         exact⟨.mk o n v wd l,by simp[Ex.d,hc],w0,w1,w2,w3,by simpa using w4,hl⟩
section
variable {H:Type} {enc:TypeId×Value→H} {P:Program}
theorem trodAll_stays (hl:laidOutB P=true):∀ {ts:List TypeId},(ts.all fun t=>P.readableRec t && decide (t < P.types.size))=true→∀ {W W':World} {vs:List Value} {ds:List (DataW H)} {ps:List MemPlace} {sp:Nat→Bool},
 DataW.TrodAll enc P W 0 (fun _=>true) true ts vs ds ps→Ext W W'→(∀ p∈ps,p.block < W.heap.size)→(∀ p∈ps,sp p.block=true)→DataW.TrodAll enc P W' 0 sp true ts vs ds ps
 | [], _, W, W', vs, ds, ps, sp, h, _, _, _ => by
   obtain⟨rfl,rfl,rfl⟩:=trodAll_nil h
   exact trodAll_mk0
 | t :: ts, hr, W, W', vs, ds, ps, sp, h, hx, hlt, hsp => by
   obtain⟨v,vs1,d,ds1,a,b,rfl,rfl,rfl,h1,h2⟩:=trodAll_cons h
   simp only[List.all_cons,Bool.and_eq_true,decide_eq_true_eq] at hr
   exact trodAll_cons_mk (WideElems.Trod_stays hl hr.1.1 hr.1.2 h1 (fun p hp=>Below.same hx (hlt p (by simp[hp]))) fun p hp=>hsp p (by simp[hp]))
    (trodAll_stays hl hr.2 h2 hx (fun p hp=>hlt p (by simp[hp])) fun p hp=>hsp p (by simp[hp]))
theorem post_true {fn:Func} {s:ChangeSpec} {apart fresh handsOn:Bool} {W W':World} {args:Array Value} {ds gs:List (DataW H)} {before:List MemPlace} {tb:TypeId} (hl:laidOutB P=true)
 (hr:(fn.params.toList.all fun t=>P.readableRec t && decide (t < P.types.size))=true) (hv:s.vars=[]) (hrt:fn.resultTypes=#[tb]) (htb:P.underlying tb=some .bool)
 (hW:DataW.Whole enc P fn.params.toList s.vars apart W args.toList ds gs before) (hs:gs=[]→s.fn H (ds++gs)={ results:=[.lit (.bool true)],args:=ds }) (hx:Ext W W') :
 s.post enc P fn apart fresh handsOn false W args (.bool true) W':=by
 have hlt:=hW.lt
 have hW0:=hW
 obtain⟨p,q,hA,hV,rfl,hz,hn⟩:=hW0
 rw[hv] at hV
 obtain⟨rfl,rfl⟩:=trodVars_none hV
 refine⟨ds,[],_,[],p,[],hW,?_,?_,?_,World.keptBut_mono (fun p f=>f.elim) (Below.frame hx (fun _=>False)),fun h=>by cases h⟩
 ·rw[hs rfl,hrt]
  exact trodAll_mk1 (shut_bool htb true)
 ·rw[hs rfl]
  exact trodAll_stays hl hr hA hx (fun p hp=>hlt p (by simp[hp])) fun p hp=>by simpa using hlt p (by simp[hp])
 ·rw[hv,hs rfl]
  rfl
end
theorem witness_laid {H:Type} {enc:TypeId×Value→H} {C:Checked} {os:Os} {f:FuncId} {fn:Func} {s:OpenSpec} {conds:List PathCond} {apart:Bool} {laid:List (String×DataW Unit)} (args:Array Value)
 (hsh:((World.laidAll C.prog os laid).forCall (fun _ _=>0) ⟨#[],args,[]⟩).Shaped C.prog)
 (hok:Input.okWideB C.prog ((World.laidAll C.prog os laid).forCall (fun _ _=>0) ⟨#[],args,[]⟩) f ⟨#[],args,[]⟩=true)
 (hrow:s.preRow enc C.prog fn conds apart laid ((World.laidAll C.prog os laid).forCall (fun _ _=>0) ⟨#[],args,[]⟩).memory args) :
 ∃ (w : World) (tape : Tape) (i : Input), w.os = os ∧ (w.forCall tape i).Shaped C.prog ∧ i.vars = [] ∧ Input.okWide C.prog (w.forCall tape i) .any w.heap.size f i ∧
   s.preRow enc C.prog fn conds apart laid (w.forCall tape i).memory i.args∧({}:Assume).holds C.prog (lone (Frame.enter C.prog f i.args .normal) [] (w.forCall tape i)):=
 ⟨World.laidAll C.prog os laid,fun _ _=>0,⟨#[],args,[]⟩,World.laidAll_os _ _ _,hsh,(Input.okWide_of_okWideB (base:=0) hok).1,(Input.okWide_of_okWideB hok).2,hrow,by
  simp only[Assume.holds]
  exact⟨by simp,by simp,by simp,by simp,by simp⟩⟩
open Go.RowKit Go.ChangeShapes Go.WideShapes
set_option maxRecDepth 100000
def exTypes:List TypeId:=[60,26,3,22]
end Go.Proofs.YtfnbhkbfelllgaaGreatDoor
