import Derived.Test.YtfnbhkbfelllgaaGreatDoorAe
set_option linter.all false
namespace Go.Proofs.YtfnbhkbfelllgaaGreatDoor
open Go.RowKit
theorem vLoop_gh {α:Type} {body:Kont→Kont} {e:Env} {w:World} (J:α→Kont) (ν:α→Nat) (a:α) (h0:J a e w)
 (hs:∀ (a:α) (e:Env) (w:World),J a e w→∀ K:Kont,(∀ (a':α) (e':Env) (w':World),J a' e' w'→ν a' < ν a→K e' w')→body K e w):vLoop body e w:=by
 classical
 let S:Env→World→Nat→Prop:=fun e w m=>∃ a,J a e w∧ν a=m
 have hex:∀ e w,(∃ a,J a e w)→∃ m,S e w m∧∀ m',S e w m'→m≤m':=by
  rintro e w ⟨a,ha⟩
  have:∀ n m,S e w m→m≤n→∃ m,S e w m∧∀ m',S e w m'→m≤m':=by
   intro n
   induction n with
   | zero=>exact fun m hm hn=>⟨m,hm,fun m' _=>by omega⟩
   | succ n ih =>
     intro m hm hn
     by_cases hlt:∃ m',S e w m'∧m' < m
     ·obtain⟨m',h1,h2⟩:=hlt
      exact ih m' h1 (by omega)
     ·exact⟨m,hm,fun m' h=>Nat.le_of_not_lt fun hl=>hlt ⟨m',h,hl⟩⟩
  exact this (ν a) (ν a) ⟨a,ha,rfl⟩ (Nat.le_refl _)
 let μ:Env→World→Nat:=fun e w=>if h:∃ a,J a e w then (hex e w h).choose else 0
 refine⟨fun e w=>∃ a,J a e w,μ,⟨a,h0⟩,?_⟩
 intro e w hI
 obtain⟨⟨b,hb,hν⟩,hmin⟩:=(hex e w hI).choose_spec
 have hμ:μ e w=ν b:=by
  have h:μ e w=(hex e w hI).choose:=dif_pos hI
  rw[h,hν]
 refine hs b e w hb _ fun a' e' w' ha' hlt=>⟨⟨a',ha'⟩,?_⟩
 have hI':∃ a,J a e' w':=⟨a',ha'⟩
 have h':μ e' w'=(hex e' w' hI').choose:=dif_pos hI'
 have:=(hex e' w' hI').choose_spec.2 _ ⟨a',ha',rfl⟩
 omega
section
variable {P:Program} {H:Nat→Prop} {ι ι':Place} {A A':AHeap} {w w':World} {e:AEnv} {ec:Env} {C:Ctx} {n:Nat}
theorem agval_shp {ι:Place} (h3:EnvS ι A e ec) {d:Option Nat} {b:Option Bool} (h:agval e d=some b):gval ec d=b:=by
 unfold agval at h
 unfold gval
 cases d with
 | none=>simpa using h
 | some d =>
   simp only at h ⊢
   split at h
   ·rename_i b' hb
    have:=h3 d
    rw[hb] at this
    simp only[Shp] at this
    rw[this]
    exact oSI h
   ·rename_i l hb
    have:=h3 d
    rw[hb] at this
    simp only[Shp] at this
    obtain⟨m,hm,_⟩:=this
    rw[hm]
    exact oSI h
   ·cases h
theorem agval_sound (hS:Sta C e A ec w) {d:Option Nat} {b:Option Bool} (h:agval e d=some b):gval ec d=b:=by
 obtain⟨_,ι,_,_,h3,_⟩:=hS
 exact agval_shp h3 h
theorem avops_sound (hn:C.A.length=n) {ops:Array Oper} {K:AKont}:∀ (l:List Oper) (e:AEnv) (A:AHeap) (ec:Env) (w:World),Sta C e A ec w→avops P n ops l K e A→vops P ops l (Lift C K) ec w
 | [],e,A,ec,w,hS,h=>⟨e,A,h,hS⟩
 | o :: os, e, A, ec, w, hS, h => by
   have ih:=avops_sound hn (ops:=ops) (K:=K) os
   have hop:avop P n o (avops P n ops os K) e A→vop P o (vops P ops os (Lift C K)) ec w:=fun h=>by
    have h1:=avop_sound hn hS h
    have hmono:∀ {k1 k2:Kont},(∀ e w,k1 e w→k2 e w)→vop P o k1 ec w→vop P o k2 ec w:=by
     intro k1 k2 hk hv
     unfold vop at hv ⊢
     have hset:∀ {r d},vSet r ec d k1 w→vSet r ec d k2 w:=fun⟨v,a,b⟩=>⟨v,a,hk _ _ b⟩
     have hnew:∀ {r f d},vNew r f ec d k1 w→vNew r f ec d k2 w:=fun⟨t,cs,a,b⟩=>⟨t,cs,a,hk _ _ b⟩
     have hraw:vRaw P o ec k1 w→vRaw P o ec k2 w:=by
      unfold vRaw
      split
      ·exact hk _ _
      ·exact hk _ _
      ·exact fun h=>h.mono fun _ _ ⟨v,a,b⟩=>⟨v,a,hk _ _ b⟩
      ·exact id
     split at hv
     ·exact hset hv
     ·obtain⟨w',a,b⟩:=hv; exact⟨w',a,hk _ _ b⟩
     ·exact hnew hv
     ·exact hnew hv
     ·exact hset hv
     ·exact hnew hv
     ·split at hv
      ·obtain⟨f,fs,cs,a,b,c⟩:=hv; exact⟨f,fs,cs,a,b,c.mono fun _ _ ⟨v,a,b⟩=>⟨v,a,hk _ _ b⟩⟩
      ·exact hv.imp hset hraw
      ·exact hraw hv
     ·exact hk _ _ hv
     ·exact hk _ _ hv
     all_goals (first | exact hset hv | exact hraw hv | skip)
     split at hv
     ·exact hset hv
     ·exact hraw hv
    exact hmono (fun ec' w' ⟨e',A',h,hS'⟩=>ih e' A' ec' w' hS' h) h1
   simp only[avops] at h
   simp only[vops]
   cases hg:o.guard with
   | none =>
     rw[hg] at h
     exact hop h
   | some g =>
     obtain⟨j,want⟩:=g
     rw[hg] at h
     obtain⟨b,hb,h⟩:=h
     simp only[vG]
     rw[agval_sound hS hb]
     by_cases hbw:b=some want
     ·subst hbw
      simp only[if_true] at h ⊢
      exact hop h
     ·rw[if_neg hbw] at h
      rw[if_neg hbw]
      exact ih _ _ _ _ (hS.undef _) h
def liftB (C:Ctx) (bs:List (Nat×AKont)):List (Nat×Kont):=bs.map fun p=>(p.1,Lift C p.2)
theorem aexit_sound (bs:List (Nat×AKont)) (j:Nat) (hS:Sta C e A ec w) (h:aexitK bs j e A):exitK (liftB C bs) j ec w:=by
 induction bs with
 | nil=>exact h.elim
 | cons p bs ih =>
   obtain⟨i,k⟩:=p
   simp only[aexitK] at h
   simp only[liftB,List.map_cons,exitK]
   by_cases hij:i=j
   ·rw[if_pos hij] at h ⊢
    exact⟨e,A,h,hS⟩
   ·rw[if_neg hij] at h ⊢
    exact ih h
def KLe (k1 k2:Kont):Prop:=∀ e w,k1 e w→k2 e w
theorem vop_mono {o:Oper} {k1 k2:Kont} (hk:KLe k1 k2) {ec:Env} {w:World} (hv:vop P o k1 ec w):vop P o k2 ec w:=by
 unfold vop at hv ⊢
 have hset:∀ {r d},vSet r ec d k1 w→vSet r ec d k2 w:=fun⟨v,a,b⟩=>⟨v,a,hk _ _ b⟩
 have hnew:∀ {r f d},vNew r f ec d k1 w→vNew r f ec d k2 w:=fun⟨t,cs,a,b⟩=>⟨t,cs,a,hk _ _ b⟩
 have hraw:vRaw P o ec k1 w→vRaw P o ec k2 w:=by
  unfold vRaw
  split
  ·exact hk _ _
  ·exact hk _ _
  ·exact fun h=>h.mono fun _ _ ⟨v,a,b⟩=>⟨v,a,hk _ _ b⟩
  ·exact id
 split at hv
 ·exact hset hv
 ·obtain⟨w',a,b⟩:=hv; exact⟨w',a,hk _ _ b⟩
 ·exact hnew hv
 ·exact hnew hv
 ·exact hset hv
 ·exact hnew hv
 ·split at hv
  ·obtain⟨f,fs,cs,a,b,c⟩:=hv; exact⟨f,fs,cs,a,b,c.mono fun _ _ ⟨v,a,b⟩=>⟨v,a,hk _ _ b⟩⟩
  ·exact hv.imp hset hraw
  ·exact hraw hv
 ·exact hk _ _ hv
 ·exact hk _ _ hv
 all_goals (first | exact hset hv | exact hraw hv | skip)
 split at hv
 ·exact hset hv
 ·exact hraw hv
theorem vops_mono {ops:Array Oper} {k1 k2:Kont} (hk:KLe k1 k2):∀ (l:List Oper),KLe (vops P ops l k1) (vops P ops l k2)
 | [],e,w,h=>hk _ _ h
 | o :: os, e, w, h => by
   simp only[vops] at h ⊢
   split at h
   ·exact vop_mono (vops_mono hk os) h
   ·simp only[vG] at h ⊢
    split at h
    ·rename_i hc
     rw[if_pos hc]
     exact vop_mono (vops_mono hk os) h
    ·rename_i hc
     rw[if_neg hc]
     exact vops_mono hk os _ _ h
inductive BLe:List (Nat×Kont)→List (Nat×Kont)→Prop where
 | nil:BLe [] []
 | cons {i:Nat} {k1 k2:Kont} {b1 b2:List (Nat×Kont)}:KLe k1 k2→BLe b1 b2→BLe ((i,k1)::b1) ((i,k2)::b2)
theorem BLe.refl:∀ b,BLe b b
 | []=>.nil
 | (_,_)::b=>.cons (fun _ _ h=>h) (BLe.refl b)
theorem exitK_mono {b1 b2:List (Nat×Kont)} (h:BLe b1 b2) (j:Nat):KLe (exitK b1 j) (exitK b2 j):=by
 induction h with
 | nil=>exact fun _ _ h=>h
 | cons hk _ ih =>
   intro e w hx
   simp only[exitK] at hx ⊢
   split at hx
   ·rename_i hij; rw[if_pos hij]; exact hk _ _ hx
   ·rename_i hij; rw[if_neg hij]; exact ih _ _ hx
theorem vc_mono:∀ (c:Code) {b1 b2:List (Nat×Kont)} {r k1 k2:Kont},BLe b1 b2→KLe k1 k2→KLe (vc P c b1 r k1) (vc P c b2 r k2)
 | .skip,_,_,_,_,_,_,hk,e,w,h=>hk _ _ h
 | .region id ops false,_,_,_,_,_,_,hk,e,w,h=>vops_mono hk _ _ _ h
 | .region id ops true,_,_,_,_,_,_,hk,e,w,h=>fun n a hf hd he=>wp_mono (h n a hf hd he) fun ex a' w' ⟨x,y,z⟩=>⟨x,y,hk _ _ z⟩
 | .seq a b,_,_,_,_,_,hb,hk,e,w,h=>vc_mono a hb (vc_mono b hb hk) _ _ h
 | .cond c a b, _, _, _, _, _, hb, hk, e, w, ⟨t, ht, h⟩ => ⟨t, ht, by
   cases t
   ·exact vc_mono b hb hk _ _ h
   ·exact vc_mono a hb hk _ _ h⟩
 | .block id c,_,_,_,_,_,hb,hk,e,w,h=>vc_mono c (.cons hk hb) hk _ _ h
 | .exit id,_,_,_,_,_,hb,hk,e,w,h=>exitK_mono hb id _ _ h
 | .loop c,_,_,_,_,_,hb,hk,e,w,⟨I,μ,h0,h⟩=>⟨I,μ,h0,fun e w hI=>vc_mono c hb (fun _ _ h=>h) _ _ (h e w hI)⟩
 | .ret,_,_,_,_,_,_,_,e,w,h=>h
 | .rangeFunc ..,_,_,_,_,_,_,_,_,_,h=>h.elim
 | .scope c,_,_,_,_,_,hb,hk,e,w,h=>vc_mono c hb hk _ _ h
 | .label _,_,_,_,_,_,_,hk,e,w,h=>hk _ _ h
 | .goto _,_,_,_,_,_,_,_,_,_,h=>h.elim
 | .refuse _,_,_,_,_,_,_,_,_,_,h=>h.elim
theorem avc_sound (hn:C.A.length=n):∀ (c:Code) (bs:List (Nat×AKont)) (r k:AKont) (e:AEnv) (A:AHeap) (ec:Env) (w:World),Sta C e A ec w→avc P n c bs r k e A→vc P c (liftB C bs) (Lift C r) (Lift C k) ec w
 | .skip,bs,r,k,e,A,ec,w,hS,h=>⟨e,A,h,hS⟩
 | .region id ops false,bs,r,k,e,A,ec,w,hS,h=>avops_sound hn _ _ _ _ _ hS h
 | .region id ops true,bs,r,k,e,A,ec,w,hS,h=>h C ec w hn hS
 | .seq a b,bs,r,k,e,A,ec,w,hS,h=>vc_mono a (BLe.refl _) (fun ec' w' ⟨e',A',h',hS'⟩=>avc_sound hn b bs r k e' A' ec' w' hS' h') _ _ (avc_sound hn a bs r _ e A ec w hS h)
 | .cond c a b, bs, r, k, e, A, ec, w, hS, ⟨t, ht, h⟩ => by
   have hS2:=hS
   obtain⟨_,ι,_,_,h3,_⟩:=hS2
   have:=eva_shp h3 c
   rw[ht] at this
   simp only[Shp] at this
   refine⟨t,this,?_⟩
   cases t
   ·exact avc_sound hn b bs r k e A ec w hS h
   ·exact avc_sound hn a bs r k e A ec w hS h
 | .block id c,bs,r,k,e,A,ec,w,hS,h=>avc_sound hn c ((id,k)::bs) r k e A ec w hS h
 | .exit id,bs,r,k,e,A,ec,w,hS,h=>aexit_sound bs id hS h
 | .loop c, bs, r, k, e, A, ec, w, hS, ⟨J, ⟨m, e', A', hs', hJ⟩, h⟩ => by
   refine vLoop_gh (α:=Nat) (fun m ec w=>∃ e A,J m e A∧Sta C e A ec w) id m ⟨e',A',hJ,hs' C ec w hn hS⟩ ?_
   rintro m ec w ⟨e,A,hJ,hS⟩ K hK
   refine vc_mono c (BLe.refl _) ?_ _ _ (avc_sound hn c bs r _ e A ec w hS (h m e A hJ))
   rintro ec' w' ⟨e1,A1,⟨m',hlt,e2,A2,hs2,hJ2⟩,hS1⟩
   exact hK m' ec' w' ⟨e2,A2,hJ2,hs2 C ec' w' hn hS1⟩ hlt
 | .ret,bs,r,k,e,A,ec,w,hS,h=>⟨e,A,h,hS⟩
 | .rangeFunc ..,_,_,_,_,_,_,_,_,h=>h.elim
 | .scope c,bs,r,k,e,A,ec,w,hS,h=>avc_sound hn c bs r k e A ec w hS h
 | .label _,bs,r,k,e,A,ec,w,hS,h=>⟨e,A,h,hS⟩
 | .goto _,_,_,_,_,_,_,_,_,h=>h.elim
 | .refuse _,_,_,_,_,_,_,_,_,h=>h.elim
def aresOf (P:Program) (e:AEnv) (A:AHeap):ResultVar→Option AV
 | .tmp t=>some (e t)
 | .cell a t=>alv P A t (e a)
def aresAll (P:Program) (e:AEnv) (A:AHeap):List ResultVar→Option (List AV)
 | []=>some []
 | r :: rs => match aresOf P e A r with
   | some v=>(aresAll P e A rs).map (v :: ·)
   | none=>none
def atup:List AV→AV
 | [v]=>v
 | l=>.tup l
def aRet (P:Program) (rs:List ResultVar) (R:AV→AHeap→Prop) (e:AEnv) (A:AHeap):Prop:=∃ l,aresAll P e A rs=some l∧R (atup l) A
theorem aresAll_sound (hR:Rel H ι A w) (h3:EnvS ι A e ec) (h4:EnvM (Nn H ι A) w e ec):∀ (rs:List ResultVar) (l:List AV),aresAll P e A rs=some l →
 ∃ m,resAll P ec w rs=some m∧ShpL ι A l m∧MemL (Nn H ι A) w l m
 | [],l,h=>by simp[aresAll] at h; subst h; exact⟨[],rfl,by simp[ShpL],by simp[MemL]⟩
 | r :: rs, l, h => by
   simp only[aresAll] at h
   split at h
   ·rename_i v hv
    simp only[Option.map_eq_some_iff] at h
    obtain⟨l',hl',rfl⟩:=h
    obtain⟨m,g1,g2,g3⟩:=aresAll_sound hR h3 h4 rs l' hl'
    have:∃ u,resOf P ec w r=some u∧Val ι A (Nn H ι A) w v u:=by
     cases r with
     | tmp t =>
       simp only[aresOf,Option.some.injEq] at hv
       subst hv
       exact⟨_,rfl,h3 t,h4 t⟩
     | cell a t =>
       obtain⟨u,e1,e2⟩:=alv_sound hv hR (h3 a) (h4 a)
       exact⟨u,e1,e2⟩
    obtain⟨u,e1,e2⟩:=this
    refine⟨u::m,by simp only[resAll,e1,g1]; rfl,?_,?_⟩
    ·simp only[ShpL]; exact⟨u,m,rfl,e2.1,g2⟩
    ·simp only[MemL]; exact⟨u,m,rfl,e2.2,g3⟩
   ·cases h
theorem atup_sound {N:Nat→Prop} {l:List AV} {m:List Value} (h1:ShpL ι A l m) (h2:MemL N w l m):Val ι A N w (atup l) (tupOf m):=by
 match l,m,h1,h2 with
 | [], m, h1, h2 =>
   simp only[ShpL] at h1
   subst h1
   exact⟨by simp only[atup,tupOf,Shp]; exact⟨[],rfl,by simp[ShpL]⟩,by simp only[atup,tupOf,Mem]; exact⟨[],rfl,by simp[MemL]⟩⟩
 | [v], m, h1, h2 =>
   simp only[ShpL] at h1
   simp only[MemL] at h2
   obtain⟨u,l',rfl,e1,rfl⟩:=h1
   obtain⟨u',l'',e2,e3,_⟩:=h2
   simp only[List.cons.injEq] at e2
   obtain⟨rfl,_⟩:=e2
   exact⟨e1,e3⟩
 | v :: v2 :: l, m, h1, h2 =>
   have hlen:=h1.len
   obtain⟨u,m',rfl⟩:∃ u m',m=u::m':=by cases m with | nil=>simp at hlen | cons u m'=>exact⟨u,m',rfl⟩
   obtain⟨u2,m'',rfl⟩:∃ u m,m'=u::m:=by cases m' with | nil=>simp at hlen | cons u m=>exact⟨u,m,rfl⟩
   exact⟨by simp only[atup,tupOf,Shp]; exact⟨_,rfl,h1⟩,by simp only[atup,tupOf,Mem]; exact⟨_,rfl,h2⟩⟩
def aenv0 (args:List AV):AEnv:=fun i=>args.getD i .any
mutual
def BdD:D→Prop
 | .v _=>True
 | .sl sz xs=>xs.length≤maxLen∧BdS sz xs
def BdE:List D→Prop
 | []=>True
 | d::ds=>BdD d∧BdE ds
def BdS (sz:Nat):List (List D)→Prop
 | []=>True
 | x::xs=>x.length=sz∧BdE x∧BdS sz xs
end
mutual
def Bd:AV→Prop
 | .d x=>BdD x
 | .ip cs=>BdE cs
 | .agg cs=>BdL cs
 | .tup cs=>BdL cs
 | .fn _ fs cs=>BdL fs∧BdL cs
 | .ifc _ c=>Bd c
 | _=>True
def BdL:List AV→Prop
 | []=>True
 | c::cs=>Bd c∧BdL cs
end
mutual
theorem Rd.bd {H:Nat→Prop} {w:World}:∀ (d:D) (u:Value),Rd H w d u→BdD d
 | .v x,u,h=>by simp[BdD]
 | .sl sz xs, u, h => by
   simp only[Rd] at h
   obtain⟨a,cap,_,h1,h2,h3⟩:=h
   simp only[BdD]
   refine⟨by omega,?_⟩
   rcases h3 with rfl | ⟨b,off,_,_,hs⟩
   ·simp[BdS]
   ·exact RdS.bd b off xs hs
theorem RdE.bd {H:Nat→Prop} {w:World} (b:Nat):∀ (o:Nat) (ds:List D),RdE H w b o ds→BdE ds
 | o,[],h=>by simp[BdE]
 | o, d :: ds, h => by
   simp only[RdE] at h
   obtain⟨⟨u,_,hr⟩,h2⟩:=h
   simp only[BdE]
   exact⟨Rd.bd d u hr,RdE.bd b (o + 1) ds h2⟩
theorem RdS.bd {H:Nat→Prop} {w:World} {sz:Nat} (b:Nat):∀ (o:Nat) (xs:List (List D)),RdS H w sz b o xs→BdS sz xs
 | o,[],h=>by simp[BdS]
 | o, x :: xs, h => by
   simp only[RdS] at h
   simp only[BdS]
   exact⟨h.1,RdE.bd b o x h.2.1,RdS.bd b (o + sz) xs h.2.2⟩
end
mutual
theorem Mem.bd {N:Nat→Prop} {w:World}:∀ (c:AV) (u:Value),Mem N w c u→Bd c
 | .any,u,h=>by simp[Bd]
 | .d x,u,h=>by simp only[Mem] at h; simp only[Bd]; exact Rd.bd x u h
 | .own b ver i len,u,h=>by simp[Bd]
 | .ptr b ver i o,u,h=>by simp[Bd]
 | .ip cs, u, h => by
   simp only[Mem] at h
   obtain⟨b,o,_,_,h⟩:=h
   simp only[Bd]
   exact RdE.bd b o cs h
 | .agg cs, u, h => by
   simp only[Mem] at h
   obtain⟨l,_,h,_⟩:=h
   simp only[Bd]
   exact MemL.bd cs l h
 | .tup cs, u, h => by
   simp only[Mem] at h
   obtain⟨l,_,h⟩:=h
   simp only[Bd]
   exact MemL.bd cs l h
 | .fn f fs cs, u, h => by
   simp only[Mem] at h
   obtain⟨l,m,_,h,g⟩:=h
   simp only[Bd]
   exact⟨MemL.bd fs l h,MemL.bd cs m g⟩
 | .mp b ver,u,h=>by simp[Bd]
 | .ifc t c, u, h => by
   simp only[Mem] at h
   obtain⟨v,_,h⟩:=h
   simp only[Bd]
   exact Mem.bd c v h
theorem MemL.bd {N:Nat→Prop} {w:World}:∀ (cs:List AV) (l:List Value),MemL N w cs l→BdL cs
 | [],l,h=>by simp[BdL]
 | c :: cs, l, h => by
   simp only[MemL] at h
   obtain⟨u,l',_,h1,h2⟩:=h
   simp only[BdL]
   exact⟨Mem.bd c u h1,MemL.bd cs l' h2⟩
end
theorem ac_of {f:FuncId} {fn:Func} {c:Code} {args:List AV} {R:AV→AHeap→Prop} (hf:P.funcs[f]? = some fn) (hb:fn.body=some c) (hd:dstsOk fn.ntmps c=true) (hna:args.length≤fn.ntmps)
 (h:BdL args→avc P A.length c [] (aRet P fn.results.toList R) (aRet P fn.results.toList R) (aenv0 args) A):AC P f args A R:=by
 intro H ι w vs hH hR hs hm
 have hlen:=hs.len
 refine calls_of_vc hf hb hd (by omega) ?_
 have h:=h (hm.bd _ _)
 have hS:Sta ⟨H,ι,A,w⟩ (aenv0 args) A (env0 vs) w:=by
  refine⟨hH,ι,hR,Step.refl _ _ _,fun i=>?_,fun i=>?_⟩
  ·simp only[aenv0,env0,List.getD_eq_getElem?_getD]
   cases hi:args[i]? with
   | none=>simp[Shp]
   | some c =>
     obtain⟨u,h1,h2⟩:=hs.get hi
     rw[h1]
     exact h2
  ·simp only[aenv0,env0,List.getD_eq_getElem?_getD]
   cases hi:args[i]? with
   | none=>simp[Mem]
   | some c =>
     obtain⟨u,h1,h2⟩:=hs.get hi
     rw[h1]
     exact hm.get hi h1
 have hfin:∀ ec w',Lift ⟨H,ι,A,w⟩ (aRet P fn.results.toList R) ec w'→vRet P fn.results.toList (fun en w'=>∃ v r ι' A',en = .returned v∧R r A'∧Rel H ι' A' w'∧Step ι A w ι' A' w'∧Val ι' A' (Nn H ι' A') w' r v) ec w':=by
  rintro ec w' ⟨e,A',⟨l,hl,hr⟩,_,ι',h1,h2,h3,h4⟩
  obtain⟨m,g1,g2,g3⟩:=aresAll_sound h1 h3 h4 _ _ hl
  exact⟨m,g1,_,_,ι',A',rfl,hr,h1,h2,atup_sound g2 g3⟩
 have:=avc_sound (C:=⟨H,ι,A,w⟩) rfl c [] _ _ _ _ _ _ hS h
 have h2:=vc_mono c (BLe.refl _) hfin _ _ this
 have:∀ (c:Code) (bs:List (Nat×Kont)) (r r' k:Kont),KLe r r'→KLe (vc P c bs r k) (vc P c bs r' k):=by
  intro c
  induction c with
  | skip=>exact fun _ _ _ _ _ _ _ h=>h
  | region id ops dr=>cases dr<;>exact fun _ _ _ _ _ _ _ h=>h
  | seq a b iha ihb=>exact fun bs r r' k hr e w h=>iha bs r r' _ hr e w (vc_mono a (BLe.refl _) (ihb bs r r' k hr) _ _ h)
  | cond c a b iha ihb =>
    rintro bs r r' k hr e w ⟨t,ht,h⟩
    refine⟨t,ht,?_⟩
    cases t
    ·exact ihb bs r r' k hr e w h
    ·exact iha bs r r' k hr e w h
  | block id c ih=>exact fun bs r r' k hr e w h=>ih _ r r' k hr e w h
  | exit id=>exact fun _ _ _ _ _ _ _ h=>h
  | loop c ih=>exact fun bs r r' k hr e w ⟨I,μ,h0,h⟩=>⟨I,μ,h0,fun e w hI=>ih bs r r' _ hr e w (h e w hI)⟩
  | ret=>exact fun _ _ _ _ hr e w h=>hr e w h
  | scope c ih=>exact fun bs r r' k hr e w h=>ih bs r r' k hr e w h
  | label l=>exact fun _ _ _ _ _ _ _ h=>h
  | _=>exact fun _ _ _ _ _ _ _ h=>h.elim
 exact this c _ _ _ _ hfin _ _ h2
end
end Go.Proofs.YtfnbhkbfelllgaaGreatDoor
