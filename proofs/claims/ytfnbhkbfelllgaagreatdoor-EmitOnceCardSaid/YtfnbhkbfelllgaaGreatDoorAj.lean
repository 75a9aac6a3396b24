import Derived.Test.YtfnbhkbfelllgaaGreatDoorAi
set_option linter.all false
namespace Go.Proofs.YtfnbhkbfelllgaaGreatDoor
open Go.RowKit
section
variable {P:Program} {H:Nat→Prop} {ι ι0:Place} {A A0:AHeap} {w w' w0:World} {e:AEnv} {ec:Env} {C:Ctx} {n n0:Nat} {K:AKont} {ops:List Oper} {late:List (Nat×Nat)}
theorem avdo_ex {Cr:Nat→AV→Prop} {i:Nat} {o:Oper} {K1:ADS→Prop} {σ:ADS} (h:avdo P n0 Cr i o K1 σ):∃ r σ',K1 σ'∧∀ (Cr':Nat→AV→Prop) (K1':ADS→Prop),Cr' i r→K1' σ'→avdo P n0 Cr' i o K1' σ:=by
 have hset:∀ {x:Option AV} {d:Option Nat},adSet x K1 σ d→∃ r σ',K1 σ'∧∀ (Cr':Nat→AV→Prop) (K1':ADS→Prop),Cr' i r→K1' σ'→adSet x K1' σ d:=fun⟨v,h1,h2⟩=>⟨.any,_,h2,fun _ _ _ hk=>⟨v,h1,hk⟩⟩
 have hnew:∀ {x:Option (AV×Blk)} {d:Option Nat},adNew x K1 σ d→∃ r σ',K1 σ'∧∀ (Cr':Nat→AV→Prop) (K1':ADS→Prop),Cr' i r→K1' σ'→adNew x K1' σ d:=fun⟨v,k,h1,h2⟩=>⟨.any,_,h2,fun _ _ _ hk=>⟨v,k,h1,hk⟩⟩
 unfold avdo at h ⊢
 split at h
 ·unfold adLoad at h ⊢
  split at h
  ·obtain⟨h1,v,h2,h3⟩:=h
   exact⟨.any,_,h3,fun _ _ _ hk=>⟨h1,v,h2,hk⟩⟩
  ·obtain⟨v,h2,h3⟩:=h
   exact⟨.any,_,h3,fun _ _ _ hk=>⟨v,h2,hk⟩⟩
  ·exact h.elim
 ·unfold adStore at h ⊢
  split at h
  ·exact⟨.any,_,h.2,fun _ _ _ hk=>⟨h.1,hk⟩⟩
  ·exact h.elim
 ·exact hnew h
 ·exact hnew h
 ·exact hnew h
 ·exact hnew h
 ·split at h
  ·obtain⟨g,fs,cs,r,args',h1,h2,h3,h3',h4,h5,h6⟩:=h
   exact⟨r,_,h6,fun _ _ hc hk=>⟨g,fs,cs,r,args',h1,h2,hc,h3',h4,h5,hk⟩⟩
  ·exact hset h
  ·exact hset h
  ·exact h.elim
 all_goals first | exact hset h | exact h.elim
theorem avd_mono {Cr Cr':Nat→AV→Prop}:∀ (l:List Oper) (i:Nat) (σ:ADS),(∀ j r,i≤j→Cr j r→Cr' j r)→avd P n0 ops late Cr K i l σ→avd P n0 ops late Cr' K i l σ
 | [],i,σ,_,h=>h
 | o :: os, i, σ, hc, h => by
   have ih:=fun σ=>avd_mono (Cr:=Cr) (Cr':=Cr') os (i + 1) σ fun j r hj=>hc j r (by omega)
   have key:avdo P n0 Cr i o (avd P n0 ops late Cr K (i + 1) os) σ→avdo P n0 Cr' i o (avd P n0 ops late Cr' K (i + 1) os) σ:=fun h=>by
    have hset:∀ {x:Option AV} {d:Option Nat},adSet x (avd P n0 ops late Cr K (i + 1) os) σ d→adSet x (avd P n0 ops late Cr' K (i + 1) os) σ d:=fun⟨v,h1,h2⟩=>⟨v,h1,ih _ h2⟩
    have hnew:∀ {x:Option (AV×Blk)} {d:Option Nat},adNew x (avd P n0 ops late Cr K (i + 1) os) σ d→adNew x (avd P n0 ops late Cr' K (i + 1) os) σ d:=fun⟨v,k,h1,h2⟩=>⟨v,k,h1,ih _ h2⟩
    unfold avdo at h ⊢
    split at h
    ·unfold adLoad at h ⊢
     split at h
     ·obtain⟨h1,v,h2,h3⟩:=h
      exact⟨h1,v,h2,ih _ h3⟩
     ·obtain⟨v,h2,h3⟩:=h
      exact⟨v,h2,ih _ h3⟩
     ·exact h.elim
    ·unfold adStore at h ⊢
     split at h
     ·exact⟨h.1,ih _ h.2⟩
     ·exact h.elim
    ·exact hnew h
    ·exact hnew h
    ·exact hnew h
    ·exact hnew h
    ·split at h
     ·obtain⟨g,fs,cs,r,args',h1,h2,h3,h3',h4,h5,h6⟩:=h
      exact⟨g,fs,cs,r,args',h1,h2,hc i r (Nat.le_refl _) h3,h3',h4,h5,ih _ h6⟩
     ·exact hset h
     ·exact hset h
     ·exact h.elim
    all_goals first | exact hset h | exact h.elim
   simp only[avd] at h ⊢
   split at h
   ·exact key h
   ·obtain⟨b,hb,h⟩:=h
    refine⟨b,hb,?_⟩
    split at h
    ·rename_i hbw; rw[if_pos hbw]; exact key h
    ·rename_i hbw; rw[if_neg hbw]; exact ih _ h
theorem avd_ex:∀ (l:List Oper) (i:Nat) (σ:ADS),avd P n0 ops late (fun _ _=>True) K i l σ→∃ rs:Nat→AV,avd P n0 ops late (fun i r=>r=rs i) K i l σ
 | [],i,σ,h=>⟨fun _=>.any,h⟩
 | o :: os, i, σ, h => by
   have key:avdo P n0 (fun _ _=>True) i o (avd P n0 ops late (fun _ _=>True) K (i + 1) os) σ→∃ rs:Nat→AV,avdo P n0 (fun i r=>r=rs i) i o (avd P n0 ops late (fun i r=>r=rs i) K (i + 1) os) σ:=fun h=>by
    obtain⟨r,σ',h1,h2⟩:=avdo_ex h
    obtain⟨rs,h3⟩:=avd_ex os (i + 1) σ' h1
    refine⟨fun j=>if j=i then r else rs j,h2 _ _ (by simp) ?_⟩
    exact avd_mono os (i + 1) σ' (fun j r hj hr=>by simp only; rw[if_neg (by omega)]; exact hr) h3
   simp only[avd] at h
   cases hg:o.guard with
   | none =>
     rw[hg] at h
     obtain⟨rs,h⟩:=key h
     exact⟨rs,by simp only[avd,hg]; exact h⟩
   | some g =>
     obtain⟨j,want⟩:=g
     rw[hg] at h
     obtain⟨b,hb,h⟩:=h
     by_cases hbw:b=some want
     ·rw[if_pos hbw] at h
      obtain⟨rs,h⟩:=key h
      exact⟨rs,by simp only[avd,hg]; exact⟨b,hb,by rw[if_pos hbw]; exact h⟩⟩
     ·rw[if_neg hbw] at h
      obtain⟨rs,h⟩:=avd_ex os (i + 1) _ h
      exact⟨rs,by simp only[avd,hg]; exact⟨b,hb,by rw[if_neg hbw]; exact h⟩⟩
section
variable {T:List Nat} {σa:ADS} {σc:DS}
theorem DInv.set (hI:DInv H ι0 A0 w0 T ι σa σc) {d:Option Nat} {r:AV} {u:Value} (h1:Shp ι σa.A r u) (h2:∀ w,Ext w0 w→FactsAll σc.facts w→Mem (Zr H ι0 A0 w0 σc.rg) w r u)
 (h3:∀ d',d=some d'→d'∉T→Mem (Nn H ι0 A0) w0 r u):DInv H ι0 A0 w0 T ι ⟨aupd σa.e d r,σa.A,σa.lds,σa.sts,σa.st⟩ { σc with e:=upd σc.e d u } where
 blk:=⟨hI.blk.pre,hI.blk.iold,hI.blk.new,hI.blk.ninj,hI.blk.nbz,hI.blk.len⟩
 shp:=shp_upd hI.shp h1
 mem w hx hf:=mem_upd (hI.mem w hx hf) (h2 w hx hf)
 old t ht:=by
  cases d with
  | none=>exact hI.old t ht
  | some d =>
    simp only[aupd,upd]
    by_cases htd:t=d
    ·subst htd; rw[if_pos rfl,if_pos rfl]; exact h3 t rfl ht
    ·rw[if_neg htd,if_neg htd]; exact hI.old t ht
 lds:=hI.lds
 sts:=hI.sts
 stl:=hI.stl
 st:=hI.st
theorem DInv.more (hI:DInv H ι0 A0 w0 T ι σa σc) (f:List Fact) (R:List (Nat×Nat)) (hR:∀ c∈σc.nb,∀ r∈R,¬ (r.1≤c∧c < r.2)):DInv H ι0 A0 w0 T ι σa { σc with facts:=σc.facts++f,rg:=R++σc.rg }:=by
 have hz:∀ c,Zr H ι0 A0 w0 (R++σc.rg) c→Zr H ι0 A0 w0 σc.rg c:=zr_mono fun r hr=>List.mem_append.2 (.inr hr)
 refine⟨⟨hI.blk.pre,hI.blk.iold,fun b k hb hk=>?_,hI.blk.ninj,fun c hc=>⟨(hI.blk.nbz c hc).1,fun r hr=>(List.mem_append.1 hr).elim (hR c hc r) ((hI.blk.nbz c hc).2 r)⟩,hI.blk.len⟩,hI.shp,fun w hx hf i=>(hI.mem w hx (facts_app.1 hf).1 i).weak hz,hI.old,hI.lds,hI.sts,hI.stl,fun i x y hx hy=>?_⟩
 ·obtain⟨c,m,arr,e1,e2,e3,e4,e5,e6⟩:=hI.blk.new b k hb hk
  refine⟨c,m,arr,e1,e2,e3,e4,fun w hx hf=>e5 w hx (facts_app.1 hf).1,fun i x hi=>⟨(e6 i x hi).1,fun j av hj=>?_⟩⟩
  obtain⟨u,g1,g2,g3⟩:=(e6 i x hi).2 j av hj
  exact⟨u,g1,g2,fun w hx hf=>⟨(g3 w hx (facts_app.1 hf).1).1.weak hz,(g3 w hx (facts_app.1 hf).1).2⟩⟩
 ·obtain⟨g1,g2,g3,g4⟩:=hI.st i x y hx hy
  exact⟨g1,g2,g3,fun w hx hf=>(g4 w hx (facts_app.1 hf).1).weak hz⟩
theorem DInv.alloc (hI:DInv H ι0 A0 w0 T ι σa σc) {op:Op} {i:Nat} {r:AV} {k:Blk} {t:TypeId} {cs:List Value} {f:Addr→Value} (hn:NewOk P σa.e σc.e op σa.A.length r k t cs f) {b:Nat} (hb:w0.heap.size≤b) (hnb:b∉σc.nb)
 (hrg:∀ r∈σc.rg,¬ (r.1≤b∧b < r.2)) {d:Option Nat} (hd:∀ d',d=some d'→d'∈T) :
 DInv H ι0 A0 w0 T (newI ι σa.A.length b cs.length) ⟨aupd σa.e d r,σa.A++[k],σa.lds,σa.sts,σa.st⟩
  { σc with e:=upd σc.e d (f ⟨b,0,none⟩),facts:=σc.facts++[(i,fun w=>w.heap[b]? = some (.cells cs.toArray t (0,0)))],nb:=b::σc.nb }:=by
 have hB:=hI.blk
 have hlen:=hB.len
 have hlt:∀ c,c < σa.A.length→newI ι σa.A.length b cs.length c=ι c:=fun c hc=>by simp only[newI]; rw[if_neg (by omega)]
 have hstab:∀ (c:Nat) (k':Blk),σa.A[c]? = some k'→∃ k2,(σa.A++[k])[c]? = some k2∧k'.ver≤k2.ver∧(k'.ver=k2.ver→newI ι σa.A.length b cs.length c=ι c∧k2.sz=k'.sz):=fun c k' hc=>
  ⟨k',by rw[gAL (gSI.1 hc).1]; exact hc,Nat.le_refl _,fun _=>⟨hlt c (gSI.1 hc).1,rfl⟩⟩
 have hget:∀ (c:Nat) (k':Blk),(σa.A++[k])[c]? = some k'→(c < σa.A.length∧σa.A[c]? = some k')∨(c=σa.A.length∧k'=k):=by
  intro c k' h
  rw[List.getElem?_append] at h
  split at h
  ·exact .inl ⟨‹_›,h⟩
  ·have h0:=(gSI.1 h).1
   simp at h0
   have:c=σa.A.length:=by omega
   subst this
   simp at h
   exact .inr ⟨rfl,h.symm⟩
 have hfa:∀ w,FactsAll (σc.facts++[(i,fun w=>w.heap[b]? = some (.cells cs.toArray t (0,0)))]) w→FactsAll σc.facts w:=fun w h=>(facts_app.1 h).1
 refine⟨⟨fun c k' hc=>?_,fun c hc=>(hlt c (by omega)).trans (hB.iold c hc),fun c k' hc hk'=>?_,fun c c' cc m m' h1 h2 h3 h4 g1 g2=>?_,fun c hc=>?_,by simp only[List.length_append]; omega⟩,shp_upd (fun j=>Shp.step hstab _ _ (hI.shp j)) (hn.val _ _ _ (by simp) (by simp[newI])),fun w hx hf=>mem_upd (hI.mem w hx (hfa w hf)) (hn.free _ _ _),fun s hs=>?_,hI.lds,fun x hx=>?_,hI.stl,fun j x y hx hy=>?_⟩
 ·have:=hB.pre c k' hc
  rw[gAL (gSI.1 this).1]
  exact this
 ·rcases hget c k' hk' with⟨hc',hk2⟩ | ⟨rfl,rfl⟩
  ·obtain⟨cc,m,arr,e1,e2,e3,e4,e5,e6⟩:=hB.new c k' hc hk2
   refine⟨cc,m,arr,(hlt c hc').trans e1,List.mem_cons_of_mem _ e2,e3,e4,fun w hx hf=>e5 w hx (hfa w hf),fun i x hi=>⟨(e6 i x hi).1,fun j av hj=>?_⟩⟩
   obtain⟨u,g1,g2,g3⟩:=(e6 i x hi).2 j av hj
   exact⟨u,g1,Shp.step hstab _ _ g2,fun w hx hf=>g3 w hx (hfa w hf)⟩
  ·refine⟨b,cs.length,cs.toArray,by simp[newI],List.mem_cons_self,by simp,⟨Nat.le_of_eq hn.len,hn.tyl⟩,fun w hx hf=>?_,fun i' x hi=>?_⟩
   ·have:=(facts_app.1 hf).2
    simp only[FactsAll,and_true] at this
    rw[this,hn.ty]
   ·have h1:=hn.shp ι σa.A hI.shp i' x hi
    refine⟨h1.1,fun j av hj=>?_⟩
    obtain⟨u,g1,g2⟩:=h1.2 j av hj
    exact⟨u,by simpa using g1,Shp.step hstab _ _ g2,fun w hx hf=>hn.mem _ w (hI.mem w hx (hfa w hf)) i' x hi j av hj u g1⟩
 ·simp only[List.length_append,List.length_cons,List.length_nil] at h2 h4
  by_cases e1:c=σa.A.length<;>by_cases e2:c'=σa.A.length
  ·omega
  ·subst e1
   simp only[newI,if_true,Option.some.injEq,Prod.mk.injEq] at g1
   rw[hlt c' (by omega)] at g2
   obtain⟨cc',m2,arr,e3,e4,_⟩:=hB.new c' _ h3 (gEG (by omega))
   rw[g2] at e3
   simp only[Option.some.injEq,Prod.mk.injEq] at e3
   exact absurd (by rw[g1.1,e3.1]; exact e4) hnb
  ·subst e2
   simp only[newI,if_true,Option.some.injEq,Prod.mk.injEq] at g2
   rw[hlt c (by omega)] at g1
   obtain⟨cc',m2,arr,e3,e4,_⟩:=hB.new c _ h1 (gEG (by omega))
   rw[g1] at e3
   simp only[Option.some.injEq,Prod.mk.injEq] at e3
   exact absurd (by rw[g2.1,e3.1]; exact e4) hnb
  ·rw[hlt c (by omega)] at g1
   rw[hlt c' (by omega)] at g2
   exact hB.ninj c c' cc m m' h1 (by omega) h3 (by omega) g1 g2
 ·rcases List.mem_cons.1 hc with rfl | hc
  ·exact⟨hb,hrg⟩
  ·exact hB.nbz c hc
 ·cases d with
  | none=>exact hI.old s hs
  | some d =>
    simp only[aupd,upd]
    have hsd:s≠d:=fun h=>hs (h ▸ hd d rfl)
    rw[if_neg hsd,if_neg hsd]
    exact hI.old s hs
 ·obtain⟨c,k',m,e1,e2,e3,e4⟩:=hI.sts x hx
  have hc:=(gSI.1 e2).1
  exact⟨c,k',m,e1,by rw[gAL hc]; exact e2,e3,(hlt c hc).trans e4⟩
 ·obtain⟨g1,g2,g3,g4⟩:=hI.st j x y hx hy
  exact⟨g1,Shp.step hstab _ _ g2,Shp.step hstab _ _ g3,fun w hx hf=>g4 w hx (hfa w hf)⟩
theorem mem_seen {o:Oper} (ht:tnt T o=false) {x:Operand} (hx:x∈o.op.operands) (t:Nat) (he:x = .tmp t):t∉T:=by
 unfold tnt at ht
 simp only[Bool.or_eq_false_iff,List.any_eq_false] at ht
 have:=ht.2 x (by simpa using hx)
 rw[he] at this
 simpa using this
theorem pure_old (hI:DInv H ι0 A0 w0 T ι σa σc) {o:Oper} {r:AV} {v:Value} (ht:tnt T o=false) (h:apv P σa.A σa.e o.op=some r) (hv:pvB P σc.e o.op=some v):Mem (Nn H ι0 A0) w0 r v:=by
 classical
 have hag:∀ x∈o.op.operands,eva σa.e x=eva (fun t=>if t∈T then .any else σa.e t) x:=fun x hx=>eva_agree fun t he=>by
  simp only[mem_seen ht hx t he,if_false]
 rw[apv_agree hag] at h
 have hs:EnvS ι σa.A (fun t=>if t∈T then .any else σa.e t) σc.e:=fun t=>by
  simp only
  split
  ·simp[Shp]
  ·exact hI.shp t
 obtain⟨v',g1,_,g3⟩:=apv_sound hs h
 rw[hv] at g1
 obtain rfl:=oSI g1
 exact g3 _ _ fun t=>by
  simp only
  split
  ·simp[Mem]
  ·exact hI.old t ‹_›
end
theorem avdo_sound {T:List Nat} (hR0:Rel H ι0 A0 w0) (hH:∀ c,H c→c < w0.heap.size) (hG:GbIs w0) {rs:Nat→AV} {i:Nat} {o:Oper} (hT:okTo T o=true) {σa:ADS} {σc:DS} (hI:DInv H ι0 A0 w0 T ι σa σc) {K1a:ADS→Prop} {K1c:DS→Prop}
 (hK:∀ ι σa' σc',DInv H ι0 A0 w0 T ι σa' σc'→K1a σa'→K1c σc') (h:avdo P A0.length (fun i r=>r=rs i) i o K1a σa):vdo P (fun i=>spR (Zr H ι0 A0 w0) (rs i)) w0 i o K1c σc:=by
 unfold okTo at hT
 simp only[Bool.and_eq_true,Bool.or_eq_true,Bool.not_eq_true'] at hT
 obtain⟨hT1,hT2⟩:=hT
 have hdT:tnt T o=true→∀ d',o.dst=some d'→d'∈T:=fun ht d' hd=>by
  rcases hT1 with h | h
  ·rw[ht] at h; cases h
  ·rw[hd] at h; simpa using h
 have hset:∀ {op:Op},o.op=op→adSet (apv P σa.A σa.e op) K1a σa o.dst→vdSet (pvB P σc.e op) K1c σc o.dst:=by
  rintro op hop ⟨r,hr,hk⟩
  obtain⟨v,g1,g2,g3⟩:=apv_sound hI.shp hr
  refine⟨v,g1,hK ι _ _ (hI.set g2 (fun w hx hf=>g3 _ _ (hI.mem w hx hf)) fun d' hd hd'=>?_) hk⟩
  have ht:tnt T o=false:=by
   cases ht:tnt T o with
   | false=>rfl
   | true=>exact absurd (hdT ht d' hd) hd'
  exact pure_old hI ht (by rw[hop]; exact hr) (by rw[hop]; exact g1)
 have hnew:∀ {op:Op},o.op=op→isNew op=true→adNew (newA P σa.A.length σa.e op) K1a σa o.dst→vdNew w0 (newOf P σc.e op) i K1c σc o.dst:=by
  rintro op hop hnw ⟨r,k,hr,hk⟩
  obtain⟨t,cs,f,hno⟩:=newA_sound hI.shp hr
  refine⟨t,cs,f,hno.of,fun b hb hnb hrg=>hK _ _ _ (hI.alloc (i:=i) hno hb hnb hrg (hdT ?_)) hk⟩
  simp[tnt,hop,hnw]
 unfold avdo at h
 unfold vdo
 generalize hop:o.op=op at h
 cases op with
 | load t a =>
   simp only at h ⊢
   rw[hop] at hT2
   have haT:∀ s,a = .tmp s→s∉T:=fun s hs=>by subst hs; simpa using hT2
   have hm0:Mem (Nn H ι0 A0) w0 (eva σa.e a) (ev σc.e a):=by
    cases a with
    | tmp s=>exact hI.old s (haT s rfl)
    | const v=>exact ofV_mem _ _ v
    | global g=>simp[eva,Mem]
    | func f=>simp[eva,ev,Mem,MemL]
   have hs:=eva_shp hI.shp a
   unfold adLoad at h
   split at h
   ·rename_i b ver i' o' hp
    obtain⟨hb,r,hr,hk⟩:=h
    rw[hp] at hs hr
    have hcur:curB σa.A b ver=curB A0 b ver:=by
     unfold curB
     rw[hI.blk.pre b _ (gEG hb),gEG hb]
    have hr0:alv P A0 t (.ptr b ver i' o')=some r:=by
     simp only[alv,hcur] at hr ⊢
     exact hr
    have hk0:∃ k,curB A0 b ver=some k:=by
     simp only[alv] at hr0
     split at hr0
     ·exact⟨_,‹_›⟩
     ·cases hr0
    obtain⟨k,hk0⟩:=hk0
    obtain⟨c,m,hι,hu⟩:=ptr_shp (by rw[hcur]; exact hk0) hs
    rw[hI.blk.iold b hb] at hι
    have hs0:Shp ι0 A0 (.ptr b ver i' o') (ev σc.e a):=by rw[hu]; exact shp_ptr hk0 hι
    obtain⟨v,g1,g2⟩:=alv_sound hr0 hR0 hs0 (by simp[Mem])
    have hclt:=(hR0.hid b k c m (curB_get hk0) hι).2
    refine⟨c,i' * k.sz + o',v,hu,g1,hclt,?_⟩
    have hstab:∀ (b:Nat) (k:Blk),A0[b]? = some k→∃ k',σa.A[b]? = some k'∧k.ver≤k'.ver∧(k.ver=k'.ver→ι b=ι0 b∧k'.sz=k.sz):=fun b k hb=>⟨k,hI.blk.pre b k hb,Nat.le_refl _,fun _=>⟨hI.blk.iold b (gSI.1 hb).1,rfl⟩⟩
    have hI2:=hI.set (d:=o.dst) (Shp.step hstab _ _ g2.1) (fun w hx hf=>old_mem hx g2.2) fun _ _ _=>g2.2
    exact hK ι ⟨aupd σa.e o.dst r,σa.A,(i,b)::σa.lds,σa.sts,σa.st⟩ { σc with e:=upd σc.e o.dst v,lds:=(i,c)::σc.lds } ⟨⟨hI2.blk.pre,hI2.blk.iold,hI2.blk.new,hI2.blk.ninj,hI2.blk.nbz,hI2.blk.len⟩,hI2.shp,hI2.mem,hI2.old,fun x hx=>by
     rcases List.mem_cons.1 hx with rfl | hx
     ·exact .inl ⟨b,m,hb,List.mem_cons_self,hι⟩
     ·rcases hI.lds x hx with⟨b',m',e1,e2,e3⟩ | e
      ·exact .inl ⟨b',m',e1,List.mem_cons_of_mem _ e2,e3⟩
      ·exact .inr e,hI2.sts,hI2.stl,hI2.st⟩ hk
   ·rename_i cs hp
    obtain⟨r,hr,hk⟩:=h
    rw[hp] at hs hr hm0
    have hr0:alv P A0 t (.ip cs)=some r:=by simpa only[alv] using hr
    have hs0:Shp ι0 A0 (.ip cs) (ev σc.e a):=by simpa only[Shp] using hs
    obtain⟨v,g1,g2⟩:=alv_sound hr0 hR0 hs0 hm0
    simp only[Mem] at hm0
    obtain⟨c,off,hu,hc,_⟩:=hm0
    refine⟨c,off,v,hu,g1,hc.1,?_⟩
    have hstab:∀ (b:Nat) (k:Blk),A0[b]? = some k→∃ k',σa.A[b]? = some k'∧k.ver≤k'.ver∧(k.ver=k'.ver→ι b=ι0 b∧k'.sz=k.sz):=fun b k hb=>⟨k,hI.blk.pre b k hb,Nat.le_refl _,fun _=>⟨hI.blk.iold b (gSI.1 hb).1,rfl⟩⟩
    have hI2:=hI.set (d:=o.dst) (Shp.step hstab _ _ g2.1) (fun w hx hf=>old_mem hx g2.2) fun _ _ _=>g2.2
    exact hK ι _ { σc with e:=upd σc.e o.dst v,lds:=(i,c)::σc.lds } ⟨⟨hI2.blk.pre,hI2.blk.iold,hI2.blk.new,hI2.blk.ninj,hI2.blk.nbz,hI2.blk.len⟩,hI2.shp,hI2.mem,hI2.old,fun x hx=>by
     rcases List.mem_cons.1 hx with rfl | hx
     ·exact .inr hc
     ·exact hI.lds x hx,hI2.sts,hI2.stl,hI2.st⟩ hk
   ·exact h.elim
 | store t a x =>
   simp only at h ⊢
   have hs:=eva_shp hI.shp a
   unfold adStore at h
   split at h
   ·rename_i b ver i' o' hp
    obtain⟨⟨k,hkc,hkw⟩,hk⟩:=h
    rw[hp] at hs
    obtain⟨c,m,hι,hu⟩:=ptr_shp hkc hs
    refine⟨c,i' * k.sz + o',hu,?_⟩
    have hI2:=hI.set (d:=o.dst) (r:=.any) (u:=undef) (by simp[Shp]) (fun w hx hf=>by simp[Mem]) fun _ _ _=>by simp[Mem]
    refine hK ι ⟨aupd σa.e o.dst .any,σa.A,σa.lds,(i,b)::σa.sts,σa.st++[(t,eva σa.e a,eva σa.e x)]⟩ { σc with e:=upd σc.e o.dst undef,sts:=(i,c)::σc.sts,st:=σc.st++[(i,t,ev σc.e a,ev σc.e x)] } ⟨⟨hI2.blk.pre,hI2.blk.iold,hI2.blk.new,hI2.blk.ninj,hI2.blk.nbz,hI2.blk.len⟩,hI2.shp,hI2.mem,hI2.old,hI2.lds,fun y hy=>?_,by simp[hI.stl],fun j y z hy hz=>?_⟩ hk
    ·rcases List.mem_cons.1 hy with rfl | hy
     ·exact⟨b,k,m,List.mem_cons_self,curB_get hkc,hkw,hι⟩
     ·obtain⟨b',k',m',e1,e2⟩:=hI.sts y hy
      exact⟨b',k',m',List.mem_cons_of_mem _ e1,e2⟩
    ·simp only[List.getElem?_append] at hy hz
     rw[hI.stl] at hy
     split at hy
     ·rename_i hlt
      rw[if_pos hlt] at hz
      exact hI.st j y z hy hz
     ·rename_i hlt
      rw[if_neg hlt] at hz
      have hj0:j - σa.st.length=0:=by
       have:=(gSI.1 hy).1
       simp at this
       omega
      rw[hj0] at hy hz
      simp only[List.getElem?_cons_zero,Option.some.injEq] at hy hz
      subst hy hz
      exact⟨rfl,by rw[hp] at *; exact hs,eva_shp hI.shp x,fun w hx hf=>eva_mem (hI.mem w hx hf) x⟩
   ·exact h.elim
 | alloc t =>
   simp only at h ⊢
   simp only[isPure,isNew,Bool.false_eq_true,if_false,if_true]
   exact hnew hop rfl h
 | box t x =>
   simp only at h ⊢
   simp only[isPure,isNew,Bool.false_eq_true,if_false,if_true]
   exact hnew hop rfl h
 | buildSlice t len ps =>
   simp only at h ⊢
   simp only[isPure,isNew,Bool.false_eq_true,if_false,if_true]
   exact hnew hop rfl h
 | makeSlice t x y =>
   simp only at h ⊢
   simp only[isPure,isNew,Bool.false_eq_true,if_false,if_true]
   exact hnew hop rfl h
 | call c =>
   obtain⟨callee,args,ats⟩:=c
   cases callee with
   | invoke=>exact h.elim
   | builtin b =>
     cases b<;>first | exact h.elim | (simp only[isPure,if_true]; exact hset hop h)
   | value f =>
     simp only at h ⊢
     simp only[isPure,isNew,Bool.false_eq_true,if_false]
     obtain⟨g,fs,cs,r,args',hf,hok,hr,hcl,harg,haf,hk⟩:=h
     have htn:tnt T o=true:=by simp[tnt,hop,isCall,isPure,isNew,isStore,isLoad]
     have hfs:=eva_shp hI.shp f
     rw[hf] at hfs
     simp only[Shp] at hfs
     obtain⟨l,m,hu,s1,s2⟩:=hfs
     have hvs:ShpL ι σa.A (fs++args.toList.map (eva σa.e)++cs) (l++args.toList.map (ev σc.e)++m):=ShpL.app (ShpL.app s1 (shpL_map hI.shp _)) s2
     have harr:(l++args.toList.map (ev σc.e)++m).toArray=l.toArray++args.map (ev σc.e)++m.toArray:=by simp
     have hmem:∀ w,Ext w0 w→FactsAll σc.facts w→MemL (Zr H ι0 A0 w0 σc.rg) w (fs++args.toList.map (eva σa.e)++cs) (l++args.toList.map (ev σc.e)++m):=fun w hx hf'=>by
      have hE:=hI.mem w hx hf'
      have hfm:=eva_mem hE f
      rw[hf] at hfm
      simp only[Mem] at hfm
      obtain⟨l',m',hu',m1,m2⟩:=hfm
      rw[hu] at hu'
      simp only[Value.func.injEq,true_and] at hu'
      obtain⟨e1,e2⟩:=hu'
      have e1:l=l':=by simpa using e1
      have e2:m=m':=by simpa using e2
      subst e1 e2
      exact MemL.app (MemL.app m1 (memL_map hE _)) m2
     refine⟨fun x w w' hx hB=>⟨hB.1,Mem.keep ?_ _ _ hB.2⟩,fun w hx hf'=>?_,fun x hx=>?_⟩
     ·exact fun b hb hn=>⟨⟨Nat.lt_of_lt_of_le hb hx.size,hn⟩,hx.heap hb⟩
     ·unfold specAt
      rw[hop]
      simp only
      refine⟨g,l.toArray,m.toArray,hu,hok,?_⟩
      have hM:=hmem w hx hf'
      have hws:=hx.size
      let Hz':Nat→Prop:=fun c=>c < w.heap.size∧Zr H ι0 A0 w0 σc.rg c
      have hres:∀ (Hx:Nat→Prop),(∀ c,Hx c→c < w.heap.size)→ShpL none0 [] args' (l++args.toList.map (ev σc.e)++m)→MemL Hx w args' (l++args.toList.map (ev σc.e)++m)→(∀ v w',Ext w w'→Val none0 [] Hx w' r v→Mem (Zr H ι0 A0 w0 ((w.heap.size,w'.heap.size)::σc.rg)) w' r v) →
       Calls P g (l.toArray++args.map (ev σc.e)++m.toArray) w fun en w'=>∃ x,en = .returned ((spR (Zr H ι0 A0 w0) (rs i)).F x)∧(spR (Zr H ι0 A0 w0) (rs i)).B x w'∧Ext w w'∧∀ r∈x.rg,(w.heap.size≤r.1∧r.2≤w'.heap.size)∨r∈σc.rg:=by
       intro Hx hHx h1 h2 h3
       rw[← harr]
       refine (haf Hx w _ (HOk.nil hHx (hG.ext hx)) h1 h2).mono ?_
       rintro en w' ⟨v,hv,hval,hx'⟩
       rw[← hr]
       refine⟨⟨v,(w.heap.size,w'.heap.size)::σc.rg⟩,?_,⟨hval.1,h3 v w' hx' hval⟩,hx',fun r hr=>?_⟩
       ·simp only[spR]
        rw[if_pos hval.1]
        exact hv
       ·rcases List.mem_cons.1 hr with rfl | hr
        ·exact .inl ⟨Nat.le_refl _,Nat.le_refl _⟩
        ·exact .inr hr
      rcases harg with⟨hclo,hle⟩ | ⟨hrei,hsc⟩
      ·refine hres Hz' (fun c hc=>hc.1) (NLeL.shp _ _ _ hle (cloL_shp _ _ hclo hvs)) (NLeL.mem _ _ _ hle (MemL.keep (fun b hb hn=>⟨⟨hb,fun hh=>hn hh.2⟩,rfl⟩) _ _ hM)) fun v w' hx' hval=>Mem.keep (fun b hb hn=>⟨⟨hb,fun hz=>?_⟩,rfl⟩) _ _ hval.2
       rcases Nat.lt_or_ge b w.heap.size with hlt | hge
       ·exact hn ⟨hlt,zr_mono (fun r hr=>List.mem_cons_of_mem _ hr) b hz⟩
       ·rcases hz with⟨h1,_⟩ | ⟨_,h2⟩
        ·omega
        ·exact h2 _ List.mem_cons_self ⟨hge,hb⟩
      ·obtain⟨hRw,_⟩:=dblk_rel hI.blk hR0 hH hx hf'
       unfold argO at hrei
       split at hrei
       case h_2=>exact hrei.elim
       rename_i a0 a1 hr0
       obtain⟨g1,g2⟩:=reiVL_sound (ι':=none0) (A':=[]) hRw hr0 hvs (MemL.keep (fun b hb hn=>⟨⟨hb,fun hh=>hn (nn_zr hI.blk hR0 hH b hh)⟩,rfl⟩) _ _ hM)
       exact hres _ (hz_lt (fun c hc=>Nat.lt_of_lt_of_le (hH c hc) hws) hRw false) (NLeL.shp _ _ _ hrei g1) (NLeL.mem _ _ _ hrei g2) fun v w' hx' hval=>scal_mem hsc hval.2
     ·have hI2:=hI.more [(i,(spR (Zr H ι0 A0 w0) (rs i)).B x)] x.rg hx
      have hsat:∀ (w:World),(spR (Zr H ι0 A0 w0) (rs i)).B x w→Shp none0 [] r x.v∧Mem (Zr H ι0 A0 w0 x.rg) w r x.v:=fun w hB=>by rw[hr]; exact hB
      have hF:Shp none0 [] r ((spR (Zr H ι0 A0 w0) (rs i)).F x):=by
       rw[← hr]
       simp only[spR]
       split
       ·assumption
       ·exact canon_shp r hcl
      have hF':∀ w,(spR (Zr H ι0 A0 w0) (rs i)).B x w→(spR (Zr H ι0 A0 w0) (rs i)).F x=x.v:=fun w hB=>by
       have:=(hsat w hB).1
       rw[hr] at this
       simp only[spR]
       rw[if_pos this]
      refine hK ι _ _ (hI2.set (d:=o.dst) (Shp.step (fun b k h=>by simp at h) _ _ hF) (fun w hx hf=>?_) fun d' hd hd'=>absurd (hdT htn d' hd) hd') hk
      have hB:=(facts_app.1 hf).2
      simp only[FactsAll,and_true] at hB
      rw[hF' w hB]
      exact (hsat w hB).2.weak (zr_mono fun r hr=>List.mem_append.2 (.inl hr))
 | convert s d x =>
   simp only at h ⊢
   simp only[isPure,if_true]
   exact hset hop h
 | move | assign | pick | nilCheck | binOp | unOp | makeFunc | fieldAddr | field | indexAddr | index | extract | slice | build =>
   simp only at h ⊢
   simp only[isPure,if_true]
   exact hset hop h
 | _=>exact h.elim
theorem astAll_sound {C:Ctx} {e:AEnv} {ec:Env} {sc:List (Nat×TypeId×Value×Value)}:∀ (sa:List (TypeId×AV×AV)) (i0:Nat) (ι:Place) (A:AHeap) (w:World) (k:AHeap→Prop),sc.length=i0 + sa.length →
 Rel C.H ι A w→Step C.ι C.A C.w ι A w→EnvS ι A e ec→EnvM (Nn C.H ι A) w e ec →
 (∀ (i:Nat) (x:Nat×TypeId×Value×Value) (y:TypeId×AV×AV),sc[i0 + i]? = some x→sa[i]? = some y→x.2.1=y.1∧Shp ι A y.2.1 x.2.2.1∧Shp ι A y.2.2 x.2.2.2∧Mem (Nn C.H ι A) w y.2.2 x.2.2.2) →
 astAll P sa A k→∃ w' ι' A',stAll P (sc.drop i0) w=some w'∧k A'∧Rel C.H ι' A' w'∧Step C.ι C.A C.w ι' A' w'∧EnvS ι' A' e ec∧EnvM (Nn C.H ι' A') w' e ec
 | [], i0, ι, A, w, k, hl, h1, h2, h3, h4, _, h => by
   refine⟨w,ι,A,?_,h,h1,h2,h3,h4⟩
   rw[List.drop_eq_nil_of_le (by simpa using Nat.le_of_eq hl)]
   rfl
 | (t, p, v) :: sa, i0, ι, A, w, k, hl, h1, h2, h3, h4, h5, h => by
   simp only[List.length_cons] at hl
   obtain⟨A1,hst,h⟩:=h
   have hlt:i0 < sc.length:=by omega
   obtain⟨g1,g2,g3,g4⟩:=h5 0 _ _ (gEG (by simpa using hlt)) rfl
   simp only[Nat.add_zero] at g1 g2 g3 g4
   obtain⟨w1,q1,q2,q3⟩:=astv_sound hst h1 g2 g3 g4
   obtain⟨w',ι',A',r1,r2⟩:=astAll_sound (sc:=sc) (C:=C) sa (i0 + 1) ι A1 w1 k (by omega) q2 (h2.trans q3) (fun i=>Shp.step q3.stab _ _ (h3 i)) (fun i=>Mem.keep q3.keepD _ _ (h4 i)) (fun i x y hx hy=>by
    obtain⟨e1,e2,e3,e4⟩:=h5 (i + 1) x y (by rw[show i0 + (i + 1)=i0 + 1 + i by omega]; exact hx) (by simpa using hy)
    exact⟨e1,Shp.step q3.stab _ _ e2,Shp.step q3.stab _ _ e3,Mem.keep q3.keepD _ _ e4⟩) h
   refine⟨w',ι',A',?_,r2⟩
   rw[List.drop_eq_getElem_cons hlt]
   have he:sc[i0]=(sc[i0].1,t,sc[i0].2.2.1,sc[i0].2.2.2):=by
    have:sc[i0].2.1=t:=g1
    rw[← this]
   rw[he]
   simp only[stAll]
   have hq:stv P t sc[i0].2.2.1 sc[i0].2.2.2 w=some w1:=q1
   rw[hq]
   exact r1
theorem avd_sound {C:Ctx} {T:List Nat} (hR0:Rel C.H ι0 A0 w0) (hH:HOk C.H C.ι C.A C.w) (hS0:Step C.ι C.A C.w ι0 A0 w0) {rs:Nat→AV}:∀ (l:List Oper) (i:Nat) (ι:Place) (σa:ADS) (σc:DS),(∀ o∈l,okTo T o=true) →
 DInv C.H ι0 A0 w0 T ι σa σc→avd P A0.length ops late (fun i r=>r=rs i) K i l σa→vd P ops late (fun i=>spR (Zr C.H ι0 A0 w0) (rs i)) w0 (Lift C K) i l σc
 | [], i, ι, σa, σc, _, hI, h => by
   have hH0:∀ c,C.H c→c < w0.heap.size:=fun c hc=>Nat.lt_of_lt_of_le (hH.1 c hc) hS0.size
   obtain⟨h1,h2⟩:=h
   refine⟨fun k j bk bj hl hk hj he=>?_,fun w hx hf=>?_⟩
   ·obtain⟨b,kb,m,e1,e2,e3,e4⟩:=hI.sts _ hk
    rcases hI.lds _ hj with⟨b',m',g1,g2,g3⟩ | ⟨g1,g2⟩
    ·have hne:=h1 k j b b' hl e1 g2
     simp only at e4 g3
     have hA0:∃ k0,A0[b']? = some k0:=⟨_,gEG g1⟩
     obtain⟨k0,hk0⟩:=hA0
     rcases Nat.lt_or_ge b A0.length with hb | hb
     ·rw[hI.blk.iold b hb,he] at e4
      have hkb:A0[b]? = some kb:=by
       have:=hI.blk.pre b _ (gEG hb)
       rw[e2] at this
       rw[gEG hb,oSI this]
      exact hne (hR0.inj b b' kb k0 bj m m' hkb hk0 e4 g3)
     ·obtain⟨c,m2,arr,q1,q2,_⟩:=hI.blk.new b kb hb e2
      rw[e4] at q1
      simp only[Option.some.injEq,Prod.mk.injEq] at q1
      obtain⟨rfl,_⟩:=q1
      have h6:=(hI.blk.nbz _ q2).1
      have h7:=(hR0.hid b' k0 bj m' hk0 g3).2
      omega
    ·simp only at e4 g1 g2
     rcases Nat.lt_or_ge b A0.length with hb | hb
     ·rw[hI.blk.iold b hb,he] at e4
      have hkb:A0[b]? = some kb:=by
       have:=hI.blk.pre b _ (gEG hb)
       rw[e2] at this
       rw[gEG hb,oSI this]
      exact g2 (.inr ⟨b,kb,m,hkb,e3,e4⟩)
     ·obtain⟨c,m2,arr,q1,q2,_⟩:=hI.blk.new b kb hb e2
      rw[e4] at q1
      simp only[Option.some.injEq,Prod.mk.injEq] at q1
      obtain⟨rfl,_⟩:=q1
      have h6:=(hI.blk.nbz _ q2).1
      omega
   ·obtain⟨hR,hS⟩:=dblk_rel hI.blk hR0 hH0 hx hf
    have hw:=fun c=>nn_zr hI.blk hR0 hH0 c
    obtain⟨w',ι',A',r1,r2,r3,r4,r5,r6⟩:=astAll_sound (C:=C) (sc:=σc.st) σa.st 0 ι σa.A w (K σa.e) (by simpa using hI.stl) hR (hS0.trans hS) hI.shp (fun i=>(hI.mem w hx hf i).weak hw) (fun i x y hx' hy=>by
     obtain⟨e1,e2,e3,e4⟩:=hI.st i x y (by simpa using hx') hy
     exact⟨e1,e2,e3,(e4 w hx hf).weak hw⟩) h2
    exact⟨w',by simpa using r1,σa.e,A',r2,hH,ι',r3,r4,r5,r6⟩
 | o :: os, i, ι, σa, σc, hT, hI, h => by
   have hH0:∀ c,C.H c→c < w0.heap.size:=fun c hc=>Nat.lt_of_lt_of_le (hH.1 c hc) hS0.size
   have ih:=fun ι σa σc hI h=>avd_sound hR0 hH hS0 (rs:=rs) os (i + 1) ι σa σc (fun o ho=>hT o (List.mem_cons_of_mem _ ho)) hI h
   have hdo:avdo P A0.length (fun i r=>r=rs i) i o (avd P A0.length ops late (fun i r=>r=rs i) K (i + 1) os) σa→vdo P (fun i=>spR (Zr C.H ι0 A0 w0) (rs i)) w0 i o (vd P ops late (fun i=>spR (Zr C.H ι0 A0 w0) (rs i)) w0 (Lift C K) (i + 1) os) σc:=fun h=>
    avdo_sound hR0 hH0 (hH.step hS0).2.1 (hT o List.mem_cons_self) hI (fun ι σa' σc' hI' hk=>ih ι σa' σc' hI' hk) h
   simp only[avd] at h
   simp only[vd]
   cases hg:o.guard with
   | none =>
     rw[hg] at h
     exact hdo h
   | some g =>
     obtain⟨j,want⟩:=g
     rw[hg] at h
     obtain⟨b,hb,h⟩:=h
     have hgv:gval σc.e ((ops[j]?).bind (·.dst))=b:=agval_shp hI.shp hb
     simp only[vdG,hgv]
     by_cases hbw:b=some want
     ·rw[if_pos hbw] at h
      rw[if_pos hbw]
      exact hdo h
     ·rw[if_neg hbw] at h
      rw[if_neg hbw]
      exact ih ι _ _ (hI.set (d:=o.dst) (r:=.tup []) (u:=undef) (val_undef (w:=w0) (N:=fun _=>False)).1 (fun w hx hf=>(val_undef (ι:=ι) (A:=A0)).2) fun _ _ _=>(val_undef (ι:=ι) (A:=A0)).2) h
theorem adraw {id:Nat} {l:List Oper} {k:AKont} {e:AEnv} {A:AHeap} (late:List (Nat×Nat)) (hm:P.follows .mixedOrders=true) (hok:okD l=true) (hlate:lateOf l=late) (hT:okT l=true)
 (h:avd P A.length l late (fun _ _=>True) k 0 l ⟨e,A,[],[],[]⟩):aDraw P n id l.toArray k e A:=by
 rintro C ec w hn ⟨h0,ι,h1,h2,h3,h4⟩
 obtain⟨rs,h⟩:=avd_ex l 0 _ h
 refine draw late (fun i=>spR (Zr C.H ι A w) (rs i)) hm hok hlate ?_
 refine avd_sound (T:=taintOf l []) h1 h0 h2 l 0 ι ⟨e,A,[],[],[]⟩ ⟨ec,[],[],[],[],[],[]⟩ (fun o ho=>List.all_eq_true.1 hT o ho) ⟨⟨fun _ _ h=>h,fun _ _=>rfl,fun b k hb hk=>?_,fun b b' c m m' g1 g2=>absurd g1 (Nat.not_le.2 g2),fun c hc=>absurd hc List.not_mem_nil,Nat.le_refl _⟩,h3,fun w' hx _ i=>old_mem hx (h4 i),fun t _=>h4 t,fun x hx=>absurd hx List.not_mem_nil,fun x hx=>absurd hx List.not_mem_nil,rfl,fun i x y hx=>by simp at hx⟩ h
 have:=(gSI.1 hk).1
 simp only at this
 omega
end
end Go.Proofs.YtfnbhkbfelllgaaGreatDoor
