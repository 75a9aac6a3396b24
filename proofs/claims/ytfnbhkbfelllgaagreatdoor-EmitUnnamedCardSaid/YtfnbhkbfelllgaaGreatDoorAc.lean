import Derived.Test.YtfnbhkbfelllgaaGreatDoorAb
set_option linter.all false
namespace Go.Proofs.YtfnbhkbfelllgaaGreatDoor
open Go.RowKit
section
variable {ι:Place} {A:AHeap} {e:AEnv} {ec:Env} {P:Program}
def MemO (N:Nat→Prop) (w:World) (cs:List AV) (l:List Value):Prop:=MemL N w cs l∧∀ x∈l,x.oneCell'=true
theorem shpL_set {cs:List AV} {l:List Value} (h:ShpL ι A cs l) {c:AV} {u:Value} (hc:Shp ι A c u) (o:Nat):ShpL ι A (cs.set o c) (l.set o u):=by
 refine ShpL.of (by simp[h.len]) fun i c' u' hi hu=>?_
 have hl:=h.len
 by_cases ho:o=i
 ·subst ho
  rw[List.getElem?_set_self' ] at hi hu
  cases hx:cs[o]? with
  | none=>rw[hx] at hi; simp at hi
  | some x =>
    have hlt:=(gSI.1 hx).1
    rw[hx] at hi
    rw[gEG (by omega)] at hu
    simp at hi hu
    subst hi hu
    exact hc
 ·rw[gSN ho] at hi hu
  obtain⟨u2,h1,h2⟩:=h.get hi
  rw[h1] at hu
  obtain rfl:=oSI hu
  exact h2
theorem memO_set {N:Nat→Prop} {w:World} {cs:List AV} {l:List Value} (hl:l.length=cs.length) (h:MemO N w cs l) {c:AV} {u:Value} (hc:Mem N w c u) (h1:u.oneCell'=true) (o:Nat):MemO N w (cs.set o c) (l.set o u):=by
 refine⟨MemL.of (by simp[hl]) fun i c' u' hi hu=>?_,fun x hx=>?_⟩
 ·by_cases ho:o=i
  ·subst ho
   rw[List.getElem?_set_self'] at hi hu
   cases hx:cs[o]? with
   | none=>rw[hx] at hi; simp at hi
   | some x =>
     have hlt:=(gSI.1 hx).1
     rw[hx] at hi
     rw[gEG (by omega)] at hu
     simp at hi hu
     subst hi hu
     exact hc
  ·rw[gSN ho] at hi hu
   exact h.1.get hi hu
 ·rcases List.mem_or_eq_of_mem_set hx with hx | rfl
  ·exact h.2 x hx
  ·exact h1
theorem putA_len:∀ (vs:List AV) (cs:List AV) (o:Nat),(putA cs o vs).length=cs.length
 | [],_,_=>rfl
 | v::vs,cs,o=>by simp[putA,putA_len vs]
theorem putAt_len:∀ (vs:List Value) (cs:List Value) (o:Nat),(putAt cs o vs).length=cs.length
 | [],_,_=>rfl
 | v::vs,cs,o=>by simp[putAt,putAt_len vs]
theorem putA_shp:∀ (vs:List AV) (us:List Value) (cs:List AV) (l:List Value) (o:Nat),ShpL ι A vs us→ShpL ι A cs l→ShpL ι A (putA cs o vs) (putAt l o us)
 | [], us, cs, l, o, hv, h => by
   simp only[ShpL] at hv
   subst hv
   exact h
 | v :: vs, us, cs, l, o, hv, h => by
   simp only[ShpL] at hv
   obtain⟨u,us',rfl,h1,h2⟩:=hv
   exact putA_shp vs us' _ _ (o + 1) h2 (shpL_set h h1 o)
theorem putA_mem {N:Nat→Prop} {w:World}:∀ (vs:List AV) (us:List Value) (cs:List AV) (l:List Value) (o:Nat),l.length=cs.length→MemO N w vs us→MemO N w cs l→MemO N w (putA cs o vs) (putAt l o us)
 | [], us, cs, l, o, _, hv, h => by
   have:=hv.1
   simp only[MemL] at this
   subst this
   exact h
 | v :: vs, us, cs, l, o, hl, hv, h => by
   have hv1:=hv.1
   simp only[MemL] at hv1
   obtain⟨u,us',rfl,h1,h2⟩:=hv1
   exact putA_mem vs us' _ _ (o + 1) (by simp[hl]) ⟨h2,fun x hx=>hv.2 x (List.mem_cons_of_mem _ hx)⟩ (memO_set hl h h1 (hv.2 u List.mem_cons_self) o)
theorem layA_sound (hs:EnvS ι A e ec) {pl:Nat→Option (Nat×Nat)}:∀ (ps:List (Nat×Operand)) (zA:List AV) (z:List Value) (rA:List AV),ShpL ι A zA z→layA pl zA (ps.map fun p=>(p.1,eva e p.2))=some rA →
 ∃ l,lay pl z (ps.map fun p=>(p.1,ev ec p.2))=some l∧ShpL ι A rA l∧∀ N w,EnvM N w e ec→MemO N w zA z→MemO N w rA l
 | [], zA, z, rA, hz, h => by
   simp[layA] at h
   subst h
   exact⟨z,by simp[lay],hz,fun N w _ h=>h⟩
 | (i, x) :: ps, zA, z, rA, hz, h => by
   simp only[List.map_cons,layA] at h
   split at h
   ·rename_i o s l hpl hl
    split at h
    ·rename_i hh
     obtain⟨h1,h2⟩:=cellsA_shp hl (eva_shp hs x)
     obtain⟨r,g1,g2,g3⟩:=layA_sound hs ps _ (putAt z o (ev ec x).cells.toList) rA (putA_shp l _ zA z o h1 hz) h
     have hlen:=h1.len
     have hzl:=hz.len
     refine⟨r,?_,g2,fun N w hm hz'=>g3 N w hm (putA_mem l _ zA z o hzl (h2 N w (eva_mem hm x)) hz')⟩
     simp only[List.map_cons,lay,hpl]
     rw[if_pos ⟨by simpa using hlen.trans hh.1,by omega⟩]
     exact g1
    ·cases h
   ·cases h
theorem allV_shp:∀ {cs:List AV} {a l:List Value},allV cs=some a→ShpL ι A cs l→l=a
 | [], a, l, h, hs => by
   simp[allV] at h
   simp only[ShpL] at hs
   rw[hs,← h]
 | c :: cs, a, l, h, hs => by
   unfold allV at h
   split at h
   ·rename_i he
    cases he
   ·rename_i x cs' he
    obtain⟨rfl,rfl⟩:=List.cons.inj he
    split at h
    ·rename_i r hr
     simp only[Option.some.injEq] at h
     subst h
     simp only[ShpL] at hs
     obtain⟨u,l',rfl,h1,h2⟩:=hs
     simp only[Shp] at h1
     rw[h1,allV_shp hr h2]
    ·cases h
   ·cases h
theorem aggV_shp {c:AV} {a:List Value} {u:Value} (h:aggV c=some a) (hs:Shp ι A c u):u = .agg a.toArray:=by
 unfold aggV at h
 split at h
 ·simp only[Shp] at hs
  obtain⟨l,rfl,h1⟩:=hs
  rw[allV_shp h h1]
 ·cases h
theorem refK_nil {t:TypeId} {c:AV} {k b u:Value} {r:Bool} (h:refK A c=some k) (hs:Shp ι A c u) (hr:nilB P t k b=some r):nilB P t u b=some r:=by
 cases c with
 | mp b' ver =>
   simp only[refK] at h
   split at h
   case h_2=>cases h
   rename_i k' hk
   split at h
   case isFalse=>cases h
   rename_i hv
   simp only[Option.some.injEq] at h
   subst h
   simp only[Shp] at hs
   obtain⟨_,k2,h1,_,h3⟩:=hs
   rw[hk] at h1
   obtain rfl:=oSI h1
   obtain⟨c,n,_,rfl⟩:=h3 hv
   cases b<;>simp[nilB] at hr ⊢
   rename_i x
   cases x<;>simp[nilB] at hr ⊢
   exact hr
 | ptr b' ver i o =>
   simp only[refK] at h
   split at h
   case h_2=>cases h
   rename_i k' hk
   split at h
   case isFalse=>cases h
   rename_i hv
   simp only[Option.some.injEq] at h
   subst h
   simp only[Shp] at hs
   obtain⟨_,k2,h1,_,h3⟩:=hs
   rw[hk] at h1
   obtain rfl:=oSI h1
   obtain⟨c,n,_,rfl⟩:=h3 hv
   cases b<;>simp[nilB] at hr ⊢
   rename_i x
   cases x<;>simp[nilB] at hr ⊢
   exact hr
 | ip cs =>
   simp only[refK,Option.some.injEq] at h
   subst h
   simp only[Shp] at hs
   obtain⟨b',o,rfl⟩:=hs
   cases b<;>simp[nilB] at hr ⊢
   rename_i x
   cases x<;>simp[nilB] at hr ⊢
   exact hr
 | fn f fs cs =>
   simp only[refK,Option.some.injEq] at h
   subst h
   simp only[Shp] at hs
   obtain⟨l,m,rfl,_⟩:=hs
   cases b<;>simp[nilB] at hr ⊢
   exact hr
 | _=>simp[refK] at h
theorem bin_eqlN {t:TypeId} {u b:Value} {r:Bool} (h:nilB P t u b=some r):bin P .eql t u b=some (.bool r):=by
 cases u<;>cases b<;>simp[nilB] at h<;>simp[bin,nilB,h]
theorem bin_neqN {t:TypeId} {u b:Value} {r:Bool} (h:nilB P t u b=some r):bin P .neq t u b=some (.bool !r):=by
 cases u<;>cases b<;>simp[nilB] at h<;>simp[bin,nilB,h]
theorem zvA_spec {t:TypeId} {zA:List AV} (h:zvA P t=some zA):∃ z,zv P t=some z∧zA=z.cells.toList.map (fun v=>.d (.v v))∧∀ x∈z.cells.toList,x.oneCell'=true:=by
 unfold zvA at h
 split at h
 ·split at h
  ·rename_i z hz hall
   simp only[Option.some.injEq] at h
   exact⟨z,hz,h.symm,fun x hx=>Array.all_eq_true_iff_forall_mem.1 hall.1 x (by simpa using hx)⟩
  ·cases h
 ·cases h
theorem zvA_ty {t:TypeId} {zA:List AV} (h:zvA P t=some zA):t < 1000000:=by
 unfold zvA at h
 split at h
 ·split at h
  ·rename_i hall
   exact hall.2
  ·cases h
 ·cases h
theorem val_shp (l:List Value):ShpL ι A (l.map fun v=>.d (.v v)) l:=by
 refine ShpL.of (by simp) fun i c u hc hu=>?_
 rw[List.getElem?_map,hu] at hc
 simp only[Option.map_some,Option.some.injEq] at hc
 subst hc
 simp[Shp]
theorem val_mem {N:Nat→Prop} {w:World} {l:List Value} (h:∀ x∈l,x.oneCell'=true):MemO N w (l.map fun v=>.d (.v v)) l:=by
 refine⟨MemL.of (by simp) fun i c u hc hu=>?_,h⟩
 rw[List.getElem?_map,hu] at hc
 simp only[Option.map_some,Option.some.injEq] at hc
 subst hc
 simp only[Mem,Rd,true_and]
 exact h u (gMO hu)
theorem bldA_sound (hs:EnvS ι A e ec) {t:TypeId} {ps:List (Nat×Operand)} {r:AV} (h:bldA P t (ps.map fun p=>(p.1,eva e p.2))=some r) :
 ∃ v,bld P t (ps.map fun p=>(p.1,ev ec p.2))=some v∧Shp ι A r v∧∀ N w,EnvM N w e ec→Mem N w r v:=by
 unfold bldA at h
 unfold bld
 split at h
 ·cases h
 ·rename_i zA hz
  obtain⟨z,h1,rfl,h3⟩:=zvA_spec hz
  rw[h1]
  have key:∀ {pl:Nat→Option (Nat×Nat)},(layA pl (z.cells.toList.map fun v=>.d (.v v)) (ps.map fun p=>(p.1,eva e p.2))).map .agg=some r →
   ∃ v,(lay pl z.cells.toList (ps.map fun p=>(p.1,ev ec p.2))).map (fun l=>Value.agg l.toArray)=some v∧Shp ι A r v∧∀ N w,EnvM N w e ec→Mem N w r v:=by
   intro pl hh
   simp only[Option.map_eq_some_iff] at hh
   obtain⟨rA,hl,rfl⟩:=hh
   obtain⟨l,g1,g2,g3⟩:=layA_sound hs ps _ z.cells.toList rA (val_shp _) hl
   refine⟨.agg l.toArray,by rw[g1]; rfl,?_,fun N w hm=>?_⟩
   ·simp only[Shp]
    exact⟨l,rfl,g2⟩
   ·simp only[Mem]
    have:=g3 N w hm (val_mem h3)
    exact⟨l,rfl,this.1,this.2⟩
  simp only
  split at h
  ·rename_i pl hpl
   rw[hpl]
   exact key h
  ·rename_i hpl
   rw[hpl]
   simp only
   split at h
   ·rename_i n el sz har
    rw[har]
    exact key h
   ·cases h
theorem reptA_val (l:List Value):∀ n,reptA (l.map fun v=>.d (.v v)) n=(rept l n).map fun v=>.d (.v v)
 | 0=>rfl
 | n + 1=>by simp[reptA,rept,reptA_val l n]
theorem rept_one {l:List Value} (h:∀ x∈l,x.oneCell'=true):∀ n,∀ x∈rept l n,x.oneCell'=true
 | 0,x,hx=>by simp[rept] at hx
 | n + 1, x, hx => by
   simp only[rept,List.mem_append] at hx
   exact hx.elim (h x) (rept_one h n x)
theorem rept_len (l:List Value):∀ n,(rept l n).length=n * l.length
 | 0=>by simp[rept]
 | n + 1=>by simp[rept,rept_len l n,Nat.add_mul]; omega
theorem lay_len {pl:Nat→Option (Nat×Nat)}:∀ (ps:List (Nat×Value)) (z l:List Value),lay pl z ps=some l→l.length=z.length
 | [],z,l,h=>by simp[lay] at h; rw[h]
 | (i, v) :: ps, z, l, h => by
   simp only[lay] at h
   split at h
   ·split at h
    ·have:=lay_len ps _ l h
     rw[this,putAt_len]
    ·cases h
   ·cases h
theorem blsA_sound (hs:EnvS ι A e ec) {t:TypeId} {len:Nat} {ps:List (Nat×Operand)} {el sz:Nat} {rA:List AV} (h:blsA P t len (ps.map fun p=>(p.1,eva e p.2))=some (el,sz,rA)) :
 sl P t=some (el,sz)∧0 < sz∧∃ l,bls P t len (ps.map fun p=>(p.1,ev ec p.2))=some (el,l)∧l.length=len * sz∧ShpL ι A rA l∧∀ N w,EnvM N w e ec→MemO N w rA l:=by
 unfold blsA at h
 unfold bls
 split at h
 ·cases h
 ·rename_i el' sz' hsl
  split at h
  ·cases h
  ·rename_i zA hz
   obtain⟨z,h1,rfl,h3⟩:=zvA_spec hz
   split at h
   ·rename_i hh
    simp only[Option.map_eq_some_iff] at h
    obtain⟨rA',hl,he⟩:=h
    simp only[Prod.mk.injEq] at he
    obtain⟨rfl,rfl,rfl⟩:=he
    rw[reptA_val] at hl
    obtain⟨l,g1,g2,g3⟩:=layA_sound hs ps _ _ rA' (val_shp _) hl
    simp only[List.length_map,Array.length_toList] at hh
    refine⟨hsl,hh.2.1,l,?_,?_,g2,fun N w hm=>g3 N w hm (val_mem (rept_one h3 _))⟩
    ·rw[hsl]
     simp only[h1]
     rw[if_pos hh,g1]
     rfl
    ·rw[lay_len _ _ _ g1,rept_len]
     simp[hh.1]
   ·cases h
theorem lenA_sound {t:TypeId} {c r:AV} {u:Value} (hs:Shp ι A c u) (h:lenA P A t c=some r):∃ v,lenV P t u=some v∧r = .d (.v v)∧v.oneCell'=true:=by
 have hsl:∀ {x},sl P t=some x→∃ el,P.underlying t=some (.slice el):=by
  intro x hx
  unfold sl at hx
  split at hx
  ·exact⟨_,by assumption⟩
  ·cases hx
 unfold lenA at h
 split at h
 ·rename_i v
  obtain⟨v',h1,h2,h3⟩:=okOne_spec h
  simp only[Shp] at hs
  subst hs
  exact⟨v',h1,h2,h3⟩
 ·split at h
  ·rename_i hx
   obtain⟨el,hu⟩:=hsl hx
   simp only[Option.some.injEq] at h
   simp only[Shp] at hs
   obtain⟨a,c,rfl,_⟩:=hs
   exact⟨_,by simp[lenV,hu],h.symm,rfl⟩
  ·cases h
 ·split at h
  ·rename_i k x hk hx
   obtain⟨el,hu⟩:=hsl hx
   simp only[Option.some.injEq] at h
   rcases own_shp hk hs with⟨rfl,_,rfl⟩ | ⟨c,n,cap,_,rfl,_⟩
   ·exact⟨_,by simp[lenV,hu],h.symm,rfl⟩
   ·exact⟨_,by simp[lenV,hu],h.symm,rfl⟩
  ·cases h
 ·split at h
  ·rename_i n el sz hx
   have hu:∃ el,P.underlying t=some (.array n el):=by
    unfold ar at hx
    split at hx
    ·split at hx
     ·simp at hx; obtain⟨rfl,rfl,_⟩:=hx; exact⟨_,by assumption⟩
     ·cases hx
    ·cases hx
   obtain⟨el',hu⟩:=hu
   simp only[Option.some.injEq] at h
   exact⟨_,by simp[lenV,hu],h.symm,rfl⟩
  ·cases h
 ·cases h
theorem apv_sound (hs:EnvS ι A e ec) {op:Op} {r:AV} (h:apv P A e op=some r):∃ v,pvB P ec op=some v∧Shp ι A r v∧∀ N w,EnvM N w e ec→Mem N w r v:=by
 have hone:∀ {x:Option Value},okOne x=some r→∃ v,x=some v∧Shp ι A r v∧∀ N w,EnvM N w e ec→Mem N w r v:=by
  intro x hx
  obtain⟨v,h1,rfl,h3⟩:=okOne_spec hx
  exact⟨v,h1,by simp[Shp],fun N w _=>by simp[Mem,Rd,h3]⟩
 cases op with
 | move x =>
   simp only[apv,Option.some.injEq] at h
   subst h
   exact⟨_,by simp[pvB,pv],eva_shp hs x,fun N w hm=>eva_mem hm x⟩
 | assign x =>
   simp only[apv,Option.some.injEq] at h
   subst h
   exact⟨_,by simp[pvB,pv],eva_shp hs x,fun N w hm=>eva_mem hm x⟩
 | pick c a b =>
   simp only[apv] at h
   split at h
   ·rename_i t hc
    simp only[Option.some.injEq] at h
    have h1:=eva_shp hs c
    rw[hc] at h1
    simp only[Shp] at h1
    refine⟨if t then ev ec a else ev ec b,by simp[pvB,pv,h1],?_,fun N w hm=>?_⟩
    ·subst h
     cases t
     ·exact eva_shp hs b
     ·exact eva_shp hs a
    ·subst h
     cases t
     ·exact eva_mem hm b
     ·exact eva_mem hm a
   ·cases h
 | nilCheck x =>
   simp only[apv] at h
   have h1:=eva_shp hs x
   split at h
   ·rename_i b ver i o hx
    simp only[Option.map_eq_some_iff] at h
    obtain⟨k,hk,rfl⟩:=h
    rw[hx] at h1
    obtain⟨c,n,hι,hu⟩:=ptr_shp hk h1
    exact⟨_,by simp[pvB,pv,hu],shp_ptr hk hι,fun N w hm=>by simp[Mem]⟩
   ·rename_i cs hx
    simp only[Option.some.injEq] at h
    subst h
    rw[hx] at h1
    have h2:=h1
    simp only[Shp] at h1
    obtain⟨b,o,hu⟩:=h1
    exact⟨ev ec x,by simp[pvB,pv,hu],h2,fun N w hm=>by rw[← hx]; exact eva_mem hm x⟩
   ·rename_i f p q hx
    simp only[Option.some.injEq] at h
    subst h
    rw[hx] at h1
    have h2:=h1
    simp only[Shp] at h1
    obtain⟨l,m,hu,_⟩:=h1
    exact⟨ev ec x,by simp[pvB,pv,hu],h2,fun N w hm=>by rw[← hx]; exact eva_mem hm x⟩
   ·cases h
 | binOp op t x y yt =>
   simp only[apv] at h
   split at h
   ·rename_i a b ha hb
    have h1:=av1_shp ha (eva_shp hs x)
    have h2:=av1_shp hb (eva_shp hs y)
    simpa [pvB,pv,h1,h2] using hone h
   ·have hy0:∀ b,eva e y = .d (.v b)→ev ec y=b:=fun b hb=>by have:=eva_shp hs y; rw[hb] at this; simpa [Shp] using this
    split at h
    ·rename_i c b hc hb
     split at h
     case h_2=>cases h
     rename_i r hr
     simp only[Option.some.injEq] at h
     subst h
     have hn:=refK_nil hc (eva_shp hs x) hr
     refine⟨.bool r,?_,by simp[Shp],fun N w _=>by simp[Mem,Rd,Value.oneCell']⟩
     simp only[pvB,pv,hy0 b hb]
     exact bin_eqlN hn
    ·rename_i c b hc hb
     split at h
     case h_2=>cases h
     rename_i r hr
     simp only[Option.some.injEq] at h
     subst h
     have hn:=refK_nil hc (eva_shp hs x) hr
     refine⟨.bool !r,?_,by simp[Shp],fun N w _=>by simp[Mem,Rd,Value.oneCell']⟩
     simp only[pvB,pv,hy0 b hb]
     exact bin_neqN hn
    ·split at h
     ·rename_i a b ha hb
      have h1:=aggV_shp ha (eva_shp hs x)
      have h2:=aggV_shp hb (eva_shp hs y)
      simpa [pvB,pv,h1,h2] using hone h
     ·cases h
 | unOp op t x =>
   simp only[apv] at h
   split at h
   ·rename_i a ha
    have h1:=av1_shp ha (eva_shp hs x)
    simpa [pvB,pv,h1] using hone h
   ·cases h
 | convert s d x =>
   simp only[apv] at h
   split at h
   ·rename_i k0 n u k hx hu hd
    have h1:=eva_shp hs x
    rw[hx] at h1
    simp only[Shp] at h1
    simp only[Option.some.injEq] at h
    subst h
    exact⟨_,by simp[pvB,pv,h1,hu,hd]; rfl,by simp[Shp],fun N w _=>by simp[Mem,Rd,Value.oneCell']⟩
   ·cases h
 | makeFunc fn a b =>
   cases fn<;>simp only[apv] at h<;>try (cases h; done)
   rename_i f
   simp only[Option.some.injEq] at h
   subst h
   have hL:∀ l:List Operand,ShpL ι A (l.map (eva e)) (l.map (ev ec)):=fun l=>ShpL.of (by simp) fun i c u hc hu=>by
    rw[List.getElem?_map] at hc hu
    cases hl:l[i]? with
    | none=>rw[hl] at hc; simp at hc
    | some x =>
      rw[hl] at hc hu
      simp at hc hu
      subst hc hu
      exact eva_shp hs x
   refine⟨_,by simp[pvB,pv]; rfl,?_,fun N w hm=>?_⟩
   ·simp only[Shp]
    exact⟨a.toList.map (ev ec),b.toList.map (ev ec),by rw[← Array.toList_map,← Array.toList_map],hL _,hL _⟩
   ·have hM:∀ l:List Operand,MemL N w (l.map (eva e)) (l.map (ev ec)):=fun l=>MemL.of (by simp) fun i c u hc hu=>by
     rw[List.getElem?_map] at hc hu
     cases hl:l[i]? with
     | none=>rw[hl] at hc; simp at hc
     | some x =>
       rw[hl] at hc hu
       simp at hc hu
       subst hc hu
       exact eva_mem hm x
    simp only[Mem]
    exact⟨a.toList.map (ev ec),b.toList.map (ev ec),by rw[← Array.toList_map,← Array.toList_map],hM _,hM _⟩
 | fieldAddr s x f =>
   simp only[apv] at h
   have h1:=eva_shp hs x
   split at h
   ·rename_i b ver i o n hx hf
    simp only[Option.map_eq_some_iff] at h
    obtain⟨k,hk,rfl⟩:=h
    rw[hx] at h1
    obtain⟨c,n',hι,hu⟩:=ptr_shp hk h1
    refine⟨.pointer (some ⟨c,i * k.sz + (o + n),none⟩),by simp[pvB,pv,hu,hf,Nat.add_assoc],shp_ptr hk hι,fun N w hm=>by simp[Mem]⟩
   ·rename_i cs n hx hf
    simp only[Option.some.injEq] at h
    subst h
    rw[hx] at h1
    simp only[Shp] at h1
    obtain⟨b,o,hu⟩:=h1
    refine⟨.pointer (some ⟨b,o + n,none⟩),by simp[pvB,pv,hu,hf],by simp[Shp],fun N w hm=>?_⟩
    have h2:=eva_mem hm x
    rw[hx,hu] at h2
    simp only[Mem,Value.pointer.injEq,Option.some.injEq,Addr.mk.injEq,and_true] at h2
    obtain⟨b',o',⟨rfl,rfl⟩,h4,h5⟩:=h2
    simp only[Mem]
    exact⟨_,_,rfl,h4,h5.drop n⟩
   ·cases h
 | field t x f =>
   simp only[apv] at h
   have h1:=eva_shp hs x
   split at h
   ·rename_i cs ty off hx hf
    rw[hx] at h1
    simp only[Shp] at h1
    obtain⟨l,hu,hl⟩:=h1
    obtain⟨v,g1,g2,g3⟩:=ptA_shp h hl
    refine⟨v,by simp[pvB,pv,hu,hf,g1],g2,fun N w hm=>?_⟩
    have h2:=eva_mem hm x
    rw[hx,hu] at h2
    simp only[Mem,Value.agg.injEq] at h2
    obtain⟨l',e1,e2,e3⟩:=h2
    have:l=l':=by simpa using e1
    subst this
    exact g3 N w e2 e3
   ·cases h
 | indexAddr t x j =>
   simp only[apv] at h
   have h1:=eva_shp hs x
   split at h
   ·rename_i k0 j' hj
    have hj1:=av1_shp hj (eva_shp hs j)
    split at h
    ·rename_i hj0
     split at h
     ·rename_i sz xs hx
      split at h
      ·rename_i el sz' hsl
       split at h
       ·rename_i hsz
        subst hsz
        simp only[Option.map_eq_some_iff] at h
        obtain⟨y,hy,rfl⟩:=h
        rw[hx] at h1
        simp only[Shp] at h1
        obtain⟨a,c,hu,hlc,hn⟩:=h1
        have hlt:=(gSI.1 hy).1
        rcases hn with rfl | ⟨b,o,rfl⟩
        ·simp at hy
        refine⟨.pointer (some ⟨b,o + j'.toNat * sz',none⟩),?_,by simp[Shp],fun N w hm=>?_⟩
        ·simp only[pvB,pv,hj1,hu,hsl]
         rw[if_pos ⟨hj0,by omega⟩]
        ·have h2:=eva_mem hm x
         rw[hx,hu] at h2
         simp only[Mem,Rd,Value.slice.injEq] at h2
         obtain⟨a',cap,⟨e1,_,e3⟩,_,_,e4⟩:=h2
         rcases e4 with rfl | ⟨b',o',e5,e6,e7⟩
         ·simp at hy
         rw[← e1] at e5
         simp only[Option.some.injEq,Addr.mk.injEq,and_true] at e5
         obtain⟨rfl,rfl⟩:=e5
         simp only[Mem]
         exact⟨_,_,rfl,e6,(e7.get hy).2⟩
       ·cases h
      ·cases h
     ·rename_i b ver i len hx
      split at h
      ·rename_i k el sz' hk hsl
       split at h
       ·rename_i hh
        obtain⟨hsz,hlt⟩:=hh
        simp only[Option.some.injEq] at h
        subst h
        rw[hx] at h1
        rcases own_shp hk h1 with⟨rfl,_,_⟩ | ⟨c,n,cap,hι,hu,hlc,_⟩
        ·omega
        ·refine⟨.pointer (some ⟨c,(i + j'.toNat) * k.sz + 0,none⟩),?_,shp_ptr hk hι,fun N w hm=>by simp[Mem]⟩
         simp only[pvB,pv,hj1,hu,hsl]
         rw[if_pos ⟨hj0,by omega⟩,hsz,Nat.add_mul,Nat.add_zero]
       ·cases h
      ·cases h
     ·rename_i b ver i o hx
      split at h
      ·rename_i k n el sz hk har
       split at h
       ·rename_i hlt
        rw[hx] at h1
        obtain⟨c,n',hι,hu⟩:=ptr_shp hk h1
        have hrun:pvB P ec (.indexAddr t x j)=some (.pointer (some ⟨c,i * k.sz + (o + j'.toNat * sz),none⟩)):=by
         simp only[pvB,pv,hj1,hu,har]
         rw[if_pos ⟨hj0,hlt⟩,Nat.add_assoc]
        split at h
        ·rename_i hk1
         simp only[Option.some.injEq] at h
         subst h
         refine⟨_,hrun,?_,fun N w hm=>by simp[Mem]⟩
         have:=shp_ptr (i:=i + (o + j'.toNat * sz)) (o:=0) hk hι
         rwa [show (i + (o + j'.toNat * sz)) * k.sz + 0=i * k.sz + (o + j'.toNat * sz) by rw[hk1]; omega] at this
        ·simp only[Option.some.injEq] at h
         subst h
         exact⟨_,hrun,shp_ptr hk hι,fun N w hm=>by simp[Mem]⟩
       ·cases h
      ·cases h
     ·rename_i cs hx
      split at h
      ·rename_i n el sz har
       split at h
       ·rename_i hlt
        simp only[Option.some.injEq] at h
        subst h
        rw[hx] at h1
        simp only[Shp] at h1
        obtain⟨b,o,hu⟩:=h1
        refine⟨.pointer (some ⟨b,o + j'.toNat * sz,none⟩),?_,by simp[Shp],fun N w hm=>?_⟩
        ·simp only[pvB,pv,hj1,hu,har]
         rw[if_pos ⟨hj0,hlt⟩]
        ·have h2:=eva_mem hm x
         rw[hx,hu] at h2
         simp only[Mem,Value.pointer.injEq,Option.some.injEq,Addr.mk.injEq,and_true] at h2
         obtain⟨b',o',⟨rfl,rfl⟩,h4,h5⟩:=h2
         simp only[Mem]
         exact⟨_,_,rfl,h4,h5.drop _⟩
       ·cases h
      ·cases h
     ·cases h
    ·cases h
   ·cases h
 | index t x j =>
   simp only[apv] at h
   have h1:=eva_shp hs x
   split at h
   ·rename_i k0 j' hj
    have hj1:=av1_shp hj (eva_shp hs j)
    split at h
    ·rename_i cs hx
     split at h
     ·rename_i n el sz har
      split at h
      ·rename_i hlt
       rw[hx] at h1
       simp only[Shp] at h1
       obtain⟨l,hu,hl⟩:=h1
       obtain⟨v,g1,g2,g3⟩:=ptA_shp h hl
       refine⟨v,?_,g2,fun N w hm=>?_⟩
       ·simp only[pvB,pv,hj1,hu,har]
        rw[if_pos hlt,g1]
       ·have h2:=eva_mem hm x
        rw[hx,hu] at h2
        simp only[Mem,Value.agg.injEq] at h2
        obtain⟨l',e1,e2,e3⟩:=h2
        have:l=l':=by simpa using e1
        subst this
        exact g3 N w e2 e3
      ·cases h
     ·cases h
    ·rename_i s hx
     split at h
     ·rename_i hstr
      split at h
      ·rename_i hlt
       simp only[Option.map_eq_some_iff] at h
       obtain⟨y,hy,rfl⟩:=h
       rw[hx] at h1
       simp only[Shp] at h1
       exact⟨.int .u8 y.toNat,by simp[pvB,pv,hj1,h1,hstr,hlt,hy],by simp[Shp],fun N w _=>by simp[Mem,Rd,Value.oneCell']⟩
      ·cases h
     ·cases h
    ·cases h
   ·cases h
 | extract x i =>
   simp only[apv] at h
   have h1:=eva_shp hs x
   split at h
   ·rename_i vs hx
    rw[hx] at h1
    simp only[Shp] at h1
    obtain⟨l,hu,hl⟩:=h1
    obtain⟨v,g1,g2⟩:=hl.get h
    refine⟨v,by simp[pvB,pv,hu,g1],g2,fun N w hm=>?_⟩
    have h2:=eva_mem hm x
    rw[hx,hu] at h2
    simp only[Mem,Value.tuple.injEq] at h2
    obtain⟨l',e1,e2⟩:=h2
    have:l=l':=by simpa using e1
    subst this
    exact e2.get h g1
   ·cases h
 | slice t x lo hi mx =>
   cases mx with
   | some m =>
     cases lo with
     | some lo=>simp[apv] at h
     | none =>
       cases hi with
       | none=>simp[apv] at h
       | some hi =>
         simp only[apv] at h
         have h1:=eva_shp hs x
         split at h
         case h_2=>cases h
         rename_i sz xs hx
         split at h
         case h_2=>cases h
         rename_i el sz' m' hsl hm
         split at h
         case h_2=>cases h
         rename_i h' hh
         split at h
         case isFalse=>cases h
         rename_i hc
         obtain⟨rfl,rfl,rfl⟩:=hc
         simp only[Option.some.injEq] at h
         subst h
         rw[hx] at h1
         simp only[Shp] at h1
         obtain⟨a,c,hu,hlc,hn⟩:=h1
         have b1:=(idA_spec hs hm hlc).1
         have b2:=(idA_spec hs hh (Nat.le_refl _)).1
         have hadd:(if xs.length=0 then a else a.map (·.add (0 * sz')))=a:=by
          split
          ·rfl
          ·cases a<;>simp[Addr.add]
         have hb1:sbs xs.length c none (some (ev ec hi)) (some (ev ec m))=some (0,xs.length,xs.length):=by
          delta sbs
          simp only[b1,b2]
         refine⟨.slice (if xs.length=0 then a else a.map (·.add (0 * sz'))) (xs.length - 0) (xs.length - 0),by simp only[pvB,pv,hu,hsl,Option.map_none,Option.map_some,hb1],?_,fun N w hmm=>?_⟩
         ·rw[hadd,Nat.sub_zero]
          simp only[Shp]
          exact⟨_,_,rfl,Nat.le_refl _,hn⟩
         ·have h2:=eva_mem hmm x
          rw[hx,hu] at h2
          simp only[Mem,Rd,Value.slice.injEq] at h2
          obtain⟨a',cap,⟨rfl,_,rfl⟩,e2,e3,e4⟩:=h2
          rw[hadd,Nat.sub_zero]
          simp only[Mem,Rd]
          exact⟨_,_,rfl,Nat.le_refl _,by omega,e4⟩
   | none =>
     simp only[apv] at h
     have h1:=eva_shp hs x
     split at h
     ·rename_i s hx
      split at h
      ·rename_i hstr
       split at h
       ·rename_i l hh hb
        simp only[Option.some.injEq] at h
        subst h
        rw[hx] at h1
        simp only[Shp] at h1
        have:=bdA_spec hs hb (Nat.le_refl _)
        exact⟨.string (s.extract l hh),by simp[pvB,pv,h1,hstr,this.1],by simp[Shp],fun N w _=>by simp[Mem,Rd,Value.oneCell']⟩
       ·cases h
      ·cases h
     ·rename_i hx
      split at h
      ·rename_i q0 q1 hsl hb
       obtain⟨l,hh⟩:=q1
       simp only[Option.some.injEq] at h
       subst h
       rw[hx] at h1
       simp only[Shp] at h1
       obtain⟨hb1,hb2,hb3⟩:=bdA_spec hs hb (Nat.le_refl 0)
       have hl0:l=0:=by omega
       have hh0:hh=0:=by omega
       subst hl0 hh0
       exact⟨.slice none 0 0,by simp[pvB,pv,h1,hsl,hb1],by simp[Shp],fun N w _=>by simp[Mem,Rd,Value.oneCell']⟩
      ·cases h
     ·rename_i sz xs hx
      split at h
      ·rename_i el sz' l hh hsl hb
       split at h
       ·rename_i hsz
        subst hsz
        simp only[Option.some.injEq] at h
        subst h
        rw[hx] at h1
        simp only[Shp] at h1
        obtain⟨a,c,hu,hlc,hn⟩:=h1
        obtain⟨hb1,hb2,hb3⟩:=bdA_spec hs hb hlc
        have hlen:((xs.take hh).drop l).length=hh - l:=by simp; omega
        refine⟨.slice (if c=l then a else a.map (·.add (l * sz'))) (hh - l) (c - l),by simp only[pvB,pv,hu,hsl,Option.map_none,hb1],?_,fun N w hm=>?_⟩
        ·simp only[Shp]
         refine⟨_,_,by rw[hlen],by omega,?_⟩
         by_cases h0:(xs.take hh).drop l=[]
         ·exact .inl h0
         ·right
          have:0 < ((xs.take hh).drop l).length:=List.length_pos_iff.2 h0
          rcases hn with rfl | ⟨b,o,rfl⟩
          ·simp at h0
          ·rw[if_neg (by omega)]
           exact⟨b,o + l * sz',by simp[Addr.add]⟩
        ·have h2:=eva_mem hm x
         rw[hx,hu] at h2
         simp only[Mem,Rd,Value.slice.injEq] at h2
         obtain⟨a',cap,⟨rfl,_,rfl⟩,e2,e3,e4⟩:=h2
         simp only[Mem,Rd]
         refine⟨_,_,by rw[hlen],by omega,by omega,?_⟩
         by_cases h0:(xs.take hh).drop l=[]
         ·exact .inl h0
         ·right
          have:0 < ((xs.take hh).drop l).length:=List.length_pos_iff.2 h0
          rcases e4 with rfl | ⟨b,o,rfl,e6,e7⟩
          ·simp at h0
          ·rw[if_neg (by omega)]
           refine⟨b,o + l * sz',by simp[Addr.add],e6,RdS.of fun i y hy=>?_⟩
           rw[List.getElem?_drop,List.getElem?_take] at hy
           split at hy
           ·have:=e7.get hy
            rw[show o + l * sz' + i * sz'=o + (l + i) * sz' by rw[Nat.add_mul]; omega]
            exact this
           ·cases hy
       ·cases h
      ·cases h
     ·rename_i b ver i len hx
      split at h
      ·rename_i k el sz' l hh hk hsl hb
       split at h
       ·rename_i hsz
        rw[hx] at h1
        rcases own_shp hk h1 with⟨rfl,rfl,hu⟩ | ⟨c,n,cap,hι,hu,hlc,hcm,hcn⟩
        ·obtain⟨hb1,hb2,hb3⟩:=bdA_spec hs hb (Nat.le_refl 0)
         have hl0:l=0:=by omega
         have hh0:hh=0:=by omega
         subst hl0 hh0
         simp only[if_true,Option.some.injEq] at h
         subst h
         refine⟨.slice none 0 0,by simp[pvB,pv,hu,hsl,hb1],by rw[hu] at h1; exact h1,fun N w hm=>by simp[Mem]⟩
        ·obtain⟨hb1,hb2,hb3⟩:=bdA_spec hs hb hlc
         obtain⟨g1,g2⟩:=curB_spec hk
         refine⟨.slice (if cap=l then some ⟨c,i * k.sz,none⟩ else (some (⟨c,i * k.sz,none⟩:Addr)).map (·.add (l * sz'))) (hh - l) (cap - l),by simp only[pvB,pv,hu,hsl,Option.map_none,hb1],?_,fun N w hm=>?_⟩
         ·split at h
          ·rename_i hl0
           subst hl0
           simp only[Option.some.injEq] at h
           subst h
           simp only[Shp]
           refine⟨⟨_,_,_,rfl⟩,k,g1,by omega,fun _=>.inr ⟨c,n,cap,hι,?_,by omega,hcm,hcn⟩⟩
           simp[Addr.add]
          ·rename_i hl0
           split at h
           ·simp only[Option.some.injEq] at h
            subst h
            simp only[Shp]
            refine⟨⟨_,_,_,rfl⟩,k,g1,by omega,fun _=>.inr ⟨c,n,cap - l,hι,?_,by omega,by omega,?_⟩⟩
            ·rw[if_neg (by omega)]
             simp only[Option.map_some,hsz,Addr.add]
             split
             ·rename_i h0
              rw[Nat.add_mul,h0,Nat.add_zero]
             ·rw[Nat.add_mul]
            ·exact .inl (by omega)
           ·cases h
         ·split at h
          ·simp only[Option.some.injEq] at h
           subst h
           simp[Mem]
          ·split at h
           ·simp only[Option.some.injEq] at h
            subst h
            simp[Mem]
           ·cases h
       ·cases h
      ·cases h
     ·rename_i b ver i o hx
      split at h
      ·rename_i k n el sz hk har
       split at h
       ·rename_i l hh hb
        split at h
        ·rename_i hc
         obtain⟨hk1,hs1,hn,hl0,hlh⟩:=hc
         simp only[Option.some.injEq] at h
         subst h
         rw[hx] at h1
         obtain⟨c,nn,hι,hu⟩:=ptr_shp hk h1
         obtain⟨g1,g2⟩:=curB_spec hk
         obtain⟨hb1,hb2,hb3⟩:=bdA_spec hs hb (Nat.le_refl n)
         refine⟨.slice (some (if n=l then (⟨c,i * k.sz + o,none⟩:Addr) else (⟨c,i * k.sz + o,none⟩:Addr).add (l * sz))) (hh - l) (n - l),?_,?_,fun N w hm=>by simp[Mem]⟩
         ·simp only[pvB,pv,hu,har,Option.map_none,hb1]
         ·simp only[Shp]
          refine⟨⟨_,_,_,rfl⟩,k,g1,by omega,fun _=>.inr ⟨c,nn,n - l,hι,?_,by omega,by omega,.inl hl0⟩⟩
          rw[if_neg (by omega),hs1,hk1]
          by_cases hz:l=0<;>simp[Addr.add,hz]
        ·cases h
       ·cases h
      ·cases h
     ·cases h
 | call c =>
   simp only[apv] at h
   split at h
   ·rename_i hb
    split at h
    ·rename_i x t hx ht
     obtain⟨v,g1,rfl,g3⟩:=lenA_sound (eva_shp hs x) h
     exact⟨v,by simp[pvB,pv,pvCall,hb,hx,ht,g1],by simp[Shp],fun N w _=>by simp[Mem,Rd,g3]⟩
    ·cases h
   ·rename_i hb
    split at h
    ·rename_i x y hx
     split at h
     ·rename_i k a k' b hxx hyy
      simp only[Option.some.injEq] at h
      subst h
      have ex:ev ec x = .int k a:=by have:=eva_shp hs x; rw[hxx] at this; simpa [Shp] using this
      have ey:ev ec y = .int k' b:=by have:=eva_shp hs y; rw[hyy] at this; simpa [Shp] using this
      exact⟨.int k (if b < a then b else a),by simp[pvB,pv,pvCall,hb,hx,ex,ey],by simp[Shp],fun N w _=>by simp[Mem,Rd,Value.oneCell']⟩
     ·cases h
    ·cases h
   ·cases h
 | build t ps =>
   simp only[apv] at h
   obtain⟨v,g1,g2,g3⟩:=bldA_sound hs h
   exact⟨v,by simpa only[pvB] using g1,g2,g3⟩
 | _=>simp[apv] at h
end
end Go.Proofs.YtfnbhkbfelllgaaGreatDoor
