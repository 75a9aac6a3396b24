import Derived.Test.YtfnbhkbfelllgaaGreatDoorAh
set_option linter.all false
namespace Go.Proofs.YtfnbhkbfelllgaaGreatDoor
open Go.RowKit
structure ADS where
 e:AEnv
 A:AHeap
 lds:List (Nat×Nat)
 sts:List (Nat×Nat)
 st:List (TypeId×AV×AV)
def clo:AV→Bool
 | .own .. => false
 | .ptr .. => false
 | .agg cs=>cloL cs
 | .tup cs=>cloL cs
 | .fn _ fs cs=>cloL fs && cloL cs
 | .mp .. => false
 | .ifc _ c=>clo c
 | _=>true
where cloL:List AV→Bool
 | []=>true
 | c::cs=>clo c && cloL cs
def adSet (r:Option AV) (K1:ADS→Prop) (σ:ADS) (d:Option Nat):Prop:=∃ v,r=some v∧K1 ⟨aupd σ.e d v,σ.A,σ.lds,σ.sts,σ.st⟩
def adLoad (n0:Nat) (p:AV) (r:Option AV) (i:Nat) (K1:ADS→Prop) (σ:ADS) (d:Option Nat):Prop:=match p with
 | .ptr b _ _ _=>b < n0∧∃ v,r=some v∧K1 ⟨aupd σ.e d v,σ.A,(i,b)::σ.lds,σ.sts,σ.st⟩
 | .ip _=>∃ v,r=some v∧K1 ⟨aupd σ.e d v,σ.A,σ.lds,σ.sts,σ.st⟩
 | _=>False
def adStore (t:TypeId) (p v:AV) (i:Nat) (K1:ADS→Prop) (σ:ADS) (d:Option Nat):Prop:=match p with
 | .ptr b ver _ _=>(∃ k,curB σ.A b ver=some k∧k.wr=true)∧K1 ⟨aupd σ.e d .any,σ.A,σ.lds,(i,b)::σ.sts,σ.st++[(t,p,v)]⟩
 | _=>False
def adNew (r:Option (AV×Blk)) (K1:ADS→Prop) (σ:ADS) (d:Option Nat):Prop:=∃ v k,r=some (v,k)∧K1 ⟨aupd σ.e d v,σ.A++[k],σ.lds,σ.sts,σ.st⟩
def adArg (A:AHeap) (args args':List AV) (r:AV):Prop:=(clo.cloL args=true∧NLeL args args')∨(argO (omap (reiV false A 9) args) args'∧scal r=true)
def adC (P:Program) (Cr:AV→Prop) (f:AV) (args:List AV) (K1:ADS→Prop) (σ:ADS) (d:Option Nat):Prop:=
 ∃ g fs cs r args',f = .fn g fs cs∧okF P g=true∧Cr r∧clo r=true∧adArg σ.A (fs++args++cs) args' r∧AF P g args' r∧K1 ⟨aupd σ.e d r,σ.A,σ.lds,σ.sts,σ.st⟩
def adG (g:Option (Option Bool)) (want:Bool) (K1 K2:ADS→Prop) (σ:ADS) (d:Option Nat):Prop:=∃ b,g=some b∧if b=some want then K1 σ else K2 ⟨aupd σ.e d (.tup []),σ.A,σ.lds,σ.sts,σ.st⟩
def avdo (P:Program) (n0:Nat) (Cr:Nat→AV→Prop) (i:Nat) (o:Oper) (K1:ADS→Prop) (σ:ADS):Prop:=match o.op with
 | .load t a=>adLoad n0 (eva σ.e a) (alv P σ.A t (eva σ.e a)) i K1 σ o.dst
 | .store t a x=>adStore t (eva σ.e a) (eva σ.e x) i K1 σ o.dst
 | .alloc t=>adNew (newA P σ.A.length σ.e (.alloc t)) K1 σ o.dst
 | .box t x=>adNew (newA P σ.A.length σ.e (.box t x)) K1 σ o.dst
 | .buildSlice t len ps=>adNew (newA P σ.A.length σ.e (.buildSlice t len ps)) K1 σ o.dst
 | .makeSlice t x y=>adNew (newA P σ.A.length σ.e (.makeSlice t x y)) K1 σ o.dst
 | .call c => match c.callee with
   | .value f=>adC P (Cr i) (eva σ.e f) (c.args.toList.map (eva σ.e)) K1 σ o.dst
   | .builtin .len=>adSet (apv P σ.A σ.e (.call c)) K1 σ o.dst
   | .builtin .min=>adSet (apv P σ.A σ.e (.call c)) K1 σ o.dst
   | _=>False
 | .move .. | .assign .. | .pick .. | .nilCheck .. | .binOp .. | .unOp .. | .makeFunc .. | .fieldAddr .. | .field .. | .indexAddr .. | .index .. | .extract .. | .slice .. | .convert .. | .build .. => adSet (apv P σ.A σ.e o.op) K1 σ o.dst
 | _=>False
def astAll (P:Program):List (TypeId×AV×AV)→AHeap→(AHeap→Prop)→Prop
 | [],A,k=>k A
 | (t,p,v)::l,A,k=>∃ A1,astv P A t p v=some A1∧astAll P l A1 k
def adEnd (P:Program) (late:List (Nat×Nat)) (K:AKont) (σ:ADS):Prop:=lateOk late σ.lds σ.sts∧astAll P σ.st σ.A fun A=>K σ.e A
def avd (P:Program) (n0:Nat) (ops:List Oper) (late:List (Nat×Nat)) (Cr:Nat→AV→Prop) (K:AKont):Nat→List Oper→ADS→Prop
 | _,[],σ=>adEnd P late K σ
 | i, o :: os, σ => match o.guard with
   | none=>avdo P n0 Cr i o (avd P n0 ops late Cr K (i + 1) os) σ
   | some (j,want)=>adG (agval σ.e ((ops[j]?).bind (·.dst))) want (avdo P n0 Cr i o (avd P n0 ops late Cr K (i + 1) os)) (avd P n0 ops late Cr K (i + 1) os) σ o.dst
def tnt (T:List Nat) (o:Oper):Bool:=isCall o.op || isNew o.op || o.op.operands.toList.any fun x=>match x with | .tmp t=>T.contains t | _=>false
def okTo (T:List Nat) (o:Oper):Bool:=(!tnt T o || (match o.dst with | some d=>T.contains d | none=>true)) && (match o.op with | .load _ (.tmp t)=>!T.contains t | _=>true)
def taintOf:List Oper→List Nat→List Nat
 | [],T=>T
 | o::os,T=>taintOf os (if tnt T o then o.dst.toList++T else T)
def okT (l:List Oper):Bool:=l.all (okTo (taintOf l []))
section
variable {P:Program} {H:Nat→Prop} {ι ι0:Place} {A A0:AHeap} {w w' w0:World} {e:AEnv} {ec:Env} {C:Ctx} {n:Nat}
mutual
theorem clo_shp {ι ι':Place} {A A':AHeap}:∀ (c:AV) (u:Value),clo c=true→Shp ι A c u→Shp ι' A' c u
 | .any,u,_,h=>by simp[Shp]
 | .d (.v x),u,_,h=>by simpa [Shp] using h
 | .d (.sl _ xs),u,_,h=>by simpa [Shp] using h
 | .own ..,u,hc,h=>by simp[clo] at hc
 | .ptr ..,u,hc,h=>by simp[clo] at hc
 | .ip _,u,_,h=>by simpa [Shp] using h
 | .agg cs, u, hc, h => by
   simp only[clo] at hc
   simp only[Shp] at h ⊢
   obtain⟨l,h1,h2⟩:=h
   exact⟨l,h1,cloL_shp cs l hc h2⟩
 | .tup cs, u, hc, h => by
   simp only[clo] at hc
   simp only[Shp] at h ⊢
   obtain⟨l,h1,h2⟩:=h
   exact⟨l,h1,cloL_shp cs l hc h2⟩
 | .fn f fs cs, u, hc, h => by
   simp only[clo,Bool.and_eq_true] at hc
   simp only[Shp] at h ⊢
   obtain⟨l,m,h1,h2,h3⟩:=h
   exact⟨l,m,h1,cloL_shp fs l hc.1 h2,cloL_shp cs m hc.2 h3⟩
 | .mp ..,u,hc,h=>by simp[clo] at hc
 | .ifc t c, u, hc, h => by
   simp only[clo] at hc
   simp only[Shp] at h ⊢
   obtain⟨v,h1,h2⟩:=h
   exact⟨v,h1,clo_shp c v hc h2⟩
theorem cloL_shp {ι ι':Place} {A A':AHeap}:∀ (cs:List AV) (l:List Value),clo.cloL cs=true→ShpL ι A cs l→ShpL ι' A' cs l
 | [],l,_,h=>by simpa [ShpL] using h
 | c :: cs, l, hc, h => by
   simp only[clo.cloL,Bool.and_eq_true] at hc
   simp only[ShpL] at h ⊢
   obtain⟨u,l',h1,h2,h3⟩:=h
   exact⟨u,l',h1,clo_shp c u hc.1 h2,cloL_shp cs l' hc.2 h3⟩
end
def canonD:D→Value
 | .v x=>x
 | .sl _ xs=>.slice (some ⟨0,0,none⟩) xs.length xs.length
def canon:AV→Value
 | .d x=>canonD x
 | .ip _=>.pointer (some ⟨0,0,none⟩)
 | .agg cs=>.agg (canonL cs).toArray
 | .tup cs=>.tuple (canonL cs).toArray
 | .fn f fs cs=>.func (.func f) (canonL fs).toArray (canonL cs).toArray
 | .ifc t c=>.iface t (canon c)
 | _=>undef
where canonL:List AV→List Value
 | []=>[]
 | c::cs=>canon c::canonL cs
mutual
theorem canon_shp:∀ (c:AV),clo c=true→Shp none0 [] c (canon c)
 | .any,_=>by simp[Shp]
 | .d (.v x),_=>by simp[Shp,canon,canonD]
 | .d (.sl _ xs), _ => by
   simp only[Shp,canon,canonD]
   exact⟨_,_,rfl,Nat.le_refl _,.inr ⟨_,_,rfl⟩⟩
 | .own ..,h=>by simp[clo] at h
 | .ptr ..,h=>by simp[clo] at h
 | .ip _,_=>by simp[Shp,canon]
 | .agg cs, h => by
   simp only[clo] at h
   simp only[Shp,canon]
   exact⟨_,rfl,canonL_shp cs h⟩
 | .tup cs, h => by
   simp only[clo] at h
   simp only[Shp,canon]
   exact⟨_,rfl,canonL_shp cs h⟩
 | .fn f fs cs, h => by
   simp only[clo,Bool.and_eq_true] at h
   simp only[Shp,canon]
   exact⟨_,_,rfl,canonL_shp fs h.1,canonL_shp cs h.2⟩
 | .mp ..,h=>by simp[clo] at h
 | .ifc t c, h => by
   simp only[clo] at h
   simp only[Shp,canon]
   exact⟨_,rfl,canon_shp c h⟩
theorem canonL_shp:∀ (cs:List AV),clo.cloL cs=true→ShpL none0 [] cs (canon.canonL cs)
 | [],_=>by simp[ShpL,canon.canonL]
 | c :: cs, h => by
   simp only[clo.cloL,Bool.and_eq_true] at h
   simp only[ShpL,canon.canonL]
   exact⟨_,_,rfl,canon_shp c h.1,canonL_shp cs h.2⟩
end
open Classical in
noncomputable def spR (Z:List (Nat×Nat)→Nat→Prop) (r:AV):Spec where
 F x:=if Shp none0 [] r x.v then x.v else canon r
 B x w:=Shp none0 [] r x.v∧Mem (Z x.rg) w r x.v
def Zr (H:Nat→Prop) (ι0:Place) (A0:AHeap) (w0:World) (R:List (Nat×Nat)) (c:Nat):Prop:=(c < w0.heap.size∧Nn H ι0 A0 c)∨(w0.heap.size≤c∧∀ r∈R,¬ (r.1≤c∧c < r.2))
theorem Mem.weak {N N':Nat→Prop} (hN:∀ c,N' c→N c) {c:AV} {u:Value} (h:Mem N w c u):Mem N' w c u:=Mem.keep (fun b hb hn=>⟨⟨hb,fun h=>hn (hN b h)⟩,rfl⟩) c u h
theorem zr_mono {R R':List (Nat×Nat)} (h:∀ r∈R,r∈R') (c:Nat) (hz:Zr H ι0 A0 w0 R' c):Zr H ι0 A0 w0 R c:=by
 rcases hz with hz | ⟨h1,h2⟩
 ·exact .inl hz
 ·exact .inr ⟨h1,fun r hr=>h2 r (h r hr)⟩
theorem old_mem {R:List (Nat×Nat)} (hx:Ext w0 w) {c:AV} {u:Value} (h:Mem (Nn H ι0 A0) w0 c u):Mem (Zr H ι0 A0 w0 R) w c u:=
 Mem.keep (fun b hb hn=>⟨⟨Nat.lt_of_lt_of_le hb hx.size,fun hz=>hz.elim (fun hz=>hn hz.2) fun hz=>by omega⟩,hx.heap hb⟩) c u h
theorem facts_app {f g:List Fact} {w:World}:FactsAll (f++g) w↔FactsAll f w∧FactsAll g w:=by
 induction f with
 | nil=>simp[FactsAll]
 | cons x f ih =>
   obtain⟨i,B⟩:=x
   simp only[List.cons_append,FactsAll,ih,and_assoc]
def NewB (H:Nat→Prop) (ι0:Place) (A0:AHeap) (w0:World) (ι:Place) (A:AHeap) (σc:DS) (b:Nat) (k:Blk):Prop:=∃ c m,∃ arr:Array Value,ι b=some (c,m)∧c∈σc.nb∧arr.size=m∧(k.els.length * k.sz≤m∧k.ty < 1000000) ∧
 (∀ w,Ext w0 w→FactsAll σc.facts w→w.heap[c]? = some (.cells arr k.ty (0,0))) ∧
 ∀ (i : Nat) (x : List AV), k.els[i]? = some x → x.length = k.sz ∧ ∀ (j : Nat) (av : AV), x[j]? = some av → ∃ u, arr[i * k.sz + j]? = some u ∧ Shp ι A av u ∧
   ∀ w,Ext w0 w→FactsAll σc.facts w→Mem (Zr H ι0 A0 w0 σc.rg) w av u∧u.oneCell'=true
structure DBlk (H:Nat→Prop) (ι0:Place) (A0:AHeap) (w0:World) (ι:Place) (A:AHeap) (σc:DS):Prop where
 pre:∀ (b:Nat) (k:Blk),A0[b]? = some k→A[b]? = some k
 iold:∀ b,b < A0.length→ι b=ι0 b
 new:∀ (b:Nat) (k:Blk),A0.length≤b→A[b]? = some k→NewB H ι0 A0 w0 ι A σc b k
 ninj:∀ (b b' c m m':Nat),A0.length≤b→b < A.length→A0.length≤b'→b' < A.length→ι b=some (c,m)→ι b'=some (c,m')→b=b'
 nbz:∀ c∈σc.nb,w0.heap.size≤c∧∀ r∈σc.rg,¬ (r.1≤c∧c < r.2)
 len:A0.length≤A.length
structure DInv (H:Nat→Prop) (ι0:Place) (A0:AHeap) (w0:World) (T:List Nat) (ι:Place) (σa:ADS) (σc:DS):Prop where
 blk:DBlk H ι0 A0 w0 ι σa.A σc
 shp:EnvS ι σa.A σa.e σc.e
 mem:∀ w,Ext w0 w→FactsAll σc.facts w→EnvM (Zr H ι0 A0 w0 σc.rg) w σa.e σc.e
 old:∀ t,t∉T→Mem (Nn H ι0 A0) w0 (σa.e t) (σc.e t)
 lds:∀ x∈σc.lds,(∃ b m,b < A0.length∧(x.1,b)∈σa.lds∧ι0 b=some (x.2,m))∨(x.2 < w0.heap.size∧¬ Nn H ι0 A0 x.2)
 sts:∀ x∈σc.sts,∃ b k m,(x.1,b)∈σa.sts∧σa.A[b]? = some k∧k.wr=true∧ι b=some (x.2,m)
 stl:σc.st.length=σa.st.length
 st:∀ (i:Nat) (x:Nat×TypeId×Value×Value) (y:TypeId×AV×AV),σc.st[i]? = some x→σa.st[i]? = some y→x.2.1=y.1∧Shp ι σa.A y.2.1 x.2.2.1∧Shp ι σa.A y.2.2 x.2.2.2 ∧
  ∀ w,Ext w0 w→FactsAll σc.facts w→Mem (Zr H ι0 A0 w0 σc.rg) w y.2.2 x.2.2.2
theorem nn_zr {σc:DS} (hB:DBlk H ι0 A0 w0 ι A σc) (hR0:Rel H ι0 A0 w0) (hH:∀ c,H c→c < w0.heap.size):∀ c,Nn H ι A c→Zr H ι0 A0 w0 σc.rg c:=by
 rintro c (hc | ⟨b,k,m,h1,h2,h3⟩)
 ·exact .inl ⟨hH c hc,.inl hc⟩
 ·rcases Nat.lt_or_ge b A0.length with hb | hb
  ·have hk:A0[b]? = some k:=by
    have:=hB.pre b _ (gEG hb)
    rw[h1] at this
    rw[gEG hb,oSI this]
   rw[hB.iold b hb] at h3
   exact .inl ⟨(hR0.hid b k c m hk h3).2,.inr ⟨b,k,m,hk,h2,h3⟩⟩
  ·obtain⟨c',m',arr,e1,e2,_⟩:=hB.new b k hb h1
   rw[h3] at e1
   simp only[Option.some.injEq,Prod.mk.injEq] at e1
   obtain⟨rfl,_⟩:=e1
   exact .inr (hB.nbz c e2)
theorem dblk_rel {σc:DS} (hB:DBlk H ι0 A0 w0 ι A σc) (hR0:Rel H ι0 A0 w0) (hH:∀ c,H c→c < w0.heap.size) (hx:Ext w0 w) (hf:FactsAll σc.facts w):Rel H ι A w∧Step ι0 A0 w0 ι A w:=by
 have hback:∀ (b:Nat) (k:Blk),b < A0.length→A[b]? = some k→A0[b]? = some k:=fun b k hb h1=>by
  have:=hB.pre b _ (gEG hb)
  rw[h1] at this
  rw[gEG hb,oSI this]
 have hst:Step ι0 A0 w0 ι A w:=⟨fun b k hb=>⟨k,hB.pre b k hb,Nat.le_refl _,fun _=>⟨hB.iold b (gSI.1 hb).1,rfl⟩⟩,fun c hc=>by
  obtain⟨b,k,m,h1,h2,h3⟩:=hc
  rcases Nat.lt_or_ge b A0.length with hb | hb
  ·rw[hB.iold b hb] at h3
   exact .inl ⟨b,k,m,hback b k hb h1,h2,h3⟩
  ·obtain⟨c',m',arr,e1,e2,_⟩:=hB.new b k hb h1
   rw[h3] at e1
   simp only[Option.some.injEq,Prod.mk.injEq] at e1
   obtain⟨rfl,_⟩:=e1
   exact .inr (hB.nbz c e2).1,fun c hc _=>hx.heap hc,hx.size,hx.os,hx.tape,hx.output⟩
 refine⟨⟨fun b k hb=>?_,fun b k c m hb hc=>?_,fun b b' k k' c m m' h1 h2 g1 g2=>?_⟩,hst⟩
 ·rcases Nat.lt_or_ge b A0.length with hlt | hge
  ·have hk:=hback b k hlt hb
   exact BlkRel.step (hR0.blk b k hk) (hB.iold b hlt) (fun c m hc=>hx.heap (hR0.hid b k c m hk hc).2) fun c u hv=>Val.step hst hv
  ·obtain⟨c,m,arr,e1,e2,e3,e4,e5,e6⟩:=hB.new b k hge hb
   unfold BlkRel
   rw[e1]
   refine⟨arr,.inl ⟨e4.2,e5 w hx hf⟩,⟨fun _=>e3,fun h=>absurd e4.2 h⟩,by rw[e3]; exact e4.1,fun i x hi=>⟨(e6 i x hi).1,fun j av hj=>?_⟩⟩
   obtain⟨u,g1,g2,g3⟩:=(e6 i x hi).2 j av hj
   obtain⟨g4,g5⟩:=g3 w hx hf
   exact⟨u,g1,⟨g2,g4.weak (nn_zr hB hR0 hH)⟩,g5⟩
 ·rcases Nat.lt_or_ge b A0.length with hlt | hge
  ·rw[hB.iold b hlt] at hc
   have:=hR0.hid b k c m (hback b k hlt hb) hc
   exact⟨this.1,Nat.lt_of_lt_of_le this.2 hx.size⟩
  ·obtain⟨c',m',arr,e1,e2,e3,e4,e5,e6⟩:=hB.new b k hge hb
   rw[hc] at e1
   simp only[Option.some.injEq,Prod.mk.injEq] at e1
   obtain⟨rfl,_⟩:=e1
   exact⟨fun hh=>by have:=hH c hh; have:=(hB.nbz c e2).1; omega,(Array.getElem?_eq_some_iff.1 (e5 w hx hf)).1⟩
 ·have hlt1:=(gSI.1 h1).1
  have hlt2:=(gSI.1 h2).1
  rcases Nat.lt_or_ge b A0.length with hb | hb<;>rcases Nat.lt_or_ge b' A0.length with hb' | hb'
  ·rw[hB.iold b hb] at g1
   rw[hB.iold b' hb'] at g2
   exact hR0.inj b b' k k' c m m' (hback b k hb h1) (hback b' k' hb' h2) g1 g2
  ·rw[hB.iold b hb] at g1
   have h6:=(hR0.hid b k c m (hback b k hb h1) g1).2
   obtain⟨c',m2,arr,e1,e2,_⟩:=hB.new b' k' hb' h2
   rw[g2] at e1
   simp only[Option.some.injEq,Prod.mk.injEq] at e1
   obtain⟨rfl,_⟩:=e1
   have:=(hB.nbz c e2).1
   omega
  ·rw[hB.iold b' hb'] at g2
   have h6:=(hR0.hid b' k' c m' (hback b' k' hb' h2) g2).2
   obtain⟨c',m2,arr,e1,e2,_⟩:=hB.new b k hb h1
   rw[g1] at e1
   simp only[Option.some.injEq,Prod.mk.injEq] at e1
   obtain⟨rfl,_⟩:=e1
   have:=(hB.nbz c e2).1
   omega
  ·exact hB.ninj b b' c m m' hb hlt1 hb' hlt2 g1 g2
theorem eva_agree {e e':AEnv} {x:Operand} (h:∀ t,x = .tmp t→e t=e' t):eva e x=eva e' x:=by
 cases x with
 | tmp t=>exact h t rfl
 | _=>rfl
theorem apv_agree {e e':AEnv} {op:Op} (h:∀ x∈op.operands,eva e x=eva e' x):apv P A e op=apv P A e' op:=by
 have hmap:∀ l:Array Operand,(∀ x∈l,eva e x=eva e' x)→l.toList.map (eva e)=l.toList.map (eva e'):=fun l hl=>List.map_congr_left fun x hx=>hl x (by simpa using hx)
 cases op with
 | build t ps =>
   simp only[apv]
   congr 1
   apply List.map_congr_left
   intro p hp
   rw[h p.2 (by simp only[Op.operands,List.mem_toArray,List.mem_map]; exact⟨p,hp,rfl⟩)]
 | move x=>simp[apv,h x (by simp[Op.operands])]
 | assign x=>simp[apv,h x (by simp[Op.operands])]
 | pick c a b=>simp[apv,h c (by simp[Op.operands]),h a (by simp[Op.operands]),h b (by simp[Op.operands])]
 | nilCheck x=>simp[apv,h x (by simp[Op.operands])]
 | binOp op t x y u=>simp[apv,h x (by simp[Op.operands]),h y (by simp[Op.operands])]
 | unOp op t x=>simp[apv,h x (by simp[Op.operands])]
 | convert s d x=>simp[apv,h x (by simp[Op.operands])]
 | makeFunc fn a b =>
   cases fn with
   | func f=>simp only[apv]; rw[hmap a fun x hx=>h x (by simp[Op.operands,hx]),hmap b fun x hx=>h x (by simp[Op.operands,hx])]
   | _=>rfl
 | fieldAddr t x f=>simp[apv,h x (by simp[Op.operands])]
 | field t x f=>simp[apv,h x (by simp[Op.operands])]
 | indexAddr t x i=>simp[apv,h x (by simp[Op.operands]),h i (by simp[Op.operands])]
 | index t x i=>simp[apv,h x (by simp[Op.operands]),h i (by simp[Op.operands])]
 | extract x i=>simp[apv,h x (by simp[Op.operands])]
 | slice t x a b c =>
   cases c with
   | some m =>
     have hid:∀ y z,z∈(Op.slice t x a b (some m)).operands→idA e y z=idA e' y z:=fun y z hz=>by simp only[idA,h z hz]
     cases a with
     | some a=>rfl
     | none =>
       cases b with
       | none=>rfl
       | some b =>
         have h1:∀ y,idA e y m=idA e' y m:=fun y=>hid y m (by simp[Op.operands])
         have h2:∀ y,idA e y b=idA e' y b:=fun y=>hid y b (by simp[Op.operands])
         simp only[apv,h x (by simp[Op.operands]),h1,h2]
   | none =>
     have hb:∀ len,bdA e len a b=bdA e' len a b:=by
      intro len
      have hid:∀ y z,z∈(Op.slice t x a b none).operands→idA e y z=idA e' y z:=fun y z hz=>by simp only[idA,h z hz]
      cases a with
      | none =>
        cases b with
        | none=>rfl
        | some y=>simp only[bdA,hid _ y (by simp[Op.operands])]
      | some z =>
        cases b with
        | none=>simp only[bdA,hid _ z (by simp[Op.operands])]
        | some y=>simp only[bdA,hid _ y (by simp[Op.operands]),hid _ z (by simp[Op.operands])]
     simp only[apv,h x (by simp[Op.operands]),hb]
 | call c =>
   simp only[apv]
   split
   ·split
    ·rename_i x t hx ht
     rw[h x (by simp[Op.operands,Call.operands]; exact .inr (by rw[← Array.mem_toList_iff,hx]; simp))]
    ·rfl
   ·split
    ·rename_i x y hx
     rw[h x (by simp[Op.operands,Call.operands]; exact .inr (by rw[← Array.mem_toList_iff,hx]; simp)),h y (by simp[Op.operands,Call.operands]; exact .inr (by rw[← Array.mem_toList_iff,hx]; simp))]
    ·rfl
   ·rfl
 | _=>rfl
end
end Go.Proofs.YtfnbhkbfelllgaaGreatDoor
