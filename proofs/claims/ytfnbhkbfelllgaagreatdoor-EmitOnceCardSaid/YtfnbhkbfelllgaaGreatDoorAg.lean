import Derived.Test.YtfnbhkbfelllgaaGreatDoorAf
set_option linter.all false
namespace Go.Proofs.YtfnbhkbfelllgaaGreatDoor
open Go.RowKit
def omap {α β:Type} (g:α→Option β):List α→Option (List β)
 | []=>some []
 | a :: l => match g a with
   | some b=>(omap g l).map (b :: ·)
   | none=>none
def reiD (fz:Bool) (A:AHeap):Nat→AV→Option D
 | _,.d x=>some x
 | f + 1, .own b ver i len => match curB A b ver with
   | some k=>if i + len≤k.els.length∧(fz=true→k.wr=false) then (omap (fun x=>omap (reiD fz A f) x) ((k.els.drop i).take len)).map (.sl k.sz) else none
   | none=>none
 | _,_=>none
def rei0 (fz:Bool) (A:AHeap) (f:Nat):AV→Option AV
 | .agg cs=>(omap (reiD fz A f) cs).map fun l=>.agg (l.map .d)
 | .d x=>some (.d x)
 | .own b ver i len=>(reiD fz A f (.own b ver i len)).map .d
 | _=>none
def rei1 (fz:Bool) (A:AHeap) (f:Nat):AV→Option AV
 | .agg cs=>(omap (reiD fz A f) cs).map fun l=>.agg (l.map .d)
 | .ip cs=>some (.ip cs)
 | .any=>some .any
 | .fn g fs cs => match omap (rei0 fz A f) fs, omap (rei0 fz A f) cs with
   | some a,some b=>some (.fn g a b)
   | _,_=>none
 | .d x=>some (.d x)
 | .own b ver i len=>(reiD fz A f (.own b ver i len)).map .d
 | _=>none
def reiV (fz:Bool) (A:AHeap) (f:Nat):AV→Option AV
 | .tup cs=>(omap (rei1 fz A f) cs).map .tup
 | c=>rei1 fz A f c
mutual
def NLeD:D→D→Prop
 | .v x,.v y=>x=y
 | .v x,.sl _ ys=>x = .slice none 0 0∧ys=[]
 | .sl s xs,.sl t ys=>s=t∧NLeS xs ys
 | .sl _ _,.v _=>False
def NLeE:List D→List D→Prop
 | [],ys=>ys=[]
 | x::xs,ys=>∃ y ys',ys=y::ys'∧NLeD x y∧NLeE xs ys'
def NLeS:List (List D)→List (List D)→Prop
 | [],ys=>ys=[]
 | x::xs,ys=>∃ y ys',ys=y::ys'∧NLeE x y∧NLeS xs ys'
end
mutual
def NLe:AV→AV→Prop
 | .d x,c=>∃ y,c = .d y∧NLeD x y
 | .agg cs,c=>∃ ds,c = .agg ds∧NLeL cs ds
 | .tup cs,c=>∃ ds,c = .tup ds∧NLeL cs ds
 | .fn f fs cs,c=>∃ gs ds,c = .fn f gs ds∧NLeL fs gs∧NLeL cs ds
 | .ifc t x,c=>∃ y,c = .ifc t y∧NLe x y
 | x,c=>c=x
def NLeL:List AV→List AV→Prop
 | [],ys=>ys=[]
 | x::xs,ys=>∃ y ys',ys=y::ys'∧NLe x y∧NLeL xs ys'
end
mutual
theorem NLeD.refl:∀ x:D,NLeD x x
 | .v x=>by simp[NLeD]
 | .sl s xs=>by simp only[NLeD]; exact⟨trivial,NLeS.refl xs⟩
theorem NLeE.refl:∀ x:List D,NLeE x x
 | []=>by simp[NLeE]
 | x::xs=>by simp only[NLeE]; exact⟨x,xs,rfl,NLeD.refl x,NLeE.refl xs⟩
theorem NLeS.refl:∀ x:List (List D),NLeS x x
 | []=>by simp[NLeS]
 | x::xs=>by simp only[NLeS]; exact⟨x,xs,rfl,NLeE.refl x,NLeS.refl xs⟩
end
mutual
theorem NLe.refl:∀ x:AV,NLe x x
 | .d x=>by simp only[NLe]; exact⟨x,rfl,NLeD.refl x⟩
 | .agg cs=>by simp only[NLe]; exact⟨cs,rfl,NLeL.refl cs⟩
 | .tup cs=>by simp only[NLe]; exact⟨cs,rfl,NLeL.refl cs⟩
 | .fn f fs cs=>by simp only[NLe]; exact⟨fs,cs,rfl,NLeL.refl fs,NLeL.refl cs⟩
 | .any=>by simp[NLe]
 | .own .. => by simp[NLe]
 | .ptr .. => by simp[NLe]
 | .ip .. => by simp[NLe]
 | .mp .. => by simp[NLe]
 | .ifc t c=>by simp only[NLe]; exact⟨c,rfl,NLe.refl c⟩
theorem NLeL.refl:∀ x:List AV,NLeL x x
 | []=>by simp[NLeL]
 | x::xs=>by simp only[NLeL]; exact⟨x,xs,rfl,NLe.refl x,NLeL.refl xs⟩
end
theorem NLeE.len:∀ {x y:List D},NLeE x y→y.length=x.length
 | [],y,h=>by simp only[NLeE] at h; subst h; rfl
 | x :: xs, y, h => by
   simp only[NLeE] at h
   obtain⟨z,ys,rfl,_,h2⟩:=h
   simp[NLeE.len h2]
theorem NLeS.len:∀ {x y:List (List D)},NLeS x y→y.length=x.length
 | [],y,h=>by simp only[NLeS] at h; subst h; rfl
 | x :: xs, y, h => by
   simp only[NLeS] at h
   obtain⟨z,ys,rfl,_,h2⟩:=h
   simp[NLeS.len h2]
section
variable {H:Nat→Prop} {w:World}
mutual
theorem NLeD.rd:∀ (x y:D) (u:Value),NLeD x y→Rd H w x u→Rd H w y u
 | .v x,.v y,u,h,hr=>by simp only[NLeD] at h; subst h; exact hr
 | .v x, .sl s ys, u, h, hr => by
   simp only[NLeD] at h
   obtain⟨rfl,rfl⟩:=h
   simp only[Rd] at hr ⊢
   exact⟨none,0,hr.1,by simp,by unfold maxLen; omega,.inl trivial⟩
 | .sl s xs, .sl t ys, u, h, hr => by
   simp only[NLeD] at h
   obtain⟨rfl,h⟩:=h
   simp only[Rd] at hr ⊢
   obtain⟨a,cap,h1,h2,h3,h4⟩:=hr
   have hl:=h.len
   refine⟨a,cap,by rw[hl]; exact h1,by omega,h3,?_⟩
   rcases h4 with h4 | ⟨b,off,ha,hb,hs⟩
   ·subst h4; simp only[NLeS] at h; exact .inl h
   ·exact .inr ⟨b,off,ha,hb,NLeS.rd b off xs ys h hs⟩
 | .sl _ _,.v _,u,h,_=>by simp[NLeD] at h
theorem NLeE.rd (b:Nat):∀ (o:Nat) (x y:List D),NLeE x y→RdE H w b o x→RdE H w b o y
 | o,[],y,h,_=>by simp only[NLeE] at h; subst h; simp[RdE]
 | o, x :: xs, y, h, hr => by
   simp only[NLeE] at h
   obtain⟨z,ys,rfl,h1,h2⟩:=h
   simp only[RdE] at hr ⊢
   obtain⟨⟨u,hc,hr1⟩,hr2⟩:=hr
   exact⟨⟨u,hc,NLeD.rd x z u h1 hr1⟩,NLeE.rd b (o + 1) xs ys h2 hr2⟩
theorem NLeS.rd {sz:Nat} (b:Nat):∀ (o:Nat) (x y:List (List D)),NLeS x y→RdS H w sz b o x→RdS H w sz b o y
 | o,[],y,h,_=>by simp only[NLeS] at h; subst h; simp[RdS]
 | o, x :: xs, y, h, hr => by
   simp only[NLeS] at h
   obtain⟨z,ys,rfl,h1,h2⟩:=h
   simp only[RdS] at hr ⊢
   exact⟨(h1.len).trans hr.1,NLeE.rd b o x z h1 hr.2.1,NLeS.rd b (o + sz) xs ys h2 hr.2.2⟩
end
theorem NLeD.shp {ι:Place} {A:AHeap} {x y:D} {u:Value} (h:NLeD x y) (hs:Shp ι A (.d x) u):Shp ι A (.d y) u:=by
 cases x with
 | v x =>
   cases y with
   | v y=>simp only[NLeD] at h; subst h; exact hs
   | sl s ys =>
     simp only[NLeD] at h
     obtain⟨rfl,rfl⟩:=h
     simp only[Shp] at hs ⊢
     exact⟨none,0,hs,by simp,.inl trivial⟩
 | sl s xs =>
   cases y with
   | v y=>simp[NLeD] at h
   | sl t ys =>
     simp only[NLeD] at h
     obtain⟨rfl,h⟩:=h
     have hl:=h.len
     simp only[Shp] at hs ⊢
     obtain⟨a,c,h1,h2,h3⟩:=hs
     refine⟨a,c,by rw[hl]; exact h1,by omega,h3.imp (fun h3=>?_) id⟩
     subst h3; simp only[NLeS] at h; exact h
mutual
theorem NLe.shp {ι:Place} {A:AHeap}:∀ (x y:AV) (u:Value),NLe x y→Shp ι A x u→Shp ι A y u
 | .d x, c, u, h, hs => by
   simp only[NLe] at h
   obtain⟨y,rfl,h⟩:=h
   exact h.shp hs
 | .agg cs, c, u, h, hs => by
   simp only[NLe] at h
   obtain⟨ds,rfl,h⟩:=h
   simp only[Shp] at hs ⊢
   obtain⟨l,h1,h2⟩:=hs
   exact⟨l,h1,NLeL.shp cs ds l h h2⟩
 | .tup cs, c, u, h, hs => by
   simp only[NLe] at h
   obtain⟨ds,rfl,h⟩:=h
   simp only[Shp] at hs ⊢
   obtain⟨l,h1,h2⟩:=hs
   exact⟨l,h1,NLeL.shp cs ds l h h2⟩
 | .fn f fs cs, c, u, h, hs => by
   simp only[NLe] at h
   obtain⟨gs,ds,rfl,h,h'⟩:=h
   simp only[Shp] at hs ⊢
   obtain⟨l,m,h1,h2,h3⟩:=hs
   exact⟨l,m,h1,NLeL.shp fs gs l h h2,NLeL.shp cs ds m h' h3⟩
 | .any,c,u,h,hs=>by simp only[NLe] at h; subst h; exact hs
 | .own ..,c,u,h,hs=>by simp only[NLe] at h; subst h; exact hs
 | .ptr ..,c,u,h,hs=>by simp only[NLe] at h; subst h; exact hs
 | .ip ..,c,u,h,hs=>by simp only[NLe] at h; subst h; exact hs
 | .mp ..,c,u,h,hs=>by simp only[NLe] at h; subst h; exact hs
 | .ifc t x, c, u, h, hs => by
   simp only[NLe] at h
   obtain⟨y,rfl,h⟩:=h
   simp only[Shp] at hs ⊢
   obtain⟨v,h1,h2⟩:=hs
   exact⟨v,h1,NLe.shp x y v h h2⟩
theorem NLeL.shp {ι:Place} {A:AHeap}:∀ (x y:List AV) (l:List Value),NLeL x y→ShpL ι A x l→ShpL ι A y l
 | [],y,l,h,hs=>by simp only[NLeL] at h; subst h; exact hs
 | x :: xs, y, l, h, hs => by
   simp only[NLeL] at h
   obtain⟨z,ys,rfl,h1,h2⟩:=h
   simp only[ShpL] at hs ⊢
   obtain⟨u,l',e,g1,g2⟩:=hs
   exact⟨u,l',e,NLe.shp x z u h1 g1,NLeL.shp xs ys l' h2 g2⟩
end
mutual
theorem NLe.mem:∀ (x y:AV) (u:Value),NLe x y→Mem H w x u→Mem H w y u
 | .d x, c, u, h, hs => by
   simp only[NLe] at h
   obtain⟨y,rfl,h⟩:=h
   simp only[Mem] at hs ⊢
   exact NLeD.rd x y u h hs
 | .agg cs, c, u, h, hs => by
   simp only[NLe] at h
   obtain⟨ds,rfl,h⟩:=h
   simp only[Mem] at hs ⊢
   obtain⟨l,h1,h2,h3⟩:=hs
   exact⟨l,h1,NLeL.mem cs ds l h h2,h3⟩
 | .tup cs, c, u, h, hs => by
   simp only[NLe] at h
   obtain⟨ds,rfl,h⟩:=h
   simp only[Mem] at hs ⊢
   obtain⟨l,h1,h2⟩:=hs
   exact⟨l,h1,NLeL.mem cs ds l h h2⟩
 | .fn f fs cs, c, u, h, hs => by
   simp only[NLe] at h
   obtain⟨gs,ds,rfl,h,h'⟩:=h
   simp only[Mem] at hs ⊢
   obtain⟨l,m,h1,h2,h3⟩:=hs
   exact⟨l,m,h1,NLeL.mem fs gs l h h2,NLeL.mem cs ds m h' h3⟩
 | .any,c,u,h,hs=>by simp only[NLe] at h; subst h; exact hs
 | .own ..,c,u,h,hs=>by simp only[NLe] at h; subst h; exact hs
 | .ptr ..,c,u,h,hs=>by simp only[NLe] at h; subst h; exact hs
 | .ip ..,c,u,h,hs=>by simp only[NLe] at h; subst h; exact hs
 | .mp ..,c,u,h,hs=>by simp only[NLe] at h; subst h; exact hs
 | .ifc t x, c, u, h, hs => by
   simp only[NLe] at h
   obtain⟨y,rfl,h⟩:=h
   simp only[Mem] at hs ⊢
   obtain⟨v,h1,h2⟩:=hs
   exact⟨v,h1,NLe.mem x y v h h2⟩
theorem NLeL.mem:∀ (x y:List AV) (l:List Value),NLeL x y→MemL H w x l→MemL H w y l
 | [],y,l,h,hs=>by simp only[NLeL] at h; subst h; exact hs
 | x :: xs, y, l, h, hs => by
   simp only[NLeL] at h
   obtain⟨z,ys,rfl,h1,h2⟩:=h
   simp only[MemL] at hs ⊢
   obtain⟨u,l',e,g1,g2⟩:=hs
   exact⟨u,l',e,NLe.mem x z u h1 g1,NLeL.mem xs ys l' h2 g2⟩
end
end
def resO:Option AV→AV→Prop
 | some r0,r=>NLe r0 r
 | none,_=>False
def argO:Option (List AV)→List AV→Prop
 | some a0,a=>NLeL a0 a
 | none,_=>False
section
variable {P:Program} {H:Nat→Prop} {ι ι':Place} {A A':AHeap} {w w':World} {e:AEnv} {ec:Env} {C:Ctx} {n:Nat}
theorem omap_get {α β:Type} {g:α→Option β}:∀ {l:List α} {m:List β},omap g l=some m→m.length=l.length∧∀ (i:Nat) (y:β),m[i]? = some y→∃ x,l[i]? = some x∧g x=some y
 | [],m,h=>by simp[omap] at h; subst h; simp
 | a :: l, m, h => by
   simp only[omap] at h
   split at h
   ·rename_i b hb
    simp only[Option.map_eq_some_iff] at h
    obtain⟨m',hm,rfl⟩:=h
    obtain⟨h1,h2⟩:=omap_get hm
    refine⟨by simp[h1],fun i y hy=>?_⟩
    cases i with
    | zero=>simp at hy; subst hy; exact⟨a,rfl,hb⟩
    | succ i=>simpa using h2 i y (by simpa using hy)
   ·cases h
def Hz (fz:Bool) (H:Nat→Prop) (ι:Place) (A:AHeap):Nat→Prop:=if fz=true then Nn H ι A else H
theorem hz_keep (fz:Bool) (H:Nat→Prop) (ι:Place) (A:AHeap) (w:World):KeepD (Nn H ι A) w (Hz fz H ι A) w:=fun b hb hn=>⟨⟨hb,fun h=>by
 unfold Hz at h
 split at h
 ·exact hn h
 ·exact hn (.inl h)⟩,rfl⟩
theorem reiD_sound {fz:Bool} (hR:Rel H ι A w):∀ (f:Nat) (c:AV) (x:D) (u:Value),reiD fz A f c=some x→Val ι A (Nn H ι A) w c u→Rd (Hz fz H ι A) w x u:=by
 intro f
 induction f with
 | zero =>
   intro c x u h hv
   cases c<;>simp only[reiD,Option.some.injEq] at h<;>try (cases h; done)
   subst h
   have:=hv.2
   simp only[Mem] at this
   exact Rd.keep (hz_keep fz H ι A w) _ _ this
 | succ f ih =>
   intro c x u h hv
   cases c<;>simp only[reiD] at h<;>try (cases h; done)
   ·simp only[Option.some.injEq] at h
    subst h
    have:=hv.2
    simp only[Mem] at this
    exact Rd.keep (hz_keep fz H ι A w) _ _ this
   ·rename_i b ver i len
    split at h
    ·rename_i k hk
     split at h
     ·rename_i hle
      obtain⟨hle,hfz⟩:=hle
      simp only[Option.map_eq_some_iff] at h
      obtain⟨xs,hxs,rfl⟩:=h
      obtain⟨h1,h2⟩:=omap_get hxs
      have hlen:xs.length=len:=by rw[h1]; simp; omega
      have hAb:=curB_get hk
      rcases own_shp hk hv.1 with⟨rfl,_,rfl⟩ | ⟨c,m,cap,hι,rfl,hlc,hcm,hcn⟩
      ·have:=List.eq_nil_of_length_eq_zero hlen
       subst this
       simp only[Rd]
       exact⟨none,0,rfl,by simp,by unfold maxLen; omega,.inl trivial⟩
      ·have hb:=hR.blk b k hAb
       unfold BlkRel at hb
       rw[hι] at hb
       obtain⟨arr,a1,a2,a3,a4⟩:=hb
       have a1:=a1.cells (curB_ty hk)
       have a2:=a2.1 (curB_ty hk)
       simp only[Rd]
       refine⟨_,cap,by rw[hlen],by omega,hcm,?_⟩
       by_cases h0:xs=[]
       ·exact .inl h0
       ·refine .inr ⟨c,_,rfl,⟨(hR.hid b k c m hAb hι).2,fun hh=>?_⟩,RdS.of fun t y hy=>?_⟩
        ·unfold Hz at hh
         split at hh
         ·rename_i hfz'
          rcases hh with hh | ⟨b',k',n',g1,g2,g3⟩
          ·exact (hR.hid b k c m hAb hι).1 hh
          ·have:=hR.inj b b' k k' c m n' hAb g1 hι g3
           subst this
           rw[hAb] at g1
           obtain rfl:=oSI g1
           rw[hfz hfz'] at g2
           cases g2
         ·exact (hR.hid b k c m hAb hι).1 hh
        ·obtain⟨row,hr1,hr2⟩:=h2 t y hy
         rw[List.getElem?_take] at hr1
         split at hr1
         ·rw[List.getElem?_drop] at hr1
          obtain⟨r1,r2⟩:=omap_get hr2
          obtain⟨q1,q2⟩:=a4 _ _ hr1
          refine⟨by omega,RdE.of fun j d hj=>?_⟩
          obtain⟨av,p1,p2⟩:=r2 j d hj
          obtain⟨v,z1,z2,_⟩:=q2 j av p1
          refine⟨v,?_,ih _ _ _ p2 z2⟩
          rw[cell_in a1,← z1,Nat.add_mul]
         ·cases hr1
     ·cases h
    ·cases h
theorem d_shp {N:Nat→Prop} {x:D} {u:Value} (h:Rd N w x u):Shp ι A (.d x) u:=by
 cases x with
 | v y=>simp only[Rd] at h; simp only[Shp]; exact h.1
 | sl sz xs =>
   simp only[Rd] at h
   obtain⟨a,cap,e1,e2,_,e4⟩:=h
   simp only[Shp]
   exact⟨a,cap,e1,e2,e4.imp id fun⟨b,off,e,_⟩=>⟨b,off,e⟩⟩
theorem d_val {N:Nat→Prop} {x:D} {u:Value} (h:Rd N w x u):Val ι A N w (.d x) u:=⟨d_shp h,by simp only[Mem]; exact h⟩
theorem reiL_sound {fz:Bool} {f:Nat} (hR:Rel H ι A w) {cs:List AV} {ds:List D} (h:omap (reiD fz A f) cs=some ds) {l:List Value} (h1:ShpL ι A cs l) (h2:MemL (Nn H ι A) w cs l) :
 ShpL ι' A' (ds.map .d) l∧MemL (Hz fz H ι A) w (ds.map .d) l:=by
 obtain⟨g1,g2⟩:=omap_get h
 have hl:=h1.len
 have key:∀ (i:Nat) (c:AV) (u:Value),(ds.map AV.d)[i]? = some c→l[i]? = some u→Val ι' A' (Hz fz H ι A) w c u:=by
  intro i c u hc hu
  rw[List.getElem?_map] at hc
  simp only[Option.map_eq_some_iff] at hc
  obtain⟨x,hx,rfl⟩:=hc
  obtain⟨av,p1,p2⟩:=g2 i x hx
  obtain⟨u',q1,q2⟩:=h1.get p1
  rw[hu] at q1
  obtain rfl:=oSI q1
  exact d_val (reiD_sound hR f av x u p2 ⟨q2,h2.get p1 hu⟩)
 exact⟨ShpL.of (by simp; omega) fun i c u hc hu=>(key i c u hc hu).1,MemL.of (by simp; omega) fun i c u hc hu=>(key i c u hc hu).2⟩
theorem rei0_sound {fz:Bool} {f:Nat} (hR:Rel H ι A w) {c r:AV} {u:Value} (h:rei0 fz A f c=some r) (hv:Val ι A (Nn H ι A) w c u):Val ι' A' (Hz fz H ι A) w r u:=by
 cases c<;>simp only[rei0] at h<;>try (cases h; done)
 ·simp only[Option.some.injEq] at h
  subst h
  have:=hv.2
  simp only[Mem] at this
  exact d_val (Rd.keep (hz_keep fz H ι A w) _ _ this)
 ·simp only[Option.map_eq_some_iff] at h
  obtain⟨x,hx,rfl⟩:=h
  exact d_val (reiD_sound hR f _ x u hx hv)
 ·simp only[Option.map_eq_some_iff] at h
  obtain⟨ds,hds,rfl⟩:=h
  obtain⟨h1,h2⟩:=hv
  simp only[Shp] at h1
  simp only[Mem] at h2
  obtain⟨l,rfl,e1⟩:=h1
  obtain⟨l',e2,e3,e4⟩:=h2
  simp only[Value.agg.injEq] at e2
  have:l=l':=by simpa using e2
  subst this
  obtain⟨g1,g2⟩:=reiL_sound (ι':=ι') (A':=A') hR hds e1 e3
  exact⟨by simp only[Shp]; exact⟨l,rfl,g1⟩,by simp only[Mem]; exact⟨l,rfl,g2,e4⟩⟩
theorem rei0L_sound {fz:Bool} {f:Nat} (hR:Rel H ι A w) {cs ds:List AV} (h:omap (rei0 fz A f) cs=some ds) {l:List Value} (h1:ShpL ι A cs l) (h2:MemL (Nn H ι A) w cs l) :
 ShpL ι' A' ds l∧MemL (Hz fz H ι A) w ds l:=by
 obtain⟨g1,g2⟩:=omap_get h
 have hl:=h1.len
 have key:∀ (i:Nat) (c:AV) (u:Value),ds[i]? = some c→l[i]? = some u→Val ι' A' (Hz fz H ι A) w c u:=by
  intro i c u hc hu
  obtain⟨av,p1,p2⟩:=g2 i c hc
  obtain⟨u',q1,q2⟩:=h1.get p1
  rw[hu] at q1
  obtain rfl:=oSI q1
  exact rei0_sound hR p2 ⟨q2,h2.get p1 hu⟩
 exact⟨ShpL.of (by omega) fun i c u hc hu=>(key i c u hc hu).1,MemL.of (by omega) fun i c u hc hu=>(key i c u hc hu).2⟩
theorem rei1_sound {fz:Bool} {f:Nat} (hR:Rel H ι A w) {c r:AV} {u:Value} (h:rei1 fz A f c=some r) (hv:Val ι A (Nn H ι A) w c u):Val ι' A' (Hz fz H ι A) w r u:=by
 cases c<;>simp only[rei1] at h<;>try (cases h; done)
 ·simp only[Option.some.injEq] at h; subst h; exact val_any _
 ·simp only[Option.some.injEq] at h
  subst h
  have:=hv.2
  simp only[Mem] at this
  exact d_val (Rd.keep (hz_keep fz H ι A w) _ _ this)
 ·simp only[Option.map_eq_some_iff] at h
  obtain⟨x,hx,rfl⟩:=h
  exact d_val (reiD_sound hR f _ x u hx hv)
 ·simp only[Option.some.injEq] at h
  subst h
  have h1:=hv.1
  have h2:=hv.2
  simp only[Shp] at h1
  simp only[Mem] at h2
  obtain⟨b,o,e1,e2,e3⟩:=h2
  have hk:=hz_keep fz H ι A w
  exact⟨by simp only[Shp]; exact h1,by simp only[Mem]; exact⟨b,o,e1,(hk b e2.1 e2.2).1,RdE.keep hk e2 o _ e3⟩⟩
 ·simp only[Option.map_eq_some_iff] at h
  obtain⟨ds,hds,rfl⟩:=h
  obtain⟨h1,h2⟩:=hv
  simp only[Shp] at h1
  simp only[Mem] at h2
  obtain⟨l,rfl,e1⟩:=h1
  obtain⟨l',e2,e3,e4⟩:=h2
  simp only[Value.agg.injEq] at e2
  have:l=l':=by simpa using e2
  subst this
  obtain⟨g1,g2⟩:=reiL_sound (ι':=ι') (A':=A') hR hds e1 e3
  exact⟨by simp only[Shp]; exact⟨l,rfl,g1⟩,by simp only[Mem]; exact⟨l,rfl,g2,e4⟩⟩
 ·split at h
  ·rename_i g fs cs a b ha hb
   simp only[Option.some.injEq] at h
   subst h
   obtain⟨h1,h2⟩:=hv
   simp only[Shp] at h1
   simp only[Mem] at h2
   obtain⟨l,m,rfl,e1,e2⟩:=h1
   obtain⟨l',m',e3,e4,e5⟩:=h2
   simp only[Value.func.injEq,true_and] at e3
   have q1:l=l':=by simpa using e3.1
   have q2:m=m':=by simpa using e3.2
   subst q1 q2
   obtain⟨g1,g2⟩:=rei0L_sound (ι':=ι') (A':=A') hR ha e1 e4
   obtain⟨g3,g4⟩:=rei0L_sound (ι':=ι') (A':=A') hR hb e2 e5
   exact⟨by simp only[Shp]; exact⟨l,m,rfl,g1,g3⟩,by simp only[Mem]; exact⟨l,m,rfl,g2,g4⟩⟩
  ·cases h
theorem rei1L_sound {fz:Bool} {f:Nat} (hR:Rel H ι A w) {cs ds:List AV} (h:omap (rei1 fz A f) cs=some ds) {l:List Value} (h1:ShpL ι A cs l) (h2:MemL (Nn H ι A) w cs l) :
 ShpL ι' A' ds l∧MemL (Hz fz H ι A) w ds l:=by
 obtain⟨g1,g2⟩:=omap_get h
 have hl:=h1.len
 have key:∀ (i:Nat) (c:AV) (u:Value),ds[i]? = some c→l[i]? = some u→Val ι' A' (Hz fz H ι A) w c u:=by
  intro i c u hc hu
  obtain⟨av,p1,p2⟩:=g2 i c hc
  obtain⟨u',q1,q2⟩:=h1.get p1
  rw[hu] at q1
  obtain rfl:=oSI q1
  exact rei1_sound hR p2 ⟨q2,h2.get p1 hu⟩
 exact⟨ShpL.of (by omega) fun i c u hc hu=>(key i c u hc hu).1,MemL.of (by omega) fun i c u hc hu=>(key i c u hc hu).2⟩
theorem reiV_sound {fz:Bool} {f:Nat} (hR:Rel H ι A w) {c r:AV} {u:Value} (h:reiV fz A f c=some r) (hv:Val ι A (Nn H ι A) w c u):Val ι' A' (Hz fz H ι A) w r u:=by
 unfold reiV at h
 split at h
 ·simp only[Option.map_eq_some_iff] at h
  obtain⟨ds,hds,rfl⟩:=h
  obtain⟨h1,h2⟩:=hv
  simp only[Shp] at h1
  simp only[Mem] at h2
  obtain⟨l,rfl,e1⟩:=h1
  obtain⟨l',e2,e3⟩:=h2
  simp only[Value.tuple.injEq] at e2
  have:l=l':=by simpa using e2
  subst this
  obtain⟨g1,g2⟩:=rei1L_sound (ι':=ι') (A':=A') hR hds e1 e3
  exact⟨by simp only[Shp]; exact⟨l,rfl,g1⟩,by simp only[Mem]; exact⟨l,rfl,g2⟩⟩
 ·exact rei1_sound hR h hv
theorem reiVL_sound {fz:Bool} {f:Nat} (hR:Rel H ι A w) {cs ds:List AV} (h:omap (reiV fz A f) cs=some ds) {l:List Value} (h1:ShpL ι A cs l) (h2:MemL (Nn H ι A) w cs l) :
 ShpL ι' A' ds l∧MemL (Hz fz H ι A) w ds l:=by
 obtain⟨g1,g2⟩:=omap_get h
 have hl:=h1.len
 have key:∀ (i:Nat) (c:AV) (u:Value),ds[i]? = some c→l[i]? = some u→Val ι' A' (Hz fz H ι A) w c u:=by
  intro i c u hc hu
  obtain⟨av,p1,p2⟩:=g2 i c hc
  obtain⟨u',q1,q2⟩:=h1.get p1
  rw[hu] at q1
  obtain rfl:=oSI q1
  exact reiV_sound hR p2 ⟨q2,h2.get p1 hu⟩
 exact⟨ShpL.of (by omega) fun i c u hc hu=>(key i c u hc hu).1,MemL.of (by omega) fun i c u hc hu=>(key i c u hc hu).2⟩
abbrev none0:Place:=fun _=>none
theorem rel_nil (H:Nat→Prop) (w:World):Rel H none0 [] w:=⟨fun b k h=>by simp at h,fun b k c n h=>by simp at h,fun b b' k k' c n n' h=>by simp at h⟩
theorem nn_nil (H:Nat→Prop) (ι:Place):Nn H ι []=H:=by
 funext c
 simp only[Nn,Mu,eq_iff_iff]
 constructor
 ·rintro (h | ⟨b,k,n,h,_⟩)
  ·exact h
  ·simp at h
 ·exact .inl
def Res (r r':AV) (A':AHeap):Prop:=resO (reiV false A' 9 r') r
theorem af_of {f:FuncId} {fn:Func} {c:Code} {args:List AV} {r:AV} (hf:P.funcs[f]? = some fn) (hb:fn.body=some c) (hd:dstsOk fn.ntmps c=true) (hna:args.length≤fn.ntmps)
 (h:BdL args→avc P 0 c [] (aRet P fn.results.toList (Res r)) (aRet P fn.results.toList (Res r)) (aenv0 args) []):AF P f args r:=by
 intro H w vs hH hs hm
 have hac:AC P f args [] (Res r):=ac_of hf hb hd hna h
 refine (hac H none0 w vs hH (rel_nil H w) hs (by rw[nn_nil]; exact hm)).mono ?_
 rintro en w' ⟨v,r',ι',A',hv,hr,hR,hst,hval⟩
 unfold Res resO at hr
 split at hr
 ·rename_i r0 r1 hr0
  have:=reiV_sound (ι':=none0) (A':=[]) hR hr0 hval
  exact⟨v,hv,⟨NLe.shp _ _ _ hr this.1,NLe.mem _ _ _ hr this.2⟩,hst.ext⟩
 ·exact hr.elim
theorem rel_ext (hR:Rel H ι A w) (hx:Ext w w'):Rel H ι A w'∧Step ι A w ι A w':=by
 have hst:Step ι A w ι A w':=⟨fun b k h=>⟨k,h,Nat.le_refl _,fun _=>⟨rfl,rfl⟩⟩,fun _ h=>.inl h,fun c hc _=>hx.heap hc,hx.size,hx.os,hx.tape,hx.output⟩
 exact⟨⟨fun b k hb=>BlkRel.step (hR.blk b k hb) rfl (fun c n hc=>hx.heap (hR.hid b k c n hb hc).2) fun c u hv=>Val.step hst hv,fun b k c n h1 h2=>⟨(hR.hid b k c n h1 h2).1,Nat.lt_of_lt_of_le (hR.hid b k c n h1 h2).2 hx.size⟩,hR.inj⟩,hst⟩
theorem hz_lt (hH:∀ c,H c→c < w.heap.size) (hR:Rel H ι A w) (fz:Bool):∀ c,Hz fz H ι A c→c < w.heap.size:=by
 intro c hc
 unfold Hz at hc
 split at hc
 ·rcases hc with hc | ⟨b,k,n,h1,_,h3⟩
  ·exact hH c hc
  ·exact (hR.hid b k c n h1 h3).2
 ·exact hH c hc
theorem HOk.hz (hH:HOk H ι A w) (hR:Rel H ι A w) (fz:Bool):HOk (Hz fz H ι A) none0 [] w:=HOk.nil (hz_lt hH.1 hR fz) hH.2.1
def scal:AV→Bool
 | .d (.v _)=>true
 | .tup cs=>cs.all fun c=>match c with | .d (.v _)=>true | .agg l=>l.all fun c=>(match c with | .d (.v _)=>true | _=>false) | _=>false
 | .agg l=>l.all fun c=>match c with | .d (.v _)=>true | _=>false
 | _=>false
theorem scal_agg {N N':Nat→Prop} {w w':World}:∀ {l:List AV} {m:List Value},(l.all fun c=>match c with | .d (.v _)=>true | _=>false)=true→MemL N w l m→MemL N' w' l m
 | [],m,_,h=>by simpa [MemL] using h
 | c :: l, m, hs, h => by
   simp only[List.all_cons,Bool.and_eq_true] at hs
   simp only[MemL] at h ⊢
   obtain⟨u,m',e,h1,h2⟩:=h
   refine⟨u,m',e,?_,scal_agg hs.2 h2⟩
   have h3:=hs.1
   split at h3
   ·simpa [Mem,Rd] using h1
   ·cases h3
theorem scal_mem {N N':Nat→Prop} {w w':World} {r:AV} {u:Value} (hs:scal r=true) (h:Mem N w r u):Mem N' w' r u:=by
 have hagg:∀ (l:List AV) (u:Value),(l.all fun c=>match c with | .d (.v _)=>true | _=>false)=true→Mem N w (.agg l) u→Mem N' w' (.agg l) u:=by
  intro l u hl h
  simp only[Mem] at h ⊢
  obtain⟨m,e,h1,h2⟩:=h
  exact⟨m,e,scal_agg hl h1,h2⟩
 have htup:∀ (l:List AV) (m:List Value),(l.all fun c=>match c with | .d (.v _)=>true | .agg l=>l.all fun c=>(match c with | .d (.v _)=>true | _=>false) | _=>false)=true→MemL N w l m→MemL N' w' l m:=by
  intro l
  induction l with
  | nil=>intro m _ h; simpa [MemL] using h
  | cons c l ih =>
    intro m hl h
    simp only[List.all_cons,Bool.and_eq_true] at hl
    simp only[MemL] at h ⊢
    obtain⟨u,m',e,h1,h2⟩:=h
    refine⟨u,m',e,?_,ih _ hl.2 h2⟩
    have h3:=hl.1
    split at h3
    ·simpa [Mem,Rd] using h1
    ·exact hagg _ _ h3 h1
    ·cases h3
 unfold scal at hs
 split at hs
 ·simpa [Mem,Rd] using h
 ·simp only[Mem] at h ⊢
  obtain⟨m,e,h1⟩:=h
  exact⟨m,e,htup _ _ hs h1⟩
 ·exact hagg _ _ hs h
 ·cases hs
theorem AF.ac {f:FuncId} {args args':List AV} {r:AV} (h:AF P f args' r) (hr:argO (omap (reiV true A 9) args) args'):AC P f args A fun r' A'=>r'=r∧A'=A:=by
 intro H ι w vs hH hR hs hm
 unfold argO at hr
 split at hr
 case h_2=>exact hr.elim
 rename_i a0 a1 hr0
 obtain⟨h1,h2⟩:=reiVL_sound (ι':=none0) (A':=[]) hR hr0 hs hm
 have h1:=NLeL.shp _ _ _ hr h1
 have h2:=NLeL.mem _ _ _ hr h2
 refine (h _ w vs (hH.hz hR true) h1 h2).mono ?_
 rintro en w' ⟨v,hv,hval,hx⟩
 obtain⟨g1,g2⟩:=rel_ext hR hx
 exact⟨v,r,ι,A,hv,⟨rfl,rfl⟩,g1,g2,Shp.step (fun b k h=>by simp at h) _ _ hval.1,hval.2⟩
theorem AF.acs {f:FuncId} {args args':List AV} {r:AV} (h:AF P f args' r) (hr:argO (omap (reiV false A 9) args) args') (hsc:scal r=true):AC P f args A fun r' A'=>r'=r∧A'=A:=by
 intro H ι w vs hH hR hs hm
 unfold argO at hr
 split at hr
 case h_2=>exact hr.elim
 rename_i a0 a1 hr0
 obtain⟨h1,h2⟩:=reiVL_sound (ι':=none0) (A':=[]) hR hr0 hs hm
 have h1:=NLeL.shp _ _ _ hr h1
 have h2:=NLeL.mem _ _ _ hr h2
 refine (h _ w vs (hH.hz hR false) h1 h2).mono ?_
 rintro en w' ⟨v,hv,hval,hx⟩
 obtain⟨g1,g2⟩:=rel_ext hR hx
 exact⟨v,r,ι,A,hv,⟨rfl,rfl⟩,g1,g2,Shp.step (fun b k h=>by simp at h) _ _ hval.1,scal_mem hsc hval.2⟩
theorem Sub.refl (n:Nat) (e:AEnv) (A:AHeap):Sub n e A e A:=fun _ _ _ _ h=>h
theorem Sub.trans {e e' e'':AEnv} {A A' A'':AHeap} (h:Sub n e A e' A') (g:Sub n e' A' e'' A''):Sub n e A e'' A'':=fun C ec w hn hS=>g C ec w hn (h C ec w hn hS)
def VLe (A:AHeap) (c c':AV):Prop:=∀ (H:Nat→Prop) (ι:Place) (w:World) (u:Value),Rel H ι A w→Val ι A (Nn H ι A) w c u→Val ι A (Nn H ι A) w c' u
theorem VLe.refl (c:AV):VLe A c c:=fun _ _ _ _ _ h=>h
theorem VLe.any (c:AV):VLe A c .any:=fun _ _ _ _ _ _=>val_any _
theorem VLe.nil_own {b ver:Nat} {k:Blk} (h:A[b]? = some k) (hv:ver=k.ver):VLe A (.d (.v (.slice none 0 0))) (.own b ver 0 0):=fun H ι w u _ hu=>by
 have:=hu.1
 simp only[Shp] at this
 subst this
 exact⟨by simp only[Shp]; exact⟨⟨_,_,_,rfl⟩,k,h,by omega,fun _=>.inl ⟨trivial,trivial,trivial⟩⟩,by simp[Mem]⟩
theorem VLe.nil_sl (sz:Nat):VLe A (.d (.v (.slice none 0 0))) (.d (.sl sz [])):=fun H ι w u _ hu=>by
 have:=hu.1
 simp only[Shp] at this
 subst this
 refine d_val ?_
 simp only[Rd]
 exact⟨none,0,rfl,by simp,by unfold maxLen; omega,.inl trivial⟩
theorem VLe.rei {c c':AV} (h:reiV true A 9 c=some c'):VLe A c c':=fun H ι w u hR hu=>reiV_sound hR h hu
theorem Sub.env {e e':AEnv} (h:∀ i,VLe A (e i) (e' i)):Sub n e A e' A:=by
 rintro C ec w hn ⟨h0,ι,h1,h2,h3,h4⟩
 have hv:=fun i=>h i C.H ι w (ec i) h1 ⟨h3 i,h4 i⟩
 exact⟨h0,ι,h1,h2,fun i=>(hv i).1,fun i=>(hv i).2⟩
theorem Sub.slot {e:AEnv} {s:Nat} {c:AV} (h:VLe A (e s) c):Sub n e A (aupd e (some s) c) A:=Sub.env fun i=>by
 simp only[aupd]
 split
 ·rename_i h'; subst h'; exact h
 ·exact VLe.refl _
theorem Sub.cell {e:AEnv} {b i o:Nat} {k:Blk} {x:List AV} {c c':AV} (hb:A[b]? = some k) (hx:k.els[i]? = some x) (ho:x[o]? = some c) (h:VLe A c c'):Sub n e A e (A.set b (setEls k (k.els.set i (x.set o c')))):=by
 rintro C ec w hn ⟨h0,ι,h1,h2,h3,h4⟩
 have hlt:=(gSI.1 hb).1
 have hilt:=(gSI.1 hx).1
 have holt:=(gSI.1 ho).1
 have hN:Nn C.H ι (A.set b (setEls k (k.els.set i (x.set o c'))))=Nn C.H ι A:=Nn_set (k':=setEls k (k.els.set i (x.set o c'))) hb rfl
 have hst:Step ι A w ι (A.set b (setEls k (k.els.set i (x.set o c')))) w:=by
  refine⟨fun b' k' hb'=>?_,fun c' hc'=>.inl ((Mu_set (k':=setEls k (k.els.set i (x.set o _))) hb rfl c').1 hc'),fun _ _ _=>rfl,Nat.le_refl _,rfl,rfl,rfl⟩
  by_cases he:b=b'
  ·subst he
   rw[hb] at hb'
   obtain rfl:=oSI hb'
   exact⟨_,gSS hlt,Nat.le_refl _,fun _=>⟨rfl,rfl⟩⟩
  ·exact⟨k',by rw[gSN he]; exact hb',Nat.le_refl _,fun _=>⟨rfl,rfl⟩⟩
 have hv:∀ c u,Val ι A (Nn C.H ι A) w c u→Val ι (A.set b (setEls k (k.els.set i (x.set o c')))) (Nn C.H ι (A.set b (setEls k (k.els.set i (x.set o c'))))) w c u:=fun c u hv=>Val.step hst hv
 have hget:∀ (b':Nat) (k':Blk),(A.set b (setEls k (k.els.set i (x.set o c'))))[b']? = some k'→(b'=b∧k'=setEls k (k.els.set i (x.set o c')))∨(b'≠b∧A[b']? = some k'):=by
  intro b' k' hb'
  by_cases he:b=b'
  ·subst he
   rw[gSS hlt] at hb'
   exact .inl ⟨rfl,(oSI hb').symm⟩
  ·rw[gSN he] at hb'
   exact .inr ⟨fun h=>he h.symm,hb'⟩
 have hblk:∀ (b':Nat) (k':Blk),(A.set b (setEls k (k.els.set i (x.set o c'))))[b']? = some k'→∃ k2:Blk,A[b']? = some k2:=by
  intro b' k' hb'
  rcases hget b' k' hb' with⟨rfl,_⟩ | ⟨_,h2⟩
  ·exact⟨k,hb⟩
  ·exact⟨k',h2⟩
 refine⟨h0,ι,⟨fun b' k' hb'=>?_,fun b' k' c2 n' hb' hc'=>?_,fun b1 b2 k1 k2 c1 n1 n2 g1 g2=>?_⟩,h2.trans hst,fun i=>(hv _ _ ⟨h3 i,h4 i⟩).1,fun i=>(hv _ _ ⟨h3 i,h4 i⟩).2⟩
 ·rcases hget b' k' hb' with⟨rfl,rfl⟩ | ⟨hne,hb2⟩
  ·have hbr:=h1.blk b' k hb
   unfold BlkRel at hbr ⊢
   split
   ·rename_i cc m hι
    rw[hι] at hbr
    obtain⟨arr,a1,a2,a3,a4⟩:=hbr
    refine⟨arr,a1,⟨a2.1,by simpa [setEls] using a2.2⟩,by simpa [setEls] using a3,fun i' x' hi'=>?_⟩
    simp only[setEls] at hi' ⊢
    by_cases hii:i=i'
    ·subst hii
     rw[gSS hilt] at hi'
     obtain rfl:=oSI hi'
     refine⟨by simpa using (a4 i x hx).1,fun j av hj=>?_⟩
     by_cases hoj:o=j
     ·subst hoj
      rw[gSS holt] at hj
      obtain rfl:=oSI hj
      obtain⟨u,g1,g2,g3⟩:=(a4 i x hx).2 o c ho
      exact⟨u,g1,hv _ _ (h C.H ι w u h1 g2),g3⟩
     ·rw[gSN hoj] at hj
      obtain⟨u,g1,g2,g3⟩:=(a4 i x hx).2 j av hj
      exact⟨u,g1,hv _ _ g2,g3⟩
    ·rw[gSN hii] at hi'
     refine⟨(a4 i' x' hi').1,fun j av hj=>?_⟩
     obtain⟨u,g1,g2,g3⟩:=(a4 i' x' hi').2 j av hj
     exact⟨u,g1,hv _ _ g2,g3⟩
   ·rename_i hι
    rw[hι] at hbr
    simp only at hbr
    rw[hbr] at hx
    simp at hx
  ·exact BlkRel.step (h1.blk b' k' hb2) rfl (fun _ _ _=>rfl) hv
 ·obtain⟨k2,hk2⟩:=hblk b' k' hb'
  exact h1.hid b' k2 c2 n' hk2 hc'
 ·obtain⟨k1',h1'⟩:=hblk b1 k1 g1
  obtain⟨k2',h2'⟩:=hblk b2 k2 g2
  exact h1.inj b1 b2 k1' k2' c1 n1 n2 h1' h2'
theorem AC.sub {f:FuncId} {args:List AV} {R R':AV→AHeap→Prop} (h:AC P f args A R) (hs:∀ r A',R r A'→∃ r' A'',Sub A.length (fun _=>r) A' (fun _=>r') A''∧R' r' A''):AC P f args A R':=by
 intro H ι w vs hH hR h1 h2
 refine (h H ι w vs hH hR h1 h2).mono ?_
 rintro en w' ⟨v,r,ι',A',hv,hr,hR',hst,hval⟩
 obtain⟨r',A'',hsub,hr'⟩:=hs r A' hr
 obtain⟨_,ι'',g1,g2,g3,g4⟩:=hsub ⟨H,ι,A,w⟩ (fun _=>v) w' rfl ⟨hH,ι',hR',hst,fun _=>hval.1,fun _=>hval.2⟩
 exact⟨v,r',ι'',A'',hv,hr',g1,g2,g3 0,g4 0⟩
theorem Sub.ghost {e:AEnv} (ver ty sz:Nat):Sub n e A e (A++[⟨ver,true,ty,sz,[]⟩]):=by
 rintro C ec w hn ⟨h0,ι,h1,h2,h3,h4⟩
 let ι':Place:=fun b=>if b=A.length then none else ι b
 have hget:∀ (b:Nat) (k':Blk),(A++[⟨ver,true,ty,sz,[]⟩])[b]? = some k'→(b < A.length∧A[b]? = some k')∨(b=A.length∧k'=⟨ver,true,ty,sz,[]⟩):=by
  intro b k' h
  rw[List.getElem?_append] at h
  split at h
  ·exact .inl ⟨‹_›,h⟩
  ·have h0:=(gSI.1 h).1
   simp at h0
   have:b=A.length:=by omega
   subst this
   simp at h
   exact .inr ⟨rfl,h.symm⟩
 have hlt:∀ b,b < A.length→ι' b=ι b:=fun b hb=>by simp only[ι']; rw[if_neg (by omega)]
 have hmu:∀ c,Mu ι' (A++[⟨ver,true,ty,sz,[]⟩]) c→Mu ι A c:=by
  rintro c ⟨b,k,m,g1,g2,g3⟩
  rcases hget b k g1 with⟨hb,hk⟩ | ⟨rfl,rfl⟩
  ·exact⟨b,k,m,hk,g2,by rw[← hlt b hb]; exact g3⟩
  ·simp[ι'] at g3
 have hst:Step ι A w ι' (A++[⟨ver,true,ty,sz,[]⟩]) w:=⟨fun b k hb=>⟨k,by rw[gAL (gSI.1 hb).1]; exact hb,Nat.le_refl _,fun _=>⟨hlt b (gSI.1 hb).1,rfl⟩⟩,
  fun c hc=>.inl (hmu c hc),fun _ _ _=>rfl,Nat.le_refl _,rfl,rfl,rfl⟩
 have hv:∀ c u,Val ι A (Nn C.H ι A) w c u→Val ι' (A++[⟨ver,true,ty,sz,[]⟩]) (Nn C.H ι' (A++[⟨ver,true,ty,sz,[]⟩])) w c u:=fun c u hv=>Val.step hst hv
 refine⟨h0,ι',⟨fun b k hb=>?_,fun b k c m hb hc=>?_,fun b1 b2 k1 k2 c m1 m2 g1 g2 g3 g4=>?_⟩,h2.trans hst,fun i=>(hv _ _ ⟨h3 i,h4 i⟩).1,fun i=>(hv _ _ ⟨h3 i,h4 i⟩).2⟩
 ·rcases hget b k hb with⟨hb',hk⟩ | ⟨rfl,rfl⟩
  ·exact BlkRel.step (h1.blk b k hk) (hlt b hb') (fun _ _ _=>rfl) hv
  ·simp[BlkRel,ι']
 ·rcases hget b k hb with⟨hb',hk⟩ | ⟨rfl,rfl⟩
  ·rw[hlt b hb'] at hc
   exact h1.hid b k c m hk hc
  ·simp[ι'] at hc
 ·rcases hget b1 k1 g1 with⟨hb1,hk1⟩ | ⟨rfl,rfl⟩
  ·rcases hget b2 k2 g2 with⟨hb2,hk2⟩ | ⟨rfl,rfl⟩
   ·rw[hlt b1 hb1] at g3
    rw[hlt b2 hb2] at g4
    exact h1.inj b1 b2 k1 k2 c m1 m2 hk1 hk2 g3 g4
   ·simp[ι'] at g4
  ·simp[ι'] at g3
end
end Go.Proofs.YtfnbhkbfelllgaaGreatDoor
