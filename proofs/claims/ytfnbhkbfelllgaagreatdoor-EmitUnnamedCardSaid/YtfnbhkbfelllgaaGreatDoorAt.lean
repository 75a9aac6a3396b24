import Derived.Test.YtfnbhkbfelllgaaGreatDoorAl
set_option linter.all false
namespace Go.Proofs.YtfnbhkbfelllgaaGreatDoor
open Go.RowKit
def clrA (P:Program) (el:TypeId) (z:AV) (b ver:Nat):Nat→Nat→AHeap→Option AHeap
 | _,0,A=>some A
 | i, n + 1, A => match astv P A el (.ptr b ver i 0) z with
   | some A1=>clrA P el z b ver (i + 1) n A1
   | none=>none
def clearA (P:Program) (t:TypeId) (A:AHeap):AV→Option AHeap
 | .own b ver i len => match curB A b ver, sl P t with
   | some k, some (el, 1) => (match zvA P el with
     | some [z]=>if k.sz=1 then clrA P el z b ver i len A else none
     | _=>none)
   | _,_=>none
 | _=>none
section
variable {P:Program} {H:Nat→Prop} {ι ι':Place} {A A':AHeap} {w w':World} {e:AEnv} {ec:Env} {C:Ctx} {n:Nat} {K:AKont}
theorem aRaw_min {x y:Operand} {d:Option Nat} {ats:Array TypeId} {ty:TypeId} {pos:String} {af:Array Edge} {gd:Option (Nat×Bool)} {k k':IntKind} {a b:Int} (hx:eva e x = .d (.v (.int k a))) (hy:eva e y = .d (.v (.int k' b)))
 (hk:K (aupd e d (.d (.v (.int k (if b < a then b else a))))) A):aRaw P n ⟨d,.call ⟨.builtin .min,#[x,y],ats⟩,ty,pos,af,gd⟩ e A K:=by
 rintro C ec w hn ⟨h0,ι,h1,h2,h3,h4⟩
 have ex:ev ec x = .int k a:=by have:=eva_shp h3 x; rw[hx] at this; simpa [Shp] using this
 have ey:ev ec y = .int k' b:=by have:=eva_shp h3 y; rw[hy] at this; simpa [Shp] using this
 unfold vRaw execOp
 simp only[resolve,invoke,Sem.run_bind,Sem.run_pure,Result.andThen_ok]
 simp only[Go.builtin,List.map_toArray,List.map_cons,List.map_nil,Sem.run_bind,Builtin.min_,Builtin.min2,ex,ey,List.foldlM_cons,List.foldlM_nil,Sem.run_pure,Result.andThen_ok,pure_bind,bind_pure]
 exact⟨_,_,hk,h0,ι,h1,h2,shp_upd h3 (by simp[Shp]),mem_upd h4 (by simp[Mem,Rd,Value.oneCell'])⟩
theorem aRaw_max {x y:Operand} {d:Option Nat} {ats:Array TypeId} {ty:TypeId} {pos:String} {af:Array Edge} {gd:Option (Nat×Bool)} {k k':IntKind} {a b:Int} (hx:eva e x = .d (.v (.int k a))) (hy:eva e y = .d (.v (.int k' b)))
 (hk:K (aupd e d (.d (.v (.int k (if a < b then b else a))))) A):aRaw P n ⟨d,.call ⟨.builtin .max,#[x,y],ats⟩,ty,pos,af,gd⟩ e A K:=by
 rintro C ec w hn ⟨h0,ι,h1,h2,h3,h4⟩
 have ex:ev ec x = .int k a:=by have:=eva_shp h3 x; rw[hx] at this; simpa [Shp] using this
 have ey:ev ec y = .int k' b:=by have:=eva_shp h3 y; rw[hy] at this; simpa [Shp] using this
 unfold vRaw execOp
 simp only[resolve,invoke,Sem.run_bind,Sem.run_pure,Result.andThen_ok]
 simp only[Go.builtin,List.map_toArray,List.map_cons,List.map_nil,Sem.run_bind,Builtin.max_,Builtin.max2,ex,ey,List.foldlM_cons,List.foldlM_nil,Sem.run_pure,Result.andThen_ok,pure_bind,bind_pure,gt_iff_lt]
 exact⟨_,_,hk,h0,ι,h1,h2,shp_upd h3 (by simp[Shp]),mem_upd h4 (by simp[Mem,Rd,Value.oneCell'])⟩
theorem clr_sound {el:TypeId} {b ver c m:Nat} {x:Value} (hx:x.oneCell'=true) (hxc:x.cells.toList=[x]):∀ (len i:Nat) (A A':AHeap) (w:World),clrA P el (.d (.v x)) b ver i len A=some A'→Rel H ι A w→(∃ k,curB A b ver=some k∧k.sz=1)→ι b=some (c,m) →
 ∃ w',sto w c i (List.replicate len x)=some w'∧Rel H ι A' w'∧Step ι A w ι A' w'
 | 0, i, A, A', w, h, hR, _, _ => by
   simp only[clrA,Option.some.injEq] at h
   subst h
   exact⟨w,rfl,hR,Step.refl _ _ _⟩
 | len + 1, i, A, A', w, h, hR, ⟨k, hk, hk1⟩, hι => by
   simp only[clrA] at h
   split at h
   case h_2=>cases h
   rename_i A1 hA1
   obtain⟨w1,s1,s2,s3⟩:=astv_sound (x:=x) hA1 hR (shp_ptr (i:=i) (o:=0) hk hι) (by simp[Shp]) (by simp only[Mem,Rd]; exact⟨by trivial,hx⟩)
   rw[hk1] at s1
   have hs1:sto w c i [x]=some w1:=by
    simp only[stv,Nat.mul_one,Nat.add_zero] at s1
    split at s1
    ·split at s1
     ·rwa [hxc] at s1
     ·cases s1
    ·cases s1
   have hk':∃ k,curB A1 b ver=some k∧k.sz=1:=by
    unfold astv at hA1
    simp only[hk] at hA1
    split at hA1
    ·split at hA1
     ·simp only[Option.some.injEq] at hA1
      subst hA1
      have hb:=(curB_spec hk)
      have hlt:=(gSI.1 hb.1).1
      have hty:=curB_ty hk
      have hgen:∀ k':Blk,k'.ver=k.ver→k'.ty=k.ty→k'.sz=1→∃ k2,curB (A.set b k') b ver=some k2∧k2.sz=1:=fun k' g1 g0 g2=>⟨k',by
       unfold curB
       rw[gSS hlt]
       simp[g1,hb.2,g0,hty],g2⟩
      exact hgen _ rfl rfl hk1
     ·cases hA1
    ·cases hA1
   obtain⟨w2,t1,t2,t3⟩:=clr_sound hx hxc len (i + 1) A1 A' w1 h s2 hk' hι
   refine⟨w2,?_,t2,s3.trans t3⟩
   rw[List.replicate_succ]
   simp only[sto] at hs1 ⊢
   split at hs1
   ·rename_i hc
    rw[if_pos hc]
    simp only[Option.some.injEq] at hs1
    rw[hs1]
    exact t1
   ·cases hs1
theorem aRaw_clear {x:Operand} {t:TypeId} {d:Option Nat} {ty:TypeId} {pos:String} {af:Array Edge} {gd:Option (Nat×Bool)} {A':AHeap} (h:clearA P t A (eva e x)=some A') (hk:K (aupd e d (.tup [])) A') :
 aRaw P n ⟨d,.call ⟨.builtin .clear,#[x],#[t]⟩,ty,pos,af,gd⟩ e A K:=by
 rintro C ec w hn ⟨h0,ι,h1,h2,h3,h4⟩
 have hxs:=eva_shp h3 x
 obtain⟨w',hrun,hR',hS'⟩:∃ w',(Builtin.clear_ #[t] ty #[ev ec x]).run P w = .ok (.tuple #[]) w'∧Rel C.H ι A' w'∧Step ι A w ι A' w':=by
  generalize eva e x=c at h hxs
  generalize ev ec x=u at hxs
  cases c with
  | own b ver i len =>
    simp only[clearA] at h
    split at h
    case h_2=>cases h
    rename_i k el hkb hsl
    split at h
    case h_2=>cases h
    rename_i z hz
    split at h
    case isFalse=>cases h
    rename_i hk1
    have hu:P.underlying t=some (.slice el):=by
     unfold sl at hsl
     split at hsl
     ·split at hsl
      ·simp only[Option.some.injEq,Prod.mk.injEq] at hsl
       rename_i hu _ _ _
       rw[hu,hsl.1]
      ·cases hsl
     ·cases hsl
    obtain⟨zc,hz1,hz2,hz3⟩:=zvA_spec hz
    obtain⟨x0,hx0,rfl⟩:∃ x0,zc.cells.toList=[x0]∧z = .d (.v x0):=by
     cases hl:zc.cells.toList with
     | nil=>rw[hl] at hz2; simp at hz2
     | cons a l =>
       rw[hl] at hz2
       cases l with
       | nil=>simp at hz2; exact⟨a,rfl,hz2⟩
       | cons=>simp at hz2
    have hx1:x0.oneCell'=true:=hz3 x0 (by rw[hx0]; simp)
    have hxc:x0.cells.toList=[x0]:=by
     clear hk hxs hx0 h1 h2 h3 h4 h0
     cases x0<;>first | rfl | (simp[Value.oneCell'] at hx1)
    obtain⟨ti,hti,hzz⟩:∃ ti,P.info? el=some ti∧ti.zero=some zc:=by
     unfold zv at hz1
     cases hti:P.info? el with
     | none=>rw[hti] at hz1; cases hz1
     | some ti=>rw[hti] at hz1; exact⟨ti,rfl,hz1⟩
    rcases own_shp hkb hxs with⟨rfl,rfl,rfl⟩ | ⟨c,m,cap,hι,rfl,hlc,_⟩
    ·simp only[clrA,Option.some.injEq] at h
     subst h
     exact⟨w,by simp[Builtin.clear_,run_underlying hu],h1,Step.refl _ _ _⟩
    ·obtain⟨w',t1,t2,t3⟩:=clr_sound hx1 hxc len i A A' w h h1 ⟨k,hkb,hk1⟩ hι
     refine⟨w',?_,t2,t3⟩
     cases len with
     | zero =>
       simp only[List.replicate_zero,sto,Option.some.injEq] at t1
       subst t1
       simp[Builtin.clear_,run_underlying hu]
     | succ len =>
       have hst:=run_sto (P:=P) (List.replicate (len + 1) x0) w w' i 0 ⟨c,i * k.sz,none⟩ rfl rfl (by rw[hk1]; simp) t1
       have hzc:(Builtin.zeroCells zc.cells (len + 1)).toList=List.replicate (len + 1) x0:=by
        have:zc.cells=#[x0]:=by rw[← Array.toList_inj,hx0]
        rw[this]
        simp[Builtin.zeroCells]
        refine List.ext_getElem (by simp) fun j h1 h2=>?_
        simp[Nat.mod_one]
       simp[Builtin.clear_,run_underlying hu,zeroValue,typeInfo,hti,hzz,hzc,hst]
  | _=>simp[clearA] at h
 unfold vRaw execOp
 simp only[resolve,invoke,Sem.run_bind,Sem.run_pure,Result.andThen_ok]
 simp only[Go.builtin,List.map_toArray,List.map_cons,List.map_nil,Sem.run_bind,hrun,Result.andThen_ok,Sem.run_pure]
 exact⟨_,_,hk,h0,ι,hR',h2.trans hS',shp_upd (fun i=>Shp.step hS'.stab _ _ (h3 i)) (by simp only[Shp]; exact⟨[],rfl,by simp[ShpL]⟩),mem_upd (fun i=>Mem.keep hS'.keepD _ _ (h4 i)) (by simp only[Mem]; exact⟨[],rfl,by simp[MemL]⟩)⟩
end
end Go.Proofs.YtfnbhkbfelllgaaGreatDoor
