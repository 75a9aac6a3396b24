import Derived.Test.YtfnbhkbfelllgaaGreatDoorAl
set_option linter.all false
namespace Go.Proofs.YtfnbhkbfelllgaaGreatDoor
open Go.RowKit
section
variable {P:Program} {H:Nat→Prop} {ι ι':Place} {A A':AHeap} {w w':World} {n:Nat}
theorem Sub.trunc {e:AEnv} {b:Nat} (m:Nat) {k:Blk} (hb:A[b]? = some k) (hty:k.ty < 1000000:=by decide):Sub n e A e (A.set b (setEls k (k.els.take m))):=by
 rintro C ec w hn ⟨h0,ι,h1,h2,h3,h4⟩
 have hlt:=(gSI.1 hb).1
 have hN:Nn C.H ι (A.set b (setEls k (k.els.take m)))=Nn C.H ι A:=Nn_set (k':=setEls k (k.els.take m)) hb rfl
 have hst:Step ι A w ι (A.set b (setEls k (k.els.take m))) w:=by
  refine⟨fun b' k' hb'=>?_,fun c' hc'=>.inl ((Mu_set (k':=setEls k (k.els.take m)) hb rfl c').1 hc'),fun _ _ _=>rfl,Nat.le_refl _,rfl,rfl,rfl⟩
  by_cases he:b=b'
  ·subst he
   rw[hb] at hb'
   obtain rfl:=oSI hb'
   exact⟨_,gSS hlt,Nat.le_refl _,fun _=>⟨rfl,rfl⟩⟩
  ·exact⟨k',by rw[gSN he]; exact hb',Nat.le_refl _,fun _=>⟨rfl,rfl⟩⟩
 have hv:∀ c u,Val ι A (Nn C.H ι A) w c u→Val ι (A.set b (setEls k (k.els.take m))) (Nn C.H ι (A.set b (setEls k (k.els.take m)))) w c u:=fun c u hv=>Val.step hst hv
 have hget:∀ (b':Nat) (k':Blk),(A.set b (setEls k (k.els.take m)))[b']? = some k'→(b'=b∧k'=setEls k (k.els.take m))∨(b'≠b∧A[b']? = some k'):=by
  intro b' k' hb'
  by_cases he:b=b'
  ·subst he
   rw[gSS hlt] at hb'
   exact .inl ⟨rfl,(oSI hb').symm⟩
  ·rw[gSN he] at hb'
   exact .inr ⟨fun h=>he h.symm,hb'⟩
 have hblk:∀ (b':Nat) (k':Blk),(A.set b (setEls k (k.els.take m)))[b']? = some k'→∃ k2:Blk,A[b']? = some k2:=by
  intro b' k' hb'
  rcases hget b' k' hb' with⟨rfl,_⟩ | ⟨_,h2⟩
  ·exact⟨k,hb⟩
  ·exact⟨k',h2⟩
 refine⟨h0,ι,⟨fun b' k' hb'=>?_,fun b' k' c2 n' hb' hc'=>?_,fun b1 b2 k1 k2 c1 n1 n2 g1 g2=>?_⟩,h2.trans hst,fun i=>(hv _ _ ⟨h3 i,h4 i⟩).1,fun i=>(hv _ _ ⟨h3 i,h4 i⟩).2⟩
 ·rcases hget b' k' hb' with⟨rfl,rfl⟩ | ⟨hne,hb2⟩
  ·have hbr:=h1.blk b' k hb
   unfold BlkRel at hbr ⊢
   split
   ·rename_i cc m hι
    rw[hι] at hbr
    obtain⟨arr,a1,a2,a3,a4⟩:=hbr
    refine⟨arr,a1,⟨a2.1,fun h=>absurd hty h⟩,?_,fun i' x' hi'=>?_⟩
    ·simp only[setEls,List.length_take]
     exact Nat.le_trans (Nat.mul_le_mul_right k.sz (Nat.min_le_right ..)) a3
    ·simp only[setEls] at hi' ⊢
     rw[List.getElem?_take] at hi'
     split at hi'
     case isFalse=>cases hi'
     refine⟨(a4 i' x' hi').1,fun j av hj=>?_⟩
     obtain⟨u,g1,g2,g3⟩:=(a4 i' x' hi').2 j av hj
     exact⟨u,g1,hv _ _ g2,g3⟩
   ·rename_i hι
    rw[hι] at hbr
    simp only at hbr
    simp[setEls,hbr]
  ·exact BlkRel.step (h1.blk b' k' hb2) rfl (fun _ _ _=>rfl) hv
 ·obtain⟨k2,hk2⟩:=hblk b' k' hb'
  exact h1.hid b' k2 c2 n' hk2 hc'
 ·obtain⟨k1',h1'⟩:=hblk b1 k1 g1
  obtain⟨k2',h2'⟩:=hblk b2 k2 g2
  exact h1.inj b1 b2 k1' k2' c1 n1 n2 h1' h2'
theorem aRaw_sub {e e':AEnv} {o:Oper} {K:AKont} (hs:Sub n e A e' A') (h:aRaw P n o e' A' K):aRaw P n o e A K:=fun C ec w hn hS=>h C ec w hn (hs C ec w hn hS)
def appT (el sz:Nat) (A:AHeap) (s x:AV):Option (AV×AHeap×Nat):=match appA el sz A s x with
 | some r=>some r
 | none => match s with
   | .own b ver 0 len => match curB A b ver with
     | some k=>if len < k.els.length then appA el sz (A.set b (setEls k (k.els.take len))) (.own b ver 0 len) x else none
     | none=>none
   | _=>none
theorem aRaw_appT {s x:Operand} {t el sz bytes:Nat} {d:Option Nat} {ty:TypeId} {pos:String} {af:Array Edge} {gd:Option (Nat×Bool)} {K:AKont} {e:AEnv} (hby:byt P t=some (el,sz,bytes))
 (h:aApp (appT el sz A (eva e s) (eva e x)) bytes e d K):aRaw P n ⟨d,.call ⟨.builtin .append,#[s,x],#[t,t]⟩,ty,pos,af,gd⟩ e A K:=by
 obtain⟨r,A',m,hr,hm,hmb,hk⟩:=h
 unfold appT at hr
 split at hr
 ·rename_i r' hr'
  rw[hr] at hr'
  exact aRaw_app hby ⟨r,A',m,hr',hm,hmb,hk⟩
 split at hr
 case h_2=>cases hr
 rename_i b ver len hs
 split at hr
 case h_2=>cases hr
 rename_i k hk'
 split at hr
 case isFalse=>cases hr
 refine aRaw_sub (Sub.trunc len (curB_get hk') (curB_ty hk')) (aRaw_app hby ⟨r,A',m,?_,hm,hmb,hk⟩)
 rw[hs]
 exact hr
end
end Go.Proofs.YtfnbhkbfelllgaaGreatDoor
