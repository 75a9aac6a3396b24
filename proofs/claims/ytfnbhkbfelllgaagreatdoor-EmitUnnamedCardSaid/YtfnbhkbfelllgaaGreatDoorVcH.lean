import Derived.Test.YtfnbhkbfelllgaaGreatDoorVcG
set_option linter.all false
namespace Go.Proofs.YtfnbhkbfelllgaaGreatDoor
open Go.RowKit
section
variable {P:Program} {ops:List Oper} {late:List (Nat×Nat)} {sp:Nat→Spec} {w0:World} {K:Kont}
abbrev Lst (listed:Array Bool):Nat→Prop:=fun i=>listed.getD i false=true
def start (e:Env):DS:=⟨e,[],[],[],[],[],[]⟩
section
variable {c c':Nat→Par} {β β':Nat→Nat} {e0:Env}
abbrev SD (P:Program) (ops:List Oper) (sp:Nat→Spec) (w0:World) (e0:Env) (c:Nat→Par) (β:Nat→Nat):Nat→DS:=runD P ops sp w0 c β (start e0)
theorem class_of:∀ k,(∀ x∈(SD P ops sp w0 e0 c β k).facts,x.1 < k∧∃ o,ops[x.1]? = some o∧(isCall o.op || isNew o.op)=true) ∧
 (∀ x∈(SD P ops sp w0 e0 c β k).st,x.1 < k∧∃ o,ops[x.1]? = some o∧isStore o.op=true)
 | 0=>by simp[runD,start]
 | k + 1 => by
   obtain⟨ih1,ih2⟩:=class_of k
   cases ho:ops[k]? with
   | none =>
     simp only[runD,ho]
     exact⟨fun x hx=>⟨by have:=(ih1 x hx).1; omega,(ih1 x hx).2⟩,fun x hx=>⟨by have:=(ih2 x hx).1; omega,(ih2 x hx).2⟩⟩
   | some o =>
     obtain⟨f,s,h1,_,h3,_,h5,h6⟩:=stepD_new (P:=P) (ops:=ops) (sp:=sp) (w0:=w0) (c:=c) (c':=c) (β:=β) (β':=β) (i:=k) (o:=o) (σ1:=SD P ops sp w0 e0 c β k) (σ2:=SD P ops sp w0 e0 c β k) (fun _ _=>rfl) rfl (fun _ _=>rfl)
     simp only[runD,ho]
     rw[h1,h3]
     refine⟨fun x hx=>?_,fun x hx=>?_⟩
     ·rcases List.mem_append.1 hx with hx | hx
      ·exact⟨by have:=(ih1 x hx).1; omega,(ih1 x hx).2⟩
      ·exact⟨by have:=(h5 x hx).1; omega,o,by rw[(h5 x hx).1]; exact ho,(h5 x hx).2⟩
     ·rcases List.mem_append.1 hx with hx | hx
      ·exact⟨by have:=(ih2 x hx).1; omega,(ih2 x hx).2⟩
      ·exact⟨by have:=(h6 x hx).1; omega,o,by rw[(h6 x hx).1]; exact ho,(h6 x hx).2⟩
theorem grow_of:∀ k m,k≤m→∃ f s,(SD P ops sp w0 e0 c β m).facts=(SD P ops sp w0 e0 c β k).facts++f∧(SD P ops sp w0 e0 c β m).st=(SD P ops sp w0 e0 c β k).st++s∧(∀ x∈f,k≤x.1)∧∀ x∈s,k≤x.1:=by
 intro k m
 induction m with
 | zero => intro h; obtain rfl : k = 0 := by omega
           exact⟨[],[],by simp,by simp,by simp,by simp⟩
 | succ m ih =>
   intro h
   by_cases hk:k=m + 1
   ·subst hk
    exact⟨[],[],by simp,by simp,by simp,by simp⟩
   ·obtain⟨f,s,h1,h2,h3,h4⟩:=ih (by omega)
    cases ho:ops[m]? with
    | none=>simp only[runD,ho]; exact⟨f,s,h1,h2,h3,h4⟩
    | some o =>
      obtain⟨f',s',g1,_,g3,_,g5,g6⟩:=stepD_new (P:=P) (ops:=ops) (sp:=sp) (w0:=w0) (c:=c) (c':=c) (β:=β) (β':=β) (i:=m) (o:=o) (σ1:=SD P ops sp w0 e0 c β m) (σ2:=SD P ops sp w0 e0 c β m) (fun _ _=>rfl) rfl (fun _ _=>rfl)
      simp only[runD,ho]
      rw[g1,g3,h1,h2]
      refine⟨f++f',s++s',by simp,by simp,fun x hx=>?_,fun x hx=>?_⟩
      ·rcases List.mem_append.1 hx with hx | hx
       ·exact h3 x hx
       ·have:=(g5 x hx).1; omega
      ·rcases List.mem_append.1 hx with hx | hx
       ·exact h4 x hx
       ·have:=(g6 x hx).1; omega
theorem facts_agree {L:Nat→Prop} (hs:Shown P ops sp w0 c β (start e0)) (hs':Shown P ops sp w0 c' β' (start e0))
 (hL:∀ i,L i→c i=c' i∧∀ o,ops[i]? = some o→guardB ops o (SD P ops sp w0 e0 c β i).e=true→isNew o.op=true→β i=β' i) (hn:∀ i,L i→Need ops L i) :
 ∀ k,∀ x∈(SD P ops sp w0 e0 c' β' k).facts,L x.1→x∈(SD P ops sp w0 e0 c β k).facts
 | 0,x,hx,_=>by simp[runD,start] at hx
 | k + 1, x, hx, hl => by
   have ih:=facts_agree hs hs' hL hn k
   cases ho:ops[k]? with
   | none =>
     simp only[runD,ho] at hx ⊢
     exact ih x hx hl
   | some o =>
     by_cases hk:L k
     ·have hag:∀ u∈seen ops o,(SD P ops sp w0 e0 c β k).e u=(SD P ops sp w0 e0 c' β' k).e u:=fun u hu=>runD_agree hs hs' hL hn k u fun j oj hj hjo hju=>hn k hk o ho u hu j oj hj hjo hju
      obtain⟨f,s,h1,h2,_⟩:=stepD_new (P:=P) (ops:=ops) (sp:=sp) (w0:=w0) (c:=c) (c':=c') (β:=β) (β':=β') (i:=k) (o:=o) hag (hL k hk).1 (fun hg hnw=>(hL k hk).2 o ho (by rw[guard_agree hag]; exact hg) hnw)
      simp only[runD,ho] at hx ⊢
      rw[h2] at hx
      rw[h1]
      rcases List.mem_append.1 hx with hx | hx
      ·exact List.mem_append.2 (.inl (ih x hx hl))
      ·exact List.mem_append.2 (.inr hx)
     ·obtain⟨f,s,h1,_,_,_,h5,_⟩:=stepD_new (P:=P) (ops:=ops) (sp:=sp) (w0:=w0) (c:=c') (c':=c') (β:=β') (β':=β') (i:=k) (o:=o) (σ1:=SD P ops sp w0 e0 c' β' k) (σ2:=SD P ops sp w0 e0 c' β' k) (fun _ _=>rfl) rfl (fun _ _=>rfl)
      obtain⟨f2,s2,g1,_⟩:=stepD_new (P:=P) (ops:=ops) (sp:=sp) (w0:=w0) (c:=c) (c':=c) (β:=β) (β':=β) (i:=k) (o:=o) (σ1:=SD P ops sp w0 e0 c β k) (σ2:=SD P ops sp w0 e0 c β k) (fun _ _=>rfl) rfl (fun _ _=>rfl)
      simp only[runD,ho] at hx ⊢
      rw[h1] at hx
      rw[g1]
      rcases List.mem_append.1 hx with hx | hx
      ·exact List.mem_append.2 (.inl (ih x hx hl))
      ·exact absurd ((h5 x hx).1 ▸ hl) hk
theorem stepD_keep {i:Nat} {o:Oper} {σ:DS} (h:OblD P ops sp w0 o i σ):∃ f,(stepD P ops sp w0 i o c β σ).facts=σ.facts++f∧∀ x∈f,∀ w w',Ext w w'→x.2 w→x.2 w':=by
 unfold stepD
 unfold OblD at h
 by_cases hg:guardB ops o σ.e=true
 ·rw[if_pos hg]
  have h:=h hg
  generalize hop:o.op=op at h ⊢
  by_cases hn:isNew op=true
  ·cases op<;>simp only[isNew,Bool.false_eq_true] at hn
   all_goals
    simp only[isPure,isNew,Bool.false_eq_true,if_false,if_true] at h ⊢
    obtain⟨⟨t,cs,f⟩,hr⟩:=h
    rw[hr]
    refine⟨_,rfl,fun x hx w w' hw hb=>?_⟩
    obtain rfl:=List.mem_singleton.1 hx
    simp only at hb ⊢
    rw[hw.heap (by
     rcases Nat.lt_or_ge (β i) w.heap.size with h | h
     ·exact h
     ·rw[Array.getElem?_eq_none h] at hb; cases hb)]
    exact hb
  ·by_cases hp:isPure op=true
   ·refine⟨[],?_,by simp⟩
    cases op<;>first | (simp only[isPure,Bool.false_eq_true] at hp; done) | (simp only[hp,if_true,List.append_nil]; done)
   ·by_cases hst:isStore op=true
    ·refine⟨[],?_,by simp⟩
     cases op<;>simp only[isStore,Bool.false_eq_true] at hst
     simp
    ·by_cases hl:isLoad op=true
     ·refine⟨[],?_,by simp⟩
      cases op<;>simp only[isLoad,Bool.false_eq_true] at hl
      simp
     ·have h':∀ x w w',Ext w w'→(sp i).B x w→(sp i).B x w':=by
       cases op<;>first | (simp only[isPure,not_true_eq_false] at hp; done) | (simp only[isNew,not_true_eq_false] at hn; done) | (simp only[isStore,not_true_eq_false] at hst; done) | (simp only[isLoad,not_true_eq_false] at hl; done) | (simp only[hp,hn,if_false,Bool.false_eq_true] at h; exact h.1)
      refine⟨[(i,(sp i).B (c i))],?_,fun x hx w w' hw hb=>?_⟩
      ·cases op<;>first | (simp only[isPure,not_true_eq_false] at hp; done) | (simp only[isNew,not_true_eq_false] at hn; done) | (simp only[isStore,not_true_eq_false] at hst; done) | (simp only[isLoad,not_true_eq_false] at hl; done) | (simp only[hp,hn,if_false,Bool.false_eq_true]; done)
      ·obtain rfl:=List.mem_singleton.1 hx
       exact h' _ _ _ hw hb
 ·rw[if_neg hg]
  exact⟨[],by simp,by simp⟩
theorem facts_keep (hs:Shown P ops sp w0 c β (start e0)):∀ k,∀ x∈(SD P ops sp w0 e0 c β k).facts,∀ w w',Ext w w'→x.2 w→x.2 w'
 | 0,x,hx=>by simp[runD,start] at hx
 | k + 1, x, hx => by
   have ih:=facts_keep hs k
   cases ho:ops[k]? with
   | none=>simp only[runD,ho] at hx; exact ih x hx
   | some o =>
     obtain⟨f,h1,h2⟩:=stepD_keep (c:=c) (β:=β) (hs k o ho)
     simp only[runD,ho] at hx
     rw[h1] at hx
     rcases List.mem_append.1 hx with hx | hx
     ·exact ih x hx
     ·exact h2 x hx
end
theorem facts_all {w:World}:∀ {l:List Fact},(∀ x∈l,x.2 w)→FactsAll l w
 | [],_=>trivial
 | (i,B)::l,h=>⟨h (i,B) List.mem_cons_self,facts_all fun x hx=>h x (List.mem_cons_of_mem _ hx)⟩
end
end Go.Proofs.YtfnbhkbfelllgaaGreatDoor
