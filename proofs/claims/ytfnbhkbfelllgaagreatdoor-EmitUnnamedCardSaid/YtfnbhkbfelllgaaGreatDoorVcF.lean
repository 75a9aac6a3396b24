import Derived.Test.YtfnbhkbfelllgaaGreatDoorVcE
set_option linter.all false
namespace Go.Proofs.YtfnbhkbfelllgaaGreatDoor
open Go.RowKit
section
variable {P:Program} {ops:List Oper} {late:List (Nat×Nat)} {sp:Nat→Spec} {w0:World} {K:Kont}
def seen (ops:List Oper) (o:Oper):List Nat:=(o.op.operands.toList.filterMap fun | .tmp t=>some t | _=>none) ++
 (match o.guard with
  | some (g,_)=>((ops[g]?).bind (·.dst)).toList
  | none=>[])
theorem ev_agree {e e':Env} {o:Oper} (h:∀ t∈seen ops o,e t=e' t):∀ x∈o.op.operands,ev e x=ev e' x:=by
 intro x hx
 cases x with
 | tmp t=>exact h t (by simp only[seen,List.mem_append,List.mem_filterMap]; exact .inl ⟨_,by simpa using hx,rfl⟩)
 | _=>rfl
theorem guard_agree {e e':Env} {o:Oper} (h:∀ t∈seen ops o,e t=e' t):guardB ops o e=guardB ops o e':=by
 unfold guardB
 cases hg:o.guard with
 | none=>rfl
 | some g =>
   obtain⟨j,want⟩:=g
   simp only
   cases hd:(ops[j]?).bind (·.dst) with
   | none=>rfl
   | some d =>
     have:e d=e' d:=h d (by simp[seen,hg,hd])
     simp only[gval,this]
     congr
theorem amap_agree {e e':Env} {l:Array Operand} (h:∀ x∈l,ev e x=ev e' x):l.map (ev e)=l.map (ev e'):=by
 apply Array.map_congr_left
 exact h
theorem parts_agree {e e':Env} {ps:Array (Nat×Operand)} (h:∀ x∈(ps.toList.map (·.2)).toArray,ev e x=ev e' x):(ps.toList.map fun p=>(p.1,ev e p.2))=ps.toList.map fun p=>(p.1,ev e' p.2):=by
 apply List.map_congr_left
 intro p hp
 rw[h p.2 (by simp only[List.mem_toArray,List.mem_map]; exact⟨p,hp,rfl⟩)]
theorem pvB_agree {e e':Env} {op:Op} (h:∀ x∈op.operands,ev e x=ev e' x):pvB P e op=pvB P e' op:=by
 cases op with
 | build t ps=>simp only[pvB]; rw[parts_agree h]
 | move x=>simp[pvB,pv,h x (by simp[Op.operands])]
 | assign x=>simp[pvB,pv,h x (by simp[Op.operands])]
 | pick c a b=>simp[pvB,pv,h c (by simp[Op.operands]),h a (by simp[Op.operands]),h b (by simp[Op.operands])]
 | nilCheck x=>simp[pvB,pv,h x (by simp[Op.operands])]
 | binOp op t x y u=>simp[pvB,pv,h x (by simp[Op.operands]),h y (by simp[Op.operands])]
 | unOp op t x=>simp[pvB,pv,h x (by simp[Op.operands])]
 | convert s d x=>simp[pvB,pv,h x (by simp[Op.operands])]
 | makeFunc fn a b =>
   have h1:=amap_agree (e:=e) (e':=e') (l:=a) fun x hx=>h x (by simp[Op.operands,hx])
   have h2:=amap_agree (e:=e) (e':=e') (l:=b) fun x hx=>h x (by simp[Op.operands,hx])
   simp[pvB,pv,h1,h2]
 | fieldAddr t x f=>simp[pvB,pv,h x (by simp[Op.operands])]
 | field t x f=>simp[pvB,pv,h x (by simp[Op.operands])]
 | indexAddr t x i=>simp[pvB,pv,h x (by simp[Op.operands]),h i (by simp[Op.operands])]
 | index t x i=>simp[pvB,pv,h x (by simp[Op.operands]),h i (by simp[Op.operands])]
 | extract x i=>simp[pvB,pv,h x (by simp[Op.operands])]
 | slice t x a b c =>
   have h1:a.map (ev e)=a.map (ev e'):=by
    cases a with
    | none=>rfl
    | some y=>simp[h y (by simp[Op.operands])]
   have h2:b.map (ev e)=b.map (ev e'):=by
    cases b with
    | none=>rfl
    | some y=>simp[h y (by simp[Op.operands])]
   have h3:c.map (ev e)=c.map (ev e'):=by
    cases c with
    | none=>rfl
    | some y=>simp[h y (by simp[Op.operands])]
   simp[pvB,pv,h x (by simp[Op.operands]),h1,h2,h3]
 | call c =>
   simp only[pvB,pv,pvCall]
   split
   ·rename_i hc
    split
    ·rename_i x t hx ht
     rw[h x (by simp[Op.operands,Call.operands]; exact .inr (by rw[← Array.mem_toList_iff,hx]; simp))]
    ·rfl
   ·rename_i hc
    split
    ·rename_i x y hx
     rw[h x (by simp[Op.operands,Call.operands]; exact .inr (by rw[← Array.mem_toList_iff,hx]; simp)),h y (by simp[Op.operands,Call.operands]; exact .inr (by rw[← Array.mem_toList_iff,hx]; simp))]
    ·rfl
   ·rfl
 | _=>rfl
theorem newOf_agree {e e':Env} {op:Op} (h:∀ x∈op.operands,ev e x=ev e' x):newOf P e op=newOf P e' op:=by
 cases op with
 | box t x=>simp[newOf,h x (by simp[Op.operands])]
 | buildSlice t n ps=>simp only[newOf]; rw[parts_agree h]
 | makeSlice t x y=>simp only[newOf]; rw[h x (by simp[Op.operands]),h y (by simp[Op.operands])]
 | _=>rfl
def valD (P:Program) (ops:List Oper) (sp:Nat→Spec) (w0:World) (i:Nat) (o:Oper) (c:Nat→Par) (β:Nat→Nat) (e:Env):Value:=
 if guardB ops o e then match o.op with
  | .load t a=>(lv P t (ev e a) w0).getD undef
  | .store .. => undef
  | op => if isPure op then (pvB P e op).getD undef
    else if isNew op then match newOf P e op with
     | some (_,_,f)=>f ⟨β i,0,none⟩
     | none=>undef
    else (sp i).F (c i)
 else undef
theorem stepD_e {i:Nat} {o:Oper} {c:Nat→Par} {β:Nat→Nat} {σ:DS} (h:OblD P ops sp w0 o i σ):(stepD P ops sp w0 i o c β σ).e=upd σ.e o.dst (valD P ops sp w0 i o c β σ.e):=by
 unfold stepD valD
 unfold OblD at h
 by_cases hg:guardB ops o σ.e=true
 ·rw[if_pos hg,if_pos hg]
  have h:=h hg
  generalize hop:o.op=op at h ⊢
  by_cases hn:isNew op=true
  ·cases op<;>simp only[isNew,Bool.false_eq_true] at hn
   all_goals
    simp only[isPure,isNew,Bool.false_eq_true,if_false,if_true] at h ⊢
    obtain⟨⟨t,cs,f⟩,hr⟩:=h
    rw[hr]
  ·cases op<;>first
    | rfl
    | (simp only[isNew,not_true_eq_false] at hn; done)
    | (rename_i cl
       by_cases hp:isPure (.call cl)=true
       ·simp only[hp,if_true]
       ·simp only[hp,hn,Bool.false_eq_true,if_false])
 ·rw[if_neg hg,if_neg hg]
theorem valD_agree {e e':Env} {o:Oper} (h:∀ t∈seen ops o,e t=e' t) {i:Nat} {c c':Nat→Par} {β β':Nat→Nat} (hc:c i=c' i) (hb:guardB ops o e'=true→isNew o.op=true→β i=β' i) :
 valD P ops sp w0 i o c β e=valD P ops sp w0 i o c' β' e':=by
 have hv:=ev_agree h
 unfold valD
 rw[guard_agree h]
 split
 ·rename_i hg
  have hb:=hb hg
  generalize hop:o.op=op at hv hb ⊢
  by_cases hn:isNew op=true
  ·have hbe:=hb hn
   clear hb
   cases op<;>simp only[isNew,Bool.false_eq_true] at hn
   all_goals simp only[isPure,isNew,Bool.false_eq_true,if_false,if_true,newOf_agree hv,hbe]
  cases op<;>first
   | rfl
   | (simp only[isNew,not_true_eq_false] at hn; done)
   | (simp only[pvB_agree hv,hn,hc,if_false,Bool.false_eq_true]; done)
   | (rename_i t a; simp only[hv a (by simp[Op.operands])]; done)
 ·rfl
def dstOk (ops:List Oper):Prop:=∀ (i j:Nat) (oi oj:Oper) (d:Nat),ops[i]? = some oi→ops[j]? = some oj→oi.dst=some d→oj.dst=some d→i=j
section
variable {c c':Nat→Par} {β β':Nat→Nat} {σ:DS}
def Shown (P:Program) (ops:List Oper) (sp:Nat→Spec) (w0:World) (c:Nat→Par) (β:Nat→Nat) (σ:DS):Prop:=∀ j o,ops[j]? = some o→OblD P ops sp w0 o j (runD P ops sp w0 c β σ j)
theorem runD_e (hs:Shown P ops sp w0 c β σ) (k:Nat) {o:Oper} (ho:ops[k]? = some o):(runD P ops sp w0 c β σ (k + 1)).e=upd (runD P ops sp w0 c β σ k).e o.dst (valD P ops sp w0 k o c β (runD P ops sp w0 c β σ k).e):=by
 simp only[runD,ho]
 exact stepD_e (hs k o ho)
theorem runD_old (hs:Shown P ops sp w0 c β σ) (t:Nat):∀ k,(∀ j o,j < k→ops[j]? = some o→o.dst≠some t)→(runD P ops sp w0 c β σ k).e t=σ.e t
 | 0,_=>rfl
 | k + 1, h => by
   cases ho:ops[k]? with
   | none=>simp only[runD,ho]; exact runD_old hs t k fun j o hj=>h j o (by omega)
   | some o =>
     rw[runD_e hs k ho]
     have ih:=runD_old hs t k fun j o hj=>h j o (by omega)
     have hne:=h k o (by omega) ho
     cases hd:o.dst with
     | none=>exact ih
     | some d =>
       simp only[upd]
       rw[if_neg (by rintro rfl; exact hne hd)]
       exact ih
theorem runD_val (hs:Shown P ops sp w0 c β σ) (hd:dstOk ops) {j:Nat} {o:Oper} {t:Nat} (hj:ops[j]? = some o) (ht:o.dst=some t) :
 ∀ k,j < k→(runD P ops sp w0 c β σ k).e t=valD P ops sp w0 j o c β (runD P ops sp w0 c β σ j).e
 | 0,h=>by omega
 | k + 1, h => by
   by_cases he:j=k
   ·subst he
    rw[runD_e hs j hj,ht]
    simp[upd]
   ·have ih:=runD_val hs hd hj ht k (by omega)
    cases ho:ops[k]? with
    | none=>simp only[runD,ho]; exact ih
    | some o' =>
      rw[runD_e hs k ho]
      cases hd':o'.dst with
      | none=>exact ih
      | some d =>
        simp only[upd]
        rw[if_neg (by rintro rfl; exact he (hd _ _ _ _ _ hj ho ht hd'))]
        exact ih
def Need (ops:List Oper) (L:Nat→Prop) (i:Nat):Prop:=∀ o,ops[i]? = some o→∀ t∈seen ops o,∀ j oj,j < i→ops[j]? = some oj→oj.dst=some t→L j
theorem runD_agree {L:Nat→Prop} (hs:Shown P ops sp w0 c β σ) (hs':Shown P ops sp w0 c' β' σ) (hL:∀ i,L i→c i=c' i∧∀ o,ops[i]? = some o→guardB ops o (runD P ops sp w0 c β σ i).e=true→isNew o.op=true→β i=β' i) (hn:∀ i,L i→Need ops L i) :
 ∀ k t,(∀ j o,j < k→ops[j]? = some o→o.dst=some t→L j)→(runD P ops sp w0 c β σ k).e t=(runD P ops sp w0 c' β' σ k).e t
 | 0,t,_=>rfl
 | k + 1, t, h => by
   have ih:=runD_agree hs hs' hL hn k
   cases ho:ops[k]? with
   | none=>simp only[runD,ho]; exact ih t fun j o hj=>h j o (by omega)
   | some o =>
     rw[runD_e hs k ho,runD_e hs' k ho]
     cases hd:o.dst with
     | none=>exact ih t fun j o hj=>h j o (by omega)
     | some d =>
       simp only[upd]
       by_cases htd:t=d
       ·subst htd
        rw[if_pos rfl,if_pos rfl]
        have hk:L k:=h k o (by omega) ho hd
        obtain⟨h1,h2⟩:=hL k hk
        have hag:∀ u∈seen ops o,(runD P ops sp w0 c β σ k).e u=(runD P ops sp w0 c' β' σ k).e u:=fun u hu=>ih u fun j oj hj hjo hju=>hn k hk o ho u hu j oj hj hjo hju
        exact valD_agree hag h1 fun hg=>h2 o ho (by rw[guard_agree hag]; exact hg)
       ·rw[if_neg htd,if_neg htd]
        exact ih t fun j o hj=>h j o (by omega)
theorem stepD_new {i:Nat} {o:Oper} {σ1 σ2:DS} (h:∀ t∈seen ops o,σ1.e t=σ2.e t) (hc:c i=c' i) (hb:guardB ops o σ2.e=true→isNew o.op=true→β i=β' i) :
 ∃ f s, (stepD P ops sp w0 i o c β σ1).facts = σ1.facts ++ f ∧ (stepD P ops sp w0 i o c' β' σ2).facts = σ2.facts ++ f ∧ (stepD P ops sp w0 i o c β σ1).st = σ1.st ++ s ∧ (stepD P ops sp w0 i o c' β' σ2).st = σ2.st ++ s ∧
   (∀ x∈f,x.1=i∧(isCall o.op || isNew o.op)=true)∧(∀ x∈s,x.1=i∧isStore o.op=true):=by
 have hv:=ev_agree h
 unfold stepD
 rw[guard_agree h]
 split
 ·rename_i hg
  have hb:=hb hg
  generalize hop:o.op=op at hv hb ⊢
  by_cases hn:isNew op=true
  ·have hbe:=hb hn
   clear hb
   have hna:=newOf_agree (P:=P) hv
   cases op<;>simp only[isNew,Bool.false_eq_true] at hn
   all_goals
    simp only[isPure,isNew,Bool.false_eq_true,if_false,if_true]
    rw[hna]
    split
    ·rename_i t cs f hr
     refine⟨[(i,fun w=>w.heap[β i]? = some (.cells cs.toArray t (0,0)))],[],rfl,by rw[hbe],by simp,by simp,fun x hx=>⟨by simpa using congrArg Prod.fst (List.mem_singleton.1 hx),rfl⟩,by simp⟩
    ·exact⟨[],[],by simp,by simp,by simp,by simp,by simp,by simp⟩
  ·by_cases hp:isPure op=true
   ·refine⟨[],[],?_,?_,?_,?_,by simp,by simp⟩<;>(cases op<;>first | (simp only[isPure,Bool.false_eq_true] at hp; done) | (simp only[hp,if_true,List.append_nil]; done))
   ·by_cases hst:isStore op=true
    ·cases op<;>simp only[isStore,Bool.false_eq_true] at hst
     rename_i t a x
     refine⟨[],[(i,t,ev σ1.e a,ev σ1.e x)],by simp,by simp,rfl,?_,by simp,by simp[isStore]⟩
     simp only[hv a (by simp[Op.operands]),hv x (by simp[Op.operands])]
    ·by_cases hl:isLoad op=true
     ·cases op<;>simp only[isLoad,Bool.false_eq_true] at hl
      exact⟨[],[],by simp,by simp,by simp,by simp,by simp,by simp⟩
     ·refine⟨[(i,(sp i).B (c i))],[],?_,?_,?_,?_,by simp[isCall,hp,hst,hl,hn],by simp⟩<;>(cases op<;>first | (simp only[isPure,not_true_eq_false] at hp; done) | (simp only[isNew,not_true_eq_false] at hn; done) | (simp only[isStore,not_true_eq_false] at hst; done) | (simp only[isLoad,not_true_eq_false] at hl; done) | (simp only[hp,hn,if_false,hc,List.append_nil,Bool.false_eq_true]; done))
 ·exact⟨[],[],by simp,by simp,by simp,by simp,by simp,by simp⟩
end
end
end Go.Proofs.YtfnbhkbfelllgaaGreatDoor
