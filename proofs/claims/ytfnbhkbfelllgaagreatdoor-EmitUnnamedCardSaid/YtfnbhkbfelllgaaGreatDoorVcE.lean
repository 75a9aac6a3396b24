import Derived.Test.YtfnbhkbfelllgaaGreatDoorVcX
import Derived.Still
set_option linter.all false
namespace Go.Proofs.YtfnbhkbfelllgaaGreatDoor
open Go.RowKit
structure Par where
 v:Value
 rg:List (Nat×Nat)
structure Spec where
 F:Par→Value
 B:Par→World→Prop
abbrev Fact:=Nat×(World→Prop)
def FactsAll:List Fact→World→Prop
 | [],_=>True
 | (_,B)::fs,w=>B w∧FactsAll fs w
def isPure:Op→Bool
 | .move _ | .assign _ | .pick .. | .nilCheck _ | .binOp .. | .unOp .. | .makeFunc .. | .fieldAddr .. | .field .. | .indexAddr .. | .index .. | .extract .. | .slice .. | .convert .. | .build .. => true
 | .call c => match c.callee with
   | .builtin .len=>true
   | .builtin .min=>true
   | _=>false
 | _=>false
def isStore:Op→Bool
 | .store .. => true
 | _=>false
def isLoad:Op→Bool
 | .load .. => true
 | _=>false
def isNew:Op→Bool
 | .alloc _ | .box .. | .buildSlice .. | .makeSlice .. => true
 | _=>false
def isCall (op:Op):Bool:=!isPure op && !isStore op && !isLoad op && !isNew op
def pvB (P:Program) (e:Env) (op:Op):Option Value:=match op with
 | .build t ps=>bld P t (ps.toList.map fun p=>(p.1,ev e p.2))
 | op=>pv P e op
def mkOf (P:Program) (t:TypeId) (x y:Value):Option (Nat×List Value×Nat):=match x,y with
 | .int _ l, .int _ c => match P.underlying t with
   | some (.slice el) => match P.info? el with
     | some i => match i.zero with
       | some z=>if l=c∧0≤c∧c≤65536∧i.size=1∧z.cells.size=1∧i.bytes≤65536 then some (el,List.replicate c.toNat z.cells[0]!,c.toNat) else none
       | none=>none
     | none=>none
   | _=>none
 | _,_=>none
def newOf (P:Program) (e:Env):Op→Option (Nat×List Value×(Addr→Value))
 | .alloc t=>(zv P t).map fun z=>(t,z.cells.toList,fun a=>.pointer (some a))
 | .box t x=>some (t,(ev e x).cells.toList,fun a=>.pointer (some a))
 | .buildSlice t len ps=>(bls P t len (ps.toList.map fun p=>(p.1,ev e p.2))).map fun r=>(r.1,r.2,fun a=>.slice (some a) len len)
 | .makeSlice t x y=>(mkOf P t (ev e x) (ev e y)).map fun r=>(r.1,r.2.1,fun a=>.slice (some a) r.2.2 r.2.2)
 | _=>none
def specAt (P:Program) (o:Oper) (e:Env) (sp:Spec) (R:List (Nat×Nat)) (w:World):Prop:=match o.op with
 | .call c => match c.callee with
   | .value f=>∃ g first captured,ev e f = .func (.func g) first captured∧okF P g=true ∧
    Calls P g (first++c.args.map (ev e)++captured) w fun en w'=>∃ x,en = .returned (sp.F x)∧sp.B x w'∧Ext w w'∧∀ r∈x.rg,(w.heap.size≤r.1∧r.2≤w'.heap.size)∨r∈R
   | _=>∃ x w',(execOp (ev e) o).run P w = .ok (.value (sp.F x)) w'∧sp.B x w'∧Ext w w'∧∀ r∈x.rg,(w.heap.size≤r.1∧r.2≤w'.heap.size)∨r∈R
 | _=>∃ x w',(execOp (ev e) o).run P w = .ok (.value (sp.F x)) w'∧sp.B x w'∧Ext w w'∧∀ r∈x.rg,(w.heap.size≤r.1∧r.2≤w'.heap.size)∨r∈R
structure DS where
 e:Env
 facts:List Fact
 nb:List Nat
 lds:List (Nat×Nat)
 sts:List (Nat×Nat)
 st:List (Nat×TypeId×Value×Value)
 rg:List (Nat×Nat)
def stAll (P:Program):List (Nat×TypeId×Value×Value)→World→Option World
 | [],w=>some w
 | (_, t, p, v) :: l, w => match stv P t p v w with
   | some w'=>stAll P l w'
   | none=>none
def lateOk (late:List (Nat×Nat)) (lds sts:List (Nat×Nat)):Prop:=∀ k j bk bj,(k,j)∈late→(k,bk)∈sts→(j,bj)∈lds→bk≠bj
section
variable (P:Program) (ops:List Oper) (late:List (Nat×Nat)) (sp:Nat→Spec) (w0:World) (K:Kont)
def vdG (g:Option Bool) (want:Bool) (K1 K2:DS→Prop) (σ:DS) (d:Option Nat):Prop:=if g=some want then K1 σ else K2 { σ with e:=upd σ.e d undef }
def vdSet (r:Option Value) (K1:DS→Prop) (σ:DS) (d:Option Nat):Prop:=∃ v,r=some v∧K1 { σ with e:=upd σ.e d v }
def vdLoad (p:Value) (r:Option Value) (i:Nat) (K1:DS→Prop) (σ:DS) (d:Option Nat):Prop:=
 ∃ b o v,p = .pointer (some ⟨b,o,none⟩)∧r=some v∧b < w0.heap.size∧K1 { σ with e:=upd σ.e d v,lds:=(i,b)::σ.lds }
def vdStore (p v:Value) (t:TypeId) (i:Nat) (K1:DS→Prop) (σ:DS) (d:Option Nat):Prop:=
 ∃ b o,p = .pointer (some ⟨b,o,none⟩)∧K1 { σ with e:=upd σ.e d undef,sts:=(i,b)::σ.sts,st:=σ.st++[(i,t,p,v)] }
def vdNew (r:Option (Nat×List Value×(Addr→Value))) (i:Nat) (K1:DS→Prop) (σ:DS) (d:Option Nat):Prop:=
 ∃ t cs f,r=some (t,cs,f)∧∀ b,w0.heap.size≤b→b∉σ.nb→(∀ r∈σ.rg,¬ (r.1≤b∧b < r.2))→K1 { σ with e:=upd σ.e d (f ⟨b,0,none⟩),facts:=σ.facts++[(i,fun w=>w.heap[b]? = some (.cells cs.toArray t (0,0)))],nb:=b::σ.nb }
def vdCall (o:Oper) (i:Nat) (K1:DS→Prop) (σ:DS):Prop:=
 (∀ x w w',Ext w w'→(sp i).B x w→(sp i).B x w')∧(∀ w,Ext w0 w→FactsAll σ.facts w→specAt P o σ.e (sp i) σ.rg w) ∧
  ∀ x,(∀ b∈σ.nb,∀ r∈x.rg,¬ (r.1≤b∧b < r.2))→K1 { σ with e:=upd σ.e o.dst ((sp i).F x),facts:=σ.facts++[(i,(sp i).B x)],rg:=x.rg++σ.rg }
def vdo (i:Nat) (o:Oper) (K1:DS→Prop) (σ:DS):Prop:=match o.op with
 | .load t a=>vdLoad w0 (ev σ.e a) (lv P t (ev σ.e a) w0) i K1 σ o.dst
 | .store t a x=>vdStore (ev σ.e a) (ev σ.e x) t i K1 σ o.dst
 | op=>if isPure op then vdSet (pvB P σ.e op) K1 σ o.dst else if isNew op then vdNew w0 (newOf P σ.e op) i K1 σ o.dst else vdCall P sp w0 o i K1 σ
def vdEnd (σ:DS):Prop:=lateOk late σ.lds σ.sts∧∀ w,Ext w0 w→FactsAll σ.facts w→∃ w',stAll P σ.st w=some w'∧K σ.e w'
def vd:Nat→List Oper→DS→Prop
 | _,[],σ=>vdEnd P late w0 K σ
 | i, o :: os, σ => match o.guard with
   | none=>vdo P sp w0 i o (vd (i + 1) os) σ
   | some (j,want)=>vdG (gval σ.e ((ops[j]?).bind (·.dst))) want (vdo P sp w0 i o (vd (i + 1) os)) (vd (i + 1) os) σ o.dst
def guardB (o:Oper) (e:Env):Bool:=match o.guard with
 | none=>true
 | some (j,want)=>decide (gval e ((ops[j]?).bind (·.dst))=some want)
def stepD (i:Nat) (o:Oper) (c:Nat→Par) (β:Nat→Nat) (σ:DS):DS:=
 if guardB ops o σ.e then match o.op with
  | .load t a=>{ σ with e:=upd σ.e o.dst ((lv P t (ev σ.e a) w0).getD undef),lds:=match ev σ.e a with | .pointer (some ⟨b,_,none⟩)=>(i,b)::σ.lds | _=>σ.lds }
  | .store t a x=>{ σ with e:=upd σ.e o.dst undef,sts:=match ev σ.e a with | .pointer (some ⟨b,_,none⟩)=>(i,b)::σ.sts | _=>σ.sts,st:=σ.st++[(i,t,ev σ.e a,ev σ.e x)] }
  | op => if isPure op then { σ with e := upd σ.e o.dst ((pvB P σ.e op).getD undef) }
    else if isNew op then match newOf P σ.e op with
     | some (t,cs,f)=>{ σ with e:=upd σ.e o.dst (f ⟨β i,0,none⟩),facts:=σ.facts++[(i,fun w=>w.heap[β i]? = some (.cells cs.toArray t (0,0)))],nb:=β i::σ.nb }
     | none=>σ
    else { σ with e:=upd σ.e o.dst ((sp i).F (c i)),facts:=σ.facts++[(i,(sp i).B (c i))],rg:=(c i).rg++σ.rg }
 else { σ with e:=upd σ.e o.dst undef }
def OblD (o:Oper) (i:Nat) (σ:DS):Prop:=guardB ops o σ.e=true→match o.op with
 | .load t a=>∃ b off v,ev σ.e a = .pointer (some ⟨b,off,none⟩)∧lv P t (ev σ.e a) w0=some v∧b < w0.heap.size
 | .store _ a _=>∃ b off,ev σ.e a = .pointer (some ⟨b,off,none⟩)
 | op => if isPure op then ∃ v, pvB P σ.e op = some v else if isNew op then ∃ r, newOf P σ.e op = some r
   else (∀ x w w',Ext w w'→(sp i).B x w→(sp i).B x w')∧∀ w,Ext w0 w→FactsAll σ.facts w→specAt P o σ.e (sp i) σ.rg w
end
section
variable {P:Program} {ops:List Oper} {late:List (Nat×Nat)} {sp:Nat→Spec} {w0:World} {K:Kont}
theorem vd_step {i:Nat} {o:Oper} {os:List Oper} {σ:DS} (h:vd P ops late sp w0 K i (o::os) σ) (c:Nat→Par) (β:Nat→Nat) (hn:isNew o.op=true→w0.heap.size≤β i∧β i∉σ.nb∧∀ r∈σ.rg,¬ (r.1≤β i∧β i < r.2)) (hc:∀ b∈σ.nb,∀ r∈(c i).rg,¬ (r.1≤b∧b < r.2)) :
 OblD P ops sp w0 o i σ∧vd P ops late sp w0 K (i + 1) os (stepD P ops sp w0 i o c β σ):=by
 have key:guardB ops o σ.e=true→vdo P sp w0 i o (vd P ops late sp w0 K (i + 1) os) σ→OblD P ops sp w0 o i σ∧vd P ops late sp w0 K (i + 1) os (stepD P ops sp w0 i o c β σ):=by
  intro hg hv
  unfold vdo at hv
  unfold OblD stepD
  rw[if_pos hg]
  generalize hop:o.op=op0 at hv hn ⊢
  split at hv
  ·rename_i t a
   obtain⟨b,off,v,hp,hr,hlt,hk⟩:=hv
   refine⟨fun _=>⟨b,off,v,hp,hr,hlt⟩,?_⟩
   rw[hr,hp]
   exact hk
  ·rename_i t a x
   obtain⟨b,off,hp,hk⟩:=hv
   refine⟨fun _=>⟨b,off,hp⟩,?_⟩
   rw[hp] at hk ⊢
   exact hk
  ·rename_i op h1 h2
   split at hv
   ·rename_i hp
    obtain⟨v,hr,hk⟩:=hv
    rw[if_pos hp,if_pos hp]
    refine⟨fun _=>⟨v,hr⟩,?_⟩
    rw[hr]
    exact hk
   ·rename_i hp
    rw[if_neg hp,if_neg hp]
    split at hv
    ·rename_i hp2
     obtain⟨t,cs,f,hr,hk⟩:=hv
     rw[if_pos hp2,if_pos hp2]
     refine⟨fun _=>⟨_,hr⟩,?_⟩
     rw[hr]
     exact hk _ (hn hp2).1 (hn hp2).2.1 (hn hp2).2.2
    ·rename_i hp2
     rw[if_neg hp2,if_neg hp2]
     exact⟨fun _=>⟨hv.1,hv.2.1⟩,hv.2.2 _ hc⟩
 simp only[vd] at h
 cases hg:o.guard with
 | none =>
   rw[hg] at h
   exact key (by simp[guardB,hg]) h
 | some g =>
   obtain⟨j,want⟩:=g
   rw[hg] at h
   simp only[vdG] at h
   by_cases hw:gval σ.e ((ops[j]?).bind (·.dst))=some want
   ·rw[if_pos hw] at h
    exact key (by simp only[guardB,hg]; exact decide_eq_true hw) h
   ·rw[if_neg hw] at h
    have hf:guardB ops o σ.e=false:=by simp only[guardB,hg]; exact decide_eq_false hw
    refine⟨fun hh=>(by rw[hf] at hh; cases hh),?_⟩
    unfold stepD
    rw[if_neg (by rw[hf]; simp)]
    exact h
def runD (P:Program) (ops:List Oper) (sp:Nat→Spec) (w0:World) (c:Nat→Par) (β:Nat→Nat) (σ:DS):Nat→DS
 | 0=>σ
 | k + 1 => match ops[k]? with
   | some o=>stepD P ops sp w0 k o c β (runD P ops sp w0 c β σ k)
   | none=>runD P ops sp w0 c β σ k
def NewAt (ops:List Oper) (i:Nat):Prop:=∃ o,ops[i]? = some o∧isNew o.op=true
theorem stepD_nb (i:Nat) (o:Oper) (c:Nat→Par) (β:Nat→Nat) (σ:DS):(stepD P ops sp w0 i o c β σ).nb=σ.nb∨((stepD P ops sp w0 i o c β σ).nb=β i::σ.nb∧isNew o.op=true):=by
 unfold stepD
 generalize hop:o.op=op0
 split
 ·split
  ·exact .inl rfl
  ·exact .inl rfl
  ·split
   ·exact .inl rfl
   ·split
    ·rename_i hn
     split
     ·exact .inr ⟨rfl,hn⟩
     ·exact .inl rfl
    ·exact .inl rfl
 ·exact .inl rfl
theorem runD_nb (c:Nat→Par) (β:Nat→Nat) (σ:DS) (h0:σ.nb=[]):∀ k,∀ b∈(runD P ops sp w0 c β σ k).nb,∃ j,j < k∧NewAt ops j∧b=β j
 | 0,b,h=>by simp[runD,h0] at h
 | k + 1, b, h => by
   have ih:=runD_nb c β σ h0 k
   simp only[runD] at h
   split at h
   ·rename_i o ho
    rcases stepD_nb (P:=P) (ops:=ops) (sp:=sp) (w0:=w0) k o c β (runD P ops sp w0 c β σ k) with e | ⟨e,hn⟩
    ·rw[e] at h
     obtain⟨j,hj,hb⟩:=ih b h
     exact⟨j,by omega,hb⟩
    ·rw[e] at h
     rcases List.mem_cons.1 h with rfl | h
     ·exact⟨k,by omega,⟨o,ho,hn⟩,rfl⟩
     ·obtain⟨j,hj,hb⟩:=ih b h
      exact⟨j,by omega,hb⟩
   ·obtain⟨j,hj,hb⟩:=ih b h
    exact⟨j,by omega,hb⟩
theorem stepD_rg (i:Nat) (o:Oper) (c:Nat→Par) (β:Nat→Nat) (σ:DS):(stepD P ops sp w0 i o c β σ).rg=σ.rg∨(stepD P ops sp w0 i o c β σ).rg=(c i).rg++σ.rg:=by
 unfold stepD
 generalize hop:o.op=op0
 split
 ·split
  ·exact .inl rfl
  ·exact .inl rfl
  ·split
   ·exact .inl rfl
   ·split
    ·split
     ·exact .inl rfl
     ·exact .inl rfl
    ·exact .inr rfl
 ·exact .inl rfl
theorem runD_rg (c:Nat→Par) (β:Nat→Nat) (σ:DS) (h0:σ.rg=[]):∀ k,∀ r∈(runD P ops sp w0 c β σ k).rg,∃ j,r∈(c j).rg
 | 0,r,h=>by simp[runD,h0] at h
 | k + 1, r, h => by
   have ih:=runD_rg c β σ h0 k
   simp only[runD] at h
   split at h
   ·rename_i o ho
    rcases stepD_rg (P:=P) (ops:=ops) (sp:=sp) (w0:=w0) k o c β (runD P ops sp w0 c β σ k) with e | e
    ·rw[e] at h
     exact ih r h
    ·rw[e] at h
     rcases List.mem_append.1 h with h | h
     ·exact⟨k,h⟩
     ·exact ih r h
   ·exact ih r h
def Fresh (ops:List Oper) (w0:World) (c:Nat→Par) (β:Nat→Nat):Prop:=∀ i,NewAt ops i→w0.heap.size≤β i∧(∀ j,NewAt ops j→β i=β j→i=j)∧∀ j,∀ r∈(c j).rg,¬ (r.1≤β i∧β i < r.2)
theorem vd_run {σ:DS} (h:vd P ops late sp w0 K 0 ops σ) (h0:σ.nb=[]) (h00:σ.rg=[]) (c:Nat→Par) {β:Nat→Nat} (hβ:Fresh ops w0 c β) :
 ∀ k,k≤ops.length→vd P ops late sp w0 K k (ops.drop k) (runD P ops sp w0 c β σ k)∧∀ j o,j < k→ops[j]? = some o→OblD P ops sp w0 o j (runD P ops sp w0 c β σ j)
 | 0,_=>⟨by simpa [runD] using h,fun j o hj=>by omega⟩
 | k + 1, hk => by
   obtain⟨ih1,ih2⟩:=vd_run h h0 h00 c hβ k (by omega)
   have ho:ops[k]? = some (ops[k]'(by omega)):=gEG (by omega)
   rw[List.drop_eq_getElem_cons (by omega)] at ih1
   have hn:isNew (ops[k]'(by omega)).op=true→w0.heap.size≤β k∧β k∉(runD P ops sp w0 c β σ k).nb∧∀ r∈(runD P ops sp w0 c β σ k).rg,¬ (r.1≤β k∧β k < r.2):=by
    intro hnew
    refine⟨(hβ k ⟨_,ho,hnew⟩).1,fun hm=>?_,fun r hr=>?_⟩
    ·obtain⟨j,hj,hjn,hb⟩:=runD_nb c β σ h0 k _ hm
     have:=(hβ k ⟨_,ho,hnew⟩).2.1 j hjn hb
     omega
    ·obtain⟨j,hj⟩:=runD_rg c β σ h00 k r hr
     exact (hβ k ⟨_,ho,hnew⟩).2.2 j r hj
   have hc:∀ b∈(runD P ops sp w0 c β σ k).nb,∀ r∈(c k).rg,¬ (r.1≤b∧b < r.2):=by
    intro b hb
    obtain⟨j,hj,hjn,rfl⟩:=runD_nb c β σ h0 k b hb
    exact (hβ j hjn).2.2 k
   obtain⟨h1,h2⟩:=vd_step ih1 c β hn hc
   refine⟨by simp only[runD,ho]; exact h2,fun j o hj hjo=>?_⟩
   by_cases he:j=k
   ·subst he
    have:o=ops[j]'(by omega):=by rw[ho] at hjo; exact (oSI hjo).symm
    subst this
    exact h1
   ·exact ih2 j o (by omega) hjo
theorem vd_end {σ:DS} (h:vd P ops late sp w0 K 0 ops σ) (h0:σ.nb=[]) (h00:σ.rg=[]) (c:Nat→Par) {β:Nat→Nat} (hβ:Fresh ops w0 c β):vdEnd P late w0 K (runD P ops sp w0 c β σ ops.length):=by
 have:=(vd_run h h0 h00 c hβ ops.length (Nat.le_refl _)).1
 simpa [vd] using this
end
end Go.Proofs.YtfnbhkbfelllgaaGreatDoor
