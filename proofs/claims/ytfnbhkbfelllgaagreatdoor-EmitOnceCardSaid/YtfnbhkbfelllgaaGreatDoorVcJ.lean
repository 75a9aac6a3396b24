import Derived.Laws.MakeOwn
import Derived.Test.YtfnbhkbfelllgaaGreatDoorVcI
set_option linter.all false
namespace Go.Proofs.YtfnbhkbfelllgaaGreatDoor
open Go.RowKit
section
variable {P:Program} {ops:List Oper} {late:List (Nat×Nat)} {sp:Nat→Spec} {w0:World} {K:Kont} {e0:Env} {n:Nat}
theorem pvB_run {e:Env} {o:Oper} {v:Value} (h:pvB P e o.op=some v) (w:World):(execOp (ev e) o).run P w = .ok (.value v) w:=by
 by_cases hb:∃ t ps,o.op = .build t ps
 ·obtain⟨t,ps,hop⟩:=hb
  rw[hop] at h
  simp only[pvB] at h
  rw[← map_parts] at h
  simp only[execOp,hop]
  simp[bld_run h]
 ·refine pv_run ?_ w
  rw[← h]
  generalize hop:o.op=op at hb
  cases op<;>first | rfl | exact absurd ⟨_,_,rfl⟩ hb
theorem made_one (z:Array Value) (h:z.size=1) (n:Nat):madeCells z (n * 1)=(List.replicate n z[0]!).toArray:=by
 refine Array.ext (by simp[madeCells]) fun i h1 h2=>?_
 simp[madeCells,h,Nat.mod_one]
theorem newOf_run {e:Env} {o:Oper} {t:Nat} {cs:List Value} {f:Addr→Value} (h:newOf P e o.op=some (t,cs,f)) (w:World) :
 (execOp (ev e) o).run P w = .ok (.value (f ⟨w.heap.size,0,none⟩)) (w.alloc (.cells cs.toArray t)):=by
 generalize hop:o.op=op at h
 cases op<;>simp only[newOf] at h<;>try (cases h; done)
 case makeSlice t0 x y=>
  simp only[Option.map_eq_some_iff,Prod.mk.injEq] at h
  obtain⟨⟨r1,r2,r3⟩,hz,h1,h2,rfl⟩:=h
  simp only at h1 h2
  subst h1 h2
  unfold mkOf at hz
  split at hz
  case h_2=>cases hz
  rename_i k l k' c ex ey
  split at hz
  case h_2=>cases hz
  rename_i el hu
  split at hz
  case h_2=>cases hz
  rename_i i hi
  split at hz
  case h_2=>cases hz
  rename_i z hzz
  split at hz
  case isFalse=>cases hz
  rename_i hc
  obtain⟨rfl,c1,c2,c3,c4,c5⟩:=hc
  simp only[Option.some.injEq,Prod.mk.injEq] at hz
  obtain⟨rfl,rfl,rfl⟩:=hz
  have hb:(i.bytes:Int) * l≤281474976710656:=by
   have h1:(i.bytes:Int) * l≤65536 * 65536:=Int.mul_le_mul (by omega) c2 c1 (by omega)
   omega
  have:=run_make (P:=P) w t0 el i z hu hi hzz k k' l l c1 (Int.le_refl _) hb (by omega)
  rw[c3,made_one z.cells c4] at this
  simp[execOp,hop,ex,ey,this]
 ·rename_i t0
  simp only[Option.map_eq_some_iff,Prod.mk.injEq] at h
  obtain⟨z,hz,rfl,rfl,rfl⟩:=h
  simp[execOp,hop,Instr.alloc,zv_run hz,newVar,newRow,newObj,Sem.run]
 ·rename_i t0 x
  simp only[Option.some.injEq,Prod.mk.injEq] at h
  obtain⟨rfl,rfl,rfl⟩:=h
  simp[execOp,hop,Instr.box,newVar,newRow,newObj,Sem.run]
 ·rename_i t0 len ps
  simp only[Option.map_eq_some_iff,Prod.mk.injEq] at h
  obtain⟨⟨r1,r2⟩,hz,h1,h2,rfl⟩:=h
  simp only at h1 h2
  subst h1 h2
  rw[← map_parts] at hz
  simp only[execOp,hop]
  simp[bls_run hz]
theorem stAll_append:∀ (l1 l2:List (Nat×TypeId×Value×Value)) (w:World),stAll P (l1++l2) w=(stAll P l1 w).bind (stAll P l2)
 | [],l2,w=>rfl
 | (i, t, p, v) :: l1, l2, w => by
   simp only[List.cons_append,stAll]
   cases stv P t p v w with
   | none=>rfl
   | some w'=>exact stAll_append l1 l2 w'
theorem sto_cell {b b':Nat} (hne:b≠b'):∀ (vs:List Value) (w w':World) (o:Nat),sto w b o vs=some w'→∀ off,w'.cell? ⟨b',off,none⟩=w.cell? ⟨b',off,none⟩
 | [],w,w',o,h,off=>by simp[sto] at h; rw[h]
 | v :: vs, w, w', o, h, off => by
   simp only[sto] at h
   split at h
   ·rw[sto_cell hne vs _ w' _ h off]
    exact World.cell?_setCell_other w _ _ _ (fun e=>hne (by injection e))
   ·cases h
theorem cellsFrom_congr {w w':World} {b:Nat} (h:∀ off,w'.cell? ⟨b,off,none⟩=w.cell? ⟨b,off,none⟩):∀ (n o:Nat),cellsFrom w' b o n=cellsFrom w b o n
 | 0,o=>rfl
 | n + 1,o=>by simp only[cellsFrom,h,cellsFrom_congr h n]
theorem lv_congr {w w':World} {b o:Nat} {t:TypeId} (h:∀ off,w'.cell? ⟨b,off,none⟩=w.cell? ⟨b,off,none⟩):lv P t (.pointer (some ⟨b,o,none⟩)) w'=lv P t (.pointer (some ⟨b,o,none⟩)) w:=by
 simp only[lv,h,cellsFrom_congr h]
theorem stAll_cell {b':Nat}:∀ (l:List (Nat×TypeId×Value×Value)) (w w':World),(∀ x∈l,∃ b off,x.2.2.1 = .pointer (some ⟨b,off,none⟩)∧b≠b')→stAll P l w=some w'→∀ off,w'.cell? ⟨b',off,none⟩=w.cell? ⟨b',off,none⟩
 | [],w,w',_,h,off=>by simp[stAll] at h; rw[h]
 | (i, t, p, v) :: l, w, w', hl, h, off => by
   obtain⟨b,o,hp,hne⟩:=hl _ List.mem_cons_self
   simp only at hp
   subst hp
   simp only[stAll] at h
   split at h
   ·rename_i w1 hw1
    rw[stAll_cell l w1 w' (fun x hx=>hl x (List.mem_cons_of_mem _ hx)) h off]
    unfold stv at hw1
    simp only at hw1
    split at hw1
    ·split at hw1
     ·exact sto_cell hne _ _ _ _ hw1 off
     ·cases hw1
    ·cases hw1
   ·cases h
section
variable {c:Nat→Par} {β:Nat→Nat}
theorem step_none {i:Nat} {o:Oper} {σ:DS} (h:guardB ops o σ.e=false∨isPure o.op=true∨isLoad o.op=true):(stepD P ops sp w0 i o c β σ).facts=σ.facts∧(stepD P ops sp w0 i o c β σ).st=σ.st:=by
 unfold stepD
 rcases h with h | h | h
 ·rw[if_neg (by rw[h]; simp)]
  exact⟨rfl,rfl⟩
 ·split
  ·generalize hop:o.op=op at h ⊢
   cases op<;>first | (simp only[isPure,Bool.false_eq_true] at h; done) | (simp only[h,if_true,and_self])
  ·exact⟨rfl,rfl⟩
 ·split
  ·generalize hop:o.op=op at h ⊢
   cases op<;>simp only[isLoad,Bool.false_eq_true] at h
   exact⟨rfl,rfl⟩
  ·exact⟨rfl,rfl⟩
theorem no_tag {i:Nat} {o:Oper} (ho:ops[i]? = some o) (hf:(stepD P ops sp w0 i o c β (SD P ops sp w0 e0 c β i)).facts=(SD P ops sp w0 e0 c β i).facts):∀ x∈(SD P ops sp w0 e0 c β ops.length).facts,x.1≠i:=by
 intro x hx
 have hi:i < ops.length:=(gSI.1 ho).1
 obtain⟨f,s,g1,_,g3,_⟩:=grow_of (P:=P) (ops:=ops) (sp:=sp) (w0:=w0) (e0:=e0) (c:=c) (β:=β) (i + 1) ops.length (by omega)
 rw[g1] at hx
 have hst:(SD P ops sp w0 e0 c β (i + 1))=stepD P ops sp w0 i o c β (SD P ops sp w0 e0 c β i):=by simp only[runD,ho]
 rw[hst,hf] at hx
 rcases List.mem_append.1 hx with hx | hx
 ·have:=((class_of (P:=P) (ops:=ops) (sp:=sp) (w0:=w0) (e0:=e0) (c:=c) (β:=β) i).1 x hx).1; omega
 ·have:=g3 x hx; omega
theorem st_split {i:Nat} {o:Oper} (ho:ops[i]? = some o) {s0:List (Nat×TypeId×Value×Value)} (hf:(stepD P ops sp w0 i o c β (SD P ops sp w0 e0 c β i)).st=(SD P ops sp w0 e0 c β i).st++s0) :
 ∃ s,(SD P ops sp w0 e0 c β ops.length).st=(SD P ops sp w0 e0 c β i).st++s0++s∧(∀ x∈(SD P ops sp w0 e0 c β i).st,x.1 < i)∧∀ x∈s,i < x.1:=by
 have hi:i < ops.length:=(gSI.1 ho).1
 obtain⟨f,s,_,g2,_,g4⟩:=grow_of (P:=P) (ops:=ops) (sp:=sp) (w0:=w0) (e0:=e0) (c:=c) (β:=β) (i + 1) ops.length (by omega)
 have hst:(SD P ops sp w0 e0 c β (i + 1))=stepD P ops sp w0 i o c β (SD P ops sp w0 e0 c β i):=by simp only[runD,ho]
 rw[hst,hf] at g2
 exact⟨s,g2,fun x hx=>((class_of (P:=P) (ops:=ops) (sp:=sp) (w0:=w0) (e0:=e0) (c:=c) (β:=β) i).2 x hx).1,fun x hx=>by have:=g4 x hx; omega⟩
theorem filter_same {listed:Array Bool} {i:Nat} {l:List (Nat×TypeId×Value×Value)} (h:∀ x∈l,x.1≠i):(l.filter fun x=>(listed.setIfInBounds i true).getD x.1 false)=l.filter fun x=>listed.getD x.1 false:=by
 apply List.filter_congr
 intro x hx
 rw[getD_set_ne false (Ne.symm (h x hx))]
end
theorem guard_wanted {o:Oper} (a:Act):Region.wanted o (yielded ops.toArray a.tmps)=guardB ops o (envOf a):=by
 unfold Region.wanted guardB
 cases hg:o.guard with
 | none=>rfl
 | some g =>
   obtain⟨j,want⟩:=g
   simp only
   rw[gval_eq]
   simp only[List.getElem?_toArray]
   generalize gval (envOf a) ((ops[j]?).bind (·.dst))=x
   cases x with
   | none=>rfl
   | some b=>cases b<;>cases want<;>rfl
theorem sts_of {c:Nat→Par} {β:Nat→Nat} (hs:Shown P ops sp w0 c β (start e0)):∀ k,(∀ x∈(SD P ops sp w0 e0 c β k).st,∃ b off,x.2.2.1 = .pointer (some ⟨b,off,none⟩)∧(x.1,b)∈(SD P ops sp w0 e0 c β k).sts) ∧
 (∀ j o t a b off,j < k→ops[j]? = some o→o.op = .load t a→guardB ops o (SD P ops sp w0 e0 c β j).e=true→ev (SD P ops sp w0 e0 c β j).e a = .pointer (some ⟨b,off,none⟩)→(j,b)∈(SD P ops sp w0 e0 c β k).lds)
 | 0=>by simp[runD,start]
 | k + 1 => by
   obtain⟨ih1,ih2⟩:=sts_of hs k
   cases ho:ops[k]? with
   | none =>
     simp only[runD,ho]
     refine⟨ih1,fun j o t a b off hj hjo=>?_⟩
     by_cases hjk:j=k
     ·subst hjk; rw[ho] at hjo; cases hjo
     ·exact ih2 j o t a b off (by omega) hjo
   | some o =>
     have hob:=hs k o ho
     have hmono:(∀ x∈(SD P ops sp w0 e0 c β k).sts,x∈(stepD P ops sp w0 k o c β (SD P ops sp w0 e0 c β k)).sts)∧(∀ x∈(SD P ops sp w0 e0 c β k).lds,x∈(stepD P ops sp w0 k o c β (SD P ops sp w0 e0 c β k)).lds):=by
      unfold stepD
      split
      ·split
       ·refine⟨fun x hx=>hx,fun x hx=>?_⟩
        simp only
        split
        ·exact List.mem_cons_of_mem _ hx
        ·exact hx
       ·refine⟨fun x hx=>?_,fun x hx=>hx⟩
        simp only
        split
        ·exact List.mem_cons_of_mem _ hx
        ·exact hx
       ·split
        ·exact⟨fun x hx=>hx,fun x hx=>hx⟩
        ·split
         ·split
          ·exact⟨fun x hx=>hx,fun x hx=>hx⟩
          ·exact⟨fun x hx=>hx,fun x hx=>hx⟩
         ·exact⟨fun x hx=>hx,fun x hx=>hx⟩
      ·exact⟨fun x hx=>hx,fun x hx=>hx⟩
     simp only[runD,ho]
     refine⟨fun x hx=>?_,fun j oj t a b off hj hjo hop hg hp=>?_⟩
     ·by_cases hstore:isStore o.op=true∧guardB ops o (SD P ops sp w0 e0 c β k).e=true
      ·obtain⟨hstore,hg⟩:=hstore
       generalize hop:o.op=op at hstore
       cases op<;>simp only[isStore,Bool.false_eq_true] at hstore
       rename_i t p v
       unfold OblD at hob
       have hob:=hob hg
       rw[hop] at hob
       obtain⟨b,off,hp⟩:=hob
       have hst:(stepD P ops sp w0 k o c β (SD P ops sp w0 e0 c β k)).st=(SD P ops sp w0 e0 c β k).st++[(k,t,ev (SD P ops sp w0 e0 c β k).e p,ev (SD P ops sp w0 e0 c β k).e v)]:=by
        unfold stepD; rw[if_pos hg,hop]
       have hsts:(stepD P ops sp w0 k o c β (SD P ops sp w0 e0 c β k)).sts=(k,b)::(SD P ops sp w0 e0 c β k).sts:=by
        unfold stepD; rw[if_pos hg,hop]; simp only[hp]
       rw[hst] at hx
       rcases List.mem_append.1 hx with hx | hx
       ·obtain⟨b',off',h1,h2⟩:=ih1 x hx
        exact⟨b',off',h1,hmono.1 _ h2⟩
       ·obtain rfl:=List.mem_singleton.1 hx
        exact⟨b,off,hp,by rw[hsts]; exact List.mem_cons_self⟩
      ·have hst:(stepD P ops sp w0 k o c β (SD P ops sp w0 e0 c β k)).st=(SD P ops sp w0 e0 c β k).st:=by
        obtain⟨f,s,_,_,h3,_,_,h6⟩:=stepD_new (P:=P) (ops:=ops) (sp:=sp) (w0:=w0) (c:=c) (c':=c) (β:=β) (β':=β) (i:=k) (o:=o) (σ1:=SD P ops sp w0 e0 c β k) (σ2:=SD P ops sp w0 e0 c β k) (fun _ _=>rfl) rfl (fun _ _=>rfl)
        by_cases hg:guardB ops o (SD P ops sp w0 e0 c β k).e=true
        ·rw[h3]
         cases s with
         | nil=>simp
         | cons y s=>exact absurd ⟨(h6 y List.mem_cons_self).2,hg⟩ hstore
        ·exact (step_none (.inl (by simpa using hg))).2
       rw[hst] at hx
       obtain⟨b',off',h1,h2⟩:=ih1 x hx
       exact⟨b',off',h1,hmono.1 _ h2⟩
     ·by_cases hjk:j=k
      ·subst hjk
       obtain rfl:o=oj:=by rw[ho] at hjo; exact oSI hjo
       have:(stepD P ops sp w0 j o c β (SD P ops sp w0 e0 c β j)).lds=(j,b)::(SD P ops sp w0 e0 c β j).lds:=by
        unfold stepD; rw[if_pos hg,hop]; simp only[hp]
       rw[this]
       exact List.mem_cons_self
      ·exact hmono.2 _ (ih2 j oj t a b off (by omega) hjo hop hg hp)
end
end Go.Proofs.YtfnbhkbfelllgaaGreatDoor
