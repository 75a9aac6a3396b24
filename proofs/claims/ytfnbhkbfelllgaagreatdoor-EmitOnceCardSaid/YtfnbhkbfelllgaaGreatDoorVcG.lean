import Derived.Test.YtfnbhkbfelllgaaGreatDoorVcF
set_option linter.all false
namespace Go.Proofs.YtfnbhkbfelllgaaGreatDoor
open Go.RowKit
def maskOf (acc:List Nat) (o:Oper):Nat:=o.after.toList.foldl (fun m e=>if Region.binds .any e && decide (e.on < acc.length) then m ||| 2 ^ e.on ||| acc.getD e.on 0 else m) 0
def masks:List Nat→List Oper→List Nat
 | acc,[]=>acc
 | acc,o::os=>masks (acc++[maskOf acc o]) os
def okD (ops:List Oper):Bool:=
 let ms:=masks [] ops
 let n:=ops.length
 (List.range n).all fun i=>match ops[i]? with
  | none=>true
  | some oi => ((oi.after.toList.all fun e => !Region.binds .any e || decide (e.on < i)) && (match oi.op with | .select .. => false | _ => true)) &&
    (List.range n).all fun j=>match ops[j]? with
     | none=>true
     | some oj => (i == j || (match oi.dst, oj.dst with | some d, some d' => d != d' | _, _ => true)) &&
       (match oj.dst with
        | some d=>!(seen ops oi).contains d || i == j || (if j < i then (ms.getD i 0).testBit j else (ms.getD j 0).testBit i)
        | none=>true) &&
       (!isCall oi.op || !decide (j < i) || !(isCall oj.op || isNew oj.op) || (ms.getD i 0).testBit j) &&
       (!isStore oi.op || !(isCall oj.op || isNew oj.op) || (decide (j < i) && (ms.getD i 0).testBit j)) &&
       (!isStore oi.op || !isStore oj.op || !decide (j < i) || (ms.getD i 0).testBit j)
def lateOf (ops:List Oper):List (Nat×Nat):=
 let ms:=masks [] ops
 (List.range ops.length).flatMap fun k=>(List.range ops.length).filterMap fun j=>match ops[k]?,ops[j]? with
  | some ok,some oj=>if isStore ok.op && isLoad oj.op && !(decide (j < k) && (ms.getD k 0).testBit j) then some (k,j) else none
  | _,_=>none
section
variable {ops:List Oper}
def Closed (ops:List Oper) (L:Nat→Prop):Prop:=∀ (j:Nat) (o:Oper),ops[j]? = some o→L j→∀ e∈o.after,Region.binds .any e=true→L e.on
theorem maskOf_spec {L:Nat→Prop} {acc:List Nat} {o:Oper} (hacc:∀ (j m:Nat),acc[j]? = some m→L j→∀ i,m.testBit i=true→L i) (ho:∀ e∈o.after,Region.binds .any e=true→L e.on) :
 ∀ i,(maskOf acc o).testBit i=true→L i:=by
 unfold maskOf
 have key:∀ (l:List Edge) (m:Nat),(∀ e∈l,Region.binds .any e=true→L e.on)→(∀ i,m.testBit i=true→L i) →
  ∀ i,(l.foldl (fun m e=>if Region.binds .any e && decide (e.on < acc.length) then m ||| 2 ^ e.on ||| acc.getD e.on 0 else m) m).testBit i=true→L i:=by
  intro l
  induction l with
  | nil=>intro m _ hm i hi; exact hm i hi
  | cons e l ih =>
    intro m hl hm i hi
    refine ih _ (fun e he=>hl e (List.mem_cons_of_mem _ he)) ?_ i hi
    intro i hi
    simp only at hi
    split at hi
    ·rename_i hb
     simp only[Bool.and_eq_true,decide_eq_true_eq] at hb
     simp only[Nat.testBit_or,Bool.or_eq_true] at hi
     rcases hi with (hi | hi) | hi
     ·exact hm i hi
     ·rw[Nat.testBit_two_pow] at hi
      have:e.on=i:=by simpa using hi
      exact this ▸ hl e List.mem_cons_self hb.1
     ·have he:=hl e List.mem_cons_self hb.1
      refine hacc e.on (acc.getD e.on 0) ?_ he i hi
      rw[gEG hb.2,List.getD_eq_getElem?_getD,gEG hb.2]
      rfl
    ·exact hm i hi
 exact key _ 0 (fun e he=>ho e (by simpa using he)) (fun i hi=>by simp at hi)
theorem masks_spec {L:Nat→Prop}:∀ (l:List Oper) (acc:List Nat),(∀ j o,ops[acc.length + j]? = some o→l[j]? = some o)→(∀ j,l[j]? = ops[acc.length + j]?)→Closed ops L →
 (∀ (j m:Nat) (o:Oper),acc[j]? = some m→ops[j]? = some o→(∀ e∈o.after,Region.binds .any e=true→L e.on)→∀ i,m.testBit i=true→L i) →
 ∀ (j m:Nat) (o:Oper),(masks acc l)[j]? = some m→ops[j]? = some o→(∀ e∈o.after,Region.binds .any e=true→L e.on)→∀ i,m.testBit i=true→L i
 | [],acc,_,_,_,h=>by simpa [masks] using h
 | o :: l, acc, h1, h2, hc, h => by
   simp only[masks]
   have ho:ops[acc.length]? = some o:=by have:=h2 0; simpa using this.symm
   refine masks_spec l _ ?_ ?_ hc ?_
   ·intro j oj hj
    have:=h1 (j + 1) oj (by simpa [Nat.add_assoc,Nat.add_comm 1 j] using hj)
    simpa using this
   ·intro j
    have:=h2 (j + 1)
    simpa [Nat.add_assoc,Nat.add_comm 1 j] using this
   ·intro j m oj hm hoj hall i hi
    rcases Nat.lt_trichotomy j acc.length with hlt | heq | hgt
    ·rw[gAL hlt] at hm
     exact h j m oj hm hoj hall i hi
    ·subst heq
     rw[List.getElem?_append_right (Nat.le_refl _)] at hm
     simp only[Nat.sub_self,List.getElem?_cons_zero,Option.some.injEq] at hm
     subst hm
     obtain rfl:o=oj:=by rw[ho] at hoj; exact oSI hoj
     refine maskOf_spec (fun j m hm hL=>?_) hall i hi
     have hj:j < acc.length:=(gSI.1 hm).1
     have hjo:j < ops.length:=by
      have:=(gSI.1 ho).1
      omega
     exact h j m _ hm (gEG hjo) (hc j _ (gEG hjo) hL)
    ·rw[List.getElem?_eq_none (by simp; omega)] at hm
     cases hm
theorem masks_length:∀ (l:List Oper) (acc:List Nat),(masks acc l).length=acc.length + l.length
 | [],acc=>by simp[masks]
 | o::l,acc=>by simp[masks,masks_length l]; omega
theorem mask_in {L:Nat→Prop} (hc:Closed ops L) {k i:Nat} {o:Oper} (ho:ops[k]? = some o) (hall:∀ e∈o.after,Region.binds .any e=true→L e.on) (hi:((masks [] ops).getD k 0).testBit i=true):L i:=by
 have hk:k < (masks [] ops).length:=by rw[masks_length]; simpa using (gSI.1 ho).1
 have hm:(masks [] ops)[k]? = some ((masks [] ops).getD k 0):=by
  rw[gEG hk,List.getD_eq_getElem?_getD,gEG hk]
  rfl
 exact masks_spec (ops:=ops) (L:=L) ops [] (fun j o h=>by simpa using h) (fun j=>by simp) hc (fun j m o h=>by simp at h) k _ o hm ho hall i hi
structure Ok (ops:List Oper):Prop where
 back:∀ (i:Nat) (o:Oper),ops[i]? = some o→∀ e∈o.after,Region.binds .any e=true→e.on < i
 nosel:∀ (i:Nat) (o:Oper),ops[i]? = some o→∀ cs b,o.op ≠ .select cs b
 dst:dstOk ops
 slot:∀ (i j:Nat) (oi oj:Oper) (d:Nat),ops[i]? = some oi→ops[j]? = some oj→oj.dst=some d→d∈seen ops oi→i≠j→if j < i then ((masks [] ops).getD i 0).testBit j=true else ((masks [] ops).getD j 0).testBit i=true
 call:∀ (i j:Nat) (oi oj:Oper),ops[i]? = some oi→ops[j]? = some oj→isCall oi.op=true→j < i→(isCall oj.op || isNew oj.op)=true→((masks [] ops).getD i 0).testBit j=true
 store:∀ (i j:Nat) (oi oj:Oper),ops[i]? = some oi→ops[j]? = some oj→isStore oi.op=true→(isCall oj.op || isNew oj.op)=true→j < i∧((masks [] ops).getD i 0).testBit j=true
 stores:∀ (i j:Nat) (oi oj:Oper),ops[i]? = some oi→ops[j]? = some oj→isStore oi.op=true→isStore oj.op=true→j < i→((masks [] ops).getD i 0).testBit j=true
theorem okD_spec (h:okD ops=true):Ok ops:=by
 unfold okD at h
 simp only[List.all_eq_true,List.mem_range] at h
 have hi:∀ i o,ops[i]? = some o→i < ops.length:=fun i o ho=>(gSI.1 ho).1
 have hh:∀ i oi,ops[i]? = some oi→_:=fun i oi ho=>by
  have:=h i (hi i oi ho)
  rw[ho] at this
  simp only[Bool.and_eq_true,List.all_eq_true,List.mem_range] at this
  exact this
 have h2:∀ i j oi oj,ops[i]? = some oi→ops[j]? = some oj→_:=fun i j oi oj ho hj=>by
  have:=(hh i oi ho).2 j (hi j oj hj)
  rw[hj] at this
  simp only[Bool.and_eq_true] at this
  exact this
 refine⟨fun i o ho e he hb=>?_,fun i o ho cs b hop=>?_,fun i j oi oj d ho hj hd hd'=>?_,fun i j oi oj d ho hj hd hm hne=>?_,fun i j oi oj ho hj hc hlt hcn=>?_,fun i j oi oj ho hj hc hcn=>?_,fun i j oi oj ho hj hs hs' hlt=>?_⟩
 ·have:=(hh i o ho).1.1 e (by simpa using he)
  simpa [hb] using this
 ·have:=(hh i o ho).1.2
  rw[hop] at this
  simp at this
 ·have:=(h2 i j oi oj ho hj).1.1.1.1
  rw[hd,hd'] at this
  simpa using this
 ·have:=(h2 i j oi oj ho hj).1.1.1.2
  rw[hd] at this
  simp only[Bool.or_eq_true,Bool.not_eq_true',beq_iff_eq] at this
  rcases this with (h3 | h3) | h3
  ·simp at h3
   exact absurd hm h3
  ·exact absurd h3 hne
  ·split<;>simp_all
 ·have:=(h2 i j oi oj ho hj).1.1.2
  simpa [hc,hlt,hcn] using this
 ·have:=(h2 i j oi oj ho hj).1.2
  simpa [hc,hcn] using this
 ·have:=(h2 i j oi oj ho hj).2
  simpa [hs,hs',hlt] using this
end
end Go.Proofs.YtfnbhkbfelllgaaGreatDoor
