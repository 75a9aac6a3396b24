import Derived.Test.YtfnbhkbfelllgaaGreatDoorAm
set_option linter.all false
namespace Go.Proofs.YtfnbhkbfelllgaaGreatDoor
open Go.RowKit
def ALe (k1 k2:AKont):Prop:=∀ e A,k1 e A→k2 e A
inductive ABLe:List (Nat×AKont)→List (Nat×AKont)→Prop where
 | nil:ABLe [] []
 | cons {i:Nat} {k1 k2:AKont} {b1 b2:List (Nat×AKont)}:ALe k1 k2→ABLe b1 b2→ABLe ((i,k1)::b1) ((i,k2)::b2)
theorem ABLe.refl:∀ b,ABLe b b
 | []=>.nil
 | (_,_)::b=>.cons (fun _ _ h=>h) (ABLe.refl b)
section
variable {P:Program} {n:Nat} {k1 k2:AKont}
theorem lift_mono (hk:ALe k1 k2) (C:Ctx):KLe (Lift C k1) (Lift C k2):=fun _ _ ⟨e,A,h,hS⟩=>⟨e,A,hk _ _ h,hS⟩
theorem vRaw_mono {o:Oper} {q1 q2:Kont} (hk:KLe q1 q2) {ec:Env} {w:World}:vRaw P o ec q1 w→vRaw P o ec q2 w:=by
 unfold vRaw
 split
 ·exact hk _ _
 ·exact hk _ _
 ·exact fun h=>h.mono fun _ _ ⟨v,a,b⟩=>⟨v,a,hk _ _ b⟩
 ·exact id
theorem avop_mono (hk:ALe k1 k2) {o:Oper} {e:AEnv} {A:AHeap} (hv:avop P n o k1 e A):avop P n o k2 e A:=by
 unfold avop at hv ⊢
 have hset:∀ {r d},aSet r e d k1 A→aSet r e d k2 A:=fun⟨v,a,b⟩=>⟨v,a,hk _ _ b⟩
 have hsto:∀ {r d},aSto r e d k1→aSto r e d k2:=fun⟨v,a,b⟩=>⟨v,a,hk _ _ b⟩
 have hnew:∀ {r d},aNew r e d k1 A→aNew r e d k2 A:=fun⟨v,k,a,b⟩=>⟨v,k,a,hk _ _ b⟩
 have hraw:aRaw P n o e A k1→aRaw P n o e A k2:=fun h C ec w hn hS=>vRaw_mono (lift_mono hk C) (h C ec w hn hS)
 split at hv
 ·exact hset hv
 ·exact hsto hv
 ·exact hnew hv
 ·exact hnew hv
 ·exact hnew hv
 ·split at hv
  ·obtain⟨f,fs,cs,a,b,c⟩:=hv; exact⟨f,fs,cs,a,b,c.mono fun _ _ h=>hk _ _ h⟩
  ·exact hv.imp hset (And.imp_right hraw)
  ·exact hraw hv
 ·split at hv
  ·exact hset hv
  ·exact hraw hv
  ·exact hraw hv
  ·exact hraw hv
  ·exact hv
 ·unfold aBin at hv ⊢
  split at hv
  ·exact⟨hv.1,fun b hb=>hk _ _ (hv.2 b hb)⟩
  ·exact⟨hv.1,fun b hb=>hk _ _ (hv.2 b hb)⟩
  ·exact⟨hv.1,fun b hb=>hk _ _ (hv.2 b hb)⟩
  ·exact⟨hv.1,fun b hb=>hk _ _ (hv.2 b hb)⟩
  ·exact hset hv
 all_goals first | exact hset hv | exact hraw hv
theorem avops_mono (hk:ALe k1 k2) {ops:Array Oper}:∀ (l:List Oper),ALe (avops P n ops l k1) (avops P n ops l k2)
 | [],e,A,h=>hk _ _ h
 | o :: os, e, A, h => by
   simp only[avops] at h ⊢
   split at h
   ·exact avop_mono (avops_mono hk os) h
   ·obtain⟨b,hb,h⟩:=h
    refine⟨b,hb,?_⟩
    split at h
    ·rename_i hc
     rw[if_pos hc]
     exact avop_mono (avops_mono hk os) h
    ·rename_i hc
     rw[if_neg hc]
     exact avops_mono hk os _ _ h
theorem aexitK_mono {b1 b2:List (Nat×AKont)} (h:ABLe b1 b2) (j:Nat):ALe (aexitK b1 j) (aexitK b2 j):=by
 induction h with
 | nil=>exact fun _ _ h=>h
 | cons hk _ ih =>
   intro e A hx
   simp only[aexitK] at hx ⊢
   split at hx
   ·rename_i hij; rw[if_pos hij]; exact hk _ _ hx
   ·rename_i hij; rw[if_neg hij]; exact ih _ _ hx
theorem avc_mono:∀ (c:Code) {b1 b2:List (Nat×AKont)} {r k1 k2:AKont},ABLe b1 b2→ALe k1 k2→ALe (avc P n c b1 r k1) (avc P n c b2 r k2)
 | .skip,_,_,_,_,_,_,hk,e,A,h=>hk _ _ h
 | .region id ops false,_,_,_,_,_,_,hk,e,A,h=>avops_mono hk _ _ _ h
 | .region id ops true,_,_,_,_,_,_,hk,e,A,h=>fun C ec w hn hS m a hf hd he=>wp_mono (h C ec w hn hS m a hf hd he) fun ex a' w' ⟨x,y,z⟩=>⟨x,y,lift_mono hk C _ _ z⟩
 | .seq a b,_,_,_,_,_,hb,hk,e,A,h=>avc_mono a hb (avc_mono b hb hk) _ _ h
 | .cond c a b, _, _, _, _, _, hb, hk, e, A, ⟨t, ht, h⟩ => ⟨t, ht, by
   cases t
   ·exact avc_mono b hb hk _ _ h
   ·exact avc_mono a hb hk _ _ h⟩
 | .block id c,_,_,_,_,_,hb,hk,e,A,h=>avc_mono c (.cons hk hb) hk _ _ h
 | .exit id,_,_,_,_,_,hb,hk,e,A,h=>aexitK_mono hb id _ _ h
 | .loop c,_,_,_,_,_,hb,hk,e,A,⟨J,h0,h⟩=>⟨J,h0,fun m e A hJ=>avc_mono c hb (fun _ _ h=>h) _ _ (h m e A hJ)⟩
 | .ret,_,_,_,_,_,_,_,e,A,h=>h
 | .rangeFunc ..,_,_,_,_,_,_,_,_,_,h=>h.elim
 | .scope c,_,_,_,_,_,hb,hk,e,A,h=>avc_mono c hb hk _ _ h
 | .label _,_,_,_,_,_,_,hk,e,A,h=>hk _ _ h
 | .goto _,_,_,_,_,_,_,_,_,_,h=>h.elim
 | .refuse _,_,_,_,_,_,_,_,_,_,h=>h.elim
def aIter (body:AKont→AKont):Nat→AKont
 | 0=>fun _ _=>False
 | k + 1=>body (aIter body k)
@[congr] theorem aIter_congr {b:AKont→AKont} {k:Nat} {e e':AEnv} {A A':AHeap} (he:e=e') (hA:A=A'):aIter b k e A=aIter b k e' A':=by rw[he,hA]
section
variable (b:AKont→AKont) (e:AEnv) (A:AHeap)
@[simp] theorem aIter_0:aIter b 0 e A↔False:=Iff.rfl
@[simp] theorem aIter_1:aIter b 1 e A↔b (aIter b 0) e A:=Iff.rfl
@[simp] theorem aIter_2:aIter b 2 e A↔b (aIter b 1) e A:=Iff.rfl
@[simp] theorem aIter_3:aIter b 3 e A↔b (aIter b 2) e A:=Iff.rfl
@[simp] theorem aIter_4:aIter b 4 e A↔b (aIter b 3) e A:=Iff.rfl
@[simp] theorem aIter_5:aIter b 5 e A↔b (aIter b 4) e A:=Iff.rfl
@[simp] theorem aIter_6:aIter b 6 e A↔b (aIter b 5) e A:=Iff.rfl
@[simp] theorem aIter_7:aIter b 7 e A↔b (aIter b 6) e A:=Iff.rfl
@[simp] theorem aIter_8:aIter b 8 e A↔b (aIter b 7) e A:=Iff.rfl
@[simp] theorem aIter_9:aIter b 9 e A↔b (aIter b 8) e A:=Iff.rfl
@[simp] theorem aIter_10:aIter b 10 e A↔b (aIter b 9) e A:=Iff.rfl
@[simp] theorem aIter_11:aIter b 11 e A↔b (aIter b 10) e A:=Iff.rfl
@[simp] theorem aIter_12:aIter b 12 e A↔b (aIter b 11) e A:=Iff.rfl
@[simp] theorem aIter_13:aIter b 13 e A↔b (aIter b 12) e A:=Iff.rfl
@[simp] theorem aIter_14:aIter b 14 e A↔b (aIter b 13) e A:=Iff.rfl
@[simp] theorem aIter_15:aIter b 15 e A↔b (aIter b 14) e A:=Iff.rfl
@[simp] theorem aIter_16:aIter b 16 e A↔b (aIter b 15) e A:=Iff.rfl
end
@[simp] theorem lateOk_cons (k j : Nat) (late lds sts : List (Nat × Nat)) : lateOk ((k, j) :: late) lds sts ↔ (∀ bk bj, (k, bk) ∈ sts → (j, bj) ∈ lds → ¬ bk = bj) ∧ lateOk late lds sts := by
  constructor
  ·exact fun h=>⟨fun bk bj h1 h2=>h k j bk bj List.mem_cons_self h1 h2,fun k' j' bk bj h0 h1 h2=>h k' j' bk bj (List.mem_cons_of_mem _ h0) h1 h2⟩
  ·rintro⟨h,g⟩ k' j' bk bj h0 h1 h2
   rcases List.mem_cons.1 h0 with h0 | h0
   ·cases h0; exact h bk bj h1 h2
   ·exact g k' j' bk bj h0 h1 h2
end
theorem AC.pre {P:Program} {f:FuncId} {args args':List AV} {A A':AHeap} {R:AV→AHeap→Prop} {e':AEnv} (hs:Sub A.length (aenv0 args) A e' A') (ha:args'=(List.range args.length).map e') (h:AC P f args' A' R):AC P f args A R:=by
 intro H ι w vs hH hR h1 h2
 have hlen:=h1.len
 have hS:Sta ⟨H,ι,A,w⟩ (aenv0 args) A (fun i=>vs.getD i Go.undef) w:=by
  refine⟨hH,ι,hR,Step.refl _ _ _,fun i=>?_,fun i=>?_⟩
  ·simp only[aenv0,List.getD_eq_getElem?_getD]
   rcases Nat.lt_or_ge i args.length with hi | hi
   ·obtain⟨u,e1,e2⟩:=h1.get (gEG hi)
    rw[gEG hi,e1]
    exact e2
   ·rw[List.getElem?_eq_none hi]
    simp[Shp]
  ·simp only[aenv0,List.getD_eq_getElem?_getD]
   rcases Nat.lt_or_ge i args.length with hi | hi
   ·obtain⟨u,e1,_⟩:=h1.get (gEG hi)
    rw[gEG hi,e1]
    exact h2.get (gEG hi) e1
   ·rw[List.getElem?_eq_none hi]
    simp[Mem]
 obtain⟨_,ι',g1,g2,g3,g4⟩:=hs ⟨H,ι,A,w⟩ (fun i=>vs.getD i Go.undef) w rfl hS
 ·have a1:ShpL ι' A' args' vs:=by
   rw[ha]
   refine ShpL.of (by simp[hlen]) fun i c u hc hu=>?_
   rw[List.getElem?_map,Option.map_eq_some_iff] at hc
   obtain⟨j,hj,rfl⟩:=hc
   obtain⟨rfl,hjl⟩:j=i∧i < args.length:=by
    rw[List.getElem?_range] at hj
    ·simp at hj; exact⟨hj.symm,(gSI.1 hu).1 |> fun h=>by omega⟩
    ·have:=(gSI.1 hu).1; omega
   have:=g3 j
   simp only[List.getD_eq_getElem?_getD,hu,Option.getD_some] at this
   exact this
  have a2:MemL (Nn H ι' A') w args' vs:=by
   rw[ha]
   refine MemL.of (by simp[hlen]) fun i c u hc hu=>?_
   rw[List.getElem?_map,Option.map_eq_some_iff] at hc
   obtain⟨j,hj,rfl⟩:=hc
   obtain⟨rfl,hjl⟩:j=i∧i < args.length:=by
    rw[List.getElem?_range] at hj
    ·simp at hj; exact⟨hj.symm,(gSI.1 hu).1 |> fun h=>by omega⟩
    ·have:=(gSI.1 hu).1; omega
   have:=g4 j
   simp only[List.getD_eq_getElem?_getD,hu,Option.getD_some] at this
   exact this
  refine (h H ι' w vs (hH.step g2) g1 a1 a2).mono ?_
  rintro en w' ⟨v,r,ι'',A'',q1,q2,q3,q4,q5⟩
  exact⟨v,r,ι'',A'',q1,q2,q3,g2.trans q4,q5⟩
end Go.Proofs.YtfnbhkbfelllgaaGreatDoor
