import Derived.Test.YtfnbhkbfelllgaaGreatDoorVcK
set_option linter.all false
namespace Go.Proofs.YtfnbhkbfelllgaaGreatDoor
open Go.RowKit
def endOk (pre suf:List Oper):Bool:=
 (List.range suf.length).all (fun k=>(List.range (pre.length + k)).all fun j=>((masks [] (pre++suf)).getD (pre.length + k) 0).testBit j) &&
 (List.range (pre++suf).length).all (fun i=>match (pre++suf)[i]? with
  | some o=>(o.after.all fun e=>!Region.binds .any e || decide (e.on < i)) && (match o.guard with | some (j,_)=>decide (j < i) | none=>true)
  | none=>true)
section
variable {P:Program} {pre suf:List Oper}
theorem endOk_mask (h:endOk pre suf=true) {k j:Nat} (hk:k < suf.length) (hj:j < pre.length + k):((masks [] (pre++suf)).getD (pre.length + k) 0).testBit j=true:=by
 simp only[endOk,Bool.and_eq_true,List.all_eq_true,List.mem_range] at h
 exact h.1 k hk j hj
theorem endOk_back (h:endOk pre suf=true) {i:Nat} {o:Oper} (ho:(pre++suf)[i]? = some o):(∀ e∈o.after,Region.binds .any e=true→e.on < i)∧∀ j b,o.guard=some (j,b)→j < i:=by
 simp only[endOk,Bool.and_eq_true,List.all_eq_true,List.mem_range] at h
 have:=h.2 i (gSI.1 ho).1
 rw[ho] at this
 simp only[Bool.and_eq_true,Array.all_eq_true_iff_forall_mem,Bool.or_eq_true,Bool.not_eq_true',decide_eq_true_eq] at this
 refine⟨fun e he hb=>?_,fun j b hg=>?_⟩
 ·rcases this.1 e he with h | h
  ·rw[hb] at h; cases h
  ·exact h
 ·rw[hg] at this
  simpa using this.2
theorem wp_Q {o:Oper} {a:Act} {w:World} {K:Act→World→Prop} {Q Q1:Exit→Act→World→Prop} (hp:∀ c a w,Q1 (.panic c) a w→Q (.panic c) a w) (ho:∀ a w,Q1 .outgrown a w→Q .outgrown a w) (h:o.wp P a w K Q1):o.wp P a w K Q:=by
 unfold Oper.wp at *
 generalize (execOp a.eval o).run P w=r at *
 cases r with
 | ok n w' =>
   cases n<;>simp only[Oper.upon] at h ⊢ <;>
    first
     | exact h
     | exact Calls.mono h (fun e w'' he=>by cases e<;>first | exact he | exact hp _ _ _ he | exact he.elim fun a hw=>hw.elim fun w hh=>⟨a,w,ho _ _ hh⟩)
 | halt x w'=>cases x<;>simp only[Oper.upon] at h ⊢ <;> first | exact hp _ _ _ h | exact h
theorem any_mono {ops:Array Oper} {Q:Exit→Act→World→Prop}:∀ (m:Nat) (listed:Array Bool) (a:Act) (w:World),wpAny P .any ops Q m listed a w→wpAny P .any ops Q (m + 1) listed a w
 | 0,listed,a,w,h=>⟨fun _=>h.2,fun i hi=>by rw[h.1] at hi; cases hi⟩
 | m + 1,listed,a,w,h=>⟨h.1,fun i hi=>wpOp_mono (fun a w h=>any_mono m _ a w h) (h.2 i hi)⟩
theorem any_monos {ops:Array Oper} {Q:Exit→Act→World→Prop} {m:Nat} {listed:Array Bool} {a:Act} {w:World} (h:wpAny P .any ops Q m listed a w):∀ k,wpAny P .any ops Q (k + m) listed a w
 | 0=>by rw[Nat.zero_add]; exact h
 | k + 1=>by rw[show k + 1 + m=k + m + 1 by omega]; exact any_mono _ _ _ _ (any_monos h k)
theorem getD_app {x y:Array Bool} {j:Nat} (d:Bool) (h:j < x.size):(x++y).getD j d=x.getD j d:=by
 simp[Array.getD,Array.size_append,show j < x.size + y.size by omega,h,Array.getElem_append_left h]
theorem getD_app2 {x:Array Bool} {m j:Nat} (d:Bool) (h:x.size≤j) (h2:j < x.size + m):(x++Array.replicate m false).getD j d=false:=by
 simp[Array.getD,Array.size_append,h2,Array.getElem_append_right h]
theorem ready_pre (h:endOk pre suf=true) {listed:Array Bool} (hs:listed.size=pre.length) (hc:Closed pre (Lst listed)) {i:Nat} (hu:∃ j,j < pre.length∧¬ Lst listed j) :
 i∈Region.ready .any (pre++suf).toArray (listed++Array.replicate suf.length false)↔i∈Region.ready .any pre.toArray listed:=by
 rw[mem_ready,mem_ready]
 have hL:∀ j,Lst (listed++Array.replicate suf.length false) j↔j < pre.length∧Lst listed j:=by
  intro j
  rcases Nat.lt_or_ge j pre.length with hj | hj
  ·show (_=true)↔_
   rw[getD_app false (by omega)]
   exact⟨fun h=>⟨hj,h⟩,fun h=>h.2⟩
  ·show (_=true)↔_
   rcases Nat.lt_or_ge j (pre.length + suf.length) with h2 | h2
   ·rw[getD_app2 false (by omega) (by omega)]
    simp; omega
   ·simp[Array.getD,hs,show ¬ j < pre.length + suf.length by omega]
    omega
 have hcl:Closed (pre++suf) (Lst (listed++Array.replicate suf.length false)):=by
  intro j o ho hl e he hb
  obtain⟨hj,hl⟩:=(hL j).1 hl
  rw[gAL hj] at ho
  have:=hc j o ho hl e he hb
  refine (hL _).2 ⟨?_,this⟩
  have hb2:=(endOk_back h (i:=j) (by rw[gAL hj]; exact ho)).1 e he hb
  omega
 constructor
 ·rintro⟨h1,o,h2,h3⟩
  rcases Nat.lt_or_ge i pre.length with hi | hi
  ·rw[getD_app true (by omega)] at h1
   simp only[List.getElem?_toArray] at h2 ⊢
   rw[gAL hi] at h2
   exact⟨h1,o,h2,fun e he hb=>((hL _).1 (h3 e he hb)).2⟩
  ·exfalso
   obtain⟨j,hj,hu⟩:=hu
   simp only[List.getElem?_toArray] at h2
   have hlt:=(gSI.1 h2).1
   rw[List.length_append] at hlt
   have hm:=endOk_mask h (k:=i - pre.length) (j:=j) (by omega) (by omega)
   rw[show pre.length + (i - pre.length)=i by omega] at hm
   exact hu ((hL j).1 (mask_in hcl h2 h3 hm)).2
 ·rintro⟨h1,o,h2,h3⟩
  simp only[List.getElem?_toArray] at h2 ⊢
  have hi:=(gSI.1 h2).1
  refine⟨by rw[getD_app true (by omega)]; exact h1,o,by rw[gAL hi]; exact h2,fun e he hb=>(hL _).2 ⟨?_,h3 e he hb⟩⟩
  have hb2:=(endOk_back h (i:=i) (by rw[gAL hi]; exact h2)).1 e he hb
  omega
theorem ready_some (h:endOk pre suf=true) {listed:Array Bool} (hs:listed.size=pre.length) (hu:∃ j,j < pre.length∧¬ Lst listed j):∃ i,i∈Region.ready .any pre.toArray listed:=by
 obtain⟨j,hj,hu⟩:=hu
 induction j using Nat.strongRecOn with
 | _ j ih =>
   by_cases hb:∃ k,k < j∧¬ Lst listed k
   ·obtain⟨k,hk,hn⟩:=hb
    exact ih k hk (by omega) hn
   ·refine⟨j,mem_ready.2 ⟨?_,pre[j],by simp[hj],fun e he hbi=>?_⟩⟩
    ·unfold Lst at hu
     simp[hs,hj] at hu ⊢
     exact hu
    ·have:=(endOk_back h (i:=j) (o:=pre[j]) (by rw[gAL hj]; simp)).1 e he hbi
     exact Classical.byContradiction fun hn=>hb ⟨e.on,this,hn⟩
theorem set_app {x y:Array Bool} {i:Nat} (h:i < x.size):(x++y).setIfInBounds i true=x.setIfInBounds i true++y:=by
 apply Array.ext_getElem?
 intro j
 rw[Array.getElem?_setIfInBounds,Array.getElem?_append,Array.getElem?_append]
 simp only[Array.size_append,Array.size_setIfInBounds,Array.getElem?_setIfInBounds]
 by_cases hij:i=j
 ·subst hij
  simp[h,show i < x.size + y.size by omega]
 ·simp[hij]
theorem any_pre (h:endOk pre suf=true) {Q Q1:Exit→Act→World→Prop} {m:Nat} (hp:∀ c a w,Q1 (.panic c) a w→Q (.panic c) a w) (ho:∀ a w,Q1 .outgrown a w→Q .outgrown a w)
 (hn:∀ a w,Q1 .normal a w→wpAny P .any (pre++suf).toArray Q m (Array.replicate pre.length true++Array.replicate suf.length false) a w) :
 ∀ (fuel : Nat) (listed : Array Bool) (a : Act) (w : World), listed.size = pre.length → Closed pre (Lst listed) → wpAny P .any pre.toArray Q1 fuel listed a w →
   wpAny P .any (pre++suf).toArray Q (fuel + m) (listed++Array.replicate suf.length false) a w:=by
 have hdone:∀ (fuel:Nat) (listed:Array Bool) (a:Act) (w:World),listed.size=pre.length→(¬ ∃ j,j < pre.length∧¬ Lst listed j)→wpAny P .any pre.toArray Q1 fuel listed a w →
  wpAny P .any (pre++suf).toArray Q (fuel + m) (listed++Array.replicate suf.length false) a w:=by
  intro fuel listed a w hs hall hw
  have hL:∀ j,j < pre.length→Lst listed j:=fun j hj=>Classical.byContradiction fun hn=>hall ⟨j,hj,hn⟩
  have e:listed=Array.replicate pre.length true:=by
   apply Array.ext_getElem?
   intro j
   rcases Nat.lt_or_ge j pre.length with hj | hj
   ·have:=hL j hj
    unfold Lst at this
    simp[hs,hj] at this ⊢
    exact this
   ·simp[hs,hj]
  have hr:Region.ready .any pre.toArray listed=[]:=by
   cases hr:Region.ready .any pre.toArray listed with
   | nil=>rfl
   | cons i l =>
     exfalso
     obtain⟨h1,o,h2,_⟩:=mem_ready.1 (show i∈Region.ready .any pre.toArray listed by rw[hr]; exact List.mem_cons_self)
     simp only[List.getElem?_toArray] at h2
     have hi:=(gSI.1 h2).1
     have:=hL i hi
     unfold Lst at this
     simp[hs,hi] at this h1
     rw[h1] at this; cases this
  have hq:Q1 .normal a w:=by
   cases fuel with
   | zero=>exact hw.2
   | succ fuel=>exact hw.1 hr
  rw[e]
  exact any_monos (hn a w hq) fuel
 intro fuel
 induction fuel with
 | zero =>
   intro listed a w hs hc hw
   refine hdone 0 listed a w hs ?_ hw
   intro hu
   obtain⟨i,hi⟩:=ready_some h hs hu
   rw[hw.1] at hi
   cases hi
 | succ fuel ih =>
   intro listed a w hs hc hw
   by_cases hu:∃ j,j < pre.length∧¬ Lst listed j
   case neg=>exact hdone _ listed a w hs hu hw
   rw[show fuel + 1 + m=fuel + m + 1 by omega]
   refine⟨fun hr=>?_,fun i hi=>?_⟩
   ·obtain⟨i,hi⟩:=ready_some h hs hu
    rw[← ready_pre h hs hc hu,hr] at hi
    cases hi
   ·rw[ready_pre h hs hc hu] at hi
    have hw1:=hw.2 i hi
    obtain⟨h1,o,h2,h3⟩:=mem_ready.1 hi
    simp only[List.getElem?_toArray] at h2
    have hlt:=(gSI.1 h2).1
    have h2':(pre++suf)[i]? = some o:=by rw[gAL hlt]; exact h2
    rw[set_app (by omega)]
    have hK:∀ a w,wpAny P .any pre.toArray Q1 fuel (listed.setIfInBounds i true) a w→wpAny P .any (pre++suf).toArray Q (fuel + m) (listed.setIfInBounds i true++Array.replicate suf.length false) a w:=by
     intro a w hw
     refine ih _ a w (by simp[hs]) ?_ hw
     intro j oj hj hl e he hb
     rw[Lst_set (by omega)] at hl ⊢
     left
     rcases hl with hl | rfl
     ·exact hc j oj hj hl e he hb
     ·rw[h2] at hj
      obtain rfl:=oSI hj
      exact h3 e he hb
    have hy:Region.wanted o (yielded (pre++suf).toArray a.tmps)=Region.wanted o (yielded pre.toArray a.tmps):=by
     cases hg:o.guard with
     | none=>simp[Region.wanted,hg]
     | some g =>
       obtain⟨j,b⟩:=g
       have:=(endOk_back h h2').2 j b hg
       simp only[Region.wanted,hg,yielded,List.getElem?_toArray]
       rw[gAL (by omega)]
    unfold wpOp at hw1 ⊢
    simp only[List.getElem?_toArray,h2,h2'] at hw1 ⊢
    rw[hy]
    split
    ·rename_i hwd
     rw[if_pos hwd] at hw1
     rcases hw1 with hw1 | hw1
     ·exact .inl (wp_Q hp ho (Oper.wp_mono hK hw1))
     ·exact .inr ⟨hw1.1,hw1.2.elim fun a hh=>hh.elim fun w hh=>⟨a,w,ho _ _ hh⟩⟩
    ·rename_i hwd
     rw[if_neg hwd] at hw1
     exact hK _ _ hw1
theorem any_suf (h:endOk pre suf=true) {Q:Exit→Act→World→Prop} {K:Kont} {n:Nat} (hd:∀ o∈suf,∀ d',o.dst=some d'→d' < n) (hQ:∀ a w,Fr n a→K (envOf a) w→Q .normal a w) :
 ∀ (m k : Nat), k + m = suf.length → ∀ (a : Act) (w : World), Fr n a → vops P (pre ++ suf).toArray (suf.drop k) K (envOf a) w →
   wpAny P .any (pre++suf).toArray Q m (Array.replicate (pre.length + k) true++Array.replicate m false) a w:=by
 intro m
 induction m with
 | zero =>
   intro k hk a w hf hv
   rw[List.drop_eq_nil_of_le (by omega)] at hv
   refine⟨?_,hQ a w hf hv⟩
   cases hr:Region.ready .any (pre++suf).toArray (Array.replicate (pre.length + k) true++Array.replicate 0 false) with
   | nil=>rfl
   | cons i l =>
     exfalso
     obtain⟨h1,o,h2,_⟩:=mem_ready.1 (show i∈Region.ready .any (pre++suf).toArray (Array.replicate (pre.length + k) true++Array.replicate 0 false) by rw[hr]; exact List.mem_cons_self)
     simp only[List.getElem?_toArray] at h2
     have hi:=(gSI.1 h2).1
     rw[List.length_append] at hi
     simp[show i < pre.length + k by omega] at h1
 | succ m ih =>
   intro k hk a w hf hv
   obtain⟨o,ho⟩:∃ o,suf[k]? = some o:=⟨_,gEG (by omega)⟩
   have hlk:=(gSI.1 ho).1
   have hdr:suf.drop k=o::suf.drop (k + 1):=by rw[List.drop_eq_getElem_cons hlk,(gSI.1 ho).2]
   have hoi:(pre++suf)[pre.length + k]? = some o:=by rw[List.getElem?_append_right (by omega)]; simpa using ho
   rw[hdr] at hv
   have hsz:(Array.replicate (pre.length + k) true).size=pre.length + k:=by simp
   have hL:∀ j,Lst (Array.replicate (pre.length + k) true++Array.replicate (m + 1) false) j↔j < pre.length + k:=by
    intro j
    unfold Lst
    rcases Nat.lt_or_ge j (pre.length + k) with hj | hj
    ·rw[getD_app false (by simpa using hj)]
     simp[hj]
    ·rcases Nat.lt_or_ge j (pre.length + k + (m + 1)) with h2 | h2
     ·rw[getD_app2 false (by simpa using hj) (by simpa using h2)]
      simp; omega
     ·simp[Array.getD,show ¬ j < pre.length + k + (m + 1) by omega]
      omega
   have hrd:∀ i,i∈Region.ready .any (pre++suf).toArray (Array.replicate (pre.length + k) true++Array.replicate (m + 1) false)↔i=pre.length + k:=by
    intro i
    rw[mem_ready]
    constructor
    ·rintro⟨h1,oi,h2,h3⟩
     simp only[List.getElem?_toArray] at h2
     have hi:=(gSI.1 h2).1
     rw[List.length_append] at hi
     rcases Nat.lt_trichotomy i (pre.length + k) with hlt | rfl | hgt
     ·rw[getD_app true (by simpa using hlt)] at h1
      simp[hlt] at h1
     ·rfl
     ·exfalso
      have hcl:Closed (pre++suf) (Lst (Array.replicate (pre.length + k) true++Array.replicate (m + 1) false)):=by
       intro j oj hj hl e he hb
       rw[hL] at hl ⊢
       have:=(endOk_back h hj).1 e he hb
       omega
      have hm:=endOk_mask h (k:=i - pre.length) (j:=pre.length + k) (by omega) (by omega)
      rw[show pre.length + (i - pre.length)=i by omega] at hm
      have:=(hL _).1 (mask_in hcl h2 h3 hm)
      omega
    ·rintro rfl
     refine⟨?_,o,by simpa using hoi,fun e he hb=>(hL _).2 ((endOk_back h hoi).1 e he hb)⟩
     rw[getD_app2 true (by simp) (by simp)]
   refine⟨fun hr=>?_,fun i hi=>?_⟩
   ·have:=(hrd (pre.length + k)).2 rfl
    rw[hr] at this
    cases this
   ·obtain rfl:=(hrd i).1 hi
    have hset:(Array.replicate (pre.length + k) true++Array.replicate (m + 1) false).setIfInBounds (pre.length + k) true=Array.replicate (pre.length + (k + 1)) true++Array.replicate m false:=by
     apply Array.ext_getElem?
     intro j
     rw[Array.getElem?_setIfInBounds,Array.getElem?_append,Array.getElem?_append]
     simp only[Array.size_append,Array.size_replicate,Array.getElem?_replicate]
     by_cases hij:pre.length + k=j
     ·subst hij
      simp
     ·rw[if_neg hij]
      by_cases hj:j < pre.length + k
      ·simp[hj,show j < pre.length + (k + 1) by omega]
      ·simp only[if_neg hj,if_neg (show ¬ j < pre.length + (k + 1) by omega)]
       by_cases hj2:j - (pre.length + k) < m + 1
       ·rw[if_pos hj2,if_pos (by omega)]
       ·rw[if_neg hj2,if_neg (by omega)]
    rw[hset]
    have ih':=ih (k + 1) (by omega)
    have hd0:=hd o (gMO ho)
    simp only[vops] at hv
    unfold wpOp
    simp only[List.getElem?_toArray,hoi]
    cases hg:o.guard with
    | none =>
      rw[hg] at hv
      simp only at hv
      rw[if_pos (by simp[Region.wanted,hg])]
      exact .inl (vop_sound hf hd0 (fun a w hf h=>ih' a w hf h) hv)
    | some g =>
      obtain⟨j,want⟩:=g
      rw[hg] at hv
      simp only[vG,← gval_eq (pre++suf).toArray a j] at hv
      by_cases hy:yielded (pre++suf).toArray a.tmps j=some want
      ·rw[if_pos hy] at hv
       rw[if_pos (by simp[Region.wanted,hg,hy])]
       exact .inl (vop_sound hf hd0 (fun a w hf h=>ih' a w hf h) hv)
      ·rw[if_neg hy] at hv
       rw[if_neg (by simp[Region.wanted,hg,hy])]
       exact ih' _ _ (hf.put _ _) (by rw[envOf_put hf hd0]; exact hv)
theorem draw2 {id:Nat} {k K1:Kont} {e:Env} {w:World} (late:List (Nat×Nat)) (sp:Nat→Spec) (hm:P.follows .mixedOrders=true) (hok:okD pre=true) (hlate:lateOf pre=late) (hend:endOk pre suf=true)
 (hk:∀ e w,K1 e w→vops P (pre++suf).toArray suf k e w) (h:vd P pre late sp w K1 0 pre ⟨e,[],[],[],[],[],[]⟩):vDraw P id (pre++suf).toArray k e w:=by
 intro n a hf hd he
 subst he
 refine wp_region_any hm ?_
 have hok':=okD_spec hok
 rw[show (pre++suf).toArray.size=pre.length + suf.length by simp,show Array.replicate (pre.length + suf.length) false=Array.replicate pre.length false++Array.replicate suf.length false by simp]
 have hd1:∀ o∈pre,∀ d',o.dst=some d'→d' < n:=fun o ho=>hd o (by simp[ho])
 have hd2:∀ o∈suf,∀ d',o.dst=some d'→d' < n:=fun o ho=>hd o (by simp[ho])
 refine any_pre hend (Q1:=fun ex a' w'=>ex = .normal∧Fr n a'∧K1 (envOf a') w') (fun c a w h=>by cases h.1) (fun a w h=>by cases h.1) ?_ pre.length _ a _ (by simp) ?_ ?_
 ·rintro a w ⟨_,hf,hv⟩
  exact any_suf hend hd2 (fun a' w' hf' hk=>⟨rfl,hf',hk⟩) suf.length 0 (by omega) a w hf (by simpa using hk _ _ hv)
 ·intro j o hj hl
  unfold Lst at hl
  rw[getD_replicate_false'] at hl
  cases hl
 ·refine any_of_inv (sp:=sp) (w0:=w) (K:=K1) (e0:=envOf a) (n:=n) hok' hlate hd1 h (fun a' w' hf' hk=>⟨rfl,hf',hk⟩) _ _ _ _ ?_ ?_
  ·refine Nat.le_trans List.countP_le_length ?_
   simp
  ·have hnone:∀ j,¬ Lst (Array.replicate pre.length false) j:=fun j h=>by
    unfold Lst at h
    rw[getD_replicate_false'] at h
    cases h
   refine⟨fun _=>⟨undef,[]⟩,fun j=>w.heap.size + j,w.drew,hf,by simp,fun j o _ hl=>absurd hl (hnone j),fun i hi=>⟨by omega,fun j hj hij=>by omega,fun j r hr=>absurd hr List.not_mem_nil⟩,fun j r hr=>absurd hr List.not_mem_nil,(Ext.refl w).drew,fun j o t hl=>absurd hl (hnone j),fun t _=>rfl,fun x hx hl=>absurd hl (hnone x.1),?_,fun j o hj hnw=>?_⟩
   ·rw[filter_none (fun _=>⟨undef,[]⟩) _ (fun j oj _ _=>hnone j)]
    rfl
   ·rw[if_neg (fun h=>hnone j h.1)]
    show w.heap.size≤_
    omega
end
end Go.Proofs.YtfnbhkbfelllgaaGreatDoor
