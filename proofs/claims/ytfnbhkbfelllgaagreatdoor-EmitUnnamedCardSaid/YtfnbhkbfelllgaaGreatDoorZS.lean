import Derived.Test.YtfnbhkbfelllgaaGreatDoorZP
import Derived.Test.YtfnbhkbfelllgaaGreatDoorSh
import Derived.Lib.ItoaNum
import Derived.Test.YtfnbhkbfelllgaaGreatDoorAm
import Derived.Test.YtfnbhkbfelllgaaGreatDoorAp
import Derived.Test.YtfnbhkbfelllgaaGreatDoorAo
import Derived.Test.YtfnbhkbfelllgaaGreatDoorZV
import Derived.Test.YtfnbhkbfelllgaaGreatDoorAt
set_option linter.all false
namespace Go.Proofs.YtfnbhkbfelllgaaGreatDoor
open Go.RowKit
section
variable {H:Nat→Prop} {ι:Place} {A:AHeap} {w w':World}
theorem ints_put {b:Nat} {k:Blk} {c n:Nat} {L:List Int} {arr arr':Array Value} (hR:Rel H ι A w) (hAb:A[b]? = some k) (hwr:k.wr=true) (hι:ι b=some (c,n)) (hsz:k.sz=1) (hty:k.ty < 1000000) (hel:L.length=k.els.length)
 (a1:w.heap[c]? = some (.cells arr k.ty (0,0))) (a2:arr.size=n) (a3:k.els.length * k.sz≤n) (s2:w'.heap[c]? = some (.cells arr' k.ty (0,0))) (s3:arr'.size=arr.size) (s4:∀ (i:Nat) (v:Int),L[i]? = some v→arr'[i]? = some (.int .i64 v))
 (s5:w.heap.size≤w'.heap.size) (s6:∀ b,b < w.heap.size→b≠c→SameB w w' b) (s7:w'.os=w.os) (s8:w'.tape=w.tape) (s9:w'.output=w.output) :
 Rel H ι (A.set b (setEls k (dEls (i64s L)))) w'∧Step ι A w ι (A.set b (setEls k (dEls (i64s L)))) w':=by
 have hlt:=(gSI.1 hAb).1
 have hst:Step ι A w ι (A.set b (setEls k (dEls (i64s L)))) w':=by
  refine⟨fun b' k' hb'=>?_,fun c' hc'=>.inl ((Mu_set (k':=setEls k (dEls (i64s L))) hAb rfl c').1 hc'),fun c' hc' hn=>s6 c' hc' fun he=>hn (he ▸ ⟨b,k,n,hAb,hwr,hι⟩),s5,s7,s8,s9⟩
  by_cases he:b=b'
  ·subst he
   rw[hAb] at hb'
   obtain rfl:=oSI hb'
   exact⟨_,gSS hlt,Nat.le_refl _,fun _=>⟨rfl,rfl⟩⟩
  ·exact⟨k',by rw[gSN he]; exact hb',Nat.le_refl _,fun _=>⟨rfl,rfl⟩⟩
 have hN:Nn H ι (A.set b (setEls k (dEls (i64s L))))=Nn H ι A:=Nn_set (k':=setEls k (dEls (i64s L))) hAb rfl
 have hget:∀ (b':Nat) (k':Blk),(A.set b (setEls k (dEls (i64s L))))[b']? = some k'→(b'=b∧k'=setEls k (dEls (i64s L)))∨(b'≠b∧A[b']? = some k'):=by
  intro b' k' hb'
  by_cases he:b=b'
  ·subst he
   rw[gSS hlt] at hb'
   exact .inl ⟨rfl,(oSI hb').symm⟩
  ·rw[gSN he] at hb'
   exact .inr ⟨fun h=>he h.symm,hb'⟩
 have hblk:∀ (b':Nat) (k':Blk),(A.set b (setEls k (dEls (i64s L))))[b']? = some k'→∃ k2:Blk,A[b']? = some k2:=by
  intro b' k' hb'
  rcases hget b' k' hb' with⟨rfl,_⟩ | ⟨_,h2⟩
  ·exact⟨k,hAb⟩
  ·exact⟨k',h2⟩
 refine⟨⟨fun b' k' hb'=>?_,fun b' k' c' n' hb' hc'=>?_,fun b1 b2 k1 k2 c1 n1 n2 h1 h2 e1 e2=>?_⟩,hst⟩
 ·rcases hget b' k' hb' with⟨rfl,rfl⟩ | ⟨hne,hb2⟩
  ·unfold BlkRel
   rw[hι]
   refine⟨arr',.inl ⟨hty,s2⟩,⟨fun _=>s3.trans a2,fun h=>absurd hty h⟩,?_,fun i x hi=>?_⟩
   ·simp only[setEls,dEls_len,i64s_len,hsz] at a3 ⊢
    omega
   ·simp only[setEls] at hi ⊢
    rw[hsz]
    simp only[dEls,i64s,List.map_map,List.getElem?_map,Option.map_eq_some_iff] at hi
    obtain⟨v,hv,rfl⟩:=hi
    refine⟨rfl,fun j av hj=>?_⟩
    cases j with
    | succ j=>simp at hj
    | zero =>
      simp at hj
      subst hj
      refine⟨.int .i64 v,by simpa using s4 i v hv,⟨by simp[Shp],by simp[Mem,Rd,Value.oneCell']⟩,rfl⟩
  ·have hb:=hR.blk b' k' hb2
   refine hb.step rfl (fun c' n' hc'=>?_) fun c u hv=>Val.step hst hv
   have hcc:c'≠c:=fun h=>hne (hR.inj b' b k' k c n' n hb2 hAb (h ▸ hc') hι)
   exact s6 c' (hR.hid b' k' c' n' hb2 hc').2 hcc
 ·obtain⟨k2,h2⟩:=hblk b' k' hb'
  have:=hR.hid b' k2 c' n' h2 hc'
  exact⟨this.1,Nat.lt_of_lt_of_le this.2 s5⟩
 ·obtain⟨k3,h3⟩:=hblk b1 k1 h1
  obtain⟨k4,h4⟩:=hblk b2 k2 h2
  exact hR.inj b1 b2 k3 k4 c1 n1 n2 h3 h4 e1 e2
theorem ints_in {b ver ty c n:Nat} {L:List Int} (hR:Rel H ι A w) (hAb:A[b]? = some ⟨ver,true,ty,1,dEls (i64s L)⟩) (hty:ty < 1000000) (hι:ι b=some (c,n)) :
 ∃ arr,w.heap[c]? = some (.cells arr ty (0,0))∧arr.size=n∧L.length≤n∧c < w.heap.size∧∀ (i:Nat) (v:Int),L[i]? = some v→arr[i]? = some (.int .i64 v):=by
 have hb:=hR.blk b _ hAb
 unfold BlkRel at hb
 rw[hι] at hb
 obtain⟨arr,a1,a2,a3,a4⟩:=hb
 have a1:=a1.cells hty
 have a2:=a2.1 hty
 refine⟨arr,a1,a2,by rw[← a2]; simpa using a3,(hR.hid b _ c n hAb hι).2,fun i v hv=>?_⟩
 obtain⟨_,h⟩:=a4 i [.d (.v (.int .i64 v))] (by simp[dEls,i64s,hv])
 obtain⟨u,g1,g2,_⟩:=h 0 _ rfl
 have:=g2.1
 simp only[Shp] at this
 subst this
 simpa using g1
theorem holds_in {c ty:Nat} {arr:Array Value} {L:List Int} (a1:w.heap[c]? = some (.cells arr ty (0,0))) (h:∀ (i:Nat) (v:Int),L[i]? = some v→arr[i]? = some (.int .i64 v)):Go.Sort.Holds (Value.int .i64) w c 0 L.toArray:=by
 intro j hj
 have hj':j < L.length:=by simpa using hj
 refine⟨?_,frozen_in a1 _⟩
 rw[cell_in a1,Nat.zero_add,h j _ (gEG hj')]
 congr 2
 simp[getElem!_pos,hj']
theorem put_at {c ty:Nat} {arr:Array Value} {L:List Int} {q:Nat} {os:Array Obj} (hc:c < w.heap.size) (a1:w.heap[c]? = some (.cells arr ty (0,0))) (hl:L.length≤arr.size) :
 ∃ arr', (Go.Sort.grow (Go.Sort.putRow (Value.int .i64) (Go.Sort.ahead w q) c 0 L.toArray) os).heap[c]? = some (.cells arr' ty (0, 0)) ∧ arr'.size = arr.size ∧ (∀ (i : Nat) (v : Int), L[i]? = some v → arr'[i]? = some (.int .i64 v)) ∧
   w.heap.size≤(Go.Sort.grow (Go.Sort.putRow (Value.int .i64) (Go.Sort.ahead w q) c 0 L.toArray) os).heap.size∧(∀ b,b < w.heap.size→b≠c→SameB w (Go.Sort.grow (Go.Sort.putRow (Value.int .i64) (Go.Sort.ahead w q) c 0 L.toArray) os) b):=by
 refine⟨Go.Sort.putCells (Value.int .i64) 0 L.toArray arr,?_,by simp[Go.Sort.putCells],fun i v hv=>?_,?_,fun b hb hne=>?_⟩
 ·rw[Go.Sort.heap_grow_old _ _ (by simpa [Go.Sort.putRow,Go.Sort.mapBlock,Go.Sort.ahead] using hc)]
  simp only[Go.Sort.putRow,Go.Sort.mapBlock,Go.Sort.ahead,Array.getElem?_modify,if_true,a1]
  rfl
 ·have hi:=(gSI.1 hv).1
  simp only[Go.Sort.putCells,Array.getElem?_mapIdx,Array.getElem?_eq_getElem (show i < arr.size by omega),Option.map_some]
  rw[if_pos ⟨Nat.zero_le _,by simpa using hi⟩]
  simp[getElem!_pos,hi,(gSI.1 hv).2]
 ·simp[Go.Sort.putRow,Go.Sort.mapBlock,Go.Sort.ahead]
 ·unfold SameB
  rw[Go.Sort.heap_grow_old _ _ (by simpa [Go.Sort.putRow,Go.Sort.mapBlock,Go.Sort.ahead] using hb)]
  simp only[Go.Sort.putRow,Go.Sort.mapBlock,Go.Sort.ahead,Array.getElem?_modify]
  rw[if_neg (fun h=>hne h.symm)]
end
def srt (L:List Int):List Int:=L.mergeSort fun x y=>decide (x≤y)
theorem srt_len (L:List Int):(srt L).length=L.length:=by simp[srt]
theorem sort_ac (L:List Int) (A:AHeap) (b ver ty:Nat) (hA:A[b]? = some ⟨ver,true,ty,1,dEls (i64s L)⟩) (hL:L.length≤1000000000) (hty:ty < 1000000:=by decide) :
 AC Tryz.prog 71 [.own b ver 0 L.length] A (fun r A'=>r = .tup []∧A'=A.set b ⟨ver,true,ty,1,dEls (i64s (srt L))⟩):=by
 intro H ι w vs hH hR hs hm
 simp only[ShpL] at hs
 obtain⟨u,l,rfl,s1,rfl⟩:=hs
 simp only[Shp] at s1
 obtain⟨_,k,hk,_,hu⟩:=s1
 rw[hA] at hk
 obtain rfl:=oSI hk
 have hu:=hu rfl
 by_cases h0:L=[]
 ·subst h0
  have hself:A.set b ⟨ver,true,ty,1,dEls (i64s (srt []))⟩=A:=by
   have:srt []=[]:=List.length_eq_zero_iff.1 (by simp[srt_len])
   rw[this]
   exact set_same hA
  have hex:∃ p cap,u = .slice p 0 cap:=by
   rcases hu with⟨_,_,rfl⟩ | ⟨c,n,cap,_,rfl,_⟩
   ·exact⟨_,_,rfl⟩
   ·exact⟨_,_,rfl⟩
  obtain⟨p,cap,rfl⟩:=hex
  refine (Sh_slices_Sort_int_none p cap w).mono ?_
  rintro en w' ⟨rfl,rfl⟩
  exact⟨_,_,ι,A,rfl,⟨rfl,hself.symm⟩,hR,Step.refl _ _ _,⟨by simp only[Shp]; exact⟨[],rfl,by simp[ShpL]⟩,by simp only[Mem]; exact⟨[],rfl,by simp[MemL]⟩⟩⟩
 ·have hpos:0 < L.length:=List.length_pos_iff.2 h0
  rcases hu with⟨h,_⟩ | ⟨c,n,cap,hι,rfl,_⟩
  ·omega
  obtain⟨arr,a1,a2,a3,a4,a5⟩:=ints_in hR hA hty hι
  rw[Nat.zero_mul]
  refine (Sh_slices_Sort_int c 0 cap L w (holds_in a1 a5) a4 (by omega)).mono ?_
  rintro en w' ⟨rfl,q,os,rfl⟩
  obtain⟨arr',s2,s3,s4,s5,s6⟩:=put_at (q:=q) (os:=os) (L:=srt L) a4 a1 (by rw[srt_len]; omega)
  obtain⟨r1,r2⟩:=ints_put (L:=srt L) hR hA rfl hι rfl hty (by simp[srt_len]) a1 a2 (by simpa using a3) s2 s3 s4 s5 s6 rfl rfl rfl
  exact⟨_,_,ι,_,rfl,⟨rfl,rfl⟩,r1,r2,⟨by simp only[Shp]; exact⟨[],rfl,by simp[ShpL]⟩,by simp only[Mem]; exact⟨[],rfl,by simp[MemL]⟩⟩⟩
theorem compact_ac (L M:List Int) (A:AHeap) (b ver ty:Nat) (hA:A[b]? = some ⟨ver,true,ty,1,dEls (i64s L)⟩) (hL:L.length≤1000000000) (hM:Lib.compact L=M) (hml:M.length≤L.length) (hty:ty < 1000000:=by decide) :
 AC Tryz.prog 72 [.own b ver 0 L.length] A (fun r A'=>r = .own b ver 0 M.length∧A'=A.set b ⟨ver,true,ty,1,dEls (i64s (M++List.replicate (L.length - M.length) 0))⟩):=by
 intro H ι w vs hH hR hs hm
 simp only[ShpL] at hs
 obtain⟨u,l,rfl,s1,rfl⟩:=hs
 have s0:=s1
 simp only[Shp] at s1
 obtain⟨_,k,hk,_,hu⟩:=s1
 rw[hA] at hk
 obtain rfl:=oSI hk
 have hu:=hu rfl
 by_cases h0:L=[]
 ·subst h0
  have hM0:M=[]:=List.length_eq_zero_iff.1 (by simpa using hml)
  subst hM0
  have hself:A.set b ⟨ver,true,ty,1,dEls (i64s ([]++List.replicate (([]:List Int).length - ([]:List Int).length) 0))⟩=A:=set_same hA
  have hex:∃ p cap,u = .slice p 0 cap:=by
   rcases hu with⟨_,_,rfl⟩ | ⟨c,n,cap,_,rfl,_⟩
   ·exact⟨_,_,rfl⟩
   ·exact⟨_,_,rfl⟩
  obtain⟨p,cap,rfl⟩:=hex
  refine (Sh_slices_Compact_int_empty p cap w).mono ?_
  rintro en w' ⟨rfl,rfl⟩
  exact⟨_,_,ι,A,rfl,⟨rfl,hself.symm⟩,hR,Step.refl _ _ _,⟨s0,by simp[Mem]⟩⟩
 ·have hpos:0 < L.length:=List.length_pos_iff.2 h0
  rcases hu with⟨h,_⟩ | ⟨c,n,cap,hι,rfl,hc1,hc2,hc3⟩
  ·omega
  obtain⟨arr,a1,a2,a3,a4,a5⟩:=ints_in hR hA hty hι
  rw[Nat.zero_mul]
  refine (Sh_slices_Compact_int c 0 cap L w (holds_in a1 a5) (by omega) hc1).mono ?_
  rintro en w' ⟨rfl,q,rfl⟩
  rw[hM]
  have hT:(M++List.replicate (L.length - M.length) 0).length=L.length:=by simp; omega
  obtain⟨arr',s2,s3,s4,s5,s6⟩:=put_at (q:=q) (os:=#[]) (L:=M++List.replicate (L.length - M.length) 0) a4 a1 (by rw[hT]; omega)
  rw[Go.Sort.grow_empty] at s2 s5 s6
  obtain⟨r1,r2⟩:=ints_put (L:=M++List.replicate (L.length - M.length) 0) hR hA rfl hι rfl hty (by rw[hT]; simp) a1 a2 (by simpa using a3) s2 s3 s4 s5 s6 rfl rfl rfl
  refine⟨_,_,ι,_,rfl,⟨rfl,rfl⟩,r1,r2,⟨?_,by simp[Mem]⟩⟩
  simp only[Shp]
  refine⟨⟨_,_,_,rfl⟩,_,gSS (gSI.1 hA).1,Nat.le_refl _,fun _=>.inr ⟨c,n,cap,hι,?_,by omega,hc2,hc3⟩⟩
  simp[setEls]
theorem compact_sorted {d:Array Int} (hs:∀ (i j:Nat),i < j→j < d.size→d[i]! ≤ d[j]!):∀ m,m≤d.size→Asc (Lib.compactUpTo d m)∧(∀ v,v∈Lib.compactUpTo d m↔∃ j,j < m∧d[j]! = v)∧(Lib.compactUpTo d m).length≤m
 | 0,_=>by simp[Lib.compactUpTo,Asc]
 | m + 1, hm => by
   obtain⟨h1,h2,h3⟩:=compact_sorted hs m (by omega)
   rw[Lib.compactUpTo_succ]
   cases hk:Lib.keeps d m
   ·have hm0:m≠0:=fun h=>by subst h; simp[Lib.keeps] at hk
    have he:d[m]! = d[m - 1]! := by
     by_cases h:d[m]! = d[m - 1]!
     ·exact h
     ·rw[Lib.keeps_pos h] at hk
      cases hk
    rw[if_neg (by simp),List.append_nil]
    refine⟨h1,fun v=>?_,by omega⟩
    rw[h2]
    constructor
    ·rintro⟨j,hj,e⟩
     exact⟨j,by omega,e⟩
    ·rintro⟨j,hj,e⟩
     by_cases hjm:j < m
     ·exact⟨j,hjm,e⟩
     ·obtain rfl:j=m:=by omega
      exact⟨j - 1,by omega,by rw[← he]; exact e⟩
   ·rw[if_pos rfl]
    refine⟨List.pairwise_append.2 ⟨h1,by simp,fun a ha b hb=>?_⟩,fun v=>?_,by simp; omega⟩
    ·simp at hb
     subst hb
     obtain⟨j,hj,rfl⟩:=(h2 a).1 ha
     have hle:=hs (m - 1) m (by omega) (by omega)
     have hne:d[m]! ≠ d[m - 1]! := fun h=>by
      rw[Lib.keeps_neg (by omega) h] at hk
      cases hk
     have hj2:d[j]! ≤ d[m - 1]! := by
      rcases Nat.lt_or_ge j (m - 1) with h | h
      ·exact hs j (m - 1) h (by omega)
      ·obtain rfl:j=m - 1:=by omega
       exact Int.le_refl _
     omega
    ·rw[List.mem_append,h2]
     constructor
     ·rintro (⟨j,hj,e⟩ | h)
      ·exact⟨j,by omega,e⟩
      ·simp at h
       exact⟨m,by omega,h.symm⟩
     ·rintro⟨j,hj,e⟩
      by_cases hjm:j < m
      ·exact .inl ⟨j,hjm,e⟩
      ·obtain rfl:j=m:=by omega
       exact .inr (by simp[e])
theorem vars_compact (x:Ex):Lib.compact (srt (occ x))=varsR x∧(varsR x).length≤(occ x).length:=by
 have hp:(srt (occ x)).Pairwise fun a b=>(decide (a≤b))=true:=List.pairwise_mergeSort (fun a b c h1 h2=>by simp at *; omega) (fun a b=>by simp; omega) _
 have hmem:∀ v,v∈srt (occ x)↔v∈occ x:=fun v=>by simp[srt]
 have hlen:=srt_len (occ x)
 obtain⟨S,hS⟩:∃ S,srt (occ x)=S:=⟨_,rfl⟩
 rw[hS] at hp hmem hlen ⊢
 have hs:∀ (i j:Nat),i < j→j < S.toArray.size→S.toArray[i]! ≤ S.toArray[j]! := fun i j hij hj=>by
  have hj':j < S.length:=by simpa using hj
  have:=List.pairwise_iff_getElem.1 hp i j (by omega) hj' hij
  simpa [getElem!_pos,hj',show i < S.length by omega] using this
 obtain⟨h1,h2,h3⟩:=compact_sorted hs S.length (by simp)
 have he:Lib.compact S=varsR x:=by
  refine asc_ext h1 (varsR_asc x) fun v=>?_
  rw[varsR_mem,← hmem]
  show v∈Lib.compactUpTo S.toArray S.length↔_
  rw[h2,List.mem_iff_getElem]
  constructor
  ·rintro⟨j,hj,e⟩
   exact⟨j,hj,by simpa [getElem!_pos,hj] using e⟩
  ·rintro⟨j,hj,e⟩
   exact⟨j,hj,by simpa [getElem!_pos,hj] using e⟩
 refine⟨he,?_⟩
 rw[← he,← hlen]
 exact h3
theorem occ_len:∀ e:Ex,(occ e).length≤e.nodes:=by
 intro e
 induction e using Ex.ind with
 | h e ih=>
 have hl:∀ l:List Ex,(∀ x∈l,(occ x).length≤x.nodes)→(occ.occs l).length≤Ex.nodess l:=by
  intro l
  induction l with
  | nil=>intro _; simp[occ.occs]
  | cons a l ihl =>
    intro h
    have h1:=h a (by simp)
    have h2:=ihl fun x hx=>h x (by simp[hx])
    simp only[occ.occs,Ex.nodess,List.length_append]
    omega
 have:=hl e.l ih
 have hne:e.nodes=Ex.nodess e.l + 1:=by cases e; rfl
 have h1:(if e.op=2 then [e.v] else []).length≤1:=by split<;>simp
 rw[occ_eq,hne,List.length_append]
 omega
theorem occs_take {l:List Ex} {i:Nat} {x:Ex} (h:l[i]? = some x):occ.occs (l.take (i + 1))=occ.occs (l.take i)++occ x:=by
 induction l generalizing i with
 | nil=>simp at h
 | cons a l ih =>
   cases i with
   | zero=>simp at h; subst h; simp[occ.occs]
   | succ i=>simp only[List.take_succ_cons,occ.occs,ih (by simpa using h),List.append_assoc]
abbrev cellL (n:Nat):Blk:=⟨0,true,48,1,[[.own 2 n 0 n]]⟩
abbrev blkL (L:List Int):Blk:=⟨L.length,true,3,1,dEls (i64s L)⟩
theorem vars1_ac (x:Ex) (b0:Blk) (L:List Int) (N:AHeap) (hl:L.length≤1000000) :
 AC Tryz.prog 121 [exA x,.ptr 1 0 0 0] (b0::cellL L.length::blkL L::N) (fun r A'=>r = .tup []∧∃ N',A'=b0::cellL (L++(if x.op=2 then [x.v] else [])).length::blkL (L++(if x.op=2 then [x.v] else []))::(N++N')):=by
 refine ac_of Tryz.func121 rfl (by kernel_rfl) (by simp[Tryz.ntmps121]) fun hb=>?_
 by_cases h:x.op=2
 ·rw[if_pos h]
  simp[Tryz.f121,h]
  refine aRaw_app byt_48 ?_
  simp[dEls_i64]
  unfold maxLen
  omega
 ·rw[if_neg h]
  simp[Tryz.f121,h]
theorem visitV_ac:∀ (x:Ex) (b0:Blk) (L:List Int) (N:AHeap),L.length + x.nodes≤1000000 →
 AC Tryz.prog 115 [exA x,.fn 121 [] [.ptr 1 0 0 0]] (b0::cellL L.length::blkL L::N) (fun r A'=>r = .tup []∧∃ N',A'=b0::cellL (L++occ x).length::blkL (L++occ x)::(N++N')):=by
 intro x
 induction x using Ex.ind with
 | h x ih =>
   intro b0 L N hn
   have hlen:=x.nodes_len
   have n1:x.l.length≤maxLen:=by unfold maxLen; omega
   have hne:x.nodes=Ex.nodess x.l + 1:=by cases x; rfl
   rw[occ_eq,← List.append_assoc]
   have c2:=fun N=>vars1_ac x b0 L N (by omega)
   have hm:(L++(if x.op=2 then [x.v] else [])).length≤L.length + 1:=by split<;>simp
   generalize L++(if x.op=2 then [x.v] else [])=M at *
   refine ac_of Tryz.func115 rfl (by kernel_rfl) (by simp[Tryz.ntmps115]) fun hb=>?_
   simp[Tryz.f115]
   refine aCall_ofc (c2 _) (by simp) ?_
   rintro _ _ ⟨rfl,N1,rfl⟩
   simp
   refine aLoop_of (α:=Nat) (fun i e A=>i≤x.l.length∧(∃ N',A=b0::cellL (M++occ.occs (x.l.take i)).length::blkL (M++occ.occs (x.l.take i))::(N++N')) ∧
    e 12=aI .i64 i∧e 11=aI .i64 x.l.length∧e 10 = .d (.sl 5 (Ex.ds x.l))∧e 1 = .fn 121 [] [.ptr 1 0 0 0]) (fun i=>x.l.length - i) 0 (Sub.refl _ _ _)
    ⟨by omega,⟨_,by simp[occ.occs]; rfl⟩,by simp,by simp,by simp,by simp⟩ ?_
   rintro i e A ⟨hi,⟨N',rfl⟩,e12,e11,e10,e1⟩ K hK
   rcases Nat.lt_or_ge i x.l.length with hlt | hge
   case inr=>
    obtain rfl:i=x.l.length:=by omega
    rw[List.take_length]
    simp[e12,e11]
   obtain⟨y,hy⟩:∃ y,x.l[i]? = some y:=⟨_,gEG hlt⟩
   have hy2:=(gSI.1 hy).2
   have ht:=occs_take hy
   have hle:=nodess_take_le x.l (i + 1)
   have hte:=nodess_take hy
   have hol:(occ.occs (x.l.take i)).length≤Ex.nodess (x.l.take i):=by
    have:∀ l:List Ex,(occ.occs l).length≤Ex.nodess l:=by
     intro l
     induction l with
     | nil=>simp[occ.occs]
     | cons a l ihl =>
       have h1:=occ_len a
       simp only[occ.occs,Ex.nodess,List.length_append]
       omega
    exact this _
   have hQ:(M++occ.occs (x.l.take i)).length + y.nodes≤1000000:=by
    rw[List.length_append]
    omega
   have hq3:M++(occ.occs (x.l.take i)++occ y)=M++occ.occs (x.l.take i)++occ y:=(List.append_assoc ..).symm
   generalize hq:M++occ.occs (x.l.take i)=Q at *
   simp[e12,e11,e10,e1,hlt,hy,hy2,Ex.d_eq]
   refine aCall_ofc (ih y (gMO hy) b0 Q _ hQ) (by simp) ?_
   rintro _ _ ⟨rfl,N2,rfl⟩
   simp[e12,succ_wrap hlt n1]
   refine hK (i + 1) _ _ _ _ (Sub.refl _ _ _) ⟨by omega,⟨N'++bxE y::N2,by rw[ht,hq3]; simp⟩,by simp,by simp[e11],by simp[e10],by simp[e1]⟩ (by omega)
theorem ilvars_af (x:Ex) (hn:x.nodes≤1000000):AF Tryz.prog 49 [exA x] (.d (.sl 1 (i64s (varsR x)))):=by
 obtain⟨c1,c2⟩:=vars_compact x
 have c3:=occ_len x
 have c4:=srt_len (occ x)
 refine af_of Tryz.func49 rfl (by kernel_rfl) (by simp[Tryz.ntmps49]) fun _=>?_; simp[Tryz.f49,Ex.d_eq]
 have hv:=visitV_ac x (bxE x) [] [] (by simpa using hn)
 refine aCall_ofc (AC.pre (Sub.trans (Sub.ghost 0 3 1) (Sub.cell (b:=1) (i:=0) (o:=0) (c':=.own 2 0 0 0) rfl rfl rfl (VLe.nil_own (k:=⟨0,true,3,1,[]⟩) rfl rfl))) (args':=[exA x,.fn 121 [] [.ptr 1 0 0 0]]) ?_ hv) (by simp) ?_
 ·rfl
 ·rintro _ _ ⟨rfl,N',rfl⟩
  simp
  refine aCall_ofc (sort_ac (occ x) _ 2 (occ x).length 3 rfl (by omega)) (by simp) ?_
  rintro _ _ ⟨rfl,rfl⟩
  have k2:=fun A hA=>compact_ac (srt (occ x)) (varsR x) A 2 (occ x).length 3 hA (by omega) c1 (by omega)
  rw[c4] at k2
  simp
  refine aCall_ofc (k2 _ rfl) (by simp) ?_
  rintro _ _ ⟨rfl,rfl⟩
  simp
theorem indexin_af (l:List Int) (v:Int) (hl:l.length≤maxLen):AF Tryz.prog 141 [.d (.sl 1 (i64s l)),aI .i64 v] (aI .i64 (match l.findIdx? (fun a=>decide (a=v)) with | some i=>(i:Int) | none=>-1)):=by
 obtain⟨R,hR⟩:∃ R:Int,(match l.findIdx? (fun a=>decide (a=v)) with | some i=>(i:Int) | none=>-1)=R:=⟨_,rfl⟩
 rw[hR]
 refine af_of Tryz.func141 rfl (by kernel_rfl) (by simp[Tryz.ntmps141]) fun _=>?_; simp[Tryz.f141,Ex.d_eq]
 refine aLoop_st (fun i:Nat=>[(0,.d (.sl 1 (i64s l))),(1,aI .i64 v),(7,aI .i64 l.length),(8,aI .i64 i)]) (fun _=>[]) (fun i=>i≤l.length∧∀ j a,j < i→l[j]? = some a→a≠v) (fun i=>l.length - i) 0 (Sub.refl _ _ _) 0 (by omega) (by simp) (by simp) ⟨by omega,by intro j a hj; omega⟩ ?_
 rintro i ⟨hi,hall⟩ K hK
 rcases Nat.lt_or_ge i l.length with hlt | hge
 case inr=>
  obtain rfl:i=l.length:=by omega
  have:l.findIdx? (fun a=>decide (a=v))=none:=by
   rw[List.findIdx?_eq_none_iff]
   intro x hx
   obtain⟨j,hj⟩:=List.getElem?_of_mem hx
   simpa using hall j x (gSI.1 hj).1 hj
  rw[this] at hR
  simp only at hR
  subst hR
  simp
 obtain⟨a,ha⟩:∃ a,l[i]? = some a:=⟨_,gEG hlt⟩
 have ha2:=(gSI.1 ha).2
 by_cases hav:a=v
 ·have:l.findIdx? (fun a=>decide (a=v))=some i:=by
   rw[List.findIdx?_eq_some_iff_getElem]
   refine⟨hlt,by simp[ha2,hav],fun j hj=>?_⟩
   have:=hall j l[j] hj (gEG (by omega))
   simpa using this
  rw[this] at hR
  simp only at hR
  subst hR
  subst hav
  simp[hlt,ha,ha2]
 ·simp[hlt,ha,ha2,show ¬ v=a from fun h=>hav h.symm,succ_wrap hlt hl]
  refine hK (i + 1) ⟨by omega,fun j b hj hb=>?_⟩ (by omega) (Sub.refl _ _ _) 0 (by omega) (by simp) (by simp)
  rcases Nat.lt_or_ge j i with h | h
  ·exact hall j b h hb
  ·obtain rfl:j=i:=by omega
   rw[ha] at hb
   obtain rfl:=oSI hb
   exact hav
theorem containsin_af (l:List Int) (v:Int) (hl:l.length≤maxLen):AF Tryz.prog 70 [.d (.sl 1 (i64s l)),aI .i64 v] (aB (decide (v∈l))):=by
 refine af_of Tryz.func70 rfl (by kernel_rfl) (by simp[Tryz.ntmps70]) fun _=>?_; simp[Tryz.f70,Ex.d_eq]
 refine aCall_of (indexin_af l v hl) (by simp) (by simp[Ex.d_eq]) ?_; simp[Ex.d_eq]
 cases h:l.findIdx? (fun a=>decide (a=v)) with
 | none =>
   rw[List.findIdx?_eq_none_iff] at h
   have:¬ v∈l:=fun hv=>by have:=h v hv; simp at this
   simp[this]
 | some i =>
   rw[List.findIdx?_eq_some_iff_getElem] at h
   obtain⟨hi,hp,_⟩:=h
   have:v∈l:=by
    have h2:l[i]=v:=by simpa using hp
    rw[← h2]
    exact List.getElem_mem hi
   simp[this]
def lcW:List Ex→Nat
 | [a,b]=>if a.op=1∧b.op≠1 then 1 else 0
 | _=>0
def sw:Ex→Nat
 | .mk o _ _ _ l=>4 + (if o=4∨o=16 then 1 else 0) + lcW l + sws l
where sws:List Ex→Nat
 | []=>0
 | e::l=>sw e + sws l
theorem dec_lt {u:Nat} (h:u < 10):Lib.decDigits u=[UInt8.ofNat (48 + u)]:=by rw[Lib.decDigits,dif_pos h]
theorem dec_ge {u:Nat} (h:¬ u < 10):Lib.decDigits u=Lib.decDigits (u / 10)++[UInt8.ofNat (48 + u % 10)]:=by rw[Lib.decDigits,dif_neg h]
def xInt (n:Int):List UInt8:=Lib.itoa n
def flagC (v:Int):UInt8:=if v=8 then 122 else if v=9 then 110 else if v=10 then 99 else 118
def xVar (v:Int):List UInt8:=if v < 8 then 114::xInt v else if v < 12 then [102,flagC v] else 116::xInt v
theorem xInt_nat {n:Int} (h:0≤n):xInt n=Lib.decDigits n.toNat:=by
 unfold xInt Lib.itoa
 rw[if_neg (by omega)]
theorem dec_len (u:Nat) (h:u < 18446744073709551616):(Lib.decDigits u).length≤20:=by
 have:∀ k u:Nat,u < 10 ^ (k + 1)→(Lib.decDigits u).length≤k + 1:=by
  intro k
  induction k with
  | zero=>intro u hu; rw[dec_lt (by simpa using hu)]; simp
  | succ k ih =>
    intro u hu
    by_cases h:u < 10
    ·rw[dec_lt h]; simp
    ·rw[dec_ge h]
     have:=ih (u / 10) (by rw[Nat.div_lt_iff_lt_mul (by omega)]; rw[Nat.pow_succ] at hu; exact hu)
     simp
     omega
 exact this 19 u (by omega)
abbrev bs (l:List UInt8):ByteArray:=⟨l.toArray⟩
theorem tab_pow {w : World} (h : GbIs w) : Lib.TabIs Tryz.prog w "internal/strconv.uint64pow10" .u64 Lib.pow10Tab := by
 obtain⟨t,f,he⟩:=(h.1 (2,Lib.pow10Tab.map fun z=>Value.int .u64 z) (by simp[GB])).2.2
 have hg : Tryz.prog.globalNamed "internal/strconv.uint64pow10" = some 2 := by kernel_rfl
 unfold Lib.TabIs World.var?
 rw[hg]
 simp only[Option.bind_some,he]
theorem ext_grow (w:World) (k:Nat) (os:Array Obj):Ext w (Go.Sort.grow (w.drewN k) os):=by
 refine⟨rfl,rfl,rfl,?_,fun i hi=>?_⟩
 ·show w.heap.size≤(w.heap++os).size
  simp
 ·show (w.heap++os)[i]? = w.heap[i]?
  exact Array.getElem?_append_left hi
theorem itoaW_af (n:Int) (h : -9223372036854775808≤n∧n≤9223372036854775807):AF Tryz.prog 46 [aI .i64 n] (aS (bs (xInt n))):=by
 show AF Tryz.prog 46 [aI .i64 n] (aS ⟨(Lib.itoa n).toArray⟩)
 intro H w vs hH hs hm
 simp only[ShpL] at hs
 obtain⟨u1,l1,rfl,s1,rfl⟩:=hs
 simp only[Shp] at s1
 subst s1
 refine (Sh_strconv_Itoa n h.1 h.2 w (tab_pow hH.2.1)).mono ?_
 rintro en w' ⟨rfl,k,os,rfl⟩
 exact⟨_,rfl,⟨by simp[Shp],by simp[Mem,Rd,Value.oneCell']⟩,ext_grow w k os⟩
def seeS (n:Int) (s:St):Int:=seeE.seeEs (if s.op=1∨s.op=3 then seeI n s.va else n) s.e
def seeB (n:Int) (b:Bl):Int:=b.s.foldl seeS n
def seeG (g:Gr):Int:=g.b.foldl seeB 12
theorem seeS_range (s:St) (n:Int) (h0:0≤n) (h1:n≤65536):0≤seeS n s∧seeS n s≤65536:=by
 unfold seeS
 have:=seeI_range (v:=s.va) h0 h1
 split
 ·exact seeEs_range _ _ this.1 this.2
 ·exact seeEs_range _ _ h0 h1
theorem foldl_range {α:Type} {f:Int→α→Int} (hf:∀ (a:α) (n:Int),0≤n→n≤65536→0≤f n a∧f n a≤65536):∀ (l:List α) (n:Int),0≤n→n≤65536→0≤l.foldl f n∧l.foldl f n≤65536
 | [],n,h0,h1=>⟨h0,h1⟩
 | a :: l, n, h0, h1 => by
   have:=hf a n h0 h1
   exact foldl_range hf l _ this.1 this.2
theorem foldl_takeM {α:Type} {f:Int→α→Int} {l:List α} {i:Nat} {x:α} (h:l[i]? = some x) (n:Int):(l.take (i + 1)).foldl f n=f ((l.take i).foldl f n) x:=by
 rw[List.take_add_one,h]
 simp
theorem ilfresh_af (g:Gr) (hg:GrFit g) (hn:∀ b∈g.b,∀ s∈b.s,∀ e∈s.e,e.nodes≤1000000000):AF Tryz.prog 45 [grV g] (aI .i64 (seeG g)):=by
 have hg1:=hg.1
 have hl:g.b.length≤maxLen:=by unfold maxLen; omega
 refine af_of Tryz.func45 rfl (by kernel_rfl) (by simp[Tryz.ntmps45]) fun _=>?_; simp[Tryz.f45,Ex.d_eq]
 refine aLoop_st (fun i:Nat=>[(3,.ptr 1 0 0 0),(4,.ptr 2 0 0 0),(13,.d (.sl 2 (bls' g.b))),(14,aI .i64 g.b.length),(15,aI .i64 i)])
  (fun i=>[gB g,cellI ((g.b.take i).foldl seeB 12),cellF])
  (fun i=>i≤g.b.length) (fun i=>g.b.length - i) 0 (Sub.refl _ _ _) 3 (by omega) (by simp) (by simp) (by omega) ?_
 rintro i hi K hK
 rcases Nat.lt_or_ge i g.b.length with hlt | hge
 case inr=>
  obtain rfl:i=g.b.length:=by omega
  rw[List.take_length]
  simp[seeG]
 obtain⟨b,hb⟩:∃ b,g.b[i]? = some b:=⟨_,gEG hlt⟩
 have hb2:=(gSI.1 hb).2
 obtain⟨f1,f2⟩:=hg.2 b (gMO hb)
 have hbl:b.s.length≤maxLen:=by unfold maxLen; omega
 have htb:=foldl_takeM (f:=seeB) hb 12
 have hrb:=foldl_range (f:=seeB) (fun b n h0 h1=>foldl_range seeS_range b.s n h0 h1) (g.b.take i) 12 (by omega) (by omega)
 generalize (g.b.take i).foldl seeB 12=m1 at *
 simp[hlt,hb,hb2,Bl.d_eq]
 refine aLoop_st (fun k:Nat=>[(3,.ptr 1 0 0 0),(4,.ptr 2 0 0 0),(13,.d (.sl 2 (bls' g.b))),(14,aI .i64 g.b.length),(15,aI .i64 i),(20,.d (.sl 8 (sts b.s))),(21,aI .i64 b.s.length),(22,aI .i64 k)])
  (fun k=>[gB g,cellI ((b.s.take k).foldl seeS m1),cellF])
  (fun k=>k≤b.s.length) (fun k=>b.s.length - k) 0 (Sub.refl _ _ _) 3 (by omega) (by simp) (by simp) (by omega) ?_
 rintro k hk K2 hK2
 rcases Nat.lt_or_ge k b.s.length with hlt2 | hge2
 case inr=>
  obtain rfl:k=b.s.length:=by omega
  rw[List.take_length]
  simp[succ_wrap hlt hl]
  refine hK (i + 1) (by omega) (by omega) (Sub.refl _ _ _) 3 (by omega) ?_ (by simp)
  rw[htb]
  simp[seeB]
 obtain⟨s,hs⟩:∃ s,b.s[k]? = some s:=⟨_,gEG hlt2⟩
 have hs2:=(gSI.1 hs).2
 have f3:=f2 s (gMO hs)
 have hel:s.e.length≤maxLen:=by unfold maxLen; omega
 have hts:=foldl_takeM (f:=seeS) hs m1
 have hrs:=foldl_range seeS_range (b.s.take k) m1 hrb.1 hrb.2
 generalize (b.s.take k).foldl seeS m1=m2 at *
 have hne:seeS m2 s=seeE.seeEs (if s.op=1∨s.op=3 then seeI m2 s.va else m2) s.e:=rfl
 have hr:0≤(if s.op=1∨s.op=3 then seeI m2 s.va else m2)∧(if s.op=1∨s.op=3 then seeI m2 s.va else m2)≤65536:=by
  split
  ·exact seeI_range hrs.1 hrs.2
  ·omega
 have c1:=fun N=>fresh1_ac (gB g) cellF s.va m2 N hrs.1 hrs.2
 have hw:s.op=1∨s.op≠1∧s.op=3∨s.op≠1∧s.op≠3:=by omega
 have hm3:(s.op=1∨s.op=3→(if s.op=1∨s.op=3 then seeI m2 s.va else m2)=seeI m2 s.va)∧(¬ (s.op=1∨s.op=3)→(if s.op=1∨s.op=3 then seeI m2 s.va else m2)=m2):=⟨fun h=>if_pos h,fun h=>if_neg h⟩
 generalize (if s.op=1∨s.op=3 then seeI m2 s.va else m2)=m3 at *
 rcases hw with w1 | ⟨w1,w3⟩ | ⟨w1,w3⟩
 ·simp[hlt2,hs,hs2,St.d_eq,w1]
  refine aCall_ofc (c1 _) (by simp) ?_
  rintro _ _ ⟨rfl,N1,rfl⟩
  simp
  have hv:=hm3.1 (.inl w1)
  refine aLoop_st (fun q:Nat=>[(3,.ptr 1 0 0 0),(4,.ptr 2 0 0 0),(13,.d (.sl 2 (bls' g.b))),(14,aI .i64 g.b.length),(15,aI .i64 i),(20,.d (.sl 8 (sts b.s))),(21,aI .i64 b.s.length),(22,aI .i64 k),(39,.d (.sl 5 (Ex.ds s.e))),(40,aI .i64 s.e.length),(41,aI .i64 q)])
   (fun q=>[gB g,cellI (seeE.seeEs m3 (s.e.take q)),cellF])
   (fun q=>q≤s.e.length) (fun q=>s.e.length - q) 0 (Sub.refl _ _ _) 3 (by omega) (by simp[seeE.seeEs]; try rw[hv]) (by simp) (by omega) ?_
  rintro q hq K3 hK3
  rcases Nat.lt_or_ge q s.e.length with hlt3 | hge3
  case inr=>
   obtain rfl:q=s.e.length:=by omega
   rw[List.take_length]
   simp[succ_wrap hlt2 hbl]
   refine hK2 (k + 1) (by omega) (by omega) (Sub.refl _ _ _) 3 (by omega) ?_ (by simp)
   rw[hts,hne]
   simp
  obtain⟨y,hy⟩:∃ y,s.e[q]? = some y:=⟨_,gEG hlt3⟩
  have hy2:=(gSI.1 hy).2
  have hte:=seeEs_take hy m3
  have hre:=seeEs_range (s.e.take q) m3 hr.1 hr.2
  generalize seeE.seeEs m3 (s.e.take q)=m4 at *
  simp[hlt3,hy,hy2,Ex.d_eq]
  refine aCall_ofc (visitF_ac y (gB g) m4 _ hre.1 hre.2 (hn b (gMO hb) s (gMO hs) y (gMO hy))) (by simp) ?_
  rintro _ _ ⟨rfl,N2,rfl⟩
  simp[succ_wrap hlt3 hel]
  refine hK3 (q + 1) (by omega) (by omega) (Sub.refl _ _ _) 3 (by omega) ?_ (by simp)
  rw[hte]
  simp
 ·simp[hlt2,hs,hs2,St.d_eq,w1,w3]
  refine aCall_ofc (c1 _) (by simp) ?_
  rintro _ _ ⟨rfl,N1,rfl⟩
  simp
  have hv:=hm3.1 (.inr w3)
  refine aLoop_st (fun q:Nat=>[(3,.ptr 1 0 0 0),(4,.ptr 2 0 0 0),(13,.d (.sl 2 (bls' g.b))),(14,aI .i64 g.b.length),(15,aI .i64 i),(20,.d (.sl 8 (sts b.s))),(21,aI .i64 b.s.length),(22,aI .i64 k),(39,.d (.sl 5 (Ex.ds s.e))),(40,aI .i64 s.e.length),(41,aI .i64 q)])
   (fun q=>[gB g,cellI (seeE.seeEs m3 (s.e.take q)),cellF])
   (fun q=>q≤s.e.length) (fun q=>s.e.length - q) 0 (Sub.refl _ _ _) 3 (by omega) (by simp[seeE.seeEs]; try rw[hv]) (by simp) (by omega) ?_
  rintro q hq K3 hK3
  rcases Nat.lt_or_ge q s.e.length with hlt3 | hge3
  case inr=>
   obtain rfl:q=s.e.length:=by omega
   rw[List.take_length]
   simp[succ_wrap hlt2 hbl]
   refine hK2 (k + 1) (by omega) (by omega) (Sub.refl _ _ _) 3 (by omega) ?_ (by simp)
   rw[hts,hne]
   simp
  obtain⟨y,hy⟩:∃ y,s.e[q]? = some y:=⟨_,gEG hlt3⟩
  have hy2:=(gSI.1 hy).2
  have hte:=seeEs_take hy m3
  have hre:=seeEs_range (s.e.take q) m3 hr.1 hr.2
  generalize seeE.seeEs m3 (s.e.take q)=m4 at *
  simp[hlt3,hy,hy2,Ex.d_eq]
  refine aCall_ofc (visitF_ac y (gB g) m4 _ hre.1 hre.2 (hn b (gMO hb) s (gMO hs) y (gMO hy))) (by simp) ?_
  rintro _ _ ⟨rfl,N2,rfl⟩
  simp[succ_wrap hlt3 hel]
  refine hK3 (q + 1) (by omega) (by omega) (Sub.refl _ _ _) 3 (by omega) ?_ (by simp)
  rw[hte]
  simp
 ·simp[hlt2,hs,hs2,St.d_eq,w1,w3]
  have hv:=hm3.2 (by omega)
  refine aLoop_st (fun q:Nat=>[(3,.ptr 1 0 0 0),(4,.ptr 2 0 0 0),(13,.d (.sl 2 (bls' g.b))),(14,aI .i64 g.b.length),(15,aI .i64 i),(20,.d (.sl 8 (sts b.s))),(21,aI .i64 b.s.length),(22,aI .i64 k),(39,.d (.sl 5 (Ex.ds s.e))),(40,aI .i64 s.e.length),(41,aI .i64 q)])
   (fun q=>[gB g,cellI (seeE.seeEs m3 (s.e.take q)),cellF])
   (fun q=>q≤s.e.length) (fun q=>s.e.length - q) 0 (Sub.refl _ _ _) 3 (by omega) (by simp[seeE.seeEs]; try rw[hv]) (by simp) (by omega) ?_
  rintro q hq K3 hK3
  rcases Nat.lt_or_ge q s.e.length with hlt3 | hge3
  case inr=>
   obtain rfl:q=s.e.length:=by omega
   rw[List.take_length]
   simp[succ_wrap hlt2 hbl]
   refine hK2 (k + 1) (by omega) (by omega) (Sub.refl _ _ _) 3 (by omega) ?_ (by simp)
   rw[hts,hne]
   simp
  obtain⟨y,hy⟩:∃ y,s.e[q]? = some y:=⟨_,gEG hlt3⟩
  have hy2:=(gSI.1 hy).2
  have hte:=seeEs_take hy m3
  have hre:=seeEs_range (s.e.take q) m3 hr.1 hr.2
  generalize seeE.seeEs m3 (s.e.take q)=m4 at *
  simp[hlt3,hy,hy2,Ex.d_eq]
  refine aCall_ofc (visitF_ac y (gB g) m4 _ hre.1 hre.2 (hn b (gMO hb) s (gMO hs) y (gMO hy))) (by simp) ?_
  rintro _ _ ⟨rfl,N2,rfl⟩
  simp[succ_wrap hlt3 hel]
  refine hK3 (q + 1) (by omega) (by omega) (Sub.refl _ _ _) 3 (by omega) ?_ (by simp)
  rw[hte]
  simp
def cntF:List Bool→Nat
 | []=>0
 | b::l=>(if b=true then 0 else 1) + cntF l
theorem cntF_set:∀ {S:List Bool} {k:Nat},S[k]? = some false→cntF (S.set k true) + 1=cntF S
 | [],k,h=>by simp at h
 | b :: S, 0, h => by
   simp at h
   subst h
   simp[cntF]
   omega
 | b :: S, k + 1, h => by
   have:=cntF_set (S:=S) (k:=k) (by simpa using h)
   simp only[List.set_cons_succ,cntF]
   omega
theorem cntF_rep:∀ n:Nat,cntF (List.replicate n false)=n
 | 0=>rfl
 | n + 1=>by simp only[List.replicate_succ,cntF,cntF_rep n]; simp; omega
abbrev DS2:=List Bool×List Nat
def dfsV (E:Nat→List Nat):Nat→Nat→DS2→DS2
 | 0,_,s=>s
 | f + 1, k, s =>
   let r:=(E k).foldl (fun s n=>if s.1[n]?.getD true=true then s else dfsV E f n s) (s.1.set k true,s.2)
   (r.1,r.2++[k])
def dfsS (E:Nat→List Nat) (f:Nat) (s:DS2) (n:Nat):DS2:=if s.1[n]?.getD true=true then s else dfsV E f n s
theorem dfsV_eq (E:Nat→List Nat) (f k:Nat) (s:DS2):dfsV E (f + 1) k s=(((E k).foldl (dfsS E f) (s.1.set k true,s.2)).1,((E k).foldl (dfsS E f) (s.1.set k true,s.2)).2++[k]):=rfl
structure DKeep (n:Nat) (s r:DS2):Prop where
 len:r.1.length=n
 sum:r.2.length + cntF r.1=s.2.length + cntF s.1
 le:cntF r.1≤cntF s.1
theorem DKeep.refl {n:Nat} {s:DS2} (h:s.1.length=n):DKeep n s s:=⟨h,rfl,Nat.le_refl _⟩
theorem DKeep.trans {n:Nat} {s r q:DS2} (h:DKeep n s r) (g:DKeep n r q):DKeep n s q:=⟨g.len,g.sum.trans h.sum,Nat.le_trans g.le h.le⟩
theorem dfsV_keep {n:Nat} {E:Nat→List Nat} (hE:∀ i,i < n→∀ x∈E i,x < n):∀ (f k:Nat) (s:DS2),s.1.length=n→k < n→s.1[k]? = some false→cntF s.1≤f→(dfsV E f k s).1.length=n∧(dfsV E f k s).2.length + cntF (dfsV E f k s).1=s.2.length + cntF s.1∧cntF (dfsV E f k s).1 < cntF s.1:=by
 intro f
 induction f with
 | zero =>
   intro k s h1 h2 h3 h4
   have:=cntF_set h3
   omega
 | succ f ih =>
   intro k s h1 h2 h3 h4
   have hset:=cntF_set h3
   have step:∀ (s':DS2) (x:Nat),x < n→s'.1.length=n→cntF s'.1≤f→DKeep n s' (dfsS E f s' x):=by
    intro s' x hx hl hc
    unfold dfsS
    have hlt:x < s'.1.length:=by omega
    rw[gEG hlt]
    simp only[Option.getD_some]
    split
    ·exact DKeep.refl hl
    ·rename_i hf
     have:=ih x s' hl hx (by rw[gEG hlt]; simpa using hf) hc
     exact⟨this.1,this.2.1,by omega⟩
   have fold:∀ (l:List Nat) (s':DS2),(∀ x∈l,x < n)→s'.1.length=n→cntF s'.1≤f→DKeep n s' (l.foldl (dfsS E f) s'):=by
    intro l
    induction l with
    | nil=>intro s' _ hl _; exact DKeep.refl hl
    | cons x l ihl =>
      intro s' hx hl hc
      have h5:=step s' x (hx x (by simp)) hl hc
      have h6:=ihl (dfsS E f s' x) (fun y hy=>hx y (by simp[hy])) h5.len (by have:=h5.le; omega)
      exact h5.trans h6
   have hk:=fold (E k) (s.1.set k true,s.2) (hE k h2) (by simpa using h1) (by simp only; omega)
   have hk1:=hk.sum
   have hk2:=hk.le
   simp only at hk1 hk2
   refine⟨?_,?_,?_⟩
   ·rw[dfsV_eq]; exact hk.len
   ·rw[dfsV_eq]
    simp only[List.length_append,List.length_cons,List.length_nil]
    omega
   ·rw[dfsV_eq]
    simp only
    omega
theorem fold_keep {n:Nat} {E:Nat→List Nat} (hE:∀ i,i < n→∀ x∈E i,x < n) (f:Nat):∀ (l:List Nat) (s:DS2),(∀ x∈l,x < n)→s.1.length=n→cntF s.1≤f→DKeep n s (l.foldl (dfsS E f) s)
 | [],s,_,hl,_=>DKeep.refl hl
 | x :: l, s, hx, hl, hc => by
   have h5:DKeep n s (dfsS E f s x):=by
    unfold dfsS
    have hlt:x < s.1.length:=by have:=hx x (by simp); omega
    rw[gEG hlt]
    simp only[Option.getD_some]
    split
    ·exact DKeep.refl hl
    ·rename_i hf
     have:=dfsV_keep hE f x s hl (by omega) (by rw[gEG hlt]; simpa using hf) hc
     exact⟨this.1,this.2.1,by omega⟩
   exact h5.trans (fold_keep hE f l _ (fun y hy=>hx y (by simp[hy])) h5.len (by have:=h5.le; omega))
abbrev nI (l:List Nat):List Int:=l.map fun n:Nat=>(n:Int)
theorem AC.vle {P:Program} {f:FuncId} {args args':List AV} {A:AHeap} {R:AV→AHeap→Prop} (h:AC P f args' A R) (hl:args.length=args'.length) (hv:∀ (i:Nat) (c c':AV),args[i]? = some c→args'[i]? = some c'→VLe A c c'):AC P f args A R:=by
 intro H ι w vs hH hR h1 h2
 have hl1:=h1.len
 have key:∀ (i:Nat) (c':AV) (u:Value),args'[i]? = some c'→vs[i]? = some u→Val ι A (Nn H ι A) w c' u:=fun i c' u hc hu=>by
  have hlt:=(gSI.1 hc).1
  have hc0:args[i]? = some args[i]:=gEG (by omega)
  obtain⟨u',hu',hs⟩:=h1.get hc0
  rw[hu] at hu'
  obtain rfl:=oSI hu'
  exact hv i _ _ hc0 hc H ι w u hR ⟨hs,h2.get hc0 hu⟩
 exact h H ι w vs hH hR (ShpL.of (by omega) fun i c u hc hu=>(key i c u hc hu).1) (MemL.of (by omega) fun i c u hc hu=>(key i c u hc hu).2)
def inG (g:Gr) (x:Int):Bool:=decide (0≤x) && decide (x < g.b.length)
theorem inG_iff {g:Gr} {x:Int}:inG g x=true↔0≤x∧x < g.b.length:=by simp[inG]
def edgN (g:Gr) (k:Nat):List Nat:=match g.b[k]? with
 | some b=>((succL b).filter (inG g)).map Int.toNat
 | none=>[]
def EdgOk (g:Gr):Prop:=∀ i,i < g.b.length→∀ x∈edgN g i,x < g.b.length
theorem nI_toNat {l:List Int} {n:Int} (h:∀ x∈l,0≤x∧x < n):nI (l.map Int.toNat)=l:=by
 rw[nI,List.map_map]
 conv=>rhs; rw[← List.map_id l]
 exact List.map_congr_left fun x hx=>by have:=(h x hx).1; simp; omega
theorem edgN_lt {g:Gr} (h:EdgOk g):∀ i,i < g.b.length→∀ x∈edgN g i,x < g.b.length:=h
theorem edgOk (g:Gr):EdgOk g:=by
 intro i hi x hx
 unfold edgN at hx
 rw[gEG hi] at hx
 simp only[List.mem_map,List.mem_filter] at hx
 obtain⟨y,⟨_,hy⟩,rfl⟩:=hx
 have:=inG_iff.1 hy
 omega
theorem edges1_ac (g:Gr) (k:Int) (A:AHeap) (hl:g.b.length≤maxLen):AC Tryz.prog 243 ([]++[aI .i64 k]++[.ptr 0 0 0 0]) (gB g::A) (Same0 (gB g::A) (aB (!inG g k))):=by
 refine ac_of Tryz.func243 rfl (by kernel_rfl) (by simp[Tryz.ntmps243]) fun _=>?_
 by_cases h1:k < 0
 ·simp[Tryz.f243,h1,Same0,inG,show ¬ 0≤k by omega]
 ·by_cases h2:(g.b.length:Int)≤k
  ·simp[Tryz.f243,h1,h2,Same0,inG,show ¬ k < g.b.length by omega]
  ·simp[Tryz.f243,h1,h2,Same0,inG,show k < g.b.length by omega,show 0≤k by omega]
abbrev nbk (ver:Nat) (X:List Int):Blk:=⟨ver,true,3,1,dEls (i64s X)⟩
abbrev dh (g:Gr) (st:Blk) (ver:Nat) (X:List Int) (N:AHeap):AHeap:=gB g::st::nbk ver X::N
theorem nbk_get {X:List Int} {i:Nat} {a:Int} (h:X[i]? = some a):(dEls (i64s X))[i]? = some [aI .i64 a]:=by simp[dEls,i64s,h]
theorem nbk_set (X:List Int) (i:Nat) (a:Int):(dEls (i64s X)).set i [aI .i64 a]=dEls (i64s (X.set i a)):=by simp[dEls,i64s,List.map_set]
theorem index_own (g:Gr) (hgl:g.b.length≤maxLen) (st:Blk) (ver:Nat) (L:List Int) (hL:L.length≤maxLen) :
 AC Tryz.prog 120 [.own 2 ver 0 L.length,.fn 243 [] [.ptr 0 0 0 0]] (dh g st ver L []) (Same0 (dh g st ver L []) (aI .i64 (match L.findIdx? (fun x=>!inG g x) with | some i=>(i:Int) | none=>-1))):=by
 refine ac_of Tryz.func120 rfl (by kernel_rfl) (by simp[Tryz.ntmps120]) fun hb=>?_
 clear hb
 obtain⟨R,hR⟩:∃ R:Int,(match L.findIdx? (fun x=>!inG g x) with | some i=>(i:Int) | none=>-1)=R:=⟨_,rfl⟩
 rw[hR]
 simp[Tryz.f120]
 refine aLoop_of (α:=Nat) (fun i e A'=>i≤L.length∧(∃ N,A'=dh g st ver L N)∧e 8=aI .i64 i∧e 7=aI .i64 L.length∧e 0 = .own 2 ver 0 L.length∧e 1 = .fn 243 [] [.ptr 0 0 0 0] ∧
  ∀ (j:Nat) (a:Int),j < i→L[j]? = some a→inG g a=true) (fun i=>L.length - i) 0 (Sub.refl _ _ _) ⟨by omega,⟨[],by simp⟩,by simp,by simp,by simp,by simp,by intro j a hj; omega⟩ ?_
 rintro i e A' ⟨hi,⟨N,rfl⟩,e8,e7,e0,e1,hall⟩ K hK
 rcases Nat.lt_or_ge i L.length with hlt | hge
 case inr=>
  obtain rfl:i=L.length:=by omega
  have:L.findIdx? (fun x=>!inG g x)=none:=by
   rw[List.findIdx?_eq_none_iff]
   intro x hx
   obtain⟨j,hj⟩:=List.getElem?_of_mem hx
   simpa using hall j x (gSI.1 hj).1 hj
  rw[this] at hR
  subst hR
  simp[e8,e7,Same0]
 obtain⟨a,ha⟩:∃ a,L[i]? = some a:=⟨_,gEG hlt⟩
 have ha1:=nbk_get ha
 have ha2:=(gSI.1 ha).2
 simp[e8,e7,e0,e1,hlt,ha1,ha,ha2]
 refine aCall_ofc (edges1_ac g a (st::nbk ver L::N) hgl) (by kernel_rfl) ?_
 rintro _ _ ⟨rfl,N',rfl⟩
 cases hp:inG g a with
 | false =>
   have:L.findIdx? (fun x=>!inG g x)=some i:=by
    rw[List.findIdx?_eq_some_iff_getElem]
    exact⟨hlt,by simp[ha2,hp],fun j hj=>by simpa using hall j _ hj (gEG (by omega))⟩
   rw[this] at hR
   subst hR
   simp[e8,Same0]
 | true =>
   simp[e8,succ_wrap hlt hL]
   refine hK (i + 1) _ _ _ _ (Sub.refl _ _ _) ⟨by omega,⟨N++N',by simp⟩,by simp,by simp[e7],by simp[e0],by simp[e1],fun j b hj hb=>?_⟩ (by omega)
   rcases Nat.lt_or_ge j i with h | h
   ·exact hall j b h hb
   ·obtain rfl:j=i:=by omega
    rw[ha] at hb
    obtain rfl:=oSI hb
    exact hp
def zr:Nat→Nat→List Int→List Int
 | _,0,X=>X
 | i,m + 1,X=>zr (i + 1) m (X.set i 0)
theorem zr_len:∀ (m i:Nat) (X:List Int),(zr i m X).length=X.length
 | 0,_,_=>rfl
 | m + 1,i,X=>by rw[zr,zr_len]; simp
theorem zr_take:∀ (m i k:Nat) (X:List Int),k≤i→(zr i m X).take k=X.take k
 | 0,_,_,_,_=>rfl
 | m + 1, i, k, X, h => by
   rw[zr,zr_take m (i + 1) k _ (by omega),List.take_set_of_le h]
theorem clr_nbk (g:Gr) (st:Blk) (ver:Nat) (N:AHeap):∀ (m i:Nat) (X:List Int),i + m≤X.length→clrA Tryz.prog 3 (aI .i64 0) 2 ver i m (dh g st ver X N)=some (dh g st ver (zr i m X) N)
 | 0,_,_,_=>rfl
 | m + 1, i, X, h => by
   obtain⟨a,ha⟩:∃ a,X[i]? = some a:=⟨_,gEG (by omega)⟩
   have ha1:=nbk_get ha
   have hs:=nbk_set X i 0
   have ht:tk Tryz.prog 3=some (false,1):=by kernel_rfl
   have:astv Tryz.prog (dh g st ver X N) 3 (.ptr 2 ver i 0) (aI .i64 0)=some (dh g st ver (X.set i 0) N):=by
    have hc:cellsA (aI .i64 0)=some [aI .i64 0]:=rfl
    have hcur:curB (dh g st ver X N) 2 ver=some (nbk ver X):=by simp[curB]
    simp only[astv,hcur,ht,hc,ha1,List.length_cons,List.length_nil,Nat.zero_add,Nat.le_refl,and_self,and_true,if_true,putA,setEls]
    simp[putA,setEls,hs]
   rw[clrA,this]
   exact clr_nbk g st ver N m (i + 1) _ (by simp; omega)
theorem filter_take_succ {p:Int→Bool} {L:List Int} {j:Nat} {a:Int} (h:L[j]? = some a):(L.take (j + 1)).filter p=(L.take j).filter p++if p a=true then [a] else []:=by
 rw[List.take_add_one,h,List.filter_append]
 congr 1
 simp[List.filter_cons]
def DelR (g:Gr) (st:Blk) (ver:Nat) (L:List Int) (r:AV) (A':AHeap):Prop:=∃ X N,r = .own 2 ver 0 (L.filter (inG g)).length∧A'=dh g st ver X N∧X.take (L.filter (inG g)).length=L.filter (inG g)∧X.length=L.length
theorem edges_del (g:Gr) (hgl:g.b.length≤maxLen) (st:Blk) (ver:Nat) (L:List Int) (hL:L.length≤1000000000) :
 AC Tryz.prog 242 ([]++[.own 2 ver 0 L.length,.fn 243 [] [.ptr 0 0 0 0]]++[]) (dh g st ver L []) (DelR g st ver L):=by
 have hLm:L.length≤maxLen:=by unfold maxLen; omega
 refine ac_of Tryz.func242 rfl (by kernel_rfl) (by simp[Tryz.ntmps242]) fun hb=>?_
 clear hb
 simp[Tryz.f242]
 refine aCall_ofc (index_own g hgl st ver L hLm) (by kernel_rfl) ?_
 rintro _ _ ⟨rfl,N,rfl⟩
 cases hf:L.findIdx? (fun x=>!inG g x) with
 | none =>
   rw[List.findIdx?_eq_none_iff] at hf
   have hF:L.filter (inG g)=L:=List.filter_eq_self.2 fun a ha=>by simpa using hf a ha
   simp
   exact⟨L,N,by rw[hF],rfl,by rw[hF]; simp,rfl⟩
 | some i0 =>
   rw[List.findIdx?_eq_some_iff_getElem] at hf
   obtain⟨hi0,hbad,hlow⟩:=hf
   have hF0:(L.take i0).filter (inG g)=L.take i0:=List.filter_eq_self.2 fun a ha=>by
    obtain⟨j,hj⟩:=List.getElem?_of_mem ha
    have hjl:=(gSI.1 hj).1
    simp at hjl
    rw[List.getElem?_take,if_pos (by omega)] at hj
    have:=hlow j (by omega)
    have h2:=(gSI.1 hj).2
    rw[h2] at this
    simpa using this
   have hF1:(L.take (i0 + 1)).filter (inG g)=L.take i0:=by
    rw[filter_take_succ (gEG hi0),hF0]
    have:inG g L[i0]=false:=by simpa using hbad
    simp[this]
   simp[show ¬ (i0:Int) = -1 by omega,succ_wrap hi0 hLm]
   refine aLoop_of (α:=List Int×Nat×Nat) (fun q e A'=>(∃ N,A'=dh g st ver q.1 N)∧q.1.length=L.length∧q.2.1 < q.2.2∧q.2.2≤L.length∧q.1.take q.2.1=(L.take q.2.2).filter (inG g)∧q.1.drop q.2.2=L.drop q.2.2 ∧
    e 5=aI .i64 q.2.1∧e 6=aI .i64 q.2.2∧e 0 = .own 2 ver 0 L.length∧e 1 = .fn 243 [] [.ptr 0 0 0 0]) (fun q=>L.length - q.2.2) (L,i0,i0 + 1) (Sub.refl _ _ _)
    ⟨⟨N,by simp⟩,rfl,by simp,by simp only; omega,by simp only; rw[hF1],rfl,by simp,by simp,by simp,by simp⟩ ?_
   rintro⟨X,i,j⟩ e A' ⟨⟨N,rfl⟩,hXl,hij,hjl,htk,hdr,e5,e6,e0,e1⟩ K hK
   simp only at hXl hij hjl htk hdr e5 e6 hK ⊢
   have hXm:X.length≤maxLen:=by omega
   rcases Nat.lt_or_ge j L.length with hlt | hge
   case inr=>
    obtain rfl:j=L.length:=by omega
    rw[List.take_length] at htk
    have hFl:(L.filter (inG g)).length=i:=by rw[← htk]; simp; omega
    simp[e6,e5,e0,show i≤L.length by omega]
    have hclr:clearA Tryz.prog 48 (dh g st ver X N) (.own 2 ver i (L.length - i))=some (dh g st ver (zr i (L.length - i) X) N):=by
     have hcur:curB (dh g st ver X N) 2 ver=some (nbk ver X):=by simp[curB]
     have h1:sl Tryz.prog 48=some (3,1):=by kernel_rfl
     have h2:zvA Tryz.prog 3=some [aI .i64 0]:=by kernel_rfl
     simp only[clearA,hcur,h1,h2]
     rw[if_pos trivial]
     exact clr_nbk g st ver N _ i X (by omega)
    have hsl:(if i=0 then some (AV.own 2 ver 0 L.length) else if i < L.length then some (AV.own 2 ver i (L.length - i)) else none)=some (AV.own 2 ver i (L.length - i)):=by
     by_cases h0:i=0
     ·simp[h0]
     ·simp[h0,hij]
    rw[hsl]
    simp
    refine aRaw_clear (x:=.tmp 38) (t:=48) (d:=none) (A':=dh g st ver (zr i (L.length - i) X) N) ?_ ?_
    ·simp
     exact hclr
    simp[e5,e0,show i≤L.length by omega]
    exact⟨zr i (L.length - i) X,N,by rw[hFl],rfl,by rw[hFl,zr_take _ _ _ _ (Nat.le_refl _),htk],by rw[zr_len,hXl]⟩
   obtain⟨a,ha⟩:∃ a,L[j]? = some a:=⟨_,gEG hlt⟩
   have hxa:X[j]? = some a:=by
    have:=congrArg (·[0]?) hdr
    simpa [ha] using this
   have hb1:=nbk_get hxa
   have hnx:X.drop (j + 1)=L.drop (j + 1):=by
    have:=congrArg (List.drop 1) hdr
    simpa [Nat.add_comm] using this
   have hx2:=(gSI.1 hxa).2
   simp[e6,e0,e1,hlt,hb1,hXl,hxa,hx2]
   refine aCall_ofc (edges1_ac g a (st::nbk ver X::N) hgl) (by kernel_rfl) ?_
   rintro _ _ ⟨rfl,N',rfl⟩
   cases hp:inG g a with
   | false =>
     simp[e6,succ_wrap hlt hLm]
     refine hK (X,i,j + 1) _ _ _ _ (Sub.refl _ _ _) ⟨⟨N++N',by simp⟩,hXl,by simp only; omega,by simp only; omega,by simp only; rw[htk,filter_take_succ ha,hp]; simp,hnx,by simp[e5],by simp,by simp[e0],by simp[e1]⟩ (by simp only; omega)
   | true =>
     obtain⟨b,hb⟩:∃ b,X[i]? = some b:=⟨_,gEG (by omega)⟩
     have hb3:=nbk_get hb
     have hil:i < L.length:=by omega
     simp[e5,e6,e0,hil,hXl,hb,hb3,nbk_set,succ_wrap hlt hLm,succ_wrap hil hLm]
     refine hK (X.set i a,i + 1,j + 1) _ _ _ _ (Sub.refl _ _ _) ⟨⟨N++N',by simp⟩,by simp[hXl],by simp only; omega,by simp only; omega,?_,?_,by simp,by simp,by simp[e0],by simp[e1]⟩ (by simp only; omega)
     ·simp only
      rw[filter_take_succ ha,hp,← htk,List.take_add_one,List.take_set_of_le (Nat.le_refl _)]
      simp[show i < X.length by omega]
     ·simp only
      rw[List.drop_set_of_lt (by omega),hnx]
theorem delf_none_ac {f:Nat} {fs cs:List AV} (A:AHeap) (l:List Int) (hf:okF Tryz.prog f=true) (hp:∀ a∈l,∀ N,AC Tryz.prog f (fs++[aI .i64 a]++cs) (A++N) (Same0 A (aB false))) :
 AC Tryz.prog 242 [.d (.sl 1 (i64s l)),.fn f fs cs] A (Same0 A (.d (.sl 1 (i64s l)))):=by
 refine ac_of Tryz.func242 rfl (by kernel_rfl) (by simp[Tryz.ntmps242]) fun hb=>?_
 clear hb
 simp[Tryz.f242]
 refine aCall_ofc (index_in_ac (p:=fun _=>false) A l hf hp) (by simp) ?_
 have h0:l.findIdx? (fun _=>false)=none:=by rw[List.findIdx?_eq_none_iff]; simp
 rw[h0]
 rintro _ _ ⟨rfl,N,rfl⟩
 simp[Same0]
theorem edges_del0 (g:Gr) (hgl:g.b.length≤maxLen) (st:Blk) :
 AC Tryz.prog 242 ([]++[.d (.v (.slice none 0 0)),.fn 243 [] [.ptr 0 0 0 0]]++[]) [gB g,st] (fun r _=>r = .d (.sl 1 (i64s []))):=by
 refine AC.vle (args':=[.d (.sl 1 (i64s [])),.fn 243 [] [.ptr 0 0 0 0]]) ?_ rfl ?_
 ·exact (delf_none_ac (fs:=[]) (cs:=[.ptr 0 0 0 0]) [gB g,st] [] (by kernel_rfl) fun a ha N=>by cases ha).mono fun r A' hr=>hr.1
 ·intro i c c' h1 h2
  match i,h1,h2 with
  | 0, h1, h2 =>
    simp at h1 h2
    subst h1 h2
    exact VLe.nil_sl 1
  | 1, h1, h2 =>
    simp at h1 h2
    subst h1 h2
    exact VLe.refl _
  | i + 2,h1,h2=>simp at h1
theorem dmedges_af (g:Gr) (hg:GrFit g) (he:EdgOk g) (k:Nat) (hk:k < g.b.length):AF Tryz.prog 205 [grV g,aI .i64 k] (.d (.sl 1 (i64s (nI (edgN g k))))):=by
 clear he
 obtain⟨b,hb⟩:∃ b,g.b[k]? = some b:=⟨_,gEG hk⟩
 have hb2:=(gSI.1 hb).2
 have hbm:=gMO hb
 have hgl:g.b.length≤maxLen:=by have:=hg.1; unfold maxLen; omega
 have hbl:b.s.length≤maxLen:=by have:=(hg.2 b hbm).1; unfold maxLen; omega
 obtain⟨R,hR⟩:∃ R,(succL b).filter (inG g)=R:=⟨_,rfl⟩
 have hE:nI (edgN g k)=R:=by
  unfold edgN
  rw[hb]
  simp only
  rw[hR]
  refine nI_toNat (n:=g.b.length) fun x hx=>?_
  rw[← hR] at hx
  exact inG_iff.1 (List.mem_filter.1 hx).2
 rw[hE]
 have fin:∀ (L X:List Int),L.filter (inG g)=R→X.take (L.filter (inG g)).length=L.filter (inG g)→X.length=L.length→List.take R.length (dEls (i64s X))=dEls (i64s R)∧R.length≤X.length:=by
  intro L X h1 h2 h3
  rw[h1] at h2
  refine⟨?_,by rw[h3,← h1]; exact List.length_filter_le _ _⟩
  have h4:dEls (i64s R)=dEls (i64s (X.take R.length)):=by rw[h2]
  rw[h4]
  simp[dEls,i64s,List.map_take]
 refine af_of Tryz.func205 rfl (by kernel_rfl) (by simp[Tryz.ntmps205]) fun _=>?_; simp[Tryz.f205,Ex.d_eq]
 cases hn:b.s.length with
 | zero =>
   have:b.s=[]:=List.length_eq_zero_iff.1 hn
   rw[succL,this] at hR
   simp at hR
   subst hR
   simp[hk,hb,hb2,Bl.d_eq,this]
 | succ n =>
   obtain⟨s,hs,hs2⟩:=last_get hn
   have hs3:=(gSI.1 hs).2
   have hne:¬ b.s=[]:=fun h=>by rw[h] at hn; simp at hn
   unfold maxLen at hbl
   rw[succL,hs2] at hR
   simp only[tgts] at hR
   simp[hk,hb,hb2,Bl.d_eq,hn,hne,show ¬ (n:Int) + 1=0 by omega,i64w (n:=(n:Int)) (by omega),hs,hs3,St.d_eq]
   rcases op_cases s.op with h | h | h | h | h | h | h | h | h | h | h<;>simp[h] at hR<;>simp[h]
   all_goals try (subst hR; refine aCall_ofc (edges_del0 g hgl _) (by kernel_rfl) ?_; rintro _ _ rfl; simp; done)
   ·refine aCall_ofc (edges_del g hgl _ 0 [s.nx] (by simp)) (by kernel_rfl) ?_
    rintro _ _ ⟨X,N,rfl,rfl,h1,h2⟩
    obtain⟨f1,f2⟩:=fin _ X hR h1 h2
    rw[hR]
    simp[f1,f2]
   ·refine aCall_ofc (edges_del g hgl _ 0 [s.nx,s.el] (by simp)) (by kernel_rfl) ?_
    rintro _ _ ⟨X,N,rfl,rfl,h1,h2⟩
    obtain⟨f1,f2⟩:=fin _ X hR h1 h2
    rw[hR]
    simp[f1,f2]
   ·refine aCall_ofc (clone_in_ac _ (i64s s.cs) (by have:=((hg.2 b hbm).2 s (gMO hs)).2; simp; omega)) (by simp) ?_
    rintro _ _ ⟨rfl,rfl⟩
    simp
    refine aCall_ofc (edges_del g hgl _ 1 s.cs (by have:=((hg.2 b hbm).2 s (gMO hs)).2; omega)) (by kernel_rfl) ?_
    rintro _ _ ⟨X,N,rfl,rfl,h1,h2⟩
    obtain⟨f1,f2⟩:=fin _ X hR h1 h2
    rw[hR]
    simp[f1,f2]
def rowsN (g:Gr) (m:Nat):List (List D):=(List.range m).map fun k=>[D.sl 1 (i64s (nI (edgN g k)))]
theorem rowsN_len (g:Gr) (m:Nat):(rowsN g m).length=m:=by simp[rowsN]
theorem rowsN_succ (g:Gr) (m:Nat):rowsN g (m + 1)=rowsN g m++[[D.sl 1 (i64s (nI (edgN g m)))]]:=by simp[rowsN,List.range_succ]
theorem rowsN_get {g:Gr} {m k:Nat} (h:k < m):(rowsN g m)[k]? = some [D.sl 1 (i64s (nI (edgN g k)))]:=by simp[rowsN,h]
theorem set_mid {α:Type} (X:List α) (z y:α) (m:Nat):(X++List.replicate (m + 1) z).set X.length y=(X++[y])++List.replicate m z:=by
 rw[List.set_append_right _ _ (Nat.le_refl _),Nat.sub_self,List.replicate_succ,List.set_cons_zero,List.append_assoc]
 rfl
theorem clnE_rep (k m:Nat) (x:D):clnE k (List.replicate m [AV.d x])=List.replicate m [AV.d x]:=by simp[clnE,cln]
set_option maxRecDepth 100000 in
theorem dmall_af (g:Gr) (hg:GrFit g) (he:EdgOk g):AF Tryz.prog 156 [grV g] (.d (.sl 1 (rowsN g g.b.length))):=by
 have hgl:g.b.length≤maxLen:=by have:=hg.1; unfold maxLen; omega
 refine af_of Tryz.func156 rfl (by kernel_rfl) (by simp[Tryz.ntmps156]) fun _=>?_; simp[Tryz.f156,Ex.d_eq]
 refine aRaw_make (kl:=.i64) (kc:=.i64) (l:=g.b.length) (c:=g.b.length) (z:=[.d (.v (.slice none 0 0))]) byt_145 (by simp) (by simp) (by simp) (Nat.le_refl _) hgl (by have:=hg.1; omega) ?_
 simp
 refine aLoop_of (α:=Nat) (fun i e A=>i≤g.b.length∧(∃ N:AHeap,A=gB g::⟨0,true,48,1,dEls (rowsN g i)++List.replicate (g.b.length - i) [.d (.v (.slice none 0 0))]⟩::N) ∧
  e 12=aI .i64 i∧e 11=aI .i64 g.b.length∧e 3 = .own 1 0 0 g.b.length∧e 1 = .ptr 0 0 0 0) (fun i=>g.b.length - i) 0 (Sub.refl _ _ _)
  ⟨by omega,⟨[],by simp[rowsN]⟩,by simp,by simp,by simp,by simp⟩ ?_
 rintro i e A ⟨hi,⟨N,rfl⟩,e12,e11,e3,e1⟩ K hK
 rcases Nat.lt_or_ge i g.b.length with hlt | hge
 case inr=>
  obtain rfl:i=g.b.length:=by omega
  have ht:List.take g.b.length (rowsN g g.b.length)=rowsN g g.b.length:=List.take_of_length_le (by rw[rowsN_len]; exact Nat.le_refl _)
  simp[e12,e11,e3,rowsN_len,ht]
 simp[e12,e11,e3,e1,hlt]
 refine aCall_of (dmedges_af g hg he i hlt) (by kernel_rfl) (by simp) ?_
 have h2:(dEls (rowsN g i)).length=i:=by simp[rowsN_len]
 have hs:(dEls (rowsN g i)++List.replicate (g.b.length - i) [AV.d (.v (.slice none 0 0))]).set i [AV.d (.sl 1 (i64s (nI (edgN g i))))]=dEls (rowsN g (i + 1))++List.replicate (g.b.length - (i + 1)) [AV.d (.v (.slice none 0 0))]:=by
  have h1:=set_mid (dEls (rowsN g i)) [AV.d (.v (.slice none 0 0))] [AV.d (.sl 1 (i64s (nI (edgN g i))))] (g.b.length - (i + 1))
  rw[h2,show g.b.length - (i + 1) + 1=g.b.length - i by omega] at h1
  rw[h1,rowsN_succ]
  simp[dEls]
 have hget:(dEls (rowsN g i)++List.replicate (g.b.length - i) [AV.d (.v (.slice none 0 0))])[i]? = some [.d (.v (.slice none 0 0))]:=by
  rw[List.getElem?_append_right (by omega),h2,Nat.sub_self,List.getElem?_replicate,if_pos (by omega)]
 simp[e12,e3,hlt,hget,hs,succ_wrap hlt hgl]
 refine hK (i + 1) _ _ _ _ (Sub.take 2 (by simp)) ⟨by omega,⟨[],by simp[clnE_rep]⟩,by simp,by simp[e11],by simp[e3],by simp[e1]⟩ (by omega)
abbrev dNx (g:Gr):Blk:=⟨0,true,145,1,[[.d (.sl 1 (rowsN g g.b.length))]]⟩
def bEls (S:List Bool):List (List AV):=S.map fun b=>[.d (.v (.bool b))]
theorem bEls_get {S:List Bool} {k:Nat} {b:Bool} (h:S[k]? = some b):(bEls S)[k]? = some [.d (.v (.bool b))]:=by simp[bEls,h]
theorem bEls_set (S:List Bool) (k:Nat) (b:Bool):(bEls S).set k [.d (.v (.bool b))]=bEls (S.set k b):=by rw[bEls,bEls,List.map_set]
abbrev dSn (S:List Bool):Blk:=⟨0,true,4,1,bEls S⟩
abbrev dSc (g:Gr):Blk:=⟨0,true,181,1,[[.own 1 0 0 g.b.length]]⟩
abbrev dPc (m:Nat):Blk:=⟨0,true,48,1,[[.own 5 m 0 m]]⟩
abbrev dFc:Blk:=⟨0,true,162,1,[[.fn 206 [] [.ptr 2 0 0 0,.ptr 0 0 0 0,.ptr 4 0 0 0,.ptr 3 0 0 0]]]⟩
abbrev dPb (L:List Nat):Blk:=⟨L.length,true,3,1,dEls (i64s (nI L))⟩
abbrev dHp (g:Gr) (s:DS2) (N:AHeap):AHeap:=dNx g::dSn s.1::dSc g::dPc s.2.length::dFc::dPb s.2::N
theorem foldl_take {α β:Type} (f:β→α→β) (l:List α) (i:Nat) (x:α) (b:β) (h:l[i]? = some x):(l.take (i + 1)).foldl f b=f ((l.take i).foldl f b) x:=by
 rw[List.take_add_one,h]
 simp
theorem succL_len {g:Gr} (hg:GrFit g) {b:Bl} (hb:b∈g.b):(succL b).length≤2000000:=by
 unfold succL
 split
 ·rename_i s hs
  have:=((hg.2 b hb).2 s (List.mem_of_getLast? hs)).2
  unfold tgts
  repeat' split
  all_goals simp
  exact this
 ·simp
set_option maxRecDepth 100000 in
theorem visit_ac (g:Gr) (hg:GrFit g) (he:EdgOk g):∀ (f k:Nat) (s:DS2) (N:AHeap),s.1.length=g.b.length→k < g.b.length→s.1[k]? = some false→cntF s.1≤f→s.2.length + cntF s.1≤g.b.length →
 AC Tryz.prog 206 [aI .i64 k,.ptr 2 0 0 0,.ptr 0 0 0 0,.ptr 4 0 0 0,.ptr 3 0 0 0] (dHp g s N) (fun r A'=>r = .tup []∧∃ N',A'=dHp g (dfsV (edgN g) f k s) (N++N'))
 | 0, k, s, N, _, _, hk, hf, _ => by
   have:=cntF_set hk
   omega
 | f + 1, k, s, N, hl, hkn, hk, hf, hsum => by
   have hgl:g.b.length≤maxLen:=by have:=hg.1; unfold maxLen; omega
   have hset:=cntF_set hk
   have hE:∀ x∈edgN g k,x < g.b.length:=edgN_lt he k hkn
   have hElen:(edgN g k).length≤2000000:=by
    unfold edgN
    split
    ·rename_i b hb
     simp only[List.length_map]
     exact Nat.le_trans (List.length_filter_le _ _) (succL_len hg (gMO hb))
    ·simp
   have n1:(edgN g k).length≤maxLen:=by unfold maxLen; omega
   have hkeep:=fun i=>fold_keep (edgN_lt he) f ((edgN g k).take i) (s.1.set k true,s.2) (fun x hx=>hE x (List.mem_of_mem_take hx)) (by simpa using hl) (by simp only; omega)
   refine ac_of Tryz.func206 rfl (by kernel_rfl) (by simp[Tryz.ntmps206]) fun hb=>?_
   clear hb
   rw[dfsV_eq]
   obtain⟨S,hS⟩:∃ S,s.1=S:=⟨_,rfl⟩
   have hrow:=rowsN_get (g:=g) hkn
   have hSk:=bEls_get (hS ▸ hk)
   have hrow2:=(gSI.1 hrow).2
   simp[Tryz.f206,hS,hkn,hSk,bEls_set,rowsN_len,hrow,hrow2]
   refine aLoop_of (α:=Nat) (fun i e A=>i≤(edgN g k).length∧(∃ N',A=dHp g (((edgN g k).take i).foldl (dfsS (edgN g) f) (s.1.set k true,s.2)) (N++N'))∧e 16=aI .i64 i∧e 15=aI .i64 (edgN g k).length∧e 14 = .d (.sl 1 (i64s (nI (edgN g k))))∧e 0=aI .i64 k ∧
    e 1 = .ptr 2 0 0 0∧e 2 = .ptr 0 0 0 0∧e 3 = .ptr 4 0 0 0∧e 4 = .ptr 3 0 0 0) (fun i=>(edgN g k).length - i) 0 (Sub.refl _ _ _)
    ⟨by omega,⟨[],by simp[hS]⟩,by simp,by simp,by simp,by simp,by simp,by simp,by simp,by simp⟩ ?_
   rintro i e A ⟨hi,⟨N',rfl⟩,e16,e15,e14,e0,e1,e2,e3,e4⟩ K hK
   rcases Nat.lt_or_ge i (edgN g k).length with hlt | hge
   case inr=>
    obtain rfl:i=(edgN g k).length:=by omega
    rw[List.take_length]
    have hkp:=hkeep (edgN g k).length
    rw[List.take_length] at hkp
    obtain⟨Q,hQ⟩:∃ Q,(edgN g k).foldl (dfsS (edgN g) f) (s.1.set k true,s.2)=Q:=⟨_,rfl⟩
    rw[hQ] at hkp ⊢
    have h1:=hkp.sum
    simp only at h1
    simp[e16,e15,e14,e0,e1,e2,e3,e4]
    refine aRaw_app byt_48 ?_
    simp[e4]
    have hg1:=hg.1
    refine⟨by unfold maxLen; omega,by omega,?_⟩
    rw[hS] at hQ
    rw[hQ]
    exact⟨rfl,rfl,rfl⟩
   obtain⟨x,hx⟩:∃ x,(edgN g k)[i]? = some x:=⟨_,gEG hlt⟩
   have hx2:=(gSI.1 hx).2
   have hxn:=hE x (gMO hx)
   have hkp:=hkeep i
   have ht:=foldl_take (dfsS (edgN g) f) (edgN g k) i x (s.1.set k true,s.2) hx
   obtain⟨Q,hQ⟩:∃ Q,((edgN g k).take i).foldl (dfsS (edgN g) f) (s.1.set k true,s.2)=Q:=⟨_,rfl⟩
   rw[hQ] at hkp ht ⊢
   have h1:=hkp.sum
   have h2:=hkp.le
   simp only at h1 h2
   obtain⟨b,hb⟩:∃ b,Q.1[x]? = some b:=⟨_,gEG (by rw[hkp.len]; exact hxn)⟩
   have hbe:=bEls_get hb
   have hbe2:=(gSI.1 hbe).2
   have hQl:=hkp.len
   simp[e16,e15,e14,e0,e1,e2,e3,e4,hlt,hx,hx2,hxn,hbe,hbe2]
   cases b with
   | true =>
     have hd:dfsS (edgN g) f Q x=Q:=by unfold dfsS; rw[hb]; rfl
     rw[hd] at ht
     simp[e16,succ_wrap hlt n1]
     refine hK (i + 1) _ _ _ _ (Sub.refl _ _ _) ⟨by omega,⟨N',by rw[ht]⟩,by simp,by simp[e15],by simp[e14],by simp[e0],by simp[e1],by simp[e2],by simp[e3],by simp[e4]⟩ (by omega)
   | false =>
     have hd:dfsS (edgN g) f Q x=dfsV (edgN g) f x Q:=by unfold dfsS; rw[hb]; rfl
     rw[hd] at ht
     simp[e3]
     refine aCall_ofc (visit_ac g hg he f x Q (N++N') hQl hxn hb (by omega) (by omega)) (by kernel_rfl) ?_
     rintro _ _ ⟨rfl,N2,rfl⟩
     simp[e16,succ_wrap hlt n1]
     refine hK (i + 1) _ _ _ _ (Sub.refl _ _ _) ⟨by omega,⟨N'++N2,by rw[ht]⟩,by simp,by simp[e15],by simp[e14],by simp[e0],by simp[e1],by simp[e2],by simp[e3],by simp[e4]⟩ (by omega)
def postN (g:Gr):List Nat:=(dfsV (edgN g) g.b.length 0 (List.replicate g.b.length false,[])).2
def ordN (g:Gr):List Nat:=if g.b.length=0 then [] else (postN g).reverse
theorem postN_len {g:Gr} (he:EdgOk g) (h:0 < g.b.length):(postN g).length≤g.b.length:=by
 have hk:=dfsV_keep (edgN_lt he) g.b.length 0 (List.replicate g.b.length false,[]) (by simp) h (by simp[h]) (by simp only; rw[cntF_rep]; exact Nat.le_refl _)
 have:=hk.2.1
 have h2:=cntF_rep g.b.length
 unfold postN
 simp only[List.length_nil] at this
 omega
set_option maxRecDepth 100000 in
theorem dmorder_af (g:Gr) (hg:GrFit g) (he:EdgOk g) (hrev:∀ (L:List Int) (A:AHeap) (b ver ty:Nat),A[b]? = some ⟨ver,true,ty,1,dEls (i64s L)⟩→L.length≤1000000000→ty < 1000000→AC Tryz.prog 207 [.own b ver 0 L.length] A (fun r A'=>r = .tup []∧A'=A.set b ⟨ver,true,ty,1,dEls (i64s L.reverse)⟩)) :
 AF Tryz.prog 157 [.d (.sl 1 (rowsN g g.b.length)),aI .i64 0] (.d (.sl 1 (i64s (nI (ordN g))))):=by
 have hgl:g.b.length≤maxLen:=by have:=hg.1; unfold maxLen; omega
 refine af_of Tryz.func157 rfl (by kernel_rfl) (by simp[Tryz.ntmps157]) fun _=>?_; simp[Tryz.f157,Ex.d_eq]
 by_cases h0:g.b.length=0
 ·have hr0:rowsN g 0=[]:=rfl
  simp[h0,ordN,hr0]
 have hpos:0 < g.b.length:=by omega
 have hne:¬ rowsN g g.b.length=[]:=fun h=>by have:=rowsN_len g g.b.length; rw[h] at this; simp at this; omega
 simp[hne,rowsN_len]
 refine aRaw_make (kl:=.i64) (kc:=.i64) (l:=g.b.length) (c:=g.b.length) (z:=[.d (.v (.bool false))]) byt_181 (by simp) (by simp) (by simp) (Nat.le_refl _) hgl (by have:=hg.1; omega) ?_
 simp
 rw[show List.replicate g.b.length [AV.d (.v (.bool false))]=bEls (List.replicate g.b.length false) from by simp[bEls]]
 have hv:=visit_ac g hg he g.b.length 0 (List.replicate g.b.length false,[]) [] (by simp) hpos (by simp[hpos]) (by simp only; rw[cntF_rep]; exact Nat.le_refl _) (by simp only; rw[cntF_rep]; simp)
 have hpl:=postN_len he hpos
 refine aCall_ofc (AC.pre (Sub.trans (Sub.ghost 0 3 1) (Sub.cell (b:=3) (i:=0) (o:=0) (c':=.own 5 0 0 0) rfl rfl rfl (VLe.nil_own (k:=⟨0,true,3,1,[]⟩) rfl rfl))) (args':=[aI .i64 0,.ptr 2 0 0 0,.ptr 0 0 0 0,.ptr 4 0 0 0,.ptr 3 0 0 0]) ?_ hv) (by kernel_rfl) ?_
 ·rfl
 rintro _ _ ⟨rfl,N',rfl⟩
 have hR:(dfsV (edgN g) g.b.length 0 (List.replicate g.b.length false,[])).2=postN g:=rfl
 obtain⟨Q,hQ⟩:∃ Q,dfsV (edgN g) g.b.length 0 (List.replicate g.b.length false,[])=Q:=⟨_,rfl⟩
 rw[hQ] at hR ⊢
 have hr:=hrev (nI Q.2) (dHp g Q ([]++N')) 5 Q.2.length 3 rfl (by have:=hg.1; rw[hR]; simp; omega) (by decide)
 rw[show (nI Q.2).length=Q.2.length by simp] at hr
 simp
 refine aCall_ofc hr (by kernel_rfl) ?_
 rintro _ _ ⟨rfl,rfl⟩
 simp[ordN,h0,← hR]
 have ht:List.take Q.2.length (i64s (nI Q.2).reverse)=i64s (nI Q.2).reverse:=List.take_of_length_le (by simp)
 rw[ht]
 exact NLeS.refl _
def RevOk:Prop:=∀ (L:List Int) (A:AHeap) (b ver ty:Nat),A[b]? = some ⟨ver,true,ty,1,dEls (i64s L)⟩→L.length≤1000000000→ty < 1000000→AC Tryz.prog 207 [.own b ver 0 L.length] A (fun r A'=>r = .tup []∧A'=A.set b ⟨ver,true,ty,1,dEls (i64s L.reverse)⟩)
theorem dmOrder_af (hrev:RevOk) (g:Gr) (hg:GrFit g) (he:EdgOk g):AF Tryz.prog 105 [grV g] (.d (.sl 1 (i64s (nI (ordN g))))):=by
 refine af_of Tryz.func105 rfl (by kernel_rfl) (by simp[Tryz.ntmps105]) fun _=>?_; simp[Tryz.f105,Ex.d_eq]
 refine aCall_of (dmall_af g hg he) (by kernel_rfl) (by simp) ?_
 simp
 refine aCall_of (dmorder_af g hg he hrev) (by kernel_rfl) (by simp) ?_
 simp
def reachN (g:Gr):List Bool:=(ordN g).foldl (fun s x=>s.set x true) (List.replicate g.b.length false)
theorem fold_set_len (l:List Nat) (s:List Bool):(l.foldl (fun s x=>s.set x true) s).length=s.length:=by
 induction l generalizing s with
 | nil=>rfl
 | cons x l ih=>rw[List.foldl_cons,ih]; simp
theorem dfsV_lt {n:Nat} {E:Nat→List Nat} (hE:∀ i,i < n→∀ x∈E i,x < n):∀ (f k:Nat) (s:DS2),s.1.length=n→k < n→s.1[k]? = some false→cntF s.1≤f→(∀ x∈s.2,x < n)→∀ x∈(dfsV E f k s).2,x < n
 | 0, k, s, _, _, hk, hf, _ => by
   have:=cntF_set hk
   omega
 | f + 1, k, s, hl, hkn, hk, hf, hs => by
   have hset:=cntF_set hk
   rw[dfsV_eq]
   have key:∀ (l:List Nat) (q:DS2),(∀ x∈l,x < n)→q.1.length=n→cntF q.1≤f→(∀ x∈q.2,x < n)→∀ x∈(l.foldl (dfsS E f) q).2,x < n:=by
    intro l
    induction l with
    | nil=>intro q _ _ _ h; exact h
    | cons y l ih =>
      intro q hx hql hqc hq
      have hy:=hx y (by simp)
      obtain⟨b,hb⟩:∃ b,q.1[y]? = some b:=⟨_,gEG (by omega)⟩
      rw[List.foldl_cons]
      cases b with
      | true =>
        have hd:dfsS E f q y=q:=by unfold dfsS; rw[hb]; rfl
        rw[hd]
        exact ih q (fun z hz=>hx z (by simp[hz])) hql hqc hq
      | false =>
        have hd:dfsS E f q y=dfsV E f y q:=by unfold dfsS; rw[hb]; rfl
        have hk':=dfsV_keep hE f y q hql hy hb hqc
        rw[hd]
        exact ih _ (fun z hz=>hx z (by simp[hz])) hk'.1 (by have:=hk'.2.2; omega) (dfsV_lt hE f y q hql hy hb hqc hq)
   intro x hx
   simp only[List.mem_append,List.mem_singleton] at hx
   rcases hx with hx | rfl
   ·exact key (E k) (s.1.set k true,s.2) (hE k hkn) (by simpa using hl) (by simp only; omega) hs x hx
   ·exact hkn
theorem ordN_lt {g:Gr} (he:EdgOk g):∀ x∈ordN g,x < g.b.length:=by
 intro x hx
 unfold ordN at hx
 split at hx
 ·cases hx
 ·rename_i h0
  have hpos:0 < g.b.length:=by omega
  have hx:=List.mem_reverse.1 hx
  exact dfsV_lt (edgN_lt he) g.b.length 0 (List.replicate g.b.length false,[]) (by simp) hpos (by simp[hpos]) (by simp only; rw[cntF_rep]; exact Nat.le_refl _) (by simp) x hx
theorem ordN_len {g:Gr} (he:EdgOk g):(ordN g).length≤g.b.length:=by
 unfold ordN
 split
 ·simp
 ·rw[List.length_reverse]
  exact postN_len he (by omega)
set_option maxRecDepth 100000 in
theorem dmreach_af (hrev:RevOk) (g:Gr) (hg:GrFit g) (he:EdgOk g):AF Tryz.prog 139 [grV g] (.d (.sl 1 ((reachN g).map fun b=>[.v (.bool b)]))):=by
 have hgl:g.b.length≤maxLen:=by have:=hg.1; unfold maxLen; omega
 have hol:=ordN_len he
 have n1:(ordN g).length≤maxLen:=by omega
 refine af_of Tryz.func139 rfl (by kernel_rfl) (by simp[Tryz.ntmps139]) fun _=>?_; simp[Tryz.f139,Ex.d_eq]
 refine aRaw_make (kl:=.i64) (kc:=.i64) (l:=g.b.length) (c:=g.b.length) (z:=[.d (.v (.bool false))]) byt_181 (by simp) (by simp) (by simp) (Nat.le_refl _) hgl (by have:=hg.1; omega) ?_
 simp
 refine aCall_of (dmOrder_af hrev g hg he) (by kernel_rfl) (by simp) ?_
 simp
 refine aLoop_of (α:=Nat) (fun i e A=>i≤(ordN g).length∧(∃ N:AHeap,A=gB g::⟨0,true,4,1,bEls (((ordN g).take i).foldl (fun s x=>s.set x true) (List.replicate g.b.length false))⟩::N) ∧
  e 13=aI .i64 i∧e 12=aI .i64 (ordN g).length∧e 11 = .d (.sl 1 (i64s (nI (ordN g))))∧e 3 = .own 1 0 0 g.b.length) (fun i=>(ordN g).length - i) 0 (Sub.refl _ _ _)
  ⟨by omega,⟨[],by simp[bEls]⟩,by simp,by simp,by simp,by simp⟩ ?_
 rintro i e A ⟨hi,⟨N,rfl⟩,e13,e12,e11,e3⟩ K hK
 rcases Nat.lt_or_ge i (ordN g).length with hlt | hge
 case inr=>
  obtain rfl:i=(ordN g).length:=by omega
  rw[List.take_length]
  obtain⟨R,hR⟩:∃ R,(ordN g).foldl (fun s x=>s.set x true) (List.replicate g.b.length false)=R:=⟨_,rfl⟩
  have hRl:R.length=g.b.length:=by rw[← hR,fold_set_len]; simp
  have hr:reachN g=R:=hR
  have hd:bEls R=dEls (R.map fun b=>[.v (.bool b)]):=by simp[bEls,dEls]
  have ht:(R.map fun b=>[D.v (.bool b)]).take g.b.length=R.map fun b=>[D.v (.bool b)]:=List.take_of_length_le (by simp[hRl])
  rw[hR,hd]
  obtain⟨X,hX⟩:∃ X,(R.map fun b=>[D.v (.bool b)])=X:=⟨_,rfl⟩
  rw[hX] at ht
  have hXl:X.length=g.b.length:=by rw[← hX]; simp[hRl]
  simp only[hX]
  simp[e13,e12,e3,hr,hX,ht,hXl]
 obtain⟨x,hx⟩:∃ x,(ordN g)[i]? = some x:=⟨_,gEG hlt⟩
 have hx2:=(gSI.1 hx).2
 have hxn:=ordN_lt he x (gMO hx)
 have ht:=foldl_take (fun (s:List Bool) x=>s.set x true) (ordN g) i x (List.replicate g.b.length false) hx
 obtain⟨R,hR⟩:∃ R,((ordN g).take i).foldl (fun s x=>s.set x true) (List.replicate g.b.length false)=R:=⟨_,rfl⟩
 have hRl:R.length=g.b.length:=by rw[← hR,fold_set_len]; simp
 rw[hR] at ht ⊢
 obtain⟨b,hb⟩:∃ b,R[x]? = some b:=⟨_,gEG (by omega)⟩
 have hbe:=bEls_get hb
 simp[e13,e12,e11,e3,hlt,hx,hx2,hxn,hbe,bEls_set,succ_wrap hlt n1]
 refine hK (i + 1) _ _ _ _ (Sub.refl _ _ _) ⟨by omega,⟨N,by rw[ht]⟩,by simp,by simp[e12],by simp[e11],by simp[e3]⟩ (by omega)
inductive Anc (o:Nat→Option Nat):Nat→Nat→Prop
 | refl (x:Nat):Anc o x x
 | step {x y z:Nat}:o x=some y→Anc o y z→Anc o x z
theorem Anc.trans {o:Nat→Option Nat} {x y z:Nat} (h:Anc o x y) (g:Anc o y z):Anc o x z:=by
 induction h with
 | refl=>exact g
 | step h _ ih=>exact .step h (ih g)
theorem Anc.tail {o:Nat→Option Nat} {x y w:Nat} (h:Anc o x w) (hne:x≠w) (hx:o x=some y):Anc o y w:=by
 cases h with
 | refl=>exact absurd rfl hne
 | step h g=>rw[hx] at h; obtain rfl:=oSI h; exact g
theorem Anc.none {o:Nat→Option Nat} {x w:Nat} (h:Anc o x w) (hx:o x=none):w=x:=by
 cases h with
 | refl=>rfl
 | step h g=>rw[hx] at h; cases h
structure DG where
 rc:Nat→Bool
 pl:Nat→Nat
 B:Nat→List Nat
 r:Nat
 l:List Nat
structure DG.Ok (G:DG):Prop where
 root:G.rc G.r=true
 pl0:G.pl G.r=0
 inj:∀ x y,G.rc x=true→G.rc y=true→G.pl x=G.pl y→x=y
 mem:∀ x,x∈G.l↔G.rc x=true
 sorted:G.l.Pairwise fun x y=>G.pl x < G.pl y
 par:∀ k,G.rc k=true→k≠G.r→∃ q∈G.B k,G.rc q=true∧G.pl q < G.pl k
section
variable {G:DG} {o m:Nat→Option Nat}
def Vl (G:DG) (o:Nat→Option Nat) (x:Nat):Prop:=G.rc x=true∧(x=G.r∨(o x).isSome=true)
def OInv (G:DG) (o:Nat→Option Nat):Prop:=∀ x y,o x=some y→G.rc x=true∧x≠G.r∧Vl G o y∧G.pl y < G.pl x
theorem OInv.root (h:OInv G o):o G.r=none:=by
 cases hr:o G.r with
 | none=>rfl
 | some y=>exact absurd rfl (h _ _ hr).2.1
theorem OInv.anc (h:OInv G o) {x w:Nat} (ha:Anc o x w):x=w∨(Vl G o w∧G.pl w < G.pl x):=by
 induction ha with
 | refl=>exact .inl rfl
 | step hx g ih =>
   obtain⟨_,_,h3,h4⟩:=h _ _ hx
   rcases ih with rfl | ⟨i1,i2⟩
   ·exact .inr ⟨h3,h4⟩
   ·exact .inr ⟨i1,by omega⟩
theorem OInv.le (h:OInv G o) {x w:Nat} (ha:Anc o x w):G.pl w≤G.pl x:=by
 rcases h.anc ha with rfl | ⟨_,h2⟩
 ·exact Nat.le_refl _
 ·omega
theorem OInv.vl (h:OInv G o) {x w:Nat} (hv:Vl G o x) (ha:Anc o x w):Vl G o w:=by
 rcases h.anc ha with rfl | ⟨h1,_⟩
 ·exact hv
 ·exact h1
def com (G:DG) (o:Nat→Option Nat):Nat→Nat→Nat→Nat
 | 0,a,_=>a
 | f + 1, a, b => if a = b then a else if G.pl b < G.pl a then (match o a with
   | some a'=>com G o f a' b
   | none=>a) else (match o b with
   | some b'=>com G o f a b'
   | none=>a)
structure IsCom (o:Nat→Option Nat) (a b c:Nat):Prop where
 l:Anc o a c
 r:Anc o b c
 all:∀ w,Anc o a w→Anc o b w→Anc o c w
theorem com_spec (hG:G.Ok) (h:OInv G o):∀ (f a b:Nat),Vl G o a→Vl G o b→G.pl a + G.pl b≤f→IsCom o a b (com G o f a b)
 | 0, a, b, ha, hb, hf => by
   have:a=b:=hG.inj a b ha.1 hb.1 (by omega)
   subst this
   exact⟨.refl _,.refl _,fun w h _=>h⟩
 | f + 1, a, b, ha, hb, hf => by
   unfold com
   by_cases hab:a=b
   ·subst hab
    rw[if_pos rfl]
    exact⟨.refl _,.refl _,fun w h _=>h⟩
   rw[if_neg hab]
   by_cases hlt:G.pl b < G.pl a
   ·rw[if_pos hlt]
    have har:a≠G.r:=fun h=>by rw[h,hG.pl0] at hlt; omega
    cases hoa:o a with
    | none=>exact absurd (ha.2.resolve_left har) (by simp[hoa])
    | some a' =>
      obtain⟨_,_,h3,h4⟩:=h _ _ hoa
      have ih:=com_spec hG h f a' b h3 hb (by omega)
      refine⟨.step hoa ih.l,ih.r,fun w h1 h2=>ih.all w (h1.tail (fun e=>?_) hoa) h2⟩
      have:=h.le h2
      rw[← e] at this
      omega
   ·rw[if_neg hlt]
    have hbr:b≠G.r:=fun h=>by
     rw[h,hG.pl0] at hlt
     have:=hG.inj a G.r ha.1 hG.root (by rw[hG.pl0]; omega)
     exact hab (by rw[this,h])
    cases hob:o b with
    | none=>exact absurd (hb.2.resolve_left hbr) (by simp[hob])
    | some b' =>
      obtain⟨_,_,h3,h4⟩:=h _ _ hob
      have ih:=com_spec hG h f a b' ha h3 (by omega)
      refine⟨ih.l,.step hob ih.r,fun w h1 h2=>ih.all w h1 (h2.tail (fun e=>?_) hob)⟩
      have:=h.le h1
      rw[← e] at this
      exact hab (hG.inj a b ha.1 hb.1 (by omega))
def okP (G:DG) (o:Nat→Option Nat) (p:Nat):Bool:=G.rc p && (decide (p=G.r) || (o p).isSome)
theorem okP_iff {p:Nat}:okP G o p=true↔Vl G o p:=by simp[okP,Vl]
def bst (G:DG) (o:Nat→Option Nat):List Nat→Option Nat→Option Nat
 | [],b=>b
 | p :: ps, b => bst G o ps (if okP G o p = true then (match b with
   | none=>some p
   | some c=>some (com G o (G.pl c + G.pl p) c p)) else b)
theorem bst_spec (hG:G.Ok) (h:OInv G o):∀ (ps:List Nat) (b:Option Nat),(∀ c,b=some c→Vl G o c) →
 (∀ c,bst G o ps b=some c→Vl G o c∧(∀ p∈ps,Vl G o p→Anc o p c)∧(∀ c0,b=some c0→Anc o c0 c)∧∀ w,(∀ p∈ps,Vl G o p→Anc o p w)→(∀ c0,b=some c0→Anc o c0 w)→Anc o c w∨(b=none∧∀ p∈ps,¬ Vl G o p)) ∧
 (bst G o ps b=none→b=none∧∀ p∈ps,¬ Vl G o p)
 | [], b, hb => by
   refine⟨fun c hc=>⟨hb c hc,by simp,fun c0 h0=>?_,fun w _ hw=>.inl (hw c hc)⟩,fun hn=>⟨hn,by simp⟩⟩
   have hc':b=some c:=hc
   rw[hc'] at h0
   obtain rfl:=oSI h0
   exact .refl _
 | p :: ps, b, hb => by
   unfold bst
   by_cases hp:okP G o p=true
   ·have hv:=okP_iff.1 hp
    rw[if_pos hp]
    cases b with
    | none =>
      obtain⟨i1,i2⟩:=bst_spec hG h ps (some p) (fun c hc=>by obtain rfl:=oSI hc; exact hv)
      refine⟨fun c hc=>?_,fun hn=>by have:=(i2 hn).1; cases this⟩
      obtain⟨j1,j2,j3,j4⟩:=i1 c hc
      refine⟨j1,fun q hq hvq=>?_,fun c0 h0=>(by cases h0),fun w hw _=>?_⟩
      ·rcases List.mem_cons.1 hq with rfl | hq
       ·exact j3 _ rfl
       ·exact j2 q hq hvq
      ·rcases j4 w (fun q hq hvq=>hw q (List.mem_cons_of_mem _ hq) hvq) (fun c0 h0=>by obtain rfl:=oSI h0; exact hw _ List.mem_cons_self hv) with g | g
       ·exact .inl g
       ·cases g.1
    | some c1 =>
      have hv1:=hb c1 rfl
      have hc:=com_spec hG h (G.pl c1 + G.pl p) c1 p hv1 hv (Nat.le_refl _)
      obtain⟨i1,i2⟩:=bst_spec hG h ps (some (com G o (G.pl c1 + G.pl p) c1 p)) (fun c hc'=>by obtain rfl:=oSI hc'; exact h.vl hv1 hc.l)
      refine⟨fun c hc'=>?_,fun hn=>by have:=(i2 hn).1; cases this⟩
      obtain⟨j1,j2,j3,j4⟩:=i1 c hc'
      refine⟨j1,fun q hq hvq=>?_,fun c0 h0=>?_,fun w hw hw0=>?_⟩
      ·rcases List.mem_cons.1 hq with rfl | hq
       ·exact hc.r.trans (j3 _ rfl)
       ·exact j2 q hq hvq
      ·obtain rfl:=oSI h0
       exact hc.l.trans (j3 _ rfl)
      ·rcases j4 w (fun q hq hvq=>hw q (List.mem_cons_of_mem _ hq) hvq) (fun c0 h0=>by obtain rfl:=oSI h0; exact hc.all w (hw0 _ rfl) (hw _ List.mem_cons_self hv)) with g | g
       ·exact .inl g
       ·cases g.1
   ·rw[if_neg hp]
    have hnv:¬ Vl G o p:=fun h=>hp (okP_iff.2 h)
    obtain⟨i1,i2⟩:=bst_spec hG h ps b hb
    refine⟨fun c hc=>?_,fun hn=>?_⟩
    ·obtain⟨j1,j2,j3,j4⟩:=i1 c hc
     refine⟨j1,fun q hq hvq=>?_,j3,fun w hw hw0=>?_⟩
     ·rcases List.mem_cons.1 hq with rfl | hq
      ·exact absurd hvq hnv
      ·exact j2 q hq hvq
     ·rcases j4 w (fun q hq hvq=>hw q (List.mem_cons_of_mem _ hq) hvq) hw0 with g | ⟨g1,g2⟩
      ·exact .inl g
      ·exact .inr ⟨g1,fun q hq=>by
        rcases List.mem_cons.1 hq with rfl | hq
        ·exact hnv
        ·exact g2 q hq⟩
    ·obtain⟨g1,g2⟩:=i2 hn
     exact⟨g1,fun q hq=>by
      rcases List.mem_cons.1 hq with rfl | hq
      ·exact hnv
      ·exact g2 q hq⟩
def upd1 (o:Nat→Option Nat) (k:Nat) (v:Option Nat):Nat→Option Nat:=fun x=>if x=k then v else o x
def step1 (G:DG) (o:Nat→Option Nat) (k:Nat):Nat→Option Nat:=if k=G.r then o else upd1 o k (bst G o (G.B k) none)
def pass1 (G:DG) (o:Nat→Option Nat):Nat→Option Nat:=G.l.foldl (step1 G) o
theorem step1_some (hG:G.Ok) (h:OInv G o) {k:Nat} (hk:G.rc k=true) (hkr:k≠G.r) (hall:∀ q,G.rc q=true→G.pl q < G.pl k→Vl G o q) :
 ∃ c,bst G o (G.B k) none=some c∧Vl G o c∧G.pl c < G.pl k∧(∀ p∈G.B k,Vl G o p→Anc o p c)∧∀ w,(∀ p∈G.B k,Vl G o p→Anc o p w)→Anc o c w:=by
 obtain⟨q,hq,hq1,hq2⟩:=hG.par k hk hkr
 have hqv:=hall q hq1 hq2
 obtain⟨i1,i2⟩:=bst_spec hG h (G.B k) none (fun c hc=>by cases hc)
 cases hb:bst G o (G.B k) none with
 | none=>exact absurd hqv ((i2 hb).2 q hq)
 | some c =>
   obtain⟨j1,j2,_,j4⟩:=i1 c hb
   have hqc:=j2 q hq hqv
   have:=h.le hqc
   refine⟨c,rfl,j1,by omega,j2,fun w hw=>?_⟩
   rcases j4 w hw (fun c0 h0=>by cases h0) with g | ⟨_,g⟩
   ·exact g
   ·exact absurd hqv (g q hq)
theorem Anc.upd (h:OInv G o) {k x w:Nat} {v:Option Nat} (hx:G.pl x < G.pl k):Anc (upd1 o k v) x w↔Anc o x w:=by
 constructor
 ·intro ha
  induction ha with
  | refl=>exact .refl _
  | @step x y z hxy _ ih =>
    have hne:x≠k:=fun e=>by rw[e] at hx; omega
    have hxy':o x=some y:=by simpa [upd1,hne] using hxy
    exact .step hxy' (ih (by have:=(h _ _ hxy').2.2.2; omega))
 ·intro ha
  induction ha with
  | refl=>exact .refl _
  | @step x y z hxy _ ih =>
    have hne:x≠k:=fun e=>by rw[e] at hx; omega
    exact .step (by simpa [upd1,hne] using hxy) (ih (by have:=(h _ _ hxy).2.2.2; omega))
theorem OInv.upd (h:OInv G o) {k c:Nat} (hk:G.rc k=true) (hkr:k≠G.r) (hc:Vl G o c) (hlt:G.pl c < G.pl k):OInv G (upd1 o k (some c)):=by
 have hvl:∀ y,Vl G o y→Vl G (upd1 o k (some c)) y:=fun y hy=>⟨hy.1,by
  rcases hy.2 with h | h
  ·exact .inl h
  ·by_cases hyk:y=k
   ·exact .inr (by simp[upd1,hyk])
   ·exact .inr (by simpa [upd1,hyk] using h)⟩
 intro x y hxy
 by_cases hxk:x=k
 ·subst hxk
  simp[upd1] at hxy
  subst hxy
  exact⟨hk,hkr,hvl _ hc,hlt⟩
 ·have hxy':o x=some y:=by simpa [upd1,hxk] using hxy
  obtain⟨h1,h2,h3,h4⟩:=h _ _ hxy'
  exact⟨h1,h2,hvl _ h3,h4⟩
end
inductive Av (G:DG) (w:Nat):Nat→Nat→Prop
 | root:w≠G.r→Av G w 0 G.r
 | mono {i k:Nat}:Av G w i k→Av G w (i + 1) k
 | fwd {i p k:Nat}:Av G w i p→p∈G.B k→G.rc p=true→G.rc k=true→G.pl p < G.pl k→k≠w→Av G w i k
 | ret {i p k:Nat}:Av G w i p→p∈G.B k→G.rc p=true→G.rc k=true→G.pl k≤G.pl p→k≠w→Av G w (i + 1) k
def Dm (G:DG) (w x:Nat):Prop:=∀ j,¬ Av G w j x
section
variable {G:DG} {o m:Nat→Option Nat}
theorem Av.ne {w i k:Nat} (h:Av G w i k):k≠w:=by
 induction h with
 | root h=>exact fun e=>h e.symm
 | mono _ ih=>exact ih
 | fwd _ _ _ _ _ h _=>exact h
 | ret _ _ _ _ _ h _=>exact h
theorem Av.up {w i k:Nat} (h:Av G w i k):∀ n,Av G w (i + n) k
 | 0=>h
 | n + 1=>.mono (h.up n)
theorem Av.le {w i j k:Nat} (h:Av G w i k) (hij:i≤j):Av G w j k:=by
 have:=h.up (j - i)
 rwa [show i + (j - i)=j by omega] at this
theorem Av.split {w i p:Nat} (h:Av G w i p) (q:Nat):Av G w i q∨Av G q i p:=by
 induction h with
 | root h =>
   by_cases hq:q=G.r
   ·rw[hq]; exact .inl (.root h)
   ·exact .inr (.root hq)
 | mono _ ih=>exact ih.imp .mono .mono
 | @fwd i p k h h1 h2 h3 h4 h5 ih =>
   by_cases hk:k=q
   ·rw[← hk]; exact .inl (.fwd h h1 h2 h3 h4 h5)
   ·exact ih.imp id fun g=>.fwd g h1 h2 h3 h4 hk
 | @ret i p k h h1 h2 h3 h4 h5 ih =>
   by_cases hk:k=q
   ·rw[← hk]; exact .inl (.ret h h1 h2 h3 h4 h5)
   ·exact ih.imp .mono fun g=>.ret g h1 h2 h3 h4 hk
theorem Av.inv {w i k:Nat} (h:Av G w i k):k=G.r∨(∃ p,Av G w i p∧p∈G.B k∧G.rc p=true∧G.pl p < G.pl k)∨∃ j p,i=j + 1∧Av G w j p∧p∈G.B k∧G.rc p=true∧G.pl k≤G.pl p:=by
 induction h with
 | root _=>exact .inl rfl
 | mono _ ih =>
   rcases ih with h | ⟨p,h1,h2⟩ | ⟨j,p,rfl,h1,h2⟩
   ·exact .inl h
   ·exact .inr (.inl ⟨p,.mono h1,h2⟩)
   ·exact .inr (.inr ⟨j + 1,p,rfl,.mono h1,h2⟩)
 | @fwd i p k h h1 h2 h3 h4 h5 ih=>exact .inr (.inl ⟨p,h,h1,h2,h4⟩)
 | @ret i p k h h1 h2 h3 h4 h5 ih=>exact .inr (.inr ⟨i,p,rfl,h,h1,h2,h4⟩)
theorem tree_av (hG:G.Ok) {k:Nat}:∀ (n q:Nat),G.pl q≤n→G.rc q=true→G.pl q < G.pl k→Av G k 0 q
 | n, q, hn, hq, hlt => by
   by_cases hr:q=G.r
   ·rw[hr]
    exact .root fun e=>by rw[e,hr] at hlt; omega
   ·obtain⟨p,h1,h2,h3⟩:=hG.par q hq hr
    cases n with
    | zero=>omega
    | succ n=>exact .fwd (tree_av hG n p (by omega) h2 (by omega)) h1 h2 hq h3 (fun e=>by rw[e] at hlt; omega)
theorem reach_av (hG:G.Ok) {w j k:Nat} (hk:Av G w j k) (hw:G.pl w < G.pl k):∀ (n x:Nat),G.pl x≤n→G.rc x=true→¬ Av G k 0 x→Av G w j x
 | n, x, hn, hx, hno => by
   have hge:G.pl k≤G.pl x:=by
    rcases Nat.lt_or_ge (G.pl x) (G.pl k) with h | h
    ·exact absurd (tree_av hG n x hn hx h) hno
    ·exact h
   by_cases hxk:x=k
   ·rw[hxk]; exact hk
   ·by_cases hr:x=G.r
    ·refine absurd ?_ hno
     rw[hr]
     exact .root fun e=>hxk (by rw[hr,e])
    ·obtain⟨p,h1,h2,h3⟩:=hG.par x hx hr
     cases n with
     | zero=>omega
     | succ n =>
       have hp:=reach_av hG hk hw n p (by omega) h2 fun h=>hno (.fwd h h1 h2 hx h3 hxk)
       exact .fwd hp h1 h2 hx h3 (fun e=>by rw[e] at hge; omega)
structure Pre (G:DG) (o:Nat→Option Nat) (i:Nat):Prop where
 inv:OInv G o
 d:∀ x w,Vl G o x→Dm G w x→Anc o x w
 z:i=0→∀ x,o x=none
 s:∀ j,i=j + 1→(∀ x,G.rc x=true→Vl G o x)∧∀ x w,G.rc x=true→Av G w j x→¬ Anc o x w
structure Mid1 (G:DG) (o m:Nat→Option Nat) (i t:Nat):Prop where
 inv:OInv G m
 vl:∀ x,G.rc x=true→G.pl x < t→Vl G m x
 old:∀ x,G.rc x=true→t≤G.pl x→m x=o x
 q:∀ x w,G.rc x=true→G.pl x < t→Av G w i x→¬ Anc m x w
 d:∀ x w,Vl G m x→Dm G w x→Anc m x w
theorem Mid1.split {i t:Nat} (h:Mid1 G o m i t) {p w:Nat} (ha:Anc m p w):(∃ q,Anc o p q∧G.rc q=true∧G.pl q < t∧Anc m q w)∨Anc o p w:=by
 induction ha with
 | refl=>exact .inr (.refl _)
 | @step x y z hxy hyz ih =>
   have hx:=(h.inv _ _ hxy).1
   by_cases hlt:G.pl x < t
   ·exact .inl ⟨x,.refl _,hx,hlt,.step hxy hyz⟩
   ·have ho:=h.old x hx (by omega)
    rw[hxy] at ho
    rcases ih with⟨q,h1,h2⟩ | h1
    ·exact .inl ⟨q,.step ho.symm h1,h2⟩
    ·exact .inr (.step ho.symm h1)
theorem Mid1.mixed {j t:Nat} (hp:Pre G o (j + 1)) (h:Mid1 G o m (j + 1) t) {p w:Nat} (hr:G.rc p=true) (ha:Av G w j p):¬ Anc m p w:=by
 intro hm
 rcases h.split hm with⟨q,h1,h2,h3,h4⟩ | h1
 ·rcases ha.split q with g | g
  ·exact h.q q w h2 h3 g.mono h4
  ·exact (hp.s j rfl).2 p q hr g h1
 ·exact (hp.s j rfl).2 p w hr ha h1
theorem Mid1.q0 {i t:Nat} (hp:Pre G o i) (h:Mid1 G o m i t) {x k:Nat} (hx:G.rc x=true) (ha:Anc m x k):¬ Av G k 0 x:=by
 intro hv
 rcases Nat.lt_or_ge (G.pl x) t with hlt | hge
 ·exact h.q x k hx hlt (hv.le (Nat.zero_le _)) ha
 ·cases i with
  | zero =>
    have:=h.old x hx hge
    rw[hp.z rfl x] at this
    exact hv.ne (ha.none this).symm
  | succ j=>exact h.mixed hp hx (hv.le (Nat.zero_le _)) ha
theorem Vl.upd {k c:Nat} {x:Nat} (h:Vl G m x):Vl G (upd1 m k (some c)) x:=⟨h.1,by
 rcases h.2 with h | h
 ·exact .inl h
 ·by_cases hk:x=k
  ·exact .inr (by simp[upd1,hk])
  ·exact .inr (by simpa [upd1,hk] using h)⟩
theorem Vl.of_upd {k c:Nat} {x:Nat} (hx:x≠k) (h:Vl G (upd1 m k (some c)) x):Vl G m x:=⟨h.1,h.2.imp id fun h=>by simpa [upd1,hx] using h⟩
theorem Anc.upd_cases {k x w:Nat} {v:Option Nat} (h:Anc m x w):Anc (upd1 m k v) x w∨(Anc (upd1 m k v) x k∧Anc m x k∧Anc m k w):=by
 induction h with
 | refl=>exact .inl (.refl _)
 | @step x y z hxy hyz ih =>
   by_cases hk:x=k
   ·subst hk
    exact .inr ⟨.refl _,.refl _,.step hxy hyz⟩
   ·have hxy':upd1 m k v x=some y:=by simpa [upd1,hk] using hxy
    rcases ih with h | ⟨h1,h2,h3⟩
    ·exact .inl (.step hxy' h)
    ·exact .inr ⟨.step hxy' h1,.step hxy h2,h3⟩
theorem mid_step (hG:G.Ok) {i t k:Nat} (hp:Pre G o i) (h:Mid1 G o m i t) (hk:G.rc k=true) (ht:G.pl k=t):Mid1 G o (step1 G m k) i (t + 1):=by
 unfold step1
 by_cases hkr:k=G.r
 ·rw[if_pos hkr]
  have ht0:t=0:=by rw[← ht,hkr,hG.pl0]
  have hone:∀ x,G.rc x=true→G.pl x < t + 1→x=G.r:=fun x hx hl=>hG.inj x G.r hx hG.root (by rw[hG.pl0]; omega)
  refine⟨h.inv,fun x hx hl=>⟨hx,.inl (hone x hx hl)⟩,fun x hx hl=>h.old x hx (by omega),fun x w hx hl hv ha=>?_,h.d⟩
  rw[hone x hx hl] at hv ha
  exact hv.ne (ha.none h.inv.root).symm
 rw[if_neg hkr]
 obtain⟨c,hb,hc,hcl,hall,hbest⟩:=step1_some hG h.inv hk hkr (fun q h1 h2=>h.vl q h1 (by omega))
 rw[hb]
 have hinv:=h.inv.upd hk hkr hc hcl
 have hkc:upd1 m k (some c) k=some c:=by simp[upd1]
 have hdk:∀ w,Dm G w k→Anc (upd1 m k (some c)) k w:=fun w hw=>by
  by_cases hwk:w=k
  ·rw[hwk]; exact .refl _
  ·have hcw:=hbest w fun p hp1 hp2=>h.d p w hp2 fun j hv=>by
    rcases Nat.lt_or_ge (G.pl p) (G.pl k) with hlt | hge
    ·exact hw j (.fwd hv hp1 hp2.1 hk hlt (Ne.symm hwk))
    ·exact hw (j + 1) (.ret hv hp1 hp2.1 hk hge (Ne.symm hwk))
   exact .step hkc ((Anc.upd h.inv hcl).2 hcw)
 refine⟨hinv,fun x hx hl=>?_,fun x hx hl=>?_,fun x w hx hl hv ha=>?_,fun x w hx hw=>?_⟩
 ·by_cases hxk:x=k
  ·rw[hxk]; exact⟨hk,.inr (by simp[upd1])⟩
  ·have:G.pl x≠G.pl k:=fun e=>hxk (hG.inj x k hx hk e)
   exact (h.vl x hx (by omega)).upd
 ·have hxk:x≠k:=fun e=>by rw[e] at hl; omega
  simp only[upd1,if_neg hxk]
  exact h.old x hx (by omega)
 ·by_cases hxk:x=k
  ·subst hxk
   have hcw:Anc m c w:=(Anc.upd h.inv hcl).1 (ha.tail hv.ne hkc)
   rcases hv.inv with e | ⟨p,h1,h2,h3,h4⟩ | ⟨j,p,rfl,h1,h2,h3,h4⟩
   ·exact hkr e
   ·exact h.q p w h3 (by omega) h1 ((hall p h2 (h.vl p h3 (by omega))).trans hcw)
   ·have hpv:Vl G m p:=by
     have ho:=(hp.s j rfl).1 p h3
     have hold:=h.old p h3 (by omega)
     exact⟨h3,by rw[hold]; exact ho.2⟩
    exact h.mixed hp h3 h1 ((hall p h2 hpv).trans hcw)
  ·have:G.pl x≠G.pl k:=fun e=>hxk (hG.inj x k hx hk e)
   exact h.q x w hx (by omega) hv ((Anc.upd h.inv (by omega)).1 ha)
 ·by_cases hxk:x=k
  ·rw[hxk] at hw ⊢
   exact hdk w hw
  ·have hxv:=hx.of_upd hxk
   rcases (h.d x w hxv hw).upd_cases (k:=k) (v:=some c) with g | ⟨g1,g2,g3⟩
   ·exact g
   ·by_cases hwk:Dm G w k
    ·exact g1.trans (hdk w hwk)
    ·exfalso
     obtain⟨j,hj⟩:∃ j,Av G w j k:=Classical.byContradiction fun hn=>hwk fun j hj=>hn ⟨j,hj⟩
     have hwl:G.pl w < G.pl k:=by
      rcases h.inv.anc g3 with e | ⟨_,e⟩
      ·exact absurd e hj.ne
      ·exact e
     exact hw j (reach_av hG hj hwl (G.pl x) x (Nat.le_refl _) hx.1 (h.q0 hp hx.1 g2))
theorem Mid1.lift {i t t':Nat} (h:Mid1 G o m i t) (htt:t≤t') (hno:∀ x,G.rc x=true→G.pl x < t'→G.pl x < t):Mid1 G o m i t':=
 ⟨h.inv,fun x hx hl=>h.vl x hx (hno x hx hl),fun x hx hl=>h.old x hx (by omega),fun x w hx hl=>h.q x w hx (hno x hx hl),h.d⟩
theorem mid_fold (hG:G.Ok) {i:Nat} (hp:Pre G o i):∀ (l:List Nat) (m:Nat→Option Nat) (t:Nat),(∀ x∈l,G.rc x=true∧t≤G.pl x)→l.Pairwise (fun x y=>G.pl x < G.pl y)→(∀ x,G.rc x=true→t≤G.pl x→x∈l)→Mid1 G o m i t →
 ∃ t',(∀ x,G.rc x=true→G.pl x < t')∧Mid1 G o (l.foldl (step1 G) m) i t'
 | [],m,t,_,_,hall,h=>⟨t,fun x hx=>by
  rcases Nat.lt_or_ge (G.pl x) t with g | g
  ·exact g
  ·exact absurd (hall x hx g) (by simp),h⟩
 | k :: l, m, t, hl, hs, hall, h => by
   obtain⟨hs1,hs2⟩:=List.pairwise_cons.1 hs
   obtain⟨hk1,hk2⟩:=hl k (by simp)
   have h1:Mid1 G o m i (G.pl k):=h.lift hk2 fun x hx hlt=>by
    rcases Nat.lt_or_ge (G.pl x) t with g | g
    ·exact g
    ·rcases List.mem_cons.1 (hall x hx g) with e | e
     ·rw[e] at hlt; omega
     ·have:=hs1 x e; omega
   have h2:=mid_step hG hp h1 hk1 rfl
   exact mid_fold hG hp l _ (G.pl k + 1) (fun x hx=>⟨(hl x (by simp[hx])).1,hs1 x hx⟩) hs2 (fun x hx hge=>by
    rcases List.mem_cons.1 (hall x hx (by omega)) with e | e
    ·rw[e] at hge; omega
    ·exact e) h2
theorem pass_pre (hG:G.Ok) {i:Nat} (hp:Pre G o i):Pre G (pass1 G o) (i + 1):=by
 have h0:Mid1 G o o i 0:=⟨hp.inv,fun x _ hl=>by omega,fun x _ _=>rfl,fun x w _ hl=>by omega,hp.d⟩
 obtain⟨t,ht,hm⟩:=mid_fold hG hp G.l o 0 (fun x hx=>⟨(hG.mem x).1 hx,Nat.zero_le _⟩) hG.sorted (fun x hx _=>(hG.mem x).2 hx) h0
 exact⟨hm.inv,hm.d,fun h=>by omega,fun j hj=>by
  obtain rfl:j=i:=by omega
  exact⟨fun x hx=>hm.vl x hx (ht x hx),fun x w hx hv=>hm.q x w hx (ht x hx) hv⟩⟩
theorem pre_zero (hG:G.Ok):Pre G (fun _=>none) 0:=by
 refine⟨fun x y h=>by simp at h,fun x w hx hw=>?_,fun _ x=>rfl,fun j h=>by omega⟩
 have hr:x=G.r:=hx.2.resolve_right (by simp)
 have:w=G.r:=Classical.byContradiction fun hne=>hw 0 (by rw[hr]; exact .root hne)
 rw[hr,this]
 exact .refl _
theorem pre_anc {J:Nat} (hJ:∀ w x,G.rc x=true→G.rc w=true→(∃ j,Av G w j x)→Av G w J x) (hp:Pre G o (J + 1)) {x w:Nat} (hx:G.rc x=true) (hw:G.rc w=true):Anc o x w↔Dm G w x:=by
 constructor
 ·intro ha j hv
  exact (hp.s J rfl).2 x w hx (hJ w x hx hw ⟨j,hv⟩) ha
 ·exact hp.d x w ((hp.s J rfl).1 x hx)
theorem anc_ext (hG:G.Ok) {o1 o2:Nat→Option Nat} (i1:OInv G o1) (i2:OInv G o2) (v1:∀ x,G.rc x=true→Vl G o1 x) (v2:∀ x,G.rc x=true→Vl G o2 x) (h:∀ x w,G.rc x=true→G.rc w=true→(Anc o1 x w↔Anc o2 x w)):o1=o2:=by
 funext x
 cases h1:o1 x with
 | none =>
   cases h2:o2 x with
   | none=>rfl
   | some y =>
     obtain⟨g1,g2,_⟩:=i2 _ _ h2
     have:=(v1 x g1).2.resolve_left g2
     rw[h1] at this
     cases this
 | some y1 =>
   obtain⟨g1,g2,g3,g4⟩:=i1 _ _ h1
   have h2':=(v2 x g1).2.resolve_left g2
   obtain⟨y2,h2⟩:=Option.isSome_iff_exists.1 h2'
   obtain⟨_,_,k3,k4⟩:=i2 _ _ h2
   have a1:Anc o2 x y1:=(h x y1 g1 g3.1).1 (.step h1 (.refl _))
   have a2:Anc o1 x y2:=(h x y2 g1 k3.1).2 (.step h2 (.refl _))
   have b1:=i2.le (a1.tail (fun e=>by rw[e] at g4; omega) h2)
   have b2:=i1.le (a2.tail (fun e=>by rw[e] at k4; omega) h1)
   rw[h2,hG.inj y1 y2 g3.1 k3.1 (by omega)]
def iter1 (G:DG):Nat→Nat→Option Nat
 | 0=>fun _=>none
 | n + 1=>pass1 G (iter1 G n)
theorem iter_pre (hG:G.Ok):∀ n,Pre G (iter1 G n) n
 | 0=>pre_zero hG
 | n + 1=>pass_pre hG (iter_pre hG n)
theorem bound_av (l:List Nat):∀ (l':List Nat),∃ J,∀ w∈l',∀ x∈l,(∃ j,Av G w j x)→Av G w J x
 | []=>⟨0,by simp⟩
 | w :: l' => by
   obtain⟨J1,h1⟩:=bound_av l l'
   have h2:∀ (l:List Nat),∃ J,∀ x∈l,(∃ j,Av G w j x)→Av G w J x:=by
    intro l
    induction l with
    | nil=>exact⟨0,by simp⟩
    | cons x l ih =>
      obtain⟨J,hJ⟩:=ih
      by_cases hx:∃ j,Av G w j x
      ·obtain⟨j,hj⟩:=hx
       refine⟨max J j,fun y hy hy2=>?_⟩
       rcases List.mem_cons.1 hy with rfl | hy
       ·exact hj.le (Nat.le_max_right _ _)
       ·exact (hJ y hy hy2).le (Nat.le_max_left _ _)
      ·refine⟨J,fun y hy hy2=>?_⟩
       rcases List.mem_cons.1 hy with rfl | hy
       ·exact absurd hy2 hx
       ·exact hJ y hy hy2
   obtain⟨J2,h2⟩:=h2 l
   refine⟨max J1 J2,fun v hv x hx hj=>?_⟩
   rcases List.mem_cons.1 hv with rfl | hv
   ·exact (h2 x hx hj).le (Nat.le_max_right _ _)
   ·exact (h1 v hv x hx hj).le (Nat.le_max_left _ _)
theorem iter_ends (hG:G.Ok):∃ J,iter1 G (J + 2)=iter1 G (J + 1):=by
 obtain⟨J,hJ⟩:=bound_av (G:=G) G.l G.l
 have hJ1:∀ w x,G.rc x=true→G.rc w=true→(∃ j,Av G w j x)→Av G w J x:=fun w x hx hw h=>hJ w ((hG.mem w).2 hw) x ((hG.mem x).2 hx) h
 have hJ2:∀ w x,G.rc x=true→G.rc w=true→(∃ j,Av G w j x)→Av G w (J + 1) x:=fun w x hx hw h=>(hJ1 w x hx hw h).mono
 have p1:=iter_pre hG (J + 1)
 have p2:=iter_pre hG (J + 2)
 exact⟨J,anc_ext hG p2.inv p1.inv (p2.s _ rfl).1 (p1.s _ rfl).1 fun x w hx hw=>(pre_anc hJ2 p2 hx hw).trans (pre_anc hJ1 p1 hx hw).symm⟩
theorem fix_pre (hG:G.Ok) {i:Nat} (hp:Pre G o i) (hf:pass1 G o=o):∀ n,Pre G o (i + n)
 | 0=>hp
 | n + 1 => by
   have:=pass_pre hG (fix_pre hG hp hf n)
   rwa [hf] at this
theorem fix_anc (hG:G.Ok) {i:Nat} (hp:Pre G o i) (hf:pass1 G o=o) {x w:Nat} (hx:G.rc x=true):Anc o x w↔Dm G w x:=by
 constructor
 ·intro ha j hv
  have h1:=fix_pre hG hp hf (j + 1)
  exact (h1.s (i + j) rfl).2 x w hx (hv.le (by omega)) ha
 ·have h1:=fix_pre hG hp hf 1
  exact h1.d x w ((h1.s i rfl).1 x hx)
end
structure Found (E:Nat→List Nat) (s r:DS2) (M:List Nat):Prop where
 post:r.2=s.2++M
 seen:∀ x,r.1[x]? = some true↔(s.1[x]? = some true∨x∈M)
 un:∀ x∈M,s.1[x]? = some false
 nd:M.Nodup
 cl:∀ q∈M,∀ y∈E q,r.1[y]? = some true
theorem dfs_found {n:Nat} {E:Nat→List Nat} (hE:∀ i,i < n→∀ x∈E i,x < n):∀ (f k:Nat) (s:DS2),s.1.length=n→k < n→s.1[k]? = some false→cntF s.1≤f →
 ∃ M,Found E s (dfsV E f k s) (M++[k])∧∀ A x C,M=A++x::C→∃ q∈C++[k],x∈E q
 | 0, k, s, _, _, hk, hf => by
   have:=cntF_set hk
   omega
 | f + 1, k, s, hl, hkn, hk, hf => by
   have hset:=cntF_set hk
   have hkl:k < s.1.length:=by omega
   have key:∀ (l:List Nat) (q:DS2),(∀ x∈l,x < n)→q.1.length=n→cntF q.1≤f→∃ M,Found E q (l.foldl (dfsS E f) q) M∧(∀ A x C,M=A++x::C→(∃ p∈C,x∈E p)∨x∈l)∧∀ y∈l,(l.foldl (dfsS E f) q).1[y]? = some true:=by
    intro l
    induction l with
    | nil=>exact fun q _ _ _=>⟨[],⟨by simp,by simp,by simp,by simp,by simp⟩,fun A x C h=>by simp at h,by simp⟩
    | cons y l ih =>
      intro q hx hql hqc
      have hy:=hx y (by simp)
      obtain⟨b,hb⟩:∃ b,q.1[y]? = some b:=⟨_,gEG (by omega)⟩
      rw[List.foldl_cons]
      cases b with
      | true =>
        have hd:dfsS E f q y=q:=by unfold dfsS; rw[hb]; rfl
        rw[hd]
        obtain⟨M,h1,h2,h3⟩:=ih q (fun z hz=>hx z (by simp[hz])) hql hqc
        refine⟨M,h1,fun A x C hM=>(h2 A x C hM).imp id fun h=>by simp[h],fun z hz=>?_⟩
        rcases List.mem_cons.1 hz with rfl | hz
        ·exact (h1.seen _).2 (.inl hb)
        ·exact h3 z hz
      | false =>
        have hd:dfsS E f q y=dfsV E f y q:=by unfold dfsS; rw[hb]; rfl
        have hk':=dfsV_keep hE f y q hql hy hb hqc
        obtain⟨M1,a1,a2⟩:=dfs_found hE f y q hql hy hb hqc
        rw[hd]
        obtain⟨M2,h1,h2,h3⟩:=ih (dfsV E f y q) (fun z hz=>hx z (by simp[hz])) hk'.1 (by omega)
        refine⟨(M1++[y])++M2,⟨?_,fun x=>?_,fun x hxM=>?_,?_,fun p hp z hz=>?_⟩,fun A x C hM=>?_,fun z hz=>?_⟩
        ·rw[h1.post,a1.post,List.append_assoc]
        ·rw[h1.seen,a1.seen]; simp only[List.mem_append,or_assoc]
        ·rcases List.mem_append.1 hxM with h | h
         ·exact a1.un x h
         ·have hxu:=h1.un x h
          have hxn:x < n:=by
           have:=(gSI.1 hxu).1
           have:=hk'.1
           omega
          cases hq:q.1[x]? with
          | none=>rw[gEG (by omega)] at hq; cases hq
          | some b =>
            cases b with
            | false=>rfl
            | true =>
              rw[(a1.seen x).2 (.inl hq)] at hxu
              cases hxu
        ·rw[List.nodup_append]
         refine⟨a1.nd,h1.nd,fun a ha b hb2 e=>?_⟩
         subst e
         have:=h1.un a hb2
         rw[(a1.seen a).2 (.inr ha)] at this
         cases this
        ·rcases List.mem_append.1 hp with h | h
         ·exact (h1.seen z).2 (.inl (a1.cl p h z hz))
         ·exact h1.cl p h z hz
        ·-- where x stands
         rcases List.append_eq_append_iff.1 hM with⟨B,e1,e2⟩ | ⟨B,e1,e2⟩
         ·-- A begins with M1++[y]
          exact (h2 B x C e2).imp id fun h=>by simp[h]
         ·-- M1++[y]=A++B,x::C=B++M2
          cases B with
          | nil =>
            have e2':M2=[]++x::C:=by simpa using e2.symm
            exact (h2 [] x C e2').imp id fun h=>by simp[h]
          | cons b B =>
            simp only[List.cons_append,List.cons.injEq] at e2
            obtain⟨rfl,rfl⟩:=e2
            rcases List.eq_nil_or_concat B with rfl | ⟨B',z,rfl⟩
            ·have:=List.append_inj' e1 rfl
             obtain⟨_,e3⟩:=this
             simp at e3
             exact .inr (by simp[e3])
            ·have e3:M1++[y]=(A++x::B')++[z]:=by simpa using e1
             have:=List.append_inj' e3 rfl
             obtain⟨e4,e5⟩:=this
             simp at e5
             subst e5
             obtain⟨p,hp1,hp2⟩:=a2 A x B' e4
             exact .inl ⟨p,by simp only[List.concat_eq_append,List.mem_append] at hp1 ⊢; exact .inl hp1,hp2⟩
        ·rcases List.mem_cons.1 hz with rfl | hz
         ·exact (h1.seen _).2 (.inl ((a1.seen _).2 (.inr (by simp))))
         ·exact h3 z hz
   obtain⟨M,h1,h2,h3⟩:=key (E k) (s.1.set k true,s.2) (hE k hkn) (by simpa using hl) (by simp only; omega)
   have hsk:∀ x,(s.1.set k true)[x]? = some true↔(s.1[x]? = some true∨x=k):=fun x=>by
    by_cases hxk:k=x
    ·subst hxk
     simp[hkl]
    ·rw[gSN hxk]
     constructor
     ·exact .inl
     ·rintro (h | h)
      ·exact h
      ·exact absurd h.symm hxk
   have hkM:k∉M:=fun h=>by
    have:=h1.un k h
    simp[hkl] at this
   refine⟨M,⟨?_,fun x=>?_,fun x hx=>?_,?_,fun q hq y hy=>?_⟩,fun A x C hM=>?_⟩
   ·rw[dfsV_eq]
    simp only
    rw[h1.post]
    simp
   ·rw[dfsV_eq]
    simp only
    rw[h1.seen,List.mem_append,List.mem_singleton]
    simp only
    rw[hsk]
    constructor
    ·rintro ((h | h) | h)
     ·exact .inl h
     ·exact .inr (.inr h)
     ·exact .inr (.inl h)
    ·rintro (h | h | h)
     ·exact .inl (.inl h)
     ·exact .inr h
     ·exact .inl (.inr h)
   ·rcases List.mem_append.1 hx with h | h
    ·have:=h1.un x h
     have hne:k≠x:=fun e=>hkM (e ▸ h)
     simp only at this
     rwa [gSN hne] at this
    ·rw[List.mem_singleton.1 h]; exact hk
   ·rw[List.nodup_append]
    exact⟨h1.nd,by simp,fun a ha b hb e=>by rw[List.mem_singleton] at hb; subst e; subst hb; exact hkM ha⟩
   ·rw[dfsV_eq]
    simp only
    rcases List.mem_append.1 hq with h | h
    ·exact h1.cl q h y hy
    ·rw[List.mem_singleton.1 h] at hy
     exact h3 y hy
   ·rcases h2 A x C hM with⟨p,hp1,hp2⟩ | h
    ·exact⟨p,by simp[hp1],hp2⟩
    ·exact⟨k,by simp,h⟩
def rowsT (o:Nat) (T:List (List Nat)):List (List AV):=T.mapIdx fun j L=>[.own (j + o) L.length 0 L.length]
theorem rowsT_len (o:Nat) (T:List (List Nat)):(rowsT o T).length=T.length:=by simp[rowsT]
theorem rowsT_get {o:Nat} {T:List (List Nat)} {x:Nat} {L:List Nat} (h:T[x]? = some L):(rowsT o T)[x]? = some [.own (x + o) L.length 0 L.length]:=by simp[rowsT,h]
theorem rowsT_set (o:Nat) (T:List (List Nat)) (x:Nat) (L:List Nat):(rowsT o T).set x [.own (x + o) L.length 0 L.length]=rowsT o (T.set x L):=by
 apply List.ext_getElem?
 intro j
 simp only[rowsT,List.getElem?_set,List.getElem?_mapIdx,List.length_mapIdx]
 by_cases hxj:x=j
 ·subst hxj
  by_cases hl:x < T.length
  ·simp[hl]
  ·simp[hl]
 ·simp[hxj]
def blkT (T:List (List Nat)):AHeap:=T.map dPb
theorem blkT_get {T:List (List Nat)} {x:Nat} {L:List Nat} (h:T[x]? = some L) (N:AHeap):(blkT T++N)[x]? = some (dPb L):=by
 rw[gAL (by have:=(gSI.1 h).1; simpa [blkT] using this)]
 simp[blkT,h]
theorem blkT_set {T:List (List Nat)} {x:Nat} {L:List Nat} (h:T[x]? = some L) (M:List Nat) (N:AHeap):(blkT T++N).set x (dPb M)=blkT (T.set x M)++N:=by
 rw[List.set_append_left _ _ (by have:=(gSI.1 h).1; simpa [blkT] using this)]
 simp[blkT,List.map_set]
def stepT (k:Nat) (T:List (List Nat)) (x:Nat):List (List Nat):=T.set x ((T[x]?.getD [])++[k])
def rowT (g:Gr) (T:List (List Nat)) (k:Nat):List (List Nat):=(edgN g k).foldl (stepT k) T
def turnN (g:Gr):List (List Nat):=(List.range g.b.length).foldl (rowT g) (List.replicate g.b.length [])
theorem stepT_len (k:Nat) (T:List (List Nat)) (x:Nat):(stepT k T x).length=T.length:=by simp[stepT]
theorem stepT_max {k x m:Nat} {T:List (List Nat)} (h:∀ L∈T,L.length≤m):∀ L∈stepT k T x,L.length≤m + 1:=by
 intro L hL
 unfold stepT at hL
 rcases List.mem_or_eq_of_mem_set hL with h1 | h1
 ·have:=h L h1; omega
 ·rw[h1,List.length_append,List.length_singleton]
  cases hx:T[x]? with
  | none=>simp
  | some L' =>
    have:=h L' (gMO hx)
    simp
    omega
theorem foldT_keep (k:Nat):∀ (l:List Nat) (T:List (List Nat)) (m:Nat),(∀ L∈T,L.length≤m)→(l.foldl (stepT k) T).length=T.length∧∀ L∈l.foldl (stepT k) T,L.length≤m + l.length
 | [],T,m,h=>⟨rfl,fun L hL=>by have:=h L hL; simpa using this⟩
 | x :: l, T, m, h => by
   obtain⟨h1,h2⟩:=foldT_keep k l (stepT k T x) (m + 1) (stepT_max h)
   refine⟨by rw[List.foldl_cons,h1,stepT_len],fun L hL=>?_⟩
   have:=h2 L hL
   simp only[List.length_cons]
   omega
theorem edgN_len {g:Gr} (hg:GrFit g) (k:Nat):(edgN g k).length≤2000000:=by
 unfold edgN
 split
 ·rename_i b hb
  simp only[List.length_map]
  exact Nat.le_trans (List.length_filter_le _ _) (succL_len hg (gMO hb))
 ·simp
theorem turn_keep {g:Gr} (hg:GrFit g):∀ (l:List Nat) (T:List (List Nat)) (m:Nat),(∀ L∈T,L.length≤m)→(l.foldl (rowT g) T).length=T.length∧∀ L∈l.foldl (rowT g) T,L.length≤m + l.length * 2000000
 | [],T,m,h=>⟨rfl,fun L hL=>by have:=h L hL; simpa using this⟩
 | k :: l, T, m, h => by
   obtain⟨a1,a2⟩:=foldT_keep k (edgN g k) T m h
   have hl:=edgN_len hg k
   obtain⟨h1,h2⟩:=turn_keep hg l (rowT g T k) (m + 2000000) (fun L hL=>by have:=a2 L hL; omega)
   refine⟨by rw[List.foldl_cons,h1]; exact a1,fun L hL=>?_⟩
   have:=h2 L hL
   simp only[List.length_cons]
   omega
theorem Sub.ghostT {n:Nat} {e:AEnv}:∀ (m:Nat) {A:AHeap},Sub n e A e (A++blkT (List.replicate m []))
 | 0,A=>by simpa [blkT] using Sub.refl _ _ _
 | m + 1, A => by
   intro C ec w hn hS
   have h1:=Sub.ghost 0 3 1 C ec w hn hS
   have h2:=Sub.ghostT m (A:=A++[⟨0,true,3,1,[]⟩]) C ec w hn h1
   rw[List.append_assoc] at h2
   have hp:dPb []=⟨0,true,3,1,[]⟩:=rfl
   simpa [blkT,List.replicate_succ,hp] using h2
theorem Sub.rowT {n:Nat} {e:AEnv} {o:Nat} (N:AHeap) (pre:AHeap) (w:Nat):∀ (m j:Nat),j + m=w→pre.length + 1=o →
 Sub n e (pre++⟨0,true,48,1,rowsT o (List.replicate j [])++List.replicate m [.d (.v (.slice none 0 0))]⟩::(blkT (List.replicate w [])++N)) e (pre++⟨0,true,48,1,rowsT o (List.replicate w [])⟩::(blkT (List.replicate w [])++N))
 | 0, j, hw, _ => by
   obtain rfl:j=w:=by omega
   simpa using Sub.refl _ _ _
 | m + 1, j, hw, ho => by
   have h1:=Sub.rowT (n:=n) (e:=e) N pre w m (j + 1) (by omega) ho
   refine Sub.trans ?_ h1
   have hb:(pre++(⟨0,true,48,1,rowsT o (List.replicate j [])++List.replicate (m + 1) [.d (.v (.slice none 0 0))]⟩:Blk)::(blkT (List.replicate w [])++N))[pre.length]? = some ⟨0,true,48,1,rowsT o (List.replicate j [])++List.replicate (m + 1) [.d (.v (.slice none 0 0))]⟩:=by
    rw[List.getElem?_append_right (Nat.le_refl _)]
    simp
   have hx:(rowsT o (List.replicate j [])++List.replicate (m + 1) [AV.d (.v (.slice none 0 0))])[j]? = some [.d (.v (.slice none 0 0))]:=by
    rw[List.getElem?_append_right (by simp[rowsT_len])]
    simp[rowsT_len]
   have hk:(pre++(⟨0,true,48,1,rowsT o (List.replicate j [])++List.replicate (m + 1) [.d (.v (.slice none 0 0))]⟩:Blk)::(blkT (List.replicate w [])++N))[j + o]? = some ⟨0,true,3,1,[]⟩:=by
    rw[List.getElem?_append_right (by omega),show j + o - pre.length=j + 1 by omega,List.getElem?_cons_succ]
    have:(List.replicate w ([]:List Nat))[j]? = some []:=by rw[List.getElem?_replicate,if_pos (by omega)]
    exact blkT_get this N
   have hs:=Sub.cell (n:=n) (e:=e) (b:=pre.length) (i:=j) (o:=0) (c:=.d (.v (.slice none 0 0))) (c':=.own (j + o) 0 0 0) hb hx rfl (VLe.nil_own hk rfl)
   have heq:(pre++(⟨0,true,48,1,rowsT o (List.replicate j [])++List.replicate (m + 1) [.d (.v (.slice none 0 0))]⟩:Blk)::(blkT (List.replicate w [])++N)).set pre.length (setEls ⟨0,true,48,1,rowsT o (List.replicate j [])++List.replicate (m + 1) [.d (.v (.slice none 0 0))]⟩ ((rowsT o (List.replicate j [])++List.replicate (m + 1) [AV.d (.v (.slice none 0 0))]).set j [.own (j + o) 0 0 0]))=pre++⟨0,true,48,1,rowsT o (List.replicate (j + 1) [])++List.replicate m [.d (.v (.slice none 0 0))]⟩::(blkT (List.replicate w [])++N):=by
    rw[List.set_append_right _ _ (Nat.le_refl _),Nat.sub_self,List.set_cons_zero]
    have h2:=set_mid (rowsT o (List.replicate j [])) [AV.d (.v (.slice none 0 0))] [AV.own (j + o) 0 0 0] m
    rw[rowsT_len,List.length_replicate] at h2
    have h3:rowsT o (List.replicate j [])++[[AV.own (j + o) 0 0 0]]=rowsT o (List.replicate (j + 1) []):=by
     rw[List.replicate_succ',rowsT,rowsT,List.mapIdx_append]
     simp
    simp only[setEls]
    rw[h2,h3]
   have hs':Sub n e _ e _:=hs
   simp only[List.set_cons_zero] at hs'
   rw[heq] at hs'
   exact hs'
def rowN (T:List (List Nat)) (x:Nat):List Nat:=T[x]?.getD []
theorem stepT_mem {k y x q:Nat} {T:List (List Nat)} (hx:x < T.length):q∈rowN (stepT k T y) x↔q∈rowN T x∨(q=k∧x=y):=by
 unfold rowN stepT
 by_cases hyx:y=x
 ·subst hyx
  rw[gSS hx]
  simp
 ·rw[gSN hyx]
  constructor
  ·exact .inl
  ·rintro (h | ⟨_,h⟩)
   ·exact h
   ·exact absurd h.symm hyx
theorem foldT_mem {k x q:Nat}:∀ (l:List Nat) (T:List (List Nat)),x < T.length→(q∈rowN (l.foldl (stepT k) T) x↔q∈rowN T x∨(q=k∧x∈l))
 | [],T,_=>by simp
 | y :: l, T, hx => by
   rw[List.foldl_cons,foldT_mem l (stepT k T y) (by rw[stepT_len]; exact hx),stepT_mem hx]
   simp only[List.mem_cons]
   constructor
   ·rintro ((h | ⟨h1,h2⟩) | ⟨h1,h2⟩)
    ·exact .inl h
    ·exact .inr ⟨h1,.inl h2⟩
    ·exact .inr ⟨h1,.inr h2⟩
   ·rintro (h | ⟨h1,h2 | h2⟩)
    ·exact .inl (.inl h)
    ·exact .inl (.inr ⟨h1,h2⟩)
    ·exact .inr ⟨h1,h2⟩
theorem foldT_len (k:Nat):∀ (l:List Nat) (T:List (List Nat)),(l.foldl (stepT k) T).length=T.length
 | [],T=>rfl
 | y::l,T=>by rw[List.foldl_cons,foldT_len k l,stepT_len]
theorem turn_mem0 {g:Gr} {x q:Nat}:∀ (l:List Nat) (T:List (List Nat)),x < T.length→(q∈rowN (l.foldl (rowT g) T) x↔q∈rowN T x∨(q∈l∧x∈edgN g q))
 | [],T,_=>by simp
 | k :: l, T, hx => by
   rw[List.foldl_cons,turn_mem0 l (rowT g T k) (by unfold rowT; rw[foldT_len]; exact hx)]
   unfold rowT
   rw[foldT_mem _ _ hx]
   simp only[List.mem_cons]
   constructor
   ·rintro ((h | ⟨h1,h2⟩) | ⟨h1,h2⟩)
    ·exact .inl h
    ·subst h1; exact .inr ⟨.inl rfl,h2⟩
    ·exact .inr ⟨.inr h1,h2⟩
   ·rintro (h | ⟨h1 | h1,h2⟩)
    ·exact .inl (.inl h)
    ·subst h1; exact .inl (.inr ⟨rfl,h2⟩)
    ·exact .inr ⟨h1,h2⟩
theorem turn_mem {g:Gr} {x q:Nat} (hx:x < g.b.length):q∈rowN (turnN g) x↔q < g.b.length∧x∈edgN g q:=by
 unfold turnN
 rw[turn_mem0 _ _ (by simpa using hx)]
 simp[rowN,hx]
def dgN (g:Gr):DG:=⟨fun x=>(ordN g).contains x,fun x=>(ordN g).idxOf x,fun x=>rowN (turnN g) x,0,ordN g⟩
theorem post_found {g:Gr} (he:EdgOk g) (h:0 < g.b.length):∃ M,postN g=M++[0]∧(M++[0]).Nodup∧(∀ A x C,M=A++x::C→∃ q∈C++[0],x∈edgN g q)∧∀ q∈M++[0],∀ y∈edgN g q,y∈M++[0]:=by
 obtain⟨M,h1,h2⟩:=dfs_found (edgN_lt he) g.b.length 0 (List.replicate g.b.length false,[]) (by simp) h (by simp[h]) (by simp only; rw[cntF_rep]; exact Nat.le_refl _)
 refine⟨M,by have:=h1.post; simpa [postN] using this,h1.nd,h2,fun q hq y hy=>?_⟩
 have hs:=(h1.seen y).1 (h1.cl q hq y hy)
 rcases hs with hs | hs
 ·simp only[List.getElem?_replicate] at hs
  split at hs<;>cases hs
 ·exact hs
theorem ordN_eq {g:Gr} (h:0 < g.b.length) {M:List Nat} (hM:postN g=M++[0]):ordN g=0::M.reverse:=by
 unfold ordN
 rw[if_neg (by omega),hM]
 simp
theorem ordN_nodup {g:Gr} (he:EdgOk g) (h:0 < g.b.length):(ordN g).Nodup:=by
 obtain⟨M,h1,h2,_⟩:=post_found he h
 unfold ordN
 rw[if_neg (by omega),h1]
 exact List.pairwise_reverse.2 (h2.imp fun h=>Ne.symm h)
theorem dgN_ok {g:Gr} (he:EdgOk g) (h:0 < g.b.length):(dgN g).Ok:=by
 obtain⟨M,h1,h2,h3,h4⟩:=post_found he h
 have ho:=ordN_eq h h1
 have hnd:=ordN_nodup he h
 have hrc:∀ x,(dgN g).rc x=true↔x∈ordN g:=fun x=>by simp[dgN]
 refine⟨?_,?_,fun x y hx hy hxy=>?_,fun x=>(hrc x).symm,?_,fun k hk hk0=>?_⟩
 ·rw[hrc,ho]; simp[dgN]
 ·simp[dgN,ho]
 ·have hx':=(hrc x).1 hx
  have hy':=(hrc y).1 hy
  have e1:=List.getElem_idxOf (List.idxOf_lt_length_of_mem hx')
  have e2:=List.getElem_idxOf (List.idxOf_lt_length_of_mem hy')
  have hxy':(ordN g).idxOf x=(ordN g).idxOf y:=hxy
  rw[← e1,← e2]
  congr 1
 ·rw[List.pairwise_iff_getElem]
  intro i j hi hj hij
  have e1:=List.Nodup.idxOf_getElem hnd i hi
  have e2:=List.Nodup.idxOf_getElem hnd j hj
  show (ordN g).idxOf (ordN g)[i] < (ordN g).idxOf (ordN g)[j]
  rw[e1,e2]
  exact hij
 ·have hk':=(hrc k).1 hk
  have hkl:=ordN_lt he k hk'
  have hkM:k∈M:=by
   rw[ho] at hk'
   rcases List.mem_cons.1 hk' with e | e
   ·exact absurd e hk0
   ·exact List.mem_reverse.1 e
  obtain⟨A,C,hM⟩:=List.append_of_mem hkM
  obtain⟨q,hq,hqe⟩:=h3 A k C hM
  have hoe:ordN g=(0::C.reverse)++k::A.reverse:=by rw[ho,hM]; simp
  have hq':q∈0::C.reverse:=by
   rcases List.mem_append.1 hq with e | e
   ·exact List.mem_cons_of_mem _ (List.mem_reverse.2 e)
   ·rw[List.mem_singleton.1 e]; exact List.mem_cons_self
  have hqo:q∈ordN g:=by rw[hoe]; exact List.mem_append_left _ hq'
  have hkn:k∉0::C.reverse:=fun hk2=>by
   rw[hoe] at hnd
   exact (List.nodup_append.1 hnd).2.2 k hk2 k (by simp) rfl
  refine⟨q,(turn_mem hkl).2 ⟨ordN_lt he q hqo,hqe⟩,(hrc q).2 hqo,?_⟩
  show (ordN g).idxOf q < (ordN g).idxOf k
  have e1:(ordN g).idxOf q=(0::C.reverse).idxOf q:=by rw[hoe,List.idxOf_append,if_pos hq']
  have e2:(ordN g).idxOf k=(0::C.reverse).length:=by
   rw[hoe,List.idxOf_append,if_neg hkn]
   simp
  rw[e1,e2]
  exact List.idxOf_lt_length_of_mem hq'
abbrev outT (T:List (List Nat)):Blk:=⟨0,true,48,1,rowsT 1 T⟩
def dataT (T:List (List Nat)):List (List D):=T.map fun L=>[.sl 1 (i64s (nI L))]
theorem range_get {n i:Nat} (h:i < n):(List.range n)[i]? = some i:=by simp[h]
theorem Sub.turn0 {n:Nat} {e:AEnv} (m:Nat):Sub n e [⟨0,true,48,1,List.replicate m [.d (.v (.slice none 0 0))]⟩] e (outT (List.replicate m [])::(blkT (List.replicate m [])++[])):=by
 have h1:=Sub.ghostT (n:=n) (e:=e) m (A:=[⟨0,true,48,1,List.replicate m [.d (.v (.slice none 0 0))]⟩])
 have h2:=Sub.rowT (n:=n) (e:=e) (o:=1) [] [] m m 0 (by omega) rfl
 refine Sub.trans h1 ?_
 have h3:rowsT 1 (List.replicate 0 [])=[]:=rfl
 rw[h3] at h2
 simp only[List.nil_append,List.append_nil,List.singleton_append] at h2 ⊢
 exact h2
theorem omap_ext {α β:Type} {f:α→Option β}:∀ {l:List α} {r:List β},l.length=r.length→(∀ (i:Nat) (a:α) (b:β),l[i]? = some a→r[i]? = some b→f a=some b)→omap f l=some r
 | [],[],_,_=>rfl
 | a :: l, b :: r, hl, h => by
   have h1:=h 0 a b rfl rfl
   have h2:=omap_ext (f:=f) (l:=l) (r:=r) (by simpa using hl) fun i x y hx hy=>h (i + 1) x y (by simpa using hx) (by simpa using hy)
   simp[omap,h1,h2]
 | [],_::_,hl,_=>by simp at hl
 | _::_,[],hl,_=>by simp at hl
theorem reiT (N:AHeap) (b:Blk) (T:List (List Nat)) (d:Nat):omap (fun x=>omap (reiD false (b::(blkT T++N)) (d + 1)) x) (rowsT 1 T)=some (dataT T):=by
 refine omap_ext (by simp[rowsT_len,dataT]) fun i a r ha hr=>?_
 simp only[rowsT,List.getElem?_mapIdx,Option.map_eq_some_iff] at ha
 obtain⟨L,hL,rfl⟩:=ha
 simp only[dataT,List.getElem?_map,hL,Option.map_some,Option.some.injEq] at hr
 subst hr
 have hg:=blkT_get hL N
 have ht:List.take L.length (dEls (i64s (nI L)))=dEls (i64s (nI L)):=List.take_of_length_le (by simp)
 simp[omap,reiD,curB,hg,ht]
set_option maxRecDepth 100000 in
theorem dmturned_af (g:Gr) (hg:GrFit g) (he:EdgOk g):AF Tryz.prog 203 [.d (.sl 1 (rowsN g g.b.length))] (.d (.sl 1 (dataT (turnN g)))):=by
 have hgl:g.b.length≤maxLen:=by have:=hg.1; unfold maxLen; omega
 have hg1:=hg.1
 refine af_of Tryz.func203 rfl (by kernel_rfl) (by simp[Tryz.ntmps203]) fun _=>?_; simp[Tryz.f203,Ex.d_eq]
 simp[rowsN_len]
 refine aRaw_make (kl:=.i64) (kc:=.i64) (l:=g.b.length) (c:=g.b.length) (z:=[.d (.v (.slice none 0 0))]) byt_145 (by simp) (by simp) (by simp) (Nat.le_refl _) hgl (by omega) ?_
 simp[rowsN_len]
 refine aLoop_of (α:=Nat) (fun i e A=>i≤g.b.length∧(∃ N:AHeap,A=outT (((List.range g.b.length).take i).foldl (rowT g) (List.replicate g.b.length []))::(blkT (((List.range g.b.length).take i).foldl (rowT g) (List.replicate g.b.length []))++N)) ∧
  e 12=aI .i64 i∧e 11=aI .i64 g.b.length∧e 0 = .d (.sl 1 (rowsN g g.b.length))∧e 3 = .own 0 0 0 g.b.length) (fun i=>g.b.length - i) 0 (Sub.turn0 g.b.length)
  ⟨by omega,⟨[],by simp⟩,by simp,by simp,by simp,by simp⟩ ?_
 rintro i e A ⟨hi,⟨N,rfl⟩,e12,e11,e0,e3⟩ K hK
 obtain⟨T,hT⟩:∃ T,((List.range g.b.length).take i).foldl (rowT g) (List.replicate g.b.length [])=T:=⟨_,rfl⟩
 have hk:=turn_keep hg ((List.range g.b.length).take i) (List.replicate g.b.length []) 0 (by simp)
 have hil:((List.range g.b.length).take i).length≤1000000:=by rw[List.length_take,List.length_range]; omega
 rw[hT] at hk ⊢
 have hTl:T.length=g.b.length:=by rw[hk.1]; simp
 have hTm:∀ L∈T,L.length≤2000000000000:=fun L hL=>by have:=hk.2 L hL; omega
 rcases Nat.lt_or_ge i g.b.length with hlt | hge
 case inr=>
  obtain rfl:i=g.b.length:=by omega
  rw[List.take_of_length_le (by simp)] at hT
  have hR:turnN g=T:=hT
  have ht:(rowsT 1 T).take g.b.length=rowsT 1 T:=List.take_of_length_le (by simp[rowsT_len,hTl])
  simp[e12,e11,e3,hR,ht,rowsT_len,hTl,reiT N (outT T) T 7]
 have hrow:=rowsN_get (g:=g) hlt
 have hrow2:=(gSI.1 hrow).2
 have hEl:=edgN_len hg i
 have n1:(edgN g i).length≤maxLen:=by unfold maxLen; omega
 have hE:=edgN_lt he i hlt
 have hTn:=foldl_take (rowT g) (List.range g.b.length) i i (List.replicate g.b.length []) (range_get hlt)
 rw[hT] at hTn
 simp[e12,e11,e0,hlt,hrow,hrow2,rowsN_len]
 refine aLoop_of (α:=Nat) (fun j e A=>j≤(edgN g i).length∧(∃ N:AHeap,A=outT (((edgN g i).take j).foldl (stepT i) T)::(blkT (((edgN g i).take j).foldl (stepT i) T)++N)) ∧
  e 20=aI .i64 j∧e 19=aI .i64 (edgN g i).length∧e 18 = .d (.sl 1 (i64s (nI (edgN g i))))∧e 4=aI .i64 i∧e 12=aI .i64 i∧e 11=aI .i64 g.b.length∧e 0 = .d (.sl 1 (rowsN g g.b.length))∧e 3 = .own 0 0 0 g.b.length) (fun j=>(edgN g i).length - j) 0 (Sub.refl _ _ _)
  ⟨by omega,⟨N,by simp⟩,by simp,by simp,by simp,by simp,by simp[e12],by simp[e11],by simp[e0],by simp[e3]⟩ ?_
 rintro j e A ⟨hj,⟨N,rfl⟩,f20,f19,f18,f4,f12,f11,f0,f3⟩ K2 hK2
 obtain⟨U,hU⟩:∃ U,((edgN g i).take j).foldl (stepT i) T=U:=⟨_,rfl⟩
 have hku:=foldT_keep i ((edgN g i).take j) T 2000000000000 hTm
 have hjl:((edgN g i).take j).length≤2000000:=by rw[List.length_take]; omega
 rw[hU] at hku ⊢
 have hUl:U.length=g.b.length:=by rw[hku.1,hTl]
 rcases Nat.lt_or_ge j (edgN g i).length with hjlt | hjge
 case inr=>
  obtain rfl:j=(edgN g i).length:=by omega
  rw[List.take_length] at hU
  have hRU:rowT g T i=U:=hU
  rw[hRU] at hTn
  simp[f20,f19,f12,succ_wrap hlt hgl]
  refine hK (i + 1) _ _ _ _ (Sub.refl _ _ _) ⟨by omega,⟨N,by rw[hTn]⟩,by simp,by simp[f11],by simp[f0],by simp[f3]⟩ (by omega)
 obtain⟨x,hx⟩:∃ x,(edgN g i)[j]? = some x:=⟨_,gEG hjlt⟩
 have hx2:=(gSI.1 hx).2
 have hxn:=hE x (gMO hx)
 have hUn:=foldl_take (stepT i) (edgN g i) j x T hx
 rw[hU] at hUn
 obtain⟨L,hL⟩:∃ L,U[x]? = some L:=⟨_,gEG (by omega)⟩
 have hLl:=hku.2 L (gMO hL)
 have hrT:=rowsT_get (o:=1) hL
 have hbg:=fun N=>blkT_get hL N
 have hstep:stepT i U x=U.set x (L++[i]):=by unfold stepT; rw[hL]; rfl
 simp[f20,f19,f18,f4,f3,hjlt,hx,hx2,hxn,hrT,hbg]
 refine aRaw_app byt_48 ?_
 have hp:dPb (L++[i])=⟨L.length + 1,true,3,1,dEls (i64s (nI L))++[[AV.d (D.v (Value.int .i64 i))]]⟩:=by simp[dPb,nI,i64s,dEls]
 have hset:∀ N,(blkT U++N).set x ⟨L.length + 1,true,3,1,dEls (i64s (nI L))++[[AV.d (D.v (Value.int .i64 i))]]⟩=blkT (U.set x (L++[i]))++N:=fun N=>by rw[← hp]; exact blkT_set hL _ N
 have hrs:=rowsT_set 1 U x (L++[i])
 rw[show (L++[i]).length=L.length + 1 by simp] at hrs
 simp[f3,hbg]
 refine⟨by unfold maxLen; omega,by omega,?_⟩
 simp[hxn,hset,hrs,hrT,f20,succ_wrap hjlt n1]
 refine hK2 (j + 1) _ _ _ _ (Sub.refl _ _ _) ⟨by omega,⟨_,by rw[hUn,hstep]⟩,by simp,by simp[f19],by simp[f18],by simp[f4],by simp[f12],by simp[f11],by simp[f0],by simp[f3]⟩ (by omega)
theorem revOk:RevOk:=by
 intro L A b ver ty hA hL hty H ι w vs hH hR hs hm
 simp only[ShpL] at hs
 obtain⟨u,l,rfl,s1,rfl⟩:=hs
 simp only[Shp] at s1
 obtain⟨_,k,hk,_,hu⟩:=s1
 rw[hA] at hk
 obtain rfl:=oSI hk
 have hu:=hu rfl
 by_cases h0:L=[]
 ·subst h0
  have hself:A.set b ⟨ver,true,ty,1,dEls (i64s ([]:List Int).reverse)⟩=A:=set_same hA
  have hex:∃ p cap,u = .slice p 0 cap:=by
   rcases hu with⟨_,_,rfl⟩ | ⟨c,n,cap,_,rfl,_⟩
   ·exact⟨_,_,rfl⟩
   ·exact⟨_,_,rfl⟩
  obtain⟨p,cap,rfl⟩:=hex
  refine (Sh_slices_Reverse_int_empty p cap w).mono ?_
  rintro en w' ⟨rfl,rfl⟩
  exact⟨_,_,ι,A,rfl,⟨rfl,hself.symm⟩,hR,Step.refl _ _ _,⟨by simp only[Shp]; exact⟨[],rfl,by simp[ShpL]⟩,by simp only[Mem]; exact⟨[],rfl,by simp[MemL]⟩⟩⟩
 ·have hpos:0 < L.length:=List.length_pos_iff.2 h0
  rcases hu with⟨h,_⟩ | ⟨c,n,cap,hι,rfl,_⟩
  ·omega
  obtain⟨arr,a1,a2,a3,a4,a5⟩:=ints_in hR hA hty hι
  rw[Nat.zero_mul]
  refine (Sh_slices_Reverse_int c 0 cap L w (holds_in a1 a5) (by omega)).mono ?_
  rintro en w' ⟨rfl,q,rfl⟩
  obtain⟨arr',s2,s3,s4,s5,s6⟩:=put_at (q:=q) (os:=#[]) (L:=L.reverse) a4 a1 (by rw[List.length_reverse]; omega)
  rw[Go.Sort.grow_empty] at s2 s5 s6
  obtain⟨r1,r2⟩:=ints_put (L:=L.reverse) hR hA rfl hι rfl hty (by simp) a1 a2 (by simpa using a3) s2 s3 s4 s5 s6 rfl rfl rfl
  exact⟨_,_,ι,_,rfl,⟨rfl,rfl⟩,r1,r2,⟨by simp only[Shp]; exact⟨[],rfl,by simp[ShpL]⟩,by simp only[Mem]; exact⟨[],rfl,by simp[MemL]⟩⟩⟩
abbrev outT2 (T:List (List Nat)):Blk:=⟨0,true,48,1,rowsT 2 T⟩
theorem Sub.turn1 {n:Nat} {e:AEnv} (b0:Blk) (m:Nat):Sub n e [b0,⟨0,true,48,1,List.replicate m [.d (.v (.slice none 0 0))]⟩] e (b0::outT2 (List.replicate m [])::(blkT (List.replicate m [])++[])):=by
 have h1:=Sub.ghostT (n:=n) (e:=e) m (A:=[b0,⟨0,true,48,1,List.replicate m [.d (.v (.slice none 0 0))]⟩])
 have h2:=Sub.rowT (n:=n) (e:=e) (o:=2) [] [b0] m m 0 (by omega) rfl
 refine Sub.trans h1 ?_
 have h3:rowsT 2 (List.replicate 0 [])=[]:=rfl
 rw[h3] at h2
 simp only[List.nil_append,List.append_nil,List.singleton_append,List.cons_append] at h2 ⊢
 exact h2
set_option maxRecDepth 100000 in
theorem dmturned_ac (g:Gr) (hg:GrFit g) (he:EdgOk g) (b0:Blk):AC Tryz.prog 203 [.d (.sl 1 (rowsN g g.b.length))] [b0] (fun r A'=>r = .own 1 0 0 g.b.length∧∃ N,A'=b0::outT2 (turnN g)::(blkT (turnN g)++N)):=by
 have hgl:g.b.length≤maxLen:=by have:=hg.1; unfold maxLen; omega
 have hg1:=hg.1
 refine ac_of Tryz.func203 rfl (by kernel_rfl) (by simp[Tryz.ntmps203]) fun hb=>?_
 clear hb
 simp[Tryz.f203]
 simp[rowsN_len]
 refine aRaw_make (kl:=.i64) (kc:=.i64) (l:=g.b.length) (c:=g.b.length) (z:=[.d (.v (.slice none 0 0))]) byt_145 (by simp) (by simp) (by simp) (Nat.le_refl _) hgl (by omega) ?_
 simp[rowsN_len]
 refine aLoop_of (α:=Nat) (fun i e A=>i≤g.b.length∧(∃ N:AHeap,A=b0::outT2 (((List.range g.b.length).take i).foldl (rowT g) (List.replicate g.b.length []))::(blkT (((List.range g.b.length).take i).foldl (rowT g) (List.replicate g.b.length []))++N)) ∧
  e 12=aI .i64 i∧e 11=aI .i64 g.b.length∧e 0 = .d (.sl 1 (rowsN g g.b.length))∧e 3 = .own 1 0 0 g.b.length) (fun i=>g.b.length - i) 0 (Sub.turn1 b0 g.b.length)
  ⟨by omega,⟨[],by simp⟩,by simp,by simp,by simp,by simp⟩ ?_
 rintro i e A ⟨hi,⟨N,rfl⟩,e12,e11,e0,e3⟩ K hK
 obtain⟨T,hT⟩:∃ T,((List.range g.b.length).take i).foldl (rowT g) (List.replicate g.b.length [])=T:=⟨_,rfl⟩
 have hk:=turn_keep hg ((List.range g.b.length).take i) (List.replicate g.b.length []) 0 (by simp)
 have hil:((List.range g.b.length).take i).length≤1000000:=by rw[List.length_take,List.length_range]; omega
 rw[hT] at hk ⊢
 have hTl:T.length=g.b.length:=by rw[hk.1]; simp
 have hTm:∀ L∈T,L.length≤2000000000000:=fun L hL=>by have:=hk.2 L hL; omega
 rcases Nat.lt_or_ge i g.b.length with hlt | hge
 case inr=>
  obtain rfl:i=g.b.length:=by omega
  rw[List.take_of_length_le (by simp)] at hT
  have hR:turnN g=T:=hT
  simp[e12,e11,e3,hR]
 have hrow:=rowsN_get (g:=g) hlt
 have hrow2:=(gSI.1 hrow).2
 have hEl:=edgN_len hg i
 have n1:(edgN g i).length≤maxLen:=by unfold maxLen; omega
 have hE:=edgN_lt he i hlt
 have hTn:=foldl_take (rowT g) (List.range g.b.length) i i (List.replicate g.b.length []) (range_get hlt)
 rw[hT] at hTn
 simp[e12,e11,e0,hlt,hrow,hrow2,rowsN_len]
 refine aLoop_of (α:=Nat) (fun j e A=>j≤(edgN g i).length∧(∃ N:AHeap,A=b0::outT2 (((edgN g i).take j).foldl (stepT i) T)::(blkT (((edgN g i).take j).foldl (stepT i) T)++N)) ∧
  e 20=aI .i64 j∧e 19=aI .i64 (edgN g i).length∧e 18 = .d (.sl 1 (i64s (nI (edgN g i))))∧e 4=aI .i64 i∧e 12=aI .i64 i∧e 11=aI .i64 g.b.length∧e 0 = .d (.sl 1 (rowsN g g.b.length))∧e 3 = .own 1 0 0 g.b.length) (fun j=>(edgN g i).length - j) 0 (Sub.refl _ _ _)
  ⟨by omega,⟨N,by simp⟩,by simp,by simp,by simp,by simp,by simp[e12],by simp[e11],by simp[e0],by simp[e3]⟩ ?_
 rintro j e A ⟨hj,⟨N,rfl⟩,f20,f19,f18,f4,f12,f11,f0,f3⟩ K2 hK2
 obtain⟨U,hU⟩:∃ U,((edgN g i).take j).foldl (stepT i) T=U:=⟨_,rfl⟩
 have hku:=foldT_keep i ((edgN g i).take j) T 2000000000000 hTm
 have hjl:((edgN g i).take j).length≤2000000:=by rw[List.length_take]; omega
 rw[hU] at hku ⊢
 have hUl:U.length=g.b.length:=by rw[hku.1,hTl]
 rcases Nat.lt_or_ge j (edgN g i).length with hjlt | hjge
 case inr=>
  obtain rfl:j=(edgN g i).length:=by omega
  rw[List.take_length] at hU
  have hRU:rowT g T i=U:=hU
  rw[hRU] at hTn
  simp[f20,f19,f12,succ_wrap hlt hgl]
  refine hK (i + 1) _ _ _ _ (Sub.refl _ _ _) ⟨by omega,⟨N,by rw[hTn]⟩,by simp,by simp[f11],by simp[f0],by simp[f3]⟩ (by omega)
 obtain⟨x,hx⟩:∃ x,(edgN g i)[j]? = some x:=⟨_,gEG hjlt⟩
 have hx2:=(gSI.1 hx).2
 have hxn:=hE x (gMO hx)
 have hUn:=foldl_take (stepT i) (edgN g i) j x T hx
 rw[hU] at hUn
 obtain⟨L,hL⟩:∃ L,U[x]? = some L:=⟨_,gEG (by omega)⟩
 have hLl:=hku.2 L (gMO hL)
 have hrT:=rowsT_get (o:=2) hL
 have hbg:=fun N=>blkT_get hL N
 have hstep:stepT i U x=U.set x (L++[i]):=by unfold stepT; rw[hL]; rfl
 simp[f20,f19,f18,f4,f3,hjlt,hx,hx2,hxn,hrT,hbg]
 refine aRaw_app byt_48 ?_
 have hp:dPb (L++[i])=⟨L.length + 1,true,3,1,dEls (i64s (nI L))++[[AV.d (D.v (Value.int .i64 i))]]⟩:=by simp[dPb,nI,i64s,dEls]
 have hset:∀ N,(blkT U++N).set x ⟨L.length + 1,true,3,1,dEls (i64s (nI L))++[[AV.d (D.v (Value.int .i64 i))]]⟩=blkT (U.set x (L++[i]))++N:=fun N=>by rw[← hp]; exact blkT_set hL _ N
 have hrs:=rowsT_set 2 U x (L++[i])
 rw[show (L++[i]).length=L.length + 1 by simp] at hrs
 simp[f3,hbg]
 refine⟨by unfold maxLen; omega,by omega,?_⟩
 simp[hxn,hset,hrs,hrT,f20,succ_wrap hjlt n1]
 refine hK2 (j + 1) _ _ _ _ (Sub.refl _ _ _) ⟨by omega,⟨_,by rw[hUn,hstep]⟩,by simp,by simp[f19],by simp[f18],by simp[f4],by simp[f12],by simp[f11],by simp[f0],by simp[f3]⟩ (by omega)
def oV (o:Nat→Option Nat) (x:Nat):Int:=match o x with
 | some y=>y
 | none=>-1
def oI (n:Nat) (o:Nat→Option Nat):List Int:=(List.range n).map (oV o)
@[simp] theorem oI_len (n:Nat) (o:Nat→Option Nat):(oI n o).length=n:=by simp[oI]
theorem oI_get {n x:Nat} (o:Nat→Option Nat) (h:x < n):(oI n o)[x]? = some (oV o x):=by simp[oI,h]
def pV (g:Gr) (x:Nat):Int:=if (dgN g).rc x=true then ((dgN g).pl x:Int) else -1
def pI2 (g:Gr):List Int:=(List.range g.b.length).map (pV g)
@[simp] theorem pI2_len (g:Gr):(pI2 g).length=g.b.length:=by simp[pI2]
theorem pI2_get {g:Gr} {x:Nat} (h:x < g.b.length):(pI2 g)[x]? = some (pV g x):=by simp[pI2,h]
abbrev nB (l:List Int):Blk:=⟨0,true,3,1,dEls (i64s l)⟩
abbrev nC (b n:Nat):Blk:=⟨0,true,48,1,[[.own b 0 0 n]]⟩
abbrev tHp (g:Gr) (o:Nat→Option Nat) (N:AHeap):AHeap:=nB (oI g.b.length o)::nC 0 g.b.length::nB (pI2 g)::nC 2 g.b.length::N
theorem nB_get {l:List Int} {x:Nat} {v:Int} (h:l[x]? = some v):(dEls (i64s l))[x]? = some [aI .i64 v]:=by simp[dEls,i64s,h]
theorem dgN_lt {g:Gr} (he:EdgOk g) {x:Nat} (h:(dgN g).rc x=true):x < g.b.length:=ordN_lt he x (by simpa [dgN] using h)
theorem com_done (G:DG) (o:Nat→Option Nat) (f a:Nat):com G o f a a=a:=by cases f<;>simp[com]
set_option maxRecDepth 100000 in
theorem common_ac (g:Gr) (hg:GrFit g) (he:EdgOk g) (h0:0 < g.b.length) (o:Nat→Option Nat) (hi:OInv (dgN g) o) (a b:Nat) (ha:Vl (dgN g) o a) (hb:Vl (dgN g) o b) (N:AHeap) :
 AC Tryz.prog 204 [aI .i64 a,aI .i64 b,.ptr 3 0 0 0,.ptr 1 0 0 0] (tHp g o N) (fun r A'=>r=aI .i64 (com (dgN g) o ((dgN g).pl a + (dgN g).pl b) a b)∧A'=tHp g o N):=by
 have hG:=dgN_ok he h0
 obtain⟨R,hR⟩:∃ R,com (dgN g) o ((dgN g).pl a + (dgN g).pl b) a b=R:=⟨_,rfl⟩
 rw[hR]
 refine ac_of Tryz.func204 rfl (by kernel_rfl) (by simp[Tryz.ntmps204]) fun hb'=>?_
 clear hb'
 simp[Tryz.f204]
 refine aLoop_of (α:=Nat) (fun f e A=>∃ a b,A=tHp g o N∧Vl (dgN g) o a∧Vl (dgN g) o b∧(dgN g).pl a + (dgN g).pl b≤f∧com (dgN g) o f a b=R ∧
  e 0=aI .i64 a∧e 1=aI .i64 b∧e 2 = .ptr 3 0 0 0∧e 3 = .ptr 1 0 0 0) (fun f=>f) ((dgN g).pl a + (dgN g).pl b) (Sub.refl _ _ _)
  ⟨a,b,rfl,ha,hb,Nat.le_refl _,hR,by simp,by simp,by simp,by simp⟩ ?_
 rintro f e A ⟨a,b,rfl,ha,hb,hf,hR,e0,e1,e2,e3⟩ K hK
 by_cases hab:a=b
 ·subst hab
  rw[com_done] at hR
  subst hR
  simp[e0,e1]
 have han:=dgN_lt he ha.1
 have hbn:=dgN_lt he hb.1
 have pa:=nB_get (pI2_get han)
 have pb:=nB_get (pI2_get hbn)
 have oa:=nB_get (oI_get o han)
 have ob:=nB_get (oI_get o hbn)
 have va:pV g a=((dgN g).pl a:Int):=by unfold pV; rw[if_pos ha.1]
 have vb:pV g b=((dgN g).pl b:Int):=by unfold pV; rw[if_pos hb.1]
 rw[va] at pa
 rw[vb] at pb
 cases f with
 | zero=>exact absurd (hG.inj a b ha.1 hb.1 (by omega)) hab
 | succ f =>
   unfold com at hR
   rw[if_neg hab] at hR
   have hab':¬ (a:Int)=(b:Int):=by omega
   simp[e0,e1,hab']
   refine adraw [] (by kernel_rfl) (by kernel_rfl) (by kernel_rfl) (by kernel_rfl) ?_
   have pa2:=(gSI.1 pa).2
   have pb2:=(gSI.1 pb).2
   simp[e0,e1,e2,e3,han,hbn,pa,pb,pa2,pb2]
   by_cases hlt:(dgN g).pl b < (dgN g).pl a
   ·rw[if_pos hlt] at hR
    have har:a≠(dgN g).r:=fun h=>by rw[h,hG.pl0] at hlt; omega
    obtain⟨a',ha'⟩:=Option.isSome_iff_exists.1 (ha.2.resolve_left har)
    rw[ha'] at hR
    obtain⟨_,_,h3,h4⟩:=hi _ _ ha'
    have voa:oV o a=(a':Int):=by unfold oV; rw[ha']
    rw[voa] at oa
    have oa2:=oI_get o han
    rw[voa] at oa2
    have oa2:=(gSI.1 oa2).2
    simp[e0,e1,e2,e3,han,oa,oa2,hlt]
    exact hK f _ _ _ _ (Sub.refl _ _ _) ⟨a',b,rfl,h3,hb,by omega,hR,by simp,by simp[e1],by simp[e2],by simp[e3]⟩ (by omega)
   ·rw[if_neg hlt] at hR
    have hbr:b≠(dgN g).r:=fun h=>by
     rw[h,hG.pl0] at hlt
     exact hab (by rw[h]; exact hG.inj a _ ha.1 hG.root (by rw[hG.pl0]; omega))
    obtain⟨b',hb'⟩:=Option.isSome_iff_exists.1 (hb.2.resolve_left hbr)
    rw[hb'] at hR
    obtain⟨_,_,h3,h4⟩:=hi _ _ hb'
    have vob:oV o b=(b':Int):=by unfold oV; rw[hb']
    rw[vob] at ob
    have ob2:=oI_get o hbn
    rw[vob] at ob2
    have ob2:=(gSI.1 ob2).2
    simp[e0,e1,e2,e3,hbn,ob,ob2,hlt]
    exact hK f _ _ _ _ (Sub.refl _ _ _) ⟨a,b',rfl,ha,h3,by omega,hR,by simp[e0],by simp,by simp[e2],by simp[e3]⟩ (by omega)
def fI (n:Nat) (f:Nat→Int):List Int:=(List.range n).map f
@[simp] theorem fI_len (n:Nat) (f:Nat→Int):(fI n f).length=n:=by simp[fI]
theorem fI_get {n x:Nat} (f:Nat→Int) (h:x < n):(fI n f)[x]? = some (f x):=by simp[fI,h]
theorem fI_set {n x:Nat} (f:Nat→Int) (v:Int):(fI n f).set x v=fI n (fun y=>if y=x then v else f y):=by
 apply List.ext_getElem?
 intro j
 by_cases hj:j < n
 ·rw[fI_get _ hj,List.getElem?_set]
  by_cases hxj:x=j
  ·subst hxj; simp[hj]
  ·rw[if_neg hxj,fI_get _ hj,if_neg (Ne.symm hxj)]
 ·rw[List.getElem?_eq_none (by simp; omega),List.getElem?_eq_none (by simp; omega)]
theorem fI_ext {n:Nat} {f h:Nat→Int} (e:∀ x,x < n→f x=h x):fI n f=fI n h:=List.map_congr_left fun x hx=>e x (List.mem_range.1 hx)
theorem nE_set (l:List Int) (x:Nat) (v:Int):(dEls (i64s l)).set x [AV.d (D.v (Value.int .i64 v))]=dEls (i64s (l.set x v)):=by simp[dEls,i64s,List.map_set]
def plAt (g:Gr) (i x:Nat):Int:=if (dgN g).rc x=true∧(dgN g).pl x < i then ((dgN g).pl x:Int) else -1
theorem ord_pl {g:Gr} (he:EdgOk g) (h0:0 < g.b.length) {i k:Nat} (h:(ordN g)[i]? = some k):(dgN g).pl k=i:=by
 obtain⟨hi,rfl⟩:=gSI.1 h
 exact List.Nodup.idxOf_getElem (ordN_nodup he h0) i hi
theorem ord_rc {g:Gr} {i k:Nat} (h:(ordN g)[i]? = some k):(dgN g).rc k=true:=by
 have:=gMO h
 simpa [dgN] using this
theorem plAt_succ {g:Gr} (he:EdgOk g) (h0:0 < g.b.length) {i k:Nat} (h:(ordN g)[i]? = some k) (x:Nat):(if x=k then (i:Int) else plAt g i x)=plAt g (i + 1) x:=by
 have hk:=ord_pl he h0 h
 have hr:=ord_rc h
 by_cases hx:x=k
 ·subst hx
  rw[if_pos rfl]
  unfold plAt
  rw[if_pos ⟨hr,by omega⟩,hk]
 ·rw[if_neg hx]
  unfold plAt
  by_cases hrx:(dgN g).rc x=true
  ·have hne:(dgN g).pl x≠i:=fun e=>hx ((dgN_ok he h0).inj x k hrx hr (by omega))
   by_cases hlt:(dgN g).pl x < i
   ·rw[if_pos ⟨hrx,hlt⟩,if_pos ⟨hrx,by omega⟩]
   ·rw[if_neg (fun h=>hlt h.2),if_neg (fun h=>hlt (by omega))]
  ·rw[if_neg (fun h=>hrx h.1),if_neg (fun h=>hrx h.1)]
theorem plAt_end {g:Gr} (x:Nat):plAt g (ordN g).length x=pV g x:=by
 unfold plAt pV
 by_cases hrx:(dgN g).rc x=true
 ·have:(dgN g).pl x < (ordN g).length:=List.idxOf_lt_length_of_mem (by simpa [dgN] using hrx)
  rw[if_pos ⟨hrx,this⟩,if_pos hrx]
 ·rw[if_neg (fun h=>hrx h.1),if_neg hrx]
def TreeOk (g:Gr) (o:Nat→Option Nat):Prop:=∃ i,Pre (dgN g) o (i + 1)∧pass1 (dgN g) o=o
theorem iter_stable {G:DG} {i:Nat} (h:iter1 G (i + 1)=iter1 G i):∀ n,iter1 G (i + n)=iter1 G i
 | 0=>rfl
 | n + 1 => by
   show pass1 G (iter1 G (i + n))=_
   rw[iter_stable h n]
   exact h
theorem iter_same {G:DG} {i j:Nat} (hi:iter1 G (i + 1)=iter1 G i) (hj:iter1 G (j + 1)=iter1 G j):iter1 G i=iter1 G j:=by
 rcases Nat.le_total i j with h | h
 ·have:=iter_stable hi (j - i)
  rw[show i + (j - i)=j by omega] at this
  exact this.symm
 ·have:=iter_stable hj (i - j)
  rw[show j + (i - j)=i by omega] at this
  exact this
def bV:Option Nat→Int
 | some c=>c
 | none=>-1
theorem upd_same {o:Nat→Option Nat} {k c:Nat} (h:o k=some c):upd1 o k (some c)=o:=by
 funext x
 unfold upd1
 split
 ·rename_i e; rw[e,h]
 ·rfl
theorem oI_upd {n k c:Nat} (o:Nat→Option Nat):(oI n o).set k (c:Int)=oI n (upd1 o k (some c)):=by
 have h:=fI_set (n:=n) (x:=k) (oV o) (c:Int)
 show (fI n (oV o)).set k (c:Int)=fI n (oV (upd1 o k (some c)))
 rw[h]
 refine fI_ext fun x _=>?_
 by_cases hx:x=k
 ·simp[hx,oV,upd1]
 ·simp[hx,oV,upd1]
theorem dataT_get {T:List (List Nat)} {k:Nat} (h:k < T.length):(dataT T)[k]? = some [.sl 1 (i64s (nI (rowN T k)))]:=by simp[dataT,rowN,h]
theorem mid_take {g:Gr} (he:EdgOk g) (h0:0 < g.b.length) {o:Nat→Option Nat} {i:Nat} (hp:Pre (dgN g) o i):∀ j,j≤(ordN g).length→Mid1 (dgN g) o (((ordN g).take j).foldl (step1 (dgN g)) o) i j
 | 0,_=>⟨hp.inv,fun x _ hl=>by omega,fun x _ _=>rfl,fun x w _ hl=>by omega,hp.d⟩
 | j + 1, h => by
   have hk:(ordN g)[j]? = some (ordN g)[j]:=gEG (by omega)
   rw[foldl_take _ _ _ _ _ hk]
   exact mid_step (dgN_ok he h0) hp (mid_take he h0 hp j (by omega)) (ord_rc hk) (ord_pl he h0 hk)
set_option maxRecDepth 100000 in
theorem dmtree_ex (g:Gr) (hg:GrFit g) (he:EdgOk g) (h0:0 < g.b.length):∃ o,TreeOk g o∧AF Tryz.prog 155 [.d (.sl 1 (rowsN g g.b.length)),aI .i64 0] (.d (.sl 1 (i64s (oI g.b.length o)))):=by
 have hG:=dgN_ok he h0
 obtain⟨J,hJ⟩:=iter_ends hG
 refine⟨iter1 (dgN g) (J + 1),⟨J,iter_pre hG _,hJ⟩,?_⟩
 have hgl:g.b.length≤maxLen:=by have:=hg.1; unfold maxLen; omega
 have hg1:=hg.1
 have hol:=ordN_len he
 have n1:(ordN g).length≤maxLen:=by omega
 refine af_of Tryz.func155 rfl (by kernel_rfl) (by simp[Tryz.ntmps155]) fun _=>?_; simp[Tryz.f155,Ex.d_eq]
 simp[rowsN_len]
 refine aRaw_make (kl:=.i64) (kc:=.i64) (l:=g.b.length) (c:=g.b.length) (z:=[aI .i64 0]) byt_48 (by simp) (by simp) (by simp) (Nat.le_refl _) hgl (by omega) ?_
 simp[rowsN_len]
 refine aRaw_make (kl:=.i64) (kc:=.i64) (l:=g.b.length) (c:=g.b.length) (z:=[aI .i64 0]) byt_48 (by simp) (by simp) (by simp) (Nat.le_refl _) hgl (by omega) ?_
 simp[rowsN_len]
 rw[show List.replicate g.b.length [AV.d (.v (.int .i64 0))]=dEls (i64s (fI g.b.length fun x=>if x < 0 then -1 else 0)) by simp[fI,dEls,i64s,List.map_const']]
 refine aLoop_of (α:=Nat) (fun i e A=>i≤g.b.length∧(∃ N:AHeap,A=nB (fI g.b.length fun x=>if x < i then -1 else 0)::nC 0 g.b.length::nB (fI g.b.length fun x=>if x < i then -1 else 0)::nC 2 g.b.length::N) ∧
  e 26=aI .i64 i∧e 25=aI .i64 g.b.length∧e 0 = .d (.sl 1 (rowsN g g.b.length))∧e 1=aI .i64 0∧e 5 = .ptr 1 0 0 0∧e 6 = .ptr 3 0 0 0) (fun i=>g.b.length - i) 0 (Sub.refl _ _ _)
  ⟨by omega,⟨[],by simp⟩,by simp,by simp,by simp,by simp,by simp,by simp⟩ ?_
 rintro i e A ⟨hi,⟨N,rfl⟩,e26,e25,e0,e1,e5,e6⟩ K hK
 rcases Nat.lt_or_ge i g.b.length with hlt | hge
 ·have hget:=nB_get (fI_get (fun x=>if x < i then (-1:Int) else 0) hlt)
  have hset:((dEls (i64s (fI g.b.length fun x=>if x < i then -1 else 0))).set i [AV.d (D.v (Value.int .i64 (-1)))])=dEls (i64s (fI g.b.length fun x=>if x < i + 1 then -1 else 0)):=by
   rw[nE_set,fI_set]
   congr 2
   refine fI_ext fun x hx=>?_
   by_cases hxi:x=i
   ·simp[hxi]
   ·rw[if_neg hxi]
    by_cases hx2:x < i
    ·rw[if_pos hx2,if_pos (by omega)]
    ·rw[if_neg hx2,if_neg (by omega)]
  simp[e26,e25,hlt]
  refine adraw [(5,2)] (by kernel_rfl) (by kernel_rfl) (by kernel_rfl) (by kernel_rfl) ?_
  simp[e26,e5,e6,hlt,hget,hset,succ_wrap hlt hgl]
  exact hK (i + 1) _ _ _ _ (Sub.refl _ _ _) ⟨by omega,⟨N,by rfl⟩,by simp,by simp[e25],by simp[e0],by simp[e1],by simp[e5],by simp[e6]⟩ (by omega)
 obtain rfl:i=g.b.length:=by omega
 rw[show (fI g.b.length fun x=>if x < g.b.length then (-1:Int) else 0)=fI g.b.length (plAt g 0) from fI_ext fun x hx=>by rw[if_pos hx]; unfold plAt; rw[if_neg (fun h=>by omega)]]
 simp[e26,e25,e0,e1]
 refine aCall_of (dmorder_af g hg he revOk) (by kernel_rfl) (by simp) ?_
 simp
 have hnone:fI g.b.length (plAt g 0)=oI g.b.length (fun _=>none):=fI_ext fun x hx=>by unfold plAt; rw[if_neg (fun h=>by omega)]; rfl
 refine aLoop_of (α:=Nat) (fun i e A=>i≤(ordN g).length∧(∃ N:AHeap,A=nB (oI g.b.length fun _=>none)::nC 0 g.b.length::nB (fI g.b.length (plAt g i))::nC 2 g.b.length::N) ∧
  e 41=aI .i64 i∧e 40=aI .i64 (ordN g).length∧e 8 = .d (.sl 1 (i64s (nI (ordN g))))∧e 0 = .d (.sl 1 (rowsN g g.b.length))∧e 1=aI .i64 0∧e 5 = .ptr 1 0 0 0∧e 6 = .ptr 3 0 0 0) (fun i=>(ordN g).length - i) 0 (Sub.refl _ _ _)
  ⟨by omega,⟨N,by rw[← hnone]⟩,by simp,by simp,by simp,by simp[e0],by simp[e1],by simp[e5],by simp[e6]⟩ ?_
 clear hK e26 e25 e0 e1 e5 e6 K e
 rintro i e A ⟨hi,⟨N,rfl⟩,e41,e40,e8,e0,e1,e5,e6⟩ K hK
 rcases Nat.lt_or_ge i (ordN g).length with hlt | hge
 ·obtain⟨k,hk⟩:∃ k,(ordN g)[i]? = some k:=⟨_,gEG hlt⟩
  have hk2:=(gSI.1 hk).2
  have hkn:=ordN_lt he k (gMO hk)
  have hget:=nB_get (fI_get (plAt g i) hkn)
  have hset:((dEls (i64s (fI g.b.length (plAt g i)))).set k [AV.d (D.v (Value.int .i64 i))])=dEls (i64s (fI g.b.length (plAt g (i + 1)))):=by
   rw[nE_set,fI_set]
   congr 2
   exact fI_ext fun x _=>plAt_succ he h0 hk x
  simp[e41,e40,hlt]
  refine adraw [] (by kernel_rfl) (by kernel_rfl) (by kernel_rfl) (by kernel_rfl) ?_
  simp[e41,e6,e8,hlt,hk,hk2,hkn,hget,hset,succ_wrap hlt n1]
  exact hK (i + 1) _ _ _ _ (Sub.refl _ _ _) ⟨by omega,⟨N,by rfl⟩,by simp,by simp[e40],by simp[e8],by simp[e0],by simp[e1],by simp[e5],by simp[e6]⟩ (by omega)
 obtain rfl:i=(ordN g).length:=by omega
 rw[show fI g.b.length (plAt g (ordN g).length)=pI2 g from fI_ext fun x _=>plAt_end x]
 simp[e41,e40,e0]
 refine aCall_of (dmturned_af g hg he) (by kernel_rfl) (by simp) ?_
 simp
 clear hK e41 e40 hge
 refine aLoop_of (α:=Nat) (fun i e A=>i≤J + 2∧(∃ b:Bool,(b=true→i≤J + 1)∧(b=false→∃ i',i=i' + 1∧iter1 (dgN g) (i' + 1)=iter1 (dgN g) i')∧e 12=aB b)∧(∃ N:AHeap,A=tHp g (iter1 (dgN g) i) N) ∧
  e 8 = .d (.sl 1 (i64s (nI (ordN g))))∧e 10 = .d (.sl 1 (dataT (turnN g)))∧e 11 = .fn 204 [] [.ptr 3 0 0 0,.ptr 1 0 0 0]∧e 1=aI .i64 0∧e 5 = .ptr 1 0 0 0∧e 6 = .ptr 3 0 0 0) (fun i=>J + 3 - i) 0 (Sub.refl _ _ _)
  ⟨by omega,⟨true,fun _=>by omega,fun h=>by (cases h),by simp⟩,⟨N,by rfl⟩,by simp[e8],by simp,by simp[e5,e6],by simp[e1],by simp[e5],by simp[e6]⟩ ?_
 clear e8 e0 e1 e5 e6 K e
 rintro i e A ⟨hi,⟨b,hb1,hb2,e12⟩,⟨N,rfl⟩,e8,e10,e11,e1,e5,e6⟩ K hK
 cases b with
 | false =>
   obtain⟨i',rfl,hi'⟩:=hb2 rfl
   have hs:iter1 (dgN g) (i' + 1)=iter1 (dgN g) (J + 1):=by rw[hi']; exact iter_same hi' hJ
   rw[hs]
   simp[e12,e5]
   rw[List.take_of_length_le (by simp)]
   exact NLeS.refl _
 | true =>
   have hi1:=hb1 rfl
   have hp:=iter_pre hG i
   obtain⟨o,ho⟩:∃ o,iter1 (dgN g) i=o:=⟨_,rfl⟩
   rw[ho] at hp ⊢
   have hTl:(turnN g).length=g.b.length:=by
    have:=(turn_keep hg (List.range g.b.length) (List.replicate g.b.length []) 0 (by simp)).1
    simpa [turnN] using this
   simp[e12,e8]
   refine aLoop_of (α:=Nat) (fun j e A=>j≤(ordN g).length∧(∃ c:Bool,(c=false→((ordN g).take j).foldl (step1 (dgN g)) o=o)∧(c=true→∃ x,(dgN g).rc x=true∧(dgN g).pl x < j∧((ordN g).take j).foldl (step1 (dgN g)) o x≠o x)∧e 12=aB c) ∧
    (∃ N:AHeap,A=tHp g (((ordN g).take j).foldl (step1 (dgN g)) o) N)∧e 58=aI .i64 j∧e 57=aI .i64 (ordN g).length∧e 56 = .d (.sl 1 (i64s (nI (ordN g)))) ∧
    e 8 = .d (.sl 1 (i64s (nI (ordN g))))∧e 10 = .d (.sl 1 (dataT (turnN g)))∧e 11 = .fn 204 [] [.ptr 3 0 0 0,.ptr 1 0 0 0]∧e 1=aI .i64 0∧e 5 = .ptr 1 0 0 0∧e 6 = .ptr 3 0 0 0) (fun j=>(ordN g).length - j) 0 (Sub.refl _ _ _)
    ⟨by omega,⟨false,fun _=>rfl,fun h=>by (cases h),by simp⟩,⟨N,by rfl⟩,by simp,by simp,by simp,by simp[e8],by simp[e10],by simp[e11],by simp[e1],by simp[e5],by simp[e6]⟩ ?_
   clear e12 e8 e10 e11 e1 e5 e6 e
   rintro j e A ⟨hj,⟨c,hc1,hc2,e12⟩,⟨N,rfl⟩,e58,e57,e56,e8,e10,e11,e1,e5,e6⟩ K2 hK2
   have hm:=mid_take he h0 hp j hj
   rcases Nat.lt_or_ge j (ordN g).length with hlt | hge
   case inr=>
    obtain rfl:j=(ordN g).length:=by omega
    rw[List.take_length] at hc1 hc2 hm ⊢
    have hit:(ordN g).foldl (step1 (dgN g)) o=iter1 (dgN g) (i + 1):=by rw[← ho]; rfl
    rw[hit] at hc1 hc2 hm ⊢
    simp[e58,e57]
    refine hK (i + 1) _ _ _ _ (Sub.refl _ _ _) ⟨by omega,⟨c,fun h=>?_,fun h=>⟨i,rfl,by rw[hc1 h,ho]⟩,by simp[e12]⟩,⟨N,by rfl⟩,by simp[e8],by simp[e10],by simp[e11],by simp[e1],by simp[e5],by simp[e6]⟩ (by omega)
    obtain⟨x,_,_,hx⟩:=hc2 h
    rcases Nat.lt_or_ge i (J + 1) with g1 | g1
    ·omega
    ·refine absurd ?_ hx
     have h1:=iter_stable hJ (i - (J + 1))
     have h2:=iter_stable hJ (i + 1 - (J + 1))
     rw[show J + 1 + (i - (J + 1))=i by omega] at h1
     rw[show J + 1 + (i + 1 - (J + 1))=i + 1 by omega] at h2
     rw[h2,← h1,ho]
   obtain⟨k,hk⟩:∃ k,(ordN g)[j]? = some k:=⟨_,gEG hlt⟩
   have hk2:=(gSI.1 hk).2
   have hkn:=ordN_lt he k (gMO hk)
   have hkr:=ord_rc hk
   have hkp:=ord_pl he h0 hk
   have hft:=foldl_take (step1 (dgN g)) (ordN g) j k o hk
   obtain⟨m,hmm⟩:∃ m,((ordN g).take j).foldl (step1 (dgN g)) o=m:=⟨_,rfl⟩
   rw[hmm] at hc1 hc2 hm hft ⊢
   by_cases hk0:k=0
   ·have hk0':k=(dgN g).r:=hk0
    have hst:step1 (dgN g) m k=m:=by unfold step1; rw[if_pos hk0']
    rw[hst] at hft
    simp[e58,e57,e56,e1,hlt,hk,hk2,hk0,succ_wrap hlt n1]
    refine hK2 (j + 1) _ _ _ _ (Sub.refl _ _ _) ⟨by omega,⟨c,fun h=>by rw[hft]; exact hc1 h,fun h=>by rw[hft]; obtain⟨x,x1,x2,x3⟩:=hc2 h; exact⟨x,x1,by omega,x3⟩,by simp[e12]⟩,⟨N,by rw[hft]⟩,by simp,by simp[e57],by simp[e56],by simp[e8],by simp[e10],by simp[e11],by simp[e1],by simp[e5],by simp[e6]⟩ (by omega)
   have hkr0:k≠(dgN g).r:=hk0
   obtain⟨cb,hcb,hcv,hcl,_⟩:=step1_some hG hm.inv hkr hkr0 (fun q h1 h2=>hm.vl q h1 (by omega))
   have hst:step1 (dgN g) m k=upd1 m k (some cb):=by unfold step1; rw[if_neg hkr0,hcb]
   rw[hst] at hft
   have hB:(dgN g).B k=rowN (turnN g) k:=rfl
   rw[hB] at hcb
   obtain⟨B,hBB⟩:∃ B,rowN (turnN g) k=B:=⟨_,rfl⟩
   have hdg:=dataT_get (T:=turnN g) (k:=k) (by omega)
   have hBn:∀ p∈B,p < g.b.length:=fun p hp=>((turn_mem hkn).1 (by rw[hBB]; exact hp)).1
   rw[hBB] at hcb hdg
   have hdg2:=(gSI.1 hdg).2
   have hdl:(dataT (turnN g)).length=g.b.length:=by simp[dataT,hTl]
   have hBl:B.length≤maxLen:=by
    have h1:=(turn_keep hg (List.range g.b.length) (List.replicate g.b.length []) 0 (by simp)).2
    have h2:∀ L∈turnN g,L.length≤2000000000000:=fun L hL=>by have:=h1 L hL; rw[List.length_range] at this; omega
    have h3:(turnN g)[k]? = some (turnN g)[k]:=gEG (by omega)
    have h4:B=(turnN g)[k]:=by rw[← hBB,rowN,h3]; rfl
    have:=h2 _ (gMO h3)
    rw[h4]
    unfold maxLen
    omega
   simp[e58,e57,e56,e1,e10,hlt,hk,hk2,hk0,hkn,hdg,hdg2,hdl]
   refine aLoop_of (α:=Nat) (fun q e A=>q≤B.length∧(∃ bj:Option Nat,bst (dgN g) m (B.drop q) bj=some cb∧(∀ c,bj=some c→Vl (dgN g) m c)∧e 15=aI .i64 (bV bj))∧(∃ N:AHeap,A=tHp g m N)∧e 70=aI .i64 q∧e 69=aI .i64 B.length∧e 68 = .d (.sl 1 (i64s (nI B))) ∧
    e 14=aI .i64 k∧e 12=aB c∧e 58=aI .i64 j∧e 57=aI .i64 (ordN g).length∧e 56 = .d (.sl 1 (i64s (nI (ordN g)))) ∧
    e 8 = .d (.sl 1 (i64s (nI (ordN g))))∧e 10 = .d (.sl 1 (dataT (turnN g)))∧e 11 = .fn 204 [] [.ptr 3 0 0 0,.ptr 1 0 0 0]∧e 1=aI .i64 0∧e 5 = .ptr 1 0 0 0∧e 6 = .ptr 3 0 0 0) (fun q=>B.length - q) 0 (Sub.refl _ _ _)
    ⟨by omega,⟨none,by simpa using hcb,fun c h=>by (cases h),by simp[bV]⟩,⟨N,by rfl⟩,by simp,by simp,by simp,by simp,by simp[e12],by simp[e58],by simp[e57],by simp[e56],by simp[e8],by simp[e10],by simp[e11],by simp[e1],by simp[e5],by simp[e6]⟩ ?_
   clear e12 e58 e57 e56 e8 e10 e11 e1 e5 e6 e
   rintro q e A ⟨hq,⟨bj,hbj,hbv,e15⟩,⟨N,rfl⟩,e70,e69,e68,e14,e12,e58,e57,e56,e8,e10,e11,e1,e5,e6⟩ K3 hK3
   rcases Nat.lt_or_ge q B.length with hqlt | hqge
   case inr=>
    obtain rfl:q=B.length:=by omega
    rw[List.drop_length] at hbj
    have hbj':bj=some cb:=hbj
    rw[hbj'] at e15
    have e15:e 15=aI .i64 cb:=e15
    have og:=nB_get (oI_get m hkn)
    have og1:=oI_get m hkn
    have hold:=hm.old k hkr (by omega)
    cases hmk:m k with
    | some c' =>
      by_cases hcc:c'=cb
      ·subst hcc
       have hov:oV m k=(c':Int):=by unfold oV; rw[hmk]
       have hsame:=upd_same hmk
       rw[hsame] at hft
       rw[hov] at og1
       have og2:=(gSI.1 og1).2
       simp[e70,e69,e15,e14,e5,hkn,og,og2,e58,succ_wrap hlt n1]
       exact hK2 (j + 1) _ _ _ _ (Sub.refl _ _ _) ⟨by omega,⟨c,fun h=>by rw[hft]; exact hc1 h,fun h=>by rw[hft]; obtain⟨x,x1,x2,x3⟩:=hc2 h; exact⟨x,x1,by omega,x3⟩,by simp[e12]⟩,⟨N,by rw[hft]⟩,by simp,by simp[e57],by simp[e56],by simp[e8],by simp[e10],by simp[e11],by simp[e1],by simp[e5],by simp[e6]⟩ (by omega)
      ·have hov:oV m k=(c':Int):=by unfold oV; rw[hmk]
       have hset:(dEls (i64s (oI g.b.length m))).set k [AV.d (D.v (Value.int .i64 cb))]=dEls (i64s (oI g.b.length (upd1 m k (some cb)))):=by rw[nE_set,oI_upd]
       rw[hov] at og1
       have og2:=(gSI.1 og1).2
       have hne:¬ (cb:Int)=(c':Int):=by omega
       simp[e70,e69,e15,e14,e5,hkn,og,og2,hne,hset,e58,succ_wrap hlt n1]
       exact hK2 (j + 1) _ _ _ _ (Sub.refl _ _ _) ⟨by omega,⟨true,fun h=>(by cases h),fun _=>⟨k,hkr,by omega,by rw[hft,← hold,hmk]; simp[upd1]; omega⟩,by simp⟩,⟨N,by rw[hft]⟩,by simp,by simp[e57],by simp[e56],by simp[e8],by simp[e10],by simp[e11],by simp[e1],by simp[e5],by simp[e6]⟩ (by omega)
    | none =>
      have hov:oV m k = -1:=by unfold oV; rw[hmk]
      have hset:(dEls (i64s (oI g.b.length m))).set k [AV.d (D.v (Value.int .i64 cb))]=dEls (i64s (oI g.b.length (upd1 m k (some cb)))):=by rw[nE_set,oI_upd]
      rw[hov] at og1
      have og2:=(gSI.1 og1).2
      have hne:¬ (cb:Int) = -1:=by omega
      simp[e70,e69,e15,e14,e5,hkn,og,og2,hne,hset,e58,succ_wrap hlt n1]
      exact hK2 (j + 1) _ _ _ _ (Sub.refl _ _ _) ⟨by omega,⟨true,fun h=>(by cases h),fun _=>⟨k,hkr,by omega,by rw[hft,← hold,hmk]; simp[upd1]⟩,by simp⟩,⟨N,by rw[hft]⟩,by simp,by simp[e57],by simp[e56],by simp[e8],by simp[e10],by simp[e11],by simp[e1],by simp[e5],by simp[e6]⟩ (by omega)
   obtain⟨p,hpq⟩:∃ p,B[q]? = some p:=⟨_,gEG hqlt⟩
   have hpq2:=(gSI.1 hpq).2
   have hpn:=hBn p (gMO hpq)
   have hdrop:B.drop q=p::B.drop (q + 1):=by rw[List.drop_eq_getElem_cons hqlt,hpq2]
   have pg:=nB_get (pI2_get hpn)
   have og:=nB_get (oI_get m hpn)
   have pg1:=pI2_get hpn
   have og1:=oI_get m hpn
   rw[hdrop] at hbj
   unfold bst at hbj
   have skip:okP (dgN g) m p=false→bst (dgN g) m (B.drop (q + 1)) bj=some cb:=fun h=>by rw[if_neg (by simp[h])] at hbj; exact hbj
   by_cases hrp:(dgN g).rc p=true
   case neg=>
    have hpv:pV g p = -1:=by unfold pV; rw[if_neg hrp]
    have hok:okP (dgN g) m p=false:=by simp[okP,hrp]
    rw[hpv] at pg1
    have pg2:=(gSI.1 pg1).2
    simp[e70,e69,e68,e15,e6,e5,e1,hqlt,hpq,hpq2,hpn,pg,og,pg2,succ_wrap hqlt hBl]
    exact hK3 (q + 1) _ _ _ _ (Sub.refl _ _ _) ⟨by omega,⟨bj,skip hok,hbv,by simp[e15]⟩,⟨N,by rfl⟩,by simp,by simp[e69],by simp[e68],by simp[e14],by simp[e12],by simp[e58],by simp[e57],by simp[e56],by simp[e8],by simp[e10],by simp[e11],by simp[e1],by simp[e5],by simp[e6]⟩ (by omega)
   have hpv:pV g p=((dgN g).pl p:Int):=by unfold pV; rw[if_pos hrp]
   rw[hpv] at pg1
   have pg2:=(gSI.1 pg1).2
   have hge0:¬ ((dgN g).pl p:Int) < 0:=by omega
   by_cases hval:okP (dgN g) m p=true
   case neg=>
    have hok:okP (dgN g) m p=false:=by simpa using hval
    have hp0:¬ p=0:=fun h=>hval (okP_iff.2 ⟨hrp,.inl h⟩)
    have hmp:m p=none:=by
     cases h:m p with
     | none=>rfl
     | some y=>exact absurd (okP_iff.2 ⟨hrp,.inr (by simp[h])⟩) hval
    have hov:oV m p = -1:=by unfold oV; rw[hmp]
    rw[hov] at og1
    have og2:=(gSI.1 og1).2
    simp[e70,e69,e68,e15,e6,e5,e1,hqlt,hpq,hpq2,hpn,pg,og,pg2,og2,hge0,hp0,succ_wrap hqlt hBl]
    exact hK3 (q + 1) _ _ _ _ (Sub.refl _ _ _) ⟨by omega,⟨bj,skip hok,hbv,by simp[e15]⟩,⟨N,by rfl⟩,by simp,by simp[e69],by simp[e68],by simp[e14],by simp[e12],by simp[e58],by simp[e57],by simp[e56],by simp[e8],by simp[e10],by simp[e11],by simp[e1],by simp[e5],by simp[e6]⟩ (by omega)
   rw[if_pos hval] at hbj
   have hpvl:=okP_iff.1 hval
   have hcase:p=0∨(¬ p=0∧∃ y,m p=some y):=by
    by_cases hp0:p=0
    ·exact .inl hp0
    ·exact .inr ⟨hp0,Option.isSome_iff_exists.1 (hpvl.2.resolve_left hp0)⟩
   cases bj with
   | none =>
     have e15:e 15=aI .i64 (-1):=e15
     rcases hcase with hp0 | ⟨hp0,y,hmp⟩
     ·subst hp0
      simp[e70,e69,e68,e15,e6,e5,e1,hqlt,hpq,hpq2,hpn,pg,og,pg2,hge0,succ_wrap hqlt hBl]
      exact hK3 (q + 1) _ _ _ _ (Sub.refl _ _ _) ⟨by omega,⟨some 0,hbj,fun c h=>by obtain rfl:=oSI h; exact hpvl,by simp[bV]⟩,⟨N,by rfl⟩,by simp,by simp[e69],by simp[e68],by simp[e14],by simp[e12],by simp[e58],by simp[e57],by simp[e56],by simp[e8],by simp[e10],by simp[e11],by simp[e1],by simp[e5],by simp[e6]⟩ (by omega)
     ·have hov:oV m p=(y:Int):=by unfold oV; rw[hmp]
      rw[hov] at og1
      have og2:=(gSI.1 og1).2
      have hy:¬ (y:Int) < 0:=by omega
      simp[e70,e69,e68,e15,e6,e5,e1,hqlt,hpq,hpq2,hpn,pg,og,pg2,og2,hge0,hp0,hy,succ_wrap hqlt hBl]
      exact hK3 (q + 1) _ _ _ _ (Sub.refl _ _ _) ⟨by omega,⟨some p,hbj,fun c h=>by obtain rfl:=oSI h; exact hpvl,by simp[bV]⟩,⟨N,by rfl⟩,by simp,by simp[e69],by simp[e68],by simp[e14],by simp[e12],by simp[e58],by simp[e57],by simp[e56],by simp[e8],by simp[e10],by simp[e11],by simp[e1],by simp[e5],by simp[e6]⟩ (by omega)
   | some cj =>
     have e15:e 15=aI .i64 cj:=e15
     have hcjv:=hbv cj rfl
     have hcj:¬ (cj:Int) < 0:=by omega
     have hca:=common_ac g hg he h0 m hm.inv cj p hcjv hpvl N
     have hspec:=com_spec hG hm.inv ((dgN g).pl cj + (dgN g).pl p) cj p hcjv hpvl (Nat.le_refl _)
     rcases hcase with hp0 | ⟨hp0,y,hmp⟩
     ·subst hp0
      simp[e70,e69,e68,e15,e6,e5,e1,e11,hqlt,hpq,hpq2,hpn,pg,og,pg2,hge0,hcj,succ_wrap hqlt hBl]
      refine aCall_ofc hca (by kernel_rfl) ?_
      rintro _ _ ⟨rfl,rfl⟩
      simp[e70,e69,succ_wrap hqlt hBl]
      exact hK3 (q + 1) _ _ _ _ (Sub.refl _ _ _) ⟨by omega,⟨some _,hbj,fun c h=>by obtain rfl:=oSI h; exact hm.inv.vl hcjv hspec.l,by simp[bV]⟩,⟨N,by rfl⟩,by simp,by simp[e69],by simp[e68],by simp[e14],by simp[e12],by simp[e58],by simp[e57],by simp[e56],by simp[e8],by simp[e10],by simp[e11],by simp[e1],by simp[e5],by simp[e6]⟩ (by omega)
     ·have hov:oV m p=(y:Int):=by unfold oV; rw[hmp]
      rw[hov] at og1
      have og2:=(gSI.1 og1).2
      have hy:¬ (y:Int) < 0:=by omega
      simp[e70,e69,e68,e15,e6,e5,e1,e11,hqlt,hpq,hpq2,hpn,pg,og,pg2,og2,hge0,hp0,hy,hcj,succ_wrap hqlt hBl]
      refine aCall_ofc hca (by kernel_rfl) ?_
      rintro _ _ ⟨rfl,rfl⟩
      simp[e70,e69,succ_wrap hqlt hBl]
      exact hK3 (q + 1) _ _ _ _ (Sub.refl _ _ _) ⟨by omega,⟨some _,hbj,fun c h=>by obtain rfl:=oSI h; exact hm.inv.vl hcjv hspec.l,by simp[bV]⟩,⟨N,by rfl⟩,by simp,by simp[e69],by simp[e68],by simp[e14],by simp[e12],by simp[e58],by simp[e57],by simp[e56],by simp[e8],by simp[e10],by simp[e11],by simp[e1],by simp[e5],by simp[e6]⟩ (by omega)
def cmpI (L:List Nat):List Int:=Lib.compact (nI L)
theorem cmpI_len (L:List Nat):(cmpI L).length≤L.length:=by
 unfold cmpI Lib.compact Lib.compactUpTo
 rw[List.length_map]
 refine Nat.le_trans (List.length_filter_le _ _) ?_
 simp
def rowP (k j:Nat) (L:List Nat):List AV:=[.own (j + 2) L.length 0 (if j < k then (cmpI L).length else L.length)]
def rowsP (k:Nat) (T:List (List Nat)):List (List AV):=T.mapIdx (rowP k)
def bkP (k j:Nat) (L:List Nat):Blk:=if j < k then ⟨L.length,true,3,1,dEls (i64s (cmpI L++List.replicate (L.length - (cmpI L).length) 0))⟩ else dPb L
def blkP (k:Nat) (T:List (List Nat)):AHeap:=T.mapIdx (bkP k)
theorem rowsP_len (k:Nat) (T:List (List Nat)):(rowsP k T).length=T.length:=by simp[rowsP]
theorem rowsP_zero (T:List (List Nat)):rowsP 0 T=rowsT 2 T:=by
 apply List.ext_getElem?
 intro j
 simp only[rowsP,rowsT,List.getElem?_mapIdx]
 cases T[j]? <;> simp[rowP]
theorem blkP_zero (T:List (List Nat)):blkP 0 T=blkT T:=by
 apply List.ext_getElem?
 intro j
 simp only[blkP,blkT,List.getElem?_mapIdx,List.getElem?_map]
 cases T[j]? <;> simp[bkP]
theorem rowsP_get {T:List (List Nat)} {k:Nat} {L:List Nat} (h:T[k]? = some L):(rowsP k T)[k]? = some [.own (k + 2) L.length 0 L.length]:=by simp[rowsP,rowP,h]
theorem rowsP_set {T:List (List Nat)} {k:Nat} {L:List Nat} (h:T[k]? = some L):(rowsP k T).set k [.own (k + 2) L.length 0 (cmpI L).length]=rowsP (k + 1) T:=by
 apply List.ext_getElem?
 intro j
 have hk:=(gSI.1 h).1
 by_cases hkj:k=j
 ·subst hkj
  rw[gSS (by rw[rowsP_len]; exact hk)]
  simp[rowsP,rowP,h]
 ·rw[gSN hkj]
  simp only[rowsP,List.getElem?_mapIdx]
  congr 1
  funext L'
  unfold rowP
  by_cases hjk:j < k
  ·rw[if_pos hjk,if_pos (by omega)]
  ·rw[if_neg hjk,if_neg (by omega)]
theorem blkP_get {T:List (List Nat)} {k:Nat} {L:List Nat} (h:T[k]? = some L) (N:AHeap):(blkP k T++N)[k]? = some (dPb L):=by
 have hk:=(gSI.1 h).1
 rw[gAL (by simpa [blkP] using hk)]
 simp[blkP,bkP,h]
theorem blkP_set {T:List (List Nat)} {k:Nat} {L:List Nat} (h:T[k]? = some L) (N:AHeap):(blkP k T++N).set k ⟨L.length,true,3,1,dEls (i64s (cmpI L++List.replicate (L.length - (cmpI L).length) 0))⟩=blkP (k + 1) T++N:=by
 have hk:=(gSI.1 h).1
 rw[List.set_append_left _ _ (by simpa [blkP] using hk)]
 congr 1
 apply List.ext_getElem?
 intro j
 by_cases hkj:k=j
 ·subst hkj
  rw[gSS (by simpa [blkP] using hk)]
  simp[blkP,bkP,h]
 ·rw[gSN hkj]
  simp only[blkP,List.getElem?_mapIdx]
  congr 1
  funext L'
  unfold bkP
  by_cases hjk:j < k
  ·rw[if_pos hjk,if_pos (by omega)]
  ·rw[if_neg hjk,if_neg (by omega)]
def dataP (T:List (List Nat)):List (List D):=T.map fun L=>[.sl 1 (i64s (cmpI L))]
theorem reiP (N:AHeap) (a b:Blk) (T:List (List Nat)) (d:Nat):omap (fun x=>omap (reiD false (a::b::(blkP T.length T++N)) (d + 1)) x) (rowsP T.length T)=some (dataP T):=by
 refine omap_ext (by simp[rowsP_len,dataP]) fun i x r ha hr=>?_
 simp only[rowsP,List.getElem?_mapIdx,Option.map_eq_some_iff] at ha
 obtain⟨L,hL,rfl⟩:=ha
 simp only[dataP,List.getElem?_map,hL,Option.map_some,Option.some.injEq] at hr
 subst hr
 have hi:=(gSI.1 hL).1
 have hg:(blkP T.length T++N)[i]? = some ⟨L.length,true,3,1,dEls (i64s (cmpI L++List.replicate (L.length - (cmpI L).length) 0))⟩:=by
  rw[gAL (by simpa [blkP] using hi)]
  have hL2:=(gSI.1 hL).2
  simp[blkP,bkP,hL,hi,hL2]
 have ht:List.take (cmpI L).length (dEls (i64s (cmpI L++List.replicate (L.length - (cmpI L).length) 0)))=dEls (i64s (cmpI L)):=by
  rw[i64s_app]
  simp[dEls]
 simp[omap,rowP,hi,reiD,curB,hg,ht]
set_option maxRecDepth 100000 in
theorem dmpreds_af (g:Gr) (hg:GrFit g) (he:EdgOk g) (hsm:g.b.length≤400):AF Tryz.prog 209 [grV g] (.d (.sl 1 (dataP (turnN g)))):=by
 have hgl:g.b.length≤maxLen:=by have:=hg.1; unfold maxLen; omega
 have hg1:=hg.1
 have hk:=turn_keep hg (List.range g.b.length) (List.replicate g.b.length []) 0 (by simp)
 obtain⟨T,hT⟩:∃ T,turnN g=T:=⟨_,rfl⟩
 rw[show (List.range g.b.length).foldl (rowT g) (List.replicate g.b.length [])=T from hT] at hk
 have hTl:T.length=g.b.length:=by rw[hk.1]; simp
 have hTm:∀ L∈T,L.length≤1000000000:=fun L hL=>by have:=hk.2 L hL; rw[List.length_range] at this; omega
 have hc1:=dmturned_ac g hg he (gB g)
 rw[hT] at hc1 ⊢
 refine af_of Tryz.func209 rfl (by kernel_rfl) (by simp[Tryz.ntmps209]) fun _=>?_; simp[Tryz.f209,Ex.d_eq]
 refine aCall_of (dmall_af g hg he) (by kernel_rfl) (by simp) ?_
 simp
 refine aCall_ofc hc1 (by kernel_rfl) ?_
 rintro _ _ ⟨rfl,N,rfl⟩
 simp
 refine aLoop_of (α:=Nat) (fun i e A=>i≤g.b.length∧(∃ N:AHeap,A=gB g::⟨0,true,48,1,rowsP i T⟩::(blkP i T++N)) ∧
  e 10=aI .i64 i∧e 9=aI .i64 g.b.length∧e 3 = .own 1 0 0 g.b.length) (fun i=>g.b.length - i) 0 (Sub.refl _ _ _)
  ⟨by omega,⟨N,by simp[rowsP_zero,blkP_zero]⟩,by simp,by simp,by simp⟩ ?_
 rintro i e A ⟨hi,⟨N,rfl⟩,e10,e9,e3⟩ K hK
 rcases Nat.lt_or_ge i g.b.length with hlt | hge
 case inr=>
  obtain rfl:i=g.b.length:=by omega
  have ht:(rowsP g.b.length T).take g.b.length=rowsP g.b.length T:=List.take_of_length_le (by simp[rowsP_len,hTl])
  have hr:=reiP N (gB g) ⟨0,true,48,1,rowsP T.length T⟩ T 7
  rw[hTl] at hr
  simp[e10,e9,e3,ht,rowsP_len,hTl,hr]
 obtain⟨L,hL⟩:∃ L,T[i]? = some L:=⟨_,gEG (by omega)⟩
 have hLl:=hTm L (gMO hL)
 have hrw:=rowsP_get hL
 have hbg:=fun N=>blkP_get hL N
 simp[e10,e9,e3,hlt,hrw,hbg]
 have hc:=compact_ac (nI L) (cmpI L) (gB g::⟨0,true,48,1,rowsP i T⟩::(blkP i T++N)) (i + 2) L.length 3 (by simpa using blkP_get hL N) (by simpa using hLl) rfl (by simpa using cmpI_len L) (by decide)
 rw[show (nI L).length=L.length by simp] at hc
 have hset:=blkP_set hL N
 have hrs:=rowsP_set hL
 refine aCall_ofc hc (by simp) ?_
 rintro _ _ ⟨rfl,rfl⟩
 rw[show (gB g::(⟨0,true,48,1,rowsP i T⟩:Blk)::(blkP i T++N)).set (i + 2) ⟨L.length,true,3,1,dEls (i64s (cmpI L++List.replicate (L.length - (cmpI L).length) 0))⟩=gB g::(⟨0,true,48,1,rowsP i T⟩:Blk)::(blkP (i + 1) T++N) by rw[← hset]; rfl]
 simp[e10,e3,hlt,hrw,hrs,succ_wrap hlt hgl]
 refine hK (i + 1) _ _ _ _ (Sub.refl _ _ _) ⟨by omega,⟨N,by rfl⟩,by simp,by simp[e9],by simp[e3]⟩ (by omega)
structure CV where
 kd:Int
 a:Int
 b:Int
 off:Int
 wd:Int
 tk:Int
 ts:Int
 tc:Int
 el:List (List D)
 fl:List (List D)
def CV.d (c:CV):List D:=[.v (.int .i64 c.kd),.v (.int .i64 c.a),.v (.int .i64 c.b),.v (.int .i64 c.off),.v (.int .i64 c.wd),.v (.int .i64 c.tk),.v (.int .i64 c.ts),.v (.int .i64 c.tc),.sl 5 c.el,.sl 6 c.fl]
theorem CV.d_eq (c:CV):CV.d c=[.v (.int .i64 c.kd),.v (.int .i64 c.a),.v (.int .i64 c.b),.v (.int .i64 c.off),.v (.int .i64 c.wd),.v (.int .i64 c.tk),.v (.int .i64 c.ts),.v (.int .i64 c.tc),.sl 5 c.el,.sl 6 c.fl]:=rfl
@[simp] theorem CV.d_len (c:CV):(CV.d c).length=10:=rfl
def cvs (l:List CV):List (List D):=l.map CV.d
@[simp] theorem cvs_nil:cvs []=[]:=rfl
@[simp] theorem cvs_cons (s:CV) (l:List CV):cvs (s::l)=s.d::cvs l:=rfl
theorem fold_compact (V:List Int):Lib.compact (srt V)=V.foldl insL []∧(V.foldl insL []).length≤V.length:=by
 have hp:(srt V).Pairwise fun a b=>(decide (a≤b))=true:=List.pairwise_mergeSort (fun a b c h1 h2=>by simp at *; omega) (fun a b=>by simp; omega) _
 have hmem:∀ v,v∈srt V↔v∈V:=fun v=>by simp[srt]
 have hlen:=srt_len V
 obtain⟨S,hS⟩:∃ S,srt V=S:=⟨_,rfl⟩
 rw[hS] at hp hmem hlen ⊢
 have hs:∀ (i j:Nat),i < j→j < S.toArray.size→S.toArray[i]! ≤ S.toArray[j]! := fun i j hij hj=>by
  have hj':j < S.length:=by simpa using hj
  have:=List.pairwise_iff_getElem.1 hp i j (by omega) hj' hij
  simpa [getElem!_pos,hj',show i < S.length by omega] using this
 obtain⟨h1,h2,h3⟩:=compact_sorted hs S.length (by simp)
 refine⟨?_,by have:=fold_len V []; simpa using this⟩
 refine asc_ext h1 (fold_asc (by simp[Asc])) fun v=>?_
 rw[fold_mem,← hmem]
 simp only[List.not_mem_nil,false_or]
 show v∈Lib.compactUpTo S.toArray S.length↔_
 rw[h2,List.mem_iff_getElem]
 constructor
 ·rintro⟨j,hj,e⟩
  exact⟨j,hj,by simpa [getElem!_pos,hj] using e⟩
 ·rintro⟨j,hj,e⟩
  exact⟨j,hj,by simpa [getElem!_pos,hj] using e⟩
end Go.Proofs.YtfnbhkbfelllgaaGreatDoor
