import Derived.Test.YtfnbhkbfelllgaaGreatDoorZV
import Derived.Test.YtfnbhkbfelllgaaGreatDoorZS
import Derived.Test.YtfnbhkbfelllgaaGreatDoorZP
set_option linter.all false
namespace Go.Proofs.YtfnbhkbfelllgaaGreatDoor
open Go.RowKit Go.Maps Go.Shelf Go.WideElems
theorem mbox_ty (b v:Nat):(⟨0,true,104,1,[[.mp b v]]⟩:Blk).ty < 1000000:=show 104 < 1000000 by decide
def mbox (b v:Nat):Blk:=⟨0,true,104,1,[[.mp b v]]⟩
theorem mkeys_ac {A:AHeap} {b v c:Nat} {L:List (Nat×Int×Bool)} (hb:A[b]? = some (msB v c L)):AC Tryz.prog 212 [.mp b v] A (fun r A'=>r = .fn 245 [] [.ptr A.length 0 0 0]∧A'=A++[mbox b v]):=by
 intro H ι w vs hH hR hs hm
 simp only[ShpL] at hs
 obtain⟨u1,l1,rfl,s1,rfl⟩:=hs
 obtain⟨r,m,hι,rfl,ho,hok⟩:=set_at hR hb s1
 refine ((callsIn_wide (n:=5)).1 (AnyZI.keys_in Sh_keysA Fence.wide 5 trivial rfl (some r) w)).mono ?_
 rintro en w' ⟨rfl,rfl⟩
 have hv:∀ N,Val ι A N w (.mp b v) (.map (some r)):=fun N=>⟨s1,by simp[Mem]⟩
 obtain⟨g1,g2⟩:=rel_newO (o:=.cells #[.map (some r)] 104) hR hH.1 (k:=mbox b v) (arr:=#[.map (some r)]) (.inl ⟨mbox_ty b v,rfl⟩) (by simp[mbox]) (fun h=>absurd (mbox_ty b v) h) (fun i x hi=>by
  cases i with
  | succ i=>simp[mbox] at hi
  | zero =>
    simp[mbox] at hi
    subst hi
    refine⟨rfl,fun j a hj=>?_⟩
    cases j with
    | succ j=>simp at hj
    | zero =>
      simp at hj
      subst hj
      exact⟨.map (some r),by simp,hv _,rfl⟩)
 refine⟨_,_,_,_,rfl,⟨rfl,rfl⟩,g1,g2,?_,?_⟩
 rotate_left
 ·simp only[Mem]
  exact⟨[],[.pointer (some ⟨w.heap.size,0,none⟩)],rfl,by simp[MemL],by simp[MemL,Mem]⟩
 simp only[Shp]
 refine⟨[],[.pointer (some ⟨w.heap.size,0,none⟩)],rfl,by simp[ShpL],?_⟩
 simp only[ShpL,Shp]
 exact⟨_,_,rfl,⟨⟨_,rfl⟩,_,by simp; rfl,Nat.le_refl _,fun _=>⟨w.heap.size,_,by simp[newI]; rfl,by simp⟩⟩,rfl⟩
def keysS (L:List (Nat×Int×Bool)):List Int:=L.map (·.2.1)
theorem ext_below {w w':World} (h:Below w.heap.size w w'):Ext w w':=⟨h.os,h.tape,h.output,h.size,fun k hk=>h.block k hk⟩
theorem sortsIn_ok (m:Nat):AnyZI.SortsIn Tryz.prog Sh_sortedA_ren Fence.wide m:=
 ⟨fun blk off cap ss W hH hblk hsz => callsIn_wide.2 (Sh_slices_Sort_int blk off cap ss W hH hblk hsz),
  fun p cap W=>callsIn_wide.2 (Sh_slices_Sort_int_none p cap W)⟩
set_option maxHeartbeats 1000000 in
theorem msorted_ac {A:AHeap} {q b v c:Nat} {L:List (Nat×Int×Bool)} (hq:A[q]? = some (mbox b v)) (hb:A[b]? = some (msB v c L)) (hl:L.length≤1000000000) (hk:∀ x∈L,(Lit.int .i64 x.2.1).wf=true) :
 AC Tryz.prog 211 [.fn 245 [] [.ptr q 0 0 0]] A (fun r A'=>r = .d (.sl 1 (i64s (srt (keysS L))))∧A'=A):=by
 intro H ι w vs hH hR hs hm
 simp only[ShpL] at hs
 obtain⟨u1,l1,rfl,s1,rfl⟩:=hs
 simp only[Shp,ShpL] at s1
 obtain⟨f1,f2,rfl,rfl,u2,l2,rfl,⟨_,k',hk',_,hp⟩,rfl⟩:=s1
 rw[hq] at hk'
 obtain rfl:=oSI hk'
 obtain⟨B,n,hιq,rfl⟩:=hp rfl
 have hbr:=hR.blk q _ hq
 unfold BlkRel at hbr
 rw[hιq] at hbr
 obtain⟨arr,a1,a2,a3,a4⟩:=hbr
 have hB:=a1.cells (mbox_ty b v)
 obtain⟨_,h2⟩:=a4 0 [.mp b v] rfl
 obtain⟨u,e1,e2,_⟩:=h2 0 _ rfl
 obtain⟨r,m,hι,rfl,ho,hok⟩:=set_at hR hb e2.1
 have hBl:=(hR.hid q _ B n hq hιq).2
 have hcell:w.cell? ⟨B,0,none⟩=some (.map (some r)):=by
  unfold World.cell?
  simp only[hB]
  simpa [mbox] using e1
 let R:Value→Option (DataW Unit×List MemPlace):=fun _=>some (.nil,[])
 have hu3:Tryz.prog.underlying 3=some (.int .i64):=Tryz.underlying3
 have hrd:∀ x∈L,rd Tryz.prog 3 R ⟨.int .i64 x.2.1,.bool x.2.2,x.1⟩=some (.int .i64 x.2.1,.nil):=fun x hx=>by
  have:=hk x hx
  simp[rd,keyOf,hu3,mapKey,this,R]
 have hrg:(esL L).map (rg Tryz.prog 3 R)=L.map fun x=>(Lit.int .i64 x.2.1,DataW.nil):=by
  unfold esL
  rw[List.map_map]
  exact List.map_congr_left fun x hx=>by simp[rg,hrd x hx]
 have hown:w.ownsMap Tryz.prog 3 R r L.length (.map (((esL L).map (rg Tryz.prog 3 R)).foldr DataW.insert [])):=by
  refine⟨(esL L).toArray,c,ho,⟨?_,⟨fun x hx=>?_,?_,?_⟩,fun x hx=>?_⟩,by simp[esL],rfl⟩
  ·simp[esL]; unfold maxLen; omega
  ·obtain⟨y,hy,rfl⟩:=List.mem_map.1 (show x∈esL L by simpa using hx)
   exact hok.2.1 y hy
  ·simpa [esL,Function.comp_def] using hok.1
  ·have h:=hok.2.2
   have h3:(L.map fun x=>Value.int .i64 x.2.1).Nodup:=by
    have:=List.Pairwise.map (R:=fun a b:Int=>a≠b) (S:=fun a b:Value=>a≠b) (fun x:Int=>Value.int .i64 x) (fun a b hab he=>hab (by simpa using he)) h
    simpa [List.Nodup,List.map_map,Function.comp_def] using this
   simpa [esL,Function.comp_def] using h3
  ·obtain⟨y,hy,rfl⟩:=List.mem_map.1 (show x∈esL L by simpa using hx)
   exact⟨_,hrd y hy⟩
 have hperm:(intKeys (.map (((esL L).map (rg Tryz.prog 3 R)).foldr DataW.insert []):DataW Unit)).Perm (keysS L):=by
  show (List.map (fun p:Lit×DataW Unit=>Go.intOf p.1) (((esL L).map (rg Tryz.prog 3 R)).foldr DataW.insert [])).Perm _
  refine ((Go.WideShapes.sorted_perm _).map _).trans ?_
  rw[hrg]
  simp[keysS,Go.intOf,Function.comp_def]
 have hseq:=AnyZI.keys_gives (ρ:=Sh_keysA_ren) { Sh_keysA with } Fence.wide 2 trivial rfl (by omega) B r L.length _ w hBl hcell hown
 have hsz:Maps.size (.map (((esL L).map (rg Tryz.prog 3 R)).foldr DataW.insert []):DataW Unit)=L.length:=by
  show List.length _=_
  rw[(Go.WideShapes.sorted_perm _).length_eq]
  simp[esL]
 have cS:=AnyZI.sorted_in Sh_sortedA Fence.wide 5 trivial trivial trivial trivial rfl (by omega) (sortsIn_ok _) (enters_of Tryz.func71 (by kernel_rfl) rfl) 245 #[.pointer (some ⟨B,0,none⟩)] trivial (enters_of Tryz.func245 (by kernel_rfl) rfl) _ _ (by rw[hsz]; unfold maxLen; omega) (by rw[hsz]; omega) _ hseq
 have cS2:=(callsIn_wide (n:=5)).1 cS
 change Calls Tryz.prog 211 _ _ _ at cS2
 simp only[Nat.zero_mul,Nat.add_zero]
 refine cS2.mono ?_
 rintro en w' ⟨v',ss,rfl,hS,hrow,hnil,hbel⟩
 have hsort:(ss.mergeSort fun x y=>decide (x≤y))=srt (keysS L):=mergeSort_of_perm_i (hS.trans hperm)
 have hlen:ss.length=L.length:=by rw[(hS.trans hperm).length_eq]; simp[keysS]
 have hex:=ext_below hbel
 obtain⟨g1,g2⟩:=rel_ext hR hex
 have hslen:(i64s (srt (keysS L))).length=ss.length:=by simp[i64s,srt_len,keysS,hlen]
 refine⟨v',_,ι,A,rfl,⟨rfl,rfl⟩,g1,g2,?_⟩
 rcases hrow.2 with⟨rfl,hz⟩ | ⟨gb,cap,cur,rfl,hbase,hgb,r1,r2,r3,r4⟩
 ·have h0:i64s (srt (keysS L))=[]:=List.length_eq_zero_iff.1 (by omega)
  rw[h0]
  refine⟨?_,?_⟩
  ·simp only[Shp]
   exact⟨_,_,rfl,Nat.le_refl _,.inl trivial⟩
  ·simp only[Mem,Rd]
   exact⟨_,_,rfl,Nat.le_refl _,Nat.zero_le _,.inl trivial⟩
 ·have hgn:¬ Nn H ι A gb:=by
   rintro (h | ⟨b',k',m',h1,_,h3⟩)
   ·have:=hH.1 _ h; omega
   ·have:=(hR.hid _ _ _ _ h1 h3).2; omega
  rw[Nat.mul_one] at r4
  refine⟨?_,?_⟩
  ·simp only[Shp,hslen]
   exact⟨_,_,rfl,r1,.inr ⟨_,_,rfl⟩⟩
  ·simp only[Mem,Rd,hslen]
   refine⟨_,_,rfl,r1,r2,.inr ⟨_,_,rfl,⟨(Array.getElem?_eq_some_iff.1 hgb).1,hgn⟩,RdS.of fun i x hi=>?_⟩⟩
   simp only[i64s,List.getElem?_map,Option.map_eq_some_iff] at hi
   obtain⟨z,hz,rfl⟩:=hi
   refine⟨rfl,?_⟩
   simp only[RdE,Rd,and_true,Nat.zero_add,Nat.mul_one]
   have hzi:i < ss.length:=by have:=(gSI.1 hz).1; rw[srt_len] at this; simp[keysS] at this; omega
   have h5:cur.toList[i]? = some (.int .i64 z):=by
    have h6:=congrArg (·[i]?) r4
    simp only[List.getElem?_take,hzi,if_true,hsort,List.getElem?_map,hz,Option.map_some,encZ] at h6
    exact h6
   exact⟨_,by unfold World.cell?; simp only[hgb]; simpa using h5,rfl,rfl⟩
def prs (l:List (Int×Int)):List (List D):=l.map fun p=>[D.v (.int .i64 p.1),D.v (.int .i64 p.2)]
@[simp] theorem prs_len (l:List (Int×Int)):(prs l).length=l.length:=by simp[prs]
theorem prs_get {l:List (Int×Int)} {i:Nat} {p:Int×Int} (h:l[i]? = some p):(prs l)[i]? = some [D.v (.int .i64 p.1),D.v (.int .i64 p.2)]:=by simp[prs,h]
section
variable {P:Program} {n:Nat} {K:AKont} {e:AEnv} {A:AHeap} {d:Option Nat} {ty:TypeId} {pos:String} {af:Array Edge} {gd:Option (Nat×Bool)}
@[simp] theorem avop_lookup' {t:TypeId} {x y:Operand} {b:Bool}:avop P n ⟨d,.lookup t x y b,ty,pos,af,gd⟩ K e A↔aRaw P n ⟨d,.lookup t x y b,ty,pos,af,gd⟩ e A K:=Iff.rfl
@[simp] theorem avop_mapUpdate' {t:TypeId} {x y z:Operand}:avop P n ⟨d,.mapUpdate t x y z,ty,pos,af,gd⟩ K e A↔aRaw P n ⟨d,.mapUpdate t x y z,ty,pos,af,gd⟩ e A K:=Iff.rfl
@[simp] theorem avop_insert' {t:TypeId} {x y z:Operand}:avop P n ⟨d,.insert t x y z,ty,pos,af,gd⟩ K e A↔aRaw P n ⟨d,.insert t x y z,ty,pos,af,gd⟩ e A K:=Iff.rfl
@[simp] theorem avop_makeMap' {t:TypeId} {x:Option Operand}:avop P n ⟨d,.makeMap t x,ty,pos,af,gd⟩ K e A↔aRaw P n ⟨d,.makeMap t x,ty,pos,af,gd⟩ e A K:=Iff.rfl
end
def cInt (b:Int):Blk:=⟨0,true,3,1,[[aI .i64 b]]⟩
theorem inS_iff {c:Nat} {L:List (Nat×Int×Bool)} (hok:SetOk c L) (ht:∀ p∈L,p.2.2=true) {k:Int}:inS L k=true↔∃ p∈L,p.2.1=k:=by
 rcases find_split k L with h | ⟨L1,x,L2,rfl,h1,h2⟩
 ·rw[inS_none h]
  constructor
  ·intro h; cases h
  ·rintro⟨p,hp,hk⟩; exact absurd hk (h p hp)
 ·rw[inS_some h1 h2]
  constructor
  ·intro _; exact⟨x,by simp,h1⟩
  ·intro _; exact ht x (by simp)
def blD (l:List Bool):List (List D):=l.map fun b=>[D.v (.bool b)]
@[simp] theorem blD_len (l:List Bool):(blD l).length=l.length:=by simp[blD]
theorem blD_get {l:List Bool} {i:Nat} {b:Bool} (h:l[i]? = some b):(blD l)[i]? = some [D.v (.bool b)]:=by simp[blD,h]
theorem cln_msB (m v c:Nat) (L:List (Nat×Int×Bool)):clnB m (msB v c L)=msB v c L:=by
 simp[clnB,msB,clnE,cln,Function.comp_def]
theorem cln_gB (m:Nat) (g:Gr):clnB m (gB g)=gB g:=by simp[clnB,gB,clnE,cln]
theorem dmTree_ex (g:Gr) (hg:GrFit g) (he:EdgOk g):∃ o,(0 < g.b.length→TreeOk g o)∧AF Tryz.prog 104 [grV g] (.d (.sl 1 (i64s (oI g.b.length o)))):=by
 by_cases h0:0 < g.b.length
 ·obtain⟨o,ho,ha⟩:=dmtree_ex g hg he h0
  refine⟨o,fun _=>ho,?_⟩
  have hne:¬ g.b.length=0:=by omega
  have hne2:¬ g.b=[]:=fun h=>by simp[h] at h0
  refine af_of Tryz.func104 rfl (by kernel_rfl) (by simp[Tryz.ntmps104]) fun _=>?_; simp[Tryz.f104,Ex.d_eq]
  simp[hne2]
  refine aCall_of (dmall_af g hg he) (by kernel_rfl) (by simp) ?_
  simp
  refine aCall_of ha (by kernel_rfl) (by simp) ?_
  simp
 ·have hb:g.b=[]:=List.eq_nil_of_length_eq_zero (by omega)
  refine⟨fun _=>none,fun h=>absurd h h0,?_⟩
  refine af_of Tryz.func104 rfl (by kernel_rfl) (by simp[Tryz.ntmps104]) fun _=>?_; simp[Tryz.f104,Ex.d_eq]
  simp[hb,oI]
theorem oV_get {n x:Nat} (o:Nat→Option Nat) (h:x < n):(i64s (oI n o))[x]? = some [.v (.int .i64 (oV o x))]:=by simp[i64s,oI,h]
theorem dmdom_af (n:Nat) (o:Nat→Option Nat) (μ:Nat→Nat) (hμ:∀ x y,o x=some y→y < n∧μ y < μ x) (a b:Nat) (ha:a < n) (hb:b < n) (hbn:μ b≤n) (hnm:n≤1000000) (r:Bool) (hr:r=true↔Anc o b a) :
 AF Tryz.prog 208 [.d (.sl 1 (i64s (oI n o))),aI .i64 a,aI .i64 b] (aB r):=by
 have hnm2:n + 1≤maxLen:=by unfold maxLen; omega
 have hlen:(oI n o).length=n:=by simp[oI]
 have a1:¬ (a:Int) < 0:=by omega
 have a2:¬ (n:Int)≤(a:Int):=by omega
 have b1:¬ (b:Int) < 0:=by omega
 have b2:¬ (n:Int)≤(b:Int):=by omega
 refine af_of Tryz.func208 rfl (by kernel_rfl) (by simp[Tryz.ntmps208]) fun _=>?_; simp[Tryz.f208,Ex.d_eq]
 simp[a1,a2,b1,b2,hlen]
 have hw:IntKind.i64.wrap ((n:Int) + 1)=((n + 1:Nat):Int):=by
  have:=succ_wrap (i:=n) (n:=n + 1) (by omega) hnm2
  rw[this]
 rw[hw]
 refine aLoop_of (α:=Nat×Nat) (fun q e A=>A=[]∧q.1≤n + 1∧q.2 < n∧μ q.2 + q.1≤n∧(r=true↔Anc o q.2 a)∧e 28=aI .i64 q.1∧e 27=aI .i64 ((n + 1:Nat):Int)∧e 0 = .d (.sl 1 (i64s (oI n o)))∧e 1=aI .i64 a∧e 2=aI .i64 q.2) (fun q=>n + 1 - q.1) (0,b) (Sub.refl _ _ _)
  ⟨rfl,by simp,hb,by simpa using hbn,hr,by simp,by simp,by simp,by simp,by simp⟩ ?_
 clear b1 b2
 rintro⟨i,y⟩ e A ⟨rfl,hi,hy,hμy,hry,e28,e27,e0,e1,e2⟩ K hK
 simp only at hi hy hμy hry e28 e2
 have hlt:i < n + 1:=by omega
 have hlt2:(i:Int) < (n:Int) + 1:=by omega
 have hv:=oV_get o hy
 have hv2:=(gSI.1 hv).2
 by_cases hay:a=y
 ·subst hay
  have:r=true:=hry.2 (.refl _)
  subst this
  simp[e28,e27,e1,e2,hlt2]
 ·have hay2:¬ (a:Int)=(y:Int):=by omega
  cases hoy:o y with
  | none =>
    have hov:oV o y = -1:=by unfold oV; rw[hoy]
    rw[hov] at hv
    have hv2:=(gSI.1 hv).2
    have:r=false:=by
     cases r with
     | false=>rfl
     | true=>exact absurd ((hry.1 rfl).none hoy) hay
    subst this
    simp[e28,e27,e0,e1,e2,hlt2,hay2,hv,hv2,hlen,hy]
  | some z =>
    obtain⟨hz,hzμ⟩:=hμ y z hoy
    have hov:oV o y=(z:Int):=by unfold oV; rw[hoy]
    rw[hov] at hv
    have hv2:=(gSI.1 hv).2
    have z1:¬ (z:Int) < 0:=by omega
    have z2:¬ (n:Int)≤(z:Int):=by omega
    have z3:¬ n≤z:=by omega
    simp[e28,e27,e0,e1,e2,hlt2,hay2,hv,hv2,hlen,hy,z1,z2,z3,succ_wrap hlt hnm2]
    refine hK (i + 1,z) _ _ _ _ (Sub.refl _ _ _) ⟨rfl,by simp only; omega,hz,by simp only; omega,hry.trans ⟨fun h=>h.tail (fun h2=>hay h2.symm) hoy,fun h=>.step hoy h⟩,by simp,by simp[e27],by simp[e0],by simp[e1],by simp⟩ (by simp only; omega)
def predF (g:Gr) (b:Nat):List Nat:=(List.range g.b.length).filter fun p=>(edgN g p).contains b
def succR (g:Gr) (m p:Nat):List Nat:=(List.range m).filter fun b=>(edgN g p).contains b
theorem predF_mem {g:Gr} {b p:Nat}:p∈predF g b↔p < g.b.length∧b∈edgN g p:=by simp[predF]
theorem succR_mem {g:Gr} {m p b:Nat}:b∈succR g m p↔b < m∧b∈edgN g p:=by simp[succR]
theorem succR_succ (g:Gr) (m p:Nat):succR g (m + 1) p=succR g m p++if m∈edgN g p then [m] else []:=by
 unfold succR
 rw[List.range_succ,List.filter_append]
 congr 1
 by_cases h:m∈edgN g p
 ·simp[h]
 ·simp[h]
theorem nI_mem {l:List Nat} {v:Int}:v∈nI l↔∃ x∈l,(x:Int)=v:=by simp[nI]
theorem asc_range (n:Nat) (p:Nat→Bool):Asc (nI ((List.range n).filter p)):=by
 unfold Asc nI
 rw[List.pairwise_map]
 refine List.Pairwise.filter _ ?_
 have:=List.pairwise_lt_range (n:=n)
 exact this.imp fun h=>by omega
theorem stepT_row {k y x:Nat} {T:List (List Nat)} (hx:x < T.length):rowN (stepT k T y) x=if x=y then rowN T x++[k] else rowN T x:=by
 unfold rowN stepT
 by_cases h:x=y
 ·subst h
  simp[hx]
 ·rw[if_neg h,gSN (Ne.symm h)]
theorem foldT_sorted {k x:Nat}:∀ (l:List Nat) (T:List (List Nat)),x < T.length→(rowN T x).Pairwise (· ≤ ·)→(∀ q∈rowN T x,q≤k)→(rowN (l.foldl (stepT k) T) x).Pairwise (· ≤ ·)∧∀ q∈rowN (l.foldl (stepT k) T) x,q≤k
 | [],T,hx,h1,h2=>⟨h1,h2⟩
 | y :: l, T, hx, h1, h2 => by
   rw[List.foldl_cons]
   refine foldT_sorted l (stepT k T y) (by rw[stepT_len]; exact hx) ?_ ?_
   ·rw[stepT_row hx]
    split
    ·rw[List.pairwise_append]
     exact⟨h1,by simp,fun a ha b hb=>by simp at hb; subst hb; exact h2 a ha⟩
    ·exact h1
   ·rw[stepT_row hx]
    split
    ·intro q hq
     rcases List.mem_append.1 hq with hq | hq
     ·exact h2 q hq
     ·simp at hq; omega
    ·exact h2
theorem turn_sorted {g:Gr} {x:Nat}:∀ (m:Nat) (T0:List (List Nat)),x < T0.length→rowN T0 x=[]→(rowN ((List.range m).foldl (rowT g) T0) x).Pairwise (· ≤ ·)∧(∀ q∈rowN ((List.range m).foldl (rowT g) T0) x,q < m)∧x < ((List.range m).foldl (rowT g) T0).length
 | 0,T0,hx,h=>by simp[h,hx]
 | m + 1, T0, hx, h => by
   obtain⟨h1,h2,h3⟩:=turn_sorted (g:=g) m T0 hx h
   rw[List.range_succ,List.foldl_append,List.foldl_cons,List.foldl_nil]
   obtain⟨h4,h5⟩:=foldT_sorted (k:=m) (edgN g m) _ h3 h1 (fun q hq=>Nat.le_of_lt (h2 q hq))
   exact⟨h4,fun q hq=>Nat.lt_succ_of_le (h5 q hq),by unfold rowT; rw[foldT_len]; exact h3⟩
theorem cmpI_pred {g:Gr} {b:Nat} (hb:b < g.b.length):cmpI (rowN (turnN g) b)=nI (predF g b):=by
 have h0:rowN (List.replicate g.b.length []) b=[]:=by simp[rowN,hb]
 obtain⟨h1,_,_⟩:=turn_sorted (g:=g) (x:=b) g.b.length (List.replicate g.b.length []) (by simpa using hb) h0
 have h1:(rowN (turnN g) b).Pairwise (· ≤ ·):=h1
 have hm:=fun q=>turn_mem (q:=q) hb
 obtain⟨S,hS⟩:∃ S,rowN (turnN g) b=S:=⟨_,rfl⟩
 rw[hS] at h1 ⊢
 simp only[hS] at hm
 have hs:∀ (i j:Nat),i < j→j < (nI S).toArray.size→(nI S).toArray[i]! ≤ (nI S).toArray[j]! := fun i j hij hj=>by
  have hj':j < S.length:=by simpa using hj
  have:=List.pairwise_iff_getElem.1 h1 i j (by omega) hj' hij
  have hi':i < S.length:=by omega
  simp[getElem!_pos,hj',hi',nI]
  exact this
 obtain⟨c1,c2,c3⟩:=compact_sorted hs (nI S).length (by simp)
 refine asc_ext c1 (asc_range _ _) fun v=>?_
 show v∈Lib.compactUpTo (nI S).toArray (nI S).length↔_
 rw[c2]
 have e1:∀ Z:List Int,(∃ j,j < Z.length∧Z.toArray[j]! = v)↔v∈Z:=fun Z=>by
  rw[List.mem_iff_getElem]
  constructor
  ·rintro⟨j,hj,e⟩
   exact⟨j,hj,by simpa [getElem!_pos,hj] using e⟩
  ·rintro⟨j,hj,e⟩
   exact⟨j,hj,by simpa [getElem!_pos,hj] using e⟩
 rw[e1,nI_mem]
 show _↔v∈nI (predF g b)
 rw[nI_mem]
 constructor
 ·rintro⟨x,hx,rfl⟩
  exact⟨x,predF_mem.2 ((hm x).1 hx),rfl⟩
 ·rintro⟨x,hx,rfl⟩
  exact⟨x,(hm x).2 (predF_mem.1 hx),rfl⟩
def mkT (n:Nat) (f:Nat→List Nat):List (List Nat):=(List.range n).map f
@[simp] theorem mkT_len (n:Nat) (f:Nat→List Nat):(mkT n f).length=n:=by simp[mkT]
theorem mkT_get {n x:Nat} (f:Nat→List Nat) (h:x < n):(mkT n f)[x]? = some (f x):=by simp[mkT,h]
theorem mkT_row {n x:Nat} (f:Nat→List Nat) (h:x < n):rowN (mkT n f) x=f x:=by simp[rowN,mkT_get f h]
theorem mkT_set {n x:Nat} (f:Nat→List Nat) (v:List Nat):(mkT n f).set x v=mkT n (fun y=>if y=x then v else f y):=by
 apply List.ext_getElem?
 intro j
 by_cases hj:j < n
 ·rw[mkT_get _ hj,List.getElem?_set]
  by_cases hxj:x=j
  ·subst hxj; simp[hj]
  ·rw[if_neg hxj,mkT_get _ hj,if_neg (Ne.symm hxj)]
 ·rw[List.getElem?_eq_none (by simp; omega),List.getElem?_eq_none (by simp; omega)]
theorem mkT_ext {n:Nat} {f h:Nat→List Nat} (e:∀ x,x < n→f x=h x):mkT n f=mkT n h:=List.map_congr_left fun x hx=>e x (List.mem_range.1 hx)
theorem dataP_pred (g:Gr) (hl:(turnN g).length=g.b.length):dataP (turnN g)=dataT (mkT g.b.length (predF g)):=by
 apply List.ext_getElem?
 intro j
 by_cases hj:j < g.b.length
 ·have h1:(turnN g)[j]? = some (rowN (turnN g) j):=by simp[rowN,show j < (turnN g).length by omega]
  simp only[dataP,dataT,List.getElem?_map,h1,mkT_get _ hj,Option.map_some,cmpI_pred hj]
 ·rw[List.getElem?_eq_none (by simp[dataP]; omega),List.getElem?_eq_none (by simp[dataT]; omega)]
abbrev out2 (T:List (List Nat)):Blk:=⟨0,true,48,1,rowsT 2 T⟩
theorem reiT2 (N:AHeap) (a b:Blk) (T:List (List Nat)) (d:Nat):omap (fun x=>omap (reiD false (a::b::(blkT T++N)) (d + 1)) x) (rowsT 2 T)=some (dataT T):=by
 refine omap_ext (by simp[rowsT_len,dataT]) fun i x r ha hr=>?_
 simp only[rowsT,List.getElem?_mapIdx,Option.map_eq_some_iff] at ha
 obtain⟨L,hL,rfl⟩:=ha
 simp only[dataT,List.getElem?_map,hL,Option.map_some,Option.some.injEq] at hr
 subst hr
 have hg:=blkT_get hL N
 have ht:List.take L.length (dEls (i64s (nI L)))=dEls (i64s (nI L)):=List.take_of_length_le (by simp)
 simp[omap,reiD,curB,hg,ht]
theorem Sub.turn2 {n:Nat} {e:AEnv} (k:Blk) (m:Nat):Sub n e [k,⟨0,true,48,1,List.replicate m [.d (.v (.slice none 0 0))]⟩] e (k::out2 (List.replicate m [])::(blkT (List.replicate m [])++[])):=by
 have h1:=Sub.ghostT (n:=n) (e:=e) m (A:=[k,⟨0,true,48,1,List.replicate m [.d (.v (.slice none 0 0))]⟩])
 have h2:=Sub.rowT (n:=n) (e:=e) (o:=2) [] [k] m m 0 (by omega) rfl
 refine Sub.trans h1 ?_
 have h3:rowsT 2 (List.replicate 0 [])=[]:=rfl
 rw[h3] at h2
 simp only[List.nil_append,List.append_nil,List.singleton_append,List.cons_append] at h2 ⊢
 exact h2
def midF (g:Gr) (b j p:Nat):List Nat:=succR g b p++if p∈(predF g b).take j then [b] else []
theorem succR_len (g:Gr) (m p:Nat):(succR g m p).length≤m:=by
 have:=List.length_filter_le (fun b=>(edgN g p).contains b) (List.range m)
 simpa [succR] using this
theorem predF_len (g:Gr) (b:Nat):(predF g b).length≤g.b.length:=by
 have:=List.length_filter_le (fun p=>(edgN g p).contains b) (List.range g.b.length)
 simpa [predF] using this
theorem predF_nodup (g:Gr) (b:Nat):(predF g b).Nodup:=List.Pairwise.filter _ List.nodup_range
def succT (g:Gr):List (List Nat):=mkT g.b.length (succR g g.b.length)
set_option maxRecDepth 100000 in
theorem lpedges_af (g:Gr) (hg:GrFit g) (he:EdgOk g) (hsm:g.b.length≤400):AF Tryz.prog 159 [grV g] (.d (.sl 1 (dataT (succT g)))):=by
 have hgl:g.b.length≤maxLen:=by have:=hg.1; unfold maxLen; omega
 have hg1:=hg.1
 have hTl:(turnN g).length=g.b.length:=by
  have:=(turn_keep hg (List.range g.b.length) (List.replicate g.b.length []) 0 (by simp)).1
  simpa [turnN] using this
 have hpr:=dmpreds_af g hg he hsm
 rw[dataP_pred g hTl] at hpr
 obtain⟨n,hn⟩:∃ n,g.b.length=n:=⟨_,rfl⟩
 have hdl:∀ f,(dataT (mkT n f)).length=n:=fun f=>by simp[dataT]
 rw[hn] at hpr hgl hg1
 refine af_of Tryz.func159 rfl (by kernel_rfl) (by simp[Tryz.ntmps159]) fun _=>?_; simp[Tryz.f159,Ex.d_eq]
 simp[hn]
 refine aRaw_make (kl:=.i64) (kc:=.i64) (l:=n) (c:=n) (z:=[.d (.v (.slice none 0 0))]) byt_145 (by simp) (by simp) (by simp) (Nat.le_refl _) hgl (by omega) ?_
 simp[hn]
 refine aCall_of hpr (by kernel_rfl) (by simp) ?_
 simp[hdl]
 refine aLoop_of (α:=Nat) (fun i e A=>i≤n∧(∃ N:AHeap,A=gB g::out2 (mkT n (succR g i))::(blkT (mkT n (succR g i))++N)) ∧
  e 15=aI .i64 i∧e 14=aI .i64 n∧e 13 = .d (.sl 1 (dataT (mkT n (predF g))))∧e 3 = .own 1 0 0 n) (fun i=>n - i) 0 (Sub.turn2 (gB g) n)
  ⟨by omega,⟨[],by
   have:mkT n (succR g 0)=List.replicate n []:=by
    rw[mkT_ext (h:=fun _=>[]) (fun x _=>by simp[succR])]
    simp[mkT,List.map_const']
   rw[this]⟩,by simp,by simp,by simp,by simp⟩ ?_
 rintro i e A ⟨hi,⟨N,rfl⟩,e15,e14,e13,e3⟩ K hK
 rcases Nat.lt_or_ge i n with hlt | hge
 case inr=>
  obtain rfl:i=n:=by omega
  have ht:(rowsT 2 (mkT i (succR g i))).take i=rowsT 2 (mkT i (succR g i)):=List.take_of_length_le (by simp[rowsT_len])
  have hs:succT g=mkT i (succR g i):=by rw[succT,hn]
  simp[e15,e14,e3,ht,rowsT_len,hs,reiT2 N (gB g) (out2 (mkT i (succR g i))) (mkT i (succR g i)) 7]
 have hrow:=dataT_get (T:=mkT n (predF g)) (k:=i) (by simpa using hlt)
 rw[mkT_row _ hlt] at hrow
 have hrow2:=(gSI.1 hrow).2
 have hpl:=predF_len g i
 have n1:(predF g i).length≤maxLen:=by omega
 simp[e15,e14,e13,hlt,hrow,hrow2,hdl]
 refine aLoop_of (α:=Nat) (fun j e A=>j≤(predF g i).length∧(∃ N:AHeap,A=gB g::out2 (mkT n (midF g i j))::(blkT (mkT n (midF g i j))++N)) ∧
  e 22=aI .i64 j∧e 21=aI .i64 (predF g i).length∧e 20 = .d (.sl 1 (i64s (nI (predF g i))))∧e 4=aI .i64 i∧e 15=aI .i64 i∧e 14=aI .i64 n∧e 13 = .d (.sl 1 (dataT (mkT n (predF g))))∧e 3 = .own 1 0 0 n) (fun j=>(predF g i).length - j) 0 (Sub.refl _ _ _)
  ⟨by omega,⟨N,by
   have:mkT n (midF g i 0)=mkT n (succR g i):=mkT_ext fun x _=>by simp[midF]
   rw[this]⟩,by simp,by simp,by simp,by simp,by simp[e15],by simp[e14],by simp[e13],by simp[e3]⟩ ?_
 rintro j e A ⟨hj,⟨N,rfl⟩,f22,f21,f20,f4,f15,f14,f13,f3⟩ K2 hK2
 rcases Nat.lt_or_ge j (predF g i).length with hjlt | hjge
 case inr=>
  obtain rfl:j=(predF g i).length:=by omega
  have hU:mkT n (midF g i (predF g i).length)=mkT n (succR g (i + 1)):=mkT_ext fun x hx=>by
   rw[midF,List.take_length,succR_succ]
   congr 1
   by_cases h:i∈edgN g x
   ·rw[if_pos h,if_pos (predF_mem.2 ⟨by omega,h⟩)]
   ·rw[if_neg h,if_neg (fun h2=>h (predF_mem.1 h2).2)]
  rw[hU]
  simp[f22,f21,f15,succ_wrap hlt hgl]
  refine hK (i + 1) _ _ _ _ (Sub.refl _ _ _) ⟨by omega,⟨N,by rfl⟩,by simp,by simp[f14],by simp[f13],by simp[f3]⟩ (by omega)
 obtain⟨x,hx⟩:∃ x,(predF g i)[j]? = some x:=⟨_,gEG hjlt⟩
 have hx2:=(gSI.1 hx).2
 have hxm:=predF_mem.1 (gMO hx)
 have hxn:x < n:=by omega
 have hnew:x∉(predF g i).take j:=fun h=>by
  obtain⟨q,hq⟩:=List.getElem?_of_mem h
  have hqj:q < j:=by have:=(gSI.1 hq).1; simp at this; omega
  rw[List.getElem?_take,if_pos hqj,← hx] at hq
  have:=(List.getElem?_inj (by omega) (predF_nodup g i)).1 hq
  omega
 have hL:midF g i j x=succR g i x:=by simp[midF,hnew]
 have hgetT:=mkT_get (midF g i j) hxn
 rw[hL] at hgetT
 obtain⟨L,hLL⟩:∃ L,succR g i x=L:=⟨_,rfl⟩
 have hLl:L.length≤i:=by rw[← hLL]; exact succR_len g i x
 have hni:(i:Int)∉nI L:=fun h=>by
  obtain⟨y,hy,hyi⟩:=nI_mem.1 h
  rw[← hLL] at hy
  have:=(succR_mem.1 hy).1
  omega
 rw[hLL] at hgetT
 have hrT:=rowsT_get (o:=2) hgetT
 have hrT2:=(gSI.1 hrT).2
 have hbg:=fun N=>blkT_get hgetT N
 have hstep:(mkT n (midF g i j)).set x (L++[i])=mkT n (midF g i (j + 1)):=by
  rw[mkT_set]
  refine mkT_ext fun y hy=>?_
  by_cases hyx:y=x
  ·subst hyx
   have:y∈(predF g i).take (j + 1):=gMO (i:=j) (by rw[List.getElem?_take,if_pos (by omega)]; exact hx)
   rw[if_pos rfl,midF,if_pos this,hLL]
  ·rw[if_neg hyx,midF,midF]
   congr 1
   have:y∈(predF g i).take (j + 1)↔y∈(predF g i).take j:=by
    rw[List.take_succ_eq_append_getElem hjlt,List.mem_append,hx2]
    simp[hyx]
   simp[this]
 have ht:List.take L.length (dEls (i64s (nI L)))=dEls (i64s (nI L)):=List.take_of_length_le (by simp)
 simp[f22,f21,f20,f4,f3,hjlt,hx,hx2,hxn,hrT,hrT2,hbg,rowsT_len]
 refine aCall_ofs (containsin_af (nI L) i (by simp; omega)) (by kernel_rfl) (by simp[hbg,ht]) (by simp) ?_
 simp[hni,f3,hxn,hrT,hrT2,hbg,rowsT_len,f4]
 refine aRaw_app byt_48 ?_
 have hp:dPb (L++[i])=⟨L.length + 1,true,3,1,dEls (i64s (nI L))++[[AV.d (D.v (Value.int .i64 i))]]⟩:=by simp[dPb,nI,i64s,dEls]
 have hset:∀ N,(blkT (mkT n (midF g i j))++N).set x ⟨L.length + 1,true,3,1,dEls (i64s (nI L))++[[AV.d (D.v (Value.int .i64 i))]]⟩=blkT ((mkT n (midF g i j)).set x (L++[i]))++N:=fun N=>by rw[← hp]; exact blkT_set hgetT _ N
 have hrs:=rowsT_set 2 (mkT n (midF g i j)) x (L++[i])
 rw[show (L++[i]).length=L.length + 1 by simp] at hrs
 rw[hstep] at hrs
 simp only[hstep] at hset
 simp[f3,hbg,ht]
 refine⟨by omega,by omega,?_⟩
 simp[hxn,hset,hrs,hrT,hrT2,f22,rowsT_len,succ_wrap hjlt n1]
 refine hK2 (j + 1) _ _ _ _ (Sub.refl _ _ _) ⟨by omega,⟨_,by rfl⟩,by simp,by simp[f21],by simp[f20],by simp[f4],by simp[f15],by simp[f14],by simp[f13],by simp[f3]⟩ (by omega)
inductive Pt (E:Nat→List Nat) (P:Nat→Prop):Nat→Nat→Prop
 | refl {a:Nat}:P a→Pt E P a a
 | step {a b c:Nat}:Pt E P a b→c∈E b→P c→Pt E P a c
section
variable {E:Nat→List Nat} {P Q:Nat→Prop} {a b c:Nat}
theorem Pt.first (h:Pt E P a b):P a:=by
 induction h with
 | refl h=>exact h
 | step _ _ _ ih=>exact ih
theorem Pt.last (h:Pt E P a b):P b:=by
 cases h with
 | refl h=>exact h
 | step _ _ h=>exact h
theorem Pt.trans (h:Pt E P a b) (g:Pt E P b c):Pt E P a c:=by
 induction g with
 | refl _=>exact h
 | step _ h1 h2 ih=>exact .step ih h1 h2
theorem Pt.mono (hPQ:∀ x,P x→Q x) (h:Pt E P a b):Pt E Q a b:=by
 induction h with
 | refl h=>exact .refl (hPQ _ h)
 | step _ h1 h2 ih=>exact .step ih h1 (hPQ _ h2)
theorem Pt.cons (ha:P a) (hb:b∈E a) (h:Pt E P b c):Pt E P a c:=Pt.trans (.step (.refl ha) hb h.first) h
end
def addU (p:Nat→Bool) (o:List Nat) (l:List Nat):List Nat:=l.foldl (fun o n=>if p n=true∧n∉o then o++[n] else o) o
def frm (E:Nat→List Nat) (p:Nat→Bool):Nat→Nat→List Nat→List Nat
 | 0,_,o=>o
 | f + 1, i, o => match o[i]? with
   | none=>o
   | some k=>frm E p f (i + 1) (addU p o (E k))
theorem addU_cons (p:Nat→Bool) (o:List Nat) (x:Nat) (l:List Nat):addU p o (x::l)=addU p (if p x=true∧x∉o then o++[x] else o) l:=rfl
theorem addU_spec (p:Nat→Bool):∀ (l o:List Nat),o.Nodup→(addU p o l).Nodup∧(∃ z,addU p o l=o++z∧∀ x∈z,x∈l∧p x=true)∧∀ x∈l,p x=true→x∈addU p o l
 | [],o,h=>⟨h,⟨[],by simp[addU]⟩,by simp⟩
 | y :: l, o, h => by
   rw[addU_cons]
   by_cases hy:p y=true∧y∉o
   ·rw[if_pos hy]
    have hn:(o++[y]).Nodup:=by
     rw[List.nodup_append]
     exact⟨h,by simp,fun a ha b hb=>by simp at hb; subst hb; exact fun e=>hy.2 (e ▸ ha)⟩
    obtain⟨h1,⟨z,h2,h3⟩,h4⟩:=addU_spec p l (o++[y]) hn
    refine⟨h1,⟨y::z,by rw[h2]; simp,fun x hx=>?_⟩,fun x hx hp=>?_⟩
    ·rcases List.mem_cons.1 hx with rfl | hx
     ·exact⟨by simp,hy.1⟩
     ·exact⟨by simp[(h3 x hx).1],(h3 x hx).2⟩
    ·rcases List.mem_cons.1 hx with rfl | hx
     ·rw[h2]; simp
     ·exact h4 x hx hp
   ·rw[if_neg hy]
    obtain⟨h1,⟨z,h2,h3⟩,h4⟩:=addU_spec p l o h
    refine⟨h1,⟨z,h2,fun x hx=>⟨by simp[(h3 x hx).1],(h3 x hx).2⟩⟩,fun x hx hp=>?_⟩
    rcases List.mem_cons.1 hx with rfl | hx
    ·have:x∈o:=Classical.byContradiction fun h=>hy ⟨hp,h⟩
     rw[h2]
     exact List.mem_append_left _ this
    ·exact h4 x hx hp
theorem nodup_len {n:Nat} {l:List Nat} (h:l.Nodup) (hl:∀ x∈l,x < n):l.length≤n:=by
 have:=List.Nodup.length_le_of_subset (l₁:=l) (l₂:=List.range n) h fun x hx=>by simpa using hl x hx
 simpa using this
structure FMid (E:Nat→List Nat) (p:Nat→Bool) (n a i:Nat) (o:List Nat):Prop where
 nd:o.Nodup
 lt:∀ x∈o,x < n
 sound:∀ x∈o,Pt E (fun k=>p k=true) a x
 hd:a∈o
 done:∀ (j k:Nat),j < i→o[j]? = some k→∀ x∈E k,p x=true→x∈o
theorem FMid.len {E:Nat→List Nat} {p:Nat→Bool} {n a i:Nat} {o:List Nat} (h:FMid E p n a i o):o.length≤n:=nodup_len h.nd h.lt
theorem FMid.next {E:Nat→List Nat} {p:Nat→Bool} {n a i:Nat} {o:List Nat} (hE:∀ i,i < n→∀ x∈E i,x < n) (h:FMid E p n a i o) {k:Nat} (hk:o[i]? = some k):FMid E p n a (i + 1) (addU p o (E k)):=by
 obtain⟨h1,⟨z,h2,h3⟩,h4⟩:=addU_spec p (E k) o h.nd
 have hko:=gMO hk
 have hil:=(gSI.1 hk).1
 refine⟨h1,fun x hx=>?_,fun x hx=>?_,?_,fun j q hj hq x hx hp=>?_⟩
 ·rw[h2] at hx
  rcases List.mem_append.1 hx with hx | hx
  ·exact h.lt x hx
  ·exact hE k (h.lt k hko) x (h3 x hx).1
 ·rw[h2] at hx
  rcases List.mem_append.1 hx with hx | hx
  ·exact h.sound x hx
  ·exact .step (h.sound k hko) (h3 x hx).1 (h3 x hx).2
 ·rw[h2]; exact List.mem_append_left _ h.hd
 ·rw[h2,gAL (by omega)] at hq
  rcases Nat.lt_or_ge j i with hji | hji
  ·rw[h2]; exact List.mem_append_left _ (h.done j q hji hq x hx hp)
  ·obtain rfl:j=i:=by omega
   rw[hk] at hq
   obtain rfl:=oSI hq
   exact h4 x hx hp
theorem frm_end {E:Nat→List Nat} {p:Nat→Bool} (f:Nat) (o:List Nat):frm E p f o.length o=o:=by
 cases f with
 | zero=>rfl
 | succ f=>simp[frm]
theorem frm_mid {E:Nat→List Nat} {p:Nat→Bool} {n a:Nat} (hE:∀ i,i < n→∀ x∈E i,x < n):∀ (f i:Nat) (o:List Nat),FMid E p n a i o→i≤o.length→n < i + f→FMid E p n a (frm E p f i o).length (frm E p f i o)
 | 0,i,o,h,hi,hf=>by have:=h.len; omega
 | f + 1, i, o, h, hi, hf => by
   rcases Nat.lt_or_ge i o.length with hlt | hge
   ·have hk:=gEG hlt
    have h2:=h.next hE hk
    have hl:i + 1≤(addU p o (E o[i])).length:=by
     obtain⟨_,⟨z,h3,_⟩,_⟩:=addU_spec p (E o[i]) o h.nd
     rw[h3,List.length_append]
     omega
    have:=frm_mid hE f (i + 1) _ h2 hl (by omega)
    simp only[frm,hk]
    exact this
   ·obtain rfl:i=o.length:=by omega
    rw[frm_end]
    exact h
theorem frm_spec {E:Nat→List Nat} {p:Nat→Bool} {n a:Nat} (hE:∀ i,i < n→∀ x∈E i,x < n) (ha:a < n) (hp:p a=true):(frm E p (n + 1) 0 [a]).Nodup∧(∀ x∈frm E p (n + 1) 0 [a],x < n)∧∀ x,x∈frm E p (n + 1) 0 [a]↔Pt E (fun k=>p k=true) a x:=by
 have h0:FMid E p n a 0 [a]:=⟨by simp,by simpa using ha,fun x hx=>by simp at hx; subst hx; exact .refl hp,by simp,fun j k hj=>by omega⟩
 have h:=frm_mid hE (n + 1) 0 [a] h0 (by simp) (by omega)
 refine⟨h.nd,h.lt,fun x=>⟨h.sound x,fun hx=>?_⟩⟩
 generalize frm E p (n + 1) 0 [a]=o at h
 induction hx with
 | refl _=>exact h.hd
 | @step b c _ h1 h2 ih =>
   obtain⟨j,hj⟩:=List.getElem?_of_mem ih
   exact h.done j b (gSI.1 hj).1 hj c h1 h2
def fromL (g:Gr) (a:Nat) (x:Int):List Nat:=if (a:Int)=x∨g.b.length≤a then [] else frm (edgN g) (fun k=>decide ((k:Int)≠x)) (g.b.length + 1) 0 [a]
theorem fromL_mem (g:Gr) (a:Nat) (x:Int) (y:Nat):y∈fromL g a x↔a < g.b.length∧Pt (edgN g) (fun k=>(k:Int)≠x) a y:=by
 unfold fromL
 split
 ·rename_i h
  simp
  intro ha hp
  rcases h with h | h
  ·exact hp.first h
  ·omega
 ·rename_i h
  obtain⟨_,_,h3⟩:=frm_spec (p:=fun k=>decide ((k:Int)≠x)) (edgN_lt (edgOk g)) (a:=a) (by omega) (by simp; omega)
  rw[h3]
  constructor
  ·intro hp; exact⟨by omega,hp.mono fun k hk=>by simpa using hk⟩
  ·intro hp; exact hp.2.mono fun k hk=>by simpa using hk
theorem rc_iff {g:Gr} (h:0 < g.b.length) (x:Nat):(dgN g).rc x=true↔Pt (edgN g) (fun _=>True) 0 x:=by
 have hG:=dgN_ok (edgOk g) h
 obtain⟨M,h1,h2,h3,h4⟩:=post_found (edgOk g) h
 have ho:=ordN_eq h h1
 have hm:∀ y,(dgN g).rc y=true↔y∈M++[0]:=fun y=>by
  show (ordN g).contains y=true↔_
  rw[ho]
  simp
  exact or_comm
 constructor
 ·intro hx
  have key:∀ n y,(dgN g).pl y≤n→(dgN g).rc y=true→Pt (edgN g) (fun _=>True) 0 y:=by
   intro n
   induction n with
   | zero =>
     intro y hy hr
     have:y=0:=hG.inj y 0 hr hG.root (by have:=hG.pl0; have e:(dgN g).r=0:=rfl; rw[e] at this; omega)
     subst this
     exact .refl trivial
   | succ n ih =>
     intro y hy hr
     by_cases hy0:y=0
     ·subst hy0; exact .refl trivial
     ·obtain⟨q,hq,hqr,hlt⟩:=hG.par y hr hy0
      exact .step (ih q (by omega) hqr) ((turn_mem (dgN_lt (edgOk g) hr)).1 hq).2 trivial
  exact key _ x (Nat.le_refl _) hx
 ·intro hx
  rw[hm]
  induction hx with
  | refl _=>simp
  | @step b c _ h5 _ ih=>exact h4 b ih c h5
theorem Pt.rc {g:Gr} {P:Nat→Prop} {x:Nat} (h0:0 < g.b.length) (h:Pt (edgN g) P 0 x):(dgN g).rc x=true:=(rc_iff h0 x).2 (h.mono fun _ _=>trivial)
theorem dm_iff {g:Gr} (h0:0 < g.b.length) (w x:Nat):Dm (dgN g) w x↔¬ Pt (edgN g) (fun k=>k≠w) 0 x:=by
 have hG:=dgN_ok (edgOk g) h0
 constructor
 ·intro hd hp
  have:∃ j,Av (dgN g) w j x:=by
   clear hd
   induction hp with
   | refl h=>exact⟨0,.root (fun e=>h e.symm)⟩
   | @step b c hb h1 h2 ih =>
     obtain⟨j,hj⟩:=ih
     have hbr:=hb.rc h0
     have hcr:=(Pt.step hb h1 h2).rc h0
     have hin:b∈(dgN g).B c:=(turn_mem (dgN_lt (edgOk g) hcr)).2 ⟨dgN_lt (edgOk g) hbr,h1⟩
     by_cases hlt:(dgN g).pl b < (dgN g).pl c
     ·exact⟨j,.fwd hj hin hbr hcr hlt h2⟩
     ·exact⟨j + 1,.ret hj hin hbr hcr (by omega) h2⟩
  obtain⟨j,hj⟩:=this
  exact hd j hj
 ·intro hn j hv
  apply hn
  clear hn
  induction hv with
  | root h=>exact .refl (fun e=>h e.symm)
  | mono _ ih=>exact ih
  | fwd _ h1 _ h3 _ h5 ih=>exact .step ih ((turn_mem (dgN_lt (edgOk g) h3)).1 h1).2 h5
  | ret _ h1 _ h3 _ h5 ih=>exact .step ih ((turn_mem (dgN_lt (edgOk g) h3)).1 h1).2 h5
def domB (g:Gr) (w x:Nat):Bool:=!(fromL g 0 (w:Int)).contains x
theorem domB_iff {g:Gr} (h0:0 < g.b.length) (w x:Nat):domB g w x=true↔Dm (dgN g) w x:=by
 rw[dm_iff h0,domB]
 simp
 rw[fromL_mem]
 have:(fun k:Nat=>(k:Int)≠(w:Int))=fun k=>k≠w:=by funext k; exact propext (by omega)
 rw[this]
 simp[h0]
theorem tree_dom {g:Gr} (h0:0 < g.b.length) {o:Nat→Option Nat} (ho:TreeOk g o) {x w:Nat} (hx:(dgN g).rc x=true):Anc o x w↔domB g w x=true:=by
 obtain⟨i,hp,hf⟩:=ho
 rw[domB_iff h0]
 exact fix_anc (dgN_ok (edgOk g) h0) hp hf hx
theorem tree_inv {g:Gr} {o:Nat→Option Nat} (ho:TreeOk g o):OInv (dgN g) o:=by
 obtain⟨i,hp,_⟩:=ho
 exact hp.inv
theorem tree_vl {g:Gr} {o:Nat→Option Nat} (ho:TreeOk g o) {x:Nat} (hx:(dgN g).rc x=true):Vl (dgN g) o x:=by
 obtain⟨i,hp,_⟩:=ho
 exact (hp.s i rfl).1 x hx
theorem fold_set_get:∀ (l:List Nat) (s:List Bool) (a:Nat),a < s.length→(l.foldl (fun s x=>s.set x true) s)[a]? = some (s[a]?.getD false || l.contains a)
 | [],s,a,h=>by simp[h]
 | x :: l, s, a, h => by
   rw[List.foldl_cons,fold_set_get l (s.set x true) a (by simpa using h)]
   by_cases hxa:x=a
   ·subst hxa
    simp[h]
   ·have:¬ a=x:=fun e=>hxa e.symm
    simp[List.getElem?_set,hxa,this]
theorem reachN_get {g:Gr} {a:Nat} (h:a < g.b.length):(reachN g)[a]? = some ((dgN g).rc a):=by
 unfold reachN
 rw[fold_set_get _ _ _ (by simpa using h)]
 simp[h,dgN]
@[simp] theorem reachN_len (g : Gr) : (reachN g).length = g.b.length := by
  unfold reachN
  rw[fold_set_len]
  simp
def bkRow (g:Gr) (a:Nat):List Nat:=if (dgN g).rc a=true then (succR g g.b.length a).filter fun b=>domB g b a else []
def bkL (g:Gr):Nat→List (Int×Int)
 | 0=>[]
 | a + 1=>bkL g a++(bkRow g a).map fun b=>((a:Int),((b:Nat):Int))
theorem bkRow_len (g:Gr) (a:Nat):(bkRow g a).length≤g.b.length:=by
 unfold bkRow
 split
 ·exact Nat.le_trans (List.length_filter_le _ _) (succR_len g _ _)
 ·simp
theorem bkL_len (g:Gr):∀ a,(bkL g a).length≤a * g.b.length
 | 0=>by simp[bkL]
 | a + 1 => by
   have h1:=bkL_len g a
   have h2:=bkRow_len g a
   simp only[bkL,List.length_append,List.length_map]
   rw[Nat.succ_mul]
   omega
abbrev prB (l:List (Int×Int)):Blk:=⟨l.length,true,196,2,dEls (prs l)⟩
@[simp] theorem prs_all (l:List (Int×Int)):List.take l.length (prs l)=prs l:=List.take_of_length_le (by simp)
theorem tree_mu {g:Gr} {o:Nat→Option Nat} (h0:0 < g.b.length) (ho:TreeOk g o):(∀ x y,o x=some y→y < g.b.length∧(dgN g).pl y < (dgN g).pl x)∧∀ x,(dgN g).pl x≤g.b.length:=by
 have hi:=tree_inv ho
 refine⟨fun x y hxy=>?_,fun x=>?_⟩
 ·obtain⟨_,_,h3,h4⟩:=hi x y hxy
  exact⟨dgN_lt (edgOk g) h3.1,h4⟩
 ·exact Nat.le_trans (List.idxOf_le_length) (ordN_len (edgOk g))
theorem dom_af (g:Gr) {o:Nat→Option Nat} (h0:0 < g.b.length) (hsm:g.b.length≤400) (ho:TreeOk g o) {a b:Nat} (ha:a < g.b.length) (hb:b < g.b.length) (hr:(dgN g).rc b=true) :
 AF Tryz.prog 208 [.d (.sl 1 (i64s (oI g.b.length o))),aI .i64 a,aI .i64 b] (aB (domB g a b)):=by
 obtain⟨h1,h2⟩:=tree_mu h0 ho
 exact dmdom_af g.b.length o (dgN g).pl h1 a b ha hb (h2 b) (by omega) _ (by rw[tree_dom h0 ho hr])
set_option maxRecDepth 100000 in
theorem lpback_af (g:Gr) (hg:GrFit g) (hsm:g.b.length≤400):AF Tryz.prog 158 [grV g] (.d (.sl 2 (prs (bkL g g.b.length)))):=by
 have hgl:g.b.length≤maxLen:=by unfold maxLen; omega
 obtain⟨o,ho,hT⟩:=dmTree_ex g hg (edgOk g)
 have hR:=dmreach_af revOk g hg (edgOk g)
 have hE:=lpedges_af g hg (edgOk g) hsm
 obtain⟨n,hn⟩:∃ n,g.b.length=n:=⟨_,rfl⟩
 rw[hn] at hgl
 have hdl:(dataT (succT g)).length=n:=by simp[dataT,succT,hn]
 refine af_of Tryz.func158 rfl (by kernel_rfl) (by simp[Tryz.ntmps158]) fun _=>?_; simp[Tryz.f158,Ex.d_eq]
 refine aCall_of hT (by kernel_rfl) (by simp) ?_
 simp
 refine aCall_of hR (by kernel_rfl) (by simp) ?_
 simp
 refine aCall_of hE (by kernel_rfl) (by simp) ?_
 simp[hdl,hn]
 refine aLoop_st (fun a:Nat=>[(1,.ptr 0 0 0 0),(3,.d (.sl 1 (i64s (oI n o)))),(4,.d (.sl 1 (blD (reachN g)))),(5,.own 1 (bkL g a).length 0 (bkL g a).length),(15,.d (.sl 1 (dataT (succT g)))),(16,aI .i64 n),(17,aI .i64 a)])
  (fun a=>[gB g,prB (bkL g a)]) (fun a=>a≤n) (fun a=>n - a) 0
  ((Sub.ghost 0 196 2).trans (Sub.slot (s:=5) (c:=.own 1 0 0 0) (by simp; exact VLe.nil_own (k:=⟨0,true,196,2,[]⟩) (by simp) rfl))) 2 (by omega) (by simp[bkL,prs,cln_gB]) (by simp[bkL,blD]) (by omega) ?_
 rintro a ha K hK
 have hbl:=bkL_len g a
 rw[hn] at hbl
 have hbl2:a * n≤400 * 400:=Nat.mul_le_mul (by omega) (by omega)
 rcases Nat.lt_or_ge a n with hlt | hge
 case inr=>
  obtain rfl:a=n:=by omega
  simp
 have hra:=reachN_get (g:=g) (a:=a) (by omega)
 have hra1:=blD_get hra
 have hra2:=(gSI.1 hra1).2
 have hsr:rowN (succT g) a=succR g n a:=by rw[succT,hn]; exact mkT_row _ hlt
 have hrow:=dataT_get (T:=succT g) (k:=a) (by simp[succT]; omega)
 rw[hsr] at hrow
 have hrow2:=(gSI.1 hrow).2
 have hsl:=succR_len g n a
 have hslm:(succR g n a).length≤maxLen:=by omega
 simp[hlt,hdl,hrow,hrow2,hra1,hra2,hn]
 cases hrc:(dgN g).rc a with
 | false =>
   have hb:bkL g (a + 1)=bkL g a:=by simp[bkL,bkRow,hrc]
   simp[succ_wrap hlt hgl]
   exact hK (a + 1) (by omega) (by omega) (Sub.refl _ _ _) 2 (by omega) (by simp[hb,cln_gB]) (by simp[hb])
 | true =>
   simp
   obtain⟨f,hf⟩:∃ f:Nat→List (Int×Int),f=fun j=>bkL g a++(((succR g n a).take j).filter fun b=>domB g b a).map fun b=>((a:Int),((b:Nat):Int)):=⟨_,rfl⟩
   have hf0:f 0=bkL g a:=by rw[hf]; simp
   have hfe:f (succR g n a).length=bkL g (a + 1):=by
    rw[hf]
    simp only[List.take_length]
    rw[bkL,bkRow,if_pos hrc,hn]
   have hflen:∀ j,(f j).length≤170000:=fun j=>by
    rw[hf]
    simp only[List.length_append,List.length_map]
    have h1:=List.length_filter_le (fun b=>domB g b a) ((succR g n a).take j)
    have h2:((succR g n a).take j).length≤(succR g n a).length:=by simp; omega
    omega
   have hfs:∀ j b,(succR g n a)[j]? = some b→f (j + 1)=if domB g b a=true then f j++[((a:Int),(b:Int))] else f j:=fun j b hb=>by
    rw[hf]
    simp only
    rw[List.take_add_one,hb,List.filter_append,List.map_append]
    by_cases hd:domB g b a=true
    ·simp[hd]
    ·simp[hd]
   clear hf
   refine aLoop_st (fun j:Nat=>[(1,.ptr 0 0 0 0),(3,.d (.sl 1 (i64s (oI n o)))),(4,.d (.sl 1 (blD (reachN g)))),(5,.own 1 (f j).length 0 (f j).length),(6,aI .i64 a),(15,.d (.sl 1 (dataT (succT g)))),(16,aI .i64 n),(17,aI .i64 a),
    (27,.d (.sl 1 (i64s (nI (succR g n a))))),(28,aI .i64 (succR g n a).length),(29,aI .i64 j)])
    (fun j=>[gB g,prB (f j)]) (fun j=>j≤(succR g n a).length) (fun j=>(succR g n a).length - j) 0 (Sub.refl _ _ _) 2 (by omega) (by simp[hf0,cln_gB]) (by simp[hf0]) (by omega) ?_
   rintro j hj K2 hK2
   rcases Nat.lt_or_ge j (succR g n a).length with hjlt | hjge
   case inr=>
    obtain rfl:j=(succR g n a).length:=by omega
    simp[succ_wrap hlt hgl]
    exact hK (a + 1) (by omega) (by omega) (Sub.refl _ _ _) 2 (by omega) (by simp[hfe,cln_gB]) (by simp[hfe])
   obtain⟨b,hb⟩:∃ b,(succR g n a)[j]? = some b:=⟨_,gEG hjlt⟩
   have hb2:=(gSI.1 hb).2
   have hbn:=(succR_mem.1 (gMO hb)).1
   have hd:=dom_af g (o:=o) (by omega) hsm (ho (by omega)) (a:=b) (b:=a) (by omega) (by omega) hrc
   rw[hn] at hd
   have hfj:=hfs j b hb
   have hfl:=hflen j
   simp[hjlt,hb,hb2]
   refine aCall_of hd (by kernel_rfl) (by simp) ?_
   cases hdm:domB g b a with
   | false =>
     rw[hdm] at hfj
     simp only[Bool.false_eq_true,if_false] at hfj
     simp[succ_wrap hjlt hslm]
     exact hK2 (j + 1) (by omega) (by omega) (Sub.refl _ _ _) 2 (by omega) (by simp[hfj,cln_gB]) (by simp[hfj])
   | true =>
     rw[hdm] at hfj
     simp only[if_true] at hfj
     simp
     refine aRaw_app byt_193 ?_
     simp
     refine⟨by unfold maxLen; omega,by omega,?_⟩
     simp[succ_wrap hjlt hslm]
     refine hK2 (j + 1) (by omega) (by omega) (Sub.refl _ _ _) 2 (by omega) (by simp[hfj,cln_gB,prs]) (by simp[hfj])
theorem nI_not {l:List Nat} {y:Nat}:((y:Nat):Int)∈nI l↔y∈l:=by
 rw[nI_mem]
 constructor
 ·rintro⟨z,hz,e⟩
  obtain rfl:z=y:=by omega
  exact hz
 ·intro h; exact⟨y,h,rfl⟩
@[simp] theorem dataT_len (T:List (List Nat)):(dataT T).length=T.length:=by simp[dataT]
theorem bkRow_eq (g:Gr) (a:Nat):bkRow g a=(List.range g.b.length).filter fun b=>(dgN g).rc a && ((edgN g a).contains b && domB g b a):=by
 unfold bkRow succR
 by_cases h:(dgN g).rc a=true
 ·rw[if_pos h,List.filter_filter]
  congr 1
  funext b
  rw[h,Bool.true_and,Bool.and_comm]
 ·rw[if_neg h]
  symm
  rw[List.filter_eq_nil_iff]
  intro b _
  simp[h]
theorem edge_rc {g:Gr} {p b:Nat} (hp:(dgN g).rc p=true) (hb:b∈edgN g p):(dgN g).rc b=true:=by
 have hpn:=dgN_lt (edgOk g) hp
 have h0:0 < g.b.length:=by omega
 exact (rc_iff h0 b).2 (.step ((rc_iff h0 p).1 hp) hb trivial)
theorem bkL_mem {g:Gr} {a b:Nat}:∀ {n:Nat},((a:Int),(b:Int))∈bkL g n↔a < n∧b∈bkRow g a
 | 0=>by simp[bkL]
 | n + 1 => by
   simp only[bkL,List.mem_append,bkL_mem (n:=n),List.mem_map,Prod.mk.injEq]
   constructor
   ·rintro (⟨h1,h2⟩ | ⟨x,h1,h2,h3⟩)
    ·exact⟨by omega,h2⟩
    ·obtain rfl:n=a:=by omega
     obtain rfl:x=b:=by omega
     exact⟨by omega,h1⟩
   ·rintro⟨h1,h2⟩
    rcases Nat.lt_or_ge a n with h | h
    ·exact .inl ⟨h,h2⟩
    ·obtain rfl:a=n:=by omega
     exact .inr ⟨b,h2,rfl,rfl⟩
theorem bkRow_mem {g:Gr} {a b:Nat}:b∈bkRow g a↔(dgN g).rc a=true∧b < g.b.length∧b∈edgN g a∧domB g b a=true:=by
 rw[bkRow_eq]
 simp
 constructor
 ·rintro⟨h1,h2,h3,h4⟩; exact⟨h2,h1,h3,h4⟩
 ·rintro⟨h1,h2,h3,h4⟩; exact⟨h2,h1,h3,h4⟩
def InBody (g:Gr) (h x:Nat):Prop:=x=h∨((dgN g).rc x=true∧∃ a,h∈bkRow g a∧Pt (edgN g) (fun k=>k≠h) x a)
open Classical in
noncomputable def bodyL (g:Gr) (h:Nat):List Nat:=(List.range g.b.length).filter fun x=>decide (InBody g h x)
theorem bodyL_mem {g:Gr} {h x:Nat}:x∈bodyL g h↔x < g.b.length∧InBody g h x:=by simp[bodyL]
theorem bodyL_len (g:Gr) (h:Nat):(bodyL g h).length≤g.b.length:=by
 have:=List.length_filter_le (fun x=>@decide (InBody g h x) (Classical.propDecidable _)) (List.range g.b.length)
 simpa [bodyL] using this
theorem bkRow_rc {g:Gr} {a h:Nat} (hb:h∈bkRow g a):(dgN g).rc a=true∧(dgN g).rc h=true:=by
 obtain⟨h1,h2,h3,h4⟩:=bkRow_mem.1 hb
 exact⟨h1,edge_rc h1 h3⟩
theorem InBody.pred {g:Gr} {h x p:Nat} (hx:InBody g h x) (hxh:x≠h) (hp:(dgN g).rc p=true) (he:x∈edgN g p):InBody g h p:=by
 rcases hx with rfl | ⟨_,a,h1,h2⟩
 ·exact absurd rfl hxh
 ·by_cases hph:p=h
  ·exact .inl hph
  ·exact .inr ⟨hp,a,h1,Pt.cons hph he h2⟩
theorem InBody.src {g:Gr} {h a:Nat} (hb:h∈bkRow g a):InBody g h a:=by
 by_cases ha:a=h
 ·exact .inl ha
 ·exact .inr ⟨(bkRow_rc hb).1,a,hb,.refl ha⟩
theorem body_least {g:Gr} {h:Nat} {S:Nat→Prop} (h1:S h) (h2:∀ a,h∈bkRow g a→S a) (h3:∀ x p,S x→x≠h→(dgN g).rc p=true→x∈edgN g p→S p) {x:Nat} (hx:InBody g h x):S x:=by
 rcases hx with rfl | ⟨hr,a,hb,hp⟩
 ·exact h1
 ·have ha:=h2 a hb
  have key:∀ {x a:Nat},Pt (edgN g) (fun k=>k≠h) x a→(dgN g).rc x=true→S a→S x:=by
   intro x a hp
   induction hp with
   | refl _=>exact fun _ h=>h
   | @step b c hb h5 h6 ih =>
     intro hr hc
     have hrb:(dgN g).rc b=true:=by
      have h0:0 < g.b.length:=by have:=dgN_lt (edgOk g) hr; omega
      exact (rc_iff h0 b).2 (Pt.trans ((rc_iff h0 x).1 hr) (hb.mono fun _ _=>trivial))
     exact ih hr (h3 c b hc h6 hrb h5)
  exact key hp hr ha
theorem srt_pair (L:List Int):(srt L).Pairwise fun a b=>a≤b:=by
 have hp:(srt L).Pairwise fun a b=>(decide (a≤b))=true:=List.pairwise_mergeSort (fun a b c h1 h2=>by simp at *; omega) (fun a b=>by simp; omega) _
 exact hp.imp fun h=>by simpa using h
theorem srt_mem {L:List Int} {v:Int}:v∈srt L↔v∈L:=by simp[srt]
theorem srt_nodup {L:List Int} (h:L.Nodup):Asc (srt L):=by
 have hp:(srt L).Perm L:=List.mergeSort_perm L _
 have hn:(srt L).Nodup:=hp.nodup_iff.2 h
 have h1:=srt_pair L
 unfold Asc
 rw[List.pairwise_iff_getElem] at h1 ⊢
 intro i j hi hj hij
 have h2:=h1 i j hi hj hij
 have h3:(srt L)[i]≠(srt L)[j]:=fun e=>by
  have:=(List.getElem_inj hn).1 e
  omega
 omega
theorem compact_srt (L:List Int) (M:List Int) (hM:Asc M) (hm:∀ v,v∈M↔v∈L):Lib.compact (srt L)=M∧M.length≤L.length:=by
 have hp:=srt_pair L
 have hmem:∀ v,v∈srt L↔v∈L:=fun v=>srt_mem
 have hlen:=srt_len L
 obtain⟨S,hS⟩:∃ S,srt L=S:=⟨_,rfl⟩
 rw[hS] at hp hmem hlen ⊢
 have hs:∀ (i j:Nat),i < j→j < S.toArray.size→S.toArray[i]! ≤ S.toArray[j]! := fun i j hij hj=>by
  have hj':j < S.length:=by simpa using hj
  have:=List.pairwise_iff_getElem.1 hp i j (by omega) hj' hij
  simpa [getElem!_pos,hj',show i < S.length by omega] using this
 obtain⟨h1,h2,h3⟩:=compact_sorted hs S.length (by simp)
 have he:Lib.compact S=M:=by
  refine asc_ext h1 hM fun v=>?_
  rw[hm,← hmem]
  show v∈Lib.compactUpTo S.toArray S.length↔_
  rw[h2,List.mem_iff_getElem]
  constructor
  ·rintro⟨j,hj,e⟩
   exact⟨j,hj,by simpa [getElem!_pos,hj] using e⟩
  ·rintro⟨j,hj,e⟩
   exact⟨j,hj,by simpa [getElem!_pos,hj] using e⟩
 refine⟨he,?_⟩
 rw[← he,← hlen]
 exact h3
structure BMid (g:Gr) (h:Nat) (F W:List Nat):Prop where
 nd:F.Nodup
 each:∀ x∈F,x < g.b.length∧InBody g h x
 hd:h∈F
 w:∀ x∈W,x < g.b.length∧((dgN g).rc x=true→InBody g h x)
 cl:∀ x p,x∈F→x≠h→(dgN g).rc p=true→x∈edgN g p→p∈F∨p∈W
 sr:∀ a,h∈bkRow g a→a∈F∨a∈W
theorem BMid.len {g:Gr} {h:Nat} {F W:List Nat} (m:BMid g h F W):F.length≤g.b.length:=nodup_len m.nd fun x hx=>(m.each x hx).1
theorem BMid.done {g:Gr} {h:Nat} {F:List Nat} (m:BMid g h F []):∀ x,x∈F↔x∈bodyL g h:=by
 intro x
 rw[bodyL_mem]
 refine⟨m.each x,fun hx=>?_⟩
 refine body_least (S:=fun x=>x∈F) m.hd (fun a ha=>?_) (fun y p hy hyh hr he=>?_) hx.2
 ·simpa using m.sr a ha
 ·simpa using m.cl y p hy hyh hr he
theorem BMid.drop {g:Gr} {h b:Nat} {F W:List Nat} (m:BMid g h F (W++[b])) (hb:b∈F∨(dgN g).rc b=false):BMid g h F W:=by
 refine⟨m.nd,m.each,m.hd,fun x hx=>m.w x (List.mem_append_left _ hx),fun x p hx hxh hr he=>?_,fun a ha=>?_⟩
 ·rcases m.cl x p hx hxh hr he with h1 | h1
  ·exact .inl h1
  ·rcases List.mem_append.1 h1 with h1 | h1
   ·exact .inr h1
   ·simp at h1
    subst h1
    rcases hb with hb | hb
    ·exact .inl hb
    ·rw[hb] at hr; cases hr
 ·rcases m.sr a ha with h1 | h1
  ·exact .inl h1
  ·rcases List.mem_append.1 h1 with h1 | h1
   ·exact .inr h1
   ·simp at h1
    subst h1
    rcases hb with hb | hb
    ·exact .inl hb
    ·rw[(bkRow_rc ha).1] at hb; cases hb
theorem BMid.take {g:Gr} {h b:Nat} {F W:List Nat} (m:BMid g h F (W++[b])) (hb:b∉F) (hr:(dgN g).rc b=true):BMid g h (F++[b]) (W++predF g b):=by
 obtain⟨hbn,hbb⟩:=m.w b (by simp)
 have hbb:=hbb hr
 have hbh:b≠h:=fun e=>hb (e ▸ m.hd)
 refine⟨?_,fun x hx=>?_,List.mem_append_left _ m.hd,fun x hx=>?_,fun x p hx hxh hr' he=>?_,fun a ha=>?_⟩
 ·rw[List.nodup_append]
  exact⟨m.nd,by simp,fun a ha c hc=>by simp at hc; subst hc; exact fun e=>hb (e ▸ ha)⟩
 ·rcases List.mem_append.1 hx with hx | hx
  ·exact m.each x hx
  ·simp at hx; subst hx; exact⟨hbn,hbb⟩
 ·rcases List.mem_append.1 hx with hx | hx
  ·exact m.w x (List.mem_append_left _ hx)
  ·obtain⟨h1,h2⟩:=predF_mem.1 hx
   exact⟨h1,fun h3=>hbb.pred hbh h3 h2⟩
 ·rcases List.mem_append.1 hx with hx | hx
  ·rcases m.cl x p hx hxh hr' he with h1 | h1
   ·exact .inl (List.mem_append_left _ h1)
   ·rcases List.mem_append.1 h1 with h1 | h1
    ·exact .inr (List.mem_append_left _ h1)
    ·simp at h1; subst h1; exact .inl (by simp)
  ·simp at hx
   subst hx
   exact .inr (List.mem_append_right _ (predF_mem.2 ⟨dgN_lt (edgOk g) hr',he⟩))
 ·rcases m.sr a ha with h1 | h1
  ·exact .inl (List.mem_append_left _ h1)
  ·rcases List.mem_append.1 h1 with h1 | h1
   ·exact .inr (List.mem_append_left _ h1)
   ·simp at h1; subst h1; exact .inl (by simp)
open Classical in
noncomputable def exitL (g:Gr) (h:Nat):List Nat:=(List.range g.b.length).filter fun x=>decide (x∉bodyL g h∧∃ b∈bodyL g h,x∈edgN g b)
theorem exitL_mem {g:Gr} {h x:Nat}:x∈exitL g h↔x < g.b.length∧x∉bodyL g h∧∃ b∈bodyL g h,x∈edgN g b:=by simp[exitL]
theorem bodyL_asc (g:Gr) (h:Nat):Asc (nI (bodyL g h)):=asc_range _ _
theorem exitL_asc (g:Gr) (h:Nat):Asc (nI (exitL g h)):=asc_range _ _
theorem exitL_len (g:Gr) (h:Nat):(exitL g h).length≤g.b.length:=by
 have:=List.length_filter_le (fun x=>@decide (x∉bodyL g h∧∃ b∈bodyL g h,x∈edgN g b) (Classical.propDecidable _)) (List.range g.b.length)
 simpa [exitL] using this
def entS (F:List Nat):List (Nat×Int×Bool):=F.mapIdx fun (i x:Nat)=>(i,((x:Nat):Int),true)
theorem entS_app (F:List Nat) (b:Nat):entS (F++[b])=entS F++[(F.length,(b:Int),true)]:=by simp[entS,List.mapIdx_append]
@[simp] theorem entS_len (F:List Nat):(entS F).length=F.length:=by simp[entS]
theorem entS_mem {F:List Nat} {p:Nat×Int×Bool} (h:p∈entS F):∃ x∈F,p.2=((x:Int),true):=by
 simp only[entS,List.mem_mapIdx] at h
 obtain⟨i,hi,rfl⟩:=h
 exact⟨F[i],List.getElem_mem hi,rfl⟩
theorem entS_has {F:List Nat} {x:Nat} (h:x∈F):∃ p∈entS F,p.2.1=(x:Int):=by
 obtain⟨i,hi,rfl⟩:=List.getElem_of_mem h
 exact⟨(i,(F[i]:Int),true),List.mem_mapIdx.2 ⟨i,hi,rfl⟩,rfl⟩
theorem entS_keys (F:List Nat):keysS (entS F)=nI F:=by
 apply List.ext_getElem?
 intro i
 simp only[keysS,entS,nI,List.getElem?_map,List.getElem?_mapIdx]
 cases F[i]? <;> rfl
theorem entS_ok':∀ (n:Nat) {F:List Nat},F.length=n→F.Nodup→SetOk F.length (entS F)
 | 0, F, hl, _ => by
   obtain rfl:=List.length_eq_zero_iff.1 hl
   simp[entS,SetOk]
 | n + 1, F, hl, h => by
   rcases List.eq_nil_or_concat F with rfl | ⟨F',b,hF⟩
   ·simp at hl
   ·rw[List.concat_eq_append] at hF
    subst hF
    rw[List.nodup_append] at h
    rw[entS_app,List.length_append]
    refine setOk_add (entS_ok' n (by simpa using hl) h.1) fun x hx hk=>?_
    obtain⟨y,hy,he⟩:=entS_mem hx
    rw[he] at hk
    simp at hk
    have:y=b:=by omega
    exact h.2.2 y hy b (by simp) this
theorem entS_ok {F:List Nat} (h:F.Nodup):SetOk F.length (entS F):=entS_ok' _ rfl h
theorem entS_in {F:List Nat} (h:F.Nodup) (x:Nat):inS (entS F) (x:Int)=decide (x∈F):=by
 rw[Bool.eq_iff_iff,decide_eq_true_eq,inS_iff (entS_ok h) (fun p hp=>by obtain⟨y,_,he⟩:=entS_mem hp; rw[he])]
 constructor
 ·rintro⟨p,hp,hk⟩
  obtain⟨y,hy,he⟩:=entS_mem hp
  rw[he] at hk
  simp at hk
  have:y=x:=by omega
  exact this ▸ hy
 ·intro hx; exact entS_has hx
theorem entS_new {F:List Nat} {b:Nat} (h:b∉F):∀ x∈entS F,x.2.1≠(b:Int):=fun x hx hk=>by
 obtain⟨y,hy,he⟩:=entS_mem hx
 rw[he] at hk
 simp at hk
 have:y=b:=by omega
 exact h (this ▸ hy)
theorem bkL_nat {g:Gr} {p:Int×Int}:∀ {n:Nat},p∈bkL g n→∃ a b:Nat,p=((a:Int),(b:Int))∧a < n∧b∈bkRow g a
 | 0,h=>by simp[bkL] at h
 | n + 1, h => by
   simp only[bkL,List.mem_append,List.mem_map] at h
   rcases h with h | ⟨b,hb,rfl⟩
   ·obtain⟨a,b,h1,h2,h3⟩:=bkL_nat h
    exact⟨a,b,h1,by omega,h3⟩
   ·exact⟨n,b,rfl,by omega,hb⟩
def srcL (l:List (Int×Int)) (h:Nat):List Nat:=(l.filter fun p=>decide (p.2=(h:Int))).map fun p=>p.1.toNat
theorem srcL_mem {g:Gr} {h a:Nat}:a∈srcL (bkL g g.b.length) h↔a < g.b.length∧h∈bkRow g a:=by
 unfold srcL
 simp only[List.mem_map,List.mem_filter,decide_eq_true_eq]
 constructor
 ·rintro⟨p,⟨hp,hk⟩,rfl⟩
  obtain⟨x,y,rfl,h1,h2⟩:=bkL_nat hp
  simp at hk
  have:y=h:=by omega
  subst this
  exact⟨h1,h2⟩
 ·rintro⟨h1,h2⟩
  exact⟨((a:Int),(h:Int)),⟨bkL_mem.2 ⟨h1,h2⟩,rfl⟩,rfl⟩
theorem srcL_take {l:List (Int×Int)} {h j:Nat} {p:Int×Int} (hp:l[j]? = some p):srcL (l.take (j + 1)) h=if p.2=(h:Int) then srcL (l.take j) h++[p.1.toNat] else srcL (l.take j) h:=by
 unfold srcL
 rw[List.take_add_one,hp,List.filter_append,List.map_append]
 by_cases hh:p.2=(h:Int)
 ·simp[hh]
 ·simp[hh]
theorem srcL_len (l:List (Int×Int)) (h:Nat):(srcL l h).length≤l.length:=by
 unfold srcL
 rw[List.length_map]
 exact List.length_filter_le _ _
@[simp] theorem msB_cln (m v c:Nat) (L:List (Nat×Int×Bool)):clnE m (msB v c L).els=(msB v c L).els:=congrArg Blk.els (cln_msB m v c L)
theorem wf_small {x:Nat} (h:x < 1000000):(Lit.int .i64 (x:Int)).wf=true:=by
 simp[Lit.wf,IntKind.min,IntKind.max,IntKind.signed,IntKind.bits]
 omega
set_option maxRecDepth 100000 in
theorem lpbody_af (g:Gr) (hg:GrFit g) (hsm:g.b.length≤400) (h:Nat) (hh:(dgN g).rc h=true) :
 AF Tryz.prog 162 [grV g,aI .i64 h,.d (.sl 2 (prs (bkL g g.b.length)))] (.d (.sl 1 (i64s (nI (bodyL g h))))):=by
 have hgl:g.b.length≤maxLen:=by unfold maxLen; omega
 have hR:=dmreach_af revOk g hg (edgOk g)
 have hP:=dmpreds_af g hg (edgOk g) hsm
 rw[dataP_pred g (by have:=(turn_keep hg (List.range g.b.length) (List.replicate g.b.length []) 0 (by simp)).1; simpa [turnN] using this)] at hP
 have u56:=Tryz.underlying104
 have u3:=Tryz.underlying3
 have hhn:=dgN_lt (edgOk g) hh
 have hbl:=bkL_len g g.b.length
 have hbl2:g.b.length * g.b.length≤400 * 400:=Nat.mul_le_mul hsm hsm
 have hsrc:∀ a,a∈srcL (bkL g g.b.length) h↔a < g.b.length∧h∈bkRow g a:=fun a=>srcL_mem
 have hnat:∀ p∈bkL g g.b.length,∃ a b:Nat,p=((a:Int),(b:Int)):=fun p hp=>by obtain⟨a,b,h1,_⟩:=bkL_nat hp; exact⟨a,b,h1⟩
 have hm0:BMid g h [h] (srcL (bkL g g.b.length) h):=⟨by simp,fun x hx=>by simp at hx; subst hx; exact⟨hhn,.inl rfl⟩,by simp,fun x hx=>⟨((hsrc x).1 hx).1,fun _=>.src ((hsrc x).1 hx).2⟩,
  fun x p hx hxh=>by simp at hx; exact absurd hx hxh,fun a ha=>.inr ((hsrc a).2 ⟨dgN_lt (edgOk g) (bkRow_rc ha).1,ha⟩)⟩
 have hra:∀ a,a < g.b.length→(blD (reachN g))[a]? = some [D.v (.bool ((dgN g).rc a))]:=fun a h=>blD_get (reachN_get h)
 have hrow0:∀ a,a < g.b.length→(dataT (mkT g.b.length (predF g)))[a]? = some [.sl 1 (i64s (nI (predF g a)))]:=fun a h=>by
  have:=dataT_get (T:=mkT g.b.length (predF g)) (k:=a) (by simpa using h)
  rwa [mkT_row _ h] at this
 obtain⟨n,hn⟩:∃ n,g.b.length=n:=⟨_,rfl⟩
 simp only[hn] at hP hgl hhn hbl hbl2 hsrc hnat hm0 hra hrow0 hsm ⊢
 generalize bkL g n=bk at *
 refine af_of Tryz.func162 rfl (by kernel_rfl) (by simp[Tryz.ntmps162]) fun _=>?_; simp[Tryz.f162,Ex.d_eq]
 refine aRaw_makeS ?_
 simp
 refine aRaw_insS (L:=[]) (c:=0) (b:=1) (v:=0) (k:=h) (v':=true) u56 u3 (by simp) (by simp) (by simp) rfl (by simp) ?_
 simp
 refine aCall_of hP (by kernel_rfl) (by simp) ?_
 simp
 refine aCall_of hR (by kernel_rfl) (by simp) ?_
 simp
 refine aLoop_st (fun j:Nat=>[(1,aI .i64 h),(3,.ptr 0 0 0 0),(7,.mp 1 0),(8,.d (.sl 1 (dataT (mkT n (predF g))))),(9,.d (.sl 1 (blD (reachN g)))),(10,.own 2 (srcL (bk.take j) h).length 0 (srcL (bk.take j) h).length),(22,.d (.sl 2 (prs bk))),(23,aI .i64 bk.length),(24,aI .i64 j)])
  (fun j=>[gB g,msB 0 1 (entS [h]),nbk (srcL (bk.take j) h).length (nI (srcL (bk.take j) h))]) (fun j=>j≤bk.length) (fun j=>bk.length - j) 0
  ((Sub.ghost 0 3 1).trans (Sub.slot (s:=10) (c:=.own 2 0 0 0) (by simp; exact VLe.nil_own (k:=⟨0,true,3,1,[]⟩) (by simp) rfl))) 3 (by omega) (by simp[cln_gB,cln_msB,srcL,entS]) (by simp[srcL,blD]) (by omega) ?_
 rintro j hj K hK
 have hsl:(srcL (bk.take j) h).length≤160000:=by have:=srcL_len (bk.take j) h; simp at this; omega
 rcases Nat.lt_or_ge j bk.length with hlt | hge
 case inl=>
  obtain⟨p,hp⟩:∃ p,bk[j]? = some p:=⟨_,gEG hlt⟩
  have hp1:=prs_get hp
  have hp2:=(gSI.1 hp1).2
  have hst:=srcL_take (h:=h) hp
  obtain⟨a,b,rfl⟩:=hnat p (gMO hp)
  simp only[Int.toNat_natCast] at hst
  have hbm:bk.length≤maxLen:=by unfold maxLen; omega
  simp[hlt,hp1,hp2]
  by_cases hbh:(b:Int)=(h:Int)
  ·rw[if_pos hbh] at hst
   simp[hbh]
   refine aRaw_app byt_48 ?_
   simp
   refine⟨by unfold maxLen; omega,by omega,?_⟩
   simp[succ_wrap hlt hbm]
   exact hK (j + 1) (by omega) (by omega) (Sub.refl _ _ _) 3 (by omega) (by simp[cln_gB,cln_msB,hst]) (by simp[hst])
  ·rw[if_neg hbh] at hst
   simp[hbh,succ_wrap hlt hbm]
   exact hK (j + 1) (by omega) (by omega) (Sub.refl _ _ _) 3 (by omega) (by simp[cln_gB,cln_msB,hst]) (by simp[hst])
 obtain rfl:j=bk.length:=by omega
 rw[List.take_length] at hsl ⊢
 simp
 clear hK K
 refine aLoop_st (α:=List Nat×List Nat×Nat) (fun q=>[(7,.mp 1 0),(8,.d (.sl 1 (dataT (mkT n (predF g))))),(9,.d (.sl 1 (blD (reachN g)))),(10,.own 2 q.2.2 0 q.2.1.length)])
  (fun q=>[gB g,msB 0 q.1.length (entS q.1),nbk q.2.2 (nI q.2.1)]) (fun q=>BMid g h q.1 q.2.1∧q.2.1.length≤160000 + q.1.length * 400) (fun q=>(n - q.1.length) * 401 + q.2.1.length) ([h],srcL bk h,(srcL bk h).length)
  (Sub.refl _ _ _) 3 (by omega) (by simp[cln_gB,cln_msB]) (by simp) ⟨hm0,by simp only; omega⟩ ?_
 rintro⟨F,W,u⟩ ⟨hm,hWl⟩ K hK
 simp only at hm hWl hK ⊢
 have hFl:=hm.len
 rw[hn] at hFl
 rcases List.eq_nil_or_concat W with rfl | ⟨W',b,hWb⟩
 ·have hd:=hm.done
  have hs:srt (keysS (entS F))=nI (bodyL g h):=by
   rw[entS_keys]
   refine asc_ext (srt_nodup ?_) (bodyL_asc g h) fun v=>?_
   ·have:=hm.nd
    unfold nI
    exact this.map _ (fun a b hab he=>hab (by omega))
   ·rw[srt_mem,nI_mem,nI_mem]
    constructor
    ·rintro⟨x,hx,e⟩; exact⟨x,(hd x).1 hx,e⟩
    ·rintro⟨x,hx,e⟩; exact⟨x,(hd x).2 hx,e⟩
  have hbl3:=bodyL_len g h
  simp
  refine aCall_ofc (mkeys_ac (b:=1) (v:=0) (c:=F.length) (L:=entS F) rfl) (by kernel_rfl) ?_
  rintro _ _ ⟨rfl,rfl⟩
  simp
  have hso:=msorted_ac (A:=[gB g,msB 0 F.length (entS F),nbk u [],mbox 1 0]) (q:=3) (b:=1) (v:=0) (c:=F.length) (L:=entS F) rfl rfl (by simp; omega) (fun x hx=>by
   obtain⟨y,hy,he⟩:=entS_mem hx
   have:=(hm.each y hy).1
   rw[he]
   exact wf_small (by omega))
  rw[hs] at hso
  refine aCall_ofc hso (by kernel_rfl) ?_
  rintro _ _ ⟨rfl,rfl⟩
  simp
 ·rw[List.concat_eq_append] at hWb
  subst hWb
  obtain⟨hbn,_⟩:=hm.w b (by simp)
  rw[hn] at hbn
  have hWb:(W'++[b]).length=W'.length + 1:=by simp
  have hin:=entS_in hm.nd b
  have hrb:=hra b hbn
  have hrb2:=(gSI.1 hrb).2
  have hgt:(dEls (i64s (nI (W'++[b]))))[W'.length]? = some [aI .i64 b]:=nbk_get (by simp[nI])
  have hw1:IntKind.i64.wrap (W'.length:Int)=(W'.length:Int):=i64w (by simp at hWl; omega)
  have hcut:∀ e:AEnv,Sub 0 e [gB g,msB 0 F.length (entS F),nbk u (nI W'++[(b:Int)])] e [gB g,msB 0 F.length (entS F),nbk u (nI W')]:=fun e=>by
   have:=Sub.trunc (n:=0) (e:=e) (A:=[gB g,msB 0 F.length (entS F),nbk u (nI W'++[(b:Int)])]) (b:=2) W'.length (k:=nbk u (nI W'++[(b:Int)])) rfl (show 3 < 1000000 by decide)
   have ht:(dEls (i64s (nI W'++[(b:Int)]))).take W'.length=dEls (i64s (nI W')):=by simp[dEls,i64s,nI]
   simp only[setEls,ht] at this
   exact this
  have happ:appT 3 1 [gB g,msB 0 (F.length + 1) (entS (F++[b])),nbk u (nI W'++[(b:Int)])] (.own 2 u 0 W'.length) (.d (.sl 1 (i64s (nI (predF g b))))) =
   some (.own 2 (u + 1) 0 (W'.length + (predF g b).length),[gB g,msB 0 (F.length + 1) (entS (F++[b])),nbk (u + 1) (nI (W'++predF g b))],W'.length + (predF g b).length):=by
   have ht:(dEls (i64s (nI W'++[(b:Int)]))).take W'.length=dEls (i64s (nI W')):=by simp[dEls,i64s,nI]
   have hall:(dEls (i64s (nI (predF g b)))).all (fun x=>x.length == 1)=true:=by simp[dEls,i64s]
   simp[appT,appA,elsOf,curB,setEls,dEls,i64s,nI]
  have hpr:=hrow0 b hbn
  have hpr2:=(gSI.1 hpr).2
  have hpl:=predF_len g b
  rw[hn] at hpl
  have hwl:W'.length + 1≤160000 + F.length * 400:=by simpa using hWl
  have hl1:(W'.length:Int) < (W'.length:Int) + 1:=by omega
  have hl2:(W'.length:Int)≤(W'.length:Int) + 1:=by omega
  simp[hw1,hgt,hl1,hl2]
  refine aRaw_lookS (L:=entS F) (c:=F.length) (b:=1) (v:=0) (k:=b) u56 u3 (by kernel_rfl) (by simp) (by simp) rfl ?_
  rw[hin]
  by_cases hbF:b∈F
  ·simp[hbF]
   refine hK (F,W',u) ⟨hm.drop (.inl hbF),by simp only; omega⟩ (by simp only; simp) (hcut _) 3 (by omega) (by simp[cln_gB]) (by simp)
  ·simp[hbF,hrb,hrb2,hn,hbn]
   cases hrc:(dgN g).rc b with
   | false =>
     simp
     refine hK (F,W',u) ⟨hm.drop (.inr hrc),by simp only; omega⟩ (by simp only; simp) (hcut _) 3 (by omega) (by simp[cln_gB]) (by simp)
   | true =>
     have hmt:=hm.take hbF hrc
     have hFn:=hmt.len
     rw[hn,List.length_append,List.length_singleton] at hFn
     simp
     refine aRaw_updS (L:=entS F) (c:=F.length) (b:=1) (v:=0) (k:=b) (v':=true) u56 u3 (by simp) (by simp) (by simp) rfl (entS_new hbF) ?_
     rw[← entS_app]
     simp[hbn,hpr,hpr2]
     refine aRaw_appT byt_48 ?_
     refine⟨.own 2 (u + 1) 0 (W'.length + (predF g b).length),[gB g,msB 0 (F.length + 1) (entS (F++[b])),nbk (u + 1) (nI (W'++predF g b))],W'.length + (predF g b).length,?_,by unfold maxLen; omega,by omega,?_⟩
     ·simp
      simpa using happ
     simp
     refine hK (F++[b],W'++predF g b,u + 1) ⟨hmt,?_⟩ ?_ (Sub.refl _ _ _) 3 (by omega) (by simp[cln_gB]) (by simp)
     ·simp only[List.length_append,List.length_singleton]
      omega
     ·simp only[List.length_append,List.length_singleton]
      have:n - F.length=(n - (F.length + 1)) + 1:=by omega
      rw[this,Nat.add_mul]
      omega
def leavL (g:Gr) (B:List Nat) (b:Nat):List Nat:=(succR g g.b.length b).filter fun x=>decide (x∉B)
def leavS (g:Gr) (B:List Nat):List Nat→List Nat
 | []=>[]
 | b::l=>leavL g B b++leavS g B l
theorem leavS_app (g:Gr) (B:List Nat):∀ l m:List Nat,leavS g B (l++m)=leavS g B l++leavS g B m
 | [],m=>rfl
 | b::l,m=>by simp[leavS,leavS_app g B l m]
theorem leavS_mem {g:Gr} {B:List Nat} {x:Nat}:∀ {l:List Nat},x∈leavS g B l↔∃ b∈l,x < g.b.length∧x∈edgN g b∧x∉B
 | []=>by simp[leavS]
 | b :: l => by
   simp only[leavS,List.mem_append,leavS_mem (l:=l),leavL,List.mem_filter,succR_mem,decide_eq_true_eq,List.mem_cons]
   constructor
   ·rintro (⟨⟨h1,h2⟩,h3⟩ | ⟨c,h1,h2⟩)
    ·exact⟨b,.inl rfl,h1,h2,h3⟩
    ·exact⟨c,.inr h1,h2⟩
   ·rintro⟨c,rfl | h1,h2,h3,h4⟩
    ·exact .inl ⟨⟨h2,h3⟩,h4⟩
    ·exact .inr ⟨c,h1,h2,h3,h4⟩
theorem leavL_len (g:Gr) (B:List Nat) (b:Nat):(leavL g B b).length≤g.b.length:=Nat.le_trans (List.length_filter_le _ _) (succR_len g _ _)
theorem leavS_len (g:Gr) (B:List Nat):∀ l:List Nat,(leavS g B l).length≤l.length * g.b.length
 | []=>by simp[leavS]
 | b :: l => by
   have h1:=leavS_len g B l
   have h2:=leavL_len g B b
   simp only[leavS,List.length_append,List.length_cons]
   rw[Nat.succ_mul]
   omega
set_option maxRecDepth 100000 in
theorem lpexits_af (g:Gr) (hsm:g.b.length≤400) (h:Nat) :
 AF Tryz.prog 163 [.d (.sl 1 (dataT (succT g))),.d (.sl 1 (i64s (nI (bodyL g h))))] (.d (.sl 1 (i64s (nI (exitL g h))))):=by
 have hgl:g.b.length≤maxLen:=by unfold maxLen; omega
 have hBl:=bodyL_len g h
 have hBn:∀ b∈bodyL g h,b < g.b.length:=fun b hb=>(bodyL_mem.1 hb).1
 obtain⟨c1,c2⟩:=compact_srt (nI (leavS g (bodyL g h) (bodyL g h))) (nI (exitL g h)) (exitL_asc g h) fun v=>by
  rw[nI_mem,nI_mem]
  constructor
  ·rintro⟨x,hx,e⟩
   obtain⟨h1,h2,b,h3,h4⟩:=exitL_mem.1 hx
   exact⟨x,leavS_mem.2 ⟨b,h3,h1,h4,h2⟩,e⟩
  ·rintro⟨x,hx,e⟩
   obtain⟨b,h1,h2,h3,h4⟩:=leavS_mem.1 hx
   exact⟨x,exitL_mem.2 ⟨h2,h4,b,h1,h3⟩,e⟩
 have hSl:=leavS_len g (bodyL g h) (bodyL g h)
 have hrow0:∀ a,a < g.b.length→(dataT (succT g))[a]? = some [.sl 1 (i64s (nI (succR g g.b.length a)))]:=fun a h=>by
  have:=dataT_get (T:=succT g) (k:=a) (by simpa [succT] using h)
  rwa [show rowN (succT g) a=succR g g.b.length a from mkT_row _ h] at this
 have hTl:(succT g).length=g.b.length:=by simp[succT]
 have hXl:=exitL_len g h
 generalize exitL g h=X at *
 generalize bodyL g h=B at *
 have hll:=fun i=>leavS_len g B (B.take i)
 have hsl:=fun b=>succR_len g g.b.length b
 have hmul:B.length * g.b.length≤400 * 400:=Nat.mul_le_mul (by omega) hsm
 have hll2:∀ i,(leavS g B (B.take i)).length≤160000:=fun i=>Nat.le_trans (hll i) (Nat.le_trans (Nat.mul_le_mul_right _ (show (B.take i).length≤B.length by simp; omega)) hmul)
 obtain⟨n,hn⟩:∃ n,g.b.length=n:=⟨_,rfl⟩
 have hlL:∀ b,leavL g B b=(succR g n b).filter fun x=>decide (x∉B):=fun b=>by unfold leavL; rw[hn]
 simp only[hn] at hgl hBl hBn hrow0 hTl hXl hsl hsm
 have hBm:B.length≤maxLen:=by omega
 refine af_of Tryz.func163 rfl (by kernel_rfl) (by simp[Tryz.ntmps163]) fun _=>?_; simp[Tryz.f163,Ex.d_eq]
 refine aLoop_st (fun i:Nat=>[(0,.d (.sl 1 (dataT (succT g)))),(1,.d (.sl 1 (i64s (nI B)))),(5,.own 0 (leavS g B (B.take i)).length 0 (leavS g B (B.take i)).length),(10,.d (.sl 1 (i64s (nI B)))),(11,aI .i64 B.length),(12,aI .i64 i)])
  (fun i=>[nbk (leavS g B (B.take i)).length (nI (leavS g B (B.take i)))]) (fun i=>i≤B.length) (fun i=>B.length - i) 0
  ((Sub.ghost 0 3 1).trans (Sub.slot (s:=5) (c:=.own 0 0 0 0) (by simp; exact VLe.nil_own (k:=⟨0,true,3,1,[]⟩) (by simp) rfl))) 1 (by omega) (by simp[leavS]) (by simp[leavS]) (by omega) ?_
 rintro i hi K hK
 have hl1:=hll2 i
 rcases Nat.lt_or_ge i B.length with hlt | hge
 case inr=>
  obtain rfl:i=B.length:=by omega
  rw[List.take_length] at hl1 ⊢
  have c4:=srt_len (nI (leavS g B B))
  have hsrt:=sort_ac (nI (leavS g B B)) [nbk (leavS g B B).length (nI (leavS g B B))] 0 (leavS g B B).length 3 rfl (by simp; omega)
  have k2:=fun A hA=>compact_ac (srt (nI (leavS g B B))) (nI X) A 0 (leavS g B B).length 3 hA (by rw[c4]; simp; omega) c1 (by rw[c4]; exact c2)
  rw[c4] at k2
  rw[show (nI (leavS g B B)).length=(leavS g B B).length by simp] at k2 hsrt c2
  simp
  refine aCall_ofc hsrt (by kernel_rfl) ?_
  rintro _ _ ⟨rfl,rfl⟩
  simp
  refine aCall_ofc (k2 _ rfl) (by kernel_rfl) ?_
  rintro _ _ ⟨rfl,rfl⟩
  have c3:X.length≤(leavS g B B).length:=by simpa using c2
  simp[c3]
 obtain⟨b,hb⟩:∃ b,B[i]? = some b:=⟨_,gEG hlt⟩
 have hb2:=(gSI.1 hb).2
 have hbn:=hBn b (gMO hb)
 have hrow:=hrow0 b hbn
 have hrow2:=(gSI.1 hrow).2
 have hsl1:=hsl b
 have hslm:(succR g n b).length≤maxLen:=by omega
 have hdl:(dataT (succT g)).length=n:=by simp[hTl]
 simp[hlt,hb,hb2,hbn,hrow,hrow2,hdl]
 obtain⟨f,hf⟩:∃ f:Nat→List Nat,f=fun j=>leavS g B (B.take i)++((succR g n b).take j).filter fun x=>decide (x∉B):=⟨_,rfl⟩
 have hf0:f 0=leavS g B (B.take i):=by rw[hf]; simp
 have hfe:f (succR g n b).length=leavS g B (B.take (i + 1)):=by
  rw[hf]
  simp only[List.take_length]
  rw[List.take_add_one,hb,leavS_app]
  simp[leavS,hlL]
 have hflen:∀ j,(f j).length≤170000:=fun j=>by
  rw[hf]
  simp only[List.length_append]
  have h1:=List.length_filter_le (fun x=>decide (x∉B)) ((succR g n b).take j)
  have h2:((succR g n b).take j).length≤(succR g n b).length:=by simp; omega
  omega
 have hfs:∀ (j x:Nat),(succR g n b)[j]? = some x→f (j + 1)=if x∈B then f j else f j++[x]:=fun j x hx=>by
  rw[hf]
  simp only
  rw[List.take_add_one,hx,List.filter_append]
  by_cases hd:x∈B
  ·simp[hd]
  ·simp[hd]
 clear hf
 refine aLoop_st (fun j:Nat=>[(0,.d (.sl 1 (dataT (succT g)))),(1,.d (.sl 1 (i64s (nI B)))),(5,.own 0 (f j).length 0 (f j).length),(10,.d (.sl 1 (i64s (nI B)))),(11,aI .i64 B.length),(12,aI .i64 i),
  (19,.d (.sl 1 (i64s (nI (succR g n b))))),(20,aI .i64 (succR g n b).length),(21,aI .i64 j)])
  (fun j=>[nbk (f j).length (nI (f j))]) (fun j=>j≤(succR g n b).length) (fun j=>(succR g n b).length - j) 0 (Sub.refl _ _ _) 1 (by omega) (by simp[hf0]) (by simp[hf0]) (by omega) ?_
 rintro j hj K2 hK2
 rcases Nat.lt_or_ge j (succR g n b).length with hjlt | hjge
 case inr=>
  obtain rfl:j=(succR g n b).length:=by omega
  simp[succ_wrap hlt hBm]
  exact hK (i + 1) (by omega) (by omega) (Sub.refl _ _ _) 1 (by omega) (by simp[hfe]) (by simp[hfe])
 obtain⟨x,hx⟩:∃ x,(succR g n b)[j]? = some x:=⟨_,gEG hjlt⟩
 have hx2:=(gSI.1 hx).2
 have hfj:=hfs j x hx
 have hfl:=hflen j
 have hc:=containsin_af (nI B) x (by simpa using hBm)
 rw[show decide ((x:Int)∈nI B)=decide (x∈B) by rw[Bool.eq_iff_iff,decide_eq_true_eq,decide_eq_true_eq,nI_not]] at hc
 simp[hjlt,hx,hx2]
 refine aCall_of hc (by kernel_rfl) (by simp) ?_
 by_cases hxB:x∈B
 ·rw[if_pos hxB] at hfj
  simp[hxB,succ_wrap hjlt hslm]
  exact hK2 (j + 1) (by omega) (by omega) (Sub.refl _ _ _) 1 (by omega) (by simp[hfj]) (by simp[hfj])
 ·rw[if_neg hxB] at hfj
  simp[hxB]
  refine aRaw_app byt_48 ?_
  simp
  refine⟨by unfold maxLen; omega,by omega,?_⟩
  simp[succ_wrap hjlt hslm]
  exact hK2 (j + 1) (by omega) (by omega) (Sub.refl _ _ _) 1 (by omega) (by simp[hfj]) (by simp[hfj])
structure Lp where
 hd:Int
 bd:List Int
 ex:List Int
 pa:Int
def Lp.d (l:Lp):List D:=[.v (.int .i64 l.hd),.sl 1 (i64s l.bd),.sl 1 (i64s l.ex),.v (.int .i64 l.pa)]
def lps (l:List Lp):List (List D):=l.map Lp.d
@[simp] theorem lps_len (l:List Lp):(lps l).length=l.length:=by simp[lps]
theorem lps_get {l:List Lp} {i:Nat} {x:Lp} (h:l[i]? = some x):(lps l)[i]? = some [.v (.int .i64 x.hd),.sl 1 (i64s x.bd),.sl 1 (i64s x.ex),.v (.int .i64 x.pa)]:=by simp[lps,h,Lp.d]
def inStp (l:List Lp) (b but:Int) (best:Option Nat) (k:Nat):Option Nat:=match l[k]? with
 | none=>best
 | some x => if (k : Int) ≠ but ∧ b ∈ x.bd then (match best with
   | none=>some k
   | some c=>if x.bd.length < ((l[c]?.map fun y=>y.bd.length).getD 0) then some k else some c) else best
def inL (l:List Lp) (b but:Int):Nat→Option Nat
 | 0=>none
 | k + 1=>inStp l b but (inL l b but k) k
theorem inL_lt {l:List Lp} {b but:Int}:∀ {k:Nat},∀ c,inL l b but k=some c→c < l.length
 | 0,c,h=>by cases h
 | k + 1, c, h => by
   rw[inL] at h
   unfold inStp at h
   split at h
   ·exact inL_lt _ h
   ·rename_i x hx
    split at h
    ·split at h
     ·obtain rfl:=oSI h; exact (gSI.1 hx).1
     ·rename_i d hd
      split at h
      ·obtain rfl:=oSI h; exact (gSI.1 hx).1
      ·obtain rfl:=oSI h; exact inL_lt _ hd
    ·exact inL_lt _ h
set_option maxRecDepth 100000 in
theorem lpnest_af (l:List Lp) (b:Int) (hl:l.length≤maxLen) (hb:∀ x∈l,x.bd.length≤maxLen):AF Tryz.prog 165 [.d (.sl 4 (lps l)),aI .i64 b] (aI .i64 (bV (inL l b (-1) l.length))):=by
 refine af_of Tryz.func165 rfl (by kernel_rfl) (by simp[Tryz.ntmps165]) fun _=>?_; simp[Tryz.f165,Ex.d_eq]
 refine aLoop_st (fun i:Nat=>[(0,.d (.sl 4 (lps l))),(1,aI .i64 b),(5,aI .i64 (bV (inL l b (-1) i))),(8,.d (.sl 4 (lps l))),(9,aI .i64 l.length),(10,aI .i64 i)]) (fun _=>[]) (fun i=>i≤l.length) (fun i=>l.length - i) 0 (Sub.refl _ _ _) 0 (by omega) (by simp) (by simp[inL,bV]) (by omega) ?_
 rintro i hi K hK
 rcases Nat.lt_or_ge i l.length with hlt | hge
 case inr=>
  obtain rfl:i=l.length:=by omega
  simp
 obtain⟨x,hx⟩:∃ x,l[i]? = some x:=⟨_,gEG hlt⟩
 have hx1:=lps_get hx
 have hx2:=(gSI.1 hx1).2
 have hxl:=hb x (gMO hx)
 have hc:=containsin_af x.bd b hxl
 have hst:inL l b (-1) (i + 1)=inStp l b (-1) (inL l b (-1) i) i:=rfl
 have hlo:=inL_lt (l:=l) (b:=b) (but:=-1) (k:=i)
 unfold inStp at hst
 rw[hx] at hst
 simp only at hst
 simp[hlt,hx1,hx2]
 refine adraw [] (by kernel_rfl) (by kernel_rfl) (by kernel_rfl) (by kernel_rfl) ?_
 simp
 refine adC_of hc (by kernel_rfl) trivial (by simp) (by simp) ?_
 by_cases hin:b∈x.bd
 ·rw[if_pos ⟨by omega,hin⟩] at hst
  simp[hin]
  generalize inL l b (-1) i=bs at *
  cases bs with
  | none =>
    simp only at hst
    simp[bV,succ_wrap hlt hl]
    exact hK (i + 1) (by omega) (by omega) (Sub.refl _ _ _) 0 (by omega) (by simp) (by simp[hst,bV])
  | some c =>
    have hcl:=hlo c rfl
    obtain⟨y,hy⟩:∃ y,l[c]? = some y:=⟨_,gEG hcl⟩
    have hy1:=lps_get hy
    have hy2:=(gSI.1 hy1).2
    simp only[hy,Option.map_some,Option.getD_some] at hst
    simp[bV,show ¬ (c:Int) < 0 by omega,hcl,hlt,hx1,hx2,hy1,hy2]
    by_cases hlt2:x.bd.length < y.bd.length
    ·rw[if_pos hlt2] at hst
     simp[hlt2,succ_wrap hlt hl]
     exact hK (i + 1) (by omega) (by omega) (Sub.refl _ _ _) 0 (by omega) (by simp) (by simp[hst,bV])
    ·rw[if_neg hlt2] at hst
     simp[hlt2,succ_wrap hlt hl]
     exact hK (i + 1) (by omega) (by omega) (Sub.refl _ _ _) 0 (by omega) (by simp) (by simp[hst,bV])
 ·rw[if_neg (by simp[hin])] at hst
  simp[hin,succ_wrap hlt hl]
  exact hK (i + 1) (by omega) (by omega) (Sub.refl _ _ _) 0 (by omega) (by simp) (by simp[hst])
abbrev aPr (p:Int×Int):AV:=.agg [aI .i64 p.1,aI .i64 p.2]
theorem index_p_ac {f:Nat} {fs cs:List AV} {p:Int×Int→Bool} (A:AHeap) (l:List (Int×Int)) (hf:okF Tryz.prog f=true) (hp:∀ a∈l,∀ N,AC Tryz.prog f (fs++[aPr a]++cs) (A++N) (Same0 A (aB (p a)))) :
 AC Tryz.prog 210 [.d (.sl 2 (prs l)),.fn f fs cs] A (Same0 A (aI .i64 (match l.findIdx? p with | some i=>(i:Int) | none=>-1))):=by
 refine ac_of Tryz.func210 rfl (by kernel_rfl) (by simp[Tryz.ntmps210]) fun hb=>?_
 have n1:l.length≤maxLen:=by simpa using hb.1.1
 clear hb
 obtain⟨R,hR⟩:∃ R:Int,(match l.findIdx? p with | some i=>(i:Int) | none=>-1)=R:=⟨_,rfl⟩
 rw[hR]
 simp[Tryz.f210]
 refine aLoop_of (α:=Nat) (fun i e A'=>i≤l.length∧(∃ N,A'=A++N)∧e 8=aI .i64 i∧e 7=aI .i64 l.length∧e 0 = .d (.sl 2 (prs l))∧e 1 = .fn f fs cs ∧
  ∀ (j:Nat) (a:Int×Int),j < i→l[j]? = some a→p a=false) (fun i=>l.length - i) 0 (Sub.refl _ _ _) ⟨by omega,⟨[],by simp⟩,by simp,by simp,by simp,by simp,by intro j a hj; omega⟩ ?_
 rintro i e A' ⟨hi,⟨N,rfl⟩,e8,e7,e0,e1,hall⟩ K hK
 simp[e8,e7]
 refine aCond_split (fun hlt=>?_) (fun hge=>?_)
 ·simp at hlt
  have hi1:=gEG hlt
  have hi2:=prs_get hi1
  have hi3:=(gSI.1 hi2).2
  simp[e0,e1,e8,hi1,hi2,hi3,hlt]
  refine aCall_ofc (hp l[i] (gMO hi1) N) hf ?_
  rintro _ _ ⟨rfl,N',rfl⟩
  simp
  refine aCond_split (fun ht=>?_) (fun hf=>?_)
  ·have:l.findIdx? p=some i:=by
    rw[List.findIdx?_eq_some_iff_getElem]
    exact⟨hlt,ht,fun j hj=>by simpa using hall j _ hj (gEG (by omega))⟩
   rw[this] at hR
   subst hR
   simp[Same0]
  ·simp[e8,succ_wrap hlt n1]
   refine hK (i + 1) _ _ _ _ (Sub.refl _ _ _) ⟨by omega,⟨N',rfl⟩,by simp,by simp[e7],by simp[e0],by simp[e1],fun j a hj ha=>?_⟩ (by omega)
   rcases Nat.lt_or_ge j i with h | h
   ·exact hall j a h ha
   ·obtain rfl:j=i:=by omega
    rw[hi1] at ha
    obtain rfl:=oSI ha
    exact hf
 ·simp at hge
  have:l.findIdx? p=none:=by
   rw[List.findIdx?_eq_none_iff]
   intro x hx
   obtain⟨j,hj⟩:=List.getElem?_of_mem hx
   exact hall j x (by have:=(gSI.1 hj).1; omega) hj
  rw[this] at hR
  subst hR
  simp[Same0]
theorem contains_p_ac {f:Nat} {fs cs:List AV} {p:Int×Int→Bool} (A:AHeap) (l:List (Int×Int)) (hf:okF Tryz.prog f=true) (hp:∀ a∈l,∀ N,AC Tryz.prog f (fs++[aPr a]++cs) (A++N) (Same0 A (aB (p a)))) :
 AC Tryz.prog 160 [.d (.sl 2 (prs l)),.fn f fs cs] A (Same0 A (aB (l.any p))):=by
 refine ac_of Tryz.func160 rfl (by kernel_rfl) (by simp[Tryz.ntmps160]) fun hb=>?_
 simp[Tryz.f160]
 refine aCall_ofc (index_p_ac A l hf hp) (by simp) ?_
 rintro _ _ ⟨rfl,N,rfl⟩
 simp[Same0]
 cases h:l.findIdx? p with
 | none =>
   rw[List.findIdx?_eq_none_iff] at h
   simpa using h
 | some i =>
   rw[List.findIdx?_eq_some_iff_getElem] at h
   obtain⟨hi,hp,_⟩:=h
   exact Eq.symm (List.any_eq_true.2 ⟨_,List.getElem_mem hi,hp⟩)
theorem find1_ac (B0 B1:Blk) (h:Int) (a:Int×Int) (N:AHeap):AC Tryz.prog 161 ([]++[aPr a]++[.ptr 2 0 0 0]) ([B0,B1,cInt h]++N) (Same0 [B0,B1,cInt h] (aB (decide (a.2=h)))):=by
 refine ac_of Tryz.func161 rfl (by kernel_rfl) (by simp[Tryz.ntmps161]) fun _=>?_
 simp[Tryz.f161,cInt,Same0]
abbrev lpB (v:Nat) (els:List (List AV)):Blk:=⟨v,true,153,4,els⟩
theorem cloneLp_ac {A:AHeap} {b ver:Nat} {X:List (List D)} (hb:A[b]? = some (lpB ver (dEls X))) (hX:∀ x∈X,x.length=4) (hl:X.length≤100000) (hne:X≠[]) :
 AC Tryz.prog 164 [.own b ver 0 X.length] A (fun r A'=>r = .own A.length 1 0 X.length∧A'=A++[lpB 1 (dEls X)]):=by
 have hbl:=(gSI.1 hb).1
 refine ac_of Tryz.func164 rfl (by kernel_rfl) (by simp[Tryz.ntmps164]) fun hbd=>?_
 clear hbd
 have hpos:0 < X.length:=List.length_pos_iff.2 hne
 have hcur:curB A b ver=some (lpB ver (dEls X)):=by simp[curB,hb]
 simp[Tryz.f164,hb]
 refine⟨by kernel_rfl,fun r hr=>?_⟩
 have hrf:r=false:=by
  cases r with
  | false=>rfl
  | true =>
    rcases hr rfl with h | h
    ·omega
    ·rw[hcur] at h; cases h
 subst hrf
 simp
 refine aRaw_app byt_150 ?_
 have hall:∀ x∈dEls X,x.length=4:=fun x hx=>by
  simp only[dEls,List.mem_map] at hx
  obtain⟨y,hy,rfl⟩:=hx
  simpa using hX y hy
 simp[gAL hbl,hb,hall]
 have ht:List.take X.length (dEls X)=dEls X:=List.take_of_length_le (by simp)
 rw[if_pos hall]
 refine⟨_,_,_,rfl,?_,?_,?_⟩
 ·unfold maxLen; omega
 ·omega
 ·simp
def isHd (g:Gr) (h:Nat):Bool:=(bkL g g.b.length).any fun p=>decide (p.2=(h:Int))
noncomputable def lpOf (g:Gr) (h:Nat):Lp:=⟨h,nI (bodyL g h),nI (exitL g h),-1⟩
noncomputable def fnd0 (g:Gr) (O:List Nat):List Lp:=(O.filter (isHd g)).map (lpOf g)
theorem fnd0_take {g:Gr} {O:List Nat} {i h:Nat} (hh:O[i]? = some h):fnd0 g (O.take (i + 1))=if isHd g h=true then fnd0 g (O.take i)++[lpOf g h] else fnd0 g (O.take i):=by
 unfold fnd0
 rw[List.take_add_one,hh,List.filter_append,List.map_append]
 by_cases hd:isHd g h=true
 ·simp[hd]
 ·simp[hd]
theorem fnd0_len (g:Gr) (O:List Nat):(fnd0 g O).length≤O.length:=by
 unfold fnd0
 rw[List.length_map]
 exact List.length_filter_le _ _
theorem fnd0_mem {g:Gr} {O:List Nat} {x:Lp} (h:x∈fnd0 g O):∃ h∈O,isHd g h=true∧x=lpOf g h:=by
 unfold fnd0 at h
 simp only[List.mem_map,List.mem_filter] at h
 obtain⟨h,⟨h1,h2⟩,rfl⟩:=h
 exact⟨h,h1,h2,rfl⟩
def withP (L:List Lp) (k:Nat):List Lp:=L.mapIdx fun i x=>if i < k then ⟨x.hd,x.bd,x.ex,bV (inL L x.hd i L.length)⟩ else x
@[simp] theorem withP_len (L:List Lp) (k:Nat):(withP L k).length=L.length:=by simp[withP]
theorem withP_zero (L:List Lp):withP L 0=L:=by
 apply List.ext_getElem?
 intro i
 simp[withP]
theorem withP_get {L:List Lp} {k:Nat} {x:Lp} (h:L[k]? = some x):(withP L k)[k]? = some x:=by simp[withP,h]
theorem withP_succ {L:List Lp} {k:Nat} {x:Lp} (h:L[k]? = some x):withP L (k + 1)=(withP L k).set k ⟨x.hd,x.bd,x.ex,bV (inL L x.hd k L.length)⟩:=by
 apply List.ext_getElem?
 intro i
 have hk:=(gSI.1 h).1
 by_cases hik:k=i
 ·subst hik
  rw[gSS (by simpa using hk)]
  simp[withP,h]
 ·rw[gSN hik]
  simp only[withP,List.getElem?_mapIdx]
  congr 1
  funext y
  by_cases h1:i < k
  ·rw[if_pos h1,if_pos (by omega)]
  ·rw[if_neg h1,if_neg (by omega)]
theorem inL_self (L M:List Lp) (b:Int) (k:Nat) (hlen:M.length=L.length) (hk:∀ y,M[k]? = some y→y.bd=[]) (ho:∀ (i:Nat) (x y:Lp),i≠k→L[i]? = some x→M[i]? = some y→y.bd=x.bd) :
 ∀ m,inL M b (-1) m=inL L b k m∧inL L b k m≠some k
 | 0=>by simp[inL]
 | m + 1 => by
   obtain⟨h1,h2⟩:=inL_self L M b k hlen hk ho m
   rw[inL,inL,h1]
   generalize inL L b k m=bs at *
   unfold inStp
   cases hM:M[m]? with
   | none =>
     have:L[m]? = none:=by
      rw[List.getElem?_eq_none_iff] at hM ⊢
      omega
     rw[this]
     exact⟨rfl,h2⟩
   | some y =>
     have hml:m < L.length:=by rw[← hlen]; exact (gSI.1 hM).1
     obtain⟨x,hx⟩:∃ x,L[m]? = some x:=⟨_,gEG hml⟩
     rw[hx]
     simp only
     by_cases hmk:m=k
     ·subst hmk
      have hky:=hk y hM
      rw[if_neg (by simp[hky]),if_neg (by simp)]
      exact⟨rfl,h2⟩
     ·have hyx:=ho m x y hmk hx hM
      rw[hyx]
      by_cases hb:b∈x.bd
      ·rw[if_pos ⟨by omega,hb⟩,if_pos ⟨by omega,hb⟩]
       cases bs with
       | none=>exact⟨rfl,fun h=>hmk (oSI h)⟩
       | some c =>
         have hck:c≠k:=fun e=>h2 (by rw[e])
         have:(M[c]?.map fun y=>y.bd.length)=L[c]?.map fun y=>y.bd.length:=by
          cases hc:L[c]? with
          | none =>
            have:M[c]? = none:=by
             rw[List.getElem?_eq_none_iff] at hc ⊢
             omega
            rw[this]
          | some z =>
            obtain⟨z',hz'⟩:∃ z',M[c]? = some z':=⟨_,gEG (by rw[hlen]; exact (gSI.1 hc).1)⟩
            rw[hz']
            simp[ho c z z' hck hc hz']
         simp only[this]
         split
         ·exact⟨trivial,fun h=>hmk (oSI h)⟩
         ·exact⟨trivial,h2⟩
      ·rw[if_neg (by simp[hb]),if_neg (by simp[hb])]
       exact⟨rfl,h2⟩
noncomputable def findL (g:Gr):List Lp:=withP (fnd0 g (ordN g)) (fnd0 g (ordN g)).length
theorem NLeS_set:∀ {X Y:List (List D)} (k:Nat) (r:List D),NLeS X Y→(∀ y,Y[k]? = some y→NLeE r y)→NLeS (X.set k r) Y
 | [],Y,k,r,h,_=>by simpa using h
 | x :: X, Y, 0, r, h, hk => by
   simp only[NLeS] at h
   obtain⟨y,ys,rfl,h1,h2⟩:=h
   exact⟨y,ys,rfl,hk y rfl,h2⟩
 | x :: X, Y, k + 1, r, h, hk => by
   simp only[NLeS] at h
   obtain⟨y,ys,rfl,h1,h2⟩:=h
   exact⟨y,ys,rfl,h1,NLeS_set k r h2 fun z hz=>hk z (by simpa using hz)⟩
theorem bodyL_max (g:Gr) (h:Nat) (hsm:g.b.length≤400):(nI (bodyL g h)).length≤maxLen:=by
 have:=bodyL_len g h
 simp
 unfold maxLen
 omega
theorem lps_set (l:List Lp) (k:Nat) (x:Lp):(lps l).set k x.d=lps (l.set k x):=by simp[lps,List.map_set]
set_option maxRecDepth 100000 in
theorem lpfind_af (g:Gr) (hg:GrFit g) (hsm:g.b.length≤400):AF Tryz.prog 107 [grV g] (.d (.sl 4 (lps (findL g)))):=by
 have hgl:g.b.length≤maxLen:=by unfold maxLen; omega
 have hB:=lpback_af g hg hsm
 have hE:=lpedges_af g hg (edgOk g) hsm
 have hO:=dmOrder_af revOk g hg (edgOk g)
 have hOl:=ordN_len (edgOk g) (g:=g)
 have hOr:∀ h∈ordN g,(dgN g).rc h=true:=fun h hh=>by show (ordN g).contains h=true; simpa using hh
 have hbody:=fun h (hh:(dgN g).rc h=true)=>lpbody_af g hg hsm h hh
 have hexit:=fun h=>lpexits_af g hsm h
 have hbm:=fun h=>bodyL_max g h hsm
 have hbl:=bkL_len g g.b.length
 have hbl2:g.b.length * g.b.length≤400 * 400:=Nat.mul_le_mul hsm hsm
 have hFl:=fun i=>fnd0_len g ((ordN g).take i)
 have hFm:=fun x (hx:x∈fnd0 g (ordN g))=>fnd0_mem hx
 have hft:=fun (i h:Nat) (hh:(ordN g)[i]? = some h)=>fnd0_take (g:=g) hh
 have hisd:∀ h,isHd g h=(bkL g g.b.length).any fun p=>decide (p.2=(h:Int)):=fun _=>rfl
 have hR:findL g=withP (fnd0 g (ordN g)) (fnd0 g (ordN g)).length:=rfl
 have hbd:∀ x∈fnd0 g (ordN g),x.bd.length≤maxLen:=fun x hx=>by
  obtain⟨h,_,_,rfl⟩:=hFm x hx
  exact hbm h
 have hF0:fnd0 g []=[]:=by simp[fnd0]
 generalize findL g=R at *
 generalize ordN g=O at *
 generalize bkL g g.b.length=bk at *
 generalize succT g=sT at *
 generalize isHd g=isH at *
 obtain⟨F,hFd⟩:∃ F,fnd0 g=F:=⟨_,rfl⟩
 rw[hFd] at hFl hFm hft hR hbd hF0
 clear hFd
 have hOm:O.length≤maxLen:=by omega
 subst hR
 refine af_of Tryz.func107 rfl (by kernel_rfl) (by simp[Tryz.ntmps107]) fun _=>?_; simp[Tryz.f107,Ex.d_eq]
 refine aCall_of hB (by kernel_rfl) (by simp) ?_
 simp
 refine aCall_of hE (by kernel_rfl) (by simp) ?_
 simp
 refine aCall_of hO (by kernel_rfl) (by simp) ?_
 simp
 refine aLoop_st (fun i:Nat=>[(1,.ptr 0 0 0 0),(3,.d (.sl 2 (prs bk))),(4,.d (.sl 1 (dataT sT))),(5,.own 1 (F (O.take i)).length 0 (F (O.take i)).length),(16,.d (.sl 1 (i64s (nI O)))),(17,aI .i64 O.length),(18,aI .i64 i)])
  (fun i=>[gB g,lpB (F (O.take i)).length (dEls (lps (F (O.take i))))]) (fun i=>i≤O.length) (fun i=>O.length - i) 0
  ((Sub.ghost 0 153 4).trans (Sub.slot (s:=5) (c:=.own 1 0 0 0) (by simp; exact VLe.nil_own (k:=⟨0,true,153,4,[]⟩) (by simp) rfl))) 2 (by omega) (by simp[cln_gB,hF0,lps]) (by simp[hF0]) (by omega) ?_
 rintro i hi K hK
 have hFl1:=hFl i
 rcases Nat.lt_or_ge i O.length with hlt | hge
 case inl=>
  obtain⟨h,hh⟩:∃ h,O[i]? = some h:=⟨_,gEG hlt⟩
  have hh2:=(gSI.1 hh).2
  have hst:=hft i h hh
  have hhr:=hOr h (gMO hh)
  have hbk:bk.length≤maxLen:=by unfold maxLen; omega
  simp[hlt,hh,hh2]
  refine aCall_ofc (contains_p_ac (p:=fun p=>decide (p.2=(h:Int))) (fs:=[]) (cs:=[.ptr 2 0 0 0]) [gB g,lpB (F (O.take i)).length (dEls (lps (F (O.take i)))),cInt h] bk (by kernel_rfl) (fun a ha N=>find1_ac _ _ h a N)) (by kernel_rfl) ?_
  rintro _ _ ⟨rfl,N,rfl⟩
  rw[← hisd]
  cases hd:isH h with
  | false =>
    rw[hd] at hst
    simp only[Bool.false_eq_true,if_false] at hst
    simp[succ_wrap hlt hOm]
    exact hK (i + 1) (by omega) (by omega) (Sub.refl _ _ _) 2 (by omega) (by simp[hst,cln_gB]) (by simp[hst])
  | true =>
    rw[hd] at hst
    simp only[if_true] at hst
    simp[cInt]
    refine aCall_of (hbody h hhr) (by kernel_rfl) (by simp) ?_
    simp
    refine adraw2 8 [] (by kernel_rfl) (by kernel_rfl) (by kernel_rfl) (by kernel_rfl) (by kernel_rfl) ?_
    simp[cInt]
    refine adC_of (hexit h) (by kernel_rfl) trivial (by simp) (by simp) ?_
    simp
    refine aRaw_app byt_150 ?_
    have hF4:(F (O.take i)).length≤400:=by
     have:(O.take i).length≤O.length:=by simp; omega
     omega
    simp
    refine⟨by unfold maxLen; omega,by omega,?_⟩
    simp[succ_wrap hlt hOm]
    refine hK (i + 1) (by omega) (by omega) (Sub.refl _ _ _) 2 (by omega) ?_ (by simp[hst])
    have hrow:dEls (lps (F (O.take i)++[lpOf g h]))=dEls (lps (F (O.take i)))++[[aI .i64 h,.d (.sl 1 (i64s (nI (bodyL g h)))),.d (.sl 1 (i64s (nI (exitL g h)))),aI .i64 (-1)]]:=by simp[dEls,lps,Lp.d,lpOf]
    simp[hst,cln_gB,hrow]
 obtain rfl:i=O.length:=by omega
 rw[List.take_length] at hFl1 ⊢
 clear hK
 obtain⟨L,hL⟩:∃ L,F O=L:=⟨_,rfl⟩
 rw[hL] at hFl1 hbd ⊢
 clear hFl hft hFm hL hF0
 obtain⟨m,hm⟩:∃ m,L.length=m:=⟨_,rfl⟩
 have hm1:m≤400:=by omega
 have hmm:m≤maxLen:=by omega
 simp[hm]
 refine aLoop_st (fun k:Nat=>[(5,.own 1 m 0 m),(40,aI .i64 m),(41,aI .i64 k)]) (fun k=>[gB g,lpB m (dEls (lps (withP L k)))]) (fun k=>k≤m) (fun k=>m - k) 0 (Sub.refl _ _ _) 2 (by omega) (by simp[cln_gB,withP_zero]) (by simp) (by omega) ?_
 rintro k hk K2 hK2
 rcases Nat.lt_or_ge k m with hklt | hkge
 case inr=>
  obtain rfl:k=m:=by omega
  have ht:(lps (withP L k)).take k=lps (withP L k):=List.take_of_length_le (by simp[hm])
  simp[hm,ht]
 obtain⟨x,hx⟩:∃ x,L[k]? = some x:=⟨_,gEG (by omega)⟩
 have hPl:(withP L k).length=m:=by simp[hm]
 have hPk:=withP_get hx
 have hrow:=lps_get hPk
 have hps:=withP_succ hx
 rw[hm] at hps
 obtain⟨W,hW⟩:∃ W,withP L k=W:=⟨_,rfl⟩
 have hself:=inL_self L (W.set k ⟨x.hd,[],x.ex,x.pa⟩) x.hd k (by rw[List.length_set,← hW]; simp) (fun y hy=>by
  rw[gSS (by rw[← hW]; simp; omega)] at hy
  obtain rfl:=oSI hy
  rfl) (fun i a b hik ha hb=>by
  rw[gSN (Ne.symm hik),← hW] at hb
  simp only[withP,List.getElem?_mapIdx,ha,Option.map_some,Option.some.injEq] at hb
  subst hb
  split<;>rfl) m
 have hWb:∀ y∈W,y.bd.length≤maxLen:=fun y hy=>by
  obtain⟨i,hi⟩:=List.getElem?_of_mem hy
  rw[← hW] at hi
  simp only[withP,List.getElem?_mapIdx,Option.map_eq_some_iff] at hi
  obtain⟨z,hz,rfl⟩:=hi
  have:=hbd z (gMO hz)
  split<;>exact this
 rw[hW] at hPl hPk hrow hps ⊢
 clear hW
 have hnest:=lpnest_af (W.set k ⟨x.hd,[],x.ex,x.pa⟩) x.hd (by simp; omega) (fun y hy=>by
  rcases List.mem_or_eq_of_mem_set hy with h | rfl
  ·exact hWb y h
  ·simp)
 rw[List.length_set,hPl,hself.1] at hnest
 have hWl4:∀ y∈lps W,y.length=4:=fun y hy=>by
  simp only[lps,List.mem_map] at hy
  obtain⟨z,_,rfl⟩:=hy
  rfl
 have hclone:=cloneLp_ac (A:=[gB g,lpB m (dEls (lps W))]) (b:=1) (ver:=m) (X:=lps W) rfl hWl4 (by simp; omega) (fun h=>by
  have h1:(lps W).length=0:=by rw[h]; rfl
  rw[lps_len,hPl] at h1
  omega)
 rw[lps_len,hPl] at hclone
 have hg1:(dEls (lps W))[k]? = some [aI .i64 x.hd,.d (.sl 1 (i64s x.bd)),.d (.sl 1 (i64s x.ex)),aI .i64 x.pa]:=by simp[dEls,hrow]
 have hgk:k < m:=hklt
 simp[hklt]
 refine aCall_ofc hclone (by kernel_rfl) ?_
 rintro _ _ ⟨rfl,rfl⟩
 simp[hklt,hg1]
 refine aCall_ofs hnest (by kernel_rfl) ?_ (by simp) ?_
 ·have hset:(dEls (lps W)).set k [aI .i64 x.hd,.d (.v (.slice none 0 0)),.d (.sl 1 (i64s x.ex)),aI .i64 x.pa]=dEls ((lps W).set k [.v (.int .i64 x.hd),.v (.slice none 0 0),.sl 1 (i64s x.ex),.v (.int .i64 x.pa)]):=by simp[dEls,List.map_set]
  rw[hset]
  have ht:List.take m (dEls ((lps W).set k [.v (.int .i64 x.hd),.v (.slice none 0 0),.sl 1 (i64s x.ex),.v (.int .i64 x.pa)]))=dEls ((lps W).set k [.v (.int .i64 x.hd),.v (.slice none 0 0),.sl 1 (i64s x.ex),.v (.int .i64 x.pa)]):=List.take_of_length_le (by simp[hPl])
  have hn:NLeS ((lps W).set k [.v (.int .i64 x.hd),.v (.slice none 0 0),.sl 1 (i64s x.ex),.v (.int .i64 x.pa)]) (lps (W.set k ⟨x.hd,[],x.ex,x.pa⟩)):=by
   have h1:=NLeS_set (X:=lps (W.set k ⟨x.hd,[],x.ex,x.pa⟩)) k [.v (.int .i64 x.hd),.v (.slice none 0 0),.sl 1 (i64s x.ex),.v (.int .i64 x.pa)] (NLeS.refl _) fun y hy=>by
    rw[← lps_set,gSS (by simp[hPl]; omega)] at hy
    obtain rfl:=oSI hy
    exact⟨_,_,rfl,rfl,_,_,rfl,⟨rfl,rfl⟩,_,_,rfl,⟨rfl,NLeS.refl _⟩,_,_,rfl,rfl,rfl⟩
   rwa [← lps_set,List.set_set,lps_set] at h1
  simp[ht,hPl]
  exact hn
 ·simp[hklt,hg1]
  have hset:(dEls (lps W)).set k [aI .i64 x.hd,.d (.sl 1 (i64s x.bd)),.d (.sl 1 (i64s x.ex)),aI .i64 (bV (inL L x.hd k m))]=dEls (lps (W.set k ⟨x.hd,x.bd,x.ex,bV (inL L x.hd k m)⟩)):=by
   rw[← lps_set]
   simp[dEls,List.map_set,Lp.d]
  simp[hset,succ_wrap hklt hmm]
  exact hK2 (k + 1) (by omega) (by omega) (Sub.refl _ _ _) 2 (by omega) (by simp[hps,cln_gB]) (by simp)
def hp2 (A:AHeap) (x c:Nat) (S C:Blk):AHeap:=(A.set x S).set c C
end Go.Proofs.YtfnbhkbfelllgaaGreatDoor
