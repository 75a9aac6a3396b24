import Derived.Test.YtfnbhkbfelllgaaGreatDoorZW
import Derived.Test.YtfnbhkbfelllgaaGreatDoorZP
import Derived.LaidSub
import Derived.MakeChecks
import Derived.Lib.LaidTab
import Derived.Shelf.Vars
set_option linter.all false
namespace Go.Proofs.YtfnbhkbfelllgaaGreatDoor
open Go.RowKit Go.ChangeShapes Go.WideShapes
set_option maxRecDepth 100000
def grTypes:List TypeId:=[25,23,52,50,62,48]++exTypes
theorem map_of_has {P:Program} {k:Nat} {T:TypeId} {α:Type} {f:α→List D} (h:∀ x,Has P k T x→∃ a,x=f a):∀ xs:List (List D),(∀ x∈xs,Has P k T x)→∃ l:List α,xs=l.map f
 | [],_=>⟨[],rfl⟩
 | x :: xs, hx => by
   obtain⟨l,rfl⟩:=map_of_has h xs fun y hy=>hx y (List.mem_cons_of_mem _ hy)
   obtain⟨a,rfl⟩:=h x (hx x List.mem_cons_self)
   exact⟨a::l,rfl⟩
theorem int_of_has (k:Nat) (ds:List D) (h:Has Tryz.prog k 3 ds):∃ n:Int,ds=[.v (.int .i64 n)]:=by
 cases k with
 | zero=>simp[Has] at h
 | succ k =>
   simp only[Has,Tryz.underlying3] at h
   obtain⟨n,rfl,_⟩:=h
   exact⟨n,rfl⟩
theorem u32_of_has (k:Nat) (ds:List D) (h:Has Tryz.prog k 22 ds):∃ n:Int,ds=[.v (.int .u32 n)]:=by
 cases k with
 | zero=>simp[Has] at h
 | succ k =>
   simp only[Has,Tryz.underlying22] at h
   obtain⟨n,rfl,_⟩:=h
   exact⟨n,rfl⟩
theorem ints_of_has (k:Nat) (ds:List D) (h:Has Tryz.prog k 48 ds):∃ l:List Int,ds=[.sl 1 (i64s l)]:=by
 cases k with
 | zero=>simp[Has] at h
 | succ k =>
   simp only[Has,Tryz.underlying48] at h
   obtain⟨xs,rfl,_,hx⟩:=h
   obtain⟨l,rfl⟩:=map_of_has (int_of_has k) xs hx
   have hc:Tryz.prog.cellsOf 3=1:=by kernel_rfl
   exact⟨l,by rw[hc]; rfl⟩
theorem exs_of_has (k:Nat) (ds:List D) (h:Has Tryz.prog k 26 ds):∃ l:List Ex,ds=[.sl 5 (Ex.ds l)]:=by
 cases k with
 | zero=>simp[Has] at h
 | succ k =>
   simp only[Has,Tryz.underlying26] at h
   obtain⟨xs,rfl,_,hx⟩:=h
   have hc:Tryz.prog.cellsOf 60=5:=by kernel_rfl
   have:∀ xs:List (List D),(∀ x∈xs,Has Tryz.prog k 60 x)→∃ l:List Ex,xs=Ex.ds l:=by
    intro xs
    induction xs with
    | nil=>exact fun _=>⟨[],rfl⟩
    | cons x xs ih =>
      intro hx
      obtain⟨l,rfl⟩:=ih fun y hy=>hx y (List.mem_cons_of_mem _ hy)
      obtain⟨e,rfl,_⟩:=ex_of_has Tryz.underlying60 Tryz.underlying3 Tryz.underlying22 Tryz.underlying3 Tryz.underlying3 Tryz.underlying26 hc k x (hx x List.mem_cons_self)
      exact⟨e::l,rfl⟩
   obtain⟨l,rfl⟩:=this xs hx
   exact⟨l,by rw[hc]⟩
theorem st_of_has (k:Nat) (ds:List D) (h:Has Tryz.prog k 62 ds):∃ s:St,ds=s.d:=by
 cases k with
 | zero=>simp[Has] at h
 | succ k =>
   simp only[Has,Tryz.underlying62] at h
   obtain⟨dss,rfl,hl,hf⟩:=h
   match dss,hl with
   | [a0, a1, a2, a3, a4, a5, a6, a7], _ =>
     obtain⟨n0,rfl⟩:=int_of_has k a0 (hf 0 _ a0 rfl rfl)
     obtain⟨n1,rfl⟩:=int_of_has k a1 (hf 1 _ a1 rfl rfl)
     obtain⟨n2,rfl⟩:=int_of_has k a2 (hf 2 _ a2 rfl rfl)
     obtain⟨n3,rfl⟩:=int_of_has k a3 (hf 3 _ a3 rfl rfl)
     obtain⟨n4,rfl⟩:=int_of_has k a4 (hf 4 _ a4 rfl rfl)
     obtain⟨n5,rfl⟩:=u32_of_has k a5 (hf 5 _ a5 rfl rfl)
     obtain⟨l,rfl⟩:=exs_of_has k a6 (hf 6 _ a6 rfl rfl)
     obtain⟨c,rfl⟩:=ints_of_has k a7 (hf 7 _ a7 rfl rfl)
     exact⟨⟨n0,n1,n2,n3,n4,n5,l,c⟩,rfl⟩
theorem sts_of_has (k:Nat) (ds:List D) (h:Has Tryz.prog k 50 ds):∃ l:List St,ds=[.sl 8 (sts l)]:=by
 cases k with
 | zero=>simp[Has] at h
 | succ k =>
   simp only[Has,Tryz.underlying50] at h
   obtain⟨xs,rfl,_,hx⟩:=h
   obtain⟨l,rfl⟩:=map_of_has (st_of_has k) xs hx
   have hc:Tryz.prog.cellsOf 62=8:=by kernel_rfl
   exact⟨l,by rw[hc]; rfl⟩
theorem bl_of_has (k:Nat) (ds:List D) (h:Has Tryz.prog k 52 ds):∃ b:Bl,ds=b.d:=by
 cases k with
 | zero=>simp[Has] at h
 | succ k =>
   simp only[Has,Tryz.underlying52] at h
   obtain⟨dss,rfl,hl,hf⟩:=h
   match dss,hl with
   | [a0, a1], _ =>
     obtain⟨n0,rfl⟩:=u32_of_has k a0 (hf 0 _ a0 rfl rfl)
     obtain⟨l,rfl⟩:=sts_of_has k a1 (hf 1 _ a1 rfl rfl)
     exact⟨⟨n0,l⟩,rfl⟩
theorem bls_of_has (k:Nat) (ds:List D) (h:Has Tryz.prog k 23 ds):∃ l:List Bl,ds=[.sl 2 (bls' l)]:=by
 cases k with
 | zero=>simp[Has] at h
 | succ k =>
   simp only[Has,Tryz.underlying23] at h
   obtain⟨xs,rfl,_,hx⟩:=h
   obtain⟨l,rfl⟩:=map_of_has (bl_of_has k) xs hx
   have hc:Tryz.prog.cellsOf 52=2:=by kernel_rfl
   exact⟨l,by rw[hc]; rfl⟩
theorem gr_of_has (k:Nat) (ds:List D) (h:Has Tryz.prog k 25 ds):∃ g:Gr,ds=[.v (.int .u32 g.ad),.sl 2 (bls' g.b)]:=by
 cases k with
 | zero=>simp[Has] at h
 | succ k =>
   simp only[Has,Tryz.underlying25] at h
   obtain⟨dss,rfl,hl,hf⟩:=h
   match dss,hl with
   | [a0, a1], _ =>
     obtain⟨n0,rfl⟩:=u32_of_has k a0 (hf 0 _ a0 rfl rfl)
     obtain⟨l,rfl⟩:=bls_of_has k a1 (hf 1 _ a1 rfl rfl)
     exact⟨⟨n0,l⟩,rfl⟩
def grLit (H:Type):DataW H:=.agg [.lit (.int .u32 0),.nil]
theorem arg_gr {Hh:Type} {enc:TypeId×Value→Hh} {w:World} {base:Nat} {spare:Nat→Bool} {held:Bool} {r:Reach} {b0:Nat} {v:Value} {d:DataW Hh} {ps:List MemPlace}
 (hval:Value.okWide Tryz.prog w r b0 25 v) (hd:DataW.Trod enc Tryz.prog w base spare held 25 v d ps) :
 ∃ g:Gr,Shp (fun _=>none) [] (grV g) v∧Mem (fun _=>False) w (grV g) v:=by
 obtain⟨fuel,ds,h1,_,h3,h4⟩:=arg_struct (S:=grTypes) (by kernel_rfl) (by kernel_rfl) (by simp[grTypes]) Tryz.underlying25 hval hd
 obtain⟨g,rfl⟩:=gr_of_has fuel ds h1
 exact⟨g,by simpa using h3,by simpa using h4⟩
open Go.RowKit Go.ChangeShapes Go.WideShapes
theorem gb_entry {name:String} {k:IntKind} {zs:List Int} {g:Nat} {W:World} (hT:Lib.TabIs Tryz.prog W name k zs) (hg:Tryz.prog.globalNamed name=some g) (h0:0 < zs.length) :
 g < W.heap.size∧(∀ (j:Nat) (u:Value),(zs.map fun z=>Value.int k z)[j]? = some u→W.cell? ⟨g,j,none⟩=some u)∧∃ t f,W.heap[g]? = some (.cells (zs.map fun z=>Value.int k z).toArray t f):=by
 have hc:=fun i hi=>hT.cell hg i hi
 refine⟨World.block_lt_of_cell? _ _ (hc 0 h0),fun j u hu=>?_,?_⟩
 ·simp only[List.getElem?_map,Option.map_eq_some_iff] at hu
  obtain⟨z,hz,rfl⟩:=hu
  have hj:=(gSI.1 hz).1
  rw[hc j hj,List.getD_eq_getElem?_getD,hz]
  rfl
 ·unfold Lib.TabIs World.var? at hT
  rw[hg] at hT
  simp only[Option.bind_some] at hT
  split at hT
  ·rename_i cs t f he
   simp only[Option.some.injEq] at hT
   subst hT
   exact⟨_,_,he⟩
  ·cases hT
theorem gb_ofE {l : List (String × DataW Unit)} {W : World} (hS : W.ShapedOpen Tryz.prog) (hl : l.filter (fun x => x.1 == "math/bits.deBruijn64tab") = [("math/bits.deBruijn64tab", Lib.tabData .u8 deB64)])
 (hp : l.filter (fun x => x.1 == "internal/strconv.uint64pow10") = [("internal/strconv.uint64pow10", Lib.tabData .u64 Lib.pow10Tab)])
 (hs : l.filter (fun x => x.1 == "strings.asciiSpace") = [("strings.asciiSpace", Lib.tabData .u8 Lib.asciiSpaceTab)]) (h : laidMetH Tryz.prog l W) : GbIs W := by
 have h1 := h.filter fun x => x.1 == "math/bits.deBruijn64tab"
 rw[hl,Go.MakeChecks.laidMetH_plain _ _ _ (by kernel_rfl)] at h1
 have h2 := h.filter fun x => x.1 == "internal/strconv.uint64pow10"
 rw[hp,Go.MakeChecks.laidMetH_plain _ _ _ (by kernel_rfl)] at h2
 have h3 := h.filter fun x => x.1 == "strings.asciiSpace"
 rw[hs,Go.MakeChecks.laidMetH_plain _ _ _ (by kernel_rfl)] at h3
 have hg : Tryz.prog.globalNamed "math/bits.deBruijn64tab" = some 5 := by kernel_rfl
 have hT:=Lib.tabIs_of_head (t:=310) (e:=5) (n:=64) hg (by kernel_rfl) (by kernel_rfl) (by kernel_rfl) (by kernel_rfl) (by kernel_rfl) h1
 have hg2 : Tryz.prog.globalNamed "internal/strconv.uint64pow10" = some 2 := by kernel_rfl
 have hT2:=Lib.tabIs_of_head (t:=282) (e:=236) (n:=20) hg2 (by kernel_rfl) (by kernel_rfl) (by kernel_rfl) (by kernel_rfl) (by kernel_rfl) h2
 have hg3 : Tryz.prog.globalNamed "strings.asciiSpace" = some 0 := by kernel_rfl
 have hT3:=Lib.tabIs_of_head (t:=207) (e:=5) (n:=256) hg3 (by kernel_rfl) (by kernel_rfl) (by kernel_rfl) (by kernel_rfl) (by kernel_rfl) h3
 refine⟨fun p hp=>?_,fun g hg=>?_⟩
 ·simp only[GB,List.mem_cons,List.not_mem_nil,or_false] at hp
  rcases hp with rfl | rfl | rfl
  ·exact gb_entry hT3 hg3 (by decide +kernel)
  ·exact gb_entry hT hg (by decide +kernel)
  ·exact gb_entry hT2 hg2 (by decide +kernel)
 ·simp only[GBI,List.mem_cons,List.not_mem_nil,or_false] at hg
  subst hg
  obtain⟨m,hm⟩:=Go.Proofs.cell_of_shapedOpen_int (P:=Tryz.prog) (w:=W) (g:=3) (zero:=#[.int .i64 0]) (t:=3) hS (of_decide_eq_true (by kernel_rfl)) (by kernel_rfl) rfl (by kernel_rfl) (by kernel_rfl) Tryz.underlying3
  exact⟨World.block_lt_of_cell? _ _ hm,m,hm⟩
theorem hok_of {W:World} (h:GbIs W):HOk (fun _=>False) (fun _=>none) [] W:=HOk.nil (fun _ h=>h.elim) h
end Go.Proofs.YtfnbhkbfelllgaaGreatDoor
