import Derived.Test.YtfnbhkbfelllgaaGreatDoorAs
set_option linter.all false
namespace Go.Proofs.YtfnbhkbfelllgaaGreatDoor
open Go.RowKit
inductive Ex where
 | mk (op n v wd:Int) (l:List Ex)
namespace Ex
def op:Ex→Int | mk o _ _ _ _=>o
def n:Ex→Int | mk _ n _ _ _=>n
def v:Ex→Int | mk _ _ v _ _=>v
def wd:Ex→Int | mk _ _ _ w _=>w
def l:Ex→List Ex | mk _ _ _ _ l=>l
@[simp] theorem op_mk (o n v w:Int) (l:List Ex):(mk o n v w l).op=o:=rfl
@[simp] theorem n_mk (o n v w:Int) (l:List Ex):(mk o n v w l).n=n:=rfl
@[simp] theorem v_mk (o n v w:Int) (l:List Ex):(mk o n v w l).v=v:=rfl
@[simp] theorem wd_mk (o n v w:Int) (l:List Ex):(mk o n v w l).wd=w:=rfl
@[simp] theorem l_mk (o n v w:Int) (l:List Ex):(mk o n v w l).l=l:=rfl
mutual
def d:Ex→List D
 | mk o n v w l=>[.v (.int .i64 o),.v (.int .u32 n),.v (.int .i64 v),.v (.int .i64 w),.sl 5 (ds l)]
def ds:List Ex→List (List D)
 | []=>[]
 | e::l=>d e::ds l
end
@[simp] theorem ds_nil:ds []=[]:=rfl
@[simp] theorem ds_cons (e:Ex) (l:List Ex):ds (e::l)=d e::ds l:=rfl
theorem ds_map:∀ l,ds l=l.map d
 | []=>rfl
 | e::l=>by simp[ds_map l]
@[simp] theorem ds_len (l:List Ex):(ds l).length=l.length:=by simp[ds_map]
@[simp] theorem ds_get (l:List Ex) (i:Nat):(ds l)[i]? = (l[i]?).map d:=by simp[ds_map]
@[simp] theorem ds_at (l:List Ex) (i:Nat) (h:i < (ds l).length):(ds l)[i]=d (l[i]'(by simpa using h)):=by simp[ds_map]
@[simp] theorem ds_all (l:List Ex):(ds l).take l.length=ds l:=by simp[ds_map,← List.map_take]
theorem d_eq:∀ e:Ex,d e=[.v (.int .i64 e.op),.v (.int .u32 e.n),.v (.int .i64 e.v),.v (.int .i64 e.wd),.sl 5 (ds e.l)]
 | mk _ _ _ _ _=>rfl
mutual
def depth:Ex→Nat
 | mk _ _ _ _ l=>depths l + 1
def depths:List Ex→Nat
 | []=>0
 | e::l=>max (depth e) (depths l)
end
theorem depth_lt {e:Ex} {x:Ex} (h:x∈e.l):x.depth < e.depth:=by
 cases e with
 | mk o n v w l =>
   simp only[Ex.l] at h
   simp only[depth]
   have:x.depth≤depths l:=by
    induction l with
    | nil=>cases h
    | cons y l ih =>
      simp only[depths]
      rcases List.mem_cons.1 h with rfl | h
      ·exact Nat.le_max_left _ _
      ·exact Nat.le_trans (ih h) (Nat.le_max_right _ _)
   omega
theorem eta:∀ e:Ex,mk e.op e.n e.v e.wd e.l=e
 | mk _ _ _ _ _=>rfl
theorem ind {p:Ex→Prop} (h:∀ e,(∀ x∈e.l,p x)→p e):∀ e,p e:=by
 have:∀ k e,depth e < k→p e:=by
  intro k
  induction k with
  | zero=>intro e h; omega
  | succ k ih=>exact fun e hk=>h e fun x hx=>ih x (by have:=depth_lt hx; omega)
 exact fun e=>this _ e (Nat.lt_succ_self _)
mutual
def nodes:Ex→Nat
 | mk _ _ _ _ l=>nodess l + 1
def nodess:List Ex→Nat
 | []=>0
 | e::l=>nodes e + nodess l
end
theorem nodes_pos (e:Ex):0 < e.nodes:=by cases e; simp[nodes]
theorem nodess_mem {x:Ex}:∀ {l:List Ex},x∈l→x.nodes≤nodess l
 | y :: l, h => by
   simp only[nodess]
   rcases List.mem_cons.1 h with rfl | h
   ·omega
   ·have:=nodess_mem h; omega
theorem nodess_len:∀ (l:List Ex),l.length≤nodess l
 | []=>Nat.le_refl _
 | e :: l => by
   have:=nodess_len l
   have:=nodes_pos e
   simp only[nodess,List.length_cons]
   omega
theorem nodes_mem {e x:Ex} (h:x∈e.l):x.nodes < e.nodes:=by
 cases e with
 | mk o n v w l =>
   have:=nodess_mem (show x∈l from h)
   simp only[nodes]
   omega
theorem nodes_len (e:Ex):e.l.length < e.nodes:=by
 cases e with
 | mk o n v w l =>
   have:=nodess_len l
   simp only[nodes,Ex.l]
   omega
end Ex
abbrev aI (k:IntKind) (n:Int):AV:=.d (.v (.int k n))
abbrev aB (b:Bool):AV:=.d (.v (.bool b))
@[simp] def exA (e:Ex):AV:=.agg [aI .i64 e.op,aI .u32 e.n,aI .i64 e.v,aI .i64 e.wd,.d (.sl 5 (Ex.ds e.l))]
end Go.Proofs.YtfnbhkbfelllgaaGreatDoor
