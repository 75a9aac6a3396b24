import Derived.Test.YtfnbhkbfelllgaaGreatDoorAl
import Derived.Laws.MakeOwn
set_option linter.all false
namespace Go.Proofs.YtfnbhkbfelllgaaGreatDoor
open Go.RowKit
section
variable {P:Program} {n:Nat} {e:AEnv} {A:AHeap} {K:AKont}
theorem aRaw_make {x y:Operand} {t el sz bytes:Nat} {d:Option Nat} {ty:TypeId} {pos:String} {af:Array Edge} {gd:Option (Nat×Bool)} {z:List AV} {kl kc:IntKind} {l c:Nat} (hby:byt P t=some (el,sz,bytes)) (hz:zvA P el=some z)
 (hx:eva e x = .d (.v (.int kl l))) (hy:eva e y = .d (.v (.int kc c))) (hlc:l≤c) (hm:c≤maxLen) (hb:bytes * c≤140737488355328)
 (hk:K (aupd e d (.own A.length 0 0 l)) (A++[⟨0,true,el,sz,List.replicate l z⟩])):aRaw P n ⟨d,.makeSlice t x y,ty,pos,af,gd⟩ e A K:=by
 rintro C ec w hn ⟨h0,ι,h1,h2,h3,h4⟩
 obtain⟨i,z0,e1,e2,e3,e4,e5,e6,e7⟩:=byt_spec hby
 obtain⟨z1,f1,f2,f3⟩:=zvA_spec hz
 have hz0:z1=z0:=by
  unfold zv at f1
  rw[e2] at f1
  simp only[Option.bind_some,e6,Option.some.injEq] at f1
  exact f1.symm
 subst hz0
 have hrun:(Instr.makeSlice t (ev ec x) (ev ec y)).run P w = .ok (.slice (some ⟨w.heap.size,0,none⟩) l c) (w.alloc (.cells (madeCells z1.cells (c * sz)) el)):=by
  have ax:ev ec x = .int kl l:=by have:=eva_shp h3 x; rw[hx] at this; simpa [Shp] using this
  have ay:ev ec y = .int kc c:=by have:=eva_shp h3 y; rw[hy] at this; simpa [Shp] using this
  rw[ax,ay]
  unfold maxLen at hm
  have hb':(i.bytes:Int) * (c:Int)≤281474976710656:=by
   rw[e4,← Int.natCast_mul]
   omega
  have:=run_make (P:=P) w t el i z1 e1 e2 e6 kl kc (l:Int) (c:Int) (by omega) (by omega) hb' (by omega)
  simpa [e3] using this
 have hsz:(madeCells z1.cells (c * sz)).size=c * sz:=size_madeCells _ _
 have hzl:z.length=sz:=by rw[f2]; simp[e7]
 obtain⟨g1,g2⟩:=rel_new h1 (fun c hc=>Nat.lt_of_lt_of_le (h0.1 c hc) h2.size) (k:=⟨0,true,el,sz,List.replicate l z⟩) (arr:=madeCells z1.cells (c * sz)) (byt_ty hby) (by
  rw[hsz]
  simp only[List.length_replicate]
  exact Nat.mul_le_mul_right _ hlc) (fun j x hj=>by
  rw[List.getElem?_replicate] at hj
  split at hj
  case isFalse=>cases hj
  rename_i hjl
  simp only[Option.some.injEq] at hj
  subst hj
  refine⟨hzl,fun q a hq=>?_⟩
  have hql:q < sz:=by have:=(gSI.1 hq).1; omega
  rw[f2,List.getElem?_map,Option.map_eq_some_iff] at hq
  obtain⟨v,hv,rfl⟩:=hq
  have hlt:j * sz + q < c * sz:=by
   have:(j + 1) * sz≤c * sz:=Nat.mul_le_mul_right _ (by omega)
   rw[Nat.add_mul] at this
   omega
  refine⟨v,?_,⟨by simp[Shp],by simp only[Mem,Rd,true_and]; exact f3 v (gMO hv)⟩,f3 v (gMO hv)⟩
  unfold madeCells
  rw[Array.getElem?_map,Array.getElem?_range,if_pos hlt]
  simp only[Option.map_some,Option.some.injEq]
  rw[e7,show (j * sz + q) % sz=q by rw[Nat.mul_comm,Nat.mul_add_mod,Nat.mod_eq_of_lt hql]]
  have hv':z1.cells[q]? = some v:=by simpa using hv
  rw[getElem!_def,hv'])
 unfold vRaw execOp
 simp only[Sem.run_bind,Sem.run_pure,hrun,Result.andThen_ok]
 refine⟨_,_,hk,h0,_,g1,h2.trans g2,shp_upd (fun i=>Shp.step g2.stab _ _ (h3 i)) ?_,mem_upd (fun i=>Mem.keep g2.keepD _ _ (h4 i)) (by simp[Mem])⟩
 simp only[Shp]
 refine⟨⟨_,_,_,rfl⟩,_,by simp; rfl,Nat.le_refl _,fun _=>.inr ⟨w.heap.size,(madeCells z1.cells (c * sz)).size,c,by simp[newI],by simp,hlc,hm,by rw[hsz]; simp⟩⟩
end
end Go.Proofs.YtfnbhkbfelllgaaGreatDoor
