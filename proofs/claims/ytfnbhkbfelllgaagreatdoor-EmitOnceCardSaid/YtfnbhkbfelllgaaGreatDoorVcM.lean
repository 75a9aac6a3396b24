import Derived.Test.YtfnbhkbfelllgaaGreatDoorVcL
set_option linter.all false
namespace Go.Proofs.YtfnbhkbfelllgaaGreatDoor
open Go.RowKit
theorem cnt_set {N:Nat} {L:Array Bool} {i:Nat} (hi:i < N) (hs:i < L.size) (hu:¬ Lst L i) :
 (List.range N).countP (fun j=>!(L.setIfInBounds i true).getD j false) < (List.range N).countP (fun j=>!L.getD j false):=by
 have hmem:i∈List.range N:=List.mem_range.2 hi
 rw[List.countP_eq_length_filter,List.countP_eq_length_filter]
 have hsub:((List.range N).filter fun j=>!(L.setIfInBounds i true).getD j false)=((List.range N).filter fun j=>!L.getD j false).filter (fun j=>j != i):=by
  rw[List.filter_filter]
  apply List.filter_congr
  intro j hj
  by_cases hji:j=i
  ·subst hji
   simp[hs]
  ·rw[getD_set_ne false (Ne.symm hji)]
   simp[hji]
 rw[hsub]
 have hin:i∈(List.range N).filter fun j=>!L.getD j false:=List.mem_filter.2 ⟨hmem,by
  unfold Lst at hu
  simpa using hu⟩
 exact List.length_filter_lt_length_iff_exists.2 ⟨i,hin,by simp⟩
section
variable {P:Program} {pre suf:List Oper} {x:Oper} {n:Nat} {k:Kont} {Q:Exit→Act→World→Prop}
section
variable {late:List (Nat×Nat)} {sp:Nat→Spec} {w0:World} {K1:Kont} {e0:Env}
end
end
end Go.Proofs.YtfnbhkbfelllgaaGreatDoor
