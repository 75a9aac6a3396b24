import Derived.Test.YtfnbhkbfelllgaaGreatDoorAq
set_option linter.all false
namespace Go.Proofs.YtfnbhkbfelllgaaGreatDoor
open Go.RowKit
def beqV:Value→Value→Bool
 | .int k n,.int k' n'=>decide (k=k') && decide (n=n')
 | .bool a,.bool b=>a == b
 | .string s,.string t=>decide (s=t)
 | .slice none n c,.slice none n' c'=>decide (n=n') && decide (c=c')
 | .pointer none,.pointer none=>true
 | .map none,.map none=>true
 | .nilFunc,.nilFunc=>true
 | _,_=>false
theorem beqV_eq {x y:Value} (h:beqV x y=true):x=y:=by
 unfold beqV at h
 split at h<;>first | rfl | (simp only[Bool.and_eq_true,decide_eq_true_eq,beq_iff_eq] at h; first | (obtain⟨rfl,rfl⟩:=h; rfl) | (subst h; rfl)) | cases h
mutual
def beqD:D→D→Bool
 | .v x,.v y=>beqV x y
 | .sl s xs,.sl t ys=>decide (s=t) && beqDss xs ys
 | _,_=>false
def beqDs:List D→List D→Bool
 | [],[]=>true
 | x::xs,y::ys=>beqD x y && beqDs xs ys
 | _,_=>false
def beqDss:List (List D)→List (List D)→Bool
 | [],[]=>true
 | x::xs,y::ys=>beqDs x y && beqDss xs ys
 | _,_=>false
end
mutual
theorem beqD_eq:∀ (x y:D),beqD x y=true→x=y
 | .v x,.v y,h=>by simp only[beqD] at h; rw[beqV_eq h]
 | .sl s xs, .sl t ys, h => by
   simp only[beqD,Bool.and_eq_true,decide_eq_true_eq] at h
   rw[h.1,beqDss_eq xs ys h.2]
 | .v _,.sl _ _,h=>by simp[beqD] at h
 | .sl _ _,.v _,h=>by simp[beqD] at h
theorem beqDs_eq:∀ (x y:List D),beqDs x y=true→x=y
 | [],[],_=>rfl
 | x :: xs, y :: ys, h => by
   simp only[beqDs,Bool.and_eq_true] at h
   rw[beqD_eq x y h.1,beqDs_eq xs ys h.2]
 | [],_::_,h=>by simp[beqDs] at h
 | _::_,[],h=>by simp[beqDs] at h
theorem beqDss_eq:∀ (x y:List (List D)),beqDss x y=true→x=y
 | [],[],_=>rfl
 | x :: xs, y :: ys, h => by
   simp only[beqDss,Bool.and_eq_true] at h
   rw[beqDs_eq x y h.1,beqDss_eq xs ys h.2]
 | [],_::_,h=>by simp[beqDss] at h
 | _::_,[],h=>by simp[beqDss] at h
end
mutual
def beqA:AV→AV→Bool
 | .any,.any=>true
 | .d x,.d y=>beqD x y
 | .own a b c d,.own a' b' c' d'=>decide (a=a') && decide (b=b') && decide (c=c') && decide (d=d')
 | .ptr a b c d,.ptr a' b' c' d'=>decide (a=a') && decide (b=b') && decide (c=c') && decide (d=d')
 | .ip x,.ip y=>beqDs x y
 | .agg x,.agg y=>beqAs x y
 | .tup x,.tup y=>beqAs x y
 | .fn f x y,.fn f' x' y'=>decide (f=f') && beqAs x x' && beqAs y y'
 | .mp a b,.mp a' b'=>decide (a=a') && decide (b=b')
 | .ifc t c,.ifc t' c'=>decide (t=t') && beqA c c'
 | _,_=>false
def beqAs:List AV→List AV→Bool
 | [],[]=>true
 | x::xs,y::ys=>beqA x y && beqAs xs ys
 | _,_=>false
end
mutual
theorem beqA_eq:∀ (x y:AV),beqA x y=true→x=y
 | x, y, h => by
   unfold beqA at h
   split at h
   ·rfl
   ·rw[beqD_eq _ _ h]
   ·simp only[Bool.and_eq_true,decide_eq_true_eq] at h; obtain⟨⟨⟨rfl,rfl⟩,rfl⟩,rfl⟩:=h; rfl
   ·simp only[Bool.and_eq_true,decide_eq_true_eq] at h; obtain⟨⟨⟨rfl,rfl⟩,rfl⟩,rfl⟩:=h; rfl
   ·rw[beqDs_eq _ _ h]
   ·rw[beqAs_eq _ _ h]
   ·rw[beqAs_eq _ _ h]
   ·simp only[Bool.and_eq_true,decide_eq_true_eq] at h
    rw[h.1.1,beqAs_eq _ _ h.1.2,beqAs_eq _ _ h.2]
   ·simp only[Bool.and_eq_true,decide_eq_true_eq] at h; obtain⟨rfl,rfl⟩:=h; rfl
   ·simp only[Bool.and_eq_true,decide_eq_true_eq] at h
    rw[h.1,beqA_eq _ _ h.2]
   ·cases h
theorem beqAs_eq:∀ (x y:List AV),beqAs x y=true→x=y
 | [],[],_=>rfl
 | x :: xs, y :: ys, h => by
   simp only[beqAs,Bool.and_eq_true] at h
   rw[beqA_eq x y h.1,beqAs_eq xs ys h.2]
 | [],_::_,h=>by simp[beqAs] at h
 | _::_,[],h=>by simp[beqAs] at h
end
def beqAss:List (List AV)→List (List AV)→Bool
 | [],[]=>true
 | x::xs,y::ys=>beqAs x y && beqAss xs ys
 | _,_=>false
theorem beqAss_eq:∀ (x y:List (List AV)),beqAss x y=true→x=y
 | [],[],_=>rfl
 | x :: xs, y :: ys, h => by
   simp only[beqAss,Bool.and_eq_true] at h
   rw[beqAs_eq x y h.1,beqAss_eq xs ys h.2]
 | [],_::_,h=>by simp[beqAss] at h
 | _::_,[],h=>by simp[beqAss] at h
def beqB (k k':Blk):Bool:=decide (k.ver=k'.ver) && decide (k.wr=k'.wr) && decide (k.ty=k'.ty) && decide (k.sz=k'.sz) && beqAss k.els k'.els
theorem beqB_eq {k k':Blk} (h:beqB k k'=true):k=k':=by
 simp only[beqB,Bool.and_eq_true,decide_eq_true_eq] at h
 obtain⟨v,wr,t,s,l⟩:=k
 obtain⟨v',wr',t',s',l'⟩:=k'
 obtain⟨⟨⟨⟨h1,h2⟩,h3⟩,h4⟩,h5⟩:=h
 simp only at h1 h2 h3 h4 h5
 rw[h1,h2,h3,h4,beqAss_eq _ _ h5]
def beqH:AHeap→AHeap→Bool
 | [],[]=>true
 | x::xs,y::ys=>beqB x y && beqH xs ys
 | _,_=>false
theorem beqH_eq:∀ (x y:AHeap),beqH x y=true→x=y
 | [],[],_=>rfl
 | x :: xs, y :: ys, h => by
   simp only[beqH,Bool.and_eq_true] at h
   rw[beqB_eq h.1,beqH_eq xs ys h.2]
 | [],_::_,h=>by simp[beqH] at h
 | _::_,[],h=>by simp[beqH] at h
end Go.Proofs.YtfnbhkbfelllgaaGreatDoor
