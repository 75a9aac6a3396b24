import Derived.Test.YtfnbhkbfelllgaaGreatDoorAl
import Derived.IntWalk
set_option linter.all false
namespace Go.Proofs.YtfnbhkbfelllgaaGreatDoor
open Go.RowKit
def aFin (r:Option (List AV)) (R:AV→AHeap→Prop) (A:AHeap):Prop:=∃ l,r=some l∧R (atup l) A
@[congr] theorem aSet_congr {r r':Option AV} {e e':AEnv} {d:Option Nat} {K:AKont} {A A':AHeap} (hr:r=r') (he:e=e') (hA:A=A'):aSet r e d K A=aSet r' e' d K A':=by rw[hr,he,hA]
@[congr] theorem aSto_congr {r r':Option AHeap} {e e':AEnv} {d:Option Nat} {K:AKont} (hr:r=r') (he:e=e'):aSto r e d K=aSto r' e' d K:=by rw[hr,he]
@[congr] theorem aNew_congr {r r':Option (AV×Blk)} {e e':AEnv} {d:Option Nat} {K:AKont} {A A':AHeap} (hr:r=r') (he:e=e') (hA:A=A'):aNew r e d K A=aNew r' e' d K A':=by rw[hr,he,hA]
@[congr] theorem aApp_congr {r r':Option (AV×AHeap×Nat)} {b:Nat} {e e':AEnv} {d:Option Nat} {K:AKont} (hr:r=r') (he:e=e'):aApp r b e d K=aApp r' b e' d K:=by rw[hr,he]
@[congr] theorem aCall_congr {P:Program} {f f':AV} {args args':List AV} {A A':AHeap} {d:Option Nat} {e e':AEnv} {K:AKont} (hf:f=f') (ha:args=args') (hA:A=A') (he:e=e'):aCall P f args A d e K=aCall P f' args' A' d e' K:=by rw[hf,ha,hA,he]
@[congr] theorem aRaw_congr {P:Program} {n:Nat} {o:Oper} {K:AKont} {e e':AEnv} {A A':AHeap} (he:e=e') (hA:A=A'):aRaw P n o e A K=aRaw P n o e' A' K:=by rw[he,hA]
@[congr] theorem aG_congr {g g':Option (Option Bool)} {want:Bool} {K1 K2:AKont} {e e':AEnv} {d:Option Nat} {A A':AHeap} (hr:g=g') (he:e=e') (hA:A=A'):aG g want K1 K2 e d A=aG g' want K1 K2 e' d A':=by rw[hr,he,hA]
@[congr] theorem aCond_congr {v v':AV} {K1 K2:AKont} {e e':AEnv} {A A':AHeap} (hr:v=v') (he:e=e') (hA:A=A'):aCond v K1 K2 e A=aCond v' K1 K2 e' A':=by rw[hr,he,hA]
@[congr] theorem avop_congr {P:Program} {n:Nat} {o:Oper} {K:AKont} {e e':AEnv} {A A':AHeap} (he:e=e') (hA:A=A'):avop P n o K e A=avop P n o K e' A':=by rw[he,hA]
@[congr] theorem avops_congr {P:Program} {n:Nat} {ops:Array Oper} {l:List Oper} {K:AKont} {e e':AEnv} {A A':AHeap} (he:e=e') (hA:A=A'):avops P n ops l K e A=avops P n ops l K e' A':=by rw[he,hA]
@[congr] theorem avc_congr {P:Program} {n:Nat} {c:Code} {bs:List (Nat×AKont)} {r k:AKont} {e e':AEnv} {A A':AHeap} (he:e=e') (hA:A=A'):avc P n c bs r k e A=avc P n c bs r k e' A':=by rw[he,hA]
@[congr] theorem aDraw_congr {P:Program} {n id:Nat} {ops:Array Oper} {k:AKont} {e e':AEnv} {A A':AHeap} (he:e=e') (hA:A=A'):aDraw P n id ops k e A=aDraw P n id ops k e' A':=by rw[he,hA]
@[congr] theorem aLoop_congr {n:Nat} {b:AKont→AKont} {e e':AEnv} {A A':AHeap} (he:e=e') (hA:A=A'):aLoop n b e A=aLoop n b e' A':=by rw[he,hA]
@[congr] theorem aexitK_congr {bs:List (Nat×AKont)} {j:Nat} {e e':AEnv} {A A':AHeap} (he:e=e') (hA:A=A'):aexitK bs j e A=aexitK bs j e' A':=by rw[he,hA]
@[congr] theorem aRet_congr {P:Program} {rs:List ResultVar} {R:AV→AHeap→Prop} {e e':AEnv} {A A':AHeap} (he:e=e') (hA:A=A'):aRet P rs R e A=aRet P rs R e' A':=by rw[he,hA]
@[congr] theorem aFin_congr {r r':Option (List AV)} {R:AV→AHeap→Prop} {A A':AHeap} (hr:r=r') (hA:A=A'):aFin r R A=aFin r' R A':=by rw[hr,hA]
attribute [simp] mpArg allV aggV eqC eqFs eqIs eqV ofV eva av1 okOne ptA lenA idA bdA cellsA putA layA bldA reptA blsA apv alv astv setEls chunk newA rowsB aresOf aresAll atup elsOf appA omap reiD rei0 rei1 reiV scal clo clo.cloL
attribute [simp] cln cln.clnL clnB
attribute [simp] binS bin un lenV Value.cells
def andI (k:IntKind) (a b:Int):Int:=k.wrap (BitVec.ofInt k.bits a &&& BitVec.ofInt k.bits b).toNat
def orI (k:IntKind) (a b:Int):Int:=k.wrap (BitVec.ofInt k.bits a ||| BitVec.ofInt k.bits b).toNat
def xorI (k:IntKind) (a b:Int):Int:=k.wrap (BitVec.ofInt k.bits a ^^^ BitVec.ofInt k.bits b).toNat
def andNotI (k:IntKind) (a b:Int):Int:=k.wrap (BitVec.ofInt k.bits a &&& ~~~ BitVec.ofInt k.bits b).toNat
def shlI (k:IntKind) (a b:Int):Int:=k.wrap (a * 2 ^ (min b.toNat k.bits))
def shrI (k:IntKind) (a b:Int):Int:=a.fdiv (2 ^ (min b.toNat k.bits))
section
variable (k:IntKind) (a b:Int)
@[simp] theorem binI_add:binI .add k a b=some (.int k (k.wrap (a + b))):=rfl
@[simp] theorem binI_sub:binI .sub k a b=some (.int k (k.wrap (a - b))):=rfl
@[simp] theorem binI_mul:binI .mul k a b=some (.int k (k.wrap (a * b))):=rfl
@[simp] theorem binI_quo:binI .quo k a b=if b=0 then none else some (.int k (k.wrap (a.tdiv b))):=rfl
@[simp] theorem binI_rem:binI .rem k a b=if b=0 then none else some (.int k (a.tmod b)):=rfl
@[simp] theorem binI_and:binI .and k a b=some (.int k (andI k a b)):=rfl
@[simp] theorem binI_or:binI .or k a b=some (.int k (orI k a b)):=rfl
@[simp] theorem binI_xor:binI .xor k a b=some (.int k (xorI k a b)):=rfl
@[simp] theorem binI_andNot:binI .andNot k a b=some (.int k (andNotI k a b)):=rfl
@[simp] theorem binI_eql:binI .eql k a b=some (.bool (decide (a=b))):=rfl
@[simp] theorem binI_neq:binI .neq k a b=some (.bool (!decide (a=b))):=rfl
@[simp] theorem binI_lss:binI .lss k a b=some (.bool (decide (a < b))):=rfl
@[simp] theorem binI_leq:binI .leq k a b=some (.bool (decide (a≤b))):=rfl
@[simp] theorem binI_gtr:binI .gtr k a b=some (.bool (decide (a > b))):=rfl
@[simp] theorem binI_geq:binI .geq k a b=some (.bool (decide (a ≥ b))):=rfl
@[simp] theorem shf_shl (h : 0 ≤ b) : shf .shl k a b = some (.int k (shlI k a b)) := by
  unfold shf
  rw[if_neg (by omega)]
  rfl
@[simp] theorem shf_shr (h : 0 ≤ b) : shf .shr k a b = some (.int k (shrI k a b)) := by
  unfold shf
  rw[if_neg (by omega)]
  rfl
@[simp] theorem andI_nonneg : 0 ≤ andI .u32 a b := by
  unfold andI
  have h:∀ n:Int,IntKind.u32.wrap n=n % (2 ^ 32:Int):=fun n=>by simp[IntKind.wrap,IntKind.signed,IntKind.bits]
  rw[h]
  exact Int.emod_nonneg _ (by decide)
end
section
variable (P:Program) (n:Nat) (t u:TypeId) (a x y:Operand) (d:Option Nat) (ty:TypeId) (pos:String) (af:Array Edge) (gd:Option (Nat×Bool)) (K:AKont) (e:AEnv) (A:AHeap)
@[simp] theorem avop_load:avop P n ⟨d,.load t a,ty,pos,af,gd⟩ K e A↔aSet (alv P A t (eva e a)) e d K A:=Iff.rfl
@[simp] theorem avop_store:avop P n ⟨d,.store t a x,ty,pos,af,gd⟩ K e A↔aSto (astv P A t (eva e a) (eva e x)) e d K:=Iff.rfl
@[simp] theorem avop_alloc:avop P n ⟨d,.alloc t,ty,pos,af,gd⟩ K e A↔aNew (newA P A.length e (.alloc t)) e d K A:=Iff.rfl
@[simp] theorem avop_box:avop P n ⟨d,.box t x,ty,pos,af,gd⟩ K e A↔aNew (newA P A.length e (.box t x)) e d K A:=Iff.rfl
@[simp] theorem avop_buildSlice (m:Nat) (ps:Array (Nat×Operand)):avop P n ⟨d,.buildSlice t m ps,ty,pos,af,gd⟩ K e A↔aNew (newA P A.length e (.buildSlice t m ps)) e d K A:=Iff.rfl
@[simp] theorem avop_build (ps:Array (Nat×Operand)):avop P n ⟨d,.build t ps,ty,pos,af,gd⟩ K e A↔aSet (apv P A e (.build t ps)) e d K A:=Iff.rfl
@[simp] theorem avop_move:avop P n ⟨d,.move x,ty,pos,af,gd⟩ K e A↔aSet (apv P A e (.move x)) e d K A:=Iff.rfl
@[simp] theorem avop_assign:avop P n ⟨d,.assign x,ty,pos,af,gd⟩ K e A↔aSet (apv P A e (.assign x)) e d K A:=Iff.rfl
@[simp] theorem avop_pick:avop P n ⟨d,.pick x y a,ty,pos,af,gd⟩ K e A↔aSet (apv P A e (.pick x y a)) e d K A:=Iff.rfl
@[simp] theorem avop_nilCheck:avop P n ⟨d,.nilCheck x,ty,pos,af,gd⟩ K e A↔aSet (apv P A e (.nilCheck x)) e d K A:=Iff.rfl
@[simp] theorem avop_binOp (op:BinOp):avop P n ⟨d,.binOp op t x y u,ty,pos,af,gd⟩ K e A↔aBin P t op (eva e x) (eva e y) (apv P A e (.binOp op t x y u)) e d K A:=Iff.rfl
@[simp] theorem avop_unOp (op:UnOp):avop P n ⟨d,.unOp op t x,ty,pos,af,gd⟩ K e A↔aSet (apv P A e (.unOp op t x)) e d K A:=Iff.rfl
@[simp] theorem avop_makeFunc (fn:Fn) (p q:Array Operand):avop P n ⟨d,.makeFunc fn p q,ty,pos,af,gd⟩ K e A↔aSet (apv P A e (.makeFunc fn p q)) e d K A:=Iff.rfl
@[simp] theorem avop_fieldAddr (f:Nat):avop P n ⟨d,.fieldAddr t x f,ty,pos,af,gd⟩ K e A↔aSet (apv P A e (.fieldAddr t x f)) e d K A:=Iff.rfl
@[simp] theorem avop_field (f:Nat):avop P n ⟨d,.field t x f,ty,pos,af,gd⟩ K e A↔aSet (apv P A e (.field t x f)) e d K A:=Iff.rfl
@[simp] theorem avop_indexAddr:avop P n ⟨d,.indexAddr t x y,ty,pos,af,gd⟩ K e A↔aSet (apv P A e (.indexAddr t x y)) e d K A:=Iff.rfl
@[simp] theorem avop_index:avop P n ⟨d,.index t x y,ty,pos,af,gd⟩ K e A↔aSet (apv P A e (.index t x y)) e d K A:=Iff.rfl
@[simp] theorem avop_extract (i:Nat):avop P n ⟨d,.extract x i,ty,pos,af,gd⟩ K e A↔aSet (apv P A e (.extract x i)) e d K A:=Iff.rfl
@[simp] theorem avop_slice (p q r:Option Operand):avop P n ⟨d,.slice t x p q r,ty,pos,af,gd⟩ K e A↔aSet (apv P A e (.slice t x p q r)) e d K A:=Iff.rfl
@[simp] theorem avop_call (args:Array Operand) (ats:Array TypeId):avop P n ⟨d,.call ⟨.value x,args,ats⟩,ty,pos,af,gd⟩ K e A↔aCall P (eva e x) (args.toList.map (eva e)) A d e K:=Iff.rfl
@[simp] theorem avop_len (args:Array Operand) (ats:Array TypeId):avop P n ⟨d,.call ⟨.builtin .len,args,ats⟩,ty,pos,af,gd⟩ K e A↔aSet (apv P A e (.call ⟨.builtin .len,args,ats⟩)) e d K A∨(mpArg e ⟨.builtin .len,args,ats⟩=true∧aRaw P n ⟨d,.call ⟨.builtin .len,args,ats⟩,ty,pos,af,gd⟩ e A K):=Iff.rfl
@[simp] theorem avop_append (args:Array Operand) (ats:Array TypeId):avop P n ⟨d,.call ⟨.builtin .append,args,ats⟩,ty,pos,af,gd⟩ K e A↔aRaw P n ⟨d,.call ⟨.builtin .append,args,ats⟩,ty,pos,af,gd⟩ e A K:=Iff.rfl
@[simp] theorem avop_convert:avop P n ⟨d,.convert t u x,ty,pos,af,gd⟩ K e A↔match eva e x with
 | .d (.v (.int _ _))=>aSet (apv P A e (.convert t u x)) e d K A
 | .d (.v (.string _))=>aRaw P n ⟨d,.convert t u x,ty,pos,af,gd⟩ e A K
 | .d (.sl _ _)=>aRaw P n ⟨d,.convert t u x,ty,pos,af,gd⟩ e A K
 | .own _ _ _ _=>aRaw P n ⟨d,.convert t u x,ty,pos,af,gd⟩ e A K
 | _=>False:=Iff.rfl
variable (ops:Array Oper) (op:Op) (os:List Oper)
@[simp] theorem avops_nil:avops P n ops [] K e A↔K e A:=Iff.rfl
@[simp] theorem avops_none:avops P n ops (⟨d,op,ty,pos,af,none⟩::os) K e A↔avop P n ⟨d,op,ty,pos,af,none⟩ (avops P n ops os K) e A:=Iff.rfl
@[simp] theorem avops_some (j:Nat) (want:Bool):avops P n ops (⟨d,op,ty,pos,af,some (j,want)⟩::os) K e A ↔
 aG (agval e ((ops[j]?).bind (·.dst))) want (avop P n ⟨d,op,ty,pos,af,some (j,want)⟩ (avops P n ops os K)) (avops P n ops os K) e d A:=Iff.rfl
variable (bs:List (Nat×AKont)) (r k:AKont) (c c':Code) (id:Nat)
@[simp] theorem avc_skip:avc P n .skip bs r k e A↔k e A:=Iff.rfl
@[simp] theorem avc_region (l:List Oper):avc P n (.region id l.toArray false) bs r k e A↔avops P n l.toArray l k e A:=Iff.rfl
@[simp] theorem avc_draw:avc P n (.region id ops true) bs r k e A↔aDraw P n id ops k e A:=Iff.rfl
@[simp] theorem avc_seq:avc P n (.seq c c') bs r k e A↔avc P n c bs r (avc P n c' bs r k) e A:=Iff.rfl
@[simp] theorem avc_cond:avc P n (.cond x c c') bs r k e A↔aCond (eva e x) (avc P n c bs r k) (avc P n c' bs r k) e A:=Iff.rfl
@[simp] theorem avc_block:avc P n (.block id c) bs r k e A↔avc P n c ((id,k)::bs) r k e A:=Iff.rfl
@[simp] theorem avc_exit:avc P n (.exit id) bs r k e A↔aexitK bs id e A:=Iff.rfl
@[simp] theorem avc_loop:avc P n (.loop c) bs r k e A↔aLoop n (avc P n c bs r) e A:=Iff.rfl
@[simp] theorem avc_ret:avc P n .ret bs r k e A↔r e A:=Iff.rfl
@[simp] theorem avc_scope:avc P n (.scope c) bs r k e A↔avc P n c bs r k e A:=Iff.rfl
@[simp] theorem avc_label (l:Nat):avc P n (.label l) bs r k e A↔k e A:=Iff.rfl
@[simp] theorem aRet_iff (rs:List ResultVar) (R:AV→AHeap→Prop):aRet P rs R e A↔aFin (aresAll P e A rs) R A:=Iff.rfl
@[simp] theorem aexitK_cons (i:Nat) (j:Nat):aexitK ((i,k)::bs) j e A=if i=j then k e A else aexitK bs j e A:=by simp only[aexitK]; split<;>rfl
end
@[simp] theorem aFin_some (l:List AV) (R:AV→AHeap→Prop) (A:AHeap):aFin (some l) R A↔R (atup l) A:=by simp[aFin]
@[simp] theorem res_iff (r r':AV) (A:AHeap):Res r r' A↔resO (reiV false A 9 r') r:=Iff.rfl
@[simp] theorem resO_some (r0 r:AV):resO (some r0) r↔NLe r0 r:=Iff.rfl
@[simp] theorem argO_some (a0 a:List AV):argO (some a0) a↔NLeL a0 a:=Iff.rfl
@[simp] theorem NLe_refl (x:AV):NLe x x↔True:=iff_true_intro (NLe.refl x)
@[simp] theorem NLeL_refl (x:List AV):NLeL x x↔True:=iff_true_intro (NLeL.refl x)
@[simp] theorem NLeD_refl (x:D):NLeD x x↔True:=iff_true_intro (NLeD.refl x)
@[simp] theorem NLeE_refl (x:List D):NLeE x x↔True:=iff_true_intro (NLeE.refl x)
@[simp] theorem NLeS_refl (x:List (List D)):NLeS x x↔True:=iff_true_intro (NLeS.refl x)
@[simp] theorem NLe_d (x y:D):NLe (.d x) (.d y)↔NLeD x y:=⟨fun⟨_,h,k⟩=>by cases h; exact k,fun h=>⟨_,rfl,h⟩⟩
@[simp] theorem NLe_agg (x y:List AV):NLe (.agg x) (.agg y)↔NLeL x y:=⟨fun⟨_,h,k⟩=>by cases h; exact k,fun h=>⟨_,rfl,h⟩⟩
@[simp] theorem NLe_tup (x y:List AV):NLe (.tup x) (.tup y)↔NLeL x y:=⟨fun⟨_,h,k⟩=>by cases h; exact k,fun h=>⟨_,rfl,h⟩⟩
@[simp] theorem NLe_fn (f g:Nat) (x y a b:List AV):NLe (.fn f x a) (.fn g y b)↔f=g∧NLeL x y∧NLeL a b:=⟨fun⟨_,_,h,k⟩=>by cases h; exact⟨rfl,k⟩,fun⟨h,k⟩=>by subst h; exact⟨_,_,rfl,k⟩⟩
@[simp] theorem NLeL_nil:NLeL [] []↔True:=by simp
@[simp] theorem NLeL_cons (x y:AV) (xs ys:List AV):NLeL (x::xs) (y::ys)↔NLe x y∧NLeL xs ys:=⟨fun⟨_,_,h,k⟩=>by cases h; exact k,fun h=>⟨_,_,rfl,h⟩⟩
@[simp] theorem NLeE_cons (x y:D) (xs ys:List D):NLeE (x::xs) (y::ys)↔NLeD x y∧NLeE xs ys:=⟨fun⟨_,_,h,k⟩=>by cases h; exact k,fun h=>⟨_,_,rfl,h⟩⟩
@[simp] theorem NLeS_cons (x y:List D) (xs ys:List (List D)):NLeS (x::xs) (y::ys)↔NLeE x y∧NLeS xs ys:=⟨fun⟨_,_,h,k⟩=>by cases h; exact k,fun h=>⟨_,_,rfl,h⟩⟩
@[simp] theorem NLeD_v (x y:Value):NLeD (.v x) (.v y)↔x=y:=Iff.rfl
@[simp] theorem NLeD_nil (n c s:Nat) (ys:List (List D)):NLeD (.v (.slice none n c)) (.sl s ys)↔(n=0∧c=0)∧ys=[]:=by simp[NLeD]
@[simp] theorem NLeD_sl (s t:Nat) (xs ys:List (List D)):NLeD (.sl s xs) (.sl t ys)↔s=t∧NLeS xs ys:=Iff.rfl
@[simp] theorem aFin_none (R:AV→AHeap→Prop) (A:AHeap):aFin none R A↔False:=by simp[aFin]
@[congr] theorem aBin_congr {P:Program} {t:TypeId} {op:BinOp} {x x' y y':AV} {r r':Option AV} {e e':AEnv} {d:Option Nat} {K:AKont} {A A':AHeap} (hx:x=x') (hy:y=y') (hr:r=r') (he:e=e') (hA:A=A'):aBin P t op x y r e d K A=aBin P t op x' y' r' e' d K A':=by rw[hx,hy,hr,he,hA]
@[simp] theorem aBin_some {P : Program} {t : TypeId} {op : BinOp} {a b : Value} {r : AV} {e : AEnv} {d : Option Nat} {K : AKont} {A : AHeap} : aBin P t op (.d (.v a)) (.d (.v b)) (some r) e d K A ↔ K (aupd e d r) A := by
  unfold aBin
  split<;>simp_all [aSet]
@[simp] theorem aBin_nil {P:Program} {t:TypeId} {sz:Nat} {xs:List (List D)} {n c:Nat} {r:Option AV} {e:AEnv} {d:Option Nat} {K:AKont} {A:AHeap} :
 aBin P t .eql (.d (.sl sz xs)) (.d (.v (.slice none n c))) r e d K A↔(sl P t).isSome=true∧∀ b:Bool,(b=true→xs=[])→K (aupd e d (.d (.v (.bool b)))) A:=Iff.rfl
@[simp] theorem aBin_nnil {P:Program} {t:TypeId} {sz:Nat} {xs:List (List D)} {n c:Nat} {r:Option AV} {e:AEnv} {d:Option Nat} {K:AKont} {A:AHeap} :
 aBin P t .neq (.d (.sl sz xs)) (.d (.v (.slice none n c))) r e d K A↔(sl P t).isSome=true∧∀ b:Bool,(b=false→xs=[])→K (aupd e d (.d (.v (.bool b)))) A:=Iff.rfl
@[simp] theorem aenv0_get (l:List AV) (i:Nat):aenv0 l i=l.getD i .any:=rfl
@[simp] theorem aupd_get (e:AEnv) (d:Nat) (v:AV) (i:Nat):aupd e (some d) v i=if i=d then v else e i:=rfl
@[simp] theorem aupd_none (e:AEnv) (v:AV):aupd e none v=e:=rfl
@[simp] theorem aSet_some (v:AV) (e:AEnv) (d:Option Nat) (K:AKont) (A:AHeap):aSet (some v) e d K A↔K (aupd e d v) A:=by simp[aSet]
@[simp] theorem aSto_some (A:AHeap) (e:AEnv) (d:Option Nat) (K:AKont):aSto (some A) e d K↔K (aupd e d .any) A:=by simp[aSto]
@[simp] theorem aNew_some (v:AV) (k:Blk) (e:AEnv) (d:Option Nat) (K:AKont) (A:AHeap):aNew (some (v,k)) e d K A↔K (aupd e d v) (A++[k]):=⟨fun⟨_,_,h,hk⟩=>by simp only[Option.some.injEq,Prod.mk.injEq] at h; obtain⟨rfl,rfl⟩:=h; exact hk,fun h=>⟨v,k,rfl,h⟩⟩
@[simp] theorem aApp_some (v : AV) (A : AHeap) (m b : Nat) (e : AEnv) (d : Option Nat) (K : AKont) : aApp (some (v, A, m)) b e d K ↔ m ≤ maxLen ∧ m * b ≤ 140737488355328 ∧ K (aupd e d v) A := by
  constructor
  ·rintro⟨v',A',m',h,h1,h2,h3⟩
   simp only[Option.some.injEq,Prod.mk.injEq] at h
   obtain⟨rfl,rfl,rfl⟩:=h
   exact⟨h1,h2,h3⟩
  ·exact fun⟨h1,h2,h3⟩=>⟨v,A,m,rfl,h1,h2,h3⟩
@[simp] theorem aCond_tt (K1 K2:AKont) (e:AEnv) (A:AHeap):aCond (.d (.v (.bool true))) K1 K2 e A↔K1 e A:=by simp[aCond]
@[simp] theorem aCond_ff (K1 K2:AKont) (e:AEnv) (A:AHeap):aCond (.d (.v (.bool false))) K1 K2 e A↔K2 e A:=by simp[aCond]
theorem aCond_split {b:Bool} {K1 K2:AKont} {e:AEnv} {A:AHeap} (h1:b=true→K1 e A) (h2:b=false→K2 e A):aCond (.d (.v (.bool b))) K1 K2 e A:=⟨b,rfl,by cases b<;>simp_all⟩
@[simp] theorem agval_some (e:AEnv) (d:Nat):agval e (some d)=(match e d with | .d (.v (.bool b))=>some (some b) | .tup _=>some none | _=>none):=rfl
@[simp] theorem aG_none (want:Bool) (K1 K2:AKont) (e:AEnv) (d:Option Nat) (A:AHeap):aG (some none) want K1 K2 e d A↔K2 (aupd e d (.tup [])) A:=by simp[aG]
@[simp] theorem aG_tt (K1 K2:AKont) (e:AEnv) (d:Option Nat) (A:AHeap):aG (some (some true)) true K1 K2 e d A↔K1 e A:=by simp[aG]
@[simp] theorem aG_ft (K1 K2:AKont) (e:AEnv) (d:Option Nat) (A:AHeap):aG (some (some false)) true K1 K2 e d A↔K2 (aupd e d (.tup [])) A:=by simp[aG]
@[simp] theorem aG_tf (K1 K2:AKont) (e:AEnv) (d:Option Nat) (A:AHeap):aG (some (some true)) false K1 K2 e d A↔K2 (aupd e d (.tup [])) A:=by simp[aG]
@[simp] theorem aG_ff (K1 K2:AKont) (e:AEnv) (d:Option Nat) (A:AHeap):aG (some (some false)) false K1 K2 e d A↔K1 e A:=by simp[aG]
theorem aG_split {b want:Bool} {K1 K2:AKont} {e:AEnv} {d:Option Nat} {A:AHeap} (h1:b=want→K1 e A) (h2:b = !want→K2 (aupd e d (.tup [])) A):aG (some (some b)) want K1 K2 e d A:=
 ⟨some b,rfl,by cases b<;>cases want<;>simp_all⟩
@[simp] theorem curB_eq (A:AHeap) (b ver:Nat):curB A b ver=match A[b]? with | some k=>if ver=k.ver∧k.ty < 1000000 then some k else none | none=>none:=rfl
@[simp] theorem dEls_nil:dEls []=[]:=rfl
@[simp] theorem dEls_cons (x:List D) (xs:List (List D)):dEls (x::xs)=x.map AV.d::dEls xs:=rfl
@[simp] theorem dEls_get (xs:List (List D)) (i:Nat):(dEls xs)[i]? = (xs[i]?).map fun x=>x.map AV.d:=by simp[dEls]
@[simp] theorem dEls_at (xs:List (List D)) (i:Nat) (h:i < (dEls xs).length):(dEls xs)[i]=(xs[i]'(by simpa [dEls] using h)).map AV.d:=by simp[dEls]
@[simp] theorem dEls_take (xs:List (List D)) (n:Nat):(dEls xs).take n=dEls (xs.take n):=by simp[dEls]
@[simp] theorem dEls_drop (xs:List (List D)) (n:Nat):(dEls xs).drop n=dEls (xs.drop n):=by simp[dEls]
theorem dEls_set (xs:List (List D)) (i:Nat) (x:List D):(dEls xs).set i (x.map AV.d)=dEls (xs.set i x):=by simp[dEls,List.map_set]
theorem set_same {α:Type} {l:List α} {i:Nat} {x:α} (h:l[i]? = some x):l.set i x=l:=by
 apply List.ext_getElem?
 intro j
 rw[List.getElem?_set]
 split
 ·rename_i hj; subst hj; rw[h]; split
  ·rfl
  ·have:=(gSI.1 h).1; omega
 ·rfl
@[simp] theorem dEls_app (xs ys:List (List D)):dEls (xs++ys)=dEls xs++dEls ys:=by simp[dEls]
@[simp] theorem dEls_len (xs:List (List D)):(dEls xs).length=xs.length:=by simp[dEls]
@[simp] theorem omap_d (fz : Bool) (A : AHeap) (f : Nat) : ∀ ds : List D, omap (reiD fz A f) (ds.map AV.d) = some ds
  | []=>rfl
  | d :: ds => by
    have:reiD fz A f (.d d)=some d:=by cases f<;>rfl
    simp[omap,this,omap_d fz A f ds]
@[simp] theorem omap_dEls (fz : Bool) (A : AHeap) (f : Nat) : ∀ xs : List (List D), omap (fun x => omap (reiD fz A f) x) (dEls xs) = some xs
  | []=>rfl
  | x::xs=>by simp[omap,omap_dEls fz A f xs]
section
variable {P:Program} {n:Nat} {K:AKont} {e:AEnv} {A:AHeap} {d:Option Nat}
theorem aCall_of {g:FuncId} {fs args cs args':List AV} {r:AV} (h:AF P g args' r) (hok:okF P g=true) (hr:argO (omap (reiV true A 9) (fs++args++cs)) args') (hk:K (aupd e d r) A):aCall P (.fn g fs cs) args A d e K:=
 ⟨g,fs,cs,rfl,hok,(h.ac hr).mono fun _ _ ⟨h1,h2⟩=>by rw[h1,h2]; exact hk⟩
theorem aCall_ofs {g:FuncId} {fs args cs args':List AV} {r:AV} (h:AF P g args' r) (hok:okF P g=true) (hr:argO (omap (reiV false A 9) (fs++args++cs)) args') (hs:scal r=true) (hk:K (aupd e d r) A):aCall P (.fn g fs cs) args A d e K:=
 ⟨g,fs,cs,rfl,hok,(h.acs hr hs).mono fun _ _ ⟨h1,h2⟩=>by rw[h1,h2]; exact hk⟩
theorem aCall_ofc {g:FuncId} {fs args cs:List AV} {R:AV→AHeap→Prop} (h:AC P g (fs++args++cs) A R) (hok:okF P g=true) (hk:∀ r A',R r A'→K (aupd e d r) A'):aCall P (.fn g fs cs) args A d e K:=
 ⟨g,fs,cs,rfl,hok,h.mono hk⟩
theorem aLoop_of {α:Type} {body:AKont→AKont} (J:α→AKont) (ν:α→Nat) (a:α) {e':AEnv} {A':AHeap} (hs:Sub n e A e' A') (h0:J a e' A')
 (h:∀ (a:α) (e:AEnv) (A:AHeap),J a e A→∀ K:AKont,(∀ (a':α) (e':AEnv) (A':AHeap) (e'':AEnv) (A'':AHeap),Sub n e' A' e'' A''→J a' e'' A''→ν a' < ν a→K e' A')→body K e A):aLoop n body e A:=
 ⟨fun m e A=>∃ a,ν a=m∧J a e A,⟨ν a,e',A',hs,a,rfl,h0⟩,fun m e A ⟨a,hm,hJ⟩=>h a e A hJ _ fun a' e' A' e'' A'' hs hJ' hlt=>⟨ν a',by omega,e'',A'',hs,a',rfl,hJ'⟩⟩
end
@[congr] theorem adSet_congr {r r':Option AV} {K1:ADS→Prop} {σ σ':ADS} {d:Option Nat} (hr:r=r') (he:σ=σ'):adSet r K1 σ d=adSet r' K1 σ' d:=by rw[hr,he]
@[congr] theorem adLoad_congr {n0:Nat} {p p':AV} {r r':Option AV} {i:Nat} {K1:ADS→Prop} {σ σ':ADS} {d:Option Nat} (hp:p=p') (hr:r=r') (he:σ=σ'):adLoad n0 p r i K1 σ d=adLoad n0 p' r' i K1 σ' d:=by rw[hp,hr,he]
@[congr] theorem adStore_congr {t:TypeId} {p p' v v':AV} {i:Nat} {K1:ADS→Prop} {σ σ':ADS} {d:Option Nat} (hp:p=p') (hv:v=v') (he:σ=σ'):adStore t p v i K1 σ d=adStore t p' v' i K1 σ' d:=by rw[hp,hv,he]
@[congr] theorem adNew_congr {r r':Option (AV×Blk)} {K1:ADS→Prop} {σ σ':ADS} {d:Option Nat} (hr:r=r') (he:σ=σ'):adNew r K1 σ d=adNew r' K1 σ' d:=by rw[hr,he]
@[congr] theorem adC_congr {P:Program} {Cr:AV→Prop} {f f':AV} {args args':List AV} {K1:ADS→Prop} {σ σ':ADS} {d:Option Nat} (hf:f=f') (ha:args=args') (he:σ=σ'):adC P Cr f args K1 σ d=adC P Cr f' args' K1 σ' d:=by rw[hf,ha,he]
@[congr] theorem adG_congr {g g':Option (Option Bool)} {want:Bool} {K1 K2:ADS→Prop} {σ σ':ADS} {d:Option Nat} (hg:g=g') (he:σ=σ'):adG g want K1 K2 σ d=adG g' want K1 K2 σ' d:=by rw[hg,he]
@[congr] theorem avd_congr {P:Program} {n0:Nat} {ops:List Oper} {late:List (Nat×Nat)} {Cr:Nat→AV→Prop} {K:AKont} {i:Nat} {l:List Oper} {σ σ':ADS} (he:σ=σ'):avd P n0 ops late Cr K i l σ=avd P n0 ops late Cr K i l σ':=by rw[he]
@[congr] theorem avdo_congr {P:Program} {n0:Nat} {Cr:Nat→AV→Prop} {i:Nat} {o:Oper} {K1:ADS→Prop} {σ σ':ADS} (he:σ=σ'):avdo P n0 Cr i o K1 σ=avdo P n0 Cr i o K1 σ':=by rw[he]
@[congr] theorem adEnd_congr {P:Program} {late:List (Nat×Nat)} {K:AKont} {σ σ':ADS} (he:σ=σ'):adEnd P late K σ=adEnd P late K σ':=by rw[he]
section
variable (P:Program) (n0:Nat) (ops:List Oper) (late:List (Nat×Nat)) (Cr:Nat→AV→Prop) (K:AKont) (i:Nat) (σ:ADS) (K1 K2:ADS→Prop) (t u:TypeId) (a x y:Operand) (d:Option Nat) (ty:TypeId) (pos:String) (af:Array Edge) (gd:Option (Nat×Bool)) (op:Op) (os:List Oper)
@[simp] theorem avd_nil:avd P n0 ops late Cr K i [] σ↔adEnd P late K σ:=Iff.rfl
@[simp] theorem avd_none:avd P n0 ops late Cr K i (⟨d,op,ty,pos,af,none⟩::os) σ↔avdo P n0 Cr i ⟨d,op,ty,pos,af,none⟩ (avd P n0 ops late Cr K (i + 1) os) σ:=Iff.rfl
@[simp] theorem avd_some (j:Nat) (want:Bool):avd P n0 ops late Cr K i (⟨d,op,ty,pos,af,some (j,want)⟩::os) σ ↔
 adG (agval σ.e ((ops[j]?).bind (·.dst))) want (avdo P n0 Cr i ⟨d,op,ty,pos,af,some (j,want)⟩ (avd P n0 ops late Cr K (i + 1) os)) (avd P n0 ops late Cr K (i + 1) os) σ d:=Iff.rfl
@[simp] theorem avdo_load:avdo P n0 Cr i ⟨d,.load t a,ty,pos,af,gd⟩ K1 σ↔adLoad n0 (eva σ.e a) (alv P σ.A t (eva σ.e a)) i K1 σ d:=Iff.rfl
@[simp] theorem avdo_store:avdo P n0 Cr i ⟨d,.store t a x,ty,pos,af,gd⟩ K1 σ↔adStore t (eva σ.e a) (eva σ.e x) i K1 σ d:=Iff.rfl
@[simp] theorem avdo_alloc:avdo P n0 Cr i ⟨d,.alloc t,ty,pos,af,gd⟩ K1 σ↔adNew (newA P σ.A.length σ.e (.alloc t)) K1 σ d:=Iff.rfl
@[simp] theorem avdo_box:avdo P n0 Cr i ⟨d,.box t x,ty,pos,af,gd⟩ K1 σ↔adNew (newA P σ.A.length σ.e (.box t x)) K1 σ d:=Iff.rfl
@[simp] theorem avdo_makeSlice:avdo P n0 Cr i ⟨d,.makeSlice t x y,ty,pos,af,gd⟩ K1 σ↔adNew (newA P σ.A.length σ.e (.makeSlice t x y)) K1 σ d:=Iff.rfl
@[simp] theorem avdo_buildSlice (m:Nat) (ps:Array (Nat×Operand)):avdo P n0 Cr i ⟨d,.buildSlice t m ps,ty,pos,af,gd⟩ K1 σ↔adNew (newA P σ.A.length σ.e (.buildSlice t m ps)) K1 σ d:=Iff.rfl
@[simp] theorem avdo_call (args:Array Operand) (ats:Array TypeId):avdo P n0 Cr i ⟨d,.call ⟨.value x,args,ats⟩,ty,pos,af,gd⟩ K1 σ↔adC P (Cr i) (eva σ.e x) (args.toList.map (eva σ.e)) K1 σ d:=Iff.rfl
@[simp] theorem avdo_len (args:Array Operand) (ats:Array TypeId):avdo P n0 Cr i ⟨d,.call ⟨.builtin .len,args,ats⟩,ty,pos,af,gd⟩ K1 σ↔adSet (apv P σ.A σ.e (.call ⟨.builtin .len,args,ats⟩)) K1 σ d:=Iff.rfl
@[simp] theorem avdo_min (args:Array Operand) (ats:Array TypeId):avdo P n0 Cr i ⟨d,.call ⟨.builtin .min,args,ats⟩,ty,pos,af,gd⟩ K1 σ↔adSet (apv P σ.A σ.e (.call ⟨.builtin .min,args,ats⟩)) K1 σ d:=Iff.rfl
@[simp] theorem avdo_move:avdo P n0 Cr i ⟨d,.move x,ty,pos,af,gd⟩ K1 σ↔adSet (apv P σ.A σ.e (.move x)) K1 σ d:=Iff.rfl
@[simp] theorem avdo_assign:avdo P n0 Cr i ⟨d,.assign x,ty,pos,af,gd⟩ K1 σ↔adSet (apv P σ.A σ.e (.assign x)) K1 σ d:=Iff.rfl
@[simp] theorem avdo_pick:avdo P n0 Cr i ⟨d,.pick x y a,ty,pos,af,gd⟩ K1 σ↔adSet (apv P σ.A σ.e (.pick x y a)) K1 σ d:=Iff.rfl
@[simp] theorem avdo_nilCheck:avdo P n0 Cr i ⟨d,.nilCheck x,ty,pos,af,gd⟩ K1 σ↔adSet (apv P σ.A σ.e (.nilCheck x)) K1 σ d:=Iff.rfl
@[simp] theorem avdo_binOp (bo:BinOp):avdo P n0 Cr i ⟨d,.binOp bo t x y u,ty,pos,af,gd⟩ K1 σ↔adSet (apv P σ.A σ.e (.binOp bo t x y u)) K1 σ d:=Iff.rfl
@[simp] theorem avdo_unOp (bo:UnOp):avdo P n0 Cr i ⟨d,.unOp bo t x,ty,pos,af,gd⟩ K1 σ↔adSet (apv P σ.A σ.e (.unOp bo t x)) K1 σ d:=Iff.rfl
@[simp] theorem avdo_makeFunc (fn:Fn) (p q:Array Operand):avdo P n0 Cr i ⟨d,.makeFunc fn p q,ty,pos,af,gd⟩ K1 σ↔adSet (apv P σ.A σ.e (.makeFunc fn p q)) K1 σ d:=Iff.rfl
@[simp] theorem avdo_fieldAddr (f:Nat):avdo P n0 Cr i ⟨d,.fieldAddr t x f,ty,pos,af,gd⟩ K1 σ↔adSet (apv P σ.A σ.e (.fieldAddr t x f)) K1 σ d:=Iff.rfl
@[simp] theorem avdo_field (f:Nat):avdo P n0 Cr i ⟨d,.field t x f,ty,pos,af,gd⟩ K1 σ↔adSet (apv P σ.A σ.e (.field t x f)) K1 σ d:=Iff.rfl
@[simp] theorem avdo_indexAddr:avdo P n0 Cr i ⟨d,.indexAddr t x y,ty,pos,af,gd⟩ K1 σ↔adSet (apv P σ.A σ.e (.indexAddr t x y)) K1 σ d:=Iff.rfl
@[simp] theorem avdo_index:avdo P n0 Cr i ⟨d,.index t x y,ty,pos,af,gd⟩ K1 σ↔adSet (apv P σ.A σ.e (.index t x y)) K1 σ d:=Iff.rfl
@[simp] theorem avdo_extract (j:Nat):avdo P n0 Cr i ⟨d,.extract x j,ty,pos,af,gd⟩ K1 σ↔adSet (apv P σ.A σ.e (.extract x j)) K1 σ d:=Iff.rfl
@[simp] theorem avdo_slice (p q r:Option Operand):avdo P n0 Cr i ⟨d,.slice t x p q r,ty,pos,af,gd⟩ K1 σ↔adSet (apv P σ.A σ.e (.slice t x p q r)) K1 σ d:=Iff.rfl
@[simp] theorem avdo_convert:avdo P n0 Cr i ⟨d,.convert t u x,ty,pos,af,gd⟩ K1 σ↔adSet (apv P σ.A σ.e (.convert t u x)) K1 σ d:=Iff.rfl
@[simp] theorem avdo_build (ps:Array (Nat×Operand)):avdo P n0 Cr i ⟨d,.build t ps,ty,pos,af,gd⟩ K1 σ↔adSet (apv P σ.A σ.e (.build t ps)) K1 σ d:=Iff.rfl
@[simp] theorem adSet_some (v:AV):adSet (some v) K1 σ d↔K1 ⟨aupd σ.e d v,σ.A,σ.lds,σ.sts,σ.st⟩:=by simp[adSet]
@[simp] theorem adLoad_ptr (b ver j o:Nat) (v:AV):adLoad n0 (.ptr b ver j o) (some v) i K1 σ d↔b < n0∧K1 ⟨aupd σ.e d v,σ.A,(i,b)::σ.lds,σ.sts,σ.st⟩:=by simp[adLoad]
@[simp] theorem adLoad_ip (cs:List D) (v:AV):adLoad n0 (.ip cs) (some v) i K1 σ d↔K1 ⟨aupd σ.e d v,σ.A,σ.lds,σ.sts,σ.st⟩:=by simp[adLoad]
@[simp] theorem adStore_ptr (b ver j o:Nat) (v:AV):adStore t (.ptr b ver j o) v i K1 σ d↔(∃ k,curB σ.A b ver=some k∧k.wr=true)∧K1 ⟨aupd σ.e d .any,σ.A,σ.lds,(i,b)::σ.sts,σ.st++[(t,.ptr b ver j o,v)]⟩:=Iff.rfl
@[simp] theorem adNew_some (v:AV) (k:Blk):adNew (some (v,k)) K1 σ d↔K1 ⟨aupd σ.e d v,σ.A++[k],σ.lds,σ.sts,σ.st⟩:=⟨fun⟨_,_,h,hk⟩=>by simp only[Option.some.injEq,Prod.mk.injEq] at h; obtain⟨rfl,rfl⟩:=h; exact hk,fun h=>⟨v,k,rfl,h⟩⟩
@[simp] theorem adG_none (want:Bool):adG (some none) want K1 K2 σ d↔K2 ⟨aupd σ.e d (.tup []),σ.A,σ.lds,σ.sts,σ.st⟩:=by simp[adG]
@[simp] theorem adG_tt:adG (some (some true)) true K1 K2 σ d↔K1 σ:=by simp[adG]
@[simp] theorem adG_ft:adG (some (some false)) true K1 K2 σ d↔K2 ⟨aupd σ.e d (.tup []),σ.A,σ.lds,σ.sts,σ.st⟩:=by simp[adG]
@[simp] theorem adG_tf:adG (some (some true)) false K1 K2 σ d↔K2 ⟨aupd σ.e d (.tup []),σ.A,σ.lds,σ.sts,σ.st⟩:=by simp[adG]
@[simp] theorem adG_ff:adG (some (some false)) false K1 K2 σ d↔K1 σ:=by simp[adG]
@[simp] theorem adEnd_iff:adEnd P late K σ↔lateOk late σ.lds σ.sts∧astAll P σ.st σ.A fun A=>K σ.e A:=Iff.rfl
@[simp] theorem astAll_nil (A:AHeap) (k:AHeap→Prop):astAll P [] A k↔k A:=Iff.rfl
@[simp] theorem lateOk_nil (lds sts:List (Nat×Nat)):lateOk [] lds sts↔True:=by simp[lateOk]
end
def astOne (r:Option AHeap) (k:AHeap→Prop):Prop:=∃ A,r=some A∧k A
@[congr] theorem astOne_congr {r r':Option AHeap} {k:AHeap→Prop} (hr:r=r'):astOne r k=astOne r' k:=by rw[hr]
@[simp] theorem astOne_some (A:AHeap) (k:AHeap→Prop):astOne (some A) k↔k A:=by simp[astOne]
@[simp] theorem astAll_cons (P:Program) (t:TypeId) (p v:AV) (l:List (TypeId×AV×AV)) (A:AHeap) (k:AHeap→Prop):astAll P ((t,p,v)::l) A k↔astOne (astv P A t p v) (fun A=>astAll P l A k):=Iff.rfl
@[congr] theorem astAll_congr {P:Program} {l l':List (TypeId×AV×AV)} {A A':AHeap} {k:AHeap→Prop} (hl:l=l') (hA:A=A'):astAll P l A k=astAll P l' A' k:=by rw[hl,hA]
theorem adG_split {b want:Bool} {K1 K2:ADS→Prop} {σ:ADS} {d:Option Nat} (h1:b=want→K1 σ) (h2:b = !want→K2 ⟨aupd σ.e d (.tup []),σ.A,σ.lds,σ.sts,σ.st⟩):adG (some (some b)) want K1 K2 σ d:=
 ⟨some b,rfl,by cases b<;>cases want<;>simp_all⟩
section
variable {P:Program} {Cr:AV→Prop} {K1:ADS→Prop} {σ:ADS} {d:Option Nat}
theorem adC_of {g:FuncId} {fs args cs args':List AV} {r:AV} (h:AF P g args' r) (hok:okF P g=true) (hc:Cr r) (hr:clo r=true) (ha:clo.cloL (fs++args++cs)=true∧NLeL (fs++args++cs) args') (hk:K1 ⟨aupd σ.e d r,σ.A,σ.lds,σ.sts,σ.st⟩):adC P Cr (.fn g fs cs) args K1 σ d:=
 ⟨g,fs,cs,r,_,rfl,hok,hc,hr,.inl ha,h,hk⟩
theorem adC_ofs {g:FuncId} {fs args cs args':List AV} {r:AV} (h:AF P g args' r) (hok:okF P g=true) (hc:Cr r) (hr:clo r=true) (ha:argO (omap (reiV false σ.A 9) (fs++args++cs)) args') (hs:scal r=true) (hk:K1 ⟨aupd σ.e d r,σ.A,σ.lds,σ.sts,σ.st⟩):adC P Cr (.fn g fs cs) args K1 σ d:=
 ⟨g,fs,cs,r,args',rfl,hok,hc,hr,.inr ⟨ha,hs⟩,h,hk⟩
end
theorem i64w {n:Int} (h : -9223372036854775808≤n∧n≤9223372036854775807):IntKind.i64.wrap n=n:=Go.IntWalk.i64_in n h
theorem u32w {n:Int} (h:0≤n∧n≤4294967295):IntKind.u32.wrap n=n:=by
 simp[IntKind.wrap,IntKind.signed,IntKind.bits]
 omega
theorem u8w {n:Int} (h:0≤n∧n≤255):IntKind.u8.wrap n=n:=by
 simp[IntKind.wrap,IntKind.signed,IntKind.bits]
 omega
@[simp] theorem i64w_lit (n : Nat) (h : n ≤ 9223372036854775807) : IntKind.i64.wrap (no_index (@OfNat.ofNat Int n instOfNat)) = @OfNat.ofNat Int n instOfNat := i64w (by
  have:(@OfNat.ofNat Int n instOfNat)=(n:Int):=rfl
  omega)
@[simp] theorem i64w_0:IntKind.i64.wrap 0=0:=i64w (by omega)
@[simp] theorem i64w_1:IntKind.i64.wrap 1=1:=i64w (by omega)
@[simp] theorem i64w_m1:IntKind.i64.wrap (-1) = -1:=i64w (by omega)
@[simp] theorem u32w_lit (n : Nat) (h : n ≤ 4294967295) : IntKind.u32.wrap (no_index (@OfNat.ofNat Int n instOfNat)) = @OfNat.ofNat Int n instOfNat := u32w (by
  have:(@OfNat.ofNat Int n instOfNat)=(n:Int):=rfl
  omega)
@[simp] theorem u32w_0:IntKind.u32.wrap 0=0:=u32w (by omega)
@[simp] theorem u32w_1:IntKind.u32.wrap 1=1:=u32w (by omega)
theorem succ_wrap {i n:Nat} (h:i < n) (hn:n≤maxLen):IntKind.i64.wrap ((i:Int) + 1)=((i + 1:Nat):Int):=by
 unfold maxLen at hn
 rw[i64w (by omega)]
 omega
@[simp] theorem one_int (k:IntKind) (n:Int):(Value.int k n).oneCell'=true:=rfl
@[simp] theorem one_bool (b:Bool):(Value.bool b).oneCell'=true:=rfl
@[simp] theorem one_str (b:ByteArray):(Value.string b).oneCell'=true:=rfl
@[simp] theorem one_slice (a:Option Addr) (l c:Nat):(Value.slice a l c).oneCell'=true:=rfl
@[simp] theorem one_ptr (a:Option Addr):(Value.pointer a).oneCell'=true:=rfl
@[simp] theorem one_func (f:Fn) (a b:Array Value):(Value.func f a b).oneCell'=true:=rfl
end Go.Proofs.YtfnbhkbfelllgaaGreatDoor
