import Derived.Test.YtfnbhkbfelllgaaGreatDoorVcA
set_option linter.all false
namespace Go.Proofs.YtfnbhkbfelllgaaGreatDoor
open Go.RowKit
section
variable {P:Program}
theorem int_beq (a b:Int):(a == b)=decide (a=b):=rfl
theorem run_binI {op:BinOp} {k:IntKind} {a b:Int} {v:Value} (t:TypeId) (h:binI op k a b=some v) (hs:op ≠ .shl) (hs':op ≠ .shr) (w:World) :
 (binOp op t (.int k a) (.int k b)).run P w = .ok v w:=by
 cases op<;>simp only[binI] at h<;>(try split at h)<;>simp at h<;>(try subst h)<;>simp_all [binOp,Op.intArith,Op.intDiv,Op.intBits,Op.intCmp,bne,int_beq]
theorem run_shf {op:BinOp} {k yk:IntKind} {a b:Int} {v:Value} (t:TypeId) (h:shf op k a b=some v) (w:World) :
 (binOp op t (.int k a) (.int yk b)).run P w = .ok v w:=by
 unfold shf at h
 split at h
 ·cases h
 ·rename_i hb
  cases op<;>simp at h<;>subst h<;>simp[binOp,Op.shift,hb]
theorem run_binS {op:BinOp} {a b:ByteArray} {v:Value} (t:TypeId) (h:binS op a b=some v) (w:World) :
 (binOp op t (.string a) (.string b)).run P w = .ok v w:=by
 cases op<;>simp only[binS] at h<;>(try split at h)<;>simp at h<;>(try subst h)<;>simp_all [binOp,Op.stringOp]
theorem run_equal_bool {t:TypeId} {a b:Bool} (hu:P.underlying t=some .bool) (d:Nat) (w:World):(Op.equalIn (d + 1) t (.bool a) (.bool b)).run P w = .ok (a == b) w:=by
 simp[Op.equalIn,run_underlying hu]
theorem run_equal_nil {t e:TypeId} {b:Option Addr} {n c n' c':Nat} (hu:P.underlying t=some (.slice e)) (d:Nat) (w:World):(Op.equalIn (d + 1) t (.slice none n c) (.slice b n' c')).run P w = .ok b.isNone w:=by
 simp[Op.equalIn,run_underlying hu]
theorem run_equal_nil' {t e:TypeId} {a:Addr} {n c n' c':Nat} (hu:P.underlying t=some (.slice e)) (d:Nat) (w:World):(Op.equalIn (d + 1) t (.slice (some a) n c) (.slice none n' c')).run P w = .ok false w:=by
 simp[Op.equalIn,run_underlying hu]
theorem run_eqC {t:TypeId} {a b:Value} {r:Bool} (h:eqC P t a b=some r) (d:Nat) (w:World):(Op.equalIn (d + 1) t a b).run P w = .ok r w:=by
 unfold eqC at h
 split at h
 ·rename_i td hu
  cases td<;>cases a<;>cases b<;>simp[Instr.sameNow] at h
  ·subst h; simp[Op.equalIn,run_underlying hu]
  ·obtain⟨h1,h2⟩:=h; subst h1; subst h2; simp[Op.equalIn,run_underlying hu]
  ·subst h; simp[Op.equalIn,run_underlying hu]
 ·cases h
theorem eqC_plain {t:TypeId} {a b:Value} {r:Bool} (h:eqC P t a b=some r):P.plainKey t=true:=by
 unfold eqC at h
 unfold Program.plainKey
 split at h
 ·rename_i td hu
  rw[hu]
  cases td<;>cases a<;>cases b<;>simp[Instr.sameNow] at h<;>rfl
 ·cases h
theorem run_eqFs {xs ys:Array Value} (d:Nat) (w:World):∀ {fs:List Field} {r:Bool},eqFs P xs ys fs=some r→(Op.eqFields (d + 1) xs ys fs).run P w = .ok r w
 | [],r,h=>by simp[eqFs] at h; subst h; simp[Op.eqFields]
 | f :: fs, r, h => by
   unfold eqFs at h
   split at h
   ·rename_i hn
    have ih:=run_eqFs d w h
    simp only[Op.eqFields,hn,ne_eq,not_true_eq_false,if_false]
    exact ih
   ·rename_i hn
    split at h
    ·rename_i a b ha hb
     split at h
     ·rename_i hc
      have hp:=eqC_plain hc
      have ih:=run_eqFs d w h
      simp only[Op.eqFields,ne_eq,hn,not_false_eq_true,if_true,Sem.run_bind,run_part_plain w hp ha,run_part_plain w hp hb,Result.andThen_ok,run_eqC hc d w,Bool.not_true,Bool.false_eq_true,if_false]
      exact ih
     ·rename_i hc
      have hp:=eqC_plain hc
      simp only[Option.some.injEq] at h
      subst h
      simp[Op.eqFields,hn,run_part_plain w hp ha,run_part_plain w hp hb,run_eqC hc d w]
     ·cases h
    ·cases h
theorem run_eqIs {el:TypeId} {xs ys:Array Value} (d:Nat) (w:World):∀ {is:List Nat} {r:Bool},eqIs P el xs ys is=some r→(Op.eqItems (d + 1) el 1 xs ys is).run P w = .ok r w
 | [],r,h=>by simp[eqIs] at h; subst h; simp[Op.eqItems]
 | i :: is, r, h => by
   unfold eqIs at h
   split at h
   ·rename_i a b ha hb
    split at h
    ·rename_i hc
     have hp:=eqC_plain hc
     have ih:=run_eqIs d w h
     simp only[Op.eqItems,Nat.mul_one,Sem.run_bind,run_part_plain w hp ha,run_part_plain w hp hb,Result.andThen_ok,run_eqC hc d w,Bool.not_true,Bool.false_eq_true,if_false]
     exact ih
    ·rename_i hc
     have hp:=eqC_plain hc
     simp only[Option.some.injEq] at h
     subst h
     simp[Op.eqItems,run_part_plain w hp ha,run_part_plain w hp hb,run_eqC hc d w]
    ·cases h
   ·cases h
theorem eqV_guard {t:TypeId} {xs ys:Array Value} {r:Bool} (h:eqV P t xs ys=some r):P.eqGuardType P.depth t=false:=by
 unfold eqV at h
 split at h
 ·split at h
  ·cases h
  ·rename_i hc; simp only[Bool.or_eq_true,not_or,Bool.not_eq_true] at hc; exact hc.2
 ·split at h
  ·cases h
  ·rename_i hc; simp only[not_or,Bool.not_eq_true] at hc; exact hc.1
 ·cases h
theorem run_eqV {t:TypeId} {xs ys:Array Value} {r:Bool} (h:eqV P t xs ys=some r) (d:Nat) (w:World):(Op.equalIn (d + 2) t (.agg xs) (.agg ys)).run P w = .ok r w:=by
 unfold eqV at h
 split at h
 ·rename_i fs hu
  split at h
  ·cases h
  ·rename_i hc
   simp only[Bool.or_eq_true,not_or,Bool.not_eq_true] at hc
   have hf:P.fieldsOf t=fs:=by unfold Program.fieldsOf; rw[hu]
   rw[run_equalIn_struct w (d + 1) t xs ys (by rw[hf]; exact hu) hc.1,hf]
   exact run_eqFs d w h
 ·rename_i n el hu
  split at h
  ·cases h
  ·rename_i hc
   simp only[not_or,ne_eq,Decidable.not_not,Bool.not_eq_true] at hc
   cases hi:P.info? el with
   | none =>
     have:=hc.2
     simp[Program.cellsOf,hi] at this
   | some i =>
     rw[run_equalIn_array w (d + 1) xs ys hu hi,hc.2]
     exact run_eqIs d w h
 ·cases h
theorem run_nilB {t:TypeId} {x y:Value} {r:Bool} (h:nilB P t x y=some r) (d:Nat) (w:World):(Op.equalIn (d + 1) t x y).run P w = .ok r w:=by
 unfold nilB at h
 split at h
 ·split at h
  ·rename_i x _ _ _ hu
   simp only[Option.some.injEq] at h
   subst h
   cases x<;>simp[Op.equalIn,run_underlying hu]
  ·cases h
 ·split at h
  ·rename_i x _ _ hu
   simp only[Option.some.injEq] at h
   subst h
   cases x<;>simp[Op.equalIn,run_underlying hu]
  ·cases h
 ·split at h
  ·rename_i hu
   simp only[Option.some.injEq] at h
   subst h
   simp[Op.equalIn,run_underlying hu]
  ·cases h
 ·split at h
  ·rename_i hu
   simp only[Option.some.injEq] at h
   subst h
   simp[Op.equalIn,run_underlying hu]
  ·cases h
 ·cases h
theorem run_bin {op:BinOp} {t:TypeId} {x y v:Value} (h:bin P op t x y=some v) (w:World):(binOp op t x y).run P w = .ok v w:=by
 unfold bin at h
 split at h
 ·exact run_shf t h w
 ·exact run_shf t h w
 ·rename_i h1 h2
  split at h
  ·rename_i k a k' b hk
   subst hk
   refine run_binI t h ?_ ?_ w
   ·intro he; subst he; simp[binI] at h
   ·intro he; subst he; simp[binI] at h
  ·cases h
 ·exact run_binS t h w
 ·split at h<;>simp at h
  rename_i hu
  subst h
  simp[binOp,Op.equal,Op.maxDepth,run_equal_bool hu 9999]
 ·split at h<;>simp at h
  rename_i hu
  subst h
  simp[binOp,Op.equal,Op.maxDepth,run_equal_bool hu 9999]
 ·split at h<;>simp at h
  rename_i hu
  subst h
  simp[binOp,Op.equal,Op.maxDepth,run_equal_nil hu 9999]
 ·split at h<;>simp at h
  rename_i hu
  subst h
  simp[binOp,Op.equal,Op.maxDepth,run_equal_nil' hu 9999]
 ·split at h<;>simp at h
  rename_i hu
  subst h
  simp[binOp,Op.equal,Op.maxDepth,run_equal_nil hu 9999]
 ·split at h<;>simp at h
  rename_i hu
  subst h
  simp[binOp,Op.equal,Op.maxDepth,run_equal_nil' hu 9999]
 ·split at h
  ·rename_i r hr
   simp only[Option.some.injEq] at h
   subst h
   simp[binOp,Op.equal,Op.maxDepth,run_eqV hr 9998 w]
  ·cases h
 ·split at h
  ·rename_i r hr
   simp only[Option.some.injEq] at h
   subst h
   simp[binOp,Op.equal,Op.maxDepth,run_eqV hr 9998 w]
  ·cases h
 ·split at h
  ·rename_i r hr
   simp at h
   subst h
   have hq:=run_nilB hr 9999 w
   cases x<;>cases y<;>first | (simp[nilB] at hr; done) | simp[binOp,Op.equal,Op.maxDepth,hq]
  ·cases h
 ·split at h
  ·rename_i r hr
   simp at h
   subst h
   have hq:=run_nilB hr 9999 w
   cases x<;>cases y<;>first | (simp[nilB] at hr; done) | simp[binOp,Op.equal,Op.maxDepth,hq]
  ·cases h
 ·cases h
theorem run_un {op:UnOp} {x v:Value} (h:un op x=some v) (w:World):(Op.unary op x).run P w = .ok v w:=by
 unfold un at h
 split at h
 ·simp at h; subst h; simp[Op.unary,Op.intArith]
 ·simp only[binI] at h; simp at h; subst h; simp[Op.unary,Op.intBits]
 ·simp at h; subst h; simp[Op.unary]
 ·cases h
theorem run_eqGuard {op:BinOp} {t:TypeId} {x y:Operand} {a b v:Value} (h:bin P op t a b=some v) (w:World):(eqGuard op t x y a b).run P w = .ok () w:=by
 cases a with
 | nilIface=>cases op<;>simp[bin,nilB] at h
 | agg cs =>
   cases b with
   | agg ds =>
     cases op<;>simp[bin,nilB] at h
     all_goals
      split at h
      ·rename_i r hr
       exact run_eqGuard_agg w _ t x y cs ds (eqV_guard hr)
      ·cases h
   | _=>cases op<;>simp[bin,nilB] at h
 | _=>cases op<;>simp[eqGuard]
theorem run_sb {x:Value} {y l:Nat} {c:BoundsCode} (h:sb x y=some l) (w:World):(Instr.sliceBound x y c).run P w = .ok l w:=by
 unfold sb at h
 split at h
 ·split at h
  ·rename_i hh; simp at h; subst h; simp[Instr.sliceBound,asIntOf,hh]
  ·cases h
 ·cases h
theorem run_sbs {b:Bool} {len cap l h m:Nat} {lo hi mx:Option Value} (hh:sbs len cap lo hi mx=some (l,h,m)) (w:World) :
 (Instr.sliceBounds b len cap lo hi mx).run P w = .ok (l,h,m) w:=by
 unfold sbs at hh
 split at hh
 ·cases hh
 ·rename_i m' hm
  split at hh
  ·cases hh
  ·rename_i h' hh'
   split at hh
   ·cases hh
   ·rename_i l' hl
    simp at hh
    obtain⟨rfl,rfl,rfl⟩:=hh
    unfold Instr.sliceBounds
    cases mx<;>cases hi<;>cases lo<;>simp at hm hh' hl<;>(try subst hm)<;>(try subst hh')<;>(try subst hl)<;>simp[run_sb, *]
theorem run_lenV {t ty:TypeId} {x v:Value} (h:lenV P t x=some v) (w:World):(Builtin.len_ #[t] ty #[x]).run P w = .ok v w:=by
 unfold lenV at h
 split at h<;>simp at h<;>subst h<;>rename_i hu<;>simp[Builtin.len_,run_underlying hu,goInt]
theorem pv_run {e:Env} {o:Oper} {v:Value} (h:pv P e o.op=some v) (w:World):(execOp (ev e) o).run P w = .ok (.value v) w:=by
 obtain⟨dst,op,ty,pos,after,guard⟩:=o
 simp only at h
 cases op with
 | move x=>simp[pv] at h; subst h; simp[execOp]
 | assign x=>simp[pv] at h; subst h; simp[execOp]
 | pick c a b =>
   simp only[pv] at h
   split at h
   ·rename_i t hc; simp at h; subst h; simp[execOp,hc,asBool]
   ·cases h
 | nilCheck x =>
   simp only[pv] at h
   split at h
   ·rename_i a hx; simp at h; subst h; simp[execOp,hx]
   ·rename_i f p q hx; simp at h; subst h; simp[execOp,hx]
   ·cases h
 | binOp op t x y yt =>
   simp only[pv] at h
   simp[execOp,run_eqGuard h,run_bin h]
 | unOp op t x =>
   simp only[pv] at h
   simp[execOp,run_un h]
 | convert s d x =>
   simp only[pv] at h
   split at h
   ·rename_i k0 n u k hx hs hd
    simp at h; subst h
    have hd':P.underlying d=some (.int k):=by
     unfold isInt at hd
     split at hd<;>simp_all
    simp[execOp,convert,hx,run_underlying hs,run_underlying hd',Conv.intToInt]
   ·cases h
 | makeFunc fn f c=>simp[pv] at h; subst h; simp[execOp,Instr.makeFunc]
 | fieldAddr s x f =>
   simp only[pv] at h
   split at h
   ·rename_i b off n hx hf
    simp at h; subst h
    unfold fo at hf
    split at hf
    ·rename_i fs hs
     split at hf
     ·rename_i fd hfd
      split at hf
      ·rename_i i hi
       split at hf
       ·cases hf
       ·rename_i hz
        simp at hf; subst hf
        have:(⟨b,off,none⟩:Addr).add fd.offset=⟨b,off + fd.offset,none⟩:=by simp only[Addr.add]; split<;>simp_all
        simp[execOp,Instr.fieldAt,hx,run_underlying hs,hfd,Instr.sureAddr,fieldPlace,sizeOf,typeInfo,hi,hz,this]
      ·cases hf
     ·cases hf
    ·cases hf
   ·cases h
 | field t x f =>
   simp only[pv] at h
   split at h
   ·rename_i cs fty off hx hf
    unfold ft at hf
    split at hf
    ·rename_i fs hs
     split at hf
     ·rename_i fd hfd
      simp at hf
      obtain⟨rfl,rfl⟩:=hf
      simp[execOp,Instr.field,hx,run_underlying hs,hfd,asAgg,run_part h]
     ·cases hf
    ·cases hf
   ·cases h
 | indexAddr t x i =>
   simp only[pv] at h
   split at h
   ·rename_i k j hi
    split at h
    ·rename_i b off len cap hx
     split at h
     ·rename_i el sz hs
      split at h
      ·rename_i hj
       simp at h; subst h
       unfold sl at hs
       split at hs
       ·rename_i el' hu
        split at hs
        ·rename_i info hinfo
         simp at hs
         obtain⟨rfl,rfl⟩:=hs
         have:(⟨b,off,none⟩:Addr).add (j.toNat * info.size)=⟨b,off + j.toNat * info.size,none⟩:=by simp only[Addr.add]; split<;>simp_all
         simp[execOp,Instr.indexAt,hi,hx,run_underlying hu,asIntOf,hj,sizeOf,typeInfo,hinfo,this]
        ·cases hs
       ·cases hs
      ·cases h
     ·cases h
    ·rename_i b off hx
     split at h
     ·rename_i n el sz hs
      split at h
      ·rename_i hj
       simp at h; subst h
       unfold ar at hs
       split at hs
       ·rename_i n' el' hu
        split at hs
        ·rename_i info hinfo
         simp at hs
         obtain⟨rfl,rfl,rfl⟩:=hs
         have:(⟨b,off,none⟩:Addr).add (j.toNat * info.size)=⟨b,off + j.toNat * info.size,none⟩:=by simp only[Addr.add]; split<;>simp_all
         simp[execOp,Instr.indexAt,hi,hx,run_underlying hu,asIntOf,hj,sizeOf,typeInfo,hinfo,this,Instr.sureAddr]
        ·cases hs
       ·cases hs
      ·cases h
     ·cases h
    ·cases h
   ·cases h
 | index t x i =>
   simp only[pv] at h
   split at h
   ·rename_i k j hi
    split at h
    ·rename_i cs hx
     split at h
     ·rename_i n el sz hs
      split at h
      ·rename_i hj
       unfold ar at hs
       split at hs
       ·rename_i n' el' hu
        split at hs
        ·rename_i info hinfo
         simp at hs
         obtain⟨rfl,rfl,rfl⟩:=hs
         simp[execOp,Instr.index,hi,hx,run_underlying hu,asIntOf,hj,sizeOf,typeInfo,hinfo,run_part h]
        ·cases hs
       ·cases hs
      ·cases h
     ·cases h
    ·rename_i s hx
     split at h
     ·rename_i hstr
      split at h
      ·rename_i hj
       have hu:P.underlying t=some .string:=by
        unfold isStr at hstr
        split at hstr<;>simp_all
       simp only[Option.map_eq_some_iff] at h
       obtain⟨b,hb,rfl⟩:=h
       simp[execOp,Instr.index,hi,hx,run_underlying hu,asIntOf,hj,hb]
      ·cases h
     ·cases h
    ·cases h
   ·cases h
 | extract x i =>
   simp only[pv] at h
   split at h
   ·rename_i vs hx
    simp[execOp,Instr.extract,hx,h]
   ·cases h
 | slice t x lo hi mx =>
   simp only[pv] at h
   split at h
   ·rename_i s hx
    split at h
    ·rename_i hstr
     have hu:P.underlying t=some .string:=by
      unfold isStr at hstr
      split at hstr<;>simp_all
     split at h
     ·cases h
     ·split at h
      ·rename_i l hh m hb
       simp at h; subst h
       simp[execOp,Instr.sliceAt,Instr.slice,hx,run_underlying hu,run_sbs hb]
      ·cases h
    ·cases h
   ·rename_i a len cap hx
    split at h
    ·rename_i el sz hs
     split at h
     ·rename_i l hh m hb
      simp at h; subst h
      unfold sl at hs
      split at hs
      ·rename_i el' hu
       split at hs
       ·rename_i info hinfo
        simp at hs
        obtain⟨rfl,rfl⟩:=hs
        simp[execOp,Instr.sliceAt,Instr.slice,hx,run_underlying hu,run_sbs hb,sizeOf,typeInfo,hinfo]
       ·cases hs
      ·cases hs
     ·cases h
    ·cases h
   ·rename_i a hx
    split at h
    ·rename_i n el sz hs
     split at h
     ·rename_i l hh m hb
      simp at h; subst h
      unfold ar at hs
      split at hs
      ·rename_i n' el' hu
       split at hs
       ·rename_i info hinfo
        simp at hs
        obtain⟨rfl,rfl,rfl⟩:=hs
        simp[execOp,Instr.sliceAt,hx,run_underlying hu,run_sbs hb,sizeOf,typeInfo,hinfo,Instr.sureAddr]
       ·cases hs
      ·cases hs
     ·cases h
    ·cases h
   ·cases h
 | call c =>
   simp only[pv,pvCall] at h
   split at h
   ·rename_i hb
    split at h
    ·rename_i x t hx ht
     obtain⟨callee,⟨args⟩,⟨ats⟩⟩:=c
     simp only at hx ht hb
     subst hx ht hb
     simp[execOp,resolve,invoke,builtin,run_lenV h]
    ·cases h
   ·rename_i hb
    split at h
    ·rename_i x y hx
     obtain⟨callee,⟨args⟩,⟨ats⟩⟩:=c
     simp only at hx hb
     subst hx hb
     split at h
     ·rename_i k a k' b ex ey
      simp only[Option.some.injEq] at h
      subst h
      simp[execOp,resolve,invoke,builtin,Builtin.min_,Builtin.min2,ex,ey]
     ·cases h
    ·cases h
   ·cases h
 | _=>simp[pv] at h
end
end Go.Proofs.YtfnbhkbfelllgaaGreatDoor
