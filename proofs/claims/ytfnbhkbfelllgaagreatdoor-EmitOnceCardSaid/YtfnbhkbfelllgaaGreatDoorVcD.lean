import Derived.Test.YtfnbhkbfelllgaaGreatDoorVcC
set_option linter.all false
namespace Go.Proofs.YtfnbhkbfelllgaaGreatDoor
open Go.RowKit
section
variable {P:Program}
theorem map_parts (e:Env) (ps:Array (Nat×Operand)):(ps.map fun (i,x)=>(i,ev e x)).toList=ps.toList.map fun p=>(p.1,ev e p.2):=by simp
theorem run_places (w:World):∀ (l:List Field) (pl:List (Nat×Nat)),(l.mapM fun f=>(P.info? f.type).map fun i=>(f.offset,i.size))=some pl →
 (l.mapM fun f=>(Prod.mk f.offset <$> sizeOf f.type:Sem (Nat×Nat))).run P w = .ok pl w
 | [],pl,h=>by simp at h; subst h; simp
 | f :: l, pl, h => by
   rw[List.mapM_cons] at h
   cases hi:P.info? f.type with
   | none=>simp[hi] at h
   | some i =>
     cases hl:l.mapM fun f=>(P.info? f.type).map fun i=>(f.offset,i.size) with
     | none=>simp[hi,hl] at h
     | some pl' =>
       simp[hi,hl] at h
       subst h
       have ih:=run_places w l pl' hl
       have hs:(sizeOf f.type).run P w = .ok i.size w:=by simp[sizeOf,typeInfo,hi]
       simp[hs,ih]
theorem bld_run {t:TypeId} {ps:Array (Nat×Value)} {v:Value} (h:bld P t ps.toList=some v) (w:World):(Instr.build t ps).run P w = .ok v w:=by
 unfold bld at h
 split at h
 ·cases h
 ·rename_i z hz
  split at h
  ·rename_i pl hpl
   simp only[Option.map_eq_some_iff] at h
   obtain⟨l,hl,rfl⟩:=h
   unfold places at hpl
   split at hpl
   ·rename_i fs hu
    have h1:=run_places w fs.toList pl hpl
    have h2:=lay_fill _ _ _ hl
    have h3:Instr.fill (fun x=>pl[x]?) z.cells ps.toList=some l.toArray:=h2
    obtain⟨l0⟩:=fs
    simp only at h1
    simp[Instr.build,zv_run hz,run_underlying hu,h1,h3]
   ·cases hpl
  ·split at h
   ·rename_i n el sz har
    simp only[Option.map_eq_some_iff] at h
    obtain⟨l,hl,rfl⟩:=h
    unfold ar at har
    split at har
    ·rename_i n' el' hu
     split at har
     ·rename_i info hinfo
      simp at har
      obtain⟨rfl,rfl,rfl⟩:=har
      have h3:=lay_fill _ _ _ hl
      simp[Instr.build,zv_run hz,run_underlying hu,sizeOf,typeInfo,hinfo,h3]
     ·cases har
    ·cases har
   ·cases h
theorem rept_toList (z:Array Value) (hz:0 < z.size):∀ n,((Array.range (n * z.size)).map (fun i=>z[i % z.size]!)).toList=rept z.toList n:=by
 intro n
 induction n with
 | zero=>simp[rept]
 | succ n ih =>
   simp only[rept]
   rw[← ih]
   apply List.ext_getElem?
   intro i
   simp only[Array.toList_map,Array.toList_range,List.getElem?_map,List.getElem?_append,Array.length_toList]
   by_cases h:i < z.size
   ·have h1:i < (n + 1) * z.size:=by rw[Nat.add_mul]; omega
    simp[h,h1,Nat.mod_eq_of_lt h,Array.getElem!_eq_getD]
   ·simp only[h,if_false]
    by_cases h1:i < (n + 1) * z.size
    ·have h2:i - z.size < n * z.size:=by rw[Nat.add_mul] at h1; omega
     simp[h1,h2]
     rw[Nat.mod_eq_sub_mod (by omega)]
    ·have h2:¬ i - z.size < n * z.size:=by rw[Nat.add_mul] at h1; omega
     simp[h1,h2]
theorem bls_run {t:TypeId} {len:Nat} {ps:Array (Nat×Value)} {e:Nat} {l:List Value} (h:bls P t len ps.toList=some (e,l)) (w:World) :
 (Instr.buildSlice t len ps).run P w = .ok (.slice (some ⟨w.heap.size,0,none⟩) len len) (w.alloc (.cells l.toArray e)):=by
 unfold bls at h
 split at h
 ·cases h
 ·rename_i e' sz hs
  split at h
  ·cases h
  ·rename_i z hz
   split at h
   ·rename_i hh
    obtain⟨h1,h2,h3⟩:=hh
    simp only[Option.map_eq_some_iff] at h
    obtain⟨l',hl,he⟩:=h
    simp at he
    obtain⟨rfl,rfl⟩:=he
    unfold sl at hs
    split at hs
    ·rename_i el' hu
     split at hs
     ·rename_i info hinfo
      simp at hs
      obtain⟨rfl,rfl⟩:=hs
      rw[← rept_toList z.cells (by omega)] at hl
      have h4:=lay_fill _ _ _ hl
      rw[h1] at h4
      by_cases hlen:len=0
      ·subst hlen
       have h5:(Array.range (0 * info.size))=#[]:=by simp
       rw[h5] at h4
       simp only[Array.map_empty] at h4
       have h7:Array.range 0=#[]:=rfl
       simp[Instr.buildSlice,run_underlying hu,sizeOf,typeInfo,hinfo,h7,h4,newRow,newObj,Sem.run]
      ·have h5:¬ (len=0∨info.size=0):=by omega
       have h6:¬ (16777216 < len * info.size):=Nat.not_lt.2 h3
       have h5':len * info.size≠0:=by
        have:=Nat.mul_pos (Nat.pos_of_ne_zero hlen) h2
        omega
       simp[Instr.buildSlice,run_underlying hu,sizeOf,typeInfo,hinfo,zv_run hz,h1,h5',h6,newRow,newObj]
       rw[h4]
       simp[Sem.run]
     ·cases hs
    ·cases hs
   ·cases h
theorem okF_call {f:FuncId} (h:okF P f=true) (args:Array Value) (w:World):(callFunc f args).run P w = .ok (.enter f args) w:=by
 unfold okF at h
 split at h
 ·rename_i fn hf
  simp only[Bool.and_eq_true,Bool.not_eq_true'] at h
  obtain⟨h1,h2⟩:=h
  have h3:fn.body≠none:=by cases hb:fn.body<;>simp[hb] at h2 ⊢
  have h4 : fn.name ≠ "runtime.NumGoroutine" := by simpa using h1
  simp[callFunc,hf,h3,h4]
 ·cases h
section
variable {n:Nat} {o:Oper} {a:Act} {w:World} {K:Kont} {Q:Exit→Act→World→Prop} {K':Act→World→Prop}
theorem wp_vSet {r:Option Value} (hr:∀ v,r=some v→(execOp a.eval o).run P w = .ok (.value v) w) (hf:Fr n a) (hd:∀ d',o.dst=some d'→d' < n)
 (hK:∀ a w,Fr n a→K (envOf a) w→K' a w) (h:vSet r (envOf a) o.dst K w):o.wp P a w K' Q:=by
 obtain⟨v,hv,hk⟩:=h
 unfold Oper.wp
 rw[hr v hv]
 exact hK _ _ (hf.put _ _) (by rw[envOf_put hf hd]; exact hk)
theorem wp_vRaw (hf:Fr n a) (hd:∀ d',o.dst=some d'→d' < n)
 (hK:∀ a w,Fr n a→K (envOf a) w→K' a w) (h:vRaw P o (envOf a) K w):o.wp P a w K' Q:=by
 unfold vRaw at h
 unfold Oper.wp
 rw[eval_envOf]
 generalize (execOp (ev (envOf a)) o).run P w=r at *
 cases r with
 | ok x w' =>
   cases x<;>simp only at h<;>simp only[Oper.upon]
   case value v=>exact hK _ _ (hf.put _ _) (by rw[envOf_put hf hd]; exact h)
   case skip=>exact hK _ _ (hf.put _ _) (by rw[envOf_put hf hd]; exact h)
   case enter f args=>
    exact h.mono fun en w'' ⟨v,he,hk⟩=>by
     subst he
     exact hK _ _ (hf.put _ _) (by rw[envOf_put hf hd]; exact hk)
 | halt x w'=>simp only at h
theorem vop_sound (hf:Fr n a) (hd:∀ d',o.dst=some d'→d' < n)
 (hK:∀ a w,Fr n a→K (envOf a) w→K' a w) (h:vop P o K (envOf a) w):o.wp P a w K' Q:=by
 have hpv:vSet (pv P (envOf a) o.op) (envOf a) o.dst K w→o.wp P a w K' Q:=
  fun h=>wp_vSet (fun v hv=>by rw[eval_envOf]; exact pv_run hv w) hf hd hK h
 have hraw:vRaw P o (envOf a) K w→o.wp P a w K' Q:=fun h=>wp_vRaw hf hd hK h
 unfold vop at h
 split at h
 ·rename_i t x ho
  refine wp_vSet (r:=lv P t (ev (envOf a) x) w) (fun v hv=>?_) hf hd hK h
  rw[eval_envOf]
  simp[execOp,ho,lv_run hv]
 ·rename_i t p x ho
  obtain⟨w',hw,hk⟩:=h
  unfold Oper.wp
  have:(execOp a.eval o).run P w = .ok .skip w':=by
   rw[eval_envOf]
   simp[execOp,ho,stv_run hw]
  rw[this]
  exact hK _ _ (hf.put _ _) (by rw[envOf_put hf hd]; exact hk)
 ·rename_i t ho
  obtain⟨t',cs,hr,hk⟩:=h
  simp only[Option.map_eq_some_iff,Prod.mk.injEq] at hr
  obtain⟨z,hz,rfl,rfl⟩:=hr
  unfold Oper.wp
  have:(execOp a.eval o).run P w = .ok (.value (.pointer (some ⟨w.heap.size,0,none⟩))) (w.alloc (.cells z.cells t)):=by
   rw[eval_envOf]
   simp[execOp,ho,Instr.alloc,zv_run hz,newVar,newRow,newObj,Sem.run]
  rw[this]
  exact hK _ _ (hf.put _ _) (by rw[envOf_put hf hd]; simpa using hk)
 ·rename_i t x ho
  obtain⟨t',cs,hr,hk⟩:=h
  simp only[Option.some.injEq,Prod.mk.injEq] at hr
  obtain⟨rfl,rfl⟩:=hr
  unfold Oper.wp
  have:(execOp a.eval o).run P w = .ok (.value (.pointer (some ⟨w.heap.size,0,none⟩))) (w.alloc (.cells (ev (envOf a) x).cells t)):=by
   rw[eval_envOf]
   simp[execOp,ho,Instr.box,newVar,newRow,newObj,Sem.run]
  rw[this]
  exact hK _ _ (hf.put _ _) (by rw[envOf_put hf hd]; simpa using hk)
 ·rename_i t ps ho
  refine wp_vSet (r:=bld P t (ps.toList.map fun p=>(p.1,ev (envOf a) p.2))) (fun v hv=>?_) hf hd hK h
  rw[eval_envOf]
  rw[← map_parts] at hv
  simp only[execOp,ho]
  simp[bld_run hv]
 ·rename_i t len ps ho
  obtain⟨t',cs,hr,hk⟩:=h
  rw[← map_parts] at hr
  unfold Oper.wp
  have:(execOp a.eval o).run P w = .ok (.value (.slice (some ⟨w.heap.size,0,none⟩) len len)) (w.alloc (.cells cs.toArray t')):=by
   rw[eval_envOf]
   simp only[execOp,ho]
   simp[bls_run hr]
  rw[this]
  exact hK _ _ (hf.put _ _) (by rw[envOf_put hf hd]; exact hk)
 ·rename_i c ho
  split at h
  ·rename_i f hc
   obtain⟨g,first,captured,hv,hok,hcall⟩:=h
   unfold Oper.wp
   have:(execOp a.eval o).run P w = .ok (.enter g (first++(c.args.map (ev (envOf a)))++captured)) w:=by
    rw[eval_envOf]
    simp[execOp,ho,resolve,hc,hv,Deferred.ofValue,invoke,okF_call hok]
   rw[this]
   simp only[Oper.upon]
   exact hcall.mono fun en w'' ⟨v,he,hk⟩=>by
    subst he
    exact hK _ _ (hf.put _ _) (by rw[envOf_put hf hd]; exact hk)
  ·rcases h with h | h
   ·refine hpv ?_
    rw[ho]
    simpa only[pv] using h
   ·exact hraw h
  ·exact hraw h
 ·rename_i x ho
  exact hpv (by rw[ho]; exact⟨_,rfl,h⟩)
 ·rename_i x ho
  exact hpv (by rw[ho]; exact⟨_,rfl,h⟩)
 all_goals (first | exact hpv h | skip)
 ·rename_i s d x ho
  split at h
  ·exact hpv (by rw[ho]; exact h)
  ·exact hraw h
 ·exact hraw h
end
theorem vops_sound {n:Nat} {ops:Array Oper} {K:Kont} {Q:Exit→Act→World→Prop} (hK:∀ a w,Fr n a→K (envOf a) w→Q .normal a w) :
 ∀ (l:List Oper),(∀ o∈l,∀ d',o.dst=some d'→d' < n)→∀ (a:Act) (w:World),Fr n a→vops P ops l K (envOf a) w→wpList P ops Q l a w
 | [],_,a,w,hf,h=>hK a w hf h
 | o :: os, hd, a, w, hf, h => by
   have ih:=vops_sound (ops:=ops) hK os (fun o ho=>hd o (List.mem_cons_of_mem _ ho))
   have hd0:=hd o List.mem_cons_self
   simp only[vops] at h
   unfold wpList
   cases hg:o.guard with
   | none =>
     rw[hg] at h
     simp only at h
     rw[if_pos (by simp[Region.wanted,hg])]
     exact .inl (vop_sound hf hd0 (fun a w hf h=>ih a w hf h) h)
   | some g =>
     obtain⟨j,want⟩:=g
     rw[hg] at h
     simp only[vG,← gval_eq ops a j] at h
     by_cases hy:yielded ops a.tmps j=some want
     ·rw[if_pos hy] at h
      rw[if_pos (by simp[Region.wanted,hg,hy])]
      exact .inl (vop_sound hf hd0 (fun a w hf h=>ih a w hf h) h)
     ·rw[if_neg hy] at h
      rw[if_neg (by simp[Region.wanted,hg,hy])]
      exact ih _ _ (hf.put _ _) (by rw[envOf_put hf hd0]; exact h)
theorem vc_sound {n:Nat}:∀ (c:Code),dstsOk n c=true→∀ (bs:List (Nat×Kont)) (r k:Kont) (a:Act) (w:World),Fr n a→vc P c bs r k (envOf a) w→c.wp P (postK n bs r k) a w
 | .skip,_,bs,r,k,a,w,hf,h=>wp_skip ⟨hf,h⟩
 | .region id ops false, hd, bs, r, k, a, w, hf, h => by
   simp only[dstsOk] at hd
   refine wp_region_list (vops_sound (fun a w hf h=>⟨hf,h⟩) ops.toList (fun o ho d' hd'=>?_) a w hf h)
   have:=Array.all_eq_true_iff_forall_mem.1 hd o (by simpa using ho)
   simpa [hd'] using this
 | .region id ops true, hd, bs, r, k, a, w, hf, h => by
   simp only[dstsOk] at hd
   refine wp_mono (h n a hf (fun o ho d' hd'=>?_) rfl) fun ex a' w' ⟨he,hf',hk⟩=>?_
   ·have:=Array.all_eq_true_iff_forall_mem.1 hd o (by simpa using ho)
    simpa [hd'] using this
   ·subst he
    exact⟨hf',hk⟩
 | .seq x y, hd, bs, r, k, a, w, hf, h => by
   simp only[dstsOk,Bool.and_eq_true] at hd
   refine wp_seq (wp_mono (vc_sound x hd.1 bs r _ a w hf h) fun ex a' w' hq=>?_)
   cases ex<;>simp only[postK,Exit.then] at hq ⊢
   ·exact vc_sound y hd.2 bs r k a' w' hq.1 hq.2
   ·exact hq
   ·exact hq
 | .cond c x y, hd, bs, r, k, a, w, hf, h => by
   simp only[dstsOk,Bool.and_eq_true] at hd
   obtain⟨b,hb,hh⟩:=h
   refine wp_cond (t:=b) (by rw[eval_envOf]; exact hb) ?_
   cases b
   ·exact vc_sound y hd.2 bs r k a w hf hh
   ·exact vc_sound x hd.1 bs r k a w hf hh
 | .block id c, hd, bs, r, k, a, w, hf, h => by
   simp only[dstsOk] at hd
   refine wp_block (wp_mono (vc_sound c hd _ r k a w hf h) fun ex a' w' hq=>?_)
   cases ex<;>simp only[postK,Exit.inBlock,exitK] at hq ⊢
   ·exact hq
   ·rename_i id'
    by_cases he:id'=id
    ·subst he
     simpa using hq
    ·rw[if_neg he]
     rw[if_neg (Ne.symm he)] at hq
     exact hq
   ·exact hq
 | .exit id,_,bs,r,k,a,w,hf,h=>wp_exit ⟨hf,h⟩
 | .loop c, hd, bs, r, k, a, w, hf, h => by
   simp only[dstsOk] at hd
   obtain⟨I,μ,h0,hstep⟩:=h
   refine wp_loop (fun a w=>Fr n a∧I (envOf a) w) (fun a w=>μ (envOf a) w) ⟨hf,h0⟩ fun a w ⟨hf,hI⟩=>?_
   refine wp_mono (vc_sound c hd bs r _ a w hf (hstep _ _ hI)) fun ex a' w' hq=>?_
   cases ex<;>simp only[postK,Exit.then] at hq ⊢
   ·exact⟨⟨hq.1,hq.2.1⟩,hq.2.2⟩
   ·exact hq
   ·exact hq
 | .ret,_,bs,r,k,a,w,hf,h=>wp_ret ⟨hf,h⟩
 | .rangeFunc ..,_,_,_,_,_,_,_,h=>h.elim
 | .scope c, hd, bs, r, k, a, w, hf, h => by
   simp only[dstsOk] at hd
   refine wp_scope_straight (wp_mono (vc_sound c hd bs r k a w hf h) fun ex a' w' hq=>?_)
   cases ex<;>simp only[postK,Exit.noGoto] at hq ⊢ <;> exact hq
 | .label l,_,bs,r,k,a,w,hf,h=>wp_label ⟨hf,h⟩
 | .goto _,_,_,_,_,_,_,_,h=>h.elim
 | .refuse _,_,_,_,_,_,_,_,h=>h.elim
def resOf (P:Program) (e:Env) (w:World):ResultVar→Option Value
 | .tmp t=>some (e t)
 | .cell a t=>lv P t (e a) w
def resAll (P:Program) (e:Env) (w:World):List ResultVar→Option (List Value)
 | []=>some []
 | r :: rs => match resOf P e w r with
   | some v=>(resAll P e w rs).map (v :: ·)
   | none=>none
def tupOf:List Value→Value
 | [v]=>v
 | l=>.tuple l.toArray
def vRet (P:Program) (rs:List ResultVar) (R:Ending→World→Prop) (e:Env) (w:World):Prop:=∃ l,resAll P e w rs=some l∧R (.returned (tupOf l)) w
def rvS (tmps:Array Value):ResultVar→Sem Value
 | .tmp t=>pure (tmps.getD t undef)
 | .cell b t=>do loadVar t (← asAddr (tmps.getD b undef))
theorem run_resOf {a:Act} {w:World} {r:ResultVar} {v:Value} (h:resOf P (envOf a) w r=some v):(rvS a.tmps r).run P w = .ok v w:=by
 cases r with
 | tmp t =>
   simp only[resOf,Option.some.injEq,envOf] at h
   subst h
   rfl
 | cell b t =>
   simp only[resOf] at h
   have h1:=lv_run h
   have hv':=h
   unfold lv at hv'
   split at hv'
   ·rename_i b' o heq
    have heq':a.tmps.getD b undef = .pointer (some ⟨b',o,none⟩):=heq
    have heq2:envOf a b = .pointer (some ⟨b',o,none⟩):=heq
    rw[heq2] at h1
    simp only[rvS,heq']
    simpa [Instr.loadAt,Instr.sureAddr,asAddr] using h1
   ·cases hv'
theorem run_resAll (a:Act) (w:World):∀ (rs:List ResultVar) (l:List Value),resAll P (envOf a) w rs=some l→(rs.mapM (rvS a.tmps)).run P w = .ok l w
 | [],l,h=>by simp[resAll] at h; subst h; simp
 | r :: rs, l, h => by
   simp only[resAll] at h
   split at h
   ·rename_i v hv
    simp only[Option.map_eq_some_iff] at h
    obtain⟨l',hl',rfl⟩:=h
    have ih:=run_resAll a w rs l' hl'
    rw[List.mapM_cons]
    simp[run_resOf hv,ih]
   ·cases h
theorem results_eq (fn:Func) (a:Act) (w:World) {l:List Value} (h:resAll P (envOf a) w fn.results.toList=some l):(results fn a.tmps).run P w = .ok (tupOf l) w:=by
 have h1:=run_resAll a w _ l h
 have h2:results fn a.tmps=(do
  let vs ← fn.results.mapM (rvS a.tmps)
  pure (if h:vs.size=1 then vs[0] else .tuple vs)):=rfl
 rw[h2]
 obtain⟨rs,hrs⟩:∃ rs,fn.results=rs:=⟨_,rfl⟩
 rw[hrs] at h1 ⊢
 obtain⟨rl⟩:=rs
 simp only at h1
 rw[List.mapM_toArray]
 simp only[bind_map_left]
 simp[h1]
 match l with
 | []=>simp[tupOf]
 | [v]=>simp[tupOf]
 | v::u::l'=>simp[tupOf]
def env0 (args:List Value):Env:=fun i=>args.getD i undef
theorem calls_of_vc {f:FuncId} {fn:Func} {c:Code} {args:List Value} {w:World} {R:Ending→World→Prop} (hf:P.funcs[f]? = some fn) (hb:fn.body=some c)
 (hd:dstsOk fn.ntmps c=true) (hn:args.length≤fn.ntmps)
 (h:vc P c [] (vRet P fn.results.toList R) (vRet P fn.results.toList R) (env0 args) w):Calls P f args.toArray w R:=by
 refine calls_of_wp hf hb ?_
 have he:envOf { tmps:=args.toArray++Array.replicate (fn.ntmps - args.toArray.size) undef,defers:=[] }=env0 args:=by
  funext i
  simp only[envOf,env0,Array.getD_eq_getD_getElem?,List.getD_eq_getElem?_getD,Array.getElem?_append]
  by_cases hi:i < args.length
  ·simp[hi]
  ·simp only[List.size_toArray,hi,if_false]
   rw[List.getElem?_eq_none (by omega)]
   simp[Array.getElem?_replicate]
   split<;>rfl
 have hfr:Fr fn.ntmps { tmps:=args.toArray++Array.replicate (fn.ntmps - args.toArray.size) undef,defers:=[] }:=⟨by simp; omega,rfl⟩
 refine wp_mono (vc_sound c hd [] _ _ _ w hfr (by rw[he]; exact h)) fun ex a' w' hq=>?_
 cases ex<;>simp only[postK,exitK] at hq
 ·obtain⟨hf',l,hl,hR⟩:=hq
  exact⟨hf'.2,_,results_eq fn a' w' hl,hR⟩
 ·exact hq.2.elim
 ·obtain⟨hf',l,hl,hR⟩:=hq
  exact⟨hf'.2,_,results_eq fn a' w' hl,hR⟩
end
end Go.Proofs.YtfnbhkbfelllgaaGreatDoor
