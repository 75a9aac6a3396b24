import Derived.Test.YtfnbhkbfelllgaaGreatDoorVcB
set_option linter.all false
namespace Go.Proofs.YtfnbhkbfelllgaaGreatDoor
open Go.RowKit
abbrev Kont:=Env→World→Prop
def envOf (a:Act):Env:=fun i=>a.tmps.getD i undef
def Fr (n:Nat) (a:Act):Prop:=a.tmps.size=n∧a.defers=[]
def cellsFrom (w:World) (b:Nat):Nat→Nat→Option (List Value)
 | _,0=>some []
 | o, n + 1 => match w.cell? ⟨b, o, none⟩ with
   | some v=>(cellsFrom w b (o + 1) n).map (v :: ·)
   | none=>none
def lv (P:Program) (t:TypeId) (v:Value) (w:World):Option Value:=match v with
 | .pointer (some ⟨b, o, none⟩) => match tk P t with
   | some (true,n)=>(cellsFrom w b o n).map fun l=>.agg l.toArray
   | some (false,_)=>w.cell? ⟨b,o,none⟩
   | none=>none
 | _=>none
def sto (w:World) (b:Nat):Nat→List Value→Option World
 | _,[]=>some w
 | o,v::vs=>if v.oneCell'=true∧(w.cell? ⟨b,o,none⟩).isSome=true∧w.frozen? ⟨b,o,none⟩=false then sto (w.setCell ⟨b,o,none⟩ v) b (o + 1) vs else none
def stv (P:Program) (t:TypeId) (p v:Value) (w:World):Option World:=match p with
 | .pointer (some ⟨b, o, none⟩) => match tk P t with
   | some (_,n)=>if v.cells.size=n then sto w b o v.cells.toList else none
   | none=>none
 | _=>none
def putAt (cs:List Value):Nat→List Value→List Value
 | _,[]=>cs
 | o,v::vs=>putAt (cs.set o v) (o + 1) vs
def lay (pl:Nat→Option (Nat×Nat)):List Value→List (Nat×Value)→Option (List Value)
 | cs,[]=>some cs
 | cs, (i, v) :: rest => match pl i with
   | some (o,s)=>if v.cells.size=s∧o + s≤cs.length then lay pl (putAt cs o v.cells.toList) rest else none
   | none=>none
def rept (z:List Value):Nat→List Value
 | 0=>[]
 | n + 1=>z++rept z n
def places (P:Program) (t:TypeId):Option (List (Nat×Nat)):=match P.underlying t with
 | some (.struct fs)=>fs.toList.mapM fun f=>(P.info? f.type).map fun i=>(f.offset,i.size)
 | _=>none
def bld (P:Program) (t:TypeId) (ps:List (Nat×Value)):Option Value:=match zv P t with
 | none=>none
 | some z => match places P t with
   | some pl=>(lay (fun i=>pl[i]?) z.cells.toList ps).map fun l=>.agg l.toArray
   | none => match ar P t with
     | some (_,_,sz)=>(lay (fun i=>some (i * sz,sz)) z.cells.toList ps).map fun l=>.agg l.toArray
     | none=>none
def bls (P:Program) (t:TypeId) (len:Nat) (ps:List (Nat×Value)):Option (Nat×List Value):=match sl P t with
 | none=>none
 | some (e, sz) => match zv P e with
   | none=>none
   | some z=>if z.cells.size=sz∧0 < sz∧len * sz≤16777216 then (lay (fun i=>some (i * sz,sz)) (rept z.cells.toList len) ps).map fun l=>(e,l) else none
def vSet (r:Option Value) (e:Env) (d:Option Nat) (K:Kont) (w:World):Prop:=∃ v,r=some v∧K (upd e d v) w
def vSto (r:Option World) (e:Env) (d:Option Nat) (K:Kont):Prop:=∃ w,r=some w∧K (upd e d undef) w
def vNew (r:Option (Nat×List Value)) (f:Addr→Value) (e:Env) (d:Option Nat) (K:Kont) (w:World):Prop:=
 ∃ t cs,r=some (t,cs)∧K (upd e d (f ⟨w.heap.size,0,none⟩)) (w.alloc (.cells cs.toArray t))
def okF (P:Program) (f:FuncId):Bool:=match P.funcs[f]? with
 | some fn => !(fn.name == "runtime.NumGoroutine") && fn.body.isSome
 | none=>false
def vCall (P:Program) (f:FuncId) (args:Array Value) (w:World) (d:Option Nat) (e:Env) (K:Kont):Prop:=
 okF P f=true∧Calls P f args w fun en w'=>∃ v,en = .returned v∧K (upd e d v) w'
def vCallV (P:Program) (v:Value) (args:Array Value) (w:World) (d:Option Nat) (e:Env) (K:Kont):Prop:=
 ∃ f first captured,v = .func (.func f) first captured∧vCall P f (first++args++captured) w d e K
def vRaw (P:Program) (o:Oper) (e:Env) (K:Kont) (w:World):Prop:=match (execOp (ev e) o).run P w with
 | .ok (.value v) w'=>K (upd e o.dst v) w'
 | .ok .skip w'=>K (upd e o.dst undef) w'
 | .ok (.enter f args) w'=>Calls P f args w' fun en w''=>∃ v,en = .returned v∧K (upd e o.dst v) w''
 | _=>False
def vop (P:Program) (o:Oper) (K:Kont) (e:Env) (w:World):Prop:=match o.op with
 | .load t a=>vSet (lv P t (ev e a) w) e o.dst K w
 | .store t a x=>vSto (stv P t (ev e a) (ev e x) w) e o.dst K
 | .alloc t=>vNew ((zv P t).map fun z=>(t,z.cells.toList)) (fun a=>.pointer (some a)) e o.dst K w
 | .box t x=>vNew (some (t,(ev e x).cells.toList)) (fun a=>.pointer (some a)) e o.dst K w
 | .build t ps=>vSet (bld P t (ps.toList.map fun p=>(p.1,ev e p.2))) e o.dst K w
 | .buildSlice t len ps=>vNew (bls P t len (ps.toList.map fun p=>(p.1,ev e p.2))) (fun a=>.slice (some a) len len) e o.dst K w
 | .call c => match c.callee with
   | .value f=>vCallV P (ev e f) (c.args.map (ev e)) w o.dst e K
   | .builtin .len=>vSet (pvCall P e c) e o.dst K w∨vRaw P o e K w
   | _=>vRaw P o e K w
 | .move x=>K (upd e o.dst (ev e x)) w
 | .assign x=>K (upd e o.dst (ev e x)) w
 | .pick .. | .nilCheck .. | .binOp .. | .unOp .. | .makeFunc .. | .fieldAddr .. | .field .. | .indexAddr .. | .index .. | .extract .. | .slice .. => vSet (pv P e o.op) e o.dst K w
 | .convert s d x => match ev e x with
   | .int _ _=>vSet (pv P e (.convert s d x)) e o.dst K w
   | _=>vRaw P o e K w
 | _=>vRaw P o e K w
def gval (e:Env) (d:Option Nat):Option Bool:=match d with
 | some d => match e d with
   | .bool b=>some b
   | _=>none
 | none=>none
def vG (g:Option Bool) (want:Bool) (K1 K2:Kont) (e:Env) (d:Option Nat) (w:World):Prop:=if g=some want then K1 e w else K2 (upd e d undef) w
def vops (P:Program) (ops:Array Oper):List Oper→Kont→Env→World→Prop
 | [],k,e,w=>k e w
 | o :: os, k, e, w => match o.guard with
   | none=>vop P o (vops P ops os k) e w
   | some (j,want)=>vG (gval e ((ops[j]?).bind (·.dst))) want (vop P o (vops P ops os k)) (vops P ops os k) e o.dst w
def vDraw (P:Program) (id:Nat) (ops:Array Oper) (k:Kont) (e:Env) (w:World):Prop:=
 ∀ n a,Fr n a→(∀ o∈ops.toList,∀ d',o.dst=some d'→d' < n)→envOf a=e→(Code.region id ops true).wp P (fun ex a' w'=>ex = .normal∧Fr n a'∧k (envOf a') w') a w
def vCond (v:Value) (K1 K2:Kont) (e:Env) (w:World):Prop:=∃ b,v = .bool b∧if b then K1 e w else K2 e w
def exitK:List (Nat×Kont)→Nat→Kont
 | [],_=>fun _ _=>False
 | (i,k)::bs,j=>if i=j then k else exitK bs j
def vLoop (body:Kont→Kont) (e:Env) (w:World):Prop:=
 ∃ (I:Kont) (μ:Env→World→Nat),I e w∧∀ e w,I e w→body (fun e' w'=>I e' w'∧μ e' w' < μ e w) e w
def vc (P:Program):Code→List (Nat×Kont)→Kont→Kont→Env→World→Prop
 | .skip,_,_,k,e,w=>k e w
 | .region id ops false,_,_,k,e,w=>vops P ops ops.toList k e w
 | .region id ops true,_,_,k,e,w=>vDraw P id ops k e w
 | .seq a b,bs,r,k,e,w=>vc P a bs r (vc P b bs r k) e w
 | .cond c a b,bs,r,k,e,w=>vCond (ev e c) (vc P a bs r k) (vc P b bs r k) e w
 | .block id c,bs,r,k,e,w=>vc P c ((id,k)::bs) r k e w
 | .exit id,bs,_,_,e,w=>exitK bs id e w
 | .loop c,bs,r,_,e,w=>vLoop (vc P c bs r) e w
 | .ret,_,r,_,e,w=>r e w
 | .scope c,bs,r,k,e,w=>vc P c bs r k e w
 | .label _,_,_,k,e,w=>k e w
 | _,_,_,_,_,_=>False
def dstsOk (n:Nat):Code→Bool
 | .region _ ops _=>ops.all fun o=>match o.dst with | some d=>decide (d < n) | none=>true
 | .seq a b=>dstsOk n a && dstsOk n b
 | .cond _ a b=>dstsOk n a && dstsOk n b
 | .block _ c | .loop c | .scope c=>dstsOk n c
 | _=>true
def postK (n:Nat) (bs:List (Nat×Kont)) (r k:Kont):Exit→Act→World→Prop
 | .normal,a,w=>Fr n a∧k (envOf a) w
 | .exit id,a,w=>Fr n a∧exitK bs id (envOf a) w
 | .ret,a,w=>Fr n a∧r (envOf a) w
 | _,_,_=>False
section
variable {P:Program}
theorem eval_envOf (a:Act):a.eval=ev (envOf a):=by
 funext x
 cases x<;>rfl
theorem Fr.put {n:Nat} {a:Act} (h:Fr n a) (d:Option Nat) (v:Value):Fr n (a.put d v):=by
 cases d with
 | none=>exact h
 | some d=>exact⟨by simp[Act.put,h.1],h.2⟩
theorem envOf_put {n:Nat} {a:Act} (h:Fr n a) {d:Option Nat} (hd:∀ d',d=some d'→d' < n) (v:Value):envOf (a.put d v)=upd (envOf a) d v:=by
 cases d with
 | none=>rfl
 | some d =>
   have hlt:=hd d rfl
   funext i
   simp only[envOf,Act.put,upd]
   by_cases hi:i=d
   ·subst hi
    simp[h.1,hlt]
   ·rw[if_neg hi]
    simp[Array.getElem?_setIfInBounds_ne (Ne.symm hi)]
theorem gval_eq (ops:Array Oper) (a:Act) (j:Nat):yielded ops a.tmps j=gval (envOf a) ((ops[j]?).bind (·.dst)):=by
 unfold yielded gval
 cases (ops[j]?).bind (·.dst) with
 | none=>rfl
 | some d =>
   simp only[Option.bind_some,envOf]
   rcases Nat.lt_or_ge d a.tmps.size with h | h
   ·simp only[Array.getElem?_eq_getElem h,Array.getD,h,dite_true]
    generalize hv:a.tmps[d]=v
    have hv':a.tmps.getInternal d h=v:=hv
    rw[hv']
    cases v<;>rfl
   ·rw[Array.getElem?_eq_none h]
    simp[Array.getElem?_eq_none h,undef]
theorem run_cellsFrom {w:World} {b:Nat}:∀ (n o i:Nat) (a:Addr) (acc:Array Value) (l:List Value),a.block=b→a.spot=none→a.off + i=o→cellsFrom w b o n=some l→(loadCellsFrom a i n acc).run P w = .ok (acc++l.toArray) w
 | 0, o, i, a, acc, l, _, _, _, h => by
   simp[cellsFrom] at h
   subst h
   simp[loadCellsFrom]
 | n + 1, o, i, a, acc, l, hb, hs, ho, h => by
   simp only[cellsFrom] at h
   split at h
   ·rename_i v hv
    simp only[Option.map_eq_some_iff] at h
    obtain⟨l',hl',rfl⟩:=h
    have ha:a.add i=⟨b,o,none⟩:=by
     obtain⟨b',o',s'⟩:=a
     simp only at hb hs ho
     subst hb hs ho
     simp only[Addr.add]
     split<;>simp_all
    have ih:=run_cellsFrom n (o + 1) (i + 1) a (acc.push v) l' hb hs (by omega) hl'
    simp only[loadCellsFrom]
    simp[load,Sem.run,ha,hv,ih]
   ·cases h
theorem lv_run {t:TypeId} {p v:Value} {w:World} (h:lv P t p w=some v):(Instr.loadAt t p).run P w = .ok v w:=by
 unfold lv at h
 split at h
 ·rename_i b o
  split at h
  ·rename_i n hk
   obtain⟨h1,h2⟩:=tk_agg hk
   simp only[Option.map_eq_some_iff] at h
   obtain⟨l,hl,rfl⟩:=h
   have:=run_cellsFrom (P:=P) n o 0 ⟨b,o,none⟩ #[] l rfl rfl rfl hl
   simp[Instr.loadAt,Instr.sureAddr,loadVar,h1,h2,loadCells,this]
  ·rename_i n hk
   obtain⟨h1,h2⟩:=tk_one hk
   simp[Instr.loadAt,Instr.sureAddr,loadVar,h1,load,Sem.run,h]
  ·cases h
 ·cases h
theorem run_sto {b:Nat}:∀ (vs:List Value) (w w':World) (o i:Nat) (a:Addr),a.block=b→a.spot=none→a.off + i=o→sto w b o vs=some w'→(storeCells a vs i).run P w = .ok () w'
 | [], w, w', o, i, a, _, _, _, h => by
   simp[sto] at h
   subst h
   simp[storeCells]
 | v :: vs, w, w', o, i, a, hb, hs, ho, h => by
   simp only[sto] at h
   split at h
   ·rename_i hh
    obtain⟨h1,h2,h3⟩:=hh
    obtain⟨u,hu⟩:=Option.isSome_iff_exists.1 h2
    have ha:a.add i=⟨b,o,none⟩:=by
     obtain⟨b',o',s'⟩:=a
     simp only at hb hs ho
     subst hb hs ho
     simp only[Addr.add]
     split<;>simp_all
    have ih:=run_sto vs (w.setCell ⟨b,o,none⟩ v) w' (o + 1) (i + 1) a hb hs (by omega) h
    simp only[storeCells]
    cases v<;>simp_all [store,Sem.run,Value.oneCell']
   ·cases h
theorem stv_run {t:TypeId} {p v:Value} {w w':World} (h:stv P t p v w=some w'):(Instr.storeAt t p v).run P w = .ok () w':=by
 unfold stv at h
 split at h
 ·rename_i b o
  split at h
  ·rename_i g n hk
   split at h
   ·rename_i hn
    have h2:∀ w,(sizeOf t).run P w = .ok n w:=by
     cases g
     ·exact (tk_one hk).2
     ·exact (tk_agg hk).2
    have:=run_sto (P:=P) v.cells.toList w w' o 0 ⟨b,o,none⟩ rfl rfl rfl h
    simp[Instr.storeAt,Instr.sureAddr,storeVar,h2,hn,this]
   ·cases h
  ·cases h
 ·cases h
theorem zv_run {t:TypeId} {z:Value} (h:zv P t=some z) (w:World):(zeroValue t).run P w = .ok z w:=by
 unfold zv at h
 obtain⟨i,hi,hz⟩:=Option.bind_eq_some_iff.1 h
 simp[zeroValue,typeInfo,hi,hz]
theorem putAt_fold:∀ (vs:List Value) (k o:Nat) (cs:Array Value),((vs.zipIdx k).foldl (fun cs (x:Value×Nat)=>cs.setIfInBounds (o + x.2) x.1) cs).toList=putAt cs.toList (o + k) vs:=by
 intro vs
 induction vs with
 | nil=>intro k o cs; simp[putAt]
 | cons v vs ih =>
   intro k o cs
   have:=ih (k + 1) o (cs.setIfInBounds (o + k) v)
   simp only[putAt,List.zipIdx_cons,List.foldl_cons]
   rw[show o + k + 1=o + (k + 1) by omega]
   rw[this]
   simp
theorem lay_fill {pl:Nat→Option (Nat×Nat)}:∀ (ps:List (Nat×Value)) (cs:Array Value) (l:List Value),lay pl cs.toList ps=some l→Instr.fill pl cs ps=some l.toArray
 | [], cs, l, h => by
   simp[lay] at h
   subst h
   simp[Instr.fill]
 | (i, v) :: ps, cs, l, h => by
   simp only[lay] at h
   split at h
   ·rename_i o s hp
    split at h
    ·rename_i hh
     have hf:=putAt_fold v.cells.toList 0 o cs
     simp only[Nat.add_zero] at hf
     rw[← hf] at h
     have ih:=lay_fill ps _ l h
     have hne:¬ (v.cells.size≠s || o + v.cells.size > cs.size)=true:=by
      simp only[Array.length_toList] at hh
      simp[hh.1]; omega
     simp only[Instr.fill,hp]
     rw[if_neg hne]
     have he:(v.cells.zipIdx.foldl (fun cs (x:Value×Nat)=>cs.setIfInBounds (o + x.2) x.1) cs)=((v.cells.toList.zipIdx 0).foldl (fun cs (x:Value×Nat)=>cs.setIfInBounds (o + x.2) x.1) cs):=by
      rw[← Array.foldl_toList]
      simp
     rw[← ih,← he]
    ·cases h
   ·cases h
end
end Go.Proofs.YtfnbhkbfelllgaaGreatDoor
