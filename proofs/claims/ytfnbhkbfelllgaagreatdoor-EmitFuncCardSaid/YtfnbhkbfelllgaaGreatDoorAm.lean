import Derived.Test.YtfnbhkbfelllgaaGreatDoorAl
import Derived.Test.YtfnbhkbfelllgaaGreatDoorAt
import Derived.Test.YtfnbhkbfelllgaaGreatDoorAx
import Derived.Test.YtfnbhkbfelllgaaGreatDoorAo
import Derived.Test.YtfnbhkbfelllgaaGreatDoorAy
import Derived.Test.YtfnbhkbfelllgaaGreatDoorAz
import Derived.Test.YtfnbhkbfelllgaaGreatDoorAA
import Derived.Test.YtfnbhkbfelllgaaGreatDoorAC
import Derived.Test.YtfnbhkbfelllgaaGreatDoorAr
import Derived.Laws.BytesArg
set_option linter.all false
namespace Go.Proofs.YtfnbhkbfelllgaaGreatDoor
open Go.RowKit
def bytesOf : List (List AV) → Option (List Int)
 | [] => some []
 | [.d (.v (.int .u8 n))] :: l => match bytesOf l with
   | some ns => some (n :: ns)
   | none => none
 | _ => none
theorem bytesOf_spec : ∀ {l : List (List AV)} {ns : List Int}, bytesOf l = some ns → l = ns.map fun n => [.d (.v (.int .u8 n))]
 | [], ns, h => by simp only [bytesOf, Option.some.injEq] at h; subst h; rfl
 | x :: l, ns, h => by
   unfold bytesOf at h
   split at h
   ·rename_i h0; cases h0
   ·rename_i n l' h0
    simp only [List.cons.injEq] at h0
    obtain ⟨rfl, rfl⟩ := h0
    split at h
    ·rename_i ns' hns
     simp only [Option.some.injEq] at h
     subst h
     rw [bytesOf_spec hns]
     rfl
    ·cases h
   ·cases h
theorem aRaw_b2s {P : Program} {n : Nat} {e : AEnv} {A : AHeap} {src el dst : TypeId} {x : Operand} {d : Option Nat} {ty : TypeId} {pos : String} {af : Array Edge} {gd : Option (Nat × Bool)} {K : AKont}
 (hs : P.underlying src = some (.slice el)) (he : P.underlying el = some (.int .u8)) (hd : P.underlying dst = some .string) {xs : List Int}
 (h : elsOf A (eva e x) = some (xs.map fun n => [.d (.v (.int .u8 n))])) (hk : K (aupd e d (.d (.v (.string (strOfNums xs))))) A) : aRaw P n ⟨d, .convert src dst x, ty, pos, af, gd⟩ e A K := by
 rintro C ec w hn ⟨h0, ι, h1, h2, h3, h4⟩
 obtain ⟨a, c, news, hu, hlen, hnone, hcell, hone, hval⟩ := elsOf_sound (sz := 1) h1 h (by simp) ⟨eva_shp h3 x, eva_mem h4 x⟩
 have hnews : news = xs.map (Value.int .u8) := by
  refine List.ext_getElem? fun j => ?_
  rw [List.getElem?_map]
  rcases Nat.lt_or_ge j xs.length with hj | hj
  ·obtain ⟨v, g1, g2, _⟩ := hval j [.d (.v (.int .u8 xs[j]))] (by simp [hj]) 0 _ rfl
   simp only [Nat.mul_one, Nat.add_zero] at g1
   have := g2.1
   simp only [Shp] at this
   subst this
   rw [g1]
   simp [hj]
  ·rw [List.getElem?_eq_none (by simp at hlen; omega), List.getElem?_eq_none hj]
   rfl
 have hrun : (convert src dst (ev ec x)).run P w = .ok (.string (strOfNums xs)) w := by
  rw [hu, run_convert_bytes_string w src dst el a _ c hs he hd]
  cases a with
  | none =>
    have := hnone rfl
    simp only [List.map_eq_nil_iff] at this
    subst this
    simp [Conv.bytesToString]
    rfl
  | some b =>
    have hl : (loadCells b (xs.map fun n => [AV.d (.v (.int .u8 n))]).length).run P w = .ok (xs.map (Value.int .u8)).toArray w := by
     have := run_loadCells_list (P := P) w b (xs.map (Value.int .u8)) fun j v hj => hcell b rfl j v (by rw [hnews]; exact hj)
     simpa using this
    rw [run_bytesToString w b _ c xs hl, foldl_push_bytes]
    simp [strOfNums, ByteArray.empty, ByteArray.emptyWithCapacity]
    rfl
 unfold vRaw execOp
 simp only [Sem.run_bind, Sem.run_pure, hrun, Result.andThen_ok]
 exact ⟨_, _, hk, h0, ι, h1, h2, shp_upd h3 (by simp [Shp]), mem_upd h4 (by simp [Mem, Rd, Value.oneCell'])⟩
inductive XR where
 | nx (e : AEnv) (A : AHeap)
 | ex (j : Nat) (e : AEnv) (A : AHeap)
 | rt (e : AEnv) (A : AHeap)
abbrev XF := FuncId → List AV → AHeap → Option (AV × AHeap)
def XFok (P : Program) (F : XF) : Prop := ∀ f args A r A', F f args A = some (r, A') → okF P f = true ∧ AC P f args A fun r1 A1 => r1 = r ∧ A1 = A'
def xset (r : Option AV) (e : AEnv) (d : Option Nat) (A : AHeap) : Option (AEnv × AHeap) := match r with
 | some v => some (aupd e d v, A)
 | none => none
def xnew (r : Option (AV × Blk)) (e : AEnv) (d : Option Nat) (A : AHeap) : Option (AEnv × AHeap) := match r with
 | some (v, k) => some (aupd e d v, A ++ [k])
 | none => none
def xstr (P : Program) (s t : TypeId) (r : Option (List (List AV))) (e : AEnv) (d : Option Nat) (A : AHeap) : Option (AEnv × AHeap) := match P.underlying s, P.underlying t, r with
 | some (.slice el), some .string, some new => match P.underlying el, bytesOf new with
   | some (.int .u8), some xs => some (aupd e d (.d (.v (.string (strOfNums xs)))), A)
   | _, _ => none
 | _, _, _ => none
theorem xstr_spec {P : Program} {n : Nat} {s t : TypeId} {x : Operand} {e e' : AEnv} {d : Option Nat} {ty : TypeId} {pos : String} {af : Array Edge} {gd : Option (Nat × Bool)} {A A' : AHeap} (h : xstr P s t (elsOf A (eva e x)) e d A = some (e', A')) {K : AKont} (hk : K e' A') :
 aRaw P n ⟨d, .convert s t x, ty, pos, af, gd⟩ e A K := by
 unfold xstr at h
 split at h
 ·rename_i el new h1 h2 h3
  split at h
  ·rename_i xs h4 h5
   simp only [Option.some.injEq, Prod.mk.injEq] at h
   obtain ⟨rfl, rfl⟩ := h
   exact aRaw_b2s h1 h4 h2 (by rw [h3, bytesOf_spec h5]) hk
  ·cases h
 ·cases h
def xnx (A : AHeap) (e : AEnv) (d : Option Nat) : AV → Option (AEnv × AHeap)
 | .ptr b ver 0 0 => match A[b]? with
   | some ⟨ver', true, 1000000, 2, [[.d (.v (.string s)), .d (.v (.int .i64 (.ofNat p)))]]⟩ =>
     if ver' = ver then (if h : p < s.size then (if (s[p]'h).toNat < 128 then some (aupd e d (.tup [.d (.v (.bool true)), .d (.v (.int .i64 p)), .d (.v (.int .i32 (s[p]'h).toNat))]), A.set b (itB ver s (p + 1))) else none) else some (aupd e d (.tup [.d (.v (.bool false))]), A)) else none
   | _ => none
 | _ => none
theorem xnx_spec {P : Program} {n : Nat} {x : Operand} {e e' : AEnv} {d : Option Nat} {ty : TypeId} {pos : String} {af : Array Edge} {gd : Option (Nat × Bool)} {A A' : AHeap} (h : xnx A e d (eva e x) = some (e', A')) {K : AKont} (hk : K e' A') : aRaw P n ⟨d, .next x true, ty, pos, af, gd⟩ e A K := by
 unfold xnx at h
 split at h
 case h_2 => cases h
 rename_i b ver hx
 split at h
 case h_2 => cases h
 rename_i ver' s p hA
 split at h
 case isFalse => cases h
 rename_i hv
 subst hv
 split at h
 ·rename_i hp
  split at h
  ·rename_i ha
   simp only [Option.some.injEq, Prod.mk.injEq] at h
   obtain ⟨rfl, rfl⟩ := h
   exact aRaw_next hx hA (fun _ => ⟨ha, hk⟩) (fun h => by omega)
  ·cases h
 ·rename_i hp
  simp only [Option.some.injEq, Prod.mk.injEq] at h
  obtain ⟨rfl, rfl⟩ := h
  exact aRaw_next hx hA (fun h => absurd h hp) (fun _ => hk)
def lenE (P : Program) (A : AHeap) (e : AEnv) (c : Call) : Option AV := match apv P A e (.call c) with
 | some r => some r
 | none => match c.args.toList, c.argTypes.toList with
   | [x], [t] => lenM P t A (eva e x)
   | _, _ => none
def xop (P : Program) (F : XF) (o : Oper) (e : AEnv) (A : AHeap) : Option (AEnv × AHeap) := match o.op with
 | .load t a => xset (alv P A t (eva e a)) e o.dst A
 | .store t a x => match astv P A t (eva e a) (eva e x) with
   | some A' => some (aupd e o.dst .any, A')
   | none => none
 | .alloc t => xnew (newA P A.length e (.alloc t)) e o.dst A
 | .box t x => xnew (newA P A.length e (.box t x)) e o.dst A
 | .buildSlice t len ps => xnew (newA P A.length e (.buildSlice t len ps)) e o.dst A
 | .makeSlice t x y => match eva e x, eva e y with
   | .d (.v (.int _ (.ofNat l))), .d (.v (.int _ (.ofNat c))) => (match byt P t with
     | some (el, sz, bytes) => (match zvA P el with
       | some z => if l ≤ c ∧ c ≤ maxLen ∧ bytes * c ≤ 140737488355328 then some (aupd e o.dst (.own A.length 0 0 l), A ++ [⟨0, true, el, sz, List.replicate l z⟩]) else none
       | none => none)
     | none => none)
   | _, _ => none
 | .range t x => match P.underlying t, eva e x with
   | some .string, .d (.v (.string s)) => some (aupd e o.dst (.ptr A.length 0 0 0), A ++ [itB 0 s 0])
   | _, _ => none
 | .next x true => xnx A e o.dst (eva e x)
 | .makeMap t none => match makeM P t with
   | some (tg, sz) => some (aupd e o.dst (.mp A.length 0), A ++ [⟨0, true, tg, sz, []⟩])
   | none => none
 | .lookup t x y ok => xset (lookupE P t A ok (eva e x) (eva e y)) e o.dst A
 | .mapUpdate t x y z => match updE P t A (eva e x) (eva e y) (eva e z) with
   | some A' => some (aupd e o.dst .any, A')
   | none => none
 | .mapEntry t x y => match entryK P t A (eva e x) (eva e y) with
   | some (r, A') => some (aupd e o.dst r, A')
   | none => none
 | .entryStore _ x y z => match entStK P A (eva e x) (eva e y) (eva e z) with
   | some A' => some (aupd e o.dst .any, A')
   | none => none
 | .insert t x y z => match updE P t A (eva e x) (eva e y) (eva e z) with
   | some A' => some (aupd e o.dst .any, A')
   | none => none
 | .makeInterface t x => match P.underlying t with
   | some td => if notIface td = true then some (aupd e o.dst (.ifc t (eva e x)), A) else none
   | none => none
 | .typeAssert x _ t ok => match P.underlying t, eva e x with
   | some td, .ifc t' c => if t' = t ∧ notIface td = true then some (aupd e o.dst (okM ok c true), A) else none
   | _, _ => none
 | .call c => match c.callee with
   | .value f => match eva e f with
     | .fn g fs cs => match F g (fs ++ c.args.toList.map (eva e) ++ cs) A with
       | some (r, A') => some (aupd e o.dst r, A')
       | none => none
     | _ => none
   | .invoke recv name => match eva e recv with
     | .ifc t c0 => (match methA P t name with
       | some f => if okF P f = true then (match F f (c0 :: c.args.toList.map (eva e)) A with
         | some (r, A') => some (aupd e o.dst r, A')
         | none => none) else none
       | none => none)
     | _ => none
   | .builtin .len => xset (lenE P A e c) e o.dst A
   | .builtin .append => match c.args.toList, c.argTypes.toList with
     | [s, x], [t, t'] => if t' = t then (match byt P t with
       | some (el, sz, bytes) => match appT el sz A (eva e s) (eva e x) with
         | some (r, A', m) => if m ≤ maxLen ∧ m * bytes ≤ 140737488355328 then some (aupd e o.dst r, A') else none
         | none => none
       | none => none) else (match P.underlying t', eva e s, eva e x with
       | some (.int .i64), .d (.v (.slice none 0 0)), .d (.v (.int .i64 (.ofNat m))) => (match byt P t with
         | some (el, sz, bytes) => (match zvA P el with
           | some z => if 0 < m ∧ m ≤ maxLen ∧ m * bytes ≤ 140737488355328 then some (aupd e o.dst (.own A.length 0 0 m), A ++ [⟨0, true, el, sz, List.replicate m z⟩]) else none
           | none => none)
         | none => none)
       | _, _, _ => none)
     | _, _ => none
   | .builtin .cap => match c.args.toList, c.argTypes.toList with
     | [x], [t] => (match P.underlying t, eva e x with
       | some (.slice _), .d (.v (.slice none 0 0)) => some (aupd e o.dst (.d (.v (.int .i64 0))), A)
       | _, _ => none)
     | _, _ => none
   | .builtin .min => match c.args.toList with
     | [x, y] => (match eva e x, eva e y with
       | .d (.v (.int k a)), .d (.v (.int _ b)) => some (aupd e o.dst (.d (.v (.int k (if b < a then b else a)))), A)
       | _, _ => none)
     | _ => none
   | .builtin .max => match c.args.toList with
     | [x, y] => (match eva e x, eva e y with
       | .d (.v (.int k a)), .d (.v (.int _ b)) => some (aupd e o.dst (.d (.v (.int k (if a < b then b else a)))), A)
       | _, _ => none)
     | _ => none
   | .builtin .clear => match c.args.toList, c.argTypes.toList with
     | [x], [t] => (match clearA P t A (eva e x) with
       | some A' => some (aupd e o.dst (.tup []), A')
       | none => none)
     | _, _ => none
   | _ => none
 | .convert s d x => match eva e x with
   | .d (.v (.int k m)) => xset (apv P A e (.convert s d x)) e o.dst A
   | .own b ver i len => xstr P s d (elsOf A (.own b ver i len)) e o.dst A
   | .d (.sl sz l) => xstr P s d (elsOf A (.d (.sl sz l))) e o.dst A
   | _ => none
 | .binOp op t x y u => match op, eva e x, eva e y with
   | .eql, .d (.sl _ xs), .d (.v (.slice none _ _)) => if (sl P t).isSome then (match xs with
     | [] => none
     | _ :: _ => some (aupd e o.dst (.d (.v (.bool false))), A)) else none
   | .neq, .d (.sl _ xs), .d (.v (.slice none _ _)) => if (sl P t).isSome then (match xs with
     | [] => none
     | _ :: _ => some (aupd e o.dst (.d (.v (.bool true))), A)) else none
   | .eql, .own b ver _ len, .d (.v (.slice none _ _)) => if (sl P t).isSome = true ∧ 0 < len ∧ (curB A b ver).isSome = true then some (aupd e o.dst (.d (.v (.bool false))), A) else none
   | .neq, .own b ver _ len, .d (.v (.slice none _ _)) => if (sl P t).isSome = true ∧ 0 < len ∧ (curB A b ver).isSome = true then some (aupd e o.dst (.d (.v (.bool true))), A) else none
   | _, _, _ => xset (apv P A e (.binOp op t x y u)) e o.dst A
 | .move .. | .assign .. | .pick .. | .nilCheck .. | .unOp .. | .makeFunc .. | .fieldAddr .. | .field .. | .indexAddr .. | .index .. | .extract .. | .slice .. | .build .. => xset (apv P A e o.op) e o.dst A
 | _ => none
def xops (P : Program) (F : XF) (ops : Array Oper) : List Oper → AEnv → AHeap → Option (AEnv × AHeap)
 | [], e, A => some (e, A)
 | o :: os, e, A => match o.guard with
   | none => match xop P F o e A with
     | some (e', A') => xops P F ops os e' A'
     | none => none
   | some (j, want) => match agval e ((ops[j]?).bind (·.dst)) with
     | some b => if b = some want then (match xop P F o e A with
       | some (e', A') => xops P F ops os e' A'
       | none => none) else xops P F ops os (aupd e o.dst (.tup [])) A
     | none => none
def xdo (P : Program) (n0 : Nat) (F : XF) (i : Nat) (o : Oper) (σ : ADS) : Option ADS := match o.op with
 | .load t a => match eva σ.e a with
   | .ptr b ver j of => if b < n0 then (match alv P σ.A t (.ptr b ver j of) with
     | some v => some ⟨aupd σ.e o.dst v, σ.A, (i, b) :: σ.lds, σ.sts, σ.st⟩
     | none => none) else none
   | .ip cs => match alv P σ.A t (.ip cs) with
     | some v => some ⟨aupd σ.e o.dst v, σ.A, σ.lds, σ.sts, σ.st⟩
     | none => none
   | _ => none
 | .store t a x => match eva σ.e a with
   | .ptr b ver j of => match curB σ.A b ver with
     | some k => if k.wr = true then some ⟨aupd σ.e o.dst .any, σ.A, σ.lds, (i, b) :: σ.sts, σ.st ++ [(t, .ptr b ver j of, eva σ.e x)]⟩ else none
     | none => none
   | _ => none
 | .alloc t => match newA P σ.A.length σ.e (.alloc t) with
   | some (v, k) => some ⟨aupd σ.e o.dst v, σ.A ++ [k], σ.lds, σ.sts, σ.st⟩
   | none => none
 | .box t x => match newA P σ.A.length σ.e (.box t x) with
   | some (v, k) => some ⟨aupd σ.e o.dst v, σ.A ++ [k], σ.lds, σ.sts, σ.st⟩
   | none => none
 | .buildSlice t len ps => match newA P σ.A.length σ.e (.buildSlice t len ps) with
   | some (v, k) => some ⟨aupd σ.e o.dst v, σ.A ++ [k], σ.lds, σ.sts, σ.st⟩
   | none => none
 | .makeSlice t x y => match newA P σ.A.length σ.e (.makeSlice t x y) with
   | some (v, k) => some ⟨aupd σ.e o.dst v, σ.A ++ [k], σ.lds, σ.sts, σ.st⟩
   | none => none
 | .call c => match c.callee with
   | .value f => match eva σ.e f with
     | .fn g fs cs => match (if clo.cloL (fs ++ c.args.toList.map (eva σ.e) ++ cs) then some (fs ++ c.args.toList.map (eva σ.e) ++ cs) else omap (reiV false σ.A 9) (fs ++ c.args.toList.map (eva σ.e) ++ cs)) with
       | some args' => match F g args' [] with
         | some (r0, A') => match reiV false A' 9 r0 with
           | some r => if clo r = true ∧ (clo.cloL (fs ++ c.args.toList.map (eva σ.e) ++ cs) = true ∨ scal r = true) then some ⟨aupd σ.e o.dst r, σ.A, σ.lds, σ.sts, σ.st⟩ else none
           | none => none
         | none => none
       | none => none
     | _ => none
   | .builtin .len => match apv P σ.A σ.e (.call c) with
     | some v => some ⟨aupd σ.e o.dst v, σ.A, σ.lds, σ.sts, σ.st⟩
     | none => none
   | _ => none
 | .move .. | .assign .. | .pick .. | .nilCheck .. | .binOp .. | .unOp .. | .makeFunc .. | .fieldAddr .. | .field .. | .indexAddr .. | .index .. | .extract .. | .slice .. | .convert .. | .build .. => match apv P σ.A σ.e o.op with
   | some v => some ⟨aupd σ.e o.dst v, σ.A, σ.lds, σ.sts, σ.st⟩
   | none => none
 | _ => none
def xds (P : Program) (n0 : Nat) (F : XF) (ops : List Oper) : Nat → List Oper → ADS → Option ADS
 | _, [], σ => some σ
 | i, o :: os, σ => match o.guard with
   | none => match xdo P n0 F i o σ with
     | some σ' => xds P n0 F ops (i + 1) os σ'
     | none => none
   | some (j, want) => match agval σ.e ((ops[j]?).bind (·.dst)) with
     | some b => if b = some want then (match xdo P n0 F i o σ with
       | some σ' => xds P n0 F ops (i + 1) os σ'
       | none => none) else xds P n0 F ops (i + 1) os ⟨aupd σ.e o.dst (.tup []), σ.A, σ.lds, σ.sts, σ.st⟩
     | none => none
def xsto (P : Program) : List (TypeId × AV × AV) → AHeap → Option AHeap
 | [], A => some A
 | (t, p, v) :: l, A => match astv P A t p v with
   | some A1 => xsto P l A1
   | none => none
def lateB (late lds sts : List (Nat × Nat)) : Bool := late.all fun p => sts.all fun s => lds.all fun d => s.1 != p.1 || d.1 != p.2 || s.2 != d.2
def isApp : Op → Bool
 | .call c => match c.callee with
   | .builtin .append => true
   | _ => false
 | _ => false
def cutAt : List Oper → Nat
 | [] => 0
 | o :: os => if isApp o.op then 0 else cutAt os + 1
def xdrawAt (P : Program) (F : XF) (l : List Oper) (e : AEnv) (A : AHeap) (c : Nat) : Option (AEnv × AHeap) :=
 if P.follows .mixedOrders = true ∧ okD (l.take c) = true ∧ okT (l.take c) = true ∧ endOk (l.take c) (l.drop c) = true then
  (match xds P A.length F (l.take c) 0 (l.take c) ⟨e, A, [], [], []⟩ with
  | some σ => if lateB (lateOf (l.take c)) σ.lds σ.sts = true then (match xsto P σ.st σ.A with
    | some A1 => xops P F l.toArray (l.drop c) σ.e A1
    | none => none) else none
  | none => none) else none
def isLine : Op → Bool
 | .call c => match c.callee with
   | .builtin .len => false
   | _ => true
 | .mapUpdate .. | .lookup .. | .makeMap .. | .makeInterface .. | .typeAssert .. | .range .. | .next .. => true
 | _ => false
def isMap : Op → Bool
 | .call c => match c.callee with
   | .builtin .len => false
   | .value _ => false
   | _ => true
 | .mapUpdate .. | .lookup .. | .makeMap .. | .makeInterface .. | .typeAssert .. | .range .. | .next .. => true
 | _ => false
def cutBy (p : Op → Bool) : List Oper → Nat
 | [] => 0
 | o :: os => if p o.op then 0 else cutBy p os + 1
def xcuts (P : Program) (F : XF) (l : List Oper) (e : AEnv) (A : AHeap) : List Nat → Option (AEnv × AHeap)
 | [] => none
 | c :: cs => match xdrawAt P F l e A c with
   | some r => some r
   | none => xcuts P F l e A cs
def xdraw0 (P : Program) (F : XF) (l : List Oper) (e : AEnv) (A : AHeap) : Option (AEnv × AHeap) :=
 xcuts P F l e A (let a := cutBy isMap l; let b := cutBy isLine l; if b = a then [a] else [a, b])
def stab1B (A : AHeap) (s : AV) : AV → Bool
 | .ip _ => true
 | .ptr b ver _ _ => (curB A b ver).isSome && (match s with | .own b2 _ _ _ => !decide (b = b2) | .d _ => true | _ => false)
 | _ => false
def stabLB (A : AHeap) (e : AEnv) (s : AV) (m : Nat) : Nat → List Oper → Bool
 | _, [] => true
 | j, o :: os => (match o.op with
   | .load _ a => m.testBit j || stab1B A s (eva e a)
   | _ => true) && stabLB A e s m (j + 1) os
def xdraw3 (P : Program) (F : XF) (l : List Oper) (e : AEnv) (A : AHeap) : Option (AEnv × AHeap) := match l[cutAt l]? with
 | some ⟨d, .call ⟨.builtin .append, args, ats⟩, ty, pos, af, none⟩ => match args.toList, ats.toList with
   | [s, y], [t, t'] => if t' = t then (match byt P t with
     | some (el, sz, bytes) => if P.follows .mixedOrders = true ∧ okD (l.take (cutAt l)) = true ∧ okT (l.take (cutAt l)) = true ∧ end3 (l.take (cutAt l)) ⟨d, .call ⟨.builtin .append, #[s, y], #[t, t]⟩, ty, pos, af, none⟩ (l.drop (cutAt l + 1)) = true then
       (match xds P A.length F (l.take (cutAt l)) 0 (l.take (cutAt l)) ⟨e, A, [], [], []⟩ with
       | some σ => if lateB (lateOf (l.take (cutAt l))) σ.lds σ.sts = true then (match xsto P σ.st σ.A with
         | some A1 => if stabLB A1 σ.e (eva σ.e s) ((masks [] (l.take (cutAt l) ++ [⟨d, .call ⟨.builtin .append, #[s, y], #[t, t]⟩, ty, pos, af, none⟩])).getD (l.take (cutAt l)).length 0) 0 (l.take (cutAt l)) = true then (match appA el sz A1 (eva σ.e s) (eva σ.e y) with
           | some (r, A2, q) => if q ≤ maxLen ∧ q * bytes ≤ 140737488355328 then xops P F l.toArray (l.drop (cutAt l + 1)) (aupd σ.e d r) A2 else none
           | none => none) else none
         | none => none) else none
       | none => none) else none
     | none => none) else none
   | _, _ => none
 | _ => none
def xseq (P : Program) (F : XF) : List Oper → AEnv → AHeap → Option (List (AEnv × AHeap))
 | [], e, A => some [(e, A)]
 | o :: os, e, A => match xop P F o e A with
   | some (e', A') => match xseq P F os e' A' with
     | some l => some ((e, A) :: l)
     | none => none
   | none => none
def pfx (n k : Nat) : Array Bool := (List.replicate k true ++ List.replicate (n - k) false).toArray
def eqE (ops : List Oper) (e e1 : AEnv) : Bool := ops.all fun o => match o.dst with | some d => beqA (e d) (e1 d) | none => true
def hitS (n f : Nat) (L : Array Bool) (st : List (AEnv × AHeap)) : Option (AEnv × AHeap) := if f ≤ n ∧ L.toList = (pfx n (n - f)).toList then st[n - f]? else none
def xany (P : Program) (F : XF) (ops : List Oper) (st : List (AEnv × AHeap)) : Nat → Array Bool → AEnv → AHeap → Bool
 | 0, _, _, _ => false
 | f + 1, L, e, A => (!(Region.ready .any ops.toArray L).isEmpty) && (Region.ready .any ops.toArray L).all fun i => match ops[i]? with
   | some o => o.guard.isNone && (match xop P F o e A with
     | some (e', A') => (match hitS ops.length f (L.setIfInBounds i true) st with
       | some (e1, A1) => eqE ops e' e1 && beqH A' A1
       | none => xany P F ops st f (L.setIfInBounds i true) e' A')
     | none => false)
   | none => false
def xanyAll (P : Program) (F : XF) (ops : List Oper) (st : List (AEnv × AHeap)) : Bool :=
 ((List.range ops.length).all fun k => match st[k]? with
   | some (e, A) => xany P F ops st (ops.length - k) (pfx ops.length k) e A
   | none => false) && (Region.ready .any ops.toArray (pfx ops.length ops.length)).isEmpty
def still : Op → Bool
 | .load .. | .lookup .. | .makeInterface .. | .typeAssert .. | .convert .. | .binOp .. | .move .. | .assign .. | .pick .. | .nilCheck .. | .unOp .. | .makeFunc .. | .fieldAddr .. | .field .. | .indexAddr .. | .index .. | .extract .. | .slice .. | .build .. => true
 | .call c => match c.callee with
   | .builtin .len | .builtin .cap | .builtin .min | .builtin .max => true
   | _ => false
 | _ => false
def liveB (P : Program) (op : Op) : Option Blk := match op with
 | .alloc t => (match zvA P t with
   | some z => if t < 1000000 ∧ ¬ (16 < z.length ∧ rowsB P t = true) then some ⟨1, true, t, z.length, [z]⟩ else none
   | none => none)
 | _ => none
def chg (ops : List Oper) (ia j : Nat) : Bool := match ops[j]? with
 | some o => !still o.op && decide (j ≠ ia)
 | none => false
def reps (ops : List Oper) (ia : Nat) : List Nat := 0 :: ((List.range ops.length).filter (chg ops ia)).map (· + 1)
def slotOk (ms : List Nat) (ops : List Oper) (i : Nat) (o : Oper) : Bool := (List.range ops.length).all fun j => match ops[j]? with
 | some q => i == j || match q.dst with
   | some d => (match o.dst with | some d' => d != d' | none => true) && (!(seen ops o).contains d || (if j < i then (ms.getD i 0).testBit j else (ms.getD j 0).testBit i))
   | none => true
 | none => true
def isGhost : Option Blk → Bool
 | some ⟨0, _, _, _, []⟩ => true
 | _ => false
def hpAt (st : List (AEnv × AHeap)) (d : AEnv × AHeap) (ia r : Nat) (kl : Blk) (p : Nat) (b : Bool) : AHeap := if b = true ∧ p ≤ ia then (st.getD p d).2.set r kl else (st.getD p d).2
def stillOk (P : Program) (F : XF) (ops : List Oper) (ms : List Nat) (st : List (AEnv × AHeap)) (d0 : AEnv × AHeap) (ia r : Nat) (kl : Blk) (i : Nat) (o : Oper) (q : Nat) (b : Bool) : Bool :=
 (b && (decide (ops.length ≤ ia) || (ms.getD ia 0).testBit i)) || (!b && (decide (ia < q) || (ms.getD i 0).testBit ia)) ||
 ((List.range ops.length).any fun j => chg ops ia j && ((decide (q ≤ j) && (ms.getD i 0).testBit j) || (decide (j < q) && (ms.getD j 0).testBit i))) ||
 ((b == decide (ia < i)) && (List.range ops.length).all fun j => !chg ops ia j || (decide (j < q) == decide (j < i))) ||
 (match xop P F o (st.getD i d0).1 (hpAt st d0 ia r kl q b) with
  | some (e2, _) => (match o.dst with
    | some d => beqA (e2 d) ((st.getD (i + 1) d0).1 d)
    | none => true)
  | none => false)
def lineOp (P : Program) (F : XF) (ops : List Oper) (ms : List Nat) (st : List (AEnv × AHeap)) (d0 : AEnv × AHeap) (ia r : Nat) (kl : Blk) (i : Nat) (o : Oper) : Bool :=
 (match o.guard with | none => true | some _ => false) && (o.after.toList.all fun e => !Region.binds .any e || decide (e.on < i)) && slotOk ms ops i o &&
 (if i = ia then (reps ops ia).all fun q => decide (ia < q) || isGhost (st.getD q d0).2[r]?
 else if still o.op = true then (reps ops ia).all fun q => stillOk P F ops ms st d0 ia r kl i o q false && stillOk P F ops ms st d0 ia r kl i o q true
 else ((List.range i).all fun j => !chg ops ia j || (ms.getD i 0).testBit j) &&
  (if ia < i then (ms.getD i 0).testBit ia else decide (ops.length ≤ ia) || (ms.getD ia 0).testBit i || (match xop P F o (st.getD i d0).1 ((st.getD i d0).2.set r kl) with
   | some (e2, A2) => (match o.dst with
     | some d => beqA (e2 d) ((st.getD (i + 1) d0).1 d)
     | none => true) && beqH A2 ((st.getD (i + 1) d0).2.set r kl)
   | none => false)))
def lineAll (P : Program) (F : XF) (ops : List Oper) (ms : List Nat) (st : List (AEnv × AHeap)) (d0 : AEnv × AHeap) (ia r : Nat) (kl : Blk) : Bool := (List.range ops.length).all fun i => match ops[i]? with
 | some o => lineOp P F ops ms st d0 ia r kl i o
 | none => true
def xseqG (P : Program) (F : XF) (ia r : Nat) (kl : Blk) : Nat → List Oper → AEnv → AHeap → Option (List (AEnv × AHeap))
 | _, [], e, A => some [(e, A)]
 | i, o :: os, e, A => match (if i = ia then some (aupd e o.dst (.ptr r 1 0 0), A.set r kl) else xop P F o e A) with
   | some (e', A') => match xseqG P F ia r kl (i + 1) os e' A' with
     | some l => some ((e, A) :: l)
     | none => none
   | none => none
def xlineAt (P : Program) (F : XF) (ops : List Oper) (e : AEnv) (A : AHeap) (ia r : Nat) (kl : Blk) : Option (AEnv × AHeap) := match xseqG P F ia r kl 0 ops e A with
 | some st => if lineAll P F ops (masks [] ops) st (e, A) ia r kl = true then st[ops.length]? else none
 | none => none
def freeAlloc (P : Program) : Nat → List Oper → Option (Nat × Blk)
 | _, [] => none
 | i, o :: os => match liveB P o.op with
   | some kl => some (i, kl)
   | none => freeAlloc P (i + 1) os
def xline (P : Program) (F : XF) (ops : List Oper) (e : AEnv) (A : AHeap) : Option (AEnv × AHeap) := if P.follows .mixedOrders = true then (match xlineAt P F ops e A ops.length 0 ⟨0, true, 0, 0, []⟩ with
 | some r => some r
 | none => match freeAlloc P 0 ops with
   | some (ia, kl) => xlineAt P F ops e (A ++ [⟨0, true, kl.ty, kl.sz, []⟩]) ia A.length kl
   | none => none) else none
def isLive : Op → Bool
 | .alloc _ | .makeMap _ none | .makeSlice .. => true
 | _ => false
def liveX (P : Program) (e : AEnv) (r : Nat) : Op → Option (AV × Blk)
 | .alloc t => (match liveB P (.alloc t) with
   | some k => some (.ptr r 1 0 0, k)
   | none => none)
 | .makeMap t none => (match makeM P t with
   | some (tg, sz) => some (.mp r 1, ⟨1, true, tg, sz, []⟩)
   | none => none)
 | .makeSlice t x y => (match eva e x, eva e y with
   | .d (.v (.int _ (.ofNat l))), .d (.v (.int _ (.ofNat c))) => (match byt P t with
     | some (el, sz, bytes) => (match zvA P el with
       | some z => if l ≤ c ∧ c ≤ maxLen ∧ bytes * c ≤ 140737488355328 then some (.own r 1 0 l, ⟨1, true, el, sz, List.replicate l z⟩) else none
       | none => none)
     | none => none)
   | _, _ => none)
 | _ => none
def ghAt (ops : List Oper) (n0 i : Nat) : Nat := n0 + (ops.take i).countP fun o => isLive o.op
def xopG (P : Program) (F : XF) (ops : List Oper) (n0 i : Nat) (o : Oper) (e : AEnv) (A : AHeap) : Option (AEnv × AHeap) := if isLive o.op = true then (if isGhost A[ghAt ops n0 i]? = true then (match liveX P e (ghAt ops n0 i) o.op with
    | some (v, k) => some (aupd e o.dst v, A.set (ghAt ops n0 i) k)
    | none => none) else none) else xop P F o e A
def xopW (P : Program) (F : XF) (ops : List Oper) (n0 i : Nat) (o : Oper) (e : AEnv) (A : AHeap) : Option (AEnv × AHeap) := match o.guard with
 | none => xopG P F ops n0 i o e A
 | some (j, want) => (match agval e ((ops[j]?).bind (·.dst)) with
   | some b => if b = some want then xopG P F ops n0 i o e A else some (aupd e o.dst (.tup []), A)
   | none => none)
def xseqP (P : Program) (F : XF) (ops : List Oper) (n0 : Nat) : Nat → List Oper → AEnv → AHeap → Option (AEnv × AHeap)
 | _, [], e, A => some (e, A)
 | i, o :: os, e, A => match xopW P F ops n0 i o e A with
   | some (e', A') => xseqP P F ops n0 (i + 1) os e' A'
   | none => none
def chgP (ops : List Oper) (j : Nat) : Bool := match ops[j]? with
 | some o => !still o.op
 | none => false
def heapM (T : List (Nat × AHeap)) (m : Nat) : Option AHeap := (T.find? fun t => t.1 == m).map (·.2)
def mayP (ops : List Oper) (ms : List Nat) (m i : Nat) : Bool := !m.testBit i && (List.range ops.length).all fun j => !chgP ops j || ((if (ms.getD i 0).testBit j then m.testBit j else true) && (if m.testBit j then !(ms.getD j 0).testBit i else true))
def slotP (ms : List Nat) (ops : List Oper) (i : Nat) (o : Oper) : Bool := (List.range ops.length).all fun j => match ops[j]? with
 | some q => (match q.dst with
   | some d => (i == j || (match o.dst with | some d' => d != d' | none => true)) && (!(seen ops o).contains d || (decide (j < i) && (ms.getD i 0).testBit j))
   | none => true)
 | none => true
def stepP (P : Program) (F : XF) (ops : List Oper) (n0 : Nat) (e : AEnv) (T : List (Nat × AHeap)) (i : Nat) (o : Oper) (m : Nat) (A : AHeap) : Bool := match xopW P F ops n0 i o e A with
 | some (e2, A2) => (match o.dst with
   | some d => beqA (e2 d) (e d)
   | none => true) && (if still o.op = true then true else match heapM T (m ||| 2 ^ i) with
     | some A3 => beqH A2 A3
     | none => false)
 | none => false
def opP (P : Program) (F : XF) (ops : List Oper) (ms : List Nat) (n0 : Nat) (e : AEnv) (T : List (Nat × AHeap)) (i : Nat) (o : Oper) : Bool := (o.after.toList.all fun ed => !Region.binds .any ed || decide (ed.on < i)) && slotP ms ops i o &&
 T.all fun t => !mayP ops ms t.1 i || stepP P F ops n0 e T i o t.1 t.2
def allP (P : Program) (F : XF) (ops : List Oper) (ms : List Nat) (n0 : Nat) (e : AEnv) (T : List (Nat × AHeap)) : Bool := (List.range ops.length).all fun i => match ops[i]? with
 | some o => opP P F ops ms n0 e T i o
 | none => true
def growP (P : Program) (F : XF) (ops : List Oper) (ms : List Nat) (n0 : Nat) (e : AEnv) (m : Nat) (A : AHeap) : List Nat → List (Nat × AHeap) → List (Nat × AHeap)
 | [], acc => acc
 | i :: is, acc => growP P F ops ms n0 e m A is (match ops[i]? with
   | some o => if chgP ops i && mayP ops ms m i && !(acc.any fun t => t.1 == m ||| 2 ^ i) then (match xopW P F ops n0 i o e A with
     | some (_, A2) => (m ||| 2 ^ i, A2) :: acc
     | none => acc) else acc
   | none => acc)
def tabP (P : Program) (F : XF) (ops : List Oper) (ms : List Nat) (n0 : Nat) (e : AEnv) : Nat → List (Nat × AHeap) → List (Nat × AHeap)
 | 0, l => l
 | f + 1, l => match l.foldl (fun acc t => growP P F ops ms n0 e t.1 t.2 (List.range ops.length) acc) [] with
   | [] => l
   | l' => l ++ tabP P F ops ms n0 e f l'
def fullP (ops : List Oper) : Nat := (List.range ops.length).foldl (fun m j => if chgP ops j then m ||| 2 ^ j else m) 0
def countL (ops : List Oper) : Nat := ops.countP fun o => isLive o.op
def xparAt (P : Program) (F : XF) (ops : List Oper) (e : AEnv) (A : AHeap) (n0 : Nat) (e1 : AEnv) (T : List (Nat × AHeap)) : Option (AEnv × AHeap) := if allP P F ops (masks [] ops) n0 e1 T = true ∧ (T.all fun t => (List.range ops.length).all (fun j => !chgP ops j || t.1.testBit j) == (t.1 == fullP ops)) = true then (match heapM T 0, heapM T (fullP ops) with
 | some A0, some A' => if beqH A0 A = true then some (e1, A') else none
 | _, _ => none) else none
def ghosts (ops : List Oper) (A : AHeap) : AHeap := A ++ List.replicate (countL ops) ⟨0, true, 0, 0, []⟩
def xpar (P : Program) (F : XF) (ops : List Oper) (e : AEnv) (A : AHeap) : Option (AEnv × AHeap) := if P.follows .mixedOrders = true then (match xseqP P F ops A.length 0 ops e (ghosts ops A) with
 | some (e1, _) => xparAt P F ops e (ghosts ops A) A.length e1 (tabP P F ops (masks [] ops) A.length e1 ops.length [(0, ghosts ops A)])
 | none => none) else none
def xdraw (P : Program) (F : XF) (l : List Oper) (e : AEnv) (A : AHeap) : Option (AEnv × AHeap) := match xdraw0 P F l e A with
 | some r => some r
 | none => match xdraw3 P F l e A with
 | some r => some r
 | none => match xline P F l e A with
 | some r => some r
 | none => match xpar P F l e A with
 | some r => some r
 | none => if P.follows .mixedOrders = true ∧ l.length ≤ 10 ∧ (∀ o ∈ l, o.guard = none) then (match xseq P F l e A with
   | some st => if xanyAll P F l st = true then st[l.length]? else none
   | none => none) else none
def xloop : Nat → (AEnv → AHeap → Option XR) → AEnv → AHeap → Option XR
 | 0, _, _, _ => none
 | n + 1, f, e, A => match f e A with
   | some (.nx e' A') => xloop n f e' A'
   | r => r
def xc (P : Program) (F : XF) (lf : Nat) : Code → AEnv → AHeap → Option XR
 | .skip, e, A => some (.nx e A)
 | .region _ ops d, e, A => match (if d then xdraw P F ops.toList e A else xops P F ops ops.toList e A) with
   | some (e', A') => some (.nx e' A')
   | none => none
 | .seq a b, e, A => match xc P F lf a e A with
   | some (.nx e' A') => xc P F lf b e' A'
   | r => r
 | .cond c a b, e, A => match eva e c with
   | .d (.v (.bool t)) => if t then xc P F lf a e A else xc P F lf b e A
   | _ => none
 | .block id c, e, A => match xc P F lf c e A with
   | some (.ex j e' A') => if id = j then some (.nx e' A') else some (.ex j e' A')
   | r => r
 | .exit id, e, A => some (.ex id e A)
 | .loop c, e, A => xloop lf (xc P F lf c) e A
 | .ret, e, A => some (.rt e A)
 | .scope c, e, A => xc P F lf c e A
 | .label _, e, A => some (.nx e A)
 | _, _, _ => none
def xend (P : Program) (rs : List ResultVar) : Option XR → Option (AV × AHeap)
 | some (.nx e A) => match aresAll P e A rs with
   | some l => some (atup l, A)
   | none => none
 | some (.rt e A) => match aresAll P e A rs with
   | some l => some (atup l, A)
   | none => none
 | _ => none
def xfun (P : Program) (orc : XF) (lf : Nat) : Nat → XF
 | 0, f, args, A => orc f args A
 | n + 1, f, args, A => match orc f args A with
   | some r => some r
   | none => match P.funcs[f]? with
     | some fn => match fn.body with
       | some c => if okF P f = true ∧ dstsOk fn.ntmps c = true ∧ args.length ≤ fn.ntmps then xend P fn.results.toList (xc P (xfun P orc lf n) lf c (aenv0 args) A) else none
       | none => none
     | none => none
def xres (P : Program) (orc : XF) (lf n : Nat) (f : FuncId) (args : List AV) : Option AV := match xfun P orc lf n f args [] with
 | some (r, A') => reiV false A' 9 r
 | none => none
def xtrue (P : Program) (orc : XF) (lf n : Nat) (f : FuncId) (args : List AV) : Bool := match xres P orc lf n f args with
 | some (.d (.v (.bool b))) => b
 | _ => false
section
variable {P : Program} {F : XF} {n : Nat}
theorem xset_spec {r : Option AV} {e e' : AEnv} {d : Option Nat} {A A' : AHeap} (h : xset r e d A = some (e', A')) {K : AKont} (hk : K e' A') : aSet r e d K A := by
 unfold xset at h
 split at h
 ·simp only [Option.some.injEq, Prod.mk.injEq] at h
  obtain ⟨rfl, rfl⟩ := h
  exact ⟨_, rfl, hk⟩
 ·cases h
theorem xnew_spec {r : Option (AV × Blk)} {e e' : AEnv} {d : Option Nat} {A A' : AHeap} (h : xnew r e d A = some (e', A')) {K : AKont} (hk : K e' A') : aNew r e d K A := by
 unfold xnew at h
 split at h
 ·simp only [Option.some.injEq, Prod.mk.injEq] at h
  obtain ⟨rfl, rfl⟩ := h
  exact ⟨_, _, rfl, hk⟩
 ·cases h
theorem xop_spec (hF : XFok P F) {o : Oper} {e e' : AEnv} {A A' : AHeap} (h : xop P F o e A = some (e', A')) {K : AKont} (hk : K e' A') : avop P n o K e A := by
 obtain ⟨d, op, ty, pos, af, gd⟩ := o
 cases op with
 | load t a => exact xset_spec h hk
 | store t a x =>
   simp only [xop] at h
   split at h
   ·simp only [Option.some.injEq, Prod.mk.injEq] at h
    obtain ⟨rfl, rfl⟩ := h
    exact ⟨_, ‹_›, hk⟩
   ·cases h
 | alloc t => exact xnew_spec h hk
 | box t x => exact xnew_spec h hk
 | buildSlice t len ps => exact xnew_spec h hk
 | range t x =>
   simp only [xop] at h
   split at h
   ·rename_i s ht hx
    simp only [Option.some.injEq, Prod.mk.injEq] at h
    obtain ⟨rfl, rfl⟩ := h
    exact aRaw_range ht hx hk
   ·cases h
 | makeMap t r =>
   cases r with
   | none =>
     simp only [xop] at h
     split at h
     ·rename_i tg sz hm
      simp only [Option.some.injEq, Prod.mk.injEq] at h
      obtain ⟨rfl, rfl⟩ := h
      exact aRaw_makeMap hm hk
     ·cases h
   | some r => simp [xop] at h
 | lookup t x y ok =>
   simp only [xop, xset] at h
   split at h
   ·rename_i v hv
    simp only [Option.some.injEq, Prod.mk.injEq] at h
    obtain ⟨rfl, rfl⟩ := h
    exact aRaw_lookupE hv hk
   ·cases h
 | mapUpdate t x y z =>
   simp only [xop] at h
   split at h
   ·rename_i A1 hv
    simp only [Option.some.injEq, Prod.mk.injEq] at h
    obtain ⟨rfl, rfl⟩ := h
    exact aRaw_mapUpdateE hv hk
   ·cases h
 | mapEntry t x y =>
   simp only [xop] at h
   split at h
   ·rename_i r A1 hv
    simp only [Option.some.injEq, Prod.mk.injEq] at h
    obtain ⟨rfl, rfl⟩ := h
    exact aRaw_mapEntryK hv hk
   ·cases h
 | entryStore t x y z =>
   simp only [xop] at h
   split at h
   ·rename_i A1 hv
    simp only [Option.some.injEq, Prod.mk.injEq] at h
    obtain ⟨rfl, rfl⟩ := h
    exact aRaw_entryStoreK hv hk
   ·cases h
 | insert t x y z =>
   simp only [xop] at h
   split at h
   ·rename_i A1 hv
    simp only [Option.some.injEq, Prod.mk.injEq] at h
    obtain ⟨rfl, rfl⟩ := h
    exact aRaw_insertE hv hk
   ·cases h
 | makeInterface t x =>
   simp only [xop] at h
   split at h
   ·rename_i td ht
    split at h
    ·rename_i hn
     simp only [Option.some.injEq, Prod.mk.injEq] at h
     obtain ⟨rfl, rfl⟩ := h
     exact aRaw_mkIface ht hn hk
    ·cases h
   ·cases h
 | typeAssert x xt t ok =>
   simp only [xop] at h
   split at h
   ·rename_i td t' c ht hx
    split at h
    ·rename_i hn
     obtain ⟨rfl, hn⟩ := hn
     simp only [Option.some.injEq, Prod.mk.injEq] at h
     obtain ⟨rfl, rfl⟩ := h
     exact aRaw_assert ht hn hx hk
    ·cases h
   ·cases h
 | next x str =>
   cases str with
   | true => exact xnx_spec h hk
   | false => cases h
 | makeSlice t x y =>
   simp only [xop] at h
   split at h
   ·rename_i k1 l k2 c hx hy
    split at h
    ·rename_i el sz bytes hby
     split at h
     ·rename_i z hz
      split at h
      ·rename_i hc
       simp only [Option.some.injEq, Prod.mk.injEq] at h
       obtain ⟨rfl, rfl⟩ := h
       exact aRaw_make hby hz hx hy hc.1 hc.2.1 hc.2.2 hk
      ·cases h
     ·cases h
    ·cases h
   ·cases h
 | call c =>
   obtain ⟨cl, args, ats⟩ := c
   simp only [xop] at h
   split at h
   ·rename_i f
    split at h
    ·rename_i g fs cs hg
     split at h
     ·rename_i r A1 hr
      simp only [Option.some.injEq, Prod.mk.injEq] at h
      obtain ⟨rfl, rfl⟩ := h
      obtain ⟨h1, h2⟩ := hF _ _ _ _ _ hr
      show aCall P _ _ _ _ _ _
      exact ⟨g, fs, cs, hg, h1, h2.mono fun r1 A1 ⟨e1, e2⟩ => by subst e1 e2; exact hk⟩
     ·cases h
    ·cases h
   ·split at h
    case h_2 => cases h
    rename_i t c0 hr
    split at h
    case h_2 => cases h
    rename_i f hm
    split at h
    case isFalse => cases h
    rename_i hok
    split at h
    case h_2 => cases h
    rename_i r A1 hF1
    simp only [Option.some.injEq, Prod.mk.injEq] at h
    obtain ⟨rfl, rfl⟩ := h
    obtain ⟨g1, g2⟩ := hF _ _ _ _ _ hF1
    exact aRaw_invoke hr hm hok (g2.mono fun r1 A1 ⟨e1, e2⟩ => by subst e1 e2; exact hk)
   ·unfold xset at h
    split at h
    case h_2 => cases h
    rename_i v hv
    simp only [Option.some.injEq, Prod.mk.injEq] at h
    obtain ⟨rfl, rfl⟩ := h
    unfold lenE at hv
    split at hv
    ·rename_i r hr
     obtain rfl := oSI hv
     exact .inl ⟨_, hr, hk⟩
    ·split at hv
     ·rename_i x t h1 h2
      obtain rfl : args = #[x] := by rw [← Array.toArray_toList (xs := args), h1]
      obtain rfl : ats = #[t] := by rw [← Array.toArray_toList (xs := ats), h2]
      refine .inr ⟨?_, aRaw_lenM hv hk⟩
      unfold lenM at hv
      split at hv
      ·rename_i hx
       unfold mpArg
       show (match eva e x with
        | .mp _ _ => true
        | _ => false) = true
       rw [hx]
      ·cases hv
     ·cases hv
   ·split at h
    ·rename_i s x t t' h1 h2
     split at h
     ·rename_i ht
      subst ht
      split at h
      ·rename_i el sz bytes hby
       split at h
       ·rename_i r A1 m hr
        split at h
        ·rename_i hm
         simp only [Option.some.injEq, Prod.mk.injEq] at h
         obtain ⟨rfl, rfl⟩ := h
         obtain rfl : args = #[s, x] := by rw [← Array.toArray_toList (xs := args), h1]
         obtain rfl : ats = #[t', t'] := by rw [← Array.toArray_toList (xs := ats), h2]
         show aRaw P n _ e A K
         exact aRaw_appT hby ⟨_, _, _, hr, hm.1, hm.2, hk⟩
        ·cases h
       ·cases h
      ·cases h
     ·split at h
      ·rename_i m ht' hs hx
       split at h
       ·rename_i el sz bytes hby
        split at h
        ·rename_i z hz
         split at h
         ·rename_i hc
          simp only [Option.some.injEq, Prod.mk.injEq] at h
          obtain ⟨rfl, rfl⟩ := h
          obtain rfl : args = #[s, x] := by rw [← Array.toArray_toList (xs := args), h1]
          obtain rfl : ats = #[t, t'] := by rw [← Array.toArray_toList (xs := ats), h2]
          show aRaw P n _ e A K
          exact aRaw_appz hby hz ht' hs hx hc.1 hc.2.1 hc.2.2 hk
         ·cases h
        ·cases h
       ·cases h
      ·cases h
    ·cases h
   ·split at h
    ·rename_i x t h1 h2
     split at h
     ·rename_i el ht hx
      simp only [Option.some.injEq, Prod.mk.injEq] at h
      obtain ⟨rfl, rfl⟩ := h
      obtain rfl : args = #[x] := by rw [← Array.toArray_toList (xs := args), h1]
      obtain rfl : ats = #[t] := by rw [← Array.toArray_toList (xs := ats), h2]
      show aRaw P n _ e A K
      exact aRaw_cap ht hx hk
     ·cases h
    ·cases h
   ·split at h
    ·rename_i x y h1
     split at h
     ·rename_i k a k' b hx hy
      simp only [Option.some.injEq, Prod.mk.injEq] at h
      obtain ⟨rfl, rfl⟩ := h
      obtain rfl : args = #[x, y] := by rw [← Array.toArray_toList (xs := args), h1]
      show aRaw P n _ e A K
      exact aRaw_min hx hy hk
     ·cases h
    ·cases h
   ·split at h
    ·rename_i x y h1
     split at h
     ·rename_i k a k' b hx hy
      simp only [Option.some.injEq, Prod.mk.injEq] at h
      obtain ⟨rfl, rfl⟩ := h
      obtain rfl : args = #[x, y] := by rw [← Array.toArray_toList (xs := args), h1]
      show aRaw P n _ e A K
      exact aRaw_max hx hy hk
     ·cases h
    ·cases h
   ·split at h
    ·rename_i x t h1 h2
     split at h
     ·rename_i A1 hc
      simp only [Option.some.injEq, Prod.mk.injEq] at h
      obtain ⟨rfl, rfl⟩ := h
      obtain rfl : args = #[x] := by rw [← Array.toArray_toList (xs := args), h1]
      obtain rfl : ats = #[t] := by rw [← Array.toArray_toList (xs := ats), h2]
      show aRaw P n _ e A K
      exact aRaw_clear hc hk
     ·cases h
    ·cases h
   ·cases h
 | convert s d' x =>
   simp only [xop] at h
   simp only [avop]
   split at h
   ·rename_i hx
    rw [hx]
    exact xset_spec h hk
   ·rename_i hx
    rw [← hx] at h
    rw [hx]
    exact xstr_spec h hk
   ·rename_i hx
    rw [← hx] at h
    rw [hx]
    exact xstr_spec h hk
   ·cases h
 | binOp op t x y u =>
   simp only [xop] at h
   simp only [avop]
   split at h
   ·rename_i h1 h2
    rw [h1, h2]
    split at h
    ·rename_i hs
     split at h
     ·cases h
     ·simp only [Option.some.injEq, Prod.mk.injEq] at h
      obtain ⟨rfl, rfl⟩ := h
      refine ⟨hs, fun b hb => ?_⟩
      cases b
      ·exact hk
      ·simp at hb
    ·cases h
   ·rename_i h1 h2
    rw [h1, h2]
    split at h
    ·rename_i hs
     split at h
     ·cases h
     ·simp only [Option.some.injEq, Prod.mk.injEq] at h
      obtain ⟨rfl, rfl⟩ := h
      refine ⟨hs, fun b hb => ?_⟩
      cases b
      ·simp at hb
      ·exact hk
    ·cases h
   ·rename_i h1 h2
    rw [h1, h2]
    split at h
    ·rename_i hs
     simp only [Option.some.injEq, Prod.mk.injEq] at h
     obtain ⟨rfl, rfl⟩ := h
     refine ⟨hs.1, fun r hr => ?_⟩
     cases r
     ·exact hk
     ·rcases hr rfl with hr | hr
      ·omega
      ·rw [hr] at hs; simp at hs
    ·cases h
   ·rename_i h1 h2
    rw [h1, h2]
    split at h
    ·rename_i hs
     simp only [Option.some.injEq, Prod.mk.injEq] at h
     obtain ⟨rfl, rfl⟩ := h
     refine ⟨hs.1, fun r hr => ?_⟩
     cases r
     ·rcases hr rfl with hr | hr
      ·omega
      ·rw [hr] at hs; simp at hs
     ·exact hk
    ·cases h
   ·unfold aBin
    split
    all_goals first
     | exact xset_spec h hk
     | (rename_i a1 a2 a3 a4; exfalso; first | exact a1 _ _ _ _ rfl ‹_› ‹_› | exact a2 _ _ _ _ rfl ‹_› ‹_› | exact a3 _ _ _ _ _ _ rfl ‹_› ‹_› | exact a4 _ _ _ _ _ _ rfl ‹_› ‹_›)
     | (exfalso; rename_i g1 g2 g3 g4 g5 g6; first | exact g1 _ _ _ _ rfl ‹_› ‹_› | exact g2 _ _ _ _ rfl ‹_› ‹_› | exact g3 _ _ _ _ _ _ rfl ‹_› ‹_› | exact g4 _ _ _ _ _ _ rfl ‹_› ‹_›)
 | move | assign | pick | nilCheck | unOp | makeFunc | fieldAddr | field | indexAddr | index | extract | slice | build =>
   simp only [xop] at h
   exact xset_spec h hk
 | _ => simp [xop] at h
theorem xops_spec (hF : XFok P F) {ops : Array Oper} : ∀ (l : List Oper) (e e' : AEnv) (A A' : AHeap), xops P F ops l e A = some (e', A') → ∀ {K : AKont}, K e' A' → avops P n ops l K e A
 | [], e, e', A, A', h, K, hk => by
   simp only [xops, Option.some.injEq, Prod.mk.injEq] at h
   obtain ⟨rfl, rfl⟩ := h
   exact hk
 | o :: os, e, e', A, A', h, K, hk => by
   simp only [xops] at h
   simp only [avops]
   cases hg : o.guard with
   | none =>
     rw [hg] at h
     simp only at h ⊢
     split at h
     ·rename_i e1 A1 h1
      exact xop_spec hF h1 (xops_spec hF os _ _ _ _ h hk)
     ·cases h
   | some jw =>
     obtain ⟨j, want⟩ := jw
     rw [hg] at h
     simp only at h ⊢
     split at h
     ·rename_i b hb
      refine ⟨b, hb, ?_⟩
      split at h
      ·rename_i hw
       rw [if_pos hw]
       split at h
       ·rename_i e1 A1 h1
        exact xop_spec hF h1 (xops_spec hF os _ _ _ _ h hk)
       ·cases h
      ·rename_i hw
       rw [if_neg hw]
       exact xops_spec hF os _ _ _ _ h hk
     ·cases h
theorem ac_res {f : FuncId} {args : List AV} {r : AV} (h : AC P f args [] (Res r)) : AF P f args r := by
 intro H w vs hH hs hm
 refine (h H none0 w vs hH (rel_nil H w) hs (by rw [nn_nil]; exact hm)).mono ?_
 rintro en w' ⟨v, r', ι', A', hv, hr, hR, hst, hval⟩
 unfold Res resO at hr
 split at hr
 ·rename_i r0 r1 hr0
  have := reiV_sound (ι' := none0) (A' := []) hR hr0 hval
  exact ⟨v, hv, ⟨NLe.shp _ _ _ hr this.1, NLe.mem _ _ _ hr this.2⟩, hst.ext⟩
 ·exact hr.elim
theorem XFok.af (hF : XFok P F) {f : FuncId} {args : List AV} {r0 r : AV} {A' : AHeap} (h : F f args [] = some (r0, A')) (hr : reiV false A' 9 r0 = some r) : AF P f args r :=
 ac_res ((hF _ _ _ _ _ h).2.mono fun r1 A1 ⟨e1, e2⟩ => by
  subst e1 e2
  show resO (reiV false A1 9 r1) r
  rw [hr]
  exact NLe.refl r)
theorem xdo_spec (hF : XFok P F) {n0 i : Nat} {o : Oper} {σ σ' : ADS} (h : xdo P n0 F i o σ = some σ') {K1 : ADS → Prop} (hk : K1 σ') : avdo P n0 (fun _ _ => True) i o K1 σ := by
 obtain ⟨d, op, ty, pos, af, gd⟩ := o
 have hset : ∀ {r : Option AV}, (match r with
  | some v => some (⟨aupd σ.e d v, σ.A, σ.lds, σ.sts, σ.st⟩ : ADS)
  | none => none) = some σ' → adSet r K1 σ d := by
  intro r h
  split at h
  ·simp only [Option.some.injEq] at h
   subst h
   exact ⟨_, rfl, hk⟩
  ·cases h
 have hnew : ∀ {r : Option (AV × Blk)}, (match r with
  | some (v, k) => some (⟨aupd σ.e d v, σ.A ++ [k], σ.lds, σ.sts, σ.st⟩ : ADS)
  | none => none) = some σ' → adNew r K1 σ d := by
  intro r h
  split at h
  ·simp only [Option.some.injEq] at h
   subst h
   exact ⟨_, _, rfl, hk⟩
  ·cases h
 cases op with
 | load t a =>
   simp only [xdo] at h
   show adLoad n0 (eva σ.e a) (alv P σ.A t (eva σ.e a)) i K1 σ d
   split at h
   ·rename_i b ver j of hp
    rw [hp]
    split at h
    ·rename_i hb
     split at h
     ·rename_i v hv
      simp only [Option.some.injEq] at h
      subst h
      exact ⟨hb, _, hv, hk⟩
     ·cases h
    ·cases h
   ·rename_i cs hp
    rw [hp]
    split at h
    ·rename_i v hv
     simp only [Option.some.injEq] at h
     subst h
     exact ⟨_, hv, hk⟩
    ·cases h
   ·cases h
 | store t a x =>
   simp only [xdo] at h
   show adStore t (eva σ.e a) (eva σ.e x) i K1 σ d
   split at h
   ·rename_i b ver j of hp
    rw [hp]
    split at h
    ·rename_i k hk'
     split at h
     ·rename_i hw
      simp only [Option.some.injEq] at h
      subst h
      exact ⟨⟨k, hk', hw⟩, hk⟩
     ·cases h
    ·cases h
   ·cases h
 | alloc t => exact hnew h
 | box t x => exact hnew h
 | buildSlice t len ps => exact hnew h
 | makeSlice t x y => exact hnew h
 | call c =>
   obtain ⟨cl, args, ats⟩ := c
   simp only [xdo] at h
   split at h
   ·rename_i f
    show adC P _ (eva σ.e f) (args.toList.map (eva σ.e)) K1 σ d
    split at h
    ·rename_i g fs cs hg
     generalize hL : fs ++ args.toList.map (eva σ.e) ++ cs = L at h
     split at h
     ·rename_i args' ha
      split at h
      ·rename_i r0 A1 hr0
       split at h
       ·rename_i r hr
        split at h
        ·rename_i hc
         simp only [Option.some.injEq] at h
         subst h
         have haf := hF.af hr0 hr
         refine ⟨g, fs, cs, r, args', hg, (hF _ _ _ _ _ hr0).1, trivial, hc.1, ?_, haf, hk⟩
         rw [hL]
         split at ha
         ·rename_i hcl
          simp only [Option.some.injEq] at ha
          subst ha
          exact .inl ⟨hcl, NLeL.refl _⟩
         ·rename_i hcl
          refine .inr ⟨?_, hc.2.resolve_left hcl⟩
          rw [ha]
          exact NLeL.refl _
        ·cases h
       ·cases h
      ·cases h
     ·cases h
    ·cases h
   ·exact hset h
   ·cases h
 | move | assign | pick | nilCheck | binOp | unOp | makeFunc | fieldAddr | field | indexAddr | index | extract | slice | convert | build =>
   simp only [xdo] at h
   exact hset h
 | _ => simp [xdo] at h
theorem xds_spec (hF : XFok P F) {n0 : Nat} {ops : List Oper} {late : List (Nat × Nat)} {K : AKont} : ∀ (l : List Oper) (i : Nat) (σ σ' : ADS), xds P n0 F ops i l σ = some σ' → adEnd P late K σ' → avd P n0 ops late (fun _ _ => True) K i l σ
 | [], i, σ, σ', h, hk => by
   simp only [xds, Option.some.injEq] at h
   subst h
   exact hk
 | o :: os, i, σ, σ', h, hk => by
   simp only [xds] at h
   simp only [avd]
   cases hg : o.guard with
   | none =>
     rw [hg] at h
     simp only at h ⊢
     split at h
     ·rename_i σ1 h1
      exact xdo_spec hF h1 (xds_spec hF os _ _ _ h hk)
     ·cases h
   | some jw =>
     obtain ⟨j, want⟩ := jw
     rw [hg] at h
     simp only at h ⊢
     split at h
     ·rename_i b hb
      refine ⟨b, hb, ?_⟩
      split at h
      ·rename_i hw
       rw [if_pos hw]
       split at h
       ·rename_i σ1 h1
        exact xdo_spec hF h1 (xds_spec hF os _ _ _ h hk)
       ·cases h
      ·rename_i hw
       rw [if_neg hw]
       exact xds_spec hF os _ _ _ h hk
     ·cases h
theorem xsto_spec : ∀ (l : List (TypeId × AV × AV)) (A A' : AHeap), xsto P l A = some A' → ∀ {k : AHeap → Prop}, k A' → astAll P l A k
 | [], A, A', h, k, hk => by
   simp only [xsto, Option.some.injEq] at h
   subst h
   exact hk
 | (t, p, v) :: l, A, A', h, k, hk => by
   simp only [xsto] at h
   split at h
   ·exact ⟨_, ‹_›, xsto_spec l _ _ h hk⟩
   ·cases h
theorem lateB_spec {late lds sts : List (Nat × Nat)} (h : lateB late lds sts = true) : lateOk late lds sts := by
 intro k j bk bj h1 h2 h3
 simp only [lateB, List.all_eq_true] at h
 have := h _ h1 _ h2 _ h3
 simpa using this
theorem xdrawAt_spec (hF : XFok P F) {l : List Oper} {id : Nat} {e e' : AEnv} {A A' : AHeap} {c : Nat} (h : xdrawAt P F l e A c = some (e', A')) {K : AKont} (hk : K e' A') : aDraw P n id l.toArray K e A := by
 unfold xdrawAt at h
 split at h
 ·rename_i hc
  split at h
  ·rename_i σ hσ
   split at h
   ·rename_i hl
    split at h
    ·rename_i A1 hA1
     exact adraw2 c _ hc.1 hc.2.1 rfl hc.2.2.1 hc.2.2.2 (xds_spec hF _ _ _ _ hσ ⟨lateB_spec hl, xsto_spec _ _ _ hA1 (xops_spec hF _ _ _ _ _ h hk)⟩)
    ·cases h
   ·cases h
  ·cases h
 ·cases h
theorem xcuts_spec (hF : XFok P F) {l : List Oper} {id : Nat} {e e' : AEnv} {A A' : AHeap} {K : AKont} (hk : K e' A') : ∀ (cs : List Nat), xcuts P F l e A cs = some (e', A') → aDraw P n id l.toArray K e A
 | [], h => by cases h
 | c :: cs, h => by
   unfold xcuts at h
   split at h
   ·rename_i r hr
    simp only [Option.some.injEq] at h
    subst h
    exact xdrawAt_spec hF hr hk
   ·exact xcuts_spec hF hk cs h
theorem xdraw0_spec (hF : XFok P F) {l : List Oper} {id : Nat} {e e' : AEnv} {A A' : AHeap} (h : xdraw0 P F l e A = some (e', A')) {K : AKont} (hk : K e' A') : aDraw P n id l.toArray K e A := xcuts_spec hF hk _ h
theorem stab1B_spec {A : AHeap} {s v : AV} (h : stab1B A s v = true) : stab1 A s v := by
 unfold stab1B at h
 split at h
 ·trivial
 ·simp only [Bool.and_eq_true] at h
  refine ⟨Option.isSome_iff_exists.1 h.1, ?_⟩
  have h2 := h.2
  split at h2
  ·simpa using h2
  ·trivial
  ·cases h2
 ·cases h
theorem stabLB_spec {A : AHeap} {e : AEnv} {s : AV} {m : Nat} : ∀ (l : List Oper) (j : Nat), stabLB A e s m j l = true → stabL A e s m j l
 | [], _, _ => trivial
 | o :: os, j, h => by
   simp only [stabLB, Bool.and_eq_true] at h
   refine ⟨?_, stabLB_spec os (j + 1) h.2⟩
   have h1 := h.1
   split at h1
   ·rename_i t a hop
    rw [hop]
    simp only [Bool.or_eq_true] at h1
    exact h1.imp id stab1B_spec
   ·rename_i hno
    split
    ·rename_i t a hop
     exact absurd hop (hno t a)
    ·trivial
theorem xdraw3_spec (hF : XFok P F) {l : List Oper} {id : Nat} {e e' : AEnv} {A A' : AHeap} (h : xdraw3 P F l e A = some (e', A')) {K : AKont} (hk : K e' A') : aDraw P n id l.toArray K e A := by
 unfold xdraw3 at h
 split at h
 case h_2 => cases h
 rename_i d args ats ty pos af hx
 split at h
 case h_2 => cases h
 rename_i s y t t' h1 h2
 split at h
 case isFalse => cases h
 rename_i ht
 subst ht
 obtain rfl : args = #[s, y] := by rw [← Array.toArray_toList (xs := args), h1]
 obtain rfl : ats = #[t', t'] := by rw [← Array.toArray_toList (xs := ats), h2]
 split at h
 case h_2 => cases h
 rename_i el sz bytes hby
 split at h
 case isFalse => cases h
 rename_i hc
 split at h
 case h_2 => cases h
 rename_i σ hσ
 split at h
 case isFalse => cases h
 rename_i hl
 split at h
 case h_2 => cases h
 rename_i A1 hA1
 split at h
 case isFalse => cases h
 rename_i hst
 split at h
 case h_2 => cases h
 rename_i r A2 q hap
 split at h
 case isFalse => cases h
 rename_i hq
 exact adraw3 (cutAt l) _ _ hc.1 hx hby hc.2.1 rfl hc.2.2.1 hc.2.2.2 rfl (xds_spec hF _ _ _ _ hσ ⟨lateB_spec hl, xsto_spec _ _ _ hA1 ⟨stabLB_spec _ _ hst, _, _, _, hap, hq.1, hq.2, xops_spec hF _ _ _ _ _ h hk⟩⟩)
def XGood (bs : List (Nat × AKont)) (r k : AKont) : XR → Prop
 | .nx e A => k e A
 | .ex j e A => aexitK bs j e A
 | .rt e A => r e A
theorem xloop_spec {f : AEnv → AHeap → Option XR} {c : Code} {bs : List (Nat × AKont)} {r : AKont} (hf : ∀ e A x, f e A = some x → ∀ k, XGood bs r k x → avc P n c bs r k e A) : ∀ (m : Nat) (e : AEnv) (A : AHeap) (x : XR), xloop m f e A = some x → ∀ k, XGood bs r k x → aLoop n (avc P n c bs r) e A := by
 intro m e A x h k hx
 refine ⟨fun m e A => ∃ x, xloop m f e A = some x ∧ XGood bs r (fun _ _ => False) x, ⟨m, e, A, Sub.refl _ _ _, x, h, ?_⟩, ?_⟩
 ·cases x with
  | nx e1 A1 =>
    exfalso
    clear hx
    induction m generalizing e A with
    | zero => simp [xloop] at h
    | succ m ih =>
      simp only [xloop] at h
      split at h
      ·exact ih _ _ h
      ·rename_i hn
       exact hn _ _ h
  | ex j e1 A1 => exact hx
  | rt e1 A1 => exact hx
 ·rintro m e A ⟨x, h, hx⟩
  cases m with
  | zero => simp [xloop] at h
  | succ m =>
    simp only [xloop] at h
    split at h
    ·rename_i e1 A1 h1
     exact hf _ _ _ h1 _ ⟨m, Nat.lt_succ_self _, e1, A1, Sub.refl _ _ _, x, h, hx⟩
    ·rename_i hn
     refine hf _ _ _ h _ ?_
     cases x with
     | nx e1 A1 => exact absurd h (hn e1 A1)
     | ex j e1 A1 => exact hx
     | rt e1 A1 => exact hx
theorem xset_upd {r : Option AV} {e e' : AEnv} {d : Option Nat} {A A' : AHeap} (h : xset r e d A = some (e', A')) : ∃ v, e' = aupd e d v := by
 unfold xset at h
 split at h
 ·simp only [Option.some.injEq, Prod.mk.injEq] at h; exact ⟨_, h.1.symm⟩
 ·cases h
theorem xnew_upd {r : Option (AV × Blk)} {e e' : AEnv} {d : Option Nat} {A A' : AHeap} (h : xnew r e d A = some (e', A')) : ∃ v, e' = aupd e d v := by
 unfold xnew at h
 split at h
 ·simp only [Option.some.injEq, Prod.mk.injEq] at h; exact ⟨_, h.1.symm⟩
 ·cases h
theorem xstr_upd {s t : TypeId} {r : Option (List (List AV))} {e e' : AEnv} {d : Option Nat} {A A' : AHeap} (h : xstr P s t r e d A = some (e', A')) : ∃ v, e' = aupd e d v := by
 unfold xstr at h
 split at h
 ·split at h
  ·simp only [Option.some.injEq, Prod.mk.injEq] at h; exact ⟨_, h.1.symm⟩
  ·cases h
 ·cases h
theorem xnx_upd {x : AV} {e e' : AEnv} {d : Option Nat} {A A' : AHeap} (h : xnx A e d x = some (e', A')) : ∃ v, e' = aupd e d v := by
 unfold xnx at h
 repeat' split at h
 all_goals first | (cases h; done) | (simp only [Option.some.injEq, Prod.mk.injEq] at h; exact ⟨_, h.1.symm⟩)
theorem xop_upd {o : Oper} {e e' : AEnv} {A A' : AHeap} (h : xop P F o e A = some (e', A')) : ∃ v, e' = aupd e o.dst v := by
 unfold xop at h
 repeat' split at h
 all_goals first
  | (cases h; done)
  | exact xset_upd h
  | exact xnew_upd h
  | exact xstr_upd h
  | exact xnx_upd h
  | (simp only [Option.some.injEq, Prod.mk.injEq] at h; exact ⟨_, h.1.symm⟩)
theorem xop_out {o : Oper} {e e' : AEnv} {A A' : AHeap} (h : xop P F o e A = some (e', A')) {i : Nat} (hi : o.dst ≠ some i) : e' i = e i := by
 obtain ⟨v, hv⟩ := xop_upd h
 rw [hv]
 cases hd : o.dst with
 | none => rfl
 | some d =>
   show (if i = d then v else e i) = e i
   rw [if_neg]
   intro he
   exact hi (by rw [hd, he])
theorem xseq_out {ops : List Oper} : ∀ (l : List Oper) (e : AEnv) (A : AHeap) (st : List (AEnv × AHeap)), (∀ o ∈ l, o ∈ ops) → xseq P F l e A = some st → st[0]? = some (e, A) ∧ ∀ p ∈ st, ∀ i, (∀ o ∈ ops, o.dst ≠ some i) → p.1 i = e i
 | [], e, A, st, _, h => by
   simp only [xseq, Option.some.injEq] at h
   subst h
   simp
 | o :: os, e, A, st, hl, h => by
   simp only [xseq] at h
   split at h
   case h_2 => cases h
   rename_i e1 A1 h1
   split at h
   case h_2 => cases h
   rename_i l hl2
   simp only [Option.some.injEq] at h
   subst h
   refine ⟨rfl, fun p hp i hi => ?_⟩
   rcases List.mem_cons.1 hp with rfl | hp
   ·rfl
   ·rw [(xseq_out os _ _ _ (fun o ho => hl o (by simp [ho])) hl2).2 p hp i hi, xop_out h1 (hi o (hl o (by simp)))]
theorem eqE_spec {ops : List Oper} {e e1 : AEnv} (h : eqE ops e e1 = true) (he : ∀ i, (∀ o ∈ ops, o.dst ≠ some i) → e i = e1 i) : e = e1 := by
 funext i
 by_cases hi : ∃ o ∈ ops, o.dst = some i
 ·obtain ⟨o, ho, hd⟩ := hi
  have := List.all_eq_true.1 h o ho
  rw [hd] at this
  exact beqA_eq _ _ this
 ·exact he i fun o ho hd => hi ⟨o, ho, hd⟩
theorem xany_spec (hF : XFok P F) {ops : List Oper} {st : List (AEnv × AHeap)} {e0 : AEnv} {K : AKont} (hst : ∀ p ∈ st, ∀ i, (∀ o ∈ ops, o.dst ≠ some i) → p.1 i = e0 i) : ∀ (f : Nat), (∀ f', f' < f → ∀ k, k + f' = ops.length → ∀ e A, st[k]? = some (e, A) → aAny P n ops K f' (pfx ops.length k) e A) →
 ∀ (L : Array Bool) (e : AEnv) (A : AHeap), (∀ i, (∀ o ∈ ops, o.dst ≠ some i) → e i = e0 i) → xany P F ops st f L e A = true → aAny P n ops K f L e A
 | 0, _, L, e, A, he, h => by simp [xany] at h
 | f + 1, ih, L, e, A, he, h => by
   simp only [xany, Bool.and_eq_true, Bool.not_eq_true'] at h
   obtain ⟨h1, h2⟩ := h
   refine ⟨fun h0 => absurd h1 (by simp [h0]), fun i hi => ?_⟩
   have h3 := List.all_eq_true.1 h2 i hi
   split at h3
   case h_2 => cases h3
   rename_i o ho
   simp only [Bool.and_eq_true] at h3
   obtain ⟨hg, h4⟩ := h3
   refine ⟨o, ho, by simpa using hg, ?_⟩
   split at h4
   case h_2 => cases h4
   rename_i e' A' hx
   have he' : ∀ i, (∀ o ∈ ops, o.dst ≠ some i) → e' i = e0 i := fun i hi => (xop_out hx (hi o (gMO ho))).trans (he i hi)
   refine xop_spec hF hx ?_
   split at h4
   ·rename_i e1 A1 hh
    simp only [Bool.and_eq_true] at h4
    unfold hitS at hh
    split at hh
    case isFalse => cases hh
    rename_i hc
    have hL : L.setIfInBounds i true = pfx ops.length (ops.length - f) := by
     rw [← Array.toArray_toList (xs := L.setIfInBounds i true), hc.2]
    have hE := eqE_spec h4.1 fun i hi => (he' i hi).trans (hst _ (gMO hh) i hi).symm
    rw [hL, hE, beqH_eq _ _ h4.2]
    exact ih f (by omega) _ (by omega) _ _ hh
   ·exact xany_spec hF hst f (fun f' hf' => ih f' (by omega)) _ _ _ he' h4
theorem xanyAll_spec (hF : XFok P F) {ops : List Oper} {st : List (AEnv × AHeap)} {e e1 : AEnv} {A A1 : AHeap} {K : AKont} (hs : xseq P F ops e A = some st) (h : xanyAll P F ops st = true) (h1 : st[ops.length]? = some (e1, A1)) (hk : K e1 A1) :
 aAny P n ops K ops.length (Array.replicate ops.length false) e A := by
 obtain ⟨s0, s1⟩ := xseq_out (ops := ops) ops e A st (fun _ h => h) hs
 simp only [xanyAll, Bool.and_eq_true, List.isEmpty_iff] at h
 obtain ⟨h2, h3⟩ := h
 have key : ∀ f, ∀ f', f' ≤ f → ∀ k, k + f' = ops.length → ∀ e A, st[k]? = some (e, A) → aAny P n ops K f' (pfx ops.length k) e A := by
  intro f
  induction f with
  | zero =>
    intro f' hf' k hkf e A hA
    obtain rfl : f' = 0 := by omega
    obtain rfl : k = ops.length := by omega
    rw [h1] at hA
    obtain ⟨rfl, rfl⟩ := Prod.mk.inj (oSI hA)
    exact ⟨h3, hk⟩
  | succ f ih =>
    intro f' hf' k hkf e A hA
    rcases Nat.lt_or_ge f' (f + 1) with hlt | hge
    ·exact ih f' (by omega) k hkf e A hA
    ·obtain rfl : f' = f + 1 := by omega
     have := List.all_eq_true.1 h2 k (List.mem_range.2 (by omega))
     rw [hA] at this
     simp only [show ops.length - k = f + 1 by omega] at this
     exact xany_spec hF s1 (f + 1) (fun f'' hf'' k' hk' e' A' hA' => ih f'' (by omega) k' hk' e' A' hA') _ _ _ (s1 _ (gMO hA)) this
 have := key ops.length ops.length (Nat.le_refl _) 0 (by omega) e A s0
 have hp : pfx ops.length 0 = Array.replicate ops.length false := by
  simp [pfx]
 rwa [hp] at this
theorem newA_agree {e e1 : AEnv} {n : Nat} {op : Op} (h : ∀ x ∈ op.operands, eva e x = eva e1 x) : newA P n e op = newA P n e1 op := by
 cases op with
 | box t x => simp only [newA, h x (by simp [Op.operands])]
 | buildSlice t len ps =>
   simp only [newA]
   have : ps.toList.map (fun p => (p.1, eva e p.2)) = ps.toList.map (fun p => (p.1, eva e1 p.2)) := List.map_congr_left fun p hp => by
    rw [h p.2 (by simp only [Op.operands, List.mem_toArray, List.mem_map]; exact ⟨p, hp, rfl⟩)]
   rw [this]
 | makeSlice t x y => simp only [newA, h x (by simp [Op.operands]), h y (by simp [Op.operands])]
 | _ => rfl
def Agr (d : Option Nat) (e e1 : AEnv) (r r1 : Option (AEnv × AHeap)) : Prop := match r with
 | some (e', A') => ∃ v, e' = aupd e d v ∧ r1 = some (aupd e1 d v, A')
 | none => True
theorem agr_some {d : Option Nat} {e e1 : AEnv} {v : AV} {A : AHeap} : Agr d e e1 (some (aupd e d v, A)) (some (aupd e1 d v, A)) := ⟨v, rfl, rfl⟩
theorem xset_agr {d : Option Nat} {e e1 : AEnv} {r : Option AV} {A : AHeap} : Agr d e e1 (xset r e d A) (xset r e1 d A) := by
 cases r with
 | none => trivial
 | some v => exact ⟨v, rfl, rfl⟩
theorem xnew_agr {d : Option Nat} {e e1 : AEnv} {r : Option (AV × Blk)} {A : AHeap} : Agr d e e1 (xnew r e d A) (xnew r e1 d A) := by
 cases r with
 | none => trivial
 | some v => exact ⟨v.1, rfl, rfl⟩
theorem xstr_agr {s t : TypeId} {d : Option Nat} {e e1 : AEnv} {r : Option (List (List AV))} {A : AHeap} : Agr d e e1 (xstr P s t r e d A) (xstr P s t r e1 d A) := by
 unfold xstr
 split
 ·split
  ·exact agr_some
  ·trivial
 ·trivial
theorem xnx_agr {d : Option Nat} {e e1 : AEnv} {x : AV} {A : AHeap} : Agr d e e1 (xnx A e d x) (xnx A e1 d x) := by
 unfold xnx
 repeat' split
 all_goals first | exact agr_some | trivial
theorem xop_agr {o : Oper} {e e1 : AEnv} {A : AHeap} (h : ∀ x ∈ o.op.operands, eva e x = eva e1 x) : Agr o.dst e e1 (xop P F o e A) (xop P F o e1 A) := by
 obtain ⟨d, op, ty, pos, af, gd⟩ := o
 simp only at h
 have hpv : apv P A e op = apv P A e1 op := apv_agree h
 have hnw : newA P A.length e op = newA P A.length e1 op := newA_agree h
 cases op with
 | load t a => simp only [xop, h a (by simp [Op.operands])]; exact xset_agr
 | store t a x =>
   simp only [xop, h a (by simp [Op.operands]), h x (by simp [Op.operands])]
   split
   ·exact agr_some
   ·trivial
 | alloc t => exact xnew_agr
 | box t x => simp only [xop, hnw]; exact xnew_agr
 | buildSlice t len ps => simp only [xop, hnw]; exact xnew_agr
 | makeSlice t x y =>
   simp only [xop, h x (by simp [Op.operands]), h y (by simp [Op.operands])]
   repeat' split
   all_goals first | exact agr_some | trivial
 | range t x =>
   simp only [xop, h x (by simp [Op.operands])]
   repeat' split
   all_goals first | exact agr_some | trivial
 | next x b =>
   cases b with
   | false => trivial
   | true =>
     simp only [xop, h x (by simp [Op.operands])]
     exact xnx_agr
 | makeMap t r =>
   cases r with
   | some r => trivial
   | none =>
     simp only [xop]
     repeat' split
     all_goals first | exact agr_some | trivial
 | lookup t x y ok =>
   simp only [xop, h x (by simp [Op.operands]), h y (by simp [Op.operands])]
   exact xset_agr
 | mapUpdate t x y z =>
   simp only [xop, h x (by simp [Op.operands]), h y (by simp [Op.operands]), h z (by simp [Op.operands])]
   repeat' split
   all_goals first | exact agr_some | trivial
 | mapEntry t x y =>
   simp only [xop, h x (by simp [Op.operands]), h y (by simp [Op.operands])]
   repeat' split
   all_goals first | exact agr_some | trivial
 | entryStore t x y z =>
   simp only [xop, h x (by simp [Op.operands]), h y (by simp [Op.operands]), h z (by simp [Op.operands])]
   repeat' split
   all_goals first | exact agr_some | trivial
 | insert t x y z =>
   simp only [xop, h x (by simp [Op.operands]), h y (by simp [Op.operands]), h z (by simp [Op.operands])]
   repeat' split
   all_goals first | exact agr_some | trivial
 | makeInterface t x =>
   simp only [xop, h x (by simp [Op.operands])]
   repeat' split
   all_goals first | exact agr_some | trivial
 | typeAssert x t1 t ok =>
   simp only [xop, h x (by simp [Op.operands])]
   repeat' split
   all_goals first | exact agr_some | trivial
 | convert s dd x =>
   simp only [xop, h x (by simp [Op.operands]), hpv]
   repeat' split
   all_goals first | exact xset_agr | exact xstr_agr | trivial
 | binOp op t x y u =>
   simp only [xop, h x (by simp [Op.operands]), h y (by simp [Op.operands]), hpv]
   repeat' split
   all_goals first | exact xset_agr | exact agr_some | trivial
 | move | assign | pick | nilCheck | unOp | makeFunc | fieldAddr | field | indexAddr | index | extract | slice | build => simp only [xop, hpv]; exact xset_agr
 | call c =>
   obtain ⟨cl, args, ats⟩ := c
   have hargs : ∀ x ∈ args, eva e x = eva e1 x := fun x hx => h x (by simp only [Op.operands, Call.operands]; simp [hx])
   have hmap : args.toList.map (eva e) = args.toList.map (eva e1) := List.map_congr_left fun x hx => hargs x (by simpa using hx)
   cases cl with
   | value f =>
     simp only [xop, h f (by simp [Op.operands, Call.operands]), hmap]
     repeat' split
     all_goals first | exact agr_some | trivial
   | invoke recv name =>
     simp only [xop, h recv (by simp [Op.operands, Call.operands]), hmap]
     repeat' split
     all_goals first | exact agr_some | trivial
   | builtin b =>
     cases b with
     | len =>
       have hl : lenE P A e ⟨.builtin .len, args, ats⟩ = lenE P A e1 ⟨.builtin .len, args, ats⟩ := by
        unfold lenE
        rw [hpv]
        split
        ·rfl
        ·split
         ·rename_i x t h1 h2
          have hx := hargs x (by rw [← Array.mem_toList_iff]; simp only at h1; rw [h1]; simp)
          rw [hx]
         ·rfl
       simp only [xop, hl]
       exact xset_agr
     | append =>
       simp only [xop]
       split
       ·rename_i s x t t' ha ht
        have hs := hargs s (by rw [← Array.mem_toList_iff, ha]; simp)
        have hx := hargs x (by rw [← Array.mem_toList_iff, ha]; simp)
        simp only [hs, hx]
        repeat' split
        all_goals first | exact agr_some | trivial
       ·trivial
     | cap =>
       simp only [xop]
       split
       ·rename_i x t ha ht
        have hx := hargs x (by rw [← Array.mem_toList_iff, ha]; simp)
        simp only [hx]
        repeat' split
        all_goals first | exact agr_some | trivial
       ·trivial
     | min =>
       simp only [xop]
       split
       ·rename_i x y ha
        have hx := hargs x (by rw [← Array.mem_toList_iff, ha]; simp)
        have hy := hargs y (by rw [← Array.mem_toList_iff, ha]; simp)
        simp only [hx, hy]
        repeat' split
        all_goals first | exact agr_some | trivial
       ·trivial
     | max =>
       simp only [xop]
       split
       ·rename_i x y ha
        have hx := hargs x (by rw [← Array.mem_toList_iff, ha]; simp)
        have hy := hargs y (by rw [← Array.mem_toList_iff, ha]; simp)
        simp only [hx, hy]
        repeat' split
        all_goals first | exact agr_some | trivial
       ·trivial
     | clear =>
       simp only [xop]
       split
       ·rename_i x t ha ht
        have hx := hargs x (by rw [← Array.mem_toList_iff, ha]; simp)
        simp only [hx]
        repeat' split
        all_goals first | exact agr_some | trivial
       ·trivial
     | _ => trivial
 | _ => trivial
theorem xset_keep {r : Option AV} {e e' : AEnv} {d : Option Nat} {A A' : AHeap} (h : xset r e d A = some (e', A')) : A' = A := by
 unfold xset at h
 split at h
 ·simp only [Option.some.injEq, Prod.mk.injEq] at h; exact h.2.symm
 ·cases h
theorem xstr_keep {s t : TypeId} {r : Option (List (List AV))} {e e' : AEnv} {d : Option Nat} {A A' : AHeap} (h : xstr P s t r e d A = some (e', A')) : A' = A := by
 unfold xstr at h
 repeat' split at h
 all_goals first | (cases h; done) | (simp only [Option.some.injEq, Prod.mk.injEq] at h; exact h.2.symm)
theorem xop_keep {o : Oper} {e e' : AEnv} {A A' : AHeap} (hs : still o.op = true) (h : xop P F o e A = some (e', A')) : A' = A := by
 obtain ⟨d, op, ty, pos, af, gd⟩ := o
 simp only at hs
 unfold xop at h
 cases op with
 | load | lookup | move | assign | pick | nilCheck | unOp | makeFunc | fieldAddr | field | indexAddr | index | extract | slice | build => exact xset_keep h
 | makeInterface | typeAssert | binOp =>
   simp only at h
   repeat' split at h
   all_goals first | (cases h; done) | exact xset_keep h | (simp only [Option.some.injEq, Prod.mk.injEq] at h; exact h.2.symm)
 | convert =>
   simp only at h
   repeat' split at h
   all_goals first | (cases h; done) | exact xset_keep h | exact xstr_keep h
 | call c =>
   obtain ⟨cl, args, ats⟩ := c
   cases cl with
   | value f => simp [still] at hs
   | invoke => simp [still] at hs
   | builtin b =>
     cases b <;> simp only [still, Bool.false_eq_true] at hs
     all_goals
      simp only at h
      repeat' split at h
      all_goals first | (cases h; done) | exact xset_keep h | (simp only [Option.some.injEq, Prod.mk.injEq] at h; exact h.2.symm)
 | _ => simp [still] at hs
section
variable {H : Nat → Prop} {ι : Place} {A : AHeap} {w : World}
theorem rel_atO {r : Nat} {k0 k : Blk} {o : Obj} {arr : Array Value} (hR : Rel H ι A w) (hH : ∀ c, H c → c < w.heap.size) (h0 : A[r]? = some k0) (hv : k0.ver < k.ver) (ho : (k.ty < 1000000 ∧ o = .cells arr k.ty) ∨ ObjIs o k.ty k.sz arr) (hx : ¬ k.ty < 1000000 → arr.size = k.els.length * k.sz) (hl : k.els.length * k.sz ≤ arr.size) (hc : Cells ι A (Nn H ι A) w k arr) :
 Rel H (newI ι r w.heap.size arr.size) (A.set r k) (w.alloc o) ∧ Step ι A w (newI ι r w.heap.size arr.size) (A.set r k) (w.alloc o) := by
 have hlt := (gSI.1 h0).1
 have hget : ∀ (b : Nat) (k' : Blk), (A.set r k)[b]? = some k' → (b ≠ r ∧ A[b]? = some k') ∨ (b = r ∧ k' = k) := by
  intro b k' h
  by_cases he : r = b
  ·subst he
   rw [gSS hlt] at h
   exact .inr ⟨rfl, (oSI h).symm⟩
  ·rw [gSN he] at h
   exact .inl ⟨fun h => he h.symm, h⟩
 have hst : Step ι A w (newI ι r w.heap.size arr.size) (A.set r k) (w.alloc o) := by
  refine ⟨fun b k' hb => ?_, fun c hm => ?_, fun c hc' _ => heap_push_lt w _ hc', by rw [size_push]; omega, rfl, rfl, rfl⟩
  ·by_cases he : r = b
   ·subst he
    rw [h0] at hb
    obtain rfl := oSI hb
    exact ⟨k, by rw [gSS hlt], Nat.le_of_lt hv, fun h => by omega⟩
   ·exact ⟨k', by rw [gSN he]; exact hb, Nat.le_refl _, fun _ => ⟨by simp only [newI]; rw [if_neg (fun h => he h.symm)], rfl⟩⟩
  ·obtain ⟨b, k', n, h1, h2, h3⟩ := hm
   rcases hget b k' h1 with ⟨hne, h4⟩ | ⟨rfl, rfl⟩
   ·simp only [newI] at h3
    rw [if_neg hne] at h3
    exact .inl ⟨b, k', n, h4, h2, h3⟩
   ·simp only [newI, if_true, Option.some.injEq, Prod.mk.injEq] at h3
    exact .inr (by omega)
 have hv : ∀ c u, Val ι A (Nn H ι A) w c u → Val (newI ι r w.heap.size arr.size) (A.set r k) (Nn H (newI ι r w.heap.size arr.size) (A.set r k)) (w.alloc o) c u := fun c u h => Val.step hst h
 refine ⟨⟨fun b k' hb => ?_, fun b k' c n hb hc' => ?_, fun b b' k1 k2 c n n' h1 h2 g1 g2 => ?_⟩, hst⟩
 ·rcases hget b k' hb with ⟨hne, h4⟩ | ⟨rfl, rfl⟩
  ·exact BlkRel.step (hR.blk b k' h4) (by simp only [newI]; rw [if_neg hne]) (fun c n hι => heap_push_lt w _ (hR.hid b k' c n h4 hι).2) hv
  ·unfold BlkRel
   simp only [newI, if_true]
   refine ⟨arr, (by
    rcases ho with ⟨h1, rfl⟩ | h1
    ·exact .inl ⟨h1, heap_push w _⟩
    ·exact .inr ⟨_, heap_push w _, h1⟩), ⟨fun _ => rfl, hx⟩, hl, fun i x hi => ⟨(hc i x hi).1, fun j av hj => ?_⟩⟩
   obtain ⟨u, e1, e2, e3⟩ := (hc i x hi).2 j av hj
   exact ⟨u, e1, hv _ _ e2, e3⟩
 ·rcases hget b k' hb with ⟨hne, h4⟩ | ⟨rfl, rfl⟩
  ·simp only [newI] at hc'
   rw [if_neg hne] at hc'
   have := hR.hid b k' c n h4 hc'
   exact ⟨this.1, by rw [size_push]; omega⟩
  ·simp only [newI, if_true, Option.some.injEq, Prod.mk.injEq] at hc'
   obtain ⟨rfl, _⟩ := hc'
   exact ⟨fun h => by have := hH _ h; omega, by rw [size_push]; omega⟩
 ·rcases hget b k1 h1 with ⟨hne, h4⟩ | ⟨rfl, rfl⟩ <;> rcases hget b' k2 h2 with ⟨hne', h4'⟩ | ⟨rfl, rfl⟩
  ·simp only [newI] at g1 g2
   rw [if_neg hne] at g1
   rw [if_neg hne'] at g2
   exact hR.inj b b' k1 k2 c n n' h4 h4' g1 g2
  ·simp only [newI, if_true, Option.some.injEq, Prod.mk.injEq] at g1 g2
   rw [if_neg hne] at g1
   have := (hR.hid b k1 c n h4 g1).2
   omega
  ·simp only [newI, if_true, Option.some.injEq, Prod.mk.injEq] at g1 g2
   rw [if_neg hne'] at g2
   have := (hR.hid b' k2 c n' h4' g2).2
   omega
  ·rfl
theorem rel_at {r : Nat} {k0 k : Blk} {arr : Array Value} (hR : Rel H ι A w) (hH : ∀ c, H c → c < w.heap.size) (h0 : A[r]? = some k0) (hv : k0.ver < k.ver) (hty : k.ty < 1000000) (hl : k.els.length * k.sz ≤ arr.size) (hc : Cells ι A (Nn H ι A) w k arr) :
 Rel H (newI ι r w.heap.size arr.size) (A.set r k) (w.alloc (.cells arr k.ty)) ∧ Step ι A w (newI ι r w.heap.size arr.size) (A.set r k) (w.alloc (.cells arr k.ty)) := rel_atO hR hH h0 hv (.inl ⟨hty, rfl⟩) (fun h => absurd hty h) hl hc
end
theorem alloc_at {n r : Nat} {o : Oper} {kl k0 : Blk} {e : AEnv} {A : AHeap} {K : AKont} (hl : liveB P o.op = some kl) (h0 : A[r]? = some k0) (hv : k0.ver = 0) (hk : K (aupd e o.dst (.ptr r 1 0 0)) (A.set r kl)) {C : Ctx} {ec : Env} {w : World} (hn : C.A.length = n) (hS : Sta C e A ec w) : vop P o (Lift C K) ec w := by
 obtain ⟨d, op, ty, pos, af, gd⟩ := o
 simp only at hl hk
 unfold liveB at hl
 split at hl
 case h_2 => cases hl
 rename_i t
 split at hl
 case h_2 => cases hl
 rename_i zA hz
 split at hl
 case isFalse => cases hl
 rename_i hc
 obtain ⟨ht, hrow⟩ := hc
 simp only [Option.some.injEq] at hl
 subst hl
 have hnew : newA P 0 e (.alloc t) = some (.ptr 0 0 0 0, ⟨0, true, t, zA.length, [zA]⟩) := by
  simp only [newA, hz, Option.map_some]
  rw [if_neg hrow]
 obtain ⟨h0', ι, h1, h2, h3, h4⟩ := hS
 obtain ⟨t', cs, f, hno⟩ := newA_sound h3 hnew
 have hof := hno.of
 simp only [newOf, Option.map_eq_some_iff] at hof
 have hty := hno.ty
 simp only at hty
 subst hty
 obtain ⟨zz, hzz, hcs⟩ := hof
 simp only [Prod.mk.injEq] at hcs
 obtain ⟨_, rfl, rfl⟩ := hcs
 have hlen := hno.len
 simp only [List.length_cons, List.length_nil, Nat.zero_add, Nat.one_mul] at hlen
 obtain ⟨g1, g2⟩ := rel_at (r := r) (k := ⟨1, true, t, zA.length, [zA]⟩) (arr := zz.cells.toList.toArray) h1 (fun c hc => Nat.lt_of_lt_of_le (h0'.1 c hc) h2.size) h0 (by rw [hv]; exact Nat.zero_lt_one) ht (by simpa using Nat.le_of_eq hlen) fun i x hi => by
  have a := hno.shp ι A h3 i x hi
  refine ⟨a.1, fun j c hj => ?_⟩
  obtain ⟨u, b1, b2⟩ := a.2 j c hj
  have b3 := hno.mem (Nn C.H ι A) w h4 i x hi j c hj u b1
  exact ⟨u, by simpa using b1, ⟨b2, b3.1⟩, b3.2⟩
 show vNew ((zv P t).map fun z => (t, z.cells.toList)) (fun a => .pointer (some a)) ec d (Lift C K) w
 refine ⟨t, zz.cells.toList, by rw [hzz]; rfl, _, _, hk, h0', _, g1, h2.trans g2, shp_upd (fun i => Shp.step g2.stab _ _ (h3 i)) ?_, mem_upd (fun i => Mem.keep g2.keepD _ _ (h4 i)) (by simp [Mem])⟩
 have hlt := (gSI.1 h0).1
 simp only [Shp]
 exact ⟨⟨_, rfl⟩, _, by rw [gSS hlt], Nat.le_refl _, fun _ => ⟨w.heap.size, zz.cells.toList.toArray.size, by simp [newI], by simp⟩⟩
def aAnyR (P : Program) (n : Nat) (ops : List Oper) (k : AKont) : Nat → Array Bool → AKont
 | 0, L => fun e A => Region.ready .any ops.toArray L = [] ∧ k e A
 | f + 1, L => fun e A => (Region.ready .any ops.toArray L = [] → k e A) ∧ ∀ i ∈ Region.ready .any ops.toArray L, ∃ o, ops[i]? = some o ∧ o.guard = none ∧ ∀ (C : Ctx) (ec : Env) (w : World), C.A.length = n → Sta C e A ec w → vop P o (Lift C (aAnyR P n ops k f (L.setIfInBounds i true))) ec w
theorem aAnyR_sound {n : Nat} {C : Ctx} {K : AKont} {ops : List Oper} {m : Nat} (hn : C.A.length = n) (hd : ∀ o ∈ ops, ∀ d', o.dst = some d' → d' < m) : ∀ (f : Nat) (L : Array Bool) (e : AEnv) (A : AHeap) (a : Act) (w : World), Fr m a → Sta C e A (envOf a) w → aAnyR P n ops K f L e A →
 wpAny P .any ops.toArray (fun ex a' w' => ex = .normal ∧ Fr m a' ∧ Lift C K (envOf a') w') f L a w
 | 0, L, e, A, a, w, hf, hS, h => ⟨h.1, rfl, hf, e, A, h.2, hS⟩
 | f + 1, L, e, A, a, w, hf, hS, h => by
   refine ⟨fun hr => ⟨rfl, hf, e, A, h.1 hr, hS⟩, fun i hi => ?_⟩
   obtain ⟨o, ho, hg, hv⟩ := h.2 i hi
   unfold wpOp
   simp only [List.getElem?_toArray, ho]
   rw [if_pos (by simp [Region.wanted, hg])]
   exact .inl (vop_sound hf (hd o (gMO ho)) (fun a w hf' ⟨e', A', h', hS'⟩ => aAnyR_sound hn hd f _ e' A' a w hf' hS' h') (hv C _ w hn hS))
theorem adraw_allR {n : Nat} {K : AKont} {e : AEnv} {A : AHeap} {id : Nat} {ops : List Oper} (hm : P.follows .mixedOrders = true) (h : aAnyR P n ops K ops.length (Array.replicate ops.length false) e A) : aDraw P n id ops.toArray K e A := by
 intro C ec w hn hS m a hf hd he
 subst he
 refine wp_region_any hm ?_
 simpa using aAnyR_sound hn (fun o ho => hd o (by simpa using ho)) ops.length _ e A a w.drew hf hS.drew h
theorem freeAlloc_spec : ∀ (l : List Oper) (i ia : Nat) (kl : Blk), freeAlloc P i l = some (ia, kl) → ∃ o, l[ia - i]? = some o ∧ i ≤ ia ∧ liveB P o.op = some kl
 | [], i, ia, kl, h => by cases h
 | o :: os, i, ia, kl, h => by
   unfold freeAlloc at h
   split at h
   ·rename_i k hk
    simp only [Option.some.injEq, Prod.mk.injEq] at h
    obtain ⟨rfl, rfl⟩ := h
    exact ⟨o, by simp, Nat.le_refl _, hk⟩
   ·obtain ⟨o', h1, h2, h3⟩ := freeAlloc_spec os (i + 1) ia kl h
    refine ⟨o', ?_, by omega, h3⟩
    rw [show ia - i = (ia - (i + 1)) + 1 by omega]
    simpa using h1
structure Run (P : Program) (F : XF) (ops : List Oper) (ia r : Nat) (kl : Blk) (e0 : AEnv) (A0 : AHeap) (E : Nat → AEnv) (H : Nat → AHeap) : Prop where
 e0 : E 0 = e0
 h0 : H 0 = A0
 step : ∀ (i : Nat) (o : Oper), ops[i]? = some o → i ≠ ia → xop P F o (E i) (H i) = some (E (i + 1), H (i + 1))
 at_ : ∀ (o : Oper), ops[ia]? = some o → E (ia + 1) = aupd (E ia) o.dst (.ptr r 1 0 0) ∧ H (ia + 1) = (H ia).set r kl
theorem xseqG_run {ia r : Nat} {kl : Blk} : ∀ (ops : List Oper) (i0 : Nat) (e : AEnv) (A : AHeap) (st : List (AEnv × AHeap)), xseqG P F ia r kl i0 ops e A = some st → st.length = ops.length + 1 ∧ (st.getD 0 (e, A)) = (e, A) ∧
 ∀ (i : Nat) (o : Oper), ops[i]? = some o → (if i0 + i = ia then some (aupd (st.getD i (e, A)).1 o.dst (.ptr r 1 0 0), (st.getD i (e, A)).2.set r kl) else xop P F o (st.getD i (e, A)).1 (st.getD i (e, A)).2) = some (st.getD (i + 1) (e, A))
 | [], i0, e, A, st, h => by
   simp only [xseqG, Option.some.injEq] at h
   subst h
   exact ⟨rfl, rfl, fun i o ho => by simp at ho⟩
 | o :: os, i0, e, A, st, h => by
   simp only [xseqG] at h
   split at h
   case h_2 => cases h
   rename_i e1 A1 h1
   split at h
   case h_2 => cases h
   rename_i l hl2
   simp only [Option.some.injEq] at h
   subst h
   obtain ⟨g1, g2, g3⟩ := xseqG_run os (i0 + 1) e1 A1 l hl2
   have hd : ∀ i, i < l.length → l.getD i (e, A) = l.getD i (e1, A1) := fun i hi => by simp [List.getD_eq_getElem?_getD, hi]
   refine ⟨by simp [g1], rfl, fun i o' ho => ?_⟩
   cases i with
   | zero =>
     simp only [List.getElem?_cons_zero, Option.some.injEq] at ho
     subst ho
     simp only [List.getD_cons_zero, List.getD_cons_succ, Nat.add_zero]
     rw [hd 0 (by omega), g2]
     exact h1
   | succ i =>
     simp only [List.getElem?_cons_succ] at ho
     have := g3 i o' ho
     have hi := (gSI.1 ho).1
     simp only [List.getD_cons_succ]
     rw [hd i (by omega), hd (i + 1) (by omega), show i0 + (i + 1) = i0 + 1 + i by omega]
     exact this
section
variable {ops : List Oper} {ia r : Nat} {kl : Blk} {e0 : AEnv} {A0 : AHeap} {E : Nat → AEnv} {H : Nat → AHeap}
theorem Run.keepE (hr : Run P F ops ia r kl e0 A0 E H) {i t : Nat} {o : Oper} (ho : ops[i]? = some o) (h : o.dst ≠ some t) : E (i + 1) t = E i t := by
 by_cases hi : i = ia
 ·subst hi
  rw [(hr.at_ o ho).1]
  cases hd : o.dst with
  | none => rfl
  | some d =>
    show (if t = d then _ else E i t) = E i t
    rw [if_neg]
    intro he
    exact h (by rw [hd, he])
 ·exact xop_out (hr.step i o ho hi) h
theorem Run.out (hr : Run P F ops ia r kl e0 A0 E H) {i : Nat} (hi : i ≤ ops.length) {t : Nat} (h : ∀ (j : Nat) (o : Oper), j < i → ops[j]? = some o → o.dst ≠ some t) : E i t = e0 t := by
 induction i with
 | zero => rw [hr.e0]
 | succ i ih =>
   have hl : i < ops.length := by omega
   rw [hr.keepE (o := ops[i]) (by simp [hl]) (h i ops[i] (by omega) (by simp [hl]))]
   exact ih (by omega) fun j o hj => h j o (by omega)
theorem Run.val (hr : Run P F ops ia r kl e0 A0 E H) {j : Nat} {o : Oper} {t : Nat} (ho : ops[j]? = some o) (hd : o.dst = some t) (hu : ∀ (k : Nat) (q : Oper), ops[k]? = some q → q.dst = some t → k = j) : ∀ i, j < i → i ≤ ops.length → E i t = E (j + 1) t := by
 intro i hji hi
 induction i with
 | zero => omega
 | succ i ih =>
   rcases Nat.lt_or_ge j i with h | h
   ·have hl : i < ops.length := by omega
    rw [hr.keepE (o := ops[i]) (by simp [hl]) fun hd' => by have := hu i ops[i] (by simp [hl]) hd'; omega]
    exact ih h (by omega)
   ·obtain rfl : i = j := by omega
    rfl
theorem Run.heap (hr : Run P F ops ia r kl e0 A0 E H) {p q : Nat} (hpq : p ≤ q) (hq : q ≤ ops.length) (hia : q ≤ ia ∨ ia < p) (h : ∀ j, p ≤ j → j < q → chg ops ia j = false) : H q = H p := by
 induction q with
 | zero =>
   obtain rfl : p = 0 := by omega
   rfl
 | succ q ih =>
   rcases Nat.lt_or_ge q p with h1 | h1
   ·obtain rfl : p = q + 1 := by omega
    rfl
   ·have hl : q < ops.length := by omega
    have hc := h q h1 (by omega)
    have hqa : q ≠ ia := by omega
    simp only [chg, gEG hl, decide_eq_true hqa, Bool.and_true, Bool.not_eq_false'] at hc
    rw [xop_keep hc (hr.step q ops[q] (by simp [hl]) hqa)]
    exact ih h1 (by omega) (by omega) fun j h2 h3 => h j h2 (by omega)
theorem mem_reps {q : Nat} (h : q ∈ reps ops ia) : q ≤ ops.length := by
 simp only [reps, List.mem_cons, List.mem_map, List.mem_filter, List.mem_range] at h
 rcases h with rfl | ⟨j, ⟨hj, _⟩, rfl⟩ <;> omega
theorem chg_lt {j : Nat} (h : chg ops ia j = true) : j < ops.length ∧ j ≠ ia := by
 unfold chg at h
 split at h
 ·rename_i o ho
  simp only [Bool.and_eq_true, decide_eq_true_eq] at h
  exact ⟨(gSI.1 ho).1, h.2⟩
 ·cases h
def Hs (H : Nat → AHeap) (ia r : Nat) (kl : Blk) (p : Nat) (b : Bool) : AHeap := if b = true ∧ p ≤ ia then (H p).set r kl else H p
theorem Run.same (hr : Run P F ops ia r kl e0 A0 E H) {p q : Nat} {b : Bool} (hp : p ≤ ops.length) (hq : q ≤ ops.length) (h1 : ia < p → b = true) (h2 : ia < q → b = true) (h : ∀ j, chg ops ia j = true → (j < p ↔ j < q)) : Hs H ia r kl p b = Hs H ia r kl q b := by
 have hno : ∀ j, (p ≤ j ∧ j < q) ∨ (q ≤ j ∧ j < p) → chg ops ia j = false := fun j hj => by
  cases hc : chg ops ia j with
  | false => rfl
  | true => have := h j hc; omega
 have key : ∀ p q, p ≤ q → q ≤ ops.length → (∀ j, p ≤ j → j < q → chg ops ia j = false) → (ia < q → b = true) → Hs H ia r kl p b = Hs H ia r kl q b := by
  intro p q hpq hq hn hb
  unfold Hs
  rcases Nat.lt_or_ge ia q with h1 | h1
  ·rw [hb h1]
   rcases Nat.lt_or_ge ia p with h2 | h2
   ·rw [if_neg (fun hh => by omega), if_neg (fun hh => by omega), hr.heap hpq hq (.inr h2) hn]
   ·rw [if_pos ⟨rfl, h2⟩, if_neg (fun hh => by omega)]
    have hl : ia < ops.length := by omega
    rw [hr.heap (p := ia + 1) (q := q) h1 hq (.inr (by omega)) (fun j h3 h4 => hn j (by omega) h4), (hr.at_ ops[ia] (by simp [hl])).2, hr.heap (p := p) (q := ia) h2 (by omega) (.inl (Nat.le_refl _)) (fun j h3 h4 => hn j h3 (by omega))]
  ·rw [hr.heap hpq hq (.inl h1) hn]
   by_cases hb' : b = true
   ·rw [if_pos ⟨hb', by omega⟩, if_pos ⟨hb', h1⟩]
   ·rw [if_neg (fun hh => hb' hh.1), if_neg (fun hh => hb' hh.1)]
 rcases Nat.le_total p q with hpq | hpq
 ·exact key p q hpq hq (fun j h3 h4 => hno j (.inl ⟨h3, h4⟩)) h2
 ·exact (key q p hpq hp (fun j h3 h4 => hno j (.inr ⟨h3, h4⟩)) h1).symm
theorem Hs_text {i : Nat} : Hs H ia r kl i (decide (ia < i)) = H i := by
 unfold Hs
 rw [if_neg]
 simp only [decide_eq_true_eq]
 omega
structure Mid (ops : List Oper) (ia r : Nat) (kl : Blk) (e0 : AEnv) (E : Nat → AEnv) (H : Nat → AHeap) (L : Array Bool) (e : AEnv) (A : AHeap) : Prop where
 sz : L.size = ops.length
 cl : Closed ops (Lst L)
 hp : ∃ p, p ∈ reps ops ia ∧ A = Hs H ia r kl p (L.getD ia false) ∧ ∀ j, chg ops ia j = true → (Lst L j ↔ j < p)
 val : ∀ (j : Nat) (o : Oper) (t : Nat), Lst L j → ops[j]? = some o → o.dst = some t → e t = E (j + 1) t
 out : ∀ t, (∀ (j : Nat) (o : Oper), Lst L j → ops[j]? = some o → o.dst ≠ some t) → e t = e0 t
theorem isGhost_spec {k : Option Blk} (h : isGhost k = true) : ∃ k0, k = some k0 ∧ k0.ver = 0 := by
 unfold isGhost at h
 split at h
 ·exact ⟨_, rfl, rfl⟩
 ·cases h
theorem xline_all {n : Nat} (hF : XFok P F) {st : List (AEnv × AHeap)} {K : AKont} (hr : Run P F ops ia r kl e0 A0 (fun i => (st.getD i (e0, A0)).1) (fun i => (st.getD i (e0, A0)).2)) (hal : ∀ o, ops[ia]? = some o → liveB P o.op = some kl)
 (h : lineAll P F ops (masks [] ops) st (e0, A0) ia r kl = true) (hk : K (st.getD ops.length (e0, A0)).1 (st.getD ops.length (e0, A0)).2) :
 ∀ (f : Nat) (L : Array Bool) (e : AEnv) (A : AHeap), Mid ops ia r kl e0 (fun i => (st.getD i (e0, A0)).1) (fun i => (st.getD i (e0, A0)).2) L e A → (List.range ops.length).countP (fun i => !L.getD i false) ≤ f → aAnyR P n ops K f L e A := by
 have hall : ∀ (i : Nat) (o : Oper), ops[i]? = some o → lineOp P F ops (masks [] ops) st (e0, A0) ia r kl i o = true := fun i o ho => by
  have := List.all_eq_true.1 h i (List.mem_range.2 (gSI.1 ho).1)
  rw [ho] at this
  exact this
 obtain ⟨E, hE⟩ : ∃ E : Nat → AEnv, E = fun i => (st.getD i (e0, A0)).1 := ⟨_, rfl⟩
 obtain ⟨H, hH⟩ : ∃ H : Nat → AHeap, H = fun i => (st.getD i (e0, A0)).2 := ⟨_, rfl⟩
 have hEi : ∀ i, (st.getD i (e0, A0)).1 = E i := fun i => by rw [hE]
 have hHi : ∀ i, (st.getD i (e0, A0)).2 = H i := fun i => by rw [hH]
 have hat : ∀ q b, hpAt st (e0, A0) ia r kl q b = Hs H ia r kl q b := fun q b => by simp only [hpAt, Hs, hHi]
 rw [hEi, hHi] at hk
 rw [← hE, ← hH] at hr ⊢
 have hslot : ∀ (i j : Nat) (oi oj : Oper) (d : Nat), ops[i]? = some oi → ops[j]? = some oj → oj.dst = some d → i ≠ j → oi.dst ≠ some d ∧ (d ∈ seen ops oi → if j < i then ((masks [] ops).getD i 0).testBit j = true else ((masks [] ops).getD j 0).testBit i = true) := by
  intro i j oi oj d hi hj hd hij
  have := hall i oi hi
  simp only [lineOp, Bool.and_eq_true] at this
  have hs := this.1.2
  simp only [slotOk, List.all_eq_true, List.mem_range] at hs
  have := hs j (gSI.1 hj).1
  rw [hj] at this
  simp only [hd, Bool.or_eq_true, beq_iff_eq, hij, false_or, Bool.and_eq_true, Bool.not_eq_true'] at this
  refine ⟨fun h0 => ?_, fun h0 => ?_⟩
  ·rw [h0] at this
   simp at this
  ·have h2 := this.2
   rcases h2 with h2 | h2
   ·have : (seen ops oi).contains d = true := by simpa using h0
    rw [this] at h2
    cases h2
   ·by_cases hji : j < i
    ·simp only [hji, if_true] at h2 ⊢; exact h2
    ·simp only [hji, if_false] at h2 ⊢; exact h2
 have huniq : ∀ (j : Nat) (o : Oper) (t : Nat), ops[j]? = some o → o.dst = some t → ∀ (k : Nat) (q : Oper), ops[k]? = some q → q.dst = some t → k = j := fun j o t ho hd k q hq hqd => by
  by_cases hkj : k = j
  ·exact hkj
  ·exact absurd hqd (hslot k j q o t hq ho hd hkj).1
 have hback : ∀ (i : Nat) (o : Oper), ops[i]? = some o → ∀ e ∈ o.after, Region.binds .any e = true → e.on < i := fun i o ho e he hb => by
  have := hall i o ho
  simp only [lineOp, Bool.and_eq_true] at this
  have := List.all_eq_true.1 this.1.1.2 e (by simpa using he)
  simpa [hb] using this
 have hsome : ∀ {L : Array Bool}, L.size = ops.length → (∃ j, j < ops.length ∧ ¬ Lst L j) → ∃ i, i ∈ Region.ready .any ops.toArray L := by
  rintro L hs ⟨j, hj, hu⟩
  induction j using Nat.strongRecOn with
  | _ j ih =>
    by_cases hb : ∃ k, k < j ∧ ¬ Lst L k
    ·obtain ⟨k, hk, hn⟩ := hb
     exact ih k hk (by omega) hn
    ·refine ⟨j, mem_ready.2 ⟨?_, ops[j], by simp [hj], fun e he hbi => ?_⟩⟩
     ·unfold Lst at hu
      simp [hs, hj] at hu ⊢
      exact hu
     ·have := hback j ops[j] (by simp [hj]) e he hbi
      exact Classical.byContradiction fun hn => hb ⟨e.on, this, hn⟩
 have hbp : ∀ {L : Array Bool} {e : AEnv} {A : AHeap}, Mid ops ia r kl e0 E H L e A → ∀ p, p ∈ reps ops ia → (∀ j, chg ops ia j = true → (Lst L j ↔ j < p)) → ia < p → L.getD ia false = true := by
  intro L e A hM p hp1 hp3 hlt
  simp only [reps, List.mem_cons, List.mem_map, List.mem_filter, List.mem_range] at hp1
  rcases hp1 with rfl | ⟨c, ⟨hc1, hc2⟩, rfl⟩
  ·omega
  ·have hlc := (hp3 c hc2).2 (by omega)
   have hne := (chg_lt hc2).2
   have hoc : ops[c]? = some ops[c] := by simp [hc1]
   have := hall c ops[c] hoc
   simp only [lineOp, Bool.and_eq_true] at this
   have h2 := this.2
   rw [if_neg hne] at h2
   have hst' : ¬ still ops[c].op = true := fun hs => by simp [chg, hoc, hs] at hc2
   rw [if_neg hst', if_pos (by omega), Bool.and_eq_true] at h2
   exact mask_in hM.cl hoc (hM.cl c _ hoc hlc) h2.2
 have hfin : ∀ {L : Array Bool} {e : AEnv} {A : AHeap}, Mid ops ia r kl e0 E H L e A → (∀ j, j < ops.length → Lst L j) → K e A := by
  intro L e A hM hl
  have he : e = E ops.length := by
   funext t
   by_cases hw : ∃ (j : Nat) (o : Oper), ops[j]? = some o ∧ o.dst = some t
   ·obtain ⟨j, o, ho, hd⟩ := hw
    have hj := (gSI.1 ho).1
    rw [hM.val j o t (hl j hj) ho hd, hr.val ho hd (huniq j o t ho hd) ops.length hj (Nat.le_refl _)]
   ·rw [hM.out t fun j o _ ho hd => hw ⟨j, o, ho, hd⟩, hr.out (Nat.le_refl _) fun j o _ ho hd => hw ⟨j, o, ho, hd⟩]
  obtain ⟨p, hp1, hp2, hp3⟩ := hM.hp
  have hb : L.getD ia false = decide (ia < ops.length) := by
   by_cases hia : ia < ops.length
   ·rw [decide_eq_true hia]; exact hl ia hia
   ·rw [decide_eq_false hia]
    simp [Array.getD, hM.sz, hia]
  have hA : A = H ops.length := by
   rw [hp2, hr.same (q := ops.length) (mem_reps hp1) (Nat.le_refl _) (hbp hM p hp1 hp3) (fun hh => by rw [hb]; simpa using hh) fun j hc => ?_, hb]
   ·exact Hs_text
   ·have hj := (chg_lt hc).1
    exact ⟨fun _ => hj, fun _ => (hp3 j hc).1 (hl j hj)⟩
  rw [he, hA]
  exact hk
 intro f
 induction f with
 | zero =>
   intro L e A hM hf
   have hl : ∀ j, j < ops.length → Lst L j := fun j hj => by
    have h0 : (List.range ops.length).countP (fun i => !L.getD i false) = 0 := by omega
    rw [List.countP_eq_zero] at h0
    have := h0 j (List.mem_range.2 hj)
    unfold Lst
    simpa using this
   refine ⟨?_, hfin hM hl⟩
   rw [List.eq_nil_iff_forall_not_mem]
   intro i hi
   obtain ⟨o, hn⟩ := next_of hi
   exact hn.un (hl i (gSI.1 hn.ho).1)
 | succ f ih =>
   intro L e A hM hf
   refine ⟨fun h0 => hfin hM fun j hj => Classical.byContradiction fun hn => ?_, fun i hi => ?_⟩
   ·obtain ⟨i, hi⟩ := hsome hM.sz ⟨j, hj, hn⟩
    rw [h0] at hi
    cases hi
   ·obtain ⟨o, hn⟩ := next_of hi
    have hil := (gSI.1 hn.ho).1
    have hO := hall i o hn.ho
    simp only [lineOp, Bool.and_eq_true] at hO
    obtain ⟨⟨⟨hg, _⟩, _⟩, hO⟩ := hO
    have hg : o.guard = none := by
     split at hg
     ·assumption
     ·cases hg
    refine ⟨o, hn.ho, hg, fun C ec w hCn hS => ?_⟩
    have hag : ∀ x ∈ o.op.operands, eva (E i) x = eva e x := fun x hx => eva_agree fun t he => by
     have hsn : t ∈ seen ops o := by
      simp only [seen, List.mem_append, List.mem_filterMap]
      exact .inl ⟨_, by simpa using hx, by rw [he]⟩
     by_cases hw : ∃ (j : Nat) (q : Oper), ops[j]? = some q ∧ q.dst = some t
     ·obtain ⟨j, q, hq, hd⟩ := hw
      by_cases hji : i = j
      ·subst hji
       rw [hr.out (Nat.le_of_lt hil) fun k r hk hr' hd' => by have := huniq i q t hq hd k r hr' hd'; omega]
       rw [hM.out t fun k r hk hr' hd' => by have := huniq i q t hq hd k r hr' hd'; subst this; exact hn.un hk]
      ·have hsl := (hslot i j o q t hn.ho hq hd hji).2 hsn
       by_cases hlt : j < i
       ·rw [if_pos hlt] at hsl
        rw [hM.val j q t (mask_in hM.cl hn.ho hn.all hsl) hq hd]
        exact hr.val hq hd (huniq j q t hq hd) i hlt (Nat.le_of_lt hil)
       ·rw [if_neg hlt] at hsl
        have hlj : ¬ Lst L j := fun hl => hn.un (mask_in hM.cl hq (hM.cl j q hq hl) hsl)
        rw [hr.out (Nat.le_of_lt hil) fun k r hk hr' hd' => by have := huniq j q t hq hd k r hr' hd'; omega]
        rw [hM.out t fun k r hk hr' hd' => by have := huniq j q t hq hd k r hr' hd'; subst this; exact hlj hk]
     ·rw [hr.out (Nat.le_of_lt hil) fun j o _ ho hd => hw ⟨j, o, ho, hd⟩, hM.out t fun j o _ ho hd => hw ⟨j, o, ho, hd⟩]
    have hsz : i < L.size := by rw [hM.sz]; exact hil
    obtain ⟨p, hp1, hp2, hp3⟩ := hM.hp
    obtain ⟨b, hbL⟩ : ∃ b, L.getD ia false = b := ⟨_, rfl⟩
    rw [hbL] at hp2
    have hpb : ia < p → b = true := fun hh => by rw [← hbL]; exact hbp hM p hp1 hp3 hh
    have hgetne : ∀ j, j ≠ i → (L.setIfInBounds i true).getD j false = L.getD j false := fun j hj => getD_set_ne false (fun hh => hj hh.symm)
    have key : ∀ (v : AV) (A' : AHeap), (∀ d, o.dst = some d → v = E (i + 1) d) → (∃ q, q ∈ reps ops ia ∧ A' = Hs H ia r kl q ((L.setIfInBounds i true).getD ia false) ∧ ∀ j, chg ops ia j = true → (Lst L j ∨ j = i ↔ j < q)) →
     aAnyR P n ops K f (L.setIfInBounds i true) (aupd e o.dst v) A' := by
     rintro v A' hv ⟨q, hq1, hq2, hq3⟩
     refine ih _ _ _ ⟨by simp [hM.sz], ?_, ⟨q, hq1, hq2, fun j hc => (Lst_set hsz j).trans (hq3 j hc)⟩, ?_, ?_⟩ ?_
     ·intro j oj hj hl e he hb
      rw [Lst_set hsz] at hl ⊢
      rcases hl with hl | rfl
      ·exact .inl (hM.cl j oj hj hl e he hb)
      ·obtain rfl : o = oj := by rw [hn.ho] at hj; exact oSI hj
       exact .inl (hn.all e he hb)
     ·intro j oj t hl hj hd
      rw [Lst_set hsz] at hl
      by_cases hji : j = i
      ·subst hji
       obtain rfl : o = oj := by rw [hn.ho] at hj; exact oSI hj
       rw [hd]
       simp only [aupd, upd, if_true]
       exact hv t hd
      ·have hl := hl.resolve_right hji
       rw [← hM.val j oj t hl hj hd]
       cases hdo : o.dst with
       | none => rfl
       | some d' =>
         have : t ≠ d' := fun h0 => (hslot i j o oj t hn.ho hj hd (Ne.symm hji)).1 (by rw [hdo, h0])
         simp only [aupd, upd, if_neg this]
     ·intro t ht
      have ht' : ∀ (j : Nat) (o : Oper), Lst L j → ops[j]? = some o → o.dst ≠ some t := fun j q hl hq => ht j q ((Lst_set hsz j).2 (.inl hl)) hq
      rw [← hM.out t ht']
      have := ht i o ((Lst_set hsz i).2 (.inr rfl)) hn.ho
      cases hdo : o.dst with
      | none => rfl
      | some d' =>
        have : t ≠ d' := fun h0 => this (by rw [hdo, h0])
        simp only [aupd, upd, if_neg this]
     ·have := cnt_set (N := ops.length) (L := L) hil hsz hn.un
      omega
    by_cases hia : i = ia
    ·-- the new block
     subst hia
     have hb0 : b = false := by
      cases b with
      | false => rfl
      | true => exact absurd hbL hn.un
     subst hb0
     have hpi : p ≤ i := Nat.le_of_not_lt fun hh => by have := hpb hh; cases this
     rw [if_pos rfl] at hO
     have hq := List.all_eq_true.1 hO p hp1
     simp only [Bool.or_eq_true, decide_eq_true_eq] at hq
     obtain ⟨k0, hk0, hv0⟩ := isGhost_spec (hq.resolve_left (by omega))
     rw [hHi] at hk0
     have hAp : A = H p := by rw [hp2]; simp [Hs]
     refine alloc_at (hal o hn.ho) (by rw [hAp]; exact hk0) hv0 (key _ _ (fun d hd => ?_) ⟨p, hp1, ?_, fun j hc => ?_⟩) hCn hS
     ·rw [(hr.at_ o hn.ho).1, hd]
      simp [aupd, upd]
     ·have : (L.setIfInBounds i true).getD i false = true := by simp [Array.getD, hsz]
      rw [this, hAp]
      simp [Hs, hpi]
     ·rw [← hp3 j hc]
      have := (chg_lt hc).2
      exact ⟨fun h => h.resolve_right this, .inl⟩
    ·rw [if_neg hia] at hO
     have hbL' : (L.setIfInBounds i true).getD ia false = b := by rw [hgetne ia (Ne.symm hia), hbL]
     have hstep := hr.step i o hn.ho hia
     have base : ∀ A1, (H i = A1) → ∃ v, xop P F o e A1 = some (aupd e o.dst v, H (i + 1)) ∧ (∀ d, o.dst = some d → v = E (i + 1) d) := by
      rintro A1 rfl
      have := xop_agr (P := P) (F := F) (A := H i) hag
      rw [hstep] at this
      obtain ⟨v, g1, g2⟩ := this
      refine ⟨v, g2, fun d hd => ?_⟩
      rw [g1, hd]
      simp [aupd, upd]
     have done : ∀ {v : AV} {A' : AHeap}, xop P F o e A = some (aupd e o.dst v, A') → (∀ d, o.dst = some d → v = E (i + 1) d) → (∃ q, q ∈ reps ops ia ∧ A' = Hs H ia r kl q b ∧ ∀ j, chg ops ia j = true → (Lst L j ∨ j = i ↔ j < q)) → vop P o (Lift C (aAnyR P n ops K f (L.setIfInBounds i true))) ec w := fun hx hv hq =>
      avop_sound hCn hS (xop_spec hF hx (key _ _ hv (by rw [hbL']; exact hq)))
     by_cases hs : still o.op = true
     ·have hci : chg ops ia i = false := by simp [chg, hn.ho, hs]
      have hne : ∀ j, chg ops ia j = true → (Lst L j ∨ j = i ↔ j < p) := fun j hc => by
       rw [← hp3 j hc]
       exact ⟨fun h => h.elim id fun h0 => absurd hc (by rw [h0, hci]; exact Bool.false_ne_true), .inl⟩
      have hkeep : H (i + 1) = H i := xop_keep hs hstep
      rw [if_pos hs] at hO
      have hq : stillOk P F ops (masks [] ops) st (e0, A0) ia r kl i o p b = true := by
       have := List.all_eq_true.1 hO p hp1
       simp only [Bool.and_eq_true] at this
       cases b with
       | false => exact this.1
       | true => exact this.2
      simp only [stillOk, Bool.or_eq_true] at hq
      rcases hq with (((hq | hq) | hq) | hq) | hq
      ·exfalso
       simp only [Bool.and_eq_true, Bool.or_eq_true, decide_eq_true_eq] at hq
       obtain ⟨rfl, hq | hq⟩ := hq
       ·simp [Array.getD, hM.sz, show ¬ ia < ops.length by omega] at hbL
       ·have hial : ia < ops.length := by
         have : ia < L.size := Classical.byContradiction fun hh => by simp [Array.getD, hh] at hbL
         rwa [hM.sz] at this
        have hoa : ops[ia]? = some ops[ia] := by simp [hial]
        exact hn.un (mask_in hM.cl hoa (hM.cl ia _ hoa hbL) hq)
      ·exfalso
       simp only [Bool.and_eq_true, Bool.or_eq_true, decide_eq_true_eq, Bool.not_eq_true'] at hq
       obtain ⟨rfl, hq | hq⟩ := hq
       ·have := hpb hq; cases this
       ·have := mask_in hM.cl hn.ho hn.all hq
        unfold Lst at this
        rw [hbL] at this
        cases this
      ·exfalso
       obtain ⟨j, hj, hq⟩ := List.any_eq_true.1 hq
       simp only [Bool.and_eq_true, Bool.or_eq_true, decide_eq_true_eq] at hq
       obtain ⟨hc, hq⟩ := hq
       rcases hq with ⟨h1, h2⟩ | ⟨h1, h2⟩
       ·have := (hp3 j hc).1 (mask_in hM.cl hn.ho hn.all h2)
        omega
       ·have hlj := (hp3 j hc).2 h1
        have hjl : j < ops.length := List.mem_range.1 hj
        have hoj : ops[j]? = some ops[j] := by simp [hjl]
        exact hn.un (mask_in hM.cl hoj (hM.cl j _ hoj hlj) h2)
      ·simp only [Bool.and_eq_true, beq_iff_eq] at hq
       obtain ⟨hb, hq⟩ := hq
       have hHp : Hs H ia r kl p b = Hs H ia r kl i b := hr.same (mem_reps hp1) (Nat.le_of_lt hil) hpb (fun hh => by rw [hb]; simpa using hh) fun j hc => by
        have := List.all_eq_true.1 hq j (List.mem_range.2 (chg_lt hc).1)
        simp only [hc, Bool.not_true, Bool.false_or, beq_iff_eq, decide_eq_decide] at this
        exact this
       have hHi' : Hs H ia r kl i b = H i := by rw [hb]; exact Hs_text
       obtain ⟨v, g1, g2⟩ := base A (by rw [hp2, hHp, hHi'])
       exact done g1 g2 ⟨p, hp1, by rw [hkeep, hHp, hHi'], hne⟩
      ·rw [hat, hEi, hEi] at hq
       split at hq
       case h_2 => cases hq
       rename_i e2 A2 hx
       have := xop_agr (P := P) (F := F) (A := Hs H ia r kl p b) hag
       rw [hx] at this
       obtain ⟨v, g1, g2⟩ := this
       have hA2 := xop_keep hs hx
       rw [← hp2] at g2
       refine done g2 (fun d hd => ?_) ⟨p, hp1, hA2, hne⟩
       rw [hd] at hq
       simp only at hq
       rw [← beqA_eq _ _ hq, g1, hd]
       simp [aupd, upd]
     ·rw [if_neg hs] at hO
      simp only [Bool.and_eq_true] at hO
      obtain ⟨hO, hO2⟩ := hO
      have hci : chg ops ia i = true := by simp only [chg, hn.ho]; simp [hs, hia]
      have hlow : ∀ j, j < i → chg ops ia j = true → Lst L j := fun j hj hc => by
       have := List.all_eq_true.1 hO j (List.mem_range.2 hj)
       simp only [hc, Bool.not_true, Bool.false_or] at this
       exact mask_in hM.cl hn.ho hn.all this
      have hpi : p ≤ i := Nat.le_of_not_lt fun hh => hn.un ((hp3 i hci).2 hh)
      have hsm : ∀ j, chg ops ia j = true → (j < p ↔ j < i) := fun j hc => by
       refine ⟨fun h => by omega, fun h => (hp3 j hc).1 (hlow j h hc)⟩
      have hrep : i + 1 ∈ reps ops ia := by
       simp only [reps, List.mem_cons, List.mem_map, List.mem_filter, List.mem_range]
       exact .inr ⟨i, ⟨hil, hci⟩, rfl⟩
      have hnext : ∀ j, chg ops ia j = true → (Lst L j ∨ j = i ↔ j < i + 1) := fun j hc => by
       constructor
       ·rintro (h1 | rfl)
        ·have := (hp3 j hc).1 h1; omega
        ·omega
       ·intro h1
        rcases Nat.lt_or_ge j i with h2 | h2
        ·exact .inl (hlow j h2 hc)
        ·exact .inr (by omega)
      by_cases hlt : ia < i
      ·rw [if_pos hlt] at hO2
       have hb : b = true := by
        have := mask_in hM.cl hn.ho hn.all hO2
        rw [← hbL]; exact this
       have hHp : Hs H ia r kl p b = Hs H ia r kl i b := hr.same (mem_reps hp1) (Nat.le_of_lt hil) hpb (fun _ => hb) hsm
       have hHi' : Hs H ia r kl i b = H i := by
        have := Hs_text (H := H) (ia := ia) (r := r) (kl := kl) (i := i)
        rw [decide_eq_true hlt] at this
        rw [hb]; exact this
       obtain ⟨v, g1, g2⟩ := base A (by rw [hp2, hHp, hHi'])
       refine done g1 g2 ⟨i + 1, hrep, ?_, hnext⟩
       unfold Hs
       rw [if_neg (fun hh => by omega)]
      ·rw [if_neg hlt] at hO2
       have hlt' : i < ia := by omega
       have hHp : Hs H ia r kl p b = Hs H ia r kl i b := hr.same (mem_reps hp1) (Nat.le_of_lt hil) hpb (fun hh => absurd hh hlt) hsm
       cases b with
       | false =>
         have hHi' : Hs H ia r kl i false = H i := by simp [Hs]
         obtain ⟨v, g1, g2⟩ := base A (by rw [hp2, hHp, hHi'])
         exact done g1 g2 ⟨i + 1, hrep, by simp [Hs], hnext⟩
       | true =>
         have hial : ia < ops.length := by
          have : ia < L.size := Classical.byContradiction fun hh => by simp [Array.getD, hh] at hbL
          rwa [hM.sz] at this
         simp only [Bool.or_eq_true, decide_eq_true_eq] at hO2
         rcases hO2 with (hO2 | hO2) | hO2
         ·omega
         ·have hoa : ops[ia]? = some ops[ia] := by simp [hial]
          exact absurd (mask_in hM.cl hoa (hM.cl ia _ hoa hbL) hO2) hn.un
         ·have hHi' : Hs H ia r kl i true = (H i).set r kl := by simp [Hs, Nat.le_of_lt hlt']
          simp only [hEi, hHi] at hO2
          split at hO2
          case h_2 => cases hO2
          rename_i e2 A2 hx
          simp only [Bool.and_eq_true] at hO2
          obtain ⟨hO2, hO3⟩ := hO2
          have := xop_agr (P := P) (F := F) (A := (H i).set r kl) hag
          rw [hx] at this
          obtain ⟨v, g1, g2⟩ := this
          rw [← hHi', ← hHp, ← hp2] at g2
          refine done g2 (fun d hd => ?_) ⟨i + 1, hrep, ?_, hnext⟩
          ·rw [hd] at hO2
           simp only at hO2
           rw [← beqA_eq _ _ hO2, g1, hd]
           simp [aupd, upd]
          ·rw [beqH_eq _ _ hO3]
           simp [Hs, show i + 1 ≤ ia from hlt']
theorem xlineAt_spec {n : Nat} (hF : XFok P F) (hm : P.follows .mixedOrders = true) {l : List Oper} {id : Nat} {e e' : AEnv} {A A' : AHeap} (hal : ∀ o, l[ia]? = some o → liveB P o.op = some kl) (h : xlineAt P F l e A ia r kl = some (e', A')) {K : AKont} (hk : K e' A') : aDraw P n id l.toArray K e A := by
 unfold xlineAt at h
 split at h
 case h_2 => cases h
 rename_i st hst
 split at h
 case isFalse => cases h
 rename_i hl
 obtain ⟨g1, g2, g3⟩ := xseqG_run l 0 e A st hst
 have hd : st.getD l.length (e, A) = (e', A') := by rw [List.getD_eq_getElem?_getD, h]; rfl
 have hrun : Run P F l ia r kl e A (fun i => (st.getD i (e, A)).1) (fun i => (st.getD i (e, A)).2) := by
  refine ⟨by simp only [g2], by simp only [g2], fun i o ho hi => ?_, fun o ho => ?_⟩
  ·have := g3 i o ho
   rw [if_neg (by omega)] at this
   exact this
  ·have := g3 ia o ho
   rw [if_pos (by omega)] at this
   have := oSI this
   exact ⟨by simp only [← this], by simp only [← this]⟩
 have hnone : ∀ j, ¬ Lst (Array.replicate l.length false) j := fun j h => by
  unfold Lst at h
  rw [getD_replicate_false'] at h
  cases h
 refine adraw_allR hm (xline_all hF hrun hal hl (by rw [hd]; exact hk) _ _ _ _ ⟨by simp, fun j o _ hl => absurd hl (hnone j), ⟨0, by simp [reps], ?_, fun j _ => ⟨fun h => absurd h (hnone j), fun h => by omega⟩⟩, fun j o t hl => absurd hl (hnone j), fun t _ => rfl⟩ ?_)
 ·have : (Array.replicate l.length false).getD ia false = false := getD_replicate_false' _ _
  rw [this]
  simp only [Hs, g2]
  rfl
 ·refine Nat.le_trans List.countP_le_length ?_
  simp
theorem xline_spec {n : Nat} (hF : XFok P F) {l : List Oper} {id : Nat} {e e' : AEnv} {A A' : AHeap} (h : xline P F l e A = some (e', A')) {K : AKont} (hk : K e' A') : aDraw P n id l.toArray K e A := by
 unfold xline at h
 split at h
 case isFalse => cases h
 rename_i hm
 split at h
 ·rename_i r hr
  simp only [Option.some.injEq] at h
  subst h
  exact xlineAt_spec hF hm (fun o ho => by simp at ho) hr hk
 ·split at h
  case h_2 => cases h
  rename_i ia kl hfa
  obtain ⟨o, h1, _, h2⟩ := freeAlloc_spec l 0 ia kl hfa
  have := xlineAt_spec (n := n) (id := id) hF hm (fun o' ho => by rw [Nat.sub_zero] at h1; rw [h1] at ho; obtain rfl := oSI ho; exact h2) h hk
  intro C ec w hn hS
  exact this C ec w hn (Sub.ghost 0 kl.ty kl.sz C ec w hn hS)
end
section
variable {ops : List Oper} {n0 : Nat} {F : XF}
theorem liveX_agr {e e1 : AEnv} {r : Nat} {op : Op} (h : ∀ x ∈ op.operands, eva e x = eva e1 x) : liveX P e r op = liveX P e1 r op := by
 cases op with
 | makeSlice t x y => simp only [liveX, h x (by simp [Op.operands]), h y (by simp [Op.operands])]
 | makeMap t r => cases r <;> rfl
 | _ => rfl
theorem xopG_agr {i : Nat} {o : Oper} {e e1 : AEnv} {A : AHeap} (h : ∀ x ∈ o.op.operands, eva e x = eva e1 x) : Agr o.dst e e1 (xopG P F ops n0 i o e A) (xopG P F ops n0 i o e1 A) := by
 unfold xopG
 rw [liveX_agr h]
 split
 ·split
  ·split
   ·exact agr_some
   ·trivial
  ·trivial
 ·exact xop_agr h
theorem agval_agree {e e1 : AEnv} {d : Option Nat} (h : ∀ t, d = some t → e t = e1 t) : agval e d = agval e1 d := by
 cases d with
 | none => rfl
 | some d => simp only [agval, h d rfl]
theorem xopW_agr {i : Nat} {o : Oper} {e e1 : AEnv} {A : AHeap} (h : ∀ x ∈ o.op.operands, eva e x = eva e1 x) (hg : ∀ t ∈ seen ops o, e t = e1 t) : Agr o.dst e e1 (xopW P F ops n0 i o e A) (xopW P F ops n0 i o e1 A) := by
 unfold xopW
 split
 ·exact xopG_agr h
 ·rename_i j want hgd
  rw [agval_agree (d := (ops[j]?).bind (·.dst)) (e := e) (e1 := e1) fun t ht => hg t (by
   simp only [seen, hgd, List.mem_append, Option.mem_toList]
   exact .inr (by rw [ht]))]
  split
  ·split
   ·exact xopG_agr h
   ·exact agr_some
  ·trivial
theorem live_at {n r : Nat} {o : Oper} {v : AV} {k k0 : Blk} {e : AEnv} {A : AHeap} {K : AKont} (hl : liveX P e r o.op = some (v, k)) (h0 : A[r]? = some k0) (hv : k0.ver = 0) (hk : K (aupd e o.dst v) (A.set r k)) {C : Ctx} {ec : Env} {w : World} (hn : C.A.length = n) (hS : Sta C e A ec w) : vop P o (Lift C K) ec w := by
 obtain ⟨d, op, ty, pos, af, gd⟩ := o
 simp only at hl hk
 have hlt := (gSI.1 h0).1
 cases op with
 | alloc t =>
   simp only [liveX] at hl
   split at hl
   case h_2 => cases hl
   rename_i k' hb
   simp only [Option.some.injEq, Prod.mk.injEq] at hl
   obtain ⟨rfl, rfl⟩ := hl
   exact alloc_at (o := ⟨d, .alloc t, ty, pos, af, gd⟩) hb h0 hv hk hn hS
 | makeMap t q =>
   cases q with
   | some q => simp [liveX] at hl
   | none =>
     simp only [liveX] at hl
     split at hl
     case h_2 => cases hl
     rename_i tg sz hm
     simp only [Option.some.injEq, Prod.mk.injEq] at hl
     obtain ⟨rfl, rfl⟩ := hl
     obtain ⟨hsz, htg⟩ := makeM_sz hm
     obtain ⟨h0', ι, h1, h2, h3, h4⟩ := hS
     obtain ⟨g1, g2⟩ := rel_atO (o := .map #[] 0) (r := r) h1 (fun c hc => Nat.lt_of_lt_of_le (h0'.1 c hc) h2.size) h0 (k := ⟨1, true, tg, sz, []⟩) (arr := #[]) (by rw [hv]; exact Nat.zero_lt_one)
      (.inr (by
       rcases htg with h | h | h
       ·exact .inr (.inl ⟨#[], 0, rfl, rfl, stamps0, hsz, by simp, .inl ⟨h, by simp⟩⟩)
       ·exact .inr (.inl ⟨#[], 0, rfl, rfl, stamps0, hsz, by simp, .inr ⟨h, by simp⟩⟩)
       ·exact .inr (.inr (.inl ⟨#[], 0, rfl, rfl, stamps0, hsz, h, by simp⟩)))) (fun _ => by simp) (by simp) (fun i x hi => by simp at hi)
     have hrun : (Instr.makeMap t none).run P w = .ok (.map (some w.heap.size)) (w.alloc (.map #[] 0)) := rfl
     show vRaw P ⟨d, .makeMap t none, ty, pos, af, gd⟩ ec (Lift C K) w
     unfold vRaw execOp
     simp only [Sem.run_bind, Sem.run_pure, Option.map_none, hrun, Result.andThen_ok]
     refine ⟨_, _, hk, h0', _, g1, h2.trans g2, shp_upd (fun i => Shp.step g2.stab _ _ (h3 i)) ?_, mem_upd (fun i => Mem.keep g2.keepD _ _ (h4 i)) (by simp [Mem])⟩
     simp only [Shp]
     exact ⟨⟨_, rfl⟩, _, by rw [gSS hlt], Nat.le_refl _, fun _ => ⟨w.heap.size, 0, by simp [newI], rfl⟩⟩
 | makeSlice t x y =>
   simp only [liveX] at hl
   split at hl
   case h_2 => cases hl
   rename_i k1 l k2 c hx hy
   split at hl
   case h_2 => cases hl
   rename_i el sz bytes hby
   split at hl
   case h_2 => cases hl
   rename_i z hz
   split at hl
   case isFalse => cases hl
   rename_i hc
   obtain ⟨hlc, hm, hb⟩ := hc
   simp only [Option.some.injEq, Prod.mk.injEq] at hl
   obtain ⟨rfl, rfl⟩ := hl
   obtain ⟨h0', ι, h1, h2, h3, h4⟩ := hS
   obtain ⟨i, z0, e1, e2, e3, e4, e5, e6, e7⟩ := byt_spec hby
   obtain ⟨z1, f1, f2, f3⟩ := zvA_spec hz
   have hz0 : z1 = z0 := by
    unfold zv at f1
    rw [e2] at f1
    simp only [Option.bind_some, e6, Option.some.injEq] at f1
    exact f1.symm
   subst hz0
   have hrun : (Instr.makeSlice t (ev ec x) (ev ec y)).run P w = .ok (.slice (some ⟨w.heap.size, 0, none⟩) l c) (w.alloc (.cells (madeCells z1.cells (c * sz)) el)) := by
    have ax : ev ec x = .int k1 (l : Int) := by have := eva_shp h3 x; rw [hx] at this; simpa [Shp] using this
    have ay : ev ec y = .int k2 (c : Int) := by have := eva_shp h3 y; rw [hy] at this; simpa [Shp] using this
    rw [ax, ay]
    unfold maxLen at hm
    have hb' : (i.bytes : Int) * (c : Int) ≤ 281474976710656 := by
     rw [e4, ← Int.natCast_mul]
     omega
    have := run_make (P := P) w t el i z1 e1 e2 e6 k1 k2 (l : Int) (c : Int) (by omega) (by omega) hb' (by omega)
    simpa [e3] using this
   have hsz : (madeCells z1.cells (c * sz)).size = c * sz := size_madeCells _ _
   have hzl : z.length = sz := by rw [f2, List.length_map, Array.length_toList]; exact e7
   obtain ⟨g1, g2⟩ := rel_at (r := r) h1 (fun c hc => Nat.lt_of_lt_of_le (h0'.1 c hc) h2.size) h0 (k := ⟨1, true, el, sz, List.replicate l z⟩) (arr := madeCells z1.cells (c * sz)) (by rw [hv]; exact Nat.zero_lt_one) (byt_ty hby) (by
    rw [hsz]
    simp only [List.length_replicate]
    exact Nat.mul_le_mul_right _ hlc) (fun j x hj => by
    rw [List.getElem?_replicate] at hj
    split at hj
    case isFalse => cases hj
    rename_i hjl
    simp only [Option.some.injEq] at hj
    subst hj
    refine ⟨hzl, fun q a hq => ?_⟩
    have hql : q < sz := by have := (gSI.1 hq).1; omega
    rw [f2, List.getElem?_map, Option.map_eq_some_iff] at hq
    obtain ⟨v, hv, rfl⟩ := hq
    have hlt : j * sz + q < c * sz := by
     have : (j + 1) * sz ≤ c * sz := Nat.mul_le_mul_right _ (by omega)
     rw [Nat.add_mul] at this
     omega
    refine ⟨v, ?_, ⟨by simp [Shp], by simp only [Mem, Rd, true_and]; exact f3 v (gMO hv)⟩, f3 v (gMO hv)⟩
    unfold madeCells
    rw [Array.getElem?_map, Array.getElem?_range, if_pos hlt]
    simp only [Option.map_some, Option.some.injEq]
    rw [e7, show (j * sz + q) % sz = q by rw [Nat.mul_comm, Nat.mul_add_mod, Nat.mod_eq_of_lt hql]]
    have hv' : z1.cells[q]? = some v := by simpa using hv
    rw [getElem!_def, hv'])
   show vRaw P ⟨d, .makeSlice t x y, ty, pos, af, gd⟩ ec (Lift C K) w
   unfold vRaw execOp
   simp only [Sem.run_bind, Sem.run_pure, hrun, Result.andThen_ok]
   refine ⟨_, _, hk, h0', _, g1, h2.trans g2, shp_upd (fun i => Shp.step g2.stab _ _ (h3 i)) ?_, mem_upd (fun i => Mem.keep g2.keepD _ _ (h4 i)) (by simp [Mem])⟩
   simp only [Shp]
   exact ⟨⟨_, _, _, rfl⟩, _, by rw [gSS hlt], Nat.le_refl _, fun _ => .inr ⟨w.heap.size, (madeCells z1.cells (c * sz)).size, c, by simp [newI], by simp, hlc, hm, by rw [hsz]; simp⟩⟩
 | _ => simp [liveX] at hl
theorem xopG_vop {n i : Nat} (hF : XFok P F) {o : Oper} {e e' : AEnv} {A A' : AHeap} {K : AKont} (h : xopG P F ops n0 i o e A = some (e', A')) (hk : K e' A') {C : Ctx} {ec : Env} {w : World} (hn : C.A.length = n) (hS : Sta C e A ec w) : vop P o (Lift C K) ec w := by
 unfold xopG at h
 split at h
 ·split at h
  case isFalse => cases h
  rename_i hg
  split at h
  case h_2 => cases h
  rename_i v k hl
  simp only [Option.some.injEq, Prod.mk.injEq] at h
  obtain ⟨rfl, rfl⟩ := h
  obtain ⟨k0, h0, hv⟩ := isGhost_spec hg
  exact live_at hl h0 hv hk hn hS
 ·exact avop_sound hn hS (xop_spec hF h hk)
def aStG (P : Program) (n : Nat) (ops : List Oper) (o : Oper) (e : AEnv) (A : AHeap) (K : AKont) : Prop := match o.guard with
 | none => ∀ (C : Ctx) (ec : Env) (w : World), C.A.length = n → Sta C e A ec w → vop P o (Lift C K) ec w
 | some (j, want) => ∃ b, agval e ((ops[j]?).bind (·.dst)) = some b ∧ if b = some want then (∀ (C : Ctx) (ec : Env) (w : World), C.A.length = n → Sta C e A ec w → vop P o (Lift C K) ec w) else K (aupd e o.dst (.tup [])) A
def aAnyG (P : Program) (n : Nat) (ops : List Oper) (k : AKont) : Nat → Array Bool → AKont
 | 0, L => fun e A => Region.ready .any ops.toArray L = [] ∧ k e A
 | f + 1, L => fun e A => (Region.ready .any ops.toArray L = [] → k e A) ∧ ∀ i ∈ Region.ready .any ops.toArray L, ∃ o, ops[i]? = some o ∧ aStG P n ops o e A (aAnyG P n ops k f (L.setIfInBounds i true))
theorem aAnyG_sound {n : Nat} {C : Ctx} {K : AKont} {m : Nat} (hn : C.A.length = n) (hd : ∀ o ∈ ops, ∀ d', o.dst = some d' → d' < m) : ∀ (f : Nat) (L : Array Bool) (e : AEnv) (A : AHeap) (a : Act) (w : World), Fr m a → Sta C e A (envOf a) w → aAnyG P n ops K f L e A →
 wpAny P .any ops.toArray (fun ex a' w' => ex = .normal ∧ Fr m a' ∧ Lift C K (envOf a') w') f L a w
 | 0, L, e, A, a, w, hf, hS, h => ⟨h.1, rfl, hf, e, A, h.2, hS⟩
 | f + 1, L, e, A, a, w, hf, hS, h => by
   refine ⟨fun hr => ⟨rfl, hf, e, A, h.1 hr, hS⟩, fun i hi => ?_⟩
   obtain ⟨o, ho, hv⟩ := h.2 i hi
   have hd0 := hd o (gMO ho)
   have run : (∀ (C : Ctx) (ec : Env) (w : World), C.A.length = n → Sta C e A ec w → vop P o (Lift C (aAnyG P n ops K f (L.setIfInBounds i true))) ec w) → o.wp P a w (wpAny P .any ops.toArray (fun ex a' w' => ex = .normal ∧ Fr m a' ∧ Lift C K (envOf a') w') f (L.setIfInBounds i true)) (fun ex a' w' => ex = .normal ∧ Fr m a' ∧ Lift C K (envOf a') w') := fun hv =>
    vop_sound hf hd0 (fun a w hf' ⟨e', A', h', hS'⟩ => aAnyG_sound hn hd f _ e' A' a w hf' hS' h') (hv C _ w hn hS)
   unfold wpOp
   simp only [List.getElem?_toArray, ho]
   unfold aStG at hv
   split at hv
   ·rename_i hg
    rw [if_pos (by simp [Region.wanted, hg])]
    exact .inl (run hv)
   ·rename_i j want hg
    obtain ⟨b, hb, hv⟩ := hv
    have hy := agval_sound hS hb
    have hy2 : yielded ops.toArray a.tmps j = b := by
     rw [gval_eq]
     simpa using hy
    by_cases hbw : b = some want
    ·rw [if_pos hbw] at hv
     rw [if_pos (by simp [Region.wanted, hg, hy2, hbw])]
     exact .inl (run hv)
    ·rw [if_neg hbw] at hv
     rw [if_neg (by simp [Region.wanted, hg, hy2, hbw])]
     exact aAnyG_sound hn hd f _ _ _ _ _ (hf.put _ _) (by rw [envOf_put hf hd0]; exact hS.undef _) hv
theorem adraw_allG {n : Nat} {K : AKont} {e : AEnv} {A : AHeap} {id : Nat} (hm : P.follows .mixedOrders = true) (h : aAnyG P n ops K ops.length (Array.replicate ops.length false) e A) : aDraw P n id ops.toArray K e A := by
 intro C ec w hn hS m a hf hd he
 subst he
 refine wp_region_any hm ?_
 simpa using aAnyG_sound hn (fun o ho => hd o (by simpa using ho)) ops.length _ e A a w.drew hf hS.drew h
theorem xopW_stG {n i : Nat} (hF : XFok P F) {o : Oper} {e : AEnv} {v : AV} {A A' : AHeap} {K : AKont} (h : xopW P F ops n0 i o e A = some (aupd e o.dst v, A')) (hk : K (aupd e o.dst v) A') : aStG P n ops o e A K := by
 unfold aStG
 unfold xopW at h
 split at h
 ·exact fun C ec w hn hS => xopG_vop hF h hk hn hS
 ·split at h
  case h_2 => cases h
  rename_i b hb
  refine ⟨b, hb, ?_⟩
  split at h
  ·rename_i hbw
   rw [if_pos hbw]
   exact fun C ec w hn hS => xopG_vop hF h hk hn hS
  ·rename_i hbw
   rw [if_neg hbw]
   simp only [Option.some.injEq, Prod.mk.injEq] at h
   rw [h.1, h.2]
   exact hk
theorem xopW_keep {i : Nat} {o : Oper} {e e' : AEnv} {A A' : AHeap} (hs : still o.op = true) (h : xopW P F ops n0 i o e A = some (e', A')) : A' = A := by
 have hlive : ¬ isLive o.op = true := by
  revert hs
  cases o.op <;> simp [still, isLive]
 have hG : ∀ {e'' : AEnv} {A'' : AHeap}, xopG P F ops n0 i o e A = some (e'', A'') → A'' = A := fun h => by
  unfold xopG at h
  rw [if_neg hlive] at h
  exact xop_keep hs h
 unfold xopW at h
 split at h
 ·exact hG h
 ·split at h
  case h_2 => cases h
  split at h
  ·exact hG h
  ·simp only [Option.some.injEq, Prod.mk.injEq] at h
   exact h.2.symm
theorem xseqP_out : ∀ (l : List Oper) (i : Nat) (e : AEnv) (A : AHeap) (e1 : AEnv) (A1 : AHeap), xseqP P F ops n0 i l e A = some (e1, A1) → ∀ t, (∀ o ∈ l, o.dst ≠ some t) → e1 t = e t
 | [], i, e, A, e1, A1, h, t, _ => by
   simp only [xseqP, Option.some.injEq, Prod.mk.injEq] at h
   rw [h.1]
 | o :: os, i, e, A, e1, A1, h, t, ht => by
   simp only [xseqP] at h
   split at h
   case h_2 => cases h
   rename_i e' A' h1
   have h2 := xopW_agr (P := P) (F := F) (ops := ops) (n0 := n0) (i := i) (o := o) (e := e) (e1 := e) (A := A) (fun x _ => rfl) fun _ _ => rfl
   rw [h1] at h2
   obtain ⟨v, rfl, _⟩ := h2
   rw [xseqP_out os (i + 1) _ _ _ _ h t fun q hq => ht q (List.mem_cons_of_mem _ hq)]
   have := ht o List.mem_cons_self
   cases hd : o.dst with
   | none => rfl
   | some d =>
     have hne : t ≠ d := fun h0 => this (by rw [hd, h0])
     simp only [aupd, upd, if_neg hne]
theorem heapM_mem {T : List (Nat × AHeap)} {m : Nat} {A : AHeap} (h : heapM T m = some A) : (m, A) ∈ T := by
 unfold heapM at h
 simp only [Option.map_eq_some_iff] at h
 obtain ⟨t, h1, h2⟩ := h
 have h3 := List.mem_of_find?_eq_some h1
 have h4 := List.find?_some h1
 simp only [beq_iff_eq] at h4
 rw [← h4, ← h2]
 exact h3
structure MidP (ops : List Oper) (e0 e1 : AEnv) (T : List (Nat × AHeap)) (L : Array Bool) (e : AEnv) (A : AHeap) : Prop where
 sz : L.size = ops.length
 cl : Closed ops (Lst L)
 hp : ∃ m, heapM T m = some A ∧ ∀ j, m.testBit j = true ↔ (chgP ops j = true ∧ Lst L j)
 val : ∀ (j : Nat) (o : Oper) (t : Nat), Lst L j → ops[j]? = some o → o.dst = some t → e t = e1 t
 out : ∀ t, (∀ (j : Nat) (o : Oper), Lst L j → ops[j]? = some o → o.dst ≠ some t) → e t = e0 t
theorem chgP_lt {j : Nat} (h : chgP ops j = true) : j < ops.length := by
 unfold chgP at h
 split at h
 ·rename_i o ho; exact (gSI.1 ho).1
 ·cases h
theorem xpar_all {n : Nat} (hF : XFok P F) {e0 e1 : AEnv} {T : List (Nat × AHeap)} {A' : AHeap} {K : AKont} (ho : ∀ t, (∀ o ∈ ops, o.dst ≠ some t) → e1 t = e0 t) (h : allP P F ops (masks [] ops) n0 e1 T = true)
 (hfull : ∀ t ∈ T, (∀ j, chgP ops j = true → t.1.testBit j = true) → t.1 = fullP ops) (hA : heapM T (fullP ops) = some A') (hk : K e1 A') :
 ∀ (f : Nat) (L : Array Bool) (e : AEnv) (A : AHeap), MidP ops e0 e1 T L e A → (List.range ops.length).countP (fun i => !L.getD i false) ≤ f → aAnyG P n ops K f L e A := by
 have hall : ∀ (i : Nat) (o : Oper), ops[i]? = some o → opP P F ops (masks [] ops) n0 e1 T i o = true := fun i o ho => by
  have := List.all_eq_true.1 h i (List.mem_range.2 (gSI.1 ho).1)
  rw [ho] at this
  exact this
 have hslot : ∀ (i j : Nat) (oi oj : Oper) (d : Nat), ops[i]? = some oi → ops[j]? = some oj → oj.dst = some d → (i ≠ j → oi.dst ≠ some d) ∧ (d ∈ seen ops oi → j < i ∧ ((masks [] ops).getD i 0).testBit j = true) := by
  intro i j oi oj d hi hj hd
  have := hall i oi hi
  simp only [opP, Bool.and_eq_true] at this
  have hs := this.1.2
  simp only [slotP, List.all_eq_true, List.mem_range] at hs
  have := hs j (gSI.1 hj).1
  rw [hj] at this
  simp only [hd, Bool.or_eq_true, beq_iff_eq, Bool.and_eq_true, Bool.not_eq_true', decide_eq_true_eq] at this
  refine ⟨fun hij h0 => ?_, fun h0 => ?_⟩
  ·have := this.1.resolve_left hij
   rw [h0] at this
   simp at this
  ·rcases this.2 with h2 | h2
   ·have : (seen ops oi).contains d = true := by simpa using h0
    rw [this] at h2
    cases h2
   ·exact h2
 have huniq : ∀ (j : Nat) (o : Oper) (t : Nat), ops[j]? = some o → o.dst = some t → ∀ (k : Nat) (q : Oper), ops[k]? = some q → q.dst = some t → k = j := fun j o t ho hd k q hq hqd => by
  by_cases hkj : k = j
  ·exact hkj
  ·exact absurd hqd ((hslot k j q o t hq ho hd).1 hkj)
 have hback : ∀ (i : Nat) (o : Oper), ops[i]? = some o → ∀ e ∈ o.after, Region.binds .any e = true → e.on < i := fun i o ho e he hb => by
  have := hall i o ho
  simp only [opP, Bool.and_eq_true] at this
  have := List.all_eq_true.1 this.1.1 e (by simpa using he)
  simpa [hb] using this
 have hsome : ∀ {L : Array Bool}, L.size = ops.length → (∃ j, j < ops.length ∧ ¬ Lst L j) → ∃ i, i ∈ Region.ready .any ops.toArray L := by
  rintro L hs ⟨j, hj, hu⟩
  induction j using Nat.strongRecOn with
  | _ j ih =>
    by_cases hb : ∃ k, k < j ∧ ¬ Lst L k
    ·obtain ⟨k, hk, hn⟩ := hb
     exact ih k hk (by omega) hn
    ·refine ⟨j, mem_ready.2 ⟨?_, ops[j], by simp [hj], fun e he hbi => ?_⟩⟩
     ·unfold Lst at hu
      simp [hs, hj] at hu ⊢
      exact hu
     ·have := hback j ops[j] (by simp [hj]) e he hbi
      exact Classical.byContradiction fun hn => hb ⟨e.on, this, hn⟩
 have hfin : ∀ {L : Array Bool} {e : AEnv} {A : AHeap}, MidP ops e0 e1 T L e A → (∀ j, j < ops.length → Lst L j) → K e A := by
  intro L e A hM hl
  have he : e = e1 := by
   funext t
   by_cases hw : ∃ (j : Nat) (o : Oper), ops[j]? = some o ∧ o.dst = some t
   ·obtain ⟨j, o, ho, hd⟩ := hw
    exact hM.val j o t (hl j (gSI.1 ho).1) ho hd
   ·rw [hM.out t fun j o _ ho hd => hw ⟨j, o, ho, hd⟩, ho t fun o hm hd => by
     obtain ⟨j, hj⟩ := List.getElem?_of_mem hm
     exact hw ⟨j, o, hj, hd⟩]
  obtain ⟨m, hp1, hp2⟩ := hM.hp
  have hm := hfull _ (heapM_mem hp1) fun j hc => (hp2 j).2 ⟨hc, hl j (chgP_lt hc)⟩
  simp only at hm
  rw [hm, hA] at hp1
  rw [he, ← oSI hp1]
  exact hk
 intro f
 induction f with
 | zero =>
   intro L e A hM hf
   have hl : ∀ j, j < ops.length → Lst L j := fun j hj => by
    have h0 : (List.range ops.length).countP (fun i => !L.getD i false) = 0 := by omega
    rw [List.countP_eq_zero] at h0
    have := h0 j (List.mem_range.2 hj)
    unfold Lst
    simpa using this
   refine ⟨?_, hfin hM hl⟩
   rw [List.eq_nil_iff_forall_not_mem]
   intro i hi
   obtain ⟨o, hn⟩ := next_of hi
   exact hn.un (hl i (gSI.1 hn.ho).1)
 | succ f ih =>
   intro L e A hM hf
   refine ⟨fun h0 => hfin hM fun j hj => Classical.byContradiction fun hn => ?_, fun i hi => ?_⟩
   ·obtain ⟨i, hi⟩ := hsome hM.sz ⟨j, hj, hn⟩
    rw [h0] at hi
    cases hi
   ·obtain ⟨o, hn⟩ := next_of hi
    have hil := (gSI.1 hn.ho).1
    have hO := hall i o hn.ho
    simp only [opP, Bool.and_eq_true] at hO
    obtain ⟨_, hO⟩ := hO
    refine ⟨o, hn.ho, ?_⟩
    have hseen : ∀ t ∈ seen ops o, e1 t = e t := fun t hsn => by
     by_cases hw : ∃ (j : Nat) (q : Oper), ops[j]? = some q ∧ q.dst = some t
     ·obtain ⟨j, q, hq, hd⟩ := hw
      obtain ⟨hlt, hsl⟩ := (hslot i j o q t hn.ho hq hd).2 hsn
      exact (hM.val j q t (mask_in hM.cl hn.ho hn.all hsl) hq hd).symm
     ·rw [hM.out t fun j o _ ho hd => hw ⟨j, o, ho, hd⟩, ho t fun o hm hd => by
       obtain ⟨j, hj⟩ := List.getElem?_of_mem hm
       exact hw ⟨j, o, hj, hd⟩]
    have hag : ∀ x ∈ o.op.operands, eva e1 x = eva e x := fun x hx => eva_agree fun t he => hseen t (by
     simp only [seen, List.mem_append, List.mem_filterMap]
     exact .inl ⟨_, by simpa using hx, by rw [he]⟩)
    have hsz : i < L.size := by rw [hM.sz]; exact hil
    obtain ⟨m, hp1, hp2⟩ := hM.hp
    have hmay : mayP ops (masks [] ops) m i = true := by
     unfold mayP
     simp only [Bool.and_eq_true, Bool.not_eq_true', List.all_eq_true, List.mem_range, Bool.or_eq_true]
     refine ⟨?_, fun j hj => ?_⟩
     ·cases hb : m.testBit i with
      | false => rfl
      | true => exact absurd ((hp2 i).1 hb).2 hn.un
     ·cases hc : chgP ops j with
      | false => exact .inl rfl
      | true =>
        refine .inr ⟨?_, ?_⟩
        ·split
         ·rename_i hb
          exact (hp2 j).2 ⟨hc, mask_in hM.cl hn.ho hn.all hb⟩
         ·rfl
        ·split
         ·rename_i hb
          have hl := ((hp2 j).1 hb).2
          have hoj : ops[j]? = some ops[j] := by simp [hj]
          cases hb2 : ((masks [] ops).getD j 0).testBit i with
          | false => rfl
          | true => exact absurd (mask_in hM.cl hoj (hM.cl j _ hoj hl) hb2) hn.un
         ·rfl
    have hstep := List.all_eq_true.1 hO _ (heapM_mem hp1)
    simp only [hmay, Bool.not_true, Bool.false_or] at hstep
    unfold stepP at hstep
    split at hstep
    case h_2 => cases hstep
    rename_i e2 A2 hx
    simp only [Bool.and_eq_true] at hstep
    obtain ⟨hv, hh⟩ := hstep
    have hagr := xopW_agr (P := P) (F := F) (ops := ops) (n0 := n0) (i := i) (A := A) hag hseen
    rw [hx] at hagr
    obtain ⟨v, rfl, hx2⟩ := hagr
    have hval : ∀ d, o.dst = some d → v = e1 d := fun d hd => by
     rw [hd] at hv
     have := beqA_eq _ _ hv
     simpa [aupd, upd] using this
    refine xopW_stG hF hx2 ?_
    refine ih _ _ _ ⟨by simp [hM.sz], ?_, ?_, ?_, ?_⟩ ?_
    ·intro j oj hj hl ed he hb
     rw [Lst_set hsz] at hl ⊢
     rcases hl with hl | rfl
     ·exact .inl (hM.cl j oj hj hl ed he hb)
     ·obtain rfl : o = oj := by rw [hn.ho] at hj; exact oSI hj
      exact .inl (hn.all ed he hb)
    ·by_cases hst : still o.op = true
     ·have hA2 : A2 = A := xopW_keep hst hx2
      refine ⟨m, by rw [hA2]; exact hp1, fun j => ?_⟩
      rw [hp2 j, Lst_set hsz]
      constructor
      ·rintro ⟨a, b⟩; exact ⟨a, .inl b⟩
      ·rintro ⟨a, b | rfl⟩
       ·exact ⟨a, b⟩
       ·simp [chgP, hn.ho, hst] at a
     ·rw [if_neg hst] at hh
      split at hh
      case h_2 => cases hh
      rename_i A3 hA3
      refine ⟨m ||| 2 ^ i, by rw [beqH_eq _ _ hh]; exact hA3, fun j => ?_⟩
      rw [Nat.testBit_or, Bool.or_eq_true, hp2 j, Lst_set hsz, Nat.testBit_two_pow, decide_eq_true_eq]
      constructor
      ·rintro (⟨a, b⟩ | rfl)
       ·exact ⟨a, .inl b⟩
       ·exact ⟨by simp [chgP, hn.ho, hst], .inr rfl⟩
      ·rintro ⟨a, b | rfl⟩
       ·exact .inl ⟨a, b⟩
       ·exact .inr rfl
    ·intro j oj t hl hj hd
     rw [Lst_set hsz] at hl
     by_cases hji : j = i
     ·subst hji
      obtain rfl : o = oj := by rw [hn.ho] at hj; exact oSI hj
      rw [hd]
      simp only [aupd, upd, if_true]
      exact hval t hd
     ·have hl := hl.resolve_right hji
      rw [← hM.val j oj t hl hj hd]
      cases hdo : o.dst with
      | none => rfl
      | some d' =>
        have : t ≠ d' := fun h0 => (hslot i j o oj t hn.ho hj hd).1 (Ne.symm hji) (by rw [hdo, h0])
        simp only [aupd, upd, if_neg this]
    ·intro t ht
     have ht' : ∀ (j : Nat) (o : Oper), Lst L j → ops[j]? = some o → o.dst ≠ some t := fun j q hl hq => ht j q ((Lst_set hsz j).2 (.inl hl)) hq
     rw [← hM.out t ht']
     have := ht i o ((Lst_set hsz i).2 (.inr rfl)) hn.ho
     cases hdo : o.dst with
     | none => rfl
     | some d' =>
       have : t ≠ d' := fun h0 => this (by rw [hdo, h0])
       simp only [aupd, upd, if_neg this]
    ·have := cnt_set (N := ops.length) (L := L) hil hsz hn.un
     omega
theorem Sub.ghosts {n : Nat} {e : AEnv} : ∀ (m : Nat) {A : AHeap}, Sub n e A e (A ++ List.replicate m ⟨0, true, 0, 0, []⟩)
 | 0, A => by simpa using Sub.refl _ _ _
 | m + 1, A => by
   intro C ec w hn hS
   have h1 := Sub.ghost 0 0 0 C ec w hn hS
   have h2 := Sub.ghosts m (A := A ++ [⟨0, true, 0, 0, []⟩]) C ec w hn h1
   rw [List.append_assoc] at h2
   simpa [List.replicate_succ] using h2
theorem xpar_spec {n : Nat} (hF : XFok P F) {l : List Oper} {id : Nat} {e e' : AEnv} {A A' : AHeap} (h : xpar P F l e A = some (e', A')) {K : AKont} (hk : K e' A') : aDraw P n id l.toArray K e A := by
 unfold xpar at h
 split at h
 case isFalse => cases h
 rename_i hm
 split at h
 case h_2 => cases h
 rename_i e1 A1 hq
 generalize hT : tabP P F l (masks [] l) A.length e1 l.length [(0, Go.Proofs.YtfnbhkbfelllgaaGreatDoor.ghosts l A)] = T at h
 unfold xparAt at h
 split at h
 case isFalse => cases h
 rename_i hc
 obtain ⟨hc1, hc2⟩ := hc
 split at h
 case h_2 => cases h
 rename_i A0 A2 h0 h2
 split at h
 case isFalse => cases h
 rename_i hb
 simp only [Option.some.injEq, Prod.mk.injEq] at h
 obtain ⟨rfl, rfl⟩ := h
 have hA0 := beqH_eq _ _ hb
 subst hA0
 intro C ec w hn hS
 refine (adraw_allG hm (xpar_all (n0 := A.length) (e0 := e) hF (fun t ht => xseqP_out l 0 e _ _ _ hq t ht) hc1 (fun t ht hj => ?_) h2 hk _ (Array.replicate l.length false) e (Go.Proofs.YtfnbhkbfelllgaaGreatDoor.ghosts l A) ⟨by simp, fun j o _ hl => absurd hl ?_, ⟨0, h0, fun j => ⟨fun h => by simp at h, fun h => absurd h.2 ?_⟩⟩, fun j o t hl => absurd hl ?_, fun t _ => rfl⟩ ?_)) C ec w hn (Sub.ghosts _ C ec w hn hS)
 ·have := List.all_eq_true.1 hc2 t ht
  rw [beq_iff_eq] at this
  have h1 : (List.range l.length).all (fun j => !chgP l j || t.1.testBit j) = true := by
   rw [List.all_eq_true]
   intro j _
   cases hcj : chgP l j with
   | false => rfl
   | true => simp [hj j hcj]
  rw [h1] at this
  simpa using this.symm
 all_goals first
  | (refine Nat.le_trans List.countP_le_length ?_; simp; done)
  | (intro h; unfold Lst at h; rw [getD_replicate_false'] at h; cases h)
end
theorem xdraw_spec (hF : XFok P F) {l : List Oper} {id : Nat} {e e' : AEnv} {A A' : AHeap} (h : xdraw P F l e A = some (e', A')) {K : AKont} (hk : K e' A') : aDraw P n id l.toArray K e A := by
 unfold xdraw at h
 split at h
 ·rename_i r hr
  simp only [Option.some.injEq] at h
  subst h
  exact xdraw0_spec hF hr hk
 split at h
 ·rename_i r hr
  simp only [Option.some.injEq] at h
  subst h
  exact xdraw3_spec hF hr hk
 split at h
 ·rename_i r hr
  simp only [Option.some.injEq] at h
  subst h
  exact xline_spec hF hr hk
 split at h
 ·rename_i r hr
  simp only [Option.some.injEq] at h
  subst h
  exact xpar_spec hF hr hk
 ·split at h
  case isFalse => cases h
  rename_i hc
  split at h
  case h_2 => cases h
  rename_i st hx
  split at h
  case isFalse => cases h
  rename_i hy
  exact adraw_all hc.1 (xanyAll_spec hF hx hy h hk)
theorem xc_spec (hF : XFok P F) {lf : Nat} : ∀ (c : Code) (e : AEnv) (A : AHeap) (x : XR), xc P F lf c e A = some x → ∀ (bs : List (Nat × AKont)) (r k : AKont), XGood bs r k x → avc P n c bs r k e A
 | .skip, e, A, x, h, bs, r, k, hx => by
   simp only [xc, Option.some.injEq] at h
   subst h
   exact hx
 | .region id ops d, e, A, x, h, bs, r, k, hx => by
   simp only [xc] at h
   split at h
   ·rename_i e1 A1 h1
    simp only [Option.some.injEq] at h
    subst h
    cases d with
    | false => exact xops_spec hF _ _ _ _ _ (by simpa using h1) hx
    | true =>
      have := xdraw_spec (n := n) (id := id) hF (l := ops.toList) (by simpa using h1) (K := k) hx
      rw [Array.toArray_toList] at this
      exact this
   ·cases h
 | .seq a b, e, A, x, h, bs, r, k, hx => by
   simp only [xc] at h
   split at h
   ·rename_i e1 A1 h1
    exact xc_spec hF a _ _ _ h1 _ _ _ (xc_spec hF b _ _ _ h _ _ _ hx)
   ·rename_i hn
    refine xc_spec hF a _ _ _ h _ _ _ ?_
    cases x with
    | nx e1 A1 => exact absurd h (hn e1 A1)
    | ex j e1 A1 => exact hx
    | rt e1 A1 => exact hx
 | .cond c a b, e, A, x, h, bs, r, k, hx => by
   simp only [xc] at h
   split at h
   ·rename_i t ht
    refine ⟨t, ht, ?_⟩
    cases t with
    | true => exact xc_spec hF a _ _ _ (by simpa using h) _ _ _ hx
    | false => exact xc_spec hF b _ _ _ (by simpa using h) _ _ _ hx
   ·cases h
 | .block id c, e, A, x, h, bs, r, k, hx => by
   simp only [xc] at h
   show avc P n c ((id, k) :: bs) r k e A
   split at h
   ·rename_i j e1 A1 h1
    refine xc_spec hF c _ _ _ h1 _ _ _ ?_
    show aexitK ((id, k) :: bs) j e1 A1
    simp only [aexitK]
    split at h
    ·rename_i hj
     simp only [Option.some.injEq] at h
     subst h
     rw [if_pos hj]
     exact hx
    ·rename_i hj
     simp only [Option.some.injEq] at h
     subst h
     rw [if_neg hj]
     exact hx
   ·rename_i hn
    refine xc_spec hF c _ _ _ h _ _ _ ?_
    cases x with
    | nx e1 A1 => exact hx
    | ex j e1 A1 => exact absurd h (hn j e1 A1)
    | rt e1 A1 => exact hx
 | .exit id, e, A, x, h, bs, r, k, hx => by
   simp only [xc, Option.some.injEq] at h
   subst h
   exact hx
 | .loop c, e, A, x, h, bs, r, k, hx => by
   simp only [xc] at h
   exact xloop_spec (fun e A x h k hx => xc_spec hF c e A x h bs r k hx) lf e A x h k hx
 | .ret, e, A, x, h, bs, r, k, hx => by
   simp only [xc, Option.some.injEq] at h
   subst h
   exact hx
 | .scope c, e, A, x, h, bs, r, k, hx => by
   simp only [xc] at h
   exact xc_spec hF c _ _ _ h bs r k hx
 | .label _, e, A, x, h, bs, r, k, hx => by
   simp only [xc, Option.some.injEq] at h
   subst h
   exact hx
 | .rangeFunc .., e, A, x, h, bs, r, k, hx => by simp [xc] at h
theorem xfun_ok {orc : XF} (ho : XFok P orc) (lf : Nat) : ∀ n, XFok P (xfun P orc lf n)
 | 0 => ho
 | n + 1 => by
   intro f args A r A' h
   simp only [xfun] at h
   split at h
   ·rename_i r0 h0
    simp only [Option.some.injEq] at h
    subst h
    exact ho _ _ _ _ _ h0
   ·split at h
    ·rename_i fn hfn
     split at h
     ·rename_i c hc
      split at h
      ·rename_i hok
       refine ⟨hok.1, ac_of hfn hc hok.2.1 hok.2.2 fun _ => ?_⟩
       unfold xend at h
       split at h
       ·rename_i e1 A1 h1
        split at h
        ·rename_i l hl
         simp only [Option.some.injEq, Prod.mk.injEq] at h
         obtain ⟨rfl, rfl⟩ := h
         exact xc_spec (xfun_ok ho lf n) _ _ _ _ h1 _ _ _ ⟨l, hl, rfl, rfl⟩
        ·cases h
       ·rename_i e1 A1 h1
        split at h
        ·rename_i l hl
         simp only [Option.some.injEq, Prod.mk.injEq] at h
         obtain ⟨rfl, rfl⟩ := h
         exact xc_spec (xfun_ok ho lf n) _ _ _ _ h1 _ _ _ ⟨l, hl, rfl, rfl⟩
        ·cases h
       ·cases h
      ·cases h
     ·cases h
    ·cases h
theorem xres_af {orc : XF} (ho : XFok P orc) {lf n : Nat} {f : FuncId} {args : List AV} {r : AV} (h : xres P orc lf n f args = some r) : AF P f args r := by
 unfold xres at h
 split at h
 ·rename_i r0 A' h0
  exact (xfun_ok ho lf n).af h0 h
 ·cases h
theorem xtrue_af {orc : XF} (ho : XFok P orc) {lf n : Nat} {f : FuncId} {args : List AV} (h : xtrue P orc lf n f args = true) : AF P f args (.d (.v (.bool true))) := by
 unfold xtrue at h
 split at h
 ·rename_i b hb
  subst h
  exact xres_af ho hb
 ·cases h
end
end Go.Proofs.YtfnbhkbfelllgaaGreatDoor
