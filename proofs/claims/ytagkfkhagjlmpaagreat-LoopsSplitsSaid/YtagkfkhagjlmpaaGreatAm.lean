/- An evaluator of calls on given data: what it answers is the call's answer. No program in sight. -/
import Derived.Test.YtagkfkhagjlmpaaGreatAl
import Derived.Test.YtagkfkhagjlmpaaGreatAt
import Derived.Test.YtagkfkhagjlmpaaGreatAx
import Derived.Test.YtagkfkhagjlmpaaGreatAo
import Derived.Test.YtagkfkhagjlmpaaGreatAy
import Derived.Test.YtagkfkhagjlmpaaGreatAz
import Derived.Test.YtagkfkhagjlmpaaGreatAA
import Derived.Test.YtagkfkhagjlmpaaGreatAC
import Derived.Test.YtagkfkhagjlmpaaGreatAr
import Derived.Laws.BytesArg
set_option linter.unusedSimpArgs false
set_option linter.unusedVariables false
set_option linter.unnecessarySimpa false
namespace Go.Proofs.YtagkfkhagjlmpaaGreat
open Go.RowKit
/-- Elements that are bytes. -/
def bytesOf : List (List AV) → Option (List Int)
  | [] => some []
  | [.d (.v (.int .u8 n))] :: l => match bytesOf l with
    | some ns => some (n :: ns)
    | none => none
  | _ => none
/-- How code ends: falls through, leaves a block, returns. -/
inductive XR where
  | nx (e : AEnv) (A : AHeap)
  | ex (j : Nat) (e : AEnv) (A : AHeap)
  | rt (e : AEnv) (A : AHeap)
/-- A table of calls. -/
abbrev XF := FuncId → List AV → AHeap → Option (AV × AHeap)
def XFok (P : Program) (F : XF) : Prop := ∀ f args A r A', F f args A = some (r, A') → okF P f = true ∧ AC P f args A fun r1 A1 => r1 = r ∧ A1 = A'
def xset (r : Option AV) (e : AEnv) (d : Option Nat) (A : AHeap) : Option (AEnv × AHeap) := match r with
  | some v => some (aupd e d v, A)
  | none => none
def xnew (r : Option (AV × Blk)) (e : AEnv) (d : Option Nat) (A : AHeap) : Option (AEnv × AHeap) := match r with
  | some (v, k) => some (aupd e d v, A ++ [k])
  | none => none
def xstr (P : Program) (s t : TypeId) (r : Option (List (List AV))) (e : AEnv) (d : Option Nat) (A : AHeap) : Option (AEnv × AHeap) := match P.underlying s, P.underlying t, r with
  | some (.slice el), some .string, some new => match P.underlying el, bytesOf new with
    | some (.int .u8), some xs => some (aupd e d (.d (.v (.string (strOfNums xs)))), A)
    | _, _ => none
  | _, _, _ => none
def xnx (A : AHeap) (e : AEnv) (d : Option Nat) : AV → Option (AEnv × AHeap)
  | .ptr b ver 0 0 => match A[b]? with
    | some ⟨ver', true, 1000000, 2, [[.d (.v (.string s)), .d (.v (.int .i64 (.ofNat p)))]]⟩ =>
      if ver' = ver then (if h : p < s.size then (if (s[p]'h).toNat < 128 then some (aupd e d (.tup [.d (.v (.bool true)), .d (.v (.int .i64 p)), .d (.v (.int .i32 (s[p]'h).toNat))]), A.set b (itB ver s (p + 1))) else none) else some (aupd e d (.tup [.d (.v (.bool false))]), A)) else none
    | _ => none
  | _ => none
/-- len, of a map too. -/
def lenE (P : Program) (A : AHeap) (e : AEnv) (c : Call) : Option AV := match apv P A e (.call c) with
  | some r => some r
  | none => match c.args.toList, c.argTypes.toList with
    | [x], [t] => lenM P t A (eva e x)
    | _, _ => none
def xop (P : Program) (F : XF) (o : Oper) (e : AEnv) (A : AHeap) : Option (AEnv × AHeap) := match o.op with
  | .load t a => xset (alv P A t (eva e a)) e o.dst A
  | .store t a x => match astv P A t (eva e a) (eva e x) with
    | some A' => some (aupd e o.dst .any, A')
    | none => none
  | .alloc t => xnew (newA P A.length e (.alloc t)) e o.dst A
  | .box t x => xnew (newA P A.length e (.box t x)) e o.dst A
  | .buildSlice t len ps => xnew (newA P A.length e (.buildSlice t len ps)) e o.dst A
  | .makeSlice t x y => match eva e x, eva e y with
    | .d (.v (.int _ (.ofNat l))), .d (.v (.int _ (.ofNat c))) => (match byt P t with
      | some (el, sz, bytes) => (match zvA P el with
        | some z => if l ≤ c ∧ c ≤ maxLen ∧ bytes * c ≤ 140737488355328 then some (aupd e o.dst (.own A.length 0 0 l), A ++ [⟨0, true, el, sz, List.replicate l z⟩]) else none
        | none => none)
      | none => none)
    | _, _ => none
  | .range t x => match P.underlying t, eva e x with
    | some .string, .d (.v (.string s)) => some (aupd e o.dst (.ptr A.length 0 0 0), A ++ [itB 0 s 0])
    | _, _ => none
  | .next x true => xnx A e o.dst (eva e x)
  | .makeMap t none => match makeM P t with
    | some (tg, sz) => some (aupd e o.dst (.mp A.length 0), A ++ [⟨0, true, tg, sz, []⟩])
    | none => none
  | .lookup t x y ok => xset (lookupE P t A ok (eva e x) (eva e y)) e o.dst A
  | .mapUpdate t x y z => match updE P t A (eva e x) (eva e y) (eva e z) with
    | some A' => some (aupd e o.dst .any, A')
    | none => none
  | .mapEntry t x y => match entryK P t A (eva e x) (eva e y) with
    | some (r, A') => some (aupd e o.dst r, A')
    | none => none
  | .entryStore _ x y z => match entStK P A (eva e x) (eva e y) (eva e z) with
    | some A' => some (aupd e o.dst .any, A')
    | none => none
  | .insert t x y z => match updE P t A (eva e x) (eva e y) (eva e z) with
    | some A' => some (aupd e o.dst .any, A')
    | none => none
  | .makeInterface t x => match P.underlying t with
    | some td => if notIface td = true then some (aupd e o.dst (.ifc t (eva e x)), A) else none
    | none => none
  | .typeAssert x _ t ok => match P.underlying t, eva e x with
    | some td, .ifc t' c => if t' = t ∧ notIface td = true then some (aupd e o.dst (okM ok c true), A) else none
    | _, _ => none
  | .call c => match c.callee with
    | .value f => match eva e f with
      | .fn g fs cs => match F g (fs ++ c.args.toList.map (eva e) ++ cs) A with
        | some (r, A') => some (aupd e o.dst r, A')
        | none => none
      | _ => none
    | .invoke recv name => match eva e recv with
      | .ifc t c0 => (match methA P t name with
        | some f => if okF P f = true then (match F f (c0 :: c.args.toList.map (eva e)) A with
          | some (r, A') => some (aupd e o.dst r, A')
          | none => none) else none
        | none => none)
      | _ => none
    | .builtin .len => xset (lenE P A e c) e o.dst A
    | .builtin .append => match c.args.toList, c.argTypes.toList with
      | [s, x], [t, t'] => if t' = t then (match byt P t with
        | some (el, sz, bytes) => match appT el sz A (eva e s) (eva e x) with
          | some (r, A', m) => if m ≤ maxLen ∧ m * bytes ≤ 140737488355328 then some (aupd e o.dst r, A') else none
          | none => none
        | none => none) else (match P.underlying t', eva e s, eva e x with
        | some (.int .i64), .d (.v (.slice none 0 0)), .d (.v (.int .i64 (.ofNat m))) => (match byt P t with
          | some (el, sz, bytes) => (match zvA P el with
            | some z => if 0 < m ∧ m ≤ maxLen ∧ m * bytes ≤ 140737488355328 then some (aupd e o.dst (.own A.length 0 0 m), A ++ [⟨0, true, el, sz, List.replicate m z⟩]) else none
            | none => none)
          | none => none)
        | _, _, _ => none)
      | _, _ => none
    | .builtin .cap => match c.args.toList, c.argTypes.toList with
      | [x], [t] => (match P.underlying t, eva e x with
        | some (.slice _), .d (.v (.slice none 0 0)) => some (aupd e o.dst (.d (.v (.int .i64 0))), A)
        | _, _ => none)
      | _, _ => none
    | .builtin .min => match c.args.toList with
      | [x, y] => (match eva e x, eva e y with
        | .d (.v (.int k a)), .d (.v (.int _ b)) => some (aupd e o.dst (.d (.v (.int k (if b < a then b else a)))), A)
        | _, _ => none)
      | _ => none
    | .builtin .max => match c.args.toList with
      | [x, y] => (match eva e x, eva e y with
        | .d (.v (.int k a)), .d (.v (.int _ b)) => some (aupd e o.dst (.d (.v (.int k (if a < b then b else a)))), A)
        | _, _ => none)
      | _ => none
    | .builtin .clear => match c.args.toList, c.argTypes.toList with
      | [x], [t] => (match clearA P t A (eva e x) with
        | some A' => some (aupd e o.dst (.tup []), A')
        | none => none)
      | _, _ => none
    | _ => none
  | .convert s d x => match eva e x with
    | .d (.v (.int k m)) => xset (apv P A e (.convert s d x)) e o.dst A
    | .own b ver i len => xstr P s d (elsOf A (.own b ver i len)) e o.dst A
    | .d (.sl sz l) => xstr P s d (elsOf A (.d (.sl sz l))) e o.dst A
    | _ => none
  | .binOp op t x y u => match op, eva e x, eva e y with
    | .eql, .d (.sl _ xs), .d (.v (.slice none _ _)) => if (sl P t).isSome then (match xs with
      | [] => none
      | _ :: _ => some (aupd e o.dst (.d (.v (.bool false))), A)) else none
    | .neq, .d (.sl _ xs), .d (.v (.slice none _ _)) => if (sl P t).isSome then (match xs with
      | [] => none
      | _ :: _ => some (aupd e o.dst (.d (.v (.bool true))), A)) else none
    | .eql, .own b ver _ len, .d (.v (.slice none _ _)) => if (sl P t).isSome = true ∧ 0 < len ∧ (curB A b ver).isSome = true then some (aupd e o.dst (.d (.v (.bool false))), A) else none
    | .neq, .own b ver _ len, .d (.v (.slice none _ _)) => if (sl P t).isSome = true ∧ 0 < len ∧ (curB A b ver).isSome = true then some (aupd e o.dst (.d (.v (.bool true))), A) else none
    | _, _, _ => xset (apv P A e (.binOp op t x y u)) e o.dst A
  | .move .. | .assign .. | .pick .. | .nilCheck .. | .unOp .. | .makeFunc .. | .fieldAddr .. | .field .. | .indexAddr .. | .index .. | .extract .. | .slice .. | .build .. => xset (apv P A e o.op) e o.dst A
  | _ => none
def still : Op → Bool
  | .load .. | .lookup .. | .makeInterface .. | .typeAssert .. | .convert .. | .binOp .. | .move .. | .assign .. | .pick .. | .nilCheck .. | .unOp .. | .makeFunc .. | .fieldAddr .. | .field .. | .indexAddr .. | .index .. | .extract .. | .slice .. | .build .. => true
  | .call c => match c.callee with
    | .builtin .len | .builtin .cap | .builtin .min | .builtin .max => true
    | _ => false
  | _ => false
def chg (ops : List Oper) (ia j : Nat) : Bool := match ops[j]? with
  | some o => !still o.op && decide (j ≠ ia)
  | none => false
/-- The places where the heap has just been changed. -/
def reps (ops : List Oper) (ia : Nat) : List Nat := 0 :: ((List.range ops.length).filter (chg ops ia)).map (· + 1)
def chgP (ops : List Oper) (j : Nat) : Bool := match ops[j]? with
  | some o => !still o.op
  | none => false
def heapM (T : List (Nat × AHeap)) (m : Nat) : Option AHeap := (T.find? fun t => t.1 == m).map (·.2)
/-- May operation i come next where the changers of m are done? -/
def mayP (ops : List Oper) (ms : List Nat) (m i : Nat) : Bool := !m.testBit i && (List.range ops.length).all fun j => !chgP ops j || ((if (ms.getD i 0).testBit j then m.testBit j else true) && (if m.testBit j then !(ms.getD j 0).testBit i else true))
def slotP (ms : List Nat) (ops : List Oper) (i : Nat) (o : Oper) : Bool := (List.range ops.length).all fun j => match ops[j]? with
  | some q => (match q.dst with
    | some d => (i == j || (match o.dst with | some d' => d != d' | none => true)) && (!(seen ops o).contains d || (decide (j < i) && (ms.getD i 0).testBit j))
    | none => true)
  | none => true
def fullP (ops : List Oper) : Nat := (List.range ops.length).foldl (fun m j => if chgP ops j then m ||| 2 ^ j else m) 0
section
variable {P : Program} {F : XF} {n : Nat}
theorem ac_res {f : FuncId} {args : List AV} {r : AV} (h : AC P f args [] (Res r)) : AF P f args r := by
  intro H w vs hH hs hm
  refine (h H none0 w vs hH (rel_nil H w) hs (by rw [nn_nil]; exact hm)).mono ?_
  rintro en w' ⟨v, r', ι', A', hv, hr, hR, hst, hval⟩
  unfold Res resO at hr
  split at hr
  · rename_i r0 r1 hr0
    have := reiV_sound (ι' := none0) (A' := []) hR hr0 hval
    exact ⟨v, hv, ⟨NLe.shp _ _ _ hr this.1, NLe.mem _ _ _ hr this.2⟩, hst.ext⟩
  · exact hr.elim
theorem XFok.af (hF : XFok P F) {f : FuncId} {args : List AV} {r0 r : AV} {A' : AHeap} (h : F f args [] = some (r0, A')) (hr : reiV false A' 9 r0 = some r) : AF P f args r :=
  ac_res ((hF _ _ _ _ _ h).2.mono fun r1 A1 ⟨e1, e2⟩ => by
    subst e1 e2
    show resO (reiV false A1 9 r1) r
    rw [hr]
    exact NLe.refl r)
theorem xset_upd {r : Option AV} {e e' : AEnv} {d : Option Nat} {A A' : AHeap} (h : xset r e d A = some (e', A')) : ∃ v, e' = aupd e d v := by
  unfold xset at h
  split at h
  · simp only [Option.some.injEq, Prod.mk.injEq] at h; exact ⟨_, h.1.symm⟩
  · cases h
theorem xnew_upd {r : Option (AV × Blk)} {e e' : AEnv} {d : Option Nat} {A A' : AHeap} (h : xnew r e d A = some (e', A')) : ∃ v, e' = aupd e d v := by
  unfold xnew at h
  split at h
  · simp only [Option.some.injEq, Prod.mk.injEq] at h; exact ⟨_, h.1.symm⟩
  · cases h
theorem xstr_upd {s t : TypeId} {r : Option (List (List AV))} {e e' : AEnv} {d : Option Nat} {A A' : AHeap} (h : xstr P s t r e d A = some (e', A')) : ∃ v, e' = aupd e d v := by
  unfold xstr at h
  split at h
  · split at h
    · simp only [Option.some.injEq, Prod.mk.injEq] at h; exact ⟨_, h.1.symm⟩
    · cases h
  · cases h
theorem xnx_upd {x : AV} {e e' : AEnv} {d : Option Nat} {A A' : AHeap} (h : xnx A e d x = some (e', A')) : ∃ v, e' = aupd e d v := by
  unfold xnx at h
  repeat' split at h
  all_goals first | (cases h; done) | (simp only [Option.some.injEq, Prod.mk.injEq] at h; exact ⟨_, h.1.symm⟩)
theorem xop_upd {o : Oper} {e e' : AEnv} {A A' : AHeap} (h : xop P F o e A = some (e', A')) : ∃ v, e' = aupd e o.dst v := by
  unfold xop at h
  repeat' split at h
  all_goals first
    | (cases h; done)
    | exact xset_upd h
    | exact xnew_upd h
    | exact xstr_upd h
    | exact xnx_upd h
    | (simp only [Option.some.injEq, Prod.mk.injEq] at h; exact ⟨_, h.1.symm⟩)
theorem xop_out {o : Oper} {e e' : AEnv} {A A' : AHeap} (h : xop P F o e A = some (e', A')) {i : Nat} (hi : o.dst ≠ some i) : e' i = e i := by
  obtain ⟨v, hv⟩ := xop_upd h
  rw [hv]
  cases hd : o.dst with
  | none => rfl
  | some d =>
    show (if i = d then v else e i) = e i
    rw [if_neg]
    intro he
    exact hi (by rw [hd, he])
theorem xset_keep {r : Option AV} {e e' : AEnv} {d : Option Nat} {A A' : AHeap} (h : xset r e d A = some (e', A')) : A' = A := by
  unfold xset at h
  split at h
  · simp only [Option.some.injEq, Prod.mk.injEq] at h; exact h.2.symm
  · cases h
theorem xstr_keep {s t : TypeId} {r : Option (List (List AV))} {e e' : AEnv} {d : Option Nat} {A A' : AHeap} (h : xstr P s t r e d A = some (e', A')) : A' = A := by
  unfold xstr at h
  repeat' split at h
  all_goals first | (cases h; done) | (simp only [Option.some.injEq, Prod.mk.injEq] at h; exact h.2.symm)
theorem xop_keep {o : Oper} {e e' : AEnv} {A A' : AHeap} (hs : still o.op = true) (h : xop P F o e A = some (e', A')) : A' = A := by
  obtain ⟨d, op, ty, pos, af, gd⟩ := o
  simp only at hs
  unfold xop at h
  cases op with
  | load | lookup | move | assign | pick | nilCheck | unOp | makeFunc | fieldAddr | field | indexAddr | index | extract | slice | build => exact xset_keep h
  | makeInterface | typeAssert | binOp =>
    simp only at h
    repeat' split at h
    all_goals first | (cases h; done) | exact xset_keep h | (simp only [Option.some.injEq, Prod.mk.injEq] at h; exact h.2.symm)
  | convert =>
    simp only at h
    repeat' split at h
    all_goals first | (cases h; done) | exact xset_keep h | exact xstr_keep h
  | call c =>
    obtain ⟨cl, args, ats⟩ := c
    cases cl with
    | value f => simp [still] at hs
    | invoke => simp [still] at hs
    | builtin b =>
      cases b <;> simp only [still, Bool.false_eq_true] at hs
      all_goals
        simp only at h
        repeat' split at h
        all_goals first | (cases h; done) | exact xset_keep h | (simp only [Option.some.injEq, Prod.mk.injEq] at h; exact h.2.symm)
  | _ => simp [still] at hs
section
variable {H : Nat → Prop} {ι : Place} {A : AHeap} {w : World}
end
/-- The run in the text's order. -/
structure Run (P : Program) (F : XF) (ops : List Oper) (ia r : Nat) (kl : Blk) (e0 : AEnv) (A0 : AHeap) (E : Nat → AEnv) (H : Nat → AHeap) : Prop where
  e0 : E 0 = e0
  h0 : H 0 = A0
  step : ∀ (i : Nat) (o : Oper), ops[i]? = some o → i ≠ ia → xop P F o (E i) (H i) = some (E (i + 1), H (i + 1))
  at_ : ∀ (o : Oper), ops[ia]? = some o → E (ia + 1) = aupd (E ia) o.dst (.ptr r 1 0 0) ∧ H (ia + 1) = (H ia).set r kl
section
variable {ops : List Oper} {ia r : Nat} {kl : Blk} {e0 : AEnv} {A0 : AHeap} {E : Nat → AEnv} {H : Nat → AHeap}
theorem Run.keepE (hr : Run P F ops ia r kl e0 A0 E H) {i t : Nat} {o : Oper} (ho : ops[i]? = some o) (h : o.dst ≠ some t) : E (i + 1) t = E i t := by
  by_cases hi : i = ia
  · subst hi
    rw [(hr.at_ o ho).1]
    cases hd : o.dst with
    | none => rfl
    | some d =>
      show (if t = d then _ else E i t) = E i t
      rw [if_neg]
      intro he
      exact h (by rw [hd, he])
  · exact xop_out (hr.step i o ho hi) h
theorem Run.out (hr : Run P F ops ia r kl e0 A0 E H) {i : Nat} (hi : i ≤ ops.length) {t : Nat} (h : ∀ (j : Nat) (o : Oper), j < i → ops[j]? = some o → o.dst ≠ some t) : E i t = e0 t := by
  induction i with
  | zero => rw [hr.e0]
  | succ i ih =>
    have hl : i < ops.length := by omega
    rw [hr.keepE (o := ops[i]) (by simp [hl]) (h i ops[i] (by omega) (by simp [hl]))]
    exact ih (by omega) fun j o hj => h j o (by omega)
theorem Run.val (hr : Run P F ops ia r kl e0 A0 E H) {j : Nat} {o : Oper} {t : Nat} (ho : ops[j]? = some o) (hd : o.dst = some t) (hu : ∀ (k : Nat) (q : Oper), ops[k]? = some q → q.dst = some t → k = j) : ∀ i, j < i → i ≤ ops.length → E i t = E (j + 1) t := by
  intro i hji hi
  induction i with
  | zero => omega
  | succ i ih =>
    rcases Nat.lt_or_ge j i with h | h
    · have hl : i < ops.length := by omega
      rw [hr.keepE (o := ops[i]) (by simp [hl]) fun hd' => by have := hu i ops[i] (by simp [hl]) hd'; omega]
      exact ih h (by omega)
    · obtain rfl : i = j := by omega
      rfl
theorem Run.heap (hr : Run P F ops ia r kl e0 A0 E H) {p q : Nat} (hpq : p ≤ q) (hq : q ≤ ops.length) (hia : q ≤ ia ∨ ia < p) (h : ∀ j, p ≤ j → j < q → chg ops ia j = false) : H q = H p := by
  induction q with
  | zero =>
    obtain rfl : p = 0 := by omega
    rfl
  | succ q ih =>
    rcases Nat.lt_or_ge q p with h1 | h1
    · obtain rfl : p = q + 1 := by omega
      rfl
    · have hl : q < ops.length := by omega
      have hc := h q h1 (by omega)
      have hqa : q ≠ ia := by omega
      simp only [chg, List.getElem?_eq_getElem hl, decide_eq_true hqa, Bool.and_true, Bool.not_eq_false'] at hc
      rw [xop_keep hc (hr.step q ops[q] (by simp [hl]) hqa)]
      exact ih h1 (by omega) (by omega) fun j h2 h3 => h j h2 (by omega)
def Hs (H : Nat → AHeap) (ia r : Nat) (kl : Blk) (p : Nat) (b : Bool) : AHeap := if b = true ∧ p ≤ ia then (H p).set r kl else H p
/-- The same changes lead to the same heap. -/
theorem Run.same (hr : Run P F ops ia r kl e0 A0 E H) {p q : Nat} {b : Bool} (hp : p ≤ ops.length) (hq : q ≤ ops.length) (h1 : ia < p → b = true) (h2 : ia < q → b = true) (h : ∀ j, chg ops ia j = true → (j < p ↔ j < q)) : Hs H ia r kl p b = Hs H ia r kl q b := by
  have hno : ∀ j, (p ≤ j ∧ j < q) ∨ (q ≤ j ∧ j < p) → chg ops ia j = false := fun j hj => by
    cases hc : chg ops ia j with
    | false => rfl
    | true => have := h j hc; omega
  have key : ∀ p q, p ≤ q → q ≤ ops.length → (∀ j, p ≤ j → j < q → chg ops ia j = false) → (ia < q → b = true) → Hs H ia r kl p b = Hs H ia r kl q b := by
    intro p q hpq hq hn hb
    unfold Hs
    rcases Nat.lt_or_ge ia q with h1 | h1
    · rw [hb h1]
      rcases Nat.lt_or_ge ia p with h2 | h2
      · rw [if_neg (fun hh => by omega), if_neg (fun hh => by omega), hr.heap hpq hq (.inr h2) hn]
      · rw [if_pos ⟨rfl, h2⟩, if_neg (fun hh => by omega)]
        have hl : ia < ops.length := by omega
        rw [hr.heap (p := ia + 1) (q := q) h1 hq (.inr (by omega)) (fun j h3 h4 => hn j (by omega) h4), (hr.at_ ops[ia] (by simp [hl])).2, hr.heap (p := p) (q := ia) h2 (by omega) (.inl (Nat.le_refl _)) (fun j h3 h4 => hn j h3 (by omega))]
    · rw [hr.heap hpq hq (.inl h1) hn]
      by_cases hb' : b = true
      · rw [if_pos ⟨hb', by omega⟩, if_pos ⟨hb', h1⟩]
      · rw [if_neg (fun hh => hb' hh.1), if_neg (fun hh => hb' hh.1)]
  rcases Nat.le_total p q with hpq | hpq
  · exact key p q hpq hq (fun j h3 h4 => hno j (.inl ⟨h3, h4⟩)) h2
  · exact (key q p hpq hp (fun j h3 h4 => hno j (.inr ⟨h3, h4⟩)) h1).symm
/-- Between two operations. -/
structure Mid (ops : List Oper) (ia r : Nat) (kl : Blk) (e0 : AEnv) (E : Nat → AEnv) (H : Nat → AHeap) (L : Array Bool) (e : AEnv) (A : AHeap) : Prop where
  sz : L.size = ops.length
  cl : Closed ops (Lst L)
  hp : ∃ p, p ∈ reps ops ia ∧ A = Hs H ia r kl p (L.getD ia false) ∧ ∀ j, chg ops ia j = true → (Lst L j ↔ j < p)
  val : ∀ (j : Nat) (o : Oper) (t : Nat), Lst L j → ops[j]? = some o → o.dst = some t → e t = E (j + 1) t
  out : ∀ t, (∀ (j : Nat) (o : Oper), Lst L j → ops[j]? = some o → o.dst ≠ some t) → e t = e0 t
end
section
variable {ops : List Oper} {n0 : Nat} {F : XF}
theorem heapM_mem {T : List (Nat × AHeap)} {m : Nat} {A : AHeap} (h : heapM T m = some A) : (m, A) ∈ T := by
  unfold heapM at h
  simp only [Option.map_eq_some_iff] at h
  obtain ⟨t, h1, h2⟩ := h
  have h3 := List.mem_of_find?_eq_some h1
  have h4 := List.find?_some h1
  simp only [beq_iff_eq] at h4
  rw [← h4, ← h2]
  exact h3
/-- Between two operations. -/
structure MidP (ops : List Oper) (e0 e1 : AEnv) (T : List (Nat × AHeap)) (L : Array Bool) (e : AEnv) (A : AHeap) : Prop where
  sz : L.size = ops.length
  cl : Closed ops (Lst L)
  hp : ∃ m, heapM T m = some A ∧ ∀ j, m.testBit j = true ↔ (chgP ops j = true ∧ Lst L j)
  val : ∀ (j : Nat) (o : Oper) (t : Nat), Lst L j → ops[j]? = some o → o.dst = some t → e t = e1 t
  out : ∀ t, (∀ (j : Nat) (o : Oper), Lst L j → ops[j]? = some o → o.dst ≠ some t) → e t = e0 t
theorem chgP_lt {j : Nat} (h : chgP ops j = true) : j < ops.length := by
  unfold chgP at h
  split at h
  · rename_i o ho; exact (List.getElem?_eq_some_iff.1 ho).1
  · cases h
end
end
end Go.Proofs.YtagkfkhagjlmpaaGreat
