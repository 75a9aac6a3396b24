/- Texts that the claim leans on, laid one behind the other: Ug, Uh, Ui. -/
import Derived.Test.YtjglpamdliplbaaDoorZU
set_option linter.unusedSimpArgs false
set_option linter.unusedVariables false
set_option linter.unnecessarySimpa false
/- Contracts: the reference's maker of layer 32: add, integer, next; moved (printed by gen_ug.py). -/
namespace Go.Proofs.YtjglpamdliplbaaDoor
open Go.RowKit
abbrev bdQ (n : Nat) (f : Int) : Blk := ⟨0, true, 83, 2, [[.own 2 n 0 n, aI .i64 f]]⟩
abbrev arQ (L : List Cn) : Blk := ⟨L.length, true, 67, 10, dEls (cns L)⟩
theorem q32add_ac (b0 : Blk) (L : List Cn) (f : Int) (N : AHeap) (c : Cn) (hl : L.length ≤ 1000000) :
    AC Tryd.prog 51 [.ptr 1 0 0 0, cnA c] (b0 :: bdQ L.length f :: arQ L :: N)
      (fun r A' => r = .tup [] ∧ ∃ N', A' = b0 :: bdQ (L ++ [(c : Cn)]).length f :: arQ (L ++ [(c : Cn)]) :: (N ++ N')) := by
  refine ac_of Tryd.func51 rfl (by kernel_rfl) (by simp [Tryd.ntmps51]) fun _ => ?_
  simp [Tryd.f51]
  refine adraw3 7 126 [] (by kernel_rfl) rfl byt_33 (by kernel_rfl) (by kernel_rfl) (by kernel_rfl) (by kernel_rfl) (by kernel_rfl) ?_
  simp
  refine ⟨by simp [stabL_cons, stab1], ?_⟩
  simp [Cn.d_eq]
  unfold maxLen
  omega
theorem q32integer_ac (b0 : Blk) (L : List Cn) (f : Int) (N : AHeap) (v tk : Int) (hl : L.length ≤ 1000000) :
    AC Tryd.prog 82 [.ptr 1 0 0 0, aI .i64 v, aI .i64 tk] (b0 :: bdQ L.length f :: arQ L :: N)
      (fun r A' => r = .tup [] ∧ ∃ N', A' = b0 :: bdQ (L ++ [(⟨1, v, 0, 0, 0, tk, 4⟩ : Cn)]).length f :: arQ (L ++ [(⟨1, v, 0, 0, 0, tk, 4⟩ : Cn)]) :: (N ++ N')) := by
  refine ac_of Tryd.func82 rfl (by kernel_rfl) (by simp [Tryd.ntmps82]) fun _ => ?_
  simp [Tryd.f82]
  refine aCall_ofc (q32add_ac b0 L f N ⟨1, v, 0, 0, 0, tk, 4⟩ hl) (by simp) ?_
  rintro _ _ ⟨rfl, N', rfl⟩
  simp
theorem q32next_ac (b0 : Blk) (n : Nat) (f : Int) (N : AHeap) (h0 : 0 ≤ f) (h1 : f ≤ 1000000000) :
    AC Tryd.prog 81 [.ptr 1 0 0 0] (b0 :: bdQ n f :: N) (fun r A' => r = aI .i64 f ∧ ∃ N', A' = b0 :: bdQ n (f + 1) :: (N ++ N')) := by
  refine ac_of Tryd.func81 rfl (by kernel_rfl) (by simp [Tryd.ntmps81]) fun _ => ?_
  simp [Tryd.f81, i64w (n := f + 1) (by omega), i64w (n := f) (by omega)]
theorem q32moved_af (e : Ex) (hf : formB e = true) : AF Tryd.prog 52 [exA e] (.tup [exA (movP e).1, aI .i64 (movP e).2, aB (movB e)]) := by
  by_cases h : e.op = 3 ∨ e.op = 4
  case neg =>
    have h3 : ¬ e.op = 3 := fun h3 => h (.inl h3)
    have h4 : ¬ e.op = 4 := fun h4 => h (.inr h4)
    have hm : movB e = false := by simp [movB, h3, h4]
    have hp : movP e = (e, 0) := by simp [movP, hm]
    rw [hm, hp]
    refine af_of Tryd.func52 rfl (by kernel_rfl) (by simp [Tryd.ntmps52]) fun _ => ?_; simp [Tryd.f52, Ex.d_eq]
    simp [h3, h4]
  obtain ⟨a, b, he, ha, hb⟩ := form_two hf (by omega) (by omega)
  obtain ⟨o, ho⟩ : ∃ o, e.op = o := ⟨_, rfl⟩
  rw [ho] at h he
  subst he
  have hm : movB (eTwo o a b) = decide (b.op = 1) := by
    have hy : (eTwo o a b).y = b := rfl
    simp only [movB, hy, eTwo_op]
    rcases h with rfl | rfl <;> simp
  have hp : movP (eTwo o a b) = if b.op = 1 then (a, offN (eTwo o a b)) else (eTwo o a b, 0) := by
    unfold movP
    rw [hm]
    by_cases h1 : b.op = 1 <;> simp [h1] <;> rfl
  have hoff : offN (eTwo o a b) = IntKind.i32.wrap (if o = 4 then IntKind.u32.wrap (-b.n) else b.n) := rfl
  rw [hm, hp, hoff]
  by_cases h1 : b.op = 1
  · rcases h with rfl | rfl
    · refine af_of Tryd.func52 rfl (by kernel_rfl) (by simp [Tryd.ntmps52]) fun _ => ?_; simp [Tryd.f52, Ex.d_eq]
      simp [h1, Ex.d_eq, i64_i32]
    · refine af_of Tryd.func52 rfl (by kernel_rfl) (by simp [Tryd.ntmps52]) fun _ => ?_; simp [Tryd.f52, Ex.d_eq]
      simp [h1, Ex.d_eq, i64_i32]
  · rcases h with rfl | rfl
    · refine af_of Tryd.func52 rfl (by kernel_rfl) (by simp [Tryd.ntmps52]) fun _ => ?_; simp [Tryd.f52, Ex.d_eq]
      simp [h1, Ex.d_eq]
    · refine af_of Tryd.func52 rfl (by kernel_rfl) (by simp [Tryd.ntmps52]) fun _ => ?_; simp [Tryd.f52, Ex.d_eq]
      simp [h1, Ex.d_eq]
end Go.Proofs.YtjglpamdliplbaaDoor

/- Contract: the constraints of an expression, by the reference (printed by gen_ug.py). -/
namespace Go.Proofs.YtjglpamdliplbaaDoor
open Go.RowKit
set_option maxHeartbeats 0 in
theorem q32expr_ac : ∀ (k : Nat) (x : Ex) (b0 : Blk) (L : List Cn) (f : Int) (N : AHeap), formB x = true → x.nodes ≤ k → 0 ≤ f → f + x.nodes ≤ 1000000000 → L.length + 2 * x.nodes ≤ 1000000 →
    AC Tryd.prog 50 [.ptr 1 0 0 0, exA x] (b0 :: bdQ L.length f :: arQ L :: N) (fun r A' => r = aI .i64 (cnF k f x).2.2 ∧ ∃ N', A' = b0 :: bdQ (L ++ (cnF k f x).1).length (cnF k f x).2.1 :: arQ (L ++ (cnF k f x).1) :: (N ++ N')) := by
  intro k
  induction k with
  | zero => intro x _ _ _ _ _ h; have := x.nodes_pos; omega
  | succ k ih =>
  intro x b0 L f N hf hk h0 hfr hL
  have co := q32moved_af x hf
  obtain ⟨R, hR⟩ : ∃ R, cnF (k + 1) f x = R := ⟨_, rfl⟩
  rw [hR]
  unfold cnF at hR
  by_cases h2 : x.op = 2
  · rw [if_pos h2] at hR
    subst hR
    refine ac_of Tryd.func50 rfl (by kernel_rfl) (by simp [Tryd.ntmps50]) fun _ => ?_
    simp [Tryd.f50, Ex.d_eq, h2]
  rw [if_neg h2] at hR
  by_cases hm : movB x = true
  · rw [if_pos hm] at hR
    obtain ⟨y, n, hx, hy, ho, hxx⟩ := mov_parts hf hm
    have hn : x.nodes = y.nodes + 2 := by
      have := congrArg Ex.nodes hx
      simpa using this
    have hp : movP x = (y, offN x) := by rw [movP, if_pos hm, hxx]
    rw [hm, hp] at co
    rw [hxx] at hR
    have r := cnF_like k f y h0 hy (by omega)
    have c1 := ih y b0 L f
    obtain ⟨⟨l1, f1, v1⟩, hq⟩ : ∃ p, cnF k f y = p := ⟨_, rfl⟩
    rw [hq] at hR r
    simp only [hq] at c1
    simp only at hR
    subst hR
    have hlo := r.lo
    have hhi := r.hi
    have hlen := r.len
    simp only at hlo hhi hlen
    refine ac_of Tryd.func50 rfl (by kernel_rfl) (by simp [Tryd.ntmps50]) fun _ => ?_
    simp [Tryd.f50, Ex.d_eq, h2, show ¬ x.op = 18 by omega]
    refine aCall_of (co) (by simp) (by simp [Ex.d_eq]) ?_; simp [Ex.d_eq]
    refine aCall_ofc (c1 _ hy (by omega) h0 (by omega) (by omega)) (by simp) ?_
    rintro _ _ ⟨rfl, N1, rfl⟩
    simp
    refine aCall_ofc (q32next_ac b0 _ f1 _ (by omega) (by omega)) (by simp) ?_
    rintro _ _ ⟨rfl, N2, rfl⟩
    simp
    have hl2 : (L ++ l1).length ≤ 1000000 := by rw [List.length_append]; omega
    have c3 := fun N => q32add_ac b0 (L ++ l1) (f1 + 1) N ⟨4, f1, v1, offN x, 0, 0, 0⟩ hl2
    simp only [List.length_append] at c3
    refine aCall_ofc (c3 _) (by simp) ?_
    rintro _ _ ⟨rfl, N3, rfl⟩
    simp [Nat.add_assoc]
  rw [if_neg hm] at hR
  have hp : movP x = (x, 0) := by rw [movP, if_neg hm]
  have hm' : movB x = false := by simpa using hm
  rw [hm', hp] at co
  by_cases h18 : x.op = 18
  · rw [if_pos h18] at hR
    obtain ⟨a, ha, haf, _⟩ := form_wide hf (.inl h18)
    have hx : x.x = a := by rw [ha]; rfl
    have hn : x.nodes = a.nodes + 1 := by
      have := congrArg Ex.nodes ha
      simpa [Ex.nodes, Ex.nodess] using this
    rw [hx] at hR
    have hxl : x.l = [a] := by rw [ha]; rfl
    have co2 := q32moved_af a haf
    have hmn := movP_nodes a
    have hmf := movP_form haf
    obtain ⟨⟨y, of⟩, hy⟩ : ∃ p, movP a = p := ⟨_, rfl⟩
    rw [hy] at hR co2 hmn hmf
    simp only at hR co2 hmn hmf
    have r := cnF_like k f y h0 hmf (by omega)
    have c1 := ih y b0 L f
    obtain ⟨⟨l1, f1, v1⟩, hq⟩ : ∃ p, cnF k f y = p := ⟨_, rfl⟩
    rw [hq] at hR r
    simp only [hq] at c1
    simp only at hR
    subst hR
    have hlo := r.lo
    have hhi := r.hi
    have hlen := r.len
    simp only at hlo hhi hlen
    refine ac_of Tryd.func50 rfl (by kernel_rfl) (by simp [Tryd.ntmps50]) fun _ => ?_
    simp [Tryd.f50, Ex.d_eq, h2, h18, hxl]
    refine aCall_of (co2) (by simp) (by simp [Ex.d_eq]) ?_; simp [Ex.d_eq]
    refine aCall_ofc (c1 _ hmf (by omega) h0 (by omega) (by omega)) (by simp) ?_
    rintro _ _ ⟨rfl, N1, rfl⟩
    simp
    refine aCall_ofc (q32next_ac b0 _ f1 _ (by omega) (by omega)) (by simp) ?_
    rintro _ _ ⟨rfl, N2, rfl⟩
    simp
    have hl2 : (L ++ l1).length ≤ 1000000 := by rw [List.length_append]; omega
    have c3 := fun N => q32add_ac b0 (L ++ l1) (f1 + 1) N ⟨2, v1, f1, of, x.wd, 0, 0⟩ hl2
    simp only [List.length_append] at c3
    refine aCall_ofc (c3 _) (by simp) ?_
    rintro _ _ ⟨rfl, N3, rfl⟩
    simp [Nat.add_assoc]
  rw [if_neg h18] at hR
  have hlen := x.nodes_len
  have n1 : x.l.length ≤ maxLen := by unfold maxLen; omega
  have hne := nodes_eq x
  have hall := (form_all hf).2
  have hlk : ∀ i, CnRL f (x.l.take i) (cnL (cnF k) f (x.l.take i)).1 (cnL (cnF k) f (x.l.take i)).2.1 (cnL (cnF k) f (x.l.take i)).2.2 := fun i =>
    cnL_like (cnF k) (x.l.take i) f h0 fun y hy f hf => cnF_like k f y hf (hall y (List.mem_of_mem_take hy)) (by have := Ex.nodess_mem (List.mem_of_mem_take hy); omega)
  refine ac_of Tryd.func50 rfl (by kernel_rfl) (by simp [Tryd.ntmps50]) fun _ => ?_
  simp [Tryd.f50, Ex.d_eq, h2, h18]
  refine aCall_of (co) (by simp) (by simp [Ex.d_eq]) ?_; simp [Ex.d_eq]
  refine aLoop_of (α := Nat) (fun i e A => i ≤ x.l.length ∧ (∃ N', A = b0 :: bdQ (L ++ (cnL (cnF k) f (x.l.take i)).1).length (cnL (cnF k) f (x.l.take i)).2.1 :: arQ (L ++ (cnL (cnF k) f (x.l.take i)).1) :: (N ++ bxE x :: bxE x :: blkV (cnL (cnF k) f (x.l.take i)).2.2 :: N')) ∧
    e 0 = .ptr 1 0 0 0 ∧ e 3 = .ptr (N.length + 1 + 1 + 1) 0 0 0 ∧ e 15 = .own (N.length + 1 + 1 + 1 + 1 + 1) i 0 i ∧ e 16 = aI .i64 i) (fun i => x.l.length - i) 0
    ((Sub.ghost 0 3 1).trans (Sub.slot (s := 15) (c := .own (N.length + 1 + 1 + 1 + 1 + 1) 0 0 0) ?_))
    ⟨by omega, ⟨[], by simp [cnL]⟩, by simp, by simp, by simp, by simp⟩ ?_
  · simp
    exact VLe.nil_own (k := ⟨0, true, 3, 1, []⟩) (by simp) rfl
  rintro i e A ⟨hi, ⟨N', rfl⟩, e0, e3, e15, e16⟩ K hK
  have hr := hlk i
  rcases Nat.lt_or_ge i x.l.length with hlt | hge
  case inl =>
    obtain ⟨y, hy⟩ : ∃ y, x.l[i]? = some y := ⟨_, List.getElem?_eq_getElem hlt⟩
    have hy2 := (List.getElem?_eq_some_iff.1 hy).2
    have hym := List.mem_of_getElem? hy
    have hts : x.l.take (i + 1) = x.l.take i ++ [y] := by rw [List.take_add_one, hy]; rfl
    have hsn := cnL_snoc (cnF k) f (x.l.take i) y
    rw [← hts] at hsn
    have hte := nodess_take hy
    have hle := nodess_take_le x.l (i + 1)
    obtain ⟨⟨lc, fc, V⟩, hq⟩ : ∃ p, cnL (cnF k) f (x.l.take i) = p := ⟨_, rfl⟩
    rw [hq] at hr hsn ⊢
    simp only at hsn
    have hrlo := hr.lo
    have hrhi := hr.hi
    have hrlen := hr.len
    have hvl := hr.vl
    simp only [List.length_take] at hrlo hrhi hrlen hvl
    have hVl : V.length = i := by omega
    have c1 := ih y b0 (L ++ lc) fc
    simp only [List.length_append] at c1
    have hmn := Ex.nodess_mem hym
    simp [e16, e3, hlt, hy, hy2, Ex.d_eq, e15, e0]
    refine aCall_ofc (c1 _ (hall y hym) (by omega) (by omega) (by omega) (by omega)) (by simp) ?_
    rintro _ _ ⟨rfl, N1, rfl⟩
    simp [e15, hVl]
    refine aRaw_app byt_24 ?_
    simp [e15, hVl]
    refine ⟨by unfold maxLen; omega, by omega, ?_⟩
    simp [e16, succ_wrap hlt n1]
    refine hK (i + 1) _ _ _ _ (Sub.refl _ _ _) ⟨by omega, ⟨N' ++ (N1 ++ [⟨0, true, 3, 1, [[aI .i64 (cnF k fc y).2.2]]⟩]), by rw [hsn]; simp [hVl, Nat.add_assoc]⟩, by simp [e0], by simp [e3], by simp, by simp⟩ (by omega)
  obtain rfl : i = x.l.length := by omega
  rw [List.take_length] at hr ⊢
  clear hK hlk ih
  obtain ⟨⟨lc, fc, V⟩, hq⟩ : ∃ p, cnL (cnF k) f x.l = p := ⟨_, rfl⟩
  rw [hq] at hr hR ⊢
  simp only at hr hR
  have hrlo := hr.lo
  have hrhi := hr.hi
  have hrlen := hr.len
  have hvl := hr.vl
  have hl2 : (L ++ lc).length ≤ 1000000 := by rw [List.length_append]; omega
  have ci := fun N v tk => q32integer_ac b0 (L ++ lc) (fc + 1) N v tk hl2
  simp only [List.length_append] at ci
  simp [e16, e3, e0]
  refine aCall_ofc (q32next_ac b0 _ fc _ (by omega) (by omega)) (by simp) ?_
  rintro _ _ ⟨rfl, N1, rfl⟩
  have hop : x.op = 5 ∨ x.op = 9 ∨ x.op = 11 ∨ x.op = 17 ∨ x.op = 19 ∨ x.op = 14 ∨ (¬ x.op = 5 ∧ ¬ x.op = 9 ∧ ¬ x.op = 11 ∧ ¬ x.op = 17 ∧ ¬ x.op = 19 ∧ ¬ x.op = 14) := by omega
  rcases hop with h | h | h | h | h | h | ⟨o5, o9, o11, o17, o19, o14⟩
  · have ht : typC x fc V = [⟨1, fc, 0, 0, 0, 2, 4⟩] := by simp [typC, h]
    rw [ht] at hR
    subst hR
    simp [e0, e3, h]
    refine aCall_ofc (ci _ fc 2) (by simp) ?_
    rintro _ _ ⟨rfl, N2, rfl⟩
    simp [e0, e3, h, Nat.add_assoc]
  · have ht : typC x fc V = [⟨1, fc, 0, 0, 0, 2, 4⟩] := by simp [typC, h]
    rw [ht] at hR
    subst hR
    simp [e0, e3, h]
    refine aCall_ofc (ci _ fc 2) (by simp) ?_
    rintro _ _ ⟨rfl, N2, rfl⟩
    simp [e0, e3, h, Nat.add_assoc]
  · have ht : typC x fc V = [⟨1, fc, 0, 0, 0, 1, 4⟩] := by simp [typC, h]
    rw [ht] at hR
    subst hR
    simp [e0, e3, h]
    refine aCall_ofc (ci _ fc 1) (by simp) ?_
    rintro _ _ ⟨rfl, N2, rfl⟩
    simp [e0, e3, h, Nat.add_assoc]
  · have ht : typC x fc V = [⟨1, fc, 0, 0, 0, 1, 4⟩] := by simp [typC, h]
    rw [ht] at hR
    subst hR
    simp [e0, e3, h]
    refine aCall_ofc (ci _ fc 1) (by simp) ?_
    rintro _ _ ⟨rfl, N2, rfl⟩
    simp [e0, e3, h, Nat.add_assoc]
  · have ht : typC x fc V = [⟨1, fc, 0, 0, 0, 1, 4⟩] := by simp [typC, h]
    rw [ht] at hR
    subst hR
    simp [e0, e3, h]
    refine aCall_ofc (ci _ fc 1) (by simp) ?_
    rintro _ _ ⟨rfl, N2, rfl⟩
    simp [e0, e3, h, Nat.add_assoc]
  · have ht : typC x fc V = ltC x.l V := by simp [typC, h]
    rw [ht] at hR
    subst hR
    have hx2 : x.l.length ≤ 2 := by
      obtain ⟨a, b, hab, _⟩ := form_two hf (by omega) (by omega)
      rw [hab]
      simp
    simp [e0, e3, e15, h]
    refine aLoop_of (α := Nat) (fun i e A => i ≤ x.l.length ∧ (∃ N', A = b0 :: bdQ (L ++ (lc ++ ltC (x.l.take i) (V.take i))).length (fc + 1) :: arQ (L ++ (lc ++ ltC (x.l.take i) (V.take i))) :: (N ++ bxE x :: bxE x :: blkV V :: N')) ∧
      e 0 = .ptr 1 0 0 0 ∧ e 3 = .ptr (N.length + 1 + 1 + 1) 0 0 0 ∧ e 15 = .own (N.length + 1 + 1 + 1 + 1 + 1) V.length 0 V.length ∧ e 17 = aI .i64 fc ∧ e 18 = aI .i64 i) (fun i => x.l.length - i) 0
      (Sub.refl _ _ _) ⟨by omega, ⟨N' ++ N1, by simp [ltC]⟩, by simp [e0], by simp [e3], by simp [e15, hvl], by simp, by simp⟩ ?_
    rintro i e A ⟨hi, ⟨N2, rfl⟩, e0, e3, e15, e17, e18⟩ K hK
    rcases Nat.lt_or_ge i x.l.length with hlt | hge
    case inr =>
      obtain rfl : i = x.l.length := by omega
      have hVt : V.take x.l.length = V := List.take_of_length_le (by omega)
      rw [List.take_length, hVt]
      simp [e15, e17, e18, hvl]
    obtain ⟨y, hy⟩ : ∃ y, x.l[i]? = some y := ⟨_, List.getElem?_eq_getElem hlt⟩
    have hy2 := (List.getElem?_eq_some_iff.1 hy).2
    obtain ⟨v, hv⟩ : ∃ v, V[i]? = some v := ⟨_, List.getElem?_eq_getElem (by omega)⟩
    have hv2 := (List.getElem?_eq_some_iff.1 hv).2
    have hltV : i < V.length := by omega
    have hsn : ltC (x.l.take (i + 1)) (V.take (i + 1)) = ltC (x.l.take i) (V.take i) ++ (if y.op = 1 then [] else [⟨1, v, 0, 0, 0, 1, 4⟩]) := by
      rw [show x.l.take (i + 1) = x.l.take i ++ [y] by rw [List.take_add_one, hy]; rfl, show V.take (i + 1) = V.take i ++ [v] by rw [List.take_add_one, hv]; rfl]
      exact ltC_snoc _ _ _ _ (by simp; omega)
    have hll : (ltC (x.l.take i) (V.take i)).length ≤ i := by
      have := (ltC_like (x.l.take i) (V.take i) fun u hu => hr.v0 u (List.mem_of_mem_take hu)).2.2.2.2
      simp at this
      omega
    obtain ⟨Q, hQ⟩ : ∃ Q, ltC (x.l.take i) (V.take i) = Q := ⟨_, rfl⟩
    rw [hQ] at hsn hll ⊢
    have hl3 : (L ++ (lc ++ Q)).length ≤ 1000000 := by simp only [List.length_append]; omega
    have ci := fun N => q32integer_ac b0 (L ++ (lc ++ Q)) (fc + 1) N v 1 hl3
    simp only [List.length_append] at ci
    simp [e15, e3, e18, hltV, hlt, hy, hy2, Ex.d_eq]
    by_cases hy1 : y.op = 1
    · rw [if_pos hy1, List.append_nil] at hsn
      simp [hy1, e18, succ_wrap hlt n1]
      refine hK (i + 1) _ _ _ _ (Sub.refl _ _ _) ⟨by omega, ⟨N2, by rw [hsn]; simp [Nat.add_assoc]⟩, by simp [e0], by simp [e3], by simp [e15], by simp [e17], by simp⟩ (by omega)
    · rw [if_neg hy1] at hsn
      simp [hy1]
      simp [e0, e15, e18, hltV, hv, hv2]
      refine aCall_ofc (ci _) (by simp) ?_
      rintro _ _ ⟨rfl, N3, rfl⟩
      simp [e18, succ_wrap hlt n1]
      refine hK (i + 1) _ _ _ _ (Sub.refl _ _ _) ⟨by omega, ⟨N2 ++ N3, by rw [hsn]; simp [Nat.add_assoc]⟩, by simp [e0], by simp [e3], by simp [e15], by simp [e17], by simp⟩ (by omega)
  · have ht : typC x fc V = [] := by simp [typC, o5, o9, o11, o17, o19, o14]
    rw [ht, List.append_nil] at hR
    subst hR
    simp [e0, e3, o5, o9, o11, o17, o19, o14]
end Go.Proofs.YtjglpamdliplbaaDoor

/- Contract: the constraints of a statement, by the reference (printed by gen_ug.py). -/
namespace Go.Proofs.YtjglpamdliplbaaDoor
open Go.RowKit
set_option maxHeartbeats 0 in
theorem q32stmt_ac (k : Nat) (s : St) (b0 : Blk) (L : List Cn) (f : Int) (N : AHeap) (hs : stErr s = 0) (hk : Ex.nodess s.e ≤ k) (h0 : 0 ≤ f) (hfr : f + Ex.nodess s.e ≤ 1000000000) (hL : L.length + 2 * Ex.nodess s.e + 1 ≤ 1000000) :
    AC Tryd.prog 28 [.ptr 1 0 0 0, stV s] (b0 :: bdQ L.length f :: arQ L :: N) (fun r A' => r = .tup [] ∧ ∃ N', A' = b0 :: bdQ (L ++ (cnS k f s).1).length (cnS k f s).2 :: arQ (L ++ (cnS k f s).1) :: (N ++ N')) := by
  rcases st_kinds hs with ⟨o1, a, ha, haf⟩ | ⟨o2, a, b, ha, haf, hbf⟩ | ⟨o1, o2, o4, o7, o8, ha⟩ | ⟨ho, a, ha, haf⟩
  · rw [ha] at hk hfr hL
    simp only [Ex.nodess, Nat.add_zero] at hk hfr hL
    obtain ⟨R, hR⟩ : ∃ R, cnS k f s = R := ⟨_, rfl⟩
    rw [hR]
    rw [cnS, o1, ha] at hR
    simp only at hR
    have r := cnF_like k f a h0 haf (by omega)
    have c1 := q32expr_ac k a b0 L f
    obtain ⟨⟨l1, f1, v1⟩, hq⟩ : ∃ p, cnF k f a = p := ⟨_, rfl⟩
    rw [hq] at hR r
    simp only [hq] at c1
    simp only at hR
    have hlen := r.len
    simp only at hlen
    refine ac_of Tryd.func28 rfl (by kernel_rfl) (by simp [Tryd.ntmps28]) fun _ => ?_
    simp [Tryd.f28, St.d_eq, o1, ha, Ex.d_eq]
    refine aCall_ofc (c1 _ haf (by omega) h0 (by omega) (by omega)) (by simp) ?_
    rintro _ _ ⟨rfl, N1, rfl⟩
    have hl2 : (L ++ l1).length ≤ 1000000 := by rw [List.length_append]; omega
    have c3 := fun N => q32add_ac b0 (L ++ l1) f1 N ⟨0, v1, s.va, 0, 0, 0, 0⟩ hl2
    simp only [List.length_append] at c3
    by_cases h1 : a.op = 1
    · rw [if_pos h1, List.append_nil] at hR
      subst hR
      simp [ha, h1, Ex.d_eq]
    · rw [if_neg h1] at hR
      subst hR
      simp [ha, h1, Ex.d_eq]
      refine aCall_ofc (c3 _) (by simp) ?_
      rintro _ _ ⟨rfl, N2, rfl⟩
      simp [Nat.add_assoc]
  · rw [ha] at hk hfr hL
    simp only [Ex.nodess, Nat.add_zero] at hk hfr hL
    obtain ⟨R, hR⟩ : ∃ R, cnS k f s = R := ⟨_, rfl⟩
    rw [hR]
    rw [cnS, o2, ha] at hR
    simp only at hR
    have co := q32moved_af a haf
    have hmn := movP_nodes a
    have hmf := movP_form haf
    obtain ⟨⟨y, of⟩, hy⟩ : ∃ p, movP a = p := ⟨_, rfl⟩
    rw [hy] at hR co hmn hmf
    simp only at hR co hmn hmf
    have r := cnF_like k f y h0 hmf (by omega)
    have c1 := q32expr_ac k y b0 L f
    obtain ⟨⟨l1, f1, v1⟩, hq⟩ : ∃ p, cnF k f y = p := ⟨_, rfl⟩
    rw [hq] at hR r
    simp only [hq] at c1
    simp only at hR
    have hlo := r.lo
    have hhi := r.hi
    have hlen := r.len
    simp only at hlo hhi hlen
    have r2 := cnF_like k f1 b (by omega) hbf (by omega)
    have c2 := q32expr_ac k b b0 (L ++ l1) f1
    obtain ⟨⟨l2, f2, v2⟩, hq2⟩ : ∃ p, cnF k f1 b = p := ⟨_, rfl⟩
    rw [hq2] at hR r2
    simp only [hq2] at c2
    simp only at hR
    have hlen2 := r2.len
    simp only at hlen2
    subst hR
    have hl3 : (L ++ (l1 ++ l2)).length ≤ 1000000 := by simp only [List.length_append]; omega
    have c3 := fun N => q32add_ac b0 (L ++ (l1 ++ l2)) f2 N ⟨3, v1, v2, of, s.wd, 0, 0⟩ hl3
    simp only [List.length_append] at c2
    simp only [show (L ++ (l1 ++ l2)).length = L.length + l1.length + l2.length by simp only [List.length_append]; omega] at c3
    refine ac_of Tryd.func28 rfl (by kernel_rfl) (by simp [Tryd.ntmps28]) fun _ => ?_
    simp [Tryd.f28, St.d_eq, o2, ha, Ex.d_eq]
    refine aCall_of (co) (by simp) (by simp [Ex.d_eq]) ?_; simp [Ex.d_eq]
    refine aCall_ofc (c1 _ hmf (by omega) h0 (by omega) (by omega)) (by simp) ?_
    rintro _ _ ⟨rfl, N1, rfl⟩
    simp [ha, Ex.d_eq]
    refine aCall_ofc (c2 _ hbf (by omega) (by omega) (by omega) (by omega)) (by simp) ?_
    rintro _ _ ⟨rfl, N2, rfl⟩
    simp
    refine aCall_ofc (c3 _) (by simp) ?_
    rintro _ _ ⟨rfl, N3, rfl⟩
    simp [Nat.add_assoc]
  · have hR : cnS k f s = ([], f) := by
      unfold cnS
      split
      · exact absurd ‹s.op = 1› o1
      · exact absurd ‹s.op = 2› o2
      · rw [ha]; rfl
    rw [hR]
    refine ac_of Tryd.func28 rfl (by kernel_rfl) (by simp [Tryd.ntmps28]) fun _ => ?_
    simp [Tryd.f28, St.d_eq, o1, o2, o4, o7, o8, ha]
  · rw [ha] at hk hfr hL
    simp only [Ex.nodess, Nat.add_zero] at hk hfr hL
    have o1 : s.op ≠ 1 := by omega
    have o2 : s.op ≠ 2 := by omega
    have hR : cnS k f s = ((cnF k f a).1, (cnF k f a).2.1) := by
      unfold cnS
      split
      · exact absurd ‹s.op = 1› o1
      · exact absurd ‹s.op = 2› o2
      · rw [ha]; simp [cnL]
    have c1 := q32expr_ac k a b0 L f
    obtain ⟨⟨l1, f1, v1⟩, hq⟩ : ∃ p, cnF k f a = p := ⟨_, rfl⟩
    rw [hq] at hR
    rw [hR]
    simp only [hq] at c1
    rcases ho with o | o | o
    all_goals
      refine ac_of Tryd.func28 rfl (by kernel_rfl) (by simp [Tryd.ntmps28]) fun _ => ?_
      simp [Tryd.f28, St.d_eq, o, ha, Ex.d_eq]
      refine aCall_ofc (c1 _ haf (by omega) h0 (by omega) (by omega)) (by simp) ?_
      rintro _ _ ⟨rfl, N1, rfl⟩
      simp
end Go.Proofs.YtjglpamdliplbaaDoor
