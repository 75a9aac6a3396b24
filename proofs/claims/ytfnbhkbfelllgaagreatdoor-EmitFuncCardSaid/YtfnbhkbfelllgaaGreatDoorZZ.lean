import Derived.Test.YtfnbhkbfelllgaaGreatDoorZV
import Derived.Test.YtfnbhkbfelllgaaGreatDoorZS
import Derived.Test.YtfnbhkbfelllgaaGreatDoorZP
set_option linter.all false
namespace Go.Proofs.YtfnbhkbfelllgaaGreatDoor
open Go.RowKit Go.Maps Go.Shelf Go.WideElems
section
variable {P : Program} {n : Nat} {K : AKont} {e : AEnv} {A : AHeap} {d : Option Nat} {ty : TypeId} {pos : String} {af : Array Edge} {gd : Option (Nat × Bool)}
end
theorem cln_gB (m : Nat) (g : Gr) : clnB m (gB g) = gB g := by simp [clnB, gB, clnE, cln]
theorem nI_mem {l : List Nat} {v : Int} : v ∈ nI l ↔ ∃ x ∈ l, (x : Int) = v := by simp [nI]
section
variable {E : Nat → List Nat} {P Q : Nat → Prop} {a b c : Nat}
end
theorem nodup_len {n : Nat} {l : List Nat} (h : l.Nodup) (hl : ∀ x ∈ l, x < n) : l.length ≤ n := by
 have := List.Nodup.length_le_of_subset (l₁ := l) (l₂ := List.range n) h fun x hx => by simpa using hl x hx
 simpa using this
theorem fold_set_get : ∀ (l : List Nat) (s : List Bool) (a : Nat), a < s.length → (l.foldl (fun s x => s.set x true) s)[a]? = some (s[a]?.getD false || l.contains a)
 | [], s, a, h => by simp [h]
 | x :: l, s, a, h => by
   rw [List.foldl_cons, fold_set_get l (s.set x true) a (by simpa using h)]
   by_cases hxa : x = a
   ·subst hxa
    simp [h]
   ·have : ¬ a = x := fun e => hxa e.symm
    simp [List.getElem?_set, hxa, this]
theorem reachN_get {g : Gr} {a : Nat} (h : a < g.b.length) : (reachN g)[a]? = some ((dgN g).rc a) := by
 unfold reachN
 rw [fold_set_get _ _ _ (by simpa using h)]
 simp [h, dgN]
@[simp] theorem reachN_len (g : Gr) : (reachN g).length = g.b.length := by
  unfold reachN
  rw [fold_set_len]
  simp
theorem r24has_af (l : List Int) (v : Int) (hl : l.length ≤ maxLen) : AF Tryz.prog 88 [.d (.sl 1 (i64s l)), aI .i64 v] (aB (decide (v ∈ l))) := by
 obtain ⟨R, hR⟩ : ∃ R, decide (v ∈ l) = R := ⟨_, rfl⟩
 rw [hR]
 refine af_of Tryz.func88 rfl (by kernel_rfl) (by simp [Tryz.ntmps88]) fun _ => ?_; simp [Tryz.f88, Ex.d_eq]
 refine aLoop_st (fun i : Nat => [(0, .d (.sl 1 (i64s l))), (1, aI .i64 v), (5, aI .i64 i)]) (fun _ => []) (fun i => i ≤ l.length ∧ v ∉ l.take i) (fun i => l.length - i) 0 (Sub.refl _ _ _) 0 (by omega) (by simp) (by simp) ⟨by omega, by simp⟩ ?_
 rintro i ⟨hi, hno⟩ K hK
 rcases Nat.lt_or_ge i l.length with hlt | hge
 case inr =>
  obtain rfl : i = l.length := by omega
  rw [List.take_length] at hno
  simp [hno] at hR
  subst hR
  simp
 obtain ⟨a, ha⟩ : ∃ a, l[i]? = some a := ⟨_, gEG hlt⟩
 have ha2 := (gSI.1 ha).2
 by_cases hav : a = v
 ·have : v ∈ l := hav ▸ gMO ha
  simp [this] at hR
  subst hR
  simp [hlt, ha, ha2, hav]
 ·simp [hlt, ha, ha2, hav, succ_wrap hlt hl]
  refine hK (i + 1) ⟨by omega, ?_⟩ (by omega) (Sub.refl _ _ _) 0 (by omega) (by simp) (by simp)
  rw [List.take_add_one, ha, List.mem_append]
  simp [hno]
  exact fun h => hav h.symm
theorem r24targets_af (b : Bl) (hl : b.s.length ≤ maxLen) : AF Tryz.prog 262 [blV b] (.d (.sl 1 (i64s (succL b)))) := by
 obtain ⟨R, hR⟩ : ∃ R, succL b = R := ⟨_, rfl⟩
 rw [hR]
 refine af_of Tryz.func262 rfl (by kernel_rfl) (by simp [Tryz.ntmps262]) fun _ => ?_; simp [Tryz.f262, Ex.d_eq]
 cases hn : b.s.length with
 | zero =>
   have : b.s = [] := List.length_eq_zero_iff.1 hn
   rw [succL, this] at hR
   simp at hR
   subst hR
   simp [this]
 | succ n =>
   obtain ⟨s, hs, hs2⟩ := last_get hn
   have hs3 := (gSI.1 hs).2
   have hne : ¬ b.s = [] := fun h => by rw [h] at hn; simp at hn
   unfold maxLen at hl
   rw [succL, hs2] at hR
   simp only [tgts] at hR
   simp [hn, hne, show ¬ (n : Int) + 1 = 0 by omega, i64w (n := (n : Int)) (by omega), hs, hs3, St.d_eq]
   rcases op_cases s.op with h | h | h | h | h | h | h | h | h | h | h <;> simp [h] at hR <;> subst hR <;> simp [h]
theorem nI_not {l : List Nat} {y : Nat} : ((y : Nat) : Int) ∈ nI l ↔ y ∈ l := by
 rw [nI_mem]
 constructor
 ·rintro ⟨z, hz, e⟩
  obtain rfl : z = y := by omega
  exact hz
 ·intro h; exact ⟨y, h, rfl⟩
@[simp] theorem nI_all (l : List Nat) : List.take l.length (i64s (nI l)) = i64s (nI l) := List.take_of_length_le (by simp)
theorem r24hasN_af (l : List Nat) (v : Nat) (hl : l.length ≤ maxLen) : AF Tryz.prog 88 [.d (.sl 1 (i64s (nI l))), aI .i64 v] (aB (decide (v ∈ l))) := by
 have := r24has_af (nI l) v (by simpa using hl)
 rwa [show decide ((v : Int) ∈ nI l) = decide (v ∈ l) by rw [Bool.eq_iff_iff, decide_eq_true_eq, decide_eq_true_eq, nI_not]] at this
theorem filter_step {p : Int → Bool} {L : List Int} {j : Nat} {a : Int} (h : L[j]? = some a) : (L.take (j + 1)).filter p = if p a = true then (L.take j).filter p ++ [a] else (L.take j).filter p := by
 rw [filter_take_succ h]
 split <;> simp
theorem r24edges_af (g : Gr) (hg : GrFit g) (k : Nat) (hk : k < g.b.length) : AF Tryz.prog 241 [grV g, aI .i64 k] (.d (.sl 1 (i64s (nI (edgN g k))))) := by
 obtain ⟨b, hb⟩ : ∃ b, g.b[k]? = some b := ⟨_, gEG hk⟩
 have hb2 := (gSI.1 hb).2
 have hbm := gMO hb
 have hgl : g.b.length ≤ maxLen := by have := hg.1; unfold maxLen; omega
 have hbl : b.s.length ≤ maxLen := by have := (hg.2 b hbm).1; unfold maxLen; omega
 have hsl := succL_len hg hbm
 have hsm : (succL b).length ≤ maxLen := by unfold maxLen; omega
 have hE : nI (edgN g k) = (succL b).filter (inG g) := by
  unfold edgN
  rw [hb]
  exact nI_toNat (n := g.b.length) fun x hx => inG_iff.1 (List.mem_filter.1 hx).2
 rw [hE]
 have ht := r24targets_af b hbl
 generalize succL b = L at *
 refine af_of Tryz.func241 rfl (by kernel_rfl) (by simp [Tryz.ntmps241]) fun _ => ?_; simp [Tryz.f241, Ex.d_eq]
 simp [hk, hb, hb2, Bl.d_eq]
 refine aCall_of ht (by kernel_rfl) (by simp) ?_
 simp
 obtain ⟨f, hf⟩ : ∃ f : Nat → List Int, f = fun j => (L.take j).filter (inG g) := ⟨_, rfl⟩
 have hf0 : f 0 = [] := by rw [hf]; simp
 have hfe : f L.length = L.filter (inG g) := by rw [hf]; simp
 have hfl : ∀ j, (f j).length ≤ 2000000 := fun j => by
  rw [hf]
  refine Nat.le_trans (List.length_filter_le _ _) ?_
  simp
  omega
 have hfs : ∀ j a, L[j]? = some a → f (j + 1) = if inG g a = true then f j ++ [a] else f j := fun j a h => by rw [hf]; exact filter_step h
 clear hf
 refine aLoop_st (fun j : Nat => [(2, .ptr 0 0 0 0), (5, .own 1 (f j).length 0 (f j).length), (6, .d (.sl 1 (i64s L))), (7, aI .i64 j)]) (fun j => [gB g, nbk (f j).length (f j)]) (fun j => j ≤ L.length) (fun j => L.length - j) 0
  ((Sub.ghost 0 3 1).trans (Sub.slot (s := 5) (c := .own 1 0 0 0) (by simp; exact VLe.nil_own (k := ⟨0, true, 3, 1, []⟩) (by simp) rfl))) 2 (by omega) (by simp [hf0, cln_gB]) (by simp [hf0]) (by omega) ?_
 rintro j hj K hK
 rcases Nat.lt_or_ge j L.length with hlt | hge
 case inr =>
  obtain rfl : j = L.length := by omega
  simp [hfe]
 obtain ⟨a, ha⟩ : ∃ a, L[j]? = some a := ⟨_, gEG hlt⟩
 have ha2 := (gSI.1 ha).2
 have hfj := hfs j a ha
 have hflj := hfl j
 simp [hlt]
 refine adraw [] (by kernel_rfl) (by kernel_rfl) (by kernel_rfl) (by kernel_rfl) ?_; simp [Ex.d_eq]
 simp [hlt, ha, ha2]
 by_cases hp : inG g a = true
 ·rw [if_pos hp] at hfj
  have hp2 := inG_iff.1 hp
  simp [hp2.1, hp2.2, hlt, ha, ha2]
  refine aRaw_app byt_48 ?_
  simp
  refine ⟨by unfold maxLen; omega, by omega, ?_⟩
  simp [succ_wrap hlt hsm]
  exact hK (j + 1) (by omega) (by omega) (Sub.refl _ _ _) 2 (by omega) (by simp [hfj, cln_gB]) (by simp [hfj])
 ·rw [if_neg hp] at hfj
  have hp2 : ¬ (0 ≤ a ∧ a < g.b.length) := fun h => hp (inG_iff.2 h)
  have hpd : (decide (0 ≤ a) && decide (a < g.b.length)) = false := by simpa [inG] using hp
  by_cases h0 : 0 ≤ a
  ·have h1 : ¬ a < g.b.length := fun h => hp2 ⟨h0, h⟩
   simp [h0, h1, hlt, ha, ha2, succ_wrap hlt hsm]
   exact hK (j + 1) (by omega) (by omega) (Sub.refl _ _ _) 2 (by omega) (by simp [hfj, cln_gB]) (by simp [hfj])
  ·simp [h0, succ_wrap hlt hsm]
   exact hK (j + 1) (by omega) (by omega) (Sub.refl _ _ _) 2 (by omega) (by simp [hfj, cln_gB]) (by simp [hfj])
structure Lp where
 hd : Int
 bd : List Int
 ex : List Int
 pa : Int
def Lp.d (l : Lp) : List D := [.v (.int .i64 l.hd), .sl 1 (i64s l.bd), .sl 1 (i64s l.ex), .v (.int .i64 l.pa)]
abbrev LS2 := List Nat × List Nat
def dfsR (E : Nat → List Nat) : Nat → Nat → LS2 → LS2
 | 0, _, s => s
 | f + 1, k, s =>
   let r := (E k).foldl (fun s n => if n ∈ s.1 then s else dfsR E f n s) (s.1 ++ [k], s.2)
   (r.1, r.2 ++ [k])
def dfsQ (E : Nat → List Nat) (f : Nat) (s : LS2) (n : Nat) : LS2 := if n ∈ s.1 then s else dfsR E f n s
theorem dfsR_eq (E : Nat → List Nat) (f k : Nat) (s : LS2) : dfsR E (f + 1) k s = (((E k).foldl (dfsQ E f) (s.1 ++ [k], s.2)).1, ((E k).foldl (dfsQ E f) (s.1 ++ [k], s.2)).2 ++ [k]) := rfl
structure RS (n : Nat) (s : DS2) (t : LS2) : Prop where
 len : s.1.length = n
 nd : t.1.Nodup
 lt : ∀ x ∈ t.1, x < n
 eq : ∀ x, x < n → s.1[x]? = some (decide (x ∈ t.1))
 po : s.2 = t.2
theorem RS.size {n : Nat} {s : DS2} {t : LS2} (h : RS n s t) : t.1.length ≤ n := nodup_len h.nd h.lt
theorem dfs_rel {n : Nat} {E : Nat → List Nat} (hE : ∀ i, i < n → ∀ x ∈ E i, x < n) : ∀ (f k : Nat) (s : DS2) (t : LS2), RS n s t → k < n → k ∉ t.1 → RS n (dfsV E f k s) (dfsR E f k t)
 | 0, _, _, _, h, _, _ => h
 | f + 1, k, s, t, h, hk, hkt => by
   have h0 : RS n (s.1.set k true, s.2) (t.1 ++ [k], t.2) := by
    refine ⟨by simp [h.len], ?_, fun x hx => ?_, fun x hx => ?_, h.po⟩
    ·rw [List.nodup_append]
     exact ⟨h.nd, by simp, fun a ha b hb => by simp at hb; subst hb; exact fun e => hkt (e ▸ ha)⟩
    ·rcases List.mem_append.1 hx with hx | hx
     ·exact h.lt x hx
     ·simp at hx; omega
    ·by_cases hxk : k = x
     ·subst hxk
      rw [gSS (by rw [h.len]; exact hk)]
      simp
     ·rw [gSN hxk, h.eq x hx]
      have : ¬ x = k := fun e => hxk e.symm
      simp [this]
   have step : ∀ (s : DS2) (t : LS2) (x : Nat), x < n → RS n s t → RS n (dfsS E f s x) (dfsQ E f t x) := fun s t x hx h => by
    unfold dfsS dfsQ
    rw [h.eq x hx]
    by_cases hxt : x ∈ t.1
    ·simp [hxt]; exact h
    ·simp [hxt]; exact dfs_rel hE f x s t h hx hxt
   have fold : ∀ (l : List Nat) (s : DS2) (t : LS2), (∀ x ∈ l, x < n) → RS n s t → RS n (l.foldl (dfsS E f) s) (l.foldl (dfsQ E f) t) := by
    intro l
    induction l with
    | nil => exact fun s t _ h => h
    | cons x l ih =>
      intro s t hl h
      rw [List.foldl_cons, List.foldl_cons]
      exact ih _ _ (fun y hy => hl y (by simp [hy])) (step s t x (hl x (by simp)) h)
   have hf := fold (E k) _ _ (hE k hk) h0
   rw [dfsV_eq, dfsR_eq]
   exact ⟨hf.len, hf.nd, hf.lt, hf.eq, by simp only; rw [hf.po]⟩
abbrev scB (S P : List Nat) : Blk := ⟨0, true, 239, 2, [[.own 1 S.length 0 S.length, .own 2 P.length 0 P.length]]⟩
abbrev scZ : Blk := ⟨0, true, 239, 2, [[.d (.v (.slice none 0 0)), .d (.v (.slice none 0 0))]]⟩
abbrev vHp (B : Blk) (t : LS2) (N : AHeap) : AHeap := B :: nbk t.1.length (nI t.1) :: nbk t.2.length (nI t.2) :: N
abbrev scV (t : LS2) : AV := .agg [.own 1 t.1.length 0 t.1.length, .own 2 t.2.length 0 t.2.length]
set_option maxRecDepth 100000 in
set_option maxHeartbeats 1000000 in
theorem r24visit_ac (g : Gr) (hg : GrFit g) (B : Blk) : ∀ (f k : Nat) (s : DS2) (t : LS2) (N : AHeap), RS g.b.length s t → k < g.b.length → k ∉ t.1 → cntF s.1 ≤ f → s.2.length + cntF s.1 ≤ g.b.length →
 AC Tryz.prog 201 [grV g, aI .i64 k, scV t] (vHp B t N) (fun r A' => r = scV (dfsR (edgN g) f k t) ∧ ∃ N', A' = vHp B (dfsR (edgN g) f k t) (N ++ N'))
 | 0, k, s, t, N, h, hk, hkt, hf, _ => by
   have h1 := h.eq k hk
   have : s.1[k]? = some false := by rw [h1]; simp [hkt]
   have := cntF_set this
   omega
 | f + 1, k, s, t, N, h, hkn, hkt, hf, hsum => by
   have hgl : g.b.length ≤ maxLen := by have := hg.1; unfold maxLen; omega
   have hg1 := hg.1
   have hk : s.1[k]? = some false := by rw [h.eq k hkn]; simp [hkt]
   have hset := cntF_set hk
   have hE : ∀ x ∈ edgN g k, x < g.b.length := edgN_lt (edgOk g) k hkn
   have hEl := edgN_len hg k
   have n1 : (edgN g k).length ≤ maxLen := by unfold maxLen; omega
   have hkeep := fun i => fold_keep (edgN_lt (edgOk g)) f ((edgN g k).take i) (s.1.set k true, s.2) (fun x hx => hE x (List.mem_of_mem_take hx)) (by simpa using h.len) (by simp only; omega)
   have hce := r24edges_af g hg k hkn
   have hts := h.size
   have htp := h.po
   have htp2 := congrArg List.length htp
   have h0 : RS g.b.length (s.1.set k true, s.2) (t.1 ++ [k], t.2) := by
    refine ⟨by simp [h.len], ?_, fun x hx => ?_, fun x hx => ?_, h.po⟩
    ·rw [List.nodup_append]
     exact ⟨h.nd, by simp, fun a ha b hb => by simp at hb; subst hb; exact fun e => hkt (e ▸ ha)⟩
    ·rcases List.mem_append.1 hx with hx | hx
     ·exact h.lt x hx
     ·simp at hx; omega
    ·by_cases hxk : k = x
     ·subst hxk
      rw [gSS (by rw [h.len]; exact hkn)]
      simp
     ·rw [gSN hxk, h.eq x hx]
      have : ¬ x = k := fun e => hxk e.symm
      simp [this]
   have hrel : ∀ i, RS g.b.length (((edgN g k).take i).foldl (dfsS (edgN g) f) (s.1.set k true, s.2)) (((edgN g k).take i).foldl (dfsQ (edgN g) f) (t.1 ++ [k], t.2)) := by
    intro i
    have step : ∀ (s : DS2) (t : LS2) (x : Nat), x < g.b.length → RS g.b.length s t → RS g.b.length (dfsS (edgN g) f s x) (dfsQ (edgN g) f t x) := fun s t x hx h => by
     unfold dfsS dfsQ
     rw [h.eq x hx]
     by_cases hxt : x ∈ t.1
     ·simp [hxt]; exact h
     ·simp [hxt]; exact dfs_rel (edgN_lt (edgOk g)) f x s t h hx hxt
    have : ∀ (l : List Nat) (s : DS2) (t : LS2), (∀ x ∈ l, x < g.b.length) → RS g.b.length s t → RS g.b.length (l.foldl (dfsS (edgN g) f) s) (l.foldl (dfsQ (edgN g) f) t) := by
     intro l
     induction l with
     | nil => exact fun s t _ h => h
     | cons x l ih =>
       intro s t hl h
       rw [List.foldl_cons, List.foldl_cons]
       exact ih _ _ (fun y hy => hl y (by simp [hy])) (step s t x (hl x (by simp)) h)
    exact this _ _ _ (fun x hx => hE x (List.mem_of_mem_take hx)) h0
   refine ac_of Tryz.func201 rfl (by kernel_rfl) (by simp [Tryz.ntmps201]) fun hb => ?_
   clear hb
   rw [dfsR_eq]
   obtain ⟨S, P⟩ := t
   simp only at hts htp htp2 hkt h0 hrel ⊢
   simp [Tryz.f201]
   refine aRaw_app byt_48 ?_
   simp
   refine ⟨by unfold maxLen; omega, by omega, ?_⟩
   refine aCall_of hce (by kernel_rfl) (by simp) ?_
   simp
   obtain ⟨q, hq⟩ : ∃ q : Nat → LS2, q = fun i => ((edgN g k).take i).foldl (dfsQ (edgN g) f) (S ++ [k], P) := ⟨_, rfl⟩
   have hq0 : q 0 = (S ++ [k], P) := by rw [hq]; simp
   have hqe : q (edgN g k).length = (edgN g k).foldl (dfsQ (edgN g) f) (S ++ [k], P) := by rw [hq]; simp only [List.take_length]
   have hqs : ∀ (i x : Nat), (edgN g k)[i]? = some x → q (i + 1) = dfsQ (edgN g) f (q i) x := fun i x hx => by rw [hq]; exact foldl_take (dfsQ (edgN g) f) (edgN g k) i x (S ++ [k], P) hx
   have hqr : ∀ i, RS g.b.length (((edgN g k).take i).foldl (dfsS (edgN g) f) (s.1.set k true, s.2)) (q i) := fun i => by rw [hq]; exact hrel i
   rw [← hqe]
   clear hrel hq hqe
   generalize edgN g k = E at *
   refine aLoop_of (α := Nat) (fun i e A => i ≤ E.length ∧ (∃ N', A = vHp B (q i) (N ++ gB g :: scB (q i).1 (q i).2 :: scZ :: N')) ∧ e 1 = aI .i64 k ∧ e 3 = .ptr (N.length + 1 + 1 + 1) 0 0 0 ∧ e 5 = .ptr (N.length + 1 + 1 + 1 + 1) 0 0 0 ∧ e 6 = .ptr (N.length + 1 + 1 + 1 + 1 + 1) 0 0 0 ∧ e 7 = .d (.sl 1 (i64s (nI E))) ∧ e 8 = aI .i64 i)
    (fun i => E.length - i) 0 (Sub.refl _ _ _) ⟨by omega, ⟨[nbk 0 [(k : Int)]], by simp [hq0]⟩, by simp, by simp, by simp, by simp, by simp, by simp⟩ ?_
   rintro i e A ⟨hi, ⟨N', rfl⟩, e1, e3, e5, e6, e7, e8⟩ K hK
   have hri := hqr i
   have hrs := hri.size
   have hkp := hkeep i
   have h1 := hkp.sum
   have h2 := hkp.le
   simp only at h1 h2
   have hpl := congrArg List.length hri.po
   rcases Nat.lt_or_ge i E.length with hlt | hge
   case inr =>
    obtain rfl : i = E.length := by omega
    obtain ⟨T, hT⟩ : ∃ T, q E.length = T := ⟨_, rfl⟩
    rw [hT] at hrs hpl ⊢
    simp [e1, e3, e5, e6, e7, e8]
    refine aRaw_app byt_48 ?_
    simp [e1, e3, e5, e6]
    exact ⟨by unfold maxLen; omega, by omega⟩
   obtain ⟨x, hx⟩ : ∃ x, E[i]? = some x := ⟨_, gEG hlt⟩
   have hx2 := (gSI.1 hx).2
   have hxn := hE x (gMO hx)
   have hst := hqs i x hx
   obtain ⟨Q, hQ⟩ : ∃ Q, (E.take i).foldl (dfsS (edgN g) f) (s.1.set k true, s.2) = Q := ⟨_, rfl⟩
   rw [hQ] at hri hkp h1 h2 hpl
   obtain ⟨T, hT⟩ : ∃ T, q i = T := ⟨_, rfl⟩
   rw [hT] at hri hrs hpl hst ⊢
   have hha := r24hasN_af T.1 x (by omega)
   simp [e1, e3, e5, e6, e7, e8, hlt]
   refine adraw [] (by kernel_rfl) (by kernel_rfl) (by kernel_rfl) (by kernel_rfl) ?_
   simp [e1, e3, e5, e6, e7, e8, hlt, hx, hx2]
   refine adC_ofs hha (by kernel_rfl) trivial (by simp) (by simp) (by simp) ?_
   by_cases hin : x ∈ T.1
   ·have hq1 : q (i + 1) = T := by rw [hst]; unfold dfsQ; rw [if_pos hin]
    simp [hin, e8, succ_wrap hlt n1]
    exact hK (i + 1) _ _ _ _ (Sub.refl _ _ _) ⟨by omega, ⟨N', by rw [hq1]⟩, by simp [e1], by simp [e3], by simp [e5], by simp [e6], by simp [e7], by simp⟩ (by omega)
   ·have hq1 : q (i + 1) = dfsR (edgN g) f x T := by rw [hst]; unfold dfsQ; rw [if_neg hin]
    simp [hin]
    refine adraw2 6 [] (by kernel_rfl) (by kernel_rfl) (by kernel_rfl) (by kernel_rfl) (by kernel_rfl) ?_
    simp [e1, e3, e5, e6, e7, e8, hlt, hx, hx2]
    refine aCall_ofc (r24visit_ac g hg B f x Q T (N ++ gB g :: scB T.1 T.2 :: scZ :: N') hri hxn hin (by omega) (by omega)) (by kernel_rfl) ?_
    rintro _ _ ⟨rfl, N2, rfl⟩
    simp [e1, e3, e5, e6, e7, e8, succ_wrap hlt n1]
    refine hK (i + 1) _ _ _ _ (Sub.refl _ _ _) ⟨by omega, ⟨N' ++ N2, by simp [hq1]⟩, by simp [e1], by simp [e3], by simp [e5], by simp [e6], by simp [e7], by simp⟩ (by omega)
theorem VLe.nil2 {A : AHeap} {b b' ver ver' : Nat} {k k' : Blk} (h : A[b]? = some k) (hv : ver = k.ver) (h' : A[b']? = some k') (hv' : ver' = k'.ver) : VLe A (.agg [.d (.v (.slice none 0 0)), .d (.v (.slice none 0 0))]) (.agg [.own b ver 0 0, .own b' ver' 0 0]) := by
 intro H ι w u hR hu
 have h1 := fun u => VLe.nil_own h hv H ι w u hR
 have h2 := fun u => VLe.nil_own h' hv' H ι w u hR
 obtain ⟨hs, hm⟩ := hu
 simp only [Shp] at hs
 obtain ⟨l, rfl, hs⟩ := hs
 simp only [ShpL] at hs
 obtain ⟨u1, l1, rfl, s1, u2, l2, rfl, s2, rfl⟩ := hs
 simp only [Mem] at hm
 obtain ⟨l', e, hm, ho⟩ := hm
 have : [u1, u2] = l' := by simpa using e
 subst this
 simp only [MemL] at hm
 obtain ⟨v1, k1, e1, m1, v2, k2, e2, m2, _⟩ := hm
 obtain ⟨rfl, rfl⟩ := List.cons.inj e1
 obtain ⟨rfl, rfl⟩ := List.cons.inj e2
 obtain ⟨p1, p2⟩ := h1 _ ⟨s1, m1⟩
 obtain ⟨p3, p4⟩ := h2 _ ⟨s2, m2⟩
 refine ⟨?_, ?_⟩
 ·simp only [Shp]
  exact ⟨_, rfl, by simp only [ShpL]; exact ⟨_, _, rfl, p1, _, _, rfl, p3, rfl⟩⟩
 ·simp only [Mem]
  exact ⟨_, rfl, by simp only [MemL]; exact ⟨_, _, rfl, p2, _, _, rfl, p4, rfl⟩, ho⟩
set_option maxRecDepth 100000 in
theorem r24order_af (g : Gr) (hg : GrFit g) : AF Tryz.prog 148 [grV g] (.d (.sl 1 (i64s (nI (ordN g))))) := by
 have hgl : g.b.length ≤ maxLen := by have := hg.1; unfold maxLen; omega
 have hg1 := hg.1
 refine af_of Tryz.func148 rfl (by kernel_rfl) (by simp [Tryz.ntmps148]) fun _ => ?_; simp [Tryz.f148, Ex.d_eq]
 by_cases h0 : g.b.length = 0
 ·have hb : g.b = [] := List.eq_nil_of_length_eq_zero h0
  simp [ordN, hb]
 have hpos : 0 < g.b.length := by omega
 have hne : ¬ g.b = [] := fun h => by rw [h] at h0; exact h0 rfl
 have hrs : RS g.b.length (List.replicate g.b.length false, []) ([], []) := ⟨by simp, by simp, by simp, fun x hx => by simp [hx], rfl⟩
 have hv := r24visit_ac g hg (gB g) g.b.length 0 (List.replicate g.b.length false, []) ([], []) [] hrs hpos (by simp) (by simp only; rw [cntF_rep]; exact Nat.le_refl _) (by simp only; rw [cntF_rep]; simp)
 have hrel := dfs_rel (edgN_lt (edgOk g)) g.b.length 0 _ _ hrs hpos (by simp)
 have hpo : (dfsR (edgN g) g.b.length 0 ([], [])).2 = postN g := hrel.po.symm
 have hpl := postN_len (edgOk g) hpos
 have hord : nI (ordN g) = nI (postN g).reverse := by unfold ordN; rw [if_neg h0]
 obtain ⟨P, hP⟩ : ∃ P, postN g = P := ⟨_, rfl⟩
 obtain ⟨T, hT⟩ : ∃ T, dfsR (edgN g) g.b.length 0 ([], []) = T := ⟨_, rfl⟩
 rw [hT] at hv hpo
 rw [hP] at hpo hpl hord
 have hPl : P.length ≤ maxLen := by omega
 simp [hne]
 refine aCall_ofc (AC.pre (args' := [grV g, aI .i64 0, scV ([], [])]) (Sub.trans (Sub.ghost 0 3 1) (Sub.trans (Sub.ghost 0 3 1) (Sub.slot (s := 2) (c := scV ([], [])) (VLe.nil2 (k := ⟨0, true, 3, 1, []⟩) (k' := ⟨0, true, 3, 1, []⟩) rfl rfl rfl rfl)))) rfl hv) (by kernel_rfl) ?_
 rintro _ _ ⟨rfl, N, rfl⟩
 obtain ⟨S, P'⟩ := T
 simp only at hpo
 subst hpo
 rw [hord]
 have hw0 : IntKind.i64.wrap ((P'.length : Int) - 1) = (P'.length : Int) - 1 := i64w (by omega)
 simp [hw0]
 refine aLoop_st (fun j : Nat => [(3, .own 3 j 0 j), (4, .own 2 P'.length 0 P'.length), (5, aI .i64 ((P'.length : Int) - 1 - j))]) (fun j => [gB g, nbk S.length (nI S), nbk P'.length (nI P'), nbk j (nI (P'.reverse.take j))]) (fun j => j ≤ P'.length) (fun j => P'.length - j) 0
  ((Sub.take 3 (by omega)).trans ((Sub.ghost 0 3 1).trans (Sub.slot (s := 3) (c := .own 3 0 0 0) (by simp; exact VLe.nil_own (k := ⟨0, true, 3, 1, []⟩) (by simp) rfl)))) 4 (by omega) (by simp [cln_gB]) (by simp [hw0]) (by omega) ?_
 rintro j hj K hK
 rcases Nat.lt_or_ge j P'.length with hlt | hge
 case inr =>
  obtain rfl : j = P'.length := by omega
  have ht : (nI P'.reverse).take P'.length = nI P'.reverse := List.take_of_length_le (by simp)
  have hm1 : ¬ (P'.length : Int) ≤ (P'.length : Int) - 1 := by omega
  have ht2 : List.take P'.length (i64s (nI P'.reverse)) = i64s (nI P'.reverse) := List.take_of_length_le (by simp)
  have ht3 : P'.reverse.take P'.length = P'.reverse := List.take_of_length_le (by simp)
  rw [ht3]
  simp [hm1]
  simp at ht2
  simp [ht2]
 obtain ⟨x, hx⟩ : ∃ x, P'[P'.length - 1 - j]? = some x := ⟨_, gEG (by omega)⟩
 have hxe := nbk_get (X := nI P') (i := P'.length - 1 - j) (a := (x : Int)) (by simp [hx])
 have hrx : P'.reverse[j]? = some x := by rw [List.getElem?_reverse hlt, hx]
 have hst : nI (P'.reverse.take (j + 1)) = nI (P'.reverse.take j) ++ [(x : Int)] := by
  rw [List.take_add_one, hrx]
  simp
 have hm1 : (j : Int) ≤ (P'.length : Int) - 1 := by omega
 have hm2 : ((P'.length : Int) - 1 - (j : Int)).toNat = P'.length - 1 - j := by omega
 have hm3 : (P'.length : Int) - 1 - (j : Int) < (P'.length : Int) := by omega
 have hw1 : IntKind.i64.wrap ((P'.length : Int) - 1 - (j : Int) - 1) = (P'.length : Int) - 1 - ((j + 1 : Nat) : Int) := by rw [i64w (by omega)]; omega
 have ht : (nI (P'.reverse.take j)).length = j := by simp; omega
 have ht1 : min j P'.length = j := by omega
 simp [hm1, hm2, hm3, hxe]
 refine aRaw_app byt_48 ?_
 simp [ht1]
 refine ⟨by omega, by omega, ?_⟩
 simp [hw1]
 exact hK (j + 1) (by omega) (by omega) (Sub.refl _ _ _) 4 (by omega) (by simp [cln_gB, hst]) (by simp)
end Go.Proofs.YtfnbhkbfelllgaaGreatDoor
