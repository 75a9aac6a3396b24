/- Texts that the claim leans on, laid one behind the other: Ka, Kb, Kc, Kd, Wf. -/
import Derived.Test.YtlfkighdmheniaaGreatDoorZK
import Derived.Test.YtlfkighdmheniaaGreatDoorZM
import Derived.Test.YtlfkighdmheniaaGreatDoorZH
import Derived.Test.YtlfkighdmheniaaGreatDoorZQ
import Derived.Test.YtlfkighdmheniaaGreatDoorZJ
import Derived.Test.YtlfkighdmheniaaGreatDoorZW
set_option linter.unusedSimpArgs false
set_option linter.unusedVariables false
set_option linter.unnecessarySimpa false
/- Law IdiomGraph, the plain part: a graph whose expressions are rewritten. No program in sight. -/
namespace Go.Proofs.YtlfkighdmheniaaGreatDoor
open Go.RowKit
def mapS (f : Ex → Ex) (s : St) : St := ⟨s.op, s.va, s.wd, s.nx, s.el, s.tg, s.e.map f, s.cs⟩
def mapB (f : Ex → Ex) (b : Bl) : Bl := ⟨b.ad, b.s.map (mapS f)⟩
def mapG (f : Ex → Ex) (g : Gr) : Gr := ⟨g.ad, g.b.map (mapB f)⟩
section
variable {f : Ex → Ex}
theorem exsErr_map : ∀ {l : List Ex}, (∀ e ∈ l, exErr e = 0 → exErr (f e) = 0) → exsErr l = 0 → exsErr (l.map f) = 0
  | [], _, _ => rfl
  | e :: l, hf, h => by
    simp only [exsErr] at h
    split at h
    · rename_i h0
      simp only [List.map_cons, exsErr]
      rw [if_pos (hf e (List.mem_cons_self ..) h0)]
      exact exsErr_map (fun x hx => hf x (List.mem_cons_of_mem _ hx)) h
    · exact absurd h ‹_›
theorem stErr_map {s : St} (hf : ∀ e ∈ s.e, exErr e = 0 → exErr (f e) = 0) (h : stErr s = 0) : stErr (mapS f s) = 0 := by
  unfold stErr at h ⊢
  split at h
  case isFalse => simp at h
  rename_i h1
  split at h
  case isFalse => exact absurd h ‹_›
  rename_i h2
  split at h
  case isFalse => simp at h
  rename_i h3
  rw [if_pos (by simpa [mapS] using h1), if_pos (by simpa [mapS] using exsErr_map hf h2), if_pos (show fieldsB (mapS f s) = true from h3)]
theorem stsErr_map : ∀ {l : List St}, (∀ s ∈ l, ∀ e ∈ s.e, exErr e = 0 → exErr (f e) = 0) → stsErr l = 0 → stsErr (l.map (mapS f)) = 0
  | [], _, _ => rfl
  | s :: l, hf, h => by
    simp only [stsErr] at h
    split at h
    · rename_i h0
      simp only [List.map_cons, stsErr]
      rw [if_pos (stErr_map (hf s (List.mem_cons_self ..)) h0)]
      exact stsErr_map (fun x hx => hf x (List.mem_cons_of_mem _ hx)) h
    · exact absurd h ‹_›
theorem blsErr_map : ∀ {l : List Bl}, (∀ b ∈ l, ∀ s ∈ b.s, ∀ e ∈ s.e, exErr e = 0 → exErr (f e) = 0) → blsErr l = 0 → blsErr (l.map (mapB f)) = 0
  | [], _, _ => rfl
  | b :: l, hf, h => by
    simp only [blsErr] at h
    split at h
    · rename_i h0
      simp only [List.map_cons, blsErr]
      rw [show (mapB f b).s = b.s.map (mapS f) from rfl, if_pos (stsErr_map (hf b (List.mem_cons_self ..)) h0)]
      exact blsErr_map (fun x hx => hf x (List.mem_cons_of_mem _ hx)) h
    · exact absurd h ‹_›
theorem stN_map : ∀ l : List Bl, stN (l.map (mapB f)) = stN l
  | [] => rfl
  | b :: l => by simp only [List.map_cons, stN, stN_map l]; simp [mapB]
theorem closed_map (n : Nat) (b : Bl) : closedB n (mapB f b) = closedB n b := by
  have ht : ∀ s : St, termB (mapS f s) = termB s := fun s => rfl
  unfold closedB
  simp only [mapB, List.getLast?_map]
  cases b.s.getLast? with
  | none => rfl
  | some s =>
    simp only [Option.map_some, List.length_map, ← List.map_take, List.any_map]
    rfl
theorem grErr_map {g : Gr} (hf : ∀ b ∈ g.b, ∀ s ∈ b.s, ∀ e ∈ s.e, exErr e = 0 → exErr (f e) = 0) (h : grErr g = 0) : grErr (mapG f g) = 0 := by
  unfold grErr at h ⊢
  have hl : (mapG f g).b.length = g.b.length := by simp [mapG]
  rw [hl, show (mapG f g).b = g.b.map (mapB f) from rfl, stN_map]
  split at h
  case isTrue => simp at h
  rename_i h1
  split at h
  case isTrue => simp at h
  rename_i h2
  rw [if_neg h1, if_neg, blsErr_map hf h]
  rw [List.all_map]
  simpa [Function.comp_def, closed_map] using h2
end
/-- All expressions of a graph without error are. -/
theorem gr_exErr {g : Gr} (h : grErr g = 0) : ∀ b ∈ g.b, ∀ s ∈ b.s, ∀ e ∈ s.e, exErr e = 0 := by
  unfold grErr at h
  split at h
  case isTrue => simp at h
  split at h
  case isTrue => simp at h
  intro b hb s hs e he
  have h1 := stsErr_mem (blsErr_mem h b hb) s hs
  unfold stErr at h1
  split at h1
  case isFalse => simp at h1
  split at h1
  case isFalse => exact absurd h1 ‹_›
  exact exsErr_mem ‹_› e he
theorem exErr_check {e : Ex} : exErr e = 0 ↔ checkB e = true := by
  unfold exErr checkB
  cases shalB 64 e <;> cases formB e <;> simp
/-- A sum over a list. -/
def sumN {α : Type} (f : α → Nat) : List α → Nat
  | [] => 0
  | a :: l => f a + sumN f l
theorem sumN_app {α : Type} (f : α → Nat) : ∀ l m : List α, sumN f (l ++ m) = sumN f l + sumN f m
  | [], m => by simp [sumN]
  | a :: l, m => by simp only [List.cons_append, sumN, sumN_app f l m]; omega
theorem sumN_take {α : Type} {f : α → Nat} {l : List α} {i : Nat} {x : α} (h : l[i]? = some x) : sumN f (l.take (i + 1)) = sumN f (l.take i) + f x := by
  rw [List.take_add_one, h, sumN_app]
  simp [sumN]
theorem sumN_take_le {α : Type} (f : α → Nat) (l : List α) (i : Nat) : sumN f (l.take i) ≤ sumN f l := by
  have := sumN_app f (l.take i) (l.drop i)
  rw [List.take_append_drop] at this
  omega
theorem sumN_le {α : Type} {f : α → Nat} {c : Nat} : ∀ {l : List α}, (∀ x ∈ l, f x ≤ c) → sumN f l ≤ l.length * c
  | [], _ => by simp [sumN]
  | a :: l, h => by
    have h1 := sumN_le (l := l) fun x hx => h x (List.mem_cons_of_mem _ hx)
    have h2 := h a (List.mem_cons_self ..)
    simp only [sumN, List.length_cons, Nat.add_mul]
    omega
theorem sumN_zero {α : Type} {f : α → Nat} {l : List α} (h : ∀ x ∈ l, f x = 0) : sumN f l = 0 := by
  have := sumN_le (f := f) (c := 0) (l := l) fun x hx => by rw [h x hx]; exact Nat.le_refl _
  omega
theorem sumN_map {α β : Type} (f : β → Nat) (g : α → β) : ∀ l : List α, sumN f (l.map g) = sumN (fun x => f (g x)) l
  | [] => rfl
  | a :: l => by simp only [List.map_cons, sumN, sumN_map f g l]
/-- How many of some expressions change. -/
def cnt1 (e : Ex) : Nat := if (exprS e).2 = true then 1 else 0
abbrev cntE (l : List Ex) : Nat := sumN cnt1 l
abbrev cntS (l : List St) : Nat := sumN (fun s => cntE s.e) l
abbrev cntB (l : List Bl) : Nat := sumN (fun b => cntS b.s) l
abbrev rwG (g : Gr) : Gr := mapG (fun e => (exprS e).1) g
theorem exprS_again {e : Ex} (hc : checkB e = true) : exprS (exprS e).1 = ((exprS e).1, false) := by
  obtain ⟨h1, h2⟩ := exprS_ok hc
  have h3 := exprS_check hc
  rw [(exprS_ok h3).1, h1]
  rw [h1] at h3
  exact h2.nm.rw _
theorem rwG_ok {g : Gr} (h : grErr g = 0) : grErr (rwG g) = 0 :=
  grErr_map (fun b hb s hs e he hx => exErr_check.2 (exprS_check (exErr_check.1 hx))) h
theorem rwG_cnt {g : Gr} (h : grErr g = 0) : cntB (rwG g).b = 0 := by
  have hall := gr_exErr h
  refine sumN_zero fun b' hb' => sumN_zero fun s' hs' => sumN_zero fun e' he' => ?_
  obtain ⟨b, hb, rfl⟩ := List.mem_map.1 hb'
  obtain ⟨s, hs, rfl⟩ := List.mem_map.1 hs'
  obtain ⟨e, he, rfl⟩ := List.mem_map.1 he'
  unfold cnt1
  rw [exprS_again (exErr_check.1 (hall b hb s hs e he))]
  simp
end Go.Proofs.YtlfkighdmheniaaGreatDoor

/- Contract: idiom.Graph. -/
namespace Go.Proofs.YtlfkighdmheniaaGreatDoor
open Go.RowKit
/-- A cell is read as the datum that it is, blocks Bs being written no more. -/
theorem sub_rei {n : Nat} {e : AEnv} {A : AHeap} {b i o : Nat} {k : Blk} {x : List AV} {c c' : AV} (Bs : List Nat) (hb : (frz Bs A)[b]? = some k) (hx : k.els[i]? = some x) (ho : x[o]? = some c) (hr : reiV true (frz Bs A) 9 c = some c') :
    Sub n e A e ((frz Bs A).set b (setEls k (k.els.set i (x.set o c')))) := (Sub.frz Bs).trans (Sub.cell hb hx ho (VLe.rei hr))
/-- The box of the zero graph. -/
abbrev gZ : Blk := ⟨0, true, 25, 2, [[aI .u32 0, .d (.v (.slice none 0 0))]]⟩
/-- A statement's cells, its expressions read so. -/
abbrev stC (s : St) (E : AV) : List AV := [aI .i64 s.op, aI .i64 s.va, aI .i64 s.wd, aI .i64 s.nx, aI .i64 s.el, aI .u32 s.tg, E, .d (.sl 1 (i64s s.cs))]
/-- A statement whose expressions are laid: they are written no more. -/
theorem sub_st1 (e : AEnv) (B0 B1 B2 B3 B4 B6 : Blk) (k u : Nat) (s : St) (M : List Ex) (L : List St) (hL : k < L.length) :
    Sub 0 e [B0, B1, B2, B3, B4, ⟨1, true, 39, 8, (dEls (sts L)).set k (stC s (.own 7 u 0 M.length))⟩, B6, ⟨u, true, 42, 5, dEls (Ex.ds M)⟩] e
      [B0, B1, B2, B3, B4, ⟨1, true, 39, 8, (dEls (sts L)).set k (stC s (.d (.sl 5 (Ex.ds M))))⟩, B6, ⟨u, false, 42, 5, dEls (Ex.ds M)⟩] := by
  have h := sub_rei (n := 0) (e := e) (A := [B0, B1, B2, B3, B4, ⟨1, true, 39, 8, (dEls (sts L)).set k (stC s (.own 7 u 0 M.length))⟩, B6, ⟨u, true, 42, 5, dEls (Ex.ds M)⟩]) [7] (b := 5) (i := k) (o := 6)
    (k := ⟨1, true, 39, 8, (dEls (sts L)).set k (stC s (.own 7 u 0 M.length))⟩) (x := stC s (.own 7 u 0 M.length)) (c := .own 7 u 0 M.length) (c' := .d (.sl 5 (Ex.ds M))) (by simp [frz]) (by simp [hL]) rfl (by simp [frz])
  simpa [frz, setEls, hL] using h
theorem five_one : ∀ (i : Nat) (h : i < 5), ([.int .i64 0, .int .u32 0, .int .i64 0, .int .i64 0, .slice none 0 0] : List Value)[i].oneCell' = true
  | 0, _ | 1, _ | 2, _ | 3, _ | 4, _ => rfl
  | _ + 5, h => by omega
theorem exprs_two {s : St} (h : stErr s = 0) : s.e.length ≤ 2 := by
  unfold stErr at h
  split at h
  · rename_i h1
    unfold exprsN at h1
    split at h1 <;> (try split at h1) <;> (try split at h1) <;> omega
  · omega
theorem rw_cnt_le {g : Gr} (hg : GrFit g) : cntB g.b ≤ 1000000000000000000 := by
  have hE : ∀ l : List Ex, cntE l ≤ l.length * 1 := fun l => sumN_le fun e _ => by unfold cnt1; split <;> omega
  have hS : ∀ b ∈ g.b, cntS b.s ≤ b.s.length * 1000000 := fun b hb => sumN_le fun s hs => by
    have h1 := hE s.e
    have h2 := ((hg.2 b hb).2 s hs).1
    omega
  have hB : cntB g.b ≤ g.b.length * 1000000000000 := sumN_le fun b hb => by
    have h1 := hS b hb
    have h2 := (hg.2 b hb).1
    omega
  have h3 := hg.1
  omega
/-- A block that has been appended: its statements are written no more. -/
theorem sub_blk (e : AEnv) (B0 B1 B2 B4 B6 : Blk) (i v : Nat) (ad : Int) (M : List St) (X : List (List D)) (hX : X.length = i) :
    Sub 0 e [B0, B1, B2, ⟨v, true, 35, 2, dEls X ++ [[aI .u32 ad, .own 5 1 0 M.length]]⟩, B4, ⟨1, true, 39, 8, dEls (sts M)⟩, B6] e
      [B0, B1, B2, ⟨v, true, 35, 2, dEls X ++ [[aI .u32 ad, .d (.sl 8 (sts M))]]⟩, B4, ⟨1, false, 39, 8, dEls (sts M)⟩, B6] := by
  have h := sub_rei (n := 0) (e := e) (A := [B0, B1, B2, ⟨v, true, 35, 2, dEls X ++ [[aI .u32 ad, .own 5 1 0 M.length]]⟩, B4, ⟨1, true, 39, 8, dEls (sts M)⟩, B6]) [5] (b := 3) (i := i) (o := 1)
    (k := ⟨v, true, 35, 2, dEls X ++ [[aI .u32 ad, .own 5 1 0 M.length]]⟩) (x := [aI .u32 ad, .own 5 1 0 M.length]) (c := .own 5 1 0 M.length) (c' := .d (.sl 8 (sts M))) (by simp [frz]) (by simp [hX]) rfl (by simp [frz])
  simpa [frz, setEls, hX] using h
theorem i28graph_af (g : Gr) (hg : GrFit g) (hn : ∀ b ∈ g.b, ∀ s ∈ b.s, ∀ e ∈ s.e, e.nodes ≤ 1000000) : AF Tryz.prog 6 [grV g] (if grErr g = 0 then .tup [grV (rwG g), aI .i64 (cntB g.b), aI .i64 0] else .tup [grV ⟨0, []⟩, aI .i64 0, aI .i64 (grErr g)]) := by
  have hl : g.b.length ≤ maxLen := by have := hg.1; unfold maxLen; omega
  refine af_of Tryz.func6 rfl (by kernel_rfl) (by simp [Tryz.ntmps6]) fun _ => ?_; simp [Tryz.f6, Ex.d_eq]
  refine aCall_of (ilcheckg_af g hg) (by simp) (by simp [Ex.d_eq]) ?_; simp [Ex.d_eq]
  by_cases h0 : grErr g = 0
  case neg => simp [h0]
  simp [h0]
  refine aLoop_st (fun i : Nat => [(1, .ptr 0 0 0 0), (2, .ptr 1 0 0 0), (6, .ptr 2 0 0 0), (7, aI .i64 (cntB (g.b.take i))), (26, .d (.sl 2 (bls' g.b))), (27, aI .i64 g.b.length), (28, aI .i64 i)])
    (fun i => [gB g, gZ, ⟨0, true, 25, 2, [[aI .u32 g.ad, .own 3 i 0 i]]⟩, ⟨i, true, 35, 2, dEls (bls' ((g.b.take i).map (mapB fun e => (exprS e).1)))⟩])
    (fun i => i ≤ g.b.length) (fun i => g.b.length - i) 0 ((Sub.ghost 0 35 2).trans (Sub.cell (b := 2) (i := 0) (o := 1) (c := .d (.v (.slice none 0 0))) (c' := .own 3 0 0 0) (by simp; rfl) rfl rfl (VLe.nil_own (k := ⟨0, true, 35, 2, []⟩) (by simp) rfl))) 4 (by omega) (by simp [setEls]) (by simp [sumN]) (by omega) ?_
  rintro i hi K hK
  rcases Nat.lt_or_ge i g.b.length with hlt | hge
  case inr =>
    obtain rfl : i = g.b.length := by omega
    rw [List.take_length]
    simp
    exact ⟨rfl, by rw [List.take_of_length_le (by simp)]; exact NLeS.refl _⟩
  obtain ⟨b, hb⟩ : ∃ b, g.b[i]? = some b := ⟨_, List.getElem?_eq_getElem hlt⟩
  have hb2 := (List.getElem?_eq_some_iff.1 hb).2
  obtain ⟨f1, f2⟩ := hg.2 b (List.mem_of_getElem? hb)
  have hbl : b.s.length ≤ maxLen := by unfold maxLen; omega
  simp [hlt, hb, hb2, Bl.d_eq]
  refine aCall_ofc (clone_st_ac _ (sts b.s) (by simp; omega)) (by simp) ?_
  rintro _ _ ⟨rfl, rfl⟩
  simp
  have hT : cntB g.b ≤ 1000000000000000000 := rw_cnt_le hg
  have hT1 : cntB (g.b.take (i + 1)) = cntB (g.b.take i) + cntS b.s := sumN_take hb
  have hT2 : cntB (g.b.take (i + 1)) ≤ cntB g.b := sumN_take_le _ _ _
  refine aLoop_st (fun k : Nat => [(1, .ptr 0 0 0 0), (2, .ptr 1 0 0 0), (6, .ptr 2 0 0 0), (7, aI .i64 (cntB (g.b.take i) + cntS (b.s.take k) : Nat)), (26, .d (.sl 2 (bls' g.b))), (27, aI .i64 g.b.length), (28, aI .i64 i), (9, .ptr 4 0 0 0), (37, .own 5 1 0 b.s.length), (38, aI .i64 b.s.length), (39, aI .i64 k)])
    (fun k => [gB g, gZ, ⟨0, true, 25, 2, [[aI .u32 g.ad, .own 3 i 0 i]]⟩, ⟨i, true, 35, 2, dEls (bls' ((g.b.take i).map (mapB fun e => (exprS e).1)))⟩, ⟨0, true, 35, 2, [[aI .u32 b.ad, .own 5 1 0 b.s.length]]⟩,
      ⟨1, true, 39, 8, dEls (sts ((b.s.take k).map (mapS fun e => (exprS e).1) ++ b.s.drop k))⟩])
    (fun k => k ≤ b.s.length) (fun k => b.s.length - k) 0 (Sub.refl _ _ _) 6 (by omega) (by simp) (by simp [sumN]) (by omega) ?_
  rintro k hk K2 hK2
  rcases Nat.lt_or_ge k b.s.length with hlt2 | hge2
  case inr =>
    obtain rfl : k = b.s.length := by omega
    rw [List.take_length, List.drop_length, List.append_nil]
    simp
    refine aRaw_app byt_23 ?_
    have hmin : min i g.b.length = i := by omega
    have hg1 := hg.1
    simp [hmin]
    refine ⟨by unfold maxLen; omega, by omega, ?_⟩
    simp [succ_wrap hlt hl]
    have hM := sub_blk (M := b.s.map (mapS fun e => (exprS e).1)) (X := bls' (List.take i (List.map (mapB fun e => (exprS e).1) g.b))) (i := i) (hX := by simp [hmin])
    rw [List.length_map] at hM
    refine hK (i + 1) (by omega) (by omega) (hM _ _ _ _ _ _ _ _) 4 (by omega) ?_ (by simp [hT1])
    simp
    rw [← List.map_take, ← List.map_take, List.take_add_one, hb]
    simp [mapB, Bl.d_eq]
  obtain ⟨s, hs⟩ : ∃ s, b.s[k]? = some s := ⟨_, List.getElem?_eq_getElem hlt2⟩
  have hs2 := (List.getElem?_eq_some_iff.1 hs).2
  obtain ⟨L, hL⟩ : ∃ L, (b.s.take k).map (mapS fun e => (exprS e).1) ++ b.s.drop k = L := ⟨_, rfl⟩
  have hLl : L.length = b.s.length := by rw [← hL]; simp; omega
  have hLk : L[k]? = some s := by
    rw [← hL, List.getElem?_append_right (by simp; omega)]
    simp [show min k b.s.length = k by omega, hs]
  have hLk2 := (List.getElem?_eq_some_iff.1 hLk).2
  have hltL : k < L.length := by omega
  rw [hL]
  simp [hlt2, hLk, hLk2, hltL, hLl, St.d_eq]
  have f3 := f2 s (List.mem_of_getElem? hs)
  refine adraw [] (by kernel_rfl) (by kernel_rfl) (by kernel_rfl) (by kernel_rfl) ?_; simp [Ex.d_eq]
  try simp [hltL, hLl, hlt2]
  refine adC_of (clone_in_af (i64s s.cs) (by simp; omega)) (by simp) trivial (by simp) (by simp [Ex.d_eq]) ?_; simp [Ex.d_eq]
  simp [hltL, hLl, hlt2, hLk, hLk2, St.d_eq]
  have hcE : cntE s.e ≤ s.e.length * 1 := sumN_le fun e _ => by unfold cnt1; split <;> omega
  have hS1 : cntS (b.s.take (k + 1)) = cntS (b.s.take k) + cntE s.e := sumN_take hs
  have hS2 : cntS (b.s.take (k + 1)) ≤ cntS b.s := sumN_take_le _ _ _
  have hel : s.e.length ≤ maxLen := by unfold maxLen; omega
  refine aLoop_st (fun q : Nat => [(1, .ptr 0 0 0 0), (2, .ptr 1 0 0 0), (6, .ptr 2 0 0 0), (7, aI .i64 (cntB (g.b.take i) + cntS (b.s.take k) + cntE (s.e.take q) : Nat)), (26, .d (.sl 2 (bls' g.b))), (27, aI .i64 g.b.length), (28, aI .i64 i), (9, .ptr 4 0 0 0), (37, .own 5 1 0 b.s.length), (38, aI .i64 b.s.length), (39, aI .i64 k),
      (10, aI .i64 k), (11, .ptr 6 0 0 0), (58, .d (.sl 5 (Ex.ds s.e))), (59, aI .i64 s.e.length), (60, aI .i64 q)])
    (fun q => [gB g, gZ, ⟨0, true, 25, 2, [[aI .u32 g.ad, .own 3 i 0 i]]⟩, ⟨i, true, 35, 2, dEls (bls' ((g.b.take i).map (mapB fun e => (exprS e).1)))⟩, ⟨0, true, 35, 2, [[aI .u32 b.ad, .own 5 1 0 b.s.length]]⟩,
      ⟨1, true, 39, 8, (dEls (sts L)).set k (stC s (.own 7 q 0 q))⟩, ⟨0, true, 39, 8, [stC s (.d (.sl 5 (Ex.ds s.e)))]⟩, ⟨q, true, 42, 5, dEls (Ex.ds ((s.e.take q).map fun e => (exprS e).1))⟩])
    (fun q => q ≤ s.e.length) (fun q => s.e.length - q) 0
    ((Sub.ghost 0 42 5).trans (Sub.cell (b := 5) (i := k) (o := 6) (c := .d (.v (.slice none 0 0))) (c' := .own 7 0 0 0) (by simp; rfl) (by simp [hLl, hlt2]; rfl) rfl (VLe.nil_own (k := ⟨0, true, 42, 5, []⟩) (by simp) rfl))) 8 (by omega) (by simp [setEls]) (by simp [sumN]) (by omega) ?_
  rintro q hq K3 hK3
  rcases Nat.lt_or_ge q s.e.length with hlt3 | hge3
  case inr =>
    obtain rfl : q = s.e.length := by omega
    rw [List.take_length]
    simp [succ_wrap hlt2 hbl]
    have hM := sub_st1 (M := s.e.map fun e => (exprS e).1) (L := L) (k := k) (s := s) (hL := by omega)
    rw [List.length_map] at hM
    refine hK2 (k + 1) (by omega) (by omega) (hM _ _ _ _ _ _ _ _) 6 (by omega) ?_ (by simp [hS1]; omega)
    have hL2 : (b.s.take (k + 1)).map (mapS fun e => (exprS e).1) ++ b.s.drop (k + 1) = L.set k (mapS (fun e => (exprS e).1) s) := by
      have h1 : b.s.drop k = s :: b.s.drop (k + 1) := by rw [List.drop_eq_getElem_cons hlt2, hs2]
      rw [← hL, h1, List.take_add_one, hs]
      simp [show min k b.s.length = k by omega]
    rw [hL2, show dEls (sts (L.set k (mapS (fun e => (exprS e).1) s))) = (dEls (sts L)).set k ((mapS (fun e => (exprS e).1) s).d.map AV.d) by simp [sts, dEls, List.map_set]]
    simp [mapS, St.d_eq]
  obtain ⟨x, hx⟩ : ∃ x, s.e[q]? = some x := ⟨_, List.getElem?_eq_getElem hlt3⟩
  have hx2 := (List.getElem?_eq_some_iff.1 hx).2
  simp [hlt3, hx, hx2, Ex.d_eq]
  have cx := expr_af x (hn b (List.mem_of_getElem? hb) s (List.mem_of_getElem? hs) x (List.mem_of_getElem? hx))
  obtain ⟨y, hy⟩ : ∃ y, (exprS x).1 = y := ⟨_, rfl⟩
  rw [hy] at cx
  have hE1 : cntE (s.e.take (q + 1)) = cntE (s.e.take q) + cnt1 x := sumN_take hx
  have hE2 : cntE (s.e.take (q + 1)) ≤ cntE s.e := sumN_take_le _ _ _
  have hmin : min q s.e.length = q := by omega
  obtain ⟨X, hX⟩ : ∃ X, X = Ex.ds ((s.e.take q).map fun e => (exprS e).1) := ⟨_, rfl⟩
  have hXl : X.length = q := by rw [hX]; simp [hmin]
  have hX1 : Ex.ds ((s.e.take (q + 1)).map fun e => (exprS e).1) = X ++ [y.d] := by
    rw [List.take_add_one, hx, hX]
    simp [Ex.ds_map, hy]
  have hX2 : Ex.ds (List.take q (List.map (fun e => (exprS e).1) s.e)) = X := by rw [hX, List.map_take]
  have hc1 : cnt1 x = if (exprS x).2 = true then 1 else 0 := rfl
  have hset : ∀ (a c : List AV), ((dEls (sts L)).set k a).set k c = (dEls (sts L)).set k c := fun a c => List.set_set ..
  have hq7 : (dEls X ++ [y.d.map AV.d]) = dEls (X ++ [y.d]) := by simp
  cases hch : (exprS x).2 <;> rw [hch] at cx hc1
  · refine aCall_of cx (by simp) (by simp [Ex.d_eq]) ?_; simp [Ex.d_eq]
    refine adraw_bool (by kernel_rfl) (by simp) (by simp) (by omega) fun d => ?_
    cases d
    · simp
      refine adraw3 11 2040 [] (by kernel_rfl) rfl byt_36 (by kernel_rfl) (by kernel_rfl) (by kernel_rfl) (by kernel_rfl) (by kernel_rfl) ?_
      simp [hLl, hlt2, Ex.d_eq, hltL]
      refine ⟨by simp [stabL_cons, stab1], ?_⟩
      simp [hLl, hlt2, Ex.d_eq, hltL, hmin, hXl]
      refine ⟨by unfold maxLen; omega, by omega, ?_⟩
      simp [succ_wrap hlt3 hel]
      refine hK3 (q + 1) (by omega) (by omega) (Sub.refl _ _ _) 8 (by omega) ?_ (by simp [hE1, hc1])
      rw [hX1]
      simp [hX2, Ex.d_eq]
    · simp
      refine adraw2 9 [] (by kernel_rfl) (by kernel_rfl) (by kernel_rfl) (by kernel_rfl) (by kernel_rfl) ?_
      simp [hLl, hlt2, Ex.d_eq, hltL, five_one]
      refine aRaw_app byt_36 ?_
      simp [hLl, hlt2, Ex.d_eq, hltL, hmin, hXl]
      refine ⟨by unfold maxLen; omega, by omega, ?_⟩
      have hq1 : (q : Int) < (q : Int) + 1 := by omega
      simp [hq1, hX2, hXl, succ_wrap hlt3 hel]
      refine hK3 (q + 1) (by omega) (by omega) (Sub.refl _ _ _) 8 (by omega) ?_ (by simp [hE1, hc1])
      rw [hX1]
      simp [hX2, hXl, Ex.d_eq]
  · refine aCall_of cx (by simp) (by simp [Ex.d_eq]) ?_; simp [Ex.d_eq]
    have hw := i64w (n := (cntB (g.b.take i) : Int) + cntS (b.s.take k) + cntE (s.e.take q) + 1) (by omega)
    simp [hw]
    refine adraw_bool (by kernel_rfl) (by simp) (by simp) (by omega) fun d => ?_
    cases d
    · simp
      refine adraw3 11 2040 [] (by kernel_rfl) rfl byt_36 (by kernel_rfl) (by kernel_rfl) (by kernel_rfl) (by kernel_rfl) (by kernel_rfl) ?_
      simp [hLl, hlt2, Ex.d_eq, hltL]
      refine ⟨by simp [stabL_cons, stab1], ?_⟩
      simp [hLl, hlt2, Ex.d_eq, hltL, hmin, hXl]
      refine ⟨by unfold maxLen; omega, by omega, ?_⟩
      simp [succ_wrap hlt3 hel]
      refine hK3 (q + 1) (by omega) (by omega) (Sub.refl _ _ _) 8 (by omega) ?_ (by simp [hE1, hc1]; omega)
      rw [hX1]
      simp [hX2, Ex.d_eq]
    · simp
      refine adraw2 9 [] (by kernel_rfl) (by kernel_rfl) (by kernel_rfl) (by kernel_rfl) (by kernel_rfl) ?_
      simp [hLl, hlt2, Ex.d_eq, hltL, five_one]
      refine aRaw_app byt_36 ?_
      simp [hLl, hlt2, Ex.d_eq, hltL, hmin, hXl]
      refine ⟨by unfold maxLen; omega, by omega, ?_⟩
      have hq1 : (q : Int) < (q : Int) + 1 := by omega
      simp [hq1, hX2, hXl, succ_wrap hlt3 hel]
      refine hK3 (q + 1) (by omega) (by omega) (Sub.refl _ _ _) 8 (by omega) ?_ (by simp [hE1, hc1]; omega)
      rw [hX1]
      simp [hX2, hXl, Ex.d_eq]
end Go.Proofs.YtlfkighdmheniaaGreatDoor

/- Contract: the reference's Graph (layer 28). -/
namespace Go.Proofs.YtlfkighdmheniaaGreatDoor
open Go.RowKit
/-- A block that has been appended: its statements are written no more. -/
theorem sub_blk2 (e : AEnv) (B0 B1 B2 B4 B6 : Blk) (i v u : Nat) (ad : Int) (M : List St) (X : List (List D)) (hX : X.length = i) :
    Sub 0 e [B0, B1, B2, ⟨v, true, 35, 2, dEls X ++ [[aI .u32 ad, .own 5 u 0 M.length]]⟩, B4, ⟨u, true, 39, 8, dEls (sts M)⟩, B6] e
      [B0, B1, B2, ⟨v, true, 35, 2, dEls X ++ [[aI .u32 ad, .d (.sl 8 (sts M))]]⟩, B4, ⟨u, false, 39, 8, dEls (sts M)⟩, B6] := by
  have h := sub_rei (n := 0) (e := e) (A := [B0, B1, B2, ⟨v, true, 35, 2, dEls X ++ [[aI .u32 ad, .own 5 u 0 M.length]]⟩, B4, ⟨u, true, 39, 8, dEls (sts M)⟩, B6]) [5] (b := 3) (i := i) (o := 1)
    (k := ⟨v, true, 35, 2, dEls X ++ [[aI .u32 ad, .own 5 u 0 M.length]]⟩) (x := [aI .u32 ad, .own 5 u 0 M.length]) (c := .own 5 u 0 M.length) (c' := .d (.sl 8 (sts M))) (by simp [frz]) (by simp [hX]) rfl (by simp [frz])
  simpa [frz, setEls, hX] using h
/-- A statement that has been appended: its expressions are written no more. -/
theorem sub_st (e : AEnv) (B0 B1 B2 B3 B4 B6 B8 : Blk) (k v u : Nat) (s : St) (M : List Ex) (X : List (List D)) (hX : X.length = k) :
    Sub 0 e [B0, B1, B2, B3, B4, ⟨v, true, 39, 8, dEls X ++ [stC s (.own 7 u 0 M.length)]⟩, B6, ⟨u, true, 42, 5, dEls (Ex.ds M)⟩, B8] e
      [B0, B1, B2, B3, B4, ⟨v, true, 39, 8, dEls X ++ [stC s (.d (.sl 5 (Ex.ds M)))]⟩, B6, ⟨u, false, 42, 5, dEls (Ex.ds M)⟩, B8] := by
  have h := sub_rei (n := 0) (e := e) (A := [B0, B1, B2, B3, B4, ⟨v, true, 39, 8, dEls X ++ [stC s (.own 7 u 0 M.length)]⟩, B6, ⟨u, true, 42, 5, dEls (Ex.ds M)⟩, B8]) [7] (b := 5) (i := k) (o := 6)
    (k := ⟨v, true, 39, 8, dEls X ++ [stC s (.own 7 u 0 M.length)]⟩) (x := stC s (.own 7 u 0 M.length)) (c := .own 7 u 0 M.length) (c' := .d (.sl 5 (Ex.ds M))) (by simp [frz]) (by simp [hX]) rfl (by simp [frz])
  simpa [frz, setEls, hX] using h
theorem q28graph_af (g : Gr) (hg : GrFit g) (hn : ∀ b ∈ g.b, ∀ s ∈ b.s, ∀ e ∈ s.e, e.nodes ≤ 1000000) : AF Tryz.prog 7 [grV g] (if grErr g = 0 then .tup [grV (rwG g), aI .i64 (cntB g.b), aI .i64 0] else .tup [grV ⟨0, []⟩, aI .i64 0, aI .i64 (grErr g)]) := by
  have hg1 := hg.1
  have hl : g.b.length ≤ maxLen := by unfold maxLen; omega
  refine af_of Tryz.func7 rfl (by kernel_rfl) (by simp [Tryz.ntmps7]) fun _ => ?_; simp [Tryz.f7, Ex.d_eq]
  refine aCall_of (r19checkg_af g hg) (by simp) (by simp [Ex.d_eq]) ?_; simp [Ex.d_eq]
  by_cases h0 : grErr g = 0
  case neg => simp [h0]
  simp [h0]
  refine aLoop_st (fun i : Nat => [(1, .ptr 0 0 0 0), (2, .ptr 1 0 0 0), (6, .ptr 2 0 0 0), (7, aI .i64 (cntB (g.b.take i))), (8, aI .i64 i)])
    (fun i => [gB g, gZ, ⟨0, true, 25, 2, [[aI .u32 g.ad, .own 3 i 0 i]]⟩, ⟨i, true, 35, 2, dEls (bls' ((g.b.take i).map (mapB fun e => (exprS e).1)))⟩])
    (fun i => i ≤ g.b.length) (fun i => g.b.length - i) 0 ((Sub.ghost 0 35 2).trans (Sub.cell (b := 2) (i := 0) (o := 1) (c := .d (.v (.slice none 0 0))) (c' := .own 3 0 0 0) (by simp; rfl) rfl rfl (VLe.nil_own (k := ⟨0, true, 35, 2, []⟩) (by simp) rfl))) 4 (by omega) (by simp [setEls]) (by simp [sumN]) (by omega) ?_
  rintro i hi K hK
  rcases Nat.lt_or_ge i g.b.length with hlt | hge
  case inr =>
    obtain rfl : i = g.b.length := by omega
    rw [List.take_length]
    simp
    exact ⟨rfl, by rw [List.take_of_length_le (by simp)]; exact NLeS.refl _⟩
  obtain ⟨b, hb⟩ : ∃ b, g.b[i]? = some b := ⟨_, List.getElem?_eq_getElem hlt⟩
  have hb2 := (List.getElem?_eq_some_iff.1 hb).2
  obtain ⟨f1, f2⟩ := hg.2 b (List.mem_of_getElem? hb)
  have hbl : b.s.length ≤ maxLen := by unfold maxLen; omega
  have hT : cntB g.b ≤ 1000000000000000000 := rw_cnt_le hg
  have hT1 : cntB (g.b.take (i + 1)) = cntB (g.b.take i) + cntS b.s := sumN_take hb
  have hT2 : cntB (g.b.take (i + 1)) ≤ cntB g.b := sumN_take_le _ _ _
  simp [hlt, hb, hb2, Bl.d_eq]
  refine aLoop_st (fun k : Nat => [(1, .ptr 0 0 0 0), (2, .ptr 1 0 0 0), (6, .ptr 2 0 0 0), (7, aI .i64 (cntB (g.b.take i) + cntS (b.s.take k) : Nat)), (8, aI .i64 i), (9, .ptr 4 0 0 0), (10, aI .i64 k)])
    (fun k => [gB g, gZ, ⟨0, true, 25, 2, [[aI .u32 g.ad, .own 3 i 0 i]]⟩, ⟨i, true, 35, 2, dEls (bls' ((g.b.take i).map (mapB fun e => (exprS e).1)))⟩, ⟨0, true, 35, 2, [[aI .u32 b.ad, .own 5 k 0 k]]⟩,
      ⟨k, true, 39, 8, dEls (sts ((b.s.take k).map (mapS fun e => (exprS e).1)))⟩])
    (fun k => k ≤ b.s.length) (fun k => b.s.length - k) 0 ((Sub.ghost 0 39 8).trans (Sub.cell (b := 4) (i := 0) (o := 1) (c := .d (.v (.slice none 0 0))) (c' := .own 5 0 0 0) (by simp; rfl) rfl rfl (VLe.nil_own (k := ⟨0, true, 39, 8, []⟩) (by simp) rfl))) 6 (by omega) (by simp [setEls]) (by simp [sumN]) (by omega) ?_
  rintro k hk K2 hK2
  rcases Nat.lt_or_ge k b.s.length with hlt2 | hge2
  case inr =>
    obtain rfl : k = b.s.length := by omega
    rw [List.take_length]
    have hmin : min i g.b.length = i := by omega
    simp [hlt, hb, hb2, Bl.d_eq]
    refine aRaw_app byt_23 ?_
    simp [hmin]
    refine ⟨by unfold maxLen; omega, by omega, ?_⟩
    simp [succ_wrap hlt hl]
    have hM := sub_blk2 (M := b.s.map (mapS fun e => (exprS e).1)) (X := bls' (List.take i (List.map (mapB fun e => (exprS e).1) g.b))) (i := i) (hX := by simp [hmin])
    rw [List.length_map] at hM
    refine hK (i + 1) (by omega) (by omega) (hM _ _ _ _ _ _ _ _ _) 4 (by omega) ?_ (by simp [hT1])
    simp
    rw [← List.map_take, ← List.map_take, List.take_add_one, hb]
    simp [mapB, Bl.d_eq]
  obtain ⟨s, hs⟩ : ∃ s, b.s[k]? = some s := ⟨_, List.getElem?_eq_getElem hlt2⟩
  have hs2 := (List.getElem?_eq_some_iff.1 hs).2
  have f3 := f2 s (List.mem_of_getElem? hs)
  have hel : s.e.length ≤ maxLen := by unfold maxLen; omega
  have hcE : cntE s.e ≤ s.e.length * 1 := sumN_le fun e _ => by unfold cnt1; split <;> omega
  have hS1 : cntS (b.s.take (k + 1)) = cntS (b.s.take k) + cntE s.e := sumN_take hs
  have hS2 : cntS (b.s.take (k + 1)) ≤ cntS b.s := sumN_take_le _ _ _
  simp [hlt, hb, hb2, Bl.d_eq, hlt2, hs, hs2, St.d_eq]
  refine aLoop_st (fun q : Nat => [(1, .ptr 0 0 0 0), (2, .ptr 1 0 0 0), (6, .ptr 2 0 0 0), (7, aI .i64 (cntB (g.b.take i) + cntS (b.s.take k) + cntE (s.e.take q) : Nat)), (8, aI .i64 i), (9, .ptr 4 0 0 0), (10, aI .i64 k), (11, .ptr 6 0 0 0), (12, .own 7 q 0 q), (13, aI .i64 q)])
    (fun q => [gB g, gZ, ⟨0, true, 25, 2, [[aI .u32 g.ad, .own 3 i 0 i]]⟩, ⟨i, true, 35, 2, dEls (bls' ((g.b.take i).map (mapB fun e => (exprS e).1)))⟩, ⟨0, true, 35, 2, [[aI .u32 b.ad, .own 5 k 0 k]]⟩,
      ⟨k, true, 39, 8, dEls (sts ((b.s.take k).map (mapS fun e => (exprS e).1)))⟩, ⟨0, true, 39, 8, [stC s (.d (.sl 5 (Ex.ds s.e)))]⟩, ⟨q, true, 42, 5, dEls (Ex.ds ((s.e.take q).map fun e => (exprS e).1))⟩])
    (fun q => q ≤ s.e.length) (fun q => s.e.length - q) 0
    ((Sub.ghost 0 42 5).trans (Sub.slot (s := 12) (c := .own 7 0 0 0) (by simp; exact VLe.nil_own (k := ⟨0, true, 42, 5, []⟩) (by simp) rfl))) 8 (by omega) (by simp) (by simp [sumN]) (by omega) ?_
  rintro q hq K3 hK3
  rcases Nat.lt_or_ge q s.e.length with hlt3 | hge3
  case inr =>
    obtain rfl : q = s.e.length := by omega
    rw [List.take_length]
    have hmin : min k b.s.length = k := by omega
    simp
    refine aRaw_app byt_33 ?_
    simp [hmin]
    refine ⟨by unfold maxLen; omega, by omega, ?_⟩
    simp [succ_wrap hlt2 hbl]
    have hM := sub_st (M := s.e.map fun e => (exprS e).1) (X := sts (List.take k (List.map (mapS fun e => (exprS e).1) b.s))) (k := k) (hX := by simp [hmin])
    rw [List.length_map] at hM
    refine hK2 (k + 1) (by omega) (by omega) (hM _ _ _ _ _ _ _ _ _ _ s) 6 (by omega) ?_ (by simp [hS1]; omega)
    simp
    rw [← List.map_take, ← List.map_take, List.take_add_one, hs]
    simp [mapS, St.d_eq]
  obtain ⟨x, hx⟩ : ∃ x, s.e[q]? = some x := ⟨_, List.getElem?_eq_getElem hlt3⟩
  have hx2 := (List.getElem?_eq_some_iff.1 hx).2
  simp [hlt3, hx, hx2, Ex.d_eq]
  have cx := rexpr_af x (hn b (List.mem_of_getElem? hb) s (List.mem_of_getElem? hs) x (List.mem_of_getElem? hx))
  obtain ⟨y, hy⟩ : ∃ y, (exprS x).1 = y := ⟨_, rfl⟩
  rw [hy] at cx
  have hE1 : cntE (s.e.take (q + 1)) = cntE (s.e.take q) + cnt1 x := sumN_take hx
  have hE2 : cntE (s.e.take (q + 1)) ≤ cntE s.e := sumN_take_le _ _ _
  have hmin : min q s.e.length = q := by omega
  have hX1 : Ex.ds ((s.e.take (q + 1)).map fun e => (exprS e).1) = Ex.ds (List.take q (List.map (fun e => (exprS e).1) s.e)) ++ [y.d] := by
    rw [List.take_add_one, hx]
    simp [Ex.ds_map, hy]
  have hc1 : cnt1 x = if (exprS x).2 = true then 1 else 0 := rfl
  cases hch : (exprS x).2 <;> rw [hch] at cx hc1
  · refine aCall_of cx (by simp) (by simp [Ex.d_eq]) ?_; simp [Ex.d_eq]
    refine aRaw_app byt_36 ?_
    simp [hmin]
    refine ⟨by unfold maxLen; omega, by omega, ?_⟩
    simp [succ_wrap hlt3 hel]
    refine hK3 (q + 1) (by omega) (by omega) (Sub.refl _ _ _) 8 (by omega) ?_ ?_
    · rw [hX1]; simp [Ex.d_eq]
    · rw [hE1, hc1]; simp
  · refine aCall_of cx (by simp) (by simp [Ex.d_eq]) ?_; simp [Ex.d_eq]
    refine aRaw_app byt_36 ?_
    simp [hmin]
    refine ⟨by unfold maxLen; omega, by omega, ?_⟩
    simp [succ_wrap hlt3 hel, i64w (n := (cntB (g.b.take i) : Int) + cntS (b.s.take k) + cntE (s.e.take q) + 1) (by omega)]
    refine hK3 (q + 1) (by omega) (by omega) (Sub.refl _ _ _) 8 (by omega) ?_ ?_
    · rw [hX1]; simp [Ex.d_eq]
    · rw [hE1, hc1]; simp; omega
end Go.Proofs.YtlfkighdmheniaaGreatDoor

/- Contract: the law IdiomGraph answers true. -/
namespace Go.Proofs.YtlfkighdmheniaaGreatDoor
open Go.RowKit
theorem rwG_fit {g : Gr} (h : GrFit g) : GrFit (rwG g) := by
  refine ⟨by simpa [mapG] using h.1, fun b' hb' => ?_⟩
  obtain ⟨b, hb, rfl⟩ := List.mem_map.1 hb'
  refine ⟨by simpa [mapB] using (h.2 b hb).1, fun s' hs' => ?_⟩
  obtain ⟨s, hs, rfl⟩ := List.mem_map.1 hs'
  exact ⟨by simpa [mapS] using ((h.2 b hb).2 s hs).1, ((h.2 b hb).2 s hs).2⟩
theorem graph28_af (g : Gr) : AF Tryz.prog 3 [grV g] (aB true) := by
  have cs := smallg_af g 12 (by omega) (by omega)
  refine af_of Tryz.func3 rfl (by kernel_rfl) (by simp [Tryz.ntmps3]) fun _ => ?_; simp [Tryz.f3, Ex.d_eq]
  cases hsm : smallG g 12 <;> rw [hsm] at cs
  · refine aCall_of cs (by simp) (by simp [Ex.d_eq]) ?_; simp [Ex.d_eq]
    refine aCall_of ex28_af (by simp) (by simp [Ex.d_eq]) ?_; simp [Ex.d_eq]
  refine aCall_of cs (by simp) (by simp [Ex.d_eq]) ?_; simp [Ex.d_eq]
  obtain ⟨hfit, _, hall⟩ := smallG_fit hsm
  have hn : ∀ b ∈ g.b, ∀ s ∈ b.s, ∀ e ∈ s.e, e.nodes ≤ 20000 := fun b hb s hs e he => by
    have h1 := ((hall b hb).2 s hs).2.2.1
    have h2 := Ex.nodess_mem he
    omega
  have c1 := i28graph_af g hfit fun b hb s hs e he => by have := hn b hb s hs e he; omega
  have c2 := q28graph_af g hfit fun b hb s hs e he => by have := hn b hb s hs e he; omega
  by_cases h0 : grErr g = 0
  · rw [if_pos h0] at c1 c2
    have cg := r19sameg_af (rwG g) (rwG g) (rwG_fit hfit)
    rw [sameG_iff.2 rfl] at cg
    have c3 := i28graph_af (rwG g) (rwG_fit hfit) fun b' hb' s' hs' e' he' => by
      obtain ⟨b, hb, rfl⟩ := List.mem_map.1 hb'
      obtain ⟨s, hs, rfl⟩ := List.mem_map.1 hs'
      obtain ⟨e, he, rfl⟩ := List.mem_map.1 he'
      have hc := exErr_check.1 (gr_exErr h0 b hb s hs e he)
      obtain ⟨q1, q2⟩ := exprS_ok hc
      have := q2.nodes
      have := hn b hb s hs e he
      rw [q1]
      omega
    rw [if_pos (rwG_ok h0), rwG_cnt h0] at c3
    generalize rwG g = x at *
    generalize rwG x = y at *
    refine aCall_of c1 (by simp) (by simp [Ex.d_eq]) ?_; simp [Ex.d_eq]
    refine aCall_of c2 (by simp) (by simp [Ex.d_eq]) ?_; simp [Ex.d_eq]
    refine aCall_of cg (by simp) (by simp [Ex.d_eq]) ?_; simp [Ex.d_eq]
    refine aCall_of c3 (by simp) (by simp [Ex.d_eq]) ?_; simp [Ex.d_eq]
    refine aCall_of ex28_af (by simp) (by simp [Ex.d_eq]) ?_; simp [Ex.d_eq]
  · rw [if_neg h0] at c1 c2
    have cg := r19sameg_af ⟨0, []⟩ ⟨0, []⟩ ⟨by simp, by simp⟩
    rw [sameG_iff.2 rfl] at cg
    simp at c1 c2 cg
    refine aCall_of c1 (by simp) (by simp [Ex.d_eq]) ?_; simp [Ex.d_eq]
    refine aCall_of c2 (by simp) (by simp [Ex.d_eq]) ?_; simp [Ex.d_eq]
    refine aCall_of cg (by simp) (by simp [Ex.d_eq]) ?_; simp [Ex.d_eq]
    simp [h0]
    refine aCall_of ex28_af (by simp) (by simp [Ex.d_eq]) ?_; simp [Ex.d_eq]
end Go.Proofs.YtlfkighdmheniaaGreatDoor

/- A graph as an argument of a law. -/
namespace Go.Proofs.YtlfkighdmheniaaGreatDoor
open Go.RowKit Go.ChangeShapes Go.WideShapes
set_option maxRecDepth 100000
/-- The types that a graph is made of. -/
def grTypes : List TypeId := [25, 23, 35, 33, 39, 37] ++ exTypes
theorem map_of_has {P : Program} {k : Nat} {T : TypeId} {α : Type} {f : α → List D} (h : ∀ x, Has P k T x → ∃ a, x = f a) : ∀ xs : List (List D), (∀ x ∈ xs, Has P k T x) → ∃ l : List α, xs = l.map f
  | [], _ => ⟨[], rfl⟩
  | x :: xs, hx => by
    obtain ⟨l, rfl⟩ := map_of_has h xs fun y hy => hx y (List.mem_cons_of_mem _ hy)
    obtain ⟨a, rfl⟩ := h x (hx x List.mem_cons_self)
    exact ⟨a :: l, rfl⟩
theorem int_of_has (k : Nat) (ds : List D) (h : Has Tryz.prog k 3 ds) : ∃ n : Int, ds = [.v (.int .i64 n)] := by
  cases k with
  | zero => simp [Has] at h
  | succ k =>
    simp only [Has, Tryz.underlying3] at h
    obtain ⟨n, rfl, _⟩ := h
    exact ⟨n, rfl⟩
theorem u32_of_has (k : Nat) (ds : List D) (h : Has Tryz.prog k 22 ds) : ∃ n : Int, ds = [.v (.int .u32 n)] := by
  cases k with
  | zero => simp [Has] at h
  | succ k =>
    simp only [Has, Tryz.underlying22] at h
    obtain ⟨n, rfl, _⟩ := h
    exact ⟨n, rfl⟩
theorem ints_of_has (k : Nat) (ds : List D) (h : Has Tryz.prog k 37 ds) : ∃ l : List Int, ds = [.sl 1 (i64s l)] := by
  cases k with
  | zero => simp [Has] at h
  | succ k =>
    simp only [Has, Tryz.underlying37] at h
    obtain ⟨xs, rfl, _, hx⟩ := h
    obtain ⟨l, rfl⟩ := map_of_has (int_of_has k) xs hx
    have hc : Tryz.prog.cellsOf 3 = 1 := by kernel_rfl
    exact ⟨l, by rw [hc]; rfl⟩
theorem exs_of_has (k : Nat) (ds : List D) (h : Has Tryz.prog k 36 ds) : ∃ l : List Ex, ds = [.sl 5 (Ex.ds l)] := by
  cases k with
  | zero => simp [Has] at h
  | succ k =>
    simp only [Has, Tryz.underlying36] at h
    obtain ⟨xs, rfl, _, hx⟩ := h
    have hc : Tryz.prog.cellsOf 42 = 5 := by kernel_rfl
    have : ∀ xs : List (List D), (∀ x ∈ xs, Has Tryz.prog k 42 x) → ∃ l : List Ex, xs = Ex.ds l := by
      intro xs
      induction xs with
      | nil => exact fun _ => ⟨[], rfl⟩
      | cons x xs ih =>
        intro hx
        obtain ⟨l, rfl⟩ := ih fun y hy => hx y (List.mem_cons_of_mem _ hy)
        obtain ⟨e, rfl, _⟩ := ex_of_has Tryz.underlying42 Tryz.underlying3 Tryz.underlying22 Tryz.underlying3 Tryz.underlying3 Tryz.underlying36 hc k x (hx x List.mem_cons_self)
        exact ⟨e :: l, rfl⟩
    obtain ⟨l, rfl⟩ := this xs hx
    exact ⟨l, by rw [hc]⟩
theorem st_of_has (k : Nat) (ds : List D) (h : Has Tryz.prog k 39 ds) : ∃ s : St, ds = s.d := by
  cases k with
  | zero => simp [Has] at h
  | succ k =>
    simp only [Has, Tryz.underlying39] at h
    obtain ⟨dss, rfl, hl, hf⟩ := h
    match dss, hl with
    | [a0, a1, a2, a3, a4, a5, a6, a7], _ =>
      obtain ⟨n0, rfl⟩ := int_of_has k a0 (hf 0 _ a0 rfl rfl)
      obtain ⟨n1, rfl⟩ := int_of_has k a1 (hf 1 _ a1 rfl rfl)
      obtain ⟨n2, rfl⟩ := int_of_has k a2 (hf 2 _ a2 rfl rfl)
      obtain ⟨n3, rfl⟩ := int_of_has k a3 (hf 3 _ a3 rfl rfl)
      obtain ⟨n4, rfl⟩ := int_of_has k a4 (hf 4 _ a4 rfl rfl)
      obtain ⟨n5, rfl⟩ := u32_of_has k a5 (hf 5 _ a5 rfl rfl)
      obtain ⟨l, rfl⟩ := exs_of_has k a6 (hf 6 _ a6 rfl rfl)
      obtain ⟨c, rfl⟩ := ints_of_has k a7 (hf 7 _ a7 rfl rfl)
      exact ⟨⟨n0, n1, n2, n3, n4, n5, l, c⟩, rfl⟩
theorem sts_of_has (k : Nat) (ds : List D) (h : Has Tryz.prog k 33 ds) : ∃ l : List St, ds = [.sl 8 (sts l)] := by
  cases k with
  | zero => simp [Has] at h
  | succ k =>
    simp only [Has, Tryz.underlying33] at h
    obtain ⟨xs, rfl, _, hx⟩ := h
    obtain ⟨l, rfl⟩ := map_of_has (st_of_has k) xs hx
    have hc : Tryz.prog.cellsOf 39 = 8 := by kernel_rfl
    exact ⟨l, by rw [hc]; rfl⟩
theorem bl_of_has (k : Nat) (ds : List D) (h : Has Tryz.prog k 35 ds) : ∃ b : Bl, ds = b.d := by
  cases k with
  | zero => simp [Has] at h
  | succ k =>
    simp only [Has, Tryz.underlying35] at h
    obtain ⟨dss, rfl, hl, hf⟩ := h
    match dss, hl with
    | [a0, a1], _ =>
      obtain ⟨n0, rfl⟩ := u32_of_has k a0 (hf 0 _ a0 rfl rfl)
      obtain ⟨l, rfl⟩ := sts_of_has k a1 (hf 1 _ a1 rfl rfl)
      exact ⟨⟨n0, l⟩, rfl⟩
theorem bls_of_has (k : Nat) (ds : List D) (h : Has Tryz.prog k 23 ds) : ∃ l : List Bl, ds = [.sl 2 (bls' l)] := by
  cases k with
  | zero => simp [Has] at h
  | succ k =>
    simp only [Has, Tryz.underlying23] at h
    obtain ⟨xs, rfl, _, hx⟩ := h
    obtain ⟨l, rfl⟩ := map_of_has (bl_of_has k) xs hx
    have hc : Tryz.prog.cellsOf 35 = 2 := by kernel_rfl
    exact ⟨l, by rw [hc]; rfl⟩
theorem gr_of_has (k : Nat) (ds : List D) (h : Has Tryz.prog k 25 ds) : ∃ g : Gr, ds = [.v (.int .u32 g.ad), .sl 2 (bls' g.b)] := by
  cases k with
  | zero => simp [Has] at h
  | succ k =>
    simp only [Has, Tryz.underlying25] at h
    obtain ⟨dss, rfl, hl, hf⟩ := h
    match dss, hl with
    | [a0, a1], _ =>
      obtain ⟨n0, rfl⟩ := u32_of_has k a0 (hf 0 _ a0 rfl rfl)
      obtain ⟨l, rfl⟩ := bls_of_has k a1 (hf 1 _ a1 rfl rfl)
      exact ⟨⟨n0, l⟩, rfl⟩
def grLit (H : Type) : DataW H := .agg [.lit (.int .u32 0), .nil]
theorem arg_gr {Hh : Type} {enc : TypeId × Value → Hh} {w : World} {base : Nat} {spare : Nat → Bool} {held : Bool} {r : Reach} {b0 : Nat} {v : Value} {d : DataW Hh} {ps : List MemPlace}
    (hval : Value.okWide Tryz.prog w r b0 25 v) (hd : DataW.Trod enc Tryz.prog w base spare held 25 v d ps) :
    ∃ g : Gr, Shp (fun _ => none) [] (grV g) v ∧ Mem (fun _ => False) w (grV g) v := by
  obtain ⟨fuel, ds, h1, _, h3, h4⟩ := arg_struct (S := grTypes) (by kernel_rfl) (by kernel_rfl) (by simp [grTypes]) Tryz.underlying25 hval hd
  obtain ⟨g, rfl⟩ := gr_of_has fuel ds h1
  exact ⟨g, by simpa using h3, by simpa using h4⟩
end Go.Proofs.YtlfkighdmheniaaGreatDoor
