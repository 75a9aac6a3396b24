/- Texts that the claim leans on, laid one behind the other: Oh, Oi, Oj, Ok, Ol, Om, On. -/
import Derived.Test.YtlidimmfpfockaaGreatDoorZO
import Derived.Test.YtlidimmfpfockaaGreatDoorZG
import Derived.Test.YtlidimmfpfockaaGreatDoorZM
import Derived.Test.YtlidimmfpfockaaGreatDoorAw
import Derived.Test.YtlidimmfpfockaaGreatDoorZP
import Derived.Test.YtlidimmfpfockaaGreatDoorAu
set_option linter.unusedSimpArgs false
set_option linter.unusedVariables false
set_option linter.unnecessarySimpa false
/- The rewriting of blocks by flagfuse keeps expressions well-formed; a graph's error after it; the flags that occur. No program in sight. -/
namespace Go.Proofs.YtlidimmfpfockaaGreatDoor
open Go.RowKit
theorem cond_form {cc : Int} {a b : Ex} (ha : formB a = true) (hb : formB b = true) : formB (condE cc a b) = true := by
  have t : ∀ {op : Int} {x y : Ex}, 3 ≤ op → op ≤ 15 → formB x = true → formB y = true → formB (eTwo op x y) = true := fun h1 h2 hx hy => form_eTwo h1 h2 hx hy
  have n : ∀ {x : Ex}, formB x = true → formB (eNot x) = true := fun hx => form_eOne (.inl rfl) hx
  have hm : formB (eMinus a b) = true := t (by omega) (by omega) (t (by omega) (by omega) ha hb) (form_eCon 0)
  have ho : formB (eOver a b) = true := t (by omega) (by omega) (t (by omega) (by omega) ha hb) hm
  have ite : ∀ {c : Prop} [Decidable c] {x y : Ex}, formB x = true → formB y = true → formB (if c then x else y) = true := by
    intro c _ x y hx hy
    split <;> assumption
  unfold condE
  repeat' refine ite ?_ ?_
  all_goals first
    | exact form_eCon _
    | exact t (by omega) (by omega) ha hb
    | exact t (by omega) (by omega) hb ha
    | exact n (t (by omega) (by omega) ha hb)
    | exact n (t (by omega) (by omega) hb ha)
    | exact hm
    | exact n hm
    | exact ho
    | exact n ho
theorem fuse_form {a b : Ex} (ha : formB a = true) (hb : formB b = true) : ∀ (e : Ex), formB e = true → formB (fuseS a b e) = true := by
  intro x
  induction x using Ex.ind with
  | h x ih =>
    intro hf
    rw [fuseS_eq]
    split
    · exact cond_form ha hb
    · exact form_map hf fun y hy => ih y hy ((form_all hf).2 y hy)
theorem match_form {s : St} {l : List St} {p : Ex × Ex} (h : matchS (s :: l) = some p) (hs : ∀ e ∈ s.e, formB e = true) : formB p.1 = true ∧ formB p.2 = true := by
  unfold matchS at h
  split at h
  case isFalse => cases h
  rename_i hc
  have hp := Option.some.inj h
  subst hp
  clear h
  unfold cmpR at hc ⊢
  split at hc
  case h_2 => simp at hc
  rename_i s0 s1 s2 s3 r heq
  obtain ⟨rfl, rfl⟩ := List.cons.inj heq
  split at hc
  case h_2 => simp at hc
  rename_i o n v w a b hz
  split at hc
  case isFalse => simp at hc
  rename_i c
  rw [if_pos c]
  have hf := hs (.mk o n v w [a, b]) (by rw [hz]; simp)
  have := (form_all hf).2
  exact ⟨this a (by simp), this b (by simp)⟩
theorem block_form : ∀ (l : List St) (a : Option (Ex × Ex)) (k : Nat), (∀ s ∈ l, ∀ e ∈ s.e, formB e = true) → (∀ p, a = some p → formB p.1 = true ∧ formB p.2 = true) → ∀ s ∈ blockS a k l, ∀ e ∈ s.e, formB e = true
  | [], a, k, _, _ => by cases k <;> simp [blockS]
  | s :: l, a, k + 1, hl, ha => by
    intro t ht
    simp only [blockS, List.mem_cons] at ht
    rcases ht with rfl | ht
    · exact hl t (by simp)
    · exact block_form l a k (fun s hs => hl s (by simp [hs])) ha t ht
  | s :: l, a, 0, hl, ha => by
    intro t ht
    have hl' : ∀ s ∈ l, ∀ e ∈ s.e, formB e = true := fun s hs => hl s (by simp [hs])
    simp only [blockS] at ht
    split at ht
    · rename_i p hp
      have hpf := match_form hp (hl s (by simp))
      rcases List.mem_cons.1 ht with rfl | ht
      · exact hl t (by simp)
      · exact block_form l (some p) 3 hl' (fun q hq => by cases hq; exact hpf) t ht
    · cases a with
      | none =>
        simp only at ht
        rcases List.mem_cons.1 ht with rfl | ht
        · exact hl t (by simp)
        · exact block_form l none 0 hl' (fun q hq => by cases hq) t ht
      | some p =>
        simp only at ht
        obtain ⟨g1, g2⟩ := ha p rfl
        rcases List.mem_cons.1 ht with rfl | ht
        · intro e he
          simp only [fuseSt, List.mem_map] at he
          obtain ⟨y, hy, rfl⟩ := he
          exact fuse_form g1 g2 y (hl s (by simp) y hy)
        · refine block_form l _ 0 hl' (fun q hq => ?_) t ht
          split at hq
          · cases hq
          · cases hq
            exact ⟨g1, g2⟩
/-- A graph rewritten. -/
def blockG (g : Gr) : Gr := ⟨g.ad, g.b.map fun b => ⟨b.ad, blockS none 0 b.s⟩⟩
def deepE (e : Ex) : Bool := decide (exErr e = 20)
/-- Is some expression too deep? -/
def deepG (l : List Bl) : Bool := l.any fun b => b.s.any fun s => s.e.any deepE
theorem closed_noE {n : Nat} {b b' : Bl} (h : b'.s.map noE = b.s.map noE) : closedB n b' = closedB n b := by
  have key : ∀ b : Bl, closedB n b = match (b.s.map noE).getLast? with
      | some s => termB s && !((b.s.map noE).take ((b.s.map noE).length - 1)).any termB && !(tgts s).any fun k => decide (k < 0) || decide ((n : Int) ≤ k)
      | none => false := by
    intro b
    unfold closedB
    rw [List.getLast?_map]
    cases b.s.getLast? with
    | none => rfl
    | some s =>
      simp only [Option.map_some, ← List.map_take, List.any_map, List.length_map]
      rfl
  rw [key, key, h]
theorem stN_map (f : Bl → Bl) (hf : ∀ b, (f b).s.length = b.s.length) : ∀ l : List Bl, stN (l.map f) = stN l
  | [] => rfl
  | b :: l => by simp only [List.map_cons, stN, stN_map f hf l, hf]
theorem exErr_form {e : Ex} (h : formB e = true) : exErr e = 0 ∨ exErr e = 20 := by
  unfold exErr
  rw [if_pos h]
  split <;> simp
theorem exs_form : ∀ {l : List Ex}, (∀ e ∈ l, formB e = true) → exsErr l = if l.any deepE then 20 else 0
  | [], _ => rfl
  | e :: l, h => by
    have ih := exs_form (l := l) fun x hx => h x (by simp [hx])
    rcases exErr_form (h e (by simp)) with h0 | h0
    · simp [exsErr, h0, ih, deepE]
    · simp [exsErr, h0, deepE]
theorem fields_noE {s t : St} (h : noE t = noE s) : fieldsB t = fieldsB s := by
  have : ∀ s : St, fieldsB s = fieldsB (noE s) := fun s => rfl
  rw [this, this s, h]
theorem st_form {s t : St} (hs : stErr s = 0) (h : noE t = noE s) (hl : t.e.length = s.e.length) (hf : ∀ e ∈ t.e, formB e = true) : stErr t = if t.e.any deepE then 20 else 0 := by
  have hop : t.op = s.op := by
    have := congrArg St.op h
    exact this
  unfold stErr at hs ⊢
  split at hs
  case isFalse => omega
  rename_i h1
  split at hs
  case isFalse h2 => exact absurd hs h2
  split at hs
  case isFalse => omega
  rename_i h3
  rw [hop, hl, if_pos h1, exs_form hf, fields_noE h, if_pos h3]
  cases t.e.any deepE <;> simp
theorem sts_form : ∀ {l m : List St}, (∀ s ∈ l, stErr s = 0) → m.map noE = l.map noE → m.map (fun s => s.e.length) = l.map (fun s => s.e.length) → (∀ s ∈ m, ∀ e ∈ s.e, formB e = true) → stsErr m = if m.any (fun s => s.e.any deepE) then 20 else 0
  | [], [], _, _, _, _ => rfl
  | [], _ :: _, _, h, _, _ => by simp at h
  | _ :: _, [], _, h, _, _ => by simp at h
  | s :: l, t :: m, h1, h2, h3, h4 => by
    simp only [List.map_cons, List.cons.injEq] at h2 h3
    have ih := sts_form (l := l) (m := m) (fun s hs => h1 s (by simp [hs])) h2.2 h3.2 fun s hs => h4 s (by simp [hs])
    have := st_form (h1 s (by simp)) h2.1 h3.1 (h4 t (by simp))
    simp only [stsErr, this, ih, List.any_cons]
    by_cases hq : t.e.any deepE = true
    · simp [hq]
    · simp only [Bool.not_eq_true] at hq
      simp [hq]
theorem blockG_err {g : Gr} (h : grErr g = 0) : grErr (blockG g) = if deepG (blockG g).b then 20 else 0 := by
  unfold grErr at h
  split at h
  case isTrue => omega
  rename_i h1
  split at h
  case isTrue => omega
  rename_i h2
  have hlen : (blockG g).b.length = g.b.length := by simp [blockG]
  have hsl : ∀ b : Bl, (blockS none 0 b.s).length = b.s.length := fun b => by simpa using congrArg List.length (block_shape b.s none 0).1
  have hN : stN (blockG g).b = stN g.b := stN_map _ hsl g.b
  have hc : (blockG g).b.all (closedB g.b.length) = g.b.all (closedB g.b.length) := by
    simp only [blockG, List.all_map]
    refine congrArg (fun f => g.b.all f) (funext fun b => ?_)
    exact closed_noE (block_shape b.s none 0).1
  unfold grErr
  rw [hlen, hN, hc, if_neg h1, if_neg h2]
  have hb := blsErr_mem h
  have : ∀ l : List Bl, (∀ b ∈ l, stsErr b.s = 0) → blsErr (l.map fun b => (⟨b.ad, blockS none 0 b.s⟩ : Bl)) = if deepG (l.map fun b => (⟨b.ad, blockS none 0 b.s⟩ : Bl)) then 20 else 0 := by
    intro l
    induction l with
    | nil => intro _; rfl
    | cons b l ih =>
      intro h
      have h0 := stsErr_mem (h b (by simp))
      have hf : ∀ s ∈ b.s, ∀ e ∈ s.e, formB e = true := fun s hs e he => by
        have h5 := h0 s hs
        unfold stErr at h5
        split at h5
        case isFalse => omega
        split at h5
        case isFalse h6 => exact absurd h5 h6
        rename_i h6
        have h7 := exsErr_mem h6 e he
        unfold exErr at h7
        split at h7
        · split at h7
          · assumption
          · omega
        · omega
      have q := sts_form h0 (block_shape b.s none 0).1 (block_shape b.s none 0).2 (block_form b.s none 0 hf (fun p hp => by cases hp))
      have ih := ih fun x hx => h x (by simp [hx])
      simp only [List.map_cons, blsErr, q, ih, deepG, List.any_cons]
      by_cases hq : ((blockS none 0 b.s).any fun s => s.e.any deepE) = true
      · simp [hq]
      · simp only [Bool.not_eq_true] at hq
        simp [hq]
  exact this g.b hb
end Go.Proofs.YtlidimmfpfockaaGreatDoor

/- Contracts: the reference's occurs, plain, fuse of layer 23. -/
namespace Go.Proofs.YtlidimmfpfockaaGreatDoor
open Go.RowKit
/-- Does a variable occur? -/
def occB (v : Int) (e : Ex) : Bool := decide (v ∈ occ e)
theorem occs_mem (v : Int) : ∀ l : List Ex, v ∈ occ.occs l ↔ ∃ x ∈ l, v ∈ occ x
  | [] => by simp [occ.occs]
  | a :: l => by
    rw [occ.occs, List.mem_append, occs_mem v l]
    simp
theorem occB_eq (v : Int) (e : Ex) : occB v e = (decide (e.op = 2) && decide (e.v = v) || e.l.any (occB v)) := by
  unfold occB
  rw [occ_eq]
  by_cases h : e.op = 2
  · have h2 : (v = e.v) ↔ (e.v = v) := ⟨Eq.symm, Eq.symm⟩
    rw [Bool.eq_iff_iff]
    simp [h, occs_mem, h2]
  · rw [Bool.eq_iff_iff]
    simp [h, occs_mem]
theorem q23occurs_af (v : Int) : ∀ e : Ex, AF Tryz.prog 101 [exA e, aI .i64 v] (aB (occB v e)) := by
  intro x
  induction x using Ex.ind with
  | h x ih =>
    obtain ⟨R, hR⟩ : ∃ R, occB v x = R := ⟨_, rfl⟩
    rw [hR]
    rw [occB_eq] at hR
    refine af_of Tryz.func101 rfl (by kernel_rfl) (by simp [Tryz.ntmps101]) fun hb => ?_
    have n1 : x.l.length ≤ maxLen := by simpa using hb.1.2.2.2.2.1.1
    clear hb
    simp [Tryz.f101]
    by_cases h2 : x.op = 2
    case' pos =>
      by_cases h3 : x.v = v
      · simp [h2, h3] at hR
        subst hR
        simp [h2, h3]
      have hc : (decide (x.op = 2) && decide (x.v = v)) = false := by simp [h3]
      rw [hc] at hR
      simp [h2, h3]
    case' neg =>
      have hc : (decide (x.op = 2) && decide (x.v = v)) = false := by simp [h2]
      rw [hc] at hR
      simp [h2]
    all_goals
      rw [Bool.false_or] at hR
      refine aLoop_st (fun i : Nat => [(1, aI .i64 v), (2, .ptr 0 0 0 0), (5, aI .i64 i)]) (fun _ => [bxE x]) (fun i => i ≤ x.l.length ∧ (x.l.take i).any (occB v) = false) (fun i => x.l.length - i) 0 (Sub.refl _ _ _) 1 (by omega) (by simp [h2]) (by simp) ⟨by omega, by simp⟩ ?_
      rintro i ⟨hi, hall⟩ K hK
      rcases Nat.lt_or_ge i x.l.length with hlt | hge
      case inr =>
        obtain rfl : i = x.l.length := by omega
        rw [List.take_length, hR] at hall
        subst hall
        simp
      obtain ⟨y, hy⟩ : ∃ y, x.l[i]? = some y := ⟨_, List.getElem?_eq_getElem hlt⟩
      have hy2 := (List.getElem?_eq_some_iff.1 hy).2
      have hym := List.mem_of_getElem? hy
      have ci := ih y hym
      simp [hlt, hy, hy2, Ex.d_eq]
      cases ho : occB v y <;> rw [ho] at ci
      · refine aCall_of (ci) (by simp) (by simp [Ex.d_eq]) ?_; simp [Ex.d_eq]
        simp [succ_wrap hlt n1]
        refine hK (i + 1) ⟨by omega, ?_⟩ (by omega) (Sub.refl _ _ _) 1 (by omega) (by simp) (by simp)
        rw [List.take_add_one, hy, List.any_append, hall]
        simp [ho]
      · have : R = true := by rw [← hR]; exact List.any_eq_true.2 ⟨y, hym, ho⟩
        subst this
        refine aCall_of (ci) (by simp) (by simp [Ex.d_eq]) ?_; simp [Ex.d_eq]
theorem q23plain_af : ∀ e : Ex, AF Tryz.prog 159 [exA e] (aB (noFlB e)) := by
  intro x
  induction x using Ex.ind with
  | h x ih =>
    obtain ⟨R, hR⟩ : ∃ R, noFlB x = R := ⟨_, rfl⟩
    rw [hR]
    rw [noFl_eq] at hR
    refine af_of Tryz.func159 rfl (by kernel_rfl) (by simp [Tryz.ntmps159]) fun hb => ?_
    have n1 : x.l.length ≤ maxLen := by simpa using hb.1.2.2.2.2.1.1
    clear hb
    simp [Tryz.f159]
    by_cases hc : x.op = 18 ∨ x.op = 2 ∧ 8 ≤ x.v ∧ x.v ≤ 11
    · have : R = false := by rw [← hR]; simp [hc]
      subst this
      rcases hc with h | ⟨h2, h3, h4⟩
      · simp [h]
      · simp [h2, h3, show x.v < 12 by omega]
    rw [decide_eq_false hc] at hR
    rw [Bool.not_false, Bool.true_and] at hR
    have h18 : ¬ x.op = 18 := fun h => hc (.inl h)
    have hK0 : (x.op = 2 ∧ 8 ≤ x.v ∧ ¬ x.v < 12) ∨ (x.op = 2 ∧ ¬ 8 ≤ x.v) ∨ ¬ x.op = 2 := by omega
    rcases hK0 with ⟨h2, h3, h4⟩ | ⟨h2, h3⟩ | h2
    case' inl => simp [h2, h3, h4]
    case' inr.inl => simp [h2, h3]
    case' inr.inr => simp [h18, h2]
    all_goals
      refine aLoop_st (fun i : Nat => [(1, .ptr 0 0 0 0), (3, aI .i64 i)]) (fun _ => [bxE x]) (fun i => i ≤ x.l.length ∧ (x.l.take i).all noFlB = true) (fun i => x.l.length - i) 0 (Sub.refl _ _ _) 1 (by omega) (by simp [h2]) (by simp) ⟨by omega, by simp⟩ ?_
      rintro i ⟨hi, hall⟩ K hK
      rcases Nat.lt_or_ge i x.l.length with hlt | hge
      case inr =>
        obtain rfl : i = x.l.length := by omega
        rw [List.take_length, hR] at hall
        subst hall
        simp
      obtain ⟨y, hy⟩ : ∃ y, x.l[i]? = some y := ⟨_, List.getElem?_eq_getElem hlt⟩
      have hy2 := (List.getElem?_eq_some_iff.1 hy).2
      have hym := List.mem_of_getElem? hy
      have ci := ih y hym
      simp [hlt, hy, hy2, Ex.d_eq]
      cases ho : noFlB y <;> rw [ho] at ci
      · have : R = false := by rw [← hR, List.all_eq_false]; exact ⟨y, hym, by simp [ho]⟩
        subst this
        refine aCall_of (ci) (by simp) (by simp [Ex.d_eq]) ?_; simp [Ex.d_eq]
      · refine aCall_of (ci) (by simp) (by simp [Ex.d_eq]) ?_; simp [Ex.d_eq]
        simp [succ_wrap hlt n1]
        refine hK (i + 1) ⟨by omega, ?_⟩ (by omega) (Sub.refl _ _ _) 1 (by omega) (by simp) (by simp)
        rw [List.take_add_one, hy, List.all_append, hall]
        simp [ho]
theorem q23fuse_af (a b : Ex) : ∀ e : Ex, e.nodes ≤ 1000000000 → AF Tryz.prog 109 [exA e, exA a, exA b] (exA (fuseS a b e)) := by
  intro x
  induction x using Ex.ind with
  | h x ih =>
    intro hn
    have hlen := x.nodes_len
    have hF := fuseS_eq a b x
    obtain ⟨F, hFF⟩ : ∃ F, fuseS a b x = F := ⟨_, rfl⟩
    rw [hFF] at hF ⊢
    have cr := rrec_af x
    refine af_of Tryz.func109 rfl (by kernel_rfl) (by simp [Tryz.ntmps109]) fun _ => ?_
    have n1 : x.l.length ≤ maxLen := by unfold maxLen; omega
    simp [Tryz.f109]
    rcases recA_cases x with ⟨k, hk, h1, h2⟩ | ⟨h1, h2⟩ | ⟨h1, h2⟩
    · rw [h1] at hF
      rw [h2] at cr
      simp only at hF
      subst hF
      refine aCall_of cr (by simp) (by simp [Ex.d_eq]) ?_; simp [Ex.d_eq]
      simp [show ¬ ((k : Int) + 1 = 0) by omega]
      have cc := rcond_af (k + 1 : Nat) a b
      simp at cc
      refine aCall_of cc (by simp) (by simp [Ex.d_eq]) ?_; simp [Ex.d_eq]
    case' inr.inl =>
      rw [h1] at hF
      rw [h2] at cr
      simp only at hF
      subst hF
      refine aCall_of cr (by simp) (by simp [Ex.d_eq]) ?_; simp [Ex.d_eq]
    case' inr.inr =>
      rw [h1] at hF
      rw [h2] at cr
      simp only at hF
      subst hF
      refine aCall_of cr (by simp) (by simp [Ex.d_eq]) ?_; simp [Ex.d_eq]
    all_goals
      clear hFF
      refine aLoop_of (α := Nat) (fun i e A => i ≤ x.l.length ∧ A = [bxE x, bxE a, bxE b, ⟨0, true, 38, 5, [[aI .i64 0, aI .u32 0, aI .i64 0, aI .i64 0, .d (.v (.slice none 0 0))]]⟩, ⟨i, true, 38, 5, dEls (Ex.ds ((x.l.take i).map (fuseS a b)))⟩] ∧
        e 10 = aI .i64 i ∧ e 9 = .own 4 i 0 i ∧ e 3 = .ptr 0 0 0 0 ∧ e 4 = .ptr 1 0 0 0 ∧ e 5 = .ptr 2 0 0 0 ∧ e 6 = .ptr 3 0 0 0) (fun i => x.l.length - i) 0 ((Sub.ghost 0 38 5).trans (Sub.slot (s := 9) (c := .own 4 0 0 0) ?_))
        ⟨by omega, by simp, by simp, by simp, by simp, by simp, by simp, by simp⟩ ?_
      · simp
        exact VLe.nil_own (k := ⟨0, true, 38, 5, []⟩) (by simp) rfl
      rintro i e A ⟨hi, rfl, e10, e9, e3, e4, e5, e6⟩ K hK
      rcases Nat.lt_or_ge i x.l.length with hlt | hge
      case inl =>
        obtain ⟨y, hy⟩ : ∃ y, x.l[i]? = some y := ⟨_, List.getElem?_eq_getElem hlt⟩
        have hy2 := (List.getElem?_eq_some_iff.1 hy).2
        have hmin : min i x.l.length = i := by omega
        simp [e10, e9, e3, e4, e5, hlt, hy, hy2, Ex.d_eq]
        refine adraw2 10 [] (by kernel_rfl) (by kernel_rfl) (by kernel_rfl) (by kernel_rfl) (by kernel_rfl) ?_
        simp [e10, e9, e3, e4, e5, hlt, hy, hy2, Ex.d_eq]
        refine adC_of (ih y (List.mem_of_getElem? hy) (by have := Ex.nodes_mem (List.mem_of_getElem? hy); omega)) (by simp) trivial (by simp) (by simp) ?_
        simp [e10, e9, Ex.d_eq, hmin]
        refine aRaw_app byt_23 ?_
        simp [e10, e9, Ex.d_eq, hmin]
        refine ⟨by unfold maxLen; omega, by omega, ?_⟩
        simp [e10, succ_wrap hlt n1]
        have hels : dEls (Ex.ds (List.map (fuseS a b) (List.take (i + 1) x.l))) = dEls (Ex.ds (List.map (fuseS a b) (List.take i x.l))) ++ [[aI .i64 (fuseS a b y).op, aI .u32 (fuseS a b y).n, aI .i64 (fuseS a b y).v, aI .i64 (fuseS a b y).wd, .d (.sl 5 (Ex.ds (fuseS a b y).l))]] := by
          rw [List.take_add_one, hy]
          simp [Ex.ds_map, dEls, Ex.d_eq]
        refine hK (i + 1) _ _ _ _ (Sub.take 5 (Nat.zero_le _)) ⟨by omega, by rw [hels]; simp, by simp, by simp, by simp [e3], by simp [e4], by simp [e5], by simp [e6]⟩ (by omega)
      obtain rfl : i = x.l.length := by omega
      rw [List.take_length]
      have nl : NLeS (List.take x.l.length (Ex.ds (List.map (fuseS a b) x.l))) (Ex.ds (List.map (fuseS a b) x.l)) := by
        rw [List.take_of_length_le (by simp)]; exact NLeS.refl _
      simp [e9, e10, e3, e6, Ex.d_eq]
      exact nl
end Go.Proofs.YtlidimmfpfockaaGreatDoor

/- Contract: the reference's match of layer 23 (printed by gen_oj.py). -/
namespace Go.Proofs.YtlidimmfpfockaaGreatDoor
open Go.RowKit
theorem setB_pre {s : St} {v : Int} {e : Ex} (h : setB s v e = true) : s.op = 1 ∧ s.va = v ∧ ∃ x, s.e = [x] ∧ sameB x e = true := by
  rcases setB_cases s v e with ⟨_, h2⟩ | ⟨_, _, h2⟩ | ⟨_, _, _, h2⟩ | ⟨x, h1, h2, h3, h4⟩
  · rw [h] at h2; cases h2
  · rw [h] at h2; cases h2
  · rw [h] at h2; cases h2
  · exact ⟨h1, h2, x, h3, by rw [← h4]; exact h⟩
theorem match_pre {s0 s1 s2 s3 : St} {r : List St} {p : Ex × Ex} (h : matchS (s0 :: s1 :: s2 :: s3 :: r) = some p) :
    (s0.op = 1 ∧ s0.va = 8 ∧ ∃ x, s0.e = [x]) ∧ (s1.op = 1 ∧ s1.va = 9 ∧ ∃ x, s1.e = [x]) ∧ (s2.op = 1 ∧ s2.va = 10 ∧ ∃ x, s2.e = [x]) ∧ (s3.op = 1 ∧ s3.va = 11 ∧ ∃ x, s3.e = [x]) := by
  unfold matchS at h
  split at h
  case isFalse => cases h
  rename_i hc
  clear h
  simp only [cmpR] at hc
  split at hc
  case h_2 => simp at hc
  split at hc
  case isFalse => simp at hc
  rename_i c
  have hq := c.2
  simp only [fullB, shortB, Bool.or_eq_true, Bool.and_eq_true] at hq
  have k : ∀ {s : St} {v : Int} {e : Ex}, setB s v e = true → s.op = 1 ∧ s.va = v ∧ ∃ x, s.e = [x] := fun h => by
    obtain ⟨h1, h2, x, h3, _⟩ := setB_pre h
    exact ⟨h1, h2, x, h3⟩
  rcases hq with ⟨⟨⟨q0, q1⟩, q2⟩, q3⟩ | ⟨⟨⟨⟨_, q0⟩, q1⟩, q2⟩, q3⟩
  · exact ⟨k q0, k q1, k q2, k q3⟩
  · exact ⟨k q0, k q1, k q2, k q3⟩
theorem pre_cases (s : St) (v : Int) : s.op ≠ 1 ∨ (s.op = 1 ∧ s.va ≠ v) ∨ (s.op = 1 ∧ s.va = v ∧ s.e.length ≠ 1) ∨ ∃ x, s.op = 1 ∧ s.va = v ∧ s.e = [x] := by
  by_cases h1 : s.op = 1
  · by_cases h2 : s.va = v
    · match h : s.e with
      | [] => exact .inr (.inr (.inl ⟨h1, h2, by simp⟩))
      | [x] => exact .inr (.inr (.inr ⟨x, h1, h2, rfl⟩))
      | x :: y :: l => exact .inr (.inr (.inl ⟨h1, h2, by simp⟩))
    · exact .inr (.inl ⟨h1, h2⟩)
  · exact .inl h1
theorem setB_one {s : St} {v : Int} {x e : Ex} (h1 : s.op = 1) (h2 : s.va = v) (h3 : s.e = [x]) : setB s v e = sameB x e := by
  simp [setB, h1, h2, h3]
/-- What match answers where four statements assign one expression each. -/
theorem match_eq {s0 s1 s2 s3 : St} {r : List St} {z0 z1 z2 z3 : Ex} (h0 : s0.op = 1 ∧ s0.va = 8 ∧ s0.e = [z0]) (h1 : s1.op = 1 ∧ s1.va = 9 ∧ s1.e = [z1]) (h2 : s2.op = 1 ∧ s2.va = 10 ∧ s2.e = [z2]) (h3 : s3.op = 1 ∧ s3.va = 11 ∧ s3.e = [z3]) :
    matchS (s0 :: s1 :: s2 :: s3 :: r) = if z0.op = 12 ∧ z0.l.length = 2 ∧ noFlB z0 = true ∧ ((sameB z0 (eTwo 12 z0.x z0.y) && sameB z1 (eMinus z0.x z0.y) && sameB z2 (eTwo 15 z0.x z0.y) && sameB z3 (eOver z0.x z0.y)) ||
      (sameB z0.y (eCon 0) && sameB z0 (eTwo 12 z0.x z0.y) && sameB z1 (eTwo 14 z0.x (eCon 0)) && sameB z2 (eCon 0) && sameB z3 (eCon 0))) = true then some (z0.x, z0.y) else none := by
  obtain ⟨o, n, v, w, q⟩ := z0
  match q with
  | [] => simp [matchS, cmpR, h0.2.2]
  | [_] => simp [matchS, cmpR, h0.2.2]
  | _ :: _ :: _ :: _ => simp [matchS, cmpR, h0.2.2]
  | [a, b] =>
    have ha : (Ex.mk o n v w [a, b]).x = a := rfl
    have hb : (Ex.mk o n v w [a, b]).y = b := rfl
    rw [ha, hb]
    have hz : (sameB b (eCon 0) && sameB (.mk o n v w [a, b]) (eTwo 12 a b) && sameB z1 (eTwo 14 a (eCon 0)) && sameB z2 (eCon 0) && sameB z3 (eCon 0)) = shortB a b s0 s1 s2 s3 := by
      unfold shortB
      rw [setB_one h0.1 h0.2.1 h0.2.2, setB_one h1.1 h1.2.1 h1.2.2, setB_one h2.1 h2.2.1 h2.2.2, setB_one h3.1 h3.2.1 h3.2.2]
      cases hs : sameB b (eCon 0)
      · rfl
      · rw [sameB_iff] at hs
        rw [hs]
    have hf : (sameB (.mk o n v w [a, b]) (eTwo 12 a b) && sameB z1 (eMinus a b) && sameB z2 (eTwo 15 a b) && sameB z3 (eOver a b)) = fullB a b s0 s1 s2 s3 := by
      unfold fullB
      rw [setB_one h0.1 h0.2.1 h0.2.2, setB_one h1.1 h1.2.1 h1.2.2, setB_one h2.1 h2.2.1 h2.2.2, setB_one h3.1 h3.2.1 h3.2.2]
    rw [hz, hf]
    clear hz hf
    by_cases ho : o = 12
    · subst ho
      have hn : noFlB (.mk 12 n v w [a, b]) = (noFlB a && noFlB b) := by
        rw [noFl_eq]
        simp
      rw [hn]
      simp only [matchS, cmpR, h0.2.2]
      generalize fullB a b s0 s1 s2 s3 = f at *
      generalize shortB a b s0 s1 s2 s3 = g at *
      cases f <;> cases g <;> cases noFlB a <;> cases noFlB b <;> simp
    · simp [matchS, cmpR, h0.2.2, ho]
/-- What match returns. -/
def matA : Option (Ex × Ex) → AV
  | some p => .tup [exA p.1, exA p.2, aB true]
  | none => .tup [exA (.mk 0 0 0 0 []), exA (.mk 0 0 0 0 []), aB false]
set_option maxHeartbeats 0 in
set_option maxRecDepth 8000 in
theorem q23match_af (l : List St) (k : Nat) (hk : k < l.length) (hl : l.length ≤ 1000000) : AF Tryz.prog 108 [.d (.sl 8 (sts l)), aI .i64 k] (matA (matchS (l.drop k))) := by
  obtain ⟨R, hR⟩ : ∃ R, matchS (l.drop k) = R := ⟨_, rfl⟩
  rw [hR]
  have hw := i64w (n := (k : Int) + 4) (by omega)
  refine af_of Tryz.func108 rfl (by kernel_rfl) (by simp [Tryz.ntmps108]) fun _ => ?_; simp [Tryz.f108, Ex.d_eq]
  by_cases h4 : k + 4 ≤ l.length
  case neg =>
    have hR0 : R = none := by
      have : (l.drop k).length < 4 := by simp; omega
      rw [← hR]
      match h : l.drop k with
      | [] => rfl
      | [_] => rfl
      | [_, _] => rfl
      | [_, _, _] => rfl
      | _ :: _ :: _ :: _ :: _ => rw [h] at this; simp at this; omega
    subst hR0
    simp [hw, show (l.length : Int) < k + 4 by omega]
    refine adraw [(2, 1)] (by kernel_rfl) (by kernel_rfl) (by kernel_rfl) (by kernel_rfl) ?_; simp [Ex.d_eq]
    simp [lateOk_cons, matA]
  obtain ⟨s0, s1, s2, s3, r, hd⟩ : ∃ s0 s1 s2 s3 r, l.drop k = s0 :: s1 :: s2 :: s3 :: r := by
    have : 4 ≤ (l.drop k).length := by simp; omega
    match h : l.drop k with
    | [] => rw [h] at this; simp at this
    | [_] => rw [h] at this; simp at this
    | [_, _] => rw [h] at this; simp at this
    | [_, _, _] => rw [h] at this; simp at this
    | s0 :: s1 :: s2 :: s3 :: r => exact ⟨s0, s1, s2, s3, r, rfl⟩
  have a0 : l[k]? = some s0 := by have := congrArg (fun x => x[0]?) hd; simpa using this
  have a1 : l[k + 1]? = some s1 := by have := congrArg (fun x => x[1]?) hd; simpa using this
  have a2 : l[k + 2]? = some s2 := by have := congrArg (fun x => x[2]?) hd; simpa using this
  have a3 : l[k + 3]? = some s3 := by have := congrArg (fun x => x[3]?) hd; simpa using this
  have b0 := (List.getElem?_eq_some_iff.1 a0).2
  have b1 := (List.getElem?_eq_some_iff.1 a1).2
  have b2 := (List.getElem?_eq_some_iff.1 a2).2
  have b3 := (List.getElem?_eq_some_iff.1 a3).2
  have hlt := hk
  have l1 : k + 1 < l.length := by omega
  have l2 : k + 2 < l.length := by omega
  have l3 : k + 3 < l.length := by omega
  have w1 : IntKind.i64.wrap ((k : Int) + 1) = k + 1 := i64w (by omega)
  have w2 : IntKind.i64.wrap ((k : Int) + 2) = k + 2 := i64w (by omega)
  have w3 : IntKind.i64.wrap ((k : Int) + 3) = k + 3 := i64w (by omega)
  have w0 : IntKind.i64.wrap (k : Int) = k := i64w (by omega)
  have z1 : 0 ≤ (k : Int) + 1 := by omega
  have z2 : 0 ≤ (k : Int) + 2 := by omega
  have z3 : 0 ≤ (k : Int) + 3 := by omega
  have t1 : ((k : Int) + 1).toNat = k + 1 := by omega
  have t2 : ((k : Int) + 2).toNat = k + 2 := by omega
  have t3 : ((k : Int) + 3).toNat = k + 3 := by omega
  rw [hd] at hR
  have hno : ¬ ((s0.op = 1 ∧ s0.va = 8 ∧ ∃ x, s0.e = [x]) ∧ (s1.op = 1 ∧ s1.va = 9 ∧ ∃ x, s1.e = [x]) ∧ (s2.op = 1 ∧ s2.va = 10 ∧ ∃ x, s2.e = [x]) ∧ (s3.op = 1 ∧ s3.va = 11 ∧ ∃ x, s3.e = [x])) → R = none := fun hn => by
    cases R with
    | none => rfl
    | some p => exact absurd (match_pre hR) hn
  simp [hw, show ¬ (l.length : Int) < k + 4 by omega]
  refine aLoop_iter 5 ?_; simp [Ex.d_eq]
  rcases pre_cases s0 8 with q | ⟨q, q1⟩ | ⟨q, q1, q2⟩ | ⟨z0', p, pv, pe⟩
  · have := hno fun h => q h.1.1
    subst this
    simp [w0, w1, w2, w3, hlt, l1, l2, l3, z1, z2, z3, t1, t2, t3, a0, b0, a1, b1, a2, b2, a3, b3, St.d_eq, Ex.d_eq, q]
    refine adraw [(2, 1)] (by kernel_rfl) (by kernel_rfl) (by kernel_rfl) (by kernel_rfl) ?_; simp [Ex.d_eq]
    simp [lateOk_cons, matA]
  · have := hno fun h => q1 h.1.2.1
    subst this
    simp [w0, w1, w2, w3, hlt, l1, l2, l3, z1, z2, z3, t1, t2, t3, a0, b0, a1, b1, a2, b2, a3, b3, St.d_eq, Ex.d_eq, q, q1]
    refine adraw [(2, 1)] (by kernel_rfl) (by kernel_rfl) (by kernel_rfl) (by kernel_rfl) ?_; simp [Ex.d_eq]
    simp [lateOk_cons, matA]
  · have := hno fun h => by
      obtain ⟨x, hx⟩ := h.1.2.2
      rw [hx] at q2
      exact q2 rfl
    subst this
    simp [w0, w1, w2, w3, hlt, l1, l2, l3, z1, z2, z3, t1, t2, t3, a0, b0, a1, b1, a2, b2, a3, b3, St.d_eq, Ex.d_eq, q, q1, show ¬ (s0.e.length : Int) = 1 by omega]
    refine adraw [(2, 1)] (by kernel_rfl) (by kernel_rfl) (by kernel_rfl) (by kernel_rfl) ?_; simp [Ex.d_eq]
    simp [lateOk_cons, matA]
  simp [w0, w1, w2, w3, hlt, l1, l2, l3, z1, z2, z3, t1, t2, t3, a0, b0, a1, b1, a2, b2, a3, b3, St.d_eq, Ex.d_eq, p, pv, pe]
  have e0 : s0.op = 1 ∧ s0.va = 8 ∧ s0.e = [z0'] := ⟨p, pv, pe⟩
  have p1 := pe
  clear p pv pe
  rcases pre_cases s1 9 with q | ⟨q, q1⟩ | ⟨q, q1, q2⟩ | ⟨z1', p, pv, pe⟩
  · have := hno fun h => q h.2.1.1
    subst this
    simp [w0, w1, w2, w3, hlt, l1, l2, l3, z1, z2, z3, t1, t2, t3, a0, b0, a1, b1, a2, b2, a3, b3, St.d_eq, Ex.d_eq, q]
    refine adraw [(2, 1)] (by kernel_rfl) (by kernel_rfl) (by kernel_rfl) (by kernel_rfl) ?_; simp [Ex.d_eq]
    simp [lateOk_cons, matA]
  · have := hno fun h => q1 h.2.1.2.1
    subst this
    simp [w0, w1, w2, w3, hlt, l1, l2, l3, z1, z2, z3, t1, t2, t3, a0, b0, a1, b1, a2, b2, a3, b3, St.d_eq, Ex.d_eq, q, q1]
    refine adraw [(2, 1)] (by kernel_rfl) (by kernel_rfl) (by kernel_rfl) (by kernel_rfl) ?_; simp [Ex.d_eq]
    simp [lateOk_cons, matA]
  · have := hno fun h => by
      obtain ⟨x, hx⟩ := h.2.1.2.2
      rw [hx] at q2
      exact q2 rfl
    subst this
    simp [w0, w1, w2, w3, hlt, l1, l2, l3, z1, z2, z3, t1, t2, t3, a0, b0, a1, b1, a2, b2, a3, b3, St.d_eq, Ex.d_eq, q, q1, show ¬ (s1.e.length : Int) = 1 by omega]
    refine adraw [(2, 1)] (by kernel_rfl) (by kernel_rfl) (by kernel_rfl) (by kernel_rfl) ?_; simp [Ex.d_eq]
    simp [lateOk_cons, matA]
  simp [w0, w1, w2, w3, hlt, l1, l2, l3, z1, z2, z3, t1, t2, t3, a0, b0, a1, b1, a2, b2, a3, b3, St.d_eq, Ex.d_eq, p, pv, pe]
  have e1 : s1.op = 1 ∧ s1.va = 9 ∧ s1.e = [z1'] := ⟨p, pv, pe⟩
  have p2 := pe
  clear p pv pe
  rcases pre_cases s2 10 with q | ⟨q, q1⟩ | ⟨q, q1, q2⟩ | ⟨z2', p, pv, pe⟩
  · have := hno fun h => q h.2.2.1.1
    subst this
    simp [w0, w1, w2, w3, hlt, l1, l2, l3, z1, z2, z3, t1, t2, t3, a0, b0, a1, b1, a2, b2, a3, b3, St.d_eq, Ex.d_eq, q]
    refine adraw [(2, 1)] (by kernel_rfl) (by kernel_rfl) (by kernel_rfl) (by kernel_rfl) ?_; simp [Ex.d_eq]
    simp [lateOk_cons, matA]
  · have := hno fun h => q1 h.2.2.1.2.1
    subst this
    simp [w0, w1, w2, w3, hlt, l1, l2, l3, z1, z2, z3, t1, t2, t3, a0, b0, a1, b1, a2, b2, a3, b3, St.d_eq, Ex.d_eq, q, q1]
    refine adraw [(2, 1)] (by kernel_rfl) (by kernel_rfl) (by kernel_rfl) (by kernel_rfl) ?_; simp [Ex.d_eq]
    simp [lateOk_cons, matA]
  · have := hno fun h => by
      obtain ⟨x, hx⟩ := h.2.2.1.2.2
      rw [hx] at q2
      exact q2 rfl
    subst this
    simp [w0, w1, w2, w3, hlt, l1, l2, l3, z1, z2, z3, t1, t2, t3, a0, b0, a1, b1, a2, b2, a3, b3, St.d_eq, Ex.d_eq, q, q1, show ¬ (s2.e.length : Int) = 1 by omega]
    refine adraw [(2, 1)] (by kernel_rfl) (by kernel_rfl) (by kernel_rfl) (by kernel_rfl) ?_; simp [Ex.d_eq]
    simp [lateOk_cons, matA]
  simp [w0, w1, w2, w3, hlt, l1, l2, l3, z1, z2, z3, t1, t2, t3, a0, b0, a1, b1, a2, b2, a3, b3, St.d_eq, Ex.d_eq, p, pv, pe]
  have e2 : s2.op = 1 ∧ s2.va = 10 ∧ s2.e = [z2'] := ⟨p, pv, pe⟩
  have p3 := pe
  clear p pv pe
  rcases pre_cases s3 11 with q | ⟨q, q1⟩ | ⟨q, q1, q2⟩ | ⟨z3', p, pv, pe⟩
  · have := hno fun h => q h.2.2.2.1
    subst this
    simp [w0, w1, w2, w3, hlt, l1, l2, l3, z1, z2, z3, t1, t2, t3, a0, b0, a1, b1, a2, b2, a3, b3, St.d_eq, Ex.d_eq, q]
    refine adraw [(2, 1)] (by kernel_rfl) (by kernel_rfl) (by kernel_rfl) (by kernel_rfl) ?_; simp [Ex.d_eq]
    simp [lateOk_cons, matA]
  · have := hno fun h => q1 h.2.2.2.2.1
    subst this
    simp [w0, w1, w2, w3, hlt, l1, l2, l3, z1, z2, z3, t1, t2, t3, a0, b0, a1, b1, a2, b2, a3, b3, St.d_eq, Ex.d_eq, q, q1]
    refine adraw [(2, 1)] (by kernel_rfl) (by kernel_rfl) (by kernel_rfl) (by kernel_rfl) ?_; simp [Ex.d_eq]
    simp [lateOk_cons, matA]
  · have := hno fun h => by
      obtain ⟨x, hx⟩ := h.2.2.2.2.2
      rw [hx] at q2
      exact q2 rfl
    subst this
    simp [w0, w1, w2, w3, hlt, l1, l2, l3, z1, z2, z3, t1, t2, t3, a0, b0, a1, b1, a2, b2, a3, b3, St.d_eq, Ex.d_eq, q, q1, show ¬ (s3.e.length : Int) = 1 by omega]
    refine adraw [(2, 1)] (by kernel_rfl) (by kernel_rfl) (by kernel_rfl) (by kernel_rfl) ?_; simp [Ex.d_eq]
    simp [lateOk_cons, matA]
  simp [w0, w1, w2, w3, hlt, l1, l2, l3, z1, z2, z3, t1, t2, t3, a0, b0, a1, b1, a2, b2, a3, b3, St.d_eq, Ex.d_eq, p, pv, pe]
  have e3 : s3.op = 1 ∧ s3.va = 11 ∧ s3.e = [z3'] := ⟨p, pv, pe⟩
  have p4 := pe
  clear p pv pe
  rw [match_eq e0 e1 e2 e3] at hR
  simp [w0, w1, w2, w3, hlt, l1, l2, l3, z1, z2, z3, t1, t2, t3, a0, b0, a1, b1, a2, b2, a3, b3, p1, p2, p3, p4, St.d_eq, Ex.d_eq]
  obtain ⟨o, n, v, w, q⟩ := z0'
  by_cases ho : o = 12
  case neg =>
    have : R = none := by rw [← hR]; simp [ho]
    subst this
    simp [ho]
    refine adraw [(2, 1)] (by kernel_rfl) (by kernel_rfl) (by kernel_rfl) (by kernel_rfl) ?_; simp [Ex.d_eq]
    simp [lateOk_cons, matA]
  by_cases hq : q.length = 2
  case neg =>
    have : R = none := by rw [← hR]; simp [hq]
    subst this
    simp [ho, show ¬ (q.length : Int) = 2 by omega]
    refine adraw [(2, 1)] (by kernel_rfl) (by kernel_rfl) (by kernel_rfl) (by kernel_rfl) ?_; simp [Ex.d_eq]
    simp [lateOk_cons, matA]
  obtain ⟨a, b, rfl⟩ : ∃ a b, q = [a, b] := by
    match q, hq with
    | [a, b], _ => exact ⟨a, b, rfl⟩
  subst ho
  have ha : (Ex.mk 12 n v w [a, b]).x = a := rfl
  have hb : (Ex.mk 12 n v w [a, b]).y = b := rfl
  rw [ha, hb] at hR
  have cp := q23plain_af (.mk 12 n v w [a, b])
  simp [Ex.d_eq]
  cases hp : noFlB (.mk 12 n v w [a, b]) <;> rw [hp] at cp hR
  · simp at hR
    subst hR
    refine aCall_of (cp) (by simp) (by simp [Ex.d_eq]) ?_; simp [Ex.d_eq]
    refine adraw [(2, 1)] (by kernel_rfl) (by kernel_rfl) (by kernel_rfl) (by kernel_rfl) ?_; simp [Ex.d_eq]
    simp [lateOk_cons, matA]
  refine aCall_of (cp) (by simp) (by simp [Ex.d_eq]) ?_; simp [Ex.d_eq]
  have c0 := refsame_af (.mk 12 n v w [a, b]) (eTwo 12 a b)
  have c1 := refsame_af z1' (eMinus a b)
  have c2 := refsame_af z2' (eTwo 15 a b)
  have c3 := refsame_af z3' (eOver a b)
  have cz := refsame_af b (eCon 0)
  have d1 := refsame_af z1' (eTwo 14 a (eCon 0))
  have d2 := refsame_af z2' (eCon 0)
  have d3 := refsame_af z3' (eCon 0)
  simp only [Ex.op_mk, Ex.l_mk, List.length_cons, List.length_nil, true_and] at hR
  generalize sameB (.mk 12 n v w [a, b]) (eTwo 12 a b) = g0 at *
  generalize sameB z1' (eMinus a b) = g1 at *
  generalize sameB z2' (eTwo 15 a b) = g2 at *
  generalize sameB z3' (eOver a b) = g3 at *
  generalize sameB b (eCon 0) = zz at *
  generalize sameB z1' (eTwo 14 a (eCon 0)) = h1 at *
  generalize sameB z2' (eCon 0) = h2 at *
  generalize sameB z3' (eCon 0) = h3 at *
  clear e0 e1 e2 e3 hno cp
  refine adraw [] (by kernel_rfl) (by kernel_rfl) (by kernel_rfl) (by kernel_rfl) ?_; simp [Ex.d_eq]
  try simp
  refine adC_of (rcon_af 0) (by simp) trivial (by simp) (by simp [Ex.d_eq]) ?_; simp [Ex.d_eq]
  refine adC_of (cz) (by simp) trivial (by simp) (by simp [Ex.d_eq]) ?_; simp [Ex.d_eq]
  refine adraw [] (by kernel_rfl) (by kernel_rfl) (by kernel_rfl) (by kernel_rfl) ?_; simp [Ex.d_eq]
  try simp
  refine adC_of (rtwo_af 12 a b) (by simp) trivial (by simp) (by simp [Ex.d_eq]) ?_; simp [Ex.d_eq]
  refine adC_of (c0) (by simp) trivial (by simp) (by simp [Ex.d_eq]) ?_; simp [Ex.d_eq]
  cases g0
  · try simp
    refine adraw [] (by kernel_rfl) (by kernel_rfl) (by kernel_rfl) (by kernel_rfl) ?_; simp [Ex.d_eq]
    try simp
    cases zz
    · simp at hR
      subst hR
      try simp
      refine adraw [(2, 1)] (by kernel_rfl) (by kernel_rfl) (by kernel_rfl) (by kernel_rfl) ?_; simp [Ex.d_eq]
      try simp [lateOk_cons, matA]
    try simp
    refine adC_of (rtwo_af 12 a b) (by simp) trivial (by simp) (by simp [Ex.d_eq]) ?_; simp [Ex.d_eq]
    refine adC_of (c0) (by simp) trivial (by simp) (by simp [Ex.d_eq]) ?_; simp [Ex.d_eq]
    simp at hR
    subst hR
    try simp
    refine adraw [(2, 1)] (by kernel_rfl) (by kernel_rfl) (by kernel_rfl) (by kernel_rfl) ?_; simp [Ex.d_eq]
    try simp [lateOk_cons, matA]
  simp [w1, w2, w3, hlt, l1, l2, l3, z1, z2, z3, t1, t2, t3, a0, b0, a1, b1, a2, b2, a3, b3, p1, p2, p3, p4, St.d_eq, Ex.d_eq]
  refine adC_of (rtwo_af 4 a b) (by simp) trivial (by simp) (by simp [Ex.d_eq]) ?_; simp [Ex.d_eq]
  refine adC_of (rcon_af 0) (by simp) trivial (by simp) (by simp [Ex.d_eq]) ?_; simp [Ex.d_eq]
  refine adC_of (rtwo_af 14 (eTwo 4 a b) (eCon 0)) (by simp) trivial (by simp) (by simp [Ex.d_eq]) ?_; simp [Ex.d_eq]
  refine adC_of (c1) (by simp) trivial (by simp) (by simp [Ex.d_eq]) ?_; simp [Ex.d_eq]
  cases g1
  · try simp
    refine adraw [] (by kernel_rfl) (by kernel_rfl) (by kernel_rfl) (by kernel_rfl) ?_; simp [Ex.d_eq]
    try simp
    cases zz
    · simp at hR
      subst hR
      try simp
      refine adraw [(2, 1)] (by kernel_rfl) (by kernel_rfl) (by kernel_rfl) (by kernel_rfl) ?_; simp [Ex.d_eq]
      try simp [lateOk_cons, matA]
    try simp
    refine adC_of (rtwo_af 12 a b) (by simp) trivial (by simp) (by simp [Ex.d_eq]) ?_; simp [Ex.d_eq]
    refine adC_of (c0) (by simp) trivial (by simp) (by simp [Ex.d_eq]) ?_; simp [Ex.d_eq]
    simp [w1, w2, w3, hlt, l1, l2, l3, z1, z2, z3, t1, t2, t3, a0, b0, a1, b1, a2, b2, a3, b3, p1, p2, p3, p4, St.d_eq, Ex.d_eq]
    refine adC_of (rcon_af 0) (by simp) trivial (by simp) (by simp [Ex.d_eq]) ?_; simp [Ex.d_eq]
    refine adC_of (rtwo_af 14 a (eCon 0)) (by simp) trivial (by simp) (by simp [Ex.d_eq]) ?_; simp [Ex.d_eq]
    refine adC_of (d1) (by simp) trivial (by simp) (by simp [Ex.d_eq]) ?_; simp [Ex.d_eq]
    cases h1
    · simp at hR
      subst hR
      try simp
      refine adraw [(2, 1)] (by kernel_rfl) (by kernel_rfl) (by kernel_rfl) (by kernel_rfl) ?_; simp [Ex.d_eq]
      try simp [lateOk_cons, matA]
    simp [w1, w2, w3, hlt, l1, l2, l3, z1, z2, z3, t1, t2, t3, a0, b0, a1, b1, a2, b2, a3, b3, p1, p2, p3, p4, St.d_eq, Ex.d_eq]
    refine adC_of (rcon_af 0) (by simp) trivial (by simp) (by simp [Ex.d_eq]) ?_; simp [Ex.d_eq]
    refine adC_of (d2) (by simp) trivial (by simp) (by simp [Ex.d_eq]) ?_; simp [Ex.d_eq]
    cases h2
    · simp at hR
      subst hR
      try simp
      refine adraw [(2, 1)] (by kernel_rfl) (by kernel_rfl) (by kernel_rfl) (by kernel_rfl) ?_; simp [Ex.d_eq]
      try simp [lateOk_cons, matA]
    simp [w1, w2, w3, hlt, l1, l2, l3, z1, z2, z3, t1, t2, t3, a0, b0, a1, b1, a2, b2, a3, b3, p1, p2, p3, p4, St.d_eq, Ex.d_eq]
    refine adC_of (rcon_af 0) (by simp) trivial (by simp) (by simp [Ex.d_eq]) ?_; simp [Ex.d_eq]
    refine adC_of (d3) (by simp) trivial (by simp) (by simp [Ex.d_eq]) ?_; simp [Ex.d_eq]
    cases h3
    · simp at hR
      subst hR
      try simp
      refine adraw [(2, 1)] (by kernel_rfl) (by kernel_rfl) (by kernel_rfl) (by kernel_rfl) ?_; simp [Ex.d_eq]
      try simp [lateOk_cons, matA]
    simp at hR
    subst hR
    try simp
    refine adraw [(2, 1)] (by kernel_rfl) (by kernel_rfl) (by kernel_rfl) (by kernel_rfl) ?_; simp [Ex.d_eq]
    try simp [lateOk_cons, matA]
  simp [w1, w2, w3, hlt, l1, l2, l3, z1, z2, z3, t1, t2, t3, a0, b0, a1, b1, a2, b2, a3, b3, p1, p2, p3, p4, St.d_eq, Ex.d_eq]
  refine adC_of (rtwo_af 15 a b) (by simp) trivial (by simp) (by simp [Ex.d_eq]) ?_; simp [Ex.d_eq]
  refine adC_of (c2) (by simp) trivial (by simp) (by simp [Ex.d_eq]) ?_; simp [Ex.d_eq]
  cases g2
  · try simp
    refine adraw [] (by kernel_rfl) (by kernel_rfl) (by kernel_rfl) (by kernel_rfl) ?_; simp [Ex.d_eq]
    try simp
    cases zz
    · simp at hR
      subst hR
      try simp
      refine adraw [(2, 1)] (by kernel_rfl) (by kernel_rfl) (by kernel_rfl) (by kernel_rfl) ?_; simp [Ex.d_eq]
      try simp [lateOk_cons, matA]
    try simp
    refine adC_of (rtwo_af 12 a b) (by simp) trivial (by simp) (by simp [Ex.d_eq]) ?_; simp [Ex.d_eq]
    refine adC_of (c0) (by simp) trivial (by simp) (by simp [Ex.d_eq]) ?_; simp [Ex.d_eq]
    simp [w1, w2, w3, hlt, l1, l2, l3, z1, z2, z3, t1, t2, t3, a0, b0, a1, b1, a2, b2, a3, b3, p1, p2, p3, p4, St.d_eq, Ex.d_eq]
    refine adC_of (rcon_af 0) (by simp) trivial (by simp) (by simp [Ex.d_eq]) ?_; simp [Ex.d_eq]
    refine adC_of (rtwo_af 14 a (eCon 0)) (by simp) trivial (by simp) (by simp [Ex.d_eq]) ?_; simp [Ex.d_eq]
    refine adC_of (d1) (by simp) trivial (by simp) (by simp [Ex.d_eq]) ?_; simp [Ex.d_eq]
    cases h1
    · simp at hR
      subst hR
      try simp
      refine adraw [(2, 1)] (by kernel_rfl) (by kernel_rfl) (by kernel_rfl) (by kernel_rfl) ?_; simp [Ex.d_eq]
      try simp [lateOk_cons, matA]
    simp [w1, w2, w3, hlt, l1, l2, l3, z1, z2, z3, t1, t2, t3, a0, b0, a1, b1, a2, b2, a3, b3, p1, p2, p3, p4, St.d_eq, Ex.d_eq]
    refine adC_of (rcon_af 0) (by simp) trivial (by simp) (by simp [Ex.d_eq]) ?_; simp [Ex.d_eq]
    refine adC_of (d2) (by simp) trivial (by simp) (by simp [Ex.d_eq]) ?_; simp [Ex.d_eq]
    cases h2
    · simp at hR
      subst hR
      try simp
      refine adraw [(2, 1)] (by kernel_rfl) (by kernel_rfl) (by kernel_rfl) (by kernel_rfl) ?_; simp [Ex.d_eq]
      try simp [lateOk_cons, matA]
    simp [w1, w2, w3, hlt, l1, l2, l3, z1, z2, z3, t1, t2, t3, a0, b0, a1, b1, a2, b2, a3, b3, p1, p2, p3, p4, St.d_eq, Ex.d_eq]
    refine adC_of (rcon_af 0) (by simp) trivial (by simp) (by simp [Ex.d_eq]) ?_; simp [Ex.d_eq]
    refine adC_of (d3) (by simp) trivial (by simp) (by simp [Ex.d_eq]) ?_; simp [Ex.d_eq]
    cases h3
    · simp at hR
      subst hR
      try simp
      refine adraw [(2, 1)] (by kernel_rfl) (by kernel_rfl) (by kernel_rfl) (by kernel_rfl) ?_; simp [Ex.d_eq]
      try simp [lateOk_cons, matA]
    simp at hR
    subst hR
    try simp
    refine adraw [(2, 1)] (by kernel_rfl) (by kernel_rfl) (by kernel_rfl) (by kernel_rfl) ?_; simp [Ex.d_eq]
    try simp [lateOk_cons, matA]
  simp [w1, w2, w3, hlt, l1, l2, l3, z1, z2, z3, t1, t2, t3, a0, b0, a1, b1, a2, b2, a3, b3, p1, p2, p3, p4, St.d_eq, Ex.d_eq]
  refine adC_of (rover_af a b) (by simp) trivial (by simp) (by simp [Ex.d_eq]) ?_; simp [Ex.d_eq]
  refine adC_of (c3) (by simp) trivial (by simp) (by simp [Ex.d_eq]) ?_; simp [Ex.d_eq]
  cases g3
  · try simp
    refine adraw [] (by kernel_rfl) (by kernel_rfl) (by kernel_rfl) (by kernel_rfl) ?_; simp [Ex.d_eq]
    try simp
    cases zz
    · simp at hR
      subst hR
      try simp
      refine adraw [(2, 1)] (by kernel_rfl) (by kernel_rfl) (by kernel_rfl) (by kernel_rfl) ?_; simp [Ex.d_eq]
      try simp [lateOk_cons, matA]
    try simp
    refine adC_of (rtwo_af 12 a b) (by simp) trivial (by simp) (by simp [Ex.d_eq]) ?_; simp [Ex.d_eq]
    refine adC_of (c0) (by simp) trivial (by simp) (by simp [Ex.d_eq]) ?_; simp [Ex.d_eq]
    simp [w1, w2, w3, hlt, l1, l2, l3, z1, z2, z3, t1, t2, t3, a0, b0, a1, b1, a2, b2, a3, b3, p1, p2, p3, p4, St.d_eq, Ex.d_eq]
    refine adC_of (rcon_af 0) (by simp) trivial (by simp) (by simp [Ex.d_eq]) ?_; simp [Ex.d_eq]
    refine adC_of (rtwo_af 14 a (eCon 0)) (by simp) trivial (by simp) (by simp [Ex.d_eq]) ?_; simp [Ex.d_eq]
    refine adC_of (d1) (by simp) trivial (by simp) (by simp [Ex.d_eq]) ?_; simp [Ex.d_eq]
    cases h1
    · simp at hR
      subst hR
      try simp
      refine adraw [(2, 1)] (by kernel_rfl) (by kernel_rfl) (by kernel_rfl) (by kernel_rfl) ?_; simp [Ex.d_eq]
      try simp [lateOk_cons, matA]
    simp [w1, w2, w3, hlt, l1, l2, l3, z1, z2, z3, t1, t2, t3, a0, b0, a1, b1, a2, b2, a3, b3, p1, p2, p3, p4, St.d_eq, Ex.d_eq]
    refine adC_of (rcon_af 0) (by simp) trivial (by simp) (by simp [Ex.d_eq]) ?_; simp [Ex.d_eq]
    refine adC_of (d2) (by simp) trivial (by simp) (by simp [Ex.d_eq]) ?_; simp [Ex.d_eq]
    cases h2
    · simp at hR
      subst hR
      try simp
      refine adraw [(2, 1)] (by kernel_rfl) (by kernel_rfl) (by kernel_rfl) (by kernel_rfl) ?_; simp [Ex.d_eq]
      try simp [lateOk_cons, matA]
    simp [w1, w2, w3, hlt, l1, l2, l3, z1, z2, z3, t1, t2, t3, a0, b0, a1, b1, a2, b2, a3, b3, p1, p2, p3, p4, St.d_eq, Ex.d_eq]
    refine adC_of (rcon_af 0) (by simp) trivial (by simp) (by simp [Ex.d_eq]) ?_; simp [Ex.d_eq]
    refine adC_of (d3) (by simp) trivial (by simp) (by simp [Ex.d_eq]) ?_; simp [Ex.d_eq]
    cases h3
    · simp at hR
      subst hR
      try simp
      refine adraw [(2, 1)] (by kernel_rfl) (by kernel_rfl) (by kernel_rfl) (by kernel_rfl) ?_; simp [Ex.d_eq]
      try simp [lateOk_cons, matA]
    simp at hR
    subst hR
    try simp
    refine adraw [(2, 1)] (by kernel_rfl) (by kernel_rfl) (by kernel_rfl) (by kernel_rfl) ?_; simp [Ex.d_eq]
    try simp [lateOk_cons, matA]
  simp at hR
  subst hR
  try simp
  refine adraw [] (by kernel_rfl) (by kernel_rfl) (by kernel_rfl) (by kernel_rfl) ?_; simp [Ex.d_eq]
  try simp
  cases zz
  · try simp
    refine adraw [(2, 1)] (by kernel_rfl) (by kernel_rfl) (by kernel_rfl) (by kernel_rfl) ?_; simp [Ex.d_eq]
    try simp [lateOk_cons, matA]
  try simp
  refine adC_of (rtwo_af 12 a b) (by simp) trivial (by simp) (by simp [Ex.d_eq]) ?_; simp [Ex.d_eq]
  refine adC_of (c0) (by simp) trivial (by simp) (by simp [Ex.d_eq]) ?_; simp [Ex.d_eq]
  simp [w1, w2, w3, hlt, l1, l2, l3, z1, z2, z3, t1, t2, t3, a0, b0, a1, b1, a2, b2, a3, b3, p1, p2, p3, p4, St.d_eq, Ex.d_eq]
  refine adC_of (rcon_af 0) (by simp) trivial (by simp) (by simp [Ex.d_eq]) ?_; simp [Ex.d_eq]
  refine adC_of (rtwo_af 14 a (eCon 0)) (by simp) trivial (by simp) (by simp [Ex.d_eq]) ?_; simp [Ex.d_eq]
  refine adC_of (d1) (by simp) trivial (by simp) (by simp [Ex.d_eq]) ?_; simp [Ex.d_eq]
  cases h1
  · try simp
    refine adraw [(2, 1)] (by kernel_rfl) (by kernel_rfl) (by kernel_rfl) (by kernel_rfl) ?_; simp [Ex.d_eq]
    try simp [lateOk_cons, matA]
  simp [w1, w2, w3, hlt, l1, l2, l3, z1, z2, z3, t1, t2, t3, a0, b0, a1, b1, a2, b2, a3, b3, p1, p2, p3, p4, St.d_eq, Ex.d_eq]
  refine adC_of (rcon_af 0) (by simp) trivial (by simp) (by simp [Ex.d_eq]) ?_; simp [Ex.d_eq]
  refine adC_of (d2) (by simp) trivial (by simp) (by simp [Ex.d_eq]) ?_; simp [Ex.d_eq]
  cases h2
  · try simp
    refine adraw [(2, 1)] (by kernel_rfl) (by kernel_rfl) (by kernel_rfl) (by kernel_rfl) ?_; simp [Ex.d_eq]
    try simp [lateOk_cons, matA]
  simp [w1, w2, w3, hlt, l1, l2, l3, z1, z2, z3, t1, t2, t3, a0, b0, a1, b1, a2, b2, a3, b3, p1, p2, p3, p4, St.d_eq, Ex.d_eq]
  refine adC_of (rcon_af 0) (by simp) trivial (by simp) (by simp [Ex.d_eq]) ?_; simp [Ex.d_eq]
  refine adC_of (d3) (by simp) trivial (by simp) (by simp [Ex.d_eq]) ?_; simp [Ex.d_eq]
  cases h3
  · try simp
    refine adraw [(2, 1)] (by kernel_rfl) (by kernel_rfl) (by kernel_rfl) (by kernel_rfl) ?_; simp [Ex.d_eq]
    try simp [lateOk_cons, matA]
  try simp
  refine adraw [(2, 1)] (by kernel_rfl) (by kernel_rfl) (by kernel_rfl) (by kernel_rfl) ?_; simp [Ex.d_eq]
  try simp [lateOk_cons, matA]
end Go.Proofs.YtlidimmfpfockaaGreatDoor

/- Contract: the reference's Block of layer 23 (printed by gen_ok.py). -/
namespace Go.Proofs.YtlidimmfpfockaaGreatDoor
open Go.RowKit
abbrev outR (ad : Int) (k : Nat) : Blk := ⟨0, true, 30, 2, [[aI .u32 ad, .own 5 k 0 k]]⟩
/-- A statement's new expressions are data from now on. -/
theorem sub_fuse (e : AEnv) (B0 B1 B2 B3 B4 B6 B7 B8 : Blk) (N : AHeap) (v u : Nat) (c0 c1 c2 c3 c4 c5 c7 : AV) (M : List Ex) (W : List St) :
    Sub 0 e (B0 :: B1 :: B2 :: B3 :: B4 :: ⟨v, true, 26, 8, dEls (sts W) ++ [[c0, c1, c2, c3, c4, c5, .own 9 u 0 M.length, c7]]⟩ :: B6 :: B7 :: B8 :: ⟨u, true, 38, 5, dEls (Ex.ds M)⟩ :: N) e
      (B0 :: B1 :: B2 :: B3 :: B4 :: ⟨v, true, 26, 8, dEls (sts W) ++ [[c0, c1, c2, c3, c4, c5, .d (.sl 5 (Ex.ds M)), c7]]⟩ :: B6 :: B7 :: B8 :: ⟨u, false, 38, 5, dEls (Ex.ds M)⟩ :: N) := by
  have hN : ∀ (i : Nat) (l : AHeap), 10 ≤ i → List.mapIdx (fun b k => if [9].contains (b + i) = true then (⟨k.ver, false, k.ty, k.sz, k.els⟩ : Blk) else k) l = l := by
    intro i l hi
    refine List.ext_getElem? fun j => ?_
    rw [List.getElem?_mapIdx]
    have : ([9].contains (j + i)) = false := by simp; omega
    simp only [this]
    cases l[j]? <;> simp
  have hf : frz [9] (B0 :: B1 :: B2 :: B3 :: B4 :: ⟨v, true, 26, 8, dEls (sts W) ++ [[c0, c1, c2, c3, c4, c5, .own 9 u 0 M.length, c7]]⟩ :: B6 :: B7 :: B8 :: ⟨u, true, 38, 5, dEls (Ex.ds M)⟩ :: N) =
      B0 :: B1 :: B2 :: B3 :: B4 :: ⟨v, true, 26, 8, dEls (sts W) ++ [[c0, c1, c2, c3, c4, c5, .own 9 u 0 M.length, c7]]⟩ :: B6 :: B7 :: B8 :: ⟨u, false, 38, 5, dEls (Ex.ds M)⟩ :: N := by
    simp only [frz, List.mapIdx_cons]
    simp
    have := hN 10 N (Nat.le_refl _)
    simpa [Nat.add_assoc] using this
  have h := sub_reiT (n := 0) (e := e) (A := B0 :: B1 :: B2 :: B3 :: B4 :: ⟨v, true, 26, 8, dEls (sts W) ++ [[c0, c1, c2, c3, c4, c5, .own 9 u 0 M.length, c7]]⟩ :: B6 :: B7 :: B8 :: ⟨u, true, 38, 5, dEls (Ex.ds M)⟩ :: N) [9] (b := 5) (i := W.length) (o := 6)
    (k := ⟨v, true, 26, 8, dEls (sts W) ++ [[c0, c1, c2, c3, c4, c5, .own 9 u 0 M.length, c7]]⟩) (x := [c0, c1, c2, c3, c4, c5, .own 9 u 0 M.length, c7]) (c := .own 9 u 0 M.length) (c' := .d (.sl 5 (Ex.ds M)))
    (by rw [hf]; rfl) (by simp) rfl (by rw [hf]; simp)
  rw [hf] at h
  simpa [setEls] using h
set_option maxHeartbeats 0 in
set_option maxRecDepth 8000 in
theorem q23block_af (b : Bl) (hl : b.s.length ≤ 100000) (hn : ∀ s ∈ b.s, Ex.nodess s.e ≤ 1000000) : AF Tryz.prog 39 [blV b] (blV ⟨b.ad, blockS none 0 b.s⟩) := by
  have hbl : b.s.length ≤ maxLen := by unfold maxLen; omega
  obtain ⟨T, hT⟩ : ∃ T, blockS none 0 b.s = T := ⟨_, rfl⟩
  rw [hT]
  have hTl : T.length = b.s.length := by
    have := congrArg List.length (block_shape b.s none 0).1
    rw [hT] at this
    simpa using this
  refine af_of Tryz.func39 rfl (by kernel_rfl) (by simp [Tryz.ntmps39]) fun _ => ?_; simp [Tryz.f39, Ex.d_eq]
  refine aLoop_st (α := Nat × List St × Bool × (Ex × Ex)) (fun p => [(1, .ptr 0 0 0 0), (2, .ptr 1 0 0 0), (3, .ptr 2 0 0 0), (4, aB p.2.2.1), (5, .ptr 3 0 0 0), (6, .ptr 4 0 0 0), (7, aI .i64 p.1)])
    (fun p => [bB b, blZ, outR b.ad p.1, bxE p.2.2.2.1, bxE p.2.2.2.2, arrB p.2.1])
    (fun p => p.1 ≤ b.s.length ∧ p.2.1.length = p.1 ∧ p.2.1 ++ blockS (if p.2.2.1 then some p.2.2.2 else none) 0 (b.s.drop p.1) = T)
    (fun p => b.s.length - p.1) (0, [], false, (.mk 0 0 0 0 [], .mk 0 0 0 0 []))
    ((Sub.ghost 0 26 8).trans ((Sub.cell (b := 2) (i := 0) (o := 1) (c := .d (.v (.slice none 0 0))) (c' := .own 5 0 0 0) (by simp; rfl) rfl rfl (VLe.nil_own (k := ⟨0, true, 26, 8, []⟩) (by simp) rfl)).trans
      ((Sub.cell (b := 3) (i := 0) (o := 4) (c := .d (.v (.slice none 0 0))) (c' := .d (.sl 5 [])) (by simp [setEls]; rfl) rfl rfl (VLe.nil_sl 5)).trans
        (Sub.cell (b := 4) (i := 0) (o := 4) (c := .d (.v (.slice none 0 0))) (c' := .d (.sl 5 [])) (by simp [setEls]; rfl) rfl rfl (VLe.nil_sl 5))))) 6 (by omega) (by simp [setEls]) (by simp) ⟨by omega, rfl, by simpa using hT⟩ ?_
  rintro ⟨k, W, act, q⟩ ⟨hi, hW, hx⟩ K hK
  simp only at hi hW hx hK ⊢
  rcases Nat.lt_or_ge k b.s.length with hlt | hge
  case inr =>
    obtain rfl : k = b.s.length := by omega
    have hWT : W = T := by
      rw [List.drop_length] at hx
      cases act <;> simpa [blockS] using hx
    subst hWT
    have nl : List.take b.s.length (dEls (sts W)) = dEls (sts W) := List.take_of_length_le (by simp [hW])
    simp [hW, nl]
  obtain ⟨s, hs⟩ : ∃ s, b.s[k]? = some s := ⟨_, List.getElem?_eq_getElem hlt⟩
  have hs2 := (List.getElem?_eq_some_iff.1 hs).2
  have hsm := List.mem_of_getElem? hs
  have hd : b.s.drop k = s :: b.s.drop (k + 1) := by rw [List.drop_eq_getElem_cons hlt, hs2]
  have ns := hn s hsm
  simp [hlt]
  have cc := q23match_af b.s k hlt (by omega)
  have hfour : ∀ p, matchS (b.s.drop k) = some p → ∃ s0 s1 s2 s3 r, b.s.drop k = s0 :: s1 :: s2 :: s3 :: r := fun p hp => by
    unfold matchS at hp
    split at hp
    · exact cmp_four ‹_›
    · cases hp
  obtain ⟨M, hm⟩ : ∃ M, matchS (b.s.drop k) = M := ⟨_, rfl⟩
  rw [hm] at cc
  cases M with
  | none =>
    simp only [matA] at cc
    refine aCall_of cc (by simp) (by simp [Ex.d_eq]) ?_; simp [Ex.d_eq]
    have co1 := q23occurs_af s.va q.1
    have co2 := q23occurs_af s.va q.2
    have hEd : endsB q s = (decide (s.op = 5) || (decide (s.op = 1) || decide (s.op = 3)) && (decide (8 ≤ s.va ∧ s.va ≤ 11) || occB s.va q.1 || occB s.va q.2)) := rfl
    cases act
    · simp at hx
      simp [hlt, hs, hs2, St.d_eq]
      refine aRaw_app byt_28 ?_
      simp [hW]
      refine ⟨by unfold maxLen; omega, by omega, ?_⟩
      try simp [St.d_eq]
      by_cases h5 : s.op = 5
      · simp [h5]
        have hE : endsB q s = true := by rw [hEd]; simp [*]
        try simp [succ_wrap hlt hbl]
        refine hK (k + 1, W ++ [s], false, q) ⟨by simp only; omega, by simp [hW], ?_⟩ (by simp only; omega) (Sub.refl _ _ _) 6 (by omega) (by simp [hW, St.d_eq, fuseSt] <;> omega) (by simp)
        rw [← hx, hd, blockS, ← hd, hm]
        simp [hE]
      by_cases h1 : s.op = 1 ∨ s.op = 3
      case neg =>
        have g1 : ¬ s.op = 1 := fun h => h1 (.inl h)
        have g3 : ¬ s.op = 3 := fun h => h1 (.inr h)
        simp [h5, g1, g3]
        have hE : endsB q s = false := by rw [hEd]; simp [*]
        try simp [succ_wrap hlt hbl]
        refine hK (k + 1, W ++ [s], false, q) ⟨by simp only; omega, by simp [hW], ?_⟩ (by simp only; omega) (Sub.refl _ _ _) 6 (by omega) (by simp [hW, St.d_eq, fuseSt] <;> omega) (by simp)
        rw [← hx, hd, blockS, ← hd, hm]
        simp [hE]
      have hop : (decide (s.op = 1) || decide (s.op = 3)) = true := by simpa using h1
      have h5' : s.op ≠ 5 := h5
      rw [hop] at hEd
      rcases h1 with h1 | h1
      case' inl => simp [h1]
      case' inr => simp [h1]
      all_goals
        by_cases h8 : 8 ≤ s.va
        case' pos =>
          by_cases h12 : s.va < 12
          · have h11 : s.va ≤ 11 := by omega
            simp [h8, h12]
            have hE : endsB q s = true := by rw [hEd]; simp [*]
            try simp [succ_wrap hlt hbl]
            refine hK (k + 1, W ++ [s], false, q) ⟨by simp only; omega, by simp [hW], ?_⟩ (by simp only; omega) (Sub.refl _ _ _) 6 (by omega) (by simp [hW, St.d_eq, fuseSt] <;> omega) (by simp)
            rw [← hx, hd, blockS, ← hd, hm]
            simp [hE]
          have h11 : ¬ s.va ≤ 11 := by omega
          simp [h8, h12]
        case' neg =>
          simp [h8]
        all_goals
          cases hp : occB s.va q.1 <;> rw [hp] at co1 hEd
          case' true =>
            refine aCall_of (co1) (by simp) (by simp [Ex.d_eq]) ?_; simp [Ex.d_eq]
            have hE : endsB q s = true := by rw [hEd]; simp [*]
            try simp [succ_wrap hlt hbl]
            refine hK (k + 1, W ++ [s], false, q) ⟨by simp only; omega, by simp [hW], ?_⟩ (by simp only; omega) (Sub.refl _ _ _) 6 (by omega) (by simp [hW, St.d_eq, fuseSt] <;> omega) (by simp)
            rw [← hx, hd, blockS, ← hd, hm]
            simp [hE]
          case' false =>
            refine aCall_of (co1) (by simp) (by simp [Ex.d_eq]) ?_; simp [Ex.d_eq]
            cases hp2 : occB s.va q.2 <;> rw [hp2] at co2 hEd
            case' true =>
              refine aCall_of (co2) (by simp) (by simp [Ex.d_eq]) ?_; simp [Ex.d_eq]
              have hE : endsB q s = true := by rw [hEd]; simp [*]
              try simp [succ_wrap hlt hbl]
              refine hK (k + 1, W ++ [s], false, q) ⟨by simp only; omega, by simp [hW], ?_⟩ (by simp only; omega) (Sub.refl _ _ _) 6 (by omega) (by simp [hW, St.d_eq, fuseSt] <;> omega) (by simp)
              rw [← hx, hd, blockS, ← hd, hm]
              simp [hE]
            case' false =>
              refine aCall_of (co2) (by simp) (by simp [Ex.d_eq]) ?_; simp [Ex.d_eq]
              have hE : endsB q s = false := by rw [hEd]; simp [*]
              try simp [succ_wrap hlt hbl]
              refine hK (k + 1, W ++ [s], false, q) ⟨by simp only; omega, by simp [hW], ?_⟩ (by simp only; omega) (Sub.refl _ _ _) 6 (by omega) (by simp [hW, St.d_eq, fuseSt] <;> omega) (by simp)
              rw [← hx, hd, blockS, ← hd, hm]
              simp [hE]
    · simp at hx
      simp [hlt, hs, hs2, St.d_eq]
      have hlen : s.e.length ≤ Ex.nodess s.e := Ex.nodess_len s.e
      have n1 : s.e.length ≤ maxLen := by unfold maxLen; omega
      refine aLoop_st (fun i : Nat => [(1, .ptr 0 0 0 0), (2, .ptr 1 0 0 0), (3, .ptr 2 0 0 0), (4, aB true), (5, .ptr 3 0 0 0), (6, .ptr 4 0 0 0), (7, aI .i64 k), (12, .ptr 8 0 0 0), (13, .own 9 i 0 i), (14, aI .i64 i)])
        (fun i => [bB b, blZ, outR b.ad k, bxE q.1, bxE q.2, arrB W, bxE (.mk 0 0 0 0 []), bxE (.mk 0 0 0 0 []), ⟨0, true, 26, 8, [s.d.map AV.d]⟩, ⟨i, true, 38, 5, dEls (Ex.ds ((s.e.take i).map (fuseS q.1 q.2)))⟩])
        (fun i => i ≤ s.e.length) (fun i => s.e.length - i) 0 ((Sub.ghost 0 38 5).trans (Sub.slot (s := 13) (c := .own 9 0 0 0) (by simp; exact VLe.nil_own (k := ⟨0, true, 38, 5, []⟩) (by simp) rfl))) 10 (by omega) (by simp [hW, St.d_eq]) (by simp [hW]) (by omega) ?_
      rintro i hi2 K2 hK2
      rcases Nat.lt_or_ge i s.e.length with hlt2 | hge2
      case inl =>
        obtain ⟨y, hy⟩ : ∃ y, s.e[i]? = some y := ⟨_, List.getElem?_eq_getElem hlt2⟩
        have hy2 := (List.getElem?_eq_some_iff.1 hy).2
        have hmin : min i s.e.length = i := by omega
        have hyn := Ex.nodess_mem (List.mem_of_getElem? hy)
        simp [hlt2, hy, hy2, St.d_eq, Ex.d_eq]
        refine adraw2 10 [] (by kernel_rfl) (by kernel_rfl) (by kernel_rfl) (by kernel_rfl) (by kernel_rfl) ?_
        simp [hlt2, hy, hy2, St.d_eq, Ex.d_eq]
        refine adC_of (q23fuse_af q.1 q.2 y (by omega)) (by simp) trivial (by simp) (by simp) ?_
        simp [hmin, Ex.d_eq]
        refine aRaw_app byt_23 ?_
        simp [hmin, Ex.d_eq]
        refine ⟨by unfold maxLen; omega, by omega, ?_⟩
        simp [succ_wrap hlt2 n1]
        refine hK2 (i + 1) (by omega) (by omega) (Sub.refl _ _ _) 10 (by omega) ?_ (by simp)
        simp [St.d_eq, hW]
        rw [List.take_add_one (l := s.e.map (fuseS q.1 q.2)), List.getElem?_map, hy]
        simp [Ex.ds_map, dEls, Ex.d_eq, List.map_take]
      obtain rfl : i = s.e.length := by omega
      rw [List.take_length]
      have hlF : s.e.length = (s.e.map (fuseS q.1 q.2)).length := by simp
      simp [St.d_eq]
      refine aRaw_app byt_28 ?_
      simp [hW]
      refine ⟨by unfold maxLen; omega, by omega, ?_⟩
      try simp [St.d_eq]
      have hSf : ∀ (e : AEnv) (B0 B1 B2 B3 B4 B6 B7 B8 : Blk) (N : AHeap) (v u : Nat) (c0 c1 c2 c3 c4 c5 c7 : AV), _ := fun e B0 B1 B2 B3 B4 B6 B7 B8 N v u c0 c1 c2 c3 c4 c5 c7 => sub_fuse e B0 B1 B2 B3 B4 B6 B7 B8 N v u c0 c1 c2 c3 c4 c5 c7 (s.e.map (fuseS q.1 q.2)) W
      simp only [List.length_map] at hSf
      by_cases h5 : s.op = 5
      · simp [h5]
        have hE : endsB q s = true := by rw [hEd]; simp [*]
        try simp [succ_wrap hlt hbl]
        refine hK (k + 1, W ++ [fuseSt q s], false, q) ⟨by simp only; omega, by simp [hW], ?_⟩ (by simp only; omega) (hSf _ _ _ _ _ _ _ _ _ _ _ _ _ _ _ _ _ _ _) 6 (by omega) (by simp [hW, St.d_eq, fuseSt] <;> omega) (by simp)
        rw [← hx, hd, blockS, ← hd, hm]
        simp [hE]
      by_cases h1 : s.op = 1 ∨ s.op = 3
      case neg =>
        have g1 : ¬ s.op = 1 := fun h => h1 (.inl h)
        have g3 : ¬ s.op = 3 := fun h => h1 (.inr h)
        simp [h5, g1, g3]
        have hE : endsB q s = false := by rw [hEd]; simp [*]
        try simp [succ_wrap hlt hbl]
        refine hK (k + 1, W ++ [fuseSt q s], true, q) ⟨by simp only; omega, by simp [hW], ?_⟩ (by simp only; omega) (hSf _ _ _ _ _ _ _ _ _ _ _ _ _ _ _ _ _ _ _) 6 (by omega) (by simp [hW, St.d_eq, fuseSt] <;> omega) (by simp)
        rw [← hx, hd, blockS, ← hd, hm]
        simp [hE]
      have hop : (decide (s.op = 1) || decide (s.op = 3)) = true := by simpa using h1
      have h5' : s.op ≠ 5 := h5
      rw [hop] at hEd
      rcases h1 with h1 | h1
      case' inl => simp [h1]
      case' inr => simp [h1]
      all_goals
        by_cases h8 : 8 ≤ s.va
        case' pos =>
          by_cases h12 : s.va < 12
          · have h11 : s.va ≤ 11 := by omega
            simp [h8, h12]
            have hE : endsB q s = true := by rw [hEd]; simp [*]
            try simp [succ_wrap hlt hbl]
            refine hK (k + 1, W ++ [fuseSt q s], false, q) ⟨by simp only; omega, by simp [hW], ?_⟩ (by simp only; omega) (hSf _ _ _ _ _ _ _ _ _ _ _ _ _ _ _ _ _ _ _) 6 (by omega) (by simp [hW, St.d_eq, fuseSt] <;> omega) (by simp)
            rw [← hx, hd, blockS, ← hd, hm]
            simp [hE]
          have h11 : ¬ s.va ≤ 11 := by omega
          simp [h8, h12]
        case' neg =>
          simp [h8]
        all_goals
          cases hp : occB s.va q.1 <;> rw [hp] at co1 hEd
          case' true =>
            refine aCall_of (co1) (by simp) (by simp [Ex.d_eq]) ?_; simp [Ex.d_eq]
            have hE : endsB q s = true := by rw [hEd]; simp [*]
            try simp [succ_wrap hlt hbl]
            refine hK (k + 1, W ++ [fuseSt q s], false, q) ⟨by simp only; omega, by simp [hW], ?_⟩ (by simp only; omega) (hSf _ _ _ _ _ _ _ _ _ _ _ _ _ _ _ _ _ _ _) 6 (by omega) (by simp [hW, St.d_eq, fuseSt] <;> omega) (by simp)
            rw [← hx, hd, blockS, ← hd, hm]
            simp [hE]
          case' false =>
            refine aCall_of (co1) (by simp) (by simp [Ex.d_eq]) ?_; simp [Ex.d_eq]
            cases hp2 : occB s.va q.2 <;> rw [hp2] at co2 hEd
            case' true =>
              refine aCall_of (co2) (by simp) (by simp [Ex.d_eq]) ?_; simp [Ex.d_eq]
              have hE : endsB q s = true := by rw [hEd]; simp [*]
              try simp [succ_wrap hlt hbl]
              refine hK (k + 1, W ++ [fuseSt q s], false, q) ⟨by simp only; omega, by simp [hW], ?_⟩ (by simp only; omega) (hSf _ _ _ _ _ _ _ _ _ _ _ _ _ _ _ _ _ _ _) 6 (by omega) (by simp [hW, St.d_eq, fuseSt] <;> omega) (by simp)
              rw [← hx, hd, blockS, ← hd, hm]
              simp [hE]
            case' false =>
              refine aCall_of (co2) (by simp) (by simp [Ex.d_eq]) ?_; simp [Ex.d_eq]
              have hE : endsB q s = false := by rw [hEd]; simp [*]
              try simp [succ_wrap hlt hbl]
              refine hK (k + 1, W ++ [fuseSt q s], true, q) ⟨by simp only; omega, by simp [hW], ?_⟩ (by simp only; omega) (hSf _ _ _ _ _ _ _ _ _ _ _ _ _ _ _ _ _ _ _) 6 (by omega) (by simp [hW, St.d_eq, fuseSt] <;> omega) (by simp)
              rw [← hx, hd, blockS, ← hd, hm]
              simp [hE]
  | some p =>
    simp only [matA] at cc
    refine aCall_of cc (by simp) (by simp [Ex.d_eq]) ?_; simp [Ex.d_eq]
    obtain ⟨s0, s1, s2, s3, r, h4⟩ := hfour p hm
    have hlen4 : k + 4 ≤ b.s.length := by
      have := congrArg List.length h4
      simp at this
      omega
    have a0 : b.s[k]? = some s0 := by have := congrArg (fun x => x[0]?) h4; simpa using this
    have a1 : b.s[k + 1]? = some s1 := by have := congrArg (fun x => x[1]?) h4; simpa using this
    have a2 : b.s[k + 2]? = some s2 := by have := congrArg (fun x => x[2]?) h4; simpa using this
    have a3 : b.s[k + 3]? = some s3 := by have := congrArg (fun x => x[3]?) h4; simpa using this
    have b0 := (List.getElem?_eq_some_iff.1 a0).2
    have b1 := (List.getElem?_eq_some_iff.1 a1).2
    have b2 := (List.getElem?_eq_some_iff.1 a2).2
    have b3 := (List.getElem?_eq_some_iff.1 a3).2
    have l0 := hlt
    have l1 : k + 1 < b.s.length := by omega
    have l2 : k + 2 < b.s.length := by omega
    have l3 : k + 3 < b.s.length := by omega
    have w0 : IntKind.i64.wrap (k : Int) = k := i64w (by omega)
    have w1 : IntKind.i64.wrap ((k : Int) + 1) = k + 1 := i64w (by omega)
    have w2 : IntKind.i64.wrap ((k : Int) + 2) = k + 2 := i64w (by omega)
    have w3 : IntKind.i64.wrap ((k : Int) + 3) = k + 3 := i64w (by omega)
    have w4 : IntKind.i64.wrap ((k : Int) + 4) = k + 4 := i64w (by omega)
    have z1 : 0 ≤ (k : Int) + 1 := by omega
    have z2 : 0 ≤ (k : Int) + 2 := by omega
    have z3 : 0 ≤ (k : Int) + 3 := by omega
    have t1 : ((k : Int) + 1).toNat = k + 1 := by omega
    have t2 : ((k : Int) + 2).toNat = k + 2 := by omega
    have t3 : ((k : Int) + 3).toNat = k + 3 := by omega
    refine aLoop_iter 5 ?_; simp [Ex.d_eq]
    refine adraw2 10 [] (by kernel_rfl) (by kernel_rfl) (by kernel_rfl) (by kernel_rfl) (by kernel_rfl) ?_
    simp [w0, w1, w2, w3, l0, l1, l2, l3, z1, z2, z3, t1, t2, t3, a0, b0, St.d_eq]
    refine aRaw_app byt_28 ?_
    simp [hW]
    refine ⟨by unfold maxLen; omega, by omega, ?_⟩
    try simp [w0, w1, w2, w3]
    refine adraw2 10 [] (by kernel_rfl) (by kernel_rfl) (by kernel_rfl) (by kernel_rfl) (by kernel_rfl) ?_
    simp [w0, w1, w2, w3, l0, l1, l2, l3, z1, z2, z3, t1, t2, t3, a1, b1, St.d_eq]
    refine aRaw_app byt_28 ?_
    simp [hW]
    refine ⟨by unfold maxLen; omega, by omega, ?_⟩
    try simp [w0, w1, w2, w3]
    refine adraw2 10 [] (by kernel_rfl) (by kernel_rfl) (by kernel_rfl) (by kernel_rfl) (by kernel_rfl) ?_
    simp [w0, w1, w2, w3, l0, l1, l2, l3, z1, z2, z3, t1, t2, t3, a2, b2, St.d_eq]
    refine aRaw_app byt_28 ?_
    simp [hW]
    refine ⟨by unfold maxLen; omega, by omega, ?_⟩
    try simp [w0, w1, w2, w3]
    refine adraw2 10 [] (by kernel_rfl) (by kernel_rfl) (by kernel_rfl) (by kernel_rfl) (by kernel_rfl) ?_
    simp [w0, w1, w2, w3, l0, l1, l2, l3, z1, z2, z3, t1, t2, t3, a3, b3, St.d_eq]
    refine aRaw_app byt_28 ?_
    simp [hW]
    refine ⟨by unfold maxLen; omega, by omega, ?_⟩
    try simp [w0, w1, w2, w3]
    try simp [w4]
    have hx2 : W ++ (s0 :: s1 :: s2 :: s3 :: blockS (some p) 0 r) = T := by
      rw [← hx, h4, block_match _ (by rw [← h4]; exact hm)]
      simp [blockS]
    have hr : b.s.drop (k + 4) = r := by
      have := congrArg (List.drop 4) h4
      simpa [List.drop_drop] using this
    refine hK (k + 4, W ++ [s0, s1, s2, s3], true, p) ⟨by simp only; omega, by simp [hW], ?_⟩ (by simp only; omega) (Sub.refl _ _ _) 6 (by omega) (by simp [hW, St.d_eq]) (by simp)
    simp only [hr, if_true]
    rw [← hx2]
    simp
end Go.Proofs.YtlidimmfpfockaaGreatDoor

/- Contracts: FlagVars, of flagfuse and of the reference; the law FlagfuseBlocks answers true. -/
namespace Go.Proofs.YtlidimmfpfockaaGreatDoor
open Go.RowKit
theorem flagvars2_ac (x : Ex) (v : Int) (A N : AHeap) (c : Nat) (hc : A[c]? = some (cellI v)) (hn : x.nodes ≤ 1000000) : AC Tryz.prog 99 [exA x, .ptr c 0 0 0] (A ++ N) (Same0 A (aB (occB v x))) := by
  have hlt : c < A.length := (List.getElem?_eq_some_iff.1 hc).1
  have va := varsR_len x
  have ca := containsin_af (varsR x) v (by unfold maxLen; omega)
  rw [show decide (v ∈ varsR x) = occB v x from decide_eq_decide.2 varsR_mem] at ca
  have hA : (A ++ N)[c]? = some (cellI v) := by rw [List.getElem?_append_left hlt]; exact hc
  obtain ⟨M, hM⟩ : ∃ M, A ++ N = M := ⟨_, rfl⟩
  rw [hM] at hA ⊢
  have hlt2 : c < M.length := (List.getElem?_eq_some_iff.1 hA).1
  refine ac_of Tryz.func99 rfl (by kernel_rfl) (by simp [Tryz.ntmps99]) fun hb => ?_
  simp [Tryz.f99]
  refine adraw [] (by kernel_rfl) (by kernel_rfl) (by kernel_rfl) (by kernel_rfl) ?_; simp [Ex.d_eq]
  refine adC_of (ilvars_af x hn) (by simp) trivial (by simp) (by simp [Ex.d_eq]) ?_; simp [Ex.d_eq]
  have hA2 : (M ++ [bxE x])[c]? = some (cellI v) := by rw [List.getElem?_append_left hlt2]; exact hA
  simp [hA, hA2, List.getElem?_append_left hlt2]
  refine ⟨by omega, ?_⟩
  refine adC_of (ca) (by simp) trivial (by simp) (by simp [Ex.d_eq]) ?_; simp [Ex.d_eq]
  simp [Same0]
  exact ⟨N ++ [bxE x], by rw [← hM]; simp⟩
theorem flagvars1_ac (s : St) (v : Int) (A N : AHeap) (c : Nat) (hc : A[c]? = some (cellI v)) (hn : ∀ e ∈ s.e, e.nodes ≤ 1000000) : AC Tryz.prog 97 [stV s, .ptr c 0 0 0] (A ++ N) (Same0 A (aB (s.e.any (occB v)))) := by
  have hlt : c < A.length := (List.getElem?_eq_some_iff.1 hc).1
  have hc2 : (A ++ (N ++ [⟨0, true, 26, 8, [stQ s (.d (.sl 5 (Ex.ds s.e))) (.d (.sl 1 (i64s s.cs)))]⟩]))[c]? = some (cellI v) := by
    rw [List.getElem?_append_left hlt]; exact hc
  refine ac_of Tryz.func97 rfl (by kernel_rfl) (by simp [Tryz.ntmps97]) fun hb => ?_
  simp [Tryz.f97]
  have hC := containsFunc_ac (f := 99) (fs := []) (cs := [.ptr c 0 0 0]) (p := occB v) (A ++ (N ++ [⟨0, true, 26, 8, [stQ s (.d (.sl 5 (Ex.ds s.e))) (.d (.sl 1 (i64s s.cs)))]⟩])) s.e (by simp) fun a ha N2 => by
    have := flagvars2_ac a v (A ++ (N ++ [⟨0, true, 26, 8, [stQ s (.d (.sl 5 (Ex.ds s.e))) (.d (.sl 1 (i64s s.cs)))]⟩])) N2 c hc2 (hn a ha)
    simpa using this
  refine aCall_ofc hC (by simp) ?_
  rintro _ _ ⟨rfl, N', rfl⟩
  simp [Same0]
def flagL (b : Bl) : List Int := ([8, 9, 10, 11] : List Int).filter fun v => b.s.any fun s => s.e.any (occB v)
theorem ffflagvars_af (b : Bl) (hn : ∀ s ∈ b.s, ∀ e ∈ s.e, e.nodes ≤ 1000000) : AF Tryz.prog 35 [blV b] (.d (.sl 1 (i64s (flagL b)))) := by
  have hst : ∀ (A : AHeap) (v : Int) (c : Nat), A[c]? = some (cellI v) → AC Tryz.prog 96 [.d (.sl 8 (sts b.s)), .fn 97 [] [.ptr c 0 0 0]] A fun r A' => r = aB (b.s.any fun s => s.e.any (occB v)) ∧ A' = A.map (clnB A.length) := fun A v c hc =>
    (contains_st_ac (f := 97) (fs := []) (cs := [.ptr c 0 0 0]) (p := fun s => s.e.any (occB v)) A b.s (by simp) fun s hs N => by
      have := flagvars1_ac s v A N c hc (hn s hs)
      simpa using this).drop
  have hF : flagL b = (if b.s.any (fun s => s.e.any (occB 8)) = true then [8] else []) ++ ((if b.s.any (fun s => s.e.any (occB 9)) = true then [9] else []) ++ ((if b.s.any (fun s => s.e.any (occB 10)) = true then [10] else []) ++ (if b.s.any (fun s => s.e.any (occB 11)) = true then [11] else []))) := by
    simp only [flagL, List.filter_cons, List.filter_nil]
    repeat' split
    all_goals simp
  rw [hF]
  have h8 := fun A c => hst A 8 c
  have h9 := fun A c => hst A 9 c
  have h10 := fun A c => hst A 10 c
  have h11 := fun A c => hst A 11 c
  clear hst hF hn
  generalize (b.s.any fun s => s.e.any (occB 8)) = g8 at *
  generalize (b.s.any fun s => s.e.any (occB 9)) = g9 at *
  generalize (b.s.any fun s => s.e.any (occB 10)) = g10 at *
  generalize (b.s.any fun s => s.e.any (occB 11)) = g11 at *
  refine af_of Tryz.func35 rfl (by kernel_rfl) (by simp [Tryz.ntmps35]) fun _ => ?_; simp [Tryz.f35, Ex.d_eq]
  refine aLoop_iter 5 ?_; simp [Ex.d_eq]
  refine aCall_ofc (h8 _ _ rfl) (by simp) ?_
  rintro _ _ ⟨rfl, rfl⟩
  simp
  cases g8
  case false =>
    try simp
    refine aCall_ofc (h9 _ _ rfl) (by simp) ?_
    rintro _ _ ⟨rfl, rfl⟩
    simp
    cases g9
    case false =>
      try simp
      refine aCall_ofc (h10 _ _ rfl) (by simp) ?_
      rintro _ _ ⟨rfl, rfl⟩
      simp
      cases g10
      case false =>
        try simp
        refine aCall_ofc (h11 _ _ rfl) (by simp) ?_
        rintro _ _ ⟨rfl, rfl⟩
        simp
        cases g11
        case false =>
          try simp
        case true =>
          simp
          refine aRaw_app byt_24 ?_
          simp
          unfold maxLen
          omega
      case true =>
        simp
        refine aRaw_app byt_24 ?_
        simp
        refine ⟨by unfold maxLen; omega, ?_⟩
        try simp
        refine aCall_ofc (h11 _ _ rfl) (by simp) ?_
        rintro _ _ ⟨rfl, rfl⟩
        simp
        cases g11
        case false =>
          try simp
        case true =>
          simp
          refine aRaw_app byt_24 ?_
          simp
          unfold maxLen
          omega
    case true =>
      simp
      refine aRaw_app byt_24 ?_
      simp
      refine ⟨by unfold maxLen; omega, ?_⟩
      try simp
      refine aCall_ofc (h10 _ _ rfl) (by simp) ?_
      rintro _ _ ⟨rfl, rfl⟩
      simp
      cases g10
      case false =>
        try simp
        refine aCall_ofc (h11 _ _ rfl) (by simp) ?_
        rintro _ _ ⟨rfl, rfl⟩
        simp
        cases g11
        case false =>
          try simp
        case true =>
          simp
          refine aRaw_app byt_24 ?_
          simp
          unfold maxLen
          omega
      case true =>
        simp
        refine aRaw_app byt_24 ?_
        simp
        refine ⟨by unfold maxLen; omega, ?_⟩
        try simp
        refine aCall_ofc (h11 _ _ rfl) (by simp) ?_
        rintro _ _ ⟨rfl, rfl⟩
        simp
        cases g11
        case false =>
          try simp
        case true =>
          simp
          refine aRaw_app byt_24 ?_
          simp
          unfold maxLen
          omega
  case true =>
    simp
    refine aRaw_app byt_24 ?_
    simp
    refine ⟨by unfold maxLen; omega, ?_⟩
    try simp
    refine aCall_ofc (h9 _ _ rfl) (by simp) ?_
    rintro _ _ ⟨rfl, rfl⟩
    simp
    cases g9
    case false =>
      try simp
      refine aCall_ofc (h10 _ _ rfl) (by simp) ?_
      rintro _ _ ⟨rfl, rfl⟩
      simp
      cases g10
      case false =>
        try simp
        refine aCall_ofc (h11 _ _ rfl) (by simp) ?_
        rintro _ _ ⟨rfl, rfl⟩
        simp
        cases g11
        case false =>
          try simp
        case true =>
          simp
          refine aRaw_app byt_24 ?_
          simp
          unfold maxLen
          omega
      case true =>
        simp
        refine aRaw_app byt_24 ?_
        simp
        refine ⟨by unfold maxLen; omega, ?_⟩
        try simp
        refine aCall_ofc (h11 _ _ rfl) (by simp) ?_
        rintro _ _ ⟨rfl, rfl⟩
        simp
        cases g11
        case false =>
          try simp
        case true =>
          simp
          refine aRaw_app byt_24 ?_
          simp
          unfold maxLen
          omega
    case true =>
      simp
      refine aRaw_app byt_24 ?_
      simp
      refine ⟨by unfold maxLen; omega, ?_⟩
      try simp
      refine aCall_ofc (h10 _ _ rfl) (by simp) ?_
      rintro _ _ ⟨rfl, rfl⟩
      simp
      cases g10
      case false =>
        try simp
        refine aCall_ofc (h11 _ _ rfl) (by simp) ?_
        rintro _ _ ⟨rfl, rfl⟩
        simp
        cases g11
        case false =>
          try simp
        case true =>
          simp
          refine aRaw_app byt_24 ?_
          simp
          unfold maxLen
          omega
      case true =>
        simp
        refine aRaw_app byt_24 ?_
        simp
        refine ⟨by unfold maxLen; omega, ?_⟩
        try simp
        refine aCall_ofc (h11 _ _ rfl) (by simp) ?_
        rintro _ _ ⟨rfl, rfl⟩
        simp
        cases g11
        case false =>
          try simp
        case true =>
          simp
          refine aRaw_app byt_24 ?_
          simp
          unfold maxLen
          omega
end Go.Proofs.YtlidimmfpfockaaGreatDoor

/- Contracts: the reference's FlagVars; the law FlagfuseBlocks answers true. -/
namespace Go.Proofs.YtlidimmfpfockaaGreatDoor
open Go.RowKit
theorem flags_step {j : Nat} (h : j < 4) : List.take (j + 1) ([8, 9, 10, 11] : List Int) = List.take j [8, 9, 10, 11] ++ [8 + (j : Int)] := by
  rcases (show j = 0 ∨ j = 1 ∨ j = 2 ∨ j = 3 by omega) with rfl | rfl | rfl | rfl <;> rfl
theorem q23flagvars_af (b : Bl) (hl : b.s.length ≤ maxLen) (he : ∀ s ∈ b.s, s.e.length ≤ maxLen) : AF Tryz.prog 36 [blV b] (.d (.sl 1 (i64s (flagL b)))) := by
  refine af_of Tryz.func36 rfl (by kernel_rfl) (by simp [Tryz.ntmps36]) fun _ => ?_; simp [Tryz.f36, Ex.d_eq]
  refine aLoop_st (α := Nat × List Int) (fun p => [(1, .ptr 0 0 0 0), (3, .own 1 p.2.length 0 p.2.length), (4, aI .i64 (8 + (p.1 : Int)))]) (fun p => [bB b, ⟨p.2.length, true, 3, 1, dEls (i64s p.2)⟩])
    (fun p => p.1 ≤ 4 ∧ p.2 = (([8, 9, 10, 11] : List Int).take p.1).filter fun v => b.s.any fun s => s.e.any (occB v)) (fun p => 4 - p.1) (0, []) ((Sub.ghost 0 3 1).trans (Sub.slot (s := 3) (c := .own 1 0 0 0) (by simp; exact VLe.nil_own (k := ⟨0, true, 3, 1, []⟩) (by simp) rfl))) 2 (by omega) (by simp) (by simp) ⟨by omega, by simp⟩ ?_
  rintro ⟨j, W⟩ ⟨hj, hW⟩ K hK
  simp only at hj hW hK ⊢
  have hWl : W.length ≤ 4 := by
    rw [hW]
    refine Nat.le_trans (List.length_filter_le _ _) ?_
    simp
    omega
  rcases Nat.lt_or_ge j 4 with hlt | hge
  case inr =>
    obtain rfl : j = 4 := by omega
    have : W = flagL b := by rw [hW]; rfl
    subst this
    simp
  have h12 : (8 : Int) + j < 12 := by omega
  have hw1 : IntKind.i64.wrap (8 + (j : Int) + 1) = 8 + ((j + 1 : Nat) : Int) := by rw [i64w (by omega)]; omega
  have hst := flags_step hlt
  obtain ⟨v, hv⟩ : ∃ v : Int, 8 + (j : Int) = v := ⟨_, rfl⟩
  rw [hv] at h12 hw1 hst ⊢
  simp [h12]
  refine aLoop_st (fun i : Nat => [(1, .ptr 0 0 0 0), (3, .own 1 W.length 0 W.length), (4, aI .i64 v), (5, aB ((b.s.take i).any fun s => s.e.any (occB v))), (6, aI .i64 i)]) (fun _ => [bB b, ⟨W.length, true, 3, 1, dEls (i64s W)⟩])
    (fun i => i ≤ b.s.length) (fun i => b.s.length - i) 0 (Sub.refl _ _ _) 2 (by omega) (by simp) (by simp) (by omega) ?_
  rintro i hi K2 hK2
  rcases Nat.lt_or_ge i b.s.length with hlt2 | hge2
  case inr =>
    obtain rfl : i = b.s.length := by omega
    rw [List.take_length]
    cases hf : (b.s.any fun s => s.e.any (occB v))
    · simp [hw1]
      refine hK (j + 1, W) ⟨by simp only; omega, ?_⟩ (by simp only; omega) (Sub.refl _ _ _) 2 (by omega) (by simp) (by simp)
      simp only
      rw [hst, List.filter_append, ← hW]
      simp [hf]
    · simp
      refine aRaw_app byt_24 ?_
      simp
      refine ⟨by unfold maxLen; omega, by omega, ?_⟩
      simp [hw1]
      refine hK (j + 1, W ++ [v]) ⟨by simp only; omega, ?_⟩ (by simp only; omega) (Sub.refl _ _ _) 2 (by omega) (by simp) (by simp)
      simp only
      rw [hst, List.filter_append, ← hW]
      simp [hf]
  obtain ⟨s, hs⟩ : ∃ s, b.s[i]? = some s := ⟨_, List.getElem?_eq_getElem hlt2⟩
  have hs2 := (List.getElem?_eq_some_iff.1 hs).2
  have hel := he s (List.mem_of_getElem? hs)
  have hta : ((b.s.take (i + 1)).any fun s => s.e.any (occB v)) = (((b.s.take i).any fun s => s.e.any (occB v)) || s.e.any (occB v)) := by
    rw [List.take_add_one, hs, List.any_append]
    simp
  generalize ((b.s.take i).any fun s => s.e.any (occB v)) = F at *
  simp [hlt2]
  refine aLoop_st (fun k : Nat => [(1, .ptr 0 0 0 0), (3, .own 1 W.length 0 W.length), (4, aI .i64 v), (5, aB (F || (s.e.take k).any (occB v))), (6, aI .i64 i), (7, aI .i64 k)]) (fun _ => [bB b, ⟨W.length, true, 3, 1, dEls (i64s W)⟩])
    (fun k => k ≤ s.e.length) (fun k => s.e.length - k) 0 (Sub.refl _ _ _) 2 (by omega) (by simp) (by simp) (by omega) ?_
  rintro k hk K3 hK3
  rcases Nat.lt_or_ge k s.e.length with hlt3 | hge3
  case inr =>
    obtain rfl : k = s.e.length := by omega
    rw [List.take_length]
    simp [hlt2, hs, hs2, St.d_eq, succ_wrap hlt2 hl]
    refine hK2 (i + 1) (by omega) (by omega) (Sub.refl _ _ _) 2 (by omega) (by simp) ?_
    rw [hta]
    simp
  obtain ⟨y, hy⟩ : ∃ y, s.e[k]? = some y := ⟨_, List.getElem?_eq_getElem hlt3⟩
  have hy2 := (List.getElem?_eq_some_iff.1 hy).2
  have htk : (s.e.take (k + 1)).any (occB v) = ((s.e.take k).any (occB v) || occB v y) := by
    rw [List.take_add_one, hy, List.any_append]
    simp
  have co := q23occurs_af v y
  simp [hlt2, hs, hs2, St.d_eq, hlt3, hy, hy2, Ex.d_eq]
  cases hG : (F || (s.e.take k).any (occB v))
  · simp only [Bool.or_eq_false_iff] at hG
    simp [hG.1, hG.2, hlt2, hs, hs2, St.d_eq, hlt3, hy, hy2, Ex.d_eq]
    refine aCall_of (co) (by simp) (by simp [Ex.d_eq]) ?_; simp [Ex.d_eq]
    simp [succ_wrap hlt3 hel]
    refine hK3 (k + 1) (by omega) (by omega) (Sub.refl _ _ _) 2 (by omega) (by simp) ?_
    rw [htk, hG.1, hG.2]
    simp
  · have hG2 : (F || (s.e.take (k + 1)).any (occB v)) = true := by
      rw [htk, ← Bool.or_assoc, hG]
      rfl
    simp only [Bool.or_eq_true] at hG
    simp [hG, succ_wrap hlt3 hel]
    refine hK3 (k + 1) (by omega) (by omega) (Sub.refl _ _ _) 2 (by omega) (by simp) ?_
    rw [hG2]
    simp
theorem block_mem {b : Bl} {t : St} (h : t ∈ blockS none 0 b.s) : ∃ s ∈ b.s, noE t = noE s ∧ t.e.length = s.e.length := by
  obtain ⟨q1, q2⟩ := block_shape b.s none 0
  obtain ⟨i, hi⟩ := List.getElem?_of_mem h
  have e1 := congrArg (fun l => l[i]?) q1
  have e2 := congrArg (fun l => l[i]?) q2
  simp only [List.getElem?_map, hi, Option.map_some] at e1 e2
  cases hs : b.s[i]? with
  | none => rw [hs] at e1; simp at e1
  | some s =>
    rw [hs] at e1 e2
    simp at e1 e2
    exact ⟨s, List.mem_of_getElem? hs, e1, e2⟩
theorem lawblocks23_af (b : Bl) (hcs : ∀ s ∈ b.s, s.cs.length ≤ 2000000) : AF Tryz.prog 8 [blV b] (aB true) := by
  refine af_of Tryz.func8 rfl (by kernel_rfl) (by simp [Tryz.ntmps8]) fun hb => ?_
  obtain ⟨h1, h2⟩ := bd_bl hb
  clear hb
  simp [Tryz.f8]
  have cl := large_af b h1 fun s hs => (h2 s hs).1
  cases hlg : largeB b <;> rw [hlg] at cl
  case true =>
    refine aCall_of cl (by simp) (by simp [Ex.d_eq]) ?_; simp [Ex.d_eq]
    refine aCall_of ex23_af (by simp) (by simp [Ex.d_eq]) ?_; simp [Ex.d_eq]
  refine aCall_of cl (by simp) (by simp [Ex.d_eq]) ?_; simp [Ex.d_eq]
  obtain ⟨l1, l2⟩ := large_small hlg
  have hsz : ∀ s ∈ b.s, s.e.length ≤ 1000000 ∧ s.cs.length ≤ 2000000 := fun s hs => by
    have := l2 s hs
    have := Ex.nodess_len s.e
    exact ⟨by omega, hcs s hs⟩
  have hn : ∀ s ∈ b.s, ∀ e ∈ s.e, e.nodes ≤ 1000000 := fun s hs e he => by
    have := l2 s hs
    have := Ex.nodess_mem he
    omega
  have cb := ffblock_af b (by omega) hsz hn
  have cq := q23block_af b (by omega) fun s hs => by have := l2 s hs; omega
  have hm : ∀ t ∈ blockS none 0 b.s, t.e.length ≤ maxLen ∧ t.cs.length ≤ maxLen := fun t ht => by
    obtain ⟨s, hs, e1, e2⟩ := block_mem ht
    have e3 : t.cs = s.cs := by
      have := congrArg St.cs e1
      exact this
    rw [e2, e3]
    exact h2 s hs
  have hTl : (blockS none 0 b.s).length = b.s.length := by simpa using congrArg List.length (block_shape b.s none 0).1
  obtain ⟨T, hT⟩ : ∃ T, blockS none 0 b.s = T := ⟨_, rfl⟩
  rw [hT] at cb cq hm hTl
  have cs := q23samebl_af ⟨b.ad, T⟩ (by simp only; omega) hm
  have c1 := ffflagvars_af b hn
  have c2 := q23flagvars_af b h1 fun s hs => (h2 s hs).1
  have hLl : (flagL b).length ≤ 4 := List.length_filter_le _ _
  obtain ⟨L, hL⟩ : ∃ L, flagL b = L := ⟨_, rfl⟩
  rw [hL] at c1 c2 hLl
  have hLm : L.length ≤ maxLen := by unfold maxLen; omega
  refine adraw [] (by kernel_rfl) (by kernel_rfl) (by kernel_rfl) (by kernel_rfl) ?_; simp [Ex.d_eq]
  refine adC_of (c1) (by simp) trivial (by simp) (by simp [Ex.d_eq]) ?_; simp [Ex.d_eq]
  refine adC_of (c2) (by simp) trivial (by simp) (by simp [Ex.d_eq]) ?_; simp [Ex.d_eq]
  refine aLoop_st (fun i : Nat => [(1, .ptr 0 0 0 0), (3, .d (.sl 1 (i64s L))), (4, .d (.sl 1 (i64s L))), (5, aI .i64 i)]) (fun _ => [bB b])
    (fun i => i ≤ L.length) (fun i => L.length - i) 0 (Sub.refl _ _ _) 1 (by omega) (by simp) (by simp) (by omega) ?_
  rintro i hi K hK
  rcases Nat.lt_or_ge i L.length with hlt | hge
  case inl =>
    obtain ⟨y, hy⟩ : ∃ y, L[i]? = some y := ⟨_, List.getElem?_eq_getElem hlt⟩
    have hy2 := (List.getElem?_eq_some_iff.1 hy).2
    simp [hlt]
    refine adraw [] (by kernel_rfl) (by kernel_rfl) (by kernel_rfl) (by kernel_rfl) ?_; simp [Ex.d_eq]
    simp [hlt, hy, hy2, succ_wrap hlt hLm]
    exact hK (i + 1) (by omega) (by omega) (Sub.refl _ _ _) 1 (by omega) (by simp) (by simp)
  obtain rfl : i = L.length := by omega
  simp
  refine adraw [] (by kernel_rfl) (by kernel_rfl) (by kernel_rfl) (by kernel_rfl) ?_; simp [Ex.d_eq]
  refine adC_of (cb) (by simp) trivial (by simp) (by simp [Ex.d_eq]) ?_; simp [Ex.d_eq]
  refine adC_of (cq) (by simp) trivial (by simp) (by simp [Ex.d_eq]) ?_; simp [Ex.d_eq]
  refine adC_of (cs) (by simp) trivial (by simp) (by simp [Ex.d_eq]) ?_; simp [Ex.d_eq]
  refine adC_of (ex23_af) (by simp) trivial (by simp) (by simp [Ex.d_eq]) ?_; simp [Ex.d_eq]
end Go.Proofs.YtlidimmfpfockaaGreatDoor

/- Contracts: Graph, of flagfuse and of the reference; the law FlagfuseGraphs answers true. -/
namespace Go.Proofs.YtlidimmfpfockaaGreatDoor
open Go.RowKit
/-- What a graph's statements are bounded by. -/
def GrSmall (g : Gr) : Prop := g.b.length ≤ 1000 ∧ ∀ b ∈ g.b, b.s.length ≤ 1000 ∧ ∀ s ∈ b.s, Ex.nodess s.e ≤ 1000000 ∧ s.cs.length ≤ 2000000
theorem small_fit23 {g : Gr} (h : GrSmall g) : GrFit g := by
  refine ⟨by have := h.1; omega, fun b hb => ?_⟩
  obtain ⟨h1, h2⟩ := h.2 b hb
  refine ⟨by omega, fun s hs => ?_⟩
  obtain ⟨h3, h4⟩ := h2 s hs
  have := Ex.nodess_len s.e
  exact ⟨by omega, by omega⟩
theorem blockG_fit {g : Gr} (h : GrSmall g) : GrFit (blockG g) := by
  refine ⟨by have := h.1; simp [blockG]; omega, fun b hb => ?_⟩
  simp only [blockG, List.mem_map] at hb
  obtain ⟨b0, hb0, rfl⟩ := hb
  obtain ⟨h1, h2⟩ := h.2 b0 hb0
  have hTl : (blockS none 0 b0.s).length = b0.s.length := by simpa using congrArg List.length (block_shape b0.s none 0).1
  refine ⟨by simp only [hTl]; omega, fun t ht => ?_⟩
  obtain ⟨s, hs, e1, e2⟩ := block_mem ht
  obtain ⟨h3, h4⟩ := h2 s hs
  have := Ex.nodess_len s.e
  have e3 : t.cs = s.cs := by
    have := congrArg St.cs e1
    exact this
  rw [e2, e3]
  exact ⟨by omega, by omega⟩
theorem ffgraph1_af (e : Ex) : AF Tryz.prog 114 [exA e] (aB (deepE e)) := by
  refine af_of Tryz.func114 rfl (by kernel_rfl) (by simp [Tryz.ntmps114]) fun _ => ?_; simp [Tryz.f114, Ex.d_eq]
  refine aCall_of (check_af e) (by simp) (by simp [Ex.d_eq]) ?_; simp [Ex.d_eq]
  unfold deepE exErr
  cases shalB 64 e <;> cases formB e <;> simp
/-- What Graph returns. -/
def fusA (g : Gr) : AV := if grErr g = 0 then (if deepG (blockG g).b = true then .tup [grV ⟨0, []⟩, aI .i64 20] else .tup [grV (blockG g), aI .i64 0]) else .tup [grV ⟨0, []⟩, aI .i64 (grErr g)]
abbrev grNil23 : Blk := ⟨0, true, 33, 2, [[aI .u32 0, .d (.v (.slice none 0 0))]]⟩
abbrev blkB (b : Bl) : Bl := ⟨b.ad, blockS none 0 b.s⟩
theorem ffb_af {g : Gr} (hg : GrSmall g) {b : Bl} (hb : b ∈ g.b) : AF Tryz.prog 38 [blV b] (blV (blkB b)) := by
  obtain ⟨h1, h2⟩ := hg.2 b hb
  refine ffblock_af b (by omega) (fun s hs => ?_) fun s hs e he => ?_
  · obtain ⟨h3, h4⟩ := h2 s hs
    have := Ex.nodess_len s.e
    exact ⟨by omega, h4⟩
  · have := (h2 s hs).1
    have := Ex.nodess_mem he
    omega
theorem rfb_af {g : Gr} (hg : GrSmall g) {b : Bl} (hb : b ∈ g.b) : AF Tryz.prog 39 [blV b] (blV (blkB b)) := by
  obtain ⟨h1, h2⟩ := hg.2 b hb
  exact q23block_af b (by omega) fun s hs => (h2 s hs).1
theorem q23graph_af (g : Gr) (hg : GrSmall g) : AF Tryz.prog 45 [grV g] (fusA g) := by
  have hg1 := hg.1
  have hl : g.b.length ≤ maxLen := by unfold maxLen; omega
  have cg := r19checkg_af (blockG g) (blockG_fit hg)
  unfold fusA
  refine af_of Tryz.func45 rfl (by kernel_rfl) (by simp [Tryz.ntmps45]) fun _ => ?_; simp [Tryz.f45, Ex.d_eq]
  refine aCall_of (r19checkg_af g (small_fit23 hg)) (by simp) (by simp [Ex.d_eq]) ?_; simp [Ex.d_eq]
  by_cases h0 : grErr g = 0
  case neg => simp [h0]
  simp [h0]
  rw [blockG_err h0] at cg
  refine aLoop_st (fun i : Nat => [(1, .ptr 0 0 0 0), (2, .ptr 1 0 0 0), (3, aI .i64 0), (5, .ptr 2 0 0 0), (6, aI .i64 i)])
    (fun i => [gB g, grNil23, ⟨0, true, 33, 2, [[aI .u32 g.ad, .own 3 i 0 i]]⟩, ⟨i, true, 30, 2, dEls (bls' ((g.b.take i).map blkB))⟩])
    (fun i => i ≤ g.b.length) (fun i => g.b.length - i) 0 ((Sub.ghost 0 30 2).trans (Sub.cell (b := 2) (i := 0) (o := 1) (c := .d (.v (.slice none 0 0))) (c' := .own 3 0 0 0) (by simp; rfl) rfl rfl (VLe.nil_own (k := ⟨0, true, 30, 2, []⟩) (by simp) rfl))) 4 (by omega) (by simp [setEls]) (by simp) (by omega) ?_
  rintro i hi K hK
  rcases Nat.lt_or_ge i g.b.length with hlt | hge
  case inr =>
    obtain rfl : i = g.b.length := by omega
    rw [List.take_length]
    have hbl : (g.b.map blkB) = (blockG g).b := rfl
    have had : g.ad = (blockG g).ad := rfl
    have hlen : g.b.length = (blockG g).b.length := by rw [← hbl]; simp
    rw [hbl, had]
    simp
    rw [hlen]
    have ht : List.take (blockG g).b.length (bls' (blockG g).b) = bls' (blockG g).b := List.take_of_length_le (by simp)
    refine aCall_ofz [3] cg (by simp) (by simp [frz, ht]) ?_
    simp [frz, ht]
    by_cases hd : deepG (blockG g).b = true
    · simp [hd]
    · simp [hd, ht]
  obtain ⟨b, hb⟩ : ∃ b, g.b[i]? = some b := ⟨_, List.getElem?_eq_getElem hlt⟩
  have hb2 := (List.getElem?_eq_some_iff.1 hb).2
  have hbm := List.mem_of_getElem? hb
  simp [hlt, hb, hb2, Bl.d_eq]
  have hmin : min i g.b.length = i := by omega
  refine adraw2 9 [] (by kernel_rfl) (by kernel_rfl) (by kernel_rfl) (by kernel_rfl) (by kernel_rfl) ?_
  simp [hlt, hb, hb2, Bl.d_eq]
  refine adC_of (rfb_af hg hbm) (by simp) trivial (by simp) (by simp) ?_
  simp [hmin]
  refine aRaw_app byt_31 ?_
  simp [hmin]
  refine ⟨by unfold maxLen; omega, by omega, ?_⟩
  simp [succ_wrap hlt hl]
  refine hK (i + 1) (by omega) (by omega) (Sub.take 4 (Nat.zero_le _)) 4 (by omega) ?_ (by simp)
  simp
  rw [List.take_add_one, List.getElem?_map, hb]
  simp [Bl.d_eq, List.map_take]
theorem anydeep_ac (A : AHeap) (l : List Ex) : AC Tryz.prog 98 [.d (.sl 5 (Ex.ds l)), .fn 114 [] []] A fun r A' => r = aB (l.any deepE) ∧ A' = A.map (clnB A.length) :=
  (containsFunc_ac (f := 114) (fs := []) (cs := []) (p := deepE) A l (by simp) fun a _ N => (AF.ac (A := A ++ N) (ffgraph1_af a) (by simp)).mono fun r A' h => ⟨h.1, N, h.2⟩).drop
theorem deep_take {l : List Bl} {i : Nat} {b : Bl} (h : l[i]? = some b) : deepG (l.take (i + 1)) = (deepG (l.take i) || b.s.any fun s => s.e.any deepE) := by
  unfold deepG
  rw [List.take_add_one, h, List.any_append]
  simp
theorem deep_none {l : List Bl} {i : Nat} (h : l.length ≤ i) : deepG (l.take i) = deepG l := by rw [List.take_of_length_le h]
set_option maxHeartbeats 0 in
theorem ffgraph_af (g : Gr) (hg : GrSmall g) : AF Tryz.prog 44 [grV g] (fusA g) := by
  have hg1 := hg.1
  have hl : g.b.length ≤ maxLen := by unfold maxLen; omega
  have hfit := blockG_fit hg
  unfold fusA
  refine af_of Tryz.func44 rfl (by kernel_rfl) (by simp [Tryz.ntmps44]) fun _ => ?_; simp [Tryz.f44, Ex.d_eq]
  refine aCall_of (ilcheckg_af g (small_fit23 hg)) (by simp) (by simp [Ex.d_eq]) ?_; simp [Ex.d_eq]
  by_cases h0 : grErr g = 0
  case neg => simp [h0]
  simp [h0]
  refine aLoop_st (fun i : Nat => [(1, .ptr 0 0 0 0), (2, .ptr 1 0 0 0), (3, aI .i64 0), (5, .ptr 2 0 0 0), (22, .d (.sl 2 (bls' g.b))), (23, aI .i64 g.b.length), (24, aI .i64 i)])
    (fun i => [gB g, grNil23, ⟨0, true, 33, 2, [[aI .u32 g.ad, .own 3 i 0 i]]⟩, ⟨i, true, 30, 2, dEls (bls' ((g.b.take i).map blkB))⟩])
    (fun i => i ≤ g.b.length) (fun i => g.b.length - i) 0 ((Sub.ghost 0 30 2).trans (Sub.cell (b := 2) (i := 0) (o := 1) (c := .d (.v (.slice none 0 0))) (c' := .own 3 0 0 0) (by simp; rfl) rfl rfl (VLe.nil_own (k := ⟨0, true, 30, 2, []⟩) (by simp) rfl))) 4 (by omega) (by simp [setEls]) (by simp) (by omega) ?_
  rintro i hi K hK
  rcases Nat.lt_or_ge i g.b.length with hlt | hge
  case inl =>
    obtain ⟨b, hb⟩ : ∃ b, g.b[i]? = some b := ⟨_, List.getElem?_eq_getElem hlt⟩
    have hb2 := (List.getElem?_eq_some_iff.1 hb).2
    have hbm := List.mem_of_getElem? hb
    have hmin : min i g.b.length = i := by omega
    simp [hlt, hb, hb2, Bl.d_eq]
    refine adraw2 5 [] (by kernel_rfl) (by kernel_rfl) (by kernel_rfl) (by kernel_rfl) (by kernel_rfl) ?_
    simp [hlt, hb, hb2, Bl.d_eq]
    refine adC_of (ffb_af hg hbm) (by simp) trivial (by simp) (by simp) ?_
    simp [hmin]
    refine aRaw_app byt_31 ?_
    simp [hmin]
    refine ⟨by unfold maxLen; omega, by omega, ?_⟩
    simp [succ_wrap hlt hl]
    refine hK (i + 1) (by omega) (by omega) (Sub.take 4 (Nat.zero_le _)) 4 (by omega) ?_ (by simp)
    simp
    rw [List.take_add_one, List.getElem?_map, hb]
    simp [Bl.d_eq, List.map_take]
  obtain rfl : i = g.b.length := by omega
  rw [List.take_length]
  clear hK
  have hbl : (g.b.map blkB) = (blockG g).b := rfl
  have had : g.ad = (blockG g).ad := rfl
  have hlen : g.b.length = (blockG g).b.length := by rw [← hbl]; simp
  rw [hbl]
  have hfl := hfit.2
  have hG : ∀ D : Bool, deepG (blockG g).b = D → (if deepG (blockG g).b = true then AV.tup [grV ⟨0, []⟩, aI .i64 20] else .tup [grV (blockG g), aI .i64 0]) = if D = true then AV.tup [grV ⟨0, []⟩, aI .i64 20] else .tup [grV (blockG g), aI .i64 0] := by
    rintro D rfl
    rfl
  obtain ⟨Q, hQ⟩ : ∃ Q, (blockG g).b = Q := ⟨_, rfl⟩
  rw [hQ] at hlen hfl
  have hQl : Q.length ≤ maxLen := by omega
  have hgr : grV (blockG g) = .agg [aI .u32 g.ad, .d (.sl 2 (bls' Q))] := by rw [← hQ]; rfl
  rw [hQ, hgr] at hG
  rw [hQ]
  have htk : List.take g.b.length (bls' Q) = bls' Q := List.take_of_length_le (by simp [hlen])
  simp [hlen]
  refine aLoop_st (fun i : Nat => [(1, .ptr 0 0 0 0), (2, .ptr 1 0 0 0), (3, aI .i64 0), (5, .ptr 2 0 0 0), (37, .own 3 Q.length 0 Q.length), (38, aI .i64 Q.length), (39, aI .i64 i)])
    (fun _ => [gB g, grNil23, ⟨0, true, 33, 2, [[aI .u32 g.ad, .own 3 Q.length 0 Q.length]]⟩, ⟨Q.length, true, 30, 2, dEls (bls' Q)⟩])
    (fun i => i ≤ Q.length ∧ deepG (Q.take i) = false) (fun i => Q.length - i) 0 (Sub.refl _ _ _) 4 (by omega) (by simp) (by simp) ⟨by omega, by simp [deepG]⟩ ?_
  rintro i ⟨hi2, hdi⟩ K2 hK2
  rcases Nat.lt_or_ge i Q.length with hlt | hge2
  case inr =>
    rw [deep_none hge2] at hdi
    have ht2 : List.take Q.length (bls' Q) = bls' Q := List.take_of_length_le (by simp)
    obtain rfl : i = Q.length := by omega
    simp [hdi, ht2]
    exact had
  obtain ⟨b, hb⟩ : ∃ b, Q[i]? = some b := ⟨_, List.getElem?_eq_getElem hlt⟩
  have hb2 := (List.getElem?_eq_some_iff.1 hb).2
  have hbm := List.mem_of_getElem? hb
  obtain ⟨f1, f2⟩ := hfl b hbm
  have hbsl : b.s.length ≤ maxLen := by unfold maxLen; omega
  have hdt := deep_take hb
  rw [hdi, Bool.false_or] at hdt
  simp [hlt, hb, hb2, Bl.d_eq]
  refine aLoop_st (fun k : Nat => [(1, .ptr 0 0 0 0), (2, .ptr 1 0 0 0), (3, aI .i64 0), (5, .ptr 2 0 0 0), (37, .own 3 Q.length 0 Q.length), (38, aI .i64 Q.length), (39, aI .i64 i), (44, .d (.sl 8 (sts b.s))), (45, aI .i64 b.s.length), (46, aI .i64 k)])
    (fun _ => [gB g, grNil23, ⟨0, true, 33, 2, [[aI .u32 g.ad, .own 3 Q.length 0 Q.length]]⟩, ⟨Q.length, true, 30, 2, dEls (bls' Q)⟩])
    (fun k => k ≤ b.s.length ∧ ((b.s.take k).any fun s => s.e.any deepE) = false) (fun k => b.s.length - k) 0 (Sub.refl _ _ _) 4 (by omega) (by simp) (by simp) ⟨by omega, by simp⟩ ?_
  rintro k ⟨hk, hdk⟩ K3 hK3
  rcases Nat.lt_or_ge k b.s.length with hlt3 | hge3
  case inr =>
    obtain rfl : k = b.s.length := by omega
    rw [List.take_length] at hdk
    simp [succ_wrap hlt hQl]
    refine hK2 (i + 1) ⟨by omega, by rw [hdt, hdk]⟩ (by omega) (Sub.refl _ _ _) 4 (by omega) (by simp) (by simp)
  obtain ⟨s, hs⟩ : ∃ s, b.s[k]? = some s := ⟨_, List.getElem?_eq_getElem hlt3⟩
  have hs2 := (List.getElem?_eq_some_iff.1 hs).2
  simp [hlt3, hs, hs2, St.d_eq]
  refine aCall_ofc (anydeep_ac _ s.e) (by simp) ?_
  rintro _ _ ⟨rfl, rfl⟩
  cases hd : s.e.any deepE
  · simp [succ_wrap hlt3 hbsl]
    refine hK3 (k + 1) ⟨by omega, ?_⟩ (by omega) (Sub.take 4 (Nat.zero_le _)) 4 (by omega) (by simp) (by simp)
    rw [List.take_add_one, hs, List.any_append, hdk]
    simp [hd]
  · have : deepG Q = true := by
      unfold deepG
      exact List.any_eq_true.2 ⟨b, hbm, List.any_eq_true.2 ⟨s, List.mem_of_getElem? hs, hd⟩⟩
    simp [this]
theorem large_gr {g : Gr} (h1 : g.b.length ≤ 40) (h2 : ∀ b ∈ g.b, largeB b = false) (hcs : ∀ b ∈ g.b, ∀ s ∈ b.s, s.cs.length ≤ 2000000) : GrSmall g := by
  refine ⟨by omega, fun b hb => ?_⟩
  obtain ⟨l1, l2⟩ := large_small (h2 b hb)
  exact ⟨by omega, fun s hs => ⟨by have := l2 s hs; omega, hcs b hb s hs⟩⟩
theorem bds_bls : ∀ {l : List Bl}, BdS 2 (bls' l) → ∀ b ∈ l, b.s.length ≤ maxLen ∧ ∀ s ∈ b.s, s.e.length ≤ maxLen ∧ s.cs.length ≤ maxLen
  | [], _, b, hb => by cases hb
  | a :: l, h, b, hb => by
    simp only [bls_cons, BdS] at h
    rcases List.mem_cons.1 hb with rfl | hb
    · have := h.2.1
      simp only [Bl.d_eq, BdE, BdD, sts_len] at this
      exact ⟨this.2.1.1, bds_sts this.2.1.2⟩
    · exact bds_bls h.2.2 b hb
theorem bd_gr {g : Gr} (h : BdL [grV g]) : g.b.length ≤ maxLen ∧ ∀ b ∈ g.b, b.s.length ≤ maxLen ∧ ∀ s ∈ b.s, s.e.length ≤ maxLen ∧ s.cs.length ≤ maxLen := by
  simp only [grV, BdL, Bd, BdD, bls_len] at h
  exact ⟨h.1.2.1.1, bds_bls h.1.2.1.2⟩
theorem q23samegr_af (g : Gr) (h0 : g.b.length ≤ maxLen) (h : ∀ b ∈ g.b, b.s.length ≤ maxLen ∧ ∀ s ∈ b.s, s.e.length ≤ maxLen ∧ s.cs.length ≤ maxLen) : AF Tryz.prog 46 [grV g, grV g] (aB true) := by
  refine af_of Tryz.func46 rfl (by kernel_rfl) (by simp [Tryz.ntmps46]) fun _ => ?_; simp [Tryz.f46, Ex.d_eq]
  refine aLoop_st (fun i : Nat => [(2, .ptr 0 0 0 0), (3, .ptr 1 0 0 0), (5, aI .i64 i)]) (fun _ => [gB g, gB g])
    (fun i => i ≤ g.b.length) (fun i => g.b.length - i) 0 (Sub.refl _ _ _) 2 (by omega) (by simp) (by simp) (by omega) ?_
  rintro i hi K hK
  rcases Nat.lt_or_ge i g.b.length with hlt | hge
  case inl =>
    obtain ⟨b, hb⟩ : ∃ b, g.b[i]? = some b := ⟨_, List.getElem?_eq_getElem hlt⟩
    have hb2 := (List.getElem?_eq_some_iff.1 hb).2
    obtain ⟨g1, g2⟩ := h b (List.mem_of_getElem? hb)
    simp [hlt]
    refine adraw [] (by kernel_rfl) (by kernel_rfl) (by kernel_rfl) (by kernel_rfl) ?_; simp [Ex.d_eq]
    simp [hlt, hb, hb2, Bl.d_eq]
    refine adC_of (q23samebl_af b g1 g2) (by simp) trivial (by simp) (by simp [Ex.d_eq]) ?_; simp [Ex.d_eq]
    simp [succ_wrap hlt h0]
    exact hK (i + 1) (by omega) (by omega) (Sub.refl _ _ _) 2 (by omega) (by simp) (by simp)
  obtain rfl : i = g.b.length := by omega
  simp
theorem fit_len {g : Gr} (h : GrFit g) : g.b.length ≤ maxLen ∧ ∀ b ∈ g.b, b.s.length ≤ maxLen ∧ ∀ s ∈ b.s, s.e.length ≤ maxLen ∧ s.cs.length ≤ maxLen := by
  unfold maxLen
  refine ⟨by have := h.1; omega, fun b hb => ?_⟩
  obtain ⟨h1, h2⟩ := h.2 b hb
  refine ⟨by omega, fun s hs => ?_⟩
  obtain ⟨h3, h4⟩ := h2 s hs
  exact ⟨by omega, by omega⟩
theorem lawgraphs23_af (g : Gr) (hcs : ∀ b ∈ g.b, ∀ s ∈ b.s, s.cs.length ≤ 2000000) : AF Tryz.prog 10 [grV g] (aB true) := by
  refine af_of Tryz.func10 rfl (by kernel_rfl) (by simp [Tryz.ntmps10]) fun hb => ?_
  obtain ⟨h1, h2⟩ := bd_gr hb
  clear hb
  simp [Tryz.f10]
  by_cases h40 : g.b.length ≤ 40
  case neg =>
    simp [show (40 : Int) < g.b.length by omega]
    refine aCall_of ex23_af (by simp) (by simp [Ex.d_eq]) ?_; simp [Ex.d_eq]
  simp [show ¬ (40 : Int) < g.b.length by omega]
  refine aLoop_st (fun i : Nat => [(1, .ptr 0 0 0 0), (3, aI .i64 i)]) (fun _ => [gB g])
    (fun i => i ≤ g.b.length ∧ ∀ j b, j < i → g.b[j]? = some b → largeB b = false) (fun i => g.b.length - i) 0 (Sub.refl _ _ _) 1 (by omega) (by simp) (by simp) ⟨by omega, by intro j b hj; omega⟩ ?_
  rintro i ⟨hi, hall⟩ K hK
  rcases Nat.lt_or_ge i g.b.length with hlt | hge
  case inl =>
    obtain ⟨b, hb⟩ : ∃ b, g.b[i]? = some b := ⟨_, List.getElem?_eq_getElem hlt⟩
    have hb2 := (List.getElem?_eq_some_iff.1 hb).2
    obtain ⟨g1, g2⟩ := h2 b (List.mem_of_getElem? hb)
    have cl := large_af b g1 fun s hs => (g2 s hs).1
    simp [hlt, hb, hb2, Bl.d_eq]
    cases hlg : largeB b <;> rw [hlg] at cl
    · refine aCall_of cl (by simp) (by simp [Ex.d_eq]) ?_; simp [Ex.d_eq]
      simp [succ_wrap hlt h1]
      refine hK (i + 1) ⟨by omega, fun j b' hj hb' => ?_⟩ (by omega) (Sub.refl _ _ _) 1 (by omega) (by simp) (by simp)
      rcases Nat.lt_or_ge j i with h | h
      · exact hall j b' h hb'
      · obtain rfl : j = i := by omega
        rw [hb] at hb'
        obtain rfl := Option.some.inj hb'
        exact hlg
    · refine aCall_of cl (by simp) (by simp [Ex.d_eq]) ?_; simp [Ex.d_eq]
      refine aCall_of ex23_af (by simp) (by simp [Ex.d_eq]) ?_; simp [Ex.d_eq]
  have hsm : GrSmall g := large_gr h40 (fun b hb => by
    obtain ⟨j, hj⟩ := List.getElem?_of_mem hb
    exact hall j b (by have := (List.getElem?_eq_some_iff.1 hj).1; omega) hj) hcs
  have c1 := ffgraph_af g hsm
  have c2 := q23graph_af g hsm
  obtain rfl : i = g.b.length := by omega
  have cs0 := q23samegr_af ⟨0, []⟩ (by simp) (by simp)
  obtain ⟨m1, m2⟩ := fit_len (blockG_fit hsm)
  have cs1 := q23samegr_af (blockG g) m1 m2
  unfold fusA at c1 c2
  simp
  by_cases h0 : grErr g = 0
  · rw [if_pos h0] at c1 c2
    by_cases hd : deepG (blockG g).b = true
    · rw [if_pos hd] at c1 c2
      refine aCall_of c1 (by simp) (by simp [Ex.d_eq]) ?_; simp [Ex.d_eq]
      refine aCall_of c2 (by simp) (by simp [Ex.d_eq]) ?_; simp [Ex.d_eq]
      refine aCall_of cs0 (by simp) (by simp [Ex.d_eq]) ?_; simp [Ex.d_eq]
      refine aCall_of ex23_af (by simp) (by simp [Ex.d_eq]) ?_; simp [Ex.d_eq]
    · rw [if_neg hd] at c1 c2
      refine aCall_of c1 (by simp) (by simp [Ex.d_eq]) ?_; simp [Ex.d_eq]
      refine aCall_of c2 (by simp) (by simp [Ex.d_eq]) ?_; simp [Ex.d_eq]
      refine aCall_of cs1 (by simp) (by simp [Ex.d_eq]) ?_; simp [Ex.d_eq]
      refine aCall_of ex23_af (by simp) (by simp [Ex.d_eq]) ?_; simp [Ex.d_eq]
  · rw [if_neg h0] at c1 c2
    refine aCall_of c1 (by simp) (by simp [Ex.d_eq]) ?_; simp [Ex.d_eq]
    refine aCall_of c2 (by simp) (by simp [Ex.d_eq]) ?_; simp [Ex.d_eq]
    refine aCall_of cs0 (by simp) (by simp [Ex.d_eq]) ?_; simp [Ex.d_eq]
    refine aCall_of ex23_af (by simp) (by simp [Ex.d_eq]) ?_; simp [Ex.d_eq]
end Go.Proofs.YtlidimmfpfockaaGreatDoor
