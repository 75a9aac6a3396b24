import Derived.Test.YtfnbhkbfelllgaaGreatDoorAq
import Derived.Test.YtfnbhkbfelllgaaGreatDoorVcM
set_option linter.all false
namespace Go.Proofs.YtfnbhkbfelllgaaGreatDoor
open Go.RowKit
def stab1 (A : AHeap) (s : AV) : AV → Prop
 | .ip _ => True
 | .ptr b ver _ _ => (∃ k, curB A b ver = some k) ∧ (match s with | .own b2 _ _ _ => ¬ b = b2 | .d _ => True | _ => False)
 | _ => False
def stabL (A : AHeap) (e : AEnv) (s : AV) (m : Nat) : Nat → List Oper → Prop
 | _, [] => True
 | j, o :: os => (match o.op with
   | .load _ a => m.testBit j = true ∨ stab1 A s (eva e a)
   | _ => True) ∧ stabL A e s m (j + 1) os
theorem stabL_get {A : AHeap} {e : AEnv} {s : AV} {m : Nat} : ∀ {l : List Oper} {i j : Nat} {o : Oper} {t : TypeId} {a : Operand}, stabL A e s m i l → l[j]? = some o → o.op = .load t a → m.testBit (i + j) = false → stab1 A s (eva e a)
 | [], i, j, o, t, a, _, hj, _, _ => by simp at hj
 | x :: l, i, j, o, t, a, h, hj, ho, hm => by
   simp only [stabL] at h
   cases j with
   | zero =>
     simp at hj
     subst hj
     have h1 := h.1
     rw [ho] at h1
     simp only at h1
     rcases h1 with h1 | h1
     ·rw [Nat.add_zero] at hm
      rw [h1] at hm; cases hm
     ·exact h1
   | succ j =>
     exact stabL_get h.2 (j := j) (by simpa using hj) ho (by rw [show i + 1 + j = i + (j + 1) by omega]; exact hm)
section
variable {P : Program} {n : Nat} {k : AKont} {e : AEnv} {A : AHeap}
theorem exec_app {P : Program} {s y : Operand} {t ty : TypeId} {d : Option Nat} {pos : String} {af : Array Edge} {ec : Env} {w w' : World} {v : Value} (h : (Builtin.append_ #[t, t] ty #[ev ec s, ev ec y]).run P w = .ok v w') :
 (execOp (ev ec) ⟨d, .call ⟨.builtin .append, #[s, y], #[t, t]⟩, ty, pos, af, none⟩).run P w = .ok (.value v) w' := by
 unfold execOp
 simp only [resolve, invoke, Sem.run_bind, Sem.run_pure, Result.andThen_ok]
 simp only [Go.builtin, List.map_toArray, List.map_cons, List.map_nil, Sem.run_bind, h, Result.andThen_ok, Sem.run_pure]
theorem adraw3 {id : Nat} {l : List Oper} {s y : Operand} {t el sz bytes ty : Nat} {d : Option Nat} {pos : String} {af : Array Edge} (i m : Nat) (late : List (Nat × Nat)) (hm : P.follows .mixedOrders = true)
 (hx : l[i]? = some ⟨d, .call ⟨.builtin .append, #[s, y], #[t, t]⟩, ty, pos, af, none⟩) (hby : byt P t = some (el, sz, bytes))
 (hok : okD (l.take i) = true) (hlate : lateOf (l.take i) = late) (hT : okT (l.take i) = true) (hend : end3 (l.take i) ⟨d, .call ⟨.builtin .append, #[s, y], #[t, t]⟩, ty, pos, af, none⟩ (l.drop (i + 1)) = true)
 (hmask : (masks [] (l.take i ++ [⟨d, .call ⟨.builtin .append, #[s, y], #[t, t]⟩, ty, pos, af, none⟩])).getD (l.take i).length 0 = m)
 (h : avd P A.length (l.take i) late (fun _ _ => True) (fun e' A' => stabL A' e' (eva e' s) m 0 (l.take i) ∧ aApp (appA el sz A' (eva e' s) (eva e' y)) bytes e' d (avops P n l.toArray (l.drop (i + 1)) k)) 0 (l.take i) ⟨e, A, [], [], []⟩) : aDraw P n id l.toArray k e A := by
 rintro C ec w hn ⟨h0, ι, h1, h2, h3, h4⟩
 obtain ⟨rs, h⟩ := avd_ex (l.take i) 0 _ h
 have hil := (gSI.1 hx).1
 obtain ⟨x, hxe⟩ : ∃ x : Oper, x = ⟨d, .call ⟨.builtin .append, #[s, y], #[t, t]⟩, ty, pos, af, none⟩ := ⟨_, rfl⟩
 rw [← hxe] at hx hend hmask
 have hl : (l.take i ++ [x]) ++ l.drop (i + 1) = l := by
  have hxi := (gSI.1 hx).2
  have h5 : l.drop i = x :: l.drop (i + 1) := by rw [List.drop_eq_getElem_cons hil, hxi]
  rw [List.append_assoc, List.singleton_append, ← h5, List.take_append_drop]
 rw [← hl]
 refine draw3 (K1 := Lift C (fun e' A' => stabL A' e' (eva e' s) m 0 (l.take i) ∧ aApp (appA el sz A' (eva e' s) (eva e' y)) bytes e' d (avops P n l.toArray (l.drop (i + 1)) k))) late (fun i => spR (Zr C.H ι A w) (rs i)) hm hok hlate hend ?_ ?_ ?_
 ·rintro ec w ⟨e', A', ⟨hst, r, A2, q, hr, hq, hqb, hk⟩, hS⟩
  have hS2 := hS
  obtain ⟨g0, ι, g1, g2, g3, g4⟩ := hS2
  obtain ⟨v, w', ι', p1, p2, p3, p4, p5⟩ := app_sound (ty := ty) hby hr hq hqb g1 (fun c hc => Nat.lt_of_lt_of_le (g0.1 c hc) g2.size) ⟨eva_shp g3 s, eva_mem g4 s⟩ ⟨eva_shp g3 y, eva_mem g4 y⟩
  refine ⟨v, w', by rw [hxe]; exact exec_app p1, ?_, fun j o hj hf u hu => ?_⟩
  ·rw [hl]
   have hS' : Sta C (aupd e' x.dst r) A2 (upd ec x.dst v) w' := ⟨g0, ι', p2, g2.trans p3, shp_upd (fun i => Shp.step p3.stab _ _ (g3 i)) p4.1, mem_upd (fun i => Mem.keep p3.keepD _ _ (g4 i)) p4.2⟩
   exact avops_sound hn _ _ _ _ _ hS' (by rw [hxe]; exact hk)
  ·unfold rdv at hu ⊢
   split
   case h_2 hop =>
    split at hu
    ·rename_i t2 a2 ho2
     exact absurd ho2 (hop t2 a2)
    ·exact hu
   rename_i t2 a2 ho2
   rw [ho2] at hu
   simp only at hu
   have hs1 := stabL_get hst hj ho2 (by rw [Nat.zero_add, ← hmask]; exact hf)
   have hsame : ∀ c o2, ev ec a2 = .pointer (some ⟨c, o2, none⟩) → SameB w w' c → lv P t2 (ev ec a2) w' = some u := fun c o2 hp hsb => by
    rw [hp] at hu ⊢
    rw [lv_congr (w := w) (fun off => hsb.cell)]
    exact hu
   have hav := eva_shp g3 a2
   have hmv := eva_mem g4 a2
   generalize eva e' a2 = av at hs1 hav hmv
   cases av with
   | ip cs =>
     simp only [Mem] at hmv
     obtain ⟨c, o2, hp, hb, _⟩ := hmv
     exact hsame c o2 hp (p3.keep c hb.1 fun hh => hb.2 (.inr hh))
   | ptr b ver i2 o2 =>
     simp only [stab1] at hs1
     obtain ⟨⟨kb, hkb⟩, hne⟩ := hs1
     obtain ⟨c, nn, hι, hp⟩ := ptr_shp hkb hav
     have hAb := curB_get hkb
     refine hsame c _ hp (p5 c (g1.hid b kb c nn hAb hι).2 fun he => ?_)
     have hsv := eva_shp g3 s
     have hap := hr
     unfold appA at hap
     split at hap
     case h_2 => cases hap
     split at hap
     case isFalse => cases hap
     generalize eva e' s = sv at hne hsv hap
     split at hap
     ·simp only [Shp] at hsv
      rw [hsv] at he
      simp [Value.ownBlock] at he
     ·rename_i b2 ver2 i3 len2
      simp only at hne
      split at hap
      case h_2 => cases hap
      rename_i k2 hk2
      rcases own_shp hk2 hsv with ⟨_, _, hus⟩ | ⟨c2, n2, cap, hι2, hus, _⟩
      ·rw [hus] at he
       simp [Value.ownBlock] at he
      ·rw [hus] at he
       simp only [Value.ownBlock, Option.some.injEq] at he
       subst he
       exact hne (g1.inj b b2 kb k2 c nn n2 hAb (curB_get hk2) hι hι2)
     ·cases hap
   | any => exact hs1.elim
   | d x => exact hs1.elim
   | own b ver i2 len => exact hs1.elim
   | agg cs => exact hs1.elim
   | tup cs => exact hs1.elim
   | fn f fs cs => exact hs1.elim
   | mp b ver => exact hs1.elim
   | ifc t c => exact hs1.elim
 ·intro e1 e2 he
  have hag := ev_agree (ops := l.take i) (o := x) he
  have hs1 : ev e1 s = ev e2 s := hag s (by rw [hxe]; simp [Op.operands, Call.operands])
  have hy1 : ev e1 y = ev e2 y := hag y (by rw [hxe]; simp [Op.operands, Call.operands])
  rw [hxe]
  unfold execOp
  simp [resolve, hs1, hy1]
 ·refine avd_sound (T := taintOf (l.take i) []) h1 h0 h2 (l.take i) 0 ι ⟨e, A, [], [], []⟩ ⟨ec, [], [], [], [], [], []⟩ (fun o ho => List.all_eq_true.1 hT o ho) ⟨⟨fun _ _ h => h, fun _ _ => rfl, fun b k hb hk => ?_, fun b b' c m m' g1 g2 => absurd g1 (Nat.not_le.2 g2), fun c hc => absurd hc List.not_mem_nil, Nat.le_refl _⟩, h3, fun w' hx _ i => old_mem hx (h4 i), fun t _ => h4 t, fun x hx => absurd hx List.not_mem_nil, fun x hx => absurd hx List.not_mem_nil, rfl, fun i x y hx => by simp at hx⟩ h
  have := (gSI.1 hk).1
  simp only at this
  omega
section
variable (B : AHeap) (g : AEnv) (s : AV) (m j : Nat) (os : List Oper) (d : Option Nat) (op : Op) (ty : TypeId) (pos : String) (af : Array Edge) (gd : Option (Nat × Bool))
@[simp] theorem stabL_nil : stabL B g s m j [] ↔ True := Iff.rfl
@[simp] theorem stabL_load (t : TypeId) (a : Operand) : stabL B g s m j (⟨d, .load t a, ty, pos, af, gd⟩ :: os) ↔ (m.testBit j = true ∨ stab1 B s (eva g a)) ∧ stabL B g s m (j + 1) os := Iff.rfl
end
end
end Go.Proofs.YtfnbhkbfelllgaaGreatDoor
