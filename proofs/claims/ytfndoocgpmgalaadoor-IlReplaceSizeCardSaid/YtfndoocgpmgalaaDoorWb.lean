/- The arguments as abstract values, and what a law's statement asks behind the call. No program in sight. -/
import Derived.Test.YtfndoocgpmgalaaDoorWa
import Derived.Test.YtfndoocgpmgalaaDoorBa
import Derived.Deep.DeepHandedRow
import Derived.Lay
namespace Go.Proofs.YtfndoocgpmgalaaDoor
open Go.RowKit Go.ChangeShapes Go.WideShapes
theorem shp_d {ι : Place} {A : AHeap} {H : Nat → Prop} {w : World} {d : D} {u : Value} (h : Rd H w d u) : Shp ι A (.d d) u := by
  cases d with
  | v x => simp only [Rd] at h; simp only [Shp]; exact h.1
  | sl sz xs =>
    simp only [Rd] at h
    obtain ⟨a, cap, rfl, h2, _, h4⟩ := h
    simp only [Shp]
    refine ⟨a, cap, rfl, h2, ?_⟩
    rcases h4 with h4 | ⟨b, o, ha, _⟩
    · exact .inl h4
    · exact .inr ⟨b, o, ha⟩
theorem mem_d {H : Nat → Prop} {w : World} {d : D} {u : Value} (h : Rd H w d u) : Mem H w (.d d) u := by simpa [Mem] using h
/-- Values as a row of arguments. -/
def ArgL (w : World) : List AV → List Value → Prop
  | [], l => l = []
  | c :: cs, l => ∃ u l', l = u :: l' ∧ (Shp (fun _ => none) [] c u ∧ Mem (fun _ => False) w c u) ∧ ArgL w cs l'
theorem ArgL.shp {w : World} : ∀ {cs : List AV} {l : List Value}, ArgL w cs l → ShpL (fun _ => none) [] cs l
  | [], l, h => by simpa [ArgL, ShpL] using h
  | c :: cs, l, h => by
    simp only [ArgL] at h
    obtain ⟨u, l', rfl, h1, h2⟩ := h
    simp only [ShpL]
    exact ⟨u, l', rfl, h1.1, h2.shp⟩
theorem ArgL.mem {w : World} : ∀ {cs : List AV} {l : List Value}, ArgL w cs l → MemL (fun _ => False) w cs l
  | [], l, h => by simpa [ArgL, MemL] using h
  | c :: cs, l, h => by
    simp only [ArgL] at h
    obtain ⟨u, l', rfl, h1, h2⟩ := h
    simp only [MemL]
    exact ⟨u, l', rfl, h1.2, h2.mem⟩
theorem ArgL.nil (w : World) : ArgL w [] [] := rfl
theorem ArgL.cons {w : World} {c : AV} {u : Value} {cs : List AV} {l : List Value} (h : Shp (fun _ => none) [] c u ∧ Mem (fun _ => False) w c u) (hl : ArgL w cs l) : ArgL w (c :: cs) (u :: l) := ⟨u, l, rfl, h, hl⟩
theorem RdR.args {w : World} : ∀ {ds : List D} {cs : List Value}, RdR w ds cs → ArgL w (ds.map .d) cs
  | [], cs, h => by simpa [RdR, ArgL] using h
  | d :: ds, cs, h => by
    simp only [RdR] at h
    obtain ⟨u, l, rfl, h1, h2⟩ := h
    exact ArgL.cons ⟨shp_d h1, mem_d h1⟩ h2.args
theorem RdR.ones {w : World} : ∀ {ds : List D} {cs : List Value}, RdR w ds cs → ∀ x ∈ cs, x.oneCell' = true
  | [], cs, h, x, hx => by simp only [RdR] at h; subst h; simp at hx
  | d :: ds, cs, h, x, hx => by
    simp only [RdR] at h
    obtain ⟨u, l, rfl, h1, h2⟩ := h
    rcases List.mem_cons.1 hx with rfl | hx
    · exact h1.one
    · exact h2.ones x hx
section
variable {Hh : Type} {enc : TypeId × Value → Hh} {P : Program} {w : World} {base : Nat} {spare : Nat → Bool} {held : Bool} {S : List TypeId}
/-- A scalar argument. -/
theorem arg_v {x : Value} (h : x.oneCell' = true) : Shp (fun _ => none) [] (.d (.v x)) x ∧ Mem (fun _ => False) w (.d (.v x)) x := by simp [Shp, Mem, Rd, h]
/-- A struct's argument. -/
theorem arg_struct (hS : plainB P S = true) (hrow : (S.all fun t => rowFine P t && isVar P t) = true) {t : TypeId} {fs : Array Field} (ht : t ∈ S) (hu : P.underlying t = some (.struct fs)) {r : Reach} {b0 : Nat} {v : Value} {d : DataW Hh} {ps : List MemPlace}
    (hval : Value.okWide P w r b0 t v) (hd : DataW.Trod enc P w base spare held t v d ps) :
    ∃ fuel ds, Has P fuel t ds ∧ wtL ds ≤ Rows.uptoBulk d ∧ Shp (fun _ => none) [] (.agg (ds.map .d)) v ∧ Mem (fun _ => False) w (.agg (ds.map .d)) v := by
  obtain ⟨fuel, hf⟩ := hd
  simp only [Value.okWide, hu] at hval
  obtain ⟨cs, rfl, _, _⟩ := hval
  have hrow' : ∀ t ∈ S, rowFine P t = true ∧ isVar P t = true := fun t ht => by simpa using List.all_eq_true.1 hrow t ht
  obtain ⟨ds, h1, h2, _, h3⟩ := rd_of_trod hS hrow' fuel t _ _ ht hf
  have h1 : RdR w ds cs.toList := by simpa [Value.cells] using h1
  refine ⟨fuel, ds, h2, h3, ?_, ?_⟩
  · simp only [Shp]
    exact ⟨cs.toList, rfl, h1.args.shp⟩
  · simp only [Mem]
    exact ⟨cs.toList, rfl, h1.args.mem, h1.ones⟩
/-- A slice's argument. -/
theorem arg_slice (hS : plainB P S = true) (hrow : (S.all fun t => rowFine P t && isVar P t) = true) {t e : TypeId} (ht : t ∈ S) (hu : P.underlying t = some (.slice e)) {r : Reach} {b0 : Nat} {v : Value} {d : DataW Hh} {ps : List MemPlace}
    (hval : Value.okWide P w r b0 t v) (hd : DataW.Trod enc P w base spare held t v d ps) :
    ∃ fuel xs, Has P fuel t [.sl (P.cellsOf e) xs] ∧ wtS xs + 1 ≤ Rows.uptoBulk d ∧ Shp (fun _ => none) [] (.d (.sl (P.cellsOf e) xs)) v ∧ Mem (fun _ => False) w (.d (.sl (P.cellsOf e) xs)) v := by
  obtain ⟨fuel, hf⟩ := hd
  have hrow' : ∀ t ∈ S, rowFine P t = true ∧ isVar P t = true := fun t ht => by simpa using List.all_eq_true.1 hrow t ht
  obtain ⟨ds, h1, h2, _, h3⟩ := rd_of_trod hS hrow' fuel t _ _ ht hf
  have h2' := h2
  cases fuel with
  | zero => simp [Has] at h2
  | succ fuel =>
    simp only [Has, hu] at h2
    obtain ⟨xs, rfl, hl, hx⟩ := h2
    simp only [RdR] at h1
    obtain ⟨u, l', hcs, hr, hl'⟩ := h1
    subst hl'
    have hv : v = u := by
      cases v with
      | agg cs =>
        exfalso
        simp only [Value.okWide, hu] at hval
        simp [Cell.okWide, Cell.ok, hu] at hval
      | _ => simpa [Value.cells] using hcs
    subst hv
    refine ⟨fuel + 1, xs, h2', ?_, shp_d hr, mem_d hr⟩
    simpa [wtL, wt] using h3
end
/-- An expression that Go's numbers can write. -/
def Ex.fits : Ex → Prop
  | .mk o n v wd l => (Lit.int .i64 o).wf = true ∧ (Lit.int .u32 n).wf = true ∧ (Lit.int .i64 v).wf = true ∧ (Lit.int .i64 wd).wf = true ∧ l.length ≤ maxLen ∧ fitss l
where fitss : List Ex → Prop
  | [] => True
  | e :: l => Ex.fits e ∧ fitss l
theorem Ex.fitss_mem : ∀ {l : List Ex}, Ex.fits.fitss l → ∀ x ∈ l, x.fits
  | e :: l, h, x, hx => by
    simp only [Ex.fits.fitss] at h
    rcases List.mem_cons.1 hx with rfl | hx
    · exact h.1
    · exact Ex.fitss_mem h.2 x hx
/-- What reads as the type of expressions is an expression. -/
theorem ex_of_has {P : Program} {T : TypeId} {f0 f1 f2 f3 f4 : Field} (hT : P.underlying T = some (.struct #[f0, f1, f2, f3, f4])) (h0 : P.underlying f0.type = some (.int .i64)) (h1 : P.underlying f1.type = some (.int .u32))
    (h2 : P.underlying f2.type = some (.int .i64)) (h3 : P.underlying f3.type = some (.int .i64)) (h4 : P.underlying f4.type = some (.slice T)) (hc : P.cellsOf T = 5) :
    ∀ (k : Nat) (ds : List D), Has P k T ds → ∃ e : Ex, ds = e.d ∧ e.fits := by
  intro k
  induction k using Nat.strongRecOn with
  | _ k ih =>
    intro ds h
    cases k with
    | zero => simp [Has] at h
    | succ k =>
      simp only [Has, hT] at h
      obtain ⟨dss, rfl, hl, hf⟩ := h
      match dss, hl with
      | [a0, a1, a2, a3, a4], _ =>
        have g0 := hf 0 f0 a0 rfl rfl
        have g1 := hf 1 f1 a1 rfl rfl
        have g2 := hf 2 f2 a2 rfl rfl
        have g3 := hf 3 f3 a3 rfl rfl
        have g4 := hf 4 f4 a4 rfl rfl
        cases k with
        | zero => simp [Has] at g0
        | succ k =>
          simp only [Has, h0, h1, h2, h3, h4] at g0 g1 g2 g3 g4
          obtain ⟨o, rfl, w0⟩ := g0
          obtain ⟨n, rfl, w1⟩ := g1
          obtain ⟨v, rfl, w2⟩ := g2
          obtain ⟨wd, rfl, w3⟩ := g3
          obtain ⟨xs, rfl, w4, hx⟩ := g4
          have : ∀ xs : List (List D), (∀ x ∈ xs, Has P k T x) → ∃ l : List Ex, xs = Ex.ds l ∧ Ex.fits.fitss l := by
            intro xs
            induction xs with
            | nil => exact fun _ => ⟨[], rfl, trivial⟩
            | cons x xs ihx =>
              intro hx
              obtain ⟨l, rfl, hl⟩ := ihx fun y hy => hx y (List.mem_cons_of_mem _ hy)
              obtain ⟨e, rfl, he⟩ := ih k (by omega) x (hx x (List.mem_cons_self ..))
              exact ⟨e :: l, rfl, he, hl⟩
          obtain ⟨l, rfl, hl⟩ := this xs hx
          exact ⟨.mk o n v wd l, by simp [Ex.d, hc], w0, w1, w2, w3, by simpa using w4, hl⟩
theorem exA_eq (e : Ex) : exA e = .agg (e.d.map .d) := by rw [Ex.d_eq]; rfl
mutual
theorem Ex.wt_d : ∀ e : Ex, e.nodes ≤ wtL e.d
  | .mk o n v wd l => by
    have := Ex.wt_ds l
    simp only [Ex.nodes, Ex.d, wtL, wt]
    omega
theorem Ex.wt_ds : ∀ l : List Ex, Ex.nodess l ≤ wtS (Ex.ds l)
  | [] => by simp [Ex.nodess]
  | e :: l => by
    have := Ex.wt_d e
    have := Ex.wt_ds l
    simp only [Ex.nodess, Ex.ds, wtS]
    omega
end

section
variable {H : Type} {enc : TypeId × Value → H} {P : Program}
theorem trodAll_stays (hl : laidOutB P = true) : ∀ {ts : List TypeId}, (ts.all fun t => P.readableRec t && decide (t < P.types.size)) = true → ∀ {W W' : World} {vs : List Value} {ds : List (DataW H)} {ps : List MemPlace} {sp : Nat → Bool},
    DataW.TrodAll enc P W 0 (fun _ => true) true ts vs ds ps → Ext W W' → (∀ p ∈ ps, p.block < W.heap.size) → (∀ p ∈ ps, sp p.block = true) → DataW.TrodAll enc P W' 0 sp true ts vs ds ps
  | [], _, W, W', vs, ds, ps, sp, h, _, _, _ => by
    obtain ⟨rfl, rfl, rfl⟩ := trodAll_nil h
    exact trodAll_mk0
  | t :: ts, hr, W, W', vs, ds, ps, sp, h, hx, hlt, hsp => by
    obtain ⟨v, vs1, d, ds1, a, b, rfl, rfl, rfl, h1, h2⟩ := trodAll_cons h
    simp only [List.all_cons, Bool.and_eq_true, decide_eq_true_eq] at hr
    exact trodAll_cons_mk (WideElems.Trod_stays hl hr.1.1 hr.1.2 h1 (fun p hp => Below.same hx (hlt p (by simp [hp]))) fun p hp => hsp p (by simp [hp]))
      (trodAll_stays hl hr.2 h2 hx (fun p hp => hlt p (by simp [hp])) fun p hp => hsp p (by simp [hp]))
/-- A law that answers true and writes nothing that was there. -/
theorem post_true {fn : Func} {s : ChangeSpec} {apart fresh handsOn : Bool} {W W' : World} {args : Array Value} {ds gs : List (DataW H)} {before : List MemPlace} {tb : TypeId} (hl : laidOutB P = true)
    (hr : (fn.params.toList.all fun t => P.readableRec t && decide (t < P.types.size)) = true) (hv : s.vars = []) (hrt : fn.resultTypes = #[tb]) (htb : P.underlying tb = some .bool)
    (hW : DataW.Whole enc P fn.params.toList s.vars apart W args.toList ds gs before) (hs : gs = [] → s.fn H (ds ++ gs) = { results := [.lit (.bool true)], args := ds }) (hx : Ext W W') :
    s.post enc P fn apart fresh handsOn false W args (.bool true) W' := by
  have hlt := hW.lt
  have hW0 := hW
  obtain ⟨p, q, hA, hV, rfl, hz, hn⟩ := hW0
  rw [hv] at hV
  obtain ⟨rfl, rfl⟩ := trodVars_none hV
  refine ⟨ds, [], _, [], p, [], hW, ?_, ?_, ?_, World.keptBut_mono (fun p f => f.elim) (Below.frame hx (fun _ => False)), fun h => by cases h⟩
  · rw [hs rfl, hrt]
    exact trodAll_mk1 (shut_bool htb true)
  · rw [hs rfl]
    exact trodAll_stays hl hr hA hx (fun p hp => hlt p (by simp [hp])) fun p hp => by simpa using hlt p (by simp [hp])
  · rw [hv, hs rfl]
    rfl
end
/-- There is an input that fits: over a world that is laid out. -/
theorem witness_laid {H : Type} {enc : TypeId × Value → H} {C : Checked} {os : Os} {f : FuncId} {fn : Func} {s : OpenSpec} {conds : List PathCond} {apart : Bool} {laid : List (String × DataW Unit)} (args : Array Value)
    (hsh : ((World.laidAll C.prog os laid).forCall (fun _ _ => 0) ⟨#[], args, []⟩).Shaped C.prog)
    (hok : Input.okWideB C.prog ((World.laidAll C.prog os laid).forCall (fun _ _ => 0) ⟨#[], args, []⟩) f ⟨#[], args, []⟩ = true)
    (hrow : s.preRow enc C.prog fn conds apart laid ((World.laidAll C.prog os laid).forCall (fun _ _ => 0) ⟨#[], args, []⟩).memory args) :
    ∃ (w : World) (tape : Tape) (i : Input), w.os = os ∧ (w.forCall tape i).Shaped C.prog ∧ i.vars = [] ∧ Input.okWide C.prog (w.forCall tape i) .any w.heap.size f i ∧
      s.preRow enc C.prog fn conds apart laid (w.forCall tape i).memory i.args ∧ ({} : Assume).holds C.prog (lone (Frame.enter C.prog f i.args .normal) [] (w.forCall tape i)) :=
  ⟨World.laidAll C.prog os laid, fun _ _ => 0, ⟨#[], args, []⟩, World.laidAll_os _ _ _, hsh, (Input.okWide_of_okWideB (base := 0) hok).1, (Input.okWide_of_okWideB hok).2, hrow, by
    simp only [Assume.holds]
    exact ⟨by simp, by simp, by simp, by simp, by simp⟩⟩
end Go.Proofs.YtfndoocgpmgalaaDoor
