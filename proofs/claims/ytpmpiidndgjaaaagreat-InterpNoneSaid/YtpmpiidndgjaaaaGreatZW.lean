/- Texts that the claim leans on, laid one behind the other: Wa, Wb. -/
import Derived.Test.YtpmpiidndgjaaaaGreatAa
import Derived.Test.YtpmpiidndgjaaaaGreatRows
import Derived.Carry
import Derived.WalkKit
import Derived.OpenShut
import Derived.SizedLaws
import Derived.Test.YtpmpiidndgjaaaaGreatBa
import Derived.Deep.DeepHandedRow
import Derived.Lay
set_option linter.unusedSimpArgs false
set_option linter.unusedVariables false
set_option linter.unnecessarySimpa false
/- What the reading of the arguments gives: plain data, and its weight; what stands behind the call as it stood. No program in sight. -/
namespace Go.Proofs.YtpmpiidndgjaaaaGreat
open Go.RowKit Go.ChangeShapes Go.WideShapes
/-- A row of cells reads as data. -/
def RdR (w : World) : List D → List Value → Prop
  | [], l => l = []
  | d :: ds, l => ∃ u l', l = u :: l' ∧ Rd (fun _ => False) w d u ∧ RdR w ds l'
end Go.Proofs.YtpmpiidndgjaaaaGreat

/- The arguments as abstract values, and what a law's statement asks behind the call. No program in sight. -/
namespace Go.Proofs.YtpmpiidndgjaaaaGreat
open Go.RowKit Go.ChangeShapes Go.WideShapes
theorem shp_d {ι : Place} {A : AHeap} {H : Nat → Prop} {w : World} {d : D} {u : Value} (h : Rd H w d u) : Shp ι A (.d d) u := by
  cases d with
  | v x => simp only [Rd] at h; simp only [Shp]; exact h.1
  | sl sz xs =>
    simp only [Rd] at h
    obtain ⟨a, cap, rfl, h2, _, h4⟩ := h
    simp only [Shp]
    refine ⟨a, cap, rfl, h2, ?_⟩
    rcases h4 with h4 | ⟨b, o, ha, _⟩
    · exact .inl h4
    · exact .inr ⟨b, o, ha⟩
theorem mem_d {H : Nat → Prop} {w : World} {d : D} {u : Value} (h : Rd H w d u) : Mem H w (.d d) u := by simpa [Mem] using h
/-- Values as a row of arguments. -/
def ArgL (w : World) : List AV → List Value → Prop
  | [], l => l = []
  | c :: cs, l => ∃ u l', l = u :: l' ∧ (Shp (fun _ => none) [] c u ∧ Mem (fun _ => False) w c u) ∧ ArgL w cs l'
theorem ArgL.shp {w : World} : ∀ {cs : List AV} {l : List Value}, ArgL w cs l → ShpL (fun _ => none) [] cs l
  | [], l, h => by simpa [ArgL, ShpL] using h
  | c :: cs, l, h => by
    simp only [ArgL] at h
    obtain ⟨u, l', rfl, h1, h2⟩ := h
    simp only [ShpL]
    exact ⟨u, l', rfl, h1.1, h2.shp⟩
theorem ArgL.mem {w : World} : ∀ {cs : List AV} {l : List Value}, ArgL w cs l → MemL (fun _ => False) w cs l
  | [], l, h => by simpa [ArgL, MemL] using h
  | c :: cs, l, h => by
    simp only [ArgL] at h
    obtain ⟨u, l', rfl, h1, h2⟩ := h
    simp only [MemL]
    exact ⟨u, l', rfl, h1.2, h2.mem⟩
theorem ArgL.nil (w : World) : ArgL w [] [] := rfl
theorem ArgL.cons {w : World} {c : AV} {u : Value} {cs : List AV} {l : List Value} (h : Shp (fun _ => none) [] c u ∧ Mem (fun _ => False) w c u) (hl : ArgL w cs l) : ArgL w (c :: cs) (u :: l) := ⟨u, l, rfl, h, hl⟩
theorem RdR.args {w : World} : ∀ {ds : List D} {cs : List Value}, RdR w ds cs → ArgL w (ds.map .d) cs
  | [], cs, h => by simpa [RdR, ArgL] using h
  | d :: ds, cs, h => by
    simp only [RdR] at h
    obtain ⟨u, l, rfl, h1, h2⟩ := h
    exact ArgL.cons ⟨shp_d h1, mem_d h1⟩ h2.args
section
variable {Hh : Type} {enc : TypeId × Value → Hh} {P : Program} {w : World} {base : Nat} {spare : Nat → Bool} {held : Bool} {S : List TypeId}
/-- A scalar argument. -/
theorem arg_v {x : Value} (h : x.oneCell' = true) : Shp (fun _ => none) [] (.d (.v x)) x ∧ Mem (fun _ => False) w (.d (.v x)) x := by simp [Shp, Mem, Rd, h]
end

section
variable {H : Type} {enc : TypeId × Value → H} {P : Program}
theorem trodAll_stays (hl : laidOutB P = true) : ∀ {ts : List TypeId}, (ts.all fun t => P.readableRec t && decide (t < P.types.size)) = true → ∀ {W W' : World} {vs : List Value} {ds : List (DataW H)} {ps : List MemPlace} {sp : Nat → Bool},
    DataW.TrodAll enc P W 0 (fun _ => true) true ts vs ds ps → Ext W W' → (∀ p ∈ ps, p.block < W.heap.size) → (∀ p ∈ ps, sp p.block = true) → DataW.TrodAll enc P W' 0 sp true ts vs ds ps
  | [], _, W, W', vs, ds, ps, sp, h, _, _, _ => by
    obtain ⟨rfl, rfl, rfl⟩ := trodAll_nil h
    exact trodAll_mk0
  | t :: ts, hr, W, W', vs, ds, ps, sp, h, hx, hlt, hsp => by
    obtain ⟨v, vs1, d, ds1, a, b, rfl, rfl, rfl, h1, h2⟩ := trodAll_cons h
    simp only [List.all_cons, Bool.and_eq_true, decide_eq_true_eq] at hr
    exact trodAll_cons_mk (WideElems.Trod_stays hl hr.1.1 hr.1.2 h1 (fun p hp => Below.same hx (hlt p (by simp [hp]))) fun p hp => hsp p (by simp [hp]))
      (trodAll_stays hl hr.2 h2 hx (fun p hp => hlt p (by simp [hp])) fun p hp => hsp p (by simp [hp]))
/-- A law that answers true and writes nothing that was there. -/
theorem post_true {fn : Func} {s : ChangeSpec} {apart fresh handsOn : Bool} {W W' : World} {args : Array Value} {ds gs : List (DataW H)} {before : List MemPlace} {tb : TypeId} (hl : laidOutB P = true)
    (hr : (fn.params.toList.all fun t => P.readableRec t && decide (t < P.types.size)) = true) (hv : s.vars = []) (hrt : fn.resultTypes = #[tb]) (htb : P.underlying tb = some .bool)
    (hW : DataW.Whole enc P fn.params.toList s.vars apart W args.toList ds gs before) (hs : gs = [] → s.fn H (ds ++ gs) = { results := [.lit (.bool true)], args := ds }) (hx : Ext W W') :
    s.post enc P fn apart fresh handsOn false W args (.bool true) W' := by
  have hlt := hW.lt
  have hW0 := hW
  obtain ⟨p, q, hA, hV, rfl, hz, hn⟩ := hW0
  rw [hv] at hV
  obtain ⟨rfl, rfl⟩ := trodVars_none hV
  refine ⟨ds, [], _, [], p, [], hW, ?_, ?_, ?_, World.keptBut_mono (fun p f => f.elim) (Below.frame hx (fun _ => False)), fun h => by cases h⟩
  · rw [hs rfl, hrt]
    exact trodAll_mk1 (shut_bool htb true)
  · rw [hs rfl]
    exact trodAll_stays hl hr hA hx (fun p hp => hlt p (by simp [hp])) fun p hp => by simpa using hlt p (by simp [hp])
  · rw [hv, hs rfl]
    rfl
end
/-- There is an input that fits: over a world that is laid out. -/
theorem witness_laid {H : Type} {enc : TypeId × Value → H} {C : Checked} {os : Os} {f : FuncId} {fn : Func} {s : OpenSpec} {conds : List PathCond} {apart : Bool} {laid : List (String × DataW Unit)} (args : Array Value)
    (hsh : ((World.laidAll C.prog os laid).forCall (fun _ _ => 0) ⟨#[], args, []⟩).Shaped C.prog)
    (hok : Input.okWideB C.prog ((World.laidAll C.prog os laid).forCall (fun _ _ => 0) ⟨#[], args, []⟩) f ⟨#[], args, []⟩ = true)
    (hrow : s.preRow enc C.prog fn conds apart laid ((World.laidAll C.prog os laid).forCall (fun _ _ => 0) ⟨#[], args, []⟩).memory args) :
    ∃ (w : World) (tape : Tape) (i : Input), w.os = os ∧ (w.forCall tape i).Shaped C.prog ∧ i.vars = [] ∧ Input.okWide C.prog (w.forCall tape i) .any w.heap.size f i ∧
      s.preRow enc C.prog fn conds apart laid (w.forCall tape i).memory i.args ∧ ({} : Assume).holds C.prog (lone (Frame.enter C.prog f i.args .normal) [] (w.forCall tape i)) :=
  ⟨World.laidAll C.prog os laid, fun _ _ => 0, ⟨#[], args, []⟩, World.laidAll_os _ _ _, hsh, (Input.okWide_of_okWideB (base := 0) hok).1, (Input.okWide_of_okWideB hok).2, hrow, by
    simp only [Assume.holds]
    exact ⟨by simp, by simp, by simp, by simp, by simp⟩⟩
end Go.Proofs.YtpmpiidndgjaaaaGreat
