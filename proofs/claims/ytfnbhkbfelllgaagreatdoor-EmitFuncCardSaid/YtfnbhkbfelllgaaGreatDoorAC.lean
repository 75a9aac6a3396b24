import Derived.Test.YtfnbhkbfelllgaaGreatDoorAB
set_option linter.all false
namespace Go.Proofs.YtfnbhkbfelllgaaGreatDoor
open Go.RowKit
section
variable {P : Program} {H : Nat → Prop} {ι ι' : Place} {A A' : AHeap} {w w' : World} {e : AEnv} {ec : Env} {C : Ctx} {n : Nat} {K : AKont}
def notIface : TypeDesc → Bool
 | .interface _ => false
 | _ => true
theorem aRaw_mkIface {x : Operand} {t : TypeId} {d : Option Nat} {ty : TypeId} {pos : String} {af : Array Edge} {gd : Option (Nat × Bool)} {td : TypeDesc} (ht : P.underlying t = some td) (hni : notIface td = true) (hk : K (aupd e d (.ifc t (eva e x))) A) :
 aRaw P n ⟨d, .makeInterface t x, ty, pos, af, gd⟩ e A K := by
 rintro C ec w hn ⟨h0, ι, h1, h2, h3, h4⟩
 have hrun : (Instr.makeInterface t (ev ec x)).run P w = .ok (.iface t (ev ec x)) w := by
  cases td <;> simp [notIface] at hni <;> simp [Instr.makeInterface, run_underlying ht]
 unfold vRaw execOp
 simp only [Sem.run_bind, Sem.run_pure, hrun, Result.andThen_ok]
 exact ⟨_, _, hk, h0, ι, h1, h2, shp_upd h3 (by simp only [Shp]; exact ⟨_, rfl, eva_shp h3 x⟩), mem_upd h4 (by simp only [Mem]; exact ⟨_, rfl, eva_mem h4 x⟩)⟩
theorem aRaw_assert {x : Operand} {xt t : TypeId} {ok : Bool} {d : Option Nat} {ty : TypeId} {pos : String} {af : Array Edge} {gd : Option (Nat × Bool)} {td : TypeDesc} {c : AV} (ht : P.underlying t = some td) (hni : notIface td = true) (hx : eva e x = .ifc t c) (hk : K (aupd e d (okM ok c true)) A) :
 aRaw P n ⟨d, .typeAssert x xt t ok, ty, pos, af, gd⟩ e A K := by
 rintro C ec w hn ⟨h0, ι, h1, h2, h3, h4⟩
 have hs := eva_shp h3 x
 have hm := eva_mem h4 x
 rw [hx] at hs hm
 simp only [Shp] at hs
 simp only [Mem] at hm
 obtain ⟨v, hv, s1⟩ := hs
 obtain ⟨v', hv', m1⟩ := hm
 rw [hv] at hv'
 simp only [Value.iface.injEq, true_and] at hv'
 subst hv'
 have hrun : (Instr.typeAssert (ev ec x) xt t ok).run P w = .ok (if ok then .tuple #[v, .bool true] else v) w := by
  rw [hv]
  cases td <;> simp [notIface] at hni <;> cases ok <;> simp [Instr.typeAssert, run_underlying ht]
 have hval := okM_val (ok := ok) (b := true) (ι := ι) (A := A) (N := Nn C.H ι A) (w := w) ⟨s1, m1⟩
 unfold vRaw execOp
 simp only [Sem.run_bind, Sem.run_pure, hrun, Result.andThen_ok]
 exact ⟨_, _, hk, h0, ι, h1, h2, shp_upd h3 hval.1, mem_upd h4 hval.2⟩
def methA (P : Program) (t : TypeId) (name : String) : Option FuncId := match P.info? t with
 | some i => match i.methods.find? (·.name == name) with
   | some m => if m.path.toList = [] then (match m.func, P.underlying t with
     | some (f, true), some (.pointer _) => some f
     | some (f, false), some (.pointer _) => none
     | some (f, false), some _ => some f
     | _, _ => none) else none
   | none => none
 | none => none
theorem run_method {t : TypeId} {name : String} {f : FuncId} {v : Value} (h : methA P t name = some f) (fuel : Nat) (w : World) : (method (fuel + 1) t v name).run P w = .ok (f, v) w := by
 unfold methA at h
 split at h
 case h_2 => cases h
 rename_i i hi
 split at h
 case h_2 => cases h
 rename_i m hm
 split at h
 case isFalse => cases h
 rename_i hp
 split at h
 ·rename_i f' el hf hu
  simp only [Option.some.injEq] at h
  subst h
  unfold method
  simp [typeInfo, hi, hm, hp, follow, hf, receiverAt, run_underlying hu, Place.get]
 ·cases h
 ·rename_i f' td hnp hf hu
  simp only [Option.some.injEq] at h
  subst h
  unfold method
  cases td <;> first | exact absurd rfl (hnp _) | simp [typeInfo, hi, hm, hp, follow, hf, receiverAt, run_underlying hu, Place.get]
 ·cases h
theorem aRaw_invoke {recv : Operand} {name : String} {args : Array Operand} {ats : Array TypeId} {d : Option Nat} {ty : TypeId} {pos : String} {af : Array Edge} {gd : Option (Nat × Bool)} {t : TypeId} {c : AV} {f : FuncId} (hr : eva e recv = .ifc t c) (hm : methA P t name = some f) (hok : okF P f = true)
 (h : AC P f (c :: args.toList.map (eva e)) A fun r A' => K (aupd e d r) A') : aRaw P n ⟨d, .call ⟨.invoke recv name, args, ats⟩, ty, pos, af, gd⟩ e A K := by
 rintro C ec w hn ⟨h0, ι, h1, h2, h3, h4⟩
 have hs := eva_shp h3 recv
 have hmm := eva_mem h4 recv
 rw [hr] at hs hmm
 simp only [Shp] at hs
 simp only [Mem] at hmm
 obtain ⟨v, hv, s1⟩ := hs
 obtain ⟨v', hv', m1⟩ := hmm
 rw [hv] at hv'
 simp only [Value.iface.injEq, true_and] at hv'
 subst hv'
 have hac := h C.H ι w (v :: args.toList.map (ev ec)) (h0.step h2) h1 (by simp only [ShpL]; exact ⟨v, _, rfl, s1, shpL_map h3 _⟩) (by simp only [MemL]; exact ⟨v, _, rfl, m1, memL_map h4 _⟩)
 have hrun : (execOp (ev ec) ⟨d, .call ⟨.invoke recv name, args, ats⟩, ty, pos, af, gd⟩).run P w = .ok (.enter f (v :: args.toList.map (ev ec)).toArray) w := by
  have hfuel : P.types.size + Made.depth = (P.types.size + 99) + 1 := rfl
  have harr : (#[v] ++ args.map (ev ec) : Array Value) = (v :: args.toList.map (ev ec)).toArray := by simp
  have hext : (#[Value.iface t v] ++ args.map (ev ec) : Array Value).extract 1 (#[Value.iface t v] ++ args.map (ev ec) : Array Value).size = args.map (ev ec) := by
   apply Array.ext'
   rw [Array.toList_extract]
   simp [List.extract]
   exact List.take_of_length_le (by simp)
  have h00 : (#[Value.iface t v] ++ args.map (ev ec) : Array Value)[0]? = some (.iface t v) := by
   rw [show (#[Value.iface t v] ++ args.map (ev ec) : Array Value) = (.iface t v :: args.toList.map (ev ec)).toArray by simp]
   rfl
  have hmeth := run_method (v := v) hm (P.types.size + 99) w
  rw [← harr]
  simp only [execOp, resolve, invoke, hv, Sem.run_bind, Sem.run_pure, Result.andThen_ok]
  rw [h00, hext]
  simp [callMethod, hfuel, hmeth, okF_call hok]
 unfold vRaw
 rw [hrun]
 exact hac.mono fun en w' ⟨r, a, ι', A', hen, hk, hR', hst, hval⟩ => ⟨r, hen, _, _, hk, h0, ι', hR', h2.trans hst, shp_upd (fun i => Shp.step hst.stab _ _ (h3 i)) hval.1, mem_upd (fun i => Mem.keep hst.keepD _ _ (h4 i)) hval.2⟩
end
end Go.Proofs.YtfnbhkbfelllgaaGreatDoor
