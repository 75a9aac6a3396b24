import Derived.Test.YtplbaolbaniioaaGreatDoorAl
set_option linter.all false
namespace Go.Proofs.YtplbaolbaniioaaGreatDoor
open Go.RowKit
section
variable {P : Program} {H : Nat → Prop} {ι ι' : Place} {A A' : AHeap} {w w' : World} {e : AEnv} {ec : Env} {C : Ctx} {n : Nat} {K : AKont}
theorem aRaw_min {x y : Operand} {d : Option Nat} {ats : Array TypeId} {ty : TypeId} {pos : String} {af : Array Edge} {gd : Option (Nat × Bool)} {k k' : IntKind} {a b : Int} (hx : eva e x = .d (.v (.int k a))) (hy : eva e y = .d (.v (.int k' b)))
 (hk : K (aupd e d (.d (.v (.int k (if b < a then b else a))))) A) : aRaw P n ⟨d, .call ⟨.builtin .min, #[x, y], ats⟩, ty, pos, af, gd⟩ e A K := by
 rintro C ec w hn ⟨h0, ι, h1, h2, h3, h4⟩
 have ex : ev ec x = .int k a := by have := eva_shp h3 x; rw [hx] at this; simpa [Shp] using this
 have ey : ev ec y = .int k' b := by have := eva_shp h3 y; rw [hy] at this; simpa [Shp] using this
 unfold vRaw execOp
 simp only [resolve, invoke, Sem.run_bind, Sem.run_pure, Result.andThen_ok]
 simp only [Go.builtin, List.map_toArray, List.map_cons, List.map_nil, Sem.run_bind, Builtin.min_, Builtin.min2, ex, ey, List.foldlM_cons, List.foldlM_nil, Sem.run_pure, Result.andThen_ok, pure_bind, bind_pure]
 exact ⟨_, _, hk, h0, ι, h1, h2, shp_upd h3 (by simp [Shp]), mem_upd h4 (by simp [Mem, Rd, Value.oneCell'])⟩
theorem aRaw_max {x y : Operand} {d : Option Nat} {ats : Array TypeId} {ty : TypeId} {pos : String} {af : Array Edge} {gd : Option (Nat × Bool)} {k k' : IntKind} {a b : Int} (hx : eva e x = .d (.v (.int k a))) (hy : eva e y = .d (.v (.int k' b)))
 (hk : K (aupd e d (.d (.v (.int k (if a < b then b else a))))) A) : aRaw P n ⟨d, .call ⟨.builtin .max, #[x, y], ats⟩, ty, pos, af, gd⟩ e A K := by
 rintro C ec w hn ⟨h0, ι, h1, h2, h3, h4⟩
 have ex : ev ec x = .int k a := by have := eva_shp h3 x; rw [hx] at this; simpa [Shp] using this
 have ey : ev ec y = .int k' b := by have := eva_shp h3 y; rw [hy] at this; simpa [Shp] using this
 unfold vRaw execOp
 simp only [resolve, invoke, Sem.run_bind, Sem.run_pure, Result.andThen_ok]
 simp only [Go.builtin, List.map_toArray, List.map_cons, List.map_nil, Sem.run_bind, Builtin.max_, Builtin.max2, ex, ey, List.foldlM_cons, List.foldlM_nil, Sem.run_pure, Result.andThen_ok, pure_bind, bind_pure, gt_iff_lt]
 exact ⟨_, _, hk, h0, ι, h1, h2, shp_upd h3 (by simp [Shp]), mem_upd h4 (by simp [Mem, Rd, Value.oneCell'])⟩
end
end Go.Proofs.YtplbaolbaniioaaGreatDoor
