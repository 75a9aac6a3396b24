/- Texts that the claim leans on, laid one behind the other: Ta, Tc, Td, Te. -/
import Derived.Test.YtpmpiidndgjaaaaGreatZM
import Derived.Test.YtpmpiidndgjaaaaGreatAC
import Derived.Test.YtpmpiidndgjaaaaGreatAu
set_option linter.unusedSimpArgs false
set_option linter.unusedVariables false
set_option linter.unnecessarySimpa false
/- The calls that the example of layer 42 takes by contract. -/
namespace Go.Proofs.YtpmpiidndgjaaaaGreat
open Go.RowKit
theorem mclone_ac {A : AHeap} {b : Nat} {k : Blk} (hb : A[b]? = some k) (hty : k.ty = 1000001 ∨ k.ty = 1000002) (hv : k.ver = 0) : AC Tryz.prog 41 [.mp b 0] A (fun r A' => r = .mp A.length 0 ∧ A' = A ++ [⟨0, true, k.ty, k.sz, k.els⟩]) := by
  intro H ι w vs hH hR hs hm
  simp only [ShpL] at hs
  obtain ⟨u1, l1, rfl, s1, rfl⟩ := hs
  obtain ⟨c, es, clock, hu, ho, ι', g1, g2, g3⟩ := clone_rel hR hH.1 hb hty hv.symm s1
  subst hu
  refine (Sh_maps_Clone c es clock w ho).mono ?_
  rintro en w' ⟨rfl, rfl⟩
  exact ⟨_, _, ι', _, rfl, ⟨rfl, rfl⟩, g1, g2, g3, by simp [Mem]⟩
/-- strings.Contains, maps.Clone. -/
def orc42 : XF := fun f args A =>
  if f = 41 then (match args with
    | [.mp b 0] => (match A[b]? with
      | some k => if (k.ty = 1000001 ∨ k.ty = 1000002) ∧ k.ver = 0 then some (.mp A.length 0, A ++ [⟨0, true, k.ty, k.sz, k.els⟩]) else none
      | none => none)
    | _ => none)
  else if f = 47 then (match args with
    | [.d (.v (.string s)), .d (.v (.string sub))] => if s.size < 4294967281 then some (aB (Lib.contains s.data.toList sub.data.toList), A) else none
    | _ => none)
  else none
theorem orc42_ok : XFok Tryz.prog orc42 := by
  intro f args A r A' h
  unfold orc42 at h
  split at h
  · rename_i hf
    subst hf
    split at h
    · rename_i b
      split at h
      · rename_i k hb
        split at h
        · rename_i hc
          simp only [Option.some.injEq, Prod.mk.injEq] at h
          obtain ⟨rfl, rfl⟩ := h
          exact ⟨by kernel_rfl, mclone_ac hb hc.1 hc.2⟩
        · cases h
      · cases h
    · cases h
  · split at h
    · rename_i hf
      subst hf
      split at h
      · rename_i s sub
        split at h
        · rename_i hc
          simp only [Option.some.injEq, Prod.mk.injEq] at h
          obtain ⟨rfl, rfl⟩ := h
          exact ⟨by kernel_rfl, AF.acs (scontains_af s sub hc) (by simp [omap, reiV, argO]) rfl⟩
        · cases h
      · cases h
    · cases h
/-- Calls at given data, by a table. -/
def orcT (tab : List (FuncId × List AV × AV)) (o : XF) : XF := fun f args A => match tab.find? (fun t => decide (t.1 = f) && match omap (reiV false A 9) args with | some a => beqAs a t.2.1 | none => false) with
  | some t => some (t.2.2, A)
  | none => o f args A
theorem orcT_ok {tab : List (FuncId × List AV × AV)} {o : XF} (h : ∀ t ∈ tab, okF Tryz.prog t.1 = true ∧ AF Tryz.prog t.1 t.2.1 t.2.2 ∧ scal t.2.2 = true) (ho : XFok Tryz.prog o) : XFok Tryz.prog (orcT tab o) := by
  intro f args A r A' hr
  unfold orcT at hr
  split at hr
  · rename_i t ht
    simp only [Option.some.injEq, Prod.mk.injEq] at hr
    obtain ⟨rfl, rfl⟩ := hr
    have hm := List.mem_of_find?_eq_some ht
    have hp := List.find?_some ht
    simp only [Bool.and_eq_true, decide_eq_true_eq] at hp
    obtain ⟨rfl, hp⟩ := hp
    split at hp
    case h_2 => cases hp
    rename_i a ha
    obtain ⟨h1, h2, h3⟩ := h t hm
    rw [beqAs_eq _ _ hp] at ha
    exact ⟨h1, AF.acs h2 (by rw [ha]; exact NLeL.refl _) h3⟩
  · exact ho f args A r A' hr
/-- The blocks that a value looks into. -/
def blksOf : Nat → AHeap → AV → List Nat
  | 0, _, _ => []
  | n + 1, A, .own b _ _ _ => b :: (match A[b]? with
    | some k => k.els.flatMap fun row => row.flatMap (blksOf n A)
    | none => [])
  | n + 1, A, .agg cs => cs.flatMap (blksOf n A)
  | _ + 1, _, _ => []
/-- Calls at given data, by a table; what they look into is written no more. -/
def orcZ (tab : List (FuncId × List AV × AV)) (o : XF) : XF := fun f args A => match tab.find? (fun t => decide (t.1 = f) && match omap (reiV true (frz (args.flatMap (blksOf 9 A)) A) 9) args with | some a => beqAs a t.2.1 | none => false) with
  | some t => some (t.2.2, frz (args.flatMap (blksOf 9 A)) A)
  | none => o f args A
theorem orcZ_ok {tab : List (FuncId × List AV × AV)} {o : XF} (h : ∀ t ∈ tab, okF Tryz.prog t.1 = true ∧ AF Tryz.prog t.1 t.2.1 t.2.2) (ho : XFok Tryz.prog o) : XFok Tryz.prog (orcZ tab o) := by
  intro f args A r A' hr
  unfold orcZ at hr
  split at hr
  · rename_i t ht
    simp only [Option.some.injEq, Prod.mk.injEq] at hr
    obtain ⟨rfl, rfl⟩ := hr
    have hm := List.mem_of_find?_eq_some ht
    have hp := List.find?_some ht
    simp only [Bool.and_eq_true, decide_eq_true_eq] at hp
    obtain ⟨rfl, hp⟩ := hp
    split at hp
    case h_2 => cases hp
    rename_i a ha
    obtain ⟨h1, h2⟩ := h t hm
    rw [beqAs_eq _ _ hp] at ha
    exact ⟨h1, AC.frz _ (AF.ac h2 (by rw [ha]; exact NLeL.refl _))⟩
  · exact ho f args A r A' hr
end Go.Proofs.YtpmpiidndgjaaaaGreat

/- The units of the example of layer 42, checked. -/
namespace Go.Proofs.YtpmpiidndgjaaaaGreat
open Go.RowKit
def names42 : List ByteArray := [⟨#[114, 48]⟩, ⟨#[114, 49]⟩, ⟨#[114, 50]⟩, ⟨#[114, 51]⟩, ⟨#[114, 52]⟩, ⟨#[114, 53]⟩, ⟨#[114, 54]⟩, ⟨#[114, 55]⟩, ⟨#[102, 122]⟩, ⟨#[102, 110]⟩, ⟨#[102, 99]⟩, ⟨#[102, 118]⟩]
abbrev nilD : D := .v (.slice none 0 0)
def var42 (s : ByteArray) : List D := [.v (.string s), .v (.int .i64 2), .v (.int .i64 4), .v (.int .i64 0), nilD, nilD]
def vars42 : AV := .d (.sl 6 (names42.map var42))
def con42 (n : Int) : List D := [.v (.int .i64 1), .v (.int .u32 n), .v (.string ⟨#[]⟩), .v (.int .i64 0), nilD]
def reg42 : List D := [.v (.int .i64 2), .v (.int .u32 0), .v (.string ⟨#[114, 48]⟩), .v (.int .i64 0), nilD]
def less42 : List D := [.v (.int .i64 4), .v (.int .u32 0), .v (.string ⟨#[]⟩), .v (.int .i64 0), .sl 5 [reg42, con42 1]]
def node42 (k : Int) (s : ByteArray) (e l c : D) : List D := [.v (.int .i64 k), .v (.int .i64 0), .v (.string s), e, l, nilD, c]
def unit42 (l : List (List D)) : AV := .agg [vars42, .d nilD, .d (.sl 3 [[.v (.string ⟨#[109, 97, 105, 110]⟩), nilD, .sl 7 l]])]
def body42a : List (List D) := [node42 1 ⟨#[114, 48]⟩ (.sl 5 [con42 3]) nilD nilD,
  node42 7 ⟨#[]⟩ (.sl 5 [reg42]) (.sl 7 [node42 4 ⟨#[]⟩ (.sl 5 [reg42]) nilD nilD, node42 1 ⟨#[114, 48]⟩ (.sl 5 [less42]) nilD nilD]) nilD]
def body42b : List (List D) := [node42 12 ⟨#[97]⟩ nilD nilD nilD, node42 4 ⟨#[]⟩ (.sl 5 [con42 1]) nilD nilD, node42 13 ⟨#[97]⟩ nilD nilD nilD, node42 4 ⟨#[]⟩ (.sl 5 [con42 2]) nilD nilD, node42 14 ⟨#[]⟩ nilD nilD nilD]
def body42c : List (List D) := [node42 9 ⟨#[]⟩ (.sl 5 [con42 2]) nilD (.sl 1 [[nilD], [nilD]])]
theorem vars42a_af : AF Tryz.prog 30 [.d nilD, vars42] (aI .i64 0) := xres_af orc42_ok (lf := 100) (n := 100) (by kernel_rfl)
theorem vars42b_af : AF Tryz.prog 30 [vars42, .d nilD] (aI .i64 0) := xres_af orc42_ok (lf := 100) (n := 100) (by kernel_rfl)
def orc42v : XF := orcT [(30, [.d nilD, vars42], aI .i64 0), (30, [vars42, .d nilD], aI .i64 0)] orc42
theorem orc42v_ok : XFok Tryz.prog orc42v := orcT_ok (fun t ht => by
  simp only [List.mem_cons, List.not_mem_nil, or_false] at ht
  rcases ht with rfl | rfl
  · exact ⟨by kernel_rfl, vars42a_af, rfl⟩
  · exact ⟨by kernel_rfl, vars42b_af, rfl⟩) orc42_ok
theorem check42a_af : AF Tryz.prog 25 [unit42 body42a] (aI .i64 0) := xres_af orc42v_ok (lf := 200) (n := 200) (by kernel_rfl)
theorem check42b_af : AF Tryz.prog 25 [unit42 body42b] (aI .i64 0) := xres_af orc42v_ok (lf := 200) (n := 200) (by kernel_rfl)
theorem check42c_af : AF Tryz.prog 25 [unit42 body42c] (aI .i64 0) := xres_af orc42v_ok (lf := 200) (n := 200) (by kernel_rfl)
def orc42u : XF := orcT [(25, [unit42 body42a], aI .i64 0), (25, [unit42 body42b], aI .i64 0), (25, [unit42 body42c], aI .i64 0)] orc42
theorem orc42u_ok : XFok Tryz.prog orc42u := orcT_ok (fun t ht => by
  simp only [List.mem_cons, List.not_mem_nil, or_false] at ht
  rcases ht with rfl | rfl | rfl
  · exact ⟨by kernel_rfl, check42a_af, rfl⟩
  · exact ⟨by kernel_rfl, check42b_af, rfl⟩
  · exact ⟨by kernel_rfl, check42c_af, rfl⟩) orc42_ok
def res42 (e : Int) (l : List Int) (n : Int) : AV := .agg [.d (.v (.int .i64 e)), .d (.sl 1 (l.map fun x => [.v (.int .u32 x)])), .d (.v (.int .i64 n))]
theorem run42a_af : AF Tryz.prog 16 [unit42 body42a, .d nilD, aI .i64 100] (res42 0 [3, 2, 1] 11) := xres_af orc42u_ok (lf := 200) (n := 200) (by kernel_rfl)
theorem run42b_af : AF Tryz.prog 16 [unit42 body42b, .d nilD, aI .i64 100] (res42 0 [2] 3) := xres_af orc42u_ok (lf := 200) (n := 200) (by kernel_rfl)
theorem run42c_af : AF Tryz.prog 16 [unit42 body42c, .d nilD, aI .i64 100] (.agg [.d (.v (.int .i64 7)), .d nilD, .d (.v (.int .i64 1))]) := xres_af orc42u_ok (lf := 200) (n := 200) (by kernel_rfl)
def orc42r : XF := orcZ [(16, [unit42 body42a, .d nilD, aI .i64 100], res42 0 [3, 2, 1] 11), (16, [unit42 body42b, .d nilD, aI .i64 100], res42 0 [2] 3), (16, [unit42 body42c, .d nilD, aI .i64 100], .agg [.d (.v (.int .i64 7)), .d nilD, .d (.v (.int .i64 1))])] orc42
theorem orc42r_ok : XFok Tryz.prog orc42r := orcZ_ok (fun t ht => by
  simp only [List.mem_cons, List.not_mem_nil, or_false] at ht
  rcases ht with rfl | rfl | rfl
  · exact ⟨by kernel_rfl, run42a_af⟩
  · exact ⟨by kernel_rfl, run42b_af⟩
  · exact ⟨by kernel_rfl, run42c_af⟩) orc42_ok
end Go.Proofs.YtpmpiidndgjaaaaGreat

/- The example of layer 42 holds. -/
namespace Go.Proofs.YtpmpiidndgjaaaaGreat
open Go.RowKit
theorem l42ex_af : AF Tryz.prog 8 [] (aB true) := xres_af orc42r_ok (lf := 200) (n := 200) (by kernel_rfl)
end Go.Proofs.YtpmpiidndgjaaaaGreat

/- The law InterpNone answers true. -/
namespace Go.Proofs.YtpmpiidndgjaaaaGreat
open Go.RowKit
def orc42x : XF := orcZ [(8, [], aB true)] orc42
theorem orc42x_ok : XFok Tryz.prog orc42x := orcZ_ok (fun t ht => by
  simp only [List.mem_cons, List.not_mem_nil, or_false] at ht
  subst ht
  exact ⟨by kernel_rfl, l42ex_af⟩) orc42_ok
theorem l42none_af (steps : Int) (name : ByteArray) : AF Tryz.prog 3 [aI .i64 steps, aS name] (aB true) := xtrue_af orc42x_ok (lf := 200) (n := 200) (by kernel_rfl)
end Go.Proofs.YtpmpiidndgjaaaaGreat
