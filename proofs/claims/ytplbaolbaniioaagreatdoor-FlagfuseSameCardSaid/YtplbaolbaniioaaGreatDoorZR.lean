import Derived.Test.YtplbaolbaniioaaGreatDoorZT
import Derived.Test.YtplbaolbaniioaaGreatDoorAg
import Derived.ScopeJumps
import Derived.Test.YtplbaolbaniioaaGreatDoorZP
import Derived.Test.YtplbaolbaniioaaGreatDoorZO
set_option linter.all false
namespace Go.Proofs.YtplbaolbaniioaaGreatDoor
open Go.RowKit
set_option maxRecDepth 100000 in
theorem ibegin_ac (gs : List Gr) (ss : List Sec) (en : Int) (inp : List Int) (A : AHeap) (hA : ClH A) (hg : ∀ g ∈ gs, GrFit g) (hs : ∀ s ∈ ss, SecFit s) (he : prErr gs ss en = 0) (hi : inp.length ≤ 4096) (hat : AtOk gs (atN gs gs.length)) (hen : (lkL en (atN gs gs.length)).isSome = true) :
  AC Tryz.prog 26 [prV gs ss en, .d (.sl 1 (u32d inp))] A (fun r A' => ∃ p v m, r = .tup [.ptr p.r 0 0 0, aI .i64 0] ∧ RunH gs (atN gs gs.length) (regL ss) A p v (entR gs (ini0 gs (regL ss) en inp m) 0) A') := by
 have hse : secErr ss = 0 := by
  unfold prErr at he
  split at he
  ·exact absurd he ‹_›
  ·rename_i h; simpa using h
 have h16 : ss.length ≤ 16 := by
  unfold secErr at hse
  split at hse
  ·cases hse
  ·omega
 have hgl : gs.length ≤ 64 := by
  unfold prErr at he
  rw [if_neg (by simpa using hse)] at he
  split at he
  ·cases he
  ·omega
 have hgm : gs.length ≤ maxLen := by unfold maxLen; omega
 obtain ⟨R, hR⟩ : ∃ R, regL ss = R := ⟨_, rfl⟩
 have hRf : ∀ r ∈ R, RegFit r := by rw [← hR]; exact regL_fit hs
 have hRl : R.length ≤ 1000 := by rw [← hR]; simp [regL]; omega
 have hck := ichk_af gs ss en hg hs
 rw [he] at hck
 have hP : ClH (A ++ [pgB gs ss en]) := hA.app (by simp [clnB, clnE, cln])
 have hnew := mnew_ex ss (A ++ [pgB gs ss en]) hP hs hse h16
 rw [hR] at hnew ⊢
 have hPl : (A ++ [pgB gs ss en]).length = A.length + 1 := by simp
 rw [hPl] at hnew
 have hH1 : ClH (A ++ [pgB gs ss en, mpB .u32 .u8 [], memB R (A.length + 1)]) := hA.app fun b hb => by
  simp only [List.mem_cons, List.not_mem_nil, or_false] at hb
  rcases hb with rfl | rfl | rfl
  ·simp [clnB, clnE, cln]
  ·exact cln_mpB _ _ _ _
  ·simp [clnB, clnE, cln]
 have hst0 := mstore_ac (A := A ++ [pgB gs ss en, mpB .u32 .u8 [], memB R (A.length + 1)]) (xm := A.length + 2) (xw := A.length + 1) (R := R) (W := []) 983036 4 4294967295 (by omega) hRf hRl (lap _ _ 2) (lap _ _ 1) (by omega)
 rw [las] at hst0
 have hst : AC Tryz.prog 58 [.ptr (A.length + 2) 0 0 0, aI .u32 983036, aI .i64 4, aI .u32 4294967295] (A ++ [pgB gs ss en, mpB .u32 .u8 [], memB R (A.length + 1)]) (AtH (A ++ [pgB gs ss en, mpB .u32 .u8 (W0 R), memB R (A.length + 1)]) (aI .i64 (stE R 983036 4))) := by
  refine AC.exact ?_ (by simp) (by simp [cln]) hst0
  exact hA.app fun b hb => by
   simp only [List.mem_cons, List.not_mem_nil, or_false] at hb
   rcases hb with rfl | rfl | rfl
   ·simp [clnB, clnE, cln]
   ·exact cln_mpB _ _ _ _
   ·simp [clnB, clnE, cln]
 refine ac_of Tryz.func26 rfl (by kernel_rfl) (by simp [Tryz.ntmps26]) fun hb => ?_
 clear hb
 simp [Tryz.f26, prV, lap0]
 refine aCall_of (by simpa [prV] using hck) (by kernel_rfl) (by simp) ?_
 simp [lap0, show ¬ (4096 : Int) < inp.length by omega]
 refine aCall_ofc (by simpa using hnew) (by kernel_rfl) ?_
 rintro _ _ ⟨rfl, rfl⟩
 simp
 refine aCall_ofc hst (by kernel_rfl) ?_
 rintro _ _ ⟨rfl, rfl⟩
 simp [lap0, lap]
 refine aRaw_makeMap (tg := 1000001) (sz := 2) (by kernel_rfl) ?_
 simp
 refine aDraw_sub (sub_flat hA gs ss en inp R (W0 R) [] z12 rfl _) ?_
 refine adraw2 6 [] (by kernel_rfl) (by kernel_rfl) (by kernel_rfl) (by kernel_rfl) (by kernel_rfl) ?_
 have h12 : (12 : Nat) ≤ maxLen := by unfold maxLen; omega
 simp [lap, h12]
 refine adC_of iinitial_af (by kernel_rfl) trivial (by simp) (by simp [clo.cloL, NLeL]) ?_
 simp
 obtain ⟨ti, z, b1, b2, b3, b4, b5, b6, b7⟩ := byt_spec byt_27
 have hcp : cpyA Tryz.prog 24 (A.length + 4) 0 3 (iniC.map (Value.int .u32)) (A ++ [pgB gs ss en, mpB .u32 .u8 (W0 R), memB R (A.length + 1), mpB .u32 .i64 [], rf0 gs inp A.length z12]) = some (A ++ [pgB gs ss en, mpB .u32 .u8 (W0 R), memB R (A.length + 1), mpB .u32 .i64 [], rf0 gs inp A.length iniC]) := by
  simp [cpyA, iniC, lap, las]
 refine aRaw_copy (b := A.length + 4) (ver := 0) (i := 3) (zs := iniC.map (Value.int .u32)) b1 b2 b3 (by simp [iniC]) (by simp [u32d, iniC]) (by simp [iniC]) (by simp [iniC]) (k := rf0 gs inp A.length z12) (by simp [lap]) rfl hcp ?_
 simp [lap, lap0]
 have hcl : ∀ T, ClH (A ++ pre5 gs ss en inp R (W0 R) T A.length) := fun T => pre5_clH hA gs ss en inp R (W0 R) T
 refine aLoop_st (fun i : Nat => [(2, .ptr A.length 0 0 0), (9, .ptr (A.length + 4) 0 0 0), (46, .d (.sl 2 (grs gs))), (47, aI .i64 gs.length), (48, aI .i64 i)]) (fun i => A ++ pre5 gs ss en inp R (W0 R) (atN gs i) A.length) (fun i => i ≤ gs.length) (fun i => gs.length - i) 0 (sub_ent hA gs ss en inp R (W0 R) [] _) (A.length + 7) (by omega) ?_ ?_ (by omega) ?_
 ·rw [List.take_of_length_le (by simp)]
  have := (hcl []).fix
  rw [List.length_append, pre5_len] at this
  exact this
 ·simp [rsh, cln]
 rintro i hil K hK
 rcases Nat.lt_or_ge i gs.length with hlt | hge
 case inl =>
  obtain ⟨g, hgi⟩ : ∃ g, gs[i]? = some g := ⟨_, gEG hlt⟩
  have hgi2 := (gSI.1 hgi).2
  simp [hlt, hgi, hgi2, Gr.d_eq, lap, lap0]
  refine adraw2 7 [] (by kernel_rfl) (by kernel_rfl) (by kernel_rfl) (by kernel_rfl) (by kernel_rfl) ?_
  simp [lap, lap0]
  refine aRaw_mapUpdate (A' := A ++ (pre5 gs ss en inp R (W0 R) (atN gs (i + 1)) A.length ++ [grB g])) ?_ ?_
  ·have h1 := upd_mp (A := A ++ (pre5 gs ss en inp R (W0 R) (atN gs i) A.length ++ [grB g])) und_mat und_u32 (lap _ _ 3) g.ad i
   rw [las] at h1
   simpa [atN, hgi] using h1
  simp [succ_wrap hlt hgm]
  refine hK (i + 1) (by omega) (by omega) (Sub.refl _ _ _) (A.length + 7) (by omega) ?_ (by simp [cln])
  have hap : A ++ [pgB gs ss en, mpB .u32 .u8 (W0 R), memB R (A.length + 1), mpB .u32 .i64 (atN gs (i + 1)), rb0 gs inp A.length iniC nilV (.own (A.length + 5) 0 0 0) (.own (A.length + 6) 0 0 0), u32B 0 [], u32B 0 [], grB g] = (A ++ pre5 gs ss en inp R (W0 R) (atN gs (i + 1)) A.length) ++ [grB g] := by simp
  rw [hap, List.take_left' (by simp)]
  have := (hcl (atN gs (i + 1))).fix
  rw [List.length_append, pre5_len] at this
  exact this
 obtain rfl : i = gs.length := by omega
 clear hK hcl
 obtain ⟨ats, hats⟩ : ∃ ats, atN gs gs.length = ats := ⟨_, rfl⟩
 rw [hats] at hat hen ⊢
 obtain ⟨kk, hkk⟩ := Option.isSome_iff_exists.1 hen
 obtain ⟨k0, k1, g, b, hgk, hbk⟩ := hat en kk hkk
 obtain ⟨n, hn⟩ : ∃ n : Nat, kk = n := ⟨kk.toNat, by omega⟩
 subst hn
 simp [lap, lap0]
 refine adrawR [.ptr (A.length + 4) 0 0 0, .ptr (A.length + 4) 0 0 0, .ptr (A.length + 4) 0 0 0, .ptr (A.length + 4) 0 0 1, .mp (A.length + 3) 0, .ptr A.length 0 0 2, aI .u32 en, aI .i64 n, .mp (A.length + 7) 0, .agg [aI .i64 n, aI .i64 0, aI .i64 0, .mp (A.length + 7) 0], .own (A.length + 8) 0 0 1, .ptr (A.length + 4) 0 0 0, .ptr (A.length + 4) 0 0 15, .any]
  [(0, A ++ [pgB gs ss en, mpB .u32 .u8 (W0 R), memB R (A.length + 1), mpB .u32 .i64 ats, rb0 gs inp A.length iniC nilV (.own (A.length + 5) 0 0 0) (.own (A.length + 6) 0 0 0), u32B 0 [], u32B 0 []]),
   (256, A ++ [pgB gs ss en, mpB .u32 .u8 (W0 R), memB R (A.length + 1), mpB .u32 .i64 ats, rb0 gs inp A.length iniC nilV (.own (A.length + 5) 0 0 0) (.own (A.length + 6) 0 0 0), u32B 0 [], u32B 0 [], ⟨0, true, 1000001, 2, []⟩]),
   (1280, A ++ [pgB gs ss en, mpB .u32 .u8 (W0 R), memB R (A.length + 1), mpB .u32 .i64 ats, rb0 gs inp A.length iniC nilV (.own (A.length + 5) 0 0 0) (.own (A.length + 6) 0 0 0), u32B 0 [], u32B 0 [], ⟨0, true, 1000001, 2, []⟩, ⟨0, true, 112, 4, [[aI .i64 n, aI .i64 0, aI .i64 0, .mp (A.length + 7) 0]]⟩]),
   (9472, A ++ [pgB gs ss en, mpB .u32 .u8 (W0 R), memB R (A.length + 1), mpB .u32 .i64 ats, rb0 gs inp A.length iniC (.own (A.length + 8) 0 0 1) (.own (A.length + 5) 0 0 0) (.own (A.length + 6) 0 0 0), u32B 0 [], u32B 0 [], ⟨0, true, 1000001, 2, []⟩, ⟨0, true, 112, 4, [[aI .i64 n, aI .i64 0, aI .i64 0, .mp (A.length + 7) 0]]⟩])]
  (by kernel_rfl) (by kernel_rfl) rfl rfl ?_ ?_
 ·simp only [rowsR, List.mem_cons, List.not_mem_nil, or_false, forall_eq_or_imp, forall_eq]
  refine ⟨⟨?_, ?_, ?_, nmy (by kernel_rfl)⟩, ⟨?_, ?_, nmy (by kernel_rfl), nmy (by kernel_rfl)⟩, ⟨?_, ?_, nmy (by kernel_rfl), nmy (by kernel_rfl)⟩, ⟨?_, ?_, nmy (by kernel_rfl), nmy (by kernel_rfl)⟩, ⟨?_, ?_, nmy (by kernel_rfl), nmy (by kernel_rfl)⟩, ⟨?_, ?_, nmy (by kernel_rfl), nmy (by kernel_rfl)⟩, ⟨?_, ?_, nmy (by kernel_rfl), nmy (by kernel_rfl)⟩, ⟨?_, ?_, nmy (by kernel_rfl), nmy (by kernel_rfl)⟩, ⟨?_, nmy (by kernel_rfl), nmy (by kernel_rfl), nmy (by kernel_rfl)⟩, ⟨nmy (by kernel_rfl), ?_, nmy (by kernel_rfl), nmy (by kernel_rfl)⟩, ⟨nmy (by kernel_rfl), ?_, nmy (by kernel_rfl), nmy (by kernel_rfl)⟩, ⟨nmy (by kernel_rfl), nmy (by kernel_rfl), ?_, nmy (by kernel_rfl)⟩, ⟨nmy (by kernel_rfl), nmy (by kernel_rfl), ?_, nmy (by kernel_rfl)⟩, ⟨nmy (by kernel_rfl), nmy (by kernel_rfl), ?_, nmy (by kernel_rfl)⟩, trivial⟩
  all_goals
   intro hmay
   clear hmay
   intro e' K' h A3 hA hk
   simp only [Op.operands, Call.operands] at h
   simp [still, heapM, putR, dvA] at h hA hk
   subst hA
   try simp [h, lap, lap0, las]
   try exact hk
  ·refine aRaw_lookup (r := okM false (.d (.v (.int .i64 n))) true) (by simpa [h, hkk] using look_mp (A := A ++ [pgB gs ss en, mpB .u32 .u8 (W0 R), memB R (A.length + 1), mpB .u32 .i64 ats, rb0 gs inp A.length iniC nilV (.own (A.length + 5) 0 0 0) (.own (A.length + 6) 0 0 0), u32B 0 [], u32B 0 []]) und_mat und_u32 zv_int2 (lap _ _ 3) en false) ?_
   exact hk
  ·refine aRaw_lookup (r := okM false (.d (.v (.int .i64 n))) true) (by simpa [h, hkk] using look_mp (A := A ++ [pgB gs ss en, mpB .u32 .u8 (W0 R), memB R (A.length + 1), mpB .u32 .i64 ats, rb0 gs inp A.length iniC nilV (.own (A.length + 5) 0 0 0) (.own (A.length + 6) 0 0 0), u32B 0 [], u32B 0 [], ⟨0, true, 1000001, 2, []⟩]) und_mat und_u32 zv_int2 (lap _ _ 3) en false) ?_
   exact hk
  ·refine aRaw_makeMap (tg := 1000001) (sz := 2) (by kernel_rfl) ?_
   simp
   exact hk
  ·simp [iniC] at hk ⊢
   exact hk
 simp [putR, lap, lap0, las]
 obtain ⟨H, hH⟩ : ∃ H, A ++ [pgB gs ss en, mpB .u32 .u8 (W0 R), memB R (A.length + 1), mpB .u32 .i64 ats, rb0 gs inp A.length iniC (.own (A.length + 8) 0 0 1) (.own (A.length + 5) 0 0 0) (.own (A.length + 6) 0 0 0), u32B 0 [], u32B 0 [], ⟨0, true, 1000001, 2, []⟩, ⟨0, true, 112, 4, [[aI .i64 n, aI .i64 0, aI .i64 0, .mp (A.length + 7) 0]]⟩] = H := ⟨_, rfl⟩
 have hget : ∀ j, H[A.length + j]? = ([pgB gs ss en, mpB .u32 .u8 (W0 R), memB R (A.length + 1), mpB .u32 .i64 ats, rb0 gs inp A.length iniC (.own (A.length + 8) 0 0 1) (.own (A.length + 5) 0 0 0) (.own (A.length + 6) 0 0 0), u32B 0 [], u32B 0 [], ⟨0, true, 1000001, 2, []⟩, ⟨0, true, 112, 4, [[aI .i64 n, aI .i64 0, aI .i64 0, .mp (A.length + 7) 0]]⟩] : AHeap)[j]? := fun j => by rw [← hH, lap]
 have hrun : RunH gs ats R A ⟨A.length + 1, A.length + 2, A.length + 3, A.length + 4, A.length + 5, A.length + 6, A.length + 8⟩ ⟨0, 0, 0⟩ ⟨fun i => iniC.getD i 0, [⟨n, 0, 0, A.length + 7, []⟩], W0 R, inp, [], [], 0, false⟩ H := {
  hw := hget 1
  hm := hget 2
  ha := hget 3
  hr := hget 4
  ho := hget 5
  ht := hget 6
  hf := ⟨[], hget 8⟩
  hfs := fun f hf => by
   obtain rfl := List.mem_singleton.1 hf
   exact hget 7
  wa := by simp
  ot := by simp
  fm := fun f hf => by
   obtain rfl := List.mem_singleton.1 hf
   exact ⟨by show A.length + 7 ≠ A.length + 1; omega, by show A.length + 7 ≠ A.length + 3; omega⟩
  fd := by simp
  pr := by rw [← hH]; exact List.take_left' rfl
  lo := ⟨by show A.length ≤ A.length + 1; omega, by show A.length ≤ A.length + 2; omega, by show A.length ≤ A.length + 3; omega, by show A.length ≤ A.length + 4; omega, by show A.length ≤ A.length + 5; omega, by show A.length ≤ A.length + 6; omega, by show A.length ≤ A.length + 8; omega, fun f hf => by
   obtain rfl := List.mem_singleton.1 hf
   show A.length ≤ A.length + 7
   omega⟩
  cl := by
   rw [← hH]
   refine hA.app fun x hx => ?_
   simp only [List.mem_cons, List.not_mem_nil, or_false] at hx
   rcases hx with rfl | rfl | rfl | rfl | rfl | rfl | rfl | rfl | rfl
   ·simp [clnB, clnE, cln]
   ·exact cln_mpB _ _ _ _
   ·simp [clnB, clnE, cln]
   ·exact cln_mpB _ _ _ _
   ·simp [clnB, clnE, cln]
   ·rfl
   ·rfl
   ·rfl
   ·simp [clnB, clnE, cln] }
 rw [hH]
 have hlt := (gSI.1 hgk).1
 refine aCall_ofc (ienter_ac hrun (F := []) rfl (by simp) (g := g) (b := b) 0 (by simpa using hgk) hbk (by omega) (by simp)) (by kernel_rfl) ?_
 rintro _ H' ⟨rfl, v', hv'⟩
 simp
 refine ⟨⟨A.length + 1, A.length + 2, A.length + 3, A.length + 4, A.length + 5, A.length + 6, A.length + 8⟩, rfl, v', A.length + 7, ?_⟩
 unfold ini0
 rw [hats, hkk]
 exact hv'
def FrAt (gs : List Gr) (f : FR) : Prop := ∃ g b, gs[f.g]? = some g ∧ g.b[f.b]? = some b ∧ f.s < b.s.length
structure PgOk (gs : List Gr) (ats : List (Int × Int)) : Prop where
 cl : ∀ g ∈ gs, ∀ b ∈ g.b, closedB g.b.length b = true
 se : ∀ g ∈ gs, ∀ b ∈ g.b, ∀ s ∈ b.s, stErr s = 0
 ex : ∀ g ∈ gs, ∀ b ∈ g.b, ∀ s ∈ b.s, ∀ e ∈ s.e, OkN e
 sz : gs.length ≤ 64 ∧ ∀ g ∈ gs, g.b.length ≤ 256 ∧ ∀ b ∈ g.b, b.s.length ≤ 1024
 at' : AtOk gs ats
structure InvS (gs : List Gr) (k : Nat) (σ : RSt) : Prop where
 ok : RsOk σ
 fr : σ.st = false → σ.fs ≠ [] ∧ ∀ f ∈ σ.fs, FrAt gs f
 fl : σ.fs.length ≤ 257
 ol : σ.out.length ≤ 4096
 tl : σ.tr.length ≤ k + 1
 nl : σ.n ≤ k
theorem closed_end {n : Nat} {b : Bl} (h : closedB n b = true) : ∃ L e, b.s = L ++ [e] ∧ termB e = true ∧ (∀ s ∈ L, termB s = false) ∧ ∀ k ∈ tgts e, 0 ≤ k ∧ k < (n : Int) := by
 unfold closedB at h
 split at h
 case h_2 => cases h
 rename_i e he
 obtain ⟨L, hL⟩ := List.getLast?_eq_some_iff.1 he
 refine ⟨L, e, hL, ?_⟩
 simp only [Bool.and_eq_true, Bool.not_eq_true'] at h
 obtain ⟨⟨h1, h2⟩, h3⟩ := h
 refine ⟨h1, fun s hs => ?_, fun k hk => ?_⟩
 ·rw [hL] at h2
  have : List.take ((L ++ [e]).length - 1) (L ++ [e]) = L := by simp
  rw [this, List.any_eq_false] at h2
  simpa using h2 s hs
 ·rw [List.any_eq_false] at h3
  have := h3 k hk
  simp at this
  exact this
theorem tgts_nt {s : St} (h : termB s = false) : tgts s = [] := by
 unfold termB at h
 unfold tgts
 rw [if_neg (fun e => by rw [e] at h; simp at h), if_neg (fun e => by rw [e] at h; simp at h), if_neg (fun e => by rw [e] at h; simp at h)]
theorem closed_at {n : Nat} {b : Bl} (h : closedB n b = true) {i : Nat} {s : St} (hs : b.s[i]? = some s) : (∀ k ∈ tgts s, 0 ≤ k ∧ k < (n : Int)) ∧ (termB s = false → i + 1 < b.s.length) := by
 obtain ⟨L, e, hL, h1, h2, h3⟩ := closed_end h
 rcases Nat.lt_or_ge i L.length with hi | hi
 ·have hm : s ∈ L := by
   rw [hL, gAL hi] at hs
   exact gMO hs
  refine ⟨?_, fun _ => by rw [hL]; simp; omega⟩
  rw [tgts_nt (h2 s hm)]
  intro k hk
  cases hk
 ·have hlt := (gSI.1 hs).1
  rw [hL] at hlt hs
  simp at hlt
  obtain rfl : i = L.length := by omega
  simp at hs
  subst hs
  exact ⟨h3, fun h => by rw [h1] at h; cases h⟩
theorem upL_mem {x n : Int} : ∀ {L : List (Int × Int)}, ∀ q ∈ upL x n L, q.2 = n ∨ q ∈ L
 | [], q, hq => by
   simp [upL] at hq
   subst hq
   exact .inl rfl
 | a :: L, q, hq => by
   unfold upL at hq
   split at hq
   ·rcases List.mem_cons.1 hq with rfl | h
    ·exact .inl rfl
    ·exact .inr (List.mem_cons_of_mem _ h)
   ·rcases List.mem_cons.1 hq with rfl | h
    ·exact .inr List.mem_cons_self
    ·rcases upL_mem q h with h | h
     ·exact .inl h
     ·exact .inr (List.mem_cons_of_mem _ h)
section
variable {gs : List Gr} {ats : List (Int × Int)} {R : List Reg} {σ : RSt}
theorem setS_ok (h : RsOk σ) {x n : Int} (hn : R32 n) : RsOk (setS σ x n) := by
 unfold setS
 split
 ·refine ⟨fun i => ?_, h.t, h.i⟩
  simp only [setC]
  split
  ·exact hn
  ·exact h.c i
 ·refine ⟨h.c, fun f hf q hq => ?_, h.i⟩
  cases hl : σ.fs.getLast? with
  | none => simp [updT, hl] at hf
  | some t =>
    simp only [updT, hl] at hf
    rcases List.mem_append.1 hf with h1 | h1
    ·exact h.t f (List.dropLast_subset _ h1) q hq
    ·obtain rfl := List.mem_singleton.1 h1
     rcases upL_mem q hq with h2 | h2
     ·rw [h2]; exact hn
     ·exact h.t t (List.mem_of_getLast? hl) q h2
theorem setS_fs {F : List FR} {t : FR} (hF : σ.fs = F ++ [t]) (x n : Int) : ∃ T, (setS σ x n).fs = F ++ [{ t with t := T }] := by
 unfold setS
 split
 ·exact ⟨t.t, hF⟩
 ·exact ⟨upL x n t.t, by simp only [hF, updT_app]⟩
theorem setS_n (σ : RSt) (x n : Int) : (setS σ x n).n = σ.n := by unfold setS; split <;> rfl
theorem entR_ok (h : RsOk σ) (b : Nat) : RsOk (entR gs σ b) := by
 unfold entR
 split
 ·rename_i t ht
  refine ⟨h.c, fun f hf => ?_, h.i⟩
  simp only [updT, ht] at hf
  rcases List.mem_append.1 hf with h1 | h1
  ·exact h.t f (List.dropLast_subset _ h1)
  ·obtain rfl := List.mem_singleton.1 h1
   exact h.t t (List.mem_of_getLast? ht)
 ·exact h
theorem entR_eq {F : List FR} {t : FR} (hF : σ.fs = F ++ [t]) (b : Nat) : ∃ a, entR gs σ b = { σ with fs := F ++ [{ t with b := b, s := 0 }], tr := σ.tr ++ [a] } := by
 unfold entR
 rw [hF, List.getLast?_concat]
 simp only [updT_app]
 exact ⟨_, rfl⟩
theorem step_inv (hp : PgOk gs ats) {k : Nat} (h : InvS gs k σ) (hst : σ.st = false) (m : Nat) (h0 : (stepS gs ats R m σ).1 = 0) : InvS gs (k + 1) (stepS gs ats R m σ).2 := by
 obtain ⟨hne, hfr⟩ := h.fr hst
 obtain ⟨t0, ht0⟩ : ∃ t0, σ.fs.getLast? = some t0 := by
  cases hl : σ.fs.getLast? with
  | none => exact absurd (List.getLast?_eq_none_iff.1 hl) hne
  | some t => exact ⟨t, rfl⟩
 obtain ⟨F, hF⟩ := List.getLast?_eq_some_iff.1 ht0
 obtain ⟨g, b, hg, hb, hs0⟩ := hfr t0 (by rw [hF]; simp)
 obtain ⟨s, hs⟩ : ∃ s, b.s[t0.s]? = some s := ⟨_, gEG hs0⟩
 have hgm := gMO hg
 have hbm := gMO hb
 have hsm := gMO hs
 obtain ⟨hT, hnt⟩ := closed_at (hp.cl g hgm b hbm) hs
 have hex := hp.ex g hgm b hbm s hsm
 have hse := st_op (hp.se g hgm b hbm s hsm)
 have hfrF : ∀ f ∈ F, FrAt gs f := fun f hf => hfr f (by rw [hF]; exact List.mem_append_left _ hf)
 have hstep : stepS gs ats R m σ = doS gs ats R m (begS σ) s := by
  unfold stepS
  have : σ.fs.getLast?.bind (stmtAt gs) = some s := by rw [ht0]; simp [stmtAt, hg, hb, hs]
  rw [this]
 rw [hstep] at h0 ⊢
 have hok := begS_ok h.ok hF
 obtain ⟨σ1, hσ1⟩ : ∃ σ1, begS σ = σ1 := ⟨_, rfl⟩
 have e1 : σ1.fs = F ++ [{ t0 with s := t0.s + 1 }] := by rw [← hσ1]; simp only [begS, hF, updT_app]
 have e2 : σ1.out = σ.out := by rw [← hσ1]; rfl
 have e3 : σ1.tr = σ.tr := by rw [← hσ1]; rfl
 have e4 : σ1.n = σ.n + 1 := by rw [← hσ1]; rfl
 have e5 : σ1.st = false := by rw [← hσ1]; exact hst
 rw [hσ1] at hok h0 ⊢
 have hfl := h.fl
 have hol := h.ol
 have htl := h.tl
 have hnl := h.nl
 rw [hF] at hfl
 simp at hfl
 have hent : ∀ {σ2 : RSt} {G : List FR} {t : FR} (b : Nat), σ2.fs = G ++ [t] → RsOk σ2 → σ2.out = σ.out → σ2.tr = σ.tr → σ2.n = σ.n + 1 → G.length + 1 ≤ 257 → (∀ f ∈ G, FrAt gs f) → (∃ g b', gs[t.g]? = some g ∧ g.b[b]? = some b') → InvS gs (k + 1) (entR gs σ2 b) := by
  intro σ2 G t b q1 q2 q3 q4 q5 q6 q7 q8
  obtain ⟨g, b', q8, q9⟩ := q8
  have ho := entR_ok (gs := gs) q2 b
  obtain ⟨a, ha⟩ := entR_eq (gs := gs) q1 b
  rw [ha] at ho ⊢
  refine ⟨ho, fun _ => ⟨by simp, fun f hf => ?_⟩, by simp; omega, by show σ2.out.length ≤ 4096; rw [q3]; exact hol, by show (σ2.tr ++ [a]).length ≤ _; rw [q4]; simp; omega, by show σ2.n ≤ _; rw [q5]; omega⟩
  rcases List.mem_append.1 hf with h1 | h1
  ·exact q7 f h1
  ·obtain rfl := List.mem_singleton.1 h1
   obtain ⟨L, e, hL, _⟩ := closed_end (hp.cl g (gMO q8) b' (gMO q9))
   exact ⟨g, b', q8, q9, by rw [hL]; simp⟩
 have hkeep : termB s = false → ∀ {σ2 : RSt}, RsOk σ2 → (∃ T, σ2.fs = F ++ [{ t0 with s := t0.s + 1, t := T }]) → σ2.out.length ≤ 4096 → σ2.tr = σ.tr → σ2.n = σ.n + 1 → InvS gs (k + 1) σ2 := by
  intro hn σ2 q2 q1 q3 q4 q5
  obtain ⟨T, q1⟩ := q1
  refine ⟨q2, fun _ => ⟨by rw [q1]; simp, fun f hf => ?_⟩, by rw [q1]; simp; omega, q3, by rw [q4]; omega, by rw [q5]; omega⟩
  rw [q1] at hf
  rcases List.mem_append.1 hf with h1 | h1
  ·exact hfrF f h1
  ·obtain rfl := List.mem_singleton.1 h1
   exact ⟨g, b, hg, hb, hnt hn⟩
 have hb0 : ∀ q ∈ tgts s, ∃ g b', gs[t0.g]? = some g ∧ g.b[q.toNat]? = some b' := fun q hq => by
  obtain ⟨h1, h2⟩ := hT q hq
  exact ⟨g, _, hg, gEG (by omega)⟩
 have hx0 : ∀ i, i < s.e.length → OkN (exAt s i) := fun i hi => by
  have hm : exAt s i ∈ s.e := by unfold exAt; rw [List.getD_eq_getElem?_getD, gEG hi]; exact List.getElem_mem hi
  exact hex _ hm
 unfold doS at h0 ⊢
 by_cases o2 : s.op = 2
 ·rw [if_pos o2] at h0 ⊢
  have hn : termB s = false := by simp [termB, o2]
  unfold storeS at h0 ⊢
  split
  ·rw [if_pos ‹_›] at h0
   exact absurd h0 ‹_›
  rw [if_neg ‹_›] at h0
  split
  ·rw [if_pos ‹_›] at h0
   exact absurd h0 ‹_›
  exact hkeep hn ⟨hok.c, hok.t, hok.i⟩ ⟨_, e1⟩ (by show σ1.out.length ≤ _; rw [e2]; exact hol) e3 e4
 rw [if_neg o2] at h0 ⊢
 by_cases o5 : s.op = 5
 ·rw [if_pos o5] at h0 ⊢
  unfold callS at h0 ⊢
  cases hl : lkL s.tg ats with
  | none => rw [hl] at h0; cases h0
  | some q =>
    rw [hl] at h0
    simp only at h0 ⊢
    split
    ·rw [if_pos ‹_›] at h0
     cases h0
    rename_i h256
    rw [e1] at h256
    simp at h256
    obtain ⟨_, _, g2, b2, hg2, hb2⟩ := hp.at' s.tg q hl
    refine hent (G := σ1.fs) (t := ⟨q.toNat, 0, 0, m, []⟩) 0 rfl ⟨hok.c, fun f hf => ?_, hok.i⟩ e2 e3 e4 (by rw [e1]; simp; omega) (fun f hf => ?_) ⟨g2, b2, hg2, hb2⟩
    ·rcases List.mem_append.1 hf with h1 | h1
     ·exact hok.t f h1
     ·obtain rfl := List.mem_singleton.1 h1
      intro q hq
      cases hq
    ·rw [e1] at hf
     rcases List.mem_append.1 hf with h1 | h1
     ·exact hfrF f h1
     ·obtain rfl := List.mem_singleton.1 h1
      exact ⟨g, b, hg, hb, hnt (by simp [termB, o5])⟩
 rw [if_neg o5] at h0 ⊢
 by_cases o678 : s.op = 6 ∨ s.op = 7 ∨ s.op = 8
 ·rw [if_pos o678] at h0 ⊢
  unfold jumpS at h0 ⊢
  by_cases o6 : s.op = 6
  ·rw [if_pos o6]
   exact hent _ e1 hok e2 e3 e4 (by omega) hfrF (hb0 s.nx (by simp [tgts, o6]))
  rw [if_neg o6] at h0 ⊢
  split
  ·rw [if_pos ‹_›] at h0
   exact absurd h0 ‹_›
  rw [if_neg ‹_›] at h0
  by_cases o8 : s.op = 8
  ·rw [if_pos o8] at h0 ⊢
   split
   ·rw [if_pos ‹_›] at h0
    cases h0
   rename_i hc
   have hr := evS_r32 (R := R) hok (hx0 0 (by rw [hse.2.2.1 (by omega)]; simp))
   have hlt : (evS R σ1 (exAt s 0)).1.toNat < s.cs.length := by have := hr.1; omega
   refine hent _ e1 hok e2 e3 e4 (by omega) hfrF (hb0 _ ?_)
   rw [List.getD_eq_getElem?_getD, gEG hlt]
   simp only [Option.getD_some, tgts, o8]
   exact List.getElem_mem hlt
  rw [if_neg o8]
  have o7 : s.op = 7 := by omega
  split
  ·exact hent _ e1 hok e2 e3 e4 (by omega) hfrF (hb0 s.nx (by simp [tgts, o7]))
  ·exact hent _ e1 hok e2 e3 e4 (by omega) hfrF (hb0 s.el (by simp [tgts, o7]))
 rw [if_neg o678] at h0 ⊢
 by_cases o9 : s.op = 9
 ·rw [if_pos o9]
  have hd : σ1.fs.dropLast = F := by rw [e1]; simp
  rw [hd]
  refine ⟨⟨hok.c, fun f hf => hok.t f (by rw [e1]; exact List.mem_append_left _ hf), hok.i⟩, fun hs => ⟨?_, hfrF⟩, by show F.length ≤ 257; omega, by show σ1.out.length ≤ _; rw [e2]; exact hol, by show σ1.tr.length ≤ _; rw [e3]; omega, by show σ1.n ≤ _; rw [e4]; omega⟩
  intro hF0
  have hF0 : F = [] := hF0
  have hs : decide (F.length = 0) = false := hs
  rw [hF0] at hs
  simp at hs
 rw [if_neg o9] at h0 ⊢
 by_cases o10 : s.op = 10
 ·rw [if_pos o10]
  refine ⟨⟨hok.c, hok.t, hok.i⟩, fun hs => Bool.noConfusion hs, by show σ1.fs.length ≤ 257; rw [e1]; simp; omega, by show σ1.out.length ≤ _; rw [e2]; exact hol, by show σ1.tr.length ≤ _; rw [e3]; omega, by show σ1.n ≤ _; rw [e4]; omega⟩
 rw [if_neg o10] at h0 ⊢
 have hop : s.op = 1 ∨ s.op = 3 ∨ s.op = 4 := by omega
 have hn : termB s = false := by rcases hop with h | h | h <;> simp [termB, h]
 unfold plainS at h0 ⊢
 by_cases o3 : s.op = 3
 ·rw [if_pos o3] at h0 ⊢
  cases hi : σ1.inp with
  | nil => rw [hi] at h0; cases h0
  | cons n l =>
    simp only
    have h2 := setS_ok hok (x := s.va) (hok.i n (by rw [hi]; simp))
    obtain ⟨T, hT⟩ := setS_fs e1 s.va n
    exact hkeep hn ⟨h2.c, h2.t, fun q hq => hok.i q (by rw [hi]; exact List.mem_cons_of_mem _ hq)⟩ ⟨T, hT⟩ (by show (setS σ1 s.va n).out.length ≤ _; rw [setS_out, e2]; exact hol) (by show (setS σ1 s.va n).tr = _; rw [setS_tr, e3]) (by show (setS σ1 s.va n).n = _; rw [setS_n, e4])
 rw [if_neg o3] at h0 ⊢
 split
 ·rw [if_pos ‹_›] at h0
  cases h0
 rename_i h4
 rw [if_neg h4] at h0
 split
 ·rw [if_pos ‹_›] at h0
  exact absurd h0 ‹_›
 rw [if_neg ‹_›] at h0
 split
 ·rename_i o4
  refine hkeep hn ⟨hok.c, hok.t, hok.i⟩ ⟨_, e1⟩ ?_ e3 e4
  simp [e2]
  have : ¬ 4096 ≤ σ1.out.length := fun h => h4 ⟨o4, h⟩
  rw [e2] at this
  omega
 ·obtain ⟨T, hT⟩ := setS_fs e1 s.va (evS R σ1 (exAt s 0)).1
  exact hkeep hn (setS_ok hok (evS_r32 hok (hx0 0 (by rw [hse.2.2.1 (by omega)]; simp)))) ⟨T, hT⟩ (by rw [setS_out, e2]; exact hol) (by rw [setS_tr, e3]) (by rw [setS_n, e4])
end
structure SimF (Q : Nat → Nat → Nat → Prop) (f f' : FR) : Prop where
 g : f'.g = f.g
 s : f'.s = f.s
 t : f'.t = f.t
 b : Q f.g f.b f'.b
def SimL (Q : Nat → Nat → Nat → Prop) : List FR → List FR → Prop
 | [], [] => True
 | f :: l, f' :: l' => SimF Q f f' ∧ SimL Q l l'
 | _, _ => False
structure SimR (Q : Nat → Nat → Nat → Prop) (σ σ' : RSt) : Prop where
 c : σ'.c = σ.c
 W : σ'.W = σ.W
 inp : σ'.inp = σ.inp
 out : σ'.out = σ.out
 tr : σ'.tr = σ.tr
 n : σ'.n = σ.n
 st : σ'.st = σ.st
 fs : SimL Q σ.fs σ'.fs
theorem SimL.len {Q : Nat → Nat → Nat → Prop} : ∀ {l l' : List FR}, SimL Q l l' → l'.length = l.length
 | [], [], _ => rfl
 | _ :: _, _ :: _, h => by simp [h.2.len]
 | [], _ :: _, h => h.elim
 | _ :: _, [], h => h.elim
theorem SimL.app {Q : Nat → Nat → Nat → Prop} {f f' : FR} (hf : SimF Q f f') : ∀ {l l' : List FR}, SimL Q l l' → SimL Q (l ++ [f]) (l' ++ [f'])
 | [], [], _ => ⟨hf, trivial⟩
 | _ :: _, _ :: _, h => ⟨h.1, h.2.app hf⟩
 | [], _ :: _, h => h.elim
 | _ :: _, [], h => h.elim
theorem SimL.last {Q : Nat → Nat → Nat → Prop} {f : FR} : ∀ {l l' : List FR}, SimL Q (l ++ [f]) l' → ∃ m f', l' = m ++ [f'] ∧ SimL Q l m ∧ SimF Q f f'
 | [], [], h => h.elim
 | [], [f'], h => ⟨[], f', rfl, trivial, h.1⟩
 | [], _ :: _ :: _, h => h.2.elim
 | _ :: _, [], h => h.elim
 | a :: l, a' :: l', h => by
   obtain ⟨m, f', h1, h2, h3⟩ := SimL.last (l := l) (l' := l') h.2
   exact ⟨a' :: m, f', by rw [h1]; rfl, ⟨h.1, h2⟩, h3⟩
structure StSim (Q : Nat → Nat → Nat → Prop) (g : Nat) (s s' : St) : Prop where
 op : s'.op = s.op
 va : s'.va = s.va
 wd : s'.wd = s.wd
 tg : s'.tg = s.tg
 e : s'.e = s.e
 nx : s.op = 6 ∨ s.op = 7 → Q g s.nx.toNat s'.nx.toNat
 el : s.op = 7 → Q g s.el.toNat s'.el.toNat
 cl : s'.cs.length = s.cs.length
 cs : ∀ i, i < s.cs.length → Q g (s.cs.getD i 0).toNat (s'.cs.getD i 0).toNat
structure PgSim (Q : Nat → Nat → Nat → Prop) (gs gs' : List Gr) : Prop where
 blk : ∀ g b b', Q g b b' → ∀ (G : Gr) (B : Bl), gs[g]? = some G → G.b[b]? = some B → ∃ (G' : Gr) (B' : Bl), gs'[g]? = some G' ∧ G'.b[b']? = some B' ∧ B'.ad = B.ad ∧ ∀ (i : Nat) (s : St), B.s[i]? = some s → ∃ s' : St, B'.s[i]? = some s' ∧ StSim Q g s s'
 ent : ∀ (g : Nat) (G : Gr), gs[g]? = some G → Q g 0 0
section
variable {Q : Nat → Nat → Nat → Prop} {gs gs' : List Gr} {ats : List (Int × Int)} {R : List Reg} {σ σ' : RSt}
theorem SimR.valS (h : SimR Q σ σ') (x : Int) : valS σ' x = valS σ x := by
 unfold Go.Proofs.YtplbaolbaniioaaGreatDoor.valS
 rw [h.c]
 split
 ·rfl
 cases hl : σ.fs.getLast? with
 | none =>
   have h0 := List.getLast?_eq_none_iff.1 hl
   have := h.fs.len
   rw [h0] at this
   have h1 : σ'.fs = [] := List.length_eq_zero_iff.1 (by simpa using this)
   rw [h1]
   rfl
 | some t =>
   obtain ⟨F, hF⟩ := List.getLast?_eq_some_iff.1 hl
   have h1 := h.fs
   rw [hF] at h1
   obtain ⟨m, f', h2, h3, h4⟩ := h1.last
   rw [h2, List.getLast?_concat]
   simp only [h4.t]
theorem SimR.evS (h : SimR Q σ σ') (x : Ex) : evS R σ' x = evS R σ x := by
 unfold Go.Proofs.YtplbaolbaniioaaGreatDoor.evS
 rw [show Go.Proofs.YtplbaolbaniioaaGreatDoor.valS σ' = Go.Proofs.YtplbaolbaniioaaGreatDoor.valS σ from funext h.valS, h.W]
theorem SimR.setS (h : SimR Q σ σ') (x n : Int) : SimR Q (setS σ x n) (setS σ' x n) := by
 unfold Go.Proofs.YtplbaolbaniioaaGreatDoor.setS
 split
 ·exact ⟨by simp only [h.c], h.W, h.inp, h.out, h.tr, h.n, h.st, h.fs⟩
 ·refine ⟨h.c, h.W, h.inp, h.out, h.tr, h.n, h.st, ?_⟩
  cases hl : σ.fs.getLast? with
  | none =>
    have h0 := List.getLast?_eq_none_iff.1 hl
    have := h.fs.len
    rw [h0] at this
    have h1 : σ'.fs = [] := List.length_eq_zero_iff.1 (by simpa using this)
    simp only [updT, h0, h1]
    trivial
  | some t =>
    obtain ⟨F, hF⟩ := List.getLast?_eq_some_iff.1 hl
    have h1 := h.fs
    rw [hF] at h1
    obtain ⟨m, f', h2, h3, h4⟩ := h1.last
    simp only [hF, h2, updT_app]
    exact SimL.app (f := { t with t := upL x n t.t }) (f' := { f' with t := upL x n f'.t }) ⟨h4.g, h4.s, by simp only [h4.t], h4.b⟩ h3
theorem SimR.entR (hS : PgSim Q gs gs') (h : SimR Q σ σ') {F : List FR} {t : FR} (hF : σ.fs = F ++ [t]) {G : Gr} {B : Bl} {b b' : Nat} (hG : gs[t.g]? = some G) (hB : G.b[b]? = some B) (hQ : Q t.g b b') : SimR Q (entR gs σ b) (entR gs' σ' b') := by
 have h1 := h.fs
 rw [hF] at h1
 obtain ⟨m, f', h2, h3, h4⟩ := h1.last
 obtain ⟨G', B', hG', hB', had, _⟩ := hS.blk _ _ _ hQ G B hG hB
 unfold Go.Proofs.YtplbaolbaniioaaGreatDoor.entR
 rw [hF, h2, List.getLast?_concat, List.getLast?_concat]
 simp only [updT_app, h4.g, hG, hG', Option.map_some, Option.getD_some, hB, hB', had]
 exact ⟨h.c, h.W, h.inp, h.out, by simp only [h.tr], h.n, h.st, SimL.app (f := { t with b := b, s := 0 }) (f' := { g := t.g, b := b', s := 0, m := f'.m, t := f'.t }) ⟨rfl, rfl, h4.t, hQ⟩ h3⟩
theorem step_sim (hp : PgOk gs ats) (hS : PgSim Q gs gs') {k : Nat} (hI : InvS gs k σ) (hst : σ.st = false) (h : SimR Q σ σ') (m m' : Nat) :
  (stepS gs' ats R m' σ').1 = (stepS gs ats R m σ).1 ∧ SimR Q (stepS gs ats R m σ).2 (stepS gs' ats R m' σ').2 := by
 obtain ⟨hne, hfr⟩ := hI.fr hst
 obtain ⟨t0, ht0⟩ : ∃ t0, σ.fs.getLast? = some t0 := by
  cases hl : σ.fs.getLast? with
  | none => exact absurd (List.getLast?_eq_none_iff.1 hl) hne
  | some t => exact ⟨t, rfl⟩
 obtain ⟨F, hF⟩ := List.getLast?_eq_some_iff.1 ht0
 obtain ⟨g, b, hg, hb, hs0⟩ := hfr t0 (by rw [hF]; simp)
 obtain ⟨s, hs⟩ : ∃ s, b.s[t0.s]? = some s := ⟨_, gEG hs0⟩
 have hgm := gMO hg
 have hbm := gMO hb
 have hsm := gMO hs
 obtain ⟨hT, hnt⟩ := closed_at (hp.cl g hgm b hbm) hs
 have hse := st_op (hp.se g hgm b hbm s hsm)
 have h1 := h.fs
 rw [hF] at h1
 obtain ⟨F', t', hF', hFF, htt⟩ := h1.last
 obtain ⟨g', b', hg', hb', had, hss⟩ := hS.blk _ _ _ htt.b g b hg hb
 obtain ⟨s', hs', hq⟩ := hss _ s hs
 have hstep : stepS gs ats R m σ = doS gs ats R m (begS σ) s := by
  unfold stepS
  have : σ.fs.getLast?.bind (stmtAt gs) = some s := by rw [ht0]; simp [stmtAt, hg, hb, hs]
  rw [this]
 have hstep' : stepS gs' ats R m' σ' = doS gs' ats R m' (begS σ') s' := by
  unfold stepS
  have : σ'.fs.getLast?.bind (stmtAt gs') = some s' := by rw [hF', List.getLast?_concat]; simp [stmtAt, htt.g, hg', hb', htt.s, hs']
  rw [this]
 rw [hstep, hstep']
 have hbeg : SimR Q (begS σ) (begS σ') := ⟨h.c, h.W, h.inp, h.out, h.tr, by simp only [begS, h.n], h.st, by
  simp only [begS, hF, hF', updT_app]
  exact SimL.app (f := { t0 with s := t0.s + 1 }) (f' := { t' with s := t'.s + 1 }) ⟨htt.g, by simp only [htt.s], htt.t, htt.b⟩ hFF⟩
 have e1 : (begS σ).fs = F ++ [{ t0 with s := t0.s + 1 }] := by simp only [begS, hF, updT_app]
 have e1' : (begS σ').fs = F' ++ [{ t' with s := t'.s + 1 }] := by simp only [begS, hF', updT_app]
 have hok := begS_ok hI.ok hF
 have hex := hp.ex g hgm b hbm s hsm
 obtain ⟨σ1, hσ1⟩ : ∃ σ1, begS σ = σ1 := ⟨_, rfl⟩
 obtain ⟨σ2, hσ2⟩ : ∃ σ2, begS σ' = σ2 := ⟨_, rfl⟩
 rw [hσ1] at hbeg e1 hok ⊢
 rw [hσ2] at hbeg e1' ⊢
 have hxx : ∀ i, exAt s' i = exAt s i := fun i => by unfold exAt; rw [hq.e]
 have hev : ∀ i, Go.Proofs.YtplbaolbaniioaaGreatDoor.evS R σ2 (exAt s' i) = Go.Proofs.YtplbaolbaniioaaGreatDoor.evS R σ1 (exAt s i) := fun i => by rw [hxx, hbeg.evS]
 have hent : ∀ a a' : Int, a ∈ tgts s → Q t0.g a.toNat a'.toNat → SimR Q (Go.Proofs.YtplbaolbaniioaaGreatDoor.entR gs σ1 a.toNat) (Go.Proofs.YtplbaolbaniioaaGreatDoor.entR gs' σ2 a'.toNat) := fun a a' ha hQ => by
  obtain ⟨q1, q2⟩ := hT a ha
  exact hbeg.entR hS e1 hg (gEG (by omega)) hQ
 unfold doS
 rw [hq.op]
 by_cases o2 : s.op = 2
 ·rw [if_pos o2, if_pos o2]
  unfold storeS
  simp only [hev, hq.wd, hbeg.W]
  split
  ·exact ⟨rfl, hbeg⟩
  split
  ·exact ⟨rfl, hbeg⟩
  ·exact ⟨rfl, hbeg.c, rfl, hbeg.inp, hbeg.out, hbeg.tr, hbeg.n, hbeg.st, hbeg.fs⟩
 rw [if_neg o2, if_neg o2]
 by_cases o5 : s.op = 5
 ·rw [if_pos o5, if_pos o5]
  unfold callS
  rw [hq.tg]
  cases hl : lkL s.tg ats with
  | none => exact ⟨rfl, hbeg⟩
  | some q =>
    simp only [hbeg.fs.len]
    split
    ·exact ⟨rfl, hbeg⟩
    obtain ⟨_, _, g2, b2, hg2, hb2⟩ := hp.at' s.tg q hl
    refine ⟨rfl, SimR.entR hS (σ := { σ1 with fs := σ1.fs ++ [⟨q.toNat, 0, 0, m, []⟩] }) (σ' := { σ2 with fs := σ2.fs ++ [⟨q.toNat, 0, 0, m', []⟩] }) (F := σ1.fs) (t := ⟨q.toNat, 0, 0, m, []⟩) ⟨hbeg.c, hbeg.W, hbeg.inp, hbeg.out, hbeg.tr, hbeg.n, hbeg.st, ?_⟩ rfl hg2 hb2 (hS.ent _ g2 hg2)⟩
    exact SimL.app (f := ⟨q.toNat, 0, 0, m, []⟩) (f' := ⟨q.toNat, 0, 0, m', []⟩) ⟨rfl, rfl, rfl, hS.ent _ g2 hg2⟩ hbeg.fs
 rw [if_neg o5, if_neg o5]
 by_cases o678 : s.op = 6 ∨ s.op = 7 ∨ s.op = 8
 ·rw [if_pos o678, if_pos o678]
  unfold jumpS
  rw [hq.op, hev, hq.cl]
  by_cases o6 : s.op = 6
  ·rw [if_pos o6, if_pos o6]
   exact ⟨rfl, hent _ _ (by simp [tgts, o6]) (hq.nx (.inl o6))⟩
  rw [if_neg o6, if_neg o6]
  split
  ·exact ⟨rfl, hbeg⟩
  by_cases o8 : s.op = 8
  ·rw [if_pos o8, if_pos o8]
   split
   ·exact ⟨rfl, hbeg⟩
   rename_i hc
   have hxo : OkN (exAt s 0) := hex _ (by have := hse.2.2.1 (by omega); rw [this]; simp [exAt])
   have hr := evS_r32 (R := R) hok hxo
   have hlt : (Go.Proofs.YtplbaolbaniioaaGreatDoor.evS R σ1 (exAt s 0)).1.toNat < s.cs.length := by have := hr.1; omega
   refine ⟨rfl, hent _ _ ?_ (hq.cs _ hlt)⟩
   rw [List.getD_eq_getElem?_getD, gEG hlt]
   simp only [Option.getD_some, tgts, o8]
   exact List.getElem_mem hlt
  rw [if_neg o8, if_neg o8]
  have o7 : s.op = 7 := by omega
  split
  ·exact ⟨rfl, hent _ _ (by simp [tgts, o7]) (hq.nx (.inr o7))⟩
  ·exact ⟨rfl, hent _ _ (by simp [tgts, o7]) (hq.el o7)⟩
 rw [if_neg o678, if_neg o678]
 by_cases o9 : s.op = 9
 ·rw [if_pos o9, if_pos o9]
  have hd : σ1.fs.dropLast = F := by rw [e1]; simp
  have hd' : σ2.fs.dropLast = F' := by rw [e1']; simp
  rw [hd, hd', hFF.len]
  exact ⟨rfl, hbeg.c, hbeg.W, hbeg.inp, hbeg.out, hbeg.tr, hbeg.n, rfl, hFF⟩
 rw [if_neg o9, if_neg o9]
 by_cases o10 : s.op = 10
 ·rw [if_pos o10, if_pos o10]
  exact ⟨rfl, hbeg.c, hbeg.W, hbeg.inp, hbeg.out, hbeg.tr, hbeg.n, rfl, hbeg.fs⟩
 rw [if_neg o10, if_neg o10]
 unfold plainS
 rw [hq.op, hev, hq.va, hbeg.out, hbeg.inp]
 by_cases o3 : s.op = 3
 ·rw [if_pos o3, if_pos o3]
  cases hi : σ1.inp with
  | nil => exact ⟨rfl, hbeg⟩
  | cons n l =>
    have h2 := hbeg.setS s.va n
    exact ⟨rfl, h2.c, h2.W, rfl, h2.out, h2.tr, h2.n, h2.st, h2.fs⟩
 rw [if_neg o3, if_neg o3]
 split
 ·exact ⟨rfl, hbeg⟩
 split
 ·exact ⟨rfl, hbeg⟩
 split
 ·exact ⟨rfl, hbeg.c, hbeg.W, rfl, rfl, hbeg.tr, hbeg.n, hbeg.st, hbeg.fs⟩
 ·exact ⟨rfl, hbeg.setS _ _⟩
def runS (gs : List Gr) (ats : List (Int × Int)) (R : List Reg) : Nat → RSt → Int × RSt
 | 0, σ => if σ.st = true then (0, σ) else (15, σ)
 | n + 1, σ => if σ.st = true then (0, σ) else if (stepS gs ats R 0 σ).1 ≠ 0 then stepS gs ats R 0 σ else runS gs ats R n (stepS gs ats R 0 σ).2
def Qid : Nat → Nat → Nat → Prop := fun _ b b' => b' = b
theorem sim_id (gs : List Gr) : PgSim Qid gs gs := ⟨fun g b b' hQ G B hG hB => by
 have hQ : b' = b := hQ
 subst hQ
 exact ⟨G, B, hG, hB, rfl, fun i s hs => ⟨s, hs, rfl, rfl, rfl, rfl, rfl, fun _ => rfl, fun _ => rfl, rfl, fun _ _ => rfl⟩⟩, fun _ _ _ => rfl⟩
end
end Go.Proofs.YtplbaolbaniioaaGreatDoor
set_option linter.all false
namespace Go.Proofs.YtplbaolbaniioaaGreatDoor
open Go.RowKit
def dgG (l : Nat) : Code → Option Code
 | .goto l' => if l' = l then some .skip else none
 | .seq a b => (dgG l b).map (.seq a)
 | _ => none
def trG (l : Nat) : Code → Option (Code × Code × Code)
 | .seq a b => match a with
   | .label l' => if l' = l then (dgG l b).map fun d => (.loop d, b, d) else none
   | a => (trG l b).map fun x => (.seq a x.1, x.2)
 | _ => none
theorem leastN {S : Nat → Prop} (h : ∃ m, S m) : ∃ m, S m ∧ ∀ m', S m' → m ≤ m' := by
 obtain ⟨m0, h0⟩ := h
 have : ∀ n m, S m → m ≤ n → ∃ m, S m ∧ ∀ m', S m' → m ≤ m' := by
  intro n
  induction n with
  | zero => exact fun m hm hn => ⟨m, hm, fun m' _ => by omega⟩
  | succ n ih =>
    intro m hm hn
    by_cases hlt : ∃ m', S m' ∧ m' < m
    ·obtain ⟨m', h1, h2⟩ := hlt
     exact ih m' h1 (by omega)
    ·exact ⟨m, hm, fun m' h => Nat.le_of_not_lt fun hl => hlt ⟨m', h, hl⟩⟩
 exact this m0 m0 h0 (Nat.le_refl _)
section
variable {P : Program}
theorem dgG_sound {n l : Nat} {r k r0 : Kont} : ∀ (b b' : Code), dgG l b = some b' → dstsOk n b' = true → ∀ (a : Act) (w : World), Fr n a → vc P b' [] r k (envOf a) w → b.wp P (Exit.jump l (fun a w => Fr n a ∧ k (envOf a) w) (postK n [] r r0)) a w
 | .goto l', b', h, _, a, w, hf, hv => by
   simp only [dgG] at h
   split at h
   ·rename_i hl
    obtain rfl := oSI h
    exact wp_goto ⟨hl, hf, hv⟩
   ·cases h
 | .seq x y, b', h, hd, a, w, hf, hv => by
   simp only [dgG, Option.map_eq_some_iff] at h
   obtain ⟨y', hy, rfl⟩ := h
   simp only [dstsOk, Bool.and_eq_true] at hd
   refine wp_seq (wp_mono (vc_sound x hd.1 [] r _ a w hf hv) fun ex a' w' hq => ?_)
   cases ex <;> simp only [postK, Exit.then] at hq ⊢
   ·exact dgG_sound y y' hy hd.2 a' w' hq.1 hq.2
   ·exact hq.2.elim
   ·exact hq
 | .skip, _, h, _, _, _, _, _ => by cases h
 | .region _ _ _, _, h, _, _, _, _, _ => by cases h
 | .cond _ _ _, _, h, _, _, _, _, _ => by cases h
 | .block _ _, _, h, _, _, _, _, _ => by cases h
 | .exit _, _, h, _, _, _, _, _ => by cases h
 | .loop _, _, h, _, _, _, _, _ => by cases h
 | .ret, _, h, _, _, _, _, _ => by cases h
 | .rangeFunc .., _, h, _, _, _, _, _ => by cases h
 | .scope _, _, h, _, _, _, _, _ => by cases h
 | .label _, _, h, _, _, _, _, _ => by cases h
 | .refuse _, _, h, _, _, _, _, _ => by cases h
def atG (P : Program) (n : Nat) (d : Code) (r : Kont) (a : Act) (w : World) : Prop := Fr n a ∧ vLoop (vc P d [] r) (envOf a) w
theorem passG {n l : Nat} {r r0 : Kont} {b d : Code} (h : dgG l b = some d) (hd : dstsOk n d = true) {I : Kont} {μ : Env → World → Nat} (hI : ∀ e w, I e w → vc P d [] r (fun e' w' => I e' w' ∧ μ e' w' < μ e w) e w) (a : Act) (w : World) (hf : Fr n a) (h0 : I (envOf a) w) :
  b.wp P (Exit.jump l (fun a' w' => Fr n a' ∧ I (envOf a') w' ∧ μ (envOf a') w' < μ (envOf a) w) (postK n [] r r0)) a w :=
 dgG_sound b d h hd a w hf (hI _ _ h0)
theorem trG_sound {n l : Nat} {r k r0 : Kont} : ∀ (c c' b d : Code), trG l c = some (c', b, d) → dstsOk n c' = true → ∀ (a : Act) (w : World), Fr n a → vc P c' [] r k (envOf a) w → c.wp P (Exit.jump l (atG P n d r) (postK n [] r r0)) a w
 | .seq x y, c', b, d, h, hd, a, w, hf, hv => by
   simp only [trG] at h
   split at h
   ·rename_i l'
    split at h
    case isFalse => cases h
    rename_i hl
    simp only [Option.map_eq_some_iff, Prod.mk.injEq] at h
    obtain ⟨d', hd', rfl, rfl, rfl⟩ := h
    obtain ⟨I, μ, h0, hI⟩ := hv
    refine wp_seq (wp_label ?_)
    simp only [Exit.then]
    refine wp_mono (passG (r0 := r0) hd' hd hI a w hf h0) fun ex a' w' hq => ?_
    cases ex <;> simp only [Exit.jump] at hq ⊢
    all_goals try exact hq
    exact ⟨hq.1, hq.2.1, I, μ, hq.2.2.1, hI⟩
   ·simp only [Option.map_eq_some_iff] at h
    obtain ⟨⟨y', b', d'⟩, hy, he⟩ := h
    simp only [Prod.mk.injEq] at he
    obtain ⟨rfl, rfl, rfl⟩ := he
    simp only [dstsOk, Bool.and_eq_true] at hd
    refine wp_seq (wp_mono (vc_sound x hd.1 [] r _ a w hf hv) fun ex a' w' hq => ?_)
    cases ex <;> simp only [postK, Exit.then] at hq ⊢
    ·exact trG_sound y y' b' d' hy hd.2 a' w' hq.1 hq.2
    ·exact hq.2.elim
    ·exact hq
 | .skip, _, _, _, h, _, _, _, _, _ => by cases h
 | .region _ _ _, _, _, _, h, _, _, _, _, _ => by cases h
 | .cond _ _ _, _, _, _, h, _, _, _, _, _ => by cases h
 | .block _ _, _, _, _, h, _, _, _, _, _ => by cases h
 | .exit _, _, _, _, h, _, _, _, _, _ => by cases h
 | .loop _, _, _, _, h, _, _, _, _, _ => by cases h
 | .ret, _, _, _, h, _, _, _, _, _ => by cases h
 | .goto _, _, _, _, h, _, _, _, _, _ => by cases h
 | .rangeFunc .., _, _, _, h, _, _, _, _, _ => by cases h
 | .scope _, _, _, _, h, _, _, _, _, _ => by cases h
 | .label _, _, _, _, h, _, _, _, _, _ => by cases h
 | .refuse _, _, _, _, h, _, _, _, _, _ => by cases h
theorem trG_dg {n l : Nat} : ∀ (c c' b d : Code), trG l c = some (c', b, d) → dstsOk n c' = true → dgG l b = some d ∧ dstsOk n d = true
 | .seq x y, c', b, d, h, hd => by
   simp only [trG] at h
   split at h
   ·rename_i l'
    split at h
    case isFalse => cases h
    simp only [Option.map_eq_some_iff, Prod.mk.injEq] at h
    obtain ⟨d', hd', rfl, rfl, rfl⟩ := h
    exact ⟨hd', hd⟩
   ·simp only [Option.map_eq_some_iff] at h
    obtain ⟨⟨y', b', d'⟩, hy, he⟩ := h
    simp only [Prod.mk.injEq] at he
    obtain ⟨rfl, rfl, rfl⟩ := he
    simp only [dstsOk, Bool.and_eq_true] at hd
    exact trG_dg y y' b' d' hy hd.2
 | .skip, _, _, _, h, _ => by cases h
 | .region _ _ _, _, _, _, h, _ => by cases h
 | .cond _ _ _, _, _, _, h, _ => by cases h
 | .block _ _, _, _, _, h, _ => by cases h
 | .exit _, _, _, _, h, _ => by cases h
 | .loop _, _, _, _, h, _ => by cases h
 | .ret, _, _, _, h, _ => by cases h
 | .goto _, _, _, _, h, _ => by cases h
 | .rangeFunc .., _, _, _, h, _ => by cases h
 | .scope _, _, _, _, h, _ => by cases h
 | .label _, _, _, _, h, _ => by cases h
 | .refuse _, _, _, _, h, _ => by cases h
theorem scope_sound {n l : Nat} {r k r0 : Kont} {c c' b d : Code} (h : trG l c = some (c', b, d)) (hfl : findLabel c l = some (.seq .skip b)) (hd : dstsOk n c' = true) (a : Act) (w : World) (hf : Fr n a) (hv : vc P c' [] r k (envOf a) w) : (Code.scope c).wp P (postK n [] r r0) a w := by
 classical
 obtain ⟨h1, h2⟩ := trG_dg c c' b d h hd
 let S : Act → World → Nat → Prop := fun a w m => ∃ (I : Kont) (μ : Env → World → Nat), (∀ e w, I e w → vc P d [] r (fun e' w' => I e' w' ∧ μ e' w' < μ e w) e w) ∧ I (envOf a) w ∧ μ (envOf a) w = m
 have hex : ∀ a w, atG P n d r a w → ∃ m, S a w m := fun a w ⟨_, I, μ, h0, hI⟩ => ⟨_, I, μ, hI, h0, rfl⟩
 let μ0 : Act → World → Nat := fun a w => if h : ∃ m, S a w m then (leastN h).choose else 0
 have hμ : ∀ a w (h : ∃ m, S a w m), S a w (μ0 a w) ∧ ∀ m, S a w m → μ0 a w ≤ m := fun a w h => by
  have : μ0 a w = (leastN h).choose := dif_pos h
  rw [this]
  exact (leastN h).choose_spec
 refine wp_scope_jumps l (atG P n d r) μ0 hfl (trG_sound c c' b d h hd a w hf hv) fun a w hJ => ?_
 obtain ⟨⟨I, μ, hI, h0, hm⟩, _⟩ := hμ a w (hex a w hJ)
 refine wp_seq (wp_skip ?_)
 simp only [Exit.then]
 refine wp_mono (passG (r0 := r0) h1 h2 hI a w hJ.1 h0) fun ex a' w' hq => ?_
 cases ex <;> simp only [Exit.jump] at hq ⊢
 all_goals try exact hq
 obtain ⟨q1, q2, q3, q4⟩ := hq
 refine ⟨q1, ⟨q2, I, μ, q3, hI⟩, ?_⟩
 have := (hμ a' w' ⟨_, I, μ, hI, q3, rfl⟩).2 _ ⟨I, μ, hI, q3, rfl⟩
 omega
theorem seq_scope_sound {n l : Nat} {r k r0 : Kont} {a0 c c' b d : Code} (h : trG l c = some (c', b, d)) (hfl : findLabel c l = some (.seq .skip b)) (hd : dstsOk n (.seq a0 c') = true) (a : Act) (w : World) (hf : Fr n a) (hv : vc P (.seq a0 c') [] r k (envOf a) w) : (Code.seq a0 (.scope c)).wp P (postK n [] r r0) a w := by
 simp only [dstsOk, Bool.and_eq_true] at hd
 refine wp_seq (wp_mono (vc_sound a0 hd.1 [] r _ a w hf hv) fun ex a' w' hq => ?_)
 cases ex <;> simp only [postK, Exit.then] at hq ⊢
 ·exact scope_sound h hfl hd.2 a' w' hq.1 hq.2
 ·exact hq.2.elim
 ·exact hq
theorem calls_of_goto {l : Nat} {f : FuncId} {fn : Func} {a0 c c' b d : Code} {args : List Value} {w : World} {R : Ending → World → Prop} (hf : P.funcs[f]? = some fn) (hb : fn.body = some (.seq a0 (.scope c))) (ht : trG l c = some (c', b, d)) (hfl : findLabel c l = some (.seq .skip b))
  (hd : dstsOk fn.ntmps (.seq a0 c') = true) (hn : args.length ≤ fn.ntmps)
  (h : vc P (.seq a0 c') [] (vRet P fn.results.toList R) (vRet P fn.results.toList R) (env0 args) w) : Calls P f args.toArray w R := by
 refine calls_of_wp hf hb ?_
 have he : envOf { tmps := args.toArray ++ Array.replicate (fn.ntmps - args.toArray.size) undef, defers := [] } = env0 args := by
  funext i
  simp only [envOf, env0, Array.getD_eq_getD_getElem?, List.getD_eq_getElem?_getD, Array.getElem?_append]
  by_cases hi : i < args.length
  ·simp [hi]
  ·simp only [List.size_toArray, hi, if_false]
   rw [List.getElem?_eq_none (by omega)]
   simp [Array.getElem?_replicate]
   split <;> rfl
 have hfr : Fr fn.ntmps { tmps := args.toArray ++ Array.replicate (fn.ntmps - args.toArray.size) undef, defers := [] } := ⟨by simp; omega, rfl⟩
 refine wp_mono (seq_scope_sound (r0 := vRet P fn.results.toList R) ht hfl hd _ w hfr (by rw [he]; exact h)) fun ex a' w' hq => ?_
 cases ex <;> simp only [postK, exitK] at hq
 ·obtain ⟨hf', l, hl, hR⟩ := hq
  exact ⟨hf'.2, _, results_eq fn a' w' hl, hR⟩
 ·exact hq.2.elim
 ·obtain ⟨hf', l, hl, hR⟩ := hq
  exact ⟨hf'.2, _, results_eq fn a' w' hl, hR⟩
theorem ac_of_goto {A : AHeap} {l : Nat} {f : FuncId} {fn : Func} {a0 c c' b d : Code} {args : List AV} {R : AV → AHeap → Prop} (hf : P.funcs[f]? = some fn) (hb : fn.body = some (.seq a0 (.scope c))) (ht : trG l c = some (c', b, d)) (hfl : findLabel c l = some (.seq .skip b)) (hd : dstsOk fn.ntmps (.seq a0 c') = true) (hna : args.length ≤ fn.ntmps)
  (h : BdL args → avc P A.length (.seq a0 c') [] (aRet P fn.results.toList R) (aRet P fn.results.toList R) (aenv0 args) A) : AC P f args A R := by
 intro H ι w vs hH hR hs hm
 have hlen := hs.len
 refine calls_of_goto hf hb ht hfl hd (by omega) ?_
 have h := h (hm.bd _ _)
 have hS : Sta ⟨H, ι, A, w⟩ (aenv0 args) A (env0 vs) w := by
  refine ⟨hH, ι, hR, Step.refl _ _ _, fun i => ?_, fun i => ?_⟩
  ·simp only [aenv0, env0, List.getD_eq_getElem?_getD]
   cases hi : args[i]? with
   | none => simp [Shp]
   | some c =>
     obtain ⟨u, h1, h2⟩ := hs.get hi
     rw [h1]
     exact h2
  ·simp only [aenv0, env0, List.getD_eq_getElem?_getD]
   cases hi : args[i]? with
   | none => simp [Mem]
   | some c =>
     obtain ⟨u, h1, h2⟩ := hs.get hi
     rw [h1]
     exact hm.get hi h1
 have hfin : ∀ ec w', Lift ⟨H, ι, A, w⟩ (aRet P fn.results.toList R) ec w' → vRet P fn.results.toList (fun en w' => ∃ v r ι' A', en = .returned v ∧ R r A' ∧ Rel H ι' A' w' ∧ Step ι A w ι' A' w' ∧ Val ι' A' (Nn H ι' A') w' r v) ec w' := by
  rintro ec w' ⟨e, A', ⟨l, hl, hr⟩, _, ι', h1, h2, h3, h4⟩
  obtain ⟨m, g1, g2, g3⟩ := aresAll_sound h1 h3 h4 _ _ hl
  exact ⟨m, g1, _, _, ι', A', rfl, hr, h1, h2, atup_sound g2 g3⟩
 have := avc_sound (C := ⟨H, ι, A, w⟩) rfl (.seq a0 c') [] _ _ _ _ _ _ hS h
 have h2 := vc_mono (.seq a0 c') (BLe.refl _) hfin _ _ this
 have : ∀ (c : Code) (bs : List (Nat × Kont)) (r r' k : Kont), KLe r r' → KLe (vc P c bs r k) (vc P c bs r' k) := by
  intro c
  induction c with
  | skip => exact fun _ _ _ _ _ _ _ h => h
  | region id ops dr => cases dr <;> exact fun _ _ _ _ _ _ _ h => h
  | seq a b iha ihb => exact fun bs r r' k hr e w h => iha bs r r' _ hr e w (vc_mono a (BLe.refl _) (ihb bs r r' k hr) _ _ h)
  | cond c a b iha ihb =>
    rintro bs r r' k hr e w ⟨t, ht, h⟩
    refine ⟨t, ht, ?_⟩
    cases t
    ·exact ihb bs r r' k hr e w h
    ·exact iha bs r r' k hr e w h
  | block id c ih => exact fun bs r r' k hr e w h => ih _ r r' k hr e w h
  | exit id => exact fun _ _ _ _ _ _ _ h => h
  | loop c ih => exact fun bs r r' k hr e w ⟨I, μ, h0, h⟩ => ⟨I, μ, h0, fun e w hI => ih bs r r' _ hr e w (h e w hI)⟩
  | ret => exact fun _ _ _ _ hr e w h => hr e w h
  | scope c ih => exact fun bs r r' k hr e w h => ih bs r r' k hr e w h
  | label l => exact fun _ _ _ _ _ _ _ h => h
  | _ => exact fun _ _ _ _ _ _ _ h => h.elim
 exact this (.seq a0 c') _ _ _ _ hfin _ _ h2
theorem af_of_goto {l : Nat} {f : FuncId} {fn : Func} {a0 c c' b d : Code} {args : List AV} {r : AV} (hf : P.funcs[f]? = some fn) (hb : fn.body = some (.seq a0 (.scope c))) (ht : trG l c = some (c', b, d)) (hfl : findLabel c l = some (.seq .skip b)) (hd : dstsOk fn.ntmps (.seq a0 c') = true) (hna : args.length ≤ fn.ntmps)
  (h : BdL args → avc P 0 (.seq a0 c') [] (aRet P fn.results.toList (Res r)) (aRet P fn.results.toList (Res r)) (aenv0 args) []) : AF P f args r := by
 intro H w vs hH hs hm
 have hac : AC P f args [] (Res r) := ac_of_goto hf hb ht hfl hd hna h
 refine (hac H none0 w vs hH (rel_nil H w) hs (by rw [nn_nil]; exact hm)).mono ?_
 rintro en w' ⟨v, r', ι', A', hv, hr, hR, hst, hval⟩
 unfold Res resO at hr
 split at hr
 ·rename_i r0 r1 hr0
  have := reiV_sound (ι' := none0) (A' := []) hR hr0 hval
  exact ⟨v, hv, ⟨NLe.shp _ _ _ hr this.1, NLe.mem _ _ _ hr this.2⟩, hst.ext⟩
 ·exact hr.elim
end
def viewS (r : Int × RSt) : AV := .tup [.d (.sl 1 (u32d r.2.tr)), .agg [aI .i64 r.1, .d (.sl 1 (u32d r.2.out)), aI .i64 r.2.n]]
def stepsN (n : Int) : Nat := (min (max n 0) 65536).toNat
def trcR (gs : List Gr) (ss : List Sec) (en : Int) (inp : List Int) (steps : Int) : Int × RSt := runS gs (atN gs gs.length) (regL ss) (stepsN steps) (entR gs (ini0 gs (regL ss) en inp 0) 0)
theorem iniC_r32 (i : Nat) : R32 (iniC.getD i 0) := by
 rw [List.getD_eq_getElem?_getD]
 cases h : iniC[i]? with
 | none => exact r32_0
 | some v =>
   have hm := gMO h
   simp only [iniC, List.mem_cons, List.not_mem_nil, or_false] at hm
   show R32 v
   unfold R32
   omega
section
variable {gs : List Gr} {ss : List Sec} {en : Int} {inp : List Int} {R : List Reg}
theorem ini_at (hp : PgOk gs (atN gs gs.length)) (hen : (lkL en (atN gs gs.length)).isSome = true) : ∃ g b, gs[((lkL en (atN gs gs.length)).getD 0).toNat]? = some g ∧ g.b[0]? = some b := by
 obtain ⟨k, hk⟩ := Option.isSome_iff_exists.1 hen
 obtain ⟨_, _, g, b, h1, h2⟩ := hp.at' en k hk
 exact ⟨g, b, by rw [hk]; exact h1, h2⟩
theorem ini_inv (hp : PgOk gs (atN gs gs.length)) (hin : ∀ n ∈ inp, R32 n) (hen : (lkL en (atN gs gs.length)).isSome = true) (m : Nat) : InvS gs 0 (entR gs (ini0 gs R en inp m) 0) := by
 obtain ⟨g, b, hg, hb⟩ := ini_at hp hen
 have h0 : RsOk (ini0 gs R en inp m) := ⟨fun i => iniC_r32 i, (fun f hf q hq => by
  obtain rfl := List.mem_singleton.1 hf
  simp at hq), hin⟩
 have ho := entR_ok (gs := gs) h0 0
 obtain ⟨a, ha⟩ := entR_eq (gs := gs) (σ := ini0 gs R en inp m) (F := []) rfl 0
 rw [ha] at ho ⊢
 refine ⟨ho, fun _ => ⟨by simp, fun f hf => ?_⟩, by simp, by simp [ini0], by simp [ini0], by simp [ini0]⟩
 obtain rfl := List.mem_singleton.1 hf
 obtain ⟨L, e, hL, _⟩ := closed_end (hp.cl g (gMO hg) b (gMO hb))
 exact ⟨g, b, hg, hb, by rw [hL]; simp⟩
theorem ini_sim (hp : PgOk gs (atN gs gs.length)) (hen : (lkL en (atN gs gs.length)).isSome = true) (m : Nat) : SimR Qid (entR gs (ini0 gs R en inp m) 0) (entR gs (ini0 gs R en inp 0) 0) := by
 obtain ⟨g, b, hg, hb⟩ := ini_at hp hen
 exact SimR.entR (sim_id gs) (σ := ini0 gs R en inp m) (σ' := ini0 gs R en inp 0) (F := []) (t := ⟨((lkL en (atN gs gs.length)).getD 0).toNat, 0, 0, m, []⟩) ⟨rfl, rfl, rfl, rfl, rfl, rfl, rfl, ⟨⟨rfl, rfl, rfl, rfl⟩, trivial⟩⟩ rfl hg hb rfl
end
set_option maxRecDepth 100000 in
theorem itrace_af (gs : List Gr) (ss : List Sec) (en : Int) (inp : List Int) (steps : Int) (hg : ∀ g ∈ gs, GrFit g) (hs : ∀ s ∈ ss, SecFit s) (he : prErr gs ss en = 0) (hi : inp.length ≤ 4096) (hin : ∀ n ∈ inp, R32 n)
  (hp : PgOk gs (atN gs gs.length)) (hen : (lkL en (atN gs gs.length)).isSome = true) :
  AF Tryz.prog 9 [prV gs ss en, .d (.sl 1 (u32d inp)), aI .i64 steps] (viewS (trcR gs ss en inp steps)) := by
 obtain ⟨X, hX⟩ : ∃ X, trcR gs ss en inp steps = X := ⟨_, rfl⟩
 rw [hX]
 have hA : ClH [pgB gs ss en, ⟨0, true, 42, 3, [[aI .i64 0, .d (.v (.slice none 0 0)), aI .i64 0]]⟩] := by
  intro x hx
  simp only [List.mem_cons, List.not_mem_nil, or_false] at hx
  rcases hx with rfl | rfl <;> simp [clnB, clnE, cln]
 have hb := ibegin_ac gs ss en inp _ hA hg hs he hi hp.at' hen
 obtain ⟨σ0, hσ0⟩ : ∃ σ0, entR gs (ini0 gs (regL ss) en inp 0) 0 = σ0 := ⟨_, rfl⟩
 have hi0 := fun m => ini_inv (R := regL ss) hp hin hen m
 have hs0 := fun m => ini_sim (R := regL ss) (inp := inp) hp hen m
 unfold trcR at hX
 rw [hσ0] at hX hs0
 have hRf : ∀ r ∈ regL ss, RegFit r := regL_fit hs
 have hse : secErr ss = 0 := by
  unfold prErr at he
  split at he
  ·exact absurd he ‹_›
  ·rename_i h; simpa using h
 have h16 : ss.length ≤ 16 := by
  unfold secErr at hse
  split at hse
  ·cases hse
  ·omega
 have hRl : (regL ss).length ≤ 1000 := by simp [regL]; omega
 obtain ⟨ats, hats⟩ : ∃ ats, atN gs gs.length = ats := ⟨_, rfl⟩
 obtain ⟨R, hR⟩ : ∃ R, regL ss = R := ⟨_, rfl⟩
 rw [hats] at hp hen hX hb
 rw [hR] at hX hb hi0 hs0 hRf hRl
 unfold prV at hb ⊢
 refine af_of_goto (l := 0) Tryz.func9 (by rfl) (by rfl) (by rfl) ?_ (by simp [Tryz.ntmps9]) fun hb => ?_
 ·kernel_rfl
 clear hb
 simp
 refine aCall_ofc hb (by kernel_rfl) ?_
 rintro _ H ⟨p, v, m, rfl, hB⟩
 simp
 refine aRaw_max (k := .i64) (k' := .i64) (a := steps) (b := 0) (by simp) (by simp) ?_
 simp
 refine aRaw_min (k := .i64) (k' := .i64) (a := if steps < 0 then 0 else steps) (b := 65536) (by simp) (by simp) ?_
 simp
 have hN : (if 65536 < (if steps < 0 then 0 else steps) then 65536 else (if steps < 0 then 0 else steps)) = ((stepsN steps : Nat) : Int) := by
  unfold stepsN
  split <;> split at * <;> omega
 rw [hN]
 have hNl : stepsN steps ≤ 65536 := by unfold stepsN; omega
 have hlo := hB.lo
 simp only [List.length_cons, List.length_nil] at hlo
 obtain ⟨o1, o2, o3, o4, o5, o6, o7, _⟩ := hlo
 refine aLoop_of (α := Nat × RSt) (fun x e H => ∃ v σ k, RunH gs ats R [pgB gs ss en, ⟨0, true, 42, 3, [[aI .i64 0, .d (.v (.slice none 0 0)), aI .i64 0]]⟩] p v σ H ∧ SimR Qid σ x.2 ∧ InvS gs k σ ∧ k + x.1 ≤ 65536 ∧ runS gs ats R x.1 x.2 = X ∧ e 7 = .ptr 1 0 0 0 ∧ e 8 = .ptr p.r 0 0 0 ∧ e 10 = aI .i64 x.1) (fun x => x.1) (stepsN steps, σ0) (Sub.refl _ _ _)
  ⟨v, _, 0, hB, hs0 m, hi0 m, by simp; exact hNl, hX, by simp, by simp, by simp⟩ ?_
 clear hB hs0 hi0 hX hN hb
 rintro ⟨left, σr⟩ e H ⟨v, σ, k, hB, hS, hI, hk, hX, e7, e8, e10⟩ K hK
 simp only at hS hk hX e10 hK
 have hr := hB.hr
 have ho := hB.ho
 have ht := hB.ht
 have h1 : H[1]? = some ⟨0, true, 42, 3, [[aI .i64 0, .d (.v (.slice none 0 0)), aI .i64 0]]⟩ := by
  have h := congrArg (fun l : AHeap => l[1]?) hB.pr
  simpa using h
 have h1l := (gSI.1 h1).1
 have hsr : ∀ x, (H.set 1 x)[p.r]? = some (rB gs p v σ) := fun x => by rw [gSN (by omega)]; exact hr
 have hso : ∀ x, (H.set 1 x)[p.o]? = some (u32B v.o σ.out) := fun x => by rw [gSN (by omega)]; exact ho
 have hst1 : ∀ x, (H.set 1 x)[p.t]? = some (u32B v.t σ.tr) := fun x => by rw [gSN (by omega)]; exact ht
 have hs1 : ∀ x, (H.set 1 x)[1]? = some x := fun x => gSS h1l
 have l4 := hB.lt.2.2.2.1
 have hut : ∀ l : List Int, List.take l.length (u32d l) = u32d l := fun l => List.take_of_length_le (by simp)
 have hve : ∀ (er : Int) (q : RSt), X = (er, q) → q.tr = σ.tr → q.out = σ.out → q.n = σ.n → viewS X = .tup [.d (.sl 1 (u32d σ.tr)), .agg [aI .i64 er, .d (.sl 1 (u32d σ.out)), aI .i64 σ.n]] := fun er q h1 h2 h3 h4 => by
  rw [h1]
  unfold viewS
  rw [h2, h3, h4]
 simp [e7, e8, e10, hr]
 cases hst : σ.st with
 | true =>
   have hv := hve 0 σr (by rw [← hX]; cases left <;> simp [runS, hS.st, hst]) hS.tr hS.out hS.n
   rw [hv]
   clear hv hve
   simp [e7, e8, e10, hr]
   refine adraw [] (by kernel_rfl) (by kernel_rfl) (by kernel_rfl) (by kernel_rfl) ?_
   simp [e7, e8, e10, hr, h1, hsr]
   refine ⟨l4, ?_⟩
   simp [hs1, hso, hst1, hut]
 | false =>
 simp [e7, e8, e10, hr]
 by_cases hl0 : left = 0
 ·have hv := hve 15 σr (by rw [← hX, hl0]; simp [runS, hS.st, hst]) hS.tr hS.out hS.n
  rw [hv]
  clear hv hve
  simp [e7, e8, e10, hr, hl0]
  refine adraw [] (by kernel_rfl) (by kernel_rfl) (by kernel_rfl) (by kernel_rfl) ?_
  simp [e7, e8, e10, hr, h1, hsr]
  refine ⟨l4, ?_⟩
  simp [hs1, hso, hst1, hut]
 obtain ⟨n, rfl⟩ : ∃ n, left = n + 1 := ⟨left - 1, by omega⟩
 obtain ⟨hne, hfr⟩ := hI.fr hst
 obtain ⟨t0, ht0⟩ : ∃ t0, σ.fs.getLast? = some t0 := by
  cases hl : σ.fs.getLast? with
  | none => exact absurd (List.getLast?_eq_none_iff.1 hl) hne
  | some t => exact ⟨t, rfl⟩
 obtain ⟨F, hF⟩ := List.getLast?_eq_some_iff.1 ht0
 obtain ⟨g, b, hgk, hbk, hs0⟩ := hfr t0 (by rw [hF]; simp)
 obtain ⟨s, hsk⟩ : ∃ s, b.s[t0.s]? = some s := ⟨_, gEG hs0⟩
 have hgm := gMO hgk
 have hbm := gMO hbk
 have hsm := gMO hsk
 have hsz := hp.sz
 have hsz2 := hsz.2 g hgm
 have hsz3 := hsz2.2 b hbm
 have hfl := hI.fl
 have hol := hI.ol
 have htl := hI.tl
 have hnl := hI.nl
 have hc := istep_ac hB hRf hRl hI.ok hp.at' hF (by omega) hgk hbk hsk ⟨by omega, by omega, by omega⟩ (hp.se g hgm b hbm s hsm) (hp.ex g hgm b hbm s hsm) (closed_at (hp.cl g hgm b hbm) hsk).1 (by omega) (by omega) (by omega)
 have hn0 : ¬ ((n : Int) + 1 = 0) := by omega
 have hw : IntKind.i64.wrap ((n : Int) + 1 - 1) = (n : Int) := by rw [i64w (by omega)]; omega
 have hw2 : IntKind.i64.wrap (n : Int) = (n : Int) := i64w (by omega)
 simp [e7, e8, e10, hr, hw, hw2, hn0]
 refine aCall_ofc hc (by kernel_rfl) ?_
 rintro _ H' ⟨m', v', rfl, hB'⟩
 obtain ⟨q1, q2⟩ := step_sim hp (sim_id gs) hI hst hS (R := R) m' 0
 obtain ⟨Y, hY⟩ : ∃ Y, stepS gs ats R m' σ = Y := ⟨_, rfl⟩
 obtain ⟨Z, hZ⟩ : ∃ Z, stepS gs ats R 0 σr = Z := ⟨_, rfl⟩
 have hinv := step_inv (R := R) hp hI hst m'
 rw [hY, hZ] at q1
 rw [hY, hZ] at q2
 rw [hY] at hB' hinv ⊢
 have hXn : X = if Z.1 ≠ 0 then Z else runS gs ats R n Z.2 := by
  rw [← hX]
  simp only [runS, hS.st, hst, hZ]
  simp
 by_cases hY0 : Y.1 = 0
 ·rw [if_neg (by rw [q1, hY0]; simp)] at hXn
  simp [e7, e8, e10, hr, hY0]
  exact hK (n, Z.2) _ _ _ _ (Sub.refl _ _ _) ⟨v', Y.2, k + 1, hB', q2, hinv hY0, by omega, hXn.symm, by simp [e7], by simp [e8], by simp [hw2]⟩ (by simp)
 ·rw [if_pos (by rw [q1]; exact hY0)] at hXn
  have hr' := hB'.hr
  have ho' := hB'.ho
  have ht' := hB'.ht
  have l4' := hB'.lt.2.2.2.1
  have h1' : H'[1]? = some ⟨0, true, 42, 3, [[aI .i64 0, .d (.v (.slice none 0 0)), aI .i64 0]]⟩ := by
   have h := congrArg (fun l : AHeap => l[1]?) hB'.pr
   simpa using h
  have h1l' := (gSI.1 h1').1
  have hsr' : ∀ x, (H'.set 1 x)[p.r]? = some (rB gs p v' Y.2) := fun x => by rw [gSN (by omega)]; exact hr'
  have hso' : ∀ x, (H'.set 1 x)[p.o]? = some (u32B v'.o Y.2.out) := fun x => by rw [gSN (by omega)]; exact ho'
  have hst' : ∀ x, (H'.set 1 x)[p.t]? = some (u32B v'.t Y.2.tr) := fun x => by rw [gSN (by omega)]; exact ht'
  have hs1' : ∀ x, (H'.set 1 x)[1]? = some x := fun x => gSS h1l'
  have hv : viewS X = .tup [.d (.sl 1 (u32d Y.2.tr)), .agg [aI .i64 Y.1, .d (.sl 1 (u32d Y.2.out)), aI .i64 Y.2.n]] := by
   rw [hXn]
   unfold viewS
   rw [q1, q2.tr, q2.out, q2.n]
  rw [hv]
  clear hv hve
  simp [e7, e8, e10, hr', hY0]
  refine adraw [] (by kernel_rfl) (by kernel_rfl) (by kernel_rfl) (by kernel_rfl) ?_
  simp [e7, e8, e10, hr', h1', hsr']
  refine ⟨l4', ?_⟩
  simp [hs1', hso', hst', hut]
structure StSimE (Q : Nat → Nat → Nat → Prop) (g : Nat) (s s' : St) : Prop where
 op : s'.op = s.op
 va : s'.va = s.va
 wd : s'.wd = s.wd
 tg : s'.tg = s.tg
 nx : s.op = 6 ∨ s.op = 7 → Q g s.nx.toNat s'.nx.toNat
 el : s.op = 7 → Q g s.el.toNat s'.el.toNat
 cl : s'.cs.length = s.cs.length
 cs : ∀ i, i < s.cs.length → Q g (s.cs.getD i 0).toNat (s'.cs.getD i 0).toNat
structure PgSimE (Q : Nat → Nat → Nat → Prop) (gs gs' : List Gr) : Prop where
 blk : ∀ g b b', Q g b b' → ∀ (G : Gr) (B : Bl), gs[g]? = some G → G.b[b]? = some B → ∃ (G' : Gr) (B' : Bl), gs'[g]? = some G' ∧ G'.b[b']? = some B' ∧ B'.ad = B.ad ∧ ∀ (i : Nat) (s : St), B.s[i]? = some s → ∃ s' : St, B'.s[i]? = some s' ∧ StSimE Q g s s'
 ent : ∀ (g : Nat) (G : Gr), gs[g]? = some G → Q g 0 0
section
variable {Q : Nat → Nat → Nat → Prop} {gs gs' : List Gr} {ats : List (Int × Int)} {R : List Reg} {σ σ' : RSt}
theorem SimR.entRE (hS : PgSimE Q gs gs') (h : SimR Q σ σ') {F : List FR} {t : FR} (hF : σ.fs = F ++ [t]) {G : Gr} {B : Bl} {b b' : Nat} (hG : gs[t.g]? = some G) (hB : G.b[b]? = some B) (hQ : Q t.g b b') : SimR Q (Go.Proofs.YtplbaolbaniioaaGreatDoor.entR gs σ b) (Go.Proofs.YtplbaolbaniioaaGreatDoor.entR gs' σ' b') := by
 have h1 := h.fs
 rw [hF] at h1
 obtain ⟨m, f', h2, h3, h4⟩ := h1.last
 obtain ⟨G', B', hG', hB', had, _⟩ := hS.blk _ _ _ hQ G B hG hB
 unfold Go.Proofs.YtplbaolbaniioaaGreatDoor.entR
 rw [hF, h2, List.getLast?_concat, List.getLast?_concat]
 simp only [updT_app, h4.g, hG, hG', Option.map_some, Option.getD_some, hB, hB', had]
 exact ⟨h.c, h.W, h.inp, h.out, by simp only [h.tr], h.n, h.st, SimL.app (f := { t with b := b, s := 0 }) (f' := { g := t.g, b := b', s := 0, m := f'.m, t := f'.t }) ⟨rfl, rfl, h4.t, hQ⟩ h3⟩
theorem step_simE (hp : PgOk gs ats) (hS : PgSimE Q gs gs') {k : Nat} (hI : InvS gs k σ) (hst : σ.st = false) (h : SimR Q σ σ') (m m' : Nat)
  (hE : ∀ (s s' : St), (σ.fs.getLast?.bind (stmtAt gs)) = some s → (σ'.fs.getLast?.bind (stmtAt gs')) = some s' → ∀ i, Go.Proofs.YtplbaolbaniioaaGreatDoor.evS R (begS σ) (exAt s' i) = Go.Proofs.YtplbaolbaniioaaGreatDoor.evS R (begS σ) (exAt s i)) :
  (stepS gs' ats R m' σ').1 = (stepS gs ats R m σ).1 ∧ SimR Q (stepS gs ats R m σ).2 (stepS gs' ats R m' σ').2 := by
 obtain ⟨hne, hfr⟩ := hI.fr hst
 obtain ⟨t0, ht0⟩ : ∃ t0, σ.fs.getLast? = some t0 := by
  cases hl : σ.fs.getLast? with
  | none => exact absurd (List.getLast?_eq_none_iff.1 hl) hne
  | some t => exact ⟨t, rfl⟩
 obtain ⟨F, hF⟩ := List.getLast?_eq_some_iff.1 ht0
 obtain ⟨g, b, hg, hb, hs0⟩ := hfr t0 (by rw [hF]; simp)
 obtain ⟨s, hs⟩ : ∃ s, b.s[t0.s]? = some s := ⟨_, gEG hs0⟩
 have hgm := gMO hg
 have hbm := gMO hb
 have hsm := gMO hs
 obtain ⟨hT, hnt⟩ := closed_at (hp.cl g hgm b hbm) hs
 have hse := st_op (hp.se g hgm b hbm s hsm)
 have h1 := h.fs
 rw [hF] at h1
 obtain ⟨F', t', hF', hFF, htt⟩ := h1.last
 obtain ⟨g', b', hg', hb', had, hss⟩ := hS.blk _ _ _ htt.b g b hg hb
 obtain ⟨s', hs', hq⟩ := hss _ s hs
 have hstep : stepS gs ats R m σ = doS gs ats R m (begS σ) s := by
  unfold stepS
  have : σ.fs.getLast?.bind (stmtAt gs) = some s := by rw [ht0]; simp [stmtAt, hg, hb, hs]
  rw [this]
 have hstep' : stepS gs' ats R m' σ' = doS gs' ats R m' (begS σ') s' := by
  unfold stepS
  have : σ'.fs.getLast?.bind (stmtAt gs') = some s' := by rw [hF', List.getLast?_concat]; simp [stmtAt, htt.g, hg', hb', htt.s, hs']
  rw [this]
 have hE0 := hE s s' (by rw [ht0]; simp [stmtAt, hg, hb, hs]) (by rw [hF', List.getLast?_concat]; simp [stmtAt, htt.g, hg', hb', htt.s, hs'])
 rw [hstep, hstep']
 have hbeg : SimR Q (begS σ) (begS σ') := ⟨h.c, h.W, h.inp, h.out, h.tr, by simp only [begS, h.n], h.st, by
  simp only [begS, hF, hF', updT_app]
  exact SimL.app (f := { t0 with s := t0.s + 1 }) (f' := { t' with s := t'.s + 1 }) ⟨htt.g, by simp only [htt.s], htt.t, htt.b⟩ hFF⟩
 have e1 : (begS σ).fs = F ++ [{ t0 with s := t0.s + 1 }] := by simp only [begS, hF, updT_app]
 have e1' : (begS σ').fs = F' ++ [{ t' with s := t'.s + 1 }] := by simp only [begS, hF', updT_app]
 have hok := begS_ok hI.ok hF
 have hex := hp.ex g hgm b hbm s hsm
 obtain ⟨σ1, hσ1⟩ : ∃ σ1, begS σ = σ1 := ⟨_, rfl⟩
 obtain ⟨σ2, hσ2⟩ : ∃ σ2, begS σ' = σ2 := ⟨_, rfl⟩
 rw [hσ1] at hbeg e1 hok hE0 ⊢
 rw [hσ2] at hbeg e1' ⊢
 have hev : ∀ i, Go.Proofs.YtplbaolbaniioaaGreatDoor.evS R σ2 (exAt s' i) = Go.Proofs.YtplbaolbaniioaaGreatDoor.evS R σ1 (exAt s i) := fun i => by rw [hbeg.evS, hE0 i]
 have hent : ∀ a a' : Int, a ∈ tgts s → Q t0.g a.toNat a'.toNat → SimR Q (Go.Proofs.YtplbaolbaniioaaGreatDoor.entR gs σ1 a.toNat) (Go.Proofs.YtplbaolbaniioaaGreatDoor.entR gs' σ2 a'.toNat) := fun a a' ha hQ => by
  obtain ⟨q1, q2⟩ := hT a ha
  exact hbeg.entRE hS e1 hg (gEG (by omega)) hQ
 unfold doS
 rw [hq.op]
 by_cases o2 : s.op = 2
 ·rw [if_pos o2, if_pos o2]
  unfold storeS
  simp only [hev, hq.wd, hbeg.W]
  split
  ·exact ⟨rfl, hbeg⟩
  split
  ·exact ⟨rfl, hbeg⟩
  ·exact ⟨rfl, hbeg.c, rfl, hbeg.inp, hbeg.out, hbeg.tr, hbeg.n, hbeg.st, hbeg.fs⟩
 rw [if_neg o2, if_neg o2]
 by_cases o5 : s.op = 5
 ·rw [if_pos o5, if_pos o5]
  unfold callS
  rw [hq.tg]
  cases hl : lkL s.tg ats with
  | none => exact ⟨rfl, hbeg⟩
  | some q =>
    simp only [hbeg.fs.len]
    split
    ·exact ⟨rfl, hbeg⟩
    obtain ⟨_, _, g2, b2, hg2, hb2⟩ := hp.at' s.tg q hl
    refine ⟨rfl, SimR.entRE hS (σ := { σ1 with fs := σ1.fs ++ [⟨q.toNat, 0, 0, m, []⟩] }) (σ' := { σ2 with fs := σ2.fs ++ [⟨q.toNat, 0, 0, m', []⟩] }) (F := σ1.fs) (t := ⟨q.toNat, 0, 0, m, []⟩) ⟨hbeg.c, hbeg.W, hbeg.inp, hbeg.out, hbeg.tr, hbeg.n, hbeg.st, ?_⟩ rfl hg2 hb2 (hS.ent _ g2 hg2)⟩
    exact SimL.app (f := ⟨q.toNat, 0, 0, m, []⟩) (f' := ⟨q.toNat, 0, 0, m', []⟩) ⟨rfl, rfl, rfl, hS.ent _ g2 hg2⟩ hbeg.fs
 rw [if_neg o5, if_neg o5]
 by_cases o678 : s.op = 6 ∨ s.op = 7 ∨ s.op = 8
 ·rw [if_pos o678, if_pos o678]
  unfold jumpS
  rw [hq.op, hev, hq.cl]
  by_cases o6 : s.op = 6
  ·rw [if_pos o6, if_pos o6]
   exact ⟨rfl, hent _ _ (by simp [tgts, o6]) (hq.nx (.inl o6))⟩
  rw [if_neg o6, if_neg o6]
  split
  ·exact ⟨rfl, hbeg⟩
  by_cases o8 : s.op = 8
  ·rw [if_pos o8, if_pos o8]
   split
   ·exact ⟨rfl, hbeg⟩
   rename_i hc
   have hxo : OkN (exAt s 0) := hex _ (by have := hse.2.2.1 (by omega); rw [this]; simp [exAt])
   have hr := evS_r32 (R := R) hok hxo
   have hlt : (Go.Proofs.YtplbaolbaniioaaGreatDoor.evS R σ1 (exAt s 0)).1.toNat < s.cs.length := by have := hr.1; omega
   refine ⟨rfl, hent _ _ ?_ (hq.cs _ hlt)⟩
   rw [List.getD_eq_getElem?_getD, gEG hlt]
   simp only [Option.getD_some, tgts, o8]
   exact List.getElem_mem hlt
  rw [if_neg o8, if_neg o8]
  have o7 : s.op = 7 := by omega
  split
  ·exact ⟨rfl, hent _ _ (by simp [tgts, o7]) (hq.nx (.inr o7))⟩
  ·exact ⟨rfl, hent _ _ (by simp [tgts, o7]) (hq.el o7)⟩
 rw [if_neg o678, if_neg o678]
 by_cases o9 : s.op = 9
 ·rw [if_pos o9, if_pos o9]
  have hd : σ1.fs.dropLast = F := by rw [e1]; simp
  have hd' : σ2.fs.dropLast = F' := by rw [e1']; simp
  rw [hd, hd', hFF.len]
  exact ⟨rfl, hbeg.c, hbeg.W, hbeg.inp, hbeg.out, hbeg.tr, hbeg.n, rfl, hFF⟩
 rw [if_neg o9, if_neg o9]
 by_cases o10 : s.op = 10
 ·rw [if_pos o10, if_pos o10]
  exact ⟨rfl, hbeg.c, hbeg.W, hbeg.inp, hbeg.out, hbeg.tr, hbeg.n, rfl, hbeg.fs⟩
 rw [if_neg o10, if_neg o10]
 unfold plainS
 rw [hq.op, hev, hq.va, hbeg.out, hbeg.inp]
 by_cases o3 : s.op = 3
 ·rw [if_pos o3, if_pos o3]
  cases hi : σ1.inp with
  | nil => exact ⟨rfl, hbeg⟩
  | cons n l =>
    have h2 := hbeg.setS s.va n
    exact ⟨rfl, h2.c, h2.W, rfl, h2.out, h2.tr, h2.n, h2.st, h2.fs⟩
 rw [if_neg o3, if_neg o3]
 split
 ·exact ⟨rfl, hbeg⟩
 split
 ·exact ⟨rfl, hbeg⟩
 split
 ·exact ⟨rfl, hbeg.c, hbeg.W, rfl, rfl, hbeg.tr, hbeg.n, hbeg.st, hbeg.fs⟩
 ·exact ⟨rfl, hbeg.setS _ _⟩
end
def flv (x y : Int) : Nat → Int
 | 0 => appI 12 x y
 | 1 => appI 14 (appI 4 x y) 0
 | 2 => appI 15 x y
 | _ => appI 8 (appI 14 x y) (appI 14 (appI 4 x y) 0)
theorem eq_num (x y : Int) : appI 12 x y = num (decide (x = y)) := by rw [appI_eq]; by_cases h : x = y <;> simp [h, num]
theorem ne_num (x y : Int) : appI 13 x y = num (!decide (x = y)) := by rw [appI_ne]; by_cases h : x = y <;> simp [h, num]
theorem lt_num (x y : Int) : appI 14 x y = num (decide (IntKind.i32.wrap x < IntKind.i32.wrap y)) := by rw [appI_lt]; by_cases h : IntKind.i32.wrap x < IntKind.i32.wrap y <;> simp [h, num]
theorem ltu_num (x y : Int) : appI 15 x y = num (decide (x < y)) := by rw [appI_ltu]; by_cases h : x < y <;> simp [h, num]
theorem x_num (p q : Bool) : appI 8 (num p) (num q) = num (p ^^ q) := by rw [appI_xor]; exact xor_num p q
theorem or_num (p q : Bool) : appI 7 (num p) (num q) = num (p || q) := by cases p <;> cases q <;> rfl
theorem i32_inj {x y : Int} (hx : R32 x) (hy : R32 y) (h : IntKind.i32.wrap x = IntKind.i32.wrap y) : x = y := by
 rw [i32wm, i32wm] at h
 unfold R32 at hx hy
 omega
theorem cond_flag {val : Int → Int} {L : Int → Int → Int × Int} {a b : Ex} {x y : Int} (ha : evX val L a = (x, 0)) (hb : evX val L b = (y, 0)) (hx : R32 x) (hy : R32 y)
  (h8 : val 8 = flv x y 0) (h9 : val 9 = flv x y 1) (h10 : val 10 = flv x y 2) (h11 : val 11 = flv x y 3) (k : Nat) (h1 : 1 ≤ k) (h14 : k ≤ 14) : evX val L (condE k a b) = evX val L (flagE k) := by
 have hT : decide (IntKind.i32.wrap y < IntKind.i32.wrap x) = !(decide (x = y) || decide (IntKind.i32.wrap x < IntKind.i32.wrap y)) := by
  by_cases he : x = y
  ·subst he; simp
  ·have : IntKind.i32.wrap x ≠ IntKind.i32.wrap y := fun h => he (i32_inj hx hy h)
   by_cases hl : IntKind.i32.wrap x < IntKind.i32.wrap y
   ·simp [he, hl]; omega
   ·simp [he, hl]; omega
 have hC : decide (y < x) = !(decide (x < y) || decide (x = y)) := by
  by_cases he : x = y
  ·subst he; simp
  ·by_cases hl : x < y
   ·simp [he, hl]; omega
   ·simp [he, hl]; omega
 obtain ⟨A, hA⟩ : ∃ A, decide (x = y) = A := ⟨_, rfl⟩
 obtain ⟨T, hTT⟩ : ∃ T, decide (IntKind.i32.wrap x < IntKind.i32.wrap y) = T := ⟨_, rfl⟩
 obtain ⟨C, hCC⟩ : ∃ C, decide (x < y) = C := ⟨_, rfl⟩
 obtain ⟨N, hN⟩ : ∃ N, decide (IntKind.i32.wrap (appI 4 x y) < IntKind.i32.wrap 0) = N := ⟨_, rfl⟩
 simp only [flv, eq_num, lt_num, ltu_num, x_num, hA, hTT, hCC, hN] at h8 h9 h10 h11 hT hC
 have e12 : appI 12 x y = num A := by rw [eq_num, hA]
 have e13 : appI 13 x y = num (!A) := by rw [ne_num, hA]
 have e14 : appI 14 x y = num T := by rw [lt_num, hTT]
 have e14' : appI 14 y x = num (!(A || T)) := by rw [lt_num, hT]
 have e15 : appI 15 x y = num C := by rw [ltu_num, hCC]
 have e15' : appI 15 y x = num (!(C || A)) := by rw [ltu_num, hC]
 have e9 : appI 14 (appI 4 x y) 0 = num N := by rw [lt_num, hN]
 clear hT hC hA hTT hCC hN
 match k, h1, h14 with
 | 1, _, _ | 2, _, _ | 3, _, _ | 4, _, _ | 5, _, _ | 6, _, _ | 7, _, _ | 8, _, _ | 9, _, _ | 10, _, _ | 11, _, _ | 12, _, _ | 13, _, _ | 14, _, _ =>
   simp [condE, flagE, eTwo, eOne, eVar, eCon, eMinus, eOver, evX, ha, hb, h8, h9, h10, h11, e12, e13, e14, e14', e15, e15', e9, x_num, or_num, no_num]
   try (cases A <;> cases T <;> cases C <;> cases N <;> rfl)
theorem recN_flag {e : Ex} {k : Nat} (h : recN e = some k) : e = flagE k ∧ k < 15 := by
 unfold recN at h
 have h1 := List.find?_some h
 have h2 := List.mem_of_find?_eq_some h
 exact ⟨sameB_iff.1 h1, by simpa using h2⟩
theorem fuse_val {val : Int → Int} {L : Int → Int → Int × Int} {a b : Ex} (hc : ∀ k : Nat, 1 ≤ k → k ≤ 14 → evX val L (condE k a b) = evX val L (flagE k)) : ∀ e : Ex, evX val L (fuseS a b e) = evX val L e := by
 intro e
 induction e using Ex.ind with
 | h e ih =>
   rw [fuseS_eq]
   cases hr : recN e with
   | some k =>
     obtain ⟨he, hk⟩ := recN_flag hr
     cases k with
     | zero =>
       rw [he]
       rfl
     | succ k =>
       rw [he]
       exact hc (k + 1) (by omega) (by omega)
   | none =>
     simp only
     obtain ⟨o, n, v, w, l⟩ := e
     simp only [Ex.op_mk, Ex.n_mk, Ex.v_mk, Ex.wd_mk, Ex.l_mk] at ih ⊢
     match l, ih with
     | [], _ => rfl
     | [p], ih => simp only [List.map_cons, List.map_nil, evX, ih p (by simp)]
     | [p, q], ih => simp only [List.map_cons, List.map_nil, evX, ih p (by simp), ih q (by simp)]
     | _ :: _ :: _ :: _, _ => simp [evX]
theorem noFl_ok {val : Int → Int} {L : Int → Int → Int × Int} : ∀ e : Ex, noFlB e = true → (evX val L e).2 = 0 := by
 intro e
 induction e using Ex.ind with
 | h e ih =>
   intro h
   rw [noFl_eq] at h
   simp only [Bool.and_eq_true, Bool.not_eq_true', decide_eq_false_iff_not, List.all_eq_true] at h
   obtain ⟨h1, h2⟩ := h
   obtain ⟨o, n, v, w, l⟩ := e
   simp only [Ex.op_mk, Ex.v_mk, Ex.l_mk] at ih h1 h2
   match l, ih, h2 with
   | [], _, _ => simp only [evX]; split <;> rfl
   | [p], ih, h2 =>
     have := ih p (by simp) (h2 p (by simp))
     simp only [evX, this]
     rw [if_neg (by simp)]
     split
     ·rfl
     split
     ·rfl
     split
     ·exact absurd (.inl ‹_›) h1
     ·rfl
   | [p, q], ih, h2 =>
     have e1 := ih p (by simp) (h2 p (by simp))
     have e2 := ih q (by simp) (h2 q (by simp))
     simp only [evX, e1, e2]
     rw [if_neg (by simp), if_neg (by simp)]
   | _ :: _ :: _ :: _, _, _ => simp [evX]
theorem noFl_same {val val' : Int → Int} {L L' : Int → Int → Int × Int} : ∀ e : Ex, formB e = true → noFlB e = true → (∀ v ∈ occ e, val' v = val v) → evX val' L' e = evX val L e := by
 intro e
 induction e using Ex.ind with
 | h e ih =>
   intro hf h hv
   rw [noFl_eq] at h
   rw [formB_eq] at hf
   simp only [Bool.and_eq_true, Bool.not_eq_true', decide_eq_false_iff_not, List.all_eq_true] at h hf
   obtain ⟨h1, h2⟩ := h
   obtain ⟨f1, f2⟩ := hf
   obtain ⟨o, n, v, w, l⟩ := e
   simp only [Ex.op_mk, Ex.n_mk, Ex.v_mk, Ex.wd_mk, Ex.l_mk] at ih h1 h2 f1 f2
   have hsub : ∀ x ∈ l, ∀ u ∈ occ x, val' u = val u := fun x hx u hu => hv u (by
    simp only [occ]
    refine List.mem_append_right _ ?_
    clear ih h2 f1 f2 hv
    induction l with
    | nil => cases hx
    | cons a l ihl =>
      simp only [occ.occs]
      rcases List.mem_cons.1 hx with rfl | hx
      ·exact List.mem_append_left _ hu
      ·exact List.mem_append_right _ (ihl hx))
   match l, ih, h2, f1, f2, hsub with
   | [], _, _, f1, _, _ =>
     simp only [evX]
     by_cases ho : o = 1
     ·rw [if_pos ho, if_pos ho]
     ·rw [if_neg ho, if_neg ho]
      have ho2 : o = 2 := by
       refine Classical.byContradiction fun ho2 => ?_
       unfold okE at f1
       rw [if_neg ho, if_neg ho2] at f1
       simp at f1
      rw [hv v (by simp [occ, ho2])]
   | [p], ih, h2, _, f2, hs =>
     have h3 := h2 p (by simp)
     have e1 := ih p (by simp) (f2 p (by simp)) h3 (hs p (by simp))
     simp only [evX, e1]
     have ho : o ≠ 18 := fun e => h1 (.inl e)
     simp [ho]
   | [p, q], ih, h2, _, f2, hs => simp only [evX, ih p (by simp) (f2 p (by simp)) (h2 p (by simp)) (hs p (by simp)), ih q (by simp) (f2 q (by simp)) (h2 q (by simp)) (hs q (by simp))]
   | _ :: _ :: _ :: _, _, _, _, _, _ => simp [evX]
def actS : Option (Ex × Ex) → Nat → List St → Nat → Option (Ex × Ex) × Nat
 | a, k, _, 0 => (a, k)
 | a, k, [], _ + 1 => (a, k)
 | a, k + 1, _ :: l, i + 1 => actS a k l i
 | a, 0, s :: l, i + 1 => match matchS (s :: l) with
   | some p => actS (some p) 3 l i
   | none => match a with
     | some p => actS (if endsB p s = true then none else some p) 0 l i
     | none => actS none 0 l i
theorem block_at : ∀ (l : List St) (a : Option (Ex × Ex)) (k i : Nat) (s : St), l[i]? = some s →
  (blockS a k l)[i]? = some (if (actS a k l i).2 = 0 then match matchS (l.drop i) with
   | some _ => s
   | none => match (actS a k l i).1 with
     | some p => fuseSt p s
     | none => s else s)
 | [], a, k, i, s, h => by simp at h
 | t :: l, a, k + 1, 0, s, h => by
   simp only [List.getElem?_cons_zero, Option.some.injEq] at h
   subst h
   simp [blockS, actS]
 | t :: l, a, k + 1, i + 1, s, h => by
   simp only [List.getElem?_cons_succ] at h
   simp only [blockS, actS, List.getElem?_cons_succ, List.drop_succ_cons]
   exact block_at l a k i s h
 | t :: l, a, 0, 0, s, h => by
   simp only [List.getElem?_cons_zero, Option.some.injEq] at h
   subst h
   simp only [blockS, actS, List.drop_zero, if_true]
   cases hm : matchS (t :: l) with
   | some p => simp
   | none => cases a <;> simp
 | t :: l, a, 0, i + 1, s, h => by
   simp only [List.getElem?_cons_succ] at h
   simp only [blockS, actS, List.drop_succ_cons]
   cases hm : matchS (t :: l) with
   | some p =>
     simp only [List.getElem?_cons_succ]
     exact block_at l (some p) 3 i s h
   | none =>
     cases a with
     | some p =>
       simp only [List.getElem?_cons_succ]
       exact block_at l _ 0 i s h
     | none =>
       simp only [List.getElem?_cons_succ]
       exact block_at l none 0 i s h
theorem act_next : ∀ (l : List St) (a : Option (Ex × Ex)) (k i : Nat) (s : St), l[i]? = some s →
  actS a k l (i + 1) = match (actS a k l i).2 with
   | n + 1 => ((actS a k l i).1, n)
   | 0 => match matchS (l.drop i) with
     | some p => (some p, 3)
     | none => match (actS a k l i).1 with
       | some p => (if endsB p s = true then none else some p, 0)
       | none => (none, 0)
 | [], a, k, i, s, h => by simp at h
 | t :: l, a, k + 1, 0, s, h => by
   simp only [List.getElem?_cons_zero, Option.some.injEq] at h
   subst h
   simp only [actS]
 | t :: l, a, k + 1, i + 1, s, h => by
   simp only [List.getElem?_cons_succ] at h
   have := act_next l a k i s h
   simp only [actS, List.drop_succ_cons] at this ⊢
   exact this
 | t :: l, a, 0, 0, s, h => by
   simp only [List.getElem?_cons_zero, Option.some.injEq] at h
   subst h
   unfold actS
   simp only [List.drop_zero]
   cases hm : matchS (t :: l) with
   | some p => cases l <;> rfl
   | none => cases a <;> cases l <;> rfl
 | t :: l, a, 0, i + 1, s, h => by
   simp only [List.getElem?_cons_succ] at h
   cases hm : matchS (t :: l) with
   | some p =>
     have := act_next l (some p) 3 i s h
     simp only [actS, hm, List.drop_succ_cons]
     exact this
   | none =>
     cases a with
     | some p =>
       have := act_next l (if endsB p t = true then none else some p) 0 i s h
       simp only [actS, hm, List.drop_succ_cons]
       exact this
     | none =>
       have := act_next l none 0 i s h
       simp only [actS, hm, List.drop_succ_cons]
       exact this
theorem match_four {l : List St} {p : Ex × Ex} (h : matchS l = some p) : noFlB p.1 = true ∧ noFlB p.2 = true ∧ ∃ s0 s1 s2 s3 r, l = s0 :: s1 :: s2 :: s3 :: r ∧ (fullB p.1 p.2 s0 s1 s2 s3 = true ∨ shortB p.1 p.2 s0 s1 s2 s3 = true) := by
 unfold matchS at h
 split at h
 case isFalse => cases h
 rename_i hc
 obtain rfl := oSI h
 unfold cmpR at hc ⊢
 split at hc
 case h_2 => cases hc
 rename_i s0 s1 s2 s3 r
 split at hc
 case h_2 => cases hc
 rename_i o n v w a b he
 split at hc
 case isFalse => cases hc
 rename_i ho
 try rw [if_pos ho]
 simp only [Bool.and_eq_true] at hc
 refine ⟨hc.1, hc.2, s0, s1, s2, s3, r, rfl, ?_⟩
 simpa [Bool.or_eq_true] using ho.2
theorem setB_is {s : St} {v : Int} {e : Ex} (h : setB s v e = true) : s.op = 1 ∧ s.va = v ∧ s.e = [e] := by
 unfold setB at h
 simp only [Bool.and_eq_true, decide_eq_true_eq] at h
 obtain ⟨⟨h1, h2⟩, h3⟩ := h
 split at h3
 ·rename_i x hx
  exact ⟨h1, h2, by rw [hx, sameB_iff.1 h3]⟩
 ·cases h3
def fxE (short : Bool) (a b : Ex) : Nat → Ex
 | 0 => eTwo 12 a b
 | 1 => if short then eTwo 14 a b else eMinus a b
 | 2 => if short then eCon 0 else eTwo 15 a b
 | _ => if short then eCon 0 else eOver a b
theorem match_sets {l : List St} {p : Ex × Ex} (h : matchS l = some p) : ∃ sh : Bool, (sh = true → p.2 = eCon 0) ∧ ∀ (j : Nat) (s : St), j < 4 → l[j]? = some s → s.op = 1 ∧ s.va = 8 + (j : Int) ∧ s.e = [fxE sh p.1 p.2 j] := by
 obtain ⟨_, _, s0, s1, s2, s3, r, rfl, hf⟩ := match_four h
 rcases hf with hf | hf
 ·refine ⟨false, fun h => by simp at h, ?_⟩
  unfold fullB at hf
  simp only [Bool.and_eq_true] at hf
  obtain ⟨⟨⟨h0, h1⟩, h2⟩, h3⟩ := hf
  intro j s hj hs
  match j, hj with
  | 0, _ => simp at hs; subst hs; obtain ⟨q1, q2, q3⟩ := setB_is h0; exact ⟨q1, by rw [q2]; rfl, by rw [q3]; rfl⟩
  | 1, _ => simp at hs; subst hs; obtain ⟨q1, q2, q3⟩ := setB_is h1; exact ⟨q1, by rw [q2]; rfl, by rw [q3]; rfl⟩
  | 2, _ => simp at hs; subst hs; obtain ⟨q1, q2, q3⟩ := setB_is h2; exact ⟨q1, by rw [q2]; rfl, by rw [q3]; rfl⟩
  | 3, _ => simp at hs; subst hs; obtain ⟨q1, q2, q3⟩ := setB_is h3; exact ⟨q1, by rw [q2]; rfl, by rw [q3]; rfl⟩
 ·unfold shortB at hf
  simp only [Bool.and_eq_true] at hf
  obtain ⟨⟨⟨⟨hz, h0⟩, h1⟩, h2⟩, h3⟩ := hf
  refine ⟨true, fun _ => sameB_iff.1 hz, ?_⟩
  intro j s hj hs
  match j, hj with
  | 0, _ => simp at hs; subst hs; obtain ⟨q1, q2, q3⟩ := setB_is h0; exact ⟨q1, by rw [q2]; rfl, by rw [q3]; rfl⟩
  | 1, _ => simp at hs; subst hs; obtain ⟨q1, q2, q3⟩ := setB_is h1; exact ⟨q1, by rw [q2]; rfl, by rw [q3]; rfl⟩
  | 2, _ => simp at hs; subst hs; obtain ⟨q1, q2, q3⟩ := setB_is h2; exact ⟨q1, by rw [q2]; rfl, by rw [q3]; rfl⟩
  | 3, _ => simp at hs; subst hs; obtain ⟨q1, q2, q3⟩ := setB_is h3; exact ⟨q1, by rw [q2]; rfl, by rw [q3]; rfl⟩
theorem fx_val {val : Int → Int} {L : Int → Int → Int × Int} {a b : Ex} {x y : Int} {sh : Bool} (ha : evX val L a = (x, 0)) (hb : evX val L b = (y, 0)) (hx : R32 x) (hs : sh = true → b = eCon 0) (j : Nat) : evX val L (fxE sh a b j) = (flv x y j, 0) := by
 cases sh with
 | false =>
   match j with
   | 0 => simp [fxE, flv, eTwo, evX, ha, hb]
   | 1 => simp [fxE, flv, eTwo, eCon, evX, ha, hb]
   | 2 => simp [fxE, flv, eTwo, evX, ha, hb]
   | j + 3 => simp [fxE, flv, eTwo, eCon, evX, ha, hb]
 | true =>
   have hb0 := hs rfl
   have hy : y = 0 := by
    rw [hb0] at hb
    simp [eCon, evX] at hb
    exact hb.symm
   subst hy
   have hx4 : appI 4 x 0 = x := by
    rw [appI_sub, u32wm]
    unfold R32 at hx
    omega
   match j with
   | 0 => simp [fxE, flv, eTwo, evX, ha, hb]
   | 1 => simp [fxE, flv, eTwo, evX, ha, hb, hx4]
   | 2 =>
     have h15 : appI 15 x 0 = 0 := by
      rw [appI_ltu, if_neg]
      unfold R32 at hx
      omega
     simp [fxE, flv, eCon, evX, h15]
   | j + 3 =>
     have h8 : appI 8 (appI 14 x 0) (appI 14 x 0) = 0 := by rw [lt_num, x_num]; simp [num]
     simp [fxE, flv, eCon, evX, hx4, h8]
theorem okN_ite {p : Prop} [Decidable p] {x y : Ex} (hx : OkN x) (hy : OkN y) : OkN (if p then x else y) := by
 split
 ·exact hx
 ·exact hy
theorem okN_cond {a b : Ex} (ha : OkN a) (hb : OkN b) (cc : Int) : OkN (condE cc a b) := by
 have h1 : OkN (eCon 1) := okN_con ⟨by omega, by omega⟩
 have h0 : OkN (eCon 0) := okN_con r32_0
 have t1 : ∀ op : Int, OkN (eTwo op a b) := fun op => okN_two ha hb
 have t2 : ∀ op : Int, OkN (eTwo op b a) := fun op => okN_two hb ha
 have m1 : OkN (eMinus a b) := okN_two (t1 4) h0
 have v1 : OkN (eOver a b) := okN_two (t1 14) m1
 unfold condE
 exact okN_ite h1 (okN_ite (t1 _) (okN_ite (t1 _) (okN_ite (t1 _) (okN_ite (okN_one (t1 _)) (okN_ite (okN_one (t2 _)) (okN_ite (t2 _) (okN_ite (t1 _) (okN_ite (okN_one (t1 _)) (okN_ite (okN_one (t2 _)) (okN_ite (t2 _) (okN_ite m1 (okN_ite (okN_one m1) (okN_ite v1 (okN_ite (okN_one v1) h0))))))))))))))
theorem okN_fuse {a b : Ex} (ha : OkN a) (hb : OkN b) : ∀ e : Ex, OkN e → OkN (fuseS a b e) := by
 intro e
 induction e using Ex.ind with
 | h e ih =>
   intro he
   rw [fuseS_eq]
   obtain ⟨o, n, v, w, l⟩ := e
   cases he with
   | mk hn hl =>
     split
     ·exact okN_cond ha hb _
     ·refine .mk hn fun x hx => ?_
      obtain ⟨y, hy, rfl⟩ := List.mem_map.1 hx
      exact ih y hy (hl y hy)
theorem valS_set {σ : RSt} {F : List FR} {t : FR} (hF : σ.fs = F ++ [t]) {x v : Int} (n : Int) (hx : 0 ≤ x) (hv : 0 ≤ v) (h : v ≠ x) : valS (setS σ x n) v = valS σ v := by
 unfold setS valS
 by_cases h1 : x < 12
 ·rw [if_pos h1]
  simp only [setC]
  by_cases h2 : v < 12
  ·rw [if_pos h2, if_pos h2, if_neg (by omega)]
  ·rw [if_neg h2, if_neg h2]
 ·rw [if_neg h1]
  by_cases h2 : v < 12
  ·rw [if_pos h2, if_pos h2]
  ·rw [if_neg h2, if_neg h2]
   simp only [hF, updT_app, List.getLast?_concat]
   rw [lkL_up, if_neg (fun e => h e.symm)]
structure ActI (R : List Reg) (σ : RSt) (a b : Ex) (m : Nat) : Prop where
 na : noFlB a = true
 nb : noFlB b = true
 fa : formB a = true
 fb : formB b = true
 oa : OkN a
 ob : OkN b
 v : ∀ j, j < m → σ.c (8 + j) = flv (evS R σ a).1 (evS R σ b).1 j
theorem ActI.keep {R : List Reg} {σ σ' : RSt} {a b : Ex} {m : Nat} (h : ActI R σ a b m) (hc : ∀ j, j < m → σ'.c (8 + j) = σ.c (8 + j)) (ha : ∀ v ∈ occ a, valS σ' v = valS σ v) (hb : ∀ v ∈ occ b, valS σ' v = valS σ v) : ActI R σ' a b m := by
 refine ⟨h.na, h.nb, h.fa, h.fb, h.oa, h.ob, fun j hj => ?_⟩
 have e1 : evS R σ' a = evS R σ a := noFl_same a h.fa h.na ha
 have e2 : evS R σ' b = evS R σ b := noFl_same b h.fb h.nb hb
 rw [hc j hj, e1, e2]
 exact h.v j hj
theorem ActI.fuse {R : List Reg} {σ : RSt} {a b : Ex} (h : ActI R σ a b 4) (hσ : RsOk σ) (e : Ex) : evS R σ (fuseS a b e) = evS R σ e := by
 have za : (evS R σ a).2 = 0 := noFl_ok a h.na
 have zb : (evS R σ b).2 = 0 := noFl_ok b h.nb
 have ha : evX (valS σ) (ldV R σ.W) a = ((evS R σ a).1, 0) := Prod.ext rfl za
 have hb : evX (valS σ) (ldV R σ.W) b = ((evS R σ b).1, 0) := Prod.ext rfl zb
 have hv : ∀ j : Nat, j < 4 → valS σ (8 + (j : Int)) = flv (evS R σ a).1 (evS R σ b).1 j := fun j hj => by
  unfold valS
  rw [if_pos (by omega), show ((8 : Int) + (j : Int)).toNat = 8 + j by omega]
  exact h.v j hj
 exact fuse_val (fun k h1 h14 => cond_flag ha hb (evS_r32 hσ h.oa) (evS_r32 hσ h.ob) (hv 0 (by omega)) (hv 1 (by omega)) (hv 2 (by omega)) (hv 3 (by omega)) k h1 h14) e
theorem act_pend (l : List St) : ∀ i, i ≤ l.length → (actS none 0 l i).2 ≤ 3 ∧ ∀ p, (actS none 0 l i).1 = some p → ∀ k, (actS none 0 l i).2 = k → 4 ≤ i + k ∧ (1 ≤ k → matchS (l.drop (i + k - 4)) = some p)
 | 0, _ => by simp [actS]
 | i + 1, hi => by
   obtain ⟨s, hs⟩ : ∃ s, l[i]? = some s := ⟨_, gEG (by omega)⟩
   have hn := act_next l none 0 i s hs
   obtain ⟨h3, ih⟩ := act_pend l i (by omega)
   obtain ⟨X, hX⟩ : ∃ X, actS none 0 l i = X := ⟨_, rfl⟩
   rw [hX] at hn h3 ih
   obtain ⟨a, k⟩ := X
   simp only at hn h3 ih
   cases k with
   | succ k =>
     simp only at hn
     rw [hn]
     refine ⟨by simp only; omega, fun p hp k' hk' => ?_⟩
     simp only at hp hk'
     subst hk'
     obtain ⟨q1, q2⟩ := ih p hp (k + 1) rfl
     refine ⟨by omega, fun h1 => ?_⟩
     have := q2 (by omega)
     rwa [show i + 1 + k - 4 = i + (k + 1) - 4 by omega]
   | zero =>
     simp only at hn
     cases hm : matchS (l.drop i) with
     | some p =>
       rw [hm] at hn
       simp only at hn
       rw [hn]
       refine ⟨by simp, fun q hq k' hk' => ?_⟩
       simp only [Option.some.injEq] at hq hk'
       subst hq hk'
       exact ⟨by omega, fun _ => by rw [show i + 1 + 3 - 4 = i by omega]; exact hm⟩
     | none =>
       rw [hm] at hn
       simp only at hn
       cases a with
       | none =>
         simp only at hn
         rw [hn]
         exact ⟨by simp, fun p hp => by simp at hp⟩
       | some q =>
         simp only at hn
         rw [hn]
         refine ⟨by simp, fun p hp k' hk' => ?_⟩
         simp only at hp hk'
         subst hk'
         obtain ⟨q1, _⟩ := ih q rfl 0 rfl
         exact ⟨by omega, fun h => by omega⟩
theorem occ_ge : ∀ e : Ex, formB e = true → ∀ v ∈ occ e, 0 ≤ v := by
 intro e
 induction e using Ex.ind with
 | h e ih =>
   intro hf v hv
   rw [occ_eq] at hv
   rcases List.mem_append.1 hv with hv | hv
   ·split at hv
    ·rename_i ho
     simp at hv
     subst hv
     exact (form_var hf ho).2.1
    ·simp at hv
   ·have key : ∀ l : List Ex, (∀ x ∈ l, ∀ v ∈ occ x, 0 ≤ v) → ∀ v ∈ occ.occs l, 0 ≤ v := by
     intro l
     induction l with
     | nil => intro _ v hv; simp [occ.occs] at hv
     | cons a l ihl =>
       intro h v hv
       rw [occ.occs] at hv
       rcases List.mem_append.1 hv with hv | hv
       ·exact h a (by simp) v hv
       ·exact ihl (fun x hx => h x (by simp [hx])) v hv
    exact key e.l (fun x hx => ih x hx ((form_all hf).2 x hx)) v hv
theorem noFl_occ : ∀ e : Ex, noFlB e = true → ∀ v ∈ occ e, ¬ (8 ≤ v ∧ v ≤ 11) := by
 intro e
 induction e using Ex.ind with
 | h e ih =>
   intro hf v hv
   rw [noFl_eq] at hf
   simp only [Bool.and_eq_true, Bool.not_eq_true', decide_eq_false_iff_not, List.all_eq_true] at hf
   obtain ⟨h1, h2⟩ := hf
   rw [occ_eq] at hv
   rcases List.mem_append.1 hv with hv | hv
   ·split at hv
    ·rename_i ho
     simp at hv
     subst hv
     exact fun h => h1 (.inr ⟨ho, h.1, h.2⟩)
    ·simp at hv
   ·have key : ∀ l : List Ex, (∀ x ∈ l, ∀ v ∈ occ x, ¬ (8 ≤ v ∧ v ≤ 11)) → ∀ v ∈ occ.occs l, ¬ (8 ≤ v ∧ v ≤ 11) := by
     intro l
     induction l with
     | nil => intro _ v hv; simp [occ.occs] at hv
     | cons a l ihl =>
       intro h v hv
       rw [occ.occs] at hv
       rcases List.mem_append.1 hv with hv | hv
       ·exact h a (by simp) v hv
       ·exact ihl (fun x hx => h x (by simp [hx])) v hv
    exact key e.l (fun x hx => ih x hx (h2 x hx)) v hv
theorem val_cell (τ : RSt) (j : Nat) (hj : j < 4) : valS τ (8 + (j : Int)) = τ.c (8 + j) := by
 unfold valS
 rw [if_pos (by omega), show ((8 : Int) + (j : Int)).toNat = 8 + j by omega]
theorem valS_own (σ : RSt) {x : Int} (n : Int) (hx : x < 12) : valS (setS σ x n) x = n := by
 unfold setS valS
 rw [if_pos hx, if_pos hx]
 simp [setC]
theorem act_step {R : List Reg} {σ σ2 : RSt} {l : List St} {i : Nat} {s : St} (hs : l[i]? = some s) (hex : ∀ s ∈ l, ∀ e ∈ s.e, OkN e) (hfo : ∀ s ∈ l, ∀ e ∈ s.e, formB e = true) (hσ : RsOk σ) (h5 : s.op ≠ 5)
  (hv : ∀ v, 0 ≤ v → ¬ ((s.op = 1 ∨ s.op = 3) ∧ v = s.va) → valS σ2 v = valS σ v) (hn : s.op = 1 → s.va < 12 → valS σ2 s.va = (evS R σ (exAt s 0)).1)
  (hT : ∀ p m, actS none 0 l i = (some p, m) → ActI R σ p.1 p.2 (4 - m)) : ∀ p m, actS none 0 l (i + 1) = (some p, m) → ActI R σ2 p.1 p.2 (4 - m) := by
 intro p m hp
 have hi := (gSI.1 hs).1
 have hnx := act_next l none 0 i s hs
 obtain ⟨h3, hpend⟩ := act_pend l i (by omega)
 rw [hp] at hnx
 obtain ⟨X, hX⟩ : ∃ X, actS none 0 l i = X := ⟨_, rfl⟩
 rw [hX] at hnx h3 hpend hT
 obtain ⟨a, n⟩ := X
 simp only at hnx h3 hpend
 have hset : ∀ (q : Ex × Ex) (j : Nat), j < 4 → ActI R σ q.1 q.2 j → (∃ r, matchS r = some q ∧ r[j]? = some s) → ActI R σ2 q.1 q.2 (j + 1) := by
  rintro ⟨q1, q2⟩ j hj hA ⟨r, hr, hrj⟩
  simp only at hA ⊢
  obtain ⟨sh, hsh, hall⟩ := match_sets hr
  obtain ⟨g1, g2, g3⟩ := hall j s hj hrj
  simp only at hsh g3
  have za : (evS R σ q1).2 = 0 := noFl_ok q1 hA.na
  have zb : (evS R σ q2).2 = 0 := noFl_ok q2 hA.nb
  have ha : evX (valS σ) (ldV R σ.W) q1 = ((evS R σ q1).1, 0) := Prod.ext rfl za
  have hb : evX (valS σ) (ldV R σ.W) q2 = ((evS R σ q2).1, 0) := Prod.ext rfl zb
  have hfx := fx_val (sh := sh) ha hb (evS_r32 hσ hA.oa) hsh j
  have he : exAt s 0 = fxE sh q1 q2 j := by unfold exAt; rw [g3]; rfl
  have hval : (evS R σ (exAt s 0)).1 = flv (evS R σ q1).1 (evS R σ q2).1 j := by rw [he]; exact congrArg Prod.fst hfx
  have ka : ∀ v ∈ occ q1, valS σ2 v = valS σ v := fun v hv' => hv v (occ_ge _ hA.fa v hv') (by
   rintro ⟨_, rfl⟩
   have := noFl_occ _ hA.na _ hv'
   omega)
  have kb : ∀ v ∈ occ q2, valS σ2 v = valS σ v := fun v hv' => hv v (occ_ge _ hA.fb v hv') (by
   rintro ⟨_, rfl⟩
   have := noFl_occ _ hA.nb _ hv'
   omega)
  have e1 : evS R σ2 q1 = evS R σ q1 := noFl_same q1 hA.fa hA.na ka
  have e2 : evS R σ2 q2 = evS R σ q2 := noFl_same q2 hA.fb hA.nb kb
  refine ⟨hA.na, hA.nb, hA.fa, hA.fb, hA.oa, hA.ob, fun i hi => ?_⟩
  rw [e1, e2]
  by_cases hij : i = j
  ·subst hij
   rw [← val_cell σ2 i hj, ← g2, hn g1 (by omega), hval]
  ·rw [← val_cell σ2 i (by omega), hv _ (by omega) (by rintro ⟨_, h⟩; rw [g2] at h; omega), val_cell σ i (by omega)]
   exact hA.v i (by omega)
 cases n with
 | succ k =>
   simp only [Prod.mk.injEq] at hnx
   obtain ⟨rfl, rfl⟩ := hnx
   obtain ⟨g1, g2⟩ := hpend p rfl (m + 1) rfl
   have := hset p (4 - (m + 1)) (by omega) (hT p (m + 1) rfl) ⟨_, g2 (by omega), by rw [List.getElem?_drop, show i + (m + 1) - 4 + (4 - (m + 1)) = i by omega]; exact hs⟩
   rwa [show 4 - (m + 1) + 1 = 4 - m by omega] at this
 | zero =>
   simp only at hnx
   cases hm : matchS (l.drop i) with
   | some q =>
     rw [hm] at hnx
     simp only [Prod.mk.injEq, Option.some.injEq] at hnx
     obtain ⟨rfl, rfl⟩ := hnx
     have h0 : (l.drop i)[0]? = some s := by rw [List.getElem?_drop]; exact hs
     obtain ⟨sh, _, hall⟩ := match_sets hm
     obtain ⟨_, _, g3⟩ := hall 0 s (by omega) h0
     obtain ⟨m1, m2, _⟩ := match_four hm
     have hsm := gMO hs
     have ho : OkN (eTwo 12 p.1 p.2) := hex s hsm _ (by rw [g3]; exact List.mem_singleton.2 rfl)
     have hf : formB (eTwo 12 p.1 p.2) = true := hfo s hsm _ (by rw [g3]; exact List.mem_singleton.2 rfl)
     have hol := ho.l
     have hfl := (form_all hf).2
     exact hset p 0 (by omega) ⟨m1, m2, hfl _ (by simp [eTwo]), hfl _ (by simp [eTwo]), hol _ (by simp [eTwo]), hol _ (by simp [eTwo]), fun j hj => by omega⟩ ⟨_, hm, h0⟩
   | none =>
     rw [hm] at hnx
     simp only at hnx
     cases a with
     | none => simp at hnx
     | some q =>
       simp only [Prod.mk.injEq] at hnx
       obtain ⟨g1, rfl⟩ := hnx
       have hE : endsB q s = false := by
        cases h : endsB q s with
        | false => rfl
        | true => rw [h] at g1; simp at g1
       rw [hE] at g1
       simp at g1
       subst g1
       have hA := hT p 0 rfl
       unfold endsB at hE
       have hE2 : (s.op = 1 ∨ s.op = 3) → ¬ (8 ≤ s.va ∧ s.va ≤ 11) ∧ s.va ∉ occ p.1 ∧ s.va ∉ occ p.2 := by
        intro h
        have : (decide (s.op = 1) || decide (s.op = 3)) = true := by simpa using h
        rw [this] at hE
        simp at hE
        exact ⟨by omega, hE.2.1.2, hE.2.2⟩
       refine hA.keep (fun j hj => ?_) (fun v hv' => hv v (occ_ge _ hA.fa v hv') ?_) (fun v hv' => hv v (occ_ge _ hA.fb v hv') ?_)
       ·rw [← val_cell σ2 j (by omega), hv _ (by omega) (by rintro ⟨h, h2⟩; have := (hE2 h).1; omega), val_cell σ j (by omega)]
       ·rintro ⟨h, rfl⟩
        exact (hE2 h).2.1 hv'
       ·rintro ⟨h, rfl⟩
        exact (hE2 h).2.2 hv'
theorem act_call {l : List St} {i : Nat} {s : St} (hs : l[i]? = some s) (h5 : s.op = 5) : (actS none 0 l (i + 1)).1 = none := by
 have hi := (gSI.1 hs).1
 have hnx := act_next l none 0 i s hs
 obtain ⟨h3, hpend⟩ := act_pend l i (by omega)
 obtain ⟨X, hX⟩ : ∃ X, actS none 0 l i = X := ⟨_, rfl⟩
 rw [hX] at hnx h3 hpend
 obtain ⟨a, n⟩ := X
 simp only at hnx h3 hpend
 rw [hnx]
 cases n with
 | succ k =>
   simp only
   cases a with
   | none => rfl
   | some p =>
     obtain ⟨g1, g2⟩ := hpend p rfl (k + 1) rfl
     obtain ⟨sh, _, hall⟩ := match_sets (g2 (by omega))
     obtain ⟨q1, _⟩ := hall (4 - (k + 1)) s (by omega) (by rw [List.getElem?_drop, show i + (k + 1) - 4 + (4 - (k + 1)) = i by omega]; exact hs)
     omega
 | zero =>
   simp only
   cases hm : matchS (l.drop i) with
   | some q =>
     obtain ⟨sh, _, hall⟩ := match_sets hm
     obtain ⟨q1, _⟩ := hall 0 s (by omega) (by rw [List.getElem?_drop]; exact hs)
     omega
   | none =>
     cases a with
     | none => rfl
     | some q => simp [endsB, h5]
def lgB : List Bl → Nat → Option Nat
 | [], n => some n
 | b :: l, n => if 3000 < n + 1 + b.s.length then none else lgB l (n + 1 + b.s.length)
def lgG : List Gr → Nat → Option Nat
 | [], n => some n
 | g :: l, n => if 300 < g.b.length ∨ smallG g 70 = false then none else match lgB g.b n with | none => none | some m => lgG l m
def lgS : List Sec → Nat → Option Nat
 | [], n => some n
 | s :: l, n => if 3000 < n + s.da.length / 10 then none else lgS l (n + s.da.length / 10)
def lrg20 (gs : List Gr) (ss : List Sec) (steps : Int) : Bool := if 80 < gs.length ∨ 30 < ss.length ∨ 600 < steps then true else match lgG gs 0 with | none => true | some m => (lgS ss m).isNone
theorem lgB_le : ∀ {l : List Bl} {n m : Nat}, n ≤ 3000 → lgB l n = some m → m ≤ 3000
 | [], n, m, hn, h => by
   obtain rfl : n = m := oSI h
   exact hn
 | b :: l, n, m, hn, h => by
   simp only [lgB] at h
   split at h
   ·cases h
   ·exact lgB_le (by omega) h
set_option maxRecDepth 100000 in
theorem l20large_af (gs : List Gr) (ss : List Sec) (en steps : Int) (hs : ∀ s ∈ ss, s.da.length ≤ maxLen) : AF Tryz.prog 11 [prV gs ss en, aI .i64 steps] (aB (lrg20 gs ss steps)) := by
 obtain ⟨R, hR⟩ : ∃ R, lrg20 gs ss steps = R := ⟨_, rfl⟩
 rw [hR]
 unfold lrg20 at hR
 unfold prV
 refine af_of Tryz.func11 rfl (by kernel_rfl) (by simp [Tryz.ntmps11]) fun _ => ?_; simp [Tryz.f11, Ex.d_eq]
 by_cases h1 : 80 < gs.length
 ·rw [if_pos (.inl h1)] at hR
  subst hR
  simp [show (80 : Int) < gs.length by omega]
 by_cases h2 : 30 < ss.length
 ·rw [if_pos (.inr (.inl h2))] at hR
  subst hR
  simp [show ¬ (80 : Int) < gs.length by omega, show (30 : Int) < ss.length by omega]
 by_cases h3 : 600 < steps
 ·rw [if_pos (.inr (.inr h3))] at hR
  subst hR
  simp [show ¬ (80 : Int) < gs.length by omega, show ¬ (30 : Int) < ss.length by omega, h3]
 rw [if_neg (by omega)] at hR
 have hgm : gs.length ≤ maxLen := by unfold maxLen; omega
 have hsm : ss.length ≤ maxLen := by unfold maxLen; omega
 simp [show ¬ (80 : Int) < gs.length by omega, show ¬ (30 : Int) < ss.length by omega, h3]
 refine aLoop_st (α := Nat × Nat) (fun p => [(2, .ptr 0 0 0 0), (5, aI .i64 p.2), (6, aI .i64 p.1)]) (fun _ => [pgB gs ss en]) (fun p => p.1 ≤ gs.length ∧ p.2 ≤ 3000 ∧ (match lgG (gs.drop p.1) p.2 with | none => true | some m => (lgS ss m).isNone) = R) (fun p => gs.length - p.1) (0, 0) (Sub.refl _ _ _) 1 (by omega) (by simp [clnB, clnE, cln]) (by simp) ⟨by omega, by omega, by simpa using hR⟩ ?_
 rintro ⟨i, n⟩ ⟨hi, hn, hx⟩ K hK
 simp only at hi hn hx hK ⊢
 rcases Nat.lt_or_ge i gs.length with hlt | hge
 case inr =>
  obtain rfl : i = gs.length := by omega
  simp [lgG] at hx
  simp
  clear hK
  refine aLoop_st (α := Nat × Nat) (fun p => [(2, .ptr 0 0 0 0), (5, aI .i64 p.2), (8, aI .i64 p.1)]) (fun _ => [pgB gs ss en]) (fun p => p.1 ≤ ss.length ∧ p.2 ≤ 3000 ∧ (lgS (ss.drop p.1) p.2).isNone = R) (fun p => ss.length - p.1) (0, n) (Sub.refl _ _ _) 1 (by omega) (by simp [clnB, clnE, cln]) (by simp) ⟨by omega, hn, by simpa using hx⟩ ?_
  clear hx hn n hi
  rintro ⟨i, n⟩ ⟨hi, hn, hx⟩ K hK
  simp only at hi hn hx hK ⊢
  rcases Nat.lt_or_ge i ss.length with hlt | hge
  case inr =>
   obtain rfl : i = ss.length := by omega
   simp [lgS] at hx
   subst hx
   simp
  obtain ⟨s, hg⟩ : ∃ s, ss[i]? = some s := ⟨_, gEG hlt⟩
  have hg2 := (gSI.1 hg).2
  have hsl := hs s (gMO hg)
  have hdrop : ss.drop i = s :: ss.drop (i + 1) := by rw [List.drop_eq_getElem_cons hlt, hg2]
  rw [hdrop, lgS] at hx
  have hdv : ((s.da.length : Int)).tdiv 10 = ((s.da.length / 10 : Nat) : Int) := rfl
  have hmx : s.da.length / 10 ≤ maxLen := by omega
  have hml : maxLen ≤ 9223372036854775807 := by unfold maxLen; omega
  have hw0 : IntKind.i64.wrap ((s.da.length : Int) / 10) = (s.da.length : Int) / 10 := i64w (by omega)
  have hw : IntKind.i64.wrap ((n : Int) + (s.da.length : Int) / 10) = ((n + s.da.length / 10 : Nat) : Int) := by rw [i64w (by omega)]; omega
  simp [hlt, hg, hg2, Sec.d_eq, hw0, hw]
  by_cases h6 : 3000 < n + s.da.length / 10
  ·rw [if_pos h6] at hx
   simp at hx
   subst hx
   simp [show (3000 : Int) < (n : Int) + (s.da.length : Int) / 10 by omega]
  ·rw [if_neg h6] at hx
   simp [show ¬ (3000 : Int) < (n : Int) + (s.da.length : Int) / 10 by omega, succ_wrap hlt hsm]
   exact hK (i + 1, n + s.da.length / 10) ⟨by simp only; omega, by simp only; omega, hx⟩ (by simp only; omega) (Sub.refl _ _ _) 1 (by omega) (by simp [clnB, clnE, cln]) (by simp)
 obtain ⟨g, hg⟩ : ∃ g, gs[i]? = some g := ⟨_, gEG hlt⟩
 have hg2 := (gSI.1 hg).2
 have hdrop : gs.drop i = g :: gs.drop (i + 1) := by rw [List.drop_eq_getElem_cons hlt, hg2]
 rw [hdrop, lgG] at hx
 simp [hlt, hg, hg2, Gr.d_eq]
 by_cases h4 : 300 < g.b.length
 ·rw [if_pos (.inl h4)] at hx
  subst hx
  simp [show (300 : Int) < g.b.length by omega]
 simp [show ¬ (300 : Int) < g.b.length by omega, hlt, hg, hg2, Gr.d_eq]
 refine aCall_of (smallg_af g 70 (by omega) (by omega)) (by kernel_rfl) (by simp [Gr.d_eq]) ?_
 cases h5 : smallG g 70 with
 | false =>
   rw [if_pos (.inr h5)] at hx
   subst hx
   simp
 | true =>
 rw [if_neg (by simp [h5]; omega)] at hx
 have hfit := smallG_fit h5
 have hbm : g.b.length ≤ maxLen := by unfold maxLen; omega
 simp
 cases hlb : lgB g.b n with
 | none =>
   rw [hlb] at hx
   simp only at hx
   subst hx
   refine aLoop_st (α := Nat × Nat) (fun p => [(2, .ptr 0 0 0 0), (5, aI .i64 p.2), (6, aI .i64 i), (7, aI .i64 p.1)]) (fun _ => [pgB gs ss en]) (fun p => p.1 ≤ g.b.length ∧ p.2 ≤ 3000 ∧ lgB (g.b.drop p.1) p.2 = none) (fun p => g.b.length - p.1) (0, n) (Sub.refl _ _ _) 1 (by omega) (by simp [clnB, clnE, cln]) (by simp) ⟨by omega, hn, by simpa using hlb⟩ ?_
   rintro ⟨j, m⟩ ⟨hj, hm, hy⟩ K2 hK2
   simp only at hj hm hy hK2 ⊢
   rcases Nat.lt_or_ge j g.b.length with hjl | hjg
   case inr =>
    obtain rfl : j = g.b.length := by omega
    simp [lgB] at hy
   obtain ⟨b, hb⟩ : ∃ b, g.b[j]? = some b := ⟨_, gEG hjl⟩
   have hb2 := (gSI.1 hb).2
   have hbl := (hfit.2.2 b (gMO hb)).1
   have hdr : g.b.drop j = b :: g.b.drop (j + 1) := by rw [List.drop_eq_getElem_cons hjl, hb2]
   rw [hdr, lgB] at hy
   have hw0 : IntKind.i64.wrap ((m : Int) + 1) = (m : Int) + 1 := i64w (by omega)
   have hw : IntKind.i64.wrap ((m : Int) + 1 + (b.s.length : Int)) = ((m + 1 + b.s.length : Nat) : Int) := by rw [i64w (by omega)]; omega
   simp [hlt, hg, hg2, Gr.d_eq, hjl, hb, hb2, Bl.d_eq, hw0, hw]
   by_cases h6 : 3000 < m + 1 + b.s.length
   ·simp [show (3000 : Int) < (m : Int) + 1 + (b.s.length : Int) by omega]
   ·rw [if_neg h6] at hy
    simp [show ¬ (3000 : Int) < (m : Int) + 1 + (b.s.length : Int) by omega, succ_wrap hjl hbm]
    exact hK2 (j + 1, m + 1 + b.s.length) ⟨by simp only; omega, by simp only; omega, hy⟩ (by simp only; omega) (Sub.refl _ _ _) 1 (by omega) (by simp [clnB, clnE, cln]) (by simp)
 | some n' =>
   rw [hlb] at hx
   simp only at hx
   have hn' := lgB_le hn hlb
   refine aLoop_st (α := Nat × Nat) (fun p => [(2, .ptr 0 0 0 0), (5, aI .i64 p.2), (6, aI .i64 i), (7, aI .i64 p.1)]) (fun _ => [pgB gs ss en]) (fun p => p.1 ≤ g.b.length ∧ p.2 ≤ 3000 ∧ lgB (g.b.drop p.1) p.2 = some n') (fun p => g.b.length - p.1) (0, n) (Sub.refl _ _ _) 1 (by omega) (by simp [clnB, clnE, cln]) (by simp) ⟨by omega, hn, by simpa using hlb⟩ ?_
   rintro ⟨j, m⟩ ⟨hj, hm, hy⟩ K2 hK2
   simp only at hj hm hy hK2 ⊢
   rcases Nat.lt_or_ge j g.b.length with hjl | hjg
   case inr =>
    obtain rfl : j = g.b.length := by omega
    simp [lgB] at hy
    subst hy
    simp [hlt, hg, hg2, Gr.d_eq, succ_wrap hlt hgm]
    exact hK (i + 1, m) ⟨by simp only; omega, hm, hx⟩ (by simp only; omega) (Sub.refl _ _ _) 1 (by omega) (by simp [clnB, clnE, cln]) (by simp)
   obtain ⟨b, hb⟩ : ∃ b, g.b[j]? = some b := ⟨_, gEG hjl⟩
   have hb2 := (gSI.1 hb).2
   have hbl := (hfit.2.2 b (gMO hb)).1
   have hdr : g.b.drop j = b :: g.b.drop (j + 1) := by rw [List.drop_eq_getElem_cons hjl, hb2]
   rw [hdr, lgB] at hy
   have hw0 : IntKind.i64.wrap ((m : Int) + 1) = (m : Int) + 1 := i64w (by omega)
   have hw : IntKind.i64.wrap ((m : Int) + 1 + (b.s.length : Int)) = ((m + 1 + b.s.length : Nat) : Int) := by rw [i64w (by omega)]; omega
   simp [hlt, hg, hg2, Gr.d_eq, hjl, hb, hb2, Bl.d_eq, hw0, hw]
   by_cases h6 : 3000 < m + 1 + b.s.length
   ·rw [if_pos h6] at hy
    cases hy
   ·rw [if_neg h6] at hy
    simp [show ¬ (3000 : Int) < (m : Int) + 1 + (b.s.length : Int) by omega, succ_wrap hjl hbm]
    exact hK2 (j + 1, m + 1 + b.s.length) ⟨by simp only; omega, by simp only; omega, hy⟩ (by simp only; omega) (Sub.refl _ _ _) 1 (by omega) (by simp [clnB, clnE, cln]) (by simp)
theorem l20largeE_af (gs : List Gr) (ss : List Sec) (en steps : Int) (hs : ∀ s ∈ ss, s.da.length ≤ maxLen) : AF Tryz.prog 4 [prV gs ss en, aI .i64 steps] (aB (lrg20 gs ss steps)) := by
 have h := l20large_af gs ss en steps hs
 unfold prV at h ⊢
 refine af_of Tryz.func4 rfl (by kernel_rfl) (by simp [Tryz.ntmps4]) fun _ => ?_; simp [Tryz.f4, Ex.d_eq]
 refine aCall_of h (by kernel_rfl) (by simp) ?_
 simp
abbrev resV (er : Int) (out : List Int) (n : Int) : AV := .agg [aI .i64 er, .d (.sl 1 (u32d out)), aI .i64 n]
set_option maxRecDepth 100000 in
theorem r20sameres_af (er n : Int) (out : List Int) (ho : out.length ≤ maxLen) : AF Tryz.prog 10 [resV er out n, resV er out n] (aB true) := by
 refine af_of Tryz.func10 rfl (by kernel_rfl) (by simp [Tryz.ntmps10]) fun _ => ?_; simp [Tryz.f10, Ex.d_eq]
 refine aLoop_st (fun i : Nat => [(2, .ptr 0 0 0 0), (3, .ptr 1 0 0 0), (5, aI .i64 i)]) (fun _ => [⟨0, true, 42, 3, [[aI .i64 er, .d (.sl 1 (u32d out)), aI .i64 n]]⟩, ⟨0, true, 42, 3, [[aI .i64 er, .d (.sl 1 (u32d out)), aI .i64 n]]⟩]) (fun i => i ≤ out.length) (fun i => out.length - i) 0 (Sub.refl _ _ _) 2 (by omega) (by simp [clnB, clnE, cln]) (by simp [cln]) (by omega) ?_
 rintro i hi K hK
 rcases Nat.lt_or_ge i out.length with hlt | hge
 case inr =>
  obtain rfl : i = out.length := by omega
  simp
 obtain ⟨x, hx⟩ : ∃ x, out[i]? = some x := ⟨_, gEG hlt⟩
 have hx2 := (gSI.1 hx).2
 simp [hlt, hx, hx2]
 refine adraw [] (by kernel_rfl) (by kernel_rfl) (by kernel_rfl) (by kernel_rfl) ?_; simp [Ex.d_eq]
 simp [hlt, hx, hx2, succ_wrap hlt ho]
 exact hK (i + 1) (by omega) (by omega) (Sub.refl _ _ _) 2 (by omega) (by simp [clnB, clnE, cln]) (by simp [cln])
structure GOk (G : Gr) : Prop where
 pos : 0 < G.b.length
 len : G.b.length ≤ 256
 cnt : stN G.b ≤ 1024
 cl : ∀ b ∈ G.b, closedB G.b.length b = true
 er : ∀ b ∈ G.b, ∀ s ∈ b.s, stErr s = 0
theorem gOk_of {g : Gr} (h : grErr g = 0) : GOk g := by
 unfold grErr at h
 split at h
 ·cases h
 split at h
 ·cases h
 rename_i h1 h2
 refine ⟨by omega, by omega, by omega, fun b hb => ?_, fun b hb s hs => stsErr_mem (blsErr_mem h b hb) s hs⟩
 have : g.b.all (closedB g.b.length) = true := by
  cases h' : g.b.all (closedB g.b.length) with
  | true => rfl
  | false => exact absurd (.inr h') h2
 exact List.all_eq_true.1 this b hb
theorem firG_zero {f : Nat → Gr → Int} : ∀ {l : List Gr} {i : Nat}, firG f i l = 0 ↔ ∀ (j : Nat) (x : Gr), l[j]? = some x → f (i + j) x = 0
 | [], i => by simp [firG]
 | a :: l, i => by
   simp only [firG]
   by_cases h0 : f i a = 0
   ·rw [if_neg (by simpa using h0), firG_zero]
    constructor
    ·intro h j x hx
     cases j with
     | zero => simp at hx; subst hx; exact h0
     | succ j => have := h j x (by simpa using hx); rwa [show i + (j + 1) = i + 1 + j by omega]
    ·intro h j x hx
     have := h (j + 1) x (by simpa using hx)
     rwa [show i + (j + 1) = i + 1 + j by omega] at this
   ·rw [if_pos (by simpa using h0)]
    exact ⟨fun h => absurd h h0, fun h => h 0 a rfl⟩
theorem prErr_gr {gs : List Gr} {ss : List Sec} {en : Int} (h : prErr gs ss en = 0) : secErr ss = 0 ∧ gs.length ≤ 64 ∧ (∀ (j : Nat) (g : Gr), gs[j]? = some g → gr1 gs j g = 0) ∧ gs.any (fun a => decide (a.ad = en)) = true := by
 unfold prErr at h
 split at h
 ·exact absurd h ‹_›
 split at h
 ·cases h
 split at h
 ·exact absurd h ‹_›
 split at h
 case isFalse => cases h
 rename_i h1 h2 h3 h4
 refine ⟨by simpa using h1, by omega, fun j g hg => ?_, h4⟩
 have := firG_zero.1 (by simpa using h3) j g hg
 simpa using this
theorem gr1_ok {gs : List Gr} {j : Nat} {g : Gr} (h : gr1 gs j g = 0) : grErr g = 0 := by
 unfold gr1 at h
 split at h
 ·exact absurd h ‹_›
 ·rename_i h0
  simpa using h0
theorem any_ad (l : List Gr) (y : Int) : l.any (fun a => decide (a.ad = y)) = (l.map Gr.ad).any fun a => decide (a = y) := by
 induction l with
 | nil => rfl
 | cons a l ih => simp [ih]
theorem prErr_set {gs : List Gr} {ss : List Sec} {en : Int} (h : prErr gs ss en = 0) {k : Nat} {g G : Gr} (hg : gs[k]? = some g) (had : G.ad = g.ad) (hG : grErr G = 0) : prErr (gs.set k G) ss en = 0 := by
 obtain ⟨h1, h2, h3, h4⟩ := prErr_gr h
 have hm : (gs.set k G).map Gr.ad = gs.map Gr.ad := by
  rw [List.map_set]
  exact set_same (by simp [hg, had])
 unfold prErr
 rw [if_neg (by simpa using h1), if_neg (by simp; omega), if_neg, if_pos]
 ·rw [any_ad, hm, ← any_ad]
  exact h4
 ·simp only [ne_eq, Decidable.not_not]
  refine firG_zero.2 fun j x hx => ?_
  rw [Nat.zero_add]
  have hkl := (gSI.1 hg).1
  have hex : ∃ y, gs[j]? = some y ∧ x.ad = y.ad ∧ grErr x = 0 := by
   by_cases hjk : k = j
   ·subst hjk
    rw [gSS hkl] at hx
    obtain rfl := oSI hx
    exact ⟨g, hg, had, hG⟩
   ·rw [gSN hjk] at hx
    exact ⟨x, hx, rfl, gr1_ok (h3 j x hx)⟩
  obtain ⟨y, hy, hxy, hxe⟩ := hex
  have h5 := h3 j y hy
  unfold gr1 at h5 ⊢
  rw [if_neg (by simpa using hxe)]
  split at h5
  ·exact absurd h5 ‹_›
  split at h5
  ·cases h5
  ·rename_i h6
   rw [if_neg]
   rw [any_ad] at h6 ⊢
   rw [List.map_take, hm, hxy, ← List.map_take]
   exact h6
theorem atN_lk {gs : List Gr} {x k : Int} : ∀ {n : Nat}, lkL x (atN gs n) = some k → ∃ j : Nat, k = j ∧ j < n
 | 0, h => by simp [atN, lkL] at h
 | n + 1, h => by
   rw [atN, lkL_up] at h
   split at h
   ·exact ⟨n, (oSI h).symm, by omega⟩
   ·obtain ⟨j, h1, h2⟩ := atN_lk h
    exact ⟨j, h1, by omega⟩
theorem atN_some {gs : List Gr} {x : Int} : ∀ {n : Nat}, (∃ j g, j < n ∧ gs[j]? = some g ∧ g.ad = x) → (lkL x (atN gs n)).isSome = true
 | 0, ⟨j, _, h, _⟩ => by omega
 | n + 1, ⟨j, g, h1, h2, h3⟩ => by
   rw [atN, lkL_up]
   split
   ·rfl
   ·rename_i hne
    refine atN_some ⟨j, g, ?_, h2, h3⟩
    rcases Nat.lt_or_ge j n with h | h
    ·exact h
    ·obtain rfl : j = n := by omega
     rw [h2] at hne
     exact absurd h3 hne
theorem atN_set {gs : List Gr} {k : Nat} {g G : Gr} (hg : gs[k]? = some g) (had : G.ad = g.ad) : ∀ n, atN (gs.set k G) n = atN gs n
 | 0 => rfl
 | n + 1 => by
   have hkl := (gSI.1 hg).1
   rw [atN, atN, atN_set hg had n]
   by_cases hk : k = n
   ·subst hk
    rw [gSS hkl, hg]
    simp [had]
   ·rw [gSN hk]
theorem en_some {gs : List Gr} {ss : List Sec} {en : Int} (h : prErr gs ss en = 0) : (lkL en (atN gs gs.length)).isSome = true := by
 obtain ⟨_, _, _, h4⟩ := prErr_gr h
 obtain ⟨g, hg, he⟩ := List.any_eq_true.1 h4
 obtain ⟨j, hj⟩ := List.mem_iff_getElem?.1 hg
 exact atN_some ⟨j, g, (gSI.1 hj).1, hj, by simpa using he⟩
theorem pgOk_of {gs : List Gr} {ss : List Sec} {en : Int} (h : prErr gs ss en = 0) (hN : ∀ g ∈ gs, ∀ b ∈ g.b, ∀ s ∈ b.s, ∀ e ∈ s.e, OkN e) : PgOk gs (atN gs gs.length) := by
 obtain ⟨_, h2, h3, _⟩ := prErr_gr h
 have hG : ∀ g ∈ gs, GOk g := fun g hg => by
  obtain ⟨j, hj⟩ := List.mem_iff_getElem?.1 hg
  exact gOk_of (gr1_ok (h3 j g hj))
 have hst : ∀ {l : List Bl} {b : Bl}, b ∈ l → b.s.length ≤ stN l := by
  intro l
  induction l with
  | nil => intro b hb; cases hb
  | cons a l ih =>
    intro b hb
    simp only [stN]
    rcases List.mem_cons.1 hb with rfl | hb
    ·omega
    ·have := ih hb; omega
 refine ⟨fun g hg => (hG g hg).cl, fun g hg => (hG g hg).er, hN, ⟨h2, fun g hg => ⟨(hG g hg).len, fun b hb => ?_⟩⟩, fun x k hk => ?_⟩
 ·have := (hG g hg).cnt
  have := hst hb
  omega
 ·obtain ⟨j, rfl, hj⟩ := atN_lk hk
  have hg : gs[j]? = some gs[j] := gEG hj
  have hp := (hG _ (gMO hg)).pos
  exact ⟨by omega, by omega, gs[j], gs[j].b[0], by simpa using hg, gEG hp⟩
open Go.RowKit
theorem lgG_small : ∀ {l : List Gr} {n m : Nat}, lgG l n = some m → ∀ g ∈ l, smallG g 70 = true
 | [], _, _, _, g, hg => by cases hg
 | a :: l, n, m, h, g, hg => by
   simp only [lgG] at h
   split at h
   ·cases h
   rename_i h1
   split at h
   ·cases h
   ·rcases List.mem_cons.1 hg with rfl | hg
    ·cases hs : smallG g 70 with
     | true => rfl
     | false => exact absurd (.inr hs) h1
    ·exact lgG_small h g hg
theorem lgS_small : ∀ {l : List Sec} {n m : Nat}, lgS l n = some m → ∀ s ∈ l, s.da.length / 10 ≤ 3000
 | [], _, _, _, g, hg => by cases hg
 | a :: l, n, m, h, g, hg => by
   simp only [lgS] at h
   split at h
   ·cases h
   ·rcases List.mem_cons.1 hg with rfl | hg
    ·omega
    ·exact lgS_small h g hg
theorem lrg20_ok {gs : List Gr} {ss : List Sec} {steps : Int} (h : lrg20 gs ss steps = false) : (∀ g ∈ gs, GrFit g) ∧ ∀ s ∈ ss, s.da.length ≤ 1000000 := by
 unfold lrg20 at h
 split at h
 ·cases h
 split at h
 ·cases h
 ·rename_i m hm
  cases hs : lgS ss m with
  | none => rw [hs] at h; cases h
  | some q => exact ⟨fun g hg => (smallG_fit (lgG_small hm g hg)).1, fun s hsm => by have := lgS_small hs s hsm; omega⟩
theorem entR_len (gs : List Gr) (σ : RSt) (b : Nat) : (entR gs σ b).tr.length ≤ σ.tr.length + 1 ∧ (entR gs σ b).out = σ.out := by
 unfold entR
 split
 ·exact ⟨by simp, rfl⟩
 ·exact ⟨by omega, rfl⟩
theorem stepS_len (gs : List Gr) (ats : List (Int × Int)) (R : List Reg) (m : Nat) (σ : RSt) : (stepS gs ats R m σ).2.tr.length ≤ σ.tr.length + 1 ∧ (stepS gs ats R m σ).2.out.length ≤ σ.out.length + 1 := by
 unfold stepS
 split
 ·exact ⟨Nat.le_succ _, Nat.le_succ _⟩
 rename_i s _
 have e1 : (begS σ).tr = σ.tr := rfl
 have e2 : (begS σ).out = σ.out := rfl
 rw [← e1, ← e2]
 obtain ⟨τ, hτ⟩ : ∃ τ, begS σ = τ := ⟨_, rfl⟩
 rw [hτ]
 have he : ∀ b, (entR gs τ b).tr.length ≤ τ.tr.length + 1 ∧ (entR gs τ b).out.length ≤ τ.out.length + 1 := fun b => by
  obtain ⟨q1, q2⟩ := entR_len gs τ b
  exact ⟨q1, by rw [q2]; omega⟩
 have hz : τ.tr.length ≤ τ.tr.length + 1 ∧ τ.out.length ≤ τ.out.length + 1 := ⟨by omega, by omega⟩
 unfold doS
 split
 ·unfold storeS
  split
  ·exact hz
  split
  ·exact hz
  ·exact hz
 split
 ·unfold callS
  split
  ·exact hz
  split
  ·exact hz
  ·obtain ⟨q1, q2⟩ := entR_len gs { τ with fs := τ.fs ++ [⟨(‹Int› : Int).toNat, 0, 0, m, []⟩] } 0
   exact ⟨q1, by rw [q2]; exact hz.2⟩
 split
 ·unfold jumpS
  split
  ·exact he _
  split
  ·exact hz
  split
  ·split
   ·exact hz
   ·exact he _
  split
  ·exact he _
  ·exact he _
 split
 ·exact hz
 split
 ·exact hz
 unfold plainS
 split
 ·split
  ·exact hz
  ·exact ⟨by show (setS τ _ _).tr.length ≤ _; rw [setS_tr]; exact hz.1, by show (setS τ _ _).out.length ≤ _; rw [setS_out]; exact hz.2⟩
 split
 ·exact hz
 split
 ·exact hz
 split
 ·exact ⟨hz.1, by simp⟩
 ·exact ⟨by rw [setS_tr]; exact hz.1, by rw [setS_out]; exact hz.2⟩
theorem runS_len (gs : List Gr) (ats : List (Int × Int)) (R : List Reg) : ∀ (n : Nat) (σ : RSt), (runS gs ats R n σ).2.tr.length ≤ σ.tr.length + n ∧ (runS gs ats R n σ).2.out.length ≤ σ.out.length + n
 | 0, σ => by
   simp only [runS]
   split <;> exact ⟨Nat.le_refl _, Nat.le_refl _⟩
 | n + 1, σ => by
   obtain ⟨q1, q2⟩ := stepS_len gs ats R 0 σ
   simp only [runS]
   split
   ·exact ⟨Nat.le_add_right _ _, Nat.le_add_right _ _⟩
   split
   ·exact ⟨by omega, by omega⟩
   ·obtain ⟨r1, r2⟩ := runS_len gs ats R n (stepS gs ats R 0 σ).2
    exact ⟨by omega, by omega⟩
theorem trcR_len (gs : List Gr) (ss : List Sec) (en : Int) (inp : List Int) (steps : Int) : (trcR gs ss en inp steps).2.tr.length ≤ maxLen ∧ (trcR gs ss en inp steps).2.out.length ≤ maxLen := by
 have h1 := runS_len gs (atN gs gs.length) (regL ss) (stepsN steps) (entR gs (ini0 gs (regL ss) en inp 0) 0)
 obtain ⟨h2, h3⟩ := entR_len gs (ini0 gs (regL ss) en inp 0) 0
 rw [h3] at h1
 have h4 : (ini0 gs (regL ss) en inp 0).tr = [] := rfl
 have h5 : (ini0 gs (regL ss) en inp 0).out = [] := rfl
 rw [h4] at h2
 rw [h5] at h1
 simp only [List.length_nil] at h1 h2
 have h6 : stepsN steps ≤ 65536 := by unfold stepsN; omega
 unfold trcR maxLen
 omega
theorem grs_app (l m : List Gr) : grs (l ++ m) = grs l ++ grs m := by simp [grs]
abbrev qPB (ss : List Sec) (en : Int) (i : Nat) : Blk := ⟨0, true, 26, 3, [[.own 3 i 0 i, .d (.sl 5 (secs ss)), aI .u32 en]]⟩
abbrev gsPB (i : Nat) (l : List Gr) : Blk := ⟨i, true, 30, 2, dEls (grs l)⟩
structure FlI (R : List Reg) (k : Nat) (G : Gr) (σ : RSt) : Prop where
 top : ∀ F t, σ.fs = F ++ [t] → t.g = k → ∀ B, G.b[t.b]? = some B → ∀ p m, actS none 0 B.s t.s = (some p, m) → ActI R σ p.1 p.2 (4 - m)
 low : ∀ F t, σ.fs = F ++ [t] → ∀ f ∈ F, f.g = k → ∀ B, G.b[f.b]? = some B → (actS none 0 B.s f.s).1 = none
theorem app_one {α : Type} {F F' : List α} {t t' : α} (h : F ++ [t] = F' ++ [t']) : F = F' ∧ t = t' := by
 have := List.append_inj' h rfl
 exact ⟨this.1, by simpa using this.2⟩
section
variable {gs : List Gr} {ats : List (Int × Int)} {R : List Reg} {σ : RSt} {k : Nat} {G : Gr}
theorem fl_enter {F : List FR} {t : FR} (hF : σ.fs = F ++ [t]) (hl : ∀ f ∈ F, f.g = k → ∀ B, G.b[f.b]? = some B → (actS none 0 B.s f.s).1 = none) (b : Nat) : FlI R k G (entR gs σ b) := by
 obtain ⟨a, ha⟩ := entR_eq (gs := gs) hF b
 rw [ha]
 refine ⟨fun F' t' h hk B hB p m hp => ?_, fun F' t' h f hf => ?_⟩
 ·obtain ⟨rfl, rfl⟩ := app_one h
  simp [actS] at hp
 ·obtain ⟨rfl, rfl⟩ := app_one h
  exact hl f hf
theorem begS_val (hF : σ.fs ≠ []) (v : Int) : valS (begS σ) v = valS σ v := by
 obtain ⟨F, t, h⟩ : ∃ F t, σ.fs = F ++ [t] := by
  cases hl : σ.fs.getLast? with
  | none => exact absurd (List.getLast?_eq_none_iff.1 hl) hF
  | some t => obtain ⟨F, h⟩ := List.getLast?_eq_some_iff.1 hl; exact ⟨F, t, h⟩
 unfold valS begS
 simp only [h, updT_app, List.getLast?_concat]
theorem begS_ev (hF : σ.fs ≠ []) (e : Ex) : evS R (begS σ) e = evS R σ e := by
 unfold evS
 rw [show valS (begS σ) = valS σ from funext (begS_val hF)]
 rfl
theorem step_fl (hp : PgOk gs ats) (hG : gs[k]? = some G) {n : Nat} (h : InvS gs n σ) (hst : σ.st = false) (hA : FlI R k G σ) (m : Nat) (h0 : (stepS gs ats R m σ).1 = 0) (h2 : (stepS gs ats R m σ).2.st = false) : FlI R k G (stepS gs ats R m σ).2 := by
 obtain ⟨hne, hfr⟩ := h.fr hst
 obtain ⟨t0, ht0⟩ : ∃ t0, σ.fs.getLast? = some t0 := by
  cases hl : σ.fs.getLast? with
  | none => exact absurd (List.getLast?_eq_none_iff.1 hl) hne
  | some t => exact ⟨t, rfl⟩
 obtain ⟨F, hF⟩ := List.getLast?_eq_some_iff.1 ht0
 obtain ⟨g, b, hg, hb, hs0⟩ := hfr t0 (by rw [hF]; simp)
 obtain ⟨s, hs⟩ : ∃ s, b.s[t0.s]? = some s := ⟨_, gEG hs0⟩
 have hgm := gMO hg
 have hbm := gMO hb
 have hsm := gMO hs
 have hse := st_op (hp.se g hgm b hbm s hsm)
 have hstep : stepS gs ats R m σ = doS gs ats R m (begS σ) s := by
  unfold stepS
  have : σ.fs.getLast?.bind (stmtAt gs) = some s := by rw [ht0]; simp [stmtAt, hg, hb, hs]
  rw [this]
 rw [hstep] at h0 h2 ⊢
 have hlow : ∀ f ∈ F, f.g = k → ∀ B, G.b[f.b]? = some B → (actS none 0 B.s f.s).1 = none := hA.low F t0 hF
 have hbv := begS_val hne
 have hbe := fun e => begS_ev (R := R) hne e
 obtain ⟨σ1, hσ1⟩ : ∃ σ1, begS σ = σ1 := ⟨_, rfl⟩
 have e1 : σ1.fs = F ++ [{ t0 with s := t0.s + 1 }] := by rw [← hσ1]; simp only [begS, hF, updT_app]
 rw [hσ1] at h0 h2 hbv ⊢
 rw [hσ1] at hbe
 have hkeep : s.op ≠ 5 → ∀ {σ2 : RSt}, (∃ T, σ2.fs = F ++ [{ t0 with s := t0.s + 1, t := T }]) → (∀ v, 0 ≤ v → ¬ ((s.op = 1 ∨ s.op = 3) ∧ v = s.va) → valS σ2 v = valS σ1 v) → (s.op = 1 → s.va < 12 → valS σ2 s.va = (evS R σ1 (exAt s 0)).1) → FlI R k G σ2 := by
  rintro h5 σ2 ⟨T, hT⟩ hv hn
  refine ⟨fun F' t' hf hk B hB p m hpm => ?_, fun F' t' hf f hfm => ?_⟩
  ·rw [hT] at hf
   obtain ⟨rfl, rfl⟩ := app_one hf
   simp only at hk hB hpm
   have hgG : g = G := by rw [hk, hG] at hg; exact (oSI hg).symm
   subst hgG
   have hbB : b = B := by rw [hb] at hB; exact oSI hB
   subst hbB
   exact act_step hs (hp.ex g hgm b hbm) (fun s hs => (st_op (hp.se g hgm b hbm s hs)).2.2.2.2.2) h.ok h5 (fun v q1 q2 => by rw [hv v q1 q2, hbv]) (fun q1 q2 => by rw [hn q1 q2, hbe]) (hA.top F t0 hF hk b hB) p m hpm
  ·rw [hT] at hf
   obtain ⟨rfl, rfl⟩ := app_one hf
   exact hlow f hfm
 have hset : ∀ (x n v : Int), 0 ≤ x → 0 ≤ v → v ≠ x → valS (setS σ1 x n) v = valS σ1 v := fun x n v q1 q2 q3 => valS_set e1 n q1 q2 q3
 unfold doS at h0 h2 ⊢
 by_cases o2 : s.op = 2
 ·rw [if_pos o2] at h0 h2 ⊢
  unfold storeS at h0 h2 ⊢
  split
  ·rw [if_pos ‹_›] at h0
   exact absurd h0 ‹_›
  rw [if_neg ‹_›] at h0
  split
  ·rw [if_pos ‹_›] at h0
   exact absurd h0 ‹_›
  exact hkeep (by omega) ⟨_, e1⟩ (fun v _ _ => rfl) (fun q => by omega)
 rw [if_neg o2] at h0 h2 ⊢
 by_cases o5 : s.op = 5
 ·rw [if_pos o5] at h0 h2 ⊢
  unfold callS at h0 h2 ⊢
  cases hl : lkL s.tg ats with
  | none => rw [hl] at h0; cases h0
  | some q =>
    rw [hl] at h0
    simp only at h0 ⊢
    split
    ·rw [if_pos ‹_›] at h0
     cases h0
    refine fl_enter (F := σ1.fs) (t := ⟨q.toNat, 0, 0, m, []⟩) rfl (fun f hf hk B hB => ?_) 0
    rw [e1] at hf
    rcases List.mem_append.1 hf with h1 | h1
    ·exact hlow f h1 hk B hB
    ·obtain rfl := List.mem_singleton.1 h1
     simp only at hk hB ⊢
     have hgG : g = G := by rw [hk, hG] at hg; exact (oSI hg).symm
     subst hgG
     have hbB : b = B := by rw [hb] at hB; exact oSI hB
     subst hbB
     exact act_call hs o5
 rw [if_neg o5] at h0 h2 ⊢
 by_cases o678 : s.op = 6 ∨ s.op = 7 ∨ s.op = 8
 ·rw [if_pos o678] at h0 h2 ⊢
  unfold jumpS at h0 h2 ⊢
  by_cases o6 : s.op = 6
  ·rw [if_pos o6]
   exact fl_enter e1 hlow _
  rw [if_neg o6] at h0 h2 ⊢
  split
  ·rw [if_pos ‹_›] at h0
   exact absurd h0 ‹_›
  rw [if_neg ‹_›] at h0
  by_cases o8 : s.op = 8
  ·rw [if_pos o8] at h0 ⊢
   split
   ·rw [if_pos ‹_›] at h0
    cases h0
   exact fl_enter e1 hlow _
  rw [if_neg o8]
  split
  ·exact fl_enter e1 hlow _
  ·exact fl_enter e1 hlow _
 rw [if_neg o678] at h0 h2 ⊢
 by_cases o9 : s.op = 9
 ·rw [if_pos o9] at h2 ⊢
  have hd : σ1.fs.dropLast = F := by rw [e1]; simp
  rw [hd] at h2 ⊢
  refine ⟨fun F' t' hf hk B hB p m hpm => ?_, fun F' t' hf f hfm => ?_⟩
  ·have hf : F = F' ++ [t'] := hf
   have := hlow t' (by rw [hf]; simp) hk B hB
   rw [hpm] at this
   cases this
  ·have hf : F = F' ++ [t'] := hf
   exact hlow f (by rw [hf]; exact List.mem_append_left _ hfm)
 rw [if_neg o9] at h0 h2 ⊢
 by_cases o10 : s.op = 10
 ·rw [if_pos o10] at h2
  cases h2
 rw [if_neg o10] at h0 h2 ⊢
 have hop : s.op = 1 ∨ s.op = 3 ∨ s.op = 4 := by omega
 have hva : 0 ≤ s.va := hse.2.2.2.1
 unfold plainS at h0 h2 ⊢
 by_cases o3 : s.op = 3
 ·rw [if_pos o3] at h0 h2 ⊢
  cases hi : σ1.inp with
  | nil => rw [hi] at h0; cases h0
  | cons n l =>
    simp only
    obtain ⟨T, hT⟩ := setS_fs e1 s.va n
    exact hkeep o5 ⟨T, hT⟩ (fun v q1 q2 => hset s.va n v hva q1 (fun e => q2 ⟨.inr o3, e⟩)) (fun q => by omega)
 rw [if_neg o3] at h0 h2 ⊢
 split
 ·rw [if_pos ‹_›] at h0
  cases h0
 rename_i h4
 rw [if_neg h4] at h0
 split
 ·rw [if_pos ‹_›] at h0
  exact absurd h0 ‹_›
 rw [if_neg ‹_›] at h0
 split
 ·rename_i o4
  exact hkeep o5 ⟨_, e1⟩ (fun v _ _ => rfl) (fun q => by omega)
 ·obtain ⟨T, hT⟩ := setS_fs e1 s.va (evS R σ1 (exAt s 0)).1
  exact hkeep o5 ⟨T, hT⟩ (fun v q1 q2 => hset s.va _ v hva q1 (fun e => q2 ⟨.inl (by omega), e⟩)) (fun _ q => valS_own σ1 _ q)
theorem fl_exp {p : Ex × Ex} {s : St} (hA : ActI R σ p.1 p.2 4) (hσ : RsOk σ) (i : Nat) : evS R σ (exAt (fuseSt p s) i) = evS R σ (exAt s i) := by
 unfold exAt fuseSt
 rw [List.getD_eq_getElem?_getD, List.getD_eq_getElem?_getD, List.getElem?_map]
 cases s.e[i]? with
 | none => rfl
 | some e => exact hA.fuse hσ e
theorem fl_ev {gs' : List Gr} {σ' : RSt} (hG : gs[k]? = some G) (hgs : gs' = gs.set k (blockG G)) {n : Nat} (h : InvS gs n σ) (hst : σ.st = false) (hA : FlI R k G σ) (hS : SimR Qid σ σ') (s s' : St) (h1 : σ.fs.getLast?.bind (stmtAt gs) = some s) (h2 : σ'.fs.getLast?.bind (stmtAt gs') = some s') (i : Nat) : evS R (begS σ) (exAt s' i) = evS R (begS σ) (exAt s i) := by
 obtain ⟨hne, hfr⟩ := h.fr hst
 rw [begS_ev hne, begS_ev hne]
 obtain ⟨t0, ht0⟩ : ∃ t0, σ.fs.getLast? = some t0 := by
  cases hl : σ.fs.getLast? with
  | none => exact absurd (List.getLast?_eq_none_iff.1 hl) hne
  | some t => exact ⟨t, rfl⟩
 obtain ⟨F, hF⟩ := List.getLast?_eq_some_iff.1 ht0
 have hs1 := hS.fs
 rw [hF] at hs1
 obtain ⟨F', t', hF', _, htt⟩ := hs1.last
 have htb : t'.b = t0.b := htt.b
 rw [ht0] at h1
 rw [hF', List.getLast?_concat] at h2
 simp only [Option.bind_some] at h1 h2
 unfold stmtAt at h1 h2
 rw [htt.g, htb, htt.s, hgs] at h2
 by_cases hk : t0.g = k
 ·have hkl := (gSI.1 hG).1
  rw [hk, gSS hkl] at h2
  rw [hk, hG] at h1
  simp only [Option.bind_some, blockG, List.getElem?_map] at h1 h2
  cases hB : G.b[t0.b]? with
  | none => rw [hB] at h1; cases h1
  | some B =>
    rw [hB] at h1 h2
    simp only [Option.bind_some, Option.map_some] at h1 h2
    rw [block_at B.s none 0 t0.s s h1] at h2
    have h2 := (oSI h2).symm
    obtain ⟨X, hX⟩ : ∃ X, actS none 0 B.s t0.s = X := ⟨_, rfl⟩
    have hT := hA.top F t0 hF hk B hB
    rw [hX] at h2 hT
    obtain ⟨a, m⟩ := X
    simp only at h2
    split at h2
    ·rename_i hm
     cases hmt : matchS (B.s.drop t0.s) with
     | some q => rw [hmt] at h2; rw [h2]
     | none =>
       rw [hmt] at h2
       cases a with
       | none => simp only at h2; rw [h2]
       | some p =>
         simp only at h2
         rw [h2]
         exact fl_exp (by have := hT p m rfl; rw [hm] at this; exact this) h.ok i
    ·rw [h2]
 ·rw [gSN (Ne.symm hk)] at h2
  rw [h1] at h2
  obtain rfl := oSI h2
  rfl
theorem pg_fl (hG : gs[k]? = some G) : PgSimE Qid gs (gs.set k (blockG G)) := by
 have hkl := (gSI.1 hG).1
 refine ⟨fun g b b' hQ G0 B h1 h2 => ?_, fun _ _ _ => rfl⟩
 have hQ : b' = b := hQ
 subst hQ
 by_cases hk : g = k
 ·subst hk
  rw [hG] at h1
  obtain rfl := oSI h1
  refine ⟨blockG G, ⟨B.ad, blockS none 0 B.s⟩, gSS hkl, by simp [blockG, h2], rfl, fun i s hs => ?_⟩
  have e1 := congrArg (fun l => l[i]?) (block_shape B.s none 0).1
  have hl : (blockS none 0 B.s).length = B.s.length := by simpa using congrArg List.length (block_shape B.s none 0).1
  obtain ⟨s', hs'⟩ : ∃ s', (blockS none 0 B.s)[i]? = some s' := ⟨_, gEG (by rw [hl]; exact (gSI.1 hs).1)⟩
  simp only [List.getElem?_map, hs, hs', Option.map_some, Option.some.injEq] at e1
  simp only [noE, St.mk.injEq] at e1
  obtain ⟨f1, f2, f3, f4, f5, f6, _, f8⟩ := e1
  refine ⟨s', hs', f1, f2, f3, f6, fun _ => ?_, fun _ => ?_, by rw [f8], fun _ _ => ?_⟩
  ·show s'.nx.toNat = s.nx.toNat
   rw [f4]
  ·show s'.el.toNat = s.el.toNat
   rw [f5]
  ·show (s'.cs.getD _ 0).toNat = (s.cs.getD _ 0).toNat
   rw [f8]
 ·exact ⟨G0, B, by rw [gSN (Ne.symm hk)]; exact h1, h2, rfl, fun i s hs => ⟨s, hs, rfl, rfl, rfl, rfl, fun _ => rfl, fun _ => rfl, rfl, fun _ _ => rfl⟩⟩
theorem run_fl (hp : PgOk gs ats) (hG : gs[k]? = some G) : ∀ (n j : Nat) {σ σ' : RSt}, InvS gs j σ → FlI R k G σ → SimR Qid σ σ' → (runS (gs.set k (blockG G)) ats R n σ').1 = (runS gs ats R n σ).1 ∧ SimR Qid (runS gs ats R n σ).2 (runS (gs.set k (blockG G)) ats R n σ').2
 | 0, j, σ, σ', hI, hA, h => by
   simp only [runS, h.st]
   split
   ·exact ⟨rfl, h⟩
   ·exact ⟨rfl, h⟩
 | n + 1, j, σ, σ', hI, hA, h => by
   simp only [runS, h.st]
   split
   ·exact ⟨rfl, h⟩
   rename_i hst
   have hst : σ.st = false := by simpa using hst
   obtain ⟨h1, h2⟩ := step_simE hp (pg_fl hG) hI hst h (R := R) 0 0 (fun s s' q1 q2 => fl_ev hG rfl hI hst hA h s s' q1 q2)
   rw [h1]
   split
   ·exact ⟨h1, h2⟩
   ·rename_i h0
    have h0 : (stepS gs ats R 0 σ).1 = 0 := by simpa using h0
    have hI2 := step_inv hp hI hst 0 h0
    cases hs2 : (stepS gs ats R 0 σ).2.st with
    | false => exact run_fl hp hG n (j + 1) hI2 (step_fl hp hG hI hst hA 0 h0 hs2) h2
    | true =>
      have hs3 := h2.st
      rw [hs2] at hs3
      cases n with
      | zero => simp only [runS, hs2, hs3]; exact ⟨rfl, h2⟩
      | succ n => simp only [runS, hs2, hs3]; exact ⟨rfl, h2⟩
end
theorem fused_ok {gs : List Gr} {k : Nat} {G : Gr} (hG : gs[k]? = some G) (hN : ∀ g ∈ gs, ∀ b ∈ g.b, ∀ s ∈ b.s, ∀ e ∈ s.e, OkN e) : ∀ b ∈ (blockG G).b, ∀ s ∈ b.s, ∀ e ∈ s.e, OkN e := by
 have key : ∀ (l : List St) (a : Option (Ex × Ex)) (k : Nat), (∀ s ∈ l, ∀ e ∈ s.e, OkN e) → (∀ p, a = some p → OkN p.1 ∧ OkN p.2) → ∀ s ∈ blockS a k l, ∀ e ∈ s.e, OkN e := by
  intro l
  induction l with
  | nil => intro a k _ _ s hs; cases k <;> simp [blockS] at hs
  | cons s l ih =>
    intro a k hl ha t ht
    have hl' : ∀ s ∈ l, ∀ e ∈ s.e, OkN e := fun s hs => hl s (by simp [hs])
    cases k with
    | succ k =>
      simp only [blockS, List.mem_cons] at ht
      rcases ht with rfl | ht
      ·exact hl t (by simp)
      ·exact ih a k hl' ha t ht
    | zero =>
      simp only [blockS] at ht
      split at ht
      ·rename_i p hp
       obtain ⟨sh, _, hall⟩ := match_sets hp
       obtain ⟨_, _, g3⟩ := hall 0 s (by omega) rfl
       have ho : OkN (eTwo 12 p.1 p.2) := hl s (by simp) _ (by rw [g3]; exact List.mem_singleton.2 rfl)
       rcases List.mem_cons.1 ht with rfl | ht
       ·exact hl t (by simp)
       ·exact ih (some p) 3 hl' (fun q hq => by cases hq; exact ⟨ho.l _ (by simp [eTwo]), ho.l _ (by simp [eTwo])⟩) t ht
      ·cases a with
       | none =>
         simp only at ht
         rcases List.mem_cons.1 ht with rfl | ht
         ·exact hl t (by simp)
         ·exact ih none 0 hl' (fun q hq => by cases hq) t ht
       | some p =>
         simp only at ht
         obtain ⟨g1, g2⟩ := ha p rfl
         rcases List.mem_cons.1 ht with rfl | ht
         ·intro e he
          simp only [fuseSt, List.mem_map] at he
          obtain ⟨y, hy, rfl⟩ := he
          exact okN_fuse g1 g2 y (hl s (by simp) y hy)
         ·refine ih _ 0 hl' (fun q hq => ?_) t ht
          split at hq
          ·cases hq
          ·cases hq
           exact ⟨g1, g2⟩
 intro b hb
 simp only [blockG, List.mem_map] at hb
 obtain ⟨b0, hb0, rfl⟩ := hb
 exact key b0.s none 0 (hN G (gMO hG) b0 hb0) (fun p hp => by cases hp)
theorem trc_fl {gs : List Gr} {ss : List Sec} {en : Int} {inp : List Int} (steps : Int) (h : prErr gs ss en = 0) (hN : ∀ g ∈ gs, ∀ b ∈ g.b, ∀ s ∈ b.s, ∀ e ∈ s.e, OkN e) (hin : ∀ n ∈ inp, R32 n) {k : Nat} {G : Gr} (hG : gs[k]? = some G) :
  (trcR (gs.set k (blockG G)) ss en inp steps).1 = (trcR gs ss en inp steps).1 ∧ (trcR (gs.set k (blockG G)) ss en inp steps).2.tr = (trcR gs ss en inp steps).2.tr ∧ (trcR (gs.set k (blockG G)) ss en inp steps).2.out = (trcR gs ss en inp steps).2.out ∧ (trcR (gs.set k (blockG G)) ss en inp steps).2.n = (trcR gs ss en inp steps).2.n := by
 have hp := pgOk_of h hN
 have hen := en_some h
 have hI := ini_inv (R := regL ss) hp hin hen 0
 obtain ⟨g0, b0, hg0, hb0⟩ := ini_at hp hen
 have had : (blockG G).ad = G.ad := rfl
 have hi0 : ini0 (gs.set k (blockG G)) (regL ss) en inp 0 = ini0 gs (regL ss) en inp 0 := by unfold ini0; rw [atN_set hG had, List.length_set]
 have hs0 : SimR Qid (entR gs (ini0 gs (regL ss) en inp 0) 0) (entR (gs.set k (blockG G)) (ini0 gs (regL ss) en inp 0) 0) :=
  SimR.entRE (pg_fl hG) (σ := ini0 gs (regL ss) en inp 0) (σ' := ini0 gs (regL ss) en inp 0) (F := []) (t := ⟨((lkL en (atN gs gs.length)).getD 0).toNat, 0, 0, 0, []⟩) ⟨rfl, rfl, rfl, rfl, rfl, rfl, rfl, ⟨⟨rfl, rfl, rfl, rfl⟩, trivial⟩⟩ rfl hg0 hb0 rfl
 have hA : FlI (regL ss) k G (entR gs (ini0 gs (regL ss) en inp 0) 0) := fl_enter (F := []) (t := ⟨((lkL en (atN gs gs.length)).getD 0).toNat, 0, 0, 0, []⟩) rfl (fun f hf => by cases hf) 0
 unfold trcR
 rw [hi0, atN_set hG had, List.length_set]
 obtain ⟨r1, r2⟩ := run_fl hp hG (stepsN steps) 0 hI hA hs0
 exact ⟨r1, r2.tr, r2.out, r2.n⟩
set_option maxRecDepth 100000 in
theorem lawsame23_af (gs : List Gr) (ss : List Sec) (en : Int) (k : Int) (inp : List Int) (steps : Int) (hgm : gs.length ≤ maxLen) (him : inp.length ≤ maxLen) (hN : ∀ g ∈ gs, ∀ b ∈ g.b, ∀ s ∈ b.s, ∀ e ∈ s.e, OkN e) (hin : ∀ n ∈ inp, R32 n)
  (hs : ∀ s ∈ ss, (0 ≤ s.ad ∧ s.ad < 4294967296) ∧ s.da.length ≤ maxLen ∧ s.nm.size ≤ maxLen) : AF Tryz.prog 3 [prV gs ss en, aI .i64 k, .d (.sl 1 (u32d inp)), aI .i64 steps] (aB true) := by
 have hx := ex23_af
 have hL20 := l20largeE_af gs ss en steps (fun s h => (hs s h).2.1)
 unfold prV at hL20 ⊢
 refine af_of Tryz.func3 rfl (by kernel_rfl) (by simp [Tryz.ntmps3]) fun _ => ?_; simp [Tryz.f3, Ex.d_eq]
 by_cases hk0 : k < 0
 ·simp [hk0]
  refine aCall_of hx (by kernel_rfl) (by simp) ?_
  simp
 by_cases hk1 : (gs.length : Int) ≤ k
 ·simp [hk0, hk1]
  refine aCall_of hx (by kernel_rfl) (by simp) ?_
  simp
 by_cases hk2 : 20 < gs.length
 ·simp [hk0, hk1, show (20 : Int) < gs.length by omega]
  refine aCall_of hx (by kernel_rfl) (by simp) ?_
  simp
 obtain ⟨n, rfl⟩ : ∃ n : Nat, k = n := ⟨k.toNat, by omega⟩
 have hnl : n < gs.length := by omega
 obtain ⟨g, hg⟩ : ∃ g, gs[n]? = some g := ⟨_, gEG hnl⟩
 have hg2 := (gSI.1 hg).2
 have hgm2 := gMO hg
 simp [hk0, hk1, show ¬ (20 : Int) < gs.length by omega, hg, hg2, hnl, Gr.d_eq]
 by_cases h40 : 40 < g.b.length
 ·simp [show (40 : Int) < g.b.length by omega]
  refine aCall_of hx (by kernel_rfl) (by simp) ?_
  simp
 by_cases hk3 : 600 < steps
 ·simp [show ¬ (40 : Int) < g.b.length by omega, hk3]
  refine aCall_of hx (by kernel_rfl) (by simp) ?_
  simp
 by_cases hk4 : 1000 < inp.length
 ·simp [show ¬ (40 : Int) < g.b.length by omega, hk3, show (1000 : Int) < inp.length by omega]
  refine aCall_of hx (by kernel_rfl) (by simp) ?_
  simp
 simp [show ¬ (40 : Int) < g.b.length by omega, hk3, show ¬ (1000 : Int) < inp.length by omega]
 refine aCall_of hL20 (by kernel_rfl) (by simp) ?_
 cases h20 : lrg20 gs ss steps with
 | true =>
   simp
   refine aCall_of hx (by kernel_rfl) (by simp) ?_
   simp
 | false =>
 obtain ⟨hgfit, hsd⟩ := lrg20_ok h20
 have hsfit : ∀ s ∈ ss, SecFit s := fun s h => ⟨(hs s h).1, hsd s h, (hs s h).2.2⟩
 have hck := ichk_af gs ss en hgfit hsfit
 unfold prV at hck
 simp
 refine aCall_of hck (by kernel_rfl) (by simp) ?_
 by_cases hpe : prErr gs ss en = 0
 case neg =>
  simp [hpe]
  refine aCall_of hx (by kernel_rfl) (by simp) ?_
  simp
 simp [hpe]
 obtain ⟨f1, f2⟩ := fit_len (hgfit g hgm2)
 refine aLoop_st (fun i : Nat => [(1, aI .i64 n), (2, .d (.sl 1 (u32d inp))), (3, aI .i64 steps), (4, .ptr 0 0 0 0), (9, aI .i64 i)]) (fun _ => [pgB gs ss en])
  (fun i => i ≤ g.b.length ∧ ∀ j b, j < i → g.b[j]? = some b → largeB b = false) (fun i => g.b.length - i) 0 (Sub.refl _ _ _) 1 (by omega) (by simp [clnB, clnE, cln]) (by simp [cln]) ⟨by omega, by intro j b hj; omega⟩ ?_
 rintro i ⟨hi, hall⟩ K hK
 rcases Nat.lt_or_ge i g.b.length with hlt | hge
 case inl =>
  obtain ⟨b, hb⟩ : ∃ b, g.b[i]? = some b := ⟨_, gEG hlt⟩
  have hb2 := (gSI.1 hb).2
  obtain ⟨g1, g2⟩ := f2 b (gMO hb)
  have cl := large_af b g1 fun s hs => (g2 s hs).1
  simp [hg, hg2, hnl, Gr.d_eq, hlt, hb, hb2, Bl.d_eq]
  cases hlg : largeB b <;> rw [hlg] at cl
  ·refine aCall_of cl (by kernel_rfl) (by simp) ?_
   simp [succ_wrap hlt f1]
   refine hK (i + 1) ⟨by omega, fun j b' hj hb' => ?_⟩ (by omega) (Sub.refl _ _ _) 1 (by omega) (by simp [clnB, clnE, cln]) (by simp [cln])
   rcases Nat.lt_or_ge j i with h | h
   ·exact hall j b' h hb'
   ·obtain rfl : j = i := by omega
    rw [hb] at hb'
    obtain rfl := oSI hb'
    exact hlg
  ·refine aCall_of cl (by kernel_rfl) (by simp) ?_
   simp
   refine aCall_of hx (by kernel_rfl) (by simp) ?_
   simp
 have hsm : GrSmall g := large_gr (by omega) (fun b hb => by
  obtain ⟨j, hj⟩ := List.getElem?_of_mem hb
  exact hall j b (by have := (gSI.1 hj).1; omega) hj) (fun b hb s hs => ((hgfit g hgm2).2 b hb).2 s hs |>.2)
 obtain rfl : i = g.b.length := by omega
 clear hK
 have hS := ffgraph_af g hsm
 obtain ⟨_, hgl64, hgr, _⟩ := prErr_gr hpe
 have hge0 := gr1_ok (hgr n g hg)
 have hGerr := blockG_err hge0
 have hGfit := blockG_fit hsm
 have hTr := trc_fl (inp := inp) steps hpe hN hin hg
 have hNf := fused_ok hg hN
 have hGad : (blockG g).ad = g.ad := rfl
 unfold fusA at hS
 rw [if_pos hge0] at hS
 simp [hg, hg2, hnl, Gr.d_eq]
 by_cases hd : deepG (blockG g).b = true
 ·rw [if_pos hd] at hS
  refine aCall_of hS (by kernel_rfl) (by simp) ?_
  simp
  refine aCall_of hx (by kernel_rfl) (by simp) ?_
  simp
 rw [if_neg hd] at hS hGerr
 obtain ⟨G, hG⟩ : ∃ G, blockG g = G := ⟨_, rfl⟩
 rw [hG] at hS hGerr hGfit hTr hNf hGad
 refine aCall_of hS (by kernel_rfl) (by simp) ?_
 simp
 have hdE : ∀ l : List Gr, List.map (fun x => List.map (cln 4) x) (dEls (grs l)) = dEls (grs l) := fun l => map_fix.2 fun x hx => map_fix.2 fun c hc => by
  obtain ⟨y, _, rfl⟩ := List.mem_map.1 hx
  obtain ⟨z, _, rfl⟩ := List.mem_map.1 hc
  rfl
 have dE1 : ∀ x : Gr, dEls (grs [x]) = [[.d (.v (.int .u32 x.ad)), .d (.sl 2 (bls' x.b))]] := fun x => rfl
 have hst : ∀ e, Sub 0 e [pgB gs ss en, grB G, ⟨0, true, 26, 3, [[.d (.v (.slice none 0 0)), .d (.sl 5 (secs ss)), aI .u32 en]]⟩] e [pgB gs ss en, grB G, qPB ss en 0, gsPB 0 []] := fun e => by
  have g1 := Sub.ghost (n := 0) (e := e) 0 30 2 (A := [pgB gs ss en, grB G, ⟨0, true, 26, 3, [[.d (.v (.slice none 0 0)), .d (.sl 5 (secs ss)), aI .u32 en]]⟩])
  have g2 := Sub.cell (n := 0) (e := e) (A := [pgB gs ss en, grB G, ⟨0, true, 26, 3, [[.d (.v (.slice none 0 0)), .d (.sl 5 (secs ss)), aI .u32 en]]⟩, ⟨0, true, 30, 2, []⟩]) (b := 2) (i := 0) (o := 0) rfl rfl rfl (VLe.nil_own (b := 3) (ver := 0) (k := ⟨0, true, 30, 2, []⟩) rfl rfl)
  exact g1.trans g2
 refine aLoop_st (fun i : Nat => [(1, aI .i64 n), (2, .d (.sl 1 (u32d inp))), (3, aI .i64 steps), (4, .ptr 0 0 0 0), (10, .ptr 1 0 0 0), (12, .ptr 2 0 0 0), (13, aI .i64 i)]) (fun i => [pgB gs ss en, grB G, qPB ss en i, gsPB i ((gs.set n G).take i)]) (fun i => i ≤ gs.length) (fun i => gs.length - i) 0 (hst _) 4 (by omega) (by simp [clnB, clnE, cln]; rfl) (by simp [cln]) (by omega) ?_
 clear hst
 rintro i hi K hK
 rcases Nat.lt_or_ge i gs.length with hlt | hge
 case inl =>
  obtain ⟨gi, hgi⟩ : ∃ gi, gs[i]? = some gi := ⟨_, gEG hlt⟩
  have hgi2 := (gSI.1 hgi).2
  have htl : ((gs.set n G).take i).length = i := by simp; omega
  by_cases hin' : i = n
  ·subst hin'
   simp [hlt, hgi, hgi2, hg, hg2, Gr.d_eq, htl]
   refine aRaw_app byt_22 ?_
   simp [htl]
   refine ⟨by unfold maxLen; omega, by omega, ?_⟩
   have htk : (gs.set i G).take (i + 1) = (gs.set i G).take i ++ [G] := by rw [List.take_add_one, gSS hlt]; rfl
   simp [htl, succ_wrap hlt hgm]
   refine hK (i + 1) (by omega) (by omega) (Sub.refl _ _ _) 4 (by omega) ?_ (by simp [cln])
   rw [htk]
   simp [clnB, clnE, cln, grs_app, Gr.d_eq, hdE, dE1]
  ·simp [hlt, hgi, hgi2, Gr.d_eq, show ¬ ((i : Int) = n) by omega, htl]
   refine adraw3 8 255 [] (by kernel_rfl) rfl byt_22 (by kernel_rfl) (by kernel_rfl) (by kernel_rfl) (by kernel_rfl) (by kernel_rfl) ?_
   simp [hlt, hgi, hgi2, Gr.d_eq, htl]
   refine ⟨by simp [stabL_cons, stab1], ?_⟩
   try simp [hlt, hgi, hgi2, Gr.d_eq, htl]
   refine ⟨by unfold maxLen; omega, by omega, ?_⟩
   have htk : (gs.set n G).take (i + 1) = (gs.set n G).take i ++ [gi] := by rw [List.take_add_one, gSN (Ne.symm hin'), hgi]; rfl
   simp [htl, succ_wrap hlt hgm]
   refine hK (i + 1) (by omega) (by omega) (Sub.refl _ _ _) 4 (by omega) ?_ (by simp [cln])
   rw [htk]
   simp [clnB, clnE, cln, grs_app, Gr.d_eq, hdE, dE1]
 obtain rfl : i = gs.length := by omega
 clear hK
 have hGg : ∀ x ∈ gs.set n G, x = G ∨ x ∈ gs := fun x hx => (List.mem_or_eq_of_mem_set hx).symm
 have hT1 := itrace_af gs ss en inp steps hgfit hsfit hpe (by omega) hin (pgOk_of hpe hN) (en_some hpe)
 have hpe2 := prErr_set hpe hg hGad hGerr
 have hN2 : ∀ x ∈ gs.set n G, ∀ b ∈ x.b, ∀ s ∈ b.s, ∀ e ∈ s.e, OkN e := fun x hx => by
  rcases hGg x hx with rfl | h
  ·exact hNf
  ·exact hN x h
 have hT2 := itrace_af (gs.set n G) ss en inp steps (fun x hx => by
  rcases hGg x hx with rfl | h
  ·exact hGfit
  ·exact hgfit x h) hsfit hpe2 (by omega) hin (pgOk_of hpe2 hN2) (en_some hpe2)
 obtain ⟨s1, s2, s3, s4⟩ := hTr
 obtain ⟨l1, l2⟩ := trcR_len gs ss en inp steps
 obtain ⟨X, hX⟩ : ∃ X, trcR gs ss en inp steps = X := ⟨_, rfl⟩
 obtain ⟨Y, hY⟩ : ∃ Y, trcR (gs.set n G) ss en inp steps = Y := ⟨_, rfl⟩
 rw [hX] at hT1 s1 s2 s3 s4 l1 l2
 rw [hY] at hT2 s1 s2 s3 s4
 unfold viewS at hT1 hT2
 rw [s1, s2, s3, s4] at hT2
 unfold prV at hT1 hT2
 have hsm := r20sameres_af X.1 X.2.n X.2.out l2
 clear hX hY s1 s2 s3 s4
 obtain ⟨er, σX⟩ := X
 simp only at hT1 hT2 l1 l2 hsm
 have htake : List.take gs.length (gs.set n G) = gs.set n G := List.take_of_length_le (by simp)
 simp [htake]
 refine aCall_of hT1 (by kernel_rfl) (by simp) ?_
 simp
 refine aCall_ofz [3] hT2 (by kernel_rfl) (by simp [frz, htake]) ?_
 simp [frz]
 refine aCall_of hsm (by kernel_rfl) (by simp) ?_
 simp
 refine aLoop_st (fun i : Nat => [(14, .d (.sl 1 (u32d σX.tr))), (16, .d (.sl 1 (u32d σX.tr))), (18, aI .i64 i)]) (fun _ => []) (fun i => i ≤ σX.tr.length) (fun i => σX.tr.length - i) 0 (Sub.refl _ _ _) 0 (by omega) (by simp) (by simp [cln]) (by omega) ?_
 rintro i hi K hK
 rcases Nat.lt_or_ge i σX.tr.length with hlt | hge
 case inl =>
  obtain ⟨y, hy⟩ : ∃ y, σX.tr[i]? = some y := ⟨_, gEG hlt⟩
  have hy2 := (gSI.1 hy).2
  simp [hlt, hy, hy2]
  refine adraw [] (by kernel_rfl) (by kernel_rfl) (by kernel_rfl) (by kernel_rfl) ?_
  simp [hlt, hy, hy2, succ_wrap hlt l1]
  exact hK (i + 1) (by omega) (by omega) (Sub.refl _ _ _) 0 (by omega) (by simp) (by simp [cln])
 obtain rfl : i = σX.tr.length := by omega
 simp
 refine aCall_of hx (by kernel_rfl) (by simp) ?_
 simp
end Go.Proofs.YtplbaolbaniioaaGreatDoor
