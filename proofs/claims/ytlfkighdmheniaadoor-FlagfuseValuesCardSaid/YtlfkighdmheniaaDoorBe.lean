/- Contracts: the conditions and the flag expressions (printed by gen_be.py). -/
import Derived.Test.YtlfkighdmheniaaDoorBd
namespace Go.Proofs.YtlfkighdmheniaaDoor
open Go.RowKit
theorem rover_af (a b : Ex) : AF Tryd.prog 49 [exA a, exA b] (exA (eOver a b)) := by
  refine af_of Tryd.func49 rfl (by kernel_rfl) (by simp [Tryd.ntmps49]) fun _ => ?_
  simp [Tryd.f49]
  refine adraw [] (by kernel_rfl) (by kernel_rfl) (by kernel_rfl) (by kernel_rfl) ?_
  simp
  refine adC_of (rtwo_af 14 a b) (by simp) trivial (by simp) (by simp) ?_
  simp
  refine adC_of (rtwo_af 4 a b) (by simp) trivial (by simp) (by simp) ?_
  simp
  refine adC_of (rcon_af 0) (by simp) trivial (by simp) (by simp) ?_
  simp
  refine adC_of (rtwo_af 14 (eTwo 4 a b) (eCon 0)) (by simp) trivial (by simp) (by simp) ?_
  simp
  refine adC_of (rtwo_af 8 (eTwo 14 a b) (eMinus a b)) (by simp) trivial (by simp) (by simp) ?_
  simp
/-- The comparison of a condition. -/
def condE (cc : Int) (a b : Ex) : Ex :=
  if cc = 0 then eCon 1 else
  if cc = 1 then eTwo 12 a b else
  if cc = 2 then eTwo 13 a b else
  if cc = 3 then eTwo 14 a b else
  if cc = 4 then eNot (eTwo 14 a b) else
  if cc = 5 then eNot (eTwo 14 b a) else
  if cc = 6 then eTwo 14 b a else
  if cc = 7 then eTwo 15 a b else
  if cc = 8 then eNot (eTwo 15 a b) else
  if cc = 9 then eNot (eTwo 15 b a) else
  if cc = 10 then eTwo 15 b a else
  if cc = 11 then eMinus a b else
  if cc = 12 then eNot (eMinus a b) else
  if cc = 13 then eOver a b else
  if cc = 14 then eNot (eOver a b) else
  eCon 0
theorem cond_af (cc : Int) (a b : Ex) (ha : a.nodes ≤ 100000000) (hb : b.nodes ≤ 100000000) : AF Tryd.prog 15 [aI .i64 cc, exA a, exA b] (exA (condE cc a b)) := by
  refine af_of Tryd.func15 rfl (by kernel_rfl) (by simp [Tryd.ntmps15]) fun _ => ?_
  obtain ⟨E, hE⟩ : ∃ E, condE cc a b = E := ⟨_, rfl⟩
  rw [hE]
  simp [Tryd.f15]
  refine aCond_split (fun h0 => ?_) (fun h0 => ?_)
  · simp at h0
    obtain rfl : E = eCon 1 := by rw [← hE, h0]; rfl
    simp
    refine aCall_of (const_af 1) (by simp) (by simp) ?_
    simp
  simp at h0
  simp
  refine aCond_split (fun h1 => ?_) (fun h1 => ?_)
  · simp at h1
    obtain rfl : E = eTwo 12 a b := by rw [← hE, h1]; rfl
    simp
    refine aCall_of (two_af 12 a b (by omega) (by omega)) (by simp) (by simp) ?_
    simp
  simp at h1
  simp
  refine aCond_split (fun h2 => ?_) (fun h2 => ?_)
  · simp at h2
    obtain rfl : E = eTwo 13 a b := by rw [← hE, h2]; rfl
    simp
    refine aCall_of (two_af 13 a b (by omega) (by omega)) (by simp) (by simp) ?_
    simp
  simp at h2
  simp
  refine aCond_split (fun h3 => ?_) (fun h3 => ?_)
  · simp at h3
    obtain rfl : E = eTwo 14 a b := by rw [← hE, h3]; rfl
    simp
    refine aCall_of (less_af a b (by omega) (by omega)) (by simp) (by simp) ?_
    simp
  simp at h3
  simp
  refine aCond_split (fun h4 => ?_) (fun h4 => ?_)
  · simp at h4
    obtain rfl : E = eNot (eTwo 14 a b) := by rw [← hE, h4]; rfl
    simp
    refine aCall_of (less_af a b (by omega) (by omega)) (by simp) (by simp) ?_
    simp
    refine aCall_of (not_af (eTwo 14 a b)) (by simp) (by simp) ?_
    simp
  simp at h4
  simp
  refine aCond_split (fun h5 => ?_) (fun h5 => ?_)
  · simp at h5
    obtain rfl : E = eNot (eTwo 14 b a) := by rw [← hE, h5]; rfl
    simp
    refine aCall_of (less_af b a (by omega) (by omega)) (by simp) (by simp) ?_
    simp
    refine aCall_of (not_af (eTwo 14 b a)) (by simp) (by simp) ?_
    simp
  simp at h5
  simp
  refine aCond_split (fun h6 => ?_) (fun h6 => ?_)
  · simp at h6
    obtain rfl : E = eTwo 14 b a := by rw [← hE, h6]; rfl
    simp
    refine aCall_of (less_af b a (by omega) (by omega)) (by simp) (by simp) ?_
    simp
  simp at h6
  simp
  refine aCond_split (fun h7 => ?_) (fun h7 => ?_)
  · simp at h7
    obtain rfl : E = eTwo 15 a b := by rw [← hE, h7]; rfl
    simp
    refine aCall_of (below_af a b (by omega) (by omega)) (by simp) (by simp) ?_
    simp
  simp at h7
  simp
  refine aCond_split (fun h8 => ?_) (fun h8 => ?_)
  · simp at h8
    obtain rfl : E = eNot (eTwo 15 a b) := by rw [← hE, h8]; rfl
    simp
    refine aCall_of (below_af a b (by omega) (by omega)) (by simp) (by simp) ?_
    simp
    refine aCall_of (not_af (eTwo 15 a b)) (by simp) (by simp) ?_
    simp
  simp at h8
  simp
  refine aCond_split (fun h9 => ?_) (fun h9 => ?_)
  · simp at h9
    obtain rfl : E = eNot (eTwo 15 b a) := by rw [← hE, h9]; rfl
    simp
    refine aCall_of (below_af b a (by omega) (by omega)) (by simp) (by simp) ?_
    simp
    refine aCall_of (not_af (eTwo 15 b a)) (by simp) (by simp) ?_
    simp
  simp at h9
  simp
  refine aCond_split (fun h10 => ?_) (fun h10 => ?_)
  · simp at h10
    obtain rfl : E = eTwo 15 b a := by rw [← hE, h10]; rfl
    simp
    refine aCall_of (below_af b a (by omega) (by omega)) (by simp) (by simp) ?_
    simp
  simp at h10
  simp
  refine aCond_split (fun h11 => ?_) (fun h11 => ?_)
  · simp at h11
    obtain rfl : E = eMinus a b := by rw [← hE, h11]; rfl
    simp
    refine aCall_of (minus_af a b (by omega) (by omega)) (by simp) (by simp) ?_
    simp
  simp at h11
  simp
  refine aCond_split (fun h12 => ?_) (fun h12 => ?_)
  · simp at h12
    obtain rfl : E = eNot (eMinus a b) := by rw [← hE, h12]; rfl
    simp
    refine aCall_of (minus_af a b (by omega) (by omega)) (by simp) (by simp) ?_
    simp
    refine aCall_of (not_af (eMinus a b)) (by simp) (by simp) ?_
    simp
  simp at h12
  simp
  refine aCond_split (fun h13 => ?_) (fun h13 => ?_)
  · simp at h13
    obtain rfl : E = eOver a b := by rw [← hE, h13]; rfl
    simp
    refine aCall_of (over_af a b (by omega) (by omega)) (by simp) (by simp) ?_
    simp
  simp at h13
  simp
  refine aCond_split (fun h14 => ?_) (fun h14 => ?_)
  · simp at h14
    obtain rfl : E = eNot (eOver a b) := by rw [← hE, h14]; rfl
    simp
    refine aCall_of (over_af a b (by omega) (by omega)) (by simp) (by simp) ?_
    simp
    refine aCall_of (not_af (eOver a b)) (by simp) (by simp) ?_
    simp
  simp at h14
  simp
  obtain rfl : E = eCon 0 := by rw [← hE]; simp [condE, h0, h1, h2, h3, h4, h5, h6, h7, h8, h9, h10, h11, h12, h13, h14]
  refine aCall_of (const_af 0) (by simp) (by simp) ?_
  simp
theorem rcond_af (cc : Int) (a b : Ex) : AF Tryd.prog 16 [aI .i64 cc, exA a, exA b] (exA (condE cc a b)) := by
  refine af_of Tryd.func16 rfl (by kernel_rfl) (by simp [Tryd.ntmps16]) fun _ => ?_
  obtain ⟨E, hE⟩ : ∃ E, condE cc a b = E := ⟨_, rfl⟩
  rw [hE]
  simp [Tryd.f16]
  refine aCond_split (fun h0 => ?_) (fun h0 => ?_)
  · simp at h0
    obtain rfl : E = eCon 1 := by rw [← hE, h0]; rfl
    simp
    refine aCall_of (rcon_af 1) (by simp) (by simp) ?_
    simp
  simp at h0
  simp
  refine aCond_split (fun h1 => ?_) (fun h1 => ?_)
  · simp at h1
    obtain rfl : E = eTwo 12 a b := by rw [← hE, h1]; rfl
    simp
    refine aCall_of (rtwo_af 12 a b) (by simp) (by simp) ?_
    simp
  simp at h1
  simp
  refine aCond_split (fun h2 => ?_) (fun h2 => ?_)
  · simp at h2
    obtain rfl : E = eTwo 13 a b := by rw [← hE, h2]; rfl
    simp
    refine aCall_of (rtwo_af 13 a b) (by simp) (by simp) ?_
    simp
  simp at h2
  simp
  refine aCond_split (fun h3 => ?_) (fun h3 => ?_)
  · simp at h3
    obtain rfl : E = eTwo 14 a b := by rw [← hE, h3]; rfl
    simp
    refine aCall_of (rtwo_af 14 a b) (by simp) (by simp) ?_
    simp
  simp at h3
  simp
  refine aCond_split (fun h4 => ?_) (fun h4 => ?_)
  · simp at h4
    obtain rfl : E = eNot (eTwo 14 a b) := by rw [← hE, h4]; rfl
    simp
    refine aCall_of (rtwo_af 14 a b) (by simp) (by simp) ?_
    simp
    refine aCall_of (rnot_af (eTwo 14 a b)) (by simp) (by simp) ?_
    simp
  simp at h4
  simp
  refine aCond_split (fun h5 => ?_) (fun h5 => ?_)
  · simp at h5
    obtain rfl : E = eNot (eTwo 14 b a) := by rw [← hE, h5]; rfl
    simp
    refine aCall_of (rtwo_af 14 b a) (by simp) (by simp) ?_
    simp
    refine aCall_of (rnot_af (eTwo 14 b a)) (by simp) (by simp) ?_
    simp
  simp at h5
  simp
  refine aCond_split (fun h6 => ?_) (fun h6 => ?_)
  · simp at h6
    obtain rfl : E = eTwo 14 b a := by rw [← hE, h6]; rfl
    simp
    refine aCall_of (rtwo_af 14 b a) (by simp) (by simp) ?_
    simp
  simp at h6
  simp
  refine aCond_split (fun h7 => ?_) (fun h7 => ?_)
  · simp at h7
    obtain rfl : E = eTwo 15 a b := by rw [← hE, h7]; rfl
    simp
    refine aCall_of (rtwo_af 15 a b) (by simp) (by simp) ?_
    simp
  simp at h7
  simp
  refine aCond_split (fun h8 => ?_) (fun h8 => ?_)
  · simp at h8
    obtain rfl : E = eNot (eTwo 15 a b) := by rw [← hE, h8]; rfl
    simp
    refine aCall_of (rtwo_af 15 a b) (by simp) (by simp) ?_
    simp
    refine aCall_of (rnot_af (eTwo 15 a b)) (by simp) (by simp) ?_
    simp
  simp at h8
  simp
  refine aCond_split (fun h9 => ?_) (fun h9 => ?_)
  · simp at h9
    obtain rfl : E = eNot (eTwo 15 b a) := by rw [← hE, h9]; rfl
    simp
    refine aCall_of (rtwo_af 15 b a) (by simp) (by simp) ?_
    simp
    refine aCall_of (rnot_af (eTwo 15 b a)) (by simp) (by simp) ?_
    simp
  simp at h9
  simp
  refine aCond_split (fun h10 => ?_) (fun h10 => ?_)
  · simp at h10
    obtain rfl : E = eTwo 15 b a := by rw [← hE, h10]; rfl
    simp
    refine aCall_of (rtwo_af 15 b a) (by simp) (by simp) ?_
    simp
  simp at h10
  simp
  refine aCond_split (fun h11 => ?_) (fun h11 => ?_)
  · simp at h11
    obtain rfl : E = eMinus a b := by rw [← hE, h11]; rfl
    simp
    refine aCall_of (rtwo_af 4 a b) (by simp) (by simp) ?_
    simp
    refine aCall_of (rcon_af 0) (by simp) (by simp) ?_
    simp
    refine aCall_of (rtwo_af 14 (eTwo 4 a b) (eCon 0)) (by simp) (by simp) ?_
    simp
  simp at h11
  simp
  refine aCond_split (fun h12 => ?_) (fun h12 => ?_)
  · simp at h12
    obtain rfl : E = eNot (eMinus a b) := by rw [← hE, h12]; rfl
    simp
    refine aCall_of (rtwo_af 4 a b) (by simp) (by simp) ?_
    simp
    refine aCall_of (rcon_af 0) (by simp) (by simp) ?_
    simp
    refine aCall_of (rtwo_af 14 (eTwo 4 a b) (eCon 0)) (by simp) (by simp) ?_
    simp
    refine aCall_of (rnot_af (eMinus a b)) (by simp) (by simp) ?_
    simp
  simp at h12
  simp
  refine aCond_split (fun h13 => ?_) (fun h13 => ?_)
  · simp at h13
    obtain rfl : E = eOver a b := by rw [← hE, h13]; rfl
    simp
    refine aCall_of (rover_af a b) (by simp) (by simp) ?_
    simp
  simp at h13
  simp
  refine aCond_split (fun h14 => ?_) (fun h14 => ?_)
  · simp at h14
    obtain rfl : E = eNot (eOver a b) := by rw [← hE, h14]; rfl
    simp
    refine aCall_of (rover_af a b) (by simp) (by simp) ?_
    simp
    refine aCall_of (rnot_af (eOver a b)) (by simp) (by simp) ?_
    simp
  simp at h14
  simp
  obtain rfl : E = eCon 0 := by rw [← hE]; simp [condE, h0, h1, h2, h3, h4, h5, h6, h7, h8, h9, h10, h11, h12, h13, h14]
  refine aCall_of (rcon_af 0) (by simp) (by simp) ?_
  simp
/-- The flag expression of a condition. -/
def flagE : Nat → Ex
  | 0 => eCon 1
  | 1 => eVar 8
  | 2 => eNot (eVar 8)
  | 3 => eTwo 8 (eVar 9) (eVar 11)
  | 4 => eNot (eTwo 8 (eVar 9) (eVar 11))
  | 5 => eTwo 7 (eVar 8) (eTwo 8 (eVar 9) (eVar 11))
  | 6 => eNot (eTwo 7 (eVar 8) (eTwo 8 (eVar 9) (eVar 11)))
  | 7 => eVar 10
  | 8 => eNot (eVar 10)
  | 9 => eTwo 7 (eVar 10) (eVar 8)
  | 10 => eNot (eTwo 7 (eVar 10) (eVar 8))
  | 11 => eVar 9
  | 12 => eNot (eVar 9)
  | 13 => eVar 11
  | 14 => eNot (eVar 11)
  | _ => eCon 0
end Go.Proofs.YtlfkighdmheniaaDoor
