/- Contracts: il.Print at the example's expression; the law's example; FlagfuseConditions. -/
import Derived.Test.YtlfkighdmheniaaDoorDa
import Derived.Test.YtlfkighdmheniaaDoorBg
namespace Go.Proofs.YtlfkighdmheniaaDoor
open Go.RowKit
theorem varname_af (v : Nat) (h : v < 8) : AF Tryd.prog 108 [aI .i64 v] (aS (cat [⟨#[114]⟩, ⟨(Lib.decDigits v).toArray⟩])) := by
  refine af_of Tryd.func108 rfl (by kernel_rfl) (by simp [Tryd.ntmps108]) fun _ => ?_
  simp [Tryd.f108, show (v : Int) < 8 by omega]
  refine aCall_of (itoa_af v (by omega)) (by simp) (by simp) ?_
  simp
  refine aCall_ofs (iljoin_af [⟨#[114]⟩, ⟨(Lib.decDigits v).toArray⟩] ?_ (by simp)) (by simp) (by simp) (by simp) ?_
  · have : Lib.decDigits v = [UInt8.ofNat (48 + v)] := by rw [Lib.decDigits]; simp; omega
    simp [this]
  simp
theorem text_var (v : Nat) (h : v < 8) : AF Tryd.prog 71 [exA (eVar v)] (aS (cat [⟨#[114]⟩, ⟨(Lib.decDigits v).toArray⟩])) := by
  refine af_of Tryd.func71 rfl (by kernel_rfl) (by simp [Tryd.ntmps71]) fun _ => ?_
  simp [Tryd.f71]
  refine aCall_of (varname_af v h) (by simp) (by simp) ?_
  simp
theorem text_not {a : Ex} {s : ByteArray} (ha : AF Tryd.prog 71 [exA a] (aS s)) (hs : s.data.toList.length ≤ 100000000) : AF Tryd.prog 71 [exA (eNot a)] (aS (cat [⟨#[33]⟩, s])) := by
  refine af_of Tryd.func71 rfl (by kernel_rfl) (by simp [Tryd.ntmps71]) fun _ => ?_
  simp [Tryd.f71, Ex.d_eq]
  refine aCall_of ha (by simp) (by simp) ?_
  simp
  refine aCall_ofs (iljoin_af [⟨#[33]⟩, s] (by simp; simp at hs; omega) (by simp)) (by simp) (by simp) (by simp) ?_
  simp
theorem symbol_lt : AF Tryd.prog 111 [aI .i64 14] (aS ⟨#[60, 115]⟩) := by
  refine af_of Tryd.func111 rfl (by kernel_rfl) (by simp [Tryd.ntmps111]) fun _ => ?_
  simp [Tryd.f111]
theorem text_lt {a b : Ex} {s t : ByteArray} (ha : AF Tryd.prog 71 [exA a] (aS s)) (hb : AF Tryd.prog 71 [exA b] (aS t)) (hs : s.data.toList.length ≤ 100000000) (ht : t.data.toList.length ≤ 100000000) :
    AF Tryd.prog 71 [exA (eTwo 14 a b)] (aS (cat [⟨#[40]⟩, s, ⟨#[32]⟩, ⟨#[60, 115]⟩, ⟨#[32]⟩, t, ⟨#[41]⟩])) := by
  refine af_of Tryd.func71 rfl (by kernel_rfl) (by simp [Tryd.ntmps71]) fun _ => ?_
  simp [Tryd.f71, Ex.d_eq]
  refine adraw [] (by kernel_rfl) (by kernel_rfl) (by kernel_rfl) (by kernel_rfl) ?_
  simp [Ex.d_eq]
  refine adC_of ha (by simp) trivial (by simp) (by simp) ?_
  simp
  refine adC_of symbol_lt (by simp) trivial (by simp) (by simp) ?_
  simp [Ex.d_eq]
  refine adC_of hb (by simp) trivial (by simp) (by simp) ?_
  simp
  refine adC_ofs (iljoin_af [⟨#[40]⟩, s, ⟨#[32]⟩, ⟨#[60, 115]⟩, ⟨#[32]⟩, t, ⟨#[41]⟩] (by simp; simp at hs ht; omega) (by simp)) (by simp) trivial (by simp) (by simp) (by simp) ?_
  simp
theorem print_af {e : Ex} {s : ByteArray} (h1 : shalB 64 e = true) (h2 : formB e = true) (h : AF Tryd.prog 71 [exA e] (aS s)) : AF Tryd.prog 36 [exA e] (aS s) := by
  refine af_of Tryd.func36 rfl (by kernel_rfl) (by simp [Tryd.ntmps36]) fun _ => ?_
  simp [Tryd.f36]
  refine aCall_of (check_af e) (by simp) (by simp) ?_
  simp [h1, h2]
  refine aCall_of h (by simp) (by simp) ?_
  simp
theorem rec8 : recA (eVar 8) = .tup [aI .i64 (1 : Nat), aB true] :=
  rec_some (by omega) (by rfl) (fun j hj => by have : j = 0 := by omega
                                               subst this; rfl)
theorem ex23_af : AF Tryd.prog 11 [] (aB true) := by
  refine af_of Tryd.func11 rfl (by kernel_rfl) (by simp [Tryd.ntmps11]) fun _ => ?_
  simp [Tryd.f11]
  refine aCall_of (var_af 1) (by simp) (by simp) ?_
  simp
  refine aCall_of (var_af 2) (by simp) (by simp) ?_
  simp
  refine aCall_of (cond_af 5 (eVar 1) (eVar 2) (by simp) (by simp)) (by simp) (by simp) ?_
  simp
  refine aCall_of (var_af 8) (by simp) (by simp) ?_
  simp
  refine aCall_of (rec8 ▸ rec_af (eVar 8)) (by simp) (by simp) ?_
  simp
  have h5 : condE 5 (eVar 1) (eVar 2) = eNot (eTwo 14 (eVar 2) (eVar 1)) := rfl
  have h1 : AF Tryd.prog 71 [exA (eVar 1)] (aS ⟨#[114, 49]⟩) := by
    have := text_var 1 (by omega)
    rwa [show cat [⟨#[114]⟩, ⟨(Lib.decDigits 1).toArray⟩] = (⟨#[114, 49]⟩ : ByteArray) by decide +kernel] at this
  have h2 : AF Tryd.prog 71 [exA (eVar 2)] (aS ⟨#[114, 50]⟩) := by
    have := text_var 2 (by omega)
    rwa [show cat [⟨#[114]⟩, ⟨(Lib.decDigits 2).toArray⟩] = (⟨#[114, 50]⟩ : ByteArray) by decide +kernel] at this
  have h3 := text_not (text_lt h2 h1 (by simp) (by simp)) (by simp [cat])
  have h4 := print_af (e := condE 5 (eVar 1) (eVar 2)) (by rfl) (by rfl) (by rw [h5]; exact h3)
  refine aCall_of h4 (by simp) (by simp) ?_
  simp [cat]
end Go.Proofs.YtlfkighdmheniaaDoor
