/- Contracts: il.Two, il.Const, il.Var; flagfuse's makers and conditions; the reference's makers. -/
import Derived.Test.YtlfkighdmheniaaDoorBc
namespace Go.Proofs.YtlfkighdmheniaaDoor
open Go.RowKit
def eCon (n : Int) : Ex := .mk 1 n 0 0 []
def eVar (v : Int) : Ex := .mk 2 0 v 0 []
def eTwo (op : Int) (a b : Ex) : Ex := .mk op 0 0 0 [a, b]
def eOne (op : Int) (a : Ex) : Ex := .mk op 0 0 0 [a]
abbrev eNot (a : Ex) : Ex := eOne 16 a
section
variable (op n v : Int) (a b : Ex)
@[simp] theorem eCon_op : (eCon n).op = 1 := rfl
@[simp] theorem eCon_n : (eCon n).n = n := rfl
@[simp] theorem eCon_v : (eCon n).v = 0 := rfl
@[simp] theorem eCon_wd : (eCon n).wd = 0 := rfl
@[simp] theorem eCon_l : (eCon n).l = [] := rfl
@[simp] theorem eVar_op : (eVar v).op = 2 := rfl
@[simp] theorem eVar_n : (eVar v).n = 0 := rfl
@[simp] theorem eVar_v : (eVar v).v = v := rfl
@[simp] theorem eVar_wd : (eVar v).wd = 0 := rfl
@[simp] theorem eVar_l : (eVar v).l = [] := rfl
@[simp] theorem eTwo_op : (eTwo op a b).op = op := rfl
@[simp] theorem eTwo_n : (eTwo op a b).n = 0 := rfl
@[simp] theorem eTwo_v : (eTwo op a b).v = 0 := rfl
@[simp] theorem eTwo_wd : (eTwo op a b).wd = 0 := rfl
@[simp] theorem eTwo_l : (eTwo op a b).l = [a, b] := rfl
@[simp] theorem eOne_op : (eOne op a).op = op := rfl
@[simp] theorem eOne_n : (eOne op a).n = 0 := rfl
@[simp] theorem eOne_v : (eOne op a).v = 0 := rfl
@[simp] theorem eOne_wd : (eOne op a).wd = 0 := rfl
@[simp] theorem eOne_l : (eOne op a).l = [a] := rfl
@[simp] theorem nodes_con : (eCon n).nodes = 1 := rfl
@[simp] theorem nodes_var : (eVar v).nodes = 1 := rfl
@[simp] theorem nodes_two : (eTwo op a b).nodes = a.nodes + b.nodes + 1 := by simp [eTwo, Ex.nodes, Ex.nodess]
@[simp] theorem nodes_one : (eOne op a).nodes = a.nodes + 1 := by simp [eOne, Ex.nodes, Ex.nodess]
end
theorem two_af (op : Int) (a b : Ex) (ha : a.nodes ≤ 1000000000) (hb : b.nodes ≤ 1000000000) : AF Tryd.prog 40 [aI .i64 op, exA a, exA b] (exA (eTwo op a b)) := by
  refine af_of Tryd.func40 rfl (by kernel_rfl) (by simp [Tryd.ntmps40]) fun _ => ?_
  simp [Tryd.f40]
  refine adraw [] (by kernel_rfl) (by kernel_rfl) (by kernel_rfl) (by kernel_rfl) ?_
  simp
  refine adC_of (own_af a ha) (by simp) trivial (by simp) (by simp) ?_
  simp
  refine adC_of (own_af b hb) (by simp) trivial (by simp) (by simp) ?_
  simp [Ex.d_eq]
theorem const_af (n : Int) : AF Tryd.prog 33 [aI .u32 n] (exA (eCon n)) := by
  refine af_of Tryd.func33 rfl (by kernel_rfl) (by simp [Tryd.ntmps33]) fun _ => ?_
  simp [Tryd.f33]
theorem rcon_af (n : Int) : AF Tryd.prog 46 [aI .u32 n] (exA (eCon n)) := by
  refine af_of Tryd.func46 rfl (by kernel_rfl) (by simp [Tryd.ntmps46]) fun _ => ?_
  simp [Tryd.f46]
theorem var_af (v : Int) : AF Tryd.prog 35 [aI .i64 v] (exA (eVar v)) := by
  refine af_of Tryd.func35 rfl (by kernel_rfl) (by simp [Tryd.ntmps35]) fun _ => ?_
  simp [Tryd.f35]
theorem rvar_af (v : Int) : AF Tryd.prog 73 [aI .i64 v] (exA (eVar v)) := by
  refine af_of Tryd.func73 rfl (by kernel_rfl) (by simp [Tryd.ntmps73]) fun _ => ?_
  simp [Tryd.f73]
theorem not_af (a : Ex) : AF Tryd.prog 42 [exA a] (exA (eNot a)) := by
  refine af_of Tryd.func42 rfl (by kernel_rfl) (by simp [Tryd.ntmps42]) fun _ => ?_
  simp [Tryd.f42, Ex.d_eq]
theorem rnot_af (a : Ex) : AF Tryd.prog 48 [exA a] (exA (eNot a)) := by
  refine af_of Tryd.func48 rfl (by kernel_rfl) (by simp [Tryd.ntmps48]) fun _ => ?_
  simp [Tryd.f48, Ex.d_eq]
theorem rtwo_af (op : Int) (a b : Ex) : AF Tryd.prog 47 [aI .i64 op, exA a, exA b] (exA (eTwo op a b)) := by
  refine af_of Tryd.func47 rfl (by kernel_rfl) (by simp [Tryd.ntmps47]) fun _ => ?_
  simp [Tryd.f47, Ex.d_eq]
theorem less_af (a b : Ex) (ha : a.nodes ≤ 1000000000) (hb : b.nodes ≤ 1000000000) : AF Tryd.prog 41 [exA a, exA b] (exA (eTwo 14 a b)) := by
  refine af_of Tryd.func41 rfl (by kernel_rfl) (by simp [Tryd.ntmps41]) fun _ => ?_
  simp [Tryd.f41]
  refine aCall_of (two_af 14 a b ha hb) (by simp) (by simp) ?_
  simp
theorem below_af (a b : Ex) (ha : a.nodes ≤ 1000000000) (hb : b.nodes ≤ 1000000000) : AF Tryd.prog 43 [exA a, exA b] (exA (eTwo 15 a b)) := by
  refine af_of Tryd.func43 rfl (by kernel_rfl) (by simp [Tryd.ntmps43]) fun _ => ?_
  simp [Tryd.f43]
  refine aCall_of (two_af 15 a b ha hb) (by simp) (by simp) ?_
  simp
abbrev eMinus (a b : Ex) : Ex := eTwo 14 (eTwo 4 a b) (eCon 0)
abbrev eOver (a b : Ex) : Ex := eTwo 8 (eTwo 14 a b) (eMinus a b)
theorem minus_af (a b : Ex) (ha : a.nodes ≤ 100000000) (hb : b.nodes ≤ 100000000) : AF Tryd.prog 44 [exA a, exA b] (exA (eMinus a b)) := by
  refine af_of Tryd.func44 rfl (by kernel_rfl) (by simp [Tryd.ntmps44]) fun _ => ?_
  simp [Tryd.f44]
  refine aCall_of (two_af 4 a b (by omega) (by omega)) (by simp) (by simp) ?_
  simp
  refine aCall_of (const_af 0) (by simp) (by simp) ?_
  simp
  refine aCall_of (less_af (eTwo 4 a b) (eCon 0) (by simp; omega) (by simp)) (by simp) (by simp) ?_
  simp
theorem over_af (a b : Ex) (ha : a.nodes ≤ 100000000) (hb : b.nodes ≤ 100000000) : AF Tryd.prog 45 [exA a, exA b] (exA (eOver a b)) := by
  refine af_of Tryd.func45 rfl (by kernel_rfl) (by simp [Tryd.ntmps45]) fun _ => ?_
  simp [Tryd.f45]
  refine adraw [] (by kernel_rfl) (by kernel_rfl) (by kernel_rfl) (by kernel_rfl) ?_
  simp
  refine adC_of (less_af a b (by omega) (by omega)) (by simp) trivial (by simp) (by simp) ?_
  simp
  refine adC_of (minus_af a b ha hb) (by simp) trivial (by simp) (by simp) ?_
  simp
  refine adC_of (two_af 8 (eTwo 14 a b) (eMinus a b) (by simp; omega) (by simp; omega)) (by simp) trivial (by simp) (by simp) ?_
  simp
end Go.Proofs.YtlfkighdmheniaaDoor
