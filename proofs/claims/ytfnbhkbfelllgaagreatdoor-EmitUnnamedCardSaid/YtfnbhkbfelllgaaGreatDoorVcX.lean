import Derived.Test.YtfnbhkbfelllgaaGreatDoorVcD
set_option linter.all false
namespace Go.Proofs.YtfnbhkbfelllgaaGreatDoor
open Go.RowKit
def Ext (w w':World):Prop:=Below w.heap.size w w'
theorem Ext.refl (w:World):Ext w w:=Below.refl _ _
theorem Ext.trans {a b c:World} (h:Ext a b) (k:Ext b c):Ext a c:=Below.trans h (Below.mono k h.size)
theorem Ext.alloc {a w:World} (h:Ext a w) (o:Obj):Ext a (w.alloc o):=Below.alloc h h.size o
theorem Ext.drew {a w:World} (h:Ext a w):Ext a w.drew:=Below.drew h
theorem Ext.cell {w w':World} (h:Ext w w') {b o:Nat} {u:Value} (hc:w.cell? ⟨b,o,none⟩=some u):w'.cell? ⟨b,o,none⟩=some u:=by
 rw[Below.cell h (World.block_lt_of_cell? _ _ hc)]
 exact hc
theorem Ext.size {w w':World} (h:Ext w w'):w.heap.size≤w'.heap.size:=Below.size h
theorem Ext.heap {w w':World} (h:Ext w w') {k:Nat} (hk:k < w.heap.size):w'.heap[k]? = w.heap[k]? := Below.block h k hk
end Go.Proofs.YtfnbhkbfelllgaaGreatDoor
