import Derived.Test.YtfnbhkbfelllgaaGreatDoorVcX
import Derived.Lib.LaidTab
import Derived.Lib.Space
import Derived.Lib.ItoaNum
namespace Go.Proofs.YtfnbhkbfelllgaaGreatDoor
def deB64:List Int:=[0,1,56,2,57,49,28,3,61,58,42,50,38,29,17,4,62,47,59,36,45,43,51,22,53,39,33,30,24,18,12,5,63,55,48,27,60,41,37,16,46,35,44,21,52,32,23,11,54,26,40,15,34,20,31,10,25,14,19,9,13,8,7,6]
def GB:List (Nat×List Value):=[(0,Lib.asciiSpaceTab.map fun z=>Value.int .u8 z),(5,deB64.map fun z=>Value.int .u8 z),(2,Lib.pow10Tab.map fun z=>Value.int .u64 z)]
def GBI:List Nat:=[3]
end Go.Proofs.YtfnbhkbfelllgaaGreatDoor
