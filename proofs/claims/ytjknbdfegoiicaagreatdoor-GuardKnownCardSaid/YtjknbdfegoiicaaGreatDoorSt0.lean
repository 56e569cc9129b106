import Derived.Test.YtjknbdfegoiicaaGreatDoorVzi
import Derived.Test.YtjknbdfegoiicaaGreatDoorRows
namespace Go.Proofs.YtjknbdfegoiicaaGreatDoor
open Go Go.VE
set_option maxRecDepth 100000

def zeroOk (i : TypeInfo) : Bool := match i.zero with | some z => z.cells.all (flatB 7) && flatB 8 z | none => true
theorem zeros : Tryz.prog.types.toList.all zeroOk = true := by kernel_rfl
theorem fine : Fine Tryz.prog := fine_of fun t i z hi hz => by
  have := List.all_eq_true.1 zeros i (by simpa using Array.mem_of_getElem? hi)
  simp only [zeroOk, hz, Bool.and_eq_true] at this
  exact this
/-- How many rounds a loop may take. -/
def Fuel : Nat := 1000
/-- How many package-level variables the program has. -/
def NG : Nat := 4
noncomputable def Tab : List (List Value) := [[1,10,100,1000,10000,100000,1000000,10000000,100000000,1000000000,10000000000,100000000000,1000000000000,10000000000000,100000000000000,1000000000000000,10000000000000000,100000000000000000,1000000000000000000,10000000000000000000].map fun n => Value.int .u64 n,
  [0,1,28,2,29,14,24,3,30,22,20,15,25,17,4,8,31,27,13,23,21,19,16,7,26,12,18,6,11,5,10,9].map fun n => Value.int .u8 n,
  [0,1,56,2,57,49,28,3,61,58,42,50,38,29,17,4,62,47,59,36,45,43,51,22,53,39,33,30,24,18,12,5,63,55,48,27,60,41,37,16,46,35,44,21,52,32,23,11,54,26,40,15,34,20,31,10,25,14,19,9,13,8,7,6].map fun n => Value.int .u8 n,
  [0,7,14,9,28,27,18,21,56,63,54,49,36,35,42,45].map fun n => Value.int .u8 n]
end Go.Proofs.YtjknbdfegoiicaaGreatDoor
