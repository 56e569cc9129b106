import Derived.Test.YthjinaagdfnmhaaGreatDoorVzi
import Derived.Test.YthjinaagdfnmhaaGreatDoorRows
namespace Go.Proofs.YthjinaagdfnmhaaGreatDoor
open Go Go.VE
set_option maxRecDepth 100000

def zeroOk (i : TypeInfo) : Bool := match i.zero with | some z => z.cells.all (flatB 7) && flatB 8 z | none => true
theorem zeros : Tryz.prog.types.toList.all zeroOk = true := by kernel_rfl
theorem fine : Fine Tryz.prog := fine_of fun t i z hi hz => by
  have := List.all_eq_true.1 zeros i (by simpa using Array.mem_of_getElem? hi)
  simp only [zeroOk, hz, Bool.and_eq_true] at this
  exact this
/-- How many rounds a loop may take. -/
def Fuel : Nat := 1000
/-- How many package-level variables the evaluator knows of. -/
def NG : Nat := 2
def halves : List Int := [0,7,14,9,28,27,18,21,56,63,54,49,36,35,42,45]
/-- The program's tables: of its variable 0 (the handle of a type) nothing is said. -/
noncomputable def Tab : List (List Value) := [[], halves.map fun n => Value.int .u8 n]
end Go.Proofs.YthjinaagdfnmhaaGreatDoor
