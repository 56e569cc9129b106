import Derived.Test.YtnlabiojmdhmiaaGreatDoorSt0
namespace Go.Proofs.YtnlabiojmdhmiaaGreatDoor
open Go Go.VE
set_option linter.unusedVariables false
set_option maxRecDepth 100000
noncomputable section
def entK0 : Ent := {
  args := [(.pointer (some ⟨40, 0, none⟩)), (I 13)],
  hl := [(0, .cells false true [(.int .u8 0), (.int .u8 7), (.int .u8 14), (.int .u8 9), (.int .u8 28), (.int .u8 27), (.int .u8 18), (.int .u8 21), (.int .u8 56), (.int .u8 63), (.int .u8 54), (.int .u8 49), (.int .u8 36), (.int .u8 35), (.int .u8 42), (.int .u8 45)]),
    (31, .cells true true [(I 4), (I 4)]),
    (33, .cells true true [(I 1), (I 2)]),
    (37, .cells true true [(I 0), (I 0)]),
    (39, .cells true true [(.slice (some ⟨33, 0, some 3⟩) 2 2), (.slice (some ⟨37, 0, some 3⟩) 2 2)]),
    (40, .cells true false [(.bool true), (I 3), (.slice (some ⟨31, 0, some 3⟩) 2 2), (I 2), (I 2), (I 0), (I 0), (I 1), (I 1), (I 0), (I 0), (I 100), (I 1), (I 2), (.slice (some ⟨39, 0, some 3⟩) 2 2), (.int .u64 7), (I 0), (I 4), (.int .u64 7), (I 0), (I 4), (.int .u64 7), (I 0), (I 4), (.slice none 0 0), (I 50), (I 5), (I 3), (I 8), (I 21), (I 42), (I 1), (I 0), (.bool false), (I 1), (I 4), (.slice (some ⟨209, 0, some 6⟩) 1 1), (.slice none 0 0), (I 50), (I (-1)), (.slice (some ⟨76, 0, none⟩) 2 2), (I 2), (I 4), (.slice (some ⟨259, 0, some 6⟩) 1 1), (.slice none 0 0), (I 50), (I (-1)), (.slice (some ⟨81, 0, none⟩) 2 2), (I 3), (I 4), (.slice none 0 0), (.slice none 0 0), (I 50), (I (-1)), (.slice (some ⟨86, 0, none⟩) 2 2), (.slice (some ⟨100, 0, none⟩) 2 2)]),
    (76, .cells true false [(I 0), (I 0)]),
    (81, .cells true false [(I 0), (I 0)]),
    (86, .cells true false [(I 0), (I 0)]),
    (100, .cells true false [(.bool true), (.bool false), (I 0), (I (-1)), (I 0), (I 0), (I 0), (I 0), (I 0), (I 0), (I 0), (I 0), (I 0), (I 0), (.bool true), (I 0), (.bool false), (.bool false), (.bool false), (.bool false), (.bool true), (.bool false), (I 0), (I (-1)), (I 0), (I 0), (I 0), (I 0), (I 0), (I 0), (I 0), (I 0), (I 0), (I 0), (.bool true), (I 0), (.bool false), (.bool false), (.bool false), (.bool false)]),
    (209, .cells true true [(I 1), (I 2), (I 0), (I 0)]),
    (259, .cells true true [(I 2), (I 1), (I 0), (I 0)])],
  next := 356, v := (.tuple #[(.slice (some ⟨1784, 0, none⟩) 3 3), (.bool true)]),
  hl' := [(0, .cells false true [(.int .u8 0), (.int .u8 7), (.int .u8 14), (.int .u8 9), (.int .u8 28), (.int .u8 27), (.int .u8 18), (.int .u8 21), (.int .u8 56), (.int .u8 63), (.int .u8 54), (.int .u8 49), (.int .u8 36), (.int .u8 35), (.int .u8 42), (.int .u8 45)]),
    (31, .cells true true [(I 4), (I 4)]),
    (33, .cells true true [(I 1), (I 2)]),
    (37, .cells true true [(I 0), (I 0)]),
    (39, .cells true true [(.slice (some ⟨33, 0, some 3⟩) 2 2), (.slice (some ⟨37, 0, some 3⟩) 2 2)]),
    (40, .cells true false [(.bool true), (I 3), (.slice (some ⟨31, 0, some 3⟩) 2 2), (I 2), (I 2), (I 0), (I 0), (I 1), (I 1), (I 0), (I 0), (I 100), (I 1), (I 2), (.slice (some ⟨39, 0, some 3⟩) 2 2), (.int .u64 7), (I 0), (I 4), (.int .u64 7), (I 0), (I 4), (.int .u64 7), (I 0), (I 4), (.slice none 0 0), (I 50), (I 5), (I 3), (I 8), (I 21), (I 42), (I 13), (I 0), (.bool false), (I 1), (I 4), (.slice (some ⟨1544, 0, some 6⟩) 0 1), (.slice none 0 0), (I 50), (I (-1)), (.slice (some ⟨76, 0, none⟩) 2 2), (I 2), (I 4), (.slice (some ⟨259, 0, some 6⟩) 1 1), (.slice none 0 0), (I 50), (I (-1)), (.slice (some ⟨81, 0, none⟩) 2 2), (I 3), (I 4), (.slice none 0 0), (.slice none 0 0), (I 50), (I (-1)), (.slice (some ⟨86, 0, none⟩) 2 2), (.slice (some ⟨100, 0, none⟩) 2 2)]),
    (76, .cells true false [(I 0), (I 0)]),
    (81, .cells true false [(I 0), (I 0)]),
    (86, .cells true false [(I 0), (I 0)]),
    (100, .cells true false [(.bool true), (.bool false), (I 0), (I 2), (I 8), (I 8), (I 0), (I 0), (I 0), (I 0), (I 0), (I 0), (I 0), (I 3), (.bool false), (I 0), (.bool false), (.bool false), (.bool false), (.bool false), (.bool true), (.bool false), (I 0), (I (-1)), (I 0), (I 0), (I 0), (I 0), (I 0), (I 0), (I 0), (I 0), (I 0), (I 0), (.bool true), (I 0), (.bool false), (.bool false), (.bool false), (.bool false)]),
    (209, .cells true true [(I 1), (I 2), (I 0), (I 0)]),
    (259, .cells true true [(I 2), (I 1), (I 0), (I 0)]),
    (1544, .cells true true [(I 0), (I 0), (I 0), (I 0)]),
    (1784, .cells true false [(I 12), (.slice none 0 0), (.slice (some ⟨1860, 0, some 5⟩) 2 2), (.int .u64 0), (.int .u64 0), (I (-1)), (I 12), (.slice none 0 0), (.slice (some ⟨1876, 0, some 5⟩) 2 2), (.int .u64 0), (.int .u64 2), (I (-1)), (I 12), (.slice none 0 0), (.slice (some ⟨1899, 0, some 5⟩) 2 2), (.int .u64 0), (.int .u64 0), (I (-1))]),
    (1860, .cells true true [(I 2), (I 0), (.bool false), (I (-1)), (I 0), (.bool false)]),
    (1876, .cells true true [(I (-1)), (I 0), (.bool false), (I (-1)), (I 0), (.bool false)]),
    (1899, .cells true true [(I (-1)), (I 0), (.bool false), (I (-1)), (I 0), (.bool false)])],
  next' := 1904 }
theorem stK0 : gives ((runC Tryz.prog Fuel 60).call 14 entK0.args.toArray (mkHeap entK0.hl entK0.next NG)) entK0.v entK0.hl' entK0.next' NG = true := by kernel_rfl
theorem sndK0 : FSound Tryz.prog 14 entK0.args.toArray (mkHeap entK0.hl entK0.next NG) entK0.v (mkHeap entK0.hl' entK0.next' NG) := gives_ok (runC_sound fine follows Fuel 60) stK0
end
end Go.Proofs.YtnlabiojmdhmiaaGreatDoor
