import Derived.Test.YthjinaagdfnmhaaGreatDoorSt0
namespace Go.Proofs.YthjinaagdfnmhaaGreatDoor
open Go Go.VE
set_option linter.unusedVariables false
set_option maxRecDepth 100000
noncomputable section
def entG0 : Ent := {
  args := [(.agg #[(I 2), (.slice (some ⟨6, 0, none⟩) 1 1), (I 1), (I 1), (I 0), (I 0), (I 1), (I 1), (I 0), (I 50), (I 600), (I 3), (I 2), (.slice (some ⟨8, 0, none⟩) 1 1), (.int .u64 3), (I 0), (I 8), (.int .u64 3), (I 0), (I 8), (.int .u64 3), (I 0), (I 8), (.slice none 0 0), (I 10)]), (.agg #[(I 200), (.slice none 0 0)]), (I 1), (I 1), (I 0)],
  hl := [(1, .cells false true [(.int .u8 0), (.int .u8 7), (.int .u8 14), (.int .u8 9), (.int .u8 28), (.int .u8 27), (.int .u8 18), (.int .u8 21), (.int .u8 56), (.int .u8 63), (.int .u8 54), (.int .u8 49), (.int .u8 36), (.int .u8 35), (.int .u8 42), (.int .u8 45)]),
    (6, .cells true false [(I 2)]),
    (7, .cells true false [(I 1), (I 2)]),
    (8, .cells true false [(.slice (some ⟨7, 0, none⟩) 2 2)])],
  next := 10, v := (.tuple #[(.bool true), (I 0)]),
  hl' := [(1, .cells false true [(.int .u8 0), (.int .u8 7), (.int .u8 14), (.int .u8 9), (.int .u8 28), (.int .u8 27), (.int .u8 18), (.int .u8 21), (.int .u8 56), (.int .u8 63), (.int .u8 54), (.int .u8 49), (.int .u8 36), (.int .u8 35), (.int .u8 42), (.int .u8 45)]),
    (6, .cells true false [(I 2)]),
    (7, .cells true false [(I 1), (I 2)]),
    (8, .cells true false [(.slice (some ⟨7, 0, none⟩) 2 2)])],
  next' := 84 }
theorem stG0 : gives ((runC Tryz.prog Fuel 60).call 14 entG0.args.toArray (mkHeap entG0.hl entG0.next NG)) entG0.v entG0.hl' entG0.next' NG = true := by kernel_rfl
theorem sndG0 : FSound Tryz.prog 14 entG0.args.toArray (mkHeap entG0.hl entG0.next NG) entG0.v (mkHeap entG0.hl' entG0.next' NG) := gives_ok (runC_sound fine Fuel 60) stG0
def entG1 : Ent := {
  args := [(.agg #[(I 2), (.slice (some ⟨86, 0, none⟩) 1 1), (I 1), (I 1), (I 0), (I 0), (I 1), (I 1), (I 0), (I 50), (I 600), (I 3), (I 2), (.slice (some ⟨88, 0, none⟩) 1 1), (.int .u64 3), (I 0), (I 8), (.int .u64 3), (I 0), (I 8), (.int .u64 3), (I 0), (I 8), (.slice none 0 0), (I 10)]), (.agg #[(I 200), (.slice (some ⟨84, 0, none⟩) 1 1)]), (I 1), (I 1), (I 0)],
  hl := [(1, .cells false true [(.int .u8 0), (.int .u8 7), (.int .u8 14), (.int .u8 9), (.int .u8 28), (.int .u8 27), (.int .u8 18), (.int .u8 21), (.int .u8 56), (.int .u8 63), (.int .u8 54), (.int .u8 49), (.int .u8 36), (.int .u8 35), (.int .u8 42), (.int .u8 45)]),
    (84, .cells true false [(I 5), (I 2), (I 0), (.string ⟨#[]⟩), (I 1), (I 3), (I 0)]),
    (86, .cells true false [(I 2)]),
    (87, .cells true false [(I 1), (I 2)]),
    (88, .cells true false [(.slice (some ⟨87, 0, none⟩) 2 2)])],
  next := 90, v := (.tuple #[(.bool false), (I 0)]),
  hl' := [(1, .cells false true [(.int .u8 0), (.int .u8 7), (.int .u8 14), (.int .u8 9), (.int .u8 28), (.int .u8 27), (.int .u8 18), (.int .u8 21), (.int .u8 56), (.int .u8 63), (.int .u8 54), (.int .u8 49), (.int .u8 36), (.int .u8 35), (.int .u8 42), (.int .u8 45)]),
    (84, .cells true false [(I 5), (I 2), (I 0), (.string ⟨#[]⟩), (I 1), (I 3), (I 0)]),
    (86, .cells true false [(I 2)]),
    (87, .cells true false [(I 1), (I 2)]),
    (88, .cells true false [(.slice (some ⟨87, 0, none⟩) 2 2)])],
  next' := 165 }
theorem stG1 : gives ((runC Tryz.prog Fuel 60).call 14 entG1.args.toArray (mkHeap entG1.hl entG1.next NG)) entG1.v entG1.hl' entG1.next' NG = true := by kernel_rfl
theorem sndG1 : FSound Tryz.prog 14 entG1.args.toArray (mkHeap entG1.hl entG1.next NG) entG1.v (mkHeap entG1.hl' entG1.next' NG) := gives_ok (runC_sound fine Fuel 60) stG1
def entG2 : Ent := {
  args := [(.agg #[(I 2), (.slice (some ⟨167, 0, none⟩) 1 1), (I 1), (I 1), (I 0), (I 0), (I 1), (I 1), (I 0), (I 50), (I 600), (I 3), (I 2), (.slice (some ⟨169, 0, none⟩) 1 1), (.int .u64 3), (I 0), (I 8), (.int .u64 3), (I 0), (I 8), (.int .u64 3), (I 0), (I 8), (.slice none 0 0), (I 10)]), (.agg #[(I 200), (.slice (some ⟨165, 0, none⟩) 1 1)]), (I 1), (I 1), (I 6)],
  hl := [(1, .cells false true [(.int .u8 0), (.int .u8 7), (.int .u8 14), (.int .u8 9), (.int .u8 28), (.int .u8 27), (.int .u8 18), (.int .u8 21), (.int .u8 56), (.int .u8 63), (.int .u8 54), (.int .u8 49), (.int .u8 36), (.int .u8 35), (.int .u8 42), (.int .u8 45)]),
    (165, .cells true false [(I 5), (I 2), (I 0), (.string ⟨#[]⟩), (I 1), (I 3), (I 0)]),
    (167, .cells true false [(I 2)]),
    (168, .cells true false [(I 1), (I 2)]),
    (169, .cells true false [(.slice (some ⟨168, 0, none⟩) 2 2)])],
  next := 171, v := (.tuple #[(.bool true), (I 0)]),
  hl' := [(1, .cells false true [(.int .u8 0), (.int .u8 7), (.int .u8 14), (.int .u8 9), (.int .u8 28), (.int .u8 27), (.int .u8 18), (.int .u8 21), (.int .u8 56), (.int .u8 63), (.int .u8 54), (.int .u8 49), (.int .u8 36), (.int .u8 35), (.int .u8 42), (.int .u8 45)]),
    (165, .cells true false [(I 5), (I 2), (I 0), (.string ⟨#[]⟩), (I 1), (I 3), (I 0)]),
    (167, .cells true false [(I 2)]),
    (168, .cells true false [(I 1), (I 2)]),
    (169, .cells true false [(.slice (some ⟨168, 0, none⟩) 2 2)])],
  next' := 250 }
theorem stG2 : gives ((runC Tryz.prog Fuel 60).call 14 entG2.args.toArray (mkHeap entG2.hl entG2.next NG)) entG2.v entG2.hl' entG2.next' NG = true := by kernel_rfl
theorem sndG2 : FSound Tryz.prog 14 entG2.args.toArray (mkHeap entG2.hl entG2.next NG) entG2.v (mkHeap entG2.hl' entG2.next' NG) := gives_ok (runC_sound fine Fuel 60) stG2
def entG3 : Ent := {
  args := [(.agg #[(I 2), (.slice (some ⟨252, 0, none⟩) 1 1), (I 1), (I 1), (I 0), (I 0), (I 1), (I 1), (I 0), (I 50), (I 600), (I 3), (I 2), (.slice (some ⟨254, 0, none⟩) 1 1), (.int .u64 3), (I 0), (I 8), (.int .u64 3), (I 0), (I 8), (.int .u64 3), (I 0), (I 8), (.slice none 0 0), (I 10)]), (.agg #[(I 200), (.slice (some ⟨250, 0, none⟩) 2 2)]), (I 1), (I 1), (I 0)],
  hl := [(1, .cells false true [(.int .u8 0), (.int .u8 7), (.int .u8 14), (.int .u8 9), (.int .u8 28), (.int .u8 27), (.int .u8 18), (.int .u8 21), (.int .u8 56), (.int .u8 63), (.int .u8 54), (.int .u8 49), (.int .u8 36), (.int .u8 35), (.int .u8 42), (.int .u8 45)]),
    (250, .cells true false [(I 5), (I 2), (I 0), (.string ⟨#[]⟩), (I 1), (I 1), (I 51), (I 7), (I 2), (I 0), (.string ⟨#[]⟩), (I 1), (I 1), (I 0)]),
    (252, .cells true false [(I 2)]),
    (253, .cells true false [(I 1), (I 2)]),
    (254, .cells true false [(.slice (some ⟨253, 0, none⟩) 2 2)])],
  next := 256, v := (.tuple #[(.bool true), (I 0)]),
  hl' := [(1, .cells false true [(.int .u8 0), (.int .u8 7), (.int .u8 14), (.int .u8 9), (.int .u8 28), (.int .u8 27), (.int .u8 18), (.int .u8 21), (.int .u8 56), (.int .u8 63), (.int .u8 54), (.int .u8 49), (.int .u8 36), (.int .u8 35), (.int .u8 42), (.int .u8 45)]),
    (250, .cells true false [(I 5), (I 2), (I 0), (.string ⟨#[]⟩), (I 1), (I 1), (I 51), (I 7), (I 2), (I 0), (.string ⟨#[]⟩), (I 1), (I 1), (I 0)]),
    (252, .cells true false [(I 2)]),
    (253, .cells true false [(I 1), (I 2)]),
    (254, .cells true false [(.slice (some ⟨253, 0, none⟩) 2 2)])],
  next' := 340 }
theorem stG3 : gives ((runC Tryz.prog Fuel 60).call 14 entG3.args.toArray (mkHeap entG3.hl entG3.next NG)) entG3.v entG3.hl' entG3.next' NG = true := by kernel_rfl
theorem sndG3 : FSound Tryz.prog 14 entG3.args.toArray (mkHeap entG3.hl entG3.next NG) entG3.v (mkHeap entG3.hl' entG3.next' NG) := gives_ok (runC_sound fine Fuel 60) stG3
def entG4 : Ent := {
  args := [(.agg #[(I 2), (.slice (some ⟨342, 0, none⟩) 1 1), (I 1), (I 1), (I 0), (I 0), (I 1), (I 1), (I 0), (I 50), (I 600), (I 3), (I 2), (.slice (some ⟨344, 0, none⟩) 1 1), (.int .u64 3), (I 0), (I 8), (.int .u64 3), (I 0), (I 8), (.int .u64 3), (I 0), (I 8), (.slice none 0 0), (I 10)]), (.agg #[(I 200), (.slice (some ⟨340, 0, none⟩) 1 1)]), (I 1), (I 1), (I 0)],
  hl := [(1, .cells false true [(.int .u8 0), (.int .u8 7), (.int .u8 14), (.int .u8 9), (.int .u8 28), (.int .u8 27), (.int .u8 18), (.int .u8 21), (.int .u8 56), (.int .u8 63), (.int .u8 54), (.int .u8 49), (.int .u8 36), (.int .u8 35), (.int .u8 42), (.int .u8 45)]),
    (340, .cells true false [(I 5), (I 2), (I 0), (.string ⟨#[]⟩), (I 1), (I 1), (I 51)]),
    (342, .cells true false [(I 2)]),
    (343, .cells true false [(I 1), (I 2)]),
    (344, .cells true false [(.slice (some ⟨343, 0, none⟩) 2 2)])],
  next := 346, v := (.tuple #[(.bool false), (I 0)]),
  hl' := [(1, .cells false true [(.int .u8 0), (.int .u8 7), (.int .u8 14), (.int .u8 9), (.int .u8 28), (.int .u8 27), (.int .u8 18), (.int .u8 21), (.int .u8 56), (.int .u8 63), (.int .u8 54), (.int .u8 49), (.int .u8 36), (.int .u8 35), (.int .u8 42), (.int .u8 45)]),
    (340, .cells true false [(I 5), (I 2), (I 0), (.string ⟨#[]⟩), (I 1), (I 1), (I 51)]),
    (342, .cells true false [(I 2)]),
    (343, .cells true false [(I 1), (I 2)]),
    (344, .cells true false [(.slice (some ⟨343, 0, none⟩) 2 2)])],
  next' := 423 }
theorem stG4 : gives ((runC Tryz.prog Fuel 60).call 14 entG4.args.toArray (mkHeap entG4.hl entG4.next NG)) entG4.v entG4.hl' entG4.next' NG = true := by kernel_rfl
theorem sndG4 : FSound Tryz.prog 14 entG4.args.toArray (mkHeap entG4.hl entG4.next NG) entG4.v (mkHeap entG4.hl' entG4.next' NG) := gives_ok (runC_sound fine Fuel 60) stG4
def entsG : List Ent := [entG0, entG1, entG2, entG3, entG4]
theorem sndsG : ∀ e ∈ entsG, FSound Tryz.prog 14 e.args.toArray (mkHeap e.hl e.next NG) e.v (mkHeap e.hl' e.next' NG) := by
  simp only [entsG, List.forall_mem_cons, List.not_mem_nil, false_implies, implies_true, and_true]
  exact ⟨sndG0, sndG1, sndG2, sndG3, sndG4⟩
end
end Go.Proofs.YthjinaagdfnmhaaGreatDoor
