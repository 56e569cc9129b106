import Derived.Test.YthjinaagdfnmhaaGreatDoorSt0
namespace Go.Proofs.YthjinaagdfnmhaaGreatDoor
open Go Go.VE
set_option linter.unusedVariables false
set_option maxRecDepth 100000
noncomputable section
def entC0 : Ent := {
  args := [(.agg #[(I 2), (.slice (some ⟨426, 0, none⟩) 1 1), (I 1), (I 1), (I 0), (I 0), (I 1), (I 1), (I 0), (I 50), (I 600), (I 3), (I 2), (.slice (some ⟨428, 0, none⟩) 1 1), (.int .u64 3), (I 0), (I 8), (.int .u64 3), (I 0), (I 8), (.int .u64 3), (I 0), (I 8), (.slice none 0 0), (I 10)]), (.agg #[(I 200), (.slice (some ⟨423, 0, none⟩) 3 3)])],
  hl := [(1, .cells false true [(.int .u8 0), (.int .u8 7), (.int .u8 14), (.int .u8 9), (.int .u8 28), (.int .u8 27), (.int .u8 18), (.int .u8 21), (.int .u8 56), (.int .u8 63), (.int .u8 54), (.int .u8 49), (.int .u8 36), (.int .u8 35), (.int .u8 42), (.int .u8 45)]),
    (423, .cells true false [(I 0), (I 1), (I 0), (.string ⟨#[60, 80, 104, 49, 44, 49, 59, 49, 54, 62]⟩), (I 0), (I 0), (I 0), (I 0), (I 1), (I 16), (.string ⟨#[60, 68, 107, 55, 44, 48, 59, 101, 98, 62]⟩), (I 0), (I 0), (I 0), (I 0), (I 1), (I 0), (.string ⟨#[97, 98, 99]⟩), (I 0), (I 0), (I 0)]),
    (426, .cells true false [(I 2)]),
    (427, .cells true false [(I 1), (I 2)]),
    (428, .cells true false [(.slice (some ⟨427, 0, none⟩) 2 2)])],
  next := 430, v := (.tuple #[(.slice (some ⟨549, 0, some 3⟩) 1 1), (I 0)]),
  hl' := [(1, .cells false true [(.int .u8 0), (.int .u8 7), (.int .u8 14), (.int .u8 9), (.int .u8 28), (.int .u8 27), (.int .u8 18), (.int .u8 21), (.int .u8 56), (.int .u8 63), (.int .u8 54), (.int .u8 49), (.int .u8 36), (.int .u8 35), (.int .u8 42), (.int .u8 45)]),
    (423, .cells true false [(I 0), (I 1), (I 0), (.string ⟨#[60, 80, 104, 49, 44, 49, 59, 49, 54, 62]⟩), (I 0), (I 0), (I 0), (I 0), (I 1), (I 16), (.string ⟨#[60, 68, 107, 55, 44, 48, 59, 101, 98, 62]⟩), (I 0), (I 0), (I 0), (I 0), (I 1), (I 0), (.string ⟨#[97, 98, 99]⟩), (I 0), (I 0), (I 0)]),
    (426, .cells true false [(I 2)]),
    (427, .cells true false [(I 1), (I 2)]),
    (428, .cells true false [(.slice (some ⟨427, 0, none⟩) 2 2)]),
    (549, .cells true true [(I 0)])],
  next' := 551 }
theorem stC0 : gives ((runC Tryz.prog Fuel 60).call 7 entC0.args.toArray (mkHeap entC0.hl entC0.next NG)) entC0.v entC0.hl' entC0.next' NG = true := by kernel_rfl
theorem sndC0 : FSound Tryz.prog 7 entC0.args.toArray (mkHeap entC0.hl entC0.next NG) entC0.v (mkHeap entC0.hl' entC0.next' NG) := gives_ok (runC_sound fine Fuel 60) stC0
def entC1 : Ent := {
  args := [(.agg #[(I 2), (.slice (some ⟨552, 0, none⟩) 1 1), (I 1), (I 1), (I 0), (I 0), (I 1), (I 1), (I 0), (I 50), (I 600), (I 3), (I 2), (.slice (some ⟨554, 0, none⟩) 1 1), (.int .u64 3), (I 0), (I 8), (.int .u64 3), (I 0), (I 8), (.int .u64 3), (I 0), (I 8), (.slice none 0 0), (I 10)]), (.agg #[(I 200), (.slice (some ⟨423, 0, none⟩) 3 3)])],
  hl := [(1, .cells false true [(.int .u8 0), (.int .u8 7), (.int .u8 14), (.int .u8 9), (.int .u8 28), (.int .u8 27), (.int .u8 18), (.int .u8 21), (.int .u8 56), (.int .u8 63), (.int .u8 54), (.int .u8 49), (.int .u8 36), (.int .u8 35), (.int .u8 42), (.int .u8 45)]),
    (423, .cells true false [(I 0), (I 1), (I 0), (.string ⟨#[60, 80, 104, 49, 44, 49, 59, 49, 54, 62]⟩), (I 0), (I 0), (I 0), (I 0), (I 1), (I 16), (.string ⟨#[60, 68, 107, 55, 44, 48, 59, 101, 98, 62]⟩), (I 0), (I 0), (I 0), (I 0), (I 1), (I 0), (.string ⟨#[97, 98, 99]⟩), (I 0), (I 0), (I 0)]),
    (552, .cells true false [(I 2)]),
    (553, .cells true false [(I 1), (I 2)]),
    (554, .cells true false [(.slice (some ⟨553, 0, none⟩) 2 2)])],
  next := 559, v := (.tuple #[(.slice (some ⟨678, 0, some 3⟩) 1 1), (I 0)]),
  hl' := [(1, .cells false true [(.int .u8 0), (.int .u8 7), (.int .u8 14), (.int .u8 9), (.int .u8 28), (.int .u8 27), (.int .u8 18), (.int .u8 21), (.int .u8 56), (.int .u8 63), (.int .u8 54), (.int .u8 49), (.int .u8 36), (.int .u8 35), (.int .u8 42), (.int .u8 45)]),
    (423, .cells true false [(I 0), (I 1), (I 0), (.string ⟨#[60, 80, 104, 49, 44, 49, 59, 49, 54, 62]⟩), (I 0), (I 0), (I 0), (I 0), (I 1), (I 16), (.string ⟨#[60, 68, 107, 55, 44, 48, 59, 101, 98, 62]⟩), (I 0), (I 0), (I 0), (I 0), (I 1), (I 0), (.string ⟨#[97, 98, 99]⟩), (I 0), (I 0), (I 0)]),
    (552, .cells true false [(I 2)]),
    (553, .cells true false [(I 1), (I 2)]),
    (554, .cells true false [(.slice (some ⟨553, 0, none⟩) 2 2)]),
    (678, .cells true true [(I 0)])],
  next' := 680 }
theorem stC1 : gives ((runC Tryz.prog Fuel 60).call 7 entC1.args.toArray (mkHeap entC1.hl entC1.next NG)) entC1.v entC1.hl' entC1.next' NG = true := by kernel_rfl
theorem sndC1 : FSound Tryz.prog 7 entC1.args.toArray (mkHeap entC1.hl entC1.next NG) entC1.v (mkHeap entC1.hl' entC1.next' NG) := gives_ok (runC_sound fine Fuel 60) stC1
def entC2 : Ent := {
  args := [(.agg #[(I 2), (.slice (some ⟨681, 0, none⟩) 1 1), (I 1), (I 1), (I 0), (I 0), (I 1), (I 1), (I 0), (I 50), (I 600), (I 3), (I 2), (.slice (some ⟨683, 0, none⟩) 1 1), (.int .u64 3), (I 0), (I 8), (.int .u64 3), (I 0), (I 8), (.int .u64 3), (I 0), (I 8), (.slice none 0 0), (I 10)]), (.agg #[(I 200), (.slice (some ⟨423, 0, none⟩) 3 3)])],
  hl := [(1, .cells false true [(.int .u8 0), (.int .u8 7), (.int .u8 14), (.int .u8 9), (.int .u8 28), (.int .u8 27), (.int .u8 18), (.int .u8 21), (.int .u8 56), (.int .u8 63), (.int .u8 54), (.int .u8 49), (.int .u8 36), (.int .u8 35), (.int .u8 42), (.int .u8 45)]),
    (423, .cells true false [(I 0), (I 1), (I 0), (.string ⟨#[60, 80, 104, 49, 44, 49, 59, 49, 54, 62]⟩), (I 0), (I 0), (I 0), (I 0), (I 1), (I 16), (.string ⟨#[60, 68, 107, 55, 44, 48, 59, 101, 98, 62]⟩), (I 0), (I 0), (I 0), (I 0), (I 1), (I 0), (.string ⟨#[97, 98, 99]⟩), (I 0), (I 0), (I 0)]),
    (681, .cells true false [(I 2)]),
    (682, .cells true false [(I 1), (I 2)]),
    (683, .cells true false [(.slice (some ⟨682, 0, none⟩) 2 2)])],
  next := 688, v := (.tuple #[(.slice (some ⟨807, 0, some 3⟩) 1 1), (I 0)]),
  hl' := [(1, .cells false true [(.int .u8 0), (.int .u8 7), (.int .u8 14), (.int .u8 9), (.int .u8 28), (.int .u8 27), (.int .u8 18), (.int .u8 21), (.int .u8 56), (.int .u8 63), (.int .u8 54), (.int .u8 49), (.int .u8 36), (.int .u8 35), (.int .u8 42), (.int .u8 45)]),
    (423, .cells true false [(I 0), (I 1), (I 0), (.string ⟨#[60, 80, 104, 49, 44, 49, 59, 49, 54, 62]⟩), (I 0), (I 0), (I 0), (I 0), (I 1), (I 16), (.string ⟨#[60, 68, 107, 55, 44, 48, 59, 101, 98, 62]⟩), (I 0), (I 0), (I 0), (I 0), (I 1), (I 0), (.string ⟨#[97, 98, 99]⟩), (I 0), (I 0), (I 0)]),
    (681, .cells true false [(I 2)]),
    (682, .cells true false [(I 1), (I 2)]),
    (683, .cells true false [(.slice (some ⟨682, 0, none⟩) 2 2)]),
    (807, .cells true true [(I 0)])],
  next' := 809 }
theorem stC2 : gives ((runC Tryz.prog Fuel 60).call 7 entC2.args.toArray (mkHeap entC2.hl entC2.next NG)) entC2.v entC2.hl' entC2.next' NG = true := by kernel_rfl
theorem sndC2 : FSound Tryz.prog 7 entC2.args.toArray (mkHeap entC2.hl entC2.next NG) entC2.v (mkHeap entC2.hl' entC2.next' NG) := gives_ok (runC_sound fine Fuel 60) stC2
def entsC : List Ent := [entC0, entC1, entC2]
theorem sndsC : ∀ e ∈ entsC, FSound Tryz.prog 7 e.args.toArray (mkHeap e.hl e.next NG) e.v (mkHeap e.hl' e.next' NG) := by
  simp only [entsC, List.forall_mem_cons, List.not_mem_nil, false_implies, implies_true, and_true]
  exact ⟨sndC0, sndC1, sndC2⟩
end
end Go.Proofs.YthjinaagdfnmhaaGreatDoor
