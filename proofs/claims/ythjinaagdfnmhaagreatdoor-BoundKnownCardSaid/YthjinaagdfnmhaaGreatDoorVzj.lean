import Derived.Test.YthjinaagdfnmhaaGreatDoorVzi
namespace Go.VE
open Go
set_option linter.unusedVariables false

noncomputable section

def hasNext (es : List Ent) (n : Nat) : Bool := List.rec (motive := fun _ => Bool) false (fun e _ ih => cond (Nat.beq e.next n) true ih) es

/-- The same; a call that is not in the table is made. -/
def memoQ (g ng : Nat) (es : List Ent) (R : Rec) : Rec := ⟨R.ext, fun f args h => cond (Nat.beq f g) (cond (hasNext es h.next) (lookK ng args h es) (R.call f args h)) (R.call f args h), R.code⟩

theorem memoQ_cases {g ng : Nat} {es : List Ent} {R : Rec} {f : FuncId} {args : Array Value} {h : AHeap} {r : Value × AHeap} (hs : (memoQ g ng es R).call f args h = some r) : (memoK g ng es R).call f args h = some r ∨ R.call f args h = some r := by
  have hs' : cond (Nat.beq f g) (cond (hasNext es h.next) (lookK ng args h es) (R.call f args h)) (R.call f args h) = some r := hs
  cases hf : Nat.beq f g with
  | false => rw [hf] at hs'; exact .inr hs'
  | true =>
    rw [hf] at hs'
    cases hn : hasNext es h.next with
    | false => rw [hn] at hs'; exact .inr hs'
    | true =>
      rw [hn] at hs'
      refine .inl ?_
      show cond (Nat.beq f g) (lookK ng args h es) (R.call f args h) = some r
      rw [hf]
      exact hs'

theorem memoQ_sound {P : Program} {R : Rec} (RS : RSound P R) {g ng : Nat} {es : List Ent} (hE : ∀ e ∈ es, FSound P g e.args.toArray (mkHeap e.hl e.next ng) e.v (mkHeap e.hl' e.next' ng)) : RSound P (memoQ g ng es R) := by
  refine ⟨RS.ext, fun f args h v h' hs => ?_, RS.code⟩
  rcases memoQ_cases hs with k | k
  · exact (memoK_sound RS hE).call f args h v h' k
  · exact RS.call f args h v h' k

theorem memoQ_fr {R : Rec} (RF : RFr R) {g ng : Nat} {es : List Ent} : RFr (memoQ g ng es R) := by
  refine ⟨fun f args h v h' hs => ?_, RF.code⟩
  rcases memoQ_cases hs with k | k
  · exact (memoK_fr RF (g := g) (ng := ng) (es := es)).call f args h v h' k
  · exact RF.call f args h v h' k

end
end Go.VE
