import Derived.Test.YthjinaagdfnmhaaGreatDoorVzh
namespace Go.VE
open Go
set_option linter.unusedVariables false
set_option linter.unusedSimpArgs false

noncomputable section

/-! ### Calls of functions without arguments that read the program's tables alone -/

/-- The tables: block i holds the i-th row; an empty row: a variable of which nothing is said. -/
def tabs : Nat → List (List Value) → List (Nat × Blk)
  | _, [] => []
  | i, [] :: l => tabs (i + 1) l
  | i, (c :: cs) :: l => (i, .cells false true (c :: cs)) :: tabs (i + 1) l
def tabHeap (T : List (List Value)) : AHeap := mkHeap (tabs 0 T) T.length T.length

theorem tabs_mem : ∀ (T : List (List Value)) (i : Nat) (u : Nat) (B : Blk), (u, B) ∈ tabs i T → u < i + T.length ∧ ∃ cs ∈ T, B = .cells false true cs := by
  intro T
  induction T with
  | nil => intro i u B h; cases h
  | cons cs T ih =>
    intro i u B h
    cases cs with
    | nil =>
      obtain ⟨h1, c, h2, h3⟩ := ih _ _ _ h
      refine ⟨by simp only [List.length_cons]; omega, c, List.mem_cons_of_mem _ h2, h3⟩
    | cons c cs =>
      rcases List.mem_cons.1 h with e | h
      · cases e
        exact ⟨by simp, _, List.mem_cons_self .., rfl⟩
      · obtain ⟨h1, c, h2, h3⟩ := ih _ _ _ h
        refine ⟨by simp only [List.length_cons]; omega, c, List.mem_cons_of_mem _ h2, h3⟩

def subT (l : List (Nat × Blk)) (h : AHeap) : Bool :=
  List.rec (motive := fun _ => Bool) true (fun p _ ih => match p.2 with
    | .cells _ _ cs => match hget h p.1 with | some (.cells _ _ ds) => cond (allEq (veq 9) cs ds) ih false | _ => false
    | _ => false) l
theorem subT_ok : ∀ (l : List (Nat × Blk)) (h : AHeap), subT l h = true → ∀ v w g cs, (v, Blk.cells w g cs) ∈ l → ∃ w' g', h.blk v = some (.cells w' g' cs) := by
  intro l h
  induction l with
  | nil => intro _ v w g cs hm; cases hm
  | cons p l ih =>
    intro hs v w g cs hm
    obtain ⟨i, B⟩ := p
    cases B with
    | cells w0 g0 cs0 =>
      have hs' : (match hget h i with | some (.cells _ _ ds) => cond (allEq (veq 9) cs0 ds) (subT l h) false | _ => false) = true := hs
      rw [hget_eq] at hs'
      split at hs'
      case h_2 => cases hs'
      rename_i ds hC
      cases hb : allEq (veq 9) cs0 ds with
      | false => rw [hb] at hs'; cases hs'
      | true =>
        rw [hb] at hs'
        rcases List.mem_cons.1 hm with e | hm
        · cases e
          exact ⟨_, _, hC.trans (by rw [allEq_ok (veq_ok 9) _ _ hb])⟩
        · exact ih hs' v w g cs hm
    | _ => cases hs

def memoF (g : FuncId) (T : List (List Value)) (v : Value) (R : Rec) : Rec :=
  ⟨R.ext, fun f args h => cond (Nat.beq f g) (cond (allEq (veq 9) args.toList [] && subT (tabs 0 T) h && Nat.ble T.length h.next && Nat.ble T.length h.ng) (some (v, h)) none) (R.call f args h), R.code⟩

def flatT (T : List (List Value)) : Bool := T.all fun cs => cs.all (flatB 8)

theorem FSound.forgetT {P : Program} {f : FuncId} {T : List (List Value)} {H' h : AHeap} {v : Value} (S : FSound P f #[] (tabHeap T) v H') (hv : flatB 8 v = true) (hT : flatT T = true)
    (h1 : subT (tabs 0 T) h = true) (h2 : T.length ≤ h.next) (h3 : T.length ≤ h.ng) : FSound P f #[] h v h := by
  refine S.forget hv h2 h3 (Nat.le_refl _) (fun u hu => ?_) (fun u B hu => ?_) (fun u B hu => ?_)
  · cases hb : (tabHeap T).blk u with
    | none => rfl
    | some B =>
      obtain ⟨k, _⟩ := tabs_mem _ _ _ _ (mkHeap_blk hb)
      have : T.length ≤ u := hu
      omega
  · obtain ⟨_, cs, _, rfl⟩ := tabs_mem _ _ _ _ (mkHeap_blk hu)
    rfl
  · have hm := mkHeap_blk hu
    obtain ⟨_, cs, hc, rfl⟩ := tabs_mem _ _ _ _ hm
    obtain ⟨w', g', hb⟩ := subT_ok _ _ h1 _ _ _ _ hm
    refine ⟨fun x hx => ⟨fun _ => none, x, fun _ _ => rfl, .of_flat 8 _ ?_⟩, w', g', cs, rfl, hb⟩
    exact List.all_eq_true.1 (List.all_eq_true.1 hT _ hc) _ hx

theorem memoF_sound {P : Program} {R : Rec} (RS : RSound P R) {g : FuncId} {T : List (List Value)} {v : Value} {H' : AHeap} (S : FSound P g #[] (tabHeap T) v H') (hv : flatB 8 v = true) (hT : flatT T = true) : RSound P (memoF g T v R) := by
  refine ⟨RS.ext, fun f args h u h' hs => ?_, RS.code⟩
  have hs' : cond (Nat.beq f g) (cond (allEq (veq 9) args.toList [] && subT (tabs 0 T) h && Nat.ble T.length h.next && Nat.ble T.length h.ng) (some (v, h)) none) (R.call f args h) = some (u, h') := hs
  cases hf : Nat.beq f g with
  | false => rw [hf] at hs'; exact RS.call f args h u h' hs'
  | true =>
    rw [hf] at hs'
    have := Nat.eq_of_beq_eq_true hf
    subst this
    cases hc : (allEq (veq 9) args.toList [] && subT (tabs 0 T) h && Nat.ble T.length h.next && Nat.ble T.length h.ng) with
    | false => rw [hc] at hs'; cases hs'
    | true =>
      rw [hc] at hs'
      cases hs'
      simp only [Bool.and_eq_true] at hc
      have ha : args = #[] := Array.toList_inj.1 (allEq_ok (veq_ok 9) _ _ hc.1.1.1)
      rw [ha]
      exact S.forgetT hv hT hc.1.1.2 (Nat.le_of_ble_eq_true hc.1.2) (Nat.le_of_ble_eq_true hc.2)

theorem memoF_fr {R : Rec} (RF : RFr R) {g : FuncId} {T : List (List Value)} {v : Value} : RFr (memoF g T v R) := by
  refine ⟨fun f args h u h' hs => ?_, RF.code⟩
  have hs' : cond (Nat.beq f g) (cond (allEq (veq 9) args.toList [] && subT (tabs 0 T) h && Nat.ble T.length h.next && Nat.ble T.length h.ng) (some (v, h)) none) (R.call f args h) = some (u, h') := hs
  cases hf : Nat.beq f g with
  | false => rw [hf] at hs'; exact RF.call f args h u h' hs'
  | true =>
    rw [hf] at hs'
    cases hc : (allEq (veq 9) args.toList [] && subT (tabs 0 T) h && Nat.ble T.length h.next && Nat.ble T.length h.ng) with
    | false => rw [hc] at hs'; cases hs'
    | true => rw [hc] at hs'; cases hs'; exact .refl _

def I (n : Int) : Value := .int .i64 n

end
end Go.VE
