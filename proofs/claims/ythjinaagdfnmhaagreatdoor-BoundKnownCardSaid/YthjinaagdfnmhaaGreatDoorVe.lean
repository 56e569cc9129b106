import Derived.Test.YthjinaagdfnmhaaGreatDoorVd
namespace Go.VE
open Go
set_option linter.unusedVariables false
set_option linter.unusedSimpArgs false

/-! ### Binary operators -/

def eqOp : BinOp → Bool
  | .eql | .neq => true
  | _ => false

def binS (op : BinOp) (t : TypeId) (xo yo : Operand) (x y : Value) : Sem Value := do eqGuard op t xo yo x y; binOp op t x y

/-- One of the two is nil, the other is not. -/
def nilcmp (P : Program) (op : BinOp) (t : TypeId) (x y : Value) : Option Value :=
  match P.underlying t, x, y with
  | some (.pointer _), .pointer (some _), .pointer none => some (.bool (op == .neq))
  | some (.pointer _), .pointer none, .pointer (some _) => some (.bool (op == .neq))
  | some (.slice _), .slice (some _) _ _, .slice none _ _ => some (.bool (op == .neq))
  | some (.slice _), .slice none _ _, .slice (some _) _ _ => some (.bool (op == .neq))
  | some (.map _ _), .map (some _), .map none => some (.bool (op == .neq))
  | some (.map _ _), .map none, .map (some _) => some (.bool (op == .neq))
  | some (.func _ _ _), .func _ _ _, .nilFunc => some (.bool (op == .neq))
  | some (.func _ _ _), .nilFunc, .func _ _ _ => some (.bool (op == .neq))
  | some (.interface _), .iface _ _, .nilIface => some (.bool (op == .neq))
  | some (.interface _), .nilIface, .iface _ _ => some (.bool (op == .neq))
  | _, _, _ => none

def pbin (P : Program) (op : BinOp) (t : TypeId) (xo yo : Operand) (x y : Value) : Option Value :=
  if flatB 8 x && flatB 8 y then (pureRun P (binS op t xo yo x y)).bind fun v => if flatB 8 v then some v else none
  else if eqOp op then nilcmp P op t x y else none

theorem bin_of {P : Program} {op : BinOp} (ho : eqOp op = true) {t : TypeId} {xo yo : Operand} {x y : Value} {d : TypeDesc} (hu : P.underlying t = some d)
    (hg : eqGuard op t xo yo x y = pure ()) (he : binOp .eql t x y = (do pure (.bool (← Op.equal t x y)))) (hn : binOp .neq t x y = (do pure (.bool (!(← Op.equal t x y)))))
    (hd : pureRun P (Op.equal t x y) = some false) : pureRun P (binS op t xo yo x y) = some (.bool (op == .neq)) := by
  unfold binS
  rw [hg, pure_bind]
  cases op <;> simp [eqOp] at ho
  · rw [he, pureRun_bind', hd]; rfl
  · rw [hn, pureRun_bind', hd]; rfl

theorem nilcmp_ok {P : Program} {ρ : Rho} {op : BinOp} (ho : eqOp op = true) {t : TypeId} {xo yo : Operand} {x y x' y' v : Value} (h : nilcmp P op t x y = some v) (rx : VRel ρ x x') (ry : VRel ρ y y') :
    pureRun P (binS op t xo yo x' y') = some v ∧ v = .bool (op == .neq) := by
  have g : ∀ {x y : Value}, (match x, y with | .nilIface, .nilIface => False | .agg _, .agg _ => False | _, _ => True) → eqGuard op t xo yo x y = pure () := by
    intro x y hxy
    cases op <;> simp [eqOp] at ho <;> cases x <;> cases y <;> first | rfl | exact hxy.elim
  have e : Op.maxDepth = 9999 + 1 := rfl
  unfold nilcmp at h
  split at h <;> first
    | (cases h; done)
    | (rename_i hu
       cases h
       cases rx <;> cases ry <;>
         (refine ⟨bin_of ho hu (g trivial) rfl rfl ?_, rfl⟩
          unfold Op.equal
          rw [e, Op.equalIn, pureRun_bind', pureRun_underlying, hu]
          rfl))

theorem pbin_ok {P : Program} {ρ : Rho} {op : BinOp} {t : TypeId} {xo yo : Operand} {x y x' y' v : Value} (h : pbin P op t xo yo x y = some v) (rx : VRel ρ x x') (ry : VRel ρ y y') :
    pureRun P (binS op t xo yo x' y') = some v ∧ VRel ρ v v := by
  unfold pbin at h
  split at h
  · rename_i hf
    simp only [Bool.and_eq_true] at hf
    rw [rx.flat_eq 8 hf.1, ry.flat_eq 8 hf.2]
    obtain ⟨u, h1, h2⟩ := bind_some_iff h
    obtain ⟨h3, h4⟩ := if_some h2
    cases h4
    exact ⟨h1, .of_flat 8 _ h3⟩
  · split at h
    · rename_i ho
      obtain ⟨h1, h2⟩ := nilcmp_ok (xo := xo) (yo := yo) ho h rx ry
      subst h2
      exact ⟨h1, .bool _⟩
    · cases h

end Go.VE
