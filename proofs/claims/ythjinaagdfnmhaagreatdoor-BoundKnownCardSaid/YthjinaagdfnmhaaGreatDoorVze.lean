import Derived.Test.YthjinaagdfnmhaaGreatDoorVzd
namespace Go.VE
open Go
set_option linter.unusedVariables false
set_option linter.unusedSimpArgs false

noncomputable section

/-! ### Values and heaps compared -/

def oNat : Option Nat → Option Nat → Bool
  | none, none => true
  | some a, some b => Nat.beq a b
  | _, _ => false
theorem oNat_ok {a b : Option Nat} (h : oNat a b = true) : a = b := by
  cases a <;> cases b <;> first | rfl | cases h | exact congrArg some (Nat.eq_of_beq_eq_true h)
def oAddr : Option Addr → Option Addr → Bool
  | none, none => true
  | some a, some b => Nat.beq a.block b.block && Nat.beq a.off b.off && oNat a.spot b.spot
  | _, _ => false
theorem oAddr_ok {a b : Option Addr} (h : oAddr a b = true) : a = b := by
  cases a <;> cases b <;> first | rfl | (cases h; done) | skip
  rename_i a b
  simp only [oAddr, Bool.and_eq_true] at h
  obtain ⟨a1, a2, a3⟩ := a
  obtain ⟨b1, b2, b3⟩ := b
  have h1 := Nat.eq_of_beq_eq_true h.1.1
  have h2 := Nat.eq_of_beq_eq_true h.1.2
  have h3 := oNat_ok h.2
  simp only at h1 h2 h3
  subst h1; subst h2; subst h3; rfl

def allEq (f : Value → Value → Bool) : List Value → List Value → Bool
  | [], [] => true
  | a :: as, b :: bs => cond (f a b) (allEq f as bs) false
  | _, _ => false
theorem allEq_ok {f : Value → Value → Bool} (hf : ∀ a b, f a b = true → a = b) : ∀ as bs, allEq f as bs = true → as = bs := by
  intro as
  induction as with
  | nil => intro bs h; cases bs <;> first | rfl | cases h
  | cons a as ih =>
    intro bs h
    cases bs with
    | nil => cases h
    | cons b bs =>
      simp only [allEq] at h
      cases hab : f a b with
      | false => rw [hab] at h; cases h
      | true => rw [hab] at h; rw [hf a b hab, ih bs h]

def veq : Nat → Value → Value → Bool
  | 0, _, _ => false
  | n + 1, x, y => match x with
    | .bool a => match y with | .bool b => a == b | _ => false
    | .int j a => match y with | .int k b => decide (j = k) && decide (a = b) | _ => false
    | .string a => match y with | .string b => decide (a = b) | _ => false
    | .pointer a => match y with | .pointer b => oAddr a b | _ => false
    | .slice a l c => match y with | .slice b l' c' => oAddr a b && Nat.beq l l' && Nat.beq c c' | _ => false
    | .map a => match y with | .map b => oNat a b | _ => false
    | .func f fs cs => match y with | .func g gs ds => decide (f = g) && allEq (veq n) fs.toList gs.toList && allEq (veq n) cs.toList ds.toList | _ => false
    | .nilFunc => match y with | .nilFunc => true | _ => false
    | .iface t a => match y with | .iface u b => Nat.beq t u && veq n a b | _ => false
    | .nilIface => match y with | .nilIface => true | _ => false
    | .agg a => match y with | .agg b => allEq (veq n) a.toList b.toList | _ => false
    | .tuple a => match y with | .tuple b => allEq (veq n) a.toList b.toList | _ => false
    | _ => false

theorem veq_ok : ∀ n x y, veq n x y = true → x = y := by
  intro n
  induction n with
  | zero => intro x y h; cases h
  | succ n ih =>
    intro x y h
    have arr : ∀ {a b : Array Value}, allEq (veq n) a.toList b.toList = true → a = b := fun h => Array.toList_inj.1 (allEq_ok ih _ _ h)
    cases x <;> cases y <;> simp only [veq, Bool.and_eq_true, decide_eq_true_eq, beq_iff_eq, reduceCtorEq, Bool.false_eq_true] at h
    · rw [h]
    · rw [h.1, h.2]
    · rw [h]
    · rw [oAddr_ok h]
    · rw [oAddr_ok h.1.1, Nat.eq_of_beq_eq_true h.1.2, Nat.eq_of_beq_eq_true h.2]
    · rw [oNat_ok h]
    · rw [h.1.1, arr h.1.2, arr h.2]
    · rfl
    · rw [Nat.eq_of_beq_eq_true h.1, ih _ _ h.2]
    · rfl
    · rw [arr h]
    · rw [arr h]

end
end Go.VE
