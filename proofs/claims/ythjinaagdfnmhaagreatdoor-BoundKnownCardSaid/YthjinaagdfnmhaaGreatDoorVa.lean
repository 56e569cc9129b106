import Derived.RangeFuncLeaves
import Derived.OrdersIn
import Derived.Below
import Derived.KernelRfl
namespace Go.VE
open Go
set_option linter.unusedVariables false
set_option linter.unusedSimpArgs false

/-! ### Values: virtual and real -/

/-- Where a virtual block lies: the real block, its first cell, how many cells are known, and how many elements (of es cells) more it has room for. -/
structure Place where
  block : Nat
  base : Nat
  size : Nat
  es : Nat
  extra : Nat

def Place.top (p : Place) : Nat := p.base + p.size + p.extra * p.es

abbrev Rho := Nat → Option Place

inductive FRel (ρ : Rho) : Fn → Fn → Prop
  | func (f : FuncId) : FRel ρ (.func f) (.func f)
  | yield {l : Nat} {p : Place} (h : ρ l = some p) : FRel ρ (.yield l) (.yield p.block)

inductive VRel (ρ : Rho) : Value → Value → Prop
  | bool (b : Bool) : VRel ρ (.bool b) (.bool b)
  | int (k : IntKind) (n : Int) : VRel ρ (.int k n) (.int k n)
  | string (s : ByteArray) : VRel ρ (.string s) (.string s)
  | float (k : FloatKind) (x : Nat) : VRel ρ (.float k x) (.float k x)
  | complex (k : FloatKind) (x y : Nat) : VRel ρ (.complex k x y) (.complex k x y)
  | nilChan : VRel ρ (.chan none) (.chan none)
  | nilPtr : VRel ρ (.pointer none) (.pointer none)
  | ptr {v o : Nat} {p : Place} (h : ρ v = some p) : VRel ρ (.pointer (some ⟨v, o, none⟩)) (.pointer (some ⟨p.block, p.base + o, none⟩))
  | nilSlice : VRel ρ (.slice none 0 0) (.slice none 0 0)
  | slice {v o l c : Nat} {p : Place} (h : ρ v = some p) :
      VRel ρ (.slice (some ⟨v, o, none⟩) l c) (.slice (some ⟨p.block, p.base + o, none⟩) l c)
  | sliceO {v o l c c' k : Nat} {p : Place} (h : ρ v = some p) (hk : p.es = k) (hc : c' = c ∨ (o + c * k = p.size ∧ c' = c + p.extra)) :
      VRel ρ (.slice (some ⟨v, o, some (k + 2)⟩) l c) (.slice (some ⟨p.block, p.base + o, none⟩) l c')
  | sliceV {v o c : Nat} {a : Addr} : VRel ρ (.slice (some ⟨v, o, some 1⟩) 0 0) (.slice (some a) 0 c)
  | nilMap : VRel ρ (.map none) (.map none)
  | map {v : Nat} {p : Place} (h : ρ v = some p) : VRel ρ (.map (some v)) (.map (some p.block))
  | func {f f' : Fn} {fs fs' cs cs' : Array Value} (hf : FRel ρ f f') (s1 : fs'.size = fs.size) (h1 : ∀ i, i < fs.size → VRel ρ (fs.getD i undef) (fs'.getD i undef))
      (s2 : cs'.size = cs.size) (h2 : ∀ i, i < cs.size → VRel ρ (cs.getD i undef) (cs'.getD i undef)) : VRel ρ (.func f fs cs) (.func f' fs' cs')
  | nilFunc : VRel ρ .nilFunc .nilFunc
  | iface {t : TypeId} {v v' : Value} (h : VRel ρ v v') : VRel ρ (.iface t v) (.iface t v')
  | nilIface : VRel ρ .nilIface .nilIface
  | agg {cs cs' : Array Value} (s : cs'.size = cs.size) (h : ∀ i, i < cs.size → VRel ρ (cs.getD i undef) (cs'.getD i undef)) : VRel ρ (.agg cs) (.agg cs')
  | tuple {cs cs' : Array Value} (s : cs'.size = cs.size) (h : ∀ i, i < cs.size → VRel ρ (cs.getD i undef) (cs'.getD i undef)) : VRel ρ (.tuple cs) (.tuple cs')

theorem VRel.undef {ρ : Rho} : VRel ρ undef undef := .tuple rfl fun i h => absurd h (by simp)

def Rho.le (ρ ρ' : Rho) : Prop := ∀ v p, ρ v = some p → ρ' v = some p
theorem Rho.le.refl (ρ : Rho) : ρ.le ρ := fun _ _ h => h
theorem Rho.le.trans {a b c : Rho} (h : a.le b) (k : b.le c) : a.le c := fun v p e => k v p (h v p e)

theorem FRel.mono {ρ ρ' : Rho} (hl : ρ.le ρ') {a b : Fn} (h : FRel ρ a b) : FRel ρ' a b := by
  cases h with
  | func f => exact .func f
  | yield h => exact .yield (hl _ _ h)

theorem VRel.mono {ρ ρ' : Rho} (hl : ρ.le ρ') {a b : Value} (h : VRel ρ a b) : VRel ρ' a b := by
  induction h with
  | bool b => exact .bool b
  | int k n => exact .int k n
  | string s => exact .string s
  | float k x => exact .float k x
  | complex k x y => exact .complex k x y
  | nilChan => exact .nilChan
  | nilPtr => exact .nilPtr
  | ptr h => exact .ptr (hl _ _ h)
  | nilSlice => exact .nilSlice
  | slice h => exact .slice (hl _ _ h)
  | sliceO h hk hc => exact .sliceO (hl _ _ h) hk hc
  | sliceV => exact .sliceV
  | nilMap => exact .nilMap
  | map h => exact .map (hl _ _ h)
  | func hf s1 _ s2 _ ih1 ih2 => exact .func (hf.mono hl) s1 ih1 s2 ih2
  | nilFunc => exact .nilFunc
  | iface _ ih => exact .iface ih
  | nilIface => exact .nilIface
  | agg s _ ih => exact .agg s ih
  | tuple s _ ih => exact .tuple s ih

/-- Arrays of values. -/
def ARel (ρ : Rho) (a a' : Array Value) : Prop := a'.size = a.size ∧ ∀ i, VRel ρ (a.getD i Go.undef) (a'.getD i Go.undef)

theorem ARel.of {ρ : Rho} {a a' : Array Value} (s : a'.size = a.size) (h : ∀ i, i < a.size → VRel ρ (a.getD i Go.undef) (a'.getD i Go.undef)) : ARel ρ a a' := by
  refine ⟨s, fun i => ?_⟩
  rcases Nat.lt_or_ge i a.size with hi | hi
  · exact h i hi
  · have e1 : a.getD i Go.undef = Go.undef := by simp [Array.getD, Nat.not_lt.2 hi]
    have e2 : a'.getD i Go.undef = Go.undef := by simp [Array.getD, s, Nat.not_lt.2 hi]
    rw [e1, e2]; exact .undef
theorem ARel.mono {ρ ρ' : Rho} (hl : ρ.le ρ') {a b : Array Value} (h : ARel ρ a b) : ARel ρ' a b := ⟨h.1, fun i => (h.2 i).mono hl⟩
theorem ARel.agg {ρ : Rho} {a b : Array Value} (h : ARel ρ a b) : VRel ρ (.agg a) (.agg b) := .agg h.1 fun i _ => h.2 i
theorem ARel.tuple {ρ : Rho} {a b : Array Value} (h : ARel ρ a b) : VRel ρ (.tuple a) (.tuple b) := .tuple h.1 fun i _ => h.2 i
theorem ARel.get {ρ : Rho} {a b : Array Value} (h : ARel ρ a b) {i : Nat} {x : Value} (hx : a[i]? = some x) : ∃ y, b[i]? = some y ∧ VRel ρ x y := by
  obtain ⟨hi, rfl⟩ := Array.getElem?_eq_some_iff.1 hx
  refine ⟨b[i]'(by rw [h.1]; exact hi), by simp [h.1, hi], ?_⟩
  have := h.2 i
  simpa [Array.getD, hi, h.1] using this
theorem ARel.none {ρ : Rho} {a b : Array Value} (h : ARel ρ a b) {i : Nat} (hx : a[i]? = none) : b[i]? = none := by
  rw [Array.getElem?_eq_none_iff] at hx ⊢
  rw [h.1]; exact hx
theorem ARel.of_get {ρ : Rho} {a b : Array Value} (s : b.size = a.size) (h : ∀ (i : Nat) (x y : Value), a[i]? = some x → b[i]? = some y → VRel ρ x y) : ARel ρ a b := by
  refine .of s fun i hi => ?_
  have := h i a[i] (b[i]'(by rw [s]; exact hi)) (by simp [hi]) (by simp [s, hi])
  simpa [Array.getD, hi, s] using this
theorem ARel.nil {ρ : Rho} : ARel ρ #[] #[] := .of rfl fun i h => absurd h (by simp)
theorem ARel.append {ρ : Rho} {a b c d : Array Value} (h : ARel ρ a b) (k : ARel ρ c d) : ARel ρ (a ++ c) (b ++ d) := by
  refine .of_get (by simp [h.1, k.1]) fun i x y hx hy => ?_
  rw [Array.getElem?_append] at hx hy
  rw [h.1] at hy
  split at hx
  · rename_i hi
    rw [if_pos hi] at hy
    obtain ⟨z, hz, r⟩ := h.get hx
    rw [hz] at hy; cases hy; exact r
  · rename_i hi
    rw [if_neg hi] at hy
    obtain ⟨z, hz, r⟩ := k.get hx
    rw [hz] at hy; cases hy; exact r
theorem ARel.push {ρ : Rho} {a b : Array Value} {x y : Value} (h : ARel ρ a b) (k : VRel ρ x y) : ARel ρ (a.push x) (b.push y) := by
  refine .of_get (by simp [h.1]) fun i u v hx hy => ?_
  rw [Array.getElem?_push] at hx hy
  rw [h.1] at hy
  split at hx
  · rename_i hi
    rw [if_pos hi] at hy
    cases hx; cases hy; exact k
  · rename_i hi
    rw [if_neg hi] at hy
    obtain ⟨z, hz, r⟩ := h.get hx
    rw [hz] at hy; cases hy; exact r
theorem ARel.set {ρ : Rho} {a b : Array Value} {x y : Value} (h : ARel ρ a b) (k : VRel ρ x y) (d : Nat) : ARel ρ (a.setIfInBounds d x) (b.setIfInBounds d y) := by
  refine .of_get (by simp [h.1]) fun i u v hx hy => ?_
  rw [Array.getElem?_setIfInBounds] at hx hy
  rw [h.1] at hy
  split at hx
  · rename_i hi
    rw [if_pos hi] at hy
    split at hx
    · rename_i hd
      rw [if_pos hd] at hy
      cases hx; cases hy; exact k
    · cases hx
  · rename_i hi
    rw [if_neg hi] at hy
    obtain ⟨z, hz, r⟩ := h.get hx
    rw [hz] at hy; cases hy; exact r
theorem ARel.extract {ρ : Rho} {a b : Array Value} (h : ARel ρ a b) (i j : Nat) : ARel ρ (a.extract i j) (b.extract i j) := by
  refine .of_get (by simp [h.1]) fun k u v hx hy => ?_
  rw [Array.getElem?_extract] at hx hy
  rw [h.1] at hy
  split at hx
  · rename_i hi
    rw [if_pos hi] at hy
    obtain ⟨z, hz, r⟩ := h.get hx
    rw [hz] at hy; cases hy; exact r
  · cases hx
theorem VRel.of_agg {ρ : Rho} {a : Array Value} {v : Value} (h : VRel ρ (.agg a) v) : ∃ b, v = .agg b ∧ ARel ρ a b := by
  cases h with | agg s h => exact ⟨_, rfl, .of s h⟩
theorem VRel.of_tuple {ρ : Rho} {a : Array Value} {v : Value} (h : VRel ρ (.tuple a) v) : ∃ b, v = .tuple b ∧ ARel ρ a b := by
  cases h with | tuple s h => exact ⟨_, rfl, .of s h⟩

theorem VRel.cells {ρ : Rho} {v v' : Value} (h : VRel ρ v v') : ARel ρ v.cells v'.cells := by
  have one : ∀ {a b : Value}, VRel ρ a b → ARel ρ #[a] #[b] := fun r => by
    simpa using (ARel.nil (ρ := ρ)).push r
  cases h with
  | agg s h => exact .of s h
  | bool b => exact one (.bool b)
  | int k n => exact one (.int k n)
  | string s => exact one (.string s)
  | float k x => exact one (.float k x)
  | complex k x y => exact one (.complex k x y)
  | nilChan => exact one .nilChan
  | nilPtr => exact one .nilPtr
  | ptr h => exact one (.ptr h)
  | nilSlice => exact one .nilSlice
  | slice h => exact one (.slice h)
  | sliceO h hk hc => exact one (.sliceO h hk hc)
  | sliceV => exact one .sliceV
  | nilMap => exact one .nilMap
  | map h => exact one (.map h)
  | func hf s1 h1 s2 h2 => exact one (.func hf s1 h1 s2 h2)
  | nilFunc => exact one .nilFunc
  | iface h => exact one (.iface h)
  | nilIface => exact one .nilIface
  | tuple s h => exact one (.tuple s h)

theorem VRel.oneCell {ρ : Rho} {v v' : Value} (h : VRel ρ v v') : v'.oneCell' = v.oneCell' := by cases h <;> rfl

/-! ### Values without an address -/

def flatB : Nat → Value → Bool
  | 0, _ => false
  | n + 1, v => match v with
    | .bool _ | .int _ _ | .string _ | .pointer none | .map none | .nilFunc | .nilIface | .float _ _ | .complex _ _ _ | .chan none => true
    | .slice none l c => l == 0 && c == 0
    | .iface _ v => flatB n v
    | .agg cs | .tuple cs => cs.all (flatB n)
    | .func (.func _) fs cs => fs.all (flatB n) && cs.all (flatB n)
    | _ => false

theorem VRel.of_flat {ρ : Rho} : ∀ (n : Nat) (v : Value), flatB n v = true → VRel ρ v v := by
  intro n
  induction n with
  | zero => intro v h; cases h
  | succ n ih =>
    have arr : ∀ cs : Array Value, cs.all (flatB n) = true → ∀ i, i < cs.size → VRel ρ (cs.getD i Go.undef) (cs.getD i Go.undef) := by
      intro cs h i hi
      have := (Array.all_eq_true.1 h) i hi
      simpa [Array.getD, hi] using ih _ this
    intro v h
    unfold flatB at h
    split at h
    case h_1 b => exact .bool b
    case h_2 k n => exact .int k n
    case h_3 s => exact .string s
    case h_4 => exact .nilPtr
    case h_5 => exact .nilMap
    case h_6 => exact .nilFunc
    case h_7 => exact .nilIface
    case h_8 k x => exact .float k x
    case h_9 k x y => exact .complex k x y
    case h_10 => exact .nilChan
    case h_11 l c =>
      simp at h
      obtain ⟨rfl, rfl⟩ := h
      exact .nilSlice
    case h_12 t v => exact .iface (ih _ h)
    case h_13 cs => exact .agg rfl (arr _ h)
    case h_14 cs => exact .tuple rfl (arr _ h)
    case h_15 f fs cs =>
      simp only [Bool.and_eq_true] at h
      exact .func (.func f) rfl (arr _ h.1) rfl (arr _ h.2)
    case h_16 => cases h

/-- A value without an address stands for itself alone. -/
theorem VRel.flat_eq {ρ : Rho} {v v' : Value} (h : VRel ρ v v') : ∀ n, flatB n v = true → v' = v := by
  have arr : ∀ (n : Nat) {cs cs' : Array Value}, cs'.size = cs.size → (∀ i, i < cs.size → ∀ n, flatB n (cs.getD i Go.undef) = true → cs'.getD i Go.undef = cs.getD i Go.undef) → cs.all (flatB n) = true → cs' = cs := by
    intro n cs cs' s ih hf
    refine Array.ext s fun i h1 h2 => ?_
    have hb := (Array.all_eq_true.1 hf) i h2
    have := ih i h2 n (by simpa [Array.getD, h2] using hb)
    simpa [Array.getD, h1, h2] using this
  induction h with
  | bool b => intros; rfl
  | int k n => intros; rfl
  | string s => intros; rfl
  | float k x => intros; rfl
  | complex k x y => intros; rfl
  | nilChan => intros; rfl
  | nilPtr => intros; rfl
  | ptr h => intro n hf; cases n <;> simp [flatB] at hf
  | nilSlice => intros; rfl
  | slice h => intro n hf; cases n <;> simp [flatB] at hf
  | sliceO h hk hc => intro n hf; cases n <;> simp [flatB] at hf
  | sliceV => intro n hf; cases n <;> simp [flatB] at hf
  | nilMap => intros; rfl
  | map h => intro n hf; cases n <;> simp [flatB] at hf
  | func hf s1 _ s2 _ ih1 ih2 =>
    intro n hf'
    cases n with
    | zero => cases hf'
    | succ n =>
      cases hf with
      | func f =>
        simp only [flatB, Bool.and_eq_true] at hf'
        rw [arr n s1 ih1 hf'.1, arr n s2 ih2 hf'.2]
      | yield h => simp [flatB] at hf'
  | nilFunc => intros; rfl
  | iface _ ih =>
    intro n hf
    cases n with
    | zero => cases hf
    | succ n => rw [ih n hf]
  | nilIface => intros; rfl
  | agg s _ ih =>
    intro n hf
    cases n with
    | zero => cases hf
    | succ n => rw [arr n s ih hf]
  | tuple s _ ih =>
    intro n hf
    cases n with
    | zero => cases hf
    | succ n => rw [arr n s ih hf]

end Go.VE
