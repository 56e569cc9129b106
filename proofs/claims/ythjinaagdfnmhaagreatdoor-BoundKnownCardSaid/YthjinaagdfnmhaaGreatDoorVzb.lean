import Derived.Test.YthjinaagdfnmhaaGreatDoorVza
namespace Go.VE
open Go
set_option linter.unusedVariables false
set_option linter.unusedSimpArgs false

/-! ### Zero values are flat -/

def goodZ (z : Value) : Prop := z.cells.all (flatB 7) = true ∧ flatB 8 z = true

theorem goodZ.agg {cs : Array Value} (h : cs.all (flatB 7) = true) : goodZ (.agg cs) := ⟨h, h⟩

theorem forIn_inv {α β : Type} {f : α → β → Option (ForInStep β)} (I : β → Prop) (hf : ∀ a b s, I b → f a b = some s → match s with | .yield b' => I b' | .done b' => I b') : ∀ (l : List α) (b r : β), I b → forIn l b f = some r → I r := by
  intro l
  induction l with
  | nil => intro b r hb h; simp at h; subst h; exact hb
  | cons a l ih =>
    intro b r hb h
    rw [List.forIn_cons] at h
    cases hs : f a b with
    | none => rw [hs] at h; cases h
    | some s =>
      rw [hs] at h
      have := hf a b s hb hs
      cases s with
      | done b' => cases h; exact this
      | yield b' => exact ih b' r this h

theorem reckonStruct_zero {info : TypeId → Option TypeInfo} (hinfo : ∀ t i z, info t = some i → i.zero = some z → goodZ z) {fs : Array Field} {i : TypeInfo} {z : Value} (h : Made.reckonStruct info fs = some i) (hz : i.zero = some z) : goodZ z := by
  unfold Made.reckonStruct at h
  simp only [bind, Option.bind_eq_some_iff, pure] at h
  obtain ⟨a, ha, h⟩ := h
  rw [← Array.forIn_toList] at ha
  have hI := forIn_inv (fun (s : Array Field × Nat × Nat × Nat × Nat × Bool × Bool × Option (Array Value) × String) => ∀ z, s.2.2.2.2.2.2.2.1 = some z → z.all (flatB 7) = true) (fun f b s hb hs => by
    obtain ⟨i, hi, hs⟩ := Option.bind_eq_some_iff.1 hs
    have key : ∀ (c : Prop) [Decidable c] (z : Array Value), (if c then none else b.2.2.2.2.2.2.2.1.bind fun z0 => i.zero.bind fun zi => some (z0 ++ zi.cells)) = some z → z.all (flatB 7) = true := by
      intro c _ z hz
      split at hz
      · cases hz
      · obtain ⟨z0, h0, hz⟩ := Option.bind_eq_some_iff.1 hz
        obtain ⟨zi, h1, hz⟩ := Option.bind_eq_some_iff.1 hz
        cases hz
        rw [Array.all_append, hb z0 h0, (hinfo _ _ _ hi h1).1]
        rfl
    by_cases h1 : i.str.isEmpty = true
    · rw [if_pos h1] at hs; cases hs
    rw [if_neg h1] at hs
    by_cases h2 : f.embedded = true
    · rw [if_pos h2] at hs; cases hs
    rw [if_neg h2] at hs
    by_cases h3 : f.tag.isEmpty = true
    · rw [if_pos h3] at hs
      obtain ⟨tag, _, hs⟩ := Option.bind_eq_some_iff.1 hs
      by_cases h4 : i.bytes = 0
      · rw [if_pos h4] at hs; cases hs; exact fun z hz => key _ z hz
      · rw [if_neg h4] at hs; cases hs; exact fun z hz => key _ z hz
    · rw [if_neg h3] at hs
      obtain ⟨tag, _, hs⟩ := Option.bind_eq_some_iff.1 hs
      by_cases h4 : i.bytes = 0
      · rw [if_pos h4] at hs; cases hs; exact fun z hz => key _ z hz
      · rw [if_neg h4] at hs; cases hs; exact fun z hz => key _ z hz) fs.toList _ a (fun z hz => by cases hz; simp) ha
  have hz' : ∃ cs, a.2.2.2.2.2.2.2.1 = some cs ∧ z = .agg cs := by
    split at h <;> (cases h; simp only [Option.map_eq_some_iff] at hz; obtain ⟨cs, h1, h2⟩ := hz; exact ⟨cs, h1, h2.symm⟩)
  obtain ⟨cs, h1, rfl⟩ := hz'
  exact .agg (hI cs h1)

theorem reckon_zero {info : TypeId → Option TypeInfo} (hinfo : ∀ t i z, info t = some i → i.zero = some z → goodZ z) {d : TypeDesc} {i : TypeInfo} {z : Value} (h : Made.reckon info d = some i) (hz : i.zero = some z) : goodZ z := by
  cases d with
  | struct fs => exact reckonStruct_zero hinfo h hz
  | array n e =>
    simp only [Made.reckon, bind, Option.bind_eq_some_iff, pure] at h
    obtain ⟨j, hj, s, _, h⟩ := h
    cases h
    simp only at hz
    split at hz
    · cases hz
    · split at hz
      · cases hz; exact .agg (by simp)
      · simp only [Option.map_eq_some_iff] at hz
        obtain ⟨zj, h1, rfl⟩ := hz
        refine .agg ?_
        have := (hinfo _ _ _ hj h1).1
        rw [Array.all_eq_true_iff_forall_mem] at this ⊢
        intro x hx
        rw [Array.mem_flatten] at hx
        obtain ⟨ys, hys, hx⟩ := hx
        rw [Array.mem_replicate] at hys
        rw [hys.2] at hx
        exact this x hx
  | pointer e =>
    simp only [Made.reckon, bind, Option.bind_eq_some_iff, pure] at h
    obtain ⟨j, hj, h⟩ := h
    have key : ∀ s, Made.word (.pointer e) s (.pointer none) true = i → goodZ z := by
      intro s hs
      subst hs
      cases hz
      exact ⟨by simp [Value.cells, flatB], rfl⟩
    split at h
    · cases h
    · split at h
      · cases h
      · obtain ⟨s, _, h⟩ := Option.bind_eq_some_iff.1 h
        exact key _ (Option.some.inj h)
    · obtain ⟨s, _, h⟩ := Option.bind_eq_some_iff.1 h
      exact key _ (Option.some.inj h)
  | slice e =>
    simp only [Made.reckon, bind, Option.bind_eq_some_iff, pure] at h
    obtain ⟨_, _, _, _, h⟩ := h
    cases h; cases hz
    exact ⟨by simp [Value.cells, flatB], rfl⟩
  | map k e =>
    simp only [Made.reckon, bind, Option.bind_eq_some_iff, pure] at h
    obtain ⟨_, _, _, _, _, _, _, _, h⟩ := h
    cases h; cases hz
    exact ⟨by simp [Value.cells, flatB], rfl⟩
  | chan d e =>
    simp only [Made.reckon, bind, Option.bind_eq_some_iff, pure] at h
    obtain ⟨_, _, _, _, h⟩ := h
    cases h; cases hz
    exact ⟨by simp [Value.cells, flatB], rfl⟩
  | func ps rs v =>
    simp only [Made.reckon, bind, Option.bind_eq_some_iff, pure] at h
    obtain ⟨_, _, h⟩ := h
    cases h; cases hz
    exact ⟨by simp [Value.cells, flatB], rfl⟩
  | _ => cases h

/-- The zero values of a program whose table's are flat. -/
theorem fine_of {P : Program} (h : ∀ (t : Nat) (i : TypeInfo) (z : Value), P.types[t]? = some i → i.zero = some z → goodZ z) : Fine P := by
  have key : ∀ f t i z, Made.infoAt P.toTables f t = some i → i.zero = some z → goodZ z := by
    intro f
    induction f with
    | zero => intro t i z h; cases h
    | succ f ih =>
      intro t i z hi hz
      unfold Made.infoAt at hi
      split at hi
      · exact h t i z hi hz
      · obtain ⟨d, _, hd⟩ := Option.bind_eq_some_iff.1 hi
        exact reckon_zero ih hd hz
  refine ⟨fun t i z hi hz => ?_⟩
  have : goodZ z := by
    have hi' : P.toTables.info? t = some i := hi
    unfold Tables.info? at hi'
    split at hi'
    · exact h t i z hi' hz
    · exact key _ _ _ _ hi' hz
  exact this.2

end Go.VE
