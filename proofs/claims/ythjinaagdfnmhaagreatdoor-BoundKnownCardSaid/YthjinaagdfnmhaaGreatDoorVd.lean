import Derived.Test.YthjinaagdfnmhaaGreatDoorVc
namespace Go.VE
open Go
set_option linter.unusedVariables false
set_option linter.unusedSimpArgs false

/-! ### Addresses -/

def afieldAddr (P : Program) (s : TypeId) (x : Value) (i : Nat) : Option Value :=
  match P.underlying s, x with
  | some (.struct fs), .pointer (some ⟨v, o, none⟩) =>
    match fs[i]? with
    | some f => match isz P f.type with
      | some (z + 1) => some (.pointer (some ⟨v, o + f.offset, none⟩))
      | _ => none
    | none => none
  | _, _ => none

theorem add_none (b o n : Nat) : (⟨b, o, none⟩ : Addr).add n = ⟨b, o + n, none⟩ := by
  unfold Addr.add; split <;> simp_all

theorem afieldAddr_ok {P : Program} {ρ : Rho} {s : TypeId} {x x' : Value} {i : Nat} {v : Value} (h : afieldAddr P s x i = some v) (r : VRel ρ x x') :
    ∃ v', pureRun P (Instr.fieldAt s x' i) = some v' ∧ VRel ρ v v' := by
  unfold afieldAddr at h
  split at h
  · rename_i fs b o hu
    cases r with
    | ptr hp =>
      rename_i p
      split at h
      · rename_i f hf
        split at h
        · rename_i z hz
          cases h
          refine ⟨.pointer (some ⟨p.block, p.base + (o + f.offset), none⟩), ?_, .ptr hp⟩
          unfold Instr.fieldAt
          rw [pureRun_bind', pureRun_underlying, hu]
          simp only [Option.bind_some, hf]
          rw [pureRun_bind']
          simp only [Instr.sureAddr, pureRun_pure, Option.bind_some]
          rw [pureRun_bind']
          unfold fieldPlace
          rw [pureRun_bind', pureRun_size]
          unfold isz at hz
          rw [hz]
          simp only [Option.bind_some]
          rw [if_neg (by omega), add_none, pureRun_pure]
          simp only [Option.bind_some, pureRun_pure, Nat.add_assoc]
        · cases h
      · cases h
  · cases h

def aindexAddr (P : Program) (t : TypeId) (x ix : Value) : Option Value :=
  match P.underlying t, x, ix with
  | some (.array len e), .pointer (some ⟨v, o, none⟩), .int _ i => if 0 ≤ i ∧ i < len then (isz P e).map fun z => .pointer (some ⟨v, o + i.toNat * z, none⟩) else none
  | some (.slice e), .slice (some a) len _, .int _ i => if 0 ≤ i ∧ i < len then (isz P e).map fun z => .pointer (some ⟨a.block, a.off + i.toNat * z, none⟩) else none
  | _, _, _ => none

theorem aindexAddr_ok {P : Program} {ρ : Rho} {t : TypeId} {x x' ix ix' : Value} {v : Value} (h : aindexAddr P t x ix = some v) (r : VRel ρ x x') (k : VRel ρ ix ix') :
    ∃ v', pureRun P (Instr.indexAt t x' ix') = some v' ∧ VRel ρ v v' := by
  unfold aindexAddr at h
  split at h
  · rename_i len e b o kk i hu
    split at h
    · rename_i hi
      cases k
      cases r with
      | ptr hp =>
        rename_i p
        cases hz : P.info? e with
        | none => simp [isz, hz] at h
        | some z =>
          simp [isz, hz] at h
          subst h
          refine ⟨.pointer (some ⟨p.block, p.base + (o + i.toNat * z.size), none⟩), ?_, .ptr hp⟩
          unfold Instr.indexAt
          rw [pureRun_bind']
          simp only [asIntOf, pureRun_pure, Option.bind_some]
          rw [pureRun_bind', pureRun_underlying, hu]
          simp only [Option.bind_some]
          rw [pureRun_bind']
          simp only [Instr.sureAddr, pureRun_pure, Option.bind_some]
          rw [pureRun_bind']
          simp only [pureRun_pure, Option.bind_some]
          rw [pureRun_bind', pureRun_underlying, hu]
          simp only [Option.bind_some, hi, and_self, if_true]
          rw [pureRun_bind', pureRun_size, hz]
          simp only [Option.map_some, Option.bind_some, add_none, pureRun_pure, Nat.add_assoc]
    · cases h
  · rename_i e a len cap kk i hu
    split at h
    · rename_i hi
      cases k
      have fin : ∀ (b o c : Nat) (z : TypeInfo), P.info? e = some z → pureRun P (Instr.indexAt t (.slice (some ⟨b, o, none⟩) len c) (.int kk i)) = some (.pointer (some ⟨b, o + i.toNat * z.size, none⟩)) := by
        intro b o c z hz
        unfold Instr.indexAt
        rw [pureRun_bind']
        simp only [asIntOf, pureRun_pure, Option.bind_some]
        rw [pureRun_bind', pureRun_underlying, hu]
        simp only [Option.bind_some]
        rw [pureRun_bind']
        simp only [pureRun_pure, Option.bind_some]
        rw [pureRun_bind', pureRun_underlying, hu]
        simp only [Option.bind_some, hi, and_self, if_true]
        rw [pureRun_bind', pureRun_size, hz]
        simp only [Option.map_some, Option.bind_some, add_none, pureRun_pure]
      cases hz : P.info? e with
      | none => simp [isz, hz] at h
      | some z =>
        simp [isz, hz] at h
        subst h
        cases r with
        | slice hp =>
          rename_i o p
          exact ⟨_, fin _ _ _ z hz, by rw [Nat.add_assoc]; exact .ptr hp⟩
        | sliceO hp hk hc =>
          rename_i o kk' p
          exact ⟨_, fin _ _ _ z hz, by rw [Nat.add_assoc]; exact .ptr hp⟩
        | sliceV => omega
    · cases h
  · cases h

/-! ### Slices -/

def abnd (x : Option Value) (d : Nat) : Option Nat :=
  match x with
  | none => some d
  | some (.int _ i) => if 0 ≤ i then some i.toNat else none
  | _ => none

theorem abnd_ok {P : Program} {x : Option Value} {d n y : Nat} {code : BoundsCode} (h : abnd x d = some n) (hy : n ≤ y) :
    pureRun P (match x with | some v => Instr.sliceBound v y code | none => pure d) = some n := by
  unfold abnd at h
  split at h
  · cases h; rfl
  · rename_i k i
    split at h
    · rename_i hi
      cases h
      show pureRun P (Instr.sliceBound (.int k i) y code) = _
      unfold Instr.sliceBound
      rw [pureRun_bind']
      simp only [asIntOf, pureRun_pure, Option.bind_some]
      rw [if_pos ⟨hi, by omega⟩]; rfl
    · cases h
  · cases h

theorem abounds_ok {P : Program} {isS : Bool} {len cap l h m : Nat} {lo hi mx : Option Value} (hm : abnd mx cap = some m) (hh : abnd hi len = some h) (hl : abnd lo 0 = some l)
    (h1 : l ≤ h) (h2 : h ≤ m) (h3 : m ≤ cap) (hx : mx.isSome → hi.isSome) : pureRun P (Instr.sliceBounds isS len cap lo hi mx) = some (l, h, m) := by
  unfold Instr.sliceBounds
  have e1 : ∀ v c, mx = some v → pureRun P (Instr.sliceBound v cap c) = some m := fun v c e => by subst e; exact abnd_ok (x := some v) hm h3
  have e2 : ∀ v c, hi = some v → pureRun P (Instr.sliceBound v m c) = some h := fun v c e => by subst e; exact abnd_ok (x := some v) hh h2
  have e3 : ∀ v c, lo = some v → pureRun P (Instr.sliceBound v h c) = some l := fun v c e => by subst e; exact abnd_ok (x := some v) hl h1
  have z1 : mx = none → m = cap := fun e => by subst e; simpa [abnd] using hm.symm
  have z2 : hi = none → h = len := fun e => by subst e; simpa [abnd] using hh.symm
  have z3 : lo = none → l = 0 := fun e => by subst e; simpa [abnd] using hl.symm
  cases mx with
  | none =>
    have := z1 rfl
    subst this
    cases hi with
    | none =>
      have := z2 rfl
      subst this
      cases lo with
      | none => have := z3 rfl; subst this; rfl
      | some x => simp only [pureRun_bind', pureRun_pure, Option.bind_some, e3 x _ rfl]
    | some y =>
      cases lo with
      | none => have := z3 rfl; subst this; simp only [pureRun_bind', pureRun_pure, Option.bind_some, e2 y _ rfl]
      | some x => simp only [pureRun_bind', pureRun_pure, Option.bind_some, e2 y _ rfl, e3 x _ rfl]
  | some w =>
    cases hi with
    | none => simp at hx
    | some y =>
      cases lo with
      | none => have := z3 rfl; subst this; simp only [pureRun_bind', pureRun_pure, Option.bind_some, e1 w _ rfl, e2 y _ rfl]
      | some x => simp only [pureRun_bind', pureRun_pure, Option.bind_some, e1 w _ rfl, e2 y _ rfl, e3 x _ rfl]

theorem abnd_some (v : Value) (d d' : Nat) : abnd (some v) d = abnd (some v) d' := by cases v <;> rfl

def aslice (P : Program) (t : TypeId) (x : Value) (lo hi mx : Option Value) : Option Value :=
  match P.underlying t, x with
  | some .string, .string s => if mx.isSome then none else
    (abnd lo 0).bind fun l => (abnd hi s.size).bind fun h => if l ≤ h ∧ h ≤ s.size then some (.string (s.extract l h)) else none
  | some (.slice e), .slice none 0 0 =>
    (isz P e).bind fun z => (abnd mx 0).bind fun m => (abnd lo 0).bind fun l => (abnd hi 0).bind fun h => if l = 0 ∧ h = 0 ∧ m = 0 ∧ (mx.isSome → hi.isSome) then some (.slice none 0 0) else none
  | some (.slice e), .slice (some ⟨v, o, none⟩) len cap =>
    (isz P e).bind fun z => (abnd mx cap).bind fun m => (abnd lo 0).bind fun l => (abnd hi len).bind fun h =>
      if l ≤ h ∧ h ≤ m ∧ m ≤ cap ∧ (mx.isSome → hi.isSome) then some (.slice (some ⟨v, if m = l then o else o + l * z, none⟩) (h - l) (m - l)) else none
  | some (.slice e), .slice (some ⟨v, o, some 1⟩) 0 0 =>
    (isz P e).bind fun z => (abnd mx 0).bind fun m => (abnd lo 0).bind fun l => (abnd hi 0).bind fun h =>
      if l = 0 ∧ h = 0 ∧ m = 0 ∧ (mx.isSome → hi.isSome) then some (.slice (some ⟨v, o, some 1⟩) 0 0) else none
  | some (.slice e), .slice (some ⟨v, o, some (k + 2)⟩) len cap =>
    (isz P e).bind fun z => (abnd mx cap).bind fun m => (abnd lo 0).bind fun l => (abnd hi len).bind fun h =>
      if l ≤ h ∧ h ≤ m ∧ m ≤ cap ∧ (mx.isSome → hi.isSome) then
        (if mx.isSome then some (.slice (some ⟨v, if m = l then o else o + l * z, none⟩) (h - l) (m - l))
         else if z = k then (if l < cap then some (.slice (some ⟨v, o + l * z, some (k + 2)⟩) (h - l) (m - l)) else some (.slice (some ⟨v, o, some 1⟩) 0 0)) else none)
      else none
  | some (.array n e), .pointer (some ⟨v, o, none⟩) =>
    (isz P e).bind fun z => (abnd mx n).bind fun m => (abnd lo 0).bind fun l => (abnd hi n).bind fun h =>
      if l ≤ h ∧ h ≤ m ∧ m ≤ n ∧ (mx.isSome → hi.isSome) then some (.slice (some ⟨v, if m = l then o else o + l * z, none⟩) (h - l) (m - l)) else none
  | _, _ => none

theorem bind_some_iff {α β : Type} {x : Option α} {f : α → Option β} {b : β} (h : x.bind f = some b) : ∃ a, x = some a ∧ f a = some b := by
  cases x with
  | none => cases h
  | some a => exact ⟨a, rfl, h⟩
theorem if_some {α : Type} {c : Prop} [Decidable c] {x : Option α} {a : α} (h : (if c then x else none) = some a) : c ∧ x = some a := by
  split at h
  · exact ⟨by assumption, h⟩
  · cases h

theorem pure_slice_slice {P : Program} {t e : TypeId} {i : TypeInfo} (hu : P.underlying t = some (.slice e)) (hi : P.info? e = some i) (a : Option Addr) (len cap l h m : Nat) (lo hi' mx : Option Value)
    (hb : pureRun P (Instr.sliceBounds true len cap lo hi' mx) = some (l, h, m)) :
    pureRun P (Instr.sliceAt t (.slice a len cap) lo hi' mx) = some (.slice (if m = l then a else a.map (·.add (l * i.size))) (h - l) (m - l)) := by
  unfold Instr.sliceAt
  rw [pureRun_bind', pureRun_underlying, hu]
  simp only [Option.bind_some]
  unfold Instr.slice
  rw [pureRun_bind', pureRun_underlying, hu]
  simp only [Option.bind_some]
  rw [pureRun_bind', hb]
  simp only [Option.bind_some]
  rw [pureRun_bind', pureRun_size, hi]
  rfl

theorem aslice_ok {P : Program} {ρ : Rho} {t : TypeId} {x x' : Value} {lo hi mx lo' hi' mx' : Option Value} {v : Value} (h : aslice P t x lo hi mx = some v) (r : VRel ρ x x')
    (e1 : ∀ d n, abnd lo d = some n → lo' = lo) (e2 : ∀ d n, abnd hi d = some n → hi' = hi) (e3 : ∀ d n, abnd mx d = some n → mx' = mx) : ∃ v', pureRun P (Instr.sliceAt t x' lo' hi' mx') = some v' ∧ VRel ρ v v' := by
  unfold aslice at h
  split at h
  · -- a string
    rename_i s hu
    cases r
    split at h
    · cases h
    · rename_i hmx
      obtain ⟨l, hl, h⟩ := bind_some_iff h
      obtain ⟨hh, hhh, h⟩ := bind_some_iff h
      obtain ⟨⟨c1, c2⟩, h⟩ := if_some h
      cases h
      have hm : mx = none := by cases mx <;> simp_all
      subst hm
      rw [e1 _ _ hl, e2 _ _ hhh, e3 0 0 rfl]
      refine ⟨_, ?_, .string _⟩
      unfold Instr.sliceAt
      rw [pureRun_bind', pureRun_underlying, hu]
      simp only [Option.bind_some]
      unfold Instr.slice
      rw [pureRun_bind', pureRun_underlying, hu]
      simp only [Option.bind_some, Option.isSome_none, Bool.false_eq_true, if_false]
      have hb := abounds_ok (P := P) (isS := false) (len := s.size) (cap := s.size) (l := l) (h := hh) (m := s.size) (lo := lo) (hi := hi) (mx := none) rfl hhh hl c1 c2 (Nat.le_refl _) (by simp)
      show pureRun P (Instr.sliceBounds false s.size s.size lo hi none >>= _) = _
      rw [pureRun_bind', hb]
      rfl
  · -- nil
    rename_i e hu
    cases r
    obtain ⟨z, hz, h⟩ := bind_some_iff h
    obtain ⟨m, hm, h⟩ := bind_some_iff h
    obtain ⟨l, hl, h⟩ := bind_some_iff h
    obtain ⟨hh, hhh, h⟩ := bind_some_iff h
    obtain ⟨⟨q1, q2, q3, c4⟩, h⟩ := if_some h
    cases h
    subst q1 q2 q3
    rw [e1 _ _ hl, e2 _ _ hhh, e3 _ _ hm]
    obtain ⟨i, hi, rfl⟩ := Option.map_eq_some_iff.1 hz
    exact ⟨_, pure_slice_slice hu hi _ _ _ _ _ _ _ _ _ (abounds_ok hm hhh hl (Nat.le_refl _) (Nat.le_refl _) (Nat.le_refl _) c4), .nilSlice⟩
  · -- an exact one
    rename_i e b o len cap hu
    cases r with
    | slice hp =>
    obtain ⟨z, hz, h⟩ := bind_some_iff h
    obtain ⟨m, hm, h⟩ := bind_some_iff h
    obtain ⟨l, hl, h⟩ := bind_some_iff h
    obtain ⟨hh, hhh, h⟩ := bind_some_iff h
    obtain ⟨⟨c1, c2, c3, c4⟩, h⟩ := if_some h
    cases h
    rw [e1 _ _ hl, e2 _ _ hhh, e3 _ _ hm]
    obtain ⟨i, hi, rfl⟩ := Option.map_eq_some_iff.1 hz
    refine ⟨_, pure_slice_slice hu hi _ _ _ _ _ _ _ _ _ (abounds_ok hm hhh hl c1 c2 c3 c4), ?_⟩
    by_cases hml : m = l
    · rw [if_pos hml, if_pos hml]; exact .slice hp
    · rw [if_neg hml, if_neg hml]
      simp only [Option.map_some, add_none, Nat.add_assoc]
      exact .slice hp
  · -- an empty one of which nothing is known
    rename_i e b o hu
    cases r with
    | sliceV =>
    rename_i c a
    obtain ⟨z, hz, h⟩ := bind_some_iff h
    obtain ⟨m, hm, h⟩ := bind_some_iff h
    obtain ⟨l, hl, h⟩ := bind_some_iff h
    obtain ⟨hh, hhh, h⟩ := bind_some_iff h
    obtain ⟨⟨q1, q2, q3, c4⟩, h⟩ := if_some h
    cases h
    subst q1 q2 q3
    rw [e1 _ _ hl, e2 _ _ hhh, e3 _ _ hm]
    obtain ⟨i, hi, rfl⟩ := Option.map_eq_some_iff.1 hz
    cases mx with
    | none =>
      refine ⟨_, pure_slice_slice hu hi _ _ _ _ _ _ _ _ _ (abounds_ok (m := c) rfl hhh hl (Nat.le_refl _) (Nat.zero_le _) (Nat.le_refl _) (by simp)), ?_⟩
      simp only [Nat.sub_zero, Nat.zero_mul]
      split
      · exact .sliceV
      · exact .sliceV
    | some mv =>
      have hm' : abnd (some mv) c = some 0 := (abnd_some mv _ _).trans hm
      refine ⟨_, pure_slice_slice hu hi _ _ _ _ _ _ _ _ _ (abounds_ok (m := 0) hm' hhh hl (Nat.le_refl _) (Nat.zero_le _) (Nat.zero_le _) c4), ?_⟩
      simp only [if_true]
      exact .sliceV
  · -- an open one
    rename_i e b o k len cap hu
    cases r with
    | sliceO hp hk hc =>
    rename_i c' p
    obtain ⟨z, hz, h⟩ := bind_some_iff h
    obtain ⟨m, hm, h⟩ := bind_some_iff h
    obtain ⟨l, hl, h⟩ := bind_some_iff h
    obtain ⟨hh, hhh, h⟩ := bind_some_iff h
    obtain ⟨⟨c1, c2, c3, c4⟩, h⟩ := if_some h
    rw [e1 _ _ hl, e2 _ _ hhh, e3 _ _ hm]
    obtain ⟨i, hi, rfl⟩ := Option.map_eq_some_iff.1 hz
    have hcc : cap ≤ c' := by omega
    cases mx with
    | some mv =>
      simp only [Option.isSome_some, if_true] at h
      cases h
      have hm' : abnd (some mv) c' = some m := (abnd_some mv _ _).trans hm
      refine ⟨_, pure_slice_slice hu hi _ _ _ _ _ _ _ _ _ (abounds_ok hm' hhh hl c1 c2 (by omega) c4), ?_⟩
      by_cases hml : m = l
      · rw [if_pos hml, if_pos hml]; exact .slice hp
      · rw [if_neg hml, if_neg hml]
        simp only [Option.map_some, add_none, Nat.add_assoc]
        exact .slice hp
    | none =>
      simp only [Option.isSome_none, Bool.false_eq_true, if_false] at h
      have hmc : m = cap := by simpa [abnd] using hm.symm
      subst hmc
      split at h
      · rename_i hzk
        refine ⟨_, pure_slice_slice hu hi _ _ _ _ _ _ _ _ _ (abounds_ok (m := c') rfl hhh hl c1 (by omega) (Nat.le_refl _) (by simp)), ?_⟩
        split at h
        · rename_i hlc
          cases h
          rw [if_neg (by omega)]
          simp only [Option.map_some, add_none, Nat.add_assoc]
          refine .sliceO hp hk ?_
          rcases hc with hc | ⟨hc1, hc2⟩
          · left; omega
          · right
            refine ⟨?_, by omega⟩
            subst hzk
            rw [Nat.add_assoc, ← Nat.add_mul, show l + (m - l) = m by omega]
            exact hc1
        · rename_i hlc
          cases h
          have : hh = l := by omega
          subst this
          simp only [Nat.sub_self]
          split
          · exact .sliceV
          · exact .sliceV
      · cases h
  · -- an array
    rename_i n e b o hu
    cases r with
    | ptr hp =>
    rename_i p
    obtain ⟨z, hz, h⟩ := bind_some_iff h
    obtain ⟨m, hm, h⟩ := bind_some_iff h
    obtain ⟨l, hl, h⟩ := bind_some_iff h
    obtain ⟨hh, hhh, h⟩ := bind_some_iff h
    obtain ⟨⟨c1, c2, c3, c4⟩, h⟩ := if_some h
    cases h
    rw [e1 _ _ hl, e2 _ _ hhh, e3 _ _ hm]
    obtain ⟨i, hi, rfl⟩ := Option.map_eq_some_iff.1 hz
    refine ⟨.slice (some (if m = l then ⟨p.block, p.base + o, none⟩ else (⟨p.block, p.base + o, none⟩ : Addr).add (l * i.size))) (hh - l) (m - l), ?_, ?_⟩
    · unfold Instr.sliceAt
      rw [pureRun_bind', pureRun_underlying, hu]
      simp only [Option.bind_some]
      rw [pureRun_bind']
      simp only [Instr.sureAddr, pureRun_pure, Option.bind_some]
      rw [pureRun_bind', abounds_ok hm hhh hl c1 c2 c3 c4]
      simp only [Option.bind_some]
      rw [pureRun_bind', pureRun_size, hi]
      rfl
    · by_cases hml : m = l
      · rw [if_pos hml, if_pos hml]; exact .slice hp
      · rw [if_neg hml, if_neg hml]
        simp only [add_none, Nat.add_assoc]
        exact .slice hp
  · cases h

end Go.VE
