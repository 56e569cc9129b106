import Derived.Test.YthjinaagdfnmhaaGreatDoorVb
namespace Go.VE
open Go
set_option linter.unusedVariables false
set_option linter.unusedSimpArgs false

/-! ### Runs that touch no memory -/

def pureRun (P : Program) {α : Type} : Sem α → Option α
  | .pure a => some a
  | .program k => pureRun P (k P)
  | .mark _ k => pureRun P k
  | _ => none

theorem pureRun_run {P : Program} {α : Type} {s : Sem α} {a : α} (h : pureRun P s = some a) (w : World) : s.run P w = .ok a w := by
  induction s with
  | pure b => simp [pureRun] at h; subst h; rfl
  | program k ih => exact ih P h
  | mark m k ih => exact ih h
  | _ => simp [pureRun] at h

theorem pureRun_bind {P : Program} {α β : Type} (s : Sem α) (f : α → Sem β) : pureRun P (s.bind f) = (pureRun P s).bind fun a => pureRun P (f a) := by
  induction s with
  | pure b => rfl
  | program k ih => exact ih P
  | mark m k ih => exact ih
  | _ => rfl
theorem pureRun_bind' {P : Program} {α β : Type} (s : Sem α) (f : α → Sem β) : pureRun P (s >>= f) = (pureRun P s).bind fun a => pureRun P (f a) := pureRun_bind s f
theorem pureRun_pure {P : Program} {α : Type} (a : α) : pureRun P (pure a : Sem α) = some a := rfl
theorem pureRun_stuck {P : Program} {α : Type} (s : String) : pureRun P (stuck s : Sem α) = none := rfl
theorem pureRun_program {P : Program} : pureRun P program = some P := rfl
theorem pureRun_info {P : Program} (t : TypeId) : pureRun P (typeInfo t) = P.info? t := by
  unfold typeInfo
  rw [pureRun_bind', pureRun_program]
  simp only [Option.bind_some]
  cases P.info? t <;> rfl
theorem pureRun_underlying {P : Program} (t : TypeId) : pureRun P (underlying t) = P.underlying t := by
  unfold underlying
  rw [pureRun_bind', pureRun_program]
  simp only [Option.bind_some]
  cases P.underlying t <;> rfl
theorem pureRun_zero {P : Program} (t : TypeId) : pureRun P (zeroValue t) = (P.info? t).bind (·.zero) := by
  unfold zeroValue
  rw [pureRun_bind', pureRun_info]
  cases P.info? t with
  | none => rfl
  | some i => simp only [Option.bind_some]; cases i.zero <;> rfl
theorem pureRun_size {P : Program} (t : TypeId) : pureRun P (sizeOf t) = (P.info? t).map (·.size) := by
  unfold sizeOf
  rw [pureRun_bind', pureRun_info]
  cases P.info? t <;> rfl

def aggB : TypeDesc → Bool
  | .struct _ | .array _ _ => true
  | _ => false
theorem pureRun_isAgg {P : Program} (t : TypeId) : pureRun P (isAgg t) = (P.underlying t).map aggB := by
  unfold isAgg
  rw [pureRun_bind', pureRun_underlying]
  cases P.underlying t with
  | none => rfl
  | some d => cases d <;> rfl

/-- A part of a struct or an array. -/
def apart (P : Program) (t : TypeId) (cs : Array Value) (off : Nat) : Option Value :=
  match P.underlying t with
  | none => none
  | some d => if aggB d then (P.info? t).map fun i => .agg (cs.extract off (off + i.size)) else cs[off]?
theorem pureRun_part {P : Program} (t : TypeId) (cs : Array Value) (off : Nat) : pureRun P (part t cs off) = apart P t cs off := by
  unfold part apart
  rw [pureRun_bind', pureRun_isAgg]
  cases P.underlying t with
  | none => rfl
  | some d =>
    simp only [Option.map_some, Option.bind_some]
    split
    · rw [pureRun_bind', pureRun_size]
      cases P.info? t <;> rfl
    · cases cs[off]? <;> rfl
theorem apart_rel {P : Program} {ρ : Rho} {t : TypeId} {cs cs' : Array Value} {off : Nat} {v : Value} (h : apart P t cs off = some v) (r : ARel ρ cs cs') :
    ∃ v', apart P t cs' off = some v' ∧ VRel ρ v v' := by
  unfold apart at h ⊢
  split at h
  · cases h
  · rename_i d hd
    split at h
    · rename_i ha
      cases hi : P.info? t with
      | none => rw [hi] at h; cases h
      | some i =>
        rw [hi] at h
        simp at h
        subst h
        exact ⟨_, by simp [ha], (r.extract _ _).agg⟩
    · rename_i ha
      obtain ⟨v', h1, h2⟩ := r.get h
      exact ⟨v', by simp [ha, h1], h2⟩

/-! ### The abstract operations without memory -/

def isz (P : Program) (t : TypeId) : Option Nat := (P.info? t).map (·.size)

def aextract (x : Value) (i : Nat) : Option Value := match x with | .tuple vs => vs[i]? | _ => none
theorem aextract_ok {P : Program} {x : Value} {i : Nat} {v : Value} (h : aextract x i = some v) : pureRun P (Instr.extract x i) = some v := by
  unfold aextract at h
  split at h
  · rename_i vs
    simp [Instr.extract, h]; rfl
  · cases h
theorem aextract_rel {ρ : Rho} {x x' : Value} {i : Nat} {v : Value} (h : aextract x i = some v) (r : VRel ρ x x') : ∃ v', aextract x' i = some v' ∧ VRel ρ v v' := by
  unfold aextract at h
  split at h
  · obtain ⟨b, rfl, hb⟩ := r.of_tuple
    exact hb.get h
  · cases h

def afield (P : Program) (t : TypeId) (x : Value) (i : Nat) : Option Value :=
  match P.underlying t, x with
  | some (.struct fs), .agg cs => match fs[i]? with | some f => apart P f.type cs f.offset | none => none
  | _, _ => none
theorem afield_ok {P : Program} {t : TypeId} {x : Value} {i : Nat} {v : Value} (h : afield P t x i = some v) : pureRun P (Instr.field t x i) = some v := by
  unfold afield at h
  split at h
  · rename_i fs cs hu
    split at h
    · rename_i f hf
      unfold Instr.field
      rw [pureRun_bind', pureRun_underlying, hu]
      simp only [Option.bind_some, hf, asAgg, pure_bind]
      show pureRun P (part f.type cs f.offset) = _
      rw [pureRun_part]; exact h
    · cases h
  · cases h
theorem afield_rel {P : Program} {ρ : Rho} {t : TypeId} {x x' : Value} {i : Nat} {v : Value} (h : afield P t x i = some v) (r : VRel ρ x x') : ∃ v', afield P t x' i = some v' ∧ VRel ρ v v' := by
  unfold afield at h
  split at h
  · rename_i fs cs hu
    split at h
    · rename_i f hf
      obtain ⟨b, rfl, hb⟩ := r.of_agg
      obtain ⟨v', h1, h2⟩ := apart_rel h hb
      exact ⟨v', by simp [afield, hu, hf, h1], h2⟩
    · cases h
  · cases h

def aindex (P : Program) (t : TypeId) (x ix : Value) : Option Value :=
  match P.underlying t, x, ix with
  | some (.array len e), .agg cs, .int _ i => if 0 ≤ i ∧ i < len then (isz P e).bind fun z => apart P e cs (i.toNat * z) else none
  | some .string, .string s, .int _ i => if 0 ≤ i then (s[i.toNat]?).map fun b => .int .u8 b.toNat else none
  | _, _, _ => none
theorem aindex_ok {P : Program} {t : TypeId} {x ix : Value} {v : Value} (h : aindex P t x ix = some v) : pureRun P (Instr.index t x ix) = some v := by
  unfold aindex at h
  split at h
  · rename_i len e cs k i hu
    split at h
    · rename_i hi
      unfold Instr.index
      rw [pureRun_bind']
      simp only [asIntOf, pureRun_pure, Option.bind_some]
      rw [pureRun_bind', pureRun_underlying, hu]
      simp only [Option.bind_some, hi, and_self, if_true]
      rw [pureRun_bind', pureRun_size]
      unfold isz at h
      cases hz : P.info? e with
      | none => rw [hz] at h; cases h
      | some z =>
        rw [hz] at h
        simp only [Option.map_some, Option.bind_some] at h ⊢
        rw [pureRun_part]; exact h
    · cases h
  · rename_i s k i hu
    split at h
    · rename_i hi
      unfold Instr.index
      rw [pureRun_bind']
      simp only [asIntOf, pureRun_pure, Option.bind_some]
      rw [pureRun_bind', pureRun_underlying, hu]
      simp only [Option.bind_some, hi, if_true]
      cases hb : s[i.toNat]? with
      | none => rw [hb] at h; cases h
      | some b => rw [hb] at h; simpa [pureRun_pure] using h
    · cases h
  · cases h
theorem aindex_rel {P : Program} {ρ : Rho} {t : TypeId} {x x' ix ix' : Value} {v : Value} (h : aindex P t x ix = some v) (r : VRel ρ x x') (k : VRel ρ ix ix') :
    ∃ v', aindex P t x' ix' = some v' ∧ VRel ρ v v' := by
  unfold aindex at h
  split at h
  · rename_i len e cs kk i hu
    split at h
    · rename_i hi
      obtain ⟨b, rfl, hb⟩ := r.of_agg
      cases k
      cases hz : isz P e with
      | none => rw [hz] at h; cases h
      | some z =>
        rw [hz] at h
        obtain ⟨v', h1, h2⟩ := apart_rel h hb
        exact ⟨v', by simp [aindex, hu, hi, hz, h1], h2⟩
    · cases h
  · rename_i s kk i hu
    split at h
    · rename_i hi
      cases r; cases k
      refine ⟨v, by simp [aindex, hu, hi, h], ?_⟩
      cases hb : s[i.toNat]? with
      | none => rw [hb] at h; cases h
      | some b => rw [hb] at h; simp at h; subst h; exact .int _ _
    · cases h
  · cases h

/-! parts of a literal -/

theorem fill_step {ρ : Rho} {cs cs' : Array Value} (off : Nat) : ∀ (l l' : List Value) (n : Nat) (cs cs' : Array Value), ARel ρ cs cs' → l'.length = l.length → (∀ (i : Nat) x y, l[i]? = some x → l'[i]? = some y → VRel ρ x y) →
    ARel ρ ((l.zipIdx n).foldl (fun cs (c, j) => cs.setIfInBounds (off + j) c) cs) ((l'.zipIdx n).foldl (fun cs (c, j) => cs.setIfInBounds (off + j) c) cs') := by
  intro l
  induction l with
  | nil => intro l' n cs cs' h hl _; cases l' with | nil => exact h | cons => simp at hl
  | cons x l ih =>
    intro l' n cs cs' h hl hr
    cases l' with
    | nil => simp at hl
    | cons y l' =>
      simp only [List.zipIdx_cons, List.foldl_cons]
      exact ih l' (n + 1) _ _ (h.set (hr 0 x y rfl rfl) _) (by simpa using hl) (fun i u v hu hv => hr (i + 1) u v (by simpa using hu) (by simpa using hv))

theorem foldl_zipIdx_array {β : Type} (f : β → Value × Nat → β) (b : β) (a : Array Value) : a.zipIdx.foldl f b = (a.toList.zipIdx).foldl f b := by
  rw [← Array.foldl_toList, Array.toList_zipIdx]

theorem fill_rel {ρ : Rho} (place : Nat → Option (Nat × Nat)) : ∀ (l l' : List (Nat × Value)) (cs cs' r : Array Value), ARel ρ cs cs' → l'.length = l.length →
    (∀ (i : Nat) x y, l[i]? = some x → l'[i]? = some y → y.1 = x.1 ∧ VRel ρ x.2 y.2) → Instr.fill place cs l = some r → ∃ r', Instr.fill place cs' l' = some r' ∧ ARel ρ r r' := by
  intro l
  induction l with
  | nil =>
    intro l' cs cs' r h hl _ hf
    cases l' with
    | nil => simp [Instr.fill] at hf; subst hf; exact ⟨cs', rfl, h⟩
    | cons => simp at hl
  | cons x l ih =>
    intro l' cs cs' r h hl hr hf
    cases l' with
    | nil => simp at hl
    | cons y l' =>
      obtain ⟨i, v⟩ := x
      obtain ⟨j, v'⟩ := y
      obtain ⟨e, hv⟩ := hr 0 (i, v) (j, v') rfl rfl
      simp only at e hv
      subst e
      simp only [Instr.fill] at hf ⊢
      cases hp : place j with
      | none => rw [hp] at hf; cases hf
      | some q =>
        obtain ⟨off, size⟩ := q
        rw [hp] at hf
        simp only at hf ⊢
        have hc := hv.cells
        have hsz := hc.1
        by_cases hb : (v.cells.size ≠ size || off + v.cells.size > cs.size) = true
        · rw [if_pos hb] at hf; cases hf
        · rw [if_neg hb] at hf
          rw [if_neg (by rw [hsz, h.1]; exact hb)]
          refine ih l' _ _ r ?_ (by simpa using hl) (fun i u w hu hw => hr (i + 1) u w (by simpa using hu) (by simpa using hw)) hf
          rw [foldl_zipIdx_array, foldl_zipIdx_array]
          refine fill_step (cs := cs) (cs' := cs') off _ _ _ _ _ h (by simpa using hsz) (fun i x y hx hy => ?_)
          have hx' : v.cells[i]? = some x := by simpa using hx
          have hy' : v'.cells[i]? = some y := by simpa using hy
          obtain ⟨z, hz, hr'⟩ := hc.get hx'
          rw [hz] at hy'; cases hy'; exact hr'

/-- Struct and array literals. -/
def abuild (P : Program) (t : TypeId) (parts : Array (Nat × Value)) : Option Value :=
  match (P.info? t).bind (·.zero), P.underlying t with
  | some z, some (.struct fs) =>
    (fs.toList.mapM fun (f : Field) => (isz P f.type).map fun s => (f.offset, s)).bind fun pl =>
      (Instr.fill (pl.toArray[·]?) z.cells parts.toList).map .agg
  | some z, some (.array _ e) => (isz P e).bind fun s => (Instr.fill (fun i => some (i * s, s)) z.cells parts.toList).map .agg
  | _, _ => none

theorem pureRun_mapM {P : Program} {α β : Type} (f : α → Sem β) (l : List α) : pureRun P (l.mapM f) = l.mapM (fun a => pureRun P (f a)) := by
  induction l with
  | nil => rfl
  | cons a l ih =>
    rw [List.mapM_cons, List.mapM_cons, pureRun_bind']
    cases pureRun P (f a) with
    | none => rfl
    | some b =>
      simp only [Option.bind_some]
      show _ = (some b >>= fun b => _)
      simp only [Option.bind_eq_bind, Option.bind_some]
      rw [pureRun_bind', ih]
      rfl

theorem abuild_ok {P : Program} {t : TypeId} {parts : Array (Nat × Value)} {v : Value} (h : abuild P t parts = some v) : pureRun P (Instr.build t parts) = some v := by
  unfold abuild at h
  unfold Instr.build
  rw [pureRun_bind', pureRun_zero]
  split at h
  · rename_i z fs hz hu
    rw [hz]
    simp only [Option.bind_some]
    rw [pureRun_bind', pureRun_underlying, hu]
    simp only [Option.bind_some]
    rw [pureRun_bind', Array.mapM_eq_mapM_toList]
    show ((pureRun P (List.toArray <$> List.mapM _ fs.toList)).bind _) = _
    rw [← bind_pure_comp, pureRun_bind', pureRun_mapM]
    have e : (fun (f : Field) => pureRun P (do let s ← sizeOf f.type; pure (f.offset, s) : Sem (Nat × Nat))) = fun (f : Field) => (isz P f.type).map fun s => (f.offset, s) := by
      funext f
      rw [pureRun_bind', pureRun_size]
      unfold isz
      cases P.info? f.type <;> rfl
    rw [e]
    cases hm : (fs.toList.mapM fun (f : Field) => (isz P f.type).map fun s => (f.offset, s)) with
    | none => rw [hm] at h; cases h
    | some pl =>
      rw [hm] at h
      simp only [Option.bind_some, pureRun_pure] at h ⊢
      cases hf : Instr.fill (pl.toArray[·]?) z.cells parts.toList with
      | none => rw [hf] at h; cases h
      | some cells => rw [hf] at h; simpa [pureRun_pure] using h
  · rename_i z n e hz hu
    rw [hz]
    simp only [Option.bind_some]
    rw [pureRun_bind', pureRun_underlying, hu]
    simp only [Option.bind_some]
    rw [pureRun_bind', pureRun_size]
    unfold isz at h
    cases hi : P.info? e with
    | none => rw [hi] at h; cases h
    | some i =>
      rw [hi] at h
      simp only [Option.map_some, Option.bind_some] at h ⊢
      cases hf : Instr.fill (fun j => some (j * i.size, i.size)) z.cells parts.toList with
      | none => rw [hf] at h; cases h
      | some cells => rw [hf] at h; simpa [pureRun_pure] using h
  · cases h

/-- The parts of two literals stand for each other. -/
def PRel (ρ : Rho) (l l' : Array (Nat × Value)) : Prop := l'.size = l.size ∧ ∀ (i : Nat) x y, l[i]? = some x → l'[i]? = some y → y.1 = x.1 ∧ VRel ρ x.2 y.2

/-- The zero values of the program bear no address. -/
structure Fine (P : Program) : Prop where
  zero : ∀ t i z, P.info? t = some i → i.zero = some z → flatB 8 z = true

theorem Fine.zcells {P : Program} (F : Fine P) {t : TypeId} {z : Value} (h : (P.info? t).bind (·.zero) = some z) (ρ : Rho) : ARel ρ z.cells z.cells := by
  cases hi : P.info? t with
  | none => rw [hi] at h; cases h
  | some i => rw [hi] at h; exact (VRel.of_flat 8 z (F.zero t i z hi h)).cells
theorem Fine.zrel {P : Program} (F : Fine P) {t : TypeId} {z : Value} (h : (P.info? t).bind (·.zero) = some z) (ρ : Rho) : VRel ρ z z := by
  cases hi : P.info? t with
  | none => rw [hi] at h; cases h
  | some i => rw [hi] at h; exact VRel.of_flat 8 z (F.zero t i z hi h)

theorem abuild_rel {P : Program} (F : Fine P) {ρ : Rho} {t : TypeId} {parts parts' : Array (Nat × Value)} {v : Value} (h : abuild P t parts = some v) (r : PRel ρ parts parts') :
    ∃ v', abuild P t parts' = some v' ∧ VRel ρ v v' := by
  have hl : parts'.toList.length = parts.toList.length := by simpa using r.1
  have hp : ∀ (i : Nat) x y, parts.toList[i]? = some x → parts'.toList[i]? = some y → y.1 = x.1 ∧ VRel ρ x.2 y.2 :=
    fun i x y hx hy => r.2 i x y (by simpa using hx) (by simpa using hy)
  unfold abuild at h
  split at h
  · rename_i z fs hz hu
    cases hm : (fs.toList.mapM fun (f : Field) => (isz P f.type).map fun s => (f.offset, s)) with
    | none => rw [hm] at h; cases h
    | some pl =>
      rw [hm] at h
      simp only [Option.bind_some] at h
      cases hf : Instr.fill (pl.toArray[·]?) z.cells parts.toList with
      | none => rw [hf] at h; cases h
      | some cells =>
        rw [hf] at h
        simp at h
        subst h
        obtain ⟨c', h1, h2⟩ := fill_rel _ _ _ _ _ _ (F.zcells hz ρ) hl hp hf
        exact ⟨.agg c', by simp only [abuild, hz, hu, hm, Option.bind_some, h1, Option.map_some], h2.agg⟩
  · rename_i z n e hz hu
    cases hi : isz P e with
    | none => rw [hi] at h; cases h
    | some s =>
      rw [hi] at h
      simp only [Option.bind_some] at h
      cases hf : Instr.fill (fun j => some (j * s, s)) z.cells parts.toList with
      | none => rw [hf] at h; cases h
      | some cells =>
        rw [hf] at h
        simp at h
        subst h
        obtain ⟨c', h1, h2⟩ := fill_rel _ _ _ _ _ _ (F.zcells hz ρ) hl hp hf
        exact ⟨.agg c', by simp only [abuild, hz, hu, hi, Option.bind_some, h1, Option.map_some], h2.agg⟩
  · cases h

/-! type assertions -/
def aassert (P : Program) (x : Value) (asserted : TypeId) (ok : Bool) : Option Value :=
  match P.underlying asserted, x with
  | some (.interface _), _ => none
  | some _, .iface t v => if t = asserted then some (if ok then .tuple #[v, .bool true] else v)
      else if ok then ((P.info? asserted).bind (·.zero)).map fun z => .tuple #[z, .bool false] else none
  | some _, .nilIface => if ok then ((P.info? asserted).bind (·.zero)).map fun z => .tuple #[z, .bool false] else none
  | _, _ => none
theorem aassert_ok {P : Program} {x : Value} {xt t : TypeId} {ok : Bool} {v : Value} (h : aassert P x t ok = some v) : pureRun P (Instr.typeAssert x xt t ok) = some v := by
  unfold aassert at h
  unfold Instr.typeAssert
  simp only []
  rw [pureRun_bind', pureRun_underlying]
  split at h
  · cases h
  · rename_i d tx vx hx hu
    rw [hu]
    simp only [Option.bind_some]
    split at h
    · rename_i ht
      cases h
      cases d <;> first | exact absurd rfl (hx _) | (simp only [ht, if_true]; cases ok <;> rfl)
    · rename_i ht
      split at h
      · rename_i hok
        subst hok
        cases d <;> first | exact absurd rfl (hx _) | (simp only [ht, if_false, if_true]; rw [pureRun_bind', pureRun_zero]; cases hz : (P.info? t).bind (·.zero) with | none => rw [hz] at h; cases h | some z => rw [hz] at h; exact h)
      · cases h
  · rename_i d hx hu
    rw [hu]
    simp only [Option.bind_some]
    split at h
    · rename_i hok
      subst hok
      cases d <;> first | exact absurd rfl (hx _) | (simp only [if_true]; rw [pureRun_bind', pureRun_zero]; cases hz : (P.info? t).bind (·.zero) with | none => rw [hz] at h; cases h | some z => rw [hz] at h; exact h)
    · cases h
  · cases h
theorem two_rel {ρ : Rho} {x x' : Value} (r : VRel ρ x x') (b : Bool) : VRel ρ (.tuple #[x, .bool b]) (.tuple #[x', .bool b]) :=
  (((ARel.nil.push r).push (.bool b)) : ARel ρ #[x, .bool b] #[x', .bool b]).tuple
theorem aassert_rel {P : Program} (F : Fine P) {ρ : Rho} {x x' : Value} {t : TypeId} {ok : Bool} {v : Value} (h : aassert P x t ok = some v) (r : VRel ρ x x') :
    ∃ v', aassert P x' t ok = some v' ∧ VRel ρ v v' := by
  unfold aassert at h
  split at h
  · cases h
  · rename_i d tx vx hx hu
    cases r with
    | iface r =>
      rename_i v2
      split at h
      · rename_i ht
        cases h
        refine ⟨if ok then .tuple #[v2, .bool true] else v2, ?_, ?_⟩
        · simp only [aassert, hu]
          cases d <;> first | exact absurd rfl (hx _) | simp [ht]
        · cases ok
          · exact r
          · exact two_rel r true
      · rename_i ht
        split at h
        · rename_i hok
          subst hok
          cases hz : (P.info? t).bind (·.zero) with
          | none => rw [hz] at h; cases h
          | some z =>
            rw [hz] at h
            cases h
            refine ⟨.tuple #[z, .bool false], ?_, two_rel (F.zrel hz ρ) false⟩
            simp only [aassert, hu, hz]
            cases d <;> first | exact absurd rfl (hx _) | simp [ht]
        · cases h
  · rename_i d hx hu
    cases r
    split at h
    · rename_i hok
      subst hok
      cases hz : (P.info? t).bind (·.zero) with
      | none => rw [hz] at h; cases h
      | some z =>
        rw [hz] at h
        cases h
        refine ⟨.tuple #[z, .bool false], ?_, two_rel (F.zrel hz ρ) false⟩
        simp only [aassert, hu, hz]
        cases d <;> first | exact absurd rfl (hx _) | simp
    · cases h
  · cases h

end Go.VE
