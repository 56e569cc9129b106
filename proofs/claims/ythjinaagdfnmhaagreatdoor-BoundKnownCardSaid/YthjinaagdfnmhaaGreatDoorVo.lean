import Derived.Test.YthjinaagdfnmhaaGreatDoorVn
namespace Go.VE
open Go
set_option linter.unusedVariables false
set_option linter.unusedSimpArgs false

/-! ### What a run leaves as it was, in the virtual heap alone -/

structure Fr (h h' : AHeap) : Prop where
  lo : h'.lo ≤ h.lo
  next : h.next ≤ h'.next
  ng : h'.ng = h.ng
  keep : ∀ u, u < h'.lo → u < h.next → h'.blk u = h.blk u
  fresh : (∀ v, h.next ≤ v → h.blk v = none) → ∀ v, h'.next ≤ v → h'.blk v = none

theorem Fr.refl (h : AHeap) : Fr h h := ⟨Nat.le_refl _, Nat.le_refl _, rfl, fun _ _ _ => rfl, id⟩
theorem Fr.trans {a b c : AHeap} (x : Fr a b) (y : Fr b c) : Fr a c :=
  ⟨Nat.le_trans y.lo x.lo, Nat.le_trans x.next y.next, y.ng.trans x.ng,
    fun u h1 h2 => (y.keep u h1 (Nat.lt_of_lt_of_le h2 x.next)).trans (x.keep u (Nat.lt_of_lt_of_le h1 y.lo) h2), fun h => y.fresh (x.fresh h)⟩
theorem Fr.alloc (h : AHeap) (B : Blk) : Fr h (h.alloc B) := by
  refine ⟨Nat.le_refl _, by simp, rfl, fun u _ hu => ?_, fun hf v hv => ?_⟩
  · rw [AHeap.blk_alloc, if_neg (by omega)]
  · simp at hv
    rw [AHeap.blk_alloc, if_neg (by omega)]
    exact hf v (by omega)
theorem lo_put (h : AHeap) (v : Nat) (b : Option Blk) : (h.put v b).lo ≤ h.lo ∧ (h.put v b).lo ≤ v := by
  show (cond (Nat.ble h.lo v) h.lo v) ≤ h.lo ∧ (cond (Nat.ble h.lo v) h.lo v) ≤ v
  cases hb : Nat.ble h.lo v with
  | true => exact ⟨Nat.le_refl _, Nat.le_of_ble_eq_true hb⟩
  | false =>
    have : ¬ h.lo ≤ v := fun hle => by rw [Nat.ble_eq_true_of_le hle] at hb; cases hb
    exact ⟨by simp; omega, Nat.le_refl _⟩
theorem Fr.kill (h : AHeap) (v : Nat) : Fr h (h.put v none) := by
  refine ⟨(lo_put h v none).1, Nat.le_refl _, rfl, fun u h1 hu => ?_, fun hf u hu => ?_⟩
  · have := (lo_put h v none).2
    rw [AHeap.blk_put, if_neg (by omega)]
  · rw [AHeap.blk_put]
    split
    · rfl
    · exact hf u hu
theorem Fr.put {h : AHeap} {v : Nat} {B : Blk} (b : Option Blk) (hb : h.blk v = some B) : Fr h (h.put v b) := by
  refine ⟨(lo_put h v b).1, Nat.le_refl _, rfl, fun u h1 hu => ?_, fun hf u hu => ?_⟩
  · have := (lo_put h v b).2
    rw [AHeap.blk_put, if_neg (by omega)]
  · rw [AHeap.blk_put]
    split
    · rename_i e
      subst e
      have := hf u hu
      rw [hb] at this; cases this
    · exact hf u hu

theorem putAt_fr {v o : Nat} {xs : List Value} {h h' : AHeap} (hs : putAt v o xs h = some h') : Fr h h' := by
  unfold putAt at hs
  split at hs
  · cases hs; exact .refl _
  · split at hs
    · rename_i hb
      obtain ⟨_, hs⟩ := if_some hs
      cases hs; exact .put _ hb
    · cases hs

theorem putAt_touch {v o : Nat} {xs : List Value} {h h' : AHeap} (hs : putAt v o xs h = some h') : h'.next = h.next ∧ ∀ u, u ≠ v → h'.blk u = h.blk u := by
  unfold putAt at hs
  split at hs
  · cases hs; exact ⟨rfl, fun _ _ => rfl⟩
  · split at hs
    · rename_i hb
      obtain ⟨_, hs⟩ := if_some hs
      cases hs; exact ⟨rfl, fun u hu => by rw [AHeap.blk_put, if_neg hu]⟩
    · cases hs

theorem map_some {α β : Type} {x : Option α} {f : α → β} {b : β} (h : x.map f = some b) : ∃ a, x = some a ∧ f a = b := Option.map_eq_some_iff.1 h

theorem aappend_fr {P : Program} {ats : Array TypeId} {s x v : Value} {h h' : AHeap} (ha : aappend P ats s x h = some (v, h')) : Fr h h' := by
  unfold aappend at ha
  split at ha
  case h_2 => cases ha
  obtain ⟨_, ha1⟩ := if_some ha
  obtain ⟨i, hi, ha2⟩ := bind_some_iff ha1
  obtain ⟨zv, hzv, ha3⟩ := bind_some_iff ha2
  obtain ⟨n, hn, ha4⟩ := bind_some_iff ha3
  obtain ⟨arr, harr, ha5⟩ := bind_some_iff ha4
  obtain ⟨_, ha6⟩ := if_some ha5
  clear ha ha1 ha2 ha3 ha4 ha5
  split at ha6
  · split at ha6
    · cases ha6; exact .refl _
    · obtain ⟨_, ha⟩ := if_some ha6
      cases ha; exact .alloc _ _
  · split at ha6
    · obtain ⟨h1, hp, ha⟩ := map_some ha6
      cases ha; exact putAt_fr hp
    · obtain ⟨_, ha⟩ := if_some ha6
      obtain ⟨old, _, ha⟩ := bind_some_iff ha
      obtain ⟨_, ha⟩ := if_some ha
      cases ha; exact .alloc _ _
  · obtain ⟨_, ha⟩ := if_some ha6
    cases ha; exact .refl _
  · split at ha6
    · obtain ⟨h1, hp, ha⟩ := map_some ha6
      cases ha; exact putAt_fr hp
    · obtain ⟨_, ha⟩ := if_some ha6
      split at ha
      · obtain ⟨old, _, ha⟩ := map_some ha
        cases ha; exact (Fr.kill _ _).trans (.alloc _ _)
      · cases ha
  · cases ha6

theorem acopy_fr {P : Program} {ats : Array TypeId} {d x v : Value} {h h' : AHeap} (ha : acopy P ats d x h = some (v, h')) : Fr h h' := by
  unfold acopy at ha
  split at ha
  case h_2 => cases ha
  obtain ⟨z, hz, ha1⟩ := bind_some_iff ha
  obtain ⟨n, hn, ha2⟩ := bind_some_iff ha1
  obtain ⟨arr, harr, ha3⟩ := bind_some_iff ha2
  clear ha ha1 ha2
  split at ha3
  · obtain ⟨_, ha⟩ := if_some ha3
    cases ha; exact .refl _
  · split at ha3
    · cases ha3; exact .refl _
    · split at ha3
      · cases ha3
      · obtain ⟨h1, hp, ha⟩ := map_some ha3
        cases ha; exact putAt_fr hp

theorem aclear_fr {P : Program} {ats : Array TypeId} {x : Value} {h h' : AHeap} (ha : aclear P ats x h = some h') : Fr h h' := by
  unfold aclear at ha
  split at ha
  case h_2 => cases ha
  split at ha
  · obtain ⟨_, ha⟩ := if_some ha
    cases ha; exact .refl _
  · split at ha
    · cases ha; exact .refl _
    · split at ha
      · cases ha
      · obtain ⟨z, _, ha⟩ := bind_some_iff ha
        exact putAt_fr ha

theorem astore_touch {P : Program} {t : TypeId} {x u : Value} {h h' : AHeap} (hs : astore P t x u h = some h') : Fr h h' ∧ h'.next = h.next ∧ ∀ v, ptrBlk x ≠ some v → h'.blk v = h.blk v := by
  unfold astore at hs
  split at hs
  · rename_i v o
    split at hs
    · rename_i hb
      obtain ⟨_, hs⟩ := if_some hs
      cases hs
      refine ⟨.put _ hb, rfl, fun u hu => ?_⟩
      rw [AHeap.blk_put, if_neg (fun e => hu (by rw [e]; rfl))]
    · cases hs
  · cases hs

theorem amapUpdate_fr {P : Program} {t : TypeId} {x k u : Value} {h h' : AHeap} (ha : amapUpdate P t x k u h = some h') : Fr h h' := by
  unfold amapUpdate at ha
  split at ha
  case h_2 => cases ha
  split at ha
  case h_2 => cases ha
  rename_i hb
  obtain ⟨r, hr, ha1⟩ := bind_some_iff ha
  obtain ⟨_, ha2⟩ := if_some ha1
  clear ha ha1
  split at ha2
  · split at ha2
    · obtain ⟨_, ha⟩ := if_some ha2
      cases ha; exact .put _ hb
    · cases ha2
  · cases ha2; exact .put _ hb

theorem anext_fr {x v : Value} {s : Bool} {h h' : AHeap} (ha : anext x s h = some (v, h')) : Fr h h' := by
  unfold anext at ha
  split at ha
  case h_2 => cases ha
  split at ha
  case h_2 => cases ha
  rename_i hb
  split at ha
  · cases ha; exact .put _ hb
  · cases ha; exact .refl _

/-- What the operations without memory do. -/
theorem pfall_fr {P : Program} {o : Oper} {ev : Operand → Value} {h h' : AHeap} {v : Value}
    (hs : (match pstep P o ev h.next with
      | some (v, nb) => match nb with
        | none => some (v, h)
        | some B => some (v, h.alloc B)
      | none => none) = some (v, h')) : ∃ nb, pstep P o ev h.next = some (v, nb) ∧ h' = putNew h nb := by
  cases hp : pstep P o ev h.next with
  | none => rw [hp] at hs; cases hs
  | some r =>
    obtain ⟨v1, nb⟩ := r
    rw [hp] at hs
    cases nb <;> cases hs <;> exact ⟨_, rfl, rfl⟩
theorem putNew_fr (h : AHeap) (nb : Option Blk) : Fr h (putNew h nb) := by
  cases nb with
  | none => exact .refl _
  | some B => exact .alloc _ _

theorem aappend_touch {P : Program} {ats : Array TypeId} {s x v : Value} {h h' : AHeap} (ha : aappend P ats s x h = some (v, h')) : ∀ u, u < h.next → h'.blk u ≠ h.blk u → ∃ a l c, s = .slice (some a) l c ∧ a.block = u := by
  have al : ∀ (h : AHeap) (B : Blk) (u : Nat), u < h.next → (h.alloc B).blk u = h.blk u := fun h B u hu => by rw [AHeap.blk_alloc, if_neg (by omega)]
  intro u hu hne
  unfold aappend at ha
  split at ha
  case h_2 => cases ha
  obtain ⟨_, ha1⟩ := if_some ha
  obtain ⟨i, hi, ha2⟩ := bind_some_iff ha1
  obtain ⟨zv, hzv, ha3⟩ := bind_some_iff ha2
  obtain ⟨n, hn, ha4⟩ := bind_some_iff ha3
  obtain ⟨arr, harr, ha5⟩ := bind_some_iff ha4
  obtain ⟨_, ha6⟩ := if_some ha5
  clear ha ha1 ha2 ha3 ha4 ha5
  split at ha6
  · split at ha6
    · cases ha6; exact absurd rfl hne
    · obtain ⟨_, ha⟩ := if_some ha6
      cases ha; exact absurd (al _ _ _ hu) hne
  · split at ha6
    · obtain ⟨h1, hp, ha⟩ := map_some ha6
      cases ha
      refine ⟨_, _, _, rfl, ?_⟩
      refine Classical.byContradiction fun hn => hne ((putAt_touch hp).2 u fun e => hn e.symm)
    · obtain ⟨_, ha⟩ := if_some ha6
      obtain ⟨old, _, ha⟩ := bind_some_iff ha
      obtain ⟨_, ha⟩ := if_some ha
      cases ha; exact absurd (al _ _ _ hu) hne
  · obtain ⟨_, ha⟩ := if_some ha6
    cases ha; exact absurd rfl hne
  · split at ha6
    · obtain ⟨h1, hp, ha⟩ := map_some ha6
      cases ha
      refine ⟨_, _, _, rfl, ?_⟩
      refine Classical.byContradiction fun hn => hne ((putAt_touch hp).2 u fun e => hn e.symm)
    · obtain ⟨_, ha⟩ := if_some ha6
      split at ha
      · obtain ⟨old, _, ha⟩ := map_some ha
        cases ha
        refine ⟨_, _, _, rfl, ?_⟩
        refine Classical.byContradiction fun hn => hne ?_
        exact (al (h.put _ none) _ u hu).trans (by rw [AHeap.blk_put, if_neg (fun e => hn e.symm)])
      · cases ha
  · cases ha6

theorem append_touch {P : Program} {o : Oper} {ev : Operand → Value} {h h' : AHeap} {v : Value} {args : Array Operand} {ats : Array TypeId} (ho : o.op = .call ⟨.builtin .append, args, ats⟩) (hs : ostep P o ev h = some (v, h')) :
    (apCls o ev = .x ∨ ∃ w, apCls o ev = .w w) ∧ ∀ u, u < h.next → h'.blk u ≠ h.blk u → apCls o ev = .x ∨ apCls o ev = .w u := by
  unfold ostep at hs
  rw [ho] at hs
  simp only at hs
  unfold apCls
  rw [ho]
  simp only
  split at hs
  · rename_i x y hxy
    refine ⟨?_, fun u hu hne => ?_⟩
    · split
      · exact .inr ⟨_, rfl⟩
      · exact .inl rfl
    · obtain ⟨a, l, c, e1, e2⟩ := aappend_touch hs u hu hne
      rw [e1, ← e2]
      exact .inr rfl
  · cases hs

/-- An operation, by its class. -/
def Kind (P : Program) (o : Oper) (ev : Operand → Value) (h : AHeap) (v : Value) (h' : AHeap) : Cls → Prop
  | .p => ∃ nb, pstep P o ev h.next = some (v, nb) ∧ h' = putNew h nb
  | .l u => h' = h ∧ ((∃ t a, o.op = .load t a ∧ ptrBlk (ev a) = some u ∧ aload P t (ev a) h = some v) ∨ (∃ t x i ok, o.op = .lookup t x i ok ∧ ev x = .map (some u) ∧ alookup P t (ev x) (ev i) ok h = some v))
  | .s u => h'.next = h.next ∧ ∀ v, v ≠ u → h'.blk v = h.blk v
  | .x => True
  | _ => False

theorem pfall_both {P : Program} {o : Oper} {ev : Operand → Value} {h h' : AHeap} {v : Value}
    (hs : (match pstep P o ev h.next with
      | some (v, nb) => match nb with
        | none => some (v, h)
        | some B => some (v, h.alloc B)
      | none => none) = some (v, h')) : Fr h h' ∧ Kind P o ev h v h' .p := by
  have := pfall_fr hs
  exact ⟨by obtain ⟨nb, _, rfl⟩ := this; exact putNew_fr h nb, this⟩

theorem ostep_kind {P : Program} {o : Oper} {ev : Operand → Value} {h h' : AHeap} {v : Value} (hs : ostep P o ev h = some (v, h')) : Fr h h' ∧ Kind P o ev h v h' (clsOf o ev) := by
  obtain ⟨dst, op, ty, pos, after, guard⟩ := o
  cases op with
  | load t a =>
    simp only [ostep] at hs
    split at hs
    · rename_i u hu
      cases hs
      refine ⟨.refl _, ?_⟩
      simp only [clsOf]
      cases hp : ptrBlk (ev a) with
      | none => trivial
      | some u => exact ⟨rfl, .inl ⟨t, a, rfl, hp, hu⟩⟩
    · cases hs
  | store t a x =>
    simp only [ostep] at hs
    split at hs
    · rename_i hu
      cases hs
      obtain ⟨g1, g2, g3⟩ := astore_touch hu
      refine ⟨g1, ?_⟩
      simp only [clsOf]
      cases hp : ptrBlk (ev a) with
      | none => trivial
      | some u => exact ⟨g2, fun v hv => g3 v (by rw [hp]; exact fun e => hv (Option.some.inj e).symm)⟩
    · cases hs
  | mapUpdate t m k x =>
    simp only [ostep] at hs
    split at hs
    · rename_i hu
      cases hs
      exact ⟨amapUpdate_fr hu, trivial⟩
    · cases hs
  | insert t m k x =>
    simp only [ostep] at hs
    split at hs
    · rename_i hu
      cases hs
      exact ⟨amapUpdate_fr hu, trivial⟩
    · cases hs
  | lookup t x i ok =>
    simp only [ostep] at hs
    split at hs
    · rename_i u hu
      cases hs
      refine ⟨.refl _, ?_⟩
      simp only [clsOf]
      split
      · rename_i hx
        exact ⟨rfl, .inr ⟨t, x, i, ok, rfl, hx, hu⟩⟩
      · trivial
    · cases hs
  | next it s => exact ⟨anext_fr hs, trivial⟩
  | call c =>
    obtain ⟨cl, args, ats⟩ := c
    cases cl with
    | value f => cases hs
    | invoke r m => cases hs
    | builtin b =>
      have rest : ∀ b, b ≠ .len → (match pstep P ⟨dst, .call ⟨.builtin b, args, ats⟩, ty, pos, after, guard⟩ ev h.next with
          | some (v, nb) => match nb with
            | none => some (v, h)
            | some B => some (v, h.alloc B)
          | none => match b, args.toList with
            | .len, [x] => match alen P ats (ev x) h with | some v => some (v, h) | none => none
            | _, _ => none) = some (v, h') → Fr h h' ∧ Kind P ⟨dst, .call ⟨.builtin b, args, ats⟩, ty, pos, after, guard⟩ ev h v h' .p := by
        intro b hb hs
        have : ∃ nb, pstep P ⟨dst, .call ⟨.builtin b, args, ats⟩, ty, pos, after, guard⟩ ev h.next = some (v, nb) ∧ h' = putNew h nb := by
          apply pfall_fr
          cases hp : pstep P ⟨dst, .call ⟨.builtin b, args, ats⟩, ty, pos, after, guard⟩ ev h.next with
          | some r => rw [hp] at hs; exact hs
          | none =>
            rw [hp] at hs
            simp only at hs
            split at hs
            · exact absurd rfl hb
            · cases hs
        exact ⟨by obtain ⟨nb, _, rfl⟩ := this; exact putNew_fr h nb, this⟩
      cases b with
      | append =>
        simp only [ostep] at hs
        split at hs
        · exact ⟨aappend_fr hs, trivial⟩
        · cases hs
      | copy =>
        simp only [ostep] at hs
        split at hs
        · exact ⟨acopy_fr hs, trivial⟩
        · cases hs
      | clear =>
        simp only [ostep] at hs
        split at hs
        · split at hs
          · rename_i hu
            cases hs
            exact ⟨aclear_fr hu, trivial⟩
          · cases hs
        · cases hs
      | len =>
        simp only [ostep] at hs
        cases hp : pstep P ⟨dst, .call ⟨.builtin .len, args, ats⟩, ty, pos, after, guard⟩ ev h.next with
        | some r =>
          obtain ⟨v1, nb⟩ := r
          rw [hp] at hs
          have hn : ∃ nb, pstep P ⟨dst, .call ⟨.builtin .len, args, ats⟩, ty, pos, after, guard⟩ ev h.next = some (v, nb) ∧ h' = putNew h nb := by
            cases nb <;> cases hs <;> exact ⟨_, hp, rfl⟩
          refine ⟨by obtain ⟨nb, _, rfl⟩ := hn; exact putNew_fr h nb, ?_⟩
          simp only [clsOf]
          split
          · split
            · trivial
            · exact hn
          · exact hn
        | none =>
          rw [hp] at hs
          simp only at hs
          obtain ⟨x, hx, hs3⟩ : ∃ x, args.toList = [x] ∧ (match alen P ats (ev x) h with | some v => some (v, h) | none => none) = some (v, h') := by
            split at hs
            · exact ⟨_, by assumption, hs⟩
            · cases hs
          split at hs3
          · rename_i u hu
            cases hs3
            refine ⟨.refl _, ?_⟩
            have hm : ∃ r, ev x = .map r := by
              unfold alen at hu
              split at hu
              · obtain ⟨kv, hkv, _⟩ := map_some hu
                unfold mapOf at hkv
                split at hkv
                · exact ⟨_, by assumption⟩
                · exact ⟨_, by assumption⟩
                · cases hkv
              · cases hu
            obtain ⟨r, hm⟩ := hm
            simp only [clsOf, hx, hm]
            trivial
          · cases hs3
      | _ => exact rest _ nofun hs
  | _ => exact pfall_both hs

end Go.VE
