import Derived.Test.YthjinaagdfnmhaaGreatDoorVl
namespace Go.VE
open Go
set_option linter.unusedVariables false
set_option linter.unusedSimpArgs false

/-! ### One operation, sound -/

/-- What a step hands to the temporaries. -/
def Done (nx : Next) (v : Value) : Prop := nx = .value v ∨ (nx = .skip ∧ v = undef)

def NOk (P : Program) (ρ : Rho) (h : AHeap) (w : World) (s : Sem Next) (v : Value) (h' : AHeap) : Prop :=
  ∃ nx v' w' ρ', s.run P w = .ok nx w' ∧ Done nx v' ∧ VRel ρ' v v' ∧ Holds ρ' h' w' ∧ Ext ρ h w ρ' h' w'

theorem NOk.ofValue {P : Program} {ρ ρ' : Rho} {h h' : AHeap} {w w' : World} {s : Sem Value} {v v' : Value} (hs : s.run P w = .ok v' w') (r : VRel ρ' v v') (H : Holds ρ' h' w') (E : Ext ρ h w ρ' h' w') :
    NOk P ρ h w (do pure (Next.value (← s))) v h' := ⟨_, v', w', ρ', val_ok hs, .inl rfl, r, H, E⟩
theorem NOk.ofUnit {P : Program} {ρ ρ' : Rho} {h h' : AHeap} {w w' : World} {s : Sem Unit} (hs : s.run P w = .ok () w') (H : Holds ρ' h' w') (E : Ext ρ h w ρ' h' w') :
    NOk P ρ h w (do s; pure .skip) undef h' := ⟨.skip, undef, w', ρ', by rw [run_bind_ok hs]; rfl, .inr ⟨rfl, rfl⟩, .undef, H, E⟩

def putNew (h : AHeap) : Option Blk → AHeap
  | none => h
  | some B => h.alloc B

theorem POk.step {P : Program} {ρ : Rho} {h : AHeap} {w : World} {s : Sem Next} {v : Value} {nb : Option Blk} (hp : POk P ρ h.next w s v nb) (H : Holds ρ h w) : NOk P ρ h w s v (putNew h nb) := by
  cases nb with
  | none =>
    obtain ⟨v', h1, h2⟩ := hp
    exact ⟨_, v', w, ρ, h1, .inl rfl, h2, H, .refl _ _ _ H.fresh⟩
  | some B =>
    obtain ⟨v', w', o, p, h1, h2, h3, h4, h5, h6, h7⟩ := hp
    obtain ⟨b1, b2⟩ := h7 _ (H.le_ins p) (Rho.ins_same _ _ _)
    obtain ⟨g1, g2⟩ := H.alloc' o B p h2 h3 h4 h5 h6 b1
    exact ⟨_, v', w', _, h1, .inl rfl, b2, g1, g2⟩

theorem pfall {P : Program} (F : Fine P) {ρ : Rho} {o : Oper} {ev ev' : Operand → Value} {h h' : AHeap} {v : Value} {w : World} (hr : ∀ x ∈ o.op.operands, VRel ρ (ev x) (ev' x))
    (hs : (match pstep P o ev h.next with
      | some (v, nb) => match nb with
        | none => some (v, h)
        | some B => some (v, h.alloc B)
      | none => none) = some (v, h')) (H : Holds ρ h w) : NOk P ρ h w (execOp ev' o) v h' := by
  cases hp : pstep P o ev h.next with
  | none => rw [hp] at hs; cases hs
  | some r =>
    obtain ⟨v1, nb⟩ := r
    rw [hp] at hs
    have := (pstep_sound F hr hp w).step H
    cases nb <;> cases hs <;> exact this

theorem aclear_ok {P : Program} (F : Fine P) {ρ : Rho} {ats : Array TypeId} {ty : TypeId} {x x' : Value} {h h' : AHeap} {w : World} (ha : aclear P ats x h = some h') (rx : VRel ρ x x') (H : Holds ρ h w) :
    ∃ w', (Builtin.clear_ ats ty #[x']).run P w = .ok (.tuple #[]) w' ∧ Holds ρ h' w' ∧ Ext ρ h w ρ h' w' := by
  unfold aclear at ha
  split at ha
  case h_2 => cases ha
  rename_i e base n c he
  obtain ⟨t, ht, hu⟩ := bind_some_iff he
  have start : ∀ (b' : Option Addr) (c' : Nat) w', x' = .slice b' n c' →
      ((match b', n with
        | none, _ => pure ()
        | _, 0 => pure ()
        | some a, n => (do storeCells a (Builtin.zeroCells (← zeroValue e).cells n).toList : Sem Unit)) : Sem Unit).run P w = .ok () w' → (Builtin.clear_ ats ty #[x']).run P w = .ok (.tuple #[]) w' := by
    intro b' c' w' e1 e2
    subst e1
    unfold Builtin.clear_
    simp only [ht, List.getElem?_toArray, List.getElem?_cons_zero]
    rw [run_bind_ok (pureRun_run (by rw [pureRun_underlying, hu]) w)]
    cases b' with
    | none => cases e2; rfl
    | some a =>
      cases n with
      | zero => cases e2; rfl
      | succ n =>
        have e3 := run_bind_ok (P := P) (f := fun _ => (pure (.tuple #[]) : Sem Value)) e2
        refine Eq.trans ?_ e3
        show _ = Sem.run P ((zeroValue e >>= fun z => storeCells a (Builtin.zeroCells z.cells (n + 1)).toList) >>= fun _ => (pure (.tuple #[]) : Sem Value)) w
        rw [bind_assoc]
        rfl
  split at ha
  · obtain ⟨h0, ha⟩ := if_some ha
    cases ha
    cases rx
    exact ⟨w, start none _ _ rfl rfl, H, .refl _ _ _ H.fresh⟩
  · rename_i v0 o sp
    split at ha
    · rename_i h0
      cases ha
      subst h0
      have key : ∀ (b : Option Addr) c', x' = .slice b 0 c' → ∃ w', (Builtin.clear_ ats ty #[x']).run P w = .ok (.tuple #[]) w' ∧ Holds ρ h w' ∧ Ext ρ h w ρ h w' :=
        fun b c' e1 => ⟨w, start b c' _ e1 (by cases b <;> rfl), H, .refl _ _ _ H.fresh⟩
      cases rx with
      | slice hp => exact key _ _ rfl
      | sliceO hp hk hc => exact key _ _ rfl
      | sliceV => exact key _ _ rfl
    · rename_i h0
      split at ha
      · cases ha
      rename_i hsp
      obtain ⟨z, hz, ha⟩ := bind_some_iff ha
      have key : ∀ (p : Place) c', ρ v0 = some p → x' = .slice (some ⟨p.block, p.base + o, none⟩) n c' → ∃ w', (Builtin.clear_ ats ty #[x']).run P w = .ok (.tuple #[]) w' ∧ Holds ρ h' w' ∧ Ext ρ h w ρ h' w' := by
        intro p c' hp e1
        have rz : ARel ρ (Builtin.zeroCells z.cells n) (Builtin.zeroCells z.cells n) := zerosN_rel (F.zcells hz ρ) _
        obtain ⟨w', g1, g2, g3⟩ := putAt_ok (P := P) ha hp rz H
        refine ⟨w', start _ c' _ e1 ?_, g2, g3⟩
        cases n with
        | zero => exact absurd rfl h0
        | succ n =>
          simp only []
          rw [run_bind_ok (pureRun_run (P := P) (s := zeroValue e) (by rw [pureRun_zero, hz]) w)]
          exact g1
      cases rx with
      | slice hp => exact key _ _ hp rfl
      | sliceO hp hk hc => exact key _ _ hp rfl
      | sliceV => exact absurd rfl hsp

theorem alen_ok {P : Program} {ρ : Rho} {ats : Array TypeId} {ty : TypeId} {x x' v : Value} {h : AHeap} {w : World} (ha : alen P ats x h = some v) (rx : VRel ρ x x')
    (hb : ∀ r p B, x = .map (some r) → ρ r = some p → h.blk r = some B → BRel ρ p B w) : ∃ v', (Builtin.len_ ats ty #[x']).run P w = .ok v' w ∧ VRel ρ v v' := by
  unfold alen at ha
  split at ha
  case h_2 => cases ha
  rename_i kt et he
  obtain ⟨t, ht, hu⟩ := bind_some_iff he
  rw [Option.map_eq_some_iff] at ha
  obtain ⟨kv, hkv, rfl⟩ := ha
  refine ⟨goInt kv.length, ?_, .int _ _⟩
  unfold Builtin.len_
  simp only [ht, List.getElem?_toArray, List.getElem?_cons_zero]
  rw [run_bind_ok (pureRun_run (by rw [pureRun_underlying, hu]) w)]
  unfold mapOf at hkv
  split at hkv
  · cases hkv
    cases rx
    rfl
  · rename_i r0
    split at hkv
    · rename_i kv' hbv
      cases hkv
      cases rx with
      | map hp =>
        obtain ⟨_, _, es, cl, k3, k4, k5⟩ := hb r0 _ _ rfl hp hbv
        simp only []
        rw [run_bind_ok (getObj_ok k3 nofun)]
        simp only [k4]
        rfl
    · cases hkv
  · cases hkv

theorem arr_of_list {α : Type} {a : Array α} {l : List α} (h : a.toList = l) : a = l.toArray := by subst h; simp

theorem ostep_sound {P : Program} (F : Fine P) {ρ : Rho} {o : Oper} {ev ev' : Operand → Value} {h h' : AHeap} {v : Value} {w : World} (hr : ∀ x ∈ o.op.operands, VRel ρ (ev x) (ev' x))
    (hs : ostep P o ev h = some (v, h')) (H : Holds ρ h w) : NOk P ρ h w (execOp ev' o) v h' := by
  obtain ⟨dst, op, ty, pos, after, guard⟩ := o
  cases op with
  | load t a =>
    simp only [ostep] at hs
    split at hs
    · rename_i u hu
      cases hs
      obtain ⟨u', h1, h2⟩ := aload_ok hu (hr a (by simp [Op.operands])) fun v p B _ h1 h2 => H.rel v p B h1 h2
      exact .ofValue h1 h2 H (.refl _ _ _ H.fresh)
    · cases hs
  | store t a x =>
    simp only [ostep] at hs
    split at hs
    · rename_i hu
      cases hs
      obtain ⟨w', h1, h2, h3⟩ := astore_ok hu (hr a (by simp [Op.operands])) (hr x (by simp [Op.operands])) H
      exact .ofUnit h1 h2 h3
    · cases hs
  | mapUpdate t m k x =>
    simp only [ostep] at hs
    split at hs
    · rename_i hu
      cases hs
      obtain ⟨w', h1, h2, h3⟩ := amapUpdate_ok hu (hr m (by simp [Op.operands])) (hr k (by simp [Op.operands])) (hr x (by simp [Op.operands])) H
      exact .ofUnit h1 h2 h3
    · cases hs
  | insert t m k x =>
    simp only [ostep] at hs
    split at hs
    · rename_i hu
      cases hs
      obtain ⟨w', h1, h2, h3⟩ := amapUpdate_ok hu (hr m (by simp [Op.operands])) (hr k (by simp [Op.operands])) (hr x (by simp [Op.operands])) H
      exact .ofUnit h1 h2 h3
    · cases hs
  | lookup t x i ok =>
    simp only [ostep] at hs
    split at hs
    · rename_i u hu
      cases hs
      obtain ⟨u', h1, h2⟩ := alookup_ok F hu (hr x (by simp [Op.operands])) (hr i (by simp [Op.operands])) fun v p B _ h1 h2 => H.rel v p B h1 h2
      exact .ofValue h1 h2 H (.refl _ _ _ H.fresh)
    · cases hs
  | next it s =>
    simp only [ostep] at hs
    obtain ⟨w', v', h1, h2, h3, h4⟩ := anext_ok (ty := ty) hs (hr it (by simp [Op.operands])) H
    exact .ofValue h1 h4 h2 h3
  | call c =>
    obtain ⟨cl, args, ats⟩ := c
    have ra : ∀ x ∈ args, VRel ρ (ev x) (ev' x) := fun x hx => hr x (by cases cl <;> simp [Op.operands, Call.operands, hx])
    have exec : ∀ b, execOp ev' ⟨dst, .call ⟨.builtin b, args, ats⟩, ty, pos, after, guard⟩ = builtin b ats ty (args.map fun | .const _ => true | _ => false) (args.map ev') := fun b => rfl
    cases cl with
    | value f => cases hs
    | invoke r m => cases hs
    | builtin b =>
      have rest : ∀ b, (match pstep P ⟨dst, .call ⟨.builtin b, args, ats⟩, ty, pos, after, guard⟩ ev h.next with
          | some (v, nb) => match nb with
            | none => some (v, h)
            | some B => some (v, h.alloc B)
          | none => match b, args.toList with
            | .len, [x] => match alen P ats (ev x) h with | some v => some (v, h) | none => none
            | _, _ => none) = some (v, h') → (∀ x ∈ (⟨dst, .call ⟨.builtin b, args, ats⟩, ty, pos, after, guard⟩ : Oper).op.operands, VRel ρ (ev x) (ev' x)) →
          NOk P ρ h w (execOp ev' ⟨dst, .call ⟨.builtin b, args, ats⟩, ty, pos, after, guard⟩) v h' := by
        intro b hs hr
        cases hp : pstep P ⟨dst, .call ⟨.builtin b, args, ats⟩, ty, pos, after, guard⟩ ev h.next with
        | some r => exact pfall F hr (by rw [hp] at hs ⊢; exact hs) H
        | none =>
          rw [hp] at hs
          simp only at hs
          obtain ⟨x, hx, hs3⟩ : ∃ x, args.toList = [x] ∧ b = .len ∧ (match alen P ats (ev x) h with | some v => some (v, h) | none => none) = some (v, h') := by
            split at hs
            · exact ⟨_, by assumption, rfl, hs⟩
            · cases hs
          obtain ⟨hbl, hs3⟩ := hs3
          subst hbl
          have hx := arr_of_list hx
          subst hx
          split at hs3
          · rename_i u hu
            cases hs3
            obtain ⟨v', h1, h2⟩ := alen_ok (ty := ty) hu (ra x (by simp)) fun v p B _ h1 h2 => H.rel v p B h1 h2
            rw [exec, show ([x].toArray.map ev') = #[ev' x] by simp]
            exact .ofValue (s := Builtin.len_ ats ty #[ev' x]) h1 h2 H (.refl _ _ _ H.fresh)
          · cases hs3
      cases b with
      | append =>
        simp only [ostep] at hs
        split at hs
        · rename_i x y hx
          have hx := arr_of_list hx
          subst hx
          obtain ⟨w', v', ρ', h1, h2, h3, h4⟩ := aappend_ok (ty := ty) hs (ra x (by simp)) (ra y (by simp)) H
          rw [exec, show ([x, y].toArray.map ev') = #[ev' x, ev' y] by simp]
          exact .ofValue (s := Builtin.append_ ats ty #[ev' x, ev' y]) h1 h4 h2 h3
        · cases hs
      | copy =>
        simp only [ostep] at hs
        split at hs
        · rename_i x y hx
          have hx := arr_of_list hx
          subst hx
          obtain ⟨w', v', h1, h2, h3, h4⟩ := acopy_ok (ty := ty) hs (ra x (by simp)) (ra y (by simp)) H
          rw [exec, show ([x, y].toArray.map ev') = #[ev' x, ev' y] by simp]
          exact .ofValue (s := Builtin.copy_ ats ty #[ev' x, ev' y]) h1 h4 h2 h3
        · cases hs
      | clear =>
        simp only [ostep] at hs
        split at hs
        · rename_i x hx
          have hx := arr_of_list hx
          subst hx
          split at hs
          · rename_i hu
            cases hs
            obtain ⟨w', h1, h2, h3⟩ := aclear_ok F (ty := ty) hu (ra x (by simp)) H
            rw [exec, show ([x].toArray.map ev') = #[ev' x] by simp]
            exact .ofValue (s := Builtin.clear_ ats ty #[ev' x]) h1 (.of_flat 8 _ (by simp [flatB])) h2 h3
          · cases hs
        · cases hs
      | _ => exact rest _ hs hr
  | _ => exact pfall F hr hs H

end Go.VE
