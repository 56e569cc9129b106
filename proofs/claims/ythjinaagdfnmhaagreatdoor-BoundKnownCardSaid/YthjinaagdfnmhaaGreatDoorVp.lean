import Derived.Test.YthjinaagdfnmhaaGreatDoorVo
namespace Go.VE
open Go
set_option linter.unusedVariables false
set_option linter.unusedSimpArgs false

structure RFr (R : Rec) : Prop where
  call : ∀ f args h v h', R.call f args h = some (v, h') → Fr h h'
  code : ∀ ro c st e st', R.code ro c st = some (e, st') → Fr st.h st'.h

theorem around_fr {R : Rec} (RF : RFr R) {l : Nat} {args : Array Value} {h h' : AHeap} {v : Value} (hs : around R l args h = some (v, h')) : Fr h h' := by
  unfold around at hs
  split at hs
  case h_2 => cases hs
  rename_i lr hb
  obtain ⟨hsz, hs⟩ := if_some hs
  split at hs
  case h_2 => cases hs
  rename_i st1 hc1
  split at hs
  case h_2 => cases hs
  rename_i r1 hb1
  split at hs
  case h_2 => cases hs
  rename_i hrs hds1
  split at hs
  case h_2 => cases hs
  rename_i e st2 hc2
  split at hs
  case h_2 => cases hs
  rename_i r2 hb2 hds2
  have f1 := RF.code _ _ _ _ _ hc1
  have f2 := RF.code _ _ _ _ _ hc2
  have f3 : Fr st1.h (st1.h.put l (some (.loop { r1 with state := .busy }))) := .put _ hb1
  have f := (f1.trans f3).trans f2
  split at hs
  · cases hs; exact f.trans (.put _ hb2)
  · cases hs; exact f.trans (.put _ hb2)
  · cases hs; exact f.trans (.put _ hb2)
  · cases hs

theorem acall_fr {P : Program} {R : Rec} (RF : RFr R) {f : Value} {args : Array Value} {h h' : AHeap} {v : Value} (hs : acall P R f args h = some (v, h')) : Fr h h' := by
  unfold acall at hs
  split at hs
  case h_3 => cases hs
  · split at hs
    · unfold aext at hs
      rename_i e _
      cases hf : (Array.toList _).all (flatB 8) with
      | false => rw [hf] at hs; cases hs
      | true =>
        rw [hf] at hs
        simp only [cond_true] at hs
        split at hs
        · rename_i u hu
          cases hv : flatB 8 u with
          | false => rw [hv] at hs; cases hs
          | true => rw [hv] at hs; cases hs; exact .refl _
        · cases hs
    · exact RF.call _ _ _ _ _ hs
  · exact around_fr RF hs

theorem lo_min (a b : Nat) : cond (Nat.ble a b) a b ≤ a ∧ cond (Nat.ble a b) a b ≤ b := by
  cases hb : Nat.ble a b with
  | true => exact ⟨Nat.le_refl _, Nat.le_of_ble_eq_true hb⟩
  | false =>
    have : ¬ a ≤ b := fun hle => by rw [Nat.ble_eq_true_of_le hle] at hb; cases hb
    exact ⟨by simp; omega, Nat.le_refl _⟩

/-- What an operation of a region touches, by its class. -/
structure Touch (st st' : St) (c : Cls) : Prop where
  fr : Fr st.h st'.h
  old : ∀ u, u < st.h.next → st'.h.blk u ≠ st.h.blk u → c = .x ∨ c = .s u ∨ c = .w u
  new : st.h.next < st'.h.next → c = .x ∨ c = .g ∨ (∃ w, c = .w w) ∨ (c = .a st.h.next ∧ st'.h.next = st.h.next + 1)

theorem clsAdj {c : Cls} {n m : Nat} {c' : Cls} (h : (match c with | .p => cond (Nat.beq m n) .p (.a n) | c => c) = c') : (c = .p ∧ ((m = n ∧ c' = .p) ∨ (m ≠ n ∧ c' = .a n))) ∨ (c ≠ .p ∧ c' = c) := by
  cases c with
  | p =>
    left
    refine ⟨rfl, ?_⟩
    simp only at h
    cases hb : Nat.beq m n with
    | true => rw [hb] at h; exact .inl ⟨Nat.eq_of_beq_eq_true hb, h.symm⟩
    | false => rw [hb] at h; exact .inr ⟨Nat.ne_of_beq_eq_false hb, h.symm⟩
  | _ => right; exact ⟨nofun, h.symm⟩

theorem stepOp_touch {P : Program} {R : Rec} (RF : RFr R) {ops : Array Oper} {o : Oper} {st st' : St} {c : Cls} (hs : stepOp P R ops o st = some (st', c)) : Touch st st' c := by
  unfold stepOp at hs
  cases hw : awanted ops st.t o with
  | false =>
    rw [hw] at hs
    cases hs
    exact ⟨.refl _, fun u _ h => absurd rfl h, fun h => absurd h (Nat.lt_irrefl _)⟩
  | true =>
    rw [hw] at hs
    cases ho : o.op.operands.toList.all (opdOk st.h.ng) with
    | false => rw [ho] at hs; cases hs
    | true =>
      rw [ho] at hs
      simp only [cond_true] at hs
      split at hs
      · split at hs
        case h_2 => cases hs
        rename_i v h' hcall
        cases hs
        have fr := acall_fr RF hcall
        have hlo := lo_min st.h.lo h'.lo
        refine ⟨⟨hlo.1, fr.next, fr.ng, fun u h1 h2 => fr.keep u (Nat.lt_of_lt_of_le h1 hlo.2) h2, fr.fresh⟩, fun u hu hne => ?_, fun hlt => ?_⟩
        · left
          cases hb : Nat.ble st.h.next h'.lo with
          | false => rfl
          | true =>
            have hle := Nat.le_of_ble_eq_true hb
            exact absurd (fr.keep u (Nat.lt_of_lt_of_le hu hle) hu) hne
        · cases hb : Nat.ble st.h.next h'.lo with
          | false => exact .inl rfl
          | true => exact .inr (.inl rfl)
      · rename_i hop
        split at hs
        case h_2 => cases hs
        rename_i v h' hstep
        cases hs
        have fr := (ostep_kind hstep).1
        obtain ⟨ap1, ap2⟩ := append_touch hop hstep
        have hlo := lo_min st.h.lo h'.lo
        refine ⟨⟨hlo.1, fr.next, fr.ng, fun u h1 h2 => fr.keep u (Nat.lt_of_lt_of_le h1 hlo.2) h2, fr.fresh⟩, fun u hu hne => ?_, fun hlt => ?_⟩
        · cases hb : Nat.ble st.h.next h'.lo with
          | false =>
            rcases ap2 u hu hne with k | k
            · exact .inl k
            · exact .inr (.inr k)
          | true =>
            have hle := Nat.le_of_ble_eq_true hb
            exact absurd (fr.keep u (Nat.lt_of_lt_of_le hu hle) hu) hne
        · cases hb : Nat.ble st.h.next h'.lo with
          | false =>
            rcases ap1 with k | k
            · exact .inl k
            · exact .inr (.inr (.inl k))
          | true => exact .inr (.inl rfl)
      · split at hs
        case h_2 => cases hs
        rename_i v h' hstep
        simp only [Option.some.injEq, Prod.mk.injEq] at hs
        obtain ⟨hs1, hs2⟩ := hs
        subst hs1
        obtain ⟨fr, k⟩ := ostep_kind hstep
        refine ⟨fr, fun u hu hne => ?_, fun hlt => ?_⟩
        · rcases clsAdj hs2 with ⟨hc, h2⟩ | ⟨hc, h2⟩
          · rw [hc] at k
            obtain ⟨nb, _, rfl⟩ := k
            exfalso
            apply hne
            cases nb with
            | none => rfl
            | some B => exact (AHeap.blk_alloc st.h B u).trans (if_neg (by omega))
          · subst h2
            cases hcl : clsOf o (evo st.t) with
            | p => exact absurd hcl hc
            | a w => rw [hcl] at k; exact k.elim
            | l w => rw [hcl] at k; obtain ⟨rfl, _⟩ := k; exact absurd rfl hne
            | s w =>
              rw [hcl] at k
              refine .inr (.inl ?_)
              by_cases hu' : u = w
              · rw [hu']
              · exact absurd (k.2 u hu') hne
            | w w => rw [hcl] at k; exact k.elim
            | g => rw [hcl] at k; exact k.elim
            | x => exact .inl rfl
        · rcases clsAdj hs2 with ⟨hc, h2⟩ | ⟨hc, h2⟩
          · rw [hc] at k
            obtain ⟨nb, _, rfl⟩ := k
            cases nb with
            | none => exact absurd hlt (Nat.lt_irrefl _)
            | some B =>
              rcases h2 with ⟨h2, _⟩ | ⟨_, h2⟩
              · exact absurd h2 (by simp [putNew])
              · exact .inr (.inr (.inr ⟨h2, by simp [putNew]⟩))
          · subst h2
            cases hcl : clsOf o (evo st.t) with
            | p => exact absurd hcl hc
            | a w => rw [hcl] at k; exact k.elim
            | l w => rw [hcl] at k; obtain ⟨rfl, _⟩ := k; exact absurd hlt (Nat.lt_irrefl _)
            | s w => rw [hcl] at k; have := k.1; simp only at hlt; omega
            | w w => rw [hcl] at k; exact k.elim
            | g => rw [hcl] at k; exact k.elim
            | x => exact .inl rfl

theorem runOps_fr {P : Program} {R : Rec} (RF : RFr R) {ops : Array Oper} : ∀ (l : List Oper) (st st' : St), runOps P R ops l st = some st' → Fr st.h st'.h := by
  intro l
  induction l with
  | nil => intro st st' h; cases h; exact .refl _
  | cons o l ih =>
    intro st st' h
    simp only [runOps] at h
    split at h
    · rename_i st1 c h1
      exact (stepOp_touch RF h1).fr.trans (ih _ _ h)
    · cases h
theorem runTr_fr {P : Program} {R : Rec} (RF : RFr R) {ops : Array Oper} : ∀ (l : List Oper) (st st' : St) (tr tr' : List Cls), runTr P R ops l st tr = some (st', tr') → Fr st.h st'.h := by
  intro l
  induction l with
  | nil => intro st st' tr tr' h; cases h; exact .refl _
  | cons o l ih =>
    intro st st' tr tr' h
    simp only [runTr] at h
    split at h
    · rename_i st1 c h1
      exact (stepOp_touch RF h1).fr.trans (ih _ _ _ _ h)
    · cases h

theorem finish_fr {d l : Nat} {st st' : St} {h : AHeap} {e : Exit} (hs : finish d l st h = some (e, st')) : Fr h st'.h := by
  unfold finish at hs
  split at hs
  · rename_i r hb
    have f := Fr.put (some (.loop { r with state := .exhausted })) hb
    split at hs
    · cases hs
    · simp only at hs
      split at hs
      · cases hs; exact f
      · cases hs; exact f
      · cases hs; exact f
      · cases hs
  · cases hs

theorem exec_fr {P : Program} {R : Rec} (RF : RFr R) (L : Nat) (ro : Option Nat) : ∀ (c : Code) (st st' : St) (e : Exit), exec P R L ro c st = some (e, st') → Fr st.h st'.h := by
  intro c
  induction c with
  | skip => intro st st' e h; cases h; exact .refl _
  | region id ops draw =>
    intro st st' e h
    cases draw with
    | false =>
      simp only [exec] at h
      split at h
      · rename_i h1; cases h; exact runOps_fr RF _ _ _ h1
      · cases h
    | true =>
      simp only [exec] at h
      split at h
      · rename_i st1 tr h1
        cases hc : (statOk ops && drawOk (masks ops.toList []) tr) with
        | true => rw [hc] at h; cases h; exact runTr_fr RF _ _ _ _ _ h1
        | false => rw [hc] at h; cases h
      · cases h
  | seq a b iha ihb =>
    intro st st' e h
    simp only [exec] at h
    split at h
    · rename_i st1 h1; exact (iha _ _ _ h1).trans (ihb _ _ _ h)
    · exact iha _ _ _ h
  | cond c x y ihx ihy =>
    intro st st' e h
    simp only [exec] at h
    split at h
    · exact ihx _ _ _ h
    · exact ihy _ _ _ h
    · cases h
  | block id c ih =>
    intro st st' e h
    simp only [exec] at h
    split at h
    · rename_i id' st1 h1
      cases hb : Nat.beq id' id with
      | true => rw [hb] at h; cases h; exact ih _ _ _ h1
      | false => rw [hb] at h; cases h; exact ih _ _ _ h1
    · exact ih _ _ _ h
  | loop c ih =>
    intro st st' e h
    simp only [exec] at h
    have key : ∀ n st, loopN (exec P R L ro c) n st = some (e, st') → Fr st.h st'.h := by
      intro n
      induction n with
      | zero => intro st h; cases h
      | succ n ihn =>
        intro st h
        simp only [loopN] at h
        split at h
        · rename_i st1 h1; exact (ih _ _ _ h1).trans (ihn _ h)
        · exact ih _ _ _ h
    exact key _ _ h
  | rangeFunc g ps as b iha ihb =>
    intro st st' e h
    simp only [exec] at h
    split at h
    · cases h
    · cases hg : opdOk st.h.ng g with
      | false => rw [hg] at h; cases h
      | true =>
        rw [hg] at h
        simp only [cond_true] at h
        split at h
        · split at h
          · rename_i h3 h1
            exact (((Fr.alloc _ _).trans (.alloc _ _)).trans (RF.call _ _ _ _ _ h1)).trans (finish_fr h)
          · cases h
        · cases h
  | exit id => intro st st' e h; cases h; exact .refl _
  | scope c ih =>
    intro st st' e h
    simp only [exec] at h
    split at h
    · cases h
    · exact ih _ _ _ h
  | label l => intro st st' e h; cases h; exact .refl _
  | goto l => intro st st' e h; cases h
  | ret => intro st st' e h; cases h; exact .refl _
  | refuse w => intro st st' e h; cases h

theorem ends_fr : ∀ (ds : List Nat) (h h' : AHeap), ends ds h = some h' → Fr h h' := by
  intro ds
  induction ds with
  | nil => intro h h' e; cases e; exact .refl _
  | cons d ds ih =>
    intro h h' e
    simp only [ends] at e
    split at e
    · exact (Fr.kill _ _).trans (ih _ _ e)
    · cases e

theorem callBody_fr {P : Program} {F : FuncId → Option FInfo} {R : Rec} (RF : RFr R) {L : Nat} {f : FuncId} {args : Array Value} {h h' : AHeap} {v : Value} (hs : callBody P F R L f args h = some (v, h')) : Fr h h' := by
  unfold callBody at hs
  split at hs
  · split at hs
    · rename_i e st h1
      split at hs
      · split at hs
        · rename_i h2 he
          split at hs
          · cases hs; exact (exec_fr RF _ _ _ _ _ _ h1).trans (ends_fr _ _ _ he)
          · cases hs
        · cases hs
      · cases hs
    · cases hs
  · cases hs

theorem runN_fr (P : Program) (F : FuncId → Option FInfo) (X : FuncId → Option (Array Value → Sem Value)) (L : Nat) : ∀ n, RFr (runN P F X L n) := by
  intro n
  induction n with
  | zero => exact ⟨fun _ _ _ _ _ h => (by cases h), fun _ _ _ _ _ h => (by cases h)⟩
  | succ n ih => exact ⟨fun _ _ _ _ _ h => callBody_fr ih h, fun ro c st e st' h => exec_fr ih L ro c st st' e h⟩

end Go.VE
