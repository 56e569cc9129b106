import Derived.Test.YthjinaagdfnmhaaGreatDoorVu
import Derived.LoopNIn
import Derived.Scope
namespace Go.VE
open Go
set_option linter.unusedVariables false
set_option linter.unusedSimpArgs false

section
variable {b : Frame} {a : Act} {k : List Item} {cs : List Frame} {w : World} {F : Fence} {n : Nat} {P : Program} {Q : Exit → Act → World → Prop}

theorem stepR_scope {c : Code} : step P (lone (b.atR a (.code (.scope c) :: k)) cs w) = .next (lone (b.atR a (.code c :: .inScope c :: k)) cs w) :=
  step_lone_go (by simp [stepG, stepG.exec, Frame.atR])
theorem stepR_inScope {c : Code} : step P (lone (b.atR a (.inScope c :: k)) cs w) = .next (lone (b.atR a k) cs w) :=
  step_lone_go (by simp [stepG, stepG.exec, Frame.atR])

/-- A scope that no jump leaves. -/
theorem wpIn_scope {c : Code} (h : c.wpIn F n P (Exit.noGoto Q) a w) : (Code.scope c).wpIn F n P Q a w := by
  intro b k cs hro hb hr
  have h0 : (lone (b.atR a (.code (.scope c) :: k)) cs w).fenced P F := fenced_calm hb hr rfl
  obtain ⟨e, a₁, w₁, hq, harr⟩ := h b (.inScope c :: k) cs hro hb hr
  cases e with
  | normal => exact ⟨.normal, a₁, w₁, hq, .head h0 stepR_scope (StepsIn.trans harr (.one (fenced_calm hb hr rfl) stepR_inScope))⟩
  | exit id =>
    have hx : exitTo id (.inScope c :: k) = exitTo id k := by simp [exitTo]
    exact ⟨.exit id, a₁, w₁, hq, fun k' hk => .head h0 stepR_scope (harr.1 k' (by rw [hx]; exact hk)),
      fun hr' hk => let ⟨k₁, h1, h2⟩ := harr.2 hr' (by rw [hx]; exact hk); ⟨k₁, h1, .head h0 stepR_scope h2⟩⟩
  | goto l => exact hq.elim
  | ret => exact ⟨_, a₁, w₁, hq, .of_steps (.one h0 stepR_scope) harr⟩
  | panic ch => exact ⟨_, a₁, w₁, hq, .of_steps (.one h0 stepR_scope) harr⟩
  | outgrown => exact ⟨_, a₁, w₁, hq, .of_steps (.one h0 stepR_scope) harr⟩
end

theorem Post.trans {ρ₀ ρ₁ : Rho} {h₀ h₁ : AHeap} {w₀ w₁ : World} {e : Exit} {st' : St} (H₀ : Holds ρ₀ h₀ w₀) (H₁ : Holds ρ₁ h₁ w₁) (E : Ext ρ₀ h₀ w₀ ρ₁ h₁ w₁) {e' : Exit} {a' : Act} {w' : World} (h : Post ρ₁ h₁ w₁ e st' e' a' w') :
    Post ρ₀ h₀ w₀ e st' e' a' w' := by
  obtain ⟨h1, ρ', h2, h3⟩ := h
  exact ⟨h1, ρ', h2, Ext.trans H₀ H₁ E h3⟩

theorem CSound.seqN {P : Program} {ro : Option Nat} {x y : Code} {st st1 st' : St} {e : Exit} (hx : CSound P ro x st .normal st1) (hy : CSound P ro y st1 e st') : CSound P ro (.seq x y) st e st' := by
  intro ρ a w r hro S
  refine wpIn_seq (wpIn_mono (hx ρ a w r hro S) ?_)
  rintro e' a1 w1 ⟨rfl, ρ1, S1, E1⟩
  exact wpIn_mono (hy ρ1 a1 w1 r hro S1) fun _ _ _ h => h.trans S.h S1.h E1

theorem exec_sound {P : Program} (F : Fine P) {R : Rec} (RS : RSound P R) (RF : RFr R) (L : Nat) (ro : Option Nat) : ∀ (c : Code) (st st' : St) (e : Exit), exec P R L ro c st = some (e, st') → CSound P ro c st e st' := by
  intro c
  induction c with
  | skip =>
    intro st st' e h ρ a w r hro S
    cases h
    exact wpIn_skip ⟨rfl, ρ, S, .refl _ _ _ S.h.fresh⟩
  | region id ops draw =>
    intro st st' e h ρ a w r hro S
    cases draw with
    | false =>
      simp only [exec] at h
      split at h
      · rename_i h1
        cases h
        exact wpIn_region_list (runOps_sound F RS r _ _ h1 ρ a w S fun ρ' a' w' S' E' => ⟨rfl, ρ', S', E'⟩)
      · cases h
    | true =>
      simp only [exec] at h
      split at h
      · rename_i st1 tr h1
        cases hc : (statOk ops && drawOk (masks ops.toList []) tr) with
        | false => rw [hc] at h; cases h
        | true =>
          rw [hc] at h
          cases h
          simp only [Bool.and_eq_true] at hc
          exact drawn_sound F RS RF h1 hc.1 hc.2 S id r fun ρ' a' w' S' E' => ⟨rfl, ρ', S', E'⟩
      · cases h
  | seq x y ihx ihy =>
    intro st st' e h
    simp only [exec] at h
    split at h
    · rename_i st1 h1
      exact (ihx _ _ _ h1).seqN (ihy _ _ _ h)
    · rename_i hne
      intro ρ a w r hro S
      refine wpIn_seq (wpIn_mono (ihx _ _ _ h ρ a w r hro S) ?_)
      rintro e' a1 w1 ⟨rfl, h2⟩
      cases e' with
      | normal => exact absurd h (hne st')
      | _ => exact ⟨rfl, h2⟩
  | cond c x y ihx ihy =>
    intro st st' e h ρ a w r hro S
    simp only [exec] at h
    have hb : ∀ t, evo st.t c = .bool t → a.eval c = .bool t := by
      intro t ht
      cases c with
      | tmp i => exact ((S.t.2 i).bool_iff t).1 ht
      | const v => exact ht
      | global g => cases ht
      | func f => cases ht
    split at h
    · rename_i hc
      exact wpIn_cond_true (hb _ hc) (ihx _ _ _ h ρ a w r hro S)
    · rename_i hc
      exact wpIn_cond_false (hb _ hc) (ihy _ _ _ h ρ a w r hro S)
    · cases h
  | block id c ih =>
    intro st st' e h ρ a w r hro S
    simp only [exec] at h
    refine wpIn_block ?_
    split at h
    · rename_i id' st1 h1
      refine wpIn_mono (ih _ _ _ h1 ρ a w r hro S) ?_
      rintro e' a1 w1 ⟨rfl, h2⟩
      simp only [Exit.inBlock]
      cases hb : Nat.beq id' id with
      | true =>
        rw [hb] at h
        cases h
        rw [if_pos (Nat.eq_of_beq_eq_true hb)]
        exact ⟨rfl, h2⟩
      | false =>
        rw [hb] at h
        cases h
        rw [if_neg (Nat.ne_of_beq_eq_false hb)]
        exact ⟨rfl, h2⟩
    · rename_i hne
      refine wpIn_mono (ih _ _ _ h ρ a w r hro S) ?_
      rintro e' a1 w1 ⟨rfl, h2⟩
      cases e' with
      | exit id' => exact absurd h (hne id' st')
      | _ => exact ⟨rfl, h2⟩
  | loop c ih =>
    intro st st' e h ρ a w r hro S
    simp only [exec] at h
    refine wpIn_loop_rounds L ?_
    have key : ∀ n st ρ1 a1 w1, loopN (exec P R L ro c) n st = some (e, st') → Sim ρ1 st a1 w1 → ∀ Q : Exit → Act → World → Prop, (∀ e' a' w', Post ρ1 st.h w1 e st' e' a' w' → Q e' a' w') → Code.roundsIn (FW r) 0 P c Q n a1 w1 := by
      intro n
      induction n with
      | zero => intro st ρ1 a1 w1 h; cases h
      | succ n ihn =>
        intro st ρ1 a1 w1 h S1 Q hQ
        simp only [loopN] at h
        rw [roundsIn_succ]
        split at h
        · rename_i st1 h1
          refine wpIn_mono (ih _ _ _ h1 ρ1 a1 w1 r hro S1) ?_
          rintro e' a2 w2 ⟨rfl, ρ2, S2, E2⟩
          exact ihn st1 ρ2 a2 w2 h S2 Q fun e' a' w' hp => hQ _ _ _ (hp.trans S1.h S2.h E2)
        · rename_i hne
          refine wpIn_mono (ih _ _ _ h ρ1 a1 w1 r hro S1) ?_
          rintro e' a2 w2 ⟨rfl, h2⟩
          cases e' with
          | normal => exact absurd h (hne st')
          | _ => exact hQ _ _ _ ⟨rfl, h2⟩
    exact key L st ρ a w h S _ fun _ _ _ h => h
  | rangeFunc g ps as b iha ihb =>
    intro st st' e h ρ a w r hro S
    simp only [exec] at h
    split at h
    · cases h
    have hr0 := hro rfl
    subst hr0
    cases hg : opdOk st.h.ng g with
    | false => rw [hg] at h; cases h
    | true =>
      rw [hg] at h
      simp only [cond_true] at h
      split at h
      case h_2 => cases h
      rename_i f fs cs hf
      split at h
      case h_2 => cases h
      rename_i v3 h3 hcall
      refine wpIn_rangeFunc fun fn _ => ?_
      let p1 : Place := ⟨w.heap.size, 0, 1, 0, 0⟩
      let p2 : Place := ⟨w.heap.size + 1, 0, 1, 0, 0⟩
      let w1 := w.alloc (.deferred (some []))
      let lp : Loop := { state := .ready, pending := none, fn, tmps := a.tmps, params := ps, assign := as, body := b, defers := w.heap.size }
      let w2 := w1.alloc (.loop lp)
      obtain ⟨H1, E1⟩ := S.h.alloc (.deferred (some [])) .defs p1 rfl ⟨rfl, rfl, heap_alloc_new w _⟩
      have hs1 : w1.heap.size = w.heap.size + 1 := heap_alloc_size w _
      have hB2 : BRel ((ρ.ins st.h.next p1).ins (st.h.alloc .defs).next p2) p2 (.loop ⟨.ready, none, st.t, ps, as, b, st.h.next⟩) w2 := by
        refine ⟨rfl, rfl, lp, ?_, rfl, rfl, rfl, rfl, rfl, ?_, p1, ?_, rfl⟩
        · have := heap_alloc_new w1 (.loop lp)
          rw [hs1] at this; exact this
        · exact (S.t.mono (S.h.le_ins p1)).mono (H1.le_ins p2)
        · exact H1.le_ins p2 _ _ (Rho.ins_same _ _ _)
      obtain ⟨H2, E2⟩ := H1.alloc (.loop lp) (.loop ⟨.ready, none, st.t, ps, as, b, st.h.next⟩) p2 hs1.symm hB2
      have rg := evo_rel S hg
      rw [hf] at rg
      obtain ⟨fs', cs', hf', rfs, rcs⟩ : ∃ fs' cs', a.eval g = .func (.func f) fs' cs' ∧ ARel ρ fs fs' ∧ ARel ρ cs cs' := by
        generalize a.eval g = q at rg
        cases rg with
        | func hf s1 h1 s2 h2 => cases hf; exact ⟨_, _, rfl, .of s1 h1, .of s2 h2⟩
      have hle : ρ.le ((ρ.ins st.h.next p1).ins (st.h.alloc .defs).next p2) := (S.h.le_ins p1).trans (H1.le_ins p2)
      have ry : VRel ((ρ.ins st.h.next p1).ins (st.h.alloc .defs).next p2) (.func (.yield (st.h.next + 1)) #[] #[]) (.func (.yield (w.heap.size + 1)) #[] #[]) :=
        .func (.yield (p := p2) (Rho.ins_same _ _ _)) rfl (fun i h => absurd h (by simp)) rfl (fun i h => absurd h (by simp))
      have hall : ARel _ (fs ++ #[.func (.yield (st.h.next + 1)) #[] #[]] ++ cs) (fs' ++ #[.func (.yield (w.heap.size + 1)) #[] #[]] ++ cs') :=
        ((rfs.mono hle).append (by simpa using (ARel.nil (ρ := _)).push ry)).append (rcs.mono hle)
      obtain ⟨hc1, hc2⟩ := RS.call _ _ _ _ _ hcall _ _ w2 hall H2
      have henter : (Instr.enterLoop fn a.tmps ps as b (FW none).round).run P w = .ok (w.heap.size + 1, [{ target := .collected w.heap.size, args := #[] }]) w2 := by
        have : w1.heap.size = w.heap.size + 1 := hs1
        show Result.ok (w1.heap.size, [({ target := .collected w.heap.size, args := #[] } : Deferred)]) w2 = _
        rw [this]
      have hres : (resolve a.eval (rangeCall g (w.heap.size + 1)) 0).run P w2 = .ok { target := .fn (.func f) cs', args := fs' ++ #[.func (.yield (w.heap.size + 1)) #[] #[]] } w2 := by
        show (Deferred.ofValue (a.eval g) (#[.const (.func (.yield (w.heap.size + 1)) #[] #[])].map a.eval)).run P w2 = _
        rw [hf', show (#[Operand.const (.func (.yield (w.heap.size + 1)) #[] #[])].map a.eval) = #[.func (.yield (w.heap.size + 1)) #[] #[]] by simp [Act.eval]]; rfl
      refine ⟨w.heap.size + 1, [{ target := .collected w.heap.size, args := #[] }], w2, _, w2, f, _, w2, henter, hres, fun _ _ => trivial, hc1 w2, by simp [FW, Fence.wide], hc2.mono ?_⟩
      rintro e3 w3 ⟨v3', ρ3, rfl, g1, H3, E3⟩
      have E03 := Ext.trans S.h H2 (Ext.trans S.h H1 E1 E2) E3
      have hl3 : ρ3 (st.h.next + 1) = some p2 := E3.le H2 _ _ (Rho.ins_same _ _ _)
      have hd3 : ρ3 st.h.next = some p1 := E3.le H2 _ _ (H1.le_ins p2 _ _ (Rho.ins_same _ _ _))
      unfold finish at h
      split at h
      case h_2 => cases h
      rename_i lr hlr
      obtain ⟨_, _, lr', k1, kl⟩ := H3.rel _ _ _ hl3 hlr
      obtain ⟨H4, E4⟩ := H3.setLoop hl3 hlr k1 kl .exhausted lr.pending
      have hpend : ({ lr' with state := .exhausted, pending := lr.pending } : Loop) = { lr' with state := .exhausted } := by rw [← kl.2.1]
      rw [hpend] at H4 E4
      have hnb : lr.state ≠ .busy → (Instr.endLoop (w.heap.size + 1)).run P w3 = .ok lr.pending { w3 with heap := w3.heap.setIfInBounds (w.heap.size + 1) (.loop { lr' with state := .exhausted }) } := by
        intro hb
        unfold Instr.endLoop
        rw [run_bind_ok (getLoop_ok k1)]
        have : (lr'.state == .busy) = false := by
          rw [kl.1]
          cases hst : lr.state <;> first | rfl | exact absurd hst hb
        rw [this]
        simp only [Bool.false_eq_true, if_false]
        rw [← kl.2.1]
        show (setObj _ _ >>= fun _ => pure lr'.pending).run P w3 = _
        rw [run_bind_ok (setObj_ok k1 nofun)]
        rfl
      have S4 : Sim ρ3 ⟨st.t, st.h.next :: st.ds, h3.put (st.h.next + 1) (some (.loop { lr with state := .exhausted }))⟩ { a with defers := { target := .collected w.heap.size, args := #[] } :: a.defers }
          { w3 with heap := w3.heap.setIfInBounds (w.heap.size + 1) (.loop { lr' with state := .exhausted }) } :=
        ⟨S.t.mono (E03.le S.h), .cons ⟨p1, hd3, rfl⟩ (S.ds.mono (E03.le S.h)), H4⟩
      have E04 := Ext.trans S.h H3 E03 E4
      split at h
      · cases h
      · rename_i hst
        have hend := hnb hst
        split at h
        · rename_i hj
          cases h
          exact ⟨none, _, by rw [hend, hj], rfl, ρ3, S4, E04⟩
        · rename_i hj
          cases h
          exact ⟨some .ret, _, by rw [hend, hj], wpIn_ret ⟨rfl, ρ3, S4, E04⟩⟩
        · rename_i id hj
          cases h
          exact ⟨some (.exit id), _, by rw [hend, hj], wpIn_exit ⟨rfl, ρ3, S4, E04⟩⟩
        · cases h
  | exit id =>
    intro st st' e h ρ a w r hro S
    cases h
    exact wpIn_exit ⟨rfl, ρ, S, .refl _ _ _ S.h.fresh⟩
  | scope c ih =>
    intro st st' e h ρ a w r hro S
    simp only [exec] at h
    refine wpIn_scope ?_
    split at h
    · cases h
    · rename_i hne
      refine wpIn_mono (ih _ _ _ h ρ a w r hro S) ?_
      rintro e' a1 w1 ⟨rfl, h2⟩
      cases e' with
      | goto l => exact absurd h (hne l st')
      | _ => exact ⟨rfl, h2⟩
  | label l =>
    intro st st' e h ρ a w r hro S
    cases h
    exact wpIn_label ⟨rfl, ρ, S, .refl _ _ _ S.h.fresh⟩
  | goto l => intro st st' e h; cases h
  | ret =>
    intro st st' e h ρ a w r hro S
    cases h
    exact wpIn_ret ⟨rfl, ρ, S, .refl _ _ _ S.h.fresh⟩
  | refuse w => intro st st' e h; cases h

end Go.VE
