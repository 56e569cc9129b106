import Derived.Test.YthjinaagdfnmhaaGreatDoorVzb
namespace Go.VE
open Go
set_option linter.unusedVariables false
set_option linter.unusedSimpArgs false

/-! ### A closed function: what it lays is forgotten -/

/-- A block that may be read alone. -/
def Blk.ro : Blk → Blk
  | .cells _ _ cs => .cells false true cs
  | B => B

theorem FSound.forget {P : Program} {f : FuncId} {H H' h : AHeap} {v : Value} (S : FSound P f #[] H v H') (hv : flatB 8 v = true) (hnext : H.next ≤ h.next) (hng : H.ng ≤ h.ng) (hgn : H.ng ≤ H.next) (hfresh : ∀ u, H.next ≤ u → H.blk u = none)
    (hro : ∀ u B, H.blk u = some B → B.wr = false) (hsub : ∀ u B, H.blk u = some B → WFb H.next B ∧ ∃ wr gr cs, B = .cells false true cs ∧ h.blk u = some (.cells wr gr cs)) : FSound P f #[] h v h := by
  intro ρ args' w ra Hh
  have inv : ∀ {u p}, cutR ρ H.next u = some p → u < H.next ∧ ρ u = some p := by
    intro u p hp
    unfold cutR at hp
    split at hp
    · exact ⟨by assumption, hp⟩
    · cases hp
  have H0 : Holds (cutR ρ H.next) H w := by
    refine ⟨fun u p hp => (inv hp).1, hfresh, fun u p B h1 h2 => ?_, fun v₁ v₂ p₁ p₂ B₁ B₂ hne h1 h2 h3 h4 => ?_, fun g hg => ?_⟩
    · obtain ⟨hw, wr, gr, cs, rfl, hb⟩ := hsub u B h2
      refine hw.cut ?_
      obtain ⟨g1, g2, c, e, fr, g3, g4, g5, g6⟩ := Hh.rel u p _ (inv h1).2 hb
      exact ⟨g1, nofun, c, e, fr, g3, g4, nofun, g6⟩
    · obtain ⟨_, _, _, _, _, b1⟩ := hsub _ _ h3
      obtain ⟨_, _, _, _, _, b2⟩ := hsub _ _ h4
      exact Hh.apart _ _ _ _ _ _ hne (inv h1).2 (inv h2).2 b1 b2
    · obtain ⟨p, h1, h2⟩ := Hh.glob g (by omega)
      refine ⟨p, ?_, h2⟩
      unfold cutR
      rw [if_pos (by omega)]; exact h1
  have ra' : ARel (cutR ρ H.next) #[] args' := by
    have : args' = #[] := ra.empty rfl
    rw [this]; exact .nil
  obtain ⟨c1, c2⟩ := S _ args' w ra' H0
  refine ⟨c1, c2.mono ?_⟩
  rintro e w' ⟨v', ρ', rfl, r, H1, E⟩
  have hv' := r.flat_eq 8 hv
  subst hv'
  have hkeep : ∀ b, b < w.heap.size → w'.heap[b]? = w.heap[b]? := fun b hb => E.keep b hb fun u p B _ h2 h3 => by rw [hro u B h2] at h3; cases h3
  refine ⟨_, ρ, rfl, .of_flat 8 _ hv, ⟨Hh.dom, Hh.fresh, fun u p B h1 h2 => ?_, Hh.apart, Hh.glob⟩, ?_⟩
  · have hr := Hh.rel u p B h1 h2
    exact hr.frame (.refl ρ) (hkeep _ hr.lt)
  · exact ⟨rfl, Nat.le_refl _, fun _ _ => rfl, fun u B _ hb => ⟨B, hb, id⟩, fun u p B hu h1 _ => by have := Hh.dom u p h1; omega, E.os, E.tape, E.output, E.size, fun b hb _ => hkeep b hb⟩

end Go.VE
