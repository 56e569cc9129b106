import Derived.Test.YthjinaagdfnmhaaGreatDoorVzc
namespace Go.VE
open Go
set_option linter.unusedVariables false
set_option linter.unusedSimpArgs false

/-! ### Stages: a call's heaps cut down -/

/-- h has all that H has. -/
structure Sub (H h : AHeap) : Prop where
  next : H.next = h.next
  ng : H.ng = h.ng
  blk : ∀ v B, H.blk v = some B → h.blk v = some B

theorem Sub.holds {H h : AHeap} (S : Sub H h) {ρ : Rho} {w : World} (K : Holds ρ h w) : Holds ρ H w := by
  refine ⟨fun v p hv => by rw [S.next]; exact K.dom v p hv, fun v hv => ?_, fun v p B h1 h2 => K.rel v p B h1 (S.blk v B h2), fun v₁ v₂ p₁ p₂ B₁ B₂ hne h1 h2 h3 h4 => K.apart _ _ _ _ _ _ hne h1 h2 (S.blk _ _ h3) (S.blk _ _ h4), fun g hg => K.glob g (by rw [← S.ng]; exact hg)⟩
  cases hb : H.blk v with
  | none => rfl
  | some B =>
    have := S.blk v B hb
    rw [K.fresh v (by rw [← S.next]; exact hv)] at this
    cases this

theorem FSound.cut {P : Program} {f : FuncId} {args : Array Value} {H H' h h' : AHeap} {v : Value} (S : FSound P f args H v H') (i : Sub H h) (o : Sub h' H') : FSound P f args h v h' := by
  intro ρ args' w ra K
  obtain ⟨c1, c2⟩ := S ρ args' w ra (i.holds K)
  refine ⟨c1, c2.mono ?_⟩
  rintro e w' ⟨v', ρ', rfl, r, H1, E⟩
  refine ⟨v', ρ', rfl, r, o.holds H1, ?_⟩
  refine ⟨by rw [o.ng, E.ng, i.ng], by rw [o.next, ← i.next]; exact E.next, fun u hu => E.same u (by rw [i.next]; exact hu), fun u B hu hb => ?_, fun u p B hu h1 h2 => ?_, E.os, E.tape, E.output, E.size, fun b hb hno => ?_⟩
  · obtain ⟨B', h1, h2⟩ := E.old u B (by rw [i.next]; exact hu) (o.blk u B hb)
    exact ⟨B', i.blk u B' h1, h2⟩
  · rcases E.new u p B (by rw [i.next]; exact hu) h1 (o.blk u B h2) with g | ⟨v0, p0, B0, g1, g2, g3, g4, g5⟩
    · exact .inl g
    · refine .inr ⟨v0, p0, B0, g1, i.blk _ _ g2, g3, ?_, g5⟩
      cases hb : h'.blk v0 with
      | none => rfl
      | some C => rw [o.blk v0 C hb] at g4; cases g4
  · exact E.keep b hb fun u p B h1 h2 h3 => hno u p B h1 (i.blk u B h2) h3

end Go.VE
