import Derived.Test.YthjinaagdfnmhaaGreatDoorVzf
namespace Go.VE
open Go
set_option linter.unusedVariables false
set_option linter.unusedSimpArgs false

/-- What a call does not see stays. -/
theorem FSound.frame {P : Program} {f : FuncId} {args : Array Value} {H H' h h' : AHeap} {v : Value} (S : FSound P f args H v H') (i : Sub H h) (hn : h'.next = H'.next) (hg : h'.ng = h.ng)
    (hb : ∀ u B, h'.blk u = some B → H'.blk u = some B ∨ (H.blk u = none ∧ h.blk u = some B)) : FSound P f args h v h' := by
  intro ρ args' w ra K
  replace hb : ∀ u B, h'.blk u = some B → H'.blk u = some B ∨ (u < h.next ∧ H.blk u = none ∧ h.blk u = some B) := by
    intro u B hu
    rcases hb u B hu with k | ⟨k1, k2⟩
    · exact .inl k
    · refine .inr ⟨?_, k1, k2⟩
      rcases Nat.lt_or_ge u h.next with g | g
      · exact g
      · rw [K.fresh u g] at k2; cases k2
  obtain ⟨c1, c2⟩ := S ρ args' w ra (i.holds K)
  refine ⟨c1, c2.mono ?_⟩
  rintro e w' ⟨v', ρ', rfl, r, H1, E⟩
  have hnx : h.next ≤ H'.next := by rw [← i.next]; exact E.next
  have hsame : ∀ u, u < h.next → ρ' u = ρ u := fun u hu => E.same u (by rw [i.next]; exact hu)
  have hle : ρ.le ρ' := fun u p hp => by rw [hsame u (K.dom u p hp)]; exact hp
  have un : ∀ u p B, u < h.next → H.blk u = none → h.blk u = some B → ρ u = some p → w'.heap[p.block]? = w.heap[p.block]? := by
    intro u p B hu h0 h1 h2
    refine E.keep _ (K.rel u p B h2 h1).lt fun u2 p2 B2 k1 k2 _ => ?_
    exact K.apart u2 u p2 p B2 B (by rintro rfl; rw [h0] at k2; cases k2) k1 h2 (i.blk _ _ k2) h1
  have mixed : ∀ a b pa pb A B, ρ' a = some pa → H'.blk a = some A → b < h.next → H.blk b = none → h.blk b = some B → ρ b = some pb → pa.block ≠ pb.block := by
    intro a b pa pb A B a1 a2 b1 b2 b3 b4
    rcases Nat.lt_or_ge a h.next with hlt | hge
    · obtain ⟨A', g1, _⟩ := E.old a A (by rw [i.next]; exact hlt) a2
      rw [hsame a hlt] at a1
      exact K.apart a b pa pb A' B (by rintro rfl; rw [b2] at g1; cases g1) a1 b4 (i.blk _ _ g1) b3
    · rcases E.new a pa A (by rw [i.next]; exact hge) a1 a2 with hf | ⟨v0, p0, B0, g1, g2, _, _, g5, _⟩
      · have := (K.rel b pb B b4 b3).lt; omega
      · rw [← g5]
        exact K.apart v0 b p0 pb B0 B (by rintro rfl; rw [b2] at g2; cases g2) g1 b4 (i.blk _ _ g2) b3
  refine ⟨v', ρ', rfl, r, ⟨fun u p hp => by rw [hn]; exact H1.dom u p hp, fun u hu => ?_, fun u p B h1 h2 => ?_, fun v₁ v₂ p₁ p₂ B₁ B₂ hne h1 h2 h3 h4 => ?_, fun g hgg => ?_⟩, ?_⟩
  · cases hc : h'.blk u with
    | none => rfl
    | some B =>
      rcases hb u B hc with k | ⟨k, _⟩
      · rw [H1.fresh u (by omega)] at k; cases k
      · omega
  · rcases hb u B h2 with k | ⟨k1, k2, k3⟩
    · exact H1.rel u p B h1 k
    · rw [hsame u k1] at h1
      exact (K.rel u p B h1 k3).frame hle (un u p B k1 k2 k3 h1)
  · rcases hb _ _ h3 with k | ⟨k1, k2, k3⟩ <;> rcases hb _ _ h4 with m | ⟨m1, m2, m3⟩
    · exact H1.apart _ _ _ _ _ _ hne h1 h2 k m
    · exact mixed _ _ _ _ _ _ h1 k m1 m2 m3 (by rw [← hsame _ m1]; exact h2)
    · exact (mixed _ _ _ _ _ _ h2 m k1 k2 k3 (by rw [← hsame _ k1]; exact h1)).symm
    · exact K.apart _ _ _ _ _ _ hne (by rw [← hsame _ k1]; exact h1) (by rw [← hsame _ m1]; exact h2) k3 m3
  · obtain ⟨p, k1, k2⟩ := K.glob g (by rw [← hg]; exact hgg)
    exact ⟨p, hle _ _ k1, k2⟩
  · refine ⟨hg, by omega, hsame, fun u B hu hc => ?_, fun u p B hu h1 h2 => ?_, E.os, E.tape, E.output, E.size, fun b hbs hno => ?_⟩
    · rcases hb u B hc with k | ⟨k1, k2, k3⟩
      · obtain ⟨B', g1, g2⟩ := E.old u B (by rw [i.next]; exact hu) k
        exact ⟨B', i.blk u B' g1, g2⟩
      · exact ⟨B, k3, id⟩
    · rcases hb u B h2 with k | ⟨k1, _⟩
      · rcases E.new u p B (by rw [i.next]; exact hu) h1 k with g | ⟨v0, p0, B0, g1, g2, g3, g4, g5⟩
        · exact .inl g
        · refine .inr ⟨v0, p0, B0, g1, i.blk _ _ g2, g3, ?_, g5⟩
          cases hc : h'.blk v0 with
          | none => rfl
          | some C =>
            rcases hb v0 C hc with k | ⟨_, k2, _⟩
            · rw [k] at g4; cases g4
            · rw [k2] at g2; cases g2
      · omega
    · exact E.keep b hbs fun u p B h1 h2 h3 => hno u p B h1 (i.blk u B h2) h3

end Go.VE
