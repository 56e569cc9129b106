import Derived.Test.YthjinaagdfnmhaaGreatDoorVr
namespace Go.VE
open Go
set_option linter.unusedVariables false
set_option linter.unusedSimpArgs false

theorem exists_heap (f : Nat → Option Blk) (ng : Nat) : ∀ n, ∃ h : AHeap, h.next = n ∧ h.ng = ng ∧ ∀ v, h.blk v = if v < n then f v else none := by
  intro n
  induction n with
  | zero => exact ⟨⟨.leaf, 0, ng, 0⟩, rfl, rfl, fun v => rfl⟩
  | succ n ih =>
    obtain ⟨h, h1, h2, h3⟩ := ih
    refine ⟨⟨h.tree.put n (f n), n + 1, ng, 0⟩, rfl, rfl, fun v => ?_⟩
    show (h.tree.put n (f n)).get v = _
    rw [Trie.get_put]
    by_cases hv : v = n
    · subst hv; simp
    · rw [if_neg hv]
      have := h3 v
      unfold AHeap.blk at this
      rw [this]
      by_cases hlt : v < n
      · rw [if_pos hlt, if_pos (by omega)]
      · rw [if_neg hlt, if_neg (by omega)]

/-- A new block under a number that was kept for it. -/
theorem Holds.allocAt {ρ : Rho} {V : AHeap} {w w' : World} (H : Holds ρ V w) {u : Nat} {ob : Obj} {B : Blk} {p : Place} (hu : ρ u = none) (hun : u < V.next) (hheap : w'.heap = w.heap.push ob) (hp : p.block = w.heap.size)
    (hB : BRel (ρ.ins u p) p B w') : ρ.le (ρ.ins u p) ∧ Holds (ρ.ins u p) (V.put u (some B)) w' := by
  have hle : ρ.le (ρ.ins u p) := fun v q hv => by
    rw [Rho.ins_ne _ _ _ _ (fun e => by rw [e, hu] at hv; cases hv)]; exact hv
  have hold : ∀ k, k < w.heap.size → w'.heap[k]? = w.heap[k]? := fun k hk => by rw [hheap, Array.getElem?_push, if_neg (by omega)]
  have cases_ : ∀ v q C, ρ.ins u p v = some q → (V.put u (some B)).blk v = some C → (v = u ∧ q = p ∧ C = B) ∨ (v ≠ u ∧ ρ v = some q ∧ V.blk v = some C) := by
    intro v q C h1 h2
    by_cases hv : v = u
    · subst hv
      rw [Rho.ins_same] at h1
      rw [AHeap.blk_put, if_pos rfl] at h2
      cases h1
      exact .inl ⟨rfl, rfl, (Option.some.inj h2).symm⟩
    · rw [Rho.ins_ne _ _ _ _ hv] at h1
      rw [AHeap.blk_put, if_neg hv] at h2
      exact .inr ⟨hv, h1, h2⟩
  refine ⟨hle, ⟨fun v q hv => ?_, fun v hv => ?_, fun v q C h1 h2 => ?_, fun v₁ v₂ p₁ p₂ B₁ B₂ hne h1 h2 h3 h4 => ?_, fun g hg => let ⟨q, h1, h2⟩ := H.glob g hg; ⟨q, hle _ _ h1, h2⟩⟩⟩
  · by_cases hv' : v = u
    · rw [hv']; exact hun
    · rw [Rho.ins_ne _ _ _ _ hv'] at hv; exact H.dom v q hv
  · have hv2 : V.next ≤ v := hv
    rw [AHeap.blk_put, if_neg (by omega)]
    exact H.fresh v hv2
  · rcases cases_ v q C h1 h2 with ⟨_, rfl, rfl⟩ | ⟨_, h1', h2'⟩
    · exact hB
    · have hr := H.rel v q C h1' h2'
      exact hr.frame hle (hold _ hr.lt)
  · rcases cases_ _ _ _ h1 h3 with ⟨e1, rfl, rfl⟩ | ⟨l1, g1, g2⟩ <;> rcases cases_ _ _ _ h2 h4 with ⟨e2, rfl, rfl⟩ | ⟨l2, k1, k2⟩
    · exact absurd (e1.trans e2.symm) hne
    · have := (H.rel _ _ _ k1 k2).lt
      omega
    · have := (H.rel _ _ _ g1 g2).lt
      omega
    · exact H.apart _ _ _ _ _ _ hne g1 k1 g2 k2

theorem Ext.allocAt {ρ₀ ρ : Rho} {h₀ V : AHeap} {w₀ w w' : World} (E : Ext ρ₀ h₀ w₀ ρ V w) {u : Nat} {ob : Obj} {B : Blk} {p : Place} (hu : h₀.next ≤ u) (hheap : w'.heap = w.heap.push ob) (hp : p.block = w.heap.size)
    (hos : w'.os = w.os) (htape : w'.tape = w.tape) (hout : w'.output = w.output) (hnone : V.blk u = none) (H₀ : Holds ρ₀ h₀ w₀) : Ext ρ₀ h₀ w₀ (ρ.ins u p) (V.put u (some B)) w' := by
  refine ⟨E.ng, E.next, fun v hv => ?_, fun v C hv hC => ?_, fun v q C hv hq hC => ?_, hos.trans E.os, htape.trans E.tape, hout.trans E.output, ?_, fun b hb hno => ?_⟩
  · rw [Rho.ins_ne _ _ _ _ (by omega)]; exact E.same v hv
  · rw [AHeap.blk_put, if_neg (by omega)] at hC; exact E.old v C hv hC
  · by_cases hvu : v = u
    · subst hvu
      rw [Rho.ins_same] at hq
      cases hq
      left
      have := E.size
      omega
    · rw [Rho.ins_ne _ _ _ _ hvu] at hq
      rw [AHeap.blk_put, if_neg hvu] at hC
      rcases E.new v q C hv hq hC with h | ⟨v0, p0, B0, g1, g2, g3, g4, g5⟩
      · exact .inl h
      · have := H₀.dom _ _ g1
        exact .inr ⟨v0, p0, B0, g1, g2, g3, by rw [AHeap.blk_put, if_neg (by omega)]; exact g4, g5⟩
  · have := E.size
    rw [hheap]; simp; omega
  · have := E.size
    rw [hheap, Array.getElem?_push, if_neg (by omega)]
    exact E.keep b hb hno

/-- A step from part of a heap, back in the whole. -/
theorem merge {ρ₀ ρ ρ₁ : Rho} {h₀ V h h₁ V' : AHeap} {w₀ w w' : World} (H₀ : Holds ρ₀ h₀ w₀) (E : Ext ρ₀ h₀ w₀ ρ V w) (H : Holds ρ V w) (hn : h₀.next ≤ h.next) (hnV : h₁.next ≤ V.next) (hng : V.ng = h.ng)
    (agree : ∀ v p, ρ v = some p → v < h.next → V.blk v = h.blk v) (agree0 : ∀ v, v < h₀.next → V.blk v = h.blk v) (hfree : ∀ v p, ρ v = some p → h.next ≤ v → h₁.next ≤ v)
    (Hh : Holds (fun v => if v < h.next then ρ v else none) h w) (H₁ : Holds ρ₁ h₁ w') (E₁ : Ext (fun v => if v < h.next then ρ v else none) h w ρ₁ h₁ w') (hV' : V'.next = V.next) (hVng : V'.ng = V.ng)
    (hb : ∀ v, v < h₁.next → (v < h₀.next ∨ ρ₁ v ≠ none) → V'.blk v = h₁.blk v) (hb2 : ∀ v, h₁.next ≤ v → V'.blk v = V.blk v) :
    ρ.le (fun v => if v < h₁.next then ρ₁ v else ρ v) ∧ Holds (fun v => if v < h₁.next then ρ₁ v else ρ v) V' w' ∧ Ext ρ₀ h₀ w₀ (fun v => if v < h₁.next then ρ₁ v else ρ v) V' w' := by
  have hnn := E₁.next
  have hle : ρ.le (fun v => if v < h₁.next then ρ₁ v else ρ v) := fun v p hv => by
    simp only
    by_cases h1 : v < h.next
    · rw [if_pos (by omega), E₁.same v h1, if_pos h1]; exact hv
    · rw [if_neg (by have := hfree v p hv (by omega); omega)]; exact hv
  have hle1 : ρ₁.le (fun v => if v < h₁.next then ρ₁ v else ρ v) := fun v p hv => by
    simp only
    rw [if_pos (H₁.dom v p hv)]; exact hv
  have cs : ∀ v q C, (if v < h₁.next then ρ₁ v else ρ v) = some q → V'.blk v = some C → (v < h₁.next ∧ ρ₁ v = some q ∧ h₁.blk v = some C) ∨ (h₁.next ≤ v ∧ ρ v = some q ∧ V.blk v = some C) := by
    intro v q C h1 h2
    by_cases hv : v < h₁.next
    · rw [if_pos hv] at h1
      rw [hb v hv (.inr (by rw [h1]; simp))] at h2
      exact .inl ⟨hv, h1, h2⟩
    · rw [if_neg hv] at h1
      rw [hb2 v (by omega)] at h2
      exact .inr ⟨by omega, h1, h2⟩
  -- a block that is there behind the step lay where one lay ahead of it, or is new
  have place : ∀ v q C, ρ₁ v = some q → h₁.blk v = some C → w.heap.size ≤ q.block ∨ ∃ v₀ p₀ B₀, ρ v₀ = some p₀ ∧ v₀ < h.next ∧ V.blk v₀ = some B₀ ∧ p₀.block = q.block := by
    intro v q C h1 h2
    rcases Nat.lt_or_ge v h.next with hlt | hge
    · have e := E₁.same v hlt
      rw [if_pos hlt] at e
      obtain ⟨B, g1, _⟩ := E₁.old v C hlt h2
      have hr : ρ v = some q := by rw [← e]; exact h1
      exact .inr ⟨v, q, B, hr, hlt, by rw [agree v q hr hlt]; exact g1, rfl⟩
    · rcases E₁.new v q C hge h1 h2 with hf | ⟨v1, p1, B1, g1, g2, g3, g4, g5, _⟩
      · exact .inl hf
      · by_cases hlt : v1 < h.next
        · rw [if_pos hlt] at g1
          exact .inr ⟨v1, p1, B1, g1, hlt, by rw [agree v1 p1 g1 hlt]; exact g2, g5⟩
        · rw [if_neg hlt] at g1; cases g1
  refine ⟨hle, ⟨fun v p hv => ?_, fun v hv => ?_, fun v q C h1 h2 => ?_, fun v₁ v₂ p₁ p₂ B₁ B₂ hne h1 h2 h3 h4 => ?_, fun g hg => ?_⟩, ?_⟩
  · by_cases h1 : v < h₁.next
    · omega
    · rw [if_neg h1] at hv; rw [hV']; exact H.dom v p hv
  · rw [hV'] at hv
    rw [hb2 v (by omega)]
    exact H.fresh v hv
  · rcases cs v q C h1 h2 with ⟨_, g1, g2⟩ | ⟨hv, g1, g2⟩
    · exact (H₁.rel v q C g1 g2).frame hle1 rfl
    · have hr := H.rel v q C g1 g2
      refine hr.frame hle (E₁.keep _ hr.lt fun v0 p0 B0 k1 k2 k3 => ?_)
      by_cases hlt : v0 < h.next
      · rw [if_pos hlt] at k1
        exact H.apart v0 v p0 q B0 C (by omega) k1 g1 (by rw [agree v0 p0 k1 hlt]; exact k2) g2
      · rw [if_neg hlt] at k1; cases k1
  · have mixed : ∀ a b pa pb Ca Cb, ρ₁ a = some pa → h₁.blk a = some Ca → h₁.next ≤ b → ρ b = some pb → V.blk b = some Cb → pa.block ≠ pb.block := by
      intro a b pa pb Ca Cb a1 a2 b0 b1 b2
      rcases place a pa Ca a1 a2 with hf | ⟨v0, p0, B0, g1, g0, g2, g3⟩
      · have := (H.rel b pb Cb b1 b2).lt; omega
      · rw [← g3]
        exact H.apart v0 b p0 pb B0 Cb (by omega) g1 b1 g2 b2
    rcases cs _ _ _ h1 h3 with ⟨l1, g1, g2⟩ | ⟨l1, g1, g2⟩ <;> rcases cs _ _ _ h2 h4 with ⟨l2, k1, k2⟩ | ⟨l2, k1, k2⟩
    · exact H₁.apart _ _ _ _ _ _ hne g1 k1 g2 k2
    · exact mixed _ _ _ _ _ _ g1 g2 l2 k1 k2
    · exact (mixed _ _ _ _ _ _ k1 k2 l1 g1 g2).symm
    · exact H.apart _ _ _ _ _ _ hne g1 k1 g2 k2
  · rw [hVng] at hg
    obtain ⟨q, h1, h2⟩ := H.glob g hg
    exact ⟨q, hle _ _ h1, h2⟩
  · refine ⟨hVng.trans E.ng, by rw [hV']; exact E.next, fun v hv => ?_, fun v C hv hC => ?_, fun v q C hv hq hC => ?_, E₁.os.trans E.os, E₁.tape.trans E.tape, E₁.output.trans E.output, Nat.le_trans E.size E₁.size, fun b hbs hno => ?_⟩
    · rw [if_pos (by omega), E₁.same v (by omega), if_pos (by omega)]
      exact E.same v hv
    · rw [hb v (by omega) (.inl hv)] at hC
      obtain ⟨B, g1, g2⟩ := E₁.old v C (by omega) hC
      rw [← agree0 v hv] at g1
      obtain ⟨B2, k1, k2⟩ := E.old v B hv g1
      exact ⟨B2, k1, fun x => k2 (g2 x)⟩
    · have dead : ∀ v0, v0 < h₀.next → V.blk v0 = none → V'.blk v0 = none := by
        intro v0 h0 hn0
        rw [hb v0 (by omega) (.inl h0)]
        cases hx : h₁.blk v0 with
        | none => rfl
        | some B =>
          obtain ⟨B', g1, _⟩ := E₁.old v0 B (by omega) hx
          rw [← agree0 v0 h0, hn0] at g1; cases g1
      have oldOne : ∀ v1 p1 B1, h₀.next ≤ v1 → ρ v1 = some p1 → V.blk v1 = some B1 → w₀.heap.size ≤ p1.block ∨
          ∃ v0 p0 B0, ρ₀ v0 = some p0 ∧ h₀.blk v0 = some B0 ∧ B0.wr = true ∧ V'.blk v0 = none ∧ p0.block = p1.block ∧ p0.base ≤ p1.base ∧ p1.top ≤ p0.top := by
        intro v1 p1 B1 a1 a2 a3
        rcases E.new v1 p1 B1 a1 a2 a3 with hf | ⟨v0, p0, B0, g1, g2, g3, g4, g5⟩
        · exact .inl hf
        · exact .inr ⟨v0, p0, B0, g1, g2, g3, dead v0 (H₀.dom _ _ g1) g4, g5⟩
      rcases cs v q C hq hC with ⟨hlt, g1, g2⟩ | ⟨hge, g1, g2⟩
      · rcases Nat.lt_or_ge v h.next with hl | hl
        · have e := E₁.same v hl
          rw [if_pos hl] at e
          obtain ⟨B, k1, _⟩ := E₁.old v C hl g2
          have hr : ρ v = some q := by rw [← e]; exact g1
          exact oldOne v q B hv hr (by rw [agree v q hr hl]; exact k1)
        · rcases E₁.new v q C hl g1 g2 with hf | ⟨v1, p1, B1, k1, k2, k3, k4, k5, k6, k7⟩
          · exact .inl (Nat.le_trans E.size hf)
          · by_cases hl1 : v1 < h.next
            · rw [if_pos hl1] at k1
              have hV1 : V.blk v1 = some B1 := by rw [agree v1 p1 k1 hl1]; exact k2
              rcases Nat.lt_or_ge v1 h₀.next with h0 | h0
              · obtain ⟨B2, m1, m2⟩ := E.old v1 B1 h0 hV1
                exact .inr ⟨v1, p1, B2, by rw [← E.same v1 h0]; exact k1, m1, m2 k3, by rw [hb v1 (by omega) (.inl h0)]; exact k4, k5, k6, k7⟩
              · rcases oldOne v1 p1 B1 h0 k1 hV1 with hf | ⟨v0, p0, B0, m1, m2, m3, m4, m5, m6, m7⟩
                · exact .inl (by omega)
                · exact .inr ⟨v0, p0, B0, m1, m2, m3, m4, m5.trans k5, Nat.le_trans m6 k6, Nat.le_trans k7 m7⟩
            · rw [if_neg hl1] at k1; cases k1
      · exact oldOne v q C hv g1 g2
    · refine (E₁.keep b (Nat.lt_of_lt_of_le hbs E.size) fun v p B k1 k2 k3 => ?_).trans (E.keep b hbs hno)
      by_cases hl : v < h.next
      · rw [if_pos hl] at k1
        have hV1 : V.blk v = some B := by rw [agree v p k1 hl]; exact k2
        rcases Nat.lt_or_ge v h₀.next with h0 | h0
        · obtain ⟨B2, m1, m2⟩ := E.old v B h0 hV1
          exact hno v p B2 (by rw [← E.same v h0]; exact k1) m1 (m2 k3)
        · rcases E.new v p B h0 k1 hV1 with hf | ⟨v0, p0, B0, m1, m2, m3, m4, m5, _⟩
          · omega
          · rw [← m5]; exact hno v0 p0 B0 m1 m2 m3
      · rw [if_neg hl] at k1; cases k1

end Go.VE
