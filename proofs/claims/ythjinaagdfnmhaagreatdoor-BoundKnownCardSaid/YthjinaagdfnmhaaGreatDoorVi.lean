import Derived.Test.YthjinaagdfnmhaaGreatDoorVh
namespace Go.VE
open Go
set_option linter.unusedVariables false
set_option linter.unusedSimpArgs false

/-! ### append, copy -/

def notInt : TypeDesc → Bool
  | .int _ => false
  | _ => true

def xlen : Value → Option Nat
  | .slice _ n _ => some n
  | .string s => some s.size
  | _ => none

/-- The first k elements (of z cells) of a slice or a string. -/
def xcells (z k : Nat) (x : Value) (h : AHeap) : Option (Array Value) :=
  if k * z = 0 then (match x with | .slice _ _ _ => some #[] | .string s => some ((s.extract 0 k).data.map fun b => .int .u8 b.toNat) | _ => none)
  else match x with
  | .slice (some ⟨v, o, sp⟩) _ _ => if sp = some 1 then none else match h.blk v with | some (.cells _ _ cs) => getCells cs o (k * z) | _ => none
  | .string s => some ((s.extract 0 k).data.map fun b => .int .u8 b.toNat)
  | _ => none

theorem xlen_ok {P : Program} {ρ : Rho} {x x' : Value} {n : Nat} (h : xlen x = some n) (r : VRel ρ x x') (w : World) : (Builtin.lenOf x').run P w = .ok n w := by
  cases r <;> simp [xlen] at h <;> subst h <;> rfl

theorem flat_bytes {ρ : Rho} (a : Array UInt8) : ARel ρ (a.map fun b => Value.int .u8 b.toNat) (a.map fun b => Value.int .u8 b.toNat) := by
  refine .of_get rfl fun i x y hx hy => ?_
  rw [hx] at hy; cases hy
  simp only [Array.getElem?_map, Option.map_eq_some_iff] at hx
  obtain ⟨b, _, rfl⟩ := hx
  exact .int _ _

theorem loadCells_zero (P : Program) (a : Addr) (w : World) : (loadCells a 0).run P w = .ok #[] w := rfl

theorem xcells_ok {P : Program} {ρ : Rho} {z k : Nat} {x x' : Value} {h : AHeap} {arr : Array Value} {w : World} (hx : xcells z k x h = some arr) (r : VRel ρ x x') (H : Holds ρ h w) :
    ∃ arr', (Builtin.firstCells z k x').run P w = .ok arr' w ∧ ARel ρ arr arr' := by
  unfold xcells at hx
  split at hx
  · rename_i h0
    split at hx
    · cases hx
      refine ⟨#[], ?_, .nil⟩
      cases r <;> first | rfl | (unfold Builtin.firstCells; rw [h0]; rfl)
    · cases hx
      cases r
      exact ⟨_, rfl, flat_bytes _⟩
    · cases hx
  · rename_i h0
    split at hx
    · rename_i v o sp l c
      split at hx
      · cases hx
      · rename_i hsp
        split at hx
        · rename_i wr gr cs hb
          cases r with
          | slice hp => obtain ⟨arr', h1, h2⟩ := run_loadCells_rel (P := P) (H.rel _ _ _ hp hb) hx; exact ⟨arr', h1, h2⟩
          | sliceO hp hk hc => obtain ⟨arr', h1, h2⟩ := run_loadCells_rel (P := P) (H.rel _ _ _ hp hb) hx; exact ⟨arr', h1, h2⟩
          | sliceV => exact absurd rfl hsp
        · cases hx
    · cases hx
      cases r
      exact ⟨_, rfl, flat_bytes _⟩
    · cases hx

theorem run_append_room {P : Program} {ats : Array TypeId} {ty t xt e : TypeId} {d : TypeDesc} {z sLen cap n : Nat} {base : Option Addr} {x : Value} {arr : Array Value} {w w' : World}
    (h0 : ats[0]? = some t) (ht : P.underlying t = some (.slice e)) (h1 : ats[1]? = some xt) (hd : P.underlying xt = some d) (hnd : notInt d = true) (hz : isz P e = some z)
    (hn : (Builtin.lenOf x).run P w = .ok n w) (harr : (Builtin.firstCells z n x).run P w = .ok arr w) (hroom : sLen + n ≤ cap)
    (hst : match base with | some a => (storeCells (a.add (sLen * z)) arr.toList).run P w = .ok () w' | none => w' = w) :
    (Builtin.append_ ats ty #[.slice base sLen cap, x]).run P w = .ok (.slice base (sLen + n) cap) w' := by
  unfold Builtin.append_
  simp only [h0, List.getElem?_toArray, List.getElem?_cons_zero, List.getElem?_cons_succ]
  rw [run_bind_ok (pureRun_run (by rw [pureRun_underlying, ht]) w)]
  simp only [h1]
  rw [run_bind_ok (run_size hz w)]
  rw [run_bind_ok (pureRun_run (by rw [pureRun_underlying, hd]) w)]
  refine (run_bind_ok (a := false) (w' := w) (by cases d <;> first | rfl | cases hnd)).trans ?_
  simp only [Bool.false_eq_true, if_false, Bool.not_false, if_true]
  rw [run_bind_ok hn]
  rw [if_pos hroom]
  rw [run_bind_ok harr]
  cases base with
  | none => simp only at hst; subst hst; rfl
  | some a => simp only at hst ⊢; rw [run_bind_ok hst]; rfl

theorem run_append_grow {P : Program} {ats : Array TypeId} {ty t xt e : TypeId} {d : TypeDesc} {i : TypeInfo} {zv : Value} {sLen cap n : Nat} {base : Option Addr} {x : Value} {old arr : Array Value} {w : World}
    (h0 : ats[0]? = some t) (ht : P.underlying t = some (.slice e)) (h1 : ats[1]? = some xt) (hd : P.underlying xt = some d) (hnd : notInt d = true) (hi : P.info? e = some i) (hzv : i.zero = some zv)
    (hb0 : 0 < i.bytes) (hfit : (sLen + n) * i.bytes ≤ 140737488355328)
    (hn : (Builtin.lenOf x).run P w = .ok n w) (hroom : cap < sLen + n)
    (hold : (Builtin.firstCells i.size sLen (.slice base sLen cap)).run P w.drew = .ok old w.drew) (harr : (Builtin.firstCells i.size n x).run P w.drew = .ok arr w.drew) :
    ∃ newCap, sLen + n ≤ newCap ∧ (Builtin.append_ ats ty #[.slice base sLen cap, x]).run P w =
      .ok (.slice (some ⟨w.heap.size, 0, none⟩) (sLen + n) newCap) (w.drew.alloc (.cells (old ++ arr ++ Builtin.zeroCells zv.cells (newCap - (sLen + n))) e)) := by
  refine ⟨(Question.appendCap (sLen + n) cap e).cut (w.tape w.drawn (.appendCap (sLen + n) cap e)), ?_, ?_⟩
  · show sLen + n ≤ sLen + n + _
    omega
  unfold Builtin.append_
  simp only [h0, List.getElem?_toArray, List.getElem?_cons_zero, List.getElem?_cons_succ]
  rw [run_bind_ok (pureRun_run (by rw [pureRun_underlying, ht]) w)]
  simp only [h1]
  rw [run_bind_ok (run_size (k := i.size) (by simp [isz, hi]) w)]
  rw [run_bind_ok (pureRun_run (by rw [pureRun_underlying, hd]) w)]
  refine (run_bind_ok (a := false) (w' := w) (by cases d <;> first | rfl | cases hnd)).trans ?_
  simp only [Bool.false_eq_true, if_false, Bool.not_false, if_true]
  rw [run_bind_ok hn]
  rw [if_neg (by omega)]
  have hinfo : ∀ w : World, (typeInfo e).run P w = .ok i w := fun w => pureRun_run (by rw [pureRun_info, hi]) w
  rw [run_bind_ok (hinfo w)]
  simp only [Bool.false_eq_true, false_or]
  rw [if_neg (by omega)]
  rw [run_bind_ok (hinfo w)]
  have hf := growslice_fits (need := sLen + n) (old := cap) (bytes := i.bytes) hroom hfit
  rw [if_neg (by omega)]
  have hch : (choose (.appendCap (sLen + n) cap e)).run P w = .ok ((Question.appendCap (sLen + n) cap e).cut (w.tape w.drawn (.appendCap (sLen + n) cap e))) w.drew := rfl
  rw [run_bind_ok hch, run_bind_ok (hinfo w.drew)]
  have hask : ∀ k, (askRoom k).run P w.drew = .ok () w.drew := fun k => by unfold askRoom; split <;> rfl
  rw [run_bind_ok (hask _), run_bind_ok hold, run_bind_ok harr]
  rw [run_bind_ok (pureRun_run (P := P) (s := zeroValue e) (a := zv) (by rw [pureRun_zero, hi]; exact hzv) w.drew)]
  exact run_bind_ok (run_newRow P _ e _)

/-! ### Cells stored one behind the other in a real block -/

theorem run_storeCells_at {P : Program} {b : Nat} {e : TypeId} : ∀ (xs : List Value) (off i : Nat) (c : Array Value) (w : World), w.heap[b]? = some (.cells c e (0, 0)) → off + i + xs.length ≤ c.size →
    (∀ x ∈ xs, x.oneCell' = true) → ∃ w' c', (storeCells ⟨b, off, none⟩ xs i).run P w = .ok () w' ∧ w'.heap[b]? = some (.cells c' e (0, 0)) ∧ c'.size = c.size ∧
      (∀ j, c'[j]? = if off + i ≤ j ∧ j < off + i + xs.length then xs[j - (off + i)]? else c[j]?) ∧ w'.os = w.os ∧ w'.tape = w.tape ∧ w'.output = w.output ∧ w'.heap.size = w.heap.size ∧
      ∀ k, k ≠ b → w'.heap[k]? = w.heap[k]? := by
  intro xs
  induction xs with
  | nil =>
    intro off i c w hb hle hone
    refine ⟨w, c, rfl, hb, rfl, fun j => ?_, rfl, rfl, rfl, rfl, fun _ _ => rfl⟩
    rw [if_neg (by simp)]
  | cons x xs ih =>
    intro off i c w hb hle hone
    simp only [List.length_cons] at hle
    have h1 := heap_setCell_same w b (off + i) x hb
    obtain ⟨w', c', g1, g2, g3, g4, g5, g6, g7, g8, g9⟩ := ih off (i + 1) (c.setIfInBounds (off + i) x) (w.setCell ⟨b, off + i, none⟩ x) h1 (by simp; omega) (fun y hy => hone y (List.mem_cons_of_mem _ hy))
    refine ⟨w', c', ?_, g2, by simpa using g3, fun j => ?_, g5, g6, g7, by rw [g8]; simp, fun k hk => (g9 k hk).trans (heap_setCell_ne _ _ _ _ hk)⟩
    · have hst : (store ((⟨b, off, none⟩ : Addr).add i) x).run P w = .ok () (w.setCell ⟨b, off + i, none⟩ x) := by
        rw [add_none]
        have hz : w.cell? ⟨b, off + i, none⟩ = some (c[off + i]'(by omega)) := by rw [cell_of hb]; simp
        have hoy := hone x (List.mem_cons_self ..)
        cases x <;> first
          | (simp [Value.oneCell'] at hoy; done)
          | (simp only [store, Sem.run, hz, frozen_zero hb]; rfl)
      show Sem.run P (store _ x >>= fun _ => storeCells _ xs (i + 1)) w = _
      rw [run_bind_ok hst]
      exact g1
    · rw [g4]
      simp only [List.length_cons]
      by_cases hj : j = off + i
      · subst hj
        rw [if_neg (by omega), if_pos (by omega)]
        rw [Array.getElem?_setIfInBounds]
        simp; omega
      · by_cases hj2 : off + (i + 1) ≤ j ∧ j < off + (i + 1) + xs.length
        · rw [if_pos hj2, if_pos (by omega)]
          have : j - (off + i) = (j - (off + (i + 1))) + 1 := by omega
          rw [this]; rfl
        · rw [if_neg hj2, if_neg (by omega), Array.getElem?_setIfInBounds, if_neg (by omega)]

/-- A grown block in the place of the old. -/
theorem Holds.grow {ρ : Rho} {h : AHeap} {w w' : World} (H : Holds ρ h w) {v : Nat} {p q : Place} {gr : Bool} {cs : List Value} {B : Blk} (hv : ρ v = some p) (hb : h.blk v = some (.cells true gr cs))
    (hos : w'.os = w.os) (htape : w'.tape = w.tape) (hout : w'.output = w.output) (hsz : w'.heap.size = w.heap.size) (hother : ∀ b, b ≠ p.block → w'.heap[b]? = w.heap[b]?)
    (hq1 : q.block = p.block) (hq2 : p.base ≤ q.base) (hq3 : q.top ≤ p.top) (hrel : BRel (ρ.ins h.next q) q B w') :
    Holds (ρ.ins h.next q) ((h.put v none).alloc B) w' ∧ Ext ρ h w (ρ.ins h.next q) ((h.put v none).alloc B) w' := by
  have hvn := H.dom v p hv
  have hle := H.le_ins q
  have cases_ : ∀ u r C, ρ.ins h.next q u = some r → ((h.put v none).alloc B).blk u = some C → (u = h.next ∧ r = q ∧ C = B) ∨ (u < h.next ∧ u ≠ v ∧ ρ u = some r ∧ h.blk u = some C) := by
    intro u r C h1 h2
    by_cases hu : u = h.next
    · subst hu
      rw [Rho.ins_same] at h1
      rw [AHeap.blk_alloc, AHeap.next_put, if_pos rfl] at h2
      cases h1
      exact .inl ⟨rfl, rfl, (Option.some.inj h2).symm⟩
    · rw [Rho.ins_ne _ _ _ _ hu] at h1
      rw [AHeap.blk_alloc, AHeap.next_put, if_neg hu, AHeap.blk_put] at h2
      split at h2
      · cases h2
      · exact .inr ⟨H.dom u r h1, by assumption, h1, h2⟩
  refine ⟨⟨fun u r hu => ?_, fun u hu => ?_, fun u r C h1 h2 => ?_, fun v₁ v₂ p₁ p₂ B₁ B₂ hne h1 h2 h3 h4 => ?_, fun g hg => let ⟨q, h1, h2⟩ := H.glob g hg; ⟨q, hle _ _ h1, h2⟩⟩, ?_⟩
  · by_cases hu' : u = h.next
    · simp; omega
    · rw [Rho.ins_ne _ _ _ _ hu'] at hu
      have := H.dom u r hu
      simp; omega
  · simp at hu
    rw [AHeap.blk_alloc, if_neg (by simp; omega), AHeap.blk_put, if_neg (by omega)]
    exact H.fresh u (by omega)
  · rcases cases_ u r C h1 h2 with ⟨_, rfl, rfl⟩ | ⟨hlt, huv, h1', h2'⟩
    · exact hrel
    · exact (H.rel u r C h1' h2').frame hle (hother _ (H.apart u v r p C _ huv h1' hv h2' hb))
  · have sep : ∀ u r C, u ≠ v → ρ u = some r → h.blk u = some C → q.block ≠ r.block := by
      intro u r C hu hr hC
      have := H.apart v u p r _ C (Ne.symm hu) hv hr hb hC
      rw [hq1]; exact this
    rcases cases_ _ _ _ h1 h3 with ⟨e1, rfl, rfl⟩ | ⟨l1, n1, g1, g2⟩ <;> rcases cases_ _ _ _ h2 h4 with ⟨e2, rfl, rfl⟩ | ⟨l2, n2, k1, k2⟩
    · omega
    · exact sep _ _ _ n2 k1 k2
    · exact (sep _ _ _ n1 g1 g2).symm
    · exact H.apart _ _ _ _ _ _ hne g1 k1 g2 k2
  · refine ⟨rfl, by simp, fun u hu => Rho.ins_ne _ _ _ _ (by omega), fun u C hu hC => ?_, fun u r C hu hq hC => ?_, hos, htape, hout, by omega, fun b hb' hno => ?_⟩
    · rw [AHeap.blk_alloc, if_neg (by simp; omega), AHeap.blk_put] at hC
      split at hC
      · cases hC
      · exact ⟨C, hC, id⟩
    · rcases cases_ _ _ _ hq hC with ⟨_, rfl, _⟩ | ⟨hlt, _, _, _⟩
      · right
        refine ⟨v, p, _, hv, hb, rfl, ?_, hq1.symm, hq2, hq3⟩
        rw [AHeap.blk_alloc, if_neg (by simp; omega), AHeap.blk_put, if_pos rfl]
      · omega
    · exact hother b fun e => hno v p _ hv hb rfl e.symm

end Go.VE
