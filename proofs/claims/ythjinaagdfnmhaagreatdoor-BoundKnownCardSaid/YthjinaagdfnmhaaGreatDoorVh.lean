import Derived.Test.YthjinaagdfnmhaaGreatDoorVg
namespace Go.VE
open Go
set_option linter.unusedVariables false
set_option linter.unusedSimpArgs false

/-! ### Loads and stores -/

theorem cell_of {w : World} {b o : Nat} {c : Array Value} {e : TypeId} {fr : Nat × Nat} (h : w.heap[b]? = some (.cells c e fr)) : w.cell? ⟨b, o, none⟩ = c[o]? := by
  simp [World.cell?, h]

theorem Holds.cell {ρ : Rho} {h : AHeap} {w : World} (H : Holds ρ h w) {v o : Nat} {p : Place} {wr gr : Bool} {cs : List Value} {x : Value} (hv : ρ v = some p)
    (hb : h.blk v = some (.cells wr gr cs)) (hx : cs[o]? = some x) : ∃ x', w.cell? ⟨p.block, p.base + o, none⟩ = some x' ∧ VRel ρ x x' := by
  obtain ⟨h1, h2, c, e, fr, h3, h4, h5, h6⟩ := H.rel v p _ hv hb
  obtain ⟨x', h7, h8⟩ := h6 o x hx
  exact ⟨x', by rw [cell_of h3]; exact h7, h8⟩

/-- k cells from o on. -/
def getCells (cs : List Value) (o k : Nat) : Option (Array Value) := if o + k ≤ cs.length then some ((cs.drop o).take k).toArray else none

theorem BRel.cells_get {ρ : Rho} {p : Place} {w : World} {wr gr : Bool} {cs : List Value} (h : BRel ρ p (.cells wr gr cs) w) {o : Nat} {x : Value} (hx : cs[o]? = some x) :
    ∃ x', w.cell? ⟨p.block, p.base + o, none⟩ = some x' ∧ VRel ρ x x' := by
  obtain ⟨h1, h2, c, e, fr, h3, h4, h5, h6⟩ := h
  obtain ⟨x', h7, h8⟩ := h6 o x hx
  exact ⟨x', by rw [cell_of h3]; exact h7, h8⟩

theorem run_loadCells_rel {P : Program} {ρ : Rho} {p : Place} {w : World} {wr gr : Bool} {cs : List Value} (h : BRel ρ p (.cells wr gr cs) w) {o k : Nat} {arr : Array Value}
    (hg : getCells cs o k = some arr) : ∃ arr', (loadCells ⟨p.block, p.base + o, none⟩ k).run P w = .ok arr' w ∧ ARel ρ arr arr' := by
  obtain ⟨hle, hg⟩ := if_some hg
  cases hg
  have hc : ∀ j, j < k → ∃ x', w.cell? ⟨p.block, p.base + o + j, none⟩ = some x' ∧ VRel ρ (cs.getD (o + j) undef) x' := by
    intro j hj
    have hx : cs[o + j]? = some (cs.getD (o + j) undef) := by
      simp [List.getElem?_eq_getElem (show o + j < cs.length by omega)]
    have := h.cells_get hx
    simpa [Nat.add_assoc] using this
  refine ⟨((List.range k).map fun j => (w.cell? ⟨p.block, p.base + o + j, none⟩).getD undef).toArray, ?_, ?_⟩
  · refine run_loadCells w _ k _ fun j hj => ?_
    obtain ⟨x', h1, _⟩ := hc j hj
    rw [add_none, h1]; rfl
  · refine .of_get ?_ fun i x y hx hy => ?_
    · simp; omega
    · simp only [List.getElem?_toArray, List.getElem?_map, Option.map_eq_some_iff] at hx hy
      obtain ⟨j, hj, rfl⟩ := hy
      have hj' := List.getElem?_eq_some_iff.1 hj
      obtain ⟨hi, hj'⟩ := hj'
      simp at hj' hi
      subst hj'
      obtain ⟨x', h1, h2⟩ := hc i hi
      rw [h1]
      simp only [List.getElem?_take, List.getElem?_drop] at hx
      rw [if_pos hi] at hx
      have : cs.getD (o + i) undef = x := by simp [hx]
      rw [this] at h2
      exact h2

def aload (P : Program) (t : TypeId) (x : Value) (h : AHeap) : Option Value :=
  match x with
  | .pointer (some ⟨v, o, none⟩) => match h.blk v with
    | some (.cells _ _ cs) => match P.underlying t with
      | some d => if aggB d then (isz P t).bind fun k => (getCells cs o k).map .agg else cs[o]?
      | none => none
    | _ => none
  | _ => none

theorem run_isAgg {P : Program} {t : TypeId} {d : TypeDesc} (hd : P.underlying t = some d) (w : World) : (isAgg t).run P w = .ok (aggB d) w :=
  pureRun_run (by rw [pureRun_isAgg, hd]; rfl) w
theorem run_size {P : Program} {t : TypeId} {k : Nat} (hd : isz P t = some k) (w : World) : (sizeOf t).run P w = .ok k w :=
  pureRun_run (by rw [pureRun_size]; exact hd) w

/-- The vblock that a pointer points to. -/
def ptrBlk : Value → Option Nat
  | .pointer (some ⟨v, _, none⟩) => some v
  | _ => none

/-- A load asks of the one block alone that it be as told. -/
theorem aload_ok {P : Program} {ρ : Rho} {t : TypeId} {x x' : Value} {h : AHeap} {w : World} {u : Value} (hl : aload P t x h = some u) (r : VRel ρ x x')
    (hb : ∀ v p B, ptrBlk x = some v → ρ v = some p → h.blk v = some B → BRel ρ p B w) : ∃ u', (Instr.loadAt t x').run P w = .ok u' w ∧ VRel ρ u u' := by
  unfold aload at hl
  split at hl
  · rename_i v o
    cases r with
    | ptr hp =>
    rename_i p
    split at hl
    · rename_i wr gr cs hbv
      have hB := hb v p _ rfl hp hbv
      split at hl
      · rename_i d hd
        have hsure : (Instr.sureAddr (.pointer (some ⟨p.block, p.base + o, none⟩))).run P w = .ok ⟨p.block, p.base + o, none⟩ w := rfl
        split at hl
        · rename_i ha
          obtain ⟨k, hk, hl⟩ := bind_some_iff hl
          rw [Option.map_eq_some_iff] at hl
          obtain ⟨arr, hg, rfl⟩ := hl
          obtain ⟨arr', h1, h2⟩ := run_loadCells_rel (P := P) hB hg
          refine ⟨.agg arr', ?_, h2.agg⟩
          unfold Instr.loadAt
          rw [run_bind_ok hsure]
          unfold loadVar
          rw [run_bind_ok (run_isAgg hd w), if_pos ha, run_bind_ok (run_size hk w), run_bind_ok h1]
          rfl
        · rename_i ha
          obtain ⟨u', h1, h2⟩ := hB.cells_get hl
          refine ⟨u', ?_, h2⟩
          unfold Instr.loadAt
          rw [run_bind_ok hsure]
          unfold loadVar
          rw [run_bind_ok (run_isAgg hd w), if_neg ha]
          simp only [load, Sem.run, h1]
      · cases hl
    · cases hl
  · cases hl

/-- Stores one behind the other. -/
def putCells (cs : List Value) (o : Nat) : List Value → List Value
  | [] => cs
  | x :: xs => putCells (cs.set o x) (o + 1) xs
theorem putCells_length (xs : List Value) : ∀ (cs : List Value) (o : Nat), (putCells cs o xs).length = cs.length := by
  induction xs with
  | nil => intros; rfl
  | cons x xs ih => intro cs o; simp [putCells, ih]

theorem frozen_zero {w : World} {b o : Nat} {c : Array Value} {e : TypeId} (h : w.heap[b]? = some (.cells c e (0, 0))) : w.frozen? ⟨b, o, none⟩ = false := by
  simp [World.frozen?, h]

theorem blk_putSame {h : AHeap} {v : Nat} {B : Blk} (hb : h.blk v = some B) (u : Nat) : (h.put v (some B)).blk u = h.blk u := by
  rw [AHeap.blk_put]
  split
  · rename_i e; rw [e, hb]
  · rfl
theorem Holds.same {ρ : Rho} {h h' : AHeap} {w : World} (H : Holds ρ h w) (hb : ∀ u, h'.blk u = h.blk u) (hn : h'.next = h.next) (hg : h'.ng = h.ng) : Holds ρ h' w :=
  ⟨fun v p hv => by rw [hn]; exact H.dom v p hv, fun v hv => by rw [hb]; exact H.fresh v (by omega), fun v p B h1 h2 => H.rel v p B h1 (by rw [← hb]; exact h2),
    fun v₁ v₂ p₁ p₂ B₁ B₂ hne h1 h2 h3 h4 => H.apart v₁ v₂ p₁ p₂ B₁ B₂ hne h1 h2 (by rw [← hb]; exact h3) (by rw [← hb]; exact h4), fun g hg' => H.glob g (by omega)⟩
theorem Ext.congr {ρ ρ' : Rho} {h h' k k' : AHeap} {w w' : World} (e : Ext ρ h w ρ' h' w') (hb : ∀ u, k.blk u = h.blk u) (hn : k.next = h.next) (hg : k.ng = h.ng)
    (hb' : ∀ u, k'.blk u = h'.blk u) (hn' : k'.next = h'.next) (hg' : k'.ng = h'.ng) : Ext ρ k w ρ' k' w' :=
  ⟨by rw [hg, hg']; exact e.ng, by rw [hn, hn']; exact e.next, fun v hv => e.same v (by omega), fun v B hv h1 => by
    obtain ⟨B', g1, g2⟩ := e.old v B (by omega) (by rw [← hb']; exact h1)
    exact ⟨B', by rw [hb]; exact g1, g2⟩, fun v p B hv h1 h2 => by
    rcases e.new v p B (by omega) h1 (by rw [← hb']; exact h2) with g | ⟨v0, p0, B0, g1, g2, g3, g4, g5⟩
    · exact .inl g
    · exact .inr ⟨v0, p0, B0, g1, by rw [hb]; exact g2, g3, by rw [hb']; exact g4, g5⟩, e.os, e.tape, e.output, e.size, fun b hb1 hno => e.keep b hb1 fun v p B h1 h2 h3 => hno v p B h1 (by rw [hb]; exact h2) h3⟩
theorem Holds.putSame {ρ : Rho} {h : AHeap} {w : World} (H : Holds ρ h w) {v : Nat} {B : Blk} (hb : h.blk v = some B) : Holds ρ (h.put v (some B)) w := H.same (blk_putSame hb) rfl rfl
theorem Ext.putSame {ρ : Rho} {h : AHeap} {w : World} (H : Holds ρ h w) {v : Nat} {B : Blk} (hb : h.blk v = some B) : Ext ρ h w ρ (h.put v (some B)) w :=
  Ext.congr (.refl ρ h w H.fresh) (fun _ => rfl) rfl rfl (blk_putSame hb) rfl rfl

theorem run_storeCells_rel {P : Program} {ρ : Rho} (gr : Bool) {v : Nat} {p : Place} : ∀ (xs xs' : List Value) (o i : Nat) (cs : List Value) (h : AHeap) (w : World), Holds ρ h w → ρ v = some p → h.blk v = some (.cells true gr cs) →
    o + i + xs.length ≤ cs.length → xs'.length = xs.length → (∀ (j : Nat) x y, xs[j]? = some x → xs'[j]? = some y → VRel ρ x y) → (∀ x ∈ xs, x.oneCell' = true) →
    ∃ w', (storeCells ⟨p.block, p.base + o, none⟩ xs' i).run P w = .ok () w' ∧ Holds ρ (h.put v (some (.cells true gr (putCells cs (o + i) xs)))) w' ∧
      Ext ρ h w ρ (h.put v (some (.cells true gr (putCells cs (o + i) xs)))) w' := by
  intro xs
  induction xs with
  | nil =>
    intro xs' o i cs h w H hv hb hle hlen hrel hone
    cases xs' with
    | cons => simp at hlen
    | nil =>
      refine ⟨w, rfl, ?_, ?_⟩
      · exact H.putSame hb
      · exact Ext.putSame H hb
  | cons x xs ih =>
    intro xs' o i cs h w H hv hb hle hlen hrel hone
    cases xs' with
    | nil => simp at hlen
    | cons y ys =>
      simp only [List.length_cons] at hle hlen
      have hxy : VRel ρ x y := hrel 0 x y rfl rfl
      obtain ⟨H1, E1⟩ := H.setCell (o := o + i) hv hb (by omega) hxy
      obtain ⟨g1, g2, c, e, fr, g3, g4, g5, g6⟩ := H.rel v p _ hv hb
      have hfr := g5 rfl
      subst hfr
      obtain ⟨z', hz', _⟩ := H.cell (o := o + i) hv hb (List.getElem?_eq_getElem (show o + i < cs.length by omega))
      have hb1 : (h.put v (some (.cells true gr (cs.set (o + i) x)))).blk v = some (.cells true gr (cs.set (o + i) x)) := by simp [AHeap.blk_put]
      obtain ⟨w', h1, h2, h3⟩ := ih ys o (i + 1) (cs.set (o + i) x) _ _ H1 hv hb1 (by simp; omega) (by omega) (fun j a b ha hb' => hrel (j + 1) a b (by simpa using ha) (by simpa using hb')) (fun a ha => hone a (List.mem_cons_of_mem _ ha))
      rw [AHeap.put_put] at h2 h3
      have eo : o + (i + 1) = o + i + 1 := by omega
      rw [eo] at h2 h3
      refine ⟨w', ?_, h2, Ext.trans H H1 E1 h3⟩
      have hst : (store ((⟨p.block, p.base + o, none⟩ : Addr).add i) y).run P w = .ok () (w.setCell ⟨p.block, p.base + (o + i), none⟩ y) := by
        rw [add_none, Nat.add_assoc]
        have hoy : y.oneCell' = true := by rw [hxy.oneCell]; exact hone x (List.mem_cons_self ..)
        cases y <;> first
          | (simp [Value.oneCell'] at hoy; done)
          | (simp only [store, Sem.run, hz', frozen_zero g3]; rfl)
      show Sem.run P (store _ y >>= fun _ => storeCells _ ys (i + 1)) w = _
      rw [run_bind_ok hst]
      exact h1

def astore (P : Program) (t : TypeId) (x u : Value) (h : AHeap) : Option AHeap :=
  match x with
  | .pointer (some ⟨v, o, none⟩) => match h.blk v with
    | some (.cells true gr cs) => if isz P t = some u.cells.size ∧ o + u.cells.size ≤ cs.length ∧ u.cells.all (·.oneCell') then some (h.put v (some (.cells true gr (putCells cs o u.cells.toList)))) else none
    | _ => none
  | _ => none

theorem astore_ok {P : Program} {ρ : Rho} {t : TypeId} {x x' u u' : Value} {h h' : AHeap} {w : World} (hs : astore P t x u h = some h') (r : VRel ρ x x') (ru : VRel ρ u u') (H : Holds ρ h w) :
    ∃ w', (Instr.storeAt t x' u').run P w = .ok () w' ∧ Holds ρ h' w' ∧ Ext ρ h w ρ h' w' := by
  unfold astore at hs
  split at hs
  · rename_i v o
    cases r with
    | ptr hp =>
    rename_i p
    split at hs
    · rename_i gr cs hb
      obtain ⟨⟨c1, c2, c3⟩, hs⟩ := if_some hs
      cases hs
      have rc := ru.cells
      obtain ⟨w', h1, h2, h3⟩ := run_storeCells_rel (P := P) gr u.cells.toList u'.cells.toList o 0 cs h w H hp hb (by simpa using c2) (by simpa using rc.1)
        (fun j a b ha hb => by
          obtain ⟨b', e1, e2⟩ := rc.get (i := j) (x := a) (by simpa using ha)
          have : u'.cells[j]? = some b := by simpa using hb
          rw [e1] at this; cases this; exact e2)
        (fun a ha => by
          rw [Array.all_eq_true] at c3
          obtain ⟨j, hj, rfl⟩ := List.getElem_of_mem ha
          simpa using c3 j (by simpa using hj))
      refine ⟨w', ?_, h2, h3⟩
      unfold Instr.storeAt
      have hsure : (Instr.sureAddr (.pointer (some ⟨p.block, p.base + o, none⟩))).run P w = .ok ⟨p.block, p.base + o, none⟩ w := rfl
      rw [run_bind_ok hsure]
      unfold storeVar
      rw [run_bind_ok (run_size c1 w), if_neg (by rw [rc.1]; simp)]
      exact h1
    · cases hs
  · cases hs

end Go.VE
