/-
  The program's one table, as the condition of a row lays it, and as the evaluator's heap holds it.
-/
import Derived.Test.YtnlabiojmdhmiaaGreatDoorSt0
import Derived.ChangeSame
import Derived.ChangeVars
import Derived.JoinedOf
import Derived.RowKit
import Derived.OpenShut
import Derived.ProofKit
namespace Go.Proofs.YtnlabiojmdhmiaaGreatDoor
open Go Go.VE Go.ChangeShapes Go.WideShapes Go.RowKit
set_option linter.unusedVariables false
set_option maxRecDepth 100000
theorem ownT : ownKnob Tryz.prog.godebug = none := by kernel_rfl
theorem tabG : Tryz.prog.globalNamed "tipstaff/crc.halves" = some 0 := by kernel_rfl
theorem tabT : (Tryz.prog.globals[0]?).map (·.type) = some 340 := by kernel_rfl
theorem tabC : Tryz.prog.cellsOf 340 = 16 := by kernel_rfl
theorem tabC5 : Tryz.prog.cellsOf 5 = 1 := by kernel_rfl

theorem int_of_trod {H : Type} {enc : TypeId × Value → H} {P : Program} {w : World} {base : Nat} {sp : Nat → Bool} {held : Bool} {fuel : Nat} {t : TypeId} {k : IntKind} {c : Value} {y : DataW H × List MemPlace}
    (ht : P.underlying t = some (.int k)) (h : DataW.trod enc P w base sp held fuel t [c] = some y) : ∃ n, c = .int k n ∧ y = (.lit (.int k n), []) := by
  cases fuel with
  | zero => simp [DataW.trod] at h
  | succ fuel =>
    cases c <;> simp [DataW.trod, ht] at h
    rename_i k' n
    obtain ⟨⟨rfl, _⟩, rfl⟩ := h
    exact ⟨n, rfl, rfl⟩

def halves : List Int := [0,7,14,9,28,27,18,21,56,63,54,49,36,35,42,45]
def cells16 : Array Value := (halves.map fun n => Value.int .u8 n).toArray

theorem ints_of_trod {H : Type} {enc : TypeId × Value → H} {P : Program} {w : World} {base : Nat} {sp : Nat → Bool} {held : Bool} {fuel : Nat} {t : TypeId} {k : IntKind} (ht : P.underlying t = some (.int k)) :
    ∀ (idx : List Nat) (l : List Value) (ys : List (DataW H × List MemPlace)), (∀ i ∈ idx, i < l.length) →
      idx.mapM (fun i => DataW.trod enc P w base sp held fuel t ((l.drop i).take 1)) = some ys →
      ∃ ns : List Int, idx.map (fun i => l[i]?) = ns.map (fun n => some (.int k n)) ∧ ys.map (·.1) = ns.map fun n => DataW.lit (.int k n) := by
  intro idx
  induction idx with
  | nil => intro l ys _ h; simp at h; subst h; exact ⟨[], rfl, rfl⟩
  | cons i idx ih =>
    intro l ys hlt h
    simp only [List.mapM_cons, Option.bind_eq_bind, Option.bind_eq_some_iff, Option.pure_def, Option.some.injEq] at h
    obtain ⟨y, h0, ys', h1, rfl⟩ := h
    obtain ⟨ns, e1, e2⟩ := ih l ys' (fun j hj => hlt j (List.mem_cons_of_mem _ hj)) h1
    have hi := hlt i (List.mem_cons_self ..)
    have hd : (l.drop i).take 1 = [l[i]] := by
      rw [List.drop_eq_getElem_cons hi]; rfl
    rw [hd] at h0
    obtain ⟨n, e3, rfl⟩ := int_of_trod ht h0
    refine ⟨n :: ns, ?_, ?_⟩
    · simp only [List.map_cons, e1]
      rw [List.getElem?_eq_getElem hi, e3]
    · simp [e2]

theorem halves_of_laid {W : World} (h : laidMet Tryz.prog [("tipstaff/crc.halves", Rows.laid_tipstaff_crc_halves)] W) : W.var? Tryz.prog "tipstaff/crc.halves" = some cells16 := by
  obtain ⟨ps, ⟨g, t, cs, fuel, p, q, hg, ht, hvar, hd, _, _⟩, _⟩ := h
  obtain rfl := Option.some.inj (tabG.symm.trans hg)
  obtain rfl := Option.some.inj (tabT.symm.trans ht)
  rw [hvar]
  congr 1
  obtain ⟨l⟩ := cs
  cases fuel with
  | zero => simp [DataW.trod] at hd
  | succ fuel =>
    simp only [DataW.trod, Tryz.underlying340, tabC, tabC5] at hd
    split at hd
    · rename_i hl
      simp only [Option.map_eq_some_iff, Nat.mul_one] at hd
      obtain ⟨ys, hys, hx⟩ := hd
      have hl' : l.length = 16 := by simpa using hl
      obtain ⟨ns, e1, e2⟩ := ints_of_trod Tryz.underlying5 _ l ys (fun i hi => by have := List.mem_range.1 hi; omega) hys
      simp only [Rows.laid_tipstaff_crc_halves, Prod.mk.injEq, DataW.agg.injEq] at hx
      rw [e2] at hx
      have e3 : ns = halves := by
        have inj : ∀ a b : List Int, a.map (fun n => (DataW.lit (.int .u8 n) : DataW Unit)) = b.map (fun n => DataW.lit (.int .u8 n)) → a = b := by
          intro a
          induction a with
          | nil => intro b h; cases b <;> simp_all
          | cons x a ih => intro b h; cases b with
            | nil => simp at h
            | cons y b => simp at h; rw [h.1, ih b (by simpa using h.2)]
        exact inj _ _ hx.1
      subst e3
      apply Array.toList_inj.1
      show l = halves.map fun n => Value.int .u8 n
      apply List.ext_getElem?
      intro i
      have := congrArg (fun x => x[i]?) e1
      simp only [List.getElem?_map] at this
      rcases Nat.lt_or_ge i 16 with hi | hi
      · rw [List.getElem?_range hi] at this
        simp only [Option.map_some] at this
        rw [List.getElem?_map]
        cases hh : halves[i]? with
        | none => rw [hh] at this; simp at this
        | some n => rw [hh] at this; simpa using this
      · rw [List.getElem?_eq_none (by omega), List.getElem?_eq_none (by simpa [halves] using hi)]
    · cases hd

noncomputable def laidWorld (os : Os) : World :=
  { World.holding Tryz.prog os ⟨#[], #[], []⟩ with heap := (World.holding Tryz.prog os ⟨#[], #[], []⟩).heap.modify 0 fun
      | .cells _ t frozen => .cells cells16 t frozen
      | o => o }

/-- The evaluator's heap that holds the table alone. -/
theorem tab_holds {W : World} (h : laidMet Tryz.prog [("tipstaff/crc.halves", Rows.laid_tipstaff_crc_halves)] W) :
    Holds (fun u => if u = 0 then some ⟨0, 0, 16, 1, 0⟩ else none) (tabHeap Tab) W := by
  have hv := halves_of_laid h
  have hb : ∀ u B, (tabHeap Tab).blk u = some B → u = 0 ∧ B = .cells false true (halves.map fun n => Value.int .u8 n) := by
    intro u B hu
    have hm := mkHeap_blk hu
    simp only [tabs, Tab, List.mem_cons, List.not_mem_nil, or_false, Prod.mk.injEq] at hm
    exact ⟨hm.1, hm.2⟩
  obtain ⟨c, e, fr, hc, hcs⟩ : ∃ c e fr, W.heap[0]? = some (.cells c e fr) ∧ c = cells16 := by
    unfold World.var? at hv
    rw [tabG] at hv
    simp only [Option.bind_some] at hv
    split at hv
    · rename_i c e fr hcell
      cases hv
      exact ⟨_, e, fr, hcell, rfl⟩
    · cases hv
  subst hcs
  refine ⟨fun v p hv => ?_, fun v hv => ?_, fun v p B h1 h2 => ?_, fun v₁ v₂ p₁ p₂ B₁ B₂ hne h1 h2 h3 h4 => ?_, fun g hg => ?_⟩
  · split at hv
    · subst_vars; show 0 < 1; omega
    · cases hv
  · cases hu : (tabHeap Tab).blk v with
    | none => rfl
    | some B =>
      obtain ⟨e1, _⟩ := hb _ _ hu
      have : 1 ≤ v := hv
      omega
  · obtain ⟨rfl, rfl⟩ := hb _ _ h2
    cases h1
    refine ⟨by rfl, nofun, cells16, e, fr, hc, by decide, nofun, fun i x hx => ?_⟩
    refine ⟨x, ?_, ?_⟩
    · rw [Nat.zero_add]
      show cells16[i]? = some x
      rw [cells16, List.getElem?_toArray]
      exact hx
    · rw [List.getElem?_map] at hx
      obtain ⟨n, _, rfl⟩ := Option.map_eq_some_iff.1 hx
      exact .int _ _
  · obtain ⟨e1, _⟩ := hb _ _ h3
    obtain ⟨e2, _⟩ := hb _ _ h4
    omega
  · have : g < 1 := hg
    obtain rfl : g = 0 := by omega
    exact ⟨_, rfl, rfl, rfl⟩

/-- What a call of a function that reads the table alone leaves. -/
theorem FSound.closed {f : FuncId} {args args' : Array Value} {h h' : AHeap} {v : Value} (S : FSound Tryz.prog f args h v h') {ρ : Rho} {W : World} (ra : ARel ρ args args') (H : Holds ρ h W) (hro : ∀ u B, h.blk u = some B → B.wr = false) (hv : flatB 8 v = true) :
    Calls Tryz.prog f args' W fun e W' => e = .returned v ∧ Below W.heap.size W W' := by
  refine (S.calls ra H).mono ?_
  rintro e W' ⟨v', ρ', rfl, r, H1, E⟩
  have := r.flat_eq 8 hv
  subst this
  exact ⟨rfl, E.os, E.tape, E.output, E.size, fun b hb => E.keep b hb fun u p B _ h2 h3 => by rw [hro u B h2] at h3; cases h3⟩

end Go.Proofs.YtnlabiojmdhmiaaGreatDoor
