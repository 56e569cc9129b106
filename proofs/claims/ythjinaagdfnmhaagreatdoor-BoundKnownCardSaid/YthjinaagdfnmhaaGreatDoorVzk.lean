/-
  Tables of the program and plain arguments: from the condition of a row to the evaluator's heap, and from the evaluator's answer to the row's end.
-/
import Derived.Test.YthjinaagdfnmhaaGreatDoorVzj
import Derived.ChangeSame
import Derived.ChangeVars
import Derived.JoinedOf
import Derived.RowKit
import Derived.OpenShut
import Derived.ProofKit
import Derived.LaidLaws
import Derived.Stop.LaidErr
import Derived.SizedLaws
import Derived.Carry
namespace Go.VE
open Go Go.ChangeShapes Go.WideShapes Go.RowKit
set_option linter.unusedVariables false
set_option linter.unusedSimpArgs false
set_option maxRecDepth 100000

theorem int_of_trod {H : Type} {enc : TypeId × Value → H} {P : Program} {w : World} {base : Nat} {sp : Nat → Bool} {held : Bool} {fuel : Nat} {t : TypeId} {k : IntKind} {c : Value} {y : DataW H × List MemPlace}
    (ht : P.underlying t = some (.int k)) (h : DataW.trod enc P w base sp held fuel t [c] = some y) : ∃ n, c = .int k n ∧ y = (.lit (.int k n), []) := by
  cases fuel with
  | zero => simp [DataW.trod] at h
  | succ fuel =>
    cases c <;> simp [DataW.trod, ht] at h
    rename_i k' n
    obtain ⟨⟨rfl, _⟩, rfl⟩ := h
    exact ⟨n, rfl, rfl⟩

theorem ints_of_trod {H : Type} {enc : TypeId × Value → H} {P : Program} {w : World} {base : Nat} {sp : Nat → Bool} {held : Bool} {fuel : Nat} {t : TypeId} {k : IntKind} (ht : P.underlying t = some (.int k)) :
    ∀ (idx : List Nat) (l : List Value) (ys : List (DataW H × List MemPlace)), (∀ i ∈ idx, i < l.length) →
      idx.mapM (fun i => DataW.trod enc P w base sp held fuel t ((l.drop i).take 1)) = some ys →
      ∃ ns : List Int, idx.map (fun i => l[i]?) = ns.map (fun n => some (.int k n)) ∧ ys.map (·.1) = ns.map fun n => DataW.lit (.int k n) := by
  intro idx
  induction idx with
  | nil => intro l ys _ h; simp at h; subst h; exact ⟨[], rfl, rfl⟩
  | cons i idx ih =>
    intro l ys hlt h
    simp only [List.mapM_cons, Option.bind_eq_bind, Option.bind_eq_some_iff, Option.pure_def, Option.some.injEq] at h
    obtain ⟨y, h0, ys', h1, rfl⟩ := h
    obtain ⟨ns, e1, e2⟩ := ih l ys' (fun j hj => hlt j (List.mem_cons_of_mem _ hj)) h1
    have hi := hlt i (List.mem_cons_self ..)
    have hd : (l.drop i).take 1 = [l[i]] := by
      rw [List.drop_eq_getElem_cons hi]; rfl
    rw [hd] at h0
    obtain ⟨n, e3, rfl⟩ := int_of_trod ht h0
    refine ⟨n :: ns, ?_, ?_⟩
    · simp only [List.map_cons, e1]
      rw [List.getElem?_eq_getElem hi, e3]
    · simp [e2]


/-- A table of whole numbers that a row lists: what the variable holds. -/
theorem ints_of_laid {P : Program} {name : String} {k : IntKind} {ns : List Int} {rest : List (String × DataW Unit)} {W : World} {t e n : Nat} (g : Nat) (hg : P.globalNamed name = some g) (ht : (P.globals[g]?).map (·.type) = some t)
    (hu : P.underlying t = some (.array n e)) (he : P.underlying e = some (.int k)) (hc : P.cellsOf t = n) (hce : P.cellsOf e = 1) (hn : ns.length = n) (h : laidMet P ((name, .agg (ns.map fun n => .lit (.int k n))) :: rest) W) :
    ∃ ty fr, W.heap[g]? = some (.cells (ns.map fun n => Value.int k n).toArray ty fr) := by
  obtain ⟨ps, ⟨g', t', cs, fuel, p, q, hg', ht', hvar, hd, _, _⟩, _⟩ := h
  obtain rfl := Option.some.inj (hg.symm.trans hg')
  obtain rfl := Option.some.inj (ht.symm.trans ht')
  have hcs : cs = (ns.map fun n => Value.int k n).toArray := by
    obtain ⟨l⟩ := cs
    cases fuel with
    | zero => simp [DataW.trod] at hd
    | succ fuel =>
      unfold DataW.trod at hd
      simp only [hu, hc, hce] at hd
      split at hd
      · rename_i hl
        simp only [Option.map_eq_some_iff, Nat.mul_one] at hd
        obtain ⟨ys, hys, hx⟩ := hd
        have hl' : l.length = n := by simpa using hl
        obtain ⟨ms, e1, e2⟩ := ints_of_trod he _ l ys (fun i hi => by have := List.mem_range.1 hi; omega) hys
        simp only [Prod.mk.injEq, DataW.agg.injEq] at hx
        rw [e2] at hx
        have e3 : ms = ns := by
          have inj : ∀ a b : List Int, a.map (fun n => (DataW.lit (.int k n) : DataW Unit)) = b.map (fun n => DataW.lit (.int k n)) → a = b := by
            intro a
            induction a with
            | nil => intro b h; cases b <;> simp_all
            | cons x a ih => intro b h; cases b with
              | nil => simp at h
              | cons y b => simp at h; rw [h.1, ih b (by simpa using h.2)]
          exact inj _ _ hx.1
        subst e3
        apply Array.toList_inj.1
        show l = ms.map fun n => Value.int k n
        apply List.ext_getElem?
        intro i
        have := congrArg (fun x => x[i]?) e1
        simp only [List.getElem?_map] at this
        rcases Nat.lt_or_ge i n with hi | hi
        · rw [List.getElem?_range hi] at this
          simp only [Option.map_some] at this
          rw [List.getElem?_map]
          cases hh : ms[i]? with
          | none => rw [hh] at this; simp at this
          | some n => rw [hh] at this; simpa using this
        · rw [List.getElem?_eq_none (by omega), List.getElem?_eq_none (by simp; omega)]
      · cases hd
  subst hcs
  unfold World.var? at hvar
  rw [hg] at hvar
  simp only [Option.bind_some] at hvar
  split at hvar
  · rename_i c e' fr hcell
    cases hvar
    exact ⟨e', fr, hcell⟩
  · cases hvar

/-- The tables lie in memory as told. -/
def TabsIn (T : List (List Value)) (W : World) : Prop := ∀ (g : Nat) (cs : List Value), T[g]? = some cs → cs ≠ [] → ∃ ty fr, W.heap[g]? = some (Obj.cells cs.toArray ty fr)

def tabRho (T : List (List Value)) : Rho := fun u => (T[u]?).map fun cs => ⟨u, 0, cs.length, 1, 0⟩

theorem tabs_get : ∀ (T : List (List Value)) (i u : Nat) (B : Blk), (u, B) ∈ tabs i T → i ≤ u ∧ ∃ cs, T[u - i]? = some cs ∧ cs ≠ [] ∧ B = .cells false true cs := by
  intro T
  induction T with
  | nil => intro i u B h; cases h
  | cons cs T ih =>
    intro i u B h
    have step : (u, B) ∈ tabs (i + 1) T → i ≤ u ∧ ∃ c, (cs :: T)[u - i]? = some c ∧ c ≠ [] ∧ B = .cells false true c := by
      intro h
      obtain ⟨h1, c, h2, h3⟩ := ih _ _ _ h
      refine ⟨by omega, c, ?_, h3⟩
      rw [show u - i = (u - (i + 1)) + 1 by omega, List.getElem?_cons_succ]
      exact h2
    cases cs with
    | nil => exact step h
    | cons c cs =>
      rcases List.mem_cons.1 h with e | h
      · cases e; exact ⟨Nat.le_refl _, c :: cs, by simp, nofun, rfl⟩
      · exact step h

theorem tabHeap_blk {T : List (List Value)} {u : Nat} {B : Blk} (hu : (tabHeap T).blk u = some B) : ∃ cs, T[u]? = some cs ∧ cs ≠ [] ∧ B = .cells false true cs := by
  obtain ⟨_, cs, h1, h2⟩ := tabs_get _ _ _ _ (mkHeap_blk hu)
  exact ⟨cs, by simpa using h1, h2⟩
theorem tabRo {T : List (List Value)} : ∀ u B, (tabHeap T).blk u = some B → B.wr = false := by
  intro u B hu
  obtain ⟨cs, _, _, rfl⟩ := tabHeap_blk hu
  rfl

theorem tabB_rel {T : List (List Value)} {ρ : Rho} {W : World} (hT : flatT T = true) (h : TabsIn T W) {u : Nat} {cs : List Value} (hu : T[u]? = some cs) (hne : cs ≠ []) : BRel ρ ⟨u, 0, cs.length, 1, 0⟩ (.cells false true cs) W := by
  obtain ⟨ty, fr, hc⟩ := h u cs hu hne
  refine ⟨rfl, nofun, cs.toArray, ty, fr, hc, by simp [Place.top], nofun, fun i x hx => ⟨x, ?_, .of_flat 8 _ ?_⟩⟩
  · rw [Nat.zero_add, List.getElem?_toArray]; exact hx
  · exact List.all_eq_true.1 (List.all_eq_true.1 hT _ (List.mem_of_getElem? hu)) _ (List.mem_of_getElem? hx)

theorem tab_holds {T : List (List Value)} {W : World} (hT : flatT T = true) (h : TabsIn T W) : Holds (tabRho T) (tabHeap T) W := by
  have lt : ∀ v p, tabRho T v = some p → v < T.length ∧ ∃ cs, T[v]? = some cs ∧ p = ⟨v, 0, cs.length, 1, 0⟩ := by
    intro v p hv
    unfold tabRho at hv
    obtain ⟨cs, h1, h2⟩ := Option.map_eq_some_iff.1 hv
    exact ⟨(List.getElem?_eq_some_iff.1 h1).1, cs, h1, h2.symm⟩
  refine ⟨fun v p hv => (lt v p hv).1, fun v hv => ?_, fun v p B h1 h2 => ?_, fun v₁ v₂ p₁ p₂ B₁ B₂ hne h1 h2 _ _ => ?_, fun g hg => ?_⟩
  · cases hu : (tabHeap T).blk v with
    | none => rfl
    | some B =>
      obtain ⟨cs, h1, _⟩ := tabHeap_blk hu
      have := (List.getElem?_eq_some_iff.1 h1).1
      have hv' : T.length ≤ v := hv
      omega
  · obtain ⟨_, cs, h3, rfl⟩ := lt v p h1
    obtain ⟨cs', h4, hne, rfl⟩ := tabHeap_blk h2
    rw [h3] at h4; cases h4
    exact tabB_rel hT h h3 hne
  · obtain ⟨_, _, _, rfl⟩ := lt _ _ h1
    obtain ⟨_, _, _, rfl⟩ := lt _ _ h2
    exact hne
  · have hg' : g < T.length := hg
    exact ⟨_, by unfold tabRho; rw [List.getElem?_eq_getElem hg']; rfl, rfl, rfl⟩

/-- What a call of a function that reads the tables alone leaves. -/
theorem FSound.closed {P : Program} {f : FuncId} {args args' : Array Value} {h h' : AHeap} {v : Value} (S : FSound P f args h v h') {ρ : Rho} {W : World} (ra : ARel ρ args args') (H : Holds ρ h W) (hro : ∀ u B, h.blk u = some B → B.wr = false) (hv : flatB 8 v = true) :
    Calls P f args' W fun e W' => e = .returned v ∧ Below W.heap.size W W' := by
  refine (S.calls ra H).mono ?_
  rintro e W' ⟨v', ρ', rfl, r, H1, E⟩
  have := r.flat_eq 8 hv
  subst this
  exact ⟨rfl, E.os, E.tape, E.output, E.size, fun b hb => E.keep b hb fun u p B _ h2 h3 => by rw [hro u B h2] at h3; cases h3⟩

def okB : Option (Value × AHeap) → Bool | some (.bool b, _) => b | _ => false
theorem okB_ok {r : Option (Value × AHeap)} (h : okB r = true) : ∃ h', r = some (.bool true, h') := by
  unfold okB at h
  split at h
  · subst h; exact ⟨_, rfl⟩
  · cases h

/-! ### Arguments of plain types: their cells bear no address -/

def consec (size : TypeId → Nat) : List Field → Nat → Nat → Bool
  | [], at_, total => Nat.beq at_ total
  | f :: fs, at_, total => Nat.beq f.offset at_ && consec size fs (at_ + size f.type) total

def plainT (P : Program) : Nat → TypeId → Bool
  | 0, _ => false
  | n + 1, t => match P.underlying t with
    | some .bool => true
    | some (.int _) => true
    | some .string => true
    | some (.struct fs) => consec P.cellsOf fs.toList 0 (P.cellsOf t) && fs.toList.all fun f => plainT P n f.type
    | some (.array k e) => Nat.beq (k * P.cellsOf e) (P.cellsOf t) && plainT P n e
    | _ => false

def atom (v : Value) : Bool := match v with
  | .bool _ | .int _ _ | .string _ => true
  | _ => false
theorem atom_flat {v : Value} (h : atom v = true) (n : Nat) : flatB (n + 1) v = true := by cases v <;> first | rfl | cases h
theorem atom_one {v : Value} (h : atom v = true) : v.oneCell' = true := by cases v <;> first | rfl | cases h

variable {H : Type} {enc : TypeId × Value → H} {P : Program} {w : World} {base : Nat} {sp : Nat → Bool} {held : Bool}

theorem mapM_some_mem {α β : Type} {f : α → Option β} : ∀ {l : List α} {ys : List β}, l.mapM f = some ys → ∀ a ∈ l, ∃ y ∈ ys, f a = some y := by
  intro l
  induction l with
  | nil => intro ys _ a ha; cases ha
  | cons b l ih =>
    intro ys h a ha
    simp only [List.mapM_cons, Option.bind_eq_bind, Option.bind_eq_some_iff, Option.pure_def, Option.some.injEq] at h
    obtain ⟨y, h0, ys', h1, rfl⟩ := h
    rcases List.mem_cons.1 ha with rfl | ha
    · exact ⟨y, List.mem_cons_self .., h0⟩
    · obtain ⟨z, hz, e⟩ := ih h1 a ha
      exact ⟨z, List.mem_cons_of_mem _ hz, e⟩

theorem consec_cover {size : TypeId → Nat} : ∀ (fs : List Field) (k total i : Nat), consec size fs k total = true → k ≤ i → i < total → ∃ f ∈ fs, f.offset ≤ i ∧ i < f.offset + size f.type := by
  intro fs
  induction fs with
  | nil => intro k total i h h1 h2; have := Nat.eq_of_beq_eq_true h; omega
  | cons f fs ih =>
    intro k total i h h1 h2
    simp only [consec, Bool.and_eq_true] at h
    have h0 := Nat.eq_of_beq_eq_true h.1
    by_cases hi : i < k + size f.type
    · exact ⟨f, List.mem_cons_self .., by omega, by omega⟩
    · obtain ⟨g, hg, e⟩ := ih _ _ i h.2 (by omega) h2
      exact ⟨g, List.mem_cons_of_mem _ hg, e⟩

theorem plain_of_trod : ∀ (n : Nat) (fuel : Nat) (t : TypeId) (cs : List Value) (x : DataW H × List MemPlace), plainT P n t = true → DataW.trod enc P w base sp held fuel t cs = some x → ∀ c ∈ cs, atom c = true := by
  intro n
  induction n with
  | zero => intro fuel t cs x h; cases h
  | succ n ih =>
    intro fuel t cs x h hx
    cases fuel with
    | zero => simp [DataW.trod] at hx
    | succ fuel =>
      unfold plainT at h
      split at h
      · rename_i hu
        unfold DataW.trod at hx
        rw [hu] at hx
        split at hx <;> simp_all
        all_goals first | (intro c hc; simp_all [atom]) | rfl
      · rename_i k hu
        unfold DataW.trod at hx
        rw [hu] at hx
        split at hx <;> simp_all
        all_goals first | (intro c hc; simp_all [atom]) | rfl
      · rename_i hu
        unfold DataW.trod at hx
        rw [hu] at hx
        split at hx <;> simp_all
        all_goals first | (intro c hc; simp_all [atom]) | rfl
      · rename_i fs hu
        simp only [Bool.and_eq_true] at h
        have hx' : (if cs.length = P.cellsOf t then (fs.toList.mapM fun f => DataW.trod enc P w base sp held fuel f.type ((cs.drop f.offset).take (P.cellsOf f.type))).map fun xs => (DataW.agg (xs.map (·.1)), xs.flatMap (·.2)) else none) = some x := by
          rw [← hx]
          conv => rhs; unfold DataW.trod
          rw [hu]
        split at hx'
        case isFalse => cases hx'
        rename_i hlen
        obtain ⟨xs, hm, _⟩ := Option.map_eq_some_iff.1 hx'
        intro c hc
        obtain ⟨i, hi, rfl⟩ := List.getElem_of_mem hc
        obtain ⟨f, hf, h1, h2⟩ := consec_cover _ _ _ i h.1 (Nat.zero_le _) (by omega)
        obtain ⟨y, _, hy⟩ := mapM_some_mem hm f hf
        refine ih _ _ _ _ (List.all_eq_true.1 h.2 f hf) hy _ ?_
        rw [List.mem_take_iff_getElem]
        refine ⟨i - f.offset, ?_, ?_⟩
        · simp; omega
        · rw [List.getElem_drop]
          congr 1; omega
      · rename_i k e hu
        simp only [Bool.and_eq_true] at h
        have hx' : (if cs.length = P.cellsOf t then ((List.range k).mapM fun i => DataW.trod enc P w base sp held fuel e ((cs.drop (i * P.cellsOf e)).take (P.cellsOf e))).map fun xs => (DataW.agg (xs.map (·.1)), xs.flatMap (·.2)) else none) = some x := by
          rw [← hx]
          conv => rhs; unfold DataW.trod
          rw [hu]
        split at hx'
        case isFalse => cases hx'
        rename_i hlen
        obtain ⟨xs, hm, _⟩ := Option.map_eq_some_iff.1 hx'
        have hk := Nat.eq_of_beq_eq_true h.1
        intro c hc
        obtain ⟨i, hi, rfl⟩ := List.getElem_of_mem hc
        have hz : 0 < P.cellsOf e := by
          rcases Nat.eq_zero_or_pos (P.cellsOf e) with h0 | h0
          · rw [h0] at hk; omega
          · exact h0
        have hdiv : i / P.cellsOf e < k := (Nat.div_lt_iff_lt_mul hz).2 (by omega)
        obtain ⟨y, _, hy⟩ := mapM_some_mem hm (i / P.cellsOf e) (List.mem_range.2 hdiv)
        refine ih _ _ _ _ h.2 hy _ ?_
        have hmod := Nat.mod_lt i hz
        have hdm := Nat.div_add_mod i (P.cellsOf e)
        have hcomm : i / P.cellsOf e * P.cellsOf e = P.cellsOf e * (i / P.cellsOf e) := Nat.mul_comm _ _
        rw [List.mem_take_iff_getElem]
        refine ⟨i % P.cellsOf e, ?_, ?_⟩
        · simp; omega
        · rw [List.getElem_drop]
          congr 1; omega
      · cases h

theorem mapM_get {α β : Type} {f : α → Option β} : ∀ {l : List α} {ys : List β}, l.mapM f = some ys → ∀ (i : Nat) (a : α), l[i]? = some a → f a = ys[i]? := by
  intro l
  induction l with
  | nil => intro ys _ i a ha; simp at ha
  | cons b l ih =>
    intro ys h i a ha
    simp only [List.mapM_cons, Option.bind_eq_bind, Option.bind_eq_some_iff, Option.pure_def, Option.some.injEq] at h
    obtain ⟨y, h0, ys', h1, rfl⟩ := h
    cases i with
    | zero => simp at ha; subst ha; simpa using h0
    | succ i => simpa using ih h1 i a (by simpa using ha)

theorem addr_add (a : Addr) (i : Nat) : (a.add i).block = a.block ∧ (a.add i).off = a.off + i := by
  unfold Addr.add
  split
  · rename_i h; subst h; exact ⟨rfl, rfl⟩
  · exact ⟨rfl, rfl⟩
theorem addr_spot (a : Addr) (i : Nat) (h : a.spot = none) : (a.add i).spot = none := by
  unfold Addr.add
  split
  · exact h
  · rfl

theorem cells_block {a : Addr} {n : Nat} {cs : List Value} (h : w.cells? base a n = some cs) (hn : 0 < n) :
    a.spot = none ∧ ∃ c ty fr, w.heap[a.block]? = some (.cells c ty fr) ∧ cs.length = n ∧ a.off + n ≤ c.size ∧ ∀ i, i < n → cs[i]? = c[a.off + i]? := by
  unfold World.cells? at h
  split at h
  case isFalse => cases h
  have hl : cs.length = n := by
    have e : ∀ {l : List Nat} {ys : List Value}, l.mapM (fun i => w.cell? (a.add i)) = some ys → ys.length = l.length := by
      intro l
      induction l with
      | nil => intro ys h; simp at h; subst h; rfl
      | cons b l ih =>
        intro ys h
        simp only [List.mapM_cons, Option.bind_eq_bind, Option.bind_eq_some_iff, Option.pure_def, Option.some.injEq] at h
        obtain ⟨y, h0, ys', h1, rfl⟩ := h
        simp [ih h1]
    simpa using e h
  have get : ∀ i, i < n → w.cell? (a.add i) = cs[i]? := fun i hi => mapM_get h i i (by simp [hi])
  have h0 := get 0 hn
  have hsome : cs[0]? = some cs[0] := by simp [hl, hn]
  rw [hsome] at h0
  unfold World.cell? at h0
  split at h0
  case h_2 => cases h0
  rename_i c ty fr hb
  have hsp : a.spot = none := by
    split at h0
    · cases h0
    · rename_i hn
      have e : a.add 0 = a := rfl
      rw [e] at hn
      cases hs : a.spot with
      | none => rfl
      | some k => rw [hs] at hn; simp at hn
  have hb' : w.heap[a.block]? = some (.cells c ty fr) := by rw [← (addr_add a 0).1]; exact hb
  have all : ∀ i, i < n → cs[i]? = c[a.off + i]? := by
    intro i hi
    rw [← get i hi]
    unfold World.cell?
    obtain ⟨e1, e3⟩ := addr_add a i
    have e2 := addr_spot a i hsp
    rw [e1, hb', e2, e3]
    simp
  refine ⟨hsp, c, ty, fr, hb', hl, ?_, all⟩
  have := all (n - 1) (by omega)
  have h2 : cs[n - 1]? = some (cs[n - 1]'(by omega)) := by simp
  rw [h2] at this
  have := (Array.getElem?_eq_some_iff.1 this.symm).1
  omega

/-- A slice of a plain type: where its cells lie. -/
theorem slice_of_trod {n : Nat} {t e : TypeId} {v : Value} {d : DataW H} {ps : List MemPlace} (ht : P.underlying t = some (.slice e)) (hp : plainT P n e = true) (hc : 0 < P.cellsOf e) (hv : v.cells.toList = [v])
    (h : DataW.Trod enc P w base sp held t v d ps) : (v = .slice none 0 0 ∧ d = .nil) ∨ (∃ a len cap elems spare, v = .slice (some a) len cap ∧ d = .slice elems spare ∧ elems.length = len ∧ len ≤ cap ∧
      (0 < len → a.spot = none ∧ ∃ cs ty fr, w.heap[a.block]? = some (.cells cs ty fr) ∧ a.off + len * P.cellsOf e ≤ cs.size ∧
        ∀ i, i < len → ∃ fuel y, DataW.trod enc P w base sp held fuel e ((cs.toList.drop (a.off + i * P.cellsOf e)).take (P.cellsOf e)) = some y)) := by
  obtain ⟨fuel, hf⟩ := h
  rw [hv] at hf
  rcases DataW.trod_slice ht hf with ⟨h0, h1⟩ | ⟨a, len, cap, elems, rest, m, rfl, h1, h2, hb, hl, hm, hlen, hel, _, _⟩
  · cases h0; cases h1; exact .inl ⟨rfl, rfl⟩
  · cases h1; cases h2
    refine .inr ⟨a, len, cap, _, _, rfl, rfl, by simpa using hlen, hl, fun hpos => ?_⟩
    have hsp : a.spot = none := by
      have h3 := hel 0 hpos
      have h4 : elems[0]? = some (elems[0]'(by omega)) := by simp
      rw [h4] at h3
      obtain ⟨cs', h5, _⟩ := Option.bind_eq_some_iff.1 h3
      rw [Nat.zero_mul] at h5
      exact (cells_block h5 hc).1
    have one : ∀ i, i < len → ∃ cs ty fr, a.spot = none ∧ w.heap[a.block]? = some (.cells cs ty fr) ∧ a.off + i * P.cellsOf e + P.cellsOf e ≤ cs.size ∧
        ∃ y, DataW.trod enc P w base sp held m e ((cs.toList.drop (a.off + i * P.cellsOf e)).take (P.cellsOf e)) = some y := by
      intro i hi
      have h3 := hel i hi
      have h4 : elems[i]? = some elems[i] := by simp [hlen, hi]
      rw [h4] at h3
      obtain ⟨cs', h5, h6⟩ := Option.bind_eq_some_iff.1 h3
      obtain ⟨g1, c, ty, fr, g2, g3, g4, g5⟩ := cells_block h5 hc
      obtain ⟨e0, e1⟩ := addr_add a (i * P.cellsOf e)
      rw [e0] at g2
      rw [e1] at g4 g5
      refine ⟨c, ty, fr, hsp, g2, g4, elems[i], ?_⟩
      rw [← h6]
      congr 1
      apply List.ext_getElem?
      intro j
      rcases Nat.lt_or_ge j (P.cellsOf e) with hj | hj
      · rw [List.getElem?_take_of_lt hj, List.getElem?_drop, g5 j hj, Array.getElem?_toList]
      · rw [List.getElem?_eq_none (by simp; omega), List.getElem?_eq_none (by omega)]
    obtain ⟨cs, ty, fr, h7, h8, _, _⟩ := one 0 hpos
    refine ⟨h7, cs, ty, fr, h8, ?_, fun i hi => ?_⟩
    · obtain ⟨cs', ty', fr', _, k1, k2, _⟩ := one (len - 1) (by omega)
      rw [h8] at k1
      cases k1
      have : (len - 1) * P.cellsOf e + P.cellsOf e = len * P.cellsOf e := by
        rw [← Nat.succ_mul]; congr 1; omega
      omega
    · obtain ⟨cs', ty', fr', _, k1, _, y, hy⟩ := one i hi
      rw [h8] at k1
      cases k1
      exact ⟨m, y, hy⟩

theorem plain_cells {n e len off : Nat} {cs : Array Value} (hp : plainT P n e = true) (hsz : off + len * P.cellsOf e ≤ cs.size) (hc : 0 < P.cellsOf e)
    (h : ∀ i, i < len → ∃ fuel y, DataW.trod enc P w base sp held fuel e ((cs.toList.drop (off + i * P.cellsOf e)).take (P.cellsOf e)) = some y) :
    ∀ j, j < len * P.cellsOf e → ∃ c, cs[off + j]? = some c ∧ atom c = true := by
  intro j hj
  have hdiv : j / P.cellsOf e < len := (Nat.div_lt_iff_lt_mul hc).2 hj
  obtain ⟨fuel, y, hy⟩ := h _ hdiv
  have hi : off + j < cs.size := by omega
  refine ⟨cs[off + j], by simp [hi], ?_⟩
  refine plain_of_trod n fuel e _ _ hp hy _ ?_
  have hmod := Nat.mod_lt j hc
  have hdm := Nat.div_add_mod j (P.cellsOf e)
  have hcomm : j / P.cellsOf e * P.cellsOf e = P.cellsOf e * (j / P.cellsOf e) := Nat.mul_comm _ _
  rw [List.mem_take_iff_getElem]
  refine ⟨j % P.cellsOf e, ?_, ?_⟩
  · simp; omega
  · rw [List.getElem_drop]
    simp only [Array.getElem_toList]
    congr 1; omega

theorem belowAll (hl : laidOutB P = true) {W W' : World} (hb : Below W.heap.size W W') : ∀ (ts : List TypeId) (vs : List Value) (ds : List (DataW H)) (ps : List MemPlace),
    (∀ t ∈ ts, P.readableRec t = true ∧ t < P.types.size) → DataW.TrodAll enc P W 0 (fun _ => true) true ts vs ds ps → (∀ x ∈ ps, x.block < W.heap.size) →
    DataW.TrodAll enc P W' 0 (fun b => decide (b < W.heap.size)) true ts vs ds ps := by
  intro ts
  induction ts with
  | nil => intro vs ds ps _ h _; cases vs <;> cases ds <;> first | exact h | cases h
  | cons t ts ih =>
    intro vs ds ps ht h hlt
    cases vs with
    | nil => cases h
    | cons v vs =>
      cases ds with
      | nil => cases h
      | cons d ds =>
        obtain ⟨p, q, h1, h2, rfl⟩ := h
        obtain ⟨k1, k2⟩ := ht t (List.mem_cons_self ..)
        exact ⟨p, q, Below.trod hl k1 k2 h1 hb fun x hx => hlt x (List.mem_append_left _ hx), ih vs ds q (fun t h => ht t (List.mem_cons_of_mem _ h)) h2 fun x hx => hlt x (List.mem_append_right _ hx), rfl⟩

/-- A law that answered true and left what was there as it was. -/
theorem post_true {fn : Func} {s : ChangeSpec} {W W' : World} {args : Array Value} {ds gs : List (DataW H)} {before : List MemPlace} {tb : TypeId} (hl : laidOutB P = true) (hvars : s.vars = []) (hrt : fn.resultTypes = #[tb]) (htb : P.underlying tb = some .bool)
    (hts : ∀ t ∈ fn.params.toList, P.readableRec t = true ∧ t < P.types.size)
    (hW : DataW.Whole enc P fn.params.toList s.vars false W args.toList ds gs before) (hfn : s.fn H (ds ++ gs) = { results := [.lit (.bool true)], args := ds }) (hb : Below W.heap.size W W') :
    s.post enc P fn false true false false W args (.bool true) W' := by
  have hW' := hW
  obtain ⟨p, q, hA, hV, rfl, hfz, hnd⟩ := hW
  refine ⟨ds, gs, p ++ q, [], p, [], hW', ?_, ?_, ?_, hb.frame _, fun h => by cases h⟩
  · rw [hfn, hrt]
    exact trodAll_mk1 (shut_bool htb true)
  · rw [hfn]
    exact belowAll hl hb _ _ _ _ hts hA fun x hx => by simpa using hW'.lt x (List.mem_append_left _ hx)
  · rw [hfn, hvars]; rfl

end Go.VE
