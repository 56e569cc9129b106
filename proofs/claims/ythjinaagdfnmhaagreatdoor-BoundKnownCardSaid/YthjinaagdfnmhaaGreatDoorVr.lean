import Derived.Test.YthjinaagdfnmhaaGreatDoorVq
namespace Go.VE
open Go
set_option linter.unusedVariables false
set_option linter.unusedSimpArgs false

/-! ### A region in whatever order -/

/-- A placing, as far as n. -/
def cutR (ρ : Rho) (n : Nat) : Rho := fun v => if v < n then ρ v else none
theorem cutR_le (ρ : Rho) (n : Nat) : (cutR ρ n).le ρ := fun v p h => by
  unfold cutR at h
  split at h
  · exact h
  · cases h

/-- A value that speaks of blocks below n alone. -/
def WFv (n : Nat) (x : Value) : Prop := ∃ ρ y, (∀ v, n ≤ v → ρ v = none) ∧ VRel ρ x y
theorem WFv.mono {n m : Nat} {x : Value} (h : WFv n x) (hl : n ≤ m) : WFv m x := let ⟨ρ, y, h1, h2⟩ := h; ⟨ρ, y, fun v hv => h1 v (Nat.le_trans hl hv), h2⟩
theorem WFv.of {ρ : Rho} {n : Nat} {x y : Value} (h : VRel ρ x y) (hd : ∀ v p, ρ v = some p → v < n) : WFv n x :=
  ⟨ρ, y, fun v hv => by
    cases hp : ρ v with
    | none => rfl
    | some p => have := hd v p hp; omega, h⟩
theorem WFv.ofCut {ρ : Rho} {n : Nat} {x y : Value} (h : VRel (cutR ρ n) x y) : WFv n x := WFv.of h fun v p hv => by
  unfold cutR at hv
  split at hv
  · assumption
  · cases hv

theorem VRel.meet {ρ ρ' : Rho} {n : Nat} {x y z : Value} (h : VRel ρ x y) (hd : ∀ v, n ≤ v → ρ v = none) (k : VRel ρ' x z) : VRel (cutR ρ' n) x z := by
  have at_ : ∀ {v : Nat} {p q : Place}, ρ v = some p → ρ' v = some q → cutR ρ' n v = some q := fun {v p q} h1 h2 => by
    unfold cutR
    rw [if_pos]
    · exact h2
    · rcases Nat.lt_or_ge v n with h | h
      · exact h
      · rw [hd v h] at h1; cases h1
  induction h generalizing z with
  | bool b => cases k; exact .bool b
  | int k' n' => cases k; exact .int _ _
  | string s => cases k; exact .string s
  | float k' n' => cases k; exact .float _ _
  | complex k' n' m' => cases k; exact .complex _ _ _
  | nilChan => cases k; exact .nilChan
  | nilPtr => cases k; exact .nilPtr
  | ptr h => cases k with | ptr k => exact .ptr (at_ h k)
  | nilSlice => cases k; exact .nilSlice
  | slice h => cases k with | slice k => exact .slice (at_ h k)
  | sliceO h hk hc => cases k with | sliceO k hk' hc' => exact .sliceO (at_ h k) hk' hc'
  | sliceV => cases k with
    | sliceV => exact .sliceV
  | nilMap => cases k; exact .nilMap
  | map h => cases k with | map k => exact .map (at_ h k)
  | func hf s1 _ s2 _ ih1 ih2 =>
    cases k with
    | func kf t1 k1 t2 k2 =>
      refine .func ?_ t1 (fun i hi => ih1 i hi (k1 i hi)) t2 (fun i hi => ih2 i hi (k2 i hi))
      cases hf with
      | func f => cases kf; exact .func f
      | yield h => cases kf with | yield k => exact .yield (at_ h k)
  | nilFunc => cases k; exact .nilFunc
  | iface _ ih => cases k with | iface k => exact .iface (ih k)
  | nilIface => cases k; exact .nilIface
  | agg s _ ih => cases k with | agg t k => exact .agg t fun i hi => ih i hi (k i hi)
  | tuple s _ ih => cases k with | tuple t k => exact .tuple t fun i hi => ih i hi (k i hi)

theorem WFv.cut {ρ : Rho} {n : Nat} {x y : Value} (h : WFv n x) (k : VRel ρ x y) : VRel (cutR ρ n) x y := let ⟨_, _, h1, h2⟩ := h; h2.meet h1 k

/-- The same of a block. -/
def WFb (n : Nat) : Blk → Prop
  | .cells _ _ cs => ∀ x ∈ cs, WFv n x
  | .map kv => ∀ p ∈ kv, WFv n p.1 ∧ WFv n p.2
  | .iter _ _ => True
  | .defs => True
  | .loop r => (∀ i, WFv n (r.tmps.get i)) ∧ r.defers < n
theorem WFb.mono {n m : Nat} {B : Blk} (h : WFb n B) (hl : n ≤ m) : WFb m B := by
  cases B with
  | cells wr gr cs => exact fun x hx => (h x hx).mono hl
  | map kv => exact fun p hp => ⟨(h p hp).1.mono hl, (h p hp).2.mono hl⟩
  | iter s p => trivial
  | defs => trivial
  | loop r => exact ⟨fun i => (h.1 i).mono hl, Nat.lt_of_lt_of_le h.2 hl⟩
theorem WFb.of {ρ : Rho} {n : Nat} {p : Place} {B : Blk} {w : World} (h : BRel ρ p B w) (hd : ∀ v p, ρ v = some p → v < n) : WFb n B := by
  cases B with
  | cells wr gr cs =>
    obtain ⟨_, _, c, e, fr, _, _, _, h6⟩ := h
    intro x hx
    obtain ⟨i, hi, rfl⟩ := List.getElem_of_mem hx
    obtain ⟨x', _, h8⟩ := h6 i _ (List.getElem?_eq_getElem hi)
    exact WFv.of h8 hd
  | map kv =>
    obtain ⟨_, _, es, cl, _, _, h5⟩ := h
    intro q hq
    obtain ⟨i, hi, rfl⟩ := List.getElem_of_mem hq
    obtain ⟨e, _, h7, h8⟩ := h5 i _ _ (List.getElem?_eq_getElem hi)
    exact ⟨WFv.of h7 hd, WFv.of h8 hd⟩
  | iter s p => trivial
  | defs => trivial
  | loop r =>
    obtain ⟨_, _, r', _, _, _, _, _, _, h6, q, h7, _⟩ := h
    exact ⟨fun i => WFv.of (h6.2 i) hd, hd _ _ h7⟩
theorem WFb.cut {ρ : Rho} {n : Nat} {p : Place} {B : Blk} {w : World} (h : WFb n B) (k : BRel ρ p B w) : BRel (cutR ρ n) p B w := by
  cases B with
  | cells wr gr cs =>
    obtain ⟨h1, h2, c, e, fr, h3, h4, h5, h6⟩ := k
    exact ⟨h1, h2, c, e, fr, h3, h4, h5, fun i x hx => let ⟨x', g1, g2⟩ := h6 i x hx; ⟨x', g1, (h x (List.mem_of_getElem? hx)).cut g2⟩⟩
  | map kv =>
    obtain ⟨h1, h2, es, cl, h3, h4, h5⟩ := k
    refine ⟨h1, h2, es, cl, h3, h4, fun i k x hx => ?_⟩
    obtain ⟨e, g1, g2, g3⟩ := h5 i k x hx
    obtain ⟨f1, f2⟩ := h (k, x) (List.mem_of_getElem? hx)
    exact ⟨e, g1, f1.cut g2, f2.cut g3⟩
  | iter s p => exact k
  | defs => exact k
  | loop r =>
    obtain ⟨h1, h2, r', h3, g1, g2, g3, g4, g5, g6, q, g7, g8⟩ := k
    refine ⟨h1, h2, r', h3, g1, g2, g3, g4, g5, ⟨g6.1, fun i => (h.1 i).cut (g6.2 i)⟩, q, ?_, g8⟩
    unfold cutR
    rw [if_pos h.2]; exact g7

structure Tx (P : Program) (R : Rec) (ops : Array Oper) (sts : Nat → St) (cl : Nat → Cls) : Prop where
  step : ∀ k o, ops[k]? = some o → stepOp P R ops o (sts k) = some (sts (k + 1), cl k)
  touch : ∀ k, k < ops.size → Touch (sts k) (sts (k + 1)) (cl k)
  ord : ∀ i j, i < j → j < ops.size → (cl i).compat (cl j) = true ∨ Ord ops i j
  names : ∀ i j oi oj d, ops[i]? = some oi → ops[j]? = some oj → oi.dst = some d → i ≠ j → d ∈ opNames ops oj → (i < j → Ord ops i j) ∧ (j < i → Ord ops j i)
  back : ∀ j o, ops[j]? = some o → ∀ e ∈ o.after, Region.binds .any e = true → e.on < j
  fresh0 : ∀ v, (sts 0).h.next ≤ v → (sts 0).h.blk v = none

def Tch (sts : Nat → St) (i v : Nat) : Prop := (sts (i + 1)).h.blk v ≠ (sts i).h.blk v
def Cut (n : Nat) (sts : Nat → St) (S : Array Bool) (k v : Nat) : Prop := (∀ i, i < k → Tch sts i v → li S i) ∧ ∀ i, k ≤ i → i < n → Tch sts i v → ¬ li S i
def Wr (ops : Array Oper) (i d : Nat) : Prop := ∃ o, ops[i]? = some o ∧ o.dst = some d

section
variable {P : Program} {R : Rec} {ops : Array Oper} {sts : Nat → St} {cl : Nat → Cls}

theorem Tx.mono (X : Tx P R ops sts cl) : ∀ (j i : Nat), i ≤ j → j ≤ ops.size → (sts i).h.next ≤ (sts j).h.next := by
  intro j
  induction j with
  | zero => intro i h _; rw [Nat.le_zero.1 h]; exact Nat.le_refl _
  | succ j ih =>
    intro i h hj
    rcases Nat.lt_or_ge i (j + 1) with hlt | hge
    · exact Nat.le_trans (ih i (by omega) (by omega)) (X.touch j (by omega)).fr.next
    · rw [Nat.le_antisymm h hge]; exact Nat.le_refl _
theorem Tx.fresh (X : Tx P R ops sts cl) : ∀ k, k ≤ ops.size → ∀ v, (sts k).h.next ≤ v → (sts k).h.blk v = none := by
  intro k
  induction k with
  | zero => exact fun _ => X.fresh0
  | succ k ih => exact fun hk => (X.touch k (by omega)).fr.fresh (ih (by omega))
theorem Tx.ngk (X : Tx P R ops sts cl) : ∀ k, k ≤ ops.size → (sts k).h.ng = (sts 0).h.ng := by
  intro k
  induction k with
  | zero => exact fun _ => rfl
  | succ k ih => exact fun hk => (X.touch k (by omega)).fr.ng.trans (ih (by omega))

theorem Tx.cases (X : Tx P R ops sts cl) {i v : Nat} (hi : i < ops.size) (h : Tch sts i v) :
    v < (sts (i + 1)).h.next ∧ ((v < (sts i).h.next ∧ (cl i = .x ∨ cl i = .s v ∨ cl i = .w v)) ∨ ((sts i).h.next ≤ v ∧ (cl i = .x ∨ cl i = .g ∨ (∃ w, cl i = .w w) ∨ cl i = .a v))) := by
  have T := X.touch i hi
  have hlt : v < (sts (i + 1)).h.next := by
    rcases Nat.lt_or_ge v (sts (i + 1)).h.next with h' | h'
    · exact h'
    · exfalso
      apply h
      rw [X.fresh (i + 1) (by omega) v h', X.fresh i (by omega) v (Nat.le_trans T.fr.next h')]
  refine ⟨hlt, ?_⟩
  rcases Nat.lt_or_ge v (sts i).h.next with h' | h'
  · exact .inl ⟨h', T.old v h' h⟩
  · refine .inr ⟨h', ?_⟩
    rcases T.new (by omega) with c | c | c | ⟨c, d⟩
    · exact .inl c
    · exact .inr (.inl c)
    · exact .inr (.inr (.inl c))
    · have : v = (sts i).h.next := by omega
      rw [this]; exact .inr (.inr (.inr c))

theorem Tx.chain (X : Tx P R ops sts cl) {v k : Nat} : ∀ k', k ≤ k' → (∀ i, k ≤ i → i < k' → ¬ Tch sts i v) → (sts k').h.blk v = (sts k).h.blk v := by
  intro k'
  induction k' with
  | zero => intro h _; rw [Nat.le_zero.1 h]
  | succ k' ih =>
    intro h hno
    rcases Nat.lt_or_ge k (k' + 1) with hlt | hge
    · have h1 := ih (by omega) fun i h1 h2 => hno i h1 (by omega)
      have h2 := hno k' (by omega) (by omega)
      unfold Tch at h2
      rw [Classical.not_not] at h2
      exact h2.trans h1
    · rw [Nat.le_antisymm h hge]

theorem Tx.tord (X : Tx P R ops sts cl) {i j v : Nat} (hij : i < j) (hj : j < ops.size) (hi : Tch sts i v) (ht : Tch sts j v) : Ord ops i j := by
  obtain ⟨a1, a2⟩ := X.cases (by omega) hi
  obtain ⟨b1, b2⟩ := X.cases hj ht
  have hm := X.mono j (i + 1) (by omega) (by omega)
  have cj : cl j = .x ∨ cl j = .s v ∨ cl j = .w v := by
    rcases b2 with ⟨_, b⟩ | ⟨b, _⟩
    · exact b
    · omega
  have ci : cl i = .x ∨ cl i = .s v ∨ cl i = .g ∨ cl i = .a v ∨ ∃ w, cl i = .w w := by
    rcases a2 with ⟨_, a | a | a⟩ | ⟨_, a | a | a | a⟩
    · exact .inl a
    · exact .inr (.inl a)
    · exact .inr (.inr (.inr (.inr ⟨_, a⟩)))
    · exact .inl a
    · exact .inr (.inr (.inl a))
    · exact .inr (.inr (.inr (.inr a)))
    · exact .inr (.inr (.inr (.inl a)))
  refine (X.ord i j hij hj).resolve_left ?_
  rcases ci with c | c | c | c | ⟨w, c⟩ <;> rcases cj with d | d | d <;> rw [c, d] <;> simp [Cls.compat]

structure Inv (ops : Array Oper) (sts : Nat → St) (ρ₀ : Rho) (w₀ : World) (S : Array Bool) (ρ : Rho) (V : AHeap) (a : Act) (w : World) : Prop where
  sz : a.tmps.size = (sts 0).t.n
  tm : ∀ d k, k ≤ ops.size → (∀ i, i < k → Wr ops i d → li S i) → (∀ i, k ≤ i → i < ops.size → Wr ops i d → ¬ li S i) → VRel ρ ((sts k).t.get d) (a.tmps.getD d undef) ∧ WFv (sts k).h.next ((sts k).t.get d)
  ds : DRel ρ (sts 0).ds a.defers
  next : V.next = (sts ops.size).h.next
  ng : V.ng = (sts 0).h.ng
  blk : ∀ v k, k ≤ ops.size → Cut ops.size sts S k v → V.blk v = (sts k).h.blk v
  wf : ∀ v k B, k ≤ ops.size → Cut ops.size sts S k v → ρ v ≠ none → (sts k).h.blk v = some B → WFb (sts k).h.next B
  H : Holds ρ V w
  E : Ext ρ₀ (sts 0).h w₀ ρ V w
  born : ∀ v p, ρ v = some p → ∀ i, i < ops.size → (sts i).h.next ≤ v → v < (sts (i + 1)).h.next → li S i

theorem li_set {S : Array Bool} {i j : Nat} : li (S.setIfInBounds j true) i → i = j ∨ li S i := by
  unfold li
  intro h
  by_cases hij : j = i
  · exact .inl hij.symm
  · rw [getD_set_ne false hij] at h; exact .inr h
theorem li_set_of {S : Array Bool} {i j : Nat} (h : li S i) : li (S.setIfInBounds j true) i := getD_set_true h
theorem li_set_same {S : Array Bool} {j : Nat} (h : j < S.size) : li (S.setIfInBounds j true) j := by
  unfold li
  simp [h]

/-- The value of the k-th. -/
def Val (ops : Array Oper) (sts : Nat → St) (k : Nat) (v : Value) : Prop := ∀ o, ops[k]? = some o → (sts (k + 1)).t = (sts k).t.put o.dst v ∧ (sts (k + 1)).ds = (sts k).ds

theorem get_put_ne {t : ATm} {dst : Option Nat} {v : Value} {d : Nat} (h : dst ≠ some d) : (t.put dst v).get d = t.get d := by
  cases dst with
  | none => rfl
  | some e =>
    rw [ATm.get_put, if_neg]
    rintro ⟨rfl, _⟩
    exact h rfl

theorem tchain {vals : Nat → Value} (hv : ∀ k, k < ops.size → Val ops sts k (vals k)) {d k : Nat} : ∀ k', k ≤ k' → k' ≤ ops.size → (∀ i, k ≤ i → i < k' → ¬ Wr ops i d) → (sts k').t.get d = (sts k).t.get d := by
  intro k'
  induction k' with
  | zero => intro h _ _; rw [Nat.le_zero.1 h]
  | succ k' ih =>
    intro h hk hno
    rcases Nat.lt_or_ge k (k' + 1) with hlt | hge
    · have h1 := ih (by omega) (by omega) fun i h1 h2 => hno i h1 (by omega)
      have hk' : k' < ops.size := by omega
      obtain ⟨e, _⟩ := hv k' hk' _ (Array.getElem?_eq_getElem hk')
      rw [e, get_put_ne, h1]
      intro hd
      exact hno k' (by omega) (by omega) ⟨_, Array.getElem?_eq_getElem hk', hd⟩
    · rw [Nat.le_antisymm h hge]
theorem tn {vals : Nat → Value} (hv : ∀ k, k < ops.size → Val ops sts k (vals k)) : ∀ k, k ≤ ops.size → (sts k).t.n = (sts 0).t.n ∧ (sts k).ds = (sts 0).ds := by
  intro k
  induction k with
  | zero => exact fun _ => ⟨rfl, rfl⟩
  | succ k ih =>
    intro hk
    obtain ⟨h1, h2⟩ := ih (by omega)
    obtain ⟨e1, e2⟩ := hv k (by omega) _ (Array.getElem?_eq_getElem (show k < ops.size by omega))
    exact ⟨by rw [e1, ATm.n_put, h1], e2.trans h2⟩

theorem mem_opNames_dst {o : Oper} {d : Nat} (h : o.dst = some d) : d ∈ opNames ops o := by simp [opNames, h]

/-- One more of them is done. -/
theorem Inv.adv (X : Tx P R ops sts cl) {vals : Nat → Value} (hv : ∀ k, k < ops.size → Val ops sts k (vals k)) {ρ₀ : Rho} {w₀ : World} {S : Array Bool} {ρ ρ' : Rho} {V V' : AHeap} {a : Act} {w w' : World} (I : Inv ops sts ρ₀ w₀ S ρ V a w)
    (hS : S.size = ops.size) (hc : Closed ops S) {j : Nat} {o : Oper} (hj : ops[j]? = some o) (hjS : ¬ li S j) (hready : ∀ e ∈ o.after, Region.binds .any e = true → li S e.on) {v' : Value} (hl : ρ.le ρ') (hval : VRel ρ' (vals j) v') (hvw : WFv (sts (j + 1)).h.next (vals j))
    (H' : Holds ρ' V' w') (E' : Ext ρ₀ (sts 0).h w₀ ρ' V' w') (hn : V'.next = V.next) (hg : V'.ng = V.ng) (hb1 : ∀ v, ¬ Tch sts j v → V'.blk v = V.blk v) (hb2 : ∀ v, Tch sts j v → V'.blk v = (sts (j + 1)).h.blk v)
    (hwf : ∀ v B, Tch sts j v → ρ' v ≠ none → (sts (j + 1)).h.blk v = some B → WFb (sts (j + 1)).h.next B)
    (hborn : ∀ v p, ρ' v = some p → ρ v = some p ∨ ((sts j).h.next ≤ v ∧ v < (sts (j + 1)).h.next ∧ (¬ Tch sts j v → ∀ i, j < i → i < ops.size → Tch sts i v → ¬ li S i))) : Inv ops sts ρ₀ w₀ (S.setIfInBounds j true) ρ' V' (a.put o.dst v') w' := by
  have hjn : j < ops.size := (Array.getElem?_eq_some_iff.1 hj).1
  have ahead : ∀ i, Ord ops i j → li S i := fun i h => ord_listed hc j i (.inr ⟨o, hj, hready⟩) h
  have behind : ∀ i, Ord ops j i → ¬ li S i := fun i h hi => hjS (ord_listed hc i j (.inl hi) h)
  have hput : ∀ d, (a.put o.dst v').tmps.getD d undef = if o.dst = some d ∧ d < a.tmps.size then v' else a.tmps.getD d undef := by
    intro d
    cases hd : o.dst with
    | none => simp [Act.put]
    | some e =>
      simp only [Act.put, Array.getD_eq_getD_getElem?, Array.getElem?_setIfInBounds]
      by_cases he : e = d
      · subst he
        by_cases hlt : e < a.tmps.size
        · simp [hlt]
        · simp [hlt]
      · simp [he]
  refine ⟨?_, fun d k hk h1 h2 => ?_, ?_, by rw [hn]; exact I.next, by rw [hg]; exact I.ng, fun v k hk hcut => ?_, fun v k B hk hcut hne hB => ?_, H', E', fun v p hp i hi h1 h2 => ?_⟩
  · cases hd : o.dst with
    | none => exact I.sz
    | some e => simpa [Act.put] using I.sz
  · rw [hput d]
    by_cases hd : o.dst = some d
    · have hw : Wr ops j d := ⟨o, hj, hd⟩
      have hjk : j < k := by
        rcases Nat.lt_or_ge j k with h | h
        · exact h
        · exact absurd (li_set_same (by rw [hS]; exact hjn)) (h2 j h hjn hw)
      have hno : ∀ i, j + 1 ≤ i → i < k → ¬ Wr ops i d := by
        rintro i hi1 hi2 ⟨oi, hoi, hdi⟩
        have hli := h1 i hi2 ⟨oi, hoi, hdi⟩
        rcases li_set hli with e | hli
        · omega
        · exact behind i ((X.names j i o oi d hj hoi hd (by omega) (mem_opNames_dst hdi)).1 (by omega)) hli
      rw [tchain hv k hjk hk hno]
      obtain ⟨e1, _⟩ := hv j hjn o hj
      rw [e1, hd, ATm.get_put]
      have hnj := (tn hv j (by omega)).1
      by_cases hlt : d < a.tmps.size
      · rw [if_pos ⟨rfl, by rw [hnj, ← I.sz]; exact hlt⟩, if_pos ⟨rfl, hlt⟩]
        exact ⟨hval, hvw.mono (X.mono k (j + 1) hjk hk)⟩
      · rw [if_neg (by rw [hnj, ← I.sz]; exact fun h => hlt h.2), if_neg (fun h => hlt h.2)]
        refine (fun hh => ⟨hh.1.mono hl, hh.2.mono (X.mono k j (by omega) hk)⟩ : (VRel ρ _ _ ∧ WFv _ _) → VRel ρ' _ _ ∧ WFv _ _) (I.tm d j (by omega) (fun i hi hwi => ?_) (fun i hi1 hi2 hwi => ?_))
        · obtain ⟨oi, hoi, hdi⟩ := hwi
          exact ahead i ((X.names i j oi o d hoi hj hdi (by omega) (mem_opNames_dst hd)).1 hi)
        · obtain ⟨oi, hoi, hdi⟩ := hwi
          rcases Nat.lt_or_ge j i with h | h
          · exact behind i ((X.names j i o oi d hj hoi hd (by omega) (mem_opNames_dst hdi)).1 h)
          · rw [Nat.le_antisymm h hi1]; exact hjS
    · rw [if_neg (fun h => hd h.1)]
      have hnw : ¬ Wr ops j d := by
        rintro ⟨o', ho', hd'⟩
        rw [hj] at ho'
        cases ho'
        exact hd hd'
      refine (fun hh => ⟨hh.1.mono hl, hh.2⟩ : (VRel ρ _ _ ∧ WFv _ _) → VRel ρ' _ _ ∧ WFv _ _) (I.tm d k hk (fun i hi hwi => ?_) (fun i hi1 hi2 hwi hli => h2 i hi1 hi2 hwi (li_set_of hli)))
      rcases li_set (h1 i hi hwi) with e | h
      · rw [e] at hwi; exact absurd hwi hnw
      · exact h
  · have := I.ds.mono hl
    cases hd : o.dst with
    | none => exact this
    | some e => exact this
  · by_cases ht : Tch sts j v
    · rw [hb2 v ht]
      have hjk : j < k := by
        rcases Nat.lt_or_ge j k with h | h
        · exact h
        · exact absurd (li_set_same (by rw [hS]; exact hjn)) (hcut.2 j h hjn ht)
      refine (X.chain k hjk fun i hi1 hi2 hti => ?_).symm
      rcases li_set (hcut.1 i hi2 hti) with e | hli
      · omega
      · exact behind i (X.tord (by omega) (by omega) ht hti) hli
    · rw [hb1 v ht]
      refine I.blk v k hk ⟨fun i hi hti => ?_, fun i hi1 hi2 hti hli => hcut.2 i hi1 hi2 hti (li_set_of hli)⟩
      rcases li_set (hcut.1 i hi hti) with e | h
      · rw [e] at hti; exact absurd hti ht
      · exact h
  · have noLater : Tch sts j v ∨ (¬ Tch sts j v ∧ ∀ i, j < i → i < ops.size → Tch sts i v → ¬ li S i) → j < k → ∀ i, j + 1 ≤ i → i < k → ¬ Tch sts i v := by
      intro h hjk i hi1 hi2 hti
      rcases li_set (hcut.1 i hi2 hti) with e | hli
      · omega
      · rcases h with h | ⟨_, h⟩
        · exact behind i (X.tord (by omega) (by omega) h hti) hli
        · exact h i (by omega) (by omega) hti hli
    by_cases ht : Tch sts j v
    · have hjk : j < k := by
        rcases Nat.lt_or_ge j k with h | h
        · exact h
        · exact absurd (li_set_same (by rw [hS]; exact hjn)) (hcut.2 j h hjn ht)
      rw [X.chain k hjk (noLater (.inl ht) hjk)] at hB
      exact (hwf v B ht hne hB).mono (X.mono k (j + 1) hjk hk)
    · cases hp : ρ' v with
      | none => exact absurd hp hne
      | some p =>
        rcases hborn v p hp with h | ⟨g1, g2, g3⟩
        · refine I.wf v k B hk ⟨fun i hi hti => ?_, fun i hi1 hi2 hti hli => hcut.2 i hi1 hi2 hti (li_set_of hli)⟩ (by rw [h]; simp) hB
          rcases li_set (hcut.1 i hi hti) with e | h
          · rw [e] at hti; exact absurd hti ht
          · exact h
        · exfalso
          have hnone : (sts (j + 1)).h.blk v = none := by
            have h0 := X.fresh j (by omega) v g1
            unfold Tch at ht
            rw [Classical.not_not] at ht
            rw [ht, h0]
          rcases Nat.lt_or_ge j k with hjk | hjk
          · rw [X.chain k hjk (noLater (.inr ⟨ht, g3 ht⟩) hjk), hnone] at hB; cases hB
          · rw [X.fresh k hk v (Nat.le_trans (X.mono j k hjk (by omega)) g1)] at hB; cases hB
  · rcases hborn v p hp with h | ⟨g1, g2, _⟩
    · exact li_set_of (I.born v p h i hi h1 h2)
    · have : i = j := by
        rcases Nat.lt_trichotomy i j with h | h | h
        · have := X.mono j (i + 1) (by omega) (by omega); omega
        · exact h
        · have := X.mono i (j + 1) (by omega) (by omega); omega
      rw [this]
      exact li_set_same (by rw [hS]; exact hjn)

/-- An operation that changes nothing, or lays a new block alone. -/
def LightP (P : Program) (ops : Array Oper) (o : Oper) (st st' : St) (v : Value) (c : Cls) : Prop :=
  (c = .p → st'.h = st.h ∧ ∀ {ρ : Rho} {a : Act} {w : World} (r : Option Nat) {K : Act → World → Prop} {Q : Exit → Act → World → Prop}, Region.wanted o (yielded ops a.tmps) = awanted ops st.t o →
    (∀ x ∈ o.op.operands, opdOk st.h.ng x = true → VRel ρ (evo st.t x) (a.eval x)) → (∀ v', VRel ρ v v' → K (a.put o.dst v') w) → opIn r P ops o K Q a w) ∧
  (∀ u, c = .l u → st'.h = st.h ∧ ∀ {ρ : Rho} {a : Act} {w : World} (r : Option Nat) {K : Act → World → Prop} {Q : Exit → Act → World → Prop}, Region.wanted o (yielded ops a.tmps) = awanted ops st.t o →
    (∀ x ∈ o.op.operands, opdOk st.h.ng x = true → VRel ρ (evo st.t x) (a.eval x)) → (∀ p B, ρ u = some p → st.h.blk u = some B → BRel ρ p B w) → (∀ v', VRel ρ v v' → K (a.put o.dst v') w) → opIn r P ops o K Q a w) ∧
  (∀ u, c = .a u → u = st.h.next ∧ ∃ B, st'.h = st.h.alloc B ∧ ∀ {ρ : Rho} {a : Act} {w : World} (r : Option Nat) {K : Act → World → Prop} {Q : Exit → Act → World → Prop}, Region.wanted o (yielded ops a.tmps) = awanted ops st.t o →
    (∀ x ∈ o.op.operands, opdOk st.h.ng x = true → VRel ρ (evo st.t x) (a.eval x)) →
    (∀ v' w' ob p, w'.heap = w.heap.push ob → w'.os = w.os → w'.tape = w.tape → w'.output = w.output → p.block = w.heap.size → (∀ ρ', ρ.le ρ' → ρ' u = some p → BRel ρ' p B w' ∧ VRel ρ' v v') → K (a.put o.dst v') w') → opIn r P ops o K Q a w)

theorem stepOp_light (F : Fine P) {o : Oper} {st st' : St} {c : Cls} (hs : stepOp P R ops o st = some (st', c)) (hc : c = .p ∨ (∃ u, c = .l u) ∨ ∃ u, c = .a u) :
    ∃ v, (st'.t = st.t.put o.dst v ∧ st'.ds = st.ds) ∧ LightP P ops o st st' v c := by
  unfold stepOp at hs
  cases hw : awanted ops st.t o with
  | false =>
    rw [hw] at hs
    cases hs
    refine ⟨undef, ⟨rfl, rfl⟩, ⟨fun _ => ⟨rfl, fun {ρ a w} r {K Q} hwant hr hK => ?_⟩, nofun, nofun⟩⟩
    unfold opIn
    rw [hwant, hw, if_neg (by simp)]
    exact ⟨fun _ _ => trivial, hK _ .undef⟩
  | true =>
    rw [hw] at hs
    cases ho : o.op.operands.toList.all (opdOk st.h.ng) with
    | false => rw [ho] at hs; cases hs
    | true =>
      rw [ho] at hs
      simp only [cond_true] at hs
      have hok : ∀ x ∈ o.op.operands, opdOk st.h.ng x = true := fun x hx => List.all_eq_true.1 ho x (by simpa using hx)
      split at hs
      · split at hs
        case h_2 => cases hs
        simp only [Option.some.injEq, Prod.mk.injEq] at hs
        obtain ⟨_, hs2⟩ := hs
        exfalso
        cases hb : Nat.ble st.h.next (AHeap.lo _) with
        | true => rw [hb] at hs2; rw [← hs2] at hc; simp at hc
        | false => rw [hb] at hs2; rw [← hs2] at hc; simp at hc
      · rename_i hop
        split at hs
        case h_2 => cases hs
        rename_i v h' hstep
        simp only [Option.some.injEq, Prod.mk.injEq] at hs
        obtain ⟨_, hs2⟩ := hs
        exfalso
        rcases (append_touch hop hstep).1 with k | ⟨w, k⟩ <;> rw [k] at hs2 <;> cases hb : Nat.ble st.h.next h'.lo <;> rw [hb] at hs2 <;> rw [← hs2] at hc <;> simp at hc
      · split at hs
        case h_2 => cases hs
        rename_i v h' hstep
        simp only [Option.some.injEq, Prod.mk.injEq] at hs
        obtain ⟨hs1, hs2⟩ := hs
        subst hs1
        obtain ⟨fr, k⟩ := ostep_kind hstep
        have hdef := ostep_defer hstep
        refine ⟨v, ⟨rfl, rfl⟩, ?_⟩
        rcases clsAdj hs2 with ⟨hcl, h2⟩ | ⟨hcl, h2⟩
        · rw [hcl] at k
          obtain ⟨nb, hps, hh⟩ := k
          rcases h2 with ⟨hn, rfl⟩ | ⟨hn, rfl⟩
          · refine ⟨fun _ => ?_, nofun, nofun⟩
            cases nb with
            | some B => subst hh; exact absurd hn (by simp [putNew])
            | none =>
              subst hh
              refine ⟨rfl, fun {ρ a w} r {K Q} hwant hr hK => ?_⟩
              obtain ⟨v', g1, g2⟩ := pstep_sound F (fun x hx => hr x hx (hok x hx)) hps w
              unfold opIn
              rw [hwant, hw, if_pos rfl]
              refine ⟨fun _ _ => trivial, ?_⟩
              rw [semAt_call hdef, g1]
              exact hK v' g2
          · refine ⟨nofun, nofun, fun u hu => ?_⟩
            cases hu
            cases nb with
            | none => subst hh; exact absurd rfl hn
            | some B =>
              subst hh
              refine ⟨rfl, B, rfl, fun {ρ a w} r {K Q} hwant hr hK => ?_⟩
              obtain ⟨v', w', ob, p, g1, g2, g3, g4, g5, g6, g7⟩ := pstep_sound F (fun x hx => hr x hx (hok x hx)) hps w
              unfold opIn
              rw [hwant, hw, if_pos rfl]
              refine ⟨fun _ _ => trivial, ?_⟩
              rw [semAt_call hdef, g1]
              exact hK v' w' ob p g2 g3 g4 g5 g6 g7
        · subst h2
          cases hcl' : clsOf o (evo st.t) with
          | p => exact absurd hcl' hcl
          | a u => rw [hcl'] at k; exact k.elim
          | s u => rw [hcl'] at hc; simp at hc
          | w u => rw [hcl'] at k; exact k.elim
          | g => rw [hcl'] at hc; simp at hc
          | x => rw [hcl'] at hc; simp at hc
          | l u =>
            rw [hcl'] at k
            obtain ⟨rfl, k⟩ := k
            refine ⟨nofun, fun u' hu => ?_, nofun⟩
            cases hu
            refine ⟨rfl, fun {ρ a w} r {K Q} hwant hr0 hb hK => ?_⟩
            have hr := fun x hx => hr0 x hx (hok x hx)
            unfold opIn
            rw [hwant, hw, if_pos rfl]
            refine ⟨fun _ _ => trivial, ?_⟩
            rw [semAt_call hdef]
            obtain ⟨dst, op, ty, pos, after, guard⟩ := o
            rcases k with ⟨t, x, e1, e2, e3⟩ | ⟨t, x, i, ok, e1, e2, e3⟩
            · simp only at e1
              subst e1
              obtain ⟨v', g1, g2⟩ := aload_ok e3 (hr x (by simp [Op.operands])) fun v p B hv h1 h2 => by
                rw [e2] at hv; cases hv; exact hb p B h1 h2
              rw [show (execOp a.eval ⟨dst, .load t x, ty, pos, after, guard⟩).run P w = .ok (.value v') w from val_ok g1]
              exact hK v' g2
            · simp only at e1
              subst e1
              obtain ⟨v', g1, g2⟩ := alookup_ok F e3 (hr x (by simp [Op.operands])) (hr i (by simp [Op.operands])) fun v p B hv h1 h2 => by
                rw [e2] at hv; cases hv; exact hb p B h1 h2
              rw [show (execOp a.eval ⟨dst, .lookup t x i ok, ty, pos, after, guard⟩).run P w = .ok (.value v') w from val_ok g1]
              exact hK v' g2

end
end Go.VE
