import Derived.Test.YthjinaagdfnmhaaGreatDoorVa
namespace Go.VE
open Go
set_option linter.unusedVariables false
set_option linter.unusedSimpArgs false

/-! ### The virtual heap -/

/-- A map from numbers, for the kernel to look up in. -/
inductive Trie (α : Type) where
  | leaf
  | node (l : Trie α) (v : Option α) (r : Trie α)

namespace Trie
variable {α : Type}

def get : Trie α → Nat → Option α
  | .leaf, _ => none
  | .node l v r, n => cond (Nat.beq n 0) v (cond (Nat.beq (Nat.mod n 2) 1) (get l (Nat.div n 2)) (get r (Nat.pred (Nat.div n 2))))

def set : Nat → Trie α → Nat → Option α → Trie α
  | 0, t, _, _ => t
  | f + 1, .leaf, n, x => cond (Nat.beq n 0) (.node .leaf x .leaf)
      (cond (Nat.beq (Nat.mod n 2) 1) (.node (set f .leaf (Nat.div n 2) x) none .leaf) (.node .leaf none (set f .leaf (Nat.pred (Nat.div n 2)) x)))
  | f + 1, .node l v r, n, x => cond (Nat.beq n 0) (.node l x r)
      (cond (Nat.beq (Nat.mod n 2) 1) (.node (set f l (Nat.div n 2) x) v r) (.node l v (set f r (Nat.pred (Nat.div n 2)) x)))

def put (t : Trie α) (n : Nat) (x : Option α) : Trie α := set (n + 1) t n x

theorem div_lt {n f : Nat} (h : n < f + 1) (h0 : n ≠ 0) : Nat.div n 2 < f ∧ Nat.pred (Nat.div n 2) < f := by
  have : Nat.div n 2 = n / 2 := rfl
  rw [this, Nat.pred_eq_sub_one]
  omega
theorem odd_of {n : Nat} (h : Nat.beq (Nat.mod n 2) 1 = true) : n % 2 = 1 := Nat.eq_of_beq_eq_true h
theorem even_of {n : Nat} (h : Nat.beq (Nat.mod n 2) 1 = false) : n % 2 = 0 := by
  have := Nat.ne_of_beq_eq_false h
  have h2 : ¬ n % 2 = 1 := this
  omega

theorem get_set : ∀ (f : Nat) (t : Trie α) (n m : Nat) (x : Option α), n < f → (set f t n x).get m = if m = n then x else t.get m := by
  intro f
  induction f with
  | zero => intro t n m x h; omega
  | succ f ih =>
    intro t n m x h
    have key : ∀ (l : Trie α) (v : Option α) (r : Trie α), (cond (Nat.beq n 0) (.node l x r)
      (cond (Nat.beq (Nat.mod n 2) 1) (.node (set f l (Nat.div n 2) x) v r) (.node l v (set f r (Nat.pred (Nat.div n 2)) x))) : Trie α).get m = if m = n then x else (Trie.node l v r).get m := by
      intro l v r
      cases h0 : Nat.beq n 0 with
      | true =>
        have := Nat.eq_of_beq_eq_true h0
        subst this
        simp only [cond_true, get]
        cases hm : Nat.beq m 0 with
        | true => have := Nat.eq_of_beq_eq_true hm; simp [this]
        | false => have := Nat.ne_of_beq_eq_false hm; simp [this]
      | false =>
        have hn0 := Nat.ne_of_beq_eq_false h0
        obtain ⟨d1, d2⟩ := div_lt h hn0
        have e2 : Nat.div n 2 = n / 2 := rfl
        have e3 : Nat.div m 2 = m / 2 := rfl
        cases ho : Nat.beq (Nat.mod n 2) 1 with
        | true =>
          have ho' := odd_of ho
          simp only [cond_false, cond_true, get]
          cases hm : Nat.beq m 0 with
          | true => have := Nat.eq_of_beq_eq_true hm; subst this; simp [Ne.symm hn0]
          | false =>
            have hm0 := Nat.ne_of_beq_eq_false hm
            cases hmo : Nat.beq (Nat.mod m 2) 1 with
            | true =>
              have hmo' := odd_of hmo
              simp only [cond_false, cond_true]
              rw [ih _ _ _ _ d1]
              by_cases hmn : m = n
              · subst hmn; simp
              · rw [if_neg hmn, if_neg (by rw [e2, e3]; omega)]
            | false =>
              have hmo' := even_of hmo
              simp only [cond_false]
              rw [if_neg (by omega)]
        | false =>
          have ho' := even_of ho
          simp only [cond_false, get]
          cases hm : Nat.beq m 0 with
          | true => have := Nat.eq_of_beq_eq_true hm; subst this; simp [Ne.symm hn0]
          | false =>
            have hm0 := Nat.ne_of_beq_eq_false hm
            cases hmo : Nat.beq (Nat.mod m 2) 1 with
            | true =>
              have hmo' := odd_of hmo
              simp only [cond_false, cond_true]
              rw [if_neg (by omega)]
            | false =>
              have hmo' := even_of hmo
              simp only [cond_false]
              rw [ih _ _ _ _ d2]
              by_cases hmn : m = n
              · subst hmn; simp
              · rw [if_neg hmn, if_neg (by rw [e2, e3, Nat.pred_eq_sub_one, Nat.pred_eq_sub_one]; omega)]
    cases t with
    | leaf =>
      have := key .leaf none .leaf
      have e : (Trie.node .leaf none .leaf : Trie α).get m = none := by
        simp only [get]
        cases Nat.beq m 0 <;> cases Nat.beq (Nat.mod m 2) 1 <;> rfl
      rw [e] at this
      exact this
    | node l v r => exact key l v r

theorem get_put (t : Trie α) (n m : Nat) (x : Option α) : (t.put n x).get m = if m = n then x else t.get m := get_set _ _ _ _ _ (Nat.lt_succ_self n)

theorem set_set : ∀ (f : Nat) (t : Trie α) (n : Nat) (x y : Option α), n < f → set f (set f t n x) n y = set f t n y := by
  intro f
  induction f with
  | zero => intro t n x y h; omega
  | succ f ih =>
    intro t n x y h
    cases h0 : Nat.beq n 0 with
    | true => cases t <;> simp [set, h0]
    | false =>
      obtain ⟨d1, d2⟩ := div_lt h (Nat.ne_of_beq_eq_false h0)
      cases ho : Nat.beq (Nat.mod n 2) 1 with
      | true => cases t <;> simp only [set, h0, ho, cond_false, cond_true, ih _ _ _ _ d1]
      | false => cases t <;> simp only [set, h0, ho, cond_false, ih _ _ _ _ d2]

theorem put_put (t : Trie α) (n : Nat) (x y : Option α) : (t.put n x).put n y = t.put n y := set_set _ _ _ _ _ (Nat.lt_succ_self n)
end Trie

/-- The temporaries of an activation. -/
structure ATm where
  tr : Trie Value
  n : Nat

def ATm.get (t : ATm) (i : Nat) : Value := match t.tr.get i with | some v => v | none => undef
def ATm.put (t : ATm) (dst : Option Nat) (v : Value) : ATm :=
  match dst with
  | some d => cond (Nat.ble (Nat.succ d) t.n) ⟨t.tr.put d (some v), t.n⟩ t
  | none => t

/-- The record of a range over a function. -/
structure ALoop where
  state : LoopState
  pending : Option Code
  tmps : ATm
  params : Array Tmp
  assign : Code
  body : Code
  defers : Nat

inductive Blk where
  | cells (wr grow : Bool) (cs : List Value)
  | map (kv : List (Value × Value))
  | iter (s : ByteArray) (pos : Nat)
  | defs
  | loop (r : ALoop)

def Blk.wr : Blk → Bool
  | .cells wr _ _ => wr
  | _ => true

/-- The heap: its blocks, the number of the next, how many of the first are the program's globals; and the least number that was written (a ghost). -/
structure AHeap where
  tree : Trie Blk
  next : Nat
  ng : Nat := 0
  lo : Nat := 0

def AHeap.blk (h : AHeap) (v : Nat) : Option Blk := h.tree.get v
def AHeap.alloc (h : AHeap) (b : Blk) : AHeap := ⟨h.tree.put h.next (some b), h.next + 1, h.ng, h.lo⟩
def AHeap.put (h : AHeap) (v : Nat) (b : Option Blk) : AHeap := ⟨h.tree.put v b, h.next, h.ng, cond (Nat.ble h.lo v) h.lo v⟩
@[simp] theorem AHeap.ng_alloc (h : AHeap) (b : Blk) : (h.alloc b).ng = h.ng := rfl
@[simp] theorem AHeap.ng_put (h : AHeap) (v : Nat) (b : Option Blk) : (h.put v b).ng = h.ng := rfl

@[simp] theorem AHeap.next_alloc (h : AHeap) (b : Blk) : (h.alloc b).next = h.next + 1 := rfl
@[simp] theorem AHeap.next_put (h : AHeap) (v : Nat) (b : Option Blk) : (h.put v b).next = h.next := rfl
theorem AHeap.blk_alloc (h : AHeap) (b : Blk) (v : Nat) : (h.alloc b).blk v = if v = h.next then some b else h.blk v := Trie.get_put ..
theorem AHeap.blk_put (h : AHeap) (v u : Nat) (b : Option Blk) : (h.put v b).blk u = if u = v then b else h.blk u := Trie.get_put ..
theorem AHeap.put_put (h : AHeap) (v : Nat) (b b' : Option Blk) : (h.put v b).put v b' = h.put v b' := by
  unfold AHeap.put
  simp only [Trie.put_put, AHeap.mk.injEq, true_and]
  cases hb : Nat.ble h.lo v
  · simp
  · simp [hb]

def LRel (ρ : Rho) (cs : List Value) (c : Array Value) (base : Nat) : Prop :=
  ∀ (i : Nat) (x : Value), cs[i]? = some x → ∃ x', c[base + i]? = some x' ∧ VRel ρ x x'

def TRel (ρ : Rho) (t : ATm) (a : Array Value) : Prop := a.size = t.n ∧ ∀ i, VRel ρ (t.get i) (a.getD i undef)

theorem TRel.mono {ρ ρ' : Rho} (hl : ρ.le ρ') {t : ATm} {a : Array Value} (h : TRel ρ t a) : TRel ρ' t a := ⟨h.1, fun i => (h.2 i).mono hl⟩
theorem ATm.get_put (t : ATm) (d i : Nat) (v : Value) : (t.put (some d) v).get i = if i = d ∧ d < t.n then v else t.get i := by
  unfold ATm.put
  simp only []
  cases hb : Nat.ble (Nat.succ d) t.n with
  | true =>
    have : d < t.n := Nat.le_of_ble_eq_true hb
    simp only [cond_true, ATm.get, Trie.get_put]
    by_cases hi : i = d <;> simp [hi, this]
  | false =>
    have : ¬ d < t.n := fun hlt => by rw [Nat.ble_eq_true_of_le (Nat.succ_le_of_lt hlt)] at hb; cases hb
    simp [this]
theorem ATm.n_put (t : ATm) (d : Option Nat) (v : Value) : (t.put d v).n = t.n := by
  unfold ATm.put
  cases d with
  | none => rfl
  | some d =>
    show (cond (Nat.ble (Nat.succ d) t.n) (⟨t.tr.put d (some v), t.n⟩ : ATm) t).n = t.n
    cases Nat.ble (Nat.succ d) t.n <;> rfl
theorem TRel.put {ρ : Rho} {t : ATm} {a : Array Value} {v v' : Value} (h : TRel ρ t a) (r : VRel ρ v v') (d : Nat) : TRel ρ (t.put (some d) v) (a.setIfInBounds d v') := by
  refine ⟨by rw [ATm.n_put]; simpa using h.1, fun i => ?_⟩
  rw [ATm.get_put]
  have e : (a.setIfInBounds d v').getD i undef = if i = d ∧ d < t.n then v' else a.getD i undef := by
    rw [← h.1]
    simp only [Array.getD_eq_getD_getElem?, Array.getElem?_setIfInBounds]
    by_cases hi : i = d
    · subst hi
      by_cases hlt : i < a.size
      · simp [hlt]
      · simp [hlt]
    · simp [hi, Ne.symm hi]
  rw [e]
  split
  · exact r
  · exact h.2 i

def LoopRel (ρ : Rho) (r : ALoop) (r' : Loop) : Prop :=
  r'.state = r.state ∧ r'.pending = r.pending ∧ r'.params = r.params ∧ r'.assign = r.assign ∧ r'.body = r.body ∧ TRel ρ r.tmps r'.tmps ∧
    ∃ p, ρ r.defers = some p ∧ r'.defers = p.block

def BRel (ρ : Rho) (p : Place) (B : Blk) (w : World) : Prop :=
  match B with
  | .cells wr gr cs => p.size = cs.length ∧ (gr = false → p.extra = 0) ∧ ∃ (c : Array Value) (e : TypeId) (fr : Nat × Nat),
      w.heap[p.block]? = some (.cells c e fr) ∧ p.top ≤ c.size ∧ (wr = true → fr = (0, 0)) ∧ LRel ρ cs c p.base
  | .map kv => p.base = 0 ∧ p.size = 1 ∧ ∃ (es : Array MapEntry) (clock : Nat), w.heap[p.block]? = some (.map es clock) ∧ es.size = kv.length ∧
      ∀ (i : Nat) (k x : Value), kv[i]? = some (k, x) → ∃ e, es[i]? = some e ∧ VRel ρ k e.key ∧ VRel ρ x e.val
  | .iter s pos => p.base = 0 ∧ p.size = 1 ∧ w.heap[p.block]? = some (.stringIter s pos)
  | .defs => p.base = 0 ∧ p.size = 1 ∧ w.heap[p.block]? = some (.deferred (some []))
  | .loop r => p.base = 0 ∧ p.size = 1 ∧ ∃ r' : Loop, w.heap[p.block]? = some (.loop r') ∧ LoopRel ρ r r'

theorem LRel.mono {ρ ρ' : Rho} (hl : ρ.le ρ') {cs : List Value} {c : Array Value} {b : Nat} (h : LRel ρ cs c b) : LRel ρ' cs c b :=
  fun i x hx => let ⟨x', h1, h2⟩ := h i x hx; ⟨x', h1, h2.mono hl⟩
theorem LoopRel.mono {ρ ρ' : Rho} (hl : ρ.le ρ') {r : ALoop} {r' : Loop} (h : LoopRel ρ r r') : LoopRel ρ' r r' :=
  let ⟨h1, h2, h3, h4, h5, h6, p, h7, h8⟩ := h; ⟨h1, h2, h3, h4, h5, h6.mono hl, p, hl _ _ h7, h8⟩

theorem BRel.frame {ρ ρ' : Rho} (hl : ρ.le ρ') {p : Place} {B : Blk} {w w' : World} (he : w'.heap[p.block]? = w.heap[p.block]?) (h : BRel ρ p B w) : BRel ρ' p B w' := by
  cases B with
  | cells wr gr cs =>
    obtain ⟨h1, h2, c, e, fr, h3, h4, h5, h6⟩ := h
    exact ⟨h1, h2, c, e, fr, he.trans h3, h4, h5, h6.mono hl⟩
  | map kv =>
    obtain ⟨h1, h2, es, cl, h3, h4, h5⟩ := h
    refine ⟨h1, h2, es, cl, he.trans h3, h4, fun i k x hx => ?_⟩
    obtain ⟨e, h6, h7, h8⟩ := h5 i k x hx
    exact ⟨e, h6, h7.mono hl, h8.mono hl⟩
  | iter s pos => exact ⟨h.1, h.2.1, he.trans h.2.2⟩
  | defs => exact ⟨h.1, h.2.1, he.trans h.2.2⟩
  | loop r =>
    obtain ⟨h1, h2, r', h3, h4⟩ := h
    exact ⟨h1, h2, r', he.trans h3, h4.mono hl⟩

theorem BRel.lt {ρ : Rho} {p : Place} {B : Blk} {w : World} (h : BRel ρ p B w) : p.block < w.heap.size := by
  have key : ∀ {o : Obj}, w.heap[p.block]? = some o → p.block < w.heap.size := fun h => (Array.getElem?_eq_some_iff.1 h).1
  cases B with
  | cells wr gr cs => obtain ⟨h1, h2, c, e, fr, h3, h4⟩ := h; exact key h3
  | map kv => obtain ⟨h1, h2, es, cl, h3, h4⟩ := h; exact key h3
  | iter s pos => exact key h.2.2
  | defs => exact key h.2.2
  | loop r => obtain ⟨h1, h2, r', h3, h4⟩ := h; exact key h3

/-- The real world w is the virtual heap h, blocks lying where ρ says. Blocks that ρ does not place are not spoken of. -/
structure Holds (ρ : Rho) (h : AHeap) (w : World) : Prop where
  dom : ∀ v p, ρ v = some p → v < h.next
  fresh : ∀ v, h.next ≤ v → h.blk v = none
  rel : ∀ v p B, ρ v = some p → h.blk v = some B → BRel ρ p B w
  apart : ∀ v₁ v₂ p₁ p₂ B₁ B₂, v₁ ≠ v₂ → ρ v₁ = some p₁ → ρ v₂ = some p₂ → h.blk v₁ = some B₁ → h.blk v₂ = some B₂ → p₁.block ≠ p₂.block
  glob : ∀ g, g < h.ng → ∃ p, ρ g = some p ∧ p.block = g ∧ p.base = 0

/-- What a step leaves as it was, and where new blocks lie. -/
structure Ext (ρ : Rho) (h : AHeap) (w : World) (ρ' : Rho) (h' : AHeap) (w' : World) : Prop where
  ng : h'.ng = h.ng
  next : h.next ≤ h'.next
  same : ∀ v, v < h.next → ρ' v = ρ v
  old : ∀ v B', v < h.next → h'.blk v = some B' → ∃ B, h.blk v = some B ∧ (B'.wr = true → B.wr = true)
  new : ∀ v p B', h.next ≤ v → ρ' v = some p → h'.blk v = some B' → w.heap.size ≤ p.block ∨
    ∃ v₀ p₀ B₀, ρ v₀ = some p₀ ∧ h.blk v₀ = some B₀ ∧ B₀.wr = true ∧ h'.blk v₀ = none ∧ p₀.block = p.block ∧ p₀.base ≤ p.base ∧ p.top ≤ p₀.top
  os : w'.os = w.os
  tape : w'.tape = w.tape
  output : w'.output = w.output
  size : w.heap.size ≤ w'.heap.size
  keep : ∀ b, b < w.heap.size → (∀ v p B, ρ v = some p → h.blk v = some B → B.wr = true → p.block ≠ b) → w'.heap[b]? = w.heap[b]?

theorem Ext.refl (ρ : Rho) (h : AHeap) (w : World) (hf : ∀ v, h.next ≤ v → h.blk v = none) : Ext ρ h w ρ h w :=
  ⟨rfl, Nat.le_refl _, fun _ _ => rfl, fun v B _ hb => ⟨B, hb, id⟩, (fun v p B hv _ hb => by rw [hf v hv] at hb; cases hb), rfl, rfl, rfl, Nat.le_refl _, fun _ _ _ => rfl⟩

theorem Ext.le {ρ : Rho} {h : AHeap} {w : World} {ρ' : Rho} {h' : AHeap} {w' : World} (e : Ext ρ h w ρ' h' w') (H : Holds ρ h w) : ρ.le ρ' :=
  fun v p hv => by rw [e.same v (H.dom v p hv)]; exact hv

theorem Ext.trans {ρ₀ ρ₁ ρ₂ : Rho} {h₀ h₁ h₂ : AHeap} {w₀ w₁ w₂ : World} (H₀ : Holds ρ₀ h₀ w₀) (H₁ : Holds ρ₁ h₁ w₁) (a : Ext ρ₀ h₀ w₀ ρ₁ h₁ w₁) (b : Ext ρ₁ h₁ w₁ ρ₂ h₂ w₂) :
    Ext ρ₀ h₀ w₀ ρ₂ h₂ w₂ := by
  have dead : ∀ v, v < h₁.next → h₁.blk v = none → h₂.blk v = none := fun v hv hn => by
    cases hb : h₂.blk v with
    | none => rfl
    | some B => obtain ⟨B', hB', _⟩ := b.old v B hv hb; rw [hn] at hB'; cases hB'
  have img : ∀ c, c < w₀.heap.size → (∀ v p B, ρ₀ v = some p → h₀.blk v = some B → B.wr = true → p.block ≠ c) →
      ∀ v p B, ρ₁ v = some p → h₁.blk v = some B → B.wr = true → p.block ≠ c := by
    intro c hc hno v p B hv hb hw
    rcases Nat.lt_or_ge v h₀.next with hlt | hge
    · obtain ⟨B', hB', hw'⟩ := a.old v B hlt hb
      exact hno v p B' (by rw [← a.same v hlt]; exact hv) hB' (hw' hw)
    · rcases a.new v p B hge hv hb with hfr | ⟨v', p', B', h1, h2, h3, _, h5, _⟩
      · omega
      · rw [← h5]; exact hno v' p' B' h1 h2 h3
  refine ⟨b.ng.trans a.ng, Nat.le_trans a.next b.next, fun v hv => (b.same v (Nat.lt_of_lt_of_le hv a.next)).trans (a.same v hv), fun v B hv hb => ?_, fun v p B hv hp hb => ?_,
    b.os.trans a.os, b.tape.trans a.tape, b.output.trans a.output, Nat.le_trans a.size b.size, fun c hc hno => ?_⟩
  · obtain ⟨B', h1, h2⟩ := b.old v B (Nat.lt_of_lt_of_le hv a.next) hb
    obtain ⟨B'', h3, h4⟩ := a.old v B' hv h1
    exact ⟨B'', h3, fun x => h4 (h2 x)⟩
  · rcases Nat.lt_or_ge v h₁.next with hlt | hge
    · obtain ⟨B', hB', _⟩ := b.old v B hlt hb
      have hp1 : ρ₁ v = some p := by rw [← b.same v hlt]; exact hp
      rcases a.new v p B' hv hp1 hB' with hfr | ⟨v', p', B0, h1, h2, h3, h4, h5, h6, h7⟩
      · exact .inl hfr
      · exact .inr ⟨v', p', B0, h1, h2, h3, dead v' (Nat.lt_of_lt_of_le (H₀.dom _ _ h1) a.next) h4, h5, h6, h7⟩
    · rcases b.new v p B hge hp hb with hfr | ⟨v', p', B0, h1, h2, h3, h4, h5, h6, h7⟩
      · exact .inl (Nat.le_trans a.size hfr)
      · rcases Nat.lt_or_ge v' h₀.next with hlt' | hge'
        · obtain ⟨B1, g1, g2⟩ := a.old v' B0 hlt' h2
          exact .inr ⟨v', p', B1, by rw [← a.same v' hlt']; exact h1, g1, g2 h3, h4, h5, h6, h7⟩
        · rcases a.new v' p' B0 hge' h1 h2 with hfr | ⟨v3, p3, B3, k1, k2, k3, k4, k5, k6, k7⟩
          · exact .inl (by omega)
          · exact .inr ⟨v3, p3, B3, k1, k2, k3, dead v3 (Nat.lt_of_lt_of_le (H₀.dom _ _ k1) a.next) k4, k5.trans h5, Nat.le_trans k6 h6, Nat.le_trans h7 k7⟩
  · exact (b.keep c (Nat.lt_of_lt_of_le hc a.size) (img c hc hno)).trans (a.keep c hc hno)

/-! ### Steps on the heap -/

def Rho.ins (ρ : Rho) (v : Nat) (p : Place) : Rho := fun u => if u = v then some p else ρ u
theorem Rho.ins_same (ρ : Rho) (v : Nat) (p : Place) : ρ.ins v p v = some p := by simp [Rho.ins]
theorem Rho.ins_ne (ρ : Rho) (v u : Nat) (p : Place) (h : u ≠ v) : ρ.ins v p u = ρ u := by simp [Rho.ins, h]
theorem Holds.le_ins {ρ : Rho} {h : AHeap} {w : World} (H : Holds ρ h w) (p : Place) : ρ.le (ρ.ins h.next p) := fun v q hv => by
  have := H.dom v q hv
  rw [Rho.ins_ne _ _ _ _ (by omega)]; exact hv

theorem heap_alloc_lt (w : World) (o : Obj) (k : Nat) (h : k < w.heap.size) : (w.alloc o).heap[k]? = w.heap[k]? := by
  show (w.heap.push o)[k]? = _
  rw [Array.getElem?_push, if_neg (by omega)]
theorem heap_alloc_new (w : World) (o : Obj) : (w.alloc o).heap[w.heap.size]? = some o := by
  show (w.heap.push o)[w.heap.size]? = _
  simp
theorem heap_alloc_size (w : World) (o : Obj) : (w.alloc o).heap.size = w.heap.size + 1 := by simp

theorem Holds.alloc {ρ : Rho} {h : AHeap} {w : World} (H : Holds ρ h w) (o : Obj) (B : Blk) (p : Place) (hp : p.block = w.heap.size)
    (hB : BRel (ρ.ins h.next p) p B (w.alloc o)) :
    Holds (ρ.ins h.next p) (h.alloc B) (w.alloc o) ∧ Ext ρ h w (ρ.ins h.next p) (h.alloc B) (w.alloc o) := by
  have hle := H.le_ins p
  have cases_ : ∀ v q C, ρ.ins h.next p v = some q → (h.alloc B).blk v = some C → (v = h.next ∧ q = p ∧ C = B) ∨ (v < h.next ∧ ρ v = some q ∧ h.blk v = some C) := by
    intro v q C h1 h2
    by_cases hv : v = h.next
    · subst hv
      rw [Rho.ins_same] at h1
      simp [AHeap.blk_alloc] at h2
      cases h1
      exact .inl ⟨rfl, rfl, h2.symm⟩
    · rw [Rho.ins_ne _ _ _ _ hv] at h1
      rw [AHeap.blk_alloc, if_neg hv] at h2
      exact .inr ⟨H.dom v q h1, h1, h2⟩
  refine ⟨⟨fun v q hv => ?_, fun v hv => ?_, fun v q C h1 h2 => ?_, fun v₁ v₂ p₁ p₂ B₁ B₂ hne h1 h2 h3 h4 => ?_, fun g hg => let ⟨q, h1, h2⟩ := H.glob g hg; ⟨q, hle _ _ h1, h2⟩⟩, ?_⟩
  · by_cases hv' : v = h.next
    · simp; omega
    · rw [Rho.ins_ne _ _ _ _ hv'] at hv
      have := H.dom v q hv
      simp; omega
  · simp at hv
    rw [AHeap.blk_alloc, if_neg (by omega)]
    exact H.fresh v (by omega)
  · rcases cases_ v q C h1 h2 with ⟨_, rfl, rfl⟩ | ⟨hlt, h1', h2'⟩
    · exact hB
    · have hr := H.rel v q C h1' h2'
      exact hr.frame hle (heap_alloc_lt _ _ _ hr.lt)
  · rcases cases_ _ _ _ h1 h3 with ⟨e1, rfl, rfl⟩ | ⟨l1, g1, g2⟩ <;> rcases cases_ _ _ _ h2 h4 with ⟨e2, rfl, rfl⟩ | ⟨l2, k1, k2⟩
    · omega
    · have := (H.rel _ _ _ k1 k2).lt
      omega
    · have := (H.rel _ _ _ g1 g2).lt
      omega
    · exact H.apart _ _ _ _ _ _ hne g1 k1 g2 k2
  · refine ⟨rfl, by simp, fun v hv => Rho.ins_ne _ _ _ _ (by omega), fun v C hv hC => ?_, fun v q C hv hq hC => ?_, rfl, rfl, rfl, by simp, fun b hb _ => heap_alloc_lt _ _ _ hb⟩
    · rw [AHeap.blk_alloc, if_neg (by omega)] at hC
      exact ⟨C, hC, id⟩
    · rcases cases_ _ _ _ hq hC with ⟨_, rfl, _⟩ | ⟨hlt, _, _⟩
      · left; omega
      · omega

/-- The same, the world behind it given by its parts. -/
theorem Holds.alloc' {ρ : Rho} {h : AHeap} {w w' : World} (H : Holds ρ h w) (o : Obj) (B : Blk) (p : Place) (hheap : w'.heap = w.heap.push o)
    (hos : w'.os = w.os) (htape : w'.tape = w.tape) (hout : w'.output = w.output) (hp : p.block = w.heap.size) (hB : BRel (ρ.ins h.next p) p B w') :
    Holds (ρ.ins h.next p) (h.alloc B) w' ∧ Ext ρ h w (ρ.ins h.next p) (h.alloc B) w' := by
  have he : ∀ k : Nat, w'.heap[k]? = (w.alloc o).heap[k]? := fun k => by rw [hheap]; rfl
  obtain ⟨h1, h2⟩ := H.alloc o B p hp (hB.frame (.refl _) (he _).symm)
  refine ⟨⟨h1.dom, h1.fresh, fun v q C a b => (h1.rel v q C a b).frame (.refl _) (he _), h1.apart, h1.glob⟩, ?_⟩
  exact ⟨h2.ng, h2.next, h2.same, h2.old, h2.new, hos, htape, hout, by rw [hheap]; simp, fun b hb hno => (he b).trans (h2.keep b hb hno)⟩

theorem Holds.drew {ρ : Rho} {h : AHeap} {w : World} (H : Holds ρ h w) : Holds ρ h w.drew ∧ Ext ρ h w ρ h w.drew :=
  ⟨⟨H.dom, H.fresh, fun v p B h1 h2 => (H.rel v p B h1 h2).frame (.refl ρ) rfl, H.apart, H.glob⟩,
   ⟨rfl, Nat.le_refl _, fun _ _ => rfl, fun v B _ hb => ⟨B, hb, id⟩, (fun v p B hv _ hb => by rw [H.fresh v hv] at hb; cases hb), rfl, rfl, rfl, Nat.le_refl _, fun _ _ _ => rfl⟩⟩

/-- One block changes. -/
theorem Holds.upd {ρ : Rho} {h : AHeap} {w w' : World} (H : Holds ρ h w) {v : Nat} {p : Place} {B B' : Blk} (hv : ρ v = some p) (hb : h.blk v = some B) (hw : B.wr = true)
    (hos : w'.os = w.os) (htape : w'.tape = w.tape) (hout : w'.output = w.output) (hsz : w'.heap.size = w.heap.size)
    (hother : ∀ b, b ≠ p.block → w'.heap[b]? = w.heap[b]?) (hrel : BRel ρ p B' w') :
    Holds ρ (h.put v (some B')) w' ∧ Ext ρ h w ρ (h.put v (some B')) w' := by
  have hvn := H.dom v p hv
  refine ⟨⟨H.dom, fun u hu => ?_, fun u q C h1 h2 => ?_, fun v₁ v₂ p₁ p₂ B₁ B₂ hne h1 h2 h3 h4 => ?_, H.glob⟩, ?_⟩
  · simp at hu
    rw [AHeap.blk_put, if_neg (by omega)]
    exact H.fresh u hu
  · by_cases huv : u = v
    · subst huv
      rw [AHeap.blk_put, if_pos rfl] at h2
      cases h2
      rw [hv] at h1; cases h1
      exact hrel
    · rw [AHeap.blk_put, if_neg huv] at h2
      exact (H.rel u q C h1 h2).frame (.refl ρ) (hother _ (H.apart u v q p C B huv h1 hv h2 hb))
  · have key : ∀ u C, (h.put v (some B')).blk u = some C → ∃ C', h.blk u = some C' := by
      intro u C hC
      by_cases huv : u = v
      · subst huv; exact ⟨B, hb⟩
      · rw [AHeap.blk_put, if_neg huv] at hC; exact ⟨C, hC⟩
    obtain ⟨C1, g1⟩ := key _ _ h3
    obtain ⟨C2, g2⟩ := key _ _ h4
    exact H.apart _ _ _ _ _ _ hne h1 h2 g1 g2
  · refine ⟨rfl, Nat.le_refl _, fun _ _ => rfl, fun u C hu hC => ?_, fun u q C hu hq hC => ?_, hos, htape, hout, by omega, fun b hb' hno => ?_⟩
    · by_cases huv : u = v
      · subst huv; exact ⟨B, hb, fun _ => hw⟩
      · rw [AHeap.blk_put, if_neg huv] at hC; exact ⟨C, hC, id⟩
    · have := H.dom _ _ hq; omega
    · exact hother b fun e => hno v p B hv hb hw e.symm

theorem heap_setCell_ne (w : World) (a : Addr) (u : Value) (k : Nat) (h : k ≠ a.block) : (w.setCell a u).heap[k]? = w.heap[k]? := by
  simp only [World.setCell, Array.getElem?_modify]
  rw [if_neg (by omega)]
theorem heap_setCell_same (w : World) (b o : Nat) (u : Value) {c : Array Value} {e : TypeId} {fr : Nat × Nat} (h : w.heap[b]? = some (.cells c e fr)) :
    (w.setCell ⟨b, o, none⟩ u).heap[b]? = some (.cells (c.setIfInBounds o u) e fr) := by
  simp [World.setCell, Array.getElem?_modify, h]

theorem Holds.setCell {ρ : Rho} {h : AHeap} {w : World} (H : Holds ρ h w) {v o : Nat} {p : Place} {gr : Bool} {cs : List Value} {x x' : Value} (hv : ρ v = some p)
    (hb : h.blk v = some (.cells true gr cs)) (ho : o < cs.length) (hx : VRel ρ x x') :
    Holds ρ (h.put v (some (.cells true gr (cs.set o x)))) (w.setCell ⟨p.block, p.base + o, none⟩ x') ∧
      Ext ρ h w ρ (h.put v (some (.cells true gr (cs.set o x)))) (w.setCell ⟨p.block, p.base + o, none⟩ x') := by
  have hr := H.rel v p _ hv hb
  obtain ⟨h1, h2, c, e, fr, h3, h4, h5, h6⟩ := hr
  have hfr := h5 rfl
  have hnew := heap_setCell_same w p.block (p.base + o) x' h3
  have htop : p.base + p.size ≤ p.top := by unfold Place.top; omega
  refine H.upd hv hb rfl rfl rfl rfl (by simp) (fun b hbne => heap_setCell_ne _ _ _ _ hbne) ?_
  refine ⟨by simpa using h1, h2, _, e, fr, hnew, by simpa using h4, h5, fun i y hy => ?_⟩
  rw [List.getElem?_set] at hy
  split at hy
  · rename_i hoi
    subst hoi
    cases hy
    refine ⟨x', ?_, hx⟩
    rw [Array.getElem?_setIfInBounds]
    simp; omega
  · rename_i hoi
    obtain ⟨y', hy', hr⟩ := h6 i y hy
    refine ⟨y', ?_, hr⟩
    rw [Array.getElem?_setIfInBounds, if_neg (by omega)]
    exact hy'

/-- A change of a block that holds no cells. -/
theorem Holds.setObj {ρ : Rho} {h : AHeap} {w : World} (H : Holds ρ h w) {v : Nat} {p : Place} {B B' : Blk} (o' : Obj) (hv : ρ v = some p) (hb : h.blk v = some B) (hw : B.wr = true)
    (hrel : BRel ρ p B' { w with heap := w.heap.setIfInBounds p.block o' }) :
    Holds ρ (h.put v (some B')) { w with heap := w.heap.setIfInBounds p.block o' } ∧ Ext ρ h w ρ (h.put v (some B')) { w with heap := w.heap.setIfInBounds p.block o' } :=
  H.upd hv hb hw rfl rfl rfl (by simp) (fun b hbne => by simp [Array.getElem?_setIfInBounds, Ne.symm hbne]) hrel

/-- A block dies. -/
theorem Holds.kill {ρ : Rho} {h : AHeap} {w : World} (H : Holds ρ h w) (v : Nat) : Holds ρ (h.put v none) w := by
  have key : ∀ u C, (h.put v none).blk u = some C → h.blk u = some C := by
    intro u C hC
    rw [AHeap.blk_put] at hC
    split at hC
    · cases hC
    · exact hC
  refine ⟨H.dom, fun u hu => ?_, fun u q C h1 h2 => H.rel u q C h1 (key _ _ h2), fun v₁ v₂ p₁ p₂ B₁ B₂ hne h1 h2 h3 h4 => H.apart _ _ _ _ _ _ hne h1 h2 (key _ _ h3) (key _ _ h4), H.glob⟩
  rw [AHeap.blk_put]
  split
  · rfl
  · exact H.fresh u hu
theorem Ext.kill {ρ : Rho} {h : AHeap} {w : World} (H : Holds ρ h w) (v : Nat) : Ext ρ h w ρ (h.put v none) w := by
  refine ⟨rfl, Nat.le_refl _, fun _ _ => rfl, fun u C hu hC => ?_, fun u r C hu hq hC => ?_, rfl, rfl, rfl, Nat.le_refl _, fun _ _ _ => rfl⟩
  · rw [AHeap.blk_put] at hC
    split at hC
    · cases hC
    · exact ⟨C, hC, id⟩
  · have := H.dom _ _ hq; omega

end Go.VE
