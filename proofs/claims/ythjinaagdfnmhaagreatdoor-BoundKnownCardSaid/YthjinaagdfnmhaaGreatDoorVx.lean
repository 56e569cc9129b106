import Derived.Test.YthjinaagdfnmhaaGreatDoorVw
namespace Go.VE
open Go
set_option linter.unusedVariables false
set_option linter.unusedSimpArgs false

/-! ### The same evaluator, made for the kernel: what hangs on the program's text alone is worked out once (and kept in the kernel's cache) -/

noncomputable section

def gt {α : Type} (t : Trie α) (p : List Bool) : Option α :=
  Trie.rec (motive := fun _ => List Bool → Option α) (fun _ => none) (fun l v r ihl ihr p => List.rec (motive := fun _ => Option α) v (fun b p' _ => cond b (ihl p') (ihr p')) p) t p
def pt {α : Type} (x : Option α) (p : List Bool) (t : Trie α) : Trie α :=
  List.rec (motive := fun _ => Trie α → Trie α) (fun t => Trie.rec (motive := fun _ => Trie α) (.node .leaf x .leaf) (fun l _ r _ _ => .node l x r) t)
    (fun b _ ih t => Trie.rec (motive := fun _ => Trie α) (cond b (.node (ih .leaf) none .leaf) (.node .leaf none (ih .leaf))) (fun l v r _ _ => cond b (.node (ih l) v r) (.node l v (ih r))) t) p t

def pathF : Nat → Nat → List Bool
  | 0, _ => []
  | f + 1, n => cond (Nat.beq n 0) [] (cond (Nat.beq (Nat.mod n 2) 1) (true :: pathF f (Nat.div n 2)) (false :: pathF f (Nat.pred (Nat.div n 2))))
def path (n : Nat) : List Bool := pathF (n + 1) n

theorem gt_pathF {α : Type} : ∀ (f n : Nat) (t : Trie α), n < f → gt t (pathF f n) = t.get n := by
  intro f
  induction f with
  | zero => intro n t h; omega
  | succ f ih =>
    intro n t h
    cases t with
    | leaf => rfl
    | node l v r =>
      cases h0 : Nat.beq n 0 with
      | true => simp only [pathF, h0, cond_true, Trie.get]; rfl
      | false =>
        obtain ⟨d1, d2⟩ := Trie.div_lt h (Nat.ne_of_beq_eq_false h0)
        cases ho : Nat.beq (Nat.mod n 2) 1 with
        | true =>
          simp only [pathF, h0, ho, cond_true, cond_false, Trie.get]
          exact ih _ l d1
        | false =>
          simp only [pathF, h0, ho, cond_false, Trie.get]
          exact ih _ r d2
theorem gt_path {α : Type} (t : Trie α) (n : Nat) : gt t (path n) = t.get n := gt_pathF _ _ _ (Nat.lt_succ_self n)

theorem pt_pathF {α : Type} (x : Option α) : ∀ (f n : Nat) (t : Trie α), n < f → pt x (pathF f n) t = Trie.set f t n x := by
  intro f
  induction f with
  | zero => intro n t h; omega
  | succ f ih =>
    intro n t h
    cases h0 : Nat.beq n 0 with
    | true => cases t <;> simp only [pathF, h0, cond_true, Trie.set] <;> rfl
    | false =>
      obtain ⟨d1, d2⟩ := Trie.div_lt h (Nat.ne_of_beq_eq_false h0)
      cases ho : Nat.beq (Nat.mod n 2) 1 with
      | true =>
        cases t with
        | leaf =>
          simp only [pathF, h0, ho, cond_true, cond_false, Trie.set]
          show Trie.node (pt x _ .leaf) none .leaf = _
          rw [ih _ _ d1]
        | node l v r =>
          simp only [pathF, h0, ho, cond_true, cond_false, Trie.set]
          show Trie.node (pt x _ l) v r = _
          rw [ih _ _ d1]
      | false =>
        cases t with
        | leaf =>
          simp only [pathF, h0, ho, cond_false, Trie.set]
          show Trie.node .leaf none (pt x _ .leaf) = _
          rw [ih _ _ d2]
        | node l v r =>
          simp only [pathF, h0, ho, cond_false, Trie.set]
          show Trie.node l v (pt x _ r) = _
          rw [ih _ _ d2]
theorem pt_path {α : Type} (x : Option α) (n : Nat) (t : Trie α) : pt x (path n) t = t.put n x := pt_pathF x _ _ _ (Nat.lt_succ_self n)

/-- A block of the heap. -/
def hget (h : AHeap) (v : Nat) : Option Blk :=
  Trie.rec (motive := fun _ => Nat → Option Blk) (fun _ => none) (fun l v r ihl ihr n => cond (Nat.beq n 0) v (cond (Nat.beq (Nat.mod n 2) 1) (ihl (Nat.div n 2)) (ihr (Nat.pred (Nat.div n 2))))) h.tree v
theorem hget_eq (h : AHeap) (v : Nat) : hget h v = h.blk v := by
  unfold hget AHeap.blk
  generalize h.tree = t
  induction t generalizing v with
  | leaf => rfl
  | node l x r ihl ihr =>
    simp only [Trie.get]
    rw [← ihl, ← ihr]
def hset (f : Nat) (t : Trie Blk) (n : Nat) (x : Option Blk) : Trie Blk :=
  Nat.rec (motive := fun _ => Trie Blk → Nat → Trie Blk) (fun t _ => t)
    (fun _ ih t n => Trie.rec (motive := fun _ => Trie Blk) (cond (Nat.beq n 0) (.node .leaf x .leaf) (cond (Nat.beq (Nat.mod n 2) 1) (.node (ih .leaf (Nat.div n 2)) none .leaf) (.node .leaf none (ih .leaf (Nat.pred (Nat.div n 2))))))
      (fun l v r _ _ => cond (Nat.beq n 0) (.node l x r) (cond (Nat.beq (Nat.mod n 2) 1) (.node (ih l (Nat.div n 2)) v r) (.node l v (ih r (Nat.pred (Nat.div n 2)))))) t) f t n
theorem hset_eq (x : Option Blk) : ∀ (f : Nat) (t : Trie Blk) (n : Nat), hset f t n x = Trie.set f t n x := by
  intro f
  induction f with
  | zero => intro t n; rfl
  | succ f ih =>
    intro t n
    cases t with
    | leaf =>
      simp only [Trie.set]
      rw [← ih, ← ih]; rfl
    | node l v r =>
      simp only [Trie.set]
      rw [← ih, ← ih]; rfl
def halloc (h : AHeap) (B : Blk) : AHeap := ⟨hset (Nat.succ h.next) h.tree h.next (some B), Nat.succ h.next, h.ng, h.lo⟩
theorem halloc_eq (h : AHeap) (B : Blk) : halloc h B = h.alloc B := by
  unfold halloc AHeap.alloc Trie.put
  rw [hset_eq]
def hput (h : AHeap) (v : Nat) (b : Option Blk) : AHeap := ⟨hset (Nat.succ v) h.tree v b, h.next, h.ng, cond (Nat.ble h.lo v) h.lo v⟩
theorem hput_eq (h : AHeap) (v : Nat) (b : Option Blk) : hput h v b = h.put v b := by
  unfold hput AHeap.put Trie.put
  rw [hset_eq]

/-- A temporary. -/
def gv : Option Value → Value
  | some v => v
  | none => undef
def tget (p : List Bool) (t : ATm) : Value := gv (gt t.tr p)
theorem tget_eq (t : ATm) (i : Nat) : tget (path i) t = t.get i := by
  unfold tget ATm.get
  rw [gt_path]
  cases t.tr.get i <;> rfl
def tput (d : Nat) (p : List Bool) (v : Value) (t : ATm) : ATm := cond (Nat.ble (Nat.succ d) t.n) ⟨pt (some v) p t.tr, t.n⟩ t
theorem tput_eq (t : ATm) (d : Nat) (v : Value) : tput d (path d) v t = t.put (some d) v := by
  unfold tput ATm.put
  rw [pt_path]

/-! #### Operands -/

structure Acc where
  f : ATm → Value

def acc : Operand → Acc
  | .tmp i => ⟨fun t => tget (path i) t⟩
  | .const v => ⟨fun _ => v⟩
  | .global g => ⟨fun _ => .pointer (some ⟨g, 0, none⟩)⟩
  | .func f => ⟨fun _ => .func (.func f) #[] #[]⟩
theorem acc_eq (x : Operand) (t : ATm) : (acc x).f t = evo t x := by
  cases x with
  | tmp i => exact tget_eq t i
  | _ => rfl

/-! #### Whole numbers -/

def kindEq (j k : IntKind) : Bool := decide (j = k)

structure Cb where
  f : IntKind → Int → Int → Option Value

def cbin : BinOp → Option Cb
  | .add => some ⟨fun k a b => some (.int k (k.wrap (a + b)))⟩
  | .sub => some ⟨fun k a b => some (.int k (k.wrap (a - b)))⟩
  | .mul => some ⟨fun k a b => some (.int k (k.wrap (a * b)))⟩
  | .quo => some ⟨fun k a b => if b = 0 then none else some (.int k (k.wrap (a.tdiv b)))⟩
  | .rem => some ⟨fun k a b => if b = 0 then none else some (.int k (a.tmod b))⟩
  | .eql => some ⟨fun _ a b => some (.bool (a == b))⟩
  | .neq => some ⟨fun _ a b => some (.bool (a != b))⟩
  | .lss => some ⟨fun _ a b => some (.bool (decide (a < b)))⟩
  | .leq => some ⟨fun _ a b => some (.bool (decide (a ≤ b)))⟩
  | .gtr => some ⟨fun _ a b => some (.bool (decide (a > b)))⟩
  | .geq => some ⟨fun _ a b => some (.bool (decide (a ≥ b)))⟩
  | _ => none

theorem cbin_ok {P : Program} {op : BinOp} {c : Cb} (hc : cbin op = some c) {t : TypeId} {xo yo : Operand} {k : IntKind} {a b : Int} {v : Value} (h : c.f k a b = some v) : pbin P op t xo yo (.int k a) (.int k b) = some v := by
  have hg : eqGuard op t xo yo (.int k a) (.int k b) = pure () := by cases op <;> rfl
  have key : ∀ (s : Sem Value), binOp op t (.int k a) (.int k b) = s → pureRun P s = some v → flatB 8 v = true → pbin P op t xo yo (.int k a) (.int k b) = some v := by
    intro s h1 h2 h3
    unfold pbin binS
    rw [if_pos (by simp [flatB]), hg, pure_bind, h1, h2]
    simp [h3]
  have kk : ¬ (k ≠ k) := fun h => h rfl
  cases op <;> simp only [cbin, Option.some.injEq, reduceCtorEq] at hc <;> subst hc <;> simp only at h
  all_goals first
    | (cases h; exact key _ (by simp only [binOp, kk, if_false]; rfl) rfl rfl)
    | (split at h
       · cases h
       · rename_i hb
         cases h
         exact key _ (by simp only [binOp, kk, if_false, Op.intDiv, hb]; rfl) rfl rfl)

end
end Go.VE
