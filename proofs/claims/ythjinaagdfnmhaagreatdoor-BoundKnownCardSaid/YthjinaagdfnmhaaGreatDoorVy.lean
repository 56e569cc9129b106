import Derived.Test.YthjinaagdfnmhaaGreatDoorVx
namespace Go.VE
open Go
set_option linter.unusedVariables false
set_option linter.unusedSimpArgs false

noncomputable section

/-! #### Rows of cells -/

def dropR (n : Nat) (l : List Value) : List Value :=
  Nat.rec (motive := fun _ => List Value → List Value) (fun l => l) (fun _ ih l => List.rec (motive := fun _ => List Value) [] (fun _ tl _ => ih tl) l) n l
def takeR (n : Nat) (l : List Value) : Option (List Value) :=
  Nat.rec (motive := fun _ => List Value → Option (List Value)) (fun _ => some [])
    (fun _ ih l => List.rec (motive := fun _ => Option (List Value)) none (fun x tl _ => Option.rec (motive := fun _ => Option (List Value)) none (fun r => some (x :: r)) (ih tl)) l) n l
def overR (xs l : List Value) : Option (List Value) :=
  List.rec (motive := fun _ => List Value → Option (List Value)) (fun l => some l)
    (fun x _ ih l => List.rec (motive := fun _ => Option (List Value)) none (fun _ tl _ => Option.rec (motive := fun _ => Option (List Value)) none (fun r => some (x :: r)) (ih tl)) l) xs l
def spliceR (o : Nat) (xs l : List Value) : Option (List Value) :=
  Nat.rec (motive := fun _ => List Value → Option (List Value)) (fun l => overR xs l)
    (fun _ ih l => List.rec (motive := fun _ => Option (List Value)) none (fun y tl _ => Option.rec (motive := fun _ => Option (List Value)) none (fun r => some (y :: r)) (ih tl)) l) o l
def headR (l : List Value) : Option Value := List.rec (motive := fun _ => Option Value) none (fun x _ _ => some x) l

theorem dropR_eq : ∀ (n : Nat) (l : List Value), dropR n l = l.drop n := by
  intro n
  induction n with
  | zero => intro l; rfl
  | succ n ih =>
    intro l
    cases l with
    | nil => rfl
    | cons x l => exact ih l
theorem headR_eq (l : List Value) : headR l = l[0]? := by cases l <;> rfl
theorem takeR_ok : ∀ (n : Nat) (l r : List Value), takeR n l = some r → n ≤ l.length ∧ r = l.take n := by
  intro n
  induction n with
  | zero => intro l r h; cases h; exact ⟨Nat.zero_le _, by simp⟩
  | succ n ih =>
    intro l r h
    cases l with
    | nil => cases h
    | cons x l =>
      have h' : Option.rec (motive := fun _ => Option (List Value)) none (fun r => some (x :: r)) (takeR n l) = some r := h
      cases ht : takeR n l with
      | none => rw [ht] at h'; cases h'
      | some r' =>
        rw [ht] at h'
        cases h'
        obtain ⟨h1, rfl⟩ := ih l r' ht
        exact ⟨by simp; omega, by simp⟩
theorem putCells_cons (y : Value) : ∀ (xs tl : List Value) (o : Nat), putCells (y :: tl) (o + 1) xs = y :: putCells tl o xs := by
  intro xs
  induction xs with
  | nil => intro tl o; rfl
  | cons x xs ih => intro tl o; exact ih (tl.set o x) (o + 1)
theorem overR_ok : ∀ (xs l r : List Value), overR xs l = some r → xs.length ≤ l.length ∧ r = putCells l 0 xs := by
  intro xs
  induction xs with
  | nil => intro l r h; cases h; exact ⟨Nat.zero_le _, rfl⟩
  | cons x xs ih =>
    intro l r h
    cases l with
    | nil => cases h
    | cons y l =>
      have h' : Option.rec (motive := fun _ => Option (List Value)) none (fun r => some (x :: r)) (overR xs l) = some r := h
      cases ht : overR xs l with
      | none => rw [ht] at h'; cases h'
      | some r' =>
        rw [ht] at h'
        cases h'
        obtain ⟨h1, rfl⟩ := ih l r' ht
        refine ⟨by simp; omega, ?_⟩
        show _ = putCells ((y :: l).set 0 x) (0 + 1) xs
        rw [List.set_cons_zero, putCells_cons]
theorem spliceR_ok (xs : List Value) : ∀ (o : Nat) (l r : List Value), spliceR o xs l = some r → o + xs.length ≤ l.length ∧ r = putCells l o xs := by
  intro o
  induction o with
  | zero =>
    intro l r h
    obtain ⟨h1, h2⟩ := overR_ok xs l r h
    exact ⟨by omega, h2⟩
  | succ o ih =>
    intro l r h
    cases l with
    | nil => cases h
    | cons y l =>
      have h' : Option.rec (motive := fun _ => Option (List Value)) none (fun r => some (y :: r)) (spliceR o xs l) = some r := h
      cases ht : spliceR o xs l with
      | none => rw [ht] at h'; cases h'
      | some r' =>
        rw [ht] at h'
        cases h'
        obtain ⟨h1, rfl⟩ := ih l r' ht
        exact ⟨by simp; omega, (putCells_cons y xs l o).symm⟩

theorem getCells_fast {cs r : List Value} {o k : Nat} (h : takeR k (dropR o cs) = some r) (hk : k ≠ 0) : getCells cs o k = some r.toArray := by
  rw [dropR_eq] at h
  obtain ⟨h1, rfl⟩ := takeR_ok _ _ _ h
  unfold getCells
  rw [if_pos]
  simp at h1
  omega

/-- The cells of a value, as a list; whether each is one cell. -/
def cellsL (v : Value) : List Value := v.cells.toList
def lenIs (n : Nat) (l : List Value) : Bool :=
  Nat.rec (motive := fun _ => List Value → Bool) (fun l => List.rec (motive := fun _ => Bool) true (fun _ _ _ => false) l) (fun _ ih l => List.rec (motive := fun _ => Bool) false (fun _ tl _ => ih tl) l) n l
theorem lenIs_ok : ∀ (n : Nat) (l : List Value), lenIs n l = true → l.length = n := by
  intro n
  induction n with
  | zero =>
    intro l h
    cases l with
    | nil => rfl
    | cons => cases h
  | succ n ih =>
    intro l h
    cases l with
    | nil => cases h
    | cons x l => simp [ih l h]
def allOne (l : List Value) : Bool := List.rec (motive := fun _ => Bool) true (fun x _ ih => cond x.oneCell' ih false) l
theorem allOne_ok : ∀ l, allOne l = true → l.all (·.oneCell') = true := by
  intro l
  induction l with
  | nil => intro _; rfl
  | cons x l ih =>
    intro h
    have h' : cond x.oneCell' (allOne l) false = true := h
    cases hx : x.oneCell' with
    | false => rw [hx] at h'; cases h'
    | true =>
      rw [hx] at h'
      simp [hx, ih h'] at *

/-! #### Operations -/

structure C2 where
  f : ATm → AHeap → Option (Value × AHeap)

def slow (P : Program) (o : Oper) : C2 := ⟨fun t h => ostep P o (evo t) h⟩

/-- Loads. -/
def loadK (k : Nat) (x : Value) (h : AHeap) : Option (Value × AHeap) :=
  match x with
  | .pointer (some ⟨v, o, none⟩) => match hget h v with
    | some (.cells _ _ cs) => match takeR k (dropR o cs) with
      | some r => some (.agg r.toArray, h)
      | none => none
    | _ => none
  | _ => none
def load1 (x : Value) (h : AHeap) : Option (Value × AHeap) :=
  match x with
  | .pointer (some ⟨v, o, none⟩) => match hget h v with
    | some (.cells _ _ cs) => match headR (dropR o cs) with
      | some r => some (r, h)
      | none => none
    | _ => none
  | _ => none

theorem loadK_ok {P : Program} {ty : TypeId} {d : TypeDesc} {k : Nat} {x : Value} {h : AHeap} {r : Value × AHeap} (hd : P.underlying ty = some d) (ha : aggB d = true) (hk : isz P ty = some k) (hk0 : k ≠ 0) (hs : loadK k x h = some r) :
    (match aload P ty x h with | some v => some (v, h) | none => none) = some r := by
  unfold loadK at hs
  split at hs
  case h_2 => cases hs
  rw [hget_eq] at hs
  split at hs
  case h_2 => cases hs
  rename_i hb
  split at hs
  case h_2 => cases hs
  rename_i r' hr
  cases hs
  unfold aload
  simp only [hb, hd, ha, if_true, hk, Option.bind_some, getCells_fast hr hk0, Option.map_some]
theorem load1_ok {P : Program} {ty : TypeId} {d : TypeDesc} {x : Value} {h : AHeap} {r : Value × AHeap} (hd : P.underlying ty = some d) (ha : aggB d = false) (hs : load1 x h = some r) :
    (match aload P ty x h with | some v => some (v, h) | none => none) = some r := by
  unfold load1 at hs
  split at hs
  case h_2 => cases hs
  rw [hget_eq] at hs
  split at hs
  case h_2 => cases hs
  rename_i hb
  split at hs
  case h_2 => cases hs
  rename_i r' hr
  cases hs
  rw [headR_eq, dropR_eq, List.getElem?_drop] at hr
  unfold aload
  simp only [hb, hd, ha, Bool.false_eq_true, if_false]
  simp only [Nat.add_zero] at hr
  rw [hr]

/-- Stores. -/
def storeK (k : Nat) (x u : Value) (h : AHeap) : Option (Value × AHeap) :=
  match x with
  | .pointer (some ⟨v, o, none⟩) => match hget h v with
    | some (.cells true gr cs) => cond (lenIs k (cellsL u) && allOne (cellsL u)) (match spliceR o (cellsL u) cs with
      | some r => some (undef, hput h v (some (.cells true gr r)))
      | none => none) none
    | _ => none
  | _ => none
theorem storeK_ok {P : Program} {ty : TypeId} {k : Nat} {x u : Value} {h : AHeap} {r : Value × AHeap} (hk : isz P ty = some k) (hs : storeK k x u h = some r) :
    (match astore P ty x u h with | some h' => some (undef, h') | none => none) = some r := by
  unfold storeK at hs
  split at hs
  case h_2 => cases hs
  rename_i v o
  rw [hget_eq] at hs
  split at hs
  case h_2 => cases hs
  rename_i gr cs hb
  cases hc : (lenIs k (cellsL u) && allOne (cellsL u)) with
  | false => rw [hc] at hs; cases hs
  | true =>
    rw [hc] at hs
    simp only [cond_true] at hs
    simp only [Bool.and_eq_true] at hc
    split at hs
    case h_2 => cases hs
    rename_i r' hr
    cases hs
    obtain ⟨h1, rfl⟩ := spliceR_ok _ _ _ _ hr
    have h2 := lenIs_ok _ _ hc.1
    have h3 := allOne_ok _ hc.2
    have e : u.cells.toList = cellsL u := rfl
    have h4 : u.cells.size = k := by rw [← h2]; rfl
    unfold astore
    simp only [hb]
    rw [if_pos ⟨by rw [hk, h4], by rw [h4, ← h2]; exact h1, by rw [← Array.all_toList]; exact h3⟩, hput_eq]
    rfl

/-- Literals of structs and arrays. -/
def fillR (t : ATm) (l : List (Nat × Nat × Acc)) (cs : List Value) : Option (List Value) :=
  List.rec (motive := fun _ => List Value → Option (List Value)) (fun cs => some cs)
    (fun p _ ih cs => cond (lenIs p.2.1 (cellsL (p.2.2.f t))) (Option.rec (motive := fun _ => Option (List Value)) none (fun r => ih r) (spliceR p.1 (cellsL (p.2.2.f t)) cs)) none) l cs

def statParts (place : Nat → Option (Nat × Nat)) : List (Nat × Operand) → Option (List (Nat × Nat × Acc))
  | [] => some []
  | (i, x) :: r => match place i with
    | some (off, size) => match statParts place r with
      | some l => some ((off, size, acc x) :: l)
      | none => none
    | none => none

theorem foldl_putc : ∀ (xs : List Value) (k off : Nat) (cells : Array Value), ((xs.zipIdx k).foldl (fun cs (p : Value × Nat) => cs.setIfInBounds (off + p.2) p.1) cells).toList = putCells cells.toList (off + k) xs := by
  intro xs
  induction xs with
  | nil => intro k off cells; rfl
  | cons x xs ih =>
    intro k off cells
    rw [List.zipIdx_cons, List.foldl_cons, ih]
    simp only [Array.toList_setIfInBounds]
    rfl

theorem fillR_ok (place : Nat → Option (Nat × Nat)) (t : ATm) : ∀ (ps : List (Nat × Operand)) (l : List (Nat × Nat × Acc)) (cells : Array Value) (r : List Value), statParts place ps = some l → fillR t l cells.toList = some r →
    Instr.fill place cells (ps.map fun p => (p.1, evo t p.2)) = some r.toArray := by
  intro ps
  induction ps with
  | nil =>
    intro l cells r hs h
    cases hs
    cases h
    rfl
  | cons p ps ih =>
    intro l cells r hs h
    obtain ⟨i, x⟩ := p
    simp only [statParts] at hs
    split at hs
    case h_2 => cases hs
    rename_i off size hp
    split at hs
    case h_2 => cases hs
    rename_i l' hl'
    cases hs
    have h' : cond (lenIs size (cellsL ((acc x).f t))) (Option.rec (motive := fun _ => Option (List Value)) none (fun r => fillR t l' r) (spliceR off (cellsL ((acc x).f t)) cells.toList)) none = some r := h
    rw [acc_eq] at h'
    cases hc : lenIs size (cellsL (evo t x)) with
    | false => rw [hc] at h'; cases h'
    | true =>
      rw [hc] at h'
      simp only [cond_true] at h'
      cases hsp : spliceR off (cellsL (evo t x)) cells.toList with
      | none => rw [hsp] at h'; cases h'
      | some r' =>
        rw [hsp] at h'
        simp only at h'
        obtain ⟨h1, rfl⟩ := spliceR_ok _ _ _ _ hsp
        have h2 := lenIs_ok _ _ hc
        have h3 : (evo t x).cells.size = size := by rw [← h2]; rfl
        have e : ((evo t x).cells.zipIdx.foldl (fun cs (c, j) => cs.setIfInBounds (off + j) c) cells).toList = putCells cells.toList off (cellsL (evo t x)) := by
          rw [foldl_zipIdx_array]
          exact foldl_putc _ 0 off cells
        simp only [List.map_cons, Instr.fill, hp]
        rw [if_neg]
        · exact ih l' _ r hl' (by rw [e]; exact h')
        · have : off + (evo t x).cells.size ≤ cells.size := by rw [h3, ← h2]; simpa using h1
          simp [h3]
          omega

def buildC (z : List Value) (l : List (Nat × Nat × Acc)) : C2 := ⟨fun t h => match fillR t l z with | some r => some (.agg r.toArray, h) | none => none⟩

def buildS (P : Program) (t : TypeId) (parts : Array (Nat × Operand)) : Option (List Value × List (Nat × Nat × Acc)) :=
  match (P.info? t).bind (·.zero), P.underlying t with
  | some z, some (.struct fs) => match fs.toList.mapM fun (f : Field) => (isz P f.type).map fun s => (f.offset, s) with
    | some pl => match statParts (pl.toArray[·]?) parts.toList with
      | some l => some (z.cells.toList, l)
      | none => none
    | none => none
  | some z, some (.array _ e) => match isz P e with
    | some s => match statParts (fun i => some (i * s, s)) parts.toList with
      | some l => some (z.cells.toList, l)
      | none => none
    | none => none
  | _, _ => none

theorem buildS_ok {P : Program} {ty : TypeId} {parts : Array (Nat × Operand)} {z : List Value} {l : List (Nat × Nat × Acc)} (hs : buildS P ty parts = some (z, l)) {t : ATm} {h : AHeap} {r : Value × AHeap} (hr : (buildC z l).f t h = some r) :
    ∃ v, r = (v, h) ∧ abuild P ty (parts.map fun (i, x) => (i, evo t x)) = some v := by
  unfold buildC at hr
  simp only at hr
  split at hr
  case h_2 => cases hr
  rename_i cs hcs
  cases hr
  refine ⟨_, rfl, ?_⟩
  unfold buildS at hs
  unfold abuild
  have e : (parts.map fun (i, x) => (i, evo t x)).toList = parts.toList.map fun p => (p.1, evo t p.2) := by simp
  split at hs
  · rename_i zv fs hz hu
    split at hs
    case h_2 => cases hs
    rename_i pl hpl
    split at hs
    case h_2 => cases hs
    rename_i l' hl'
    cases hs
    simp only [hz, hu, hpl, Option.bind_some, e]
    rw [fillR_ok _ t _ _ _ _ hl' hcs]
    rfl
  · rename_i zv n e' hz hu
    split at hs
    case h_2 => cases hs
    rename_i s' hs'
    split at hs
    case h_2 => cases hs
    rename_i l' hl'
    cases hs
    simp only [hz, hu, hs', Option.bind_some, e]
    rw [fillR_ok _ t _ _ _ _ hl' hcs]
    rfl
  · cases hs

/-! #### Each operation, worked out as far as its text goes -/

def boolOf : Value → Option Bool
  | .bool b => some b
  | _ => none
theorem boolOf_ok {v : Value} {b : Bool} (h : boolOf v = some b) : v = .bool b := by cases v <;> simp_all [boolOf]

def binC (P : Program) (op : BinOp) (ty : TypeId) (xo yo : Operand) (c : Cb) (x y : Value) : Option Value :=
  match x with
  | .int k a => match y with
    | .int k' b => cond (kindEq k k') (c.f k a b) none
    | _ => none
  | _ => pbin P op ty xo yo x y
theorem binC_ok {P : Program} {op : BinOp} {ty : TypeId} {xo yo : Operand} {c : Cb} (hc : cbin op = some c) {x y v : Value} (h : binC P op ty xo yo c x y = some v) : pbin P op ty xo yo x y = some v := by
  unfold binC at h
  split at h
  · split at h
    · rename_i k a _ k' b
      cases hk : kindEq k k' with
      | false => rw [hk] at h; cases h
      | true =>
        rw [hk] at h
        have : k = k' := by simpa [kindEq] using hk
        subst this
        exact cbin_ok hc h
    · cases h
  · exact h

def addrC (off : Nat) (x : Value) (h : AHeap) : Option (Value × AHeap) :=
  match x with
  | .pointer (some ⟨v, o, none⟩) => some (.pointer (some ⟨v, o + off, none⟩), h)
  | _ => none

/-- The element of a slice. -/
def elemC (z : Nat) (x i : Value) (h : AHeap) : Option (Value × AHeap) :=
  match x with
  | .slice (some a) len _ => match i with
    | .int _ n => match n with
      | .ofNat m => cond (Nat.ble (Nat.succ m) len) (some (.pointer (some ⟨a.block, a.off + m * z, none⟩), h)) none
      | _ => none
    | _ => none
  | _ => none

def lenC (x : Value) (h : AHeap) : Option (Value × AHeap) :=
  match x with
  | .slice _ l _ => some (.int .i64 l, h)
  | _ => none

def tupC (i : Nat) (x : Value) (h : AHeap) : Option (Value × AHeap) :=
  match x with
  | .tuple vs => match headR (dropR i vs.toList) with
    | some v => some (v, h)
    | none => none
  | _ => none

def opC (P : Program) (o : Oper) : C2 :=
  match o.op with
  | .move x => ⟨fun t h => some ((acc x).f t, h)⟩
  | .assign x => ⟨fun t h => some ((acc x).f t, h)⟩
  | .pick c a b => ⟨fun t h => match boolOf ((acc c).f t) with | some t' => some (cond t' ((acc a).f t) ((acc b).f t), h) | none => none⟩
  | .load ty a => match P.underlying ty with
    | some d => match aggB d with
      | true => match isz P ty with
        | some (k + 1) => ⟨fun t h => loadK (k + 1) ((acc a).f t) h⟩
        | _ => slow P o
      | false => ⟨fun t h => load1 ((acc a).f t) h⟩
    | none => slow P o
  | .store ty a x => match isz P ty with
    | some k => ⟨fun t h => storeK k ((acc a).f t) ((acc x).f t) h⟩
    | none => slow P o
  | .fieldAddr s x f => match P.underlying s with
    | some (.struct fs) => match fs[f]? with
      | some fd => match isz P fd.type with
        | some (_ + 1) => ⟨fun t h => addrC fd.offset ((acc x).f t) h⟩
        | _ => slow P o
      | none => slow P o
    | _ => slow P o
  | .indexAddr ty x i => match P.underlying ty with
    | some (.slice e) => match isz P e with
      | some z => ⟨fun t h => elemC z ((acc x).f t) ((acc i).f t) h⟩
      | none => slow P o
    | _ => slow P o
  | .extract x i => ⟨fun t h => tupC i ((acc x).f t) h⟩
  | .binOp op ty x y _ => match cbin op with
    | some c => ⟨fun t h => match binC P op ty x y c ((acc x).f t) ((acc y).f t) with | some v => some (v, h) | none => none⟩
    | none => slow P o
  | .box e x => ⟨fun t h => some (.pointer (some ⟨h.next, 0, none⟩), halloc h (.cells true false (cellsL ((acc x).f t))))⟩
  | .alloc e => match (P.info? e).bind (·.zero) with
    | some z => ⟨fun t h => some (.pointer (some ⟨h.next, 0, none⟩), halloc h (.cells true false z.cells.toList))⟩
    | none => slow P o
  | .build ty parts => match buildS P ty parts with
    | some (z, l) => buildC z l
    | none => slow P o
  | .call c => match c.callee with
    | .builtin .len => match (c.argTypes[0]?).bind P.underlying, c.args.toList with
      | some (.slice _), [x] => ⟨fun t h => lenC ((acc x).f t) h⟩
      | _, _ => slow P o
    | _ => slow P o
  | _ => slow P o

theorem int_ofNat_lt {m len : Nat} (h : m < len) : (0 : Int) ≤ Int.ofNat m ∧ Int.ofNat m < (len : Int) := ⟨Int.natCast_nonneg m, Int.ofNat_lt.2 h⟩

theorem opC_ok {P : Program} {o : Oper} {t : ATm} {h : AHeap} {r : Value × AHeap} (hs : (opC P o).f t h = some r) : ostep P o (evo t) h = some r := by
  obtain ⟨dst, op, ty, pos, after, guard⟩ := o
  cases op with
  | move x => simp only [opC, acc_eq] at hs; cases hs; rfl
  | assign x => simp only [opC, acc_eq] at hs; cases hs; rfl
  | pick c a b =>
    simp only [opC, acc_eq] at hs
    split at hs
    · rename_i t' ht
      cases hs
      have := boolOf_ok ht
      simp only [ostep, pstep, this]
      cases t' <;> rfl
    · cases hs
  | load ty a =>
    simp only [opC] at hs
    split at hs
    · rename_i d hd
      split at hs
      · rename_i ha
        split at hs
        · rename_i k hk
          simp only [acc_eq] at hs
          exact loadK_ok hd ha hk (by omega) hs
        · exact hs
      · rename_i ha
        simp only [acc_eq] at hs
        exact load1_ok hd ha hs
    · exact hs
  | store ty a x =>
    simp only [opC] at hs
    split at hs
    · rename_i k hk
      simp only [acc_eq] at hs
      exact storeK_ok hk hs
    · exact hs
  | fieldAddr s x f =>
    simp only [opC] at hs
    split at hs
    · rename_i fs hu
      split at hs
      · rename_i fd hf
        split at hs
        · rename_i k hk
          simp only [acc_eq, addrC] at hs
          split at hs
          · rename_i hx
            cases hs
            simp only [ostep, pstep, afieldAddr, hu, hx, hf, hk, Option.map_some]
          · cases hs
        · exact hs
      · exact hs
    · exact hs
  | indexAddr ty x i =>
    simp only [opC] at hs
    split at hs
    · rename_i e hu
      split at hs
      · rename_i z hz
        simp only [acc_eq, elemC] at hs
        split at hs
        · rename_i hx
          split at hs
          · rename_i hi
            split at hs
            · rename_i m
              cases hb : Nat.ble (Nat.succ m) _ with
              | false => rw [hb] at hs; cases hs
              | true =>
                rw [hb] at hs
                cases hs
                have hlt := int_ofNat_lt (Nat.le_of_ble_eq_true hb)
                simp only [ostep, pstep, aindexAddr, hu, hx, hi, hz, Option.map_some]
                rw [if_pos hlt]
                rfl
            · cases hs
          · cases hs
        · cases hs
      · exact hs
    · exact hs
  | extract x i =>
    simp only [opC, acc_eq, tupC] at hs
    split at hs
    · rename_i vs hx
      split at hs
      · rename_i v hv
        cases hs
        rw [headR_eq, dropR_eq, List.getElem?_drop, Nat.add_zero, Array.getElem?_toList] at hv
        simp only [ostep, pstep, aextract, hx, hv, Option.map_some]
      · cases hs
    · cases hs
  | binOp op xt x y u =>
    simp only [opC] at hs
    split at hs
    · rename_i c hc
      simp only [acc_eq] at hs
      split at hs
      · rename_i v hv
        cases hs
        simp only [ostep, pstep, binC_ok hc hv, Option.map_some]
      · cases hs
    · exact hs
  | box e x =>
    simp only [opC, acc_eq, halloc_eq] at hs
    cases hs
    rfl
  | alloc e =>
    simp only [opC] at hs
    split at hs
    · rename_i z hz
      simp only [halloc_eq] at hs
      cases hs
      simp only [ostep, pstep, hz, Option.map_some]
    · exact hs
  | build ty parts =>
    simp only [opC] at hs
    split at hs
    · rename_i z l hb
      obtain ⟨v, rfl, hv⟩ := buildS_ok hb hs
      simp only [ostep, pstep, hv, Option.map_some]
    · exact hs
  | call c =>
    obtain ⟨cl, args, ats⟩ := c
    cases cl with
    | builtin b =>
      cases b with
      | len =>
        simp only [opC] at hs
        split at hs
        · rename_i e x hu hx
          simp only [acc_eq, lenC] at hs
          split at hs
          · rename_i hv
            cases hs
            have ha := arr_of_list hx
            subst ha
            have h0 : ([x].toArray.map (evo t))[0]? = some (evo t x) := by simp
            simp only [ostep, pstep, hu, h0, hv]
          · cases hs
        · exact hs
      | _ => exact hs
    | _ => exact hs
  | _ => exact hs

end
end Go.VE
