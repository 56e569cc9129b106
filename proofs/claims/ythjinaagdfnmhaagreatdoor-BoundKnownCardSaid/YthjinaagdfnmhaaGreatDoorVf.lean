import Derived.Test.YthjinaagdfnmhaaGreatDoorVe
import Derived.IntWalk
namespace Go.VE
open Go
set_option linter.unusedVariables false
set_option linter.unusedSimpArgs false

/-! ### One operation that looks at no memory -/

def zerosN (zc : Array Value) (k : Nat) : Array Value := (Array.range k).map fun i => zc[i % zc.size]!

def bytesOfStr (s : ByteArray) : List Value := s.data.toList.map fun b => .int .u8 b.toNat

/-- The value of an operation, and the block that it makes (number n), if it makes one. -/
def pstep (P : Program) (o : Oper) (ev : Operand → Value) (n : Nat) : Option (Value × Option Blk) :=
  let here : Value := .pointer (some ⟨n, 0, none⟩)
  match o.op with
  | .move x | .assign x => some (ev x, none)
  | .pick c a b => match ev c with | .bool t => some (if t then ev a else ev b, none) | _ => none
  | .alloc e => ((P.info? e).bind (·.zero)).map fun z => (here, some (.cells true false z.cells.toList))
  | .box e x => some (here, some (.cells true false (ev x).cells.toList))
  | .build t parts => (abuild P t (parts.map fun (i, x) => (i, ev x))).map (·, none)
  | .buildSlice t len parts =>
    match P.underlying t with
    | some (.slice e) => match P.info? e with
      | some i => match i.zero with
        | some z => if len * i.size ≤ 2 ^ 24 then
            (Instr.fill (fun j => some (j * i.size, i.size)) (zerosN z.cells (len * i.size)) (parts.map fun (j, x) => (j, ev x)).toList).map fun cs =>
              (.slice (some ⟨n, 0, none⟩) len len, some (.cells true false cs.toList)) else none
        | none => none
      | none => none
    | _ => none
  | .nilCheck x => match ev x with
    | .pointer (some a) => some (.pointer (some a), none)
    | .func (.func f) fs cs => some (.func (.func f) fs cs, none)
    | .func (.yield l) fs cs => some (.func (.yield l) fs cs, none)
    | _ => none
  | .binOp op t x y _ => (pbin P op t x y (ev x) (ev y)).map (·, none)
  | .unOp op _ x => if flatB 8 (ev x) then (pureRun P (Op.unary op (ev x))).bind fun v => if flatB 8 v then some (v, none) else none else none
  | .convert s d x => match P.underlying s, P.underlying d, ev x with
    | some .string, some (.slice e), .string b => match P.underlying e with
      | some (.int .u8) => if b.size < 2 ^ 63 then some (.slice (some ⟨n, 0, some 3⟩) b.size b.size, some (.cells false true (bytesOfStr b))) else none
      | _ => none
    | _, _, v => if flatB 8 v then (pureRun P (convert s d v)).bind fun v => if flatB 8 v then some (v, none) else none else none
  | .makeInterface t x => match P.underlying t with
    | some (.interface _) => none
    | some _ => some (.iface t (ev x), none)
    | none => none
  | .makeFunc f fs cs => match f with
    | .func g => some (.func (.func g) (fs.map ev) (cs.map ev), none)
    | _ => none
  | .makeMap t none => some (.map (some n), some (.map []))
  | .makeSlice t l c =>
    match P.underlying t, ev l, ev c with
    | some (.slice e), .int _ l, .int _ c => match P.info? e with
      | some i => match i.zero with
        | some z => if 0 ≤ l ∧ l ≤ c ∧ c ≤ 2 ^ 47 ∧ (i.bytes : Int) * c ≤ 2 ^ 48 then
            some (.slice (some ⟨n, 0, none⟩) l.toNat c.toNat, some (.cells true false (zerosN z.cells (c.toNat * i.size)).toList)) else none
        | none => none
      | none => none
    | _, _, _ => none
  | .slice t x lo hi mx => (aslice P t (ev x) (lo.map ev) (hi.map ev) (mx.map ev)).map (·, none)
  | .fieldAddr s x f => (afieldAddr P s (ev x) f).map (·, none)
  | .field t x f => (afield P t (ev x) f).map (·, none)
  | .indexAddr t x i => (aindexAddr P t (ev x) (ev i)).map (·, none)
  | .index t x i => (aindex P t (ev x) (ev i)).map (·, none)
  | .range t x => match P.underlying t, ev x with
    | some .string, .string s => some (here, some (.iter s 0))
    | _, _ => none
  | .typeAssert x _ t ok => (aassert P (ev x) t ok).map (·, none)
  | .extract x i => (aextract (ev x) i).map (·, none)
  | .call c => match c.callee with
    | .builtin .len => match ((c.argTypes[0]?).bind P.underlying : Option TypeDesc), ((c.args.map ev)[0]? : Option Value) with
      | some .string, some (.string s) => some (.int .i64 s.size, none)
      | some (.slice _), some (.slice _ l _) => some (.int .i64 l, none)
      | some (.array k _), some _ => some (.int .i64 k, none)
      | _, _ => none
    | .builtin .max => if (c.args.map ev).all (flatB 8) then (pureRun P (Builtin.max_ c.argTypes o.type (c.args.map ev))).bind fun v => if flatB 8 v then some (v, none) else none else none
    | .builtin .min => if (c.args.map ev).all (flatB 8) then (pureRun P (Builtin.min_ c.argTypes o.type (c.args.map ev))).bind fun v => if flatB 8 v then some (v, none) else none else none
    | _ => none
  | _ => none

/-- What the run of an operation without memory comes to in the real world. -/
def POk (P : Program) (ρ : Rho) (n : Nat) (w : World) (s : Sem Next) (v : Value) (nb : Option Blk) : Prop :=
  match nb with
  | none => ∃ v', s.run P w = .ok (.value v') w ∧ VRel ρ v v'
  | some B => ∃ v' w' o p, s.run P w = .ok (.value v') w' ∧ w'.heap = w.heap.push o ∧ w'.os = w.os ∧ w'.tape = w.tape ∧ w'.output = w.output ∧
      p.block = w.heap.size ∧ ∀ ρ', ρ.le ρ' → ρ' n = some p → BRel ρ' p B w' ∧ VRel ρ' v v'

theorem POk.ofPure {P : Program} {ρ : Rho} {n : Nat} {w : World} {s : Sem Value} {v v' : Value} (h : pureRun P s = some v') (r : VRel ρ v v') :
    POk P ρ n w (do pure (Next.value (← s))) v none := by
  refine ⟨v', ?_, r⟩
  refine pureRun_run (s := (do pure (Next.value (← s)) : Sem Next)) ?_ w
  rw [pureRun_bind', h]; rfl

/-- New cells. -/
theorem cells_new {ρ' : Rho} {cs cs' : Array Value} {w w' : World} {e : TypeId} {wr : Bool} (hw : w'.heap = w.heap.push (.cells cs' e)) (r : ARel ρ' cs cs') :
    BRel ρ' ⟨w.heap.size, 0, cs.size, 0, 0⟩ (.cells wr false cs.toList) w' := by
  refine ⟨by simp, fun _ => rfl, cs', e, (0, 0), by rw [hw]; simp, ?_, fun _ => rfl, fun i x hx => ?_⟩
  · simp [Place.top, r.1]
  · obtain ⟨y, h1, h2⟩ := r.get (i := i) (x := x) (by simpa using hx)
    exact ⟨y, by simpa using h1, h2⟩

theorem POk.cells {P : Program} {ρ : Rho} {n : Nat} {w : World} {s : Sem Next} {v v' : Value} {cs cs' : Array Value} {e : TypeId} {wr : Bool}
    (h : s.run P w = .ok (.value v') (w.alloc (.cells cs' e))) (r : ARel ρ cs cs') (hv : ∀ ρ' p, ρ.le ρ' → ρ' n = some p → p.block = w.heap.size → p.base = 0 → VRel ρ' v v') :
    POk P ρ n w s v (some (.cells wr false cs.toList)) :=
  ⟨v', _, _, ⟨w.heap.size, 0, cs.size, 0, 0⟩, h, rfl, rfl, rfl, rfl, rfl, fun ρ' hl hn => ⟨cells_new rfl (r.mono hl), hv ρ' _ hl hn rfl rfl⟩⟩

theorem run_bind_ok {P : Program} {α β : Type} {s : Sem α} {f : α → Sem β} {a : α} {w w' : World} (h : s.run P w = .ok a w') : (s >>= f).run P w = (f a).run P w' := by
  rw [Sem.run_bind, h]; rfl

theorem run_newRow (P : Program) (w : World) (e : TypeId) (cs : Array Value) : (newRow e cs).run P w = .ok ⟨w.heap.size, 0, none⟩ (w.alloc (.cells cs e)) := rfl
theorem run_newVar (P : Program) (w : World) (e : TypeId) (v : Value) : (newVar e v).run P w = .ok ⟨w.heap.size, 0, none⟩ (w.alloc (.cells v.cells e)) := rfl

theorem ptr_new {ρ' : Rho} {n b : Nat} {p : Place} (h : ρ' n = some p) (hb : p.block = b) (h0 : p.base = 0) : VRel ρ' (.pointer (some ⟨n, 0, none⟩)) (.pointer (some ⟨b, 0, none⟩)) := by
  have := VRel.ptr (ρ := ρ') (o := 0) h
  rw [hb, h0] at this
  exact this
theorem slice_new {ρ' : Rho} {n b l c : Nat} {p : Place} (h : ρ' n = some p) (hb : p.block = b) (h0 : p.base = 0) : VRel ρ' (.slice (some ⟨n, 0, none⟩) l c) (.slice (some ⟨b, 0, none⟩) l c) := by
  have := VRel.slice (ρ := ρ') (o := 0) (l := l) (c := c) h
  rw [hb, h0] at this
  exact this

theorem ARel.map_ev {ρ : Rho} {ev ev' : Operand → Value} {xs : Array Operand} (h : ∀ x ∈ xs, VRel ρ (ev x) (ev' x)) : ARel ρ (xs.map ev) (xs.map ev') := by
  refine .of_get (by simp) fun i x y hx hy => ?_
  simp only [Array.getElem?_map, Option.map_eq_some_iff] at hx hy
  obtain ⟨a, ha, rfl⟩ := hx
  obtain ⟨b, hb, rfl⟩ := hy
  rw [ha] at hb; cases hb
  exact h a (Array.mem_of_getElem? ha)
theorem PRel.map_ev {ρ : Rho} {ev ev' : Operand → Value} {xs : Array (Nat × Operand)} (h : ∀ x ∈ xs, VRel ρ (ev x.2) (ev' x.2)) :
    PRel ρ (xs.map fun (i, x) => (i, ev x)) (xs.map fun (i, x) => (i, ev' x)) := by
  refine ⟨by simp, fun i x y hx hy => ?_⟩
  simp only [Array.getElem?_map, Option.map_eq_some_iff] at hx hy
  obtain ⟨a, ha, rfl⟩ := hx
  obtain ⟨b, hb, rfl⟩ := hy
  rw [ha] at hb; cases hb
  exact ⟨rfl, h a (Array.mem_of_getElem? ha)⟩
theorem zerosN_rel {ρ : Rho} {zc : Array Value} (h : ARel ρ zc zc) (k : Nat) : ARel ρ (zerosN zc k) (zerosN zc k) := by
  refine .of_get rfl fun i x y hx hy => ?_
  rw [hx] at hy; cases hy
  simp only [zerosN, Array.getElem?_map, Option.map_eq_some_iff] at hx
  obtain ⟨j, hj, rfl⟩ := hx
  rcases Nat.lt_or_ge (j % zc.size) zc.size with hlt | hge
  · have := h.2 (j % zc.size)
    simp only [Array.getD, hlt, dif_pos] at this
    simpa [getElem!_def, hlt] using this
  · have e : zc[j % zc.size]! = default := by
      simp [getElem!_def, Array.getElem?_eq_none hge]
    rw [e]
    exact .bool false

theorem flatAll_eq {ρ : Rho} {xs xs' : Array Value} (r : ARel ρ xs xs') (h : xs.all (flatB 8) = true) : xs' = xs := by
  refine Array.ext r.1 fun i h1 h2 => ?_
  have hb := (Array.all_eq_true.1 h) i h2
  have := (r.2 i).flat_eq 8 (by simpa [Array.getD, h2] using hb)
  simpa [Array.getD, h1, h2] using this

theorem val_ok {P : Program} {s : Sem Value} {v : Value} {w w' : World} (h : s.run P w = .ok v w') : (do pure (Next.value (← s)) : Sem Next).run P w = .ok (.value v) w' := by
  rw [run_bind_ok h]; rfl

theorem VRel.of_bool {ρ : Rho} {b : Bool} {x : Value} (h : VRel ρ (.bool b) x) : x = .bool b := by cases h; rfl
theorem VRel.of_int {ρ : Rho} {k : IntKind} {b : Int} {x : Value} (h : VRel ρ (.int k b) x) : x = .int k b := by cases h; rfl
theorem VRel.of_string {ρ : Rho} {b : ByteArray} {x : Value} (h : VRel ρ (.string b) x) : x = .string b := by cases h; rfl

theorem zerosN_zero (zc zc' : Array Value) : zerosN zc 0 = zerosN zc' 0 := by simp [zerosN]

theorem run_alloc {P : Program} {e : TypeId} {z : Value} (hz : (P.info? e).bind (·.zero) = some z) (w : World) :
    (Instr.alloc e true (.tuple #[])).run P w = .ok (.pointer (some ⟨w.heap.size, 0, none⟩)) (w.alloc (.cells z.cells e)) := by
  unfold Instr.alloc
  rw [run_bind_ok (pureRun_run (P := P) (s := zeroValue e) (by rw [pureRun_zero, hz]) w)]
  exact run_bind_ok (run_newVar P w e z)
theorem run_box {P : Program} {e : TypeId} {v : Value} (w : World) :
    (Instr.box e v).run P w = .ok (.pointer (some ⟨w.heap.size, 0, none⟩)) (w.alloc (.cells v.cells e)) := run_bind_ok (run_newVar P w e v)

theorem run_zeros {P : Program} {α : Type} {e : TypeId} {i : TypeInfo} {z : Value} (hi : P.info? e = some i) (hz : i.zero = some z) (k : Nat) (w : World) (f : Array Value → Sem α) (r : Result α)
    (h : ∀ zc : Array Value, (Array.range k).map (zc[· % zc.size]!) = zerosN z.cells k → (f zc).run P w = r) :
    (if k = 0 then (pure #[] >>= f) else (zeroValue e >>= fun z => pure z.cells >>= f) : Sem α).run P w = r := by
  by_cases h0 : k = 0
  · rw [if_pos h0]
    subst h0
    exact h #[] (by simp [zerosN])
  · rw [if_neg h0]
    rw [run_bind_ok (pureRun_run (P := P) (s := zeroValue e) (a := z) (by rw [pureRun_zero, hi]; exact hz) w)]
    exact h z.cells rfl

theorem run_buildSlice {P : Program} {t e : TypeId} {i : TypeInfo} {z : Value} {len : Nat} {parts : Array (Nat × Value)} {cs : Array Value} (hu : P.underlying t = some (.slice e)) (hi : P.info? e = some i) (hz : i.zero = some z)
    (hlt : len * i.size ≤ 2 ^ 24) (hf : Instr.fill (fun j => some (j * i.size, i.size)) (zerosN z.cells (len * i.size)) parts.toList = some cs) (w : World) :
    (Instr.buildSlice t len parts).run P w = .ok (.slice (some ⟨w.heap.size, 0, none⟩) len len) (w.alloc (.cells cs e)) := by
  unfold Instr.buildSlice
  rw [run_bind_ok (pureRun_run (by rw [pureRun_underlying, hu]) w)]
  simp only []
  rw [run_bind_ok (pureRun_run (a := i.size) (by rw [pureRun_size, hi]; rfl) w)]
  rw [if_neg (by omega)]
  refine run_zeros (P := P) hi hz (len * i.size) w _ _ fun zc hzc => ?_
  simp only [hzc, hf]
  exact run_bind_ok (run_newRow P w e cs)

theorem wrap_id {c : Int} (h0 : 0 ≤ c) (h : c ≤ 2 ^ 47) : IntKind.i64.wrap c = c := IntWalk.i64_in _ (by omega)

theorem run_makeSlice {P : Program} {t e : TypeId} {i : TypeInfo} {z : Value} {k k' : IntKind} {l c : Int} (hu : P.underlying t = some (.slice e)) (hi : P.info? e = some i) (hz : i.zero = some z)
    (h0 : 0 ≤ l) (h1 : l ≤ c) (h2 : c ≤ 2 ^ 47) (h3 : (i.bytes : Int) * c ≤ 2 ^ 48) (w : World) :
    (Instr.makeSlice t (.int k l) (.int k' c)).run P w = .ok (.slice (some ⟨w.heap.size, 0, none⟩) l.toNat c.toNat) (w.alloc (.cells (zerosN z.cells (c.toNat * i.size)) e)) := by
  unfold Instr.makeSlice
  rw [run_bind_ok (pureRun_run (by rw [pureRun_underlying, hu]) w)]
  simp only []
  have a1 : ∀ (kk : IntKind) (q : Int), (asInt (.int kk q)).run P w = .ok q w := fun kk q => rfl
  rw [run_bind_ok (a1 k l), run_bind_ok (a1 k' c)]
  rw [run_bind_ok (pureRun_run (a := i) (by rw [pureRun_info, hi]) w)]
  simp only [wrap_id h0 (Int.le_trans h1 h2), wrap_id (Int.le_trans h0 h1) h2]
  rw [if_neg (by simp; omega)]
  have a2 : (askRoom (c.toNat * i.bytes)).run P w = .ok () w := by unfold askRoom; split <;> rfl
  rw [run_bind_ok a2]
  rw [run_bind_ok (pureRun_run (a := i.size) (by rw [pureRun_size, hi]; rfl) w)]
  refine run_zeros (P := P) hi hz (c.toNat * i.size) w _ _ fun zc hzc => ?_
  simp only [hzc]
  exact run_bind_ok (run_newRow P w e _)

end Go.VE
