import Derived.Test.YthjinaagdfnmhaaGreatDoorVk
namespace Go.VE
open Go
set_option linter.unusedVariables false
set_option linter.unusedSimpArgs false

/-! ### The evaluator -/

def evo (t : ATm) : Operand → Value
  | .tmp i => t.get i
  | .const v => v
  | .global g => .pointer (some ⟨g, 0, none⟩)
  | .func f => .func (.func f) #[] #[]

def opdOk (ng : Nat) : Operand → Bool
  | .tmp _ => true
  | .const v => flatB 8 v
  | .global g => Nat.ble (Nat.succ g) ng
  | .func _ => true

/-- clear, at a slice. -/
def aclear (P : Program) (ats : Array TypeId) (x : Value) (h : AHeap) : Option AHeap :=
  match (ats[0]?).bind P.underlying, x with
  | some (.slice e), .slice base n _ => match base with
    | none => if n = 0 then some h else none
    | some ⟨v, o, sp⟩ => if n = 0 then some h else if sp = some 1 then none else ((P.info? e).bind (·.zero)).bind fun z => putAt v o (Builtin.zeroCells z.cells n).toList h
  | _, _ => none

def alen (P : Program) (ats : Array TypeId) (x : Value) (h : AHeap) : Option Value :=
  match (ats[0]?).bind P.underlying, x with
  | some (.map _ _), x => (mapOf x h).map fun kv => goInt kv.length
  | _, _ => none

/-- Any operation but a call of a function. -/
def ostep (P : Program) (o : Oper) (ev : Operand → Value) (h : AHeap) : Option (Value × AHeap) :=
  match o.op with
  | .load t a => match aload P t (ev a) h with | some v => some (v, h) | none => none
  | .store t a x => match astore P t (ev a) (ev x) h with | some h' => some (undef, h') | none => none
  | .mapUpdate t m k x => match amapUpdate P t (ev m) (ev k) (ev x) h with | some h' => some (undef, h') | none => none
  | .insert t m k x => match amapUpdate P t (ev m) (ev k) (ev x) h with | some h' => some (undef, h') | none => none
  | .lookup t x i ok => match alookup P t (ev x) (ev i) ok h with | some v => some (v, h) | none => none
  | .next it s => anext (ev it) s h
  | .call c => match c.callee with
    | .builtin .append => match c.args.toList with
      | [x, y] => aappend P c.argTypes (ev x) (ev y) h
      | _ => none
    | .builtin .copy => match c.args.toList with
      | [x, y] => acopy P c.argTypes (ev x) (ev y) h
      | _ => none
    | .builtin .clear => match c.args.toList with
      | [x] => match aclear P c.argTypes (ev x) h with | some h' => some (.tuple #[], h') | none => none
      | _ => none
    | .builtin b => match pstep P o ev h.next with
      | some (v, nb) => match nb with
        | none => some (v, h)
        | some B => some (v, h.alloc B)
      | none => match b, c.args.toList with
        | .len, [x] => match alen P c.argTypes (ev x) h with | some v => some (v, h) | none => none
        | _, _ => none
    | _ => none
  | _ => match pstep P o ev h.next with
    | some (v, nb) => match nb with
      | none => some (v, h)
      | some B => some (v, h.alloc B)
    | none => none

/-- What an operation of a region that draws its order does to the memory. -/
inductive Cls where
  | p
  | a (v : Nat)
  | l (v : Nat)
  | s (v : Nat)
  | w (v : Nat)
  | g
  | x

def clsOf (o : Oper) (ev : Operand → Value) : Cls :=
  match o.op with
  | .load _ a => match ptrBlk (ev a) with | some v => .l v | none => .x
  | .store _ a _ => match ptrBlk (ev a) with | some v => .s v | none => .x
  | .lookup _ x _ _ => match ev x with | .map (some v) => .l v | _ => .x
  | .mapUpdate .. | .insert .. | .next .. => .x
  | .call c => match c.callee with
    | .builtin .append | .builtin .copy | .builtin .clear => .x
    | .builtin .len => match c.args.toList with
      | [a] => match ev a with | .map _ => .x | _ => .p
      | _ => .p
    | .builtin _ => .p
    | _ => .x
  | _ => .p

/-- Two operations that nothing orders may stand side by side. -/
def Cls.compat : Cls → Cls → Bool
  | .p, _ => true
  | _, .p => true
  | .a u, c => match c with
    | .s v => !Nat.beq u v
    | .l v => !Nat.beq u v
    | .x => false
    | .w _ => false
    | _ => true
  | .l u, c => match c with
    | .l _ => true
    | .g => true
    | .s v => !Nat.beq u v
    | .a v => !Nat.beq u v
    | .w v => !Nat.beq u v
    | _ => false
  | .w u, c => match c with
    | .l v => !Nat.beq u v
    | _ => false
  | .s u, c => match c with
    | .l v => !Nat.beq u v
    | .a v => !Nat.beq u v
    | _ => false
  | .g, c => match c with
    | .l _ => true
    | .g => true
    | .a _ => true
    | _ => false
  | .x, _ => false

def Cls.loud : Cls → Bool
  | .p => false
  | _ => true

structure St where
  t : ATm
  ds : List Nat
  h : AHeap

/-- A function: its text. -/
structure FInfo where
  fn : Func
  code : Code

/-- What the evaluator asks of itself with less fuel. -/
structure Rec where
  ext : FuncId → Option (Array Value → Sem Value)
  call : FuncId → Array Value → AHeap → Option (Value × AHeap)
  code : Option Nat → Code → St → Option (Exit × St)

/-- An append: the block that it may change. -/
def apCls (o : Oper) (ev : Operand → Value) : Cls :=
  match o.op with
  | .call c => match c.args.toList with
    | [x, _] => match ev x with
      | .slice (some a) _ _ => .w a.block
      | _ => .x
    | _ => .x
  | _ => .x

def awanted (ops : Array Oper) (t : ATm) (o : Oper) : Bool :=
  match o.guard with
  | none => true
  | some (j, want) => match (ops[j]?).bind (·.dst) with
    | some d => match t.get d with
      | .bool b => b == want
      | _ => false
    | none => false

/-- A round of a loop over a function. -/
def around (R : Rec) (l : Nat) (args : Array Value) (h : AHeap) : Option (Value × AHeap) :=
  match h.blk l with
  | some (.loop r) => if args.size = r.params.size then
    match R.code (some l) r.assign ⟨(r.params.zip args).foldl (fun t (d, a) => t.put (some d) a) r.tmps, [], h⟩ with
    | some (.normal, st1) => match st1.h.blk l with
      | some (.loop r1) => match r1.state, st1.ds with
        | .ready, [] => match R.code (some l) r.body ⟨st1.t, [], st1.h.put l (some (.loop { r1 with state := .busy }))⟩ with
          | some (e, st2) => match st2.h.blk l, st2.ds with
            | some (.loop r2), [] => match e with
              | .normal => some (.bool true, st2.h.put l (some (.loop { r2 with state := .ready, pending := none })))
              | .ret => some (.bool false, st2.h.put l (some (.loop { r2 with state := .done, pending := some .ret })))
              | .exit id => some (.bool false, st2.h.put l (some (.loop { r2 with state := .done, pending := some (.exit id) })))
              | _ => none
            | _, _ => none
          | none => none
        | _, _ => none
      | _ => none
    | _ => none
    else none
  | _ => none

/-- A call of a function's value. -/
def aext (P : Program) (e : Array Value → Sem Value) (args : Array Value) (h : AHeap) : Option (Value × AHeap) :=
  cond (args.toList.all (flatB 8)) (match pureRun P (e args) with | some v => cond (flatB 8 v) (some (v, h)) none | none => none) none

def acall (P : Program) (R : Rec) (f : Value) (args : Array Value) (h : AHeap) : Option (Value × AHeap) :=
  match f with
  | .func (.func g) fs cs => match R.ext g with
    | some e => aext P e (fs ++ args ++ cs) h
    | none => R.call g (fs ++ args ++ cs) h
  | .func (.yield l) fs _ => around R l (fs ++ args) h
  | _ => none

def stepOp (P : Program) (R : Rec) (ops : Array Oper) (o : Oper) (st : St) : Option (St × Cls) :=
  cond (awanted ops st.t o)
    (cond (o.op.operands.toList.all (opdOk st.h.ng))
      (match o.op with
        | .call ⟨.value f, args, _⟩ => match acall P R (evo st.t f) (args.map (evo st.t)) { st.h with lo := st.h.next } with
          | some (v, h') => some (⟨st.t.put o.dst v, st.ds, { h' with lo := cond (Nat.ble st.h.lo h'.lo) st.h.lo h'.lo }⟩, cond (Nat.ble st.h.next h'.lo) .g .x)
          | none => none
        | .call ⟨.builtin .append, _, _⟩ => match ostep P o (evo st.t) { st.h with lo := st.h.next } with
          | some (v, h') => some (⟨st.t.put o.dst v, st.ds, { h' with lo := cond (Nat.ble st.h.lo h'.lo) st.h.lo h'.lo }⟩, cond (Nat.ble st.h.next h'.lo) .g (apCls o (evo st.t)))
          | none => none
        | _ => match ostep P o (evo st.t) st.h with
          | some (v, h') => some (⟨st.t.put o.dst v, st.ds, h'⟩, match clsOf o (evo st.t) with | .p => cond (Nat.beq h'.next st.h.next) .p (.a st.h.next) | c => c)
          | none => none)
      none)
    (some (⟨st.t.put o.dst undef, st.ds, st.h⟩, .p))

def runOps (P : Program) (R : Rec) (ops : Array Oper) : List Oper → St → Option St
  | [], st => some st
  | o :: rest, st => match stepOp P R ops o st with
    | some (st', _) => runOps P R ops rest st'
    | none => none

/-- The same with what each has done, last first. -/
def runTr (P : Program) (R : Rec) (ops : Array Oper) : List Oper → St → List Cls → Option (St × List Cls)
  | [], st, tr => some (st, tr)
  | o :: rest, st, tr => match stepOp P R ops o st with
    | some (st', c) => runTr P R ops rest st' (c :: tr)
    | none => none

/-- The n-th of a list whose last is the 0-th. -/
def fromEnd (l : List Nat) (n : Nat) : Nat := cond (Nat.ble (Nat.succ n) l.length) (l.getD (l.length - Nat.succ n) 0) 0

/-- Which operations are ahead of one by its edges, and by those of these. -/
def maskOf (acc : List Nat) : List Edge → Nat → Nat
  | [], s => s
  | e :: es, s => maskOf acc es (cond (Region.binds .any e) (s ||| 2 ^ e.on ||| fromEnd acc e.on) s)

/-- The same for each of a region, last first. -/
def masks : List Oper → List Nat → List Nat
  | [], acc => acc
  | o :: os, acc => masks os (maskOf acc o.after.toList 0 :: acc)

/-- The temporaries that an operation looks at or writes. -/
def opNames (ops : Array Oper) (o : Oper) : List Nat :=
  (match o.dst with | some d => [d] | none => []) ++ (o.op.operands.toList.filterMap fun | .tmp t => some t | _ => none) ++
  (match o.guard with | some (g, _) => ((ops[g]?).bind (·.dst)).toList | none => [])

/-- No operation looks at or writes what another writes that it stands in no order with: d is written by the i-th, the others come last first. -/
def namesOne (ops : Array Oper) (bs : List Nat) (i : Nat) (d : Nat) : List Oper → Bool
  | [] => true
  | o :: rest => (cond (Nat.beq rest.length i) true (cond ((opNames ops o).all fun t => !Nat.beq t d) true
      (cond (Nat.ble (Nat.succ i) rest.length) (Nat.testBit (fromEnd bs rest.length) i) (Nat.testBit (fromEnd bs i) rest.length)))) && namesOne ops bs i d rest

def namesOk (ops : Array Oper) (bs : List Nat) (all : List Oper) : List Oper → Bool
  | [] => true
  | o :: rest => (match o.dst with | some d => namesOne ops bs rest.length d all | none => true) && namesOk ops bs all rest

/-- Each edge goes back. -/
def backOk : List Oper → Bool
  | [] => true
  | o :: rest => (o.after.toList.all fun e => cond (Region.binds .any e) (Nat.ble (Nat.succ e.on) rest.length) true) && backOk rest

/-- The operations that must come ahead of one, in a mode. -/
def predM (md : Region.Mode) : List Edge → Nat → Nat
  | [], s => s
  | e :: es, s => predM md es (cond (Region.binds md e) (s ||| 2 ^ e.on) s)

def preds (md : Region.Mode) : List Oper → Nat → List (Nat × Nat)
  | [], _ => []
  | o :: os, i => (i, predM md o.after.toList 0) :: preds md os (i + 1)

def pickOne (S : Nat) : List (Nat × Nat) → Option (Nat × List (Nat × Nat))
  | [] => none
  | (i, p) :: r => cond (Nat.beq (Nat.land p S) p) (some (i, r)) (match pickOne S r with | some (j, r') => some (j, (i, p) :: r') | none => none)

def greedy : Nat → List (Nat × Nat) → Nat → Bool
  | _, [], _ => true
  | 0, _ :: _, _ => false
  | f + 1, x :: l, S => match pickOne S (x :: l) with
    | none => false
    | some (i, r) => greedy f r (S ||| 2 ^ i)

/-- In this mode there is an order of them all. -/
def modeOk (md : Region.Mode) (ops : Array Oper) : Bool := greedy ops.size (preds md ops.toList 0) 0

def statOk (ops : Array Oper) : Bool :=
  let r := ops.toList.reverse
  backOk r && namesOk ops (masks ops.toList []) r r && (modeOk .text ops && modeOk .gc ops)

/-- The classes of the operations ahead of the one of class c (last first), against it; b: which are ahead of it by the edges. -/
def drawOne (b : Nat) (c : Cls) : List Cls → Bool
  | [] => true
  | c' :: rest => (c'.compat c || Nat.testBit b rest.length) && drawOne b c rest

def drawOk : List Nat → List Cls → Bool
  | b :: bs, c :: rest => cond c.loud (drawOne b c rest) true && drawOk bs rest
  | _, _ => true

def finish (d : Nat) (l : Nat) (st : St) (h : AHeap) : Option (Exit × St) :=
  match h.blk l with
  | some (.loop r) => match r.state with
    | .busy => none
    | _ => let st' : St := ⟨st.t, d :: st.ds, h.put l (some (.loop { r with state := .exhausted }))⟩
      match r.pending with
      | none => some (.normal, st')
      | some .ret => some (.ret, st')
      | some (.exit id) => some (.exit id, st')
      | _ => none
  | _ => none

def loopN (f : St → Option (Exit × St)) : Nat → St → Option (Exit × St)
  | 0, _ => none
  | n + 1, st => match f st with
    | some (.normal, st') => loopN f n st'
    | r => r

def exec (P : Program) (R : Rec) (L : Nat) (ro : Option Nat) : Code → St → Option (Exit × St)
  | .skip, st => some (.normal, st)
  | .region _ ops false, st => match runOps P R ops ops.toList st with
    | some st' => some (.normal, st')
    | none => none
  | .region _ ops true, st => match runTr P R ops ops.toList st [] with
    | some (st', tr) => cond (statOk ops && drawOk (masks ops.toList []) tr) (some (.normal, st')) none
    | none => none
  | .seq a b, st => match exec P R L ro a st with
    | some (.normal, st') => exec P R L ro b st'
    | r => r
  | .cond c x y, st => match evo st.t c with
    | .bool true => exec P R L ro x st
    | .bool false => exec P R L ro y st
    | _ => none
  | .block id c, st => match exec P R L ro c st with
    | some (.exit id', st') => cond (Nat.beq id' id) (some (.normal, st')) (some (.exit id', st'))
    | r => r
  | .loop c, st => loopN (exec P R L ro c) L st
  | .exit id, st => some (.exit id, st)
  | .ret, st => some (.ret, st)
  | .label _, st => some (.normal, st)
  | .scope c, st => match exec P R L ro c st with
    | some (.goto _, _) => none
    | r => r
  | .rangeFunc g params assign body, st => match ro with
    | some _ => none
    | none => cond (opdOk st.h.ng g)
      (let h2 := (st.h.alloc .defs).alloc (.loop ⟨.ready, none, st.t, params, assign, body, st.h.next⟩)
        match evo st.t g with
        | .func (.func f) fs cs => match R.call f (fs ++ #[.func (.yield (st.h.next + 1)) #[] #[]] ++ cs) h2 with
          | some (_, h3) => finish st.h.next (st.h.next + 1) st h3
          | none => none
        | _ => none)
      none
  | _, _ => none

def enterT (args : List Value) (n : Nat) : ATm := ⟨(args.foldl (fun (s : Trie Value × Nat) v => (s.1.put s.2 (some v), s.2 + 1)) (.leaf, 0)).1, if args.length ≤ n then n else args.length⟩

/-- The marks of the loops over functions fall when the function ends. -/
def ends : List Nat → AHeap → Option AHeap
  | [], h => some h
  | d :: ds, h => match h.blk d with
    | some .defs => ends ds (h.put d none)
    | _ => none

def aresult (P : Program) (t : ATm) (h : AHeap) : ResultVar → Option Value
  | .tmp d => some (t.get d)
  | .cell a ty => aload P ty (t.get a) h

def aresults (P : Program) (t : ATm) (h : AHeap) : List ResultVar → Option (List Value)
  | [] => some []
  | r :: rs => match aresult P t h r with
    | some v => match aresults P t h rs with
      | some vs => some (v :: vs)
      | none => none
    | none => none

def oneOf : List Value → Value
  | [v] => v
  | vs => .tuple vs.toArray

def callBody (P : Program) (F : FuncId → Option FInfo) (R : Rec) (L : Nat) (f : FuncId) (args : Array Value) (h : AHeap) : Option (Value × AHeap) :=
  match F f with
  | some ⟨fn, code⟩ => match exec P R L none code ⟨enterT args.toList fn.ntmps, [], h⟩ with
    | some (e, st) => match (match e with | .normal => true | .ret => true | _ => false) with
      | true => match ends st.ds st.h with
        | some h' => match aresults P st.t h' fn.results.toList with
          | some vs => some (oneOf vs, h')
          | none => none
        | none => none
      | false => none
    | none => none
  | none => none

def runN (P : Program) (F : FuncId → Option FInfo) (X : FuncId → Option (Array Value → Sem Value)) (L : Nat) : Nat → Rec
  | 0 => ⟨X, fun _ _ _ => none, fun _ _ _ => none⟩
  | n + 1 => ⟨X, callBody P F (runN P F X L n) L, exec P (runN P F X L n) L⟩

end Go.VE
