import Derived.Test.YthjinaagdfnmhaaGreatDoorVy
namespace Go.VE
open Go
set_option linter.unusedVariables false
set_option linter.unusedSimpArgs false

noncomputable section

/-! #### Steps, worked out as far as the text goes -/

structure C3 where
  run : Rec → St → Option (St × Cls)

/-- What is put where. -/
structure CP where
  f : Value → ATm → ATm
def putC : Option Tmp → CP
  | some d => ⟨fun v t => tput d (path d) v t⟩
  | none => ⟨fun _ t => t⟩
theorem putC_eq (dst : Option Tmp) (v : Value) (t : ATm) : (putC dst).f v t = t.put dst v := by
  cases dst with
  | none => rfl
  | some d => exact tput_eq t d v

/-- Whether the class of an operation is p (so far as it lays no block), by its text. -/
def isP (o : Oper) : Bool :=
  match o.op with
  | .load .. | .store .. | .lookup .. | .mapUpdate .. | .insert .. | .next .. | .call _ => false
  | _ => true
theorem isP_ok {o : Oper} (h : isP o = true) (ev : Operand → Value) : clsOf o ev = .p := by
  obtain ⟨dst, op, ty, pos, after, guard⟩ := o
  cases op <;> first | rfl | cases h

def fin1 (p : CP) (st : St) (r : Option (Value × AHeap)) (c : AHeap → Cls) : Option (St × Cls) :=
  Option.rec (motive := fun _ => Option (St × Cls)) none (fun q => some (⟨p.f q.1 st.t, st.ds, q.2⟩, c q.2)) r

def mapAcc (l : List Acc) (t : ATm) : List Value := List.rec (motive := fun _ => List Value) [] (fun a _ ih => a.f t :: ih) l
theorem mapAcc_eq (l : List Operand) (t : ATm) : mapAcc (l.map acc) t = l.map (evo t) := by
  induction l with
  | nil => rfl
  | cons x l ih =>
    show (acc x).f t :: mapAcc (l.map acc) t = _
    rw [ih, acc_eq]; rfl

def callC (P : Program) (R : Rec) (f : Value) (args : List Value) (h : AHeap) : Option (Value × AHeap) :=
  match f with
  | .func fn fs cs => match fn with
    | .func g => match R.ext g with
      | some e => aext P e (fs ++ args.toArray ++ cs) h
      | none => R.call g (fs.toList ++ (args ++ cs.toList)).toArray h
    | .yield l => around R l (fs ++ args.toArray) h
    | _ => none
  | _ => none
theorem callC_eq (P : Program) (R : Rec) (f : Value) (args : List Value) (h : AHeap) : callC P R f args h = acall P R f args.toArray h := by
  unfold callC acall
  cases f with
  | func fn fs cs =>
    cases fn with
    | func g =>
      have e : (fs.toList ++ (args ++ cs.toList)).toArray = fs ++ args.toArray ++ cs := by
        rw [← List.append_assoc]
        apply Array.toList_inj.1
        simp
      simp only [e]
      cases R.ext g <;> rfl
    | _ => rfl
  | _ => rfl

def fin2 (p : CP) (st : St) (r : Option (Value × AHeap)) : Option (St × Cls) :=
  Option.rec (motive := fun _ => Option (St × Cls)) none
    (fun q => some (⟨p.f q.1 st.t, st.ds, { q.2 with lo := cond (Nat.ble st.h.lo q.2.lo) st.h.lo q.2.lo }⟩, cond (Nat.ble st.h.next q.2.lo) .g .x)) r

def fin3 (p : CP) (st : St) (c : Cls) (r : Option (Value × AHeap)) : Option (St × Cls) :=
  Option.rec (motive := fun _ => Option (St × Cls)) none
    (fun q => some (⟨p.f q.1 st.t, st.ds, { q.2 with lo := cond (Nat.ble st.h.lo q.2.lo) st.h.lo q.2.lo }⟩, cond (Nat.ble st.h.next q.2.lo) .g c)) r

def coreC (P : Program) (o : Oper) : C3 :=
  let p := putC o.dst
  match o.op with
  | .call ⟨.value f, args, _⟩ => ⟨fun R st => fin2 p st (callC P R ((acc f).f st.t) (mapAcc (args.toList.map acc) st.t) { st.h with lo := st.h.next })⟩
  | .call ⟨.builtin .append, _, _⟩ => ⟨fun R st => fin3 p st (apCls o (evo st.t)) ((opC P o).f st.t { st.h with lo := st.h.next })⟩
  | _ => match isP o with
    | true => ⟨fun R st => fin1 p st ((opC P o).f st.t st.h) fun h' => cond (Nat.beq h'.next st.h.next) .p (.a st.h.next)⟩
    | false => ⟨fun R st => fin1 p st ((opC P o).f st.t st.h) fun h' => match clsOf o (evo st.t) with | .p => cond (Nat.beq h'.next st.h.next) .p (.a st.h.next) | c => c⟩

theorem opdOk_zero {x : Operand} (h : opdOk 0 x = true) (n : Nat) : opdOk n x = true := by
  cases x with
  | global g => exact absurd (Nat.le_of_ble_eq_true h) (by omega)
  | _ => exact h

/-- The guard aside. -/
def coreS (P : Program) (R : Rec) (o : Oper) (st : St) : Option (St × Cls) :=
  cond (o.op.operands.toList.all (opdOk st.h.ng))
      (match o.op with
        | .call ⟨.value f, args, _⟩ => match acall P R (evo st.t f) (args.map (evo st.t)) { st.h with lo := st.h.next } with
          | some (v, h') => some (⟨st.t.put o.dst v, st.ds, { h' with lo := cond (Nat.ble st.h.lo h'.lo) st.h.lo h'.lo }⟩, cond (Nat.ble st.h.next h'.lo) .g .x)
          | none => none
        | .call ⟨.builtin .append, _, _⟩ => match ostep P o (evo st.t) { st.h with lo := st.h.next } with
          | some (v, h') => some (⟨st.t.put o.dst v, st.ds, { h' with lo := cond (Nat.ble st.h.lo h'.lo) st.h.lo h'.lo }⟩, cond (Nat.ble st.h.next h'.lo) .g (apCls o (evo st.t)))
          | none => none
        | _ => match ostep P o (evo st.t) st.h with
          | some (v, h') => some (⟨st.t.put o.dst v, st.ds, h'⟩, match clsOf o (evo st.t) with | .p => cond (Nat.beq h'.next st.h.next) .p (.a st.h.next) | c => c)
          | none => none)
      none

theorem coreC_ok {P : Program} {o : Oper} {R : Rec} {st : St} {r : St × Cls} (hok : o.op.operands.toList.all (opdOk st.h.ng) = true) (hs : (coreC P o).run R st = some r) : coreS P R o st = some r := by
  have key : ∀ (c : AHeap → Cls), (∀ h' , c h' = match clsOf o (evo st.t) with | .p => cond (Nat.beq h'.next st.h.next) .p (.a st.h.next) | c => c) → fin1 (putC o.dst) st ((opC P o).f st.t st.h) c = some r →
      (match ostep P o (evo st.t) st.h with
        | some (v, h') => some ((⟨st.t.put o.dst v, st.ds, h'⟩ : St), match clsOf o (evo st.t) with | .p => cond (Nat.beq h'.next st.h.next) .p (.a st.h.next) | c => c)
        | none => none) = some r := by
    intro c hc h
    unfold fin1 at h
    cases ho : (opC P o).f st.t st.h with
    | none => rw [ho] at h; cases h
    | some q =>
      rw [ho] at h
      have := opC_ok ho
      rw [this]
      rw [← h]
      simp only [putC_eq, hc]
  have two : (match isP o with
    | true => (⟨fun R st => fin1 (putC o.dst) st ((opC P o).f st.t st.h) fun h' => cond (Nat.beq h'.next st.h.next) .p (.a st.h.next)⟩ : C3)
    | false => ⟨fun R st => fin1 (putC o.dst) st ((opC P o).f st.t st.h) fun h' => match clsOf o (evo st.t) with | .p => cond (Nat.beq h'.next st.h.next) .p (.a st.h.next) | c => c⟩).run R st = some r →
      (match ostep P o (evo st.t) st.h with
        | some (v, h') => some ((⟨st.t.put o.dst v, st.ds, h'⟩ : St), match clsOf o (evo st.t) with | .p => cond (Nat.beq h'.next st.h.next) .p (.a st.h.next) | c => c)
        | none => none) = some r := by
    intro h
    split at h
    · rename_i hp
      exact key _ (fun h' => by rw [isP_ok hp (evo st.t)]) h
    · exact key _ (fun h' => rfl) h
  unfold coreS
  rw [hok]
  obtain ⟨dst, op, ty, pos, after, guard⟩ := o
  cases op with
  | call c =>
    obtain ⟨cl, args, ats⟩ := c
    cases cl with
    | value f =>
      have hs' : fin2 (putC dst) st (callC P R ((acc f).f st.t) (mapAcc (args.toList.map acc) st.t) { st.h with lo := st.h.next }) = some r := hs
      rw [callC_eq, mapAcc_eq, acc_eq] at hs'
      have e : (args.toList.map (evo st.t)).toArray = args.map (evo st.t) := by
        rw [← Array.toList_map, Array.toArray_toList]
      rw [e] at hs'
      show (match acall P R (evo st.t f) (args.map (evo st.t)) { st.h with lo := st.h.next } with
          | some (v, h') => some ((⟨st.t.put dst v, st.ds, { h' with lo := cond (Nat.ble st.h.lo h'.lo) st.h.lo h'.lo }⟩ : St), cond (Nat.ble st.h.next h'.lo) Cls.g .x)
          | none => none) = some r
      cases hc : acall P R (evo st.t f) (args.map (evo st.t)) { st.h with lo := st.h.next } with
      | none => rw [hc] at hs'; cases hs'
      | some q =>
        rw [hc] at hs'
        simp only [fin2, putC_eq] at hs'
        exact hs'
    | builtin b =>
      cases b with
      | append =>
        have hs' : fin3 (putC dst) st (apCls ⟨dst, .call ⟨.builtin .append, args, ats⟩, ty, pos, after, guard⟩ (evo st.t)) ((opC P ⟨dst, .call ⟨.builtin .append, args, ats⟩, ty, pos, after, guard⟩).f st.t { st.h with lo := st.h.next }) = some r := hs
        show (match ostep P ⟨dst, .call ⟨.builtin .append, args, ats⟩, ty, pos, after, guard⟩ (evo st.t) { st.h with lo := st.h.next } with
          | some (v, h') => some ((⟨st.t.put dst v, st.ds, { h' with lo := cond (Nat.ble st.h.lo h'.lo) st.h.lo h'.lo }⟩ : St), cond (Nat.ble st.h.next h'.lo) Cls.g (apCls ⟨dst, .call ⟨.builtin .append, args, ats⟩, ty, pos, after, guard⟩ (evo st.t)))
          | none => none) = some r
        cases hc : (opC P ⟨dst, .call ⟨.builtin .append, args, ats⟩, ty, pos, after, guard⟩).f st.t { st.h with lo := st.h.next } with
        | none => rw [hc] at hs'; cases hs'
        | some q =>
          rw [hc] at hs'
          rw [opC_ok hc]
          simp only [fin3, putC_eq] at hs'
          exact hs'
      | _ => exact two hs
    | _ => exact two hs
  | _ => exact two hs

/-- Operations whose operands are fine whatever the program's variables. -/
def stepC (P : Program) (ops : Array Oper) (o : Oper) : C3 :=
  match o.op.operands.toList.all (opdOk 0) with
  | true => match o.guard with
    | none => coreC P o
    | some (j, want) => match (ops[j]?).bind (·.dst) with
      | some d => ⟨fun R st => match boolOf (tget (path d) st.t) with
        | some b => cond (b == want) ((coreC P o).run R st) (some (⟨(putC o.dst).f undef st.t, st.ds, st.h⟩, .p))
        | none => some (⟨(putC o.dst).f undef st.t, st.ds, st.h⟩, .p)⟩
      | none => ⟨fun R st => some (⟨(putC o.dst).f undef st.t, st.ds, st.h⟩, .p)⟩
  | false => ⟨fun R st => stepOp P R ops o st⟩

theorem stepOp_eq {P : Program} {R : Rec} {ops : Array Oper} {o : Oper} {st : St} : stepOp P R ops o st = cond (awanted ops st.t o) (coreS P R o st) (some (⟨st.t.put o.dst undef, st.ds, st.h⟩, .p)) := rfl

theorem stepC_ok {P : Program} {ops : Array Oper} {o : Oper} {R : Rec} {st : St} {r : St × Cls} (hs : (stepC P ops o).run R st = some r) : stepOp P R ops o st = some r := by
  unfold stepC at hs
  split at hs
  · rename_i h0
    have hok : o.op.operands.toList.all (opdOk st.h.ng) = true := List.all_eq_true.2 fun x hx => opdOk_zero (List.all_eq_true.1 h0 x hx) _
    rw [stepOp_eq]
    unfold awanted
    split at hs
    · rename_i hg
      rw [hg]
      exact coreC_ok hok hs
    · rename_i j want hg
      rw [hg]
      simp only
      split at hs
      · rename_i d hd
        simp only [hd]
        simp only [tget_eq, putC_eq] at hs
        split at hs
        · rename_i b hb
          rw [boolOf_ok hb]
          simp only
          cases hbw : (b == want) with
          | true => rw [hbw] at hs; exact coreC_ok hok hs
          | false => rw [hbw] at hs; exact hs
        · rename_i hb
          generalize st.t.get d = u at hb
          cases u <;> first | exact hs | cases hb
      · rename_i hd
        simp only [hd]
        simp only [putC_eq] at hs
        exact hs
  · exact hs

end
end Go.VE
