import Derived.Test.YthjinaagdfnmhaaGreatDoorVz
namespace Go.VE
open Go
set_option linter.unusedVariables false
set_option linter.unusedSimpArgs false

noncomputable section

/-! #### Code, worked out -/

structure C4 where
  run : Rec → Nat → Option Nat → St → Option (Exit × St)

def runL (l : List C3) (R : Rec) (st : St) : Option St :=
  List.rec (motive := fun _ => St → Option St) (fun st => some st) (fun c _ ih st => Option.rec (motive := fun _ => Option St) none (fun q => ih q.1) (c.run R st)) l st
def runLT (l : List C3) (R : Rec) (st : St) (tr : List Cls) : Option (St × List Cls) :=
  List.rec (motive := fun _ => St → List Cls → Option (St × List Cls)) (fun st tr => some (st, tr)) (fun c _ ih st tr => Option.rec (motive := fun _ => Option (St × List Cls)) none (fun q => ih q.1 (q.2 :: tr)) (c.run R st)) l st tr

theorem runL_ok {P : Program} {R : Rec} {ops : Array Oper} : ∀ (l : List Oper) (st : St) {r : St}, runL (l.map (stepC P ops)) R st = some r → runOps P R ops l st = some r := by
  intro l
  induction l with
  | nil => intro st r h; exact h
  | cons o l ih =>
    intro st r h
    have h' : Option.rec (motive := fun _ => Option St) none (fun q => runL (l.map (stepC P ops)) R q.1) ((stepC P ops o).run R st) = some r := h
    cases hc : (stepC P ops o).run R st with
    | none => rw [hc] at h'; cases h'
    | some q =>
      rw [hc] at h'
      simp only [runOps, stepC_ok hc]
      exact ih _ h'
theorem runLT_ok {P : Program} {R : Rec} {ops : Array Oper} : ∀ (l : List Oper) (st : St) (tr : List Cls) {r : St × List Cls}, runLT (l.map (stepC P ops)) R st tr = some r → runTr P R ops l st tr = some r := by
  intro l
  induction l with
  | nil => intro st tr r h; exact h
  | cons o l ih =>
    intro st tr r h
    have h' : Option.rec (motive := fun _ => Option (St × List Cls)) none (fun q => runLT (l.map (stepC P ops)) R q.1 (q.2 :: tr)) ((stepC P ops o).run R st) = some r := h
    cases hc : (stepC P ops o).run R st with
    | none => rw [hc] at h'; cases h'
    | some q =>
      rw [hc] at h'
      simp only [runTr, stepC_ok hc]
      exact ih _ _ h'

def isNormal : Exit → Bool
  | .normal => true
  | _ => false
theorem isNormal_ok {e : Exit} (h : isNormal e = true) : e = .normal := by cases e <;> first | rfl | cases h
theorem isNormal_no {e : Exit} (h : isNormal e = false) : e ≠ .normal := by rintro rfl; cases h

/-- On behind a normal end. -/
def andThen (r : Option (Exit × St)) (k : St → Option (Exit × St)) : Option (Exit × St) :=
  Option.rec (motive := fun _ => Option (Exit × St)) none (fun q => cond (isNormal q.1) (k q.2) (some q)) r

def loopR (f : St → Option (Exit × St)) (n : Nat) (st : St) : Option (Exit × St) :=
  Nat.rec (motive := fun _ => St → Option (Exit × St)) (fun _ => none) (fun _ ih st => andThen (f st) ih) n st

def okExit (r : Option St) : Option (Exit × St) := Option.rec (motive := fun _ => Option (Exit × St)) none (fun st => some (.normal, st)) r

def drawnC (bs : List Nat) (r : Option (St × List Cls)) : Option (Exit × St) :=
  Option.rec (motive := fun _ => Option (Exit × St)) none (fun q => cond (drawOk bs q.2) (some (.normal, q.1)) none) r

def blockC (id : Nat) (r : Option (Exit × St)) : Option (Exit × St) :=
  Option.rec (motive := fun _ => Option (Exit × St)) none (fun q => match q.1 with
    | .exit id' => cond (Nat.beq id' id) (some (.normal, q.2)) (some q)
    | _ => some q) r

def scopeC (r : Option (Exit × St)) : Option (Exit × St) :=
  Option.rec (motive := fun _ => Option (Exit × St)) none (fun q => match q.1 with
    | .goto _ => none
    | _ => some q) r

def codeC (P : Program) (c : Code) : C4 :=
  Code.rec (motive := fun _ => C4)
    ⟨fun _ _ _ st => some (.normal, st)⟩
    (fun id ops draw => match draw with
      | false => ⟨fun R _ _ st => okExit (runL (ops.toList.map (stepC P ops)) R st)⟩
      | true => match statOk ops with
        | true => ⟨fun R _ _ st => drawnC (masks ops.toList []) (runLT (ops.toList.map (stepC P ops)) R st [])⟩
        | false => ⟨fun _ _ _ _ => none⟩)
    (fun _ _ a b => ⟨fun R L ro st => andThen (a.run R L ro st) fun st' => b.run R L ro st'⟩)
    (fun c _ _ x y => ⟨fun R L ro st => match boolOf ((acc c).f st.t) with
      | some t => cond t (x.run R L ro st) (y.run R L ro st)
      | none => none⟩)
    (fun id _ a => ⟨fun R L ro st => blockC id (a.run R L ro st)⟩)
    (fun _ a => ⟨fun R L ro st => loopR (fun st => a.run R L ro st) L st⟩)
    (fun g ps as b _ _ => ⟨fun R L ro st => exec P R L ro (.rangeFunc g ps as b) st⟩)
    (fun id => ⟨fun _ _ _ st => some (.exit id, st)⟩)
    (fun _ a => ⟨fun R L ro st => scopeC (a.run R L ro st)⟩)
    (fun _ => ⟨fun _ _ _ st => some (.normal, st)⟩)
    (fun _ => ⟨fun _ _ _ _ => none⟩)
    ⟨fun _ _ _ st => some (.ret, st)⟩
    (fun _ => ⟨fun _ _ _ _ => none⟩)
    c

theorem andThen_ok {P : Program} {R : Rec} {L : Nat} {ro : Option Nat} {r0 : Option (Exit × St)} {k : St → Option (Exit × St)} {r : Exit × St} (h : andThen r0 k = some r) :
    (∃ st', r0 = some (.normal, st') ∧ k st' = some r) ∨ (r0 = some r ∧ r.1 ≠ .normal) := by
  cases r0 with
  | none => cases h
  | some q =>
    have h' : cond (isNormal q.1) (k q.2) (some q) = some r := h
    cases hn : isNormal q.1 with
    | true =>
      rw [hn] at h'
      obtain ⟨e, st⟩ := q
      have := isNormal_ok hn
      simp only at this
      subst this
      exact .inl ⟨st, rfl, h'⟩
    | false =>
      rw [hn] at h'
      cases h'
      exact .inr ⟨rfl, isNormal_no hn⟩

theorem codeC_ok {P : Program} {R : Rec} {L : Nat} {ro : Option Nat} : ∀ (c : Code) (st : St) (r : Exit × St), (codeC P c).run R L ro st = some r → exec P R L ro c st = some r := by
  intro c
  induction c with
  | skip => intro st r h; exact h
  | region id ops draw =>
    intro st r h
    cases draw with
    | false =>
      have h' : okExit (runL (ops.toList.map (stepC P ops)) R st) = some r := h
      cases hc : runL (ops.toList.map (stepC P ops)) R st with
      | none => rw [hc] at h'; cases h'
      | some q =>
        rw [hc] at h'
        cases h'
        simp only [exec, runL_ok _ _ hc]
    | true =>
      have h' : (match statOk ops with
        | true => (⟨fun R _ _ st => drawnC (masks ops.toList []) (runLT (ops.toList.map (stepC P ops)) R st [])⟩ : C4)
        | false => ⟨fun _ _ _ _ => none⟩).run R L ro st = some r := h
      split at h'
      · rename_i hst
        replace h' : drawnC (masks ops.toList []) (runLT (ops.toList.map (stepC P ops)) R st []) = some r := h'
        cases hc : runLT (ops.toList.map (stepC P ops)) R st [] with
        | none => rw [hc] at h'; cases h'
        | some q =>
          rw [hc] at h'
          have h2 : cond (drawOk (masks ops.toList []) q.2) (some (Exit.normal, q.1)) none = some r := h'
          simp only [exec, runLT_ok _ _ _ hc, hst, Bool.true_and]
          exact h2
      · cases h'
  | seq a b iha ihb =>
    intro st r h
    rcases andThen_ok (P := P) (R := R) (L := L) (ro := ro) (show andThen ((codeC P a).run R L ro st) (fun st' => (codeC P b).run R L ro st') = some r from h) with ⟨st', h1, h2⟩ | ⟨h1, h2⟩
    · simp only [exec, iha _ _ h1]
      exact ihb _ _ h2
    · obtain ⟨e, st'⟩ := r
      simp only [exec, iha _ _ h1]
      cases e <;> first | rfl | exact absurd rfl h2
  | cond c x y ihx ihy =>
    intro st r h
    have h' : (match boolOf ((acc c).f st.t) with
      | some t => cond t ((codeC P x).run R L ro st) ((codeC P y).run R L ro st)
      | none => none) = some r := h
    rw [acc_eq] at h'
    split at h'
    · rename_i t ht
      simp only [exec, boolOf_ok ht]
      cases t with
      | true => exact ihx _ _ h'
      | false => exact ihy _ _ h'
    · cases h'
  | block id c ih =>
    intro st r h
    have h' : blockC id ((codeC P c).run R L ro st) = some r := h
    cases hc : (codeC P c).run R L ro st with
    | none => rw [hc] at h'; cases h'
    | some q =>
      rw [hc] at h'
      obtain ⟨e, st'⟩ := q
      simp only [exec, ih _ _ hc]
      cases e <;> exact h'
  | loop c ih =>
    intro st r h
    have h' : loopR (fun st => (codeC P c).run R L ro st) L st = some r := h
    simp only [exec]
    have key : ∀ n st, loopR (fun st => (codeC P c).run R L ro st) n st = some r → loopN (exec P R L ro c) n st = some r := by
      intro n
      induction n with
      | zero => intro st h; cases h
      | succ n ihn =>
        intro st h
        rcases andThen_ok (P := P) (R := R) (L := L) (ro := ro) (show andThen ((codeC P c).run R L ro st) (fun st' => loopR (fun st => (codeC P c).run R L ro st) n st') = some r from h) with ⟨st', h1, h2⟩ | ⟨h1, h2⟩
        · simp only [loopN, ih _ _ h1]
          exact ihn _ h2
        · obtain ⟨e, st'⟩ := r
          simp only [loopN, ih _ _ h1]
          cases e <;> first | rfl | exact absurd rfl h2
    exact key L st h'
  | rangeFunc g ps as b iha ihb => intro st r h; exact h
  | exit id => intro st r h; exact h
  | scope c ih =>
    intro st r h
    have h' : scopeC ((codeC P c).run R L ro st) = some r := h
    cases hc : (codeC P c).run R L ro st with
    | none => rw [hc] at h'; cases h'
    | some q =>
      rw [hc] at h'
      obtain ⟨e, st'⟩ := q
      simp only [exec, ih _ _ hc]
      cases e <;> exact h'
  | label l => intro st r h; exact h
  | goto l => intro st r h; cases h
  | ret => intro st r h; exact h
  | refuse w => intro st r h; cases h

/-! #### Functions, worked out -/

def nthF (n : Nat) (l : List Func) : Option Func :=
  Nat.rec (motive := fun _ => List Func → Option Func) (fun l => List.rec (motive := fun _ => Option Func) none (fun x _ _ => some x) l) (fun _ ih l => List.rec (motive := fun _ => Option Func) none (fun _ tl _ => ih tl) l) n l
theorem nthF_eq : ∀ (n : Nat) (l : List Func), nthF n l = l[n]? := by
  intro n
  induction n with
  | zero => intro l; cases l <;> rfl
  | succ n ih =>
    intro l
    cases l with
    | nil => rfl
    | cons x l => exact ih l

def FnP (P : Program) (f : FuncId) : Option FInfo :=
  match nthF f P.funcs.toList with
  | some fn => match fn.name == "runtime.NumGoroutine" with
    | true => none
    | false => match fn.body with
      | some c => some ⟨fn, c⟩
      | none => none
  | none => none
def ExP (P : Program) (f : FuncId) : Option (Array Value → Sem Value) :=
  match nthF f P.funcs.toList with
  | some fn => match fn.body with
    | some _ => none
    | none => match fn.name == "runtime.NumGoroutine" with
      | true => none
      | false => match Extern.findNext fn with
        | some _ => none
        | none => Extern.find fn
  | none => none

theorem FnP_ok (P : Program) : FOk P (FnP P) (ExP P) := by
  constructor
  · intro f i h
    unfold FnP at h
    split at h
    · rename_i fn hf
      rw [nthF_eq] at hf
      split at h
      · cases h
      · rename_i hn
        split at h
        · rename_i c hc
          cases h
          exact ⟨by simpa using hf, hc, hn⟩
        · cases h
    · cases h
  · intro f e h
    unfold ExP at h
    split at h
    · rename_i fn hf
      rw [nthF_eq] at hf
      split at h
      · cases h
      · rename_i hb
        split at h
        · cases h
        · rename_i hn
          split at h
          · cases h
          · rename_i hx
            exact ⟨fn, by simpa using hf, hb, hn, hx, h⟩
    · cases h

structure CR where
  f : ATm → AHeap → Option Value
def resC (P : Program) : ResultVar → CR
  | .tmp d => ⟨fun t _ => some (tget (path d) t)⟩
  | .cell a ty => ⟨fun t h => aload P ty (tget (path a) t) h⟩
theorem resC_eq (P : Program) (t : ATm) (h : AHeap) (r : ResultVar) : (resC P r).f t h = aresult P t h r := by
  cases r with
  | tmp d => simp only [resC, aresult, tget_eq]
  | cell a ty => simp only [resC, aresult, tget_eq]
def resultsC (l : List CR) (t : ATm) (h : AHeap) : Option (List Value) :=
  List.rec (motive := fun _ => Option (List Value)) (some []) (fun c _ ih => Option.rec (motive := fun _ => Option (List Value)) none (fun v => Option.rec (motive := fun _ => Option (List Value)) none (fun vs => some (v :: vs)) ih) (c.f t h)) l
theorem resultsC_ok {P : Program} {t : ATm} {h : AHeap} : ∀ (l : List ResultVar) (vs : List Value), resultsC (l.map (resC P)) t h = some vs → aresults P t h l = some vs := by
  intro l
  induction l with
  | nil => intro vs h; exact h
  | cons r l ih =>
    intro vs hs
    have h' : Option.rec (motive := fun _ => Option (List Value)) none (fun v => Option.rec (motive := fun _ => Option (List Value)) none (fun vs => some (v :: vs)) (resultsC (l.map (resC P)) t h)) ((resC P r).f t h) = some vs := hs
    rw [resC_eq] at h'
    cases hr : aresult P t h r with
    | none => rw [hr] at h'; cases h'
    | some v =>
      rw [hr] at h'
      cases hl : resultsC (l.map (resC P)) t h with
      | none => rw [hl] at h'; cases h'
      | some vs' =>
        rw [hl] at h'
        cases h'
        simp only [aresults, hr, ih _ hl]

structure CF where
  fn : Func
  code : Code
  n : Nat
  run : C4
  res : List CR

def fnC (P : Program) (f : FuncId) : Option CF :=
  match FnP P f with
  | some ⟨fn, c⟩ => some ⟨fn, c, fn.ntmps, codeC P c, fn.results.toList.map (resC P)⟩
  | none => none

def endOk : Exit → Bool
  | .normal => true
  | .ret => true
  | _ => false

def enterC (args : List Value) (n : Nat) : ATm :=
  ⟨List.rec (motive := fun _ => Nat → Trie Value → Trie Value) (fun _ tr => tr) (fun v _ ih i tr => ih (Nat.succ i) (pt (some v) (path i) tr)) args 0 .leaf, if args.length ≤ n then n else args.length⟩
theorem enterC_eq (args : List Value) (n : Nat) : enterC args n = enterT args n := by
  have key : ∀ (l : List Value) (i : Nat) (tr : Trie Value),
      (List.rec (motive := fun _ => Nat → Trie Value → Trie Value) (fun _ tr => tr) (fun v _ ih i tr => ih (Nat.succ i) (pt (some v) (path i) tr)) l i tr : Trie Value) =
        (l.foldl (fun (s : Trie Value × Nat) v => (s.1.put s.2 (some v), s.2 + 1)) (tr, i)).1 := by
    intro l
    induction l with
    | nil => intro i tr; rfl
    | cons v l ih =>
      intro i tr
      show (List.rec (motive := fun _ => Nat → Trie Value → Trie Value) (fun _ tr => tr) (fun v _ ih i tr => ih (Nat.succ i) (pt (some v) (path i) tr)) l (Nat.succ i) (pt (some v) (path i) tr) : Trie Value) = _
      rw [ih, pt_path]
      rfl
  unfold enterC enterT
  rw [key]

def callBodyC (P : Program) (R : Rec) (L : Nat) (f : FuncId) (args : Array Value) (h : AHeap) : Option (Value × AHeap) :=
  match fnC P f with
  | some cf => Option.rec (motive := fun _ => Option (Value × AHeap)) none (fun q => cond (endOk q.1) (match ends q.2.ds q.2.h with
      | some h' => match resultsC cf.res q.2.t h' with
        | some vs => some (oneOf vs, h')
        | none => none
      | none => none) none) (cf.run.run R L none ⟨enterC args.toList cf.n, [], h⟩)
  | none => none

theorem callBodyC_ok {P : Program} {R : Rec} {L : Nat} {f : FuncId} {args : Array Value} {h : AHeap} {r : Value × AHeap} (hs : callBodyC P R L f args h = some r) : callBody P (FnP P) R L f args h = some r := by
  unfold callBodyC at hs
  split at hs
  case h_2 => cases hs
  rename_i cf hcf
  unfold fnC at hcf
  split at hcf
  case h_2 => cases hcf
  rename_i fn c hF
  cases hcf
  simp only [enterC_eq] at hs
  unfold callBody
  simp only [hF]
  cases hc : (codeC P c).run R L none ⟨enterT args.toList fn.ntmps, [], h⟩ with
  | none => rw [hc] at hs; cases hs
  | some q =>
    obtain ⟨e, st⟩ := q
    rw [hc] at hs
    simp only at hs
    rw [codeC_ok _ _ _ hc]
    simp only
    have fin : (match ends st.ds st.h with
      | some h' => match resultsC (fn.results.toList.map (resC P)) st.t h' with
        | some vs => some (oneOf vs, h')
        | none => none
      | none => none) = some r → (match ends st.ds st.h with
        | some h' => match aresults P st.t h' fn.results.toList with
          | some vs => some (oneOf vs, h')
          | none => none
        | none => none) = some r := by
      intro hs
      split at hs
      · rename_i h' hh
        split at hs
        · rename_i vs hvs
          simp only [resultsC_ok _ _ hvs]
          exact hs
        · cases hs
      · cases hs
    cases e <;> first | exact fin hs | cases hs

/-- The evaluator for the kernel. -/
def runC (P : Program) (L : Nat) (n : Nat) : Rec :=
  Nat.rec (motive := fun _ => Rec) ⟨ExP P, fun _ _ _ => none, fun _ _ _ => none⟩ (fun _ R => ⟨ExP P, fun f args h => callBodyC P R L f args h, fun ro c st => (codeC P c).run R L ro st⟩) n

theorem runC_fr (P : Program) (L : Nat) : ∀ n, RFr (runC P L n) := by
  intro n
  induction n with
  | zero => exact ⟨fun _ _ _ _ _ h => (by cases h), fun _ _ _ _ _ h => (by cases h)⟩
  | succ n ih => exact ⟨fun f args h v h' hs => callBody_fr ih (callBodyC_ok (R := runC P L n) hs), fun ro c st e st' hs => exec_fr ih L ro c st st' e (codeC_ok (R := runC P L n) c st (e, st') hs)⟩

theorem runC_sound {P : Program} (Fi : Fine P) (L : Nat) : ∀ n, RSound P (runC P L n) := by
  have hx := (runN_sound Fi (FnP_ok P) L 0).ext
  intro n
  induction n with
  | zero => exact ⟨hx, fun _ _ _ _ _ h => (by cases h), fun _ _ _ _ _ h => (by cases h)⟩
  | succ n ih => exact ⟨hx, fun f args h v h' hs => callBody_sound Fi (FnP_ok P) ih (runC_fr P L n) (callBodyC_ok (R := runC P L n) hs),
      fun ro c st e st' hs => exec_sound Fi ih (runC_fr P L n) L ro c st st' e (codeC_ok (R := runC P L n) c st (e, st') hs)⟩

end
end Go.VE
