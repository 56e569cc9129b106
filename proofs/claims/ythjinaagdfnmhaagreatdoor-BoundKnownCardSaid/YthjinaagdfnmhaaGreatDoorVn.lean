import Derived.Test.YthjinaagdfnmhaaGreatDoorVm
import Derived.TacticsIn
namespace Go.VE
open Go
set_option linter.unusedVariables false
set_option linter.unusedSimpArgs false

/-! ### The machine -/

def FW (r : Option Nat) : Fence := { Fence.wide with round := r }

inductive DRel (ρ : Rho) : List Nat → List Deferred → Prop
  | nil : DRel ρ [] []
  | cons {v : Nat} {d : Deferred} {ds : List Nat} {l : List Deferred} (h : ∃ p, ρ v = some p ∧ d.target = .collected p.block) (k : DRel ρ ds l) : DRel ρ (v :: ds) (d :: l)

theorem DRel.mono {ρ ρ' : Rho} (hl : ρ.le ρ') {ds : List Nat} {l : List Deferred} (h : DRel ρ ds l) : DRel ρ' ds l := by
  induction h with
  | nil => exact .nil
  | cons h _ ih => exact .cons (let ⟨p, h1, h2⟩ := h; ⟨p, hl _ _ h1, h2⟩) ih

structure Sim (ρ : Rho) (st : St) (a : Act) (w : World) : Prop where
  t : TRel ρ st.t a.tmps
  ds : DRel ρ st.ds a.defers
  h : Holds ρ st.h w

/-- What a call comes to. -/
def Ret (ρ : Rho) (h : AHeap) (w : World) (v : Value) (h' : AHeap) : Ending → World → Prop :=
  fun e w' => ∃ v' ρ', e = .returned v' ∧ VRel ρ' v v' ∧ Holds ρ' h' w' ∧ Ext ρ h w ρ' h' w'

def Post (ρ : Rho) (h : AHeap) (w : World) (e : Exit) (st' : St) : Exit → Act → World → Prop :=
  fun e' a' w' => e' = e ∧ ∃ ρ', Sim ρ' st' a' w' ∧ Ext ρ h w ρ' st'.h w'

def FSound (P : Program) (f : FuncId) (args : Array Value) (h : AHeap) (v : Value) (h' : AHeap) : Prop :=
  ∀ ρ args' w, ARel ρ args args' → Holds ρ h w → (∀ w', (callFunc f args').run P w' = .ok (.enter f args') w') ∧ CallsIn (FW none) 0 P f args' w (Ret ρ h w v h')

def CSound (P : Program) (ro : Option Nat) (c : Code) (st : St) (e : Exit) (st' : St) : Prop :=
  ∀ ρ a w r, (ro = none → r = none) → Sim ρ st a w → c.wpIn (FW r) 0 P (Post ρ st.h w e st') a w

structure RSound (P : Program) (R : Rec) : Prop where
  ext : ∀ f e, R.ext f = some e → ∀ args' w, (callFunc f args').run P w = (do pure (Next.value (← e args')) : Sem Next).run P w
  call : ∀ f args h v h', R.call f args h = some (v, h') → FSound P f args h v h'
  code : ∀ ro c st e st', R.code ro c st = some (e, st') → CSound P ro c st e st'

theorem callsIn_round {r r' : Option Nat} {P : Program} {f : FuncId} {args : Array Value} {w : World} {K : Ending → World → Prop} (h : CallsIn (FW r) 0 P f args w K) : CallsIn (FW r') 0 P f args w K := h

/-! ### Operands, guards -/

theorem VRel.bool_iff {ρ : Rho} {x y : Value} (h : VRel ρ x y) (b : Bool) : x = .bool b ↔ y = .bool b := by
  cases h <;> simp

theorem awanted_of {ρ : Rho} {t : ATm} {tmps : Array Value} (ops : Array Oper) (o : Oper) (h : ∀ g d, o.guard = some g → (ops[g.1]?).bind (·.dst) = some d → VRel ρ (t.get d) (tmps.getD d undef)) :
    Region.wanted o (yielded ops tmps) = awanted ops t o := by
  unfold Region.wanted awanted
  cases hg : o.guard with
  | none => rfl
  | some g =>
    obtain ⟨j, want⟩ := g
    simp only [yielded]
    cases hd : (ops[j]?).bind (·.dst) with
    | none => rfl
    | some d =>
      simp only [Option.bind_some]
      have hr := h _ d hg hd
      cases htd : tmps[d]? with
      | none =>
        have : tmps.getD d undef = undef := by rw [Array.getD_eq_getD_getElem?, htd]; rfl
        rw [this] at hr
        generalize t.get d = u at hr
        cases hr <;> rfl
      | some x =>
        have : tmps.getD d undef = x := by rw [Array.getD_eq_getD_getElem?, htd]; rfl
        rw [this] at hr
        generalize t.get d = u at hr
        cases hr <;> simp

theorem awanted_eq {ρ : Rho} {t : ATm} {tmps : Array Value} (h : TRel ρ t tmps) (ops : Array Oper) (o : Oper) : Region.wanted o (yielded ops tmps) = awanted ops t o :=
  awanted_of ops o fun _ d _ _ => h.2 d

theorem evo_rel {ρ : Rho} {st : St} {a : Act} {w : World} (S : Sim ρ st a w) {x : Operand} (hx : opdOk st.h.ng x = true) : VRel ρ (evo st.t x) (a.eval x) := by
  cases x with
  | tmp i => exact S.t.2 i
  | const v => exact .of_flat 8 _ hx
  | global g =>
    have : g < st.h.ng := Nat.le_of_ble_eq_true hx
    obtain ⟨p, h1, h2, h3⟩ := S.h.glob g this
    exact ptr_new (n := g) (b := g) h1 h2 h3
  | func f => exact .func (.func f) rfl (fun i h => absurd h (by simp)) rfl (fun i h => absurd h (by simp))

theorem evo_all {ρ : Rho} {st : St} {a : Act} {w : World} (S : Sim ρ st a w) {xs : Array Operand} (h : xs.toList.all (opdOk st.h.ng) = true) : ∀ x ∈ xs, VRel ρ (evo st.t x) (a.eval x) :=
  fun x hx => evo_rel S (List.all_eq_true.1 h x (by simpa using hx))

theorem Sim.put {ρ ρ' : Rho} {st : St} {a : Act} {w w' : World} (S : Sim ρ st a w) (hl : ρ.le ρ') {dst : Option Tmp} {v v' : Value} {h' : AHeap} (r : VRel ρ' v v') (H : Holds ρ' h' w') :
    Sim ρ' ⟨st.t.put dst v, st.ds, h'⟩ (a.put dst v') w' := by
  refine ⟨?_, ?_, H⟩
  · cases dst with
    | none => exact S.t.mono hl
    | some d => exact (S.t.mono hl).put r d
  · cases dst with
    | none => exact S.ds.mono hl
    | some d => exact S.ds.mono hl

theorem Holds.ghost {ρ : Rho} {h : AHeap} {w : World} (n : Nat) (H : Holds ρ h w) : Holds ρ { h with lo := n } w := H.same (fun _ => rfl) rfl rfl
theorem Ext.ghost {ρ ρ' : Rho} {h h' : AHeap} {w w' : World} (n m : Nat) (E : Ext ρ { h with lo := n } w ρ' h' w') : Ext ρ h w ρ' { h' with lo := m } w' :=
  E.congr (fun _ => rfl) rfl rfl (fun _ => rfl) rfl rfl

/-! ### One operation on the machine -/

/-- What one operation of a region asks. -/
def opIn (r : Option Nat) (P : Program) (ops : Array Oper) (o : Oper) (K : Act → World → Prop) (Q : Exit → Act → World → Prop) (a : Act) (w : World) : Prop :=
  if Region.wanted o (yielded ops a.tmps) then o.wpIn (FW r) 0 P a w K Q else (∀ f, o.about P w a.eval = some f → (FW r).fn f) ∧ K (a.put o.dst undef) w

theorem upon_done {r : Option Nat} {P : Program} {o : Oper} {a : Act} {K : Act → World → Prop} {Q : Exit → Act → World → Prop} {nx : Next} {v : Value} {w : World} (hd : Done nx v) (h : K (a.put o.dst v) w) :
    o.uponIn (FW r) 0 P a K Q (.ok nx w) := by
  rcases hd with rfl | ⟨rfl, rfl⟩ <;> exact h

theorem semAt_call {r : Option Nat} {ev : Operand → Value} {o : Oper} (h : ∀ c, o.op ≠ .defer c) : Oper.semAt (FW r).round ev o = execOp ev o := Oper.semAt_eq _ _ _ h

theorem foldl_put {ρ : Rho} : ∀ (ps : List (Tmp × Value)) (ps' : List (Tmp × Value)) (t : ATm) (a : Array Value), TRel ρ t a → ps'.length = ps.length →
    (∀ (i : Nat) x y, ps[i]? = some x → ps'[i]? = some y → y.1 = x.1 ∧ VRel ρ x.2 y.2) →
    TRel ρ (ps.foldl (fun t (d, a) => t.put (some d) a) t) (ps'.foldl (fun t (d, a) => t.setIfInBounds d a) a) := by
  intro ps
  induction ps with
  | nil =>
    intro ps' t a h hl _
    cases ps' with
    | nil => exact h
    | cons => simp at hl
  | cons x ps ih =>
    intro ps' t a h hl hr
    cases ps' with
    | nil => simp at hl
    | cons y ps' =>
      obtain ⟨e, r⟩ := hr 0 x y rfl rfl
      obtain ⟨xd, xv⟩ := x
      obtain ⟨yd, yv⟩ := y
      cases e
      exact ih ps' _ _ (h.put r _) (by simpa using hl) fun i x y h1 h2 => hr (i + 1) x y (by simpa using h1) (by simpa using h2)

theorem getLoop_ok {P : Program} {b : Nat} {r : Loop} {w : World} (h : w.heap[b]? = some (.loop r)) : (Instr.getLoop b).run P w = .ok r w := by
  unfold Instr.getLoop
  rw [run_bind_ok (getObj_ok h nofun)]; rfl

theorem Holds.setLoop {ρ : Rho} {h : AHeap} {w : World} (H : Holds ρ h w) {l : Nat} {p : Place} {r : ALoop} {r' : Loop} (hl : ρ l = some p) (hb : h.blk l = some (.loop r)) (hr : w.heap[p.block]? = some (.loop r')) (hlr : LoopRel ρ r r')
    (s : LoopState) (j : Option Code) : Holds ρ (h.put l (some (.loop { r with state := s, pending := j }))) { w with heap := w.heap.setIfInBounds p.block (.loop { r' with state := s, pending := j }) } ∧
      Ext ρ h w ρ (h.put l (some (.loop { r with state := s, pending := j }))) { w with heap := w.heap.setIfInBounds p.block (.loop { r' with state := s, pending := j }) } := by
  obtain ⟨p0, p1, _⟩ := H.rel l p _ hl hb
  have hlt : p.block < w.heap.size := (Array.getElem?_eq_some_iff.1 hr).1
  obtain ⟨_, _, g3, g4, g5, g6, g7⟩ := hlr
  exact H.setObj _ hl hb rfl ⟨p0, p1, { r' with state := s, pending := j }, by simp [hlt], rfl, rfl, g3, g4, g5, g6, g7⟩

/-- A round. -/
theorem around_sound {P : Program} {R : Rec} (RS : RSound P R) {ρ : Rho} {l : Nat} {p : Place} {args args' : Array Value} {h h' : AHeap} {v : Value} {w : World} (hs : around R l args h = some (v, h')) (hl : ρ l = some p)
    (ra : ARel ρ args args') (H : Holds ρ h w) (r : Option Nat) : ∃ fn tmps assign body, (Instr.yield p.block args').run P w = .ok (.round p.block fn tmps assign body) w ∧
      RoundIn (FW r) 0 P p.block fn tmps assign body w (Ret ρ h w v h') := by
  unfold around at hs
  split at hs
  case h_2 => cases hs
  rename_i lr hb
  obtain ⟨hsz, hs⟩ := if_some hs
  obtain ⟨p0, p1, lr', g1, gl⟩ := H.rel l p _ hl hb
  have gl' := gl
  obtain ⟨e1, e2, e3, e4, e5, e6, e7⟩ := gl
  split at hs
  case h_2 => cases hs
  rename_i st1 hc1
  split at hs
  case h_2 => cases hs
  rename_i r1 hb1
  split at hs
  case h_2 => cases hs
  rename_i hrs hds1
  split at hs
  case h_2 => cases hs
  rename_i e st2 hc2
  split at hs
  case h_2 => cases hs
  rename_i r2 hb2 hds2
  refine ⟨lr'.fn, (lr'.params.zip args').foldl (fun tmps (t, a) => tmps.setIfInBounds t a) lr'.tmps, lr'.assign, lr'.body, ?_, ?_⟩
  · unfold Instr.yield
    rw [run_bind_ok (getLoop_ok g1), if_neg (by rw [e3, ra.1, hsz]; simp)]
    rfl
  · have rt : TRel ρ ((lr.params.zip args).foldl (fun t (d, a) => t.put (some d) a) lr.tmps) ((lr'.params.zip args').foldl (fun tmps (t, a) => tmps.setIfInBounds t a) lr'.tmps) := by
      rw [e3, ← Array.foldl_toList, ← Array.foldl_toList]
      refine foldl_put _ _ _ _ e6 (by simp [ra.1]) fun i x y h1 h2 => ?_
      simp only [Array.toList_zip, List.getElem?_zip_eq_some, Array.getElem?_toList] at h1 h2
      rw [h1.1] at h2
      obtain ⟨y', k1, k2⟩ := ra.get h1.2
      rw [k1] at h2
      exact ⟨(Option.some.inj h2.1).symm, by rw [← Option.some.inj h2.2]; exact k2⟩
    have hA := RS.code _ _ _ _ _ hc1 ρ { tmps := _, defers := [] } w (some p.block) (by simp) ⟨rt, .nil, H⟩
    refine roundIn_of_wpIn (F := FW r) trivial ?_
    rw [e4]
    refine wpIn_mono hA ?_
    rintro e' a1 w1 ⟨rfl, ρ1, S1, E1⟩
    have hl1 : ρ1 l = some p := E1.le H _ _ hl
    obtain ⟨_, _, r1', k1, kl⟩ := S1.h.rel l p _ hl1 hb1
    have hst1 : r1'.state = .ready := by rw [kl.1, hrs]
    have hbr : (Instr.beginRound p.block).run P w1 = .ok () { w1 with heap := w1.heap.setIfInBounds p.block (.loop { r1' with state := .busy }) } := by
      unfold Instr.beginRound
      rw [run_bind_ok (getLoop_ok k1), run_bind_ok (setObj_ok k1 nofun), hst1]
      rfl
    refine ⟨_, hbr, ?_⟩
    obtain ⟨H2, E2⟩ := S1.h.setLoop hl1 hb1 k1 kl .busy r1.pending
    have hw : ({ r1' with state := .busy, pending := r1.pending } : Loop) = { r1' with state := .busy } := by rw [← kl.2.1]
    rw [hw] at H2 E2
    have hds : a1.defers = [] := by
      have := S1.ds
      rw [hds1] at this
      generalize a1.defers = q at this
      cases this; rfl
    have hB := RS.code _ _ _ _ _ hc2 ρ1 { tmps := a1.tmps, defers := [] } _ (some p.block) (by simp) ⟨S1.t, .nil, H2⟩
    rw [e5]
    have ha : a1 = { tmps := a1.tmps, defers := [] } := by cases a1; simp only at hds; rw [hds]
    rw [ha]
    refine wpIn_mono hB ?_
    rintro e' a2 w2 ⟨rfl, ρ2, S2, E3⟩
    have hl2 : ρ2 l = some p := E3.le H2 _ _ hl1
    obtain ⟨_, _, r2', m1, ml⟩ := S2.h.rel l p _ hl2 hb2
    have E02 := Ext.trans H H2 (Ext.trans H S1.h E1 E2) E3
    have fin : ∀ (j : Option Code) (s : LoopState) (b : Bool) (h'' : AHeap), s = (if j.isNone then .ready else .done) → b = j.isNone → v = .bool b → h'' = st2.h.put l (some (.loop { r2 with state := s, pending := j })) → h' = h'' →
        ∃ v' w', (Instr.endRound p.block j).run P w2 = .ok v' w' ∧ Ret ρ h w v h' (.returned v') w' := by
      intro j s b h'' hsj hbj hv hh'' hh'
      obtain ⟨H3, E4⟩ := S2.h.setLoop hl2 hb2 m1 ml s j
      refine ⟨.bool b, _, ?_, .bool b, ρ2, rfl, by rw [hv]; exact .bool b, by rw [hh', hh'']; exact H3, by rw [hh', hh'']; exact Ext.trans H S2.h E02 E4⟩
      unfold Instr.endRound
      rw [run_bind_ok (getLoop_ok m1), ← hsj, run_bind_ok (setObj_ok m1 nofun), hbj]
      rfl
    split at hs
    · cases hs
      exact fin none .ready true _ rfl rfl rfl rfl rfl
    · cases hs
      exact fin (some .ret) .done false _ rfl rfl rfl rfl rfl
    · rename_i id
      cases hs
      exact fin (some (.exit id)) .done false _ rfl rfl rfl rfl rfl
    · cases hs

/-- The call of a function's value, as an operation makes it. -/
theorem exec_call {ev : Operand → Value} {dst : Option Tmp} {f : Operand} {args : Array Operand} {ats : Array TypeId} {ty : TypeId} {pos : String} {after : Array Edge} {guard : Option (Nat × Bool)} {fn : Fn} {fs cs : Array Value}
    (h : ev f = .func fn fs cs) : execOp ev ⟨dst, .call ⟨.value f, args, ats⟩, ty, pos, after, guard⟩ = invoke (.fn fn cs) (fs ++ args.map ev) := by
  show (Deferred.ofValue (ev f) (args.map ev) >>= fun d => invoke d.target d.args) = _
  rw [h]; rfl

theorem aext_ok {P : Program} {ρ : Rho} {e : Array Value → Sem Value} {args args' : Array Value} {h h' : AHeap} {v : Value} (hs : aext P e args h = some (v, h')) (ra : ARel ρ args args') :
    h' = h ∧ VRel ρ v v ∧ ∀ w, (e args').run P w = .ok v w := by
  unfold aext at hs
  cases hf : args.toList.all (flatB 8) with
  | false => rw [hf] at hs; cases hs
  | true =>
    rw [hf] at hs
    simp only [cond_true] at hs
    split at hs
    · rename_i u hu
      cases hv : flatB 8 u with
      | false => rw [hv] at hs; cases hs
      | true =>
        rw [hv] at hs
        cases hs
        have e1 := flatAll_eq ra (by rw [← Array.all_toList]; exact hf)
        rw [e1]
        exact ⟨rfl, .of_flat 8 _ hv, fun w => pureRun_run hu w⟩
    · cases hs

theorem ostep_defer {P : Program} {o : Oper} {ev : Operand → Value} {h h' : AHeap} {v : Value} (hs : ostep P o ev h = some (v, h')) : ∀ c, o.op ≠ .defer c := by
  intro c hc
  obtain ⟨dst, op, ty, pos, after, guard⟩ := o
  simp only at hc
  subst hc
  cases hs

/-- An operation, its operands alone being as told. -/
theorem stepOp_core {P : Program} (F : Fine P) {R : Rec} (RS : RSound P R) {ops : Array Oper} {o : Oper} {st st' : St} {c : Cls} (hs : stepOp P R ops o st = some (st', c)) :
    ∃ v, st'.t = st.t.put o.dst v ∧ st'.ds = st.ds ∧ ∀ {ρ : Rho} {a : Act} {w : World} (r : Option Nat) {K : Act → World → Prop} {Q : Exit → Act → World → Prop}, Region.wanted o (yielded ops a.tmps) = awanted ops st.t o →
      (∀ x ∈ o.op.operands, opdOk st.h.ng x = true → VRel ρ (evo st.t x) (a.eval x)) → Holds ρ st.h w →
      (∀ v' ρ' w', VRel ρ' v v' → Holds ρ' st'.h w' → Ext ρ st.h w ρ' st'.h w' → K (a.put o.dst v') w') → opIn r P ops o K Q a w := by
  unfold stepOp at hs
  cases hw : awanted ops st.t o with
  | false =>
    rw [hw] at hs
    cases hs
    refine ⟨undef, rfl, rfl, fun {ρ a w} r {K Q} hwant hr H hK => ?_⟩
    unfold opIn
    rw [hwant, if_neg (by simp)]
    exact ⟨fun _ _ => trivial, hK _ ρ w .undef H (.refl _ _ _ H.fresh)⟩
  | true =>
    rw [hw] at hs
    cases ho : o.op.operands.toList.all (opdOk st.h.ng) with
    | false => rw [ho] at hs; cases hs
    | true =>
      rw [ho] at hs
      simp only [cond_true] at hs
      have hok : ∀ x ∈ o.op.operands, opdOk st.h.ng x = true := fun x hx => List.all_eq_true.1 ho x (by simpa using hx)
      split at hs
      · rename_i f args ats hop
        obtain ⟨dst, op, ty, pos, after, guard⟩ := o
        simp only at hop
        subst hop
        split at hs
        case h_2 => cases hs
        rename_i v h' hcall
        cases hs
        refine ⟨v, rfl, rfl, fun {ρ a w} r {K Q} hwant hr0 H hK => ?_⟩
        have hr := fun x hx => hr0 x hx (hok x hx)
        unfold opIn
        rw [hwant, if_pos rfl]
        refine ⟨fun _ _ => trivial, ?_⟩
        rw [semAt_call (fun c h => by cases h)]
        have rf : VRel ρ (evo st.t f) (a.eval f) := hr f (by simp [Op.operands, Call.operands])
        have ra : ARel ρ (args.map (evo st.t)) (args.map a.eval) := .map_ev fun x hx => hr x (by simp [Op.operands, Call.operands, hx])
        have back : ∀ v' ρ' w', VRel ρ' v v' → Holds ρ' h' w' → Ext ρ { st.h with lo := st.h.next } w ρ' h' w' →
            K (a.put dst v') w' := fun v' ρ' w' h1 h2 h3 => hK v' ρ' w' h1 (h2.ghost _) (h3.ghost _ _)
        unfold acall at hcall
        split at hcall
        case h_3 => cases hcall
        · rename_i g fs cs hf
          rw [hf] at rf
          obtain ⟨fs', cs', hf', rfs, rcs⟩ : ∃ fs' cs', a.eval f = .func (.func g) fs' cs' ∧ ARel ρ fs fs' ∧ ARel ρ cs cs' := by
            generalize a.eval f = q at rf
            cases rf with
            | func hf s1 h1 s2 h2 => cases hf; exact ⟨_, _, rfl, .of s1 h1, .of s2 h2⟩
          rw [exec_call hf']
          have hall := (rfs.append ra).append rcs
          show Oper.uponIn (FW r) 0 P _ a K Q ((callFunc g ((fs' ++ args.map a.eval) ++ cs')).run P w)
          split at hcall
          · rename_i e he
            obtain ⟨rfl, h1, h2⟩ := aext_ok hcall hall
            rw [RS.ext _ _ he, val_ok (h2 w)]
            exact back v ρ w h1 (H.ghost _) (.refl _ _ _ (H.ghost _).fresh)
          · obtain ⟨h1, h2⟩ := RS.call _ _ _ _ _ hcall ρ _ w hall (H.ghost _)
            rw [h1]
            refine ⟨by simp [FW, Fence.wide], (callsIn_round h2).mono ?_⟩
            rintro e w' ⟨v', ρ', rfl, g1, g2, g3⟩
            exact back v' ρ' w' g1 g2 g3
        · rename_i l fs cs hf
          rw [hf] at rf
          obtain ⟨p, fs', cs', hp, hf', rfs⟩ : ∃ (p : Place) (fs' cs' : Array Value), ρ l = some p ∧ a.eval f = .func (.yield p.block) fs' cs' ∧ ARel ρ fs fs' := by
            generalize a.eval f = q at rf
            cases rf with
            | func hf s1 h1 s2 h2 => cases hf with | yield hp => exact ⟨_, _, _, hp, rfl, .of s1 h1⟩
          rw [exec_call hf']
          show Oper.uponIn (FW r) 0 P _ a K Q ((Instr.yield p.block (fs' ++ args.map a.eval)).run P w)
          obtain ⟨fn, tmps, assign, body, h1, h2⟩ := around_sound RS hcall hp (rfs.append ra) (H.ghost _) r
          rw [h1]
          refine ⟨by simp [FW, Fence.wide], h2.mono ?_⟩
          rintro e w' ⟨v', ρ', rfl, g1, g2, g3⟩
          exact back v' ρ' w' g1 g2 g3
      · split at hs
        case h_2 => cases hs
        rename_i v h' hstep
        cases hs
        refine ⟨v, rfl, rfl, fun {ρ a w} r {K Q} hwant hr0 H hK => ?_⟩
        unfold opIn
        rw [hwant, if_pos rfl]
        refine ⟨fun _ _ => trivial, ?_⟩
        rw [semAt_call (ostep_defer hstep)]
        obtain ⟨nx, v', w', ρ', g1, g2, g3, g4, g5⟩ := ostep_sound F (fun x hx => hr0 x hx (hok x hx)) hstep (H.ghost _)
        rw [g1]
        exact upon_done g2 (hK v' ρ' w' g3 (g4.ghost _) (g5.ghost _ _))
      · split at hs
        case h_2 => cases hs
        rename_i v h' hstep
        cases hs
        refine ⟨v, rfl, rfl, fun {ρ a w} r {K Q} hwant hr0 H hK => ?_⟩
        unfold opIn
        rw [hwant, if_pos rfl]
        refine ⟨fun _ _ => trivial, ?_⟩
        rw [semAt_call (ostep_defer hstep)]
        obtain ⟨nx, v', w', ρ', g1, g2, g3, g4, g5⟩ := ostep_sound F (fun x hx => hr0 x hx (hok x hx)) hstep H
        rw [g1]
        exact upon_done g2 (hK v' ρ' w' g3 g4 g5)

theorem stepOp_sound {P : Program} (F : Fine P) {R : Rec} (RS : RSound P R) {ops : Array Oper} {o : Oper} {st st' : St} {c : Cls} (hs : stepOp P R ops o st = some (st', c)) {ρ : Rho} {a : Act} {w : World} (S : Sim ρ st a w) (r : Option Nat)
    {K : Act → World → Prop} {Q : Exit → Act → World → Prop} (hK : ∀ ρ' a' w', Sim ρ' st' a' w' → Ext ρ st.h w ρ' st'.h w' → K a' w') : opIn r P ops o K Q a w := by
  obtain ⟨v, h1, h2, h3⟩ := stepOp_core F RS hs
  refine h3 r (awanted_eq S.t ops o) (fun x _ hx => evo_rel S hx) S.h fun v' ρ' w' g1 g2 g3 => hK ρ' _ w' ?_ g3
  have := S.put (dst := o.dst) (g3.le S.h) g1 g2
  obtain ⟨t', ds', h'⟩ := st'
  simp only at h1 h2
  subst h1
  subst h2
  exact this

/-! ### Regions in the order of their text -/

def PostB (ρ : Rho) (h : AHeap) (w : World) (st' : St) : Act → World → Prop := fun a' w' => ∃ ρ', Sim ρ' st' a' w' ∧ Ext ρ h w ρ' st'.h w'

theorem runOps_sound {P : Program} (F : Fine P) {R : Rec} (RS : RSound P R) {ops : Array Oper} (r : Option Nat) {Q : Exit → Act → World → Prop} {st' : St} : ∀ (l : List Oper) (st : St), runOps P R ops l st = some st' →
    ∀ ρ a w, Sim ρ st a w → (∀ ρ' a' w', Sim ρ' st' a' w' → Ext ρ st.h w ρ' st'.h w' → Q .normal a' w') → wpListIn (FW r) 0 P ops Q l a w := by
  intro l
  induction l with
  | nil =>
    intro st hs ρ a w S hQ
    cases hs
    exact hQ ρ a w S (.refl _ _ _ S.h.fresh)
  | cons o l ih =>
    intro st hs ρ a w S hQ
    simp only [runOps] at hs
    split at hs
    case h_2 => cases hs
    rename_i st1 c h1
    exact stepOp_sound F RS h1 S r fun ρ1 a1 w1 S1 E1 => ih st1 hs ρ1 a1 w1 S1 fun ρ2 a2 w2 S2 E2 => hQ ρ2 a2 w2 S2 (Ext.trans S.h S1.h E1 E2)

end Go.VE
