import Derived.Test.YthjinaagdfnmhaaGreatDoorVv
namespace Go.VE
open Go
set_option linter.unusedVariables false
set_option linter.unusedSimpArgs false

/-! ### Functions -/

theorem run_mapM {P : Program} {α β : Type} {f : α → Sem β} {w : World} : ∀ (l : List α) (bs : List β), l.length = bs.length → (∀ (i : Nat) a b, l[i]? = some a → bs[i]? = some b → (f a).run P w = .ok b w) → (l.mapM f).run P w = .ok bs w := by
  intro l
  induction l with
  | nil =>
    intro bs hl _
    cases bs with
    | nil => rw [List.mapM_nil]; rfl
    | cons => simp at hl
  | cons a l ih =>
    intro bs hl h
    cases bs with
    | nil => simp at hl
    | cons b bs =>
      rw [List.mapM_cons, run_bind_ok (h 0 a b rfl rfl), run_bind_ok (ih bs (by simpa using hl) fun i a b h1 h2 => h (i + 1) a b (by simpa using h1) (by simpa using h2))]
      rfl

theorem aresults_ok {P : Program} {ρ : Rho} {t : ATm} {tmps : Array Value} {h : AHeap} {w : World} (T : TRel ρ t tmps) (H : Holds ρ h w) : ∀ (rs : List ResultVar) (vs : List Value), aresults P t h rs = some vs →
    ∃ vs' : List Value, vs'.length = vs.length ∧ rs.length = vs.length ∧ (∀ (i : Nat) x y, vs[i]? = some x → vs'[i]? = some y → VRel ρ x y) ∧
      ∀ (i : Nat) r y, rs[i]? = some r → vs'[i]? = some y → Sem.run P (match r with | .tmp t => (pure (tmps.getD t undef) : Sem Value) | .cell a t => do loadVar t (← asAddr (tmps.getD a undef))) w = .ok y w := by
  intro rs
  induction rs with
  | nil =>
    intro vs h
    cases h
    exact ⟨[], rfl, rfl, fun i x y h => by simp at h, fun i r y h => by simp at h⟩
  | cons r rs ih =>
    intro vs h
    simp only [aresults] at h
    split at h
    case h_2 => cases h
    rename_i v hv
    split at h
    case h_2 => cases h
    rename_i vs1 hvs
    cases h
    obtain ⟨vs', h1, h2, h3, h4⟩ := ih _ hvs
    obtain ⟨v', g1, g2⟩ : ∃ v', VRel ρ v v' ∧ Sem.run P (match r with | .tmp t => (pure (tmps.getD t undef) : Sem Value) | .cell a t => do loadVar t (← asAddr (tmps.getD a undef))) w = .ok v' w := by
      cases r with
      | tmp d => cases hv; exact ⟨_, T.2 d, rfl⟩
      | cell a ty =>
        obtain ⟨u', k1, k2⟩ := aload_ok (show aload P ty (t.get a) h = some v from hv) (T.2 a) fun v p B _ h1 h2 => H.rel v p B h1 h2
        refine ⟨u', k2, ?_⟩
        unfold Instr.loadAt at k1
        simp only
        generalize tmps.getD a undef = q at k1
        cases q with
        | pointer ad =>
          cases ad with
          | some ad => exact k1
          | none => cases k1
        | _ => cases k1
    refine ⟨v' :: vs', by simp [h1], by simp [h2], fun i x y hx hy => ?_, fun i r' y hx hy => ?_⟩
    · cases i with
      | zero => cases hx; cases hy; exact g1
      | succ i => exact h3 i x y (by simpa using hx) (by simpa using hy)
    · cases i with
      | zero => cases hx; cases hy; exact g2
      | succ i => exact h4 i r' y (by simpa using hx) (by simpa using hy)

theorem results_ok {P : Program} {ρ : Rho} {fn : Func} {t : ATm} {tmps : Array Value} {h : AHeap} {w : World} (T : TRel ρ t tmps) (H : Holds ρ h w) {vs : List Value} (hs : aresults P t h fn.results.toList = some vs) :
    ∃ v', (results fn tmps).run P w = .ok v' w ∧ VRel ρ (oneOf vs) v' := by
  obtain ⟨vs', h1, h2, h3, h4⟩ := aresults_ok T H _ _ hs
  have hrun : (results fn tmps).run P w = .ok (if h : vs'.toArray.size = 1 then vs'.toArray[0] else .tuple vs'.toArray) w := by
    unfold results
    rw [Array.mapM_eq_mapM_toList]
    have := run_mapM (P := P) (w := w) fn.results.toList vs' (by rw [h1, h2]) h4
    have hm : Sem.run P (List.toArray <$> fn.results.toList.mapM fun (r : ResultVar) => match r with
        | .tmp t => (pure (tmps.getD t undef) : Sem Value)
        | .cell a t => do loadVar t (← asAddr (tmps.getD a undef))) w = .ok vs'.toArray w := by
      rw [← bind_pure_comp, run_bind_ok this]; rfl
    exact (run_bind_ok hm).trans rfl
  refine ⟨_, hrun, ?_⟩
  unfold oneOf
  split
  · rename_i v
    cases vs' with
    | nil => simp at h1
    | cons v' l =>
      cases l with
      | nil => simp; exact h3 0 _ _ rfl rfl
      | cons => simp at h1
  · rename_i hne
    rw [dif_neg]
    · refine ARel.tuple (.of_get (by simp [h1]) fun i x y hx hy => h3 i x y (by simpa using hx) (by simpa using hy))
    · intro hlen
      have : vs.length = 1 := by rw [← h1]; simpa using hlen
      cases vs with
      | nil => simp at this
      | cons v l =>
        cases l with
        | nil => exact hne v rfl
        | cons => simp at this

theorem enterT_rel {ρ : Rho} {args args' : Array Value} (n : Nat) (r : ARel ρ args args') : TRel ρ (enterT args.toList n) (args' ++ Array.replicate (n - args'.size) undef) := by
  let g : Trie Value × Nat → Value → Trie Value × Nat := fun s v => (s.1.put s.2 (some v), s.2 + 1)
  have key : ∀ (l : List Value) (s : Trie Value × Nat), (l.foldl g s).2 = s.2 + l.length ∧ ∀ i, (l.foldl g s).1.get i = if s.2 ≤ i ∧ i < s.2 + l.length then l[i - s.2]? else s.1.get i := by
    intro l
    induction l with
    | nil => intro s; exact ⟨rfl, fun i => by rw [if_neg (by simp)]; rfl⟩
    | cons x l ih =>
      intro s
      obtain ⟨h1, h2⟩ := ih (g s x)
      refine ⟨by rw [List.foldl_cons, h1]; simp [g]; omega, fun i => ?_⟩
      rw [List.foldl_cons, h2]
      simp only [g, Trie.get_put, List.length_cons]
      by_cases hi : i = s.2
      · subst hi
        rw [if_neg (by omega), if_pos rfl, if_pos (by omega)]
        simp
      · by_cases hlt : s.2 + 1 ≤ i ∧ i < s.2 + 1 + l.length
        · rw [if_pos hlt, if_pos (by omega)]
          have : i - s.2 = (i - (s.2 + 1)) + 1 := by omega
          rw [this]; rfl
        · rw [if_neg hlt, if_neg hi, if_neg (by omega)]
  obtain ⟨_, h2⟩ := key args.toList (.leaf, 0)
  refine ⟨?_, fun i => ?_⟩
  · simp only [enterT, Array.size_append, Array.size_replicate, Array.length_toList, r.1]
    split <;> omega
  · have e1 : (enterT args.toList n).get i = args.getD i undef := by
      unfold ATm.get enterT
      simp only
      rw [h2]
      simp only [Nat.zero_le, true_and, Nat.zero_add, Array.length_toList, Nat.sub_zero, Array.getElem?_toList]
      rw [Array.getD_eq_getD_getElem?]
      split
      · rename_i v hv
        split at hv
        · rw [hv]; rfl
        · cases hv
      · rename_i hv
        split at hv
        · rw [hv]; rfl
        · rename_i hlt
          rw [Array.getElem?_eq_none (by omega)]; rfl
    have e2 : (args' ++ Array.replicate (n - args'.size) undef).getD i undef = args'.getD i undef := by
      simp only [Array.getD_eq_getD_getElem?, Array.getElem?_append, Array.getElem?_replicate]
      split
      · rfl
      · rename_i hlt
        rw [Array.getElem?_eq_none (by omega)]
        split <;> rfl
    rw [e1, e2]
    exact r.2 i

theorem Holds.killSet {ρ : Rho} {h : AHeap} {w : World} (H : Holds ρ h w) {v : Nat} {p : Place} {B : Blk} (hv : ρ v = some p) (hb : h.blk v = some B) (hw : B.wr = true) (o : Obj) :
    Holds ρ (h.put v none) { w with heap := w.heap.setIfInBounds p.block o } ∧ Ext ρ h w ρ (h.put v none) { w with heap := w.heap.setIfInBounds p.block o } := by
  have Hk := H.kill v
  have Ek := Ext.kill H v
  have hoth : ∀ b, b ≠ p.block → (w.heap.setIfInBounds p.block o)[b]? = w.heap[b]? := fun b hb => by simp [Array.getElem?_setIfInBounds, Ne.symm hb]
  refine ⟨⟨Hk.dom, Hk.fresh, fun u q C h1 h2 => (Hk.rel u q C h1 h2).frame (.refl ρ) (hoth _ ?_), Hk.apart, Hk.glob⟩,
    ⟨Ek.ng, Ek.next, Ek.same, Ek.old, fun u q C hu h1 h2 => by have := H.dom u q h1; omega, rfl, rfl, rfl, by simp, fun b hb' hno => hoth _ fun e => hno v p B hv hb hw e.symm⟩⟩
  rw [AHeap.blk_put] at h2
  split at h2
  · cases h2
  · rename_i huv
    exact H.apart u v q p C B huv h1 hv h2 hb

theorem leaves_sound {P : Program} {fn : Func} {tmps : Array Value} {K : Ending → World → Prop} : ∀ (ds : List Nat) (ρ : Rho) (h h' : AHeap) (w : World) (l : List Deferred), ends ds h = some h' → DRel ρ ds l → Holds ρ h w →
    (∀ w', Holds ρ h' w' → Ext ρ h w ρ h' w' → ∃ v, (results fn tmps).run P w' = .ok v w' ∧ K (.returned v) w') → LeavesInM (FW none) 0 P fn tmps K l .returning w := by
  intro ds
  induction ds with
  | nil =>
    intro ρ h h' w l he hd H hK
    cases he
    cases hd
    exact hK w H (.refl _ _ _ H.fresh)
  | cons d ds ih =>
    intro ρ h h' w l he hd H hK
    simp only [ends] at he
    split at he
    case h_2 => cases he
    rename_i hb
    cases hd with
    | cons h1 k1 =>
    obtain ⟨p, hp, ht⟩ := h1
    obtain ⟨_, _, k3⟩ := H.rel _ _ _ hp hb
    obtain ⟨H2, E2⟩ := H.killSet hp hb rfl (.deferred none)
    refine ⟨nofun, .inl ⟨p.block, { w with heap := w.heap.setIfInBounds p.block (.deferred none) }, ht, ?_, ih ρ _ h' _ _ he k1 H2 fun w' Hw' Ew' => hK w' Hw' (Ext.trans H H2 E2 Ew')⟩⟩
    unfold Instr.takeDeferred
    rw [run_bind_ok (getObj_ok k3 nofun)]
    simp only []
    rw [run_bind_ok (setObj_ok k3 nofun)]
    rfl

/-- The table of functions is the program's. -/
structure FOk (P : Program) (F : FuncId → Option FInfo) (X : FuncId → Option (Array Value → Sem Value)) : Prop where
  body : ∀ f i, F f = some i → P.funcs[f]? = some i.fn ∧ i.fn.body = some i.code ∧ (i.fn.name == "runtime.NumGoroutine") = false
  ext : ∀ f e, X f = some e → ∃ fn, P.funcs[f]? = some fn ∧ fn.body = none ∧ (fn.name == "runtime.NumGoroutine") = false ∧ Extern.findNext fn = none ∧ Extern.find fn = some e

theorem callFunc_body {P : Program} {f : FuncId} {fn : Func} {args : Array Value} (h : P.funcs[f]? = some fn) (hb : fn.body.isSome = true) (hn : (fn.name == "runtime.NumGoroutine") = false) (w : World) : (callFunc f args).run P w = .ok (.enter f args) w := by
  unfold callFunc
  rw [run_bind_ok (show (program : Sem Program).run P w = .ok P w from rfl)]
  simp only [h, hn]
  have : fn.body.isNone = false := by cases hx : fn.body <;> simp_all
  rw [this]
  rfl

theorem callBody_sound {P : Program} (Fi : Fine P) {F : FuncId → Option FInfo} {X : FuncId → Option (Array Value → Sem Value)} (FO : FOk P F X) {R : Rec} (RS : RSound P R) (RF : RFr R) {L : Nat} {f : FuncId} {args : Array Value} {h h' : AHeap} {v : Value}
    (hs : callBody P F R L f args h = some (v, h')) : FSound P f args h v h' := by
  unfold callBody at hs
  split at hs
  case h_2 => cases hs
  rename_i fn code hF
  obtain ⟨hf, hb, hn⟩ := FO.body _ _ hF
  simp only at hf hb hn
  split at hs
  case h_2 => cases hs
  rename_i e st hx
  split at hs
  case h_2 => cases hs
  rename_i hnr
  split at hs
  case h_2 => cases hs
  rename_i h1 hends
  split at hs
  case h_2 => cases hs
  rename_i vs hres
  cases hs
  intro ρ args' w ra H
  refine ⟨fun w' => callFunc_body hf (by rw [hb]; rfl) hn w', ?_⟩
  refine callsIn_of_wp_marks hf hb trivial ?_
  have S0 : Sim ρ ⟨enterT args.toList fn.ntmps, [], h⟩ { tmps := args' ++ Array.replicate (fn.ntmps - args'.size) undef, defers := [] } w := ⟨enterT_rel _ ra, .nil, H⟩
  refine wpIn_mono (exec_sound Fi RS RF L none code _ _ _ hx ρ _ w none (fun h => h) S0) ?_
  rintro e' a1 w1 ⟨rfl, ρ1, S1, E1⟩
  have fin : LeavesInM (FW none) 0 P fn a1.tmps (Ret ρ h w (oneOf vs) h') a1.defers .returning w1 := by
    refine leaves_sound st.ds ρ1 st.h h' w1 a1.defers hends S1.ds S1.h fun w2 H2 E2 => ?_
    obtain ⟨v', g1, g2⟩ := results_ok S1.t H2 hres
    exact ⟨v', g1, v', ρ1, rfl, g2, H2, Ext.trans H S1.h E1 E2⟩
  cases e' with
  | normal => exact fin
  | ret => exact fin
  | _ => cases hnr

theorem runN_sound {P : Program} (Fi : Fine P) {F : FuncId → Option FInfo} {X : FuncId → Option (Array Value → Sem Value)} (FO : FOk P F X) (L : Nat) : ∀ n, RSound P (runN P F X L n) := by
  have ext : ∀ f e, X f = some e → ∀ args' w, (callFunc f args').run P w = (do pure (Next.value (← e args')) : Sem Next).run P w := by
    intro f e hX args' w
    obtain ⟨fn, h1, h2, h3, h4, h5⟩ := FO.ext f e hX
    unfold callFunc
    rw [run_bind_ok (show (program : Sem Program).run P w = .ok P w from rfl)]
    simp only [h1, h3, h2, h4, h5]
    rfl
  intro n
  induction n with
  | zero => exact ⟨ext, fun _ _ _ _ _ h => (by cases h), fun _ _ _ _ _ h => (by cases h)⟩
  | succ n ih => exact ⟨ext, fun f args h v h' hs => callBody_sound Fi FO ih (runN_fr P F X L n) hs, fun ro c st e st' hs => exec_sound Fi ih (runN_fr P F X L n) L ro c st st' e hs⟩

/-- A call that the evaluator makes, the machine makes. -/
theorem FSound.calls {P : Program} {f : FuncId} {args : Array Value} {h : AHeap} {v : Value} {h' : AHeap} (S : FSound P f args h v h') {ρ : Rho} {args' : Array Value} {w : World} (ra : ARel ρ args args') (H : Holds ρ h w) :
    Calls P f args' w (Ret ρ h w v h') := callsIn_wide.1 (S ρ args' w ra H).2

end Go.VE
