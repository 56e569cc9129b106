import Derived.Test.YthjinaagdfnmhaaGreatDoorVzg
namespace Go.VE
open Go
set_option linter.unusedVariables false
set_option linter.unusedSimpArgs false

noncomputable section

/-! ### Calls looked up in a table; blocks that they do not see stay -/

def killAll : List (Nat × Blk) → Trie Blk → Trie Blk
  | [], t => t
  | (i, _) :: l, t => killAll l (t.put i none)

def over (hl hl' : List (Nat × Blk)) (next' : Nat) (h : AHeap) : AHeap := ⟨putAll hl' (killAll hl h.tree), next', h.ng, 0⟩

theorem putAll_or : ∀ (l : List (Nat × Blk)) (t : Trie Blk) (v : Nat), (putAll l t).get v = ((putAll l .leaf).get v).or (t.get v) := by
  intro l
  induction l with
  | nil => intro t v; simp [putAll, Trie.get]
  | cons p l ih =>
    intro t v
    obtain ⟨i, B⟩ := p
    simp only [putAll]
    rw [ih (t.put i (some B)), ih (Trie.leaf.put i (some B)), Trie.get_put, Trie.get_put]
    cases (putAll l .leaf).get v with
    | some C => simp
    | none =>
      simp only [Option.none_or]
      split <;> simp [Trie.get]

theorem killAll_get : ∀ (l : List (Nat × Blk)) (t : Trie Blk) (v : Nat) (B : Blk), (killAll l t).get v = some B → t.get v = some B ∧ ∀ p ∈ l, p.1 ≠ v := by
  intro l
  induction l with
  | nil => intro t v B h; exact ⟨h, fun p hp => by cases hp⟩
  | cons p l ih =>
    intro t v B h
    obtain ⟨i, C⟩ := p
    obtain ⟨h1, h2⟩ := ih _ v B h
    rw [Trie.get_put] at h1
    split at h1
    · cases h1
    · rename_i hne
      refine ⟨h1, fun p hp => ?_⟩
      rcases List.mem_cons.1 hp with e | hp
      · subst e; exact fun e => hne e.symm
      · exact h2 p hp

theorem over_blk {hl hl' : List (Nat × Blk)} {next' ng : Nat} {next : Nat} {h : AHeap} {u : Nat} {B : Blk} (hu : (over hl hl' next' h).blk u = some B) :
    (mkHeap hl' next' ng).blk u = some B ∨ ((mkHeap hl next ng).blk u = none ∧ h.blk u = some B) := by
  have h0 : (putAll hl' (killAll hl h.tree)).get u = some B := hu
  rw [putAll_or] at h0
  cases h1 : (putAll hl' Trie.leaf).get u with
  | some C =>
    rw [h1] at h0
    simp only [Option.some_or, Option.some.injEq] at h0
    subst h0
    exact .inl h1
  | none =>
    rw [h1] at h0
    simp only [Option.none_or] at h0
    obtain ⟨h2, h3⟩ := killAll_get _ _ _ _ h0
    refine .inr ⟨?_, h2⟩
    cases hc : (mkHeap hl next ng).blk u with
    | none => rfl
    | some C => exact absurd rfl (h3 _ (mkHeap_blk hc))

def lookK (ng : Nat) (args : Array Value) (h : AHeap) : List Ent → Option (Value × AHeap)
  | [] => none
  | e :: es => cond (Nat.beq e.next h.next && Nat.beq h.ng ng) (cond (e.okNext && allEq (veq 9) args.toList e.args && subChk e.hl h) (some (e.v, over e.hl e.hl' e.next' h)) none) (lookK ng args h es)

def memoK (g ng : Nat) (es : List Ent) (R : Rec) : Rec := ⟨R.ext, fun f args h => cond (Nat.beq f g) (lookK ng args h es) (R.call f args h), R.code⟩

theorem lookK_ok {ng : Nat} {args : Array Value} {h h' : AHeap} {v : Value} : ∀ (es : List Ent), lookK ng args h es = some (v, h') → ∃ e ∈ es, args = e.args.toArray ∧ Sub (mkHeap e.hl e.next ng) h ∧ v = e.v ∧ h' = over e.hl e.hl' e.next' h ∧ e.okNext = true := by
  intro es
  induction es with
  | nil => intro hs; cases hs
  | cons e es ih =>
    intro hs
    simp only [lookK] at hs
    cases hc : (Nat.beq e.next h.next && Nat.beq h.ng ng) with
    | false =>
      rw [hc] at hs
      obtain ⟨e', hm, r⟩ := ih hs
      exact ⟨e', List.mem_cons_of_mem _ hm, r⟩
    | true =>
      rw [hc] at hs
      simp only [Bool.and_eq_true] at hc
      simp only [cond_true] at hs
      cases hd : (e.okNext && allEq (veq 9) args.toList e.args && subChk e.hl h) with
      | false => rw [hd] at hs; cases hs
      | true =>
        rw [hd] at hs
        cases hs
        simp only [Bool.and_eq_true] at hd
        refine ⟨e, List.mem_cons_self .., arr_of_list (allEq_ok (veq_ok 9) _ _ hd.1.2), ⟨Nat.eq_of_beq_eq_true hc.1, (Nat.eq_of_beq_eq_true hc.2).symm, fun v B hb => subChk_ok _ _ hd.2 v B (mkHeap_blk hb)⟩, rfl, rfl, hd.1.1⟩

theorem memoK_sound {P : Program} {R : Rec} (RS : RSound P R) {g ng : Nat} {es : List Ent} (hE : ∀ e ∈ es, FSound P g e.args.toArray (mkHeap e.hl e.next ng) e.v (mkHeap e.hl' e.next' ng)) : RSound P (memoK g ng es R) := by
  refine ⟨RS.ext, fun f args h v h' hs => ?_, RS.code⟩
  have hs' : cond (Nat.beq f g) (lookK ng args h es) (R.call f args h) = some (v, h') := hs
  cases hf : Nat.beq f g with
  | false => rw [hf] at hs'; exact RS.call f args h v h' hs'
  | true =>
    rw [hf] at hs'
    have := Nat.eq_of_beq_eq_true hf
    subst this
    obtain ⟨e, hm, rfl, hsub, rfl, rfl, _⟩ := lookK_ok es hs'
    exact (hE e hm).frame hsub rfl rfl fun u B hu => over_blk hu

theorem memoK_fr {R : Rec} (RF : RFr R) {g ng : Nat} {es : List Ent} : RFr (memoK g ng es R) := by
  refine ⟨fun f args h v h' hs => ?_, RF.code⟩
  have hs' : cond (Nat.beq f g) (lookK ng args h es) (R.call f args h) = some (v, h') := hs
  cases hf : Nat.beq f g with
  | false => rw [hf] at hs'; exact RF.call f args h v h' hs'
  | true =>
    rw [hf] at hs'
    obtain ⟨e, hm, rfl, hsub, rfl, rfl, hok⟩ := lookK_ok es hs'
    simp only [Ent.okNext, Bool.and_eq_true] at hok
    have h1 := hsub.next
    have h2 := Nat.le_of_ble_eq_true hok.1
    have hn : h.next ≤ e.next' := by
      have : e.next = h.next := h1
      omega
    refine ⟨Nat.zero_le _, hn, rfl, fun u hu => absurd hu (Nat.not_lt_zero _), fun hf v hv => ?_⟩
    cases hb : (over e.hl e.hl' e.next' h).blk v with
    | none => rfl
    | some B =>
      have hv' : e.next' ≤ v := hv
      rcases over_blk (next := e.next) (ng := ng) hb with k | ⟨_, k⟩
      · have := List.all_eq_true.1 hok.2 _ (mkHeap_blk k)
        have h3 := Nat.le_of_ble_eq_true this
        simp only at h3
        omega
      · rw [hf v (by omega)] at k; cases k

/-- The evaluator with calls answered otherwise. -/
def runM (P : Program) (L : Nat) (M : Rec → Rec) (n : Nat) : Rec :=
  Nat.rec (motive := fun _ => Rec) ⟨ExP P, fun _ _ _ => none, fun _ _ _ => none⟩ (fun _ R => M ⟨ExP P, fun f args h => callBodyC P R L f args h, fun ro c st => (codeC P c).run R L ro st⟩) n

theorem runM_fr (P : Program) (L : Nat) {M : Rec → Rec} (hM : ∀ R, RFr R → RFr (M R)) : ∀ n, RFr (runM P L M n) := by
  intro n
  induction n with
  | zero => exact ⟨fun _ _ _ _ _ h => (by cases h), fun _ _ _ _ _ h => (by cases h)⟩
  | succ n ih => exact hM _ ⟨fun f args h v h' hs => callBody_fr ih (callBodyC_ok (R := runM P L M n) hs), fun ro c st e st' hs => exec_fr ih L ro c st st' e (codeC_ok (R := runM P L M n) c st (e, st') hs)⟩

theorem runM_sound {P : Program} (Fi : Fine P) (L : Nat) {M : Rec → Rec} (hM : ∀ R, RFr R → RFr (M R)) (hS : ∀ R, RSound P R → RSound P (M R)) : ∀ n, RSound P (runM P L M n) := by
  have hx := (runN_sound Fi (FnP_ok P) L 0).ext
  intro n
  induction n with
  | zero => exact ⟨hx, fun _ _ _ _ _ h => (by cases h), fun _ _ _ _ _ h => (by cases h)⟩
  | succ n ih => exact hS _ ⟨hx, fun f args h v h' hs => callBody_sound Fi (FnP_ok P) ih (runM_fr P L hM n) (callBodyC_ok (R := runM P L M n) hs),
      fun ro c st e st' hs => exec_sound Fi ih (runM_fr P L hM n) L ro c st st' e (codeC_ok (R := runM P L M n) c st (e, st') hs)⟩

/-- A stage: what a call gives, its heap holding at least the blocks of a list. -/
def gives (r : Option (Value × AHeap)) (v : Value) (hl' : List (Nat × Blk)) (next' ng : Nat) : Bool :=
  match r with
  | some (u, h) => veq 9 u v && Nat.beq h.next next' && Nat.beq h.ng ng && subChk hl' h
  | none => false

theorem gives_ok {P : Program} {R : Rec} (RS : RSound P R) {f : FuncId} {args : Array Value} {H : AHeap} {v : Value} {hl' : List (Nat × Blk)} {next' ng : Nat} (h : gives (R.call f args H) v hl' next' ng = true) :
    FSound P f args H v (mkHeap hl' next' ng) := by
  cases hr : R.call f args H with
  | none => rw [hr] at h; cases h
  | some q =>
    obtain ⟨u, h1⟩ := q
    rw [hr] at h
    simp only [gives, Bool.and_eq_true] at h
    obtain ⟨⟨⟨e1, e2⟩, e3⟩, e4⟩ := h
    have := veq_ok 9 _ _ e1
    subst this
    exact (RS.call _ _ _ _ _ hr).cut ⟨rfl, rfl, fun _ _ h => h⟩ ⟨(Nat.eq_of_beq_eq_true e2).symm, (Nat.eq_of_beq_eq_true e3).symm, fun v B hb => subChk_ok _ _ e4 v B (mkHeap_blk hb)⟩

end
end Go.VE
