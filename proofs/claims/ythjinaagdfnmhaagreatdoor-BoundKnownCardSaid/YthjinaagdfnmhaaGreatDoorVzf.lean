import Derived.Test.YthjinaagdfnmhaaGreatDoorVze
namespace Go.VE
open Go
set_option linter.unusedVariables false
set_option linter.unusedSimpArgs false

noncomputable section

/-! ### Calls looked up in a table -/

def beqB : Blk → Blk → Bool
  | .cells w g cs, B => match B with | .cells w' g' ds => (w == w') && (g == g') && allEq (veq 9) cs ds | _ => false
  | _, _ => false
theorem beqB_ok {A B : Blk} (h : beqB A B = true) : A = B := by
  cases A <;> cases B <;> simp only [beqB, Bool.and_eq_true, beq_iff_eq, reduceCtorEq, Bool.false_eq_true] at h
  rw [h.1.1, h.1.2, allEq_ok (veq_ok 9) _ _ h.2]

def putAll : List (Nat × Blk) → Trie Blk → Trie Blk
  | [], t => t
  | (i, B) :: l, t => putAll l (t.put i (some B))
def mkHeap (l : List (Nat × Blk)) (next ng : Nat) : AHeap := ⟨putAll l .leaf, next, ng, 0⟩

theorem putAll_get : ∀ (l : List (Nat × Blk)) (t : Trie Blk) (v : Nat) (B : Blk), (putAll l t).get v = some B → t.get v = some B ∨ (v, B) ∈ l := by
  intro l
  induction l with
  | nil => intro t v B h; exact .inl h
  | cons p l ih =>
    intro t v B h
    obtain ⟨i, C⟩ := p
    rcases ih _ v B h with h1 | h1
    · rw [Trie.get_put] at h1
      split at h1
      · rename_i e
        cases h1
        exact .inr (by rw [e]; exact List.mem_cons_self ..)
      · exact .inl h1
    · exact .inr (List.mem_cons_of_mem _ h1)
theorem mkHeap_blk {l : List (Nat × Blk)} {next ng v : Nat} {B : Blk} (h : (mkHeap l next ng).blk v = some B) : (v, B) ∈ l := by
  rcases putAll_get l .leaf v B h with h1 | h1
  · cases h1
  · exact h1

def subChk (l : List (Nat × Blk)) (h : AHeap) : Bool :=
  List.rec (motive := fun _ => Bool) true (fun p _ ih => match hget h p.1 with | some B => cond (beqB p.2 B) ih false | none => false) l
theorem subChk_ok : ∀ (l : List (Nat × Blk)) (h : AHeap), subChk l h = true → ∀ v B, (v, B) ∈ l → h.blk v = some B := by
  intro l h
  induction l with
  | nil => intro _ v B hm; cases hm
  | cons p l ih =>
    intro hs v B hm
    have hs' : (match hget h p.1 with | some B => cond (beqB p.2 B) (subChk l h) false | none => false) = true := hs
    rw [hget_eq] at hs'
    split at hs'
    case h_2 => cases hs'
    rename_i C hC
    cases hb : beqB p.2 C with
    | false => rw [hb] at hs'; cases hs'
    | true =>
      rw [hb] at hs'
      rcases List.mem_cons.1 hm with e | hm
      · cases e
        rw [hC, ← beqB_ok hb]
      · exact ih hs' v B hm

structure Ent where
  args : List Value
  hl : List (Nat × Blk)
  next : Nat
  v : Value
  hl' : List (Nat × Blk)
  next' : Nat

def Ent.okNext (e : Ent) : Bool := Nat.ble e.next e.next' && e.hl'.all fun p => Nat.ble (Nat.succ p.1) e.next'

def look (ng : Nat) (args : Array Value) (h : AHeap) : List Ent → Option (Value × AHeap)
  | [] => none
  | e :: es => cond (Nat.beq e.next h.next && Nat.beq h.ng ng) (cond (e.okNext && allEq (veq 9) args.toList e.args && subChk e.hl h) (some (e.v, mkHeap e.hl' e.next' ng)) none) (look ng args h es)

def memo (g ng : Nat) (es : List Ent) (R : Rec) : Rec := ⟨R.ext, fun f args h => cond (Nat.beq f g) (look ng args h es) (R.call f args h), R.code⟩

theorem look_ok {ng : Nat} {args : Array Value} {h h' : AHeap} {v : Value} : ∀ (es : List Ent), look ng args h es = some (v, h') → ∃ e ∈ es, args = e.args.toArray ∧ Sub (mkHeap e.hl e.next ng) h ∧ v = e.v ∧ h' = mkHeap e.hl' e.next' ng ∧ e.okNext = true := by
  intro es
  induction es with
  | nil => intro hs; cases hs
  | cons e es ih =>
    intro hs
    simp only [look] at hs
    cases hc : (Nat.beq e.next h.next && Nat.beq h.ng ng) with
    | false =>
      rw [hc] at hs
      obtain ⟨e', hm, r⟩ := ih hs
      exact ⟨e', List.mem_cons_of_mem _ hm, r⟩
    | true =>
      rw [hc] at hs
      simp only [Bool.and_eq_true] at hc
      simp only [cond_true] at hs
      cases hd : (e.okNext && allEq (veq 9) args.toList e.args && subChk e.hl h) with
      | false => rw [hd] at hs; cases hs
      | true =>
        rw [hd] at hs
        cases hs
        simp only [Bool.and_eq_true] at hd
        refine ⟨e, List.mem_cons_self .., arr_of_list (allEq_ok (veq_ok 9) _ _ hd.1.2), ⟨Nat.eq_of_beq_eq_true hc.1, (Nat.eq_of_beq_eq_true hc.2).symm, fun v B hb => subChk_ok _ _ hd.2 v B (mkHeap_blk hb)⟩, rfl, rfl, hd.1.1⟩

theorem memo_sound {P : Program} {R : Rec} (RS : RSound P R) {g ng : Nat} {es : List Ent} (hE : ∀ e ∈ es, FSound P g e.args.toArray (mkHeap e.hl e.next ng) e.v (mkHeap e.hl' e.next' ng)) : RSound P (memo g ng es R) := by
  refine ⟨RS.ext, fun f args h v h' hs => ?_, RS.code⟩
  have hs' : cond (Nat.beq f g) (look ng args h es) (R.call f args h) = some (v, h') := hs
  cases hf : Nat.beq f g with
  | false => rw [hf] at hs'; exact RS.call f args h v h' hs'
  | true =>
    rw [hf] at hs'
    have := Nat.eq_of_beq_eq_true hf
    subst this
    obtain ⟨e, hm, rfl, hsub, rfl, rfl, _⟩ := look_ok es hs'
    exact (hE e hm).cut hsub ⟨rfl, rfl, fun _ _ h => h⟩

theorem memo_fr {R : Rec} (RF : RFr R) {g ng : Nat} {es : List Ent} : RFr (memo g ng es R) := by
  refine ⟨fun f args h v h' hs => ?_, RF.code⟩
  have hs' : cond (Nat.beq f g) (look ng args h es) (R.call f args h) = some (v, h') := hs
  cases hf : Nat.beq f g with
  | false => rw [hf] at hs'; exact RF.call f args h v h' hs'
  | true =>
    rw [hf] at hs'
    obtain ⟨e, hm, rfl, hsub, rfl, rfl, hok⟩ := look_ok es hs'
    simp only [Ent.okNext, Bool.and_eq_true] at hok
    refine ⟨Nat.zero_le _, ?_, hsub.ng, fun u hu => absurd hu (Nat.not_lt_zero _), fun _ v hv => ?_⟩
    · have h1 := hsub.next
      have h2 := Nat.le_of_ble_eq_true hok.1
      show h.next ≤ e.next'
      have : e.next = h.next := h1
      omega
    · cases hb : (mkHeap e.hl' e.next' ng).blk v with
      | none => rfl
      | some B =>
        have := List.all_eq_true.1 hok.2 _ (mkHeap_blk hb)
        have h3 := Nat.le_of_ble_eq_true this
        have h4 : e.next' ≤ v := hv
        simp only at h3
        omega

end
end Go.VE
