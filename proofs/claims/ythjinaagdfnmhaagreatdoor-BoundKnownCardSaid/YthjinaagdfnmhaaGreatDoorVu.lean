import Derived.Test.YthjinaagdfnmhaaGreatDoorVt
namespace Go.VE
open Go
set_option linter.unusedVariables false
set_option linter.unusedSimpArgs false

section
variable {P : Program} {R : Rec} {ops : Array Oper} {sts : Nat → St} {cl : Nat → Cls} {ρ₀ : Rho} {w₀ : World} {vals : Nat → Value}

theorem opIn_mono {r : Option Nat} {o : Oper} {K K' : Act → World → Prop} {Q : Exit → Act → World → Prop} {a : Act} {w : World} (h : ∀ a w, K a w → K' a w) (hh : opIn r P ops o K Q a w) : opIn r P ops o K' Q a w := by
  unfold opIn at *
  split
  · rename_i hw
    rw [if_pos hw] at hh
    exact Oper.wpIn_mono h hh
  · rename_i hw
    rw [if_neg hw] at hh
    exact ⟨hh.1, h _ _ hh.2⟩

theorem all_listed {S : Array Bool} (X : Tx P R ops sts cl) (hS : S.size = ops.size) (hr : Region.ready .any ops S = []) : ∀ j, j < ops.size → li S j := by
  intro j
  induction j using Nat.strongRecOn with
  | _ j ih =>
    intro hj
    have ho := Array.getElem?_eq_getElem hj
    refine Classical.byContradiction fun hn => ?_
    have hm : j ∈ Region.ready .any ops S := by
      refine mem_ready.2 ⟨?_, _, ho, fun e he hb => ?_⟩
      · unfold li at hn
        have hlt : j < S.size := by omega
        simp [hlt] at hn ⊢
        exact hn
      · have := X.back j _ ho e he hb
        exact ih e.on this (by omega)
    rw [hr] at hm
    cases hm

theorem any_binds {m : Region.Mode} {e : Edge} (h : Region.binds .any e = true) : Region.binds m e = true := by
  unfold Region.binds at *
  cases hg : e.ground <;> rw [hg] at h <;> first | rfl | (simp at h)

theorem predM_bits {md : Region.Mode} : ∀ (es : List Edge) (s : Nat), (∀ b, s.testBit b = true → (predM md es s).testBit b = true) ∧ ∀ e ∈ es, Region.binds md e = true → (predM md es s).testBit e.on = true := by
  intro es
  induction es with
  | nil => intro s; exact ⟨fun _ h => h, fun e he => by cases he⟩
  | cons e es ih =>
    intro s
    obtain ⟨h1, h2⟩ := ih (cond (Region.binds md e) (s ||| 2 ^ e.on) s)
    refine ⟨fun b hb => h1 b ?_, fun e' he' hb' => ?_⟩
    · cases Region.binds md e
      · exact hb
      · simp [hb]
    · rcases List.mem_cons.1 he' with rfl | he'
      · refine h1 _ ?_
        rw [hb']
        simp
      · exact h2 e' he' hb'

theorem pickOne_spec {S : Nat} : ∀ (l : List (Nat × Nat)) {i : Nat} {r : List (Nat × Nat)}, pickOne S l = some (i, r) → ∃ p, (i, p) ∈ l ∧ Nat.land p S = p ∧ ∀ x ∈ l, x = (i, p) ∨ x ∈ r := by
  intro l
  induction l with
  | nil => intro i r h; cases h
  | cons x l ih =>
    intro i r h
    obtain ⟨j, p⟩ := x
    simp only [pickOne] at h
    cases hc : Nat.beq (Nat.land p S) p with
    | true =>
      rw [hc] at h
      cases h
      exact ⟨p, List.mem_cons_self .., Nat.eq_of_beq_eq_true hc, fun x hx => by
        rcases List.mem_cons.1 hx with rfl | hx
        · exact .inl rfl
        · exact .inr hx⟩
    | false =>
      rw [hc] at h
      simp only [cond_false] at h
      split at h
      · rename_i j' r' hp
        cases h
        obtain ⟨q, h1, h2, h3⟩ := ih hp
        refine ⟨q, List.mem_cons_of_mem _ h1, h2, fun x hx => ?_⟩
        rcases List.mem_cons.1 hx with rfl | hx
        · exact .inr (List.mem_cons_self ..)
        · rcases h3 x hx with k | k
          · exact .inl k
          · exact .inr (List.mem_cons_of_mem _ k)
      · cases h

theorem greedy_spec {T : Array Bool} : ∀ (f : Nat) (l : List (Nat × Nat)) (S : Nat), greedy f l S = true → (∀ x ∈ l, (∀ b, x.2.testBit b = true → li T b) → li T x.1) → (∀ b, S.testBit b = true → li T b) → ∀ x ∈ l, li T x.1 := by
  intro f
  induction f with
  | zero =>
    intro l S h _ _ x hx
    cases l with
    | nil => cases hx
    | cons => cases h
  | succ f ih =>
    intro l S h h1 h2 x hx
    cases l with
    | nil => cases hx
    | cons y l =>
      simp only [greedy] at h
      split at h
      · cases h
      · rename_i i r hp
        obtain ⟨p, g1, g2, g3⟩ := pickOne_spec _ hp
        have hi : li T i := h1 _ g1 fun b hb => h2 b (by
          have hb' : p.testBit b = true := hb
          rw [← g2] at hb'
          have : (p &&& S).testBit b = true := hb'
          rw [Nat.testBit_and] at this
          simp at this
          exact this.2)
        rcases g3 x hx with rfl | hx'
        · exact hi
        · refine ih r _ h (fun z hz => ?_) (fun b hb => ?_) x hx'
          · have : z ∈ y :: l := by
              have sub : ∀ (l : List (Nat × Nat)) {i : Nat} {r : List (Nat × Nat)}, pickOne S l = some (i, r) → ∀ z ∈ r, z ∈ l := by
                intro l
                induction l with
                | nil => intro i r h; cases h
                | cons x l ih =>
                  intro i r h z hz
                  obtain ⟨j, p⟩ := x
                  simp only [pickOne] at h
                  cases hc : Nat.beq (Nat.land p S) p with
                  | true => rw [hc] at h; cases h; exact List.mem_cons_of_mem _ hz
                  | false =>
                    rw [hc] at h
                    simp only [cond_false] at h
                    split at h
                    · rename_i j' r' hp
                      cases h
                      rcases List.mem_cons.1 hz with rfl | hz
                      · exact List.mem_cons_self ..
                      · exact List.mem_cons_of_mem _ (ih hp z hz)
                    · cases h
              exact sub _ hp z hz
            exact h1 z this
          · rw [Nat.testBit_or] at hb
            simp only [Bool.or_eq_true] at hb
            rcases hb with hb | hb
            · exact h2 b hb
            · rw [Nat.testBit_two_pow] at hb
              simp at hb
              rw [← hb]; exact hi

theorem preds_mem {md : Region.Mode} : ∀ (l : List Oper) (k i : Nat) (o : Oper), l[i]? = some o → (k + i, predM md o.after.toList 0) ∈ preds md l k := by
  intro l
  induction l with
  | nil => intro k i o h; simp at h
  | cons x l ih =>
    intro k i o h
    cases i with
    | zero => simp at h; subst h; exact List.mem_cons_self ..
    | succ i =>
      refine List.mem_cons_of_mem _ ?_
      have := ih (k + 1) i o (by simpa using h)
      rw [show k + (i + 1) = k + 1 + i by omega]
      exact this
theorem preds_of {md : Region.Mode} : ∀ (l : List Oper) (k : Nat) (x : Nat × Nat), x ∈ preds md l k → ∃ i o, l[i]? = some o ∧ x = (k + i, predM md o.after.toList 0) := by
  intro l
  induction l with
  | nil => intro k x h; cases h
  | cons y l ih =>
    intro k x h
    rcases List.mem_cons.1 h with rfl | h
    · exact ⟨0, y, rfl, rfl⟩
    · obtain ⟨i, o, h1, rfl⟩ := ih _ _ h
      exact ⟨i + 1, o, by simpa using h1, by simp; omega⟩

/-- Where no operation is ready, all have been done. -/
theorem mode_listed {md : Region.Mode} {S : Array Bool} (hS : S.size = ops.size) (hmd : modeOk md ops = true) (hr : Region.ready md ops S = []) : ∀ j, j < ops.size → li S j := by
  intro j hj
  refine greedy_spec ops.size _ 0 hmd (fun x hx hp => ?_) (fun b hb => by simp at hb) (j, predM md (ops[j].after.toList) 0) ?_
  · obtain ⟨i, o, ho, rfl⟩ := preds_of _ _ _ hx
    simp only [Nat.zero_add] at hp ⊢
    refine Classical.byContradiction fun hn => ?_
    have ho' : ops[i]? = some o := by simpa using ho
    have hm : i ∈ Region.ready md ops S := by
      refine mem_ready.2 ⟨?_, _, ho', fun e he hb => hp e.on ((predM_bits _ 0).2 e (by simpa using he) hb)⟩
      have hlt : i < S.size := by rw [hS]; exact (Array.getElem?_eq_some_iff.1 ho').1
      unfold li at hn
      simp [hlt] at hn ⊢
      exact hn
    rw [hr] at hm
    cases hm
  · have := preds_mem (md := md) ops.toList 0 j ops[j] (by simp [hj])
    simpa using this

theorem drawn_any {md : Region.Mode} (hlisted : ∀ S : Array Bool, S.size = ops.size → Region.ready md ops S = [] → ∀ j, j < ops.size → li S j) {r : Option Nat} {Q : Exit → Act → World → Prop} (X : Tx P R ops sts cl) (hv : ∀ k, VOk P ops sts cl k (vals k)) (H₀ : Holds ρ₀ (sts 0).h w₀)
    (hQ : ∀ S ρ V a w, Inv ops sts ρ₀ w₀ S ρ V a w → (∀ j, j < ops.size → li S j) → Q .normal a w) : ∀ (fuel : Nat) (S : Array Bool) (ρ : Rho) (V : AHeap) (a : Act) (w : World), Inv ops sts ρ₀ w₀ S ρ V a w → S.size = ops.size → Closed ops S →
      S.toList.count false ≤ fuel → wpAnyIn (FW r) 0 P md ops Q fuel S a w := by
  intro fuel
  induction fuel with
  | zero =>
    intro S ρ V a w I hS hc hcount
    have hr : Region.ready md ops S = [] := by
      refine List.eq_nil_iff_forall_not_mem.2 fun j hj => ?_
      obtain ⟨h1, o, h2, _⟩ := mem_ready.1 hj
      have hlt : j < S.size := by rw [hS]; exact (Array.getElem?_eq_some_iff.1 h2).1
      have h3 : S[j] = false := by simpa [hlt] using h1
      have hm : false ∈ S.toList := by rw [← h3]; simp
      have := List.count_pos_iff.2 hm
      omega
    exact ⟨hr, hQ S ρ V a w I (hlisted S hS hr)⟩
  | succ fuel ih =>
    intro S ρ V a w I hS hc hcount
    refine ⟨fun hr => hQ S ρ V a w I (hlisted S hS hr), fun j hj => ?_⟩
    obtain ⟨h1, o, ho, h2'⟩ := mem_ready.1 hj
    have h2 := fun e he hb => h2' e he (any_binds hb)
    have hjn : j < ops.size := (Array.getElem?_eq_some_iff.1 ho).1
    have hlt : j < S.size := by omega
    have h3 : S[j] = false := by simpa [hlt] using h1
    have hjS : ¬ li S j := by unfold li; simp [hlt, h3]
    have hst := I.step X hv H₀ hS hc ho hjS h2 r (Q := Q)
    show wpOpIn (FW r) 0 P ops Q j _ a w
    unfold wpOpIn
    rw [ho]
    refine opIn_mono (fun a' w' hI => ?_) hst
    obtain ⟨ρ', V', I'⟩ := hI
    refine ih _ ρ' V' a' w' I' (by simpa using hS) ?_ ?_
    · intro i oi hoi hli e he hb
      rcases li_set hli with rfl | hli
      · rw [ho] at hoi; cases hoi
        exact li_set_of (h2 e he hb)
      · exact li_set_of (hc i oi hoi hli e he hb)
    · rw [Array.toList_setIfInBounds, List.count_set (by simpa using hlt)]
      have hm : false ∈ S.toList := by rw [← h3]; simp
      have hpos := List.count_pos_iff.2 hm
      have e : S.toList[j]'(by simpa using hlt) = false := by simpa using h3
      rw [e]
      show S.toList.count false - 1 + 0 ≤ fuel
      omega

theorem Inv.start (X : Tx P R ops sts cl) (hv : ∀ k, VOk P ops sts cl k (vals k)) {a : Act} (S : Sim ρ₀ (sts 0) a w₀) : ∃ V, Inv ops sts ρ₀ w₀ (Array.replicate ops.size false) ρ₀ V a w₀ := by
  have hvals : ∀ k, k < ops.size → Val ops sts k (vals k) := fun k _ o ho => (hv k o ho).1
  have no : ∀ i, ¬ li (Array.replicate ops.size false) i := by
    intro i
    unfold li
    rw [Array.getD_eq_getD_getElem?, Array.getElem?_replicate]
    split <;> simp
  obtain ⟨V, e1, e2, e3⟩ := exists_heap (sts 0).h.blk (sts 0).h.ng (sts ops.size).h.next
  have mn := X.mono ops.size 0 (by omega) (by omega)
  have hb : ∀ v, V.blk v = (sts 0).h.blk v := by
    intro v
    rw [e3]
    split
    · rfl
    · exact (X.fresh0 v (by omega)).symm
  have chain : ∀ v k, k ≤ ops.size → Cut ops.size sts (Array.replicate ops.size false) k v → (sts k).h.blk v = (sts 0).h.blk v :=
    fun v k hk hc => X.chain k (Nat.zero_le _) fun i _ hi ht => no i (hc.1 i hi ht)
  refine ⟨V, S.t.1, fun d k hk h1 h2 => ?_, S.ds, e1, e2, fun v k hk hc => ?_, fun v k B hk hc hne hB => ?_, ?_, ?_, fun v p hp i hi h1 h2 => ?_⟩
  · have e : (sts k).t.get d = (sts 0).t.get d := tchain hvals k (Nat.zero_le _) hk fun i _ hi hw => no i (h1 i hi hw)
    rw [e]
    exact ⟨S.t.2 d, (WFv.of (S.t.2 d) S.h.dom).mono (X.mono k 0 (by omega) hk)⟩
  · rw [hb, chain v k hk hc]
  · rw [chain v k hk hc] at hB
    cases hp : ρ₀ v with
    | none => exact absurd hp hne
    | some p => exact (WFb.of (S.h.rel v p B hp hB) S.h.dom).mono (X.mono k 0 (by omega) hk)
  · refine ⟨fun v p hv => by have := S.h.dom v p hv; omega, fun v h => by rw [hb]; exact X.fresh0 v (by omega), fun v p B h1 h2 => S.h.rel v p B h1 (by rw [← hb]; exact h2),
      fun v₁ v₂ p₁ p₂ B₁ B₂ hne h1 h2 h3 h4 => S.h.apart v₁ v₂ p₁ p₂ B₁ B₂ hne h1 h2 (by rw [← hb]; exact h3) (by rw [← hb]; exact h4), fun g hg => S.h.glob g (by rw [← e2]; exact hg)⟩
  · refine ⟨e2, by omega, fun _ _ => rfl, fun v B _ h => ⟨B, by rw [← hb]; exact h, id⟩, fun v p B hv h1 _ => by have := S.h.dom v p h1; omega, rfl, rfl, rfl, Nat.le_refl _, fun _ _ _ => rfl⟩
  · have := S.h.dom v p hp
    have := X.mono i 0 (by omega) (by omega)
    omega

theorem Inv.done (X : Tx P R ops sts cl) (hv : ∀ k, VOk P ops sts cl k (vals k)) {S : Array Bool} {ρ : Rho} {V : AHeap} {a : Act} {w : World} (I : Inv ops sts ρ₀ w₀ S ρ V a w) (hall : ∀ j, j < ops.size → li S j) :
    Sim ρ (sts ops.size) a w ∧ Ext ρ₀ (sts 0).h w₀ ρ (sts ops.size).h w := by
  have hvals : ∀ k, k < ops.size → Val ops sts k (vals k) := fun k _ o ho => (hv k o ho).1
  obtain ⟨t1, t2⟩ := tn hvals ops.size (Nat.le_refl _)
  have hb : ∀ v, (sts ops.size).h.blk v = V.blk v := fun v => (I.blk v ops.size (Nat.le_refl _) ⟨fun i hi _ => hall i hi, fun i h1 h2 => by omega⟩).symm
  have hng : (sts ops.size).h.ng = V.ng := by rw [I.ng]; exact X.ngk ops.size (Nat.le_refl _)
  refine ⟨⟨⟨by rw [t1]; exact I.sz, fun d => (I.tm d ops.size (Nat.le_refl _) (fun i hi _ => hall i hi) (fun i h1 h2 => by omega)).1⟩, by rw [t2]; exact I.ds, I.H.same hb I.next.symm hng⟩, ?_⟩
  exact I.E.congr (fun _ => rfl) rfl rfl hb I.next.symm hng

end

/-- A region that draws its order. -/
theorem drawn_sound {P : Program} (F : Fine P) {R : Rec} (RS : RSound P R) (RF : RFr R) {ops : Array Oper} {st st' : St} {tr : List Cls} (hs : runTr P R ops ops.toList st [] = some (st', tr)) (hstat : statOk ops = true)
    (hdraw : drawOk (masks ops.toList []) tr = true) {ρ : Rho} {a : Act} {w : World} (S : Sim ρ st a w) (id : Nat) (r : Option Nat) {Q : Exit → Act → World → Prop} (hQ : ∀ ρ' a' w', Sim ρ' st' a' w' → Ext ρ st.h w ρ' st'.h w' → Q .normal a' w') :
    (Code.region id ops true).wpIn (FW r) 0 P Q a w := by
  obtain ⟨sts, cl, e0, e1, e2, e3⟩ := runTr_spec ops.toList st st' [] tr hs
  rw [List.append_nil] at e3
  simp only [Array.length_toList] at e1
  have hstep : ∀ k o, ops[k]? = some o → stepOp P R ops o (sts k) = some (sts (k + 1), cl k) := fun k o h => e2 k o (by simpa using h)
  unfold statOk at hstat
  simp only [Bool.and_eq_true] at hstat
  obtain ⟨hstat, hmt, hmg⟩ := hstat
  have hlen : (masks ops.toList []).length = tr.length := by rw [(masks_spec _ _).1, e3]; simp
  have hget : ∀ i, i < ops.size → tr.getD (tr.length - i.succ) .p = cl i := by
    intro i hi
    have hl : tr.length = ops.size := by rw [e3]; simp
    rw [hl, e3, List.getD_eq_getElem?_getD, List.getElem?_reverse (by simp; omega)]
    simp only [List.length_map, List.length_range, Array.length_toList]
    have : ops.size - 1 - (ops.size - i.succ) = i := by omega
    rw [this]
    simp [hi]
  have X : Tx P R ops sts cl := by
    refine ⟨hstep, fun k hk => stepOp_touch RF (hstep k _ (Array.getElem?_eq_getElem hk)), fun i j hij hj => ?_, fun i j oi oj d hi hj hd hne hm => ?_, fun j o hj e he hb => ?_, fun v hv => ?_⟩
    · have hl : tr.length = ops.size := by rw [e3]; simp
      have := drawOk_spec _ _ hlen hdraw i j hij (by omega)
      rw [hget i (by omega), hget j hj] at this
      exact this
    · have h1 := namesOk_spec _ hstat.2 i oi d (by simpa using hi) hd
      exact namesOne_spec _ h1 j oj (by simpa using hj) (Ne.symm hne) hm
    · exact backOk_spec _ hstat.1 j o (by simpa using hj) e he hb
    · rw [e0] at hv ⊢; exact S.h.fresh v hv
  have hvals : ∃ vals : Nat → Value, ∀ k, VOk P ops sts cl k (vals k) := ⟨fun k => (VOk.exists F RS X k).choose, fun k => (VOk.exists F RS X k).choose_spec⟩
  obtain ⟨vals, hv⟩ := hvals
  obtain ⟨Hd, Ed⟩ := S.h.drew
  have S0 : Sim ρ (sts 0) a w.drew := by rw [e0]; exact ⟨S.t, S.ds, Hd⟩
  obtain ⟨V, I⟩ := Inv.start X hv S0
  have key : ∀ md, (∀ S : Array Bool, S.size = ops.size → Region.ready md ops S = [] → ∀ j, j < ops.size → li S j) → wpAnyIn (FW r) 0 P md ops Q ops.size (Array.replicate ops.size false) a w.drew := by
    intro md hl
    refine drawn_any hl X hv S0.h (fun S' ρ' V' a' w' I' hall => ?_) ops.size _ ρ V a w.drew I (by simp) (fun j o _ hli => ?_) ?_
    · obtain ⟨k1, k2⟩ := I'.done X hv hall
      rw [e1] at k1 k2
      rw [e0] at k2
      exact hQ ρ' a' w' k1 (Ext.trans S.h Hd Ed k2)
    · exfalso
      unfold li at hli
      rw [Array.getD_eq_getD_getElem?, Array.getElem?_replicate] at hli
      split at hli <;> simp at hli
    · rw [Array.toList_replicate]
      exact Nat.le_trans List.count_le_length (by simp)
  refine wpIn_region_draw fun t => ?_
  unfold Region.schedule
  split
  · exact wpAnyIn_sound ops.size _ _ a _ (key .any fun S hS hr => all_listed X hS hr)
  · split
    · exact wpAnyIn_sound ops.size _ _ a _ (key .text fun S hS hr => mode_listed hS hmt hr)
    · exact wpAnyIn_sound ops.size _ _ a _ (key .gc fun S hS hr => mode_listed hS hmg hr)

end Go.VE
