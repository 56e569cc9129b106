import Derived.Test.YthjinaagdfnmhaaGreatDoorVs
namespace Go.VE
open Go
set_option linter.unusedVariables false
set_option linter.unusedSimpArgs false

section
variable {P : Program} {R : Rec} {ops : Array Oper} {sts : Nat → St} {cl : Nat → Cls}

/-- An operation that is carried out on the whole of its heap. -/
def CoreP (P : Program) (ops : Array Oper) (o : Oper) (st st' : St) (v : Value) : Prop :=
  ∀ {ρ : Rho} {a : Act} {w : World} (r : Option Nat) {K : Act → World → Prop} {Q : Exit → Act → World → Prop}, Region.wanted o (yielded ops a.tmps) = awanted ops st.t o →
    (∀ x ∈ o.op.operands, opdOk st.h.ng x = true → VRel ρ (evo st.t x) (a.eval x)) → Holds ρ st.h w →
    (∀ v' ρ' w', VRel ρ' v v' → Holds ρ' st'.h w' → Ext ρ st.h w ρ' st'.h w' → K (a.put o.dst v') w') → opIn r P ops o K Q a w

def Cls.light : Cls → Prop
  | .p => True
  | .l _ => True
  | .a _ => True
  | _ => False

def VOk (P : Program) (ops : Array Oper) (sts : Nat → St) (cl : Nat → Cls) (k : Nat) (v : Value) : Prop :=
  ∀ o, ops[k]? = some o → ((sts (k + 1)).t = (sts k).t.put o.dst v ∧ (sts (k + 1)).ds = (sts k).ds) ∧ ((cl k).light → LightP P ops o (sts k) (sts (k + 1)) v (cl k)) ∧
    (¬ (cl k).light → CoreP P ops o (sts k) (sts (k + 1)) v)

theorem VOk.exists (F : Fine P) (RS : RSound P R) (X : Tx P R ops sts cl) (k : Nat) : ∃ v, VOk P ops sts cl k v := by
  cases ho : ops[k]? with
  | none => exact ⟨undef, fun o h => by rw [ho] at h; cases h⟩
  | some o =>
    have hs := X.step k o ho
    by_cases hc : (cl k).light
    · have hc' : cl k = .p ∨ (∃ u, cl k = .l u) ∨ ∃ u, cl k = .a u := by
        cases hk : cl k with
        | p => exact .inl rfl
        | l u => exact .inr (.inl ⟨u, rfl⟩)
        | a u => exact .inr (.inr ⟨u, rfl⟩)
        | _ => rw [hk] at hc; exact hc.elim
      obtain ⟨v, h1, h2⟩ := stepOp_light F hs hc'
      refine ⟨v, fun o' h => ?_⟩
      rw [ho] at h
      cases h
      exact ⟨h1, fun _ => h2, fun h => absurd hc h⟩
    · obtain ⟨v, h1, h2, h3⟩ := stepOp_core F RS hs
      refine ⟨v, fun o' h => ?_⟩
      rw [ho] at h
      cases h
      exact ⟨⟨h1, h2⟩, fun h => absurd h hc, fun _ => h3⟩

theorem mem_opNames_opd {o : Oper} {d : Nat} (h : Operand.tmp d ∈ o.op.operands) : d ∈ opNames ops o := by
  unfold opNames
  refine List.mem_append_left _ (List.mem_append_right _ (List.mem_filterMap.2 ⟨.tmp d, by simpa using h, rfl⟩))
theorem mem_opNames_guard {o : Oper} {d : Nat} {g : Nat × Bool} (hg : o.guard = some g) (hd : (ops[g.1]?).bind (·.dst) = some d) : d ∈ opNames ops o := by
  unfold opNames
  refine List.mem_append_right _ ?_
  rw [hg]
  simp only [hd]
  simp

variable {ρ₀ ρ : Rho} {w₀ w : World} {S : Array Bool} {V : AHeap} {a : Act} {vals : Nat → Value}

/-- What an operation that is ready looks at is as the text tells. -/
theorem Inv.look (X : Tx P R ops sts cl) (H₀ : Holds ρ₀ (sts 0).h w₀) (I : Inv ops sts ρ₀ w₀ S ρ V a w) (hc : Closed ops S) {j : Nat} {o : Oper} (hj : ops[j]? = some o) (hjS : ¬ li S j) (hready : ∀ e ∈ o.after, Region.binds .any e = true → li S e.on) :
    Region.wanted o (yielded ops a.tmps) = awanted ops (sts j).t o ∧ ∀ x ∈ o.op.operands, opdOk (sts j).h.ng x = true → VRel (cutR ρ (sts j).h.next) (evo (sts j).t x) (a.eval x) := by
  have hjn : j < ops.size := (Array.getElem?_eq_some_iff.1 hj).1
  have ahead : ∀ i, Ord ops i j → li S i := fun i h => ord_listed hc j i (.inr ⟨o, hj, hready⟩) h
  have behind : ∀ i, Ord ops j i → ¬ li S i := fun i h hi => hjS (ord_listed hc i j (.inl hi) h)
  have key : ∀ d, d ∈ opNames ops o → VRel ρ ((sts j).t.get d) (a.tmps.getD d undef) ∧ WFv (sts j).h.next ((sts j).t.get d) := by
    intro d hd
    refine I.tm d j (by omega) (fun i hi hwi => ?_) (fun i hi1 hi2 hwi => ?_)
    · obtain ⟨oi, hoi, hdi⟩ := hwi
      exact ahead i ((X.names i j oi o d hoi hj hdi (by omega) hd).1 hi)
    · obtain ⟨oi, hoi, hdi⟩ := hwi
      rcases Nat.lt_or_ge j i with h | h
      · exact behind i ((X.names i j oi o d hoi hj hdi (by omega) hd).2 h)
      · rw [Nat.le_antisymm h hi1]; exact hjS
  refine ⟨awanted_of ops o fun g d hg hd => (key d (mem_opNames_guard hg hd)).1, fun x hx hok => ?_⟩
  cases x with
  | tmp d => obtain ⟨h1, h2⟩ := key d (mem_opNames_opd hx); exact h2.cut h1
  | const v => exact .of_flat 8 _ hok
  | global g =>
    have hg : g < (sts j).h.ng := Nat.le_of_ble_eq_true hok
    rw [X.ngk j (by omega), ← I.ng] at hg
    obtain ⟨p, h1, h2, h3⟩ := I.H.glob g hg
    have hlt : g < (sts j).h.next := by
      rcases Nat.lt_or_ge g (sts j).h.next with h | h
      · exact h
      · exfalso
        obtain ⟨p0, k1, _⟩ := H₀.glob g (by rw [I.ng] at hg; exact hg)
        have := H₀.dom g p0 k1
        have := X.mono j 0 (by omega) (by omega)
        omega
    exact ptr_new (n := g) (b := g) (by unfold cutR; rw [if_pos hlt]; exact h1) h2 h3
  | func f => exact .func (.func f) rfl (fun i h => absurd h (by simp)) rfl (fun i h => absurd h (by simp))

theorem compat_full {c d : Cls} {v : Nat} (hc : ¬ c.light) (hd : d = .x ∨ d = .s v ∨ d = .w v) : d.compat c = false ∧ c.compat d = false := by
  rcases hd with rfl | rfl | rfl <;> cases c <;> first | exact absurd trivial hc | exact ⟨rfl, rfl⟩

theorem Inv.step (X : Tx P R ops sts cl) (hv : ∀ k, VOk P ops sts cl k (vals k)) (H₀ : Holds ρ₀ (sts 0).h w₀) (I : Inv ops sts ρ₀ w₀ S ρ V a w) (hS : S.size = ops.size) (hc : Closed ops S) {j : Nat} {o : Oper} (hj : ops[j]? = some o) (hjS : ¬ li S j)
    (hready : ∀ e ∈ o.after, Region.binds .any e = true → li S e.on) (r : Option Nat) {Q : Exit → Act → World → Prop} :
    opIn r P ops o (fun a' w' => ∃ ρ' V', Inv ops sts ρ₀ w₀ (S.setIfInBounds j true) ρ' V' a' w') Q a w := by
  have hjn : j < ops.size := (Array.getElem?_eq_some_iff.1 hj).1
  have ahead : ∀ i, Ord ops i j → li S i := fun i h => ord_listed hc j i (.inr ⟨o, hj, hready⟩) h
  have behind : ∀ i, Ord ops j i → ¬ li S i := fun i h hi => hjS (ord_listed hc i j (.inl hi) h)
  obtain ⟨hwant, hopd⟩ := I.look X H₀ hc hj hjS hready
  obtain ⟨hval, hlight, hfull⟩ := hv j o hj
  have hvals : ∀ k, k < ops.size → Val ops sts k (vals k) := fun k _ o ho => (hv k o ho).1
  have mj := X.mono (j + 1) j (by omega) (by omega)
  have mn := X.mono ops.size (j + 1) (by omega) (by omega)
  have m0 := X.mono j 0 (by omega) (by omega)
  have same : (sts (j + 1)).h = (sts j).h → ∀ v, ¬ Tch sts j v := fun h v ht => ht (by rw [h])
  -- an operation behind j that touches a block that was there ahead of it
  have later : ∀ i v, j < i → i < ops.size → Tch sts i v → v < (sts (j + 1)).h.next → (cl i = .x ∨ cl i = .s v ∨ cl i = .w v) := by
    intro i v h1 h2 h3 h4
    obtain ⟨_, b | b⟩ := X.cases h2 h3
    · exact b.2
    · have := X.mono i (j + 1) (by omega) (by omega); omega
  have full : ¬ (cl j).light → opIn r P ops o (fun a' w' => ∃ ρ' V', Inv ops sts ρ₀ w₀ (S.setIfInBounds j true) ρ' V' a' w') Q a w := by
    intro hnl
    classical
    have laterNo : ∀ i v, j < i → i < ops.size → Tch sts i v → v < (sts (j + 1)).h.next → ¬ li S i := fun i v h1 h2 h3 h4 =>
      behind i ((X.ord j i h1 h2).resolve_left (by rw [(compat_full hnl (later i v h1 h2 h3 h4)).2]; simp))
    have cutJ : ∀ v, v < (sts (j + 1)).h.next → (v < (sts 0).h.next ∨ (sts j).h.next ≤ v ∨ ρ v ≠ none) → Cut ops.size sts S j v := by
      intro v hvn hor
      refine ⟨fun i hi hti => ?_, fun i hi1 hi2 hti => ?_⟩
      · obtain ⟨b0, ⟨b1, b2⟩ | ⟨b1, b2⟩⟩ := X.cases (by omega) hti
        · exact ahead i ((X.ord i j hi hjn).resolve_left (by rw [(compat_full hnl b2).1]; simp))
        · have g1 := X.mono j (i + 1) (by omega) (by omega)
          have g2 := X.mono i 0 (by omega) (by omega)
          rcases hor with h | h | h
          · omega
          · omega
          · cases hp : ρ v with
            | none => exact absurd hp h
            | some p => exact I.born v p hp i (by omega) b1 b0
      · rcases Nat.lt_or_ge j i with h | h
        · exact laterNo i v h hi2 hti hvn
        · rw [Nat.le_antisymm h hi1]; exact hjS
    have agree : ∀ v p, ρ v = some p → v < (sts j).h.next → V.blk v = (sts j).h.blk v := fun v p hp hlt => I.blk v j (by omega) (cutJ v (by omega) (.inr (.inr (by rw [hp]; simp))))
    have agree0 : ∀ v, v < (sts 0).h.next → V.blk v = (sts j).h.blk v := fun v hlt => I.blk v j (by omega) (cutJ v (by omega) (.inl hlt))
    have hfree : ∀ v p, ρ v = some p → (sts j).h.next ≤ v → (sts (j + 1)).h.next ≤ v := by
      intro v p hp hge
      rcases Nat.lt_or_ge v (sts (j + 1)).h.next with h | h
      · exact absurd (I.born v p hp j hjn hge h) hjS
      · exact h
    have hngj : V.ng = (sts j).h.ng := by rw [I.ng, X.ngk j (by omega)]
    have Hh : Holds (cutR ρ (sts j).h.next) (sts j).h w := by
      have inv : ∀ {v p}, cutR ρ (sts j).h.next v = some p → v < (sts j).h.next ∧ ρ v = some p := by
        intro v p hp
        unfold cutR at hp
        split at hp
        · exact ⟨by assumption, hp⟩
        · cases hp
      refine ⟨fun v p hp => (inv hp).1, X.fresh j (by omega), fun v p B h1 h2 => ?_, fun v₁ v₂ p₁ p₂ B₁ B₂ hne h1 h2 h3 h4 => ?_, fun g hg => ?_⟩
      · obtain ⟨k1, k2⟩ := inv h1
        have hB : V.blk v = some B := by rw [agree v p k2 k1]; exact h2
        exact (I.wf v j B (by omega) (cutJ v (by omega) (.inr (.inr (by rw [k2]; simp)))) (by rw [k2]; simp) h2).cut (I.H.rel v p B k2 hB)
      · obtain ⟨k1, k2⟩ := inv h1
        obtain ⟨k3, k4⟩ := inv h2
        exact I.H.apart _ _ _ _ _ _ hne k2 k4 (by rw [agree _ _ k2 k1]; exact h3) (by rw [agree _ _ k4 k3]; exact h4)
      · obtain ⟨p, k1, k2⟩ := I.H.glob g (by rw [hngj]; exact hg)
        refine ⟨p, ?_, k2⟩
        obtain ⟨p0, k3, _⟩ := H₀.glob g (by rw [X.ngk j (by omega)] at hg; exact hg)
        have := H₀.dom g p0 k3
        unfold cutR
        rw [if_pos (by omega)]; exact k1
    refine hfull hnl r hwant hopd Hh fun v' ρ₁ w' g1 g2 g3 => ?_
    obtain ⟨V', e1, e2, e3⟩ := exists_heap (fun v => if v < (sts (j + 1)).h.next then (if v < (sts 0).h.next ∨ ρ₁ v ≠ none ∨ Tch sts j v then (sts (j + 1)).h.blk v else V.blk v) else V.blk v) V.ng V.next
    have hnV : (sts (j + 1)).h.next ≤ V.next := by rw [I.next]; exact mn
    have hge : ∀ v, (sts (j + 1)).h.next ≤ v → V'.blk v = V.blk v := by
      intro v h
      rw [e3]
      by_cases hv : v < V.next
      · rw [if_pos hv, if_neg (by omega)]
      · rw [if_neg hv, I.H.fresh v (by omega)]
    have hin : ∀ v, v < (sts (j + 1)).h.next → (v < (sts 0).h.next ∨ ρ₁ v ≠ none ∨ Tch sts j v) → V'.blk v = (sts (j + 1)).h.blk v := by
      intro v h1 h2
      rw [e3, if_pos (by omega), if_pos h1, if_pos h2]
    have hout : ∀ v, v < (sts (j + 1)).h.next → ¬ (v < (sts 0).h.next ∨ ρ₁ v ≠ none ∨ Tch sts j v) → V'.blk v = V.blk v := by
      intro v h1 h2
      rw [e3, if_pos (by omega), if_pos h1, if_neg h2]
    have hr1 : ∀ v, v < (sts j).h.next → ρ₁ v = ρ v := by
      intro v h
      rw [g3.same v h]
      unfold cutR
      rw [if_pos h]
    obtain ⟨m1, m2, m3⟩ := merge H₀ I.E I.H m0 hnV hngj agree agree0 hfree Hh g2 g3 e1 e2 (fun v h1 h2 => hin v h1 (h2.elim .inl fun h => .inr (.inl h))) hge
    refine ⟨_, V', I.adv X hvals hS hc hj hjS hready m1 (g1.mono fun v p hp => ?_) (WFv.of g1 g2.dom) m2 m3 e1 e2 (fun v ht => ?_) (fun v ht => hin v (X.cases hjn ht).1 (.inr (.inr ht))) (fun v B ht hne hB => ?_) fun v p hp => ?_⟩
    · rw [if_pos (g2.dom v p hp)]; exact hp
    · rcases Nat.lt_or_ge v (sts (j + 1)).h.next with h1 | h1
      · by_cases hor : v < (sts 0).h.next ∨ ρ₁ v ≠ none ∨ Tch sts j v
        · rw [hin v h1 hor]
          have hun : (sts (j + 1)).h.blk v = (sts j).h.blk v := by
            unfold Tch at ht
            rw [Classical.not_not] at ht
            exact ht
          rw [hun]
          symm
          rcases Nat.lt_or_ge v (sts j).h.next with h2 | h2
          · rcases hor with h | h | h
            · exact agree0 v h
            · cases hp : ρ v with
              | none => rw [hr1 v h2, hp] at h; exact absurd rfl h
              | some p => exact agree v p hp h2
            · exact absurd h ht
          · exact I.blk v j (by omega) (cutJ v h1 (.inr (.inl h2)))
        · exact hout v h1 hor
      · exact hge v h1
    · have h1 := (X.cases hjn ht).1
      rw [if_pos h1] at hne
      cases hp : ρ₁ v with
      | none => exact absurd hp hne
      | some p => exact WFb.of (g2.rel v p B hp hB) g2.dom
    · rcases Nat.lt_or_ge v (sts (j + 1)).h.next with h1 | h1
      · rw [if_pos h1] at hp
        rcases Nat.lt_or_ge v (sts j).h.next with h2 | h2
        · rw [hr1 v h2] at hp; exact .inl hp
        · exact .inr ⟨h2, h1, fun _ i k1 k2 k3 => laterNo i v k1 k2 k3 h1⟩
      · rw [if_neg (by omega)] at hp; exact .inl hp
  cases hcl : cl j with
  | p =>
    rw [hcl] at hlight
    obtain ⟨e1, e2⟩ := (hlight trivial).1 rfl
    refine e2 r hwant hopd fun v' hv' => ⟨ρ, V, ?_⟩
    exact I.adv X hvals hS hc hj hjS hready (.refl ρ) (hv'.mono (cutR_le _ _)) ((WFv.ofCut hv').mono mj) I.H I.E rfl rfl (fun _ _ => rfl) (fun v ht => absurd ht (same e1 v)) (fun v B ht => absurd ht (same e1 v)) fun v p hp => .inl hp
  | l u =>
    rw [hcl] at hlight
    obtain ⟨e1, e2⟩ := (hlight trivial).2.1 u rfl
    refine e2 r hwant hopd (fun p B hp hB => ?_) fun v' hv' => ⟨ρ, V, ?_⟩
    · have hp' : ρ u = some p := cutR_le _ _ _ _ hp
      have hu : u < (sts j).h.next := by
        rcases Nat.lt_or_ge u (sts j).h.next with h | h
        · exact h
        · rw [X.fresh j (by omega) u h] at hB; cases hB
      have hcut : Cut ops.size sts S j u := by
        refine ⟨fun i hi hti => ?_, fun i hi1 hi2 hti => ?_⟩
        · obtain ⟨b0, ⟨b1, b2⟩ | ⟨b1, b2⟩⟩ := X.cases (by omega) hti
          · refine ahead i ((X.ord i j hi hjn).resolve_left ?_)
            rcases b2 with b | b | b <;> rw [b, hcl] <;> simp [Cls.compat]
          · exact I.born u p hp' i (by omega) b1 b0
        · rcases Nat.lt_or_ge j i with h | h
          · refine behind i ((X.ord j i h hi2).resolve_left ?_)
            rcases later i u h hi2 hti (by omega) with b | b | b <;> rw [b, hcl] <;> simp [Cls.compat]
          · rw [Nat.le_antisymm h hi1]; exact hjS
      have hVB : V.blk u = some B := by rw [I.blk u j (by omega) hcut]; exact hB
      exact (I.wf u j B (by omega) hcut (by rw [hp']; simp) hB).cut (I.H.rel u p B hp' hVB)
    · exact I.adv X hvals hS hc hj hjS hready (.refl ρ) (hv'.mono (cutR_le _ _)) ((WFv.ofCut hv').mono mj) I.H I.E rfl rfl (fun _ _ => rfl) (fun v ht => absurd ht (same e1 v)) (fun v B ht => absurd ht (same e1 v)) fun v p hp => .inl hp
  | a u =>
    rw [hcl] at hlight
    obtain ⟨e0, B, e1, e2⟩ := (hlight trivial).2.2 u rfl
    have hn1 : (sts (j + 1)).h.next = u + 1 := by rw [e1, e0]; rfl
    have hnone : ρ u = none := by
      cases hp : ρ u with
      | none => rfl
      | some p => exact absurd (I.born u p hp j hjn (by omega) (by omega)) hjS
    have hcut : Cut ops.size sts S j u := by
      refine ⟨fun i hi hti => ?_, fun i hi1 hi2 hti => ?_⟩
      · obtain ⟨b0, _⟩ := X.cases (by omega) hti
        have := X.mono j (i + 1) (by omega) (by omega); omega
      · rcases Nat.lt_or_ge j i with h | h
        · refine behind i ((X.ord j i h hi2).resolve_left ?_)
          rcases later i u h hi2 hti (by omega) with b | b | b <;> rw [b, hcl] <;> simp [Cls.compat]
        · rw [Nat.le_antisymm h hi1]; exact hjS
    have hVu : V.blk u = none := by rw [I.blk u j (by omega) hcut]; exact X.fresh j (by omega) u (by omega)
    have huV : u < V.next := by rw [I.next]; omega
    have htch : Tch sts j u := by
      unfold Tch
      rw [e1, AHeap.blk_alloc, if_pos e0, X.fresh j (by omega) u (by omega)]
      simp
    have hother : ∀ v, Tch sts j v → v = u := by
      intro v ht
      unfold Tch at ht
      rw [e1, AHeap.blk_alloc] at ht
      by_cases hvn : v = (sts j).h.next
      · rw [hvn, e0]
      · rw [if_neg hvn] at ht; exact absurd rfl ht
    refine e2 r hwant hopd fun v' w' ob p g1 g2 g3 g4 g5 g6 => ⟨ρ.ins u p, V.put u (some B), ?_⟩
    have hcutle : (cutR ρ (sts j).h.next).le ((cutR ρ (sts j).h.next).ins u p) := fun v q hq => by
      rw [Rho.ins_ne]
      · exact hq
      · rintro rfl
        have := cutR_le _ _ _ _ hq
        rw [hnone] at this; cases this
    have hdom : ∀ v q, (cutR ρ (sts j).h.next).ins u p v = some q → v < (sts (j + 1)).h.next := by
      intro v q hq
      by_cases hvu : v = u
      · omega
      · rw [Rho.ins_ne _ _ _ _ hvu] at hq
        unfold cutR at hq
        split at hq
        · omega
        · cases hq
    obtain ⟨f1, f2⟩ := g6 _ hcutle (Rho.ins_same _ _ _)
    have hle2 : (cutR ρ (sts j).h.next).le (ρ.ins u p) := fun v q hq => by
      have := cutR_le _ _ _ _ hq
      rw [Rho.ins_ne]
      · exact this
      · rintro rfl; rw [hnone] at this; cases this
    obtain ⟨f3, f4⟩ := g6 _ hle2 (Rho.ins_same _ _ _)
    obtain ⟨k1, k2⟩ := I.H.allocAt hnone huV g1 g5 f3
    have k3 := I.E.allocAt (B := B) (by omega) g1 g5 g2 g3 g4 hVu H₀
    refine I.adv X hvals hS hc hj hjS hready k1 f4 (WFv.of f2 hdom) k2 k3 rfl rfl (fun v ht => ?_) (fun v ht => ?_) (fun v C ht hne hC => ?_) fun v q hq => ?_
    · rw [AHeap.blk_put, if_neg]
      rintro rfl; exact ht htch
    · rw [hother v ht, AHeap.blk_put, if_pos rfl, e1, AHeap.blk_alloc, if_pos e0]
    · rw [hother v ht, e1, AHeap.blk_alloc, if_pos e0] at hC
      cases hC
      exact WFb.of f1 hdom
    · by_cases hvu : v = u
      · exact .inr ⟨by omega, by omega, fun hnt => absurd (by rw [hvu]; exact htch) hnt⟩
      · rw [Rho.ins_ne _ _ _ _ hvu] at hq; exact .inl hq
  | _ => exact full (by rw [hcl]; exact id)

end
end Go.VE
