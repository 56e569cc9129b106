import Derived.Test.YthjinaagdfnmhaaGreatDoorVi
namespace Go.VE
open Go
set_option linter.unusedVariables false
set_option linter.unusedSimpArgs false

/-- Cells into a block; nothing to do if there are none. -/
def putAt (v o : Nat) (xs : List Value) (h : AHeap) : Option AHeap :=
  match xs with
  | [] => some h
  | _ => match h.blk v with
    | some (.cells true gr cs) => if o + xs.length ≤ cs.length ∧ xs.all (·.oneCell') then some (h.put v (some (.cells true gr (putCells cs o xs)))) else none
    | _ => none

theorem putAt_ok {P : Program} {ρ : Rho} {v o : Nat} {p : Place} {xs : Array Value} {xs' : Array Value} {h h' : AHeap} {w : World} (hs : putAt v o xs.toList h = some h') (hv : ρ v = some p) (r : ARel ρ xs xs') (H : Holds ρ h w) :
    ∃ w', (storeCells ⟨p.block, p.base + o, none⟩ xs'.toList).run P w = .ok () w' ∧ Holds ρ h' w' ∧ Ext ρ h w ρ h' w' := by
  unfold putAt at hs
  split at hs
  · rename_i he
    cases hs
    have : xs'.toList = [] := by
      have := r.1
      rw [Array.toList_eq_nil_iff] at he ⊢
      subst he
      exact Array.eq_empty_of_size_eq_zero (by simpa using r.1)
    rw [this]
    exact ⟨w, rfl, H, .refl _ _ _ H.fresh⟩
  · split at hs
    · rename_i gr cs hb
      obtain ⟨⟨c1, c2⟩, hs⟩ := if_some hs
      cases hs
      obtain ⟨w', h1, h2, h3⟩ := run_storeCells_rel (P := P) gr xs.toList xs'.toList o 0 cs h w H hv hb (by simpa using c1) (by simpa using r.1)
        (fun j a b ha hb => by
          obtain ⟨b', e1, e2⟩ := r.get (i := j) (x := a) (by simpa using ha)
          have : xs'[j]? = some b := by simpa using hb
          rw [e1] at this; cases this; exact e2)
        (fun a ha => by
          rw [List.all_eq_true] at c2
          exact c2 a ha)
      exact ⟨w', h1, h2, h3⟩
    · cases hs

/-- append, at a slice or a string behind it. -/
def aappend (P : Program) (ats : Array TypeId) (s x : Value) (h : AHeap) : Option (Value × AHeap) :=
  match (ats[0]?).bind P.underlying, (ats[1]?).bind P.underlying with
  | some (.slice e), some d => if notInt d then
    (P.info? e).bind fun i => i.zero.bind fun zv => (xlen x).bind fun n => (xcells i.size n x h).bind fun arr =>
      if arr.size = n * i.size ∧ zv.cells.size = i.size ∧ 0 < i.bytes ∧ arr.all (·.oneCell') then
      match s with
      | .slice none 0 0 => if n = 0 then some (s, h) else
          if n * i.bytes ≤ 140737488355328 then some (.slice (some ⟨h.next, 0, some (i.size + 2)⟩) n n, h.alloc (.cells true true arr.toList)) else none
      | .slice (some ⟨v, o, none⟩) l c =>
        if l + n ≤ c then (putAt v (o + l * i.size) arr.toList h).map fun h' => (.slice (some ⟨v, o, none⟩) (l + n) c, h')
        else if (l + n) * i.bytes ≤ 140737488355328 then
          (xcells i.size l s h).bind fun old => if old.size = l * i.size then some (.slice (some ⟨h.next, 0, some (i.size + 2)⟩) (l + n) (l + n), h.alloc (.cells true true (old ++ arr).toList)) else none
        else none
      | .slice (some ⟨v, o, some 1⟩) 0 0 => if n = 0 then some (s, h) else none
      | .slice (some ⟨v, o, some (k + 2)⟩) l c =>
        if l + n ≤ c then (putAt v (o + l * i.size) arr.toList h).map fun h' => (.slice (some ⟨v, o, some (k + 2)⟩) (l + n) c, h')
        else if k = i.size ∧ l ≤ c ∧ (l + n) * i.bytes ≤ 140737488355328 then
          match h.blk v with
          | some (.cells true _ cs) => (getCells cs o (l * i.size)).map fun old =>
              (.slice (some ⟨h.next, 0, some (i.size + 2)⟩) (l + n) (l + n), (h.put v none).alloc (.cells true true (old ++ arr).toList))
          | _ => none
        else none
      | _ => none
      else none
    else none
  | _, _ => none

/-- A new row with room behind it. -/
theorem Holds.row {ρ : Rho} {h : AHeap} {w w' : World} (H : Holds ρ h w) {e : TypeId} {cs cs' zs : Array Value} {z n m : Nat} (hw : w' = w.drew.alloc (.cells (cs' ++ zs) e)) (r : ARel ρ cs cs') (hc : cs.size = n * z) (hm : n ≤ m)
    (hz : zs.size = (m - n) * z) :
    ∃ p, Holds (ρ.ins h.next p) (h.alloc (.cells true true cs.toList)) w' ∧ Ext ρ h w (ρ.ins h.next p) (h.alloc (.cells true true cs.toList)) w' ∧
      VRel (ρ.ins h.next p) (.slice (some ⟨h.next, 0, some (z + 2)⟩) n n) (.slice (some ⟨w.heap.size, 0, none⟩) n m) := by
  subst hw
  let p : Place := ⟨w.heap.size, 0, cs.size, z, m - n⟩
  have hB : BRel (ρ.ins h.next p) p (.cells true true cs.toList) (w.drew.alloc (.cells (cs' ++ zs) e)) := by
    refine ⟨by simp [p], nofun, cs' ++ zs, e, (0, 0), ?_, ?_, fun _ => rfl, fun i x hx => ?_⟩
    · exact heap_alloc_new w.drew _
    · simp [Place.top, p, r.1, hz]
    · obtain ⟨y, h1, h2⟩ := r.get (i := i) (x := x) (by simpa using hx)
      refine ⟨y, ?_, h2.mono (H.le_ins p)⟩
      have : i < cs'.size := (Array.getElem?_eq_some_iff.1 h1).1
      simp only [p, Nat.zero_add]
      rw [Array.getElem?_append, if_pos this]; exact h1
  obtain ⟨h1, h2⟩ := H.alloc' (w' := w.drew.alloc (.cells (cs' ++ zs) e)) (.cells (cs' ++ zs) e) (.cells true true cs.toList) p rfl rfl rfl rfl rfl hB
  refine ⟨p, h1, h2, ?_⟩
  have := VRel.sliceO (ρ := ρ.ins h.next p) (v := h.next) (o := 0) (l := n) (c := n) (c' := m) (k := z) (p := p) (Rho.ins_same _ _ _) rfl (.inr ⟨by simp [p, hc], by simp [p]; omega⟩)
  simpa [p] using this

theorem zeroCells_size (zc : Array Value) (n : Nat) : (Builtin.zeroCells zc n).size = n * zc.size := by simp [Builtin.zeroCells]

theorem getCells_size {cs : List Value} {o k : Nat} {a : Array Value} (h : getCells cs o k = some a) : o + k ≤ cs.length ∧ a.size = k ∧ ∀ i, a[i]? = if i < k then cs[o + i]? else none := by
  unfold getCells at h
  obtain ⟨h1, h2⟩ := if_some h
  cases h2
  refine ⟨h1, by simp; omega, fun i => ?_⟩
  simp only [List.getElem?_toArray, List.getElem?_take, List.getElem?_drop]

/-- The kill of a block and the new block behind it, the real one grown where it lies or moved. -/
theorem aappend_ok {P : Program} {ρ : Rho} {ats : Array TypeId} {ty : TypeId} {s x s' x' v : Value} {h h' : AHeap} {w : World} (ha : aappend P ats s x h = some (v, h')) (rs : VRel ρ s s') (rx : VRel ρ x x') (H : Holds ρ h w) :
    ∃ w' v' ρ', (Builtin.append_ ats ty #[s', x']).run P w = .ok v' w' ∧ Holds ρ' h' w' ∧ Ext ρ h w ρ' h' w' ∧ VRel ρ' v v' := by
  unfold aappend at ha
  split at ha
  case h_2 => cases ha
  rename_i e d he hd
  obtain ⟨t, ht, hu⟩ := bind_some_iff he
  obtain ⟨xt, hxt, hud⟩ := bind_some_iff hd
  obtain ⟨hnd, ha1⟩ := if_some ha
  obtain ⟨i, hi, ha2⟩ := bind_some_iff ha1
  obtain ⟨zv, hzv, ha3⟩ := bind_some_iff ha2
  obtain ⟨n, hn, ha4⟩ := bind_some_iff ha3
  obtain ⟨arr, harr, ha5⟩ := bind_some_iff ha4
  obtain ⟨⟨q1, q2, q3, q4⟩, ha6⟩ := if_some ha5
  clear ha ha1 ha2 ha3 ha4 ha5
  have ha := ha6
  clear ha6
  have hln := fun w => xlen_ok (P := P) hn rx w
  obtain ⟨arr', harr1, harr2⟩ := xcells_ok (P := P) harr rx H
  obtain ⟨arrd, harrd1, harrd2⟩ := xcells_ok (P := P) harr rx H.drew.1
  have hone : ∀ {xs xs' : Array Value}, ARel ρ xs xs' → xs.all (·.oneCell') = true → ∀ y ∈ xs'.toList, y.oneCell' = true := by
    intro xs xs' r ho y hy
    obtain ⟨j, hj, rfl⟩ := List.getElem_of_mem hy
    have hj' : j < xs'.size := by simpa using hj
    obtain ⟨y', h1, h2⟩ := r.get (i := j) (x := xs[j]'(by rw [← r.1]; exact hj')) (by simp [← r.1, hj'])
    have : xs'.toList[j] = y' := by simpa [hj'] using h1
    rw [this, h2.oneCell]
    exact (Array.all_eq_true.1 ho) j (by rw [← r.1]; exact hj')
  have hisz : isz P e = some i.size := by simp [isz, hi]
  split at ha
  · -- the nil slice
    cases rs
    by_cases h0 : n = 0
    · rw [if_pos h0] at ha
      cases ha
      subst h0
      refine ⟨w, _, ρ, run_append_room (n := 0) (arr := arr') ht hu hxt hud hnd hisz (hln w) harr1 (by omega) rfl, H, .refl _ _ _ H.fresh, .nilSlice⟩
    · rw [if_neg h0] at ha
      obtain ⟨hfit, ha⟩ := if_some ha
      cases ha
      obtain ⟨m, hm, hrun⟩ := run_append_grow (P := P) (ats := ats) (ty := ty) (sLen := 0) (cap := 0) (base := none) (old := #[]) (arr := arrd) (w := w) ht hu hxt hud hnd hi hzv q3 (by simpa using hfit) (hln w) (by omega) rfl harrd1
      simp only [Nat.zero_add] at hm hrun
      obtain ⟨p, p1, p2, p3⟩ := Holds.row (z := i.size) (n := n) (m := m) (e := e) (zs := Builtin.zeroCells zv.cells (m - n)) H rfl harrd2 q1 hm (by rw [zeroCells_size, q2])
      exact ⟨_, _, _, by simpa using hrun, by simpa using p1, by simpa using p2, p3⟩
  · -- a slice whose room is known
    rename_i v0 o l c
    cases rs with
    | slice hp =>
    rename_i p
    by_cases hroom : l + n ≤ c
    · rw [if_pos hroom] at ha
      rw [Option.map_eq_some_iff] at ha
      obtain ⟨h1, hput, ha⟩ := ha
      cases ha
      obtain ⟨w', g1, g2, g3⟩ := putAt_ok (P := P) hput hp harr2 H
      refine ⟨w', _, ρ, run_append_room (arr := arr') (w' := w') ht hu hxt hud hnd hisz (hln w) harr1 hroom ?_, g2, g3, .slice hp⟩
      simpa [add_none, Nat.add_assoc] using g1
    · rw [if_neg hroom] at ha
      obtain ⟨hfit, ha⟩ := if_some ha
      obtain ⟨old, hold, ha⟩ := bind_some_iff ha
      obtain ⟨hos, ha⟩ := if_some ha
      cases ha
      obtain ⟨old', ho1, ho2⟩ := xcells_ok (P := P) hold (VRel.slice hp) H.drew.1
      obtain ⟨m, hm, hrun⟩ := run_append_grow (P := P) (ats := ats) (ty := ty) (old := old') (arr := arrd) (w := w) ht hu hxt hud hnd hi hzv q3 hfit (hln w) (by omega) ho1 harrd1
      obtain ⟨p', p1, p2, p3⟩ := Holds.row (z := i.size) (n := l + n) (m := m) (e := e) (zs := Builtin.zeroCells zv.cells (m - (l + n))) H rfl (ho2.append harrd2) (by simp [hos, q1, Nat.add_mul]) hm (by rw [zeroCells_size, q2])
      exact ⟨_, _, _, hrun, p1, p2, p3⟩
  · -- a slice of no length whose room is not known
    rename_i v0 o
    cases rs with
    | sliceV =>
      obtain ⟨h0, ha⟩ := if_some ha
      cases ha
      subst h0
      have hnil : arr'.toList = [] := by
        have := harr2.1
        rw [q1] at this
        simpa using Array.eq_empty_of_size_eq_zero (by simpa using this)
      refine ⟨w, _, ρ, run_append_room (n := 0) (arr := arr') (w' := w) ht hu hxt hud hnd hisz (hln w) harr1 (by omega) ?_, H, .refl _ _ _ H.fresh, .sliceV⟩
      simp only [hnil]; rfl
  · -- a slice that may have room behind what is known
    rename_i v0 o k l c
    cases rs with
    | sliceO hp hk hc =>
    rename_i c' p
    by_cases hroom : l + n ≤ c
    · rw [if_pos hroom] at ha
      rw [Option.map_eq_some_iff] at ha
      obtain ⟨h1, hput, ha⟩ := ha
      cases ha
      obtain ⟨w', g1, g2, g3⟩ := putAt_ok (P := P) hput hp harr2 H
      refine ⟨w', _, ρ, run_append_room (arr := arr') (w' := w') ht hu hxt hud hnd hisz (hln w) harr1 (by omega) ?_, g2, g3, .sliceO hp hk hc⟩
      simpa [add_none, Nat.add_assoc] using g1
    · rw [if_neg hroom] at ha
      obtain ⟨⟨hkz, hlc, hfit⟩, ha⟩ := if_some ha
      split at ha
      case h_2 => cases ha
      rename_i gr cs hb
      rw [Option.map_eq_some_iff] at ha
      obtain ⟨old, hold, ha⟩ := ha
      cases ha
      subst hkz
      obtain ⟨ho1, ho2, ho3⟩ := getCells_size hold
      have hB := H.rel _ _ _ hp hb
      by_cases hin : l + n ≤ c'
      · -- it grows where it lies
        obtain ⟨g1, g2, cc, e', fr, g3, g4, g5, g6⟩ := hB
        have hfr := g5 rfl
        subst hfr
        have hcc : o + c * i.size = p.size ∧ c' = c + p.extra := by rcases hc with hc | hc <;> omega
        have hmul : (l + n) * i.size ≤ c' * i.size := Nat.mul_le_mul_right _ hin
        have hc'm : c' * i.size = c * i.size + p.extra * i.size := by rw [hcc.2, Nat.add_mul]
        have htop : p.top = p.base + o + c' * i.size := by unfold Place.top; rw [hk]; omega
        have has : arr'.size = n * i.size := by rw [harr2.1, q1]
        have hln' : (l + n) * i.size = l * i.size + n * i.size := Nat.add_mul ..
        obtain ⟨w', c2, k1, k2, k3, k4, k5, k6, k7, k8, k9⟩ := run_storeCells_at (P := P) arr'.toList (p.base + o + l * i.size) 0 cc w g3 (by simp [has]; omega) (hone harr2 q4)
        let q : Place := ⟨p.block, p.base + o, (l + n) * i.size, i.size, c' - (l + n)⟩
        have hqtop : q.top = p.top := by
          show p.base + o + (l + n) * i.size + (c' - (l + n)) * i.size = _
          rw [htop, Nat.add_assoc (p.base + o), ← Nat.add_mul, Nat.add_sub_cancel' hin]
        have hle := H.le_ins q
        have hrel : BRel (ρ.ins h.next q) q (.cells true true (old ++ arr).toList) w' := by
          refine ⟨by simp [q, ho2, q1, Nat.add_mul], nofun, c2, e', (0, 0), k2, by rw [hqtop, k3]; exact g4, fun _ => rfl, fun j y hy => ?_⟩
          have hy : (old ++ arr)[j]? = some y := by rw [← Array.getElem?_toList]; exact hy
          rw [Array.getElem?_append] at hy
          show ∃ x', c2[p.base + o + j]? = some x' ∧ _
          rw [k4]
          split at hy
          · rename_i hj
            rw [if_neg (by omega)]
            rw [ho3, if_pos (by omega)] at hy
            obtain ⟨y', y1, y2⟩ := g6 _ _ hy
            exact ⟨y', by rw [Nat.add_assoc]; exact y1, y2.mono hle⟩
          · rename_i hj
            obtain ⟨y', y1, y2⟩ := harr2.get hy
            have hlt : j - old.size < arr'.size := (Array.getElem?_eq_some_iff.1 y1).1
            rw [if_pos (by simp; omega)]
            refine ⟨y', ?_, y2.mono hle⟩
            have : p.base + o + j - (p.base + o + l * i.size + 0) = j - old.size := by omega
            rw [this]
            simpa using y1
        obtain ⟨r1, r2⟩ := H.grow (q := q) hp hb k5 k6 k7 k8 k9 rfl (by show p.base ≤ p.base + o; omega) (by omega) hrel
        refine ⟨w', _, _, run_append_room (arr := arr') (w' := w') ht hu hxt hud hnd hisz (hln w) harr1 hin ?_, r1, r2, ?_⟩
        · simpa [add_none, Nat.add_assoc] using k1
        · have := VRel.sliceO (ρ := ρ.ins h.next q) (v := h.next) (o := 0) (l := l + n) (c := l + n) (c' := c') (k := i.size) (p := q) (Rho.ins_same _ _ _) rfl (.inr ⟨by simp [q], by simp [q]; omega⟩)
          simpa [q] using this
      · -- it moves
        obtain ⟨Hd, Ed⟩ := H.drew
        have hBd := Hd.rel _ _ _ hp hb
        obtain ⟨old', ho1', ho2'⟩ := run_loadCells_rel (P := P) hBd hold
        obtain ⟨m, hm, hrun⟩ := run_append_grow (P := P) (ats := ats) (ty := ty) (sLen := l) (cap := c') (base := some ⟨p.block, p.base + o, none⟩) (old := old') (arr := arrd) (w := w) ht hu hxt hud hnd hi hzv q3 hfit (hln w) (by omega) ho1' harrd1
        have Hk := H.kill v0
        have hkn : (h.put v0 none).next = h.next := rfl
        obtain ⟨p', p1, p2, p3⟩ := Holds.row (z := i.size) (n := l + n) (m := m) (e := e) (zs := Builtin.zeroCells zv.cells (m - (l + n))) Hk rfl (ho2'.append harrd2) (by simp [ho2, q1, Nat.add_mul]) hm (by rw [zeroCells_size, q2])
        have Ek := Ext.kill H v0
        exact ⟨_, _, _, hrun, p1, Ext.trans H Hk Ek p2, p3⟩
  · cases ha

end Go.VE
