import Derived.Test.YthjinaagdfnmhaaGreatDoorVj
namespace Go.VE
open Go
set_option linter.unusedVariables false
set_option linter.unusedSimpArgs false

/-! ### copy, clear -/

def acopy (P : Program) (ats : Array TypeId) (d x : Value) (h : AHeap) : Option (Value × AHeap) :=
  match (ats[0]?).bind P.underlying, d with
  | some (.slice e), .slice base dLen _ => (isz P e).bind fun z => (xlen x).bind fun n => (xcells z (Nat.min n dLen) x h).bind fun arr =>
    match base with
    | none => if dLen = 0 ∧ arr.size = 0 then some (goInt 0, h) else none
    | some ⟨v, o, sp⟩ => if arr.size = 0 then some (goInt (Nat.min n dLen), h) else if sp = some 1 then none else (putAt v o arr.toList h).map fun h' => (goInt (Nat.min n dLen), h')
  | _, _ => none

theorem ARel.empty {ρ : Rho} {a b : Array Value} (r : ARel ρ a b) (h : a.size = 0) : b = #[] := Array.eq_empty_of_size_eq_zero (by rw [r.1, h])

theorem acopy_ok {P : Program} {ρ : Rho} {ats : Array TypeId} {ty : TypeId} {d x d' x' v : Value} {h h' : AHeap} {w : World} (ha : acopy P ats d x h = some (v, h')) (rd : VRel ρ d d') (rx : VRel ρ x x') (H : Holds ρ h w) :
    ∃ w' v', (Builtin.copy_ ats ty #[d', x']).run P w = .ok v' w' ∧ Holds ρ h' w' ∧ Ext ρ h w ρ h' w' ∧ VRel ρ v v' := by
  unfold acopy at ha
  split at ha
  case h_2 => cases ha
  rename_i e base dLen c he
  obtain ⟨t, ht, hu⟩ := bind_some_iff he
  obtain ⟨z, hz, ha1⟩ := bind_some_iff ha
  obtain ⟨n, hn, ha2⟩ := bind_some_iff ha1
  obtain ⟨arr, harr, ha3⟩ := bind_some_iff ha2
  clear ha ha1 ha2
  have ha := ha3
  clear ha3
  obtain ⟨arr', harr1, harr2⟩ := xcells_ok (P := P) harr rx H
  have start : ∀ (b' : Option Addr) (c' : Nat) (r : Result Value), d' = .slice b' dLen c' →
      ((match b' with | some a => (storeCells a arr'.toList >>= fun _ => pure (goInt (Nat.min n dLen)) : Sem Value) | none => pure (goInt (Nat.min n dLen))).run P w = r) → (Builtin.copy_ ats ty #[d', x']).run P w = r := by
    intro b' c' r e1 e2
    subst e1
    unfold Builtin.copy_
    simp only [ht, List.getElem?_toArray, List.getElem?_cons_zero, List.getElem?_cons_succ]
    rw [run_bind_ok (pureRun_run (by rw [pureRun_underlying, hu]) w)]
    simp only []
    rw [run_bind_ok (xlen_ok (P := P) hn rx w), run_bind_ok (run_size hz w), run_bind_ok harr1]
    cases b' <;> exact e2
  split at ha
  · obtain ⟨⟨h0, h1⟩, ha⟩ := if_some ha
    cases ha
    cases rd
    have e0 : Nat.min n 0 = 0 := Nat.min_zero n
    exact ⟨w, goInt (Nat.min n 0), start none _ _ rfl rfl, H, .refl _ _ _ H.fresh, by rw [e0]; exact .int _ _⟩
  · rename_i v0 o sp
    split at ha
    · rename_i h0
      cases ha
      have hnil := harr2.empty h0
      have key : ∀ (a : Addr) c', d' = .slice (some a) dLen c' → ∃ w' v', (Builtin.copy_ ats ty #[d', x']).run P w = .ok v' w' ∧ Holds ρ h w' ∧ Ext ρ h w ρ h w' ∧ VRel ρ (goInt (Nat.min n dLen)) v' := by
        intro a c' e1
        exact ⟨w, goInt (Nat.min n dLen), start (some a) c' _ e1 (by simp only [hnil]; rfl), H, .refl _ _ _ H.fresh, .int _ _⟩
      cases rd with
      | slice hp => exact key _ _ rfl
      | sliceO hp hk hc => exact key _ _ rfl
      | sliceV => exact key _ _ rfl
    · split at ha
      · cases ha
      rename_i hsp
      rw [Option.map_eq_some_iff] at ha
      obtain ⟨h1, hput, ha⟩ := ha
      cases ha
      have key : ∀ (p : Place) c', ρ v0 = some p → d' = .slice (some ⟨p.block, p.base + o, none⟩) dLen c' → ∃ w' v', (Builtin.copy_ ats ty #[d', x']).run P w = .ok v' w' ∧ Holds ρ h' w' ∧ Ext ρ h w ρ h' w' ∧ VRel ρ (goInt (Nat.min n dLen)) v' := by
        intro p c' hp e1
        obtain ⟨w', g1, g2, g3⟩ := putAt_ok (P := P) hput hp harr2 H
        exact ⟨w', goInt (Nat.min n dLen), start _ c' _ e1 (by simp only []; rw [run_bind_ok g1]; rfl), g2, g3, .int _ _⟩
      cases rd with
      | slice hp => exact key _ _ hp rfl
      | sliceO hp hk hc => exact key _ _ hp rfl
      | sliceV => exact absurd rfl hsp

/-! ### Maps with keys without an address -/

def dummy (k : Value) : MapEntry := ⟨k, .bool true, 0⟩

def afindKey (P : Program) (em : Bool) (kt : TypeId) (k : Value) (keys : List Value) : Option (Option Nat) :=
  if flatB 8 k = true ∧ keys.all (flatB 8) = true then (pureRun P (Instr.checkKey em 10000 kt k)).bind fun _ => (pureRun P (Instr.findKey kt k (keys.map dummy))).map (·.map (·.1)) else none

theorem findNow_map (kind : TypeDesc) (k : Value) : ∀ (es : List MapEntry) (i : Nat) (r : Option (Nat × Value)), Instr.findNow kind k (es.map fun e => dummy e.key) i = some r →
    (r = none → Instr.findNow kind k es i = some none) ∧ ∀ j v, r = some (j, v) → ∃ e, i ≤ j ∧ es[j - i]? = some e ∧ Instr.findNow kind k es i = some (some (j, e.val)) := by
  intro es
  induction es with
  | nil => intro i r h; cases h; exact ⟨fun _ => rfl, nofun⟩
  | cons e es ih =>
    intro i r h
    simp only [List.map_cons, Instr.findNow, dummy] at h ⊢
    split at h
    · rename_i hs
      cases h
      refine ⟨nofun, fun j v hj => ?_⟩
      cases hj
      exact ⟨e, Nat.le_refl _, by simp, rfl⟩
    · rename_i hs
      obtain ⟨h1, h2⟩ := ih (i + 1) r h
      refine ⟨h1, fun j v hj => ?_⟩
      obtain ⟨e', g1, g2, g3⟩ := h2 j v hj
      refine ⟨e', by omega, ?_, g3⟩
      have : j - i = (j - (i + 1)) + 1 := by omega
      rw [this]; simpa using g2
    · cases h

theorem findNow_none (kind : TypeDesc) (k : Value) : ∀ (es : List MapEntry) (i : Nat), Instr.findNow kind k (es.map fun e => dummy e.key) i = none → Instr.findNow kind k es i = none := by
  intro es
  induction es with
  | nil => intro i h; cases h
  | cons e es ih =>
    intro i h
    simp only [List.map_cons, Instr.findNow, dummy] at h ⊢
    split at h
    · cases h
    · exact ih _ h
    · rfl

theorem findAsking_map (P : Program) (kt : TypeId) (k : Value) : ∀ (es : List MapEntry) (i : Nat) (r : Option (Nat × Value)), pureRun P (Instr.findAsking kt k (es.map fun e => dummy e.key) i) = some r →
    (r = none → pureRun P (Instr.findAsking kt k es i) = some none) ∧ ∀ j v, r = some (j, v) → ∃ e, i ≤ j ∧ es[j - i]? = some e ∧ pureRun P (Instr.findAsking kt k es i) = some (some (j, e.val)) := by
  intro es
  induction es with
  | nil => intro i r h; cases h; exact ⟨fun _ => rfl, nofun⟩
  | cons e es ih =>
    intro i r h
    simp only [List.map_cons, Instr.findAsking, dummy] at h ⊢
    rw [pureRun_bind'] at h ⊢
    obtain ⟨b, hb, h⟩ := bind_some_iff h
    rw [hb]
    simp only [Option.bind_some]
    cases b with
    | true =>
      cases h
      refine ⟨nofun, fun j v hj => ?_⟩
      cases hj
      exact ⟨e, Nat.le_refl _, by simp, rfl⟩
    | false =>
      obtain ⟨h1, h2⟩ := ih (i + 1) r h
      refine ⟨h1, fun j v hj => ?_⟩
      obtain ⟨e', g1, g2, g3⟩ := h2 j v hj
      refine ⟨e', by omega, ?_, g3⟩
      have : j - i = (j - (i + 1)) + 1 := by omega
      rw [this]; simpa using g2

theorem findKey_map {P : Program} {kt : TypeId} {k : Value} {es : List MapEntry} {r : Option (Nat × Value)} (h : pureRun P (Instr.findKey kt k (es.map fun e => dummy e.key)) = some r) :
    (r = none → pureRun P (Instr.findKey kt k es) = some none) ∧ ∀ j v, r = some (j, v) → ∃ e, es[j]? = some e ∧ pureRun P (Instr.findKey kt k es) = some (some (j, e.val)) := by
  unfold Instr.findKey at h ⊢
  rw [pureRun_bind', pureRun_underlying] at h ⊢
  obtain ⟨d, hd, h⟩ := bind_some_iff h
  rw [hd]
  simp only [Option.bind_some]
  cases hf : Instr.findNow d k (es.map fun e => dummy e.key) 0 with
  | some r' =>
    rw [hf] at h
    cases h
    obtain ⟨h1, h2⟩ := findNow_map d k es 0 r hf
    refine ⟨fun e => by rw [h1 e]; rfl, fun j v hj => ?_⟩
    obtain ⟨e, _, g2, g3⟩ := h2 j v hj
    exact ⟨e, by simpa using g2, by rw [g3]; rfl⟩
  | none =>
    rw [hf] at h
    rw [findNow_none d k es 0 hf]
    obtain ⟨h1, h2⟩ := findAsking_map P kt k es 0 r h
    refine ⟨h1, fun j v hj => ?_⟩
    obtain ⟨e, _, g2, g3⟩ := h2 j v hj
    exact ⟨e, by simpa using g2, g3⟩

theorem afindKey_ok {P : Program} {em : Bool} {kt : TypeId} {k : Value} {keys : List Value} {r : Option Nat} (h : afindKey P em kt k keys = some r) {es : List MapEntry} (he : es.map (·.key) = keys) :
    pureRun P (Instr.checkKey em 10000 kt k) = some () ∧ (r = none → pureRun P (Instr.findKey kt k es) = some none) ∧
      ∀ j, r = some j → ∃ e, es[j]? = some e ∧ pureRun P (Instr.findKey kt k es) = some (some (j, e.val)) := by
  subst he
  unfold afindKey at h
  obtain ⟨hf, h⟩ := if_some h
  obtain ⟨u, hu, h⟩ := bind_some_iff h
  rw [Option.map_eq_some_iff] at h
  obtain ⟨r', hr, h⟩ := h
  have e1 : (es.map (·.key)).map dummy = es.map fun e => dummy e.key := by simp
  rw [e1] at hr
  obtain ⟨h1, h2⟩ := findKey_map hr
  refine ⟨hu, fun hn => ?_, fun j hj => ?_⟩
  · apply h1
    cases r' with
    | none => rfl
    | some p => rw [← h] at hn; cases hn
  · cases r' with
    | none => rw [← h] at hj; cases hj
    | some p =>
      obtain ⟨j', v⟩ := p
      rw [← h] at hj
      cases hj
      obtain ⟨e, g1, g2⟩ := h2 j' v rfl
      exact ⟨e, g1, g2⟩

/-- The keys of a real map are those of the virtual. -/
theorem keys_eq {ρ : Rho} {kv : List (Value × Value)} {es : Array MapEntry} (hs : es.size = kv.length)
    (hr : ∀ (i : Nat) (k x : Value), kv[i]? = some (k, x) → ∃ e, es[i]? = some e ∧ VRel ρ k e.key ∧ VRel ρ x e.val) (hf : (kv.map (·.1)).all (flatB 8) = true) :
    es.toList.map (·.key) = kv.map (·.1) := by
  apply List.ext_getElem?
  intro i
  simp only [List.getElem?_map, Array.getElem?_toList]
  cases hk : kv[i]? with
  | none =>
    have : es[i]? = none := by
      rw [List.getElem?_eq_none_iff] at hk
      rw [Array.getElem?_eq_none_iff]; omega
    rw [this]; rfl
  | some p =>
    obtain ⟨k, x⟩ := p
    obtain ⟨e, h1, h2, _⟩ := hr i k x hk
    rw [h1]
    have hm : k ∈ kv.map (·.1) := List.mem_map.2 ⟨(k, x), List.mem_of_getElem? hk, rfl⟩
    have := h2.flat_eq 8 (List.all_eq_true.1 hf k hm)
    simp [this]

def mapOf (x : Value) (h : AHeap) : Option (List (Value × Value)) :=
  match x with
  | .map none => some []
  | .map (some v) => match h.blk v with | some (.map kv) => some kv | _ => none
  | _ => none

def alookup (P : Program) (t : TypeId) (x k : Value) (ok : Bool) (h : AHeap) : Option Value :=
  match P.underlying t with
  | some (.map kt et) => (mapOf x h).bind fun kv => (afindKey P kv.isEmpty kt k (kv.map (·.1))).bind fun r => match r with
    | some j => (kv[j]?).map fun p => if ok then .tuple #[p.2, .bool true] else p.2
    | none => ((P.info? et).bind (·.zero)).map fun z => if ok then .tuple #[z, .bool false] else z
  | _ => none

theorem getObj_ok {P : Program} {b : Nat} {o : Obj} {w : World} (h : w.heap[b]? = some o) (hc : ∀ c e f, o ≠ .cells c e f) : (getObj b).run P w = .ok o w := by
  cases o <;> first
    | exact absurd rfl (hc _ _ _)
    | simp only [getObj, Sem.run, h]

theorem alookup_ok {P : Program} (F : Fine P) {ρ : Rho} {t : TypeId} {x x' k k' v : Value} {ok : Bool} {h : AHeap} {w : World} (ha : alookup P t x k ok h = some v) (rx : VRel ρ x x') (rk : VRel ρ k k')
    (hb : ∀ r p B, x = .map (some r) → ρ r = some p → h.blk r = some B → BRel ρ p B w) :
    ∃ v', (Instr.lookup t x' k' ok).run P w = .ok v' w ∧ VRel ρ v v' := by
  unfold alookup at ha
  split at ha
  case h_2 => cases ha
  rename_i kt et hu
  obtain ⟨kv, hkv, ha1⟩ := bind_some_iff ha
  obtain ⟨r, hr, ha2⟩ := bind_some_iff ha1
  clear ha ha1
  have hflat : flatB 8 k = true ∧ (kv.map (·.1)).all (flatB 8) = true := by
    unfold afindKey at hr
    exact (if_some hr).1
  have hk' := rk.flat_eq 8 hflat.1
  subst hk'
  have two : ∀ {y y' : Value} (b : Bool), VRel ρ y y' → VRel ρ (if ok then .tuple #[y, .bool b] else y) (if ok then .tuple #[y', .bool b] else y') := by
    intro y y' b r
    cases ok
    · exact r
    · exact two_rel r b
  have fin : ∀ (es : Array MapEntry), es.size = kv.length → (∀ (i : Nat) (k x : Value), kv[i]? = some (k, x) → ∃ e, es[i]? = some e ∧ VRel ρ k e.key ∧ VRel ρ x e.val) →
      ∃ v', (do Instr.checkKey es.isEmpty 10000 kt k'
                let (v, ok') ← match ← Instr.findKey kt k' es.toList with
                  | some (_, v) => pure (v, true)
                  | none => pure (← zeroValue et, false)
                pure (if ok then .tuple #[v, .bool ok'] else v) : Sem Value).run P w = .ok v' w ∧ VRel ρ v v' := by
    intro es hs he
    obtain ⟨g1, g2, g3⟩ := afindKey_ok hr (keys_eq hs he hflat.2)
    have hemp : kv.isEmpty = es.isEmpty := by
      rw [Bool.eq_iff_iff, List.isEmpty_iff_length_eq_zero, Array.isEmpty_iff_size_eq_zero, hs]
    rw [hemp] at g1
    cases r with
    | none =>
      simp only [Option.map_eq_some_iff] at ha2
      obtain ⟨z, hz, rfl⟩ := ha2
      refine ⟨_, ?_, two false (F.zrel hz ρ)⟩
      rw [run_bind_ok (pureRun_run g1 w), run_bind_ok (pureRun_run (g2 rfl) w)]
      simp only []
      rw [run_bind_ok (pureRun_run (P := P) (s := zeroValue et) (by rw [pureRun_zero, hz]) w)]
      rfl
    | some j =>
      simp only [Option.map_eq_some_iff] at ha2
      obtain ⟨⟨kj, xj⟩, hj, rfl⟩ := ha2
      obtain ⟨e, e1, e2⟩ := g3 j rfl
      obtain ⟨e', e1', _, e3⟩ := he j kj xj hj
      have : e' = e := by
        have : es[j]? = some e := by simpa using e1
        rw [e1'] at this; exact Option.some.inj this
      subst this
      refine ⟨_, ?_, two true e3⟩
      rw [run_bind_ok (pureRun_run g1 w), run_bind_ok (pureRun_run e2 w)]
      rfl
  unfold Instr.lookup
  rw [run_bind_ok (pureRun_run (by rw [pureRun_underlying, hu]) w)]
  simp only []
  unfold mapOf at hkv
  split at hkv
  · cases hkv
    cases rx
    obtain ⟨v', h1, h2⟩ := fin #[] rfl (fun i k x h => by simp at h)
    exact ⟨v', h1, h2⟩
  · rename_i r0
    split at hkv
    · rename_i kv' hbv
      cases hkv
      cases rx with
      | map hp =>
        rename_i p
        obtain ⟨_, _, es, cl, k3, k4, k5⟩ := hb r0 _ _ rfl hp hbv
        obtain ⟨v', h1, h2⟩ := fin es k4 k5
        refine ⟨v', ?_, h2⟩
        simp only []
        rw [run_bind_ok (getObj_ok k3 nofun)]
        exact h1
    · cases hkv
  · cases hkv


def amapUpdate (P : Program) (t : TypeId) (x k u : Value) (h : AHeap) : Option AHeap :=
  match P.underlying t, x with
  | some (.map kt _), .map (some v) => match h.blk v with
    | some (.map kv) => (afindKey P false kt k (kv.map (·.1))).bind fun r => if flatB 8 k = true then match r with
      | some j => match kv[j]? with
        | some (k0, _) => if Instr.sameBits 10000 k0 k = true then some (h.put v (some (.map (kv.set j (k, u))))) else none
        | none => none
      | none => some (h.put v (some (.map (kv ++ [(k, u)]))))
      else none
    | _ => none
  | _, _ => none

theorem setObj_ok {P : Program} {b : Nat} {o o' : Obj} {w : World} (h : w.heap[b]? = some o) (hc : ∀ c e f, o ≠ .cells c e f) :
    (setObj b o').run P w = .ok () { w with heap := w.heap.setIfInBounds b o' } := by
  cases o <;> first
    | exact absurd rfl (hc _ _ _)
    | simp only [setObj, Sem.run, h]

theorem amapUpdate_ok {P : Program} {ρ : Rho} {t : TypeId} {x x' k k' u u' : Value} {h h' : AHeap} {w : World} (ha : amapUpdate P t x k u h = some h') (rx : VRel ρ x x') (rk : VRel ρ k k') (ru : VRel ρ u u')
    (H : Holds ρ h w) : ∃ w', (Instr.mapUpdate t x' k' u').run P w = .ok () w' ∧ Holds ρ h' w' ∧ Ext ρ h w ρ h' w' := by
  unfold amapUpdate at ha
  split at ha
  case h_2 => cases ha
  rename_i kt et v hu
  split at ha
  case h_2 => cases ha
  rename_i kv hbv
  obtain ⟨r, hr, ha1⟩ := bind_some_iff ha
  obtain ⟨hfk, ha2⟩ := if_some ha1
  clear ha ha1
  cases rx with
  | map hp =>
  rename_i p
  have hk' := rk.flat_eq 8 hfk
  subst hk'
  have hflat : (kv.map (·.1)).all (flatB 8) = true := by
    unfold afindKey at hr
    exact (if_some hr).1.2
  obtain ⟨p0, p1, es, cl, k3, k4, k5⟩ := H.rel _ _ _ hp hbv
  have hkeys := keys_eq k4 k5 hflat
  obtain ⟨g1, g2, g3⟩ := afindKey_ok hr hkeys
  unfold Instr.mapUpdate
  rw [run_bind_ok (pureRun_run (by rw [pureRun_underlying, hu]) w)]
  simp only []
  rw [run_bind_ok (getObj_ok k3 nofun)]
  simp only []
  rw [run_bind_ok (pureRun_run g1 w)]
  have hlt : p.block < w.heap.size := (Array.getElem?_eq_some_iff.1 k3).1
  cases r with
  | none =>
    rw [run_bind_ok (pureRun_run (g2 rfl) w)]
    simp only [] at ha2 ⊢
    cases ha2
    refine ⟨_, setObj_ok k3 nofun, ?_⟩
    refine H.setObj _ hp hbv rfl ⟨p0, p1, es.push { key := k', val := u', born := cl }, cl + 1, ?_, ?_, fun i ki xi hi => ?_⟩
    · simp [hlt]
    · simp [k4]
    · rw [List.getElem?_append] at hi
      rw [Array.getElem?_push]
      split at hi
      · rename_i hlt'
        rw [if_neg (by omega)]
        exact k5 i ki xi hi
      · rename_i hge
        have hi0 : i - kv.length = 0 := by
          have := (List.getElem?_eq_some_iff.1 hi).1
          simpa using this
        rw [hi0] at hi
        cases hi
        rw [if_pos (by omega)]
        exact ⟨_, rfl, .of_flat 8 _ hfk, ru⟩
  | some j =>
    obtain ⟨e, e1, e2⟩ := g3 j rfl
    rw [run_bind_ok (pureRun_run e2 w)]
    simp only [] at ha2 ⊢
    split at ha2
    case h_2 => cases ha2
    rename_i k0 x0 hj
    obtain ⟨hsb, ha2⟩ := if_some ha2
    cases ha2
    have ek : e.key = k0 := by
      have h1 : (es.toList.map (·.key))[j]? = some e.key := by rw [List.getElem?_map, e1]; rfl
      rw [hkeys, List.getElem?_map, hj] at h1
      exact (Option.some.inj h1).symm
    have e1' : es[j]? = some e := by simpa using e1
    have hkeep : (Instr.keyThatStays (((es[j]?).map (·.key)).getD k') k').run P w = .ok k' w := by
      rw [e1']
      simp only [Option.map_some, Option.getD_some, ek]
      unfold Instr.keyThatStays
      rw [if_pos hsb]; rfl
    rw [run_bind_ok hkeep]
    refine ⟨_, setObj_ok k3 nofun, ?_⟩
    refine H.setObj _ hp hbv rfl ⟨p0, p1, es.modify j fun e => { e with key := k', val := u' }, cl, ?_, ?_, fun i ki xi hi => ?_⟩
    · simp [hlt]
    · simp [k4]
    · rw [List.getElem?_set] at hi
      rw [Array.getElem?_modify]
      split at hi
      · rename_i hji
        subst hji
        split at hi
        · cases hi
          rw [if_pos rfl, e1']
          exact ⟨_, rfl, .of_flat 8 _ hfk, ru⟩
        · cases hi
      · rename_i hji
        rw [if_neg hji]
        exact k5 i ki xi hi

/-! ### Strings, rune by rune -/

def anext (x : Value) (isString : Bool) (h : AHeap) : Option (Value × AHeap) :=
  match x, isString with
  | .pointer (some ⟨v, 0, none⟩), true => match h.blk v with
    | some (.iter s pos) => if pos < s.size then some (.tuple #[.bool true, goInt pos, .int .i32 (Utf8.decode s pos).1], h.put v (some (.iter s (pos + (Utf8.decode s pos).2))))
      else some (.tuple #[.bool false], h)
    | _ => none
  | _, _ => none

theorem flat_tuple {ρ : Rho} {cs : Array Value} (h : cs.all (flatB 8) = true) : VRel ρ (.tuple cs) (.tuple cs) := VRel.of_flat 9 _ (by simpa [flatB] using h)

theorem anext_ok {P : Program} {ρ : Rho} {x x' v : Value} {b : Bool} {ty : TypeId} {h h' : AHeap} {w : World} (ha : anext x b h = some (v, h')) (rx : VRel ρ x x') (H : Holds ρ h w) :
    ∃ w' v', (Instr.next x' b ty).run P w = .ok v' w' ∧ Holds ρ h' w' ∧ Ext ρ h w ρ h' w' ∧ VRel ρ v v' := by
  unfold anext at ha
  split at ha
  case h_2 => cases ha
  rename_i v0
  split at ha
  case h_2 => cases ha
  rename_i s pos hb
  cases rx with
  | ptr hp =>
  rename_i p
  obtain ⟨p0, p1, k3⟩ := H.rel _ _ _ hp hb
  have hlt : p.block < w.heap.size := (Array.getElem?_eq_some_iff.1 k3).1
  rw [p0]
  unfold Instr.next
  simp only [Nat.add_zero]
  rw [run_bind_ok (getObj_ok k3 nofun)]
  simp only []
  split at ha
  · rename_i hpos
    cases ha
    rw [if_pos hpos]
    rw [run_bind_ok (setObj_ok k3 nofun)]
    obtain ⟨h1, h2⟩ := H.setObj (B' := .iter s (pos + (Utf8.decode s pos).2)) (.stringIter s (pos + (Utf8.decode s pos).2)) hp hb rfl ⟨p0, p1, by simp [hlt]⟩
    exact ⟨_, _, rfl, h1, h2, flat_tuple (by simp [flatB, goInt])⟩
  · rename_i hpos
    cases ha
    rw [if_neg hpos]
    exact ⟨w, _, rfl, H, .refl _ _ _ H.fresh, flat_tuple (by simp [flatB])⟩

end Go.VE
