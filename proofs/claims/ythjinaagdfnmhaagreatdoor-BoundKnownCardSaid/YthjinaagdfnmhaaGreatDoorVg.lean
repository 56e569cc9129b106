import Derived.Test.YthjinaagdfnmhaaGreatDoorVf
namespace Go.VE
open Go
set_option linter.unusedVariables false
set_option linter.unusedSimpArgs false

theorem run_stringToBytes (P : Program) (e : TypeId) (s : ByteArray) (hs : s.size < 2 ^ 63) (w : World) :
    ∃ (cap : Nat) (w' : World), (Conv.stringToBytes e s).run P w = .ok (.slice (some ⟨w.heap.size, 0, none⟩) s.size cap) w' ∧ s.size ≤ cap ∧
      w'.heap = w.heap.push (.cells (s.data.map (fun b => Value.int .u8 b.toNat) ++ Array.replicate (cap - s.size) (.int .u8 0)) e (cap, cap + 1)) ∧
      w'.os = w.os ∧ w'.tape = w.tape ∧ w'.output = w.output := by
  let cap := (Question.appendCap s.size 0 e).cut (w.tape w.drawn (.appendCap s.size 0 e))
  have hcap : s.size ≤ cap := by
    show s.size ≤ s.size + _
    omega
  let cs : Array Value := s.data.map (fun b => Value.int .u8 b.toNat) ++ Array.replicate (cap - s.size) (.int .u8 0)
  have hn : cs.size = cap := by
    have : s.data.size = s.size := rfl
    simp [cs, this]; omega
  have h1 : (choose (.appendCap s.size 0 e)).run P w = .ok cap w.drew := rfl
  have h2 : (newRow e cs).run P w.drew = .ok ⟨w.heap.size, 0, none⟩ (w.drew.alloc (.cells cs e)) := run_newRow P _ _ _
  have h3 : (w.drew.alloc (.cells cs e)).shape? w.heap.size = some (e, cap) := by
    have := heap_alloc_new w.drew (.cells cs e)
    simp only [World.size_drew] at this
    unfold World.shape?
    rw [this]
    simp [hn]
  have h4 : (markStringish ⟨w.heap.size, 0, none⟩).run P (w.drew.alloc (.cells cs e)) = .ok () ((w.drew.alloc (.cells cs e)).freeze ⟨w.heap.size, cap, none⟩ 1) := by
    show Sem.run P (shape w.heap.size >>= _) _ = _
    have : (shape w.heap.size).run P (w.drew.alloc (.cells cs e)) = .ok (some (e, cap)) (w.drew.alloc (.cells cs e)) := by
      show Result.ok _ _ = _
      rw [h3]
    rw [run_bind_ok this]
    rfl
  refine ⟨cap, (w.drew.alloc (.cells cs e)).freeze ⟨w.heap.size, cap, none⟩ 1, ?_, hcap, ?_, rfl, rfl, rfl⟩
  · unfold Conv.stringToBytes
    rw [run_bind_ok h1]
    simp only []
    rw [run_bind_ok h2, run_bind_ok h4]
    rfl
  · have e1 : (w.drew.alloc (.cells cs e)).heap = w.heap.push (.cells cs e) := rfl
    simp only [World.freeze, if_neg (show ¬ (1 : Nat) = 0 by decide), e1]
    apply Array.ext_getElem?
    intro i
    rw [Array.getElem?_modify, Array.getElem?_push, Array.getElem?_push]
    by_cases hi : i = w.heap.size
    · subst hi
      simp [cs]
    · simp [hi, Ne.symm hi]

theorem POk.bytes {P : Program} {ρ : Rho} {n : Nat} {w : World} {e : TypeId} {s : ByteArray} (hs : s.size < 2 ^ 63) (S : Sem Value)
    (hS : S.run P w = (Conv.stringToBytes e s).run P w) : POk P ρ n w (do pure (Next.value (← S))) (.slice (some ⟨n, 0, some 3⟩) s.size s.size) (some (.cells false true (bytesOfStr s))) := by
  obtain ⟨cap, w', h1, h2, h3, h4, h5, h6⟩ := run_stringToBytes P e s hs w
  rw [← hS] at h1
  have hd : s.data.size = s.size := rfl
  refine ⟨_, w', _, ⟨w.heap.size, 0, s.size, 1, cap - s.size⟩, val_ok h1, h3, h4, h5, h6, rfl, fun ρ' hl hn => ⟨⟨?_, fun h => (by cases h), s.data.map (fun b => Value.int .u8 b.toNat) ++ Array.replicate (cap - s.size) (.int .u8 0), e, (cap, cap + 1), ?_, ?_, fun h => (by cases h), fun i x hx => ?_⟩, ?_⟩⟩
  · simp [bytesOfStr]
  · rw [h3]; simp
  · have := hd; simp [Place.top, this]
    try omega
  · simp only [bytesOfStr, List.getElem?_map, Option.map_eq_some_iff] at hx
    obtain ⟨b, hb, rfl⟩ := hx
    have hb' : s.data[i]? = some b := by simpa using hb
    refine ⟨.int .u8 b.toNat, ?_, .int _ _⟩
    have hi : i < s.data.size := (Array.getElem?_eq_some_iff.1 hb').1
    rw [Nat.zero_add, Array.getElem?_append, if_pos (by simpa using hi)]
    simp [hb']
  · have := VRel.sliceO (ρ := ρ') (v := n) (o := 0) (l := s.size) (c := s.size) (c' := cap) (k := 1) hn rfl (.inr ⟨by simp, by simp; omega⟩)
    simpa using this

theorem execOp_val {ev : Operand → Value} {s : Sem Value} : (do pure (Next.value (← s)) : Sem Next) = (do let v ← s; pure (.value v)) := rfl

theorem arr_pair {ρ : Rho} {ev ev' : Operand → Value} {x : Option Operand} (h : ∀ y, x = some y → VRel ρ (ev y) (ev' y)) : ∀ d n, abnd (x.map ev) d = some n → x.map ev' = x.map ev := by
  intro d n hn
  cases x with
  | none => rfl
  | some y =>
    have r := h y rfl
    simp only [Option.map_some] at hn ⊢
    unfold abnd at hn
    split at hn
    · rename_i hh; cases hh
    · rename_i k i hh
      simp only [Option.some.injEq] at hh
      rw [hh] at r ⊢
      rw [r.of_int]
    · cases hn

set_option maxHeartbeats 1000000 in
theorem pstep_sound {P : Program} (F : Fine P) {ρ : Rho} {n : Nat} {o : Oper} {ev ev' : Operand → Value} {v : Value} {nb : Option Blk}
    (hr : ∀ x ∈ o.op.operands, VRel ρ (ev x) (ev' x)) (h : pstep P o ev n = some (v, nb)) (w : World) : POk P ρ n w (execOp ev' o) v nb := by
  obtain ⟨dst, op, ty, pos, after, guard⟩ := o
  cases op with
  | move x => cases h; exact ⟨ev' x, rfl, hr x (by simp [Op.operands])⟩
  | assign x => cases h; exact ⟨ev' x, rfl, hr x (by simp [Op.operands])⟩
  | pick c a b =>
    have rc := hr c (by simp [Op.operands])
    have ra := hr a (by simp [Op.operands])
    have rb := hr b (by simp [Op.operands])
    simp only [pstep] at h
    split at h
    · rename_i t ht
      cases h
      rw [ht] at rc
      have e : ev' c = .bool t := rc.of_bool
      refine ⟨if t then ev' a else ev' b, ?_, by cases t <;> assumption⟩
      show Sem.run P (asBool (ev' c) >>= _) w = _
      rw [e]; rfl
    · cases h
  | alloc e =>
    simp only [pstep, Option.map_eq_some_iff] at h
    obtain ⟨z, hz, h⟩ := h
    cases h
    exact POk.cells (e := e) (val_ok (run_alloc hz w)) (F.zcells hz ρ) (fun ρ' p _ hn hb h0 => ptr_new hn hb h0)
  | box e x =>
    cases h
    exact POk.cells (e := e) (val_ok (run_box w)) (hr x (by simp [Op.operands])).cells (fun ρ' p _ hn hb h0 => ptr_new hn hb h0)
  | build t parts =>
    simp only [pstep, Option.map_eq_some_iff] at h
    obtain ⟨u, hu, h⟩ := h
    cases h
    have rp : PRel ρ (parts.map fun (i, x) => (i, ev x)) (parts.map fun (i, x) => (i, ev' x)) := .map_ev fun x hx => hr x.2 (by simp only [Op.operands]; exact List.mem_toArray.2 (List.mem_map.2 ⟨x, Array.mem_toList_iff.2 hx, rfl⟩))
    obtain ⟨v', h1, h2⟩ := abuild_rel F hu rp
    exact POk.ofPure (abuild_ok h1) h2
  | buildSlice t len parts =>
    have rp : PRel ρ (parts.map fun (i, x) => (i, ev x)) (parts.map fun (i, x) => (i, ev' x)) := .map_ev fun x hx => hr x.2 (by simp only [Op.operands]; exact List.mem_toArray.2 (List.mem_map.2 ⟨x, Array.mem_toList_iff.2 hx, rfl⟩))
    simp only [pstep] at h
    split at h
    · rename_i e hu
      split at h
      · rename_i i hi
        split at h
        · rename_i z hz
          split at h
          · rename_i hlt
            rw [Option.map_eq_some_iff] at h
            obtain ⟨cs, hf, h⟩ := h
            cases h
            have hzb : (P.info? e).bind (·.zero) = some z := by rw [hi]; exact hz
            obtain ⟨cs', hf', rc⟩ := fill_rel _ _ ((parts.map fun (i, x) => (i, ev' x)).toList) _ _ _ (zerosN_rel (F.zcells hzb ρ) (len * i.size)) (by simp) (fun j x y hx hy => rp.2 j x y (by rw [← Array.getElem?_toList]; exact hx) (by rw [← Array.getElem?_toList]; exact hy)) hf
            exact POk.cells (e := e) (val_ok (run_buildSlice hu hi hz hlt hf' w)) rc (fun ρ' p _ hn hb h0 => slice_new hn hb h0)
          · cases h
        · cases h
      · cases h
    · cases h
  | nilCheck x =>
    have rx := hr x (by simp [Op.operands])
    simp only [pstep] at h
    split at h
    · rename_i a ha
      cases h
      rw [ha] at rx
      cases hx : ev' x with
      | pointer b =>
        rw [hx] at rx
        cases b with
        | none => cases rx
        | some b =>
          refine ⟨.pointer (some b), ?_, rx⟩
          unfold execOp
          simp only [hx]
          rfl
      | _ => rw [hx] at rx; cases rx
    · rename_i f fs cs ha
      cases h
      rw [ha] at rx
      cases hx : ev' x with
      | func g fs' cs' =>
        rw [hx] at rx
        have hg : g = .func f := by cases rx with | func hf _ _ _ _ => cases hf; rfl
        subst hg
        refine ⟨.func (.func f) fs' cs', ?_, rx⟩
        unfold execOp
        simp only [hx]
        rfl
      | _ => rw [hx] at rx; cases rx
    · rename_i l fs cs ha
      cases h
      rw [ha] at rx
      cases hx : ev' x with
      | func g fs' cs' =>
        rw [hx] at rx
        have hg : ∃ l', g = .yield l' := by cases rx with | func hf _ _ _ _ => cases hf; exact ⟨_, rfl⟩
        obtain ⟨l', rfl⟩ := hg
        refine ⟨.func (.yield l') fs' cs', ?_, rx⟩
        unfold execOp
        simp only [hx]
        rfl
      | _ => rw [hx] at rx; cases rx
    · cases h
  | binOp op t x y yt =>
    simp only [pstep, Option.map_eq_some_iff] at h
    obtain ⟨u, hu, h⟩ := h
    cases h
    obtain ⟨h1, h2⟩ := pbin_ok hu (hr x (by simp [Op.operands])) (hr y (by simp [Op.operands]))
    exact POk.ofPure h1 h2
  | unOp op t x =>
    have rx := hr x (by simp [Op.operands])
    simp only [pstep] at h
    split at h
    · rename_i hf
      obtain ⟨u, h1, h2⟩ := bind_some_iff h
      obtain ⟨h3, h4⟩ := if_some h2
      cases h4
      have e := rx.flat_eq 8 hf
      refine POk.ofPure (s := Op.unary op (ev' x)) (by rw [e]; exact h1) (.of_flat 8 _ h3)
    · cases h
  | convert s d x =>
    have rx := hr x (by simp [Op.operands])
    simp only [pstep] at h
    split at h
    · rename_i e b hs hd hx
      split at h
      · rename_i he
        split at h
        · rename_i hlt
          cases h
          rw [hx] at rx
          have hx' := rx.of_string
          refine POk.bytes (e := e) hlt (convert s d (ev' x)) ?_
          rw [hx']
          unfold convert
          rw [run_bind_ok (pureRun_run (by rw [pureRun_underlying, hs]) w), run_bind_ok (pureRun_run (by rw [pureRun_underlying, hd]) w)]
          simp only []
          rw [run_bind_ok (pureRun_run (by rw [pureRun_underlying, he]) w)]
        · cases h
      · cases h
    · obtain ⟨hf, h⟩ := if_some h
      obtain ⟨u, h1, h2⟩ := bind_some_iff h
      obtain ⟨h3, h4⟩ := if_some h2
      cases h4
      have e := rx.flat_eq 8 hf
      refine POk.ofPure (s := convert s d (ev' x)) (by rw [e]; exact h1) (.of_flat 8 _ h3)
  | makeInterface t x =>
    have rx := hr x (by simp [Op.operands])
    simp only [pstep] at h
    split at h
    · cases h
    · rename_i d hd hu
      cases h
      refine POk.ofPure (s := Instr.makeInterface t (ev' x)) (v' := .iface t (ev' x)) ?_ (.iface rx)
      unfold Instr.makeInterface
      rw [pureRun_bind', pureRun_underlying, hu]
      cases d <;> first | rfl | exact absurd rfl (hd _)
    · cases h
  | makeFunc f fs cs =>
    simp only [pstep] at h
    split at h
    · rename_i g
      cases h
      have r1 : ARel ρ (fs.map ev) (fs.map ev') := .map_ev fun x hx => hr x (by simp [Op.operands, hx])
      have r2 : ARel ρ (cs.map ev) (cs.map ev') := .map_ev fun x hx => hr x (by simp [Op.operands, hx])
      exact ⟨.func (.func g) (fs.map ev') (cs.map ev'), rfl, .func (.func g) r1.1 (fun i _ => r1.2 i) r2.1 (fun i _ => r2.2 i)⟩
    · cases h
  | makeMap t r =>
    cases r with
    | some r => cases h
    | none =>
      cases h
      refine ⟨.map (some w.heap.size), w.alloc (.map #[] 0), .map #[] 0, ⟨w.heap.size, 0, 1, 0, 0⟩, rfl, rfl, rfl, rfl, rfl, rfl, fun ρ' hl hn => ⟨⟨rfl, rfl, #[], 0, heap_alloc_new _ _, rfl, fun i k x hx => by simp at hx⟩, ?_⟩⟩
      exact .map hn
  | makeSlice t l c =>
    have rl := hr l (by simp [Op.operands])
    have rc := hr c (by simp [Op.operands])
    simp only [pstep] at h
    split at h
    · rename_i e k1 l' k2 c' hu hl hc
      split at h
      · rename_i i hi
        split at h
        · rename_i z hz
          obtain ⟨⟨g1, g2, g3, g4⟩, h⟩ := if_some h
          cases h
          rw [hl] at rl
          rw [hc] at rc
          have e1 := rl.of_int
          have e2 := rc.of_int
          have hzb : (P.info? e).bind (·.zero) = some z := by rw [hi]; exact hz
          refine POk.cells (e := e) (v' := .slice (some ⟨w.heap.size, 0, none⟩) l'.toNat c'.toNat) (val_ok (s := Instr.makeSlice t (ev' l) (ev' c)) ?_) (zerosN_rel (F.zcells hzb ρ) _) (fun ρ' p _ hn hb h0 => slice_new hn hb h0)
          rw [e1, e2]
          exact run_makeSlice hu hi hz g1 g2 g3 g4 w
        · cases h
      · cases h
    · cases h
  | slice t x lo hi mx =>
    simp only [pstep, Option.map_eq_some_iff] at h
    obtain ⟨u, hu, h⟩ := h
    cases h
    obtain ⟨v', h1, h2⟩ := aslice_ok hu (hr x (by simp [Op.operands])) (arr_pair fun y hy => hr y (by simp [Op.operands, hy])) (arr_pair fun y hy => hr y (by simp [Op.operands, hy])) (arr_pair fun y hy => hr y (by simp [Op.operands, hy]))
    exact POk.ofPure h1 h2
  | fieldAddr s x f =>
    simp only [pstep, Option.map_eq_some_iff] at h
    obtain ⟨u, hu, h⟩ := h
    cases h
    obtain ⟨v', h1, h2⟩ := afieldAddr_ok hu (hr x (by simp [Op.operands]))
    exact POk.ofPure h1 h2
  | field t x f =>
    simp only [pstep, Option.map_eq_some_iff] at h
    obtain ⟨u, hu, h⟩ := h
    cases h
    obtain ⟨v', h1, h2⟩ := afield_rel hu (hr x (by simp [Op.operands]))
    exact POk.ofPure (afield_ok h1) h2
  | indexAddr t x i =>
    simp only [pstep, Option.map_eq_some_iff] at h
    obtain ⟨u, hu, h⟩ := h
    cases h
    obtain ⟨v', h1, h2⟩ := aindexAddr_ok hu (hr x (by simp [Op.operands])) (hr i (by simp [Op.operands]))
    exact POk.ofPure h1 h2
  | index t x i =>
    simp only [pstep, Option.map_eq_some_iff] at h
    obtain ⟨u, hu, h⟩ := h
    cases h
    obtain ⟨v', h1, h2⟩ := aindex_rel hu (hr x (by simp [Op.operands])) (hr i (by simp [Op.operands]))
    exact POk.ofPure (aindex_ok h1) h2
  | range t x =>
    have rx := hr x (by simp [Op.operands])
    simp only [pstep] at h
    split at h
    · rename_i s hu hx
      cases h
      rw [hx] at rx
      have e := rx.of_string
      refine ⟨.pointer (some ⟨w.heap.size, 0, none⟩), w.alloc (.stringIter s 0), .stringIter s 0, ⟨w.heap.size, 0, 1, 0, 0⟩, val_ok (s := Instr.range t (ev' x)) ?_, rfl, rfl, rfl, rfl, rfl, fun ρ' hl hn => ⟨⟨rfl, rfl, heap_alloc_new _ _⟩, ptr_new hn rfl rfl⟩⟩
      rw [e]
      unfold Instr.range
      rw [run_bind_ok (pureRun_run (by rw [pureRun_underlying, hu]) w)]
      rfl
    · cases h
  | typeAssert x xt t ok =>
    simp only [pstep, Option.map_eq_some_iff] at h
    obtain ⟨u, hu, h⟩ := h
    cases h
    obtain ⟨v', h1, h2⟩ := aassert_rel F hu (hr x (by simp [Op.operands]))
    exact POk.ofPure (aassert_ok h1) h2
  | extract x i =>
    simp only [pstep, Option.map_eq_some_iff] at h
    obtain ⟨u, hu, h⟩ := h
    cases h
    obtain ⟨v', h1, h2⟩ := aextract_rel hu (hr x (by simp [Op.operands]))
    exact POk.ofPure (aextract_ok h1) h2
  | call c =>
    obtain ⟨cl, args, ats⟩ := c
    have ra : ARel ρ (args.map ev) (args.map ev') := .map_ev fun x hx => hr x (by cases cl <;> simp [Op.operands, Call.operands, hx])
    simp only [pstep] at h
    cases cl with
    | value f => cases h
    | invoke r m => cases h
    | builtin b =>
      have flat : ∀ (g : Array TypeId → TypeId → Array Value → Sem Value), (∀ cs, builtin b ats ty cs (args.map ev') = (do pure (Next.value (← g ats ty (args.map ev'))))) →
          (if (args.map ev).all (flatB 8) then (pureRun P (g ats ty (args.map ev))).bind fun v => if flatB 8 v then some (v, none) else none else none) = some (v, nb) →
          POk P ρ n w (execOp ev' ⟨dst, .call ⟨.builtin b, args, ats⟩, ty, pos, after, guard⟩) v nb := by
        intro g hg h
        obtain ⟨hf, h⟩ := if_some h
        obtain ⟨u, h1, h2⟩ := bind_some_iff h
        obtain ⟨h3, h4⟩ := if_some h2
        cases h4
        have e := flatAll_eq ra hf
        have : execOp ev' ⟨dst, .call ⟨.builtin b, args, ats⟩, ty, pos, after, guard⟩ = builtin b ats ty (args.map fun | .const _ => true | _ => false) (args.map ev') := rfl
        rw [this, hg]
        exact POk.ofPure (by rw [e]; exact h1) (.of_flat 8 _ h3)
      cases b with
      | max => exact flat Builtin.max_ (fun _ => rfl) h
      | min => exact flat Builtin.min_ (fun _ => rfl) h
      | len =>
        have hex : execOp ev' ⟨dst, .call ⟨.builtin .len, args, ats⟩, ty, pos, after, guard⟩ = (do pure (Next.value (← Builtin.len_ ats ty (args.map ev')))) := rfl
        rw [hex]
        have fin : ∀ (t : TypeId) (x x' : Value) (d : TypeDesc) (k : Int), ats[0]? = some t → (args.map ev')[0]? = some x' → P.underlying t = some d →
            (match d, x' with
              | .string, .string s => pure (goInt s.size)
              | .array n _, _ => pure (goInt n)
              | .slice _, .slice _ n _ => pure (goInt n)
              | _, _ => stuck "" : Sem Value) = pure (goInt k) →
            POk P ρ n w (do pure (Next.value (← Builtin.len_ ats ty (args.map ev')))) (.int .i64 k) none := by
          intro t x x' d k h1 h2 h3 h4
          refine POk.ofPure (v' := .int .i64 k) ?_ (.int _ _)
          unfold Builtin.len_
          simp only [h1, h2]
          rw [pureRun_bind', pureRun_underlying, h3]
          simp only [Option.bind_some]
          cases d <;> cases x' <;> first | (cases h4; done) | (simp only at h4 ⊢; rw [h4]; rfl)
        dsimp only at h
        split at h
        · rename_i s h1 h2
          obtain ⟨t, h1, h3⟩ := bind_some_iff h1
          cases h
          obtain ⟨y, h4, r⟩ := ra.get h2
          have := r.of_string
          subst this
          exact fin t (.string s) _ _ _ h1 h4 h3 rfl
        · rename_i e a l c h1 h2
          obtain ⟨t, h1, h3⟩ := bind_some_iff h1
          cases h
          obtain ⟨y, h4, r⟩ := ra.get h2
          have : ∃ a' c', y = .slice a' l c' := by cases r <;> exact ⟨_, _, rfl⟩
          obtain ⟨a', c', rfl⟩ := this
          exact fin t (.slice a l c) _ _ _ h1 h4 h3 rfl
        · rename_i k e x h1 h2
          obtain ⟨t, h1, h3⟩ := bind_some_iff h1
          cases h
          obtain ⟨y, h4, r⟩ := ra.get h2
          exact fin t x y _ _ h1 h4 h3 (by cases y <;> rfl)
        · cases h
      | _ => cases h
  | _ => cases h

end Go.VE
