/-
  A group that nobody made answers with the error 'nil' and with nothing: tipstafflaw37.GroupNone returns true for every list of entries, and leaves it as it was. Conditions: those of the given card alone (the program's table lies as the program's text lays it).
-/
import Derived.Test.YtnlabiojmdhmiaaGreatDoorNoA
import Derived.Test.YtnlabiojmdhmiaaGreatDoorCardKn
import Derived.Test.YtnlabiojmdhmiaaGreatDoorTie
import Derived.SizedLaws
namespace Go.Proofs.YtnlabiojmdhmiaaGreatDoor
open Go Go.VE Go.ChangeShapes Go.WideShapes Go.RowKit
set_option linter.unusedVariables false
set_option maxRecDepth 100000
theorem laidOutT : laidOutB Tryz.prog = true := by kernel_rfl
theorem cells52 : Tryz.prog.cellsOf 52 = 7 := by kernel_rfl
theorem bytes52 : Tryz.prog.bytesOf 52 = 64 := by kernel_rfl
theorem plain52 : plainT Tryz.prog 5 52 = true := by kernel_rfl
theorem entry_fst {H : Type} {enc : TypeId × Value → H} {w : World} {base : Nat} {sp : Nat → Bool} {held : Bool} {fuel : Nat} {c : Value} {l : List Value} {x : DataW H × List MemPlace}
    (h : DataW.trod enc Tryz.prog w base sp held fuel 52 (c :: l) = some x) : ∃ n, c = .int .i64 n := by
  cases fuel with
  | zero => simp [DataW.trod] at h
  | succ fuel =>
    unfold DataW.trod at h
    rw [Tryz.underlying52] at h
    simp only at h
    split at h
    case isFalse => cases h
    obtain ⟨xs, hm, _⟩ := Option.map_eq_some_iff.1 h
    obtain ⟨y, _, hy⟩ := mapM_some_mem hm _ (List.mem_cons_self ..)
    simp only [List.drop_zero] at hy
    have hc : Tryz.prog.cellsOf 3 = 1 := by kernel_rfl
    rw [hc] at hy
    obtain ⟨n, rfl, _⟩ := int_of_trod Tryz.underlying3 hy
    exact ⟨n, rfl⟩

theorem none_calls {W : World} {v0 : Value} {h : AHeap} {v : Value} {ρ : Rho} (hr : okB ((RN 60).call 7 #[v] h) = true) (ra : VRel ρ v v0) (Hh : Holds ρ h W) (hro : ∀ u B, h.blk u = some B → B.wr = false) :
    Calls Tryz.prog 7 #[v0] W fun e W' => e = .returned (.bool true) ∧ Below W.heap.size W W' := by
  obtain ⟨h', hs⟩ := okB_ok hr
  refine FSound.closed ((RN_sound 60).call _ _ _ _ _ hs) ?_ Hh hro rfl
  simpa using (ARel.nil (ρ := ρ)).push ra

theorem tabRo : ∀ u B, (tabHeap Tab).blk u = some B → B.wr = false := by
  intro u B hu
  obtain ⟨_, cs, _, rfl⟩ := tabs_mem _ _ _ _ (mkHeap_blk hu)
  rfl
theorem heapN_blk (cs : List Value) (u : Nat) (B : Blk) (hu : (heapN cs).blk u = some B) : (u = 0 ∧ B = tabB) ∨ (u = 1 ∧ B = .cells false true cs) := by
  have h : ((Trie.leaf.put 0 (some tabB)).put 1 (some (Blk.cells false true cs))).get u = some B := hu
  rw [Trie.get_put, Trie.get_put] at h
  split at h
  · cases h; exact .inr ⟨by assumption, rfl⟩
  · split at h
    · cases h; exact .inl ⟨by assumption, rfl⟩
    · cases h

theorem none_walk {H : Type} {W : World} {v0 : Value} {d0 : DataW H} {ps : List MemPlace} {enc : TypeId × Value → H} (hL : laidMet Tryz.prog [("tipstaff/crc.halves", Rows.laid_tipstaff_crc_halves)] W)
    (hv : v0.cells.toList = [v0]) (h0 : DataW.Trod enc Tryz.prog W 0 (fun _ => true) true 47 v0 d0 ps) (hsz : ∀ elems spare, d0 = .slice elems spare → (elems.length + spare.length) * 64 ≤ reachBytes) :
    Calls Tryz.prog 7 #[v0] W fun e W' => e = .returned (.bool true) ∧ Below W.heap.size W W' := by
  have HT := tab_holds hL
  rcases slice_of_trod Tryz.underlying47 plain52 (by rw [cells52]; decide) hv h0 with ⟨rfl, _⟩ | ⟨a, len, cap, elems, spare, rfl, rfl, hlen, hle, hpos⟩
  · exact none_calls none_nil .nilSlice HT tabRo
  rcases Nat.eq_zero_or_pos len with hz | hz
  · subst hz
    -- no element: an empty block of the evaluator's stands for whatever array it is
    refine none_calls (ρ := fun u => if u = 0 then some ⟨0, 0, 16, 1, 0⟩ else none) none_empty .sliceV ?_ ?_
    · have hb := heapN_blk []
      refine ⟨fun v p hv => by have := HT.dom v p hv; have e : (tabHeap Tab).next = 1 := rfl; show v < 2; omega, fun v hv => ?_, fun v p B h1 h2 => ?_, fun v₁ v₂ p₁ p₂ B₁ B₂ hne h1 h2 h3 h4 => ?_, HT.glob⟩
      · cases hu : (heapN []).blk v with
        | none => rfl
        | some B => rcases hb _ _ hu with ⟨e, _⟩ | ⟨e, _⟩ <;> (have : 2 ≤ v := hv; omega)
      · rcases hb _ _ h2 with ⟨rfl, rfl⟩ | ⟨rfl, rfl⟩
        · exact HT.rel 0 p tabB h1 (by kernel_rfl)
        · cases h1
      · split at h1
        · split at h2
          · omega
          · cases h2
        · cases h1
    · intro u B hu
      rcases heapN_blk _ _ _ hu with ⟨_, rfl⟩ | ⟨_, rfl⟩ <;> rfl
  · obtain ⟨hsp, cs, ty, fr, hblk, hsize, hel⟩ := hpos hz
    obtain ⟨ab, ao, asp⟩ := a
    simp only at hsp hblk hsize hel
    subst hsp
    rw [cells52] at hsize hel
    have hat := plain_cells (len := len) (off := ao) plain52 (by rw [cells52]; exact hsize) (by rw [cells52]; decide) (by rw [cells52]; exact hel)
    rw [cells52] at hat
    -- the array is not the program's table
    have hne : ab ≠ 0 := by
      rintro rfl
      obtain ⟨fuel, y, hy⟩ := hel 0 hz
      have hcells : (cs.toList.drop (ao + 0 * 7)).take 7 = cs[ao]'(by omega) :: ((cs.toList.drop (ao + 1)).take 6) := by
        rw [Nat.zero_mul, Nat.add_zero, List.drop_eq_getElem_cons (by simp; omega)]
        simp
      rw [hcells] at hy
      obtain ⟨m, hm⟩ := entry_fst hy
      have hv := halves_of_laid hL
      unfold World.var? at hv
      rw [tabG] at hv
      simp only [Option.bind_some] at hv
      rw [hblk] at hv
      simp only [Option.some.injEq] at hv
      subst hv
      have : cells16[ao]? = some (.int .i64 m) := by rw [← hm]; simp
      rw [cells16, List.getElem?_toArray, List.getElem?_map] at this
      obtain ⟨q, _, e⟩ := Option.map_eq_some_iff.1 this
      cases e
    let l : List Value := (cs.toList.drop ao).take (len * 7)
    have hll : l.length = len * 7 := by simp [l]; omega
    have hlget : ∀ i x, l[i]? = some x → cs[ao + i]? = some x ∧ atom x = true := by
      intro i x hx
      have hi : i < len * 7 := by rw [← hll]; exact (List.getElem?_eq_some_iff.1 hx).1
      have e : cs[ao + i]? = some x := by
        rw [← hx]
        show _ = ((cs.toList.drop ao).take (len * 7))[i]?
        rw [List.getElem?_take_of_lt hi, List.getElem?_drop, Array.getElem?_toList]
      obtain ⟨c, hc1, hc2⟩ := hat i hi
      rw [hc1] at e
      cases e
      exact ⟨hc1, hc2⟩
    have hs := hsz _ _ rfl
    have hrb : reachBytes < 2 ^ 47 := reachBytes_lt
    refine none_calls (ρ := fun u => if u = 0 then some ⟨0, 0, 16, 1, 0⟩ else if u = 1 then some ⟨ab, ao, len * 7, 7, 0⟩ else none) (none_some len cap l hz hll (by omega) fun x hx => ?_) ?_ ?_ ?_
    · obtain ⟨i, hi, e⟩ := List.getElem_of_mem hx
      exact (hlget i x (by rw [List.getElem?_eq_getElem hi, e])).2
    · exact .slice (p := ⟨ab, ao, len * 7, 7, 0⟩) rfl
    · have hb := heapN_blk l
      refine ⟨fun v p hv => ?_, fun v hv => ?_, fun v p B h1 h2 => ?_, fun v₁ v₂ p₁ p₂ B₁ B₂ hn h1 h2 h3 h4 => ?_, fun g hg => ?_⟩
      · show v < 2
        split at hv
        · omega
        · split at hv
          · omega
          · cases hv
      · cases hu : (heapN l).blk v with
        | none => rfl
        | some B => rcases hb _ _ hu with ⟨e, _⟩ | ⟨e, _⟩ <;> (have : 2 ≤ v := hv; omega)
      · rcases hb _ _ h2 with ⟨rfl, rfl⟩ | ⟨rfl, rfl⟩
        · cases h1
          refine (HT.rel 0 ⟨0, 0, 16, 1, 0⟩ tabB rfl (by kernel_rfl)).frame (fun u p hp => ?_) rfl
          split at hp
          · rename_i e; subst e; exact hp
          · cases hp
        · cases h1
          refine ⟨hll.symm, nofun, cs, ty, fr, hblk, by simp [Place.top]; exact hsize, nofun, fun i x hx => ?_⟩
          obtain ⟨k1, k2⟩ := hlget i x hx
          exact ⟨x, k1, .of_flat 1 _ (atom_flat k2 0)⟩
      · rcases hb _ _ h3 with ⟨rfl, _⟩ | ⟨rfl, _⟩ <;> rcases hb _ _ h4 with ⟨rfl, _⟩ | ⟨rfl, _⟩
        · omega
        · cases h1; cases h2; exact fun e => hne e.symm
        · cases h1; cases h2; exact hne
        · omega
      · have : g < 1 := hg
        obtain rfl : g = 0 := by omega
        exact ⟨_, rfl, rfl, rfl⟩
    · intro u B hu
      rcases heapN_blk _ _ _ hu with ⟨_, rfl⟩ | ⟨_, rfl⟩ <;> rfl

theorem none_lifted (os : Os) (started : os.Started) (H : Type) (enc : TypeId × Value → H) :
    ReturnsInHanded {} Tryz.checked os 7 .any (fun w args => (Rows.groupNoneSpec.pre enc Tryz.prog Tryz.f7 [] false w args ∧ laidMet Tryz.prog [("tipstaff/crc.halves", Rows.laid_tipstaff_crc_halves)] w) ∧ sizedMet enc Tryz.prog Tryz.f7 (OpenSpec.ofChange Rows.groupNoneSpec) false w args)
      (Rows.groupNoneSpec.post enc Tryz.prog Tryz.f7 false true false false) := by
  refine returnsInHanded_of_change_and (C := Tryz.checked) (X := fun w _ => laidMet Tryz.prog [("tipstaff/crc.halves", Rows.laid_tipstaff_crc_halves)] w) (fun _ _ _ hh h => h.of_heap hh) ownT started (by kernel_rfl) Tryz.func7
    (ChangeSpec.witness_at (enc := enc) (C := Tryz.checked) (os := os) (X := fun w _ => laidMet Tryz.prog [("tipstaff/crc.halves", Rows.laid_tipstaff_crc_halves)] w) false (laidWorld os) #[.slice none 0 0] 8 rfl (by kernel_rfl) (by kernel_rfl) (by kernel_rfl) (by kernel_rfl) (by kernel_rfl) (laidWorld_met os _)) ?_
  intro W base args ds gs before hval0 hW _ hsz hL _
  have hval : ∀ (j : Nat) t v, Tryz.f7.params[j]? = some t → args[j]? = some v → Value.okWide Tryz.prog W .any base t v := hval0
  have hW' := hW
  obtain ⟨p, q, hA0, hV, rfl, hfz, hnd⟩ := hW
  have hA : DataW.TrodAll enc Tryz.prog W 0 (fun _ => true) true Tryz.f7.params.toList args.toList ds p := hA0
  rw [Tryz.params7] at hA hval
  obtain ⟨v0, d0, rfl, rfl, h0⟩ := trodAll_one hA
  obtain ⟨rfl, rfl⟩ := trodVars_none hV
  have hok := hval 0 47 v0 rfl rfl
  have hv : v0.cells.toList = [v0] := by
    unfold Value.okWide at hok
    rw [Tryz.underlying47] at hok
    unfold Cell.okWide Cell.ok at hok
    rw [Tryz.underlying47] at hok
    cases v0 <;> first | rfl | (simp at hok)
  refine (none_walk hL hv h0 fun elems spare e => ?_).mono fun e W' ⟨he, hb⟩ => ?_
  · subst e
    have : (elems.length + spare.length) * Tryz.prog.bytesOf 52 ≤ reachBytes := sized_slice (j := 0) (t := 47) (e := 52) hsz (by rw [Tryz.params7]; rfl) rfl Tryz.underlying47
    rw [bytes52] at this
    exact this
  subst he
  exact ⟨_, rfl, post_true laidOutT rfl rfl Tryz.underlying4 (by rw [Tryz.params7]; intro t ht; simp at ht; subst ht; exact ⟨by kernel_rfl, by decide +kernel⟩) hW' rfl hb⟩

theorem none_holds : Rows.GroupNoneSaid :=
  OpenClaim.holds_of_wide 7 Tryz.f7 rfl rfl rfl rfl rfl rfl rfl ⟨rfl, rfl, rfl, rfl, rfl⟩ rfl rfl rfl rfl rfl (by kernel_rfl) Tryz.func7 (by kernel_rfl)
    (of_decide_eq_true (by kernel_rfl)) (by unfold Func.isWrapper; first | (rw [if_pos (by decide +kernel)]; kernel_rfl) | (rw [if_neg (by decide +kernel)]; exact ⟨rfl, rfl⟩))
    (fun os started H enc _ => none_lifted os started H enc)

theorem none_card : Rows.GroupNoneCardSaid :=
  Claim7.holds_tied_plain_at .later [] [.data] true (true, "81232fd8d4a99bef03eb04d634dc8966f01263107eef724e2e18ebeefb6eec45") true
    none_holds (fun _ h => by cases h) (by kernel_rfl) (fun _ h => by cases h) groupNone_row_tie rfl ⟨rfl, rfl⟩ (by kernel_rfl) rfl
    (fun f fn hf hfn => by
      obtain rfl : f = 7 := Option.some.inj ((show Tryz.prog.funcNamed "tipstaff/tipstafflaw37.GroupNone" = some 7 by kernel_rfl).symm.trans hf) |>.symm
      obtain rfl : fn = Tryz.f7 := (Option.some.inj (Tryz.func7.symm.trans hfn)).symm
      exact ⟨by kernel_rfl, fun j t ht => by
        rw [Tryz.params7] at ht
        have h3 : t = 47 := by
          rcases j with _ | j
          · simpa using ht.symm
          · simp at ht
        subst h3
        exact (show Tryz.prog.wantsStandIn 47 = false by kernel_rfl)⟩)
    (by kernel_rfl)
#print axioms none_card
end Go.Proofs.YtnlabiojmdhmiaaGreatDoor
