import Derived.Test.YtnlabiojmdhmiaaGreatDoorAwA
import Derived.Test.YtnlabiojmdhmiaaGreatDoorPa
import Derived.Test.YtnlabiojmdhmiaaGreatDoorVzj
namespace Go.Proofs.YtnlabiojmdhmiaaGreatDoor
open Go Go.VE Go.ChangeShapes Go.WideShapes Go.RowKit
set_option linter.unusedVariables false
set_option maxRecDepth 100000
noncomputable section

/-! ### A group that nobody made -/

def RN (n : Nat) : Rec := runM Tryz.prog Fuel (fun R => memoF 16 Tab (.bool true) R) n
theorem RN_sound (n : Nat) : RSound Tryz.prog (RN n) := by
  obtain ⟨H', hA⟩ := awake_sound
  exact runM_sound fine follows Fuel (fun R h => memoF_fr h) (fun R h => memoF_sound h hA rfl Tab_flat) n

def tabB : Blk := .cells false true (halves.map fun n => .int .u8 n)
def heapN (cs : List Value) : AHeap := ⟨.node (.node .leaf (some (.cells false true cs)) .leaf) (some tabB) .leaf, 2, 1, 0⟩

def cfst : Code → Code | .seq a _ => a | c => c
def csnd : Code → Code | .seq _ b => b | c => c
def copsOf : Code → Array Oper | .region _ ops _ => ops | _ => #[]
def code7 : Code := match FnP Tryz.prog 7 with | some x => x.code | none => .skip
def ops7 : Array Oper := copsOf (cfst (csnd (csnd code7)))
def o7 (i : Nat) : Oper := ops7.getD i default
def rest7 : Code := csnd (csnd (csnd code7))
def fin7 (q : Option (Exit × St)) : Option (Value × AHeap) :=
  match fnC Tryz.prog 7 with
  | some cf => Option.rec (motive := fun _ => Option (Value × AHeap)) none (fun q => cond (endOk q.1) (match ends q.2.ds q.2.h with
      | some h' => match resultsC cf.res q.2.t h' with
        | some vs => some (oneOf vs, h')
        | none => none
      | none => none) none) q
  | none => none
/-- The state ahead of the append. -/
def mid (lv : Value) (h : AHeap) : St :=
  match (codeC Tryz.prog (.seq (cfst code7) (.seq (cfst (csnd code7)) (.region 0 #[o7 0, o7 1] false)))).run (RN 59) Fuel none ⟨enterC [lv] 73, [], h⟩ with
  | some (_, st) => st
  | none => ⟨enterC [] 0, [], h⟩
def tail7 (lv : Value) (h : AHeap) (A : Option (Value × AHeap)) : Option (Value × AHeap) :=
  fin7 (andThen (okExit (Option.rec (motive := fun _ => Option St) none (fun q => runL [stepC Tryz.prog ops7 (o7 3)] (RN 59) q.1)
    (fin1 (putC (o7 2).dst) (mid lv h) A fun h' => match clsOf (o7 2) (evo (mid lv h).t) with | .p => cond (Nat.beq h'.next (mid lv h).h.next) .p (.a (mid lv h).h.next) | c => c)))
    fun st' => (codeC Tryz.prog rest7).run (RN 59) Fuel none st')

theorem split7 (n c : Nat) (cs : List Value) : (RN 60).call 7 #[.slice (some ⟨1, 0, none⟩) n c] (heapN cs) =
    tail7 (.slice (some ⟨1, 0, none⟩) n c) (heapN cs) (ostep Tryz.prog (o7 2) (evo (mid (.slice (some ⟨1, 0, none⟩) n c) (heapN cs)).t) (mid (.slice (some ⟨1, 0, none⟩) n c) (heapN cs)).h) := by kernel_rfl
def midH (cs : List Value) : AHeap := (mid (.slice (some ⟨1, 0, none⟩) 1 1) (heapN cs)).h
theorem step7 (n c : Nat) (cs : List Value) : ostep Tryz.prog (o7 2) (evo (mid (.slice (some ⟨1, 0, none⟩) n c) (heapN cs)).t) (mid (.slice (some ⟨1, 0, none⟩) n c) (heapN cs)).h =
    aappend Tryz.prog #[47, 47] (.slice (some ⟨2, 0, none⟩) 0 0) (.slice (some ⟨1, 0, none⟩) n c) (midH cs) := by kernel_rfl
theorem end7 (n c : Nat) (cs ds : List Value) : okB (tail7 (.slice (some ⟨1, 0, none⟩) n c) (heapN cs) (some (.slice (some ⟨(midH cs).next, 0, some 9⟩) (0 + n) (0 + n), (midH cs).alloc (.cells true true ds)))) = true := by kernel_rfl
theorem none_nil : okB ((RN 60).call 7 #[.slice none 0 0] (tabHeap Tab)) = true := by kernel_rfl
theorem none_empty : okB ((RN 60).call 7 #[.slice (some ⟨1, 0, some 1⟩) 0 0] (heapN [])) = true := by kernel_rfl

def entryInfo : Option (TypeInfo × Value) := (Tryz.prog.info? 52).bind fun i => i.zero.map fun z => (i, z)
theorem entry_info : ∃ i z, Tryz.prog.info? 52 = some i ∧ i.zero = some z ∧ i.size = 7 ∧ i.bytes = 64 ∧ z.cells.size = 7 := by
  have h : (match entryInfo with | some (i, z) => i.size == 7 && i.bytes == 64 && z.cells.size == 7 | none => false) = true := by kernel_rfl
  unfold entryInfo at h
  cases hi : Tryz.prog.info? 52 with
  | none => rw [hi] at h; simp at h
  | some i =>
    cases hz : i.zero with
    | none => rw [hi] at h; simp [hz] at h
    | some z =>
      rw [hi] at h
      simp [hz] at h
      exact ⟨i, z, rfl, hz, h.1.1, h.1.2, h.2⟩
theorem mid_blk1 (cs : List Value) : (midH cs).blk 1 = some (.cells false true cs) := by kernel_rfl

theorem none_some (n c : Nat) (cs : List Value) (h0 : 0 < n) (hl : cs.length = n * 7) (hb : n * 64 ≤ 140737488355328) (ha : ∀ x ∈ cs, atom x = true) : okB ((RN 60).call 7 #[.slice (some ⟨1, 0, none⟩) n c] (heapN cs)) = true := by
  rw [split7, step7]
  obtain ⟨i, z, hi, hz, hs, hby, hzs⟩ := entry_info
  have hx : xcells i.size n (.slice (some ⟨1, 0, none⟩) n c) (midH cs) = some cs.toArray := by
    unfold xcells
    rw [hs, if_neg (by omega)]
    simp only [reduceCtorEq, if_false, mid_blk1]
    unfold getCells
    rw [if_pos (by omega)]
    simp only [List.drop_zero, Option.some.injEq]
    rw [List.take_of_length_le (by omega)]
  have e : aappend Tryz.prog #[47, 47] (.slice (some ⟨2, 0, none⟩) 0 0) (.slice (some ⟨1, 0, none⟩) n c) (midH cs) =
      some (.slice (some ⟨(midH cs).next, 0, some 9⟩) (0 + n) (0 + n), (midH cs).alloc (.cells true true cs)) := by
    unfold aappend
    have u1 : ((#[47, 47] : Array TypeId)[0]?).bind Tryz.prog.underlying = some (.slice 52) := by
      show Tryz.prog.underlying 47 = _
      exact Tryz.underlying47
    have u2 : ((#[47, 47] : Array TypeId)[1]?).bind Tryz.prog.underlying = some (.slice 52) := by
      show Tryz.prog.underlying 47 = _
      exact Tryz.underlying47
    simp only [u1, u2, notInt, if_true, hi, Option.bind_some, hz, xlen, hx]
    rw [if_pos ⟨by simp [hl, hs], by rw [hzs, hs], by omega, by
      rw [← Array.all_toList]
      exact List.all_eq_true.2 fun x hx => atom_one (ha x (by simpa using hx))⟩]
    rw [if_neg (by omega), if_pos (by rw [hby]; omega)]
    have x0 : xcells i.size 0 (.slice (some ⟨2, 0, none⟩) 0 0) (midH cs) = some #[] := by
      unfold xcells
      rw [if_pos (by omega)]
    rw [x0]
    simp only [Option.bind_some]
    rw [if_pos (by simp), hs]
    simp
  rw [e]
  exact end7 n c cs cs
end
end Go.Proofs.YtnlabiojmdhmiaaGreatDoor
