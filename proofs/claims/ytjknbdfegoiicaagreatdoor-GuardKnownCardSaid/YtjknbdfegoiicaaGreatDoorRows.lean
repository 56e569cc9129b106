/-
  NARROWER THAN 'FOR EVERY INPUT', by the rows' own cells (each row's printed sentence says how): GuardKnown: laid · GuardHands: laid · GuardNone: laid · GuardSees: laid · GuardParts: laid.
  DERIVED. THE GIVEN ROWS OF THIS SEAT. 5 by the template 'for every input the law returns true; each argument reads behind the call as it read before'; 0 by the template 'total and deterministic' (their statements: YtjknbdfegoiicaaGreatDoorTotals.lean).
  GIVEN WITH THE SEED: the statements are not yours to turn. If you find one false, say at which input.
  Laid BY PROGRAM, IN A SANDBOX (cutbox-rows.mjs): the forced cells as the released guide's own fill.sh prints them over the translation e99fa2ee307ea824… (all of the seat's roots in one cut). By AI agents, Wed Nov 11 2026. No macro, syntax, notation, axiom, sorry.
-/
import Derived.Test.YtjknbdfegoiicaaGreatDoorChecked
import GoSem.Claim
import GoSem.ClaimJoined
import GoSem.ClaimMapViews
import Derived.JoinedTies
import Derived.KernelRfl
namespace Go.Proofs.YtjknbdfegoiicaaGreatDoor
/- THE CELL 'sum', in the pinned program and in every row, IS THE sha256 OF THE DUMP (.gsa) THAT YtjknbdfegoiicaaGreatDoorProg.lean LOADS. Nothing in Lean hashes anything: it is a label: what it is worth is what the hold of that sum in a sandbox is worth. -/
noncomputable def Tryz.pinned : Pinned := { name := "ytjknbdfegoiicaagreatdoor", sum := "e99fa2ee307ea824e824fc90d63af234ea91ad71a2fd8f9aa55ec0ae4e041b4f", checked := Tryz.checked }
namespace Rows
def none {H : Type} : Left H := { results := [], args := [] }

/- WHAT THE LISTED PACKAGE-LEVEL VARIABLES READ AS WHEN THE CALL BEGINS. Each datum BY PROGRAM (the guide's laid-datum.mjs) off the statement by which the dump's own 'gosem.cut.vars' lays the variable. In a bare row this is a premise. The card (YtjknbdfegoiicaaGreatDoorCards.lean) ties it to the program's text. -/
def laid_math_bits_deBruijn32tab {H : Type} : DataW H := .agg [.lit (.int .u8 0), .lit (.int .u8 1), .lit (.int .u8 28), .lit (.int .u8 2), .lit (.int .u8 29), .lit (.int .u8 14), .lit (.int .u8 24), .lit (.int .u8 3), .lit (.int .u8 30), .lit (.int .u8 22), .lit (.int .u8 20), .lit (.int .u8 15), .lit (.int .u8 25), .lit (.int .u8 17), .lit (.int .u8 4), .lit (.int .u8 8), .lit (.int .u8 31), .lit (.int .u8 27), .lit (.int .u8 13), .lit (.int .u8 23), .lit (.int .u8 21), .lit (.int .u8 19), .lit (.int .u8 16), .lit (.int .u8 7), .lit (.int .u8 26), .lit (.int .u8 12), .lit (.int .u8 18), .lit (.int .u8 6), .lit (.int .u8 11), .lit (.int .u8 5), .lit (.int .u8 10), .lit (.int .u8 9)]
def laid_math_bits_deBruijn64tab {H : Type} : DataW H := .agg [.lit (.int .u8 0), .lit (.int .u8 1), .lit (.int .u8 56), .lit (.int .u8 2), .lit (.int .u8 57), .lit (.int .u8 49), .lit (.int .u8 28), .lit (.int .u8 3), .lit (.int .u8 61), .lit (.int .u8 58), .lit (.int .u8 42), .lit (.int .u8 50), .lit (.int .u8 38), .lit (.int .u8 29), .lit (.int .u8 17), .lit (.int .u8 4), .lit (.int .u8 62), .lit (.int .u8 47), .lit (.int .u8 59), .lit (.int .u8 36), .lit (.int .u8 45), .lit (.int .u8 43), .lit (.int .u8 51), .lit (.int .u8 22), .lit (.int .u8 53), .lit (.int .u8 39), .lit (.int .u8 33), .lit (.int .u8 30), .lit (.int .u8 24), .lit (.int .u8 18), .lit (.int .u8 12), .lit (.int .u8 5), .lit (.int .u8 63), .lit (.int .u8 55), .lit (.int .u8 48), .lit (.int .u8 27), .lit (.int .u8 60), .lit (.int .u8 41), .lit (.int .u8 37), .lit (.int .u8 16), .lit (.int .u8 46), .lit (.int .u8 35), .lit (.int .u8 44), .lit (.int .u8 21), .lit (.int .u8 52), .lit (.int .u8 32), .lit (.int .u8 23), .lit (.int .u8 11), .lit (.int .u8 54), .lit (.int .u8 26), .lit (.int .u8 40), .lit (.int .u8 15), .lit (.int .u8 34), .lit (.int .u8 20), .lit (.int .u8 31), .lit (.int .u8 10), .lit (.int .u8 25), .lit (.int .u8 14), .lit (.int .u8 19), .lit (.int .u8 9), .lit (.int .u8 13), .lit (.int .u8 8), .lit (.int .u8 7), .lit (.int .u8 6)]
def laid_internal_strconv_uint64pow10 {H : Type} : DataW H := .agg [.lit (.int .u64 1), .lit (.int .u64 10), .lit (.int .u64 100), .lit (.int .u64 1000), .lit (.int .u64 10000), .lit (.int .u64 100000), .lit (.int .u64 1000000), .lit (.int .u64 10000000), .lit (.int .u64 100000000), .lit (.int .u64 1000000000), .lit (.int .u64 10000000000), .lit (.int .u64 100000000000), .lit (.int .u64 1000000000000), .lit (.int .u64 10000000000000), .lit (.int .u64 100000000000000), .lit (.int .u64 1000000000000000), .lit (.int .u64 10000000000000000), .lit (.int .u64 100000000000000000), .lit (.int .u64 1000000000000000000), .lit (.int .u64 10000000000000000000)]
def laid_tipstaff_crc_halves {H : Type} : DataW H := .agg [.lit (.int .u8 0), .lit (.int .u8 7), .lit (.int .u8 14), .lit (.int .u8 9), .lit (.int .u8 28), .lit (.int .u8 27), .lit (.int .u8 18), .lit (.int .u8 21), .lit (.int .u8 56), .lit (.int .u8 63), .lit (.int .u8 54), .lit (.int .u8 49), .lit (.int .u8 36), .lit (.int .u8 35), .lit (.int .u8 42), .lit (.int .u8 45)]

/-- 'tipstafflaw40.GuardKnown': WHATEVER THE INPUT: true; the input reads as it did. -/
def guardKnownSpec : ChangeSpec := { name := "guardKnown", fn := fun _ => fun
  | [] => { results := [.lit (.bool true)], args := [] }
  | _ => none }
def guardKnownRow : OpenClaim := { program := "ytjknbdfegoiicaagreatdoor", sum := "e99fa2ee307ea824e824fc90d63af234ea91ad71a2fd8f9aa55ec0ae4e041b4f", func := "tipstaff/tipstafflaw40.GuardKnown", spec := "guardKnown", inPlace := ["internal/bytealg.IndexByteString"], unfollowed := true, recurses := true, named := ["tipstaff/crc.halves", "internal/strconv.uint64pow10", "math/bits.deBruijn32tab", "math/bits.deBruijn64tab"], plainKeys := false, apart := false, laid := [("math/bits.deBruijn32tab", laid_math_bits_deBruijn32tab), ("math/bits.deBruijn64tab", laid_math_bits_deBruijn64tab), ("internal/strconv.uint64pow10", laid_internal_strconv_uint64pow10), ("tipstaff/crc.halves", laid_tipstaff_crc_halves)] }
def GuardKnownSaid : Prop := guardKnownRow.holds Tryz.pinned (OpenSpec.ofChange guardKnownSpec)

/-- ITS FALSE NEIGHBOUR: 'it returns false'. Refute it at one input. -/
def guardKnownWrong : ChangeSpec := { name := "guardKnown", fn := fun _ => fun
  | [] => { results := [.lit (.bool false)], args := [] }
  | _ => none }
def GuardKnownWrongFalsely : Prop := guardKnownRow.holds Tryz.pinned (OpenSpec.ofChange guardKnownWrong)

/-- 'tipstafflaw40.GuardHands': WHATEVER THE INPUT: true; the input reads as it did. -/
def guardHandsSpec : ChangeSpec := { name := "guardHands", fn := fun _ => fun
  | [d1, d2] => { results := [.lit (.bool true)], args := [d1, d2] }
  | _ => none }
def guardHandsRow : OpenClaim := { program := "ytjknbdfegoiicaagreatdoor", sum := "e99fa2ee307ea824e824fc90d63af234ea91ad71a2fd8f9aa55ec0ae4e041b4f", func := "tipstaff/tipstafflaw40.GuardHands", spec := "guardHands", inPlace := ["internal/bytealg.IndexByteString"], unfollowed := true, recurses := true, named := ["tipstaff/crc.halves"], plainKeys := false, apart := false, laid := [("tipstaff/crc.halves", laid_tipstaff_crc_halves)] }
def GuardHandsSaid : Prop := guardHandsRow.holds Tryz.pinned (OpenSpec.ofChange guardHandsSpec)

/-- ITS FALSE NEIGHBOUR: 'it returns false'. Refute it at one input. -/
def guardHandsWrong : ChangeSpec := { name := "guardHands", fn := fun _ => fun
  | [d1, d2] => { results := [.lit (.bool false)], args := [d1, d2] }
  | _ => none }
def GuardHandsWrongFalsely : Prop := guardHandsRow.holds Tryz.pinned (OpenSpec.ofChange guardHandsWrong)

/-- 'tipstafflaw40.GuardNone': WHATEVER THE INPUT: true; the input reads as it did. -/
def guardNoneSpec : ChangeSpec := { name := "guardNone", fn := fun _ => fun
  | [d1, d2] => { results := [.lit (.bool true)], args := [d1, d2] }
  | _ => none }
def guardNoneRow : OpenClaim := { program := "ytjknbdfegoiicaagreatdoor", sum := "e99fa2ee307ea824e824fc90d63af234ea91ad71a2fd8f9aa55ec0ae4e041b4f", func := "tipstaff/tipstafflaw40.GuardNone", spec := "guardNone", inPlace := ["internal/bytealg.IndexByteString"], unfollowed := true, recurses := true, named := ["tipstaff/crc.halves"], plainKeys := false, apart := false, laid := [("tipstaff/crc.halves", laid_tipstaff_crc_halves)] }
def GuardNoneSaid : Prop := guardNoneRow.holds Tryz.pinned (OpenSpec.ofChange guardNoneSpec)

/-- ITS FALSE NEIGHBOUR: 'it returns false'. Refute it at one input. -/
def guardNoneWrong : ChangeSpec := { name := "guardNone", fn := fun _ => fun
  | [d1, d2] => { results := [.lit (.bool false)], args := [d1, d2] }
  | _ => none }
def GuardNoneWrongFalsely : Prop := guardNoneRow.holds Tryz.pinned (OpenSpec.ofChange guardNoneWrong)

/-- 'tipstafflaw40.GuardSees': WHATEVER THE INPUT: true; the input reads as it did. -/
def guardSeesSpec : ChangeSpec := { name := "guardSees", fn := fun _ => fun
  | [d1, d2, d3, d4] => { results := [.lit (.bool true)], args := [d1, d2, d3, d4] }
  | _ => none }
def guardSeesRow : OpenClaim := { program := "ytjknbdfegoiicaagreatdoor", sum := "e99fa2ee307ea824e824fc90d63af234ea91ad71a2fd8f9aa55ec0ae4e041b4f", func := "tipstaff/tipstafflaw40.GuardSees", spec := "guardSees", inPlace := ["internal/bytealg.IndexByteString"], unfollowed := true, recurses := true, named := ["tipstaff/crc.halves"], plainKeys := false, apart := false, laid := [("tipstaff/crc.halves", laid_tipstaff_crc_halves)] }
def GuardSeesSaid : Prop := guardSeesRow.holds Tryz.pinned (OpenSpec.ofChange guardSeesSpec)

/-- ITS FALSE NEIGHBOUR: 'it returns false'. Refute it at one input. -/
def guardSeesWrong : ChangeSpec := { name := "guardSees", fn := fun _ => fun
  | [d1, d2, d3, d4] => { results := [.lit (.bool false)], args := [d1, d2, d3, d4] }
  | _ => none }
def GuardSeesWrongFalsely : Prop := guardSeesRow.holds Tryz.pinned (OpenSpec.ofChange guardSeesWrong)

/-- 'tipstafflaw40.GuardParts': WHATEVER THE INPUT: true; the input reads as it did. -/
def guardPartsSpec : ChangeSpec := { name := "guardParts", fn := fun _ => fun
  | [d1, d2, d3, d4] => { results := [.lit (.bool true)], args := [d1, d2, d3, d4] }
  | _ => none }
def guardPartsRow : OpenClaim := { program := "ytjknbdfegoiicaagreatdoor", sum := "e99fa2ee307ea824e824fc90d63af234ea91ad71a2fd8f9aa55ec0ae4e041b4f", func := "tipstaff/tipstafflaw40.GuardParts", spec := "guardParts", inPlace := ["internal/bytealg.IndexByteString"], unfollowed := true, recurses := true, named := ["tipstaff/crc.halves"], plainKeys := false, apart := false, laid := [("tipstaff/crc.halves", laid_tipstaff_crc_halves)] }
def GuardPartsSaid : Prop := guardPartsRow.holds Tryz.pinned (OpenSpec.ofChange guardPartsSpec)

/-- ITS FALSE NEIGHBOUR: 'it returns false'. Refute it at one input. -/
def guardPartsWrong : ChangeSpec := { name := "guardParts", fn := fun _ => fun
  | [d1, d2, d3, d4] => { results := [.lit (.bool false)], args := [d1, d2, d3, d4] }
  | _ => none }
def GuardPartsWrongFalsely : Prop := guardPartsRow.holds Tryz.pinned (OpenSpec.ofChange guardPartsWrong)

/- THE SECOND FORM. 'bulk': how many values and letters a reading holds, each counted each time it is reached (what is shared counts as often as it is met; a slice's spare places count too). A statement '..UptoSaid' is the law's where the arguments, and the package variables that the reading takes, are together of bulk at most 1048576: NARROWER than '..Said'. Prove '..Said' where nothing that the law and all that it calls make is longer than what came in: it says more and counts as full. Else prove '..UptoSaid'. A law counts once. -/
mutual
def uptoBulk {H : Type} : DataW H → Nat
  | .lit (.string bytes) => bytes.length + 1
  | .lit _ => 1
  | .nil => 1
  | .ptr d => uptoBulk d + 1
  | .slice elems spare => uptoBulkAll elems + uptoBulkAll spare + 1
  | .agg parts => uptoBulkAll parts + 1
  | .iface _ d => uptoBulk d + 1
  | .map entries => uptoBulkEntries entries + 1
  | .held _ => 1
def uptoBulkAll {H : Type} : List (DataW H) → Nat
  | [] => 0
  | d :: r => uptoBulk d + uptoBulkAll r
def uptoBulkEntries {H : Type} : List (Lit × DataW H) → Nat
  | [] => 0
  | x :: r => uptoBulkEntry x + uptoBulkEntries r
def uptoBulkEntry {H : Type} : Lit × DataW H → Nat
  | (.string bytes, d) => bytes.length + uptoBulk d + 1
  | (_, d) => uptoBulk d + 1
 end
def uptoSmall : (H : Type) → List (DataW H) → Bool := fun _ ds => decide (uptoBulkAll ds ≤ 1048576)
def OpenSpec.upto (s : _root_.Go.ChangeSpec) : _root_.Go.OpenSpec := { _root_.Go.OpenSpec.ofChange s with cond := some uptoSmall }

/-- 'tipstafflaw40.GuardKnown', WHERE WHAT IT READS IS OF BULK AT MOST 1048576: true; the input reads as it did. -/
def guardKnownUptoRow : OpenClaim := { program := "ytjknbdfegoiicaagreatdoor", sum := "e99fa2ee307ea824e824fc90d63af234ea91ad71a2fd8f9aa55ec0ae4e041b4f", func := "tipstaff/tipstafflaw40.GuardKnown", spec := "guardKnown", inPlace := ["internal/bytealg.IndexByteString"], unfollowed := true, recurses := true, named := ["tipstaff/crc.halves", "internal/strconv.uint64pow10", "math/bits.deBruijn32tab", "math/bits.deBruijn64tab"], plainKeys := false, apart := false, laid := [("math/bits.deBruijn32tab", laid_math_bits_deBruijn32tab), ("math/bits.deBruijn64tab", laid_math_bits_deBruijn64tab), ("internal/strconv.uint64pow10", laid_internal_strconv_uint64pow10), ("tipstaff/crc.halves", laid_tipstaff_crc_halves)], narrowed := true }
def GuardKnownUptoSaid : Prop := guardKnownUptoRow.holds Tryz.pinned (OpenSpec.upto guardKnownSpec)

/-- 'tipstafflaw40.GuardHands', WHERE WHAT IT READS IS OF BULK AT MOST 1048576: true; the input reads as it did. -/
def guardHandsUptoRow : OpenClaim := { program := "ytjknbdfegoiicaagreatdoor", sum := "e99fa2ee307ea824e824fc90d63af234ea91ad71a2fd8f9aa55ec0ae4e041b4f", func := "tipstaff/tipstafflaw40.GuardHands", spec := "guardHands", inPlace := ["internal/bytealg.IndexByteString"], unfollowed := true, recurses := true, named := ["tipstaff/crc.halves"], plainKeys := false, apart := false, laid := [("tipstaff/crc.halves", laid_tipstaff_crc_halves)], narrowed := true }
def GuardHandsUptoSaid : Prop := guardHandsUptoRow.holds Tryz.pinned (OpenSpec.upto guardHandsSpec)

/-- 'tipstafflaw40.GuardNone', WHERE WHAT IT READS IS OF BULK AT MOST 1048576: true; the input reads as it did. -/
def guardNoneUptoRow : OpenClaim := { program := "ytjknbdfegoiicaagreatdoor", sum := "e99fa2ee307ea824e824fc90d63af234ea91ad71a2fd8f9aa55ec0ae4e041b4f", func := "tipstaff/tipstafflaw40.GuardNone", spec := "guardNone", inPlace := ["internal/bytealg.IndexByteString"], unfollowed := true, recurses := true, named := ["tipstaff/crc.halves"], plainKeys := false, apart := false, laid := [("tipstaff/crc.halves", laid_tipstaff_crc_halves)], narrowed := true }
def GuardNoneUptoSaid : Prop := guardNoneUptoRow.holds Tryz.pinned (OpenSpec.upto guardNoneSpec)

/-- 'tipstafflaw40.GuardSees', WHERE WHAT IT READS IS OF BULK AT MOST 1048576: true; the input reads as it did. -/
def guardSeesUptoRow : OpenClaim := { program := "ytjknbdfegoiicaagreatdoor", sum := "e99fa2ee307ea824e824fc90d63af234ea91ad71a2fd8f9aa55ec0ae4e041b4f", func := "tipstaff/tipstafflaw40.GuardSees", spec := "guardSees", inPlace := ["internal/bytealg.IndexByteString"], unfollowed := true, recurses := true, named := ["tipstaff/crc.halves"], plainKeys := false, apart := false, laid := [("tipstaff/crc.halves", laid_tipstaff_crc_halves)], narrowed := true }
def GuardSeesUptoSaid : Prop := guardSeesUptoRow.holds Tryz.pinned (OpenSpec.upto guardSeesSpec)

/-- 'tipstafflaw40.GuardParts', WHERE WHAT IT READS IS OF BULK AT MOST 1048576: true; the input reads as it did. -/
def guardPartsUptoRow : OpenClaim := { program := "ytjknbdfegoiicaagreatdoor", sum := "e99fa2ee307ea824e824fc90d63af234ea91ad71a2fd8f9aa55ec0ae4e041b4f", func := "tipstaff/tipstafflaw40.GuardParts", spec := "guardParts", inPlace := ["internal/bytealg.IndexByteString"], unfollowed := true, recurses := true, named := ["tipstaff/crc.halves"], plainKeys := false, apart := false, laid := [("tipstaff/crc.halves", laid_tipstaff_crc_halves)], narrowed := true }
def GuardPartsUptoSaid : Prop := guardPartsUptoRow.holds Tryz.pinned (OpenSpec.upto guardPartsSpec)

end Rows
end Go.Proofs.YtjknbdfegoiicaaGreatDoor
