/-
  NARROWER THAN 'FOR EVERY INPUT', by the rows' own cells (each row's printed sentence says how): MaskLists: laid · MaskOne: laid · MaskSets: laid · MaskAll: laid · MaskPlaces: laid.
  DERIVED. THE GIVEN ROWS OF THIS SEAT. 5 by the template 'for every input the law returns true; each argument reads behind the call as it read before'; 0 by the template 'total and deterministic' (their statements: YtmmhcfbnelggfaaDoorTotals.lean).
  GIVEN WITH THE SEED: the statements are not yours to turn. If you find one false, say at which input.
  Laid BY PROGRAM, IN A SANDBOX (cutbox-rows.mjs): the forced cells as the released guide's own fill.sh prints them over the translation a25f38635dd2d85e… (all of the seat's roots in one cut). By AI agents, Wed Nov 11 2026. No macro, syntax, notation, axiom, sorry.
-/
import Derived.Test.YtmmhcfbnelggfaaDoorChecked
import GoSem.Claim
import GoSem.ClaimJoined
import GoSem.ClaimMapViews
import Derived.JoinedTies
import Derived.KernelRfl
namespace Go.Proofs.YtmmhcfbnelggfaaDoor
/- THE CELL 'sum', in the pinned program and in every row, IS THE sha256 OF THE DUMP (.gsa) THAT YtmmhcfbnelggfaaDoorProg.lean LOADS. Nothing in Lean hashes anything: it is a label: what it is worth is what the hold of that sum in a sandbox is worth. -/
noncomputable def Tryd.pinned : Pinned := { name := "ytmmhcfbnelggfaadoor", sum := "a25f38635dd2d85ebb5bdced45ea5c9410b29e152b125735f1aac2e83a4eb164", checked := Tryd.checked }
namespace Rows
def none {H : Type} : Left H := { results := [], args := [] }

/- WHAT THE LISTED PACKAGE-LEVEL VARIABLES READ AS WHEN THE CALL BEGINS. Each datum BY PROGRAM (the guide's laid-datum.mjs) off the statement by which the dump's own 'gosem.cut.vars' lays the variable. In a bare row this is a premise. The card (YtmmhcfbnelggfaaDoorCards.lean) ties it to the program's text. -/
def laid_math_bits_deBruijn64tab {H : Type} : DataW H := .agg [.lit (.int .u8 0), .lit (.int .u8 1), .lit (.int .u8 56), .lit (.int .u8 2), .lit (.int .u8 57), .lit (.int .u8 49), .lit (.int .u8 28), .lit (.int .u8 3), .lit (.int .u8 61), .lit (.int .u8 58), .lit (.int .u8 42), .lit (.int .u8 50), .lit (.int .u8 38), .lit (.int .u8 29), .lit (.int .u8 17), .lit (.int .u8 4), .lit (.int .u8 62), .lit (.int .u8 47), .lit (.int .u8 59), .lit (.int .u8 36), .lit (.int .u8 45), .lit (.int .u8 43), .lit (.int .u8 51), .lit (.int .u8 22), .lit (.int .u8 53), .lit (.int .u8 39), .lit (.int .u8 33), .lit (.int .u8 30), .lit (.int .u8 24), .lit (.int .u8 18), .lit (.int .u8 12), .lit (.int .u8 5), .lit (.int .u8 63), .lit (.int .u8 55), .lit (.int .u8 48), .lit (.int .u8 27), .lit (.int .u8 60), .lit (.int .u8 41), .lit (.int .u8 37), .lit (.int .u8 16), .lit (.int .u8 46), .lit (.int .u8 35), .lit (.int .u8 44), .lit (.int .u8 21), .lit (.int .u8 52), .lit (.int .u8 32), .lit (.int .u8 23), .lit (.int .u8 11), .lit (.int .u8 54), .lit (.int .u8 26), .lit (.int .u8 40), .lit (.int .u8 15), .lit (.int .u8 34), .lit (.int .u8 20), .lit (.int .u8 31), .lit (.int .u8 10), .lit (.int .u8 25), .lit (.int .u8 14), .lit (.int .u8 19), .lit (.int .u8 9), .lit (.int .u8 13), .lit (.int .u8 8), .lit (.int .u8 7), .lit (.int .u8 6)]

/-- 'chordmaillaw13.MaskLists': WHATEVER THE INPUT: true; the input reads as it did. -/
def maskListsSpec : ChangeSpec := { name := "maskLists", fn := fun _ => fun
  | [d1, d2, d3] => { results := [.lit (.bool true)], args := [d1, d2, d3] }
  | _ => none }
def maskListsRow : OpenClaim := { program := "ytmmhcfbnelggfaadoor", sum := "a25f38635dd2d85ebb5bdced45ea5c9410b29e152b125735f1aac2e83a4eb164", func := "chordmail/chordmaillaw13.MaskLists", spec := "maskLists", unfollowed := true, recurses := true, named := ["math/bits.deBruijn64tab"], apart := false, laid := [("math/bits.deBruijn64tab", laid_math_bits_deBruijn64tab)] }
def MaskListsSaid : Prop := maskListsRow.holds Tryd.pinned (OpenSpec.ofChange maskListsSpec)

/-- ITS FALSE NEIGHBOUR: 'it returns false'. Refute it at one input. -/
def maskListsWrong : ChangeSpec := { name := "maskLists", fn := fun _ => fun
  | [d1, d2, d3] => { results := [.lit (.bool false)], args := [d1, d2, d3] }
  | _ => none }
def MaskListsWrongFalsely : Prop := maskListsRow.holds Tryd.pinned (OpenSpec.ofChange maskListsWrong)

/-- 'chordmaillaw13.MaskOne': WHATEVER THE INPUT: true; the input reads as it did. -/
def maskOneSpec : ChangeSpec := { name := "maskOne", fn := fun _ => fun
  | [d1, d2] => { results := [.lit (.bool true)], args := [d1, d2] }
  | _ => none }
def maskOneRow : OpenClaim := { program := "ytmmhcfbnelggfaadoor", sum := "a25f38635dd2d85ebb5bdced45ea5c9410b29e152b125735f1aac2e83a4eb164", func := "chordmail/chordmaillaw13.MaskOne", spec := "maskOne", named := ["math/bits.deBruijn64tab"], apart := false, laid := [("math/bits.deBruijn64tab", laid_math_bits_deBruijn64tab)] }
def MaskOneSaid : Prop := maskOneRow.holds Tryd.pinned (OpenSpec.ofChange maskOneSpec)

/-- ITS FALSE NEIGHBOUR: 'it returns false'. Refute it at one input. -/
def maskOneWrong : ChangeSpec := { name := "maskOne", fn := fun _ => fun
  | [d1, d2] => { results := [.lit (.bool false)], args := [d1, d2] }
  | _ => none }
def MaskOneWrongFalsely : Prop := maskOneRow.holds Tryd.pinned (OpenSpec.ofChange maskOneWrong)

/-- 'chordmaillaw13.MaskSets': WHATEVER THE INPUT: true; the input reads as it did. -/
def maskSetsSpec : ChangeSpec := { name := "maskSets", fn := fun _ => fun
  | [d1, d2] => { results := [.lit (.bool true)], args := [d1, d2] }
  | _ => none }
def maskSetsRow : OpenClaim := { program := "ytmmhcfbnelggfaadoor", sum := "a25f38635dd2d85ebb5bdced45ea5c9410b29e152b125735f1aac2e83a4eb164", func := "chordmail/chordmaillaw13.MaskSets", spec := "maskSets", unfollowed := true, recurses := true, named := ["math/bits.deBruijn64tab"], apart := false, laid := [("math/bits.deBruijn64tab", laid_math_bits_deBruijn64tab)] }
def MaskSetsSaid : Prop := maskSetsRow.holds Tryd.pinned (OpenSpec.ofChange maskSetsSpec)

/-- ITS FALSE NEIGHBOUR: 'it returns false'. Refute it at one input. -/
def maskSetsWrong : ChangeSpec := { name := "maskSets", fn := fun _ => fun
  | [d1, d2] => { results := [.lit (.bool false)], args := [d1, d2] }
  | _ => none }
def MaskSetsWrongFalsely : Prop := maskSetsRow.holds Tryd.pinned (OpenSpec.ofChange maskSetsWrong)

/-- 'chordmaillaw13.MaskAll': WHATEVER THE INPUT: true; the input reads as it did. -/
def maskAllSpec : ChangeSpec := { name := "maskAll", fn := fun _ => fun
  | [d1, d2] => { results := [.lit (.bool true)], args := [d1, d2] }
  | _ => none }
def maskAllRow : OpenClaim := { program := "ytmmhcfbnelggfaadoor", sum := "a25f38635dd2d85ebb5bdced45ea5c9410b29e152b125735f1aac2e83a4eb164", func := "chordmail/chordmaillaw13.MaskAll", spec := "maskAll", unfollowed := true, recurses := true, named := ["math/bits.deBruijn64tab"], apart := false, laid := [("math/bits.deBruijn64tab", laid_math_bits_deBruijn64tab)] }
def MaskAllSaid : Prop := maskAllRow.holds Tryd.pinned (OpenSpec.ofChange maskAllSpec)

/-- ITS FALSE NEIGHBOUR: 'it returns false'. Refute it at one input. -/
def maskAllWrong : ChangeSpec := { name := "maskAll", fn := fun _ => fun
  | [d1, d2] => { results := [.lit (.bool false)], args := [d1, d2] }
  | _ => none }
def MaskAllWrongFalsely : Prop := maskAllRow.holds Tryd.pinned (OpenSpec.ofChange maskAllWrong)

/-- 'chordmaillaw13.MaskPlaces': WHATEVER THE INPUT: true; the input reads as it did. -/
def maskPlacesSpec : ChangeSpec := { name := "maskPlaces", fn := fun _ => fun
  | [d] => { results := [.lit (.bool true)], args := [d] }
  | _ => none }
def maskPlacesRow : OpenClaim := { program := "ytmmhcfbnelggfaadoor", sum := "a25f38635dd2d85ebb5bdced45ea5c9410b29e152b125735f1aac2e83a4eb164", func := "chordmail/chordmaillaw13.MaskPlaces", spec := "maskPlaces", unfollowed := true, recurses := true, named := ["math/bits.deBruijn64tab"], apart := false, laid := [("math/bits.deBruijn64tab", laid_math_bits_deBruijn64tab)] }
def MaskPlacesSaid : Prop := maskPlacesRow.holds Tryd.pinned (OpenSpec.ofChange maskPlacesSpec)

/-- ITS FALSE NEIGHBOUR: 'it returns false'. Refute it at one input. -/
def maskPlacesWrong : ChangeSpec := { name := "maskPlaces", fn := fun _ => fun
  | [d] => { results := [.lit (.bool false)], args := [d] }
  | _ => none }
def MaskPlacesWrongFalsely : Prop := maskPlacesRow.holds Tryd.pinned (OpenSpec.ofChange maskPlacesWrong)

/- THE SECOND FORM. 'bulk': how many values and letters a reading holds, each counted each time it is reached (what is shared counts as often as it is met; a slice's spare places count too). A statement '..UptoSaid' is the law's where the arguments, and the package variables that the reading takes, are together of bulk at most 1048576: NARROWER than '..Said'. Prove '..Said' where nothing that the law and all that it calls make is longer than what came in: it says more and counts as full. Else prove '..UptoSaid'. A law counts once. -/
mutual
def uptoBulk {H : Type} : DataW H → Nat
  | .lit (.string bytes) => bytes.length + 1
  | .lit _ => 1
  | .nil => 1
  | .ptr d => uptoBulk d + 1
  | .slice elems spare => uptoBulkAll elems + uptoBulkAll spare + 1
  | .agg parts => uptoBulkAll parts + 1
  | .iface _ d => uptoBulk d + 1
  | .map entries => uptoBulkEntries entries + 1
  | .held _ => 1
def uptoBulkAll {H : Type} : List (DataW H) → Nat
  | [] => 0
  | d :: r => uptoBulk d + uptoBulkAll r
def uptoBulkEntries {H : Type} : List (Lit × DataW H) → Nat
  | [] => 0
  | x :: r => uptoBulkEntry x + uptoBulkEntries r
def uptoBulkEntry {H : Type} : Lit × DataW H → Nat
  | (.string bytes, d) => bytes.length + uptoBulk d + 1
  | (_, d) => uptoBulk d + 1
 end
def uptoSmall : (H : Type) → List (DataW H) → Bool := fun _ ds => decide (uptoBulkAll ds ≤ 1048576)
def OpenSpec.upto (s : _root_.Go.ChangeSpec) : _root_.Go.OpenSpec := { _root_.Go.OpenSpec.ofChange s with cond := some uptoSmall }

/-- 'chordmaillaw13.MaskLists', WHERE WHAT IT READS IS OF BULK AT MOST 1048576: true; the input reads as it did. -/
def maskListsUptoRow : OpenClaim := { program := "ytmmhcfbnelggfaadoor", sum := "a25f38635dd2d85ebb5bdced45ea5c9410b29e152b125735f1aac2e83a4eb164", func := "chordmail/chordmaillaw13.MaskLists", spec := "maskLists", unfollowed := true, recurses := true, named := ["math/bits.deBruijn64tab"], apart := false, laid := [("math/bits.deBruijn64tab", laid_math_bits_deBruijn64tab)], narrowed := true }
def MaskListsUptoSaid : Prop := maskListsUptoRow.holds Tryd.pinned (OpenSpec.upto maskListsSpec)

/-- 'chordmaillaw13.MaskOne', WHERE WHAT IT READS IS OF BULK AT MOST 1048576: true; the input reads as it did. -/
def maskOneUptoRow : OpenClaim := { program := "ytmmhcfbnelggfaadoor", sum := "a25f38635dd2d85ebb5bdced45ea5c9410b29e152b125735f1aac2e83a4eb164", func := "chordmail/chordmaillaw13.MaskOne", spec := "maskOne", named := ["math/bits.deBruijn64tab"], apart := false, laid := [("math/bits.deBruijn64tab", laid_math_bits_deBruijn64tab)], narrowed := true }
def MaskOneUptoSaid : Prop := maskOneUptoRow.holds Tryd.pinned (OpenSpec.upto maskOneSpec)

/-- 'chordmaillaw13.MaskSets', WHERE WHAT IT READS IS OF BULK AT MOST 1048576: true; the input reads as it did. -/
def maskSetsUptoRow : OpenClaim := { program := "ytmmhcfbnelggfaadoor", sum := "a25f38635dd2d85ebb5bdced45ea5c9410b29e152b125735f1aac2e83a4eb164", func := "chordmail/chordmaillaw13.MaskSets", spec := "maskSets", unfollowed := true, recurses := true, named := ["math/bits.deBruijn64tab"], apart := false, laid := [("math/bits.deBruijn64tab", laid_math_bits_deBruijn64tab)], narrowed := true }
def MaskSetsUptoSaid : Prop := maskSetsUptoRow.holds Tryd.pinned (OpenSpec.upto maskSetsSpec)

/-- 'chordmaillaw13.MaskAll', WHERE WHAT IT READS IS OF BULK AT MOST 1048576: true; the input reads as it did. -/
def maskAllUptoRow : OpenClaim := { program := "ytmmhcfbnelggfaadoor", sum := "a25f38635dd2d85ebb5bdced45ea5c9410b29e152b125735f1aac2e83a4eb164", func := "chordmail/chordmaillaw13.MaskAll", spec := "maskAll", unfollowed := true, recurses := true, named := ["math/bits.deBruijn64tab"], apart := false, laid := [("math/bits.deBruijn64tab", laid_math_bits_deBruijn64tab)], narrowed := true }
def MaskAllUptoSaid : Prop := maskAllUptoRow.holds Tryd.pinned (OpenSpec.upto maskAllSpec)

/-- 'chordmaillaw13.MaskPlaces', WHERE WHAT IT READS IS OF BULK AT MOST 1048576: true; the input reads as it did. -/
def maskPlacesUptoRow : OpenClaim := { program := "ytmmhcfbnelggfaadoor", sum := "a25f38635dd2d85ebb5bdced45ea5c9410b29e152b125735f1aac2e83a4eb164", func := "chordmail/chordmaillaw13.MaskPlaces", spec := "maskPlaces", unfollowed := true, recurses := true, named := ["math/bits.deBruijn64tab"], apart := false, laid := [("math/bits.deBruijn64tab", laid_math_bits_deBruijn64tab)], narrowed := true }
def MaskPlacesUptoSaid : Prop := maskPlacesUptoRow.holds Tryd.pinned (OpenSpec.upto maskPlacesSpec)

end Rows
end Go.Proofs.YtmmhcfbnelggfaaDoor
