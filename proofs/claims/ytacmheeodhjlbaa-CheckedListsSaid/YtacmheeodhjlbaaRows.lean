/-
  No cell of these rows narrows 'for every input' (looked for: loops, veiled, ifaces, maps, wideKeys, modest, calm, conditions, laid).
  DERIVED. THE GIVEN ROWS OF THIS SEAT. 6 by the template 'for every input the law returns true; each argument reads behind the call as it read before'; 0 by the template 'total and deterministic' (their statements: YtacmheeodhjlbaaTotals.lean).
  GIVEN WITH THE SEED: the statements are not yours to turn. If you find one false, say at which input.
  Laid BY PROGRAM, IN A SANDBOX (cutbox-rows.mjs): the forced cells as the released guide's own fill.sh prints them over the translation 44c127fafb331646… (all of the seat's roots in one cut). By AI agents, Wed Nov 11 2026. No macro, syntax, notation, axiom, sorry.
-/
import Derived.Test.YtacmheeodhjlbaaChecked
import GoSem.Claim
import GoSem.ClaimJoined
import GoSem.ClaimMapViews
import Derived.JoinedTies
import Derived.KernelRfl
namespace Go.Proofs.Ytacmheeodhjlbaa
/- THE CELL 'sum', in the pinned program and in every row, IS THE sha256 OF THE DUMP (.gsa) THAT YtacmheeodhjlbaaProg.lean LOADS. Nothing in Lean hashes anything: it is a label: what it is worth is what the hold of that sum in a sandbox is worth. -/
noncomputable def Try.pinned : Pinned := { name := "ytacmheeodhjlbaa", sum := "44c127fafb3316465a565b9b2ca158f55b4d7909d113bad0556e9b58a8abf10b", checked := Try.checked }
namespace Rows
def none {H : Type} : Left H := { results := [], args := [] }

/-- 'chordmaillaw03.CheckedEuclid': WHATEVER THE INPUT: true; the input reads as it did. -/
def checkedEuclidSpec : ChangeSpec := { name := "checkedEuclid", fn := fun _ => fun
  | [d1, d2] => { results := [.lit (.bool true)], args := [d1, d2] }
  | _ => none }
def checkedEuclidRow : OpenClaim := { program := "ytacmheeodhjlbaa", sum := "44c127fafb3316465a565b9b2ca158f55b4d7909d113bad0556e9b58a8abf10b", func := "chordmail/chordmaillaw03.CheckedEuclid", spec := "checkedEuclid", apart := false }
def CheckedEuclidSaid : Prop := checkedEuclidRow.holds Try.pinned (OpenSpec.ofChange checkedEuclidSpec)

/-- ITS FALSE NEIGHBOUR: 'it returns false'. Refute it at one input. -/
def checkedEuclidWrong : ChangeSpec := { name := "checkedEuclid", fn := fun _ => fun
  | [d1, d2] => { results := [.lit (.bool false)], args := [d1, d2] }
  | _ => none }
def CheckedEuclidWrongFalsely : Prop := checkedEuclidRow.holds Try.pinned (OpenSpec.ofChange checkedEuclidWrong)

/-- 'chordmaillaw03.CheckedPairs': WHATEVER THE INPUT: true; the input reads as it did. -/
def checkedPairsSpec : ChangeSpec := { name := "checkedPairs", fn := fun _ => fun
  | [d1, d2] => { results := [.lit (.bool true)], args := [d1, d2] }
  | _ => none }
def checkedPairsRow : OpenClaim := { program := "ytacmheeodhjlbaa", sum := "44c127fafb3316465a565b9b2ca158f55b4d7909d113bad0556e9b58a8abf10b", func := "chordmail/chordmaillaw03.CheckedPairs", spec := "checkedPairs", apart := false }
def CheckedPairsSaid : Prop := checkedPairsRow.holds Try.pinned (OpenSpec.ofChange checkedPairsSpec)

/-- ITS FALSE NEIGHBOUR: 'it returns false'. Refute it at one input. -/
def checkedPairsWrong : ChangeSpec := { name := "checkedPairs", fn := fun _ => fun
  | [d1, d2] => { results := [.lit (.bool false)], args := [d1, d2] }
  | _ => none }
def CheckedPairsWrongFalsely : Prop := checkedPairsRow.holds Try.pinned (OpenSpec.ofChange checkedPairsWrong)

/-- 'chordmaillaw03.CheckedPicks': WHATEVER THE INPUT: true; the input reads as it did. -/
def checkedPicksSpec : ChangeSpec := { name := "checkedPicks", fn := fun _ => fun
  | [d1, d2] => { results := [.lit (.bool true)], args := [d1, d2] }
  | _ => none }
def checkedPicksRow : OpenClaim := { program := "ytacmheeodhjlbaa", sum := "44c127fafb3316465a565b9b2ca158f55b4d7909d113bad0556e9b58a8abf10b", func := "chordmail/chordmaillaw03.CheckedPicks", spec := "checkedPicks", inPlace := ["math/bits.Add64"], apart := false }
def CheckedPicksSaid : Prop := checkedPicksRow.holds Try.pinned (OpenSpec.ofChange checkedPicksSpec)

/-- ITS FALSE NEIGHBOUR: 'it returns false'. Refute it at one input. -/
def checkedPicksWrong : ChangeSpec := { name := "checkedPicks", fn := fun _ => fun
  | [d1, d2] => { results := [.lit (.bool false)], args := [d1, d2] }
  | _ => none }
def CheckedPicksWrongFalsely : Prop := checkedPicksRow.holds Try.pinned (OpenSpec.ofChange checkedPicksWrong)

/-- 'chordmaillaw03.CheckedLists': WHATEVER THE INPUT: true; the input reads as it did. -/
def checkedListsSpec : ChangeSpec := { name := "checkedLists", fn := fun _ => fun
  | [d] => { results := [.lit (.bool true)], args := [d] }
  | _ => none }
def checkedListsRow : OpenClaim := { program := "ytacmheeodhjlbaa", sum := "44c127fafb3316465a565b9b2ca158f55b4d7909d113bad0556e9b58a8abf10b", func := "chordmail/chordmaillaw03.CheckedLists", spec := "checkedLists", inPlace := ["math/bits.Add64"], apart := false }
def CheckedListsSaid : Prop := checkedListsRow.holds Try.pinned (OpenSpec.ofChange checkedListsSpec)

/-- ITS FALSE NEIGHBOUR: 'it returns false'. Refute it at one input. -/
def checkedListsWrong : ChangeSpec := { name := "checkedLists", fn := fun _ => fun
  | [d] => { results := [.lit (.bool false)], args := [d] }
  | _ => none }
def CheckedListsWrongFalsely : Prop := checkedListsRow.holds Try.pinned (OpenSpec.ofChange checkedListsWrong)

/-- 'chordmaillaw03.CheckedBack': WHATEVER THE INPUT: true; the input reads as it did. -/
def checkedBackSpec : ChangeSpec := { name := "checkedBack", fn := fun _ => fun
  | [d1, d2] => { results := [.lit (.bool true)], args := [d1, d2] }
  | _ => none }
def checkedBackRow : OpenClaim := { program := "ytacmheeodhjlbaa", sum := "44c127fafb3316465a565b9b2ca158f55b4d7909d113bad0556e9b58a8abf10b", func := "chordmail/chordmaillaw03.CheckedBack", spec := "checkedBack", inPlace := ["math/bits.Add64"], apart := false }
def CheckedBackSaid : Prop := checkedBackRow.holds Try.pinned (OpenSpec.ofChange checkedBackSpec)

/-- ITS FALSE NEIGHBOUR: 'it returns false'. Refute it at one input. -/
def checkedBackWrong : ChangeSpec := { name := "checkedBack", fn := fun _ => fun
  | [d1, d2] => { results := [.lit (.bool false)], args := [d1, d2] }
  | _ => none }
def CheckedBackWrongFalsely : Prop := checkedBackRow.holds Try.pinned (OpenSpec.ofChange checkedBackWrong)

/-- 'chordmaillaw03.CheckedOrder': WHATEVER THE INPUT: true; the input reads as it did. -/
def checkedOrderSpec : ChangeSpec := { name := "checkedOrder", fn := fun _ => fun
  | [d1, d2] => { results := [.lit (.bool true)], args := [d1, d2] }
  | _ => none }
def checkedOrderRow : OpenClaim := { program := "ytacmheeodhjlbaa", sum := "44c127fafb3316465a565b9b2ca158f55b4d7909d113bad0556e9b58a8abf10b", func := "chordmail/chordmaillaw03.CheckedOrder", spec := "checkedOrder", inPlace := ["math/bits.Add64"], apart := false }
def CheckedOrderSaid : Prop := checkedOrderRow.holds Try.pinned (OpenSpec.ofChange checkedOrderSpec)

/-- ITS FALSE NEIGHBOUR: 'it returns false'. Refute it at one input. -/
def checkedOrderWrong : ChangeSpec := { name := "checkedOrder", fn := fun _ => fun
  | [d1, d2] => { results := [.lit (.bool false)], args := [d1, d2] }
  | _ => none }
def CheckedOrderWrongFalsely : Prop := checkedOrderRow.holds Try.pinned (OpenSpec.ofChange checkedOrderWrong)

/- THE SECOND FORM. 'bulk': how many values and letters a reading holds, each counted each time it is reached (what is shared counts as often as it is met; a slice's spare places count too). A statement '..UptoSaid' is the law's where the arguments, and the package variables that the reading takes, are together of bulk at most 1048576: NARROWER than '..Said'. Prove '..Said' where nothing that the law and all that it calls make is longer than what came in: it says more and counts as full. Else prove '..UptoSaid'. A law counts once. -/
mutual
def uptoBulk {H : Type} : DataW H → Nat
  | .lit (.string bytes) => bytes.length + 1
  | .lit _ => 1
  | .nil => 1
  | .ptr d => uptoBulk d + 1
  | .slice elems spare => uptoBulkAll elems + uptoBulkAll spare + 1
  | .agg parts => uptoBulkAll parts + 1
  | .iface _ d => uptoBulk d + 1
  | .map entries => uptoBulkEntries entries + 1
  | .held _ => 1
def uptoBulkAll {H : Type} : List (DataW H) → Nat
  | [] => 0
  | d :: r => uptoBulk d + uptoBulkAll r
def uptoBulkEntries {H : Type} : List (Lit × DataW H) → Nat
  | [] => 0
  | x :: r => uptoBulkEntry x + uptoBulkEntries r
def uptoBulkEntry {H : Type} : Lit × DataW H → Nat
  | (.string bytes, d) => bytes.length + uptoBulk d + 1
  | (_, d) => uptoBulk d + 1
 end
def uptoSmall : (H : Type) → List (DataW H) → Bool := fun _ ds => decide (uptoBulkAll ds ≤ 1048576)
def OpenSpec.upto (s : _root_.Go.ChangeSpec) : _root_.Go.OpenSpec := { _root_.Go.OpenSpec.ofChange s with cond := some uptoSmall }

/-- 'chordmaillaw03.CheckedEuclid', WHERE WHAT IT READS IS OF BULK AT MOST 1048576: true; the input reads as it did. -/
def checkedEuclidUptoRow : OpenClaim := { program := "ytacmheeodhjlbaa", sum := "44c127fafb3316465a565b9b2ca158f55b4d7909d113bad0556e9b58a8abf10b", func := "chordmail/chordmaillaw03.CheckedEuclid", spec := "checkedEuclid", apart := false, narrowed := true }
def CheckedEuclidUptoSaid : Prop := checkedEuclidUptoRow.holds Try.pinned (OpenSpec.upto checkedEuclidSpec)

/-- 'chordmaillaw03.CheckedPairs', WHERE WHAT IT READS IS OF BULK AT MOST 1048576: true; the input reads as it did. -/
def checkedPairsUptoRow : OpenClaim := { program := "ytacmheeodhjlbaa", sum := "44c127fafb3316465a565b9b2ca158f55b4d7909d113bad0556e9b58a8abf10b", func := "chordmail/chordmaillaw03.CheckedPairs", spec := "checkedPairs", apart := false, narrowed := true }
def CheckedPairsUptoSaid : Prop := checkedPairsUptoRow.holds Try.pinned (OpenSpec.upto checkedPairsSpec)

/-- 'chordmaillaw03.CheckedPicks', WHERE WHAT IT READS IS OF BULK AT MOST 1048576: true; the input reads as it did. -/
def checkedPicksUptoRow : OpenClaim := { program := "ytacmheeodhjlbaa", sum := "44c127fafb3316465a565b9b2ca158f55b4d7909d113bad0556e9b58a8abf10b", func := "chordmail/chordmaillaw03.CheckedPicks", spec := "checkedPicks", inPlace := ["math/bits.Add64"], apart := false, narrowed := true }
def CheckedPicksUptoSaid : Prop := checkedPicksUptoRow.holds Try.pinned (OpenSpec.upto checkedPicksSpec)

/-- 'chordmaillaw03.CheckedLists', WHERE WHAT IT READS IS OF BULK AT MOST 1048576: true; the input reads as it did. -/
def checkedListsUptoRow : OpenClaim := { program := "ytacmheeodhjlbaa", sum := "44c127fafb3316465a565b9b2ca158f55b4d7909d113bad0556e9b58a8abf10b", func := "chordmail/chordmaillaw03.CheckedLists", spec := "checkedLists", inPlace := ["math/bits.Add64"], apart := false, narrowed := true }
def CheckedListsUptoSaid : Prop := checkedListsUptoRow.holds Try.pinned (OpenSpec.upto checkedListsSpec)

/-- 'chordmaillaw03.CheckedBack', WHERE WHAT IT READS IS OF BULK AT MOST 1048576: true; the input reads as it did. -/
def checkedBackUptoRow : OpenClaim := { program := "ytacmheeodhjlbaa", sum := "44c127fafb3316465a565b9b2ca158f55b4d7909d113bad0556e9b58a8abf10b", func := "chordmail/chordmaillaw03.CheckedBack", spec := "checkedBack", inPlace := ["math/bits.Add64"], apart := false, narrowed := true }
def CheckedBackUptoSaid : Prop := checkedBackUptoRow.holds Try.pinned (OpenSpec.upto checkedBackSpec)

/-- 'chordmaillaw03.CheckedOrder', WHERE WHAT IT READS IS OF BULK AT MOST 1048576: true; the input reads as it did. -/
def checkedOrderUptoRow : OpenClaim := { program := "ytacmheeodhjlbaa", sum := "44c127fafb3316465a565b9b2ca158f55b4d7909d113bad0556e9b58a8abf10b", func := "chordmail/chordmaillaw03.CheckedOrder", spec := "checkedOrder", inPlace := ["math/bits.Add64"], apart := false, narrowed := true }
def CheckedOrderUptoSaid : Prop := checkedOrderUptoRow.holds Try.pinned (OpenSpec.upto checkedOrderSpec)

end Rows
end Go.Proofs.Ytacmheeodhjlbaa
