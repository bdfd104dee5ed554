/-
  No cell of these rows narrows 'for every input' (looked for: loops, veiled, ifaces, maps, wideKeys, modest, calm, conditions, laid).
  DERIVED. THE GIVEN ROWS OF THIS SEAT. 5 by the template 'for every input the law returns true; each argument reads behind the call as it read before'; 0 by the template 'total and deterministic' (their statements: YtmbhpchkhilheaaTotals.lean).
  GIVEN WITH THE SEED: the statements are not yours to turn. If you find one false, say at which input.
  Laid BY PROGRAM, IN A SANDBOX (cutbox-rows.mjs): the forced cells as the released guide's own fill.sh prints them over the translation 4def0f36c32f6918… (all of the seat's roots in one cut). By AI agents, Wed Nov 11 2026. No macro, syntax, notation, axiom, sorry.
-/
import Derived.Test.YtmbhpchkhilheaaChecked
import GoSem.Claim
import GoSem.ClaimJoined
import GoSem.ClaimMapViews
import Derived.JoinedTies
import Derived.KernelRfl
namespace Go.Proofs.Ytmbhpchkhilheaa
/- THE CELL 'sum', in the pinned program and in every row, IS THE sha256 OF THE DUMP (.gsa) THAT YtmbhpchkhilheaaProg.lean LOADS. Nothing in Lean hashes anything: it is a label: what it is worth is what the hold of that sum in a sandbox is worth. -/
noncomputable def Try.pinned : Pinned := { name := "ytmbhpchkhilheaa", sum := "4def0f36c32f69182863e4267d4294e287c4bcb0f768b3dcd2ebfb1ef476c74d", checked := Try.checked }
namespace Rows
def none {H : Type} : Left H := { results := [], args := [] }

/-- 'heliographlaw15.ReceiverTells': WHATEVER THE INPUT: true; the input reads as it did. -/
def receiverTellsSpec : ChangeSpec := { name := "receiverTells", fn := fun _ => fun
  | [d1, d2] => { results := [.lit (.bool true)], args := [d1, d2] }
  | _ => none }
def receiverTellsRow : OpenClaim := { program := "ytmbhpchkhilheaa", sum := "4def0f36c32f69182863e4267d4294e287c4bcb0f768b3dcd2ebfb1ef476c74d", func := "heliograph/heliographlaw15.ReceiverTells", spec := "receiverTells", unfollowed := true, recurses := true, apart := false }
def ReceiverTellsSaid : Prop := receiverTellsRow.holds Try.pinned (OpenSpec.ofChange receiverTellsSpec)

/-- ITS FALSE NEIGHBOUR: 'it returns false'. Refute it at one input. -/
def receiverTellsWrong : ChangeSpec := { name := "receiverTells", fn := fun _ => fun
  | [d1, d2] => { results := [.lit (.bool false)], args := [d1, d2] }
  | _ => none }
def ReceiverTellsWrongFalsely : Prop := receiverTellsRow.holds Try.pinned (OpenSpec.ofChange receiverTellsWrong)

/-- 'heliographlaw15.ReceiverTakes': WHATEVER THE INPUT: true; the input reads as it did. -/
def receiverTakesSpec : ChangeSpec := { name := "receiverTakes", fn := fun _ => fun
  | [d1, d2, d3] => { results := [.lit (.bool true)], args := [d1, d2, d3] }
  | _ => none }
def receiverTakesRow : OpenClaim := { program := "ytmbhpchkhilheaa", sum := "4def0f36c32f69182863e4267d4294e287c4bcb0f768b3dcd2ebfb1ef476c74d", func := "heliograph/heliographlaw15.ReceiverTakes", spec := "receiverTakes", unfollowed := true, recurses := true, apart := false }
def ReceiverTakesSaid : Prop := receiverTakesRow.holds Try.pinned (OpenSpec.ofChange receiverTakesSpec)

/-- ITS FALSE NEIGHBOUR: 'it returns false'. Refute it at one input. -/
def receiverTakesWrong : ChangeSpec := { name := "receiverTakes", fn := fun _ => fun
  | [d1, d2, d3] => { results := [.lit (.bool false)], args := [d1, d2, d3] }
  | _ => none }
def ReceiverTakesWrongFalsely : Prop := receiverTakesRow.holds Try.pinned (OpenSpec.ofChange receiverTakesWrong)

/-- 'heliographlaw15.ReceiverBegins': WHATEVER THE INPUT: true; the input reads as it did. -/
def receiverBeginsSpec : ChangeSpec := { name := "receiverBegins", fn := fun _ => fun
  | [d1, d2, d3] => { results := [.lit (.bool true)], args := [d1, d2, d3] }
  | _ => none }
def receiverBeginsRow : OpenClaim := { program := "ytmbhpchkhilheaa", sum := "4def0f36c32f69182863e4267d4294e287c4bcb0f768b3dcd2ebfb1ef476c74d", func := "heliograph/heliographlaw15.ReceiverBegins", spec := "receiverBegins", unfollowed := true, recurses := true, apart := false }
def ReceiverBeginsSaid : Prop := receiverBeginsRow.holds Try.pinned (OpenSpec.ofChange receiverBeginsSpec)

/-- ITS FALSE NEIGHBOUR: 'it returns false'. Refute it at one input. -/
def receiverBeginsWrong : ChangeSpec := { name := "receiverBegins", fn := fun _ => fun
  | [d1, d2, d3] => { results := [.lit (.bool false)], args := [d1, d2, d3] }
  | _ => none }
def ReceiverBeginsWrongFalsely : Prop := receiverBeginsRow.holds Try.pinned (OpenSpec.ofChange receiverBeginsWrong)

/-- 'heliographlaw15.ReceiverWhole': WHATEVER THE INPUT: true; the input reads as it did. -/
def receiverWholeSpec : ChangeSpec := { name := "receiverWhole", fn := fun _ => fun
  | [d1, d2, d3] => { results := [.lit (.bool true)], args := [d1, d2, d3] }
  | _ => none }
def receiverWholeRow : OpenClaim := { program := "ytmbhpchkhilheaa", sum := "4def0f36c32f69182863e4267d4294e287c4bcb0f768b3dcd2ebfb1ef476c74d", func := "heliograph/heliographlaw15.ReceiverWhole", spec := "receiverWhole", unfollowed := true, recurses := true, apart := false }
def ReceiverWholeSaid : Prop := receiverWholeRow.holds Try.pinned (OpenSpec.ofChange receiverWholeSpec)

/-- ITS FALSE NEIGHBOUR: 'it returns false'. Refute it at one input. -/
def receiverWholeWrong : ChangeSpec := { name := "receiverWhole", fn := fun _ => fun
  | [d1, d2, d3] => { results := [.lit (.bool false)], args := [d1, d2, d3] }
  | _ => none }
def ReceiverWholeWrongFalsely : Prop := receiverWholeRow.holds Try.pinned (OpenSpec.ofChange receiverWholeWrong)

/-- 'heliographlaw15.ReceiverOver': WHATEVER THE INPUT: true; the input reads as it did. -/
def receiverOverSpec : ChangeSpec := { name := "receiverOver", fn := fun _ => fun
  | [d1, d2, d3] => { results := [.lit (.bool true)], args := [d1, d2, d3] }
  | _ => none }
def receiverOverRow : OpenClaim := { program := "ytmbhpchkhilheaa", sum := "4def0f36c32f69182863e4267d4294e287c4bcb0f768b3dcd2ebfb1ef476c74d", func := "heliograph/heliographlaw15.ReceiverOver", spec := "receiverOver", unfollowed := true, recurses := true, apart := false }
def ReceiverOverSaid : Prop := receiverOverRow.holds Try.pinned (OpenSpec.ofChange receiverOverSpec)

/-- ITS FALSE NEIGHBOUR: 'it returns false'. Refute it at one input. -/
def receiverOverWrong : ChangeSpec := { name := "receiverOver", fn := fun _ => fun
  | [d1, d2, d3] => { results := [.lit (.bool false)], args := [d1, d2, d3] }
  | _ => none }
def ReceiverOverWrongFalsely : Prop := receiverOverRow.holds Try.pinned (OpenSpec.ofChange receiverOverWrong)

/- THE SECOND FORM. 'bulk': how many values and letters a reading holds, each counted each time it is reached (what is shared counts as often as it is met; a slice's spare places count too). A statement '..UptoSaid' is the law's where the arguments, and the package variables that the reading takes, are together of bulk at most 1048576: NARROWER than '..Said'. Prove '..Said' where nothing that the law and all that it calls make is longer than what came in: it says more and counts as full. Else prove '..UptoSaid'. A law counts once. -/
mutual
def uptoBulk {H : Type} : DataW H → Nat
  | .lit (.string bytes) => bytes.length + 1
  | .lit _ => 1
  | .nil => 1
  | .ptr d => uptoBulk d + 1
  | .slice elems spare => uptoBulkAll elems + uptoBulkAll spare + 1
  | .agg parts => uptoBulkAll parts + 1
  | .iface _ d => uptoBulk d + 1
  | .map entries => uptoBulkEntries entries + 1
  | .held _ => 1
def uptoBulkAll {H : Type} : List (DataW H) → Nat
  | [] => 0
  | d :: r => uptoBulk d + uptoBulkAll r
def uptoBulkEntries {H : Type} : List (Lit × DataW H) → Nat
  | [] => 0
  | x :: r => uptoBulkEntry x + uptoBulkEntries r
def uptoBulkEntry {H : Type} : Lit × DataW H → Nat
  | (.string bytes, d) => bytes.length + uptoBulk d + 1
  | (_, d) => uptoBulk d + 1
 end
def uptoSmall : (H : Type) → List (DataW H) → Bool := fun _ ds => decide (uptoBulkAll ds ≤ 1048576)
def OpenSpec.upto (s : _root_.Go.ChangeSpec) : _root_.Go.OpenSpec := { _root_.Go.OpenSpec.ofChange s with cond := some uptoSmall }

/-- 'heliographlaw15.ReceiverTells', WHERE WHAT IT READS IS OF BULK AT MOST 1048576: true; the input reads as it did. -/
def receiverTellsUptoRow : OpenClaim := { program := "ytmbhpchkhilheaa", sum := "4def0f36c32f69182863e4267d4294e287c4bcb0f768b3dcd2ebfb1ef476c74d", func := "heliograph/heliographlaw15.ReceiverTells", spec := "receiverTells", unfollowed := true, recurses := true, apart := false, narrowed := true }
def ReceiverTellsUptoSaid : Prop := receiverTellsUptoRow.holds Try.pinned (OpenSpec.upto receiverTellsSpec)

/-- 'heliographlaw15.ReceiverTakes', WHERE WHAT IT READS IS OF BULK AT MOST 1048576: true; the input reads as it did. -/
def receiverTakesUptoRow : OpenClaim := { program := "ytmbhpchkhilheaa", sum := "4def0f36c32f69182863e4267d4294e287c4bcb0f768b3dcd2ebfb1ef476c74d", func := "heliograph/heliographlaw15.ReceiverTakes", spec := "receiverTakes", unfollowed := true, recurses := true, apart := false, narrowed := true }
def ReceiverTakesUptoSaid : Prop := receiverTakesUptoRow.holds Try.pinned (OpenSpec.upto receiverTakesSpec)

/-- 'heliographlaw15.ReceiverBegins', WHERE WHAT IT READS IS OF BULK AT MOST 1048576: true; the input reads as it did. -/
def receiverBeginsUptoRow : OpenClaim := { program := "ytmbhpchkhilheaa", sum := "4def0f36c32f69182863e4267d4294e287c4bcb0f768b3dcd2ebfb1ef476c74d", func := "heliograph/heliographlaw15.ReceiverBegins", spec := "receiverBegins", unfollowed := true, recurses := true, apart := false, narrowed := true }
def ReceiverBeginsUptoSaid : Prop := receiverBeginsUptoRow.holds Try.pinned (OpenSpec.upto receiverBeginsSpec)

/-- 'heliographlaw15.ReceiverWhole', WHERE WHAT IT READS IS OF BULK AT MOST 1048576: true; the input reads as it did. -/
def receiverWholeUptoRow : OpenClaim := { program := "ytmbhpchkhilheaa", sum := "4def0f36c32f69182863e4267d4294e287c4bcb0f768b3dcd2ebfb1ef476c74d", func := "heliograph/heliographlaw15.ReceiverWhole", spec := "receiverWhole", unfollowed := true, recurses := true, apart := false, narrowed := true }
def ReceiverWholeUptoSaid : Prop := receiverWholeUptoRow.holds Try.pinned (OpenSpec.upto receiverWholeSpec)

/-- 'heliographlaw15.ReceiverOver', WHERE WHAT IT READS IS OF BULK AT MOST 1048576: true; the input reads as it did. -/
def receiverOverUptoRow : OpenClaim := { program := "ytmbhpchkhilheaa", sum := "4def0f36c32f69182863e4267d4294e287c4bcb0f768b3dcd2ebfb1ef476c74d", func := "heliograph/heliographlaw15.ReceiverOver", spec := "receiverOver", unfollowed := true, recurses := true, apart := false, narrowed := true }
def ReceiverOverUptoSaid : Prop := receiverOverUptoRow.holds Try.pinned (OpenSpec.upto receiverOverSpec)

end Rows
end Go.Proofs.Ytmbhpchkhilheaa
