/-
  No cell of these rows narrows 'for every input' (looked for: loops, veiled, ifaces, maps, wideKeys, modest, calm, conditions, laid).
  DERIVED. THE GIVEN ROWS OF THIS SEAT. 4 by the template 'for every input the law returns true; each argument reads behind the call as it read before'; 0 by the template 'total and deterministic' (their statements: YtfopbiiffiickaaTotals.lean).
  GIVEN WITH THE SEED: the statements are not yours to turn. If you find one false, say at which input.
  Laid BY PROGRAM, IN A SANDBOX (cutbox-rows.mjs): the forced cells as the released guide's own fill.sh prints them over the translation 398e416a0e5d7a87… (all of the seat's roots in one cut). By AI agents, Wed Nov 11 2026. No macro, syntax, notation, axiom, sorry.
-/
import Derived.Test.YtfopbiiffiickaaChecked
import GoSem.Claim
import GoSem.ClaimJoined
import GoSem.ClaimMapViews
import Derived.JoinedTies
import Derived.KernelRfl
namespace Go.Proofs.Ytfopbiiffiickaa
/- THE CELL 'sum', in the pinned program and in every row, IS THE sha256 OF THE DUMP (.gsa) THAT YtfopbiiffiickaaProg.lean LOADS. Nothing in Lean hashes anything: it is a label: what it is worth is what the hold of that sum in a sandbox is worth. -/
noncomputable def Try.pinned : Pinned := { name := "ytfopbiiffiickaa", sum := "398e416a0e5d7a872b2ec11b069d4ea0c9e50cd063d9e592553228b806dbe989", checked := Try.checked }
namespace Rows
def none {H : Type} : Left H := { results := [], args := [] }

/-- 'heliographlaw16.LtpStarts': WHATEVER THE INPUT: true; the input reads as it did. -/
def ltpStartsSpec : ChangeSpec := { name := "ltpStarts", fn := fun _ => fun
  | [d1, d2, d3] => { results := [.lit (.bool true)], args := [d1, d2, d3] }
  | _ => none }
def ltpStartsRow : OpenClaim := { program := "ytfopbiiffiickaa", sum := "398e416a0e5d7a872b2ec11b069d4ea0c9e50cd063d9e592553228b806dbe989", func := "heliograph/heliographlaw16.LtpStarts", spec := "ltpStarts", unfollowed := true, recurses := true, plainKeys := false, apart := false }
def LtpStartsSaid : Prop := ltpStartsRow.holds Try.pinned (OpenSpec.ofChange ltpStartsSpec)

/-- ITS FALSE NEIGHBOUR: 'it returns false'. Refute it at one input. -/
def ltpStartsWrong : ChangeSpec := { name := "ltpStarts", fn := fun _ => fun
  | [d1, d2, d3] => { results := [.lit (.bool false)], args := [d1, d2, d3] }
  | _ => none }
def LtpStartsWrongFalsely : Prop := ltpStartsRow.holds Try.pinned (OpenSpec.ofChange ltpStartsWrong)

/-- 'heliographlaw16.LtpNew': WHATEVER THE INPUT: true; the input reads as it did. -/
def ltpNewSpec : ChangeSpec := { name := "ltpNew", fn := fun _ => fun
  | [d1, d2, d3] => { results := [.lit (.bool true)], args := [d1, d2, d3] }
  | _ => none }
def ltpNewRow : OpenClaim := { program := "ytfopbiiffiickaa", sum := "398e416a0e5d7a872b2ec11b069d4ea0c9e50cd063d9e592553228b806dbe989", func := "heliograph/heliographlaw16.LtpNew", spec := "ltpNew", unfollowed := true, recurses := true, plainKeys := false, apart := false }
def LtpNewSaid : Prop := ltpNewRow.holds Try.pinned (OpenSpec.ofChange ltpNewSpec)

/-- ITS FALSE NEIGHBOUR: 'it returns false'. Refute it at one input. -/
def ltpNewWrong : ChangeSpec := { name := "ltpNew", fn := fun _ => fun
  | [d1, d2, d3] => { results := [.lit (.bool false)], args := [d1, d2, d3] }
  | _ => none }
def LtpNewWrongFalsely : Prop := ltpNewRow.holds Try.pinned (OpenSpec.ofChange ltpNewWrong)

/-- 'heliographlaw16.LtpSame': WHATEVER THE INPUT: true; the input reads as it did. -/
def ltpSameSpec : ChangeSpec := { name := "ltpSame", fn := fun _ => fun
  | [d] => { results := [.lit (.bool true)], args := [d] }
  | _ => none }
def ltpSameRow : OpenClaim := { program := "ytfopbiiffiickaa", sum := "398e416a0e5d7a872b2ec11b069d4ea0c9e50cd063d9e592553228b806dbe989", func := "heliograph/heliographlaw16.LtpSame", spec := "ltpSame", unfollowed := true, recurses := true, plainKeys := false, apart := false }
def LtpSameSaid : Prop := ltpSameRow.holds Try.pinned (OpenSpec.ofChange ltpSameSpec)

/-- ITS FALSE NEIGHBOUR: 'it returns false'. Refute it at one input. -/
def ltpSameWrong : ChangeSpec := { name := "ltpSame", fn := fun _ => fun
  | [d] => { results := [.lit (.bool false)], args := [d] }
  | _ => none }
def LtpSameWrongFalsely : Prop := ltpSameRow.holds Try.pinned (OpenSpec.ofChange ltpSameWrong)

/-- 'heliographlaw16.LtpGivesUp': WHATEVER THE INPUT: true; the input reads as it did. -/
def ltpGivesUpSpec : ChangeSpec := { name := "ltpGivesUp", fn := fun _ => fun
  | [d1, d2] => { results := [.lit (.bool true)], args := [d1, d2] }
  | _ => none }
def ltpGivesUpRow : OpenClaim := { program := "ytfopbiiffiickaa", sum := "398e416a0e5d7a872b2ec11b069d4ea0c9e50cd063d9e592553228b806dbe989", func := "heliograph/heliographlaw16.LtpGivesUp", spec := "ltpGivesUp", unfollowed := true, recurses := true, plainKeys := false, apart := false }
def LtpGivesUpSaid : Prop := ltpGivesUpRow.holds Try.pinned (OpenSpec.ofChange ltpGivesUpSpec)

/-- ITS FALSE NEIGHBOUR: 'it returns false'. Refute it at one input. -/
def ltpGivesUpWrong : ChangeSpec := { name := "ltpGivesUp", fn := fun _ => fun
  | [d1, d2] => { results := [.lit (.bool false)], args := [d1, d2] }
  | _ => none }
def LtpGivesUpWrongFalsely : Prop := ltpGivesUpRow.holds Try.pinned (OpenSpec.ofChange ltpGivesUpWrong)

/- THE SECOND FORM. 'bulk': how many values and letters a reading holds, each counted each time it is reached (what is shared counts as often as it is met; a slice's spare places count too). A statement '..UptoSaid' is the law's where the arguments, and the package variables that the reading takes, are together of bulk at most 1048576: NARROWER than '..Said'. Prove '..Said' where nothing that the law and all that it calls make is longer than what came in: it says more and counts as full. Else prove '..UptoSaid'. A law counts once. -/
mutual
def uptoBulk {H : Type} : DataW H → Nat
  | .lit (.string bytes) => bytes.length + 1
  | .lit _ => 1
  | .nil => 1
  | .ptr d => uptoBulk d + 1
  | .slice elems spare => uptoBulkAll elems + uptoBulkAll spare + 1
  | .agg parts => uptoBulkAll parts + 1
  | .iface _ d => uptoBulk d + 1
  | .map entries => uptoBulkEntries entries + 1
  | .held _ => 1
def uptoBulkAll {H : Type} : List (DataW H) → Nat
  | [] => 0
  | d :: r => uptoBulk d + uptoBulkAll r
def uptoBulkEntries {H : Type} : List (Lit × DataW H) → Nat
  | [] => 0
  | x :: r => uptoBulkEntry x + uptoBulkEntries r
def uptoBulkEntry {H : Type} : Lit × DataW H → Nat
  | (.string bytes, d) => bytes.length + uptoBulk d + 1
  | (_, d) => uptoBulk d + 1
 end
def uptoSmall : (H : Type) → List (DataW H) → Bool := fun _ ds => decide (uptoBulkAll ds ≤ 1048576)
def OpenSpec.upto (s : _root_.Go.ChangeSpec) : _root_.Go.OpenSpec := { _root_.Go.OpenSpec.ofChange s with cond := some uptoSmall }

/-- 'heliographlaw16.LtpStarts', WHERE WHAT IT READS IS OF BULK AT MOST 1048576: true; the input reads as it did. -/
def ltpStartsUptoRow : OpenClaim := { program := "ytfopbiiffiickaa", sum := "398e416a0e5d7a872b2ec11b069d4ea0c9e50cd063d9e592553228b806dbe989", func := "heliograph/heliographlaw16.LtpStarts", spec := "ltpStarts", unfollowed := true, recurses := true, plainKeys := false, apart := false, narrowed := true }
def LtpStartsUptoSaid : Prop := ltpStartsUptoRow.holds Try.pinned (OpenSpec.upto ltpStartsSpec)

/-- 'heliographlaw16.LtpNew', WHERE WHAT IT READS IS OF BULK AT MOST 1048576: true; the input reads as it did. -/
def ltpNewUptoRow : OpenClaim := { program := "ytfopbiiffiickaa", sum := "398e416a0e5d7a872b2ec11b069d4ea0c9e50cd063d9e592553228b806dbe989", func := "heliograph/heliographlaw16.LtpNew", spec := "ltpNew", unfollowed := true, recurses := true, plainKeys := false, apart := false, narrowed := true }
def LtpNewUptoSaid : Prop := ltpNewUptoRow.holds Try.pinned (OpenSpec.upto ltpNewSpec)

/-- 'heliographlaw16.LtpSame', WHERE WHAT IT READS IS OF BULK AT MOST 1048576: true; the input reads as it did. -/
def ltpSameUptoRow : OpenClaim := { program := "ytfopbiiffiickaa", sum := "398e416a0e5d7a872b2ec11b069d4ea0c9e50cd063d9e592553228b806dbe989", func := "heliograph/heliographlaw16.LtpSame", spec := "ltpSame", unfollowed := true, recurses := true, plainKeys := false, apart := false, narrowed := true }
def LtpSameUptoSaid : Prop := ltpSameUptoRow.holds Try.pinned (OpenSpec.upto ltpSameSpec)

/-- 'heliographlaw16.LtpGivesUp', WHERE WHAT IT READS IS OF BULK AT MOST 1048576: true; the input reads as it did. -/
def ltpGivesUpUptoRow : OpenClaim := { program := "ytfopbiiffiickaa", sum := "398e416a0e5d7a872b2ec11b069d4ea0c9e50cd063d9e592553228b806dbe989", func := "heliograph/heliographlaw16.LtpGivesUp", spec := "ltpGivesUp", unfollowed := true, recurses := true, plainKeys := false, apart := false, narrowed := true }
def LtpGivesUpUptoSaid : Prop := ltpGivesUpUptoRow.holds Try.pinned (OpenSpec.upto ltpGivesUpSpec)

end Rows
end Go.Proofs.Ytfopbiiffiickaa
