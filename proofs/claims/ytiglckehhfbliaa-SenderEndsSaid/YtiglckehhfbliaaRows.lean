/-
  No cell of these rows narrows 'for every input' (looked for: loops, veiled, ifaces, maps, wideKeys, modest, calm, conditions, laid).
  DERIVED. THE GIVEN ROWS OF THIS SEAT. 7 by the template 'for every input the law returns true; each argument reads behind the call as it read before'; 0 by the template 'total and deterministic' (their statements: YtiglckehhfbliaaTotals.lean).
  GIVEN WITH THE SEED: the statements are not yours to turn. If you find one false, say at which input.
  Laid BY PROGRAM, IN A SANDBOX (cutbox-rows.mjs): the forced cells as the released guide's own fill.sh prints them over the translation 26ca4663ee486d40… (all of the seat's roots in one cut). By AI agents, Wed Nov 11 2026. No macro, syntax, notation, axiom, sorry.
-/
import Derived.Test.YtiglckehhfbliaaChecked
import GoSem.Claim
import GoSem.ClaimJoined
import GoSem.ClaimMapViews
import Derived.JoinedTies
import Derived.KernelRfl
namespace Go.Proofs.Ytiglckehhfbliaa
/- THE CELL 'sum', in the pinned program and in every row, IS THE sha256 OF THE DUMP (.gsa) THAT YtiglckehhfbliaaProg.lean LOADS. Nothing in Lean hashes anything: it is a label: what it is worth is what the hold of that sum in a sandbox is worth. -/
noncomputable def Try.pinned : Pinned := { name := "ytiglckehhfbliaa", sum := "26ca4663ee486d406ad363083750e645905e8a3c300402d360f5b89dab3a2e09", checked := Try.checked }
namespace Rows
def none {H : Type} : Left H := { results := [], args := [] }

/-- 'heliographlaw14.SenderNew': WHATEVER THE INPUT: true; the input reads as it did. -/
def senderNewSpec : ChangeSpec := { name := "senderNew", fn := fun _ => fun
  | [d1, d2] => { results := [.lit (.bool true)], args := [d1, d2] }
  | _ => none }
def senderNewRow : OpenClaim := { program := "ytiglckehhfbliaa", sum := "26ca4663ee486d406ad363083750e645905e8a3c300402d360f5b89dab3a2e09", func := "heliograph/heliographlaw14.SenderNew", spec := "senderNew", unfollowed := true, recurses := true, apart := false }
def SenderNewSaid : Prop := senderNewRow.holds Try.pinned (OpenSpec.ofChange senderNewSpec)

/-- ITS FALSE NEIGHBOUR: 'it returns false'. Refute it at one input. -/
def senderNewWrong : ChangeSpec := { name := "senderNew", fn := fun _ => fun
  | [d1, d2] => { results := [.lit (.bool false)], args := [d1, d2] }
  | _ => none }
def SenderNewWrongFalsely : Prop := senderNewRow.holds Try.pinned (OpenSpec.ofChange senderNewWrong)

/-- 'heliographlaw14.SenderSame': WHATEVER THE INPUT: true; the input reads as it did. -/
def senderSameSpec : ChangeSpec := { name := "senderSame", fn := fun _ => fun
  | [d1, d2] => { results := [.lit (.bool true)], args := [d1, d2] }
  | _ => none }
def senderSameRow : OpenClaim := { program := "ytiglckehhfbliaa", sum := "26ca4663ee486d406ad363083750e645905e8a3c300402d360f5b89dab3a2e09", func := "heliograph/heliographlaw14.SenderSame", spec := "senderSame", unfollowed := true, recurses := true, apart := false }
def SenderSameSaid : Prop := senderSameRow.holds Try.pinned (OpenSpec.ofChange senderSameSpec)

/-- ITS FALSE NEIGHBOUR: 'it returns false'. Refute it at one input. -/
def senderSameWrong : ChangeSpec := { name := "senderSame", fn := fun _ => fun
  | [d1, d2] => { results := [.lit (.bool false)], args := [d1, d2] }
  | _ => none }
def SenderSameWrongFalsely : Prop := senderSameRow.holds Try.pinned (OpenSpec.ofChange senderSameWrong)

/-- 'heliographlaw14.SenderTakes': WHATEVER THE INPUT: true; the input reads as it did. -/
def senderTakesSpec : ChangeSpec := { name := "senderTakes", fn := fun _ => fun
  | [d1, d2, d3] => { results := [.lit (.bool true)], args := [d1, d2, d3] }
  | _ => none }
def senderTakesRow : OpenClaim := { program := "ytiglckehhfbliaa", sum := "26ca4663ee486d406ad363083750e645905e8a3c300402d360f5b89dab3a2e09", func := "heliograph/heliographlaw14.SenderTakes", spec := "senderTakes", unfollowed := true, recurses := true, apart := false }
def SenderTakesSaid : Prop := senderTakesRow.holds Try.pinned (OpenSpec.ofChange senderTakesSpec)

/-- ITS FALSE NEIGHBOUR: 'it returns false'. Refute it at one input. -/
def senderTakesWrong : ChangeSpec := { name := "senderTakes", fn := fun _ => fun
  | [d1, d2, d3] => { results := [.lit (.bool false)], args := [d1, d2, d3] }
  | _ => none }
def SenderTakesWrongFalsely : Prop := senderTakesRow.holds Try.pinned (OpenSpec.ofChange senderTakesWrong)

/-- 'heliographlaw14.SenderGaps': WHATEVER THE INPUT: true; the input reads as it did. -/
def senderGapsSpec : ChangeSpec := { name := "senderGaps", fn := fun _ => fun
  | [d] => { results := [.lit (.bool true)], args := [d] }
  | _ => none }
def senderGapsRow : OpenClaim := { program := "ytiglckehhfbliaa", sum := "26ca4663ee486d406ad363083750e645905e8a3c300402d360f5b89dab3a2e09", func := "heliograph/heliographlaw14.SenderGaps", spec := "senderGaps", unfollowed := true, recurses := true, apart := false }
def SenderGapsSaid : Prop := senderGapsRow.holds Try.pinned (OpenSpec.ofChange senderGapsSpec)

/-- ITS FALSE NEIGHBOUR: 'it returns false'. Refute it at one input. -/
def senderGapsWrong : ChangeSpec := { name := "senderGaps", fn := fun _ => fun
  | [d] => { results := [.lit (.bool false)], args := [d] }
  | _ => none }
def SenderGapsWrongFalsely : Prop := senderGapsRow.holds Try.pinned (OpenSpec.ofChange senderGapsWrong)

/-- 'heliographlaw14.SenderEnds': WHATEVER THE INPUT: true; the input reads as it did. -/
def senderEndsSpec : ChangeSpec := { name := "senderEnds", fn := fun _ => fun
  | [d1, d2] => { results := [.lit (.bool true)], args := [d1, d2] }
  | _ => none }
def senderEndsRow : OpenClaim := { program := "ytiglckehhfbliaa", sum := "26ca4663ee486d406ad363083750e645905e8a3c300402d360f5b89dab3a2e09", func := "heliograph/heliographlaw14.SenderEnds", spec := "senderEnds", unfollowed := true, recurses := true, apart := false }
def SenderEndsSaid : Prop := senderEndsRow.holds Try.pinned (OpenSpec.ofChange senderEndsSpec)

/-- ITS FALSE NEIGHBOUR: 'it returns false'. Refute it at one input. -/
def senderEndsWrong : ChangeSpec := { name := "senderEnds", fn := fun _ => fun
  | [d1, d2] => { results := [.lit (.bool false)], args := [d1, d2] }
  | _ => none }
def SenderEndsWrongFalsely : Prop := senderEndsRow.holds Try.pinned (OpenSpec.ofChange senderEndsWrong)

/-- 'heliographlaw14.SenderBrings': WHATEVER THE INPUT: true; the input reads as it did. -/
def senderBringsSpec : ChangeSpec := { name := "senderBrings", fn := fun _ => fun
  | [d1, d2] => { results := [.lit (.bool true)], args := [d1, d2] }
  | _ => none }
def senderBringsRow : OpenClaim := { program := "ytiglckehhfbliaa", sum := "26ca4663ee486d406ad363083750e645905e8a3c300402d360f5b89dab3a2e09", func := "heliograph/heliographlaw14.SenderBrings", spec := "senderBrings", unfollowed := true, recurses := true, apart := false }
def SenderBringsSaid : Prop := senderBringsRow.holds Try.pinned (OpenSpec.ofChange senderBringsSpec)

/-- ITS FALSE NEIGHBOUR: 'it returns false'. Refute it at one input. -/
def senderBringsWrong : ChangeSpec := { name := "senderBrings", fn := fun _ => fun
  | [d1, d2] => { results := [.lit (.bool false)], args := [d1, d2] }
  | _ => none }
def SenderBringsWrongFalsely : Prop := senderBringsRow.holds Try.pinned (OpenSpec.ofChange senderBringsWrong)

/-- 'heliographlaw14.SenderTicks': WHATEVER THE INPUT: true; the input reads as it did. -/
def senderTicksSpec : ChangeSpec := { name := "senderTicks", fn := fun _ => fun
  | [d1, d2] => { results := [.lit (.bool true)], args := [d1, d2] }
  | _ => none }
def senderTicksRow : OpenClaim := { program := "ytiglckehhfbliaa", sum := "26ca4663ee486d406ad363083750e645905e8a3c300402d360f5b89dab3a2e09", func := "heliograph/heliographlaw14.SenderTicks", spec := "senderTicks", unfollowed := true, recurses := true, apart := false }
def SenderTicksSaid : Prop := senderTicksRow.holds Try.pinned (OpenSpec.ofChange senderTicksSpec)

/-- ITS FALSE NEIGHBOUR: 'it returns false'. Refute it at one input. -/
def senderTicksWrong : ChangeSpec := { name := "senderTicks", fn := fun _ => fun
  | [d1, d2] => { results := [.lit (.bool false)], args := [d1, d2] }
  | _ => none }
def SenderTicksWrongFalsely : Prop := senderTicksRow.holds Try.pinned (OpenSpec.ofChange senderTicksWrong)

/- THE SECOND FORM. 'bulk': how many values and letters a reading holds, each counted each time it is reached (what is shared counts as often as it is met; a slice's spare places count too). A statement '..UptoSaid' is the law's where the arguments, and the package variables that the reading takes, are together of bulk at most 1048576: NARROWER than '..Said'. Prove '..Said' where nothing that the law and all that it calls make is longer than what came in: it says more and counts as full. Else prove '..UptoSaid'. A law counts once. -/
mutual
def uptoBulk {H : Type} : DataW H → Nat
  | .lit (.string bytes) => bytes.length + 1
  | .lit _ => 1
  | .nil => 1
  | .ptr d => uptoBulk d + 1
  | .slice elems spare => uptoBulkAll elems + uptoBulkAll spare + 1
  | .agg parts => uptoBulkAll parts + 1
  | .iface _ d => uptoBulk d + 1
  | .map entries => uptoBulkEntries entries + 1
  | .held _ => 1
def uptoBulkAll {H : Type} : List (DataW H) → Nat
  | [] => 0
  | d :: r => uptoBulk d + uptoBulkAll r
def uptoBulkEntries {H : Type} : List (Lit × DataW H) → Nat
  | [] => 0
  | x :: r => uptoBulkEntry x + uptoBulkEntries r
def uptoBulkEntry {H : Type} : Lit × DataW H → Nat
  | (.string bytes, d) => bytes.length + uptoBulk d + 1
  | (_, d) => uptoBulk d + 1
 end
def uptoSmall : (H : Type) → List (DataW H) → Bool := fun _ ds => decide (uptoBulkAll ds ≤ 1048576)
def OpenSpec.upto (s : _root_.Go.ChangeSpec) : _root_.Go.OpenSpec := { _root_.Go.OpenSpec.ofChange s with cond := some uptoSmall }

/-- 'heliographlaw14.SenderNew', WHERE WHAT IT READS IS OF BULK AT MOST 1048576: true; the input reads as it did. -/
def senderNewUptoRow : OpenClaim := { program := "ytiglckehhfbliaa", sum := "26ca4663ee486d406ad363083750e645905e8a3c300402d360f5b89dab3a2e09", func := "heliograph/heliographlaw14.SenderNew", spec := "senderNew", unfollowed := true, recurses := true, apart := false, narrowed := true }
def SenderNewUptoSaid : Prop := senderNewUptoRow.holds Try.pinned (OpenSpec.upto senderNewSpec)

/-- 'heliographlaw14.SenderSame', WHERE WHAT IT READS IS OF BULK AT MOST 1048576: true; the input reads as it did. -/
def senderSameUptoRow : OpenClaim := { program := "ytiglckehhfbliaa", sum := "26ca4663ee486d406ad363083750e645905e8a3c300402d360f5b89dab3a2e09", func := "heliograph/heliographlaw14.SenderSame", spec := "senderSame", unfollowed := true, recurses := true, apart := false, narrowed := true }
def SenderSameUptoSaid : Prop := senderSameUptoRow.holds Try.pinned (OpenSpec.upto senderSameSpec)

/-- 'heliographlaw14.SenderTakes', WHERE WHAT IT READS IS OF BULK AT MOST 1048576: true; the input reads as it did. -/
def senderTakesUptoRow : OpenClaim := { program := "ytiglckehhfbliaa", sum := "26ca4663ee486d406ad363083750e645905e8a3c300402d360f5b89dab3a2e09", func := "heliograph/heliographlaw14.SenderTakes", spec := "senderTakes", unfollowed := true, recurses := true, apart := false, narrowed := true }
def SenderTakesUptoSaid : Prop := senderTakesUptoRow.holds Try.pinned (OpenSpec.upto senderTakesSpec)

/-- 'heliographlaw14.SenderGaps', WHERE WHAT IT READS IS OF BULK AT MOST 1048576: true; the input reads as it did. -/
def senderGapsUptoRow : OpenClaim := { program := "ytiglckehhfbliaa", sum := "26ca4663ee486d406ad363083750e645905e8a3c300402d360f5b89dab3a2e09", func := "heliograph/heliographlaw14.SenderGaps", spec := "senderGaps", unfollowed := true, recurses := true, apart := false, narrowed := true }
def SenderGapsUptoSaid : Prop := senderGapsUptoRow.holds Try.pinned (OpenSpec.upto senderGapsSpec)

/-- 'heliographlaw14.SenderEnds', WHERE WHAT IT READS IS OF BULK AT MOST 1048576: true; the input reads as it did. -/
def senderEndsUptoRow : OpenClaim := { program := "ytiglckehhfbliaa", sum := "26ca4663ee486d406ad363083750e645905e8a3c300402d360f5b89dab3a2e09", func := "heliograph/heliographlaw14.SenderEnds", spec := "senderEnds", unfollowed := true, recurses := true, apart := false, narrowed := true }
def SenderEndsUptoSaid : Prop := senderEndsUptoRow.holds Try.pinned (OpenSpec.upto senderEndsSpec)

/-- 'heliographlaw14.SenderBrings', WHERE WHAT IT READS IS OF BULK AT MOST 1048576: true; the input reads as it did. -/
def senderBringsUptoRow : OpenClaim := { program := "ytiglckehhfbliaa", sum := "26ca4663ee486d406ad363083750e645905e8a3c300402d360f5b89dab3a2e09", func := "heliograph/heliographlaw14.SenderBrings", spec := "senderBrings", unfollowed := true, recurses := true, apart := false, narrowed := true }
def SenderBringsUptoSaid : Prop := senderBringsUptoRow.holds Try.pinned (OpenSpec.upto senderBringsSpec)

/-- 'heliographlaw14.SenderTicks', WHERE WHAT IT READS IS OF BULK AT MOST 1048576: true; the input reads as it did. -/
def senderTicksUptoRow : OpenClaim := { program := "ytiglckehhfbliaa", sum := "26ca4663ee486d406ad363083750e645905e8a3c300402d360f5b89dab3a2e09", func := "heliograph/heliographlaw14.SenderTicks", spec := "senderTicks", unfollowed := true, recurses := true, apart := false, narrowed := true }
def SenderTicksUptoSaid : Prop := senderTicksUptoRow.holds Try.pinned (OpenSpec.upto senderTicksSpec)

end Rows
end Go.Proofs.Ytiglckehhfbliaa
