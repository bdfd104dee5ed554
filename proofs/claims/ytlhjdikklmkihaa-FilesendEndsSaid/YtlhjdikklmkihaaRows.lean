/-
  No cell of these rows narrows 'for every input' (looked for: loops, veiled, ifaces, maps, wideKeys, modest, calm, conditions, laid).
  DERIVED. THE GIVEN ROWS OF THIS SEAT. 4 by the template 'for every input the law returns true; each argument reads behind the call as it read before'; 0 by the template 'total and deterministic' (their statements: YtlhjdikklmkihaaTotals.lean).
  GIVEN WITH THE SEED: the statements are not yours to turn. If you find one false, say at which input.
  Laid BY PROGRAM, IN A SANDBOX (cutbox-rows.mjs): the forced cells as the released guide's own fill.sh prints them over the translation 8b0cf2ca343ab7f4… (all of the seat's roots in one cut). By AI agents, Wed Nov 11 2026. No macro, syntax, notation, axiom, sorry.
-/
import Derived.Test.YtlhjdikklmkihaaChecked
import GoSem.Claim
import GoSem.ClaimJoined
import GoSem.ClaimMapViews
import Derived.JoinedTies
import Derived.KernelRfl
namespace Go.Proofs.Ytlhjdikklmkihaa
/- THE CELL 'sum', in the pinned program and in every row, IS THE sha256 OF THE DUMP (.gsa) THAT YtlhjdikklmkihaaProg.lean LOADS. Nothing in Lean hashes anything: it is a label: what it is worth is what the hold of that sum in a sandbox is worth. -/
noncomputable def Try.pinned : Pinned := { name := "ytlhjdikklmkihaa", sum := "8b0cf2ca343ab7f4884472a57dae2335f74ae6ece09b01a4028d365a8cf04225", checked := Try.checked }
namespace Rows
def none {H : Type} : Left H := { results := [], args := [] }

/-- 'heliographlaw21.FilesendSteps': WHATEVER THE INPUT: true; the input reads as it did. -/
def filesendStepsSpec : ChangeSpec := { name := "filesendSteps", fn := fun _ => fun
  | [d1, d2] => { results := [.lit (.bool true)], args := [d1, d2] }
  | _ => none }
def filesendStepsRow : OpenClaim := { program := "ytlhjdikklmkihaa", sum := "8b0cf2ca343ab7f4884472a57dae2335f74ae6ece09b01a4028d365a8cf04225", func := "heliograph/heliographlaw21.FilesendSteps", spec := "filesendSteps", unfollowed := true, recurses := true, apart := false }
def FilesendStepsSaid : Prop := filesendStepsRow.holds Try.pinned (OpenSpec.ofChange filesendStepsSpec)

/-- ITS FALSE NEIGHBOUR: 'it returns false'. Refute it at one input. -/
def filesendStepsWrong : ChangeSpec := { name := "filesendSteps", fn := fun _ => fun
  | [d1, d2] => { results := [.lit (.bool false)], args := [d1, d2] }
  | _ => none }
def FilesendStepsWrongFalsely : Prop := filesendStepsRow.holds Try.pinned (OpenSpec.ofChange filesendStepsWrong)

/-- 'heliographlaw21.FilesendPuts': WHATEVER THE INPUT: true; the input reads as it did. -/
def filesendPutsSpec : ChangeSpec := { name := "filesendPuts", fn := fun _ => fun
  | [d1, d2] => { results := [.lit (.bool true)], args := [d1, d2] }
  | _ => none }
def filesendPutsRow : OpenClaim := { program := "ytlhjdikklmkihaa", sum := "8b0cf2ca343ab7f4884472a57dae2335f74ae6ece09b01a4028d365a8cf04225", func := "heliograph/heliographlaw21.FilesendPuts", spec := "filesendPuts", unfollowed := true, recurses := true, apart := false }
def FilesendPutsSaid : Prop := filesendPutsRow.holds Try.pinned (OpenSpec.ofChange filesendPutsSpec)

/-- ITS FALSE NEIGHBOUR: 'it returns false'. Refute it at one input. -/
def filesendPutsWrong : ChangeSpec := { name := "filesendPuts", fn := fun _ => fun
  | [d1, d2] => { results := [.lit (.bool false)], args := [d1, d2] }
  | _ => none }
def FilesendPutsWrongFalsely : Prop := filesendPutsRow.holds Try.pinned (OpenSpec.ofChange filesendPutsWrong)

/-- 'heliographlaw21.FilesendEnds': WHATEVER THE INPUT: true; the input reads as it did. -/
def filesendEndsSpec : ChangeSpec := { name := "filesendEnds", fn := fun _ => fun
  | [d1, d2, d3] => { results := [.lit (.bool true)], args := [d1, d2, d3] }
  | _ => none }
def filesendEndsRow : OpenClaim := { program := "ytlhjdikklmkihaa", sum := "8b0cf2ca343ab7f4884472a57dae2335f74ae6ece09b01a4028d365a8cf04225", func := "heliograph/heliographlaw21.FilesendEnds", spec := "filesendEnds", unfollowed := true, recurses := true, apart := false }
def FilesendEndsSaid : Prop := filesendEndsRow.holds Try.pinned (OpenSpec.ofChange filesendEndsSpec)

/-- ITS FALSE NEIGHBOUR: 'it returns false'. Refute it at one input. -/
def filesendEndsWrong : ChangeSpec := { name := "filesendEnds", fn := fun _ => fun
  | [d1, d2, d3] => { results := [.lit (.bool false)], args := [d1, d2, d3] }
  | _ => none }
def FilesendEndsWrongFalsely : Prop := filesendEndsRow.holds Try.pinned (OpenSpec.ofChange filesendEndsWrong)

/-- 'heliographlaw21.FilesendAll': WHATEVER THE INPUT: true; the input reads as it did. -/
def filesendAllSpec : ChangeSpec := { name := "filesendAll", fn := fun _ => fun
  | [d] => { results := [.lit (.bool true)], args := [d] }
  | _ => none }
def filesendAllRow : OpenClaim := { program := "ytlhjdikklmkihaa", sum := "8b0cf2ca343ab7f4884472a57dae2335f74ae6ece09b01a4028d365a8cf04225", func := "heliograph/heliographlaw21.FilesendAll", spec := "filesendAll", unfollowed := true, recurses := true, apart := false }
def FilesendAllSaid : Prop := filesendAllRow.holds Try.pinned (OpenSpec.ofChange filesendAllSpec)

/-- ITS FALSE NEIGHBOUR: 'it returns false'. Refute it at one input. -/
def filesendAllWrong : ChangeSpec := { name := "filesendAll", fn := fun _ => fun
  | [d] => { results := [.lit (.bool false)], args := [d] }
  | _ => none }
def FilesendAllWrongFalsely : Prop := filesendAllRow.holds Try.pinned (OpenSpec.ofChange filesendAllWrong)

/- THE SECOND FORM. 'bulk': how many values and letters a reading holds, each counted each time it is reached (what is shared counts as often as it is met; a slice's spare places count too). A statement '..UptoSaid' is the law's where the arguments, and the package variables that the reading takes, are together of bulk at most 1048576: NARROWER than '..Said'. Prove '..Said' where nothing that the law and all that it calls make is longer than what came in: it says more and counts as full. Else prove '..UptoSaid'. A law counts once. -/
mutual
def uptoBulk {H : Type} : DataW H → Nat
  | .lit (.string bytes) => bytes.length + 1
  | .lit _ => 1
  | .nil => 1
  | .ptr d => uptoBulk d + 1
  | .slice elems spare => uptoBulkAll elems + uptoBulkAll spare + 1
  | .agg parts => uptoBulkAll parts + 1
  | .iface _ d => uptoBulk d + 1
  | .map entries => uptoBulkEntries entries + 1
  | .held _ => 1
def uptoBulkAll {H : Type} : List (DataW H) → Nat
  | [] => 0
  | d :: r => uptoBulk d + uptoBulkAll r
def uptoBulkEntries {H : Type} : List (Lit × DataW H) → Nat
  | [] => 0
  | x :: r => uptoBulkEntry x + uptoBulkEntries r
def uptoBulkEntry {H : Type} : Lit × DataW H → Nat
  | (.string bytes, d) => bytes.length + uptoBulk d + 1
  | (_, d) => uptoBulk d + 1
 end
def uptoSmall : (H : Type) → List (DataW H) → Bool := fun _ ds => decide (uptoBulkAll ds ≤ 1048576)
def OpenSpec.upto (s : _root_.Go.ChangeSpec) : _root_.Go.OpenSpec := { _root_.Go.OpenSpec.ofChange s with cond := some uptoSmall }

/-- 'heliographlaw21.FilesendSteps', WHERE WHAT IT READS IS OF BULK AT MOST 1048576: true; the input reads as it did. -/
def filesendStepsUptoRow : OpenClaim := { program := "ytlhjdikklmkihaa", sum := "8b0cf2ca343ab7f4884472a57dae2335f74ae6ece09b01a4028d365a8cf04225", func := "heliograph/heliographlaw21.FilesendSteps", spec := "filesendSteps", unfollowed := true, recurses := true, apart := false, narrowed := true }
def FilesendStepsUptoSaid : Prop := filesendStepsUptoRow.holds Try.pinned (OpenSpec.upto filesendStepsSpec)

/-- 'heliographlaw21.FilesendPuts', WHERE WHAT IT READS IS OF BULK AT MOST 1048576: true; the input reads as it did. -/
def filesendPutsUptoRow : OpenClaim := { program := "ytlhjdikklmkihaa", sum := "8b0cf2ca343ab7f4884472a57dae2335f74ae6ece09b01a4028d365a8cf04225", func := "heliograph/heliographlaw21.FilesendPuts", spec := "filesendPuts", unfollowed := true, recurses := true, apart := false, narrowed := true }
def FilesendPutsUptoSaid : Prop := filesendPutsUptoRow.holds Try.pinned (OpenSpec.upto filesendPutsSpec)

/-- 'heliographlaw21.FilesendEnds', WHERE WHAT IT READS IS OF BULK AT MOST 1048576: true; the input reads as it did. -/
def filesendEndsUptoRow : OpenClaim := { program := "ytlhjdikklmkihaa", sum := "8b0cf2ca343ab7f4884472a57dae2335f74ae6ece09b01a4028d365a8cf04225", func := "heliograph/heliographlaw21.FilesendEnds", spec := "filesendEnds", unfollowed := true, recurses := true, apart := false, narrowed := true }
def FilesendEndsUptoSaid : Prop := filesendEndsUptoRow.holds Try.pinned (OpenSpec.upto filesendEndsSpec)

/-- 'heliographlaw21.FilesendAll', WHERE WHAT IT READS IS OF BULK AT MOST 1048576: true; the input reads as it did. -/
def filesendAllUptoRow : OpenClaim := { program := "ytlhjdikklmkihaa", sum := "8b0cf2ca343ab7f4884472a57dae2335f74ae6ece09b01a4028d365a8cf04225", func := "heliograph/heliographlaw21.FilesendAll", spec := "filesendAll", unfollowed := true, recurses := true, apart := false, narrowed := true }
def FilesendAllUptoSaid : Prop := filesendAllUptoRow.holds Try.pinned (OpenSpec.upto filesendAllSpec)

end Rows
end Go.Proofs.Ytlhjdikklmkihaa
