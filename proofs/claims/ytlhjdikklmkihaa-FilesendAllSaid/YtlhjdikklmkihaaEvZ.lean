/- The seat's program. Conditions: none. -/
import Derived.Test.YtlhjdikklmkihaaProg
set_option linter.all false
namespace Go.Proofs.Ytlhjdikklmkihaa.Ev
open Go
/-- The program. -/
noncomputable def PP : Program := Go.Proofs.Try.prog
end Go.Proofs.Ytlhjdikklmkihaa.Ev
