/- Equal ciphertexts, the program's: by data. -/
import Derived.Test.YtmjildbdkecolaaGreatPsr49
import Derived.Tactics
import Derived.Tactics2
import Derived.StillTactics
import Derived.Laws.Small
import Derived.Laws.StructEq
import Derived.KernelRfl
set_option linter.unusedSimpArgs false
set_option linter.unusedVariables false
set_option linter.unnecessarySimpa false
namespace Go.Proofs.YtmjildbdkecolaaGreat
open Go.RowKit
set_option maxRecDepth 20000
set_option maxHeartbeats 4000000
end Go.Proofs.YtmjildbdkecolaaGreat
