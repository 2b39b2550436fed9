/- In and SameInts of the specification of layer 1. -/
import Derived.Test.YtcbeiadimchknaaGreatChecked
import Derived.Test.YtcbeiadimchknaaGreatQp01
namespace Go.Proofs.YtcbeiadimchknaaGreat
open Go.RowKit
open Go.Sort (grow)
set_option linter.unusedVariables false
set_option linter.unusedSimpArgs false



end Go.Proofs.YtcbeiadimchknaaGreat
