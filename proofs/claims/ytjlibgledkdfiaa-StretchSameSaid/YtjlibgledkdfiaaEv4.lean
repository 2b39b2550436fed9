/- The chapter's examples reckoned (layer 4). -/
import Derived.Test.YtjlibgledkdfiaaLe4
namespace Go.Proofs.Ytjlibgledkdfiaa
open Go.RowKit
open Go.Sort (grow)
set_option linter.unusedVariables false

def exP : P4 := ⟨12, 9900, 10200, 0, [⟨1000, 1, 12⟩, ⟨500, 0, 20⟩], [⟨1, 0, 10, 0, 2, 0, 0⟩, ⟨2, 0, 10, 30, 2, 0, 0⟩]⟩
def exQ : P4 := ⟨12, 9900, 10200, 0, [⟨1000, 1, 12⟩, ⟨500, 0, 20⟩], [⟨1, 0, 10, 0, 2, 0, 0⟩, ⟨2, 0, 10, 30, 2, 0, 0⟩, ⟨1, 1, 20, 0, 1, 20, 20⟩]⟩
set_option maxRecDepth 100000
theorem exP_len : (tr4 exP).length ≤ 90000 := by decide +kernel
theorem exP_op : op4 exP true = 0 := by decide +kernel
theorem exP_many : mn4 (ol4 exP true) (ol4 exP true).length = 50 := by decide +kernel
theorem exP_bev : bev4 exP = 4 := by decide +kernel
theorem exP_bee : bee4 exP = 0 := by decide +kernel
theorem exQ_len : (tr4 exQ).length ≤ 90000 := by decide +kernel
theorem exQ_op : op4 exQ true = 0 := by decide +kernel
theorem exQ_st : (st4 exQ).lo = 26 ∧ (st4 exQ).hi = 31 := by decide +kernel
theorem exQ_lg : lgs4 exQ 1 = [10001, 10002] := by decide +kernel
theorem exQ_w1 : op4 exQ (when4 1) = 0 := exQ_op

end Go.Proofs.Ytjlibgledkdfiaa
