/- The chapter's example reckoned (layer 1). -/
import Derived.Test.YtmopnbijfcamjaaHt1
import Derived.Test.YtmopnbijfcamjaaAl2
import Derived.Test.YtmopnbijfcamjaaRst1
import Derived.Test.YtmopnbijfcamjaaCm1
namespace Go.Proofs.Ytmopnbijfcamjaa
open Go.RowKit
open Go.Sort (grow)
set_option linter.unusedVariables false

def exB : List Br := [⟨3, 100⟩, ⟨5, 60⟩, ⟨3, 45⟩]
def exP : List Pc := [⟨50, [3, 5]⟩, ⟨45, [3]⟩, ⟨40, [3, 8]⟩]
theorem ev_ask (is : Bool) (h : is = true) : askE exB exP 5 0 is = 0 := by subst h; kernel_rfl
theorem ev_many : manyR exB exP 5 0 = 5 := by kernel_rfl
theorem ev_of : ofP exB exP 5 0 1 = [0, 2] := by kernel_rfl
theorem ev_rest : restP exB exP 5 0 0 = (⟨0, 60⟩, 0) := by kernel_rfl
theorem ev_room : roomP exB exP 5 0 50 = (3, 0) := by kernel_rfl
theorem ev_plan : planP exB exP 5 0 = [0, 0, 2] := by kernel_rfl
theorem ev_least : leastP exB exP 5 0 = 2 := by
  have h : ∀ v ∈ planP exB exP 5 0, ∃ k : Nat, k < 3 ∧ v = (k : Int) := by
    rw [ev_plan]
    intro v hv
    simp at hv
    rcases hv with rfl | rfl
    · exact ⟨0, by omega, rfl⟩
    · exact ⟨2, by omega, rfl⟩
  unfold leastP
  show ((srtC (planP exB exP 5 0)).length : Int) = 2
  rw [srtC_upto h, uptoL_len, ev_plan]
  decide

end Go.Proofs.Ytmopnbijfcamjaa
