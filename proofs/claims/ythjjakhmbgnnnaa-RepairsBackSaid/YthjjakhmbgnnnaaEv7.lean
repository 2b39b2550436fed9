/- The chapter's example reckoned (layer 7). -/
import Derived.Test.YthjjakhmbgnnnaaTr7
namespace Go.Proofs.Ythjjakhmbgnnnaa
open Go.RowKit
open Go.Sort (grow)
set_option linter.unusedVariables false

def exL7 : List Sp := [⟨50, 60⟩, ⟨30, 35⟩, ⟨50, 50⟩, ⟨38, 45⟩, ⟨55, 60⟩, ⟨60, 60⟩, ⟨52, 58⟩]
def exQ7 : Cb := ⟨40, 1, 0, 2, 1⟩
theorem ev_ck : ckC 7 exL7 exQ7 = true := by decide
theorem ev_er : erS 7 exL7 exQ7 = 0 := by kernel_rfl
theorem ev_pl : (plC 7 exL7 exQ7).length = 2 := by kernel_rfl
theorem ev_mu : muL 7 exL7 exQ7 = [1, 3] := by kernel_rfl
theorem ev_ch : chR 7 exL7 exQ7 1 5 = (4, 0) := by kernel_rfl
theorem ev_ge : gvE 7 2 exL7 exQ7 [1, 3] = 0 := by kernel_rfl
theorem ev_gs : gvS 7 2 exL7 exQ7 [1, 3] = 2 := by kernel_rfl
theorem ev_st : strO exQ7 exL7 7 2 = some 50 := by
  have h1 : okB exQ7 exL7 7 2 50 = true := by kernel_rfl
  have h2 : ((cand exL7).all fun c => decide (c ≤ 50) || !okB exQ7 exL7 7 2 c) = true := by kernel_rfl
  have h3 : (50 : Int) ∈ cand exL7 := by decide
  rw [List.all_eq_true] at h2
  cases h : strO exQ7 exL7 7 2 with
  | none => have := srt_none.1 h 50 h3; rw [h1] at this; cases this
  | some b =>
    obtain ⟨a1, a2, a3⟩ := srt_spec h
    have b1 := a3 50 h3 h1
    have b2 := h2 b a1
    rw [a2] at b2
    simp at b2
    congr 1; omega
theorem ev_sr : stR 7 exL7 exQ7 2 = (50, 0) := by unfold stR; rw [ev_ck, ev_st]; rfl

end Go.Proofs.Ythjjakhmbgnnnaa
