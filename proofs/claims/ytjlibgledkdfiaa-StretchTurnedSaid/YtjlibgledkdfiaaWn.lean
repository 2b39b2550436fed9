/- A number within bounds. -/
import Derived.Test.YtjlibgledkdfiaaOwn
namespace Go.Proofs.Ytjlibgledkdfiaa
open Go.RowKit
open Go.Sort (grow)
set_option linter.unusedVariables false

def wn (n a b : Int) : Bool := decide (a ≤ n) && decide (n ≤ b)
theorem wn_true {x a b : Int} : wn x a b = true ↔ a ≤ x ∧ x ≤ b := by simp [wn]
theorem own_at {w : World} {base : Nat} {e : TypeId} {g n c k : Nat} {xs : List Int} (h : w.ownsRow base e 1 (.slice (some ⟨g, 0, none⟩) n c) n (xs.flatMap encI)) (hl : xs.length = n) (hk : k < n) :
    w.cell? ⟨g, k, none⟩ = some (.int .i64 (iAt xs k)) := by
  have h1 := (h.cellAt (k * 1 + 0) (by omega)).trans (flat_get (d := (0 : Int)) encI_len xs k 0 (by omega) (by omega))
  simpa [encI, iAt] using h1

end Go.Proofs.Ytjlibgledkdfiaa
