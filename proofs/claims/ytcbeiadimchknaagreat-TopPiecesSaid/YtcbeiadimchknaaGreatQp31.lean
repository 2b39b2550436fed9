/- slices.Backward at []int: its iterator (layer 7). -/
import Derived.Test.YtcbeiadimchknaaGreatQp30
import Derived.Test.YtcbeiadimchknaaGreatQp10
namespace Go.Proofs.YtcbeiadimchknaaGreat
open Go.RowKit
open Go.Sort (grow)
set_option linter.unusedVariables false
set_option linter.unusedSimpArgs false

/-- what the iterator reads -/
structure BwMem (b1 : Nat) (A : Option Addr) (n c : Nat) (zs : List Int) (W : World) : Prop where
  q : W.cell? ⟨b1, 0, none⟩ = some (.slice A n c)
  H : IntsAt W A n zs
def BwAt (zs : List Int) (i : Nat) (args : Array Value) (W : World) : Prop := args = #[.int .i64 (i : Int), .int .i64 (iAt zs i)]
theorem back_get {n j : Nat} (h : j < n) : (List.range n).reverse[n - (j + 1)]? = some j := by
  rw [List.getElem?_reverse (by simp; omega), List.length_range, List.getElem?_range (by omega)]
  congr 1; omega

end Go.Proofs.YtcbeiadimchknaaGreat
