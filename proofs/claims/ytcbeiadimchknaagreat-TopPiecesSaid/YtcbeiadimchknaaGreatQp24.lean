/- Bits of unsigned numbers as the walk writes them. -/
import Derived.Laws.BitsAllLaws
import Derived.Laws.BitsLemmas
import Derived.Test.YtcbeiadimchknaaGreatQp01
namespace Go.Proofs.YtcbeiadimchknaaGreat
open Go.RowKit
open Go.Sort (grow)
set_option linter.unusedVariables false
set_option linter.unusedSimpArgs false

theorem bit_u64 (s n : Nat) (hs : s < 65536) : (bits .and .u64 ((s : Int) / 2 ^ n) 1 == 1) = s.testBit n := by
  have e : ((s : Int) / 2 ^ n) = ((s / 2 ^ n : Nat) : Int) := by simp
  have h1 : s / 2 ^ n ≤ s := Nat.div_le_self _ _
  rw [e, show (1 : Int) = ((1 : Nat) : Int) from rfl, u64_and_nat _ _ (by omega) (by omega)]
  rw [Nat.testBit, Nat.shiftRight_eq_div_pow, Nat.and_comm 1, Nat.and_one_is_mod]
  have : s / 2 ^ n % 2 = 0 ∨ s / 2 ^ n % 2 = 1 := by omega
  rcases this with h | h <;> rw [h] <;> rfl

end Go.Proofs.YtcbeiadimchknaaGreat
