/- In and SameInts of the specification of layer 1. -/
import Derived.Test.YtglpgcgidkdkiaaChecked
import Derived.Test.YtglpgcgidkdkiaaQd01
namespace Go.Proofs.Ytglpgcgidkdkiaa
open Go.RowKit
open Go.Sort (grow)
set_option linter.unusedVariables false
set_option linter.unusedSimpArgs false

set_option maxHeartbeats 400000 in
theorem In_c (A : Option Addr) (n c : Nat) (x : Int) (xs : List Int) (w : World) (hn : n ≤ 40) (HX : IntsAt w A n xs) :
    Calls Try.prog 23 #[.slice A n c, .int .i64 x] w fun e w' => e = .returned (.bool (anyN n fun k => iAt xs k == x)) ∧ w = w' := by
  go_enter Try.func23, Try.ntmps23
  go_wp2
  go_loopw [5] (fun i (wr : World) => ∃ k : Nat, k ≤ n ∧ i = .int .i64 k ∧ Hid (∀ j, j < k → (iAt xs j == x) = false) ∧ wr = w) (fun i _ => n - (intOf i).toNat)
  case atStart => exact ⟨0, by omega, rfl, fun j hj => absurd hj (by omega), rfl⟩
  case round =>
    obtain ⟨k, hk, rfl, H, rfl⟩ := hrel
    by_cases hlt : k < n
    · obtain ⟨b, o, rfl, hb, x0⟩ := HX.get hlt
      have hB : decide ((k : Int) < n) = true := by simp; omega
      cases e1 : (iAt xs k == x)
      · go_wp2
        go_roundw
        case rel => exact ⟨k + 1, by omega, by go_num, fun j hj => by
          rcases Nat.lt_succ_iff_lt_or_eq.1 hj with h | rfl
          · exact H.out j h
          · exact e1, trivial⟩
        case measure => simp [intOf]; omega
      · have hA := anyN_yes (p := fun k => iAt xs k == x) hlt e1
        go_wp2
        go_ret
        exact ⟨ret_bool hA.symm, rfl⟩
    · obtain rfl : n = k := by omega
      have hA := anyN_no (p := fun k => iAt xs k == x) H.out
      have hB : decide (((n : Nat) : Int) < n) = false := by simp
      clear H
      go_wp2
      go_ret
      exact ⟨ret_bool hA.symm, rfl⟩

end Go.Proofs.Ytglpgcgidkdkiaa
