/- The small functions of the specification of layer 11: has, many, In, SameInts. -/
import Derived.Test.YtoehifincdflhaaOc
import Derived.Test.YtoehifincdflhaaRf11
namespace Go.Proofs.Ytoehifincdflhaa
open Go.RowKit
open Go.Sort (grow)
set_option linter.unusedVariables false

theorem i64_and1 (n : Int) : bits .and .i64 n 1 = n % 2 := by
  have h127 : (BitVec.ofInt 64 1).toNat = 2 ^ 1 - 1 := by decide
  have key : (BitVec.ofInt 64 n &&& BitVec.ofInt 64 1).toNat = (n % ((2 ^ 64 : Nat) : Int)).toNat % 2 ^ 1 := by
    rw [BitVec.toNat_and, BitVec.toNat_ofInt, h127, Nat.and_two_pow_sub_one_eq_mod]
  show IntKind.i64.wrap ((BitVec.ofInt 64 n &&& BitVec.ofInt 64 1).toNat : Nat) = n % 2
  rw [key, IntKind.wrap_i64]
  omega
set_option maxHeartbeats 400000 in
theorem refHas_c (s : Nat) (i : Int) (w : World) (hs : s < 65536) (hi : i < 64) :
    Calls Try.prog 86 #[.int .i64 s, .int .i64 i] w fun e w' => e = .returned (.bool (decide (0 ≤ i) && s.testBit i.toNat)) ∧ w = w' := by
  by_cases h : 0 ≤ i
  · obtain ⟨n, rfl⟩ := Int.eq_ofNat_of_zero_le h
    have hn : n < 64 := by omega
    go_enter Try.func86, Try.ntmps86
    go_wp2
    go_ret
    refine ⟨ret_bool ?_, rfl⟩
    rw [i64_and1, show ((s : Int) / 2 ^ n) = ((s / 2 ^ n : Nat) : Int) by simp]
    have e : s.testBit n = (s / 2 ^ n % 2 == 1) := by
      rw [Nat.testBit, Nat.shiftRight_eq_div_pow, Nat.and_comm 1, Nat.and_one_is_mod]
      have : s / 2 ^ n % 2 = 0 ∨ s / 2 ^ n % 2 = 1 := by omega
      rcases this with h | h <;> rw [h] <;> rfl
    have h0 : (Int.ofNat n).toNat = n := rfl
    simp only [Int.toNat_natCast, e, Int.natCast_nonneg, decide_true, Bool.true_and]
    rcases (by omega : s / 2 ^ n % 2 = 0 ∨ s / 2 ^ n % 2 = 1) with h | h
    · rw [h, show ((s / 2 ^ n : Nat) : Int) % 2 = ((s / 2 ^ n % 2 : Nat) : Int) from rfl, h]; rfl
    · rw [h, show ((s / 2 ^ n : Nat) : Int) % 2 = ((s / 2 ^ n % 2 : Nat) : Int) from rfl, h]; rfl
  · go_enter Try.func86, Try.ntmps86
    go_wp2
    go_ret
    exact ⟨ret_bool (by rw [decide_eq_false (by omega)]; rfl), rfl⟩

/-- a number's bits, from below -/
def manyN : Nat → Nat → Nat
  | 0, _ => 0
  | n + 1, s => s % 2 + manyN n (s / 2)
theorem many_all : (List.range 256).all (fun s => manyN 8 s == cnt 8 s) = true := by decide +kernel

set_option maxHeartbeats 400000 in
theorem many_c (s : Nat) (w : World) (hs : s < 256) :
    Calls Try.prog 68 #[.int .i64 s] w fun e w' => e = .returned (.int .i64 (cnt 8 s)) ∧ w = w' := by
  have hS : manyN 8 s = cnt 8 s := by
    have := List.all_eq_true.1 many_all s (by simpa using hs)
    simpa using this
  have HS := Lib.hid hS
  clear hS
  go_enter Try.func68, Try.ntmps68
  have hc8 : cnt 8 s ≤ 8 := by
    have := List.length_filter_le s.testBit (List.range 8)
    simpa [cnt] using this
  go_wp2
  go_loopw [0, 3] (fun x n (wr : World) => ∃ j a b : Nat, x = .int .i64 a ∧ n = .int .i64 b ∧ a < 256 ∧ a < 2 ^ j ∧ b + manyN j a = cnt 8 s ∧ wr = w) (fun x _ _ => (intOf x).toNat)
  case atStart => exact ⟨8, s, 0, rfl, rfl, hs, by omega, by rw [HS.out]; omega, rfl⟩
  case round =>
    obtain ⟨j, a, b, rfl, rfl, ha, hj, hb, rfl⟩ := hrel
    by_cases h0 : 0 < a
    · have hB : decide ((0 : Int) < a) = true := by simp; omega
      obtain ⟨j, rfl⟩ : ∃ j', j = j' + 1 := ⟨j - 1, by
        rcases Nat.eq_zero_or_pos j with h | h
        · subst h; simp at hj; omega
        · omega⟩
      have hm : b + a % 2 + manyN j (a / 2) = cnt 8 s := by rw [← hb]; simp only [manyN]; omega
      have hj2 : a / 2 < 2 ^ j := by rw [Nat.pow_succ] at hj; omega
      go_wp2
      refine ⟨⟨j, a / 2, b + a % 2, by simp, by simp, by omega, hj2, hm, trivial⟩, by simp [intOf]; omega⟩
    · obtain rfl : a = 0 := by omega
      have hm : ∀ m, manyN m 0 = 0 := by
        intro m
        induction m with
        | zero => rfl
        | succ m ih => simp [manyN, ih]
      rw [hm] at hb
      have hb' : b = cnt 8 s := by omega
      go_wp2
      go_ret
      exact ⟨by rw [← hb']; rfl, rfl⟩

end Go.Proofs.Ytoehifincdflhaa
