/- errorOf of the statements: the error of a load in thousandths, rounded down; The floor of checks.Own (layer 5). -/
import Derived.Test.YtcinhibmohkeiaaQy09
import Derived.Shelf.Abstract
import Derived.Laws.EntriesVeiled
import Derived.Handy
import Derived.Deep.DrawnRows
import Derived.Deep.DeepCutAuto
namespace Go.Proofs.Ytcinhibmohkeiaa
open Go.RowKit
open Go.Sort (grow)
set_option linter.unusedVariables false
set_option linter.unusedSimpArgs false

theorem floor_neg {n b : Int} (hb : 1 ≤ b) : -((-n + b - 1) / b) = n / b := by
  have h1 := Int.mul_ediv_add_emod n b
  have h2 := Int.emod_nonneg n (show b ≠ 0 by omega)
  have h3 := Int.emod_lt_of_pos n (show 0 < b by omega)
  have : (-n + b - 1) / b = -(n / b) := by
    refine Int.le_antisymm ?_ ?_
    · refine Int.le_of_lt_add_one (Int.ediv_lt_of_lt_mul (by omega) ?_)
      rw [Int.add_mul, Int.neg_mul, Int.mul_comm (n / b) b]
      omega
    · refine Int.le_ediv_of_mul_le (by omega) ?_
      rw [Int.neg_mul, Int.mul_comm (n / b) b]
      omega
  omega
set_option maxHeartbeats 800000 in
theorem errorOf_c (num den nom : Int) (w : World) (h1 : 0 ≤ num ∧ num ≤ 100000000000000) (h2 : 1 ≤ den ∧ den ≤ 1000000000) (h3 : 1 ≤ nom ∧ nom ≤ 100000) :
    Calls Try.prog 11 #[.int .i64 num, .int .i64 den, .int .i64 nom] w fun e w' => e = .returned (.int .i64 ((num - nom * den) * 1000 / (nom * den))) ∧ w = w' := by
  have t1 : nom * den ≤ 100000 * 1000000000 := Int.mul_le_mul h3.2 h2.2 (by omega) (by omega)
  have t0 : 1 * 1 ≤ nom * den := Int.mul_le_mul h3.1 h2.1 (by omega) (by omega)
  obtain ⟨p, hp⟩ : ∃ p, nom * den = p := ⟨_, rfl⟩
  rw [hp] at t0 t1 ⊢
  have v0 : IntKind.i64.wrap (nom * den) = p := by rw [hp]; exact IntWalk.i64_in _ (by omega)
  have v1 : IntKind.i64.wrap (num - p) = num - p := IntWalk.i64_in _ (by omega)
  obtain ⟨n, hn⟩ : ∃ n, (num - p) * 1000 = n := ⟨_, rfl⟩
  rw [hn]
  have v2 : IntKind.i64.wrap ((num - p) * 1000) = n := by rw [hn]; exact IntWalk.i64_in _ (by omega)
  have hn0 : ¬ p = 0 := by omega
  have hb : -200000000000000000 ≤ n ∧ n ≤ 200000000000000000 := by omega
  have HN := Lib.hid hn
  clear hp hn
  obtain ⟨r, hr⟩ : ∃ r, n / p = r := ⟨_, rfl⟩
  rw [hr]
  by_cases h : n < 0
  · have hB : decide (n < 0) = true := decide_eq_true h
    have v3 : IntKind.i64.wrap (-n) = -n := IntWalk.i64_in _ (by omega)
    have v4 : IntKind.i64.wrap (-n + p) = -n + p := IntWalk.i64_in _ (by omega)
    have v5 : IntKind.i64.wrap (-n + p - 1) = -n + p - 1 := IntWalk.i64_in _ (by omega)
    have hf := floor_neg (n := n) (b := p) (by omega)
    have g0 : 0 ≤ (-n + p - 1) / p := Int.ediv_nonneg (by omega) (by omega)
    have g1 : (-n + p - 1) / p ≤ -n + p - 1 := Int.ediv_le_self _ (by omega)
    obtain ⟨z, hz⟩ : ∃ z, (-n + p - 1) / p = z := ⟨_, rfl⟩
    rw [hz] at hf g0 g1
    have v6 : IntKind.i64.wrap ((-n + p - 1).tdiv p) = z := by rw [Int.tdiv_eq_ediv_of_nonneg (by omega), hz]; exact IntWalk.i64_in _ (by omega)
    have v7 : IntKind.i64.wrap (-z) = -z := IntWalk.i64_in _ (by omega)
    have HF : Hid (r = -z) := Lib.hid (by omega)
    clear hz hf hr
    go_enter Try.func11, Try.ntmps11
    go_wp2_with fail
    go_ret
    exact ⟨by rw [HF.out]; rfl, rfl⟩
  · have hB : decide (n < 0) = false := decide_eq_false h
    have g0 : 0 ≤ n / p := Int.ediv_nonneg (by omega) (by omega)
    have g1 : n / p ≤ n := Int.ediv_le_self _ (by omega)
    rw [hr] at g0 g1
    have v6 : IntKind.i64.wrap (n.tdiv p) = r := by rw [Int.tdiv_eq_ediv_of_nonneg (by omega), hr]; exact IntWalk.i64_in _ (by omega)
    clear hr
    go_enter Try.func11, Try.ntmps11
    go_wp2_with fail
    go_ret
    exact ⟨rfl, rfl⟩

end Go.Proofs.Ytcinhibmohkeiaa

namespace Go.Proofs.Ytcinhibmohkeiaa
open Go.RowKit
open Go.Sort (grow)
set_option linter.unusedVariables false
set_option linter.unusedSimpArgs false

theorem floor_t {n k : Int} (hk : 1 ≤ k) : n / k = if n.tmod k < 0 then n.tdiv k - 1 else n.tdiv k := by
  by_cases h : 0 ≤ n
  · rw [Int.tmod_eq_emod_of_nonneg h, Int.tdiv_eq_ediv_of_nonneg h]
    have := Int.emod_nonneg n (show k ≠ 0 by omega)
    rw [if_neg (by omega)]
  · obtain ⟨m, rfl⟩ : ∃ m, n = -m := ⟨-n, by omega⟩
    rw [Int.neg_tmod, Int.neg_tdiv, Int.tmod_eq_emod_of_nonneg (by omega), Int.tdiv_eq_ediv_of_nonneg (by omega)]
    have h1 := Int.mul_ediv_add_emod m k
    have h2 := Int.emod_nonneg m (show k ≠ 0 by omega)
    have h3 := Int.emod_lt_of_pos m (show 0 < k by omega)
    have h4 := Int.mul_ediv_add_emod (-m) k
    have h5 := Int.emod_nonneg (-m) (show k ≠ 0 by omega)
    have h6 := Int.emod_lt_of_pos (-m) (show 0 < k by omega)
    obtain ⟨a, ha⟩ : ∃ a, m / k = a := ⟨_, rfl⟩
    obtain ⟨b, hb⟩ : ∃ b, -m / k = b := ⟨_, rfl⟩
    rw [ha] at h1 ⊢
    rw [hb] at h4 ⊢
    have hs : k * (a + b) = -(m % k) - (-m % k) := by rw [Int.mul_add]; omega
    by_cases hz : -(m % k) < 0
    · rw [if_pos hz]
      have u1 : a + b < 0 := by
        refine Int.not_le.1 fun hh => ?_
        have := Int.mul_nonneg (show 0 ≤ k by omega) hh
        omega
      have u2 : -2 < a + b := by
        refine Int.not_le.1 fun hh => ?_
        have := Int.mul_le_mul_of_nonneg_left hh (show 0 ≤ k by omega)
        omega
      omega
    · rw [if_neg hz]
      have u1 : a + b ≤ 0 := by
        refine Int.not_lt.1 fun hh => ?_
        have := Int.mul_le_mul_of_nonneg_left (show 1 ≤ a + b by omega) (show 0 ≤ k by omega)
        omega
      have u2 : -1 < a + b := by
        refine Int.not_le.1 fun hh => ?_
        have := Int.mul_le_mul_of_nonneg_left hh (show 0 ≤ k by omega)
        omega
      omega
set_option maxHeartbeats 800000 in
theorem floor_c (n k : Int) (g : Nat) (w : World) (hn : -1000000000000000000 ≤ n ∧ n ≤ 1000000000000000000) (hk : 1 ≤ k ∧ k ≤ 1000000000) (hg : w.cell? ⟨g, 0, none⟩ = some (.int .i64 k)) :
    Calls Try.prog 25 #[.int .i64 n, .pointer (some ⟨g, 0, none⟩)] w fun e w' => e = .returned (.int .i64 (n / k)) ∧ w = w' := by
  have hf := floor_t (n := n) hk.1
  have hb : -1000000000000000000 ≤ n.tdiv k ∧ n.tdiv k ≤ 1000000000000000000 := by
    by_cases h : 0 ≤ n
    · rw [Int.tdiv_eq_ediv_of_nonneg h]
      have := Int.ediv_nonneg h (show 0 ≤ k by omega)
      have := Int.ediv_le_self k h
      omega
    · obtain ⟨m, rfl⟩ : ∃ m, n = -m := ⟨-n, by omega⟩
      rw [Int.neg_tdiv, Int.tdiv_eq_ediv_of_nonneg (by omega)]
      have := Int.ediv_nonneg (show 0 ≤ m by omega) (show 0 ≤ k by omega)
      have := Int.ediv_le_self k (show 0 ≤ m by omega)
      omega
  obtain ⟨q, hq⟩ : ∃ q, n.tdiv k = q := ⟨_, rfl⟩
  obtain ⟨r, hr⟩ : ∃ r, n.tmod k = r := ⟨_, rfl⟩
  obtain ⟨z, hz⟩ : ∃ z, n / k = z := ⟨_, rfl⟩
  rw [hq, hr, hz] at hf
  rw [hq] at hb
  rw [hz]
  clear hz
  have v0 : IntKind.i64.wrap (n.tdiv k) = q := by rw [hq]; exact IntWalk.i64_in _ (by omega)
  have v1 : IntKind.i64.wrap (q - 1) = q - 1 := IntWalk.i64_in _ (by omega)
  have hk0 : ¬ k = 0 := by omega
  by_cases h : r < 0
  · have hB : decide (r < 0) = true := decide_eq_true h
    rw [if_pos h] at hf
    have HF := Lib.hid hf
    clear hf hq
    go_enter Try.func25, Try.ntmps25
    go_wp2_with fail
    go_ret
    exact ⟨by rw [HF.out]; rfl, rfl⟩
  · have hB : decide (r < 0) = false := decide_eq_false h
    rw [if_neg h] at hf
    have HF := Lib.hid hf
    clear hf hq
    go_enter Try.func25, Try.ntmps25
    go_wp2_with fail
    go_ret
    exact ⟨by rw [HF.out]; rfl, rfl⟩

end Go.Proofs.Ytcinhibmohkeiaa
