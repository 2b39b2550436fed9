/- The laws of the prices (layer 7), in plain words: what RepairsPrices asks. -/
import Derived.Test.YthjjakhmbgnnnaaTr7
namespace Go.Proofs.Ythjjakhmbgnnnaa
open Go.RowKit
open Go.Sort (grow)
set_option linter.unusedVariables false

section
variable {q : Cb} {ls : List Sp} {n : Nat} {link shackle : Int}
theorem er_zero (h : ckC n ls q = true) : erS n ls q = 0 ↔ fewO q ls n ≠ none := by
  unfold erS fewO
  rw [h]
  cases shL q ls n with
  | nil => simp
  | cons y r => simp
theorem er_cases (h : ckC n ls q = true) : (erS n ls q = 0 ∧ fewO q ls n ≠ none) ∨ (erS n ls q = 3 ∧ fewO q ls n = none) := by
  unfold erS fewO
  rw [h]
  cases shL q ls n with
  | nil => right; simp
  | cons y r => left; simp
theorem pl_few (h : ckC n ls q = true) (hne : fewO q ls n ≠ none) : fewO q ls n = some (plC n ls q).length := by
  unfold fewO plC at *
  rw [h]
  cases e : shL q ls n with
  | nil => rw [e] at hne; exact absurd rfl hne
  | cons y r => rfl
/-- Cheapest of a valid cable at valid prices: its error is that of Fewest -/
theorem ch_err (h : ckC n ls q = true) (h1 : 0 ≤ link ∧ link ≤ 999) (h2 : 0 ≤ shackle ∧ shackle ≤ 999) : chR n ls q link shackle = bif erS n ls q == 0 then (chV q ls n link shackle, 0) else (0, 3) := by
  rw [chR_ok h (by rw [Bool.and_eq_true, wi_true, wi_true]; exact ⟨h1, h2⟩)]
  rcases er_cases h with ⟨e, hne⟩ | ⟨e, hne⟩
  · obtain ⟨⟨x, a1, a2, a3⟩, -⟩ := ch_some h1.1 h2.1 hne
    have := prc_nonneg h1.1 h2.1 n x
    rw [e, show decide (chV q ls n link shackle < 0) = false by simp; omega]; rfl
  · rw [e, ch_none hne]; rfl
theorem ch_one (hck : ckC n ls q = true) (hne : fewO q ls n ≠ none) : chV q ls n 1 0 = ((plC n ls q).length : Int) := by
  obtain ⟨⟨x, a1, a2, a3⟩, a4⟩ := ch_some (link := 1) (shackle := 0) (by omega) (by omega) hne
  obtain ⟨⟨y, b1, b2, b3⟩, b4⟩ := few_some (pl_few hck hne)
  have c1 := a4 y b1 b2
  have c2 := b4 x a1 a2
  unfold prc at a3 c1
  omega
theorem ch_more {link' shackle' : Int} (h1 : 0 ≤ link) (h2 : 0 ≤ shackle) (h3 : link ≤ link') (h4 : shackle ≤ shackle') (hne : fewO q ls n ≠ none) : chV q ls n link shackle ≤ chV q ls n link' shackle' := by
  obtain ⟨⟨x, a1, a2, a3⟩, -⟩ := ch_some (Int.le_trans h1 h3) (Int.le_trans h2 h4) hne
  obtain ⟨-, b4⟩ := ch_some h1 h2 hne
  have c := b4 x a1 a2
  have d : prc link shackle n x ≤ prc link' shackle' n x := by
    unfold prc
    have e := Int.mul_le_mul_of_nonneg_right h3 (show 0 ≤ (cntN x n : Int) by omega)
    have f := Int.mul_le_mul_of_nonneg_right h4 (shk_nonneg x n)
    omega
  omega
theorem ch_scale {k : Int} (hk : 0 < k) (h1 : 0 ≤ link) (h2 : 0 ≤ shackle) (hne : fewO q ls n ≠ none) : chV q ls n (k * link) (k * shackle) = k * chV q ls n link shackle := by
  have hp : ∀ x, prc (k * link) (k * shackle) n x = k * prc link shackle n x := fun x => by
    unfold prc
    rw [Int.mul_add, Int.mul_assoc, Int.mul_assoc]
  obtain ⟨⟨x, a1, a2, a3⟩, a4⟩ := ch_some h1 h2 hne
  obtain ⟨⟨y, b1, b2, b3⟩, b4⟩ := ch_some (Int.mul_nonneg (Int.le_of_lt hk) h1) (Int.mul_nonneg (Int.le_of_lt hk) h2) hne
  have c1 := b4 x a1 a2
  have c2 := Int.mul_le_mul_of_nonneg_left (a4 y b1 b2) (Int.le_of_lt hk)
  rw [hp] at b3 c1
  rw [← a3] at c1
  omega
theorem ch_bd (h1 : 0 ≤ link ∧ link ≤ 999) (h2 : 0 ≤ shackle ∧ shackle ≤ 999) (hn : n ≤ 12) (hne : fewO q ls n ≠ none) : 0 ≤ chV q ls n link shackle ∧ chV q ls n link shackle ≤ 100000 := by
  obtain ⟨⟨x, a1, a2, a3⟩, -⟩ := ch_some h1.1 h2.1 hne
  have := prc_bd h1.1 h1.2 h2.1 h2.2 hn x
  rw [a3]
  unfold prc
  omega
end

end Go.Proofs.Ythjjakhmbgnnnaa
