/- A sorted and compacted list of ints, in plain words; lists strictly ascending. -/
import Derived.Test.YtmopnbijfcamjaaSo1
namespace Go.Proofs.Ytmopnbijfcamjaa
open Go.RowKit
open Go.Sort (grow)
set_option linter.unusedVariables false

theorem asc_ext : ∀ (a b : List Int), a.Pairwise (· < ·) → b.Pairwise (· < ·) → (∀ x, x ∈ a ↔ x ∈ b) → a = b
  | [], [], _, _, _ => rfl
  | [], y :: b, _, _, h => by have := (h y).2 (by simp); simp at this
  | x :: a, [], _, _, h => by have := (h x).1 (by simp); simp at this
  | x :: a, y :: b, ha, hb, h => by
    obtain ⟨ha1, ha2⟩ := List.pairwise_cons.1 ha
    obtain ⟨hb1, hb2⟩ := List.pairwise_cons.1 hb
    have hxy : x = y := by
      rcases List.mem_cons.1 ((h x).1 (by simp)) with e | e
      · exact e
      · rcases List.mem_cons.1 ((h y).2 (by simp)) with e' | e'
        · exact e'.symm
        · have := hb1 x e
          have := ha1 y e'
          omega
    subst hxy
    rw [asc_ext a b ha2 hb2 fun z => ?_]
    constructor
    · intro hz
      rcases List.mem_cons.1 ((h z).1 (by simp [hz])) with e | e
      · have := ha1 z hz; omega
      · exact e
    · intro hz
      rcases List.mem_cons.1 ((h z).2 (by simp [hz])) with e | e
      · have := hb1 z hz; omega
      · exact e
theorem cp_asc {zs : List Int} (h : zs.Pairwise (· ≤ ·)) : (Lib.compact zs).Pairwise (· < ·) ∧ ∀ v, v ∈ Lib.compact zs ↔ v ∈ zs := by
  have hle : ∀ i j, i ≤ j → j < zs.length → zs.toArray[i]! ≤ zs.toArray[j]! := fun i j hij hj => by
    rw [getElem!_pos _ i (by simp; omega), getElem!_pos _ j (by simpa using hj)]
    rcases Nat.lt_or_eq_of_le hij with h1 | rfl
    · have := List.pairwise_iff_getElem.1 h i j (by omega) hj h1
      simpa using this
    · exact Int.le_refl _
  unfold Lib.compact Lib.compactUpTo
  refine ⟨?_, fun v => ?_⟩
  · rw [List.pairwise_map]
    have h1 : ((List.range zs.length).filter (Lib.keeps zs.toArray)).Pairwise (· < ·) := List.Pairwise.filter _ List.pairwise_lt_range
    refine h1.imp_of_mem fun {i j} hi hj hij => ?_
    obtain ⟨hi1, -⟩ := List.mem_filter.1 hi
    obtain ⟨hj1, hj2⟩ := List.mem_filter.1 hj
    rw [List.mem_range] at hi1 hj1
    simp only [Lib.keeps, decide_eq_true_eq] at hj2
    have k1 := hle i (j - 1) (by omega) (by omega)
    have k2 := hle (j - 1) j (by omega) hj1
    rcases hj2 with e | e
    · omega
    · omega
  · rw [List.mem_map]
    constructor
    · rintro ⟨i, hi, rfl⟩
      have hi1 := List.mem_range.1 (List.mem_filter.1 hi).1
      rw [getElem!_pos _ i (by simpa using hi1)]
      simp
    · intro hv
      have key : ∀ n i, i ≤ n → i < zs.length → zs.toArray[i]! = v → ∃ a, a ∈ (List.range zs.length).filter (Lib.keeps zs.toArray) ∧ zs.toArray[a]! = v := by
        intro n
        induction n with
        | zero =>
          intro i hi hl he
          exact ⟨i, List.mem_filter.2 ⟨List.mem_range.2 hl, by simp [Lib.keeps]; omega⟩, he⟩
        | succ n ih =>
          intro i hi hl he
          by_cases hk : Lib.keeps zs.toArray i = true
          · exact ⟨i, List.mem_filter.2 ⟨List.mem_range.2 hl, hk⟩, he⟩
          · simp only [Lib.keeps, decide_eq_true_eq] at hk
            have h0 : i ≠ 0 := fun e => hk (.inl e)
            have h1 : zs.toArray[i]! = zs.toArray[i - 1]! := Classical.byContradiction fun e => hk (.inr e)
            exact ih (i - 1) (by omega) (by omega) (by rw [← h1]; exact he)
      obtain ⟨i, hi, rfl⟩ := List.getElem_of_mem hv
      exact key i i (Nat.le_refl _) hi (by rw [getElem!_pos _ i (by simpa using hi)]; simp)
theorem srt_asc (L : List Int) : (L.mergeSort leI).Pairwise (· ≤ ·) := by
  refine (List.pairwise_mergeSort (le := leI) ?_ ?_ L).imp fun {a b} h => by simpa [leI] using h
  · intro a b c; simp only [leI, decide_eq_true_eq]; omega
  · intro a b; simp only [leI, Bool.or_eq_true, decide_eq_true_eq]; omega
/-- what is left of a list, sorted and compacted -/
def srtC (L : List Int) : List Int := Lib.compact (L.mergeSort leI)
theorem srtC_asc (L : List Int) : (srtC L).Pairwise (· < ·) := (cp_asc (srt_asc L)).1
theorem srtC_mem {L : List Int} {v : Int} : v ∈ srtC L ↔ v ∈ L := by
  unfold srtC
  rw [(cp_asc (srt_asc L)).2 v, List.mem_mergeSort]
/-- the numbers below n of which q holds, in order -/
def uptoL (n : Nat) (q : Nat → Bool) : List Int := ((List.range n).filter q).map fun (k : Nat) => (k : Int)
theorem uptoL_asc (n : Nat) (q : Nat → Bool) : (uptoL n q).Pairwise (· < ·) := by
  unfold uptoL
  rw [List.pairwise_map]
  exact (List.Pairwise.filter q List.pairwise_lt_range).imp fun {a b} h => by omega
theorem uptoL_mem {n : Nat} {q : Nat → Bool} {v : Int} : v ∈ uptoL n q ↔ ∃ k : Nat, k < n ∧ q k = true ∧ v = (k : Int) := by
  unfold uptoL
  rw [List.mem_map]
  constructor
  · rintro ⟨k, hk, rfl⟩
    obtain ⟨h1, h2⟩ := List.mem_filter.1 hk
    exact ⟨k, List.mem_range.1 h1, h2, rfl⟩
  · rintro ⟨k, h1, h2, rfl⟩
    exact ⟨k, List.mem_filter.2 ⟨List.mem_range.2 h1, h2⟩, rfl⟩
theorem srtC_upto {n : Nat} {L : List Int} (h : ∀ v ∈ L, ∃ k : Nat, k < n ∧ v = (k : Int)) : srtC L = uptoL n fun k => decide ((k : Int) ∈ L) := by
  refine asc_ext _ _ (srtC_asc L) (uptoL_asc _ _) fun v => ?_
  rw [srtC_mem, uptoL_mem]
  constructor
  · intro hv
    obtain ⟨k, hk, rfl⟩ := h v hv
    exact ⟨k, hk, by simpa using hv, rfl⟩
  · rintro ⟨k, hk, hq, rfl⟩
    simpa using hq
theorem uptoL_len (n : Nat) (q : Nat → Bool) : (uptoL n q).length = (List.range n).countP q := by
  unfold uptoL; rw [List.length_map, List.countP_eq_length_filter]

end Go.Proofs.Ytmopnbijfcamjaa
