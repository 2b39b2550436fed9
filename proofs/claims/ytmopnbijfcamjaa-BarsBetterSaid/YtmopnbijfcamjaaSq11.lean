/- A mark that stands for fewer heats (layer 1), in plain terms. -/
import Derived.Test.YtmopnbijfcamjaaSq9
namespace Go.Proofs.Ytmopnbijfcamjaa
open Go.RowKit
open Go.Sort (grow)
set_option linter.unusedVariables false

theorem ckH_iff {l : List Int} : ckH l = true ↔ (∀ v ∈ l, 0 ≤ v ∧ v ≤ 9) ∧ l.Pairwise (· < ·) := by
  unfold ckH
  rw [allN_iff]
  constructor
  · intro h
    refine ⟨fun v hv => ?_, ?_⟩
    · obtain ⟨k, hk, rfl⟩ := List.getElem_of_mem hv
      have := h k hk
      rw [Bool.and_eq_true, wi_true, iAt_get hk] at this
      exact this.1
    · rw [List.pairwise_iff_getElem]
      intro i j hi hj hij
      have step : ∀ k (hk : k + 1 < l.length), l[k]'(by omega) < l[k + 1] := fun k hk => by
        have h1 := h (k + 1) hk
        rw [Bool.and_eq_true, Nat.add_sub_cancel, iAt_get hk, iAt_get (show k < l.length by omega)] at h1
        simpa using h1.2
      have key : ∀ d i (hd : i + d + 1 < l.length), l[i]'(by omega) < l[i + d + 1] := by
        intro d
        induction d with
        | zero => intro i hd; exact step i hd
        | succ d ih =>
          intro i hd
          have a1 := ih i (by omega)
          have a2 := step (i + d + 1) hd
          exact Int.lt_trans a1 a2
      obtain ⟨d, rfl⟩ : ∃ d, j = i + d + 1 := ⟨j - i - 1, by omega⟩
      exact key d i hj
  · rintro ⟨h1, h2⟩ k hk
    rw [Bool.and_eq_true, wi_true, iAt_get hk]
    refine ⟨h1 _ (List.getElem_mem hk), ?_⟩
    by_cases h0 : 0 < k
    · have h3 := List.pairwise_iff_getElem.1 h2 (k - 1) k (by omega) hk (by omega)
      rw [iAt_get (show k - 1 < l.length by omega)]
      simp only [Bool.not_eq_true', Bool.and_eq_false_iff, decide_eq_false_iff_not]
      right
      omega
    · simp [h0]
theorem ckH_filter {l : List Int} {q : Int → Bool} (h : ckH l = true) : ckH (l.filter q) = true := by
  rw [ckH_iff] at h ⊢
  exact ⟨fun v hv => h.1 v (List.mem_filter.1 hv).1, h.2.filter _⟩
theorem has_filter {l : List Int} {q : Int → Bool} {v : Int} (h : hasI (l.filter q) v = true) : hasI l v = true := by
  rw [hasI_mem] at h ⊢
  exact (List.mem_filter.1 h).1
theorem ckS_read {bs : List Br} {ps : List Pc} {kf wr : Int} {p : Nat} {q : Int → Bool} (h : ckS bs ps kf wr = true) (hp : p < ps.length) : ckS bs (ps.set p ⟨(pcAt ps p).long, (pcAt ps p).hs.filter q⟩) kf wr = true := by
  obtain ⟨h1, h2, h4, h5, h6, h7⟩ := ckS_vals h
  unfold ckS
  simp only [Bool.and_eq_true, decide_eq_true_eq, wi_true, allN_iff]
  refine ⟨⟨h1, by simpa using h2, h4, h5⟩, fun k hk => h6 k hk, fun k hk => ?_⟩
  have hk' : k < ps.length := by simpa using hk
  have e : pcAt (ps.set p ⟨(pcAt ps p).long, (pcAt ps p).hs.filter q⟩) k = if p = k then ⟨(pcAt ps p).long, (pcAt ps p).hs.filter q⟩ else pcAt ps k := by
    unfold pcAt
    rw [List.getD_eq_getElem?_getD, List.getD_eq_getElem?_getD, List.getElem?_set]
    split <;> simp_all
  rw [e]
  split
  · rename_i e; subst e
    exact ⟨(h7 p hk').1, ckH_filter (h7 p hk').2⟩
  · exact h7 k hk'
theorem ckS_less {bs : List Br} {ps : List Pc} {kf wr wr' : Int} (h : ckS bs ps kf wr = true) (h0 : 0 ≤ wr') (h8 : wr' ≤ 8) : ckS bs ps kf wr' = true := by
  obtain ⟨h1, h2, h4, h5, h6, h7⟩ := ckS_vals h
  unfold ckS
  simp only [Bool.and_eq_true, decide_eq_true_eq, wi_true, allN_iff]
  exact ⟨⟨h1, h2, h4, h0, h8⟩, h6, h7⟩

end Go.Proofs.Ytmopnbijfcamjaa
