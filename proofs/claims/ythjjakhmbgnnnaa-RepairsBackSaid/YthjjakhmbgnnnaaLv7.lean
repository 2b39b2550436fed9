/- Less that is asked (layer 7), in plain words: what RepairsLess asks. -/
import Derived.Test.YthjjakhmbgnnnaaPc7
import Derived.Test.YthjjakhmbgnnnaaFa7
namespace Go.Proofs.Ythjjakhmbgnnnaa
open Go.RowKit
open Go.Sort (grow)
set_option linter.unusedVariables false

theorem okSp_of {n : Nat} {ls : List Sp} {q : Cb} (hl : ls.length = n) (h : ckC n ls q = true) : OkSp ls n := by
  refine ⟨hl, fun i hi => ?_⟩
  simp only [ckC, Bool.and_eq_true] at h
  have := allN_iff.1 h.2 i (by omega)
  simp only [ckSp7, Bool.not_eq_true', Bool.or_eq_false_iff, Bool.not_eq_false', decide_eq_false_iff_not] at this
  have h5 := wi_true.1 this.1
  have h6 := this.2
  omega
theorem str_cases {q : Cb} {ls : List Sp} {n : Nat} {cuts : Int} (h : ckC n ls q = true) (hc : 0 ≤ cuts ∧ cuts ≤ 12) : (stR n ls q cuts = (0, 3) ∧ strO q ls n cuts = none) ∨ ∃ b, stR n ls q cuts = (b, 0) ∧ strO q ls n cuts = some b := by
  unfold stR
  rw [h, wi_true.2 hc]
  cases strO q ls n cuts with
  | none => exact .inl ⟨rfl, rfl⟩
  | some b => exact .inr ⟨b, rfl, rfl⟩
theorem str_easier {q q' : Cb} {ls ls' : List Sp} {n : Nat} {cuts b : Int} (hs : OkSp ls n) (hs' : OkSp ls' n) (e : Easier q q' ls ls' n) (h : strO q ls n cuts = some b) : ∃ b', strO q' ls' n cuts = some b' ∧ b ≤ b' := by
  have hb := str_bd hs h
  have h1 := (strong_iff hs hb.2).2 ⟨b, h, Int.le_refl _⟩
  have h2 : okB q' ls' n cuts b = true := ok_easier (q := q) (v := b) (q' := q') (v' := b) ⟨Int.le_refl _, e.gap, e.least, e.doubt, e.joins, e.lo, e.hi⟩ h1
  exact (strong_iff hs' hb.2).1 h2
theorem less_vals {q q' : Cb} {ls ls' : List Sp} {n : Nat} {x0 x1 x2 : Int} (e : Easier q q' ls ls' n) (h : ckC n ls q = true) (h' : ckC n ls' q' = true) (hl : ls.length = n) (hl' : ls'.length = n) (ha : askC x0 x1 x2 = true) :
    (erS n ls q = 3 ∧ (erS n ls' q' = 0 ∨ erS n ls' q' = 3) ∨ erS n ls q = 0 ∧ erS n ls' q' = 0 ∧ (plC n ls' q').length ≤ (plC n ls q).length ∧ (chR n ls' q' x0 x1).1 ≤ (chR n ls q x0 x1).1) ∧
    (chR n ls q x0 x1).2 = erS n ls q ∧ (chR n ls' q' x0 x1).2 = erS n ls' q' ∧
    ((stR n ls q x2).2 = 3 ∧ ((stR n ls' q' x2).2 = 0 ∨ (stR n ls' q' x2).2 = 3) ∨ (stR n ls q x2).2 = 0 ∧ (stR n ls' q' x2).2 = 0 ∧ (stR n ls q x2).1 ≤ (stR n ls' q' x2).1) := by
  obtain ⟨h0, h1, h2⟩ := askC_iff.1 ha
  rw [ch_err h h0 h1, ch_err h' h0 h1]
  refine ⟨?_, ?_, ?_, ?_⟩
  · rcases er_cases h with ⟨z, hne⟩ | ⟨z, hne⟩
    · right
      have hf := pl_few h hne
      obtain ⟨b, hb, hle⟩ := few_easier e hf
      have hne' : fewO q' ls' n ≠ none := by rw [hb]; simp
      have z' := (er_zero h').2 hne'
      have hf' := pl_few h' hne'
      rw [hb] at hf'
      refine ⟨z, z', by have := Option.some.inj hf'; omega, ?_⟩
      rw [z, z']
      exact ch_easier e h0.1 h1.1 hne
    · exact .inl ⟨z, (er_cases h').imp And.left And.left⟩
  · rcases er_cases h with ⟨z, hne⟩ | ⟨z, hne⟩ <;> rw [z] <;> rfl
  · rcases er_cases h' with ⟨z, hne⟩ | ⟨z, hne⟩ <;> rw [z] <;> rfl
  · rcases str_cases (q := q) (ls := ls) h h2 with ⟨z, hn⟩ | ⟨b, z, hb⟩
    · left
      rw [z]
      refine ⟨rfl, ?_⟩
      rcases str_cases (q := q') (ls := ls') h' h2 with ⟨z, hn⟩ | ⟨b, z, hb⟩
      · rw [z]; exact .inr rfl
      · rw [z]; exact .inl rfl
    · right
      obtain ⟨b', hb', hle⟩ := str_easier (okSp_of hl h) (okSp_of hl' h') e hb
      rcases str_cases (q := q') (ls := ls') h' h2 with ⟨z', hn⟩ | ⟨b2, z', hb2⟩
      · rw [hb'] at hn; cases hn
      · rw [hb'] at hb2
        rw [z, z']
        refine ⟨rfl, rfl, ?_⟩
        have := Option.some.inj hb2
        omega

end Go.Proofs.Ythjjakhmbgnnnaa
