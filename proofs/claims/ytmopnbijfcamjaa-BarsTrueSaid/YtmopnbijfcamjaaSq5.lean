/- Longer bars, shorter pieces, a lesser kerf, in plain terms (layer 1). -/
import Derived.Test.YtmopnbijfcamjaaSq3
namespace Go.Proofs.Ytmopnbijfcamjaa
open Go.RowKit
open Go.Sort (grow)
set_option linter.unusedVariables false

theorem smB_mono {b : Nat} : ∀ (ps ps' : List Pc) (l : List Nat), ps'.length = ps.length → (∀ k, k < ps.length → (pcAt ps' k).long ≤ (pcAt ps k).long) → smB ps' l b ≤ smB ps l b
  | [], [], l, _, _ => Int.le_refl _
  | q :: ps, q' :: ps', [], _, _ => by simp [smB]
  | q :: ps, q' :: ps', c :: l, h, hk => by
    have ih := smB_mono (b := b) ps ps' l (by simpa using h) (fun k hk' => hk (k + 1) (by simpa using hk'))
    have h0 : q'.long ≤ q.long := hk 0 (by simp)
    simp only [smB, List.zip_cons_cons, List.map_cons, List.sum_cons] at ih ⊢
    cases c == b <;> simp <;> omega
  | [], q :: ps', _, h, _ => by simp at h
  | q :: ps, [], _, h, _ => by simp at h
theorem wgB_eq {bs bs' : List Br} (hb : ∀ k, (brAt bs' k).heat = (brAt bs k).heat) : ∀ (ps ps' : List Pc) (l : List Nat), ps'.length = ps.length → (∀ k, k < ps.length → (pcAt ps' k).hs = (pcAt ps k).hs) → wgB bs' ps' l = wgB bs ps l
  | [], [], l, _, _ => by simp [wgB]
  | q :: ps, q' :: ps', [], _, _ => by simp [wgB]
  | q :: ps, q' :: ps', c :: l, h, hk => by
    have ih := wgB_eq hb ps ps' l (by simpa using h) (fun k hk' => hk (k + 1) (by simpa using hk'))
    have h0 : q'.hs = q.hs := hk 0 (by simp)
    simp only [wgB, List.zip_cons_cons, List.countP_cons] at ih ⊢
    rw [ih, h0, hb]
  | [], q :: ps', _, h, _ => by simp at h
  | q :: ps, [], _, h, _ => by simp at h
/-- what BarsLonger turns a store into -/
structure LongTo (bs : List Br) (ps : List Pc) (kf : Int) (bs' : List Br) (ps' : List Pc) (kf' : Int) : Prop where
  bl : bs'.length = bs.length
  pl : ps'.length = ps.length
  heat : ∀ k, (brAt bs' k).heat = (brAt bs k).heat
  long : ∀ k, k < bs.length → (brAt bs k).long ≤ (brAt bs' k).long
  hs : ∀ k, k < ps.length → (pcAt ps' k).hs = (pcAt ps k).hs
  short : ∀ k, k < ps.length → (pcAt ps' k).long ≤ (pcAt ps k).long
  kerf : kf' ≤ kf
section
variable {bs bs' : List Br} {ps ps' : List Pc} {kf kf' wr most : Int} {l : List Nat}
theorem LongTo.ok (H : LongTo bs ps kf bs' ps' kf') (h : okB bs ps kf most l = true) : okB bs' ps' kf' most l = true := by
  rw [okB_iff] at h ⊢
  refine ⟨fun b hb => ?_, by rw [wgB_eq H.heat ps ps' l H.pl H.hs]; exact h.2⟩
  rw [H.bl] at hb
  have h1 := h.1 b hb
  unfold rsB at h1 ⊢
  have h2 := smB_mono (b := b) ps ps' l H.pl H.short
  have h3 := H.long b hb
  have h4 : kf' * ((l.count b - 1 : Nat) : Int) ≤ kf * ((l.count b - 1 : Nat) : Int) := Int.mul_le_mul_of_nonneg_right H.kerf (by omega)
  omega
theorem LongTo.mem (H : LongTo bs ps kf bs' ps' kf') (h : l ∈ trL bs ps kf most) : l ∈ trL bs' ps' kf' most := by
  obtain ⟨⟨h1, h2⟩, h3⟩ := trL_mem.1 h
  exact trL_mem.2 ⟨⟨by rw [H.pl]; exact h1, by rw [H.bl]; exact h2⟩, H.ok h3⟩
/-- what BarsLonger asks -/
theorem longer_law (H : LongTo bs ps kf bs' ps' kf') (hck : ckS bs ps kf wr = true) (ho : ckS bs' ps' kf' wr = true) :
    ((askE bs ps kf wr true = 3 ∧ (askE bs' ps' kf' wr true = 0 ∨ askE bs' ps' kf' wr true = 3)) ∨
      (askE bs ps kf wr true = 0 ∧ askE bs' ps' kf' wr true = 0 ∧ manyR bs ps kf wr ≤ manyR bs' ps' kf' wr ∧ leastP bs' ps' kf' wr ≤ leastP bs ps kf wr)) ∧
    (((fewP bs ps kf wr).2 = 3 ∧ ((fewP bs' ps' kf' wr).2 = 0 ∨ (fewP bs' ps' kf' wr).2 = 3)) ∨
      ((fewP bs ps kf wr).2 = 0 ∧ (fewP bs' ps' kf' wr).2 = 0 ∧ (fewP bs' ps' kf' wr).1 ≤ (fewP bs ps kf wr).1)) := by
  constructor
  · rw [askE_ok hck, askE_ok ho]
    by_cases e : trL bs ps kf wr = []
    · rw [if_pos e]
      refine .inl ⟨rfl, ?_⟩
      split <;> simp
    · obtain ⟨l0, hl0⟩ := List.exists_mem_of_ne_nil _ e
      have e' : trL bs' ps' kf' wr ≠ [] := fun h => by
        have := H.mem hl0
        rw [h] at this
        cases this
      rw [if_neg e, if_neg e']
      refine .inr ⟨rfl, rfl, ?_, ?_⟩
      · rw [manyR_ok hck, manyR_ok ho]
        unfold trL
        rw [H.bl, H.pl, ← List.countP_eq_length_filter, ← List.countP_eq_length_filter]
        have := List.countP_mono_left (l := allL bs.length ps.length) (p := okB bs ps kf wr) (q := okB bs' ps' kf' wr) fun l _ h => H.ok h
        omega
      · rcases least_ok hck with ⟨h1, -⟩ | ⟨l, hl, h1, -⟩
        · exact absurd h1 e
        · rcases least_ok ho with ⟨h2, -⟩ | ⟨m, hm, h2, h3⟩
          · exact absurd h2 e'
          · have := h3 l (H.mem hl)
            rw [h1, h2]
            rw [H.bl] at this ⊢
            omega
  · rcases few_ok hck with ⟨h1, h2⟩ | ⟨r, h1, ⟨l, hl, h2⟩, -⟩
    · left
      rw [h1]
      refine ⟨rfl, ?_⟩
      rcases few_ok ho with ⟨h3, -⟩ | ⟨r, h3, -⟩
      · rw [h3]; exact .inr rfl
      · rw [h3]; exact .inl rfl
    · right
      rw [h1]
      rcases few_ok ho with ⟨h3, h4⟩ | ⟨r', h3, -, h4⟩
      · have := H.mem hl
        rw [h4] at this
        cases this
      · rw [h3]
        have := h4 l (H.mem hl)
        rw [wgB_eq H.heat ps ps' l H.pl H.hs] at this
        exact ⟨rfl, rfl, by simp only; omega⟩
end

end Go.Proofs.Ytmopnbijfcamjaa
