/- What a valid store's truths say, in plain terms (layer 1). -/
import Derived.Test.YtmopnbijfcamjaaSq1
import Derived.Test.YtmopnbijfcamjaaAl1
namespace Go.Proofs.Ytmopnbijfcamjaa
open Go.RowKit
open Go.Sort (grow)
set_option linter.unusedVariables false

theorem ckS_vals {bs : List Br} {ps : List Pc} {kf wr : Int} (h : ckS bs ps kf wr = true) :
    bs.length ≤ 6 ∧ ps.length ≤ 8 ∧ (0 ≤ kf ∧ kf ≤ 20) ∧ (0 ≤ wr ∧ wr ≤ 8) ∧ (∀ k, k < bs.length → (0 ≤ (brAt bs k).heat ∧ (brAt bs k).heat ≤ 9) ∧ 1 ≤ (brAt bs k).long ∧ (brAt bs k).long ≤ 999) ∧
      ∀ k, k < ps.length → (1 ≤ (pcAt ps k).long ∧ (pcAt ps k).long ≤ 999) ∧ ckH (pcAt ps k).hs = true := by
  unfold ckS at h
  simp only [Bool.and_eq_true, decide_eq_true_eq, wi_true, allN_iff] at h
  obtain ⟨⟨h1, h2, h4, h5⟩, h6, h7⟩ := h
  exact ⟨h1, h2, h4, h5, h6, h7⟩
theorem swA_ok {bs : List Br} {ps : List Pc} {kf wr : Int} (h : ckS bs ps kf wr = true) {most : Int} (hm : 0 ≤ most) : swA bs ps kf most = (trL bs ps kf most).map (swOf bs ps kf) := by
  obtain ⟨-, -, h4, h5, h6, h7⟩ := ckS_vals h
  exact swA_tr h4.1 (fun k hk => by have := (h7 k hk).1; omega) (fun k hk => by have := (h6 k hk).2; omega) hm
theorem trL_mem {bs : List Br} {ps : List Pc} {kf most : Int} {l : List Nat} : l ∈ trL bs ps kf most ↔ (l.length = ps.length ∧ ∀ b ∈ l, b < bs.length) ∧ okB bs ps kf most l = true := by
  unfold trL
  rw [List.mem_filter, allL_mem]
theorem askE_ok {bs : List Br} {ps : List Pc} {kf wr : Int} (h : ckS bs ps kf wr = true) : askE bs ps kf wr true = if trL bs ps kf wr = [] then 3 else 0 := by
  obtain ⟨-, -, h4, h5, h6, h7⟩ := ckS_vals h
  unfold askE
  rw [h, swA_ok h h5.1]
  cases e : trL bs ps kf wr <;> rfl
theorem manyR_ok {bs : List Br} {ps : List Pc} {kf wr : Int} (h : ckS bs ps kf wr = true) : manyR bs ps kf wr = (trL bs ps kf wr).length := by
  obtain ⟨-, -, h4, h5, h6, h7⟩ := ckS_vals h
  unfold manyR
  rw [askE_ok h, swA_ok h h5.1]
  cases e : trL bs ps kf wr <;> simp
theorem knP_map {p : Sw → Bool} {bs : List Br} {ps : List Pc} {kf : Int} {L : List (List Nat)} : knP p (L.map (swOf bs ps kf)) = knP (fun l => p (swOf bs ps kf l)) L := by
  unfold knP
  rw [List.countP_map, List.countP_map]
  rfl
theorem knP_some {α : Type} {p : α → Bool} {L : List α} (hL : L ≠ []) : (knP p L == 1 || knP p L == 3) = L.any p := by
  unfold knP
  rw [Bool.eq_iff_iff, List.any_eq_true]
  cases e1 : ((L.countP fun x => !p x) == 0)
  · cases e2 : (L.countP p == 0)
    · simp only [cond_false]
      have h : 0 < L.countP p := Nat.pos_of_ne_zero (by simpa only [beq_eq_false_iff_ne, ne_eq] using e2)
      rw [List.countP_pos_iff] at h
      exact ⟨fun _ => h, fun _ => by decide⟩
    · simp only [cond_false, cond_true]
      have h : L.countP p = 0 := by simpa only [beq_iff_eq] using e2
      rw [List.countP_eq_zero] at h
      constructor
      · intro h'; exact absurd h' (by decide)
      · rintro ⟨x, hx, hp⟩; exact absurd hp (h x hx)
  · simp only [cond_true]
    have h : (L.countP fun x => !p x) = 0 := by simpa only [beq_iff_eq] using e1
    rw [List.countP_eq_zero] at h
    obtain ⟨x, hx⟩ := List.exists_mem_of_ne_nil L hL
    refine ⟨fun _ => ⟨x, hx, ?_⟩, fun _ => by decide⟩
    have := h x hx
    simpa using this
-- one more piece at the end
section
variable {bs : List Br} {ps : List Pc} {q : Pc} {kf most : Int} {l : List Nat} {b c : Nat}
theorem zip_more : ∀ (ps : List Pc) (l : List Nat), l.length ≤ ps.length → (ps ++ [q]).zip l = ps.zip l
  | _, [], _ => by simp
  | [], c :: l, h => by simp at h
  | p :: ps, c :: l, h => by
    simp only [List.cons_append, List.zip_cons_cons]
    rw [zip_more ps l (by simpa using h)]
theorem rsB_more (h : l.length ≤ ps.length) : rsB bs (ps ++ [q]) kf l b = rsB bs ps kf l b := by
  unfold rsB smB
  rw [zip_more ps l h]
theorem wgB_more (h : l.length ≤ ps.length) : wgB bs (ps ++ [q]) l = wgB bs ps l := by
  unfold wgB
  rw [zip_more ps l h]
theorem okB_more (h : l.length ≤ ps.length) : okB bs (ps ++ [q]) kf most l = okB bs ps kf most l := by
  rw [Bool.eq_iff_iff, okB_iff, okB_iff, wgB_more h]
  simp only [rsB_more h]
end
def htA : List Int := [0, 1, 2, 3, 4, 5, 6, 7, 8, 9]
theorem htA_has {h : Int} (h0 : 0 ≤ h) (h9 : h ≤ 9) : hasI htA h = true := by
  have : h = 0 ∨ h = 1 ∨ h = 2 ∨ h = 3 ∨ h = 4 ∨ h = 5 ∨ h = 6 ∨ h = 7 ∨ h = 8 ∨ h = 9 := by omega
  rcases this with rfl | rfl | rfl | rfl | rfl | rfl | rfl | rfl | rfl | rfl <;> decide
theorem room_iff {bs : List Br} {ps : List Pc} {kf wr lg : Int} (h : ckS bs ps kf wr = true) (hlg : 0 ≤ lg) :
    trL bs (ps ++ [⟨lg, htA⟩]) kf wr ≠ [] ↔ ∃ l, l ∈ trL bs ps kf wr ∧ (anyN bs.length fun k => fitS kf (swOf bs ps kf l) k lg) = true := by
  obtain ⟨-, -, h4, h5, h6, h7⟩ := ckS_vals h
  have hlen : (ps ++ [(⟨lg, htA⟩ : Pc)]).length = ps.length + 1 := by simp
  have hat : pcAt (ps ++ [(⟨lg, htA⟩ : Pc)]) ps.length = ⟨lg, htA⟩ := by
    unfold pcAt; rw [List.getD_eq_getElem?_getD, List.getElem?_append_right (Nat.le_refl _), Nat.sub_self]; rfl
  -- fits of the last piece
  have key : ∀ (l : List Nat) (c : Nat), l.length = ps.length → c < bs.length → okB bs ps kf wr l = true →
      (okB bs (ps ++ [⟨lg, htA⟩]) kf wr (l ++ [c]) = true ↔ fitS kf (swOf bs ps kf l) c lg = true) := by
    intro l c hl hc ho
    have hl1 : l.length < (ps ++ [(⟨lg, htA⟩ : Pc)]).length := by omega
    rw [okB_iff, wgB_snoc hl1, wgB_more (by omega)]
    rw [okB_iff] at ho
    have hw : wrB bs (ps ++ [⟨lg, htA⟩]) l.length c = false := by
      unfold wrB
      rw [hl, hat, htA_has (h6 c hc).1.1 (h6 c hc).1.2]
      rfl
    rw [hw]
    have e : 0 ≤ rsB bs (ps ++ [⟨lg, htA⟩]) kf (l ++ [c]) c ↔ fitS kf (swOf bs ps kf l) c lg = true := by
      rw [rsB_same hl1, rsB_more (by omega), hl, hat]
      unfold fitS
      simp only [swOf, iAt_mapR hc]
      cases decide (0 < (l.count c : Int)) <;> simp <;> omega
    rw [← e]
    constructor
    · exact fun h => h.1 c hc
    · intro h
      refine ⟨fun b hb => ?_, by simpa using ho.2⟩
      by_cases e : c = b
      · subst e; exact h
      · rw [rsB_ne hl1 e, rsB_more (by omega)]; exact ho.1 b hb
  constructor
  · intro hne
    obtain ⟨m, hm⟩ := List.exists_mem_of_ne_nil _ hne
    obtain ⟨⟨hml, hmb⟩, hmo⟩ := trL_mem.1 hm
    rw [hlen] at hml
    obtain ⟨l, c, rfl⟩ : ∃ l c, m = l ++ [c] := ⟨m.dropLast, m.getLast (by intro e; rw [e] at hml; simp at hml), (List.dropLast_concat_getLast _).symm⟩
    have hll : l.length = ps.length := by simpa using hml
    have hc : c < bs.length := hmb c (by simp)
    have hpre : okB bs ps kf wr l = true := by
      rw [← okB_more (q := ⟨lg, htA⟩) (by omega)]
      refine okB_pre1 (c := c) h4.1 (fun k hk => ?_) (by rw [hlen]; omega) hmo
      rcases Nat.lt_or_ge k ps.length with hk' | hk'
      · have : pcAt (ps ++ [(⟨lg, htA⟩ : Pc)]) k = pcAt ps k := by
          unfold pcAt; rw [List.getD_eq_getElem?_getD, List.getD_eq_getElem?_getD, List.getElem?_append_left hk']
        rw [this]
        have := (h7 k hk').1
        omega
      · obtain rfl : k = ps.length := by rw [hlen] at hk; omega
        rw [hat]
        exact hlg
    exact ⟨l, trL_mem.2 ⟨⟨hll, fun b hb => hmb b (by simp [hb])⟩, hpre⟩, anyN_yes hc ((key l c hll hc hpre).1 hmo)⟩
  · rintro ⟨l, hl, ha⟩ e
    obtain ⟨⟨hll, hlb⟩, hlo⟩ := trL_mem.1 hl
    obtain ⟨c, hc, hf⟩ : ∃ c, c < bs.length ∧ fitS kf (swOf bs ps kf l) c lg = true := by
      apply Classical.byContradiction
      intro hn
      rw [anyN_no fun k hk => by
        cases e : fitS kf (swOf bs ps kf l) k lg
        · rfl
        · exact absurd ⟨k, hk, e⟩ hn] at ha
      cases ha
    have : l ++ [c] ∈ trL bs (ps ++ [⟨lg, htA⟩]) kf wr := trL_mem.2 ⟨⟨by simp [hll], fun b hb => by
      rcases List.mem_append.1 hb with hb | hb
      · exact hlb b hb
      · rw [List.mem_singleton.1 hb]; exact hc⟩, (key l c hll hc hlo).2 hf⟩
    rw [e] at this
    cases this
/-- what BarsRoom asks -/
theorem room_law {bs : List Br} {ps : List Pc} {kf wr lg : Int} (h : ckS bs ps kf wr = true) (hl : wi lg 1 999 = true) (ho : ckS bs (ps ++ [⟨lg, htA⟩]) kf wr = true) :
    ((roomP bs ps kf wr lg).2 = 3 ∧ askE bs (ps ++ [⟨lg, htA⟩]) kf wr true = 3) ∨
    ((roomP bs ps kf wr lg).2 = 0 ∧ ((askE bs (ps ++ [⟨lg, htA⟩]) kf wr true = 0 ∧ 0 < manyR bs (ps ++ [⟨lg, htA⟩]) kf wr ∧ ((roomP bs ps kf wr lg).1 = 1 ∨ (roomP bs ps kf wr lg).1 = 3)) ∨
      (askE bs (ps ++ [⟨lg, htA⟩]) kf wr true = 3 ∧ (roomP bs ps kf wr lg).1 = 2))) := by
  obtain ⟨-, -, h4, h5, h6, h7⟩ := ckS_vals h
  have hlg := (wi_true.1 hl).1
  have hr := room_iff (bs := bs) (ps := ps) (kf := kf) (wr := wr) (lg := lg) h (by omega)
  have e1 : roomP bs ps kf wr lg = if trL bs ps kf wr = [] then (0, 3) else (knP (fun l => anyN bs.length fun k => fitS kf (swOf bs ps kf l) k lg) (trL bs ps kf wr), 0) := by
    unfold roomP
    rw [hl, askE_ok h, swA_ok h h5.1, knP_map]
    split <;> rfl
  rw [e1, askE_ok ho, manyR_ok ho]
  by_cases e : trL bs ps kf wr = []
  · rw [if_pos e]
    have : trL bs (ps ++ [⟨lg, htA⟩]) kf wr = [] := by
      apply Classical.byContradiction
      intro hn
      obtain ⟨l, hl, -⟩ := hr.1 hn
      rw [e] at hl
      cases hl
    rw [if_pos this]
    exact .inl ⟨rfl, rfl⟩
  · rw [if_neg e]
    have hk := knP_some (p := fun l => anyN bs.length fun k => fitS kf (swOf bs ps kf l) k lg) e
    by_cases e2 : trL bs (ps ++ [⟨lg, htA⟩]) kf wr = []
    · rw [if_pos e2]
      refine .inr ⟨rfl, .inr ⟨rfl, ?_⟩⟩
      have hno : ((trL bs ps kf wr).any fun l => anyN bs.length fun k => fitS kf (swOf bs ps kf l) k lg) = false := by
        cases ea : ((trL bs ps kf wr).any fun l => anyN bs.length fun k => fitS kf (swOf bs ps kf l) k lg)
        · rfl
        · obtain ⟨l, hl, hf⟩ := List.any_eq_true.1 ea
          exact absurd e2 (hr.2 ⟨l, hl, hf⟩)
      rw [hno] at hk
      show knP _ _ = 2
      revert hk
      unfold knP
      cases ((trL bs ps kf wr).countP fun l => !anyN bs.length fun k => fitS kf (swOf bs ps kf l) k lg) == 0 <;> cases (trL bs ps kf wr).countP (fun l => anyN bs.length fun k => fitS kf (swOf bs ps kf l) k lg) == 0 <;> simp
    · rw [if_neg e2]
      refine .inr ⟨rfl, .inl ⟨rfl, ?_, ?_⟩⟩
      · have := List.length_pos_iff.2 e2
        omega
      · obtain ⟨l, hl, hf⟩ := hr.1 e2
        rw [List.any_eq_true.2 ⟨l, hl, hf⟩] at hk
        simpa using hk

end Go.Proofs.Ytmopnbijfcamjaa
