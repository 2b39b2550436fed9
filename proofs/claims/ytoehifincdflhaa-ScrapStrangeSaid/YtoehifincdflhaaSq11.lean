/- Strange and Plan (layer 11), in plain Lean: the specification's lines are the program's; what Plan hands back is a truth. -/
import Derived.Test.YtoehifincdflhaaRm11
import Derived.Test.YtoehifincdflhaaPn11
namespace Go.Proofs.Ytoehifincdflhaa
open Go.RowKit
open Go.Sort (grow)
set_option linter.unusedVariables false

section
variable {np nl : Nat} {pl : List Sp} {ls : List Ln} {wrg : Int}
theorem flow_congr_at {f g : Nat → Bool} {q : Nat} (h : ∀ i, i < nl → i ≠ q → f i = g i) {k : Nat} (hk : k ≠ 2 * q) : ppAt (flowL np nl pl ls f) k = ppAt (flowL np nl pl ls g) k := by
  by_cases h1 : k < 2 * nl
  · obtain ⟨j, hj⟩ : ∃ j, k = 2 * j ∨ k = 2 * j + 1 := ⟨k / 2, by omega⟩
    rcases hj with rfl | rfl
    · rw [pp_w (by omega), pp_w (by omega)]
      unfold wPp
      rw [h j (by omega) (by omega)]
    · rw [pp_s (by omega), pp_s (by omega)]
  · by_cases h2 : k < 2 * nl + np
    · obtain ⟨j, rfl⟩ : ∃ j, k = 2 * nl + j := ⟨k - 2 * nl, by omega⟩
      rw [pp_p (by omega), pp_p (by omega)]
    · by_cases h3 : k = 2 * nl + np
      · subst h3; rw [pp_h, pp_h]
      · have e1 : ∀ l : List Pp, l.length ≤ k → ppAt l k = ⟨0, 0, 0, 0⟩ := fun l hl => by unfold ppAt; rw [List.getD_eq_getElem?_getD, List.getElem?_eq_none hl]; rfl
        rw [e1 _ (by rw [flow_len]; omega), e1 _ (by rw [flow_len]; omega)]
theorem can_nodes (c : Ctx np nl pl ls) {s i : Nat} {a b : Int} (hi : i < nl) : NodesOk (withPp (flowL np nl pl ls s.testBit) (2 * i) a b) := withPp_nodes (by rw [flow_len]; omega) (flow_nodes c.ok)
theorem str_eq (c : Ctx np nl pl ls) (h0 : 0 ≤ wrg) : strL np nl pl ls wrg = srfL np nl pl ls wrg := by
  unfold strL srfL strK srfK
  refine List.filter_congr fun i hi => ?_
  have hi : i < nl := by simpa using hi
  have len : ∀ f, 2 * i < (flowL np nl pl ls f).length := fun f => by rw [flow_len]; omega
  rw [Bool.eq_iff_iff]
  unfold strB strF
  rw [List.all_eq_true, List.all_eq_true]
  constructor
  · intro h s hs
    refine Classical.byContradiction fun hb => ?_
    have hb : s.testBit i = false := by simpa using hb
    obtain ⟨a1, a2, a3⟩ := (mem_loL c).1 hs
    obtain ⟨s', b1, b2⟩ := truth_of c h0 hs
    have h1 := h s' b1
    have hW := (flow_wider (BkWider.refl np nl pl ls) c.ok c.ok (f := s.testBit) (g := s'.testBit) b2).with_ (len _) (Int.le_refl (lnAt ls i).w.lo) (Int.le_refl (lnAt ls i).w.hi)
    have e : withPp (flowL np nl pl ls s.testBit) (2 * i) (lnAt ls i).w.lo (lnAt ls i).w.hi = flowL np nl pl ls s.testBit := by
      have := withPp_self (l := flowL np nl pl ls s.testBit) (i := 2 * i)
      rw [pp_w hi] at this
      simpa only [wPp, hb, cond_false] using this
    have hc := hW.can (can_nodes c hi) (can_nodes c hi) (by rw [e]; exact a3)
    unfold noCan at h1
    rw [← canL_iff (can_nodes c hi), withPp_length, flow_len] at hc
    rw [hc] at h1
    cases h1
  · intro h s hs
    refine Classical.byContradiction fun hb => ?_
    have hcan : canL (2 * nl + np + 1) (withPp (flowL np nl pl ls s.testBit) (2 * i) (lnAt ls i).w.lo (lnAt ls i).w.hi) = true := by
      unfold noCan at hb
      simpa using hb
    have hcan' : Can (withPp (flowL np nl pl ls s.testBit) (2 * i) (lnAt ls i).w.lo (lnAt ls i).w.hi) := by
      rw [← canL_iff (can_nodes c hi), withPp_length, flow_len]; exact hcan
    obtain ⟨a1, a2, a3⟩ := (mem_loL c).1 (truth_in c h0 hs)
    obtain ⟨g, hg⟩ : ∃ g : Nat → Bool, g = fun k => s.testBit k && k != i := ⟨_, rfl⟩
    have hbit : ∀ k, k < nl → (ofB nl g).testBit k = g k := fun k hk => by rw [ofB_bit]; simp [hk]
    have hsub : ∀ k, k < nl → (ofB nl g).testBit k = true → s.testBit k = true := fun k hk e => by
      rw [hbit k hk, hg] at e
      simp only [Bool.and_eq_true] at e
      exact e.1
    have hgi : (ofB nl g).testBit i = false := by rw [hbit i hi, hg]; simp
    have hW : Wider (withPp (flowL np nl pl ls s.testBit) (2 * i) (lnAt ls i).w.lo (lnAt ls i).w.hi) (flowL np nl pl ls (ofB nl g).testBit) := by
      have key : ∀ k, ppAt (withPp (flowL np nl pl ls s.testBit) (2 * i) (lnAt ls i).w.lo (lnAt ls i).w.hi) k = ppAt (flowL np nl pl ls (ofB nl g).testBit) k := fun k => by
        rw [withPp_at _ _ _ _ _ (len _)]
        by_cases e : k = 2 * i
        · subst e
          rw [if_pos rfl, pp_w hi, pp_w hi]
          simp only [wPp, hgi, cond_false]
        · rw [if_neg e]
          refine flow_congr_at (fun j hj hji => ?_) e
          rw [hbit j hj, hg]
          have : (j != i) = true := by simpa using hji
          simp only [this, Bool.and_true]
      exact ⟨by rw [withPp_length, flow_len, flow_len], fun k => by rw [key], fun k => by rw [key], fun k => by rw [key]; exact Int.le_refl _, fun k => by rw [key]; exact Int.le_refl _⟩
    have hc := hW.can (can_nodes c hi) (flow_nodes c.ok) hcan'
    have hm := cntF_mono hsub
    have := h _ ((mem_loL c).2 ⟨ofB_lt _ _, by omega, hc⟩)
    rw [hgi] at this
    cases this
/-- what Plan hands back is a truth -/
theorem iAt_plW {s0 i : Nat} (hi : i < nl) : iAt (plW np nl pl ls s0 nl) i = plX np nl pl ls s0 (2 * i) := by
  unfold iAt plW
  rw [List.getD_eq_getElem?_getD, List.getElem?_map, List.getElem?_range hi]; rfl
theorem iAt_plS {s0 i : Nat} (hi : i < nl) : iAt (plS np nl pl ls s0 nl) i = plX np nl pl ls s0 (2 * i + 1) := by
  unfold iAt plS
  rw [List.getD_eq_getElem?_getD, List.getElem?_map, List.getElem?_range hi]; rfl
theorem plan_gap (c : Ctx np nl pl ls) {s0 : Nat} (h : PlOk np nl pl ls s0 (2 * nl)) (S : Nat → Bool) :
    0 ≤ sumF (fun j : Nat => gp S (pPp j (spAt pl j)) - gp S ⟨(j : Int), 5, chgN ls (plW np nl pl ls s0 nl) (plS np nl pl ls s0 nl) (j : Int) nl, chgN ls (plW np nl pl ls s0 nl) (plS np nl pl ls s0 nl) (j : Int) nl⟩) np
      + (gp S (hPp (nl * 999)) - gp S ⟨6, 5, sumF (iAt (plS np nl pl ls s0 nl)) nl, sumF (iAt (plS np nl pl ls s0 nl)) nl⟩) := by
  have z := flow_zero S c.inb c.ok.hp (plW np nl pl ls s0 nl) (plS np nl pl ls s0 nl)
  have g := h.can S
  rw [gap_sum, plN_len, Nat.add_assoc, sumF_app, sumF_two] at g
  have e1 : sumF (fun i => gp S (ppAt (plN np nl pl ls s0 (2 * nl)) (2 * i)) + gp S (ppAt (plN np nl pl ls s0 (2 * nl)) (2 * i + 1))) nl =
      sumF (fun i => gp S ⟨nodeZ (lnAt ls i).fr, nodeZ (lnAt ls i).to, iAt (plW np nl pl ls s0 nl) i, iAt (plW np nl pl ls s0 nl) i⟩ + gp S ⟨nodeZ (lnAt ls i).to, 6, iAt (plS np nl pl ls s0 nl) i, iAt (plS np nl pl ls s0 nl) i⟩) nl :=
    sumF_congr fun i hi => by
      rw [h.at_, if_pos (by omega), h.at_, if_pos (by omega), pp_w hi, pp_s hi, iAt_plW hi, iAt_plS hi]
      rfl
  have e2 : sumF (fun j => gp S (ppAt (plN np nl pl ls s0 (2 * nl)) (2 * nl + j))) np = sumF (fun j => gp S (pPp j (spAt pl j))) np :=
    sumF_congr fun j hj => by rw [h.at_, if_neg (by omega), pp_p hj]
  have e3 : gp S (ppAt (plN np nl pl ls s0 (2 * nl)) (2 * nl + np)) = gp S (hPp (nl * 999)) := by rw [h.at_, if_neg (by omega), pp_h]
  simp only [sumF] at g
  rw [e1, e2, e3] at g
  rw [sumF_sub]
  omega
theorem plan_truth (c : Ctx np nl pl ls) (h0 : 0 ≤ wrg) {s0 : Nat} (hs : s0 ∈ truthSets np nl pl ls wrg) : isTr np nl nl nl pl ls wrg (plW np nl pl ls s0 nl) (plS np nl pl ls s0 nl) = true := by
  obtain ⟨a1, a2, a3⟩ := (mem_loL c).1 (truth_in c h0 hs)
  have hp5 := c.ok.hp
  have P := pl_ok c.ok a3 (2 * nl) (Nat.le_refl _)
  have h55 : (5 : Int).toNat = 5 := rfl
  have h66 : (6 : Int).toNat = 6 := rfl
  simp only [isTr, isAc, Bool.and_eq_true, allN_iff, decide_eq_true_eq, beq_self_eq_true, true_and]
  refine ⟨fun i hi => ?_, fun j hj => ?_, ?_⟩
  · have x1 := P.inn (2 * i) (by omega)
    have x2 := P.inn (2 * i + 1) (by omega)
    rw [pp_w hi] at x1
    rw [pp_s hi] at x2
    have y := c.ok.ln i
    simp only [acK, Bool.and_eq_true, wi_true, iAt_plW hi, iAt_plS hi]
    simp only [sPp] at x2
    refine ⟨?_, x2⟩
    cases e : s0.testBit i <;> simp only [wPp, e, cond_true, cond_false] at x1 <;> omega
  · rw [wi_true]
    have g1 := plan_gap c P fun v => v == j
    have g2 := plan_gap c P fun v => v != j
    rw [sumF_one hj fun i hi hij => ?_] at g1
    rw [sumF_one hj fun i hi hij => ?_] at g2
    · have e5 : (5 == j) = false := by simp; omega
      have e6 : (6 == j) = false := by simp; omega
      simp only [gp, pPp, hPp, h55, h66, Int.toNat_natCast, bne, e5, e6, beq_self_eq_true] at g1 g2
      simp at g1 g2
      omega
    · have e5 : (5 == j) = false := by simp; omega
      have e : (i == j) = false := by simpa using hij
      simp [gp, pPp, h55, bne, e5, e]
    · have e5 : (5 == j) = false := by simp; omega
      have e : (i == j) = false := by simpa using hij
      simp [gp, pPp, h55, e5, e]
  · have hle : wrgN ls (plW np nl pl ls s0 nl) nl ≤ cntF nl s0.testBit := by
      refine cntF_mono fun i hi e => ?_
      refine Classical.byContradiction fun hb => ?_
      have hb : s0.testBit i = false := by simpa using hb
      have x1 := P.inn (2 * i) (by omega)
      rw [pp_w hi] at x1
      simp only [wPp, hb, cond_false] at x1
      have : isRt ls (plW np nl pl ls s0 nl) i = true := by
        simp only [isRt, wi_true, iAt_plW hi]
        exact x1
      rw [this] at e
      cases e
    omega
end

end Go.Proofs.Ytoehifincdflhaa
