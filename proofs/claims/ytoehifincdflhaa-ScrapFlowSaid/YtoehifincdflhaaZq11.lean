/- ScrapFlow (layer 11), in plain Lean: what came and went; a proof and an account contradict each other. -/
import Derived.Test.YtoehifincdflhaaIp11
import Derived.Test.YtoehifincdflhaaTm11
import Derived.Test.YtoehifincdflhaaMo11
namespace Go.Proofs.Ytoehifincdflhaa
open Go.RowKit
open Go.Sort (grow)
set_option linter.unusedVariables false

section
variable {np nl : Nat} {pl : List Sp} {ls : List Ln} {wrg : Int} {ws ss : List Int}
theorem hsB_neg (s : Nat) : hsB s (-1) = false := by simp [hsB]
/-- the sums of an account, over the lines and over the places of a set -/
theorem set_sum (c : Ctx np nl pl ls) (s : Nat) (hs : s < 2 ^ np) :
    sumF (fun i => (bif hsB s (lnAt ls i).to then iAt ws i - iAt ss i else 0) - (bif hsB s (lnAt ls i).fr then iAt ws i else 0)) nl = sumF (fun j : Nat => bif hsB s (j : Int) then chgN ls ws ss (j : Int) nl else 0) np := by
  have hp := c.ok.hp
  have h55 : (5 : Int).toNat = 5 := rfl
  have h66 : (6 : Int).toNat = 6 := rfl
  have h6 : SS np s 6 = false := by rw [SS_6]; simp [hsB, hs_np hs]
  have z := flow_zero (SS np s) c.inb hp ws ss
  have e1 : sumF (fun i => gp (SS np s) ⟨nodeZ (lnAt ls i).fr, nodeZ (lnAt ls i).to, iAt ws i, iAt ws i⟩ + gp (SS np s) ⟨nodeZ (lnAt ls i).to, 6, iAt ss i, iAt ss i⟩) nl =
      sumF (fun i => (bif hsB s (lnAt ls i).to then iAt ws i - iAt ss i else 0) - (bif hsB s (lnAt ls i).fr then iAt ws i else 0)) nl := sumF_congr fun i hi => by
    simp only [gp_x, ch, h66, SS_node hp (c.inb.fr i hi), SS_node hp (c.inb.to i hi), h6]
    cases hsB s (lnAt ls i).to <;> cases hsB s (lnAt ls i).fr <;> simp <;> omega
  have e2 : sumF (fun j : Nat => gp (SS np s) ⟨(j : Int), 5, chgN ls ws ss (j : Int) nl, chgN ls ws ss (j : Int) nl⟩) np = sumF (fun j : Nat => -(bif hsB s (j : Int) then chgN ls ws ss (j : Int) nl else 0)) np := sumF_congr fun j hj => by
    simp only [gp_x, ch, h55, SS_5 hp, Int.toNat_natCast, SS_pl hp hj]
    cases hsB s (j : Int) <;> simp
  have e3 : gp (SS np s) ⟨6, 5, sumF (iAt ss) nl, sumF (iAt ss) nl⟩ = 0 := by simp [gp_x, ch, h55, h66, SS_5 hp, h6]
  rw [e1, e2, e3, sumF_neg] at z
  omega
theorem prv_no (c : Ctx np nl pl ls) (ht : isTr np nl nl nl pl ls wrg ws ss = true) {s : Nat} (hs : s < 2 ^ np)
    (h : ∀ i, i < nl → (hsB s (lnAt ls i).to != hsB s (lnAt ls i).fr) = true → isRt ls ws i = true) : prvB np nl pl ls s = false := by
  have hsum := set_sum (ws := ws) (ss := ss) c s hs
  simp only [isTr, isAc, Bool.and_eq_true, allN_iff, decide_eq_true_eq] at ht
  obtain ⟨⟨-, hac⟩, hch, -⟩ := ht
  have hA : ∀ i, i < nl → prA s (lnAt ls i) ≤ (bif hsB s (lnAt ls i).to then iAt ws i - iAt ss i else 0) - (bif hsB s (lnAt ls i).fr then iAt ws i else 0) ∧
      (bif hsB s (lnAt ls i).to then iAt ws i - iAt ss i else 0) - (bif hsB s (lnAt ls i).fr then iAt ws i else 0) ≤ prB s (lnAt ls i) := fun i hi => by
    have a := hac i hi
    have b := h i hi
    simp only [acK, Bool.and_eq_true, wi_true] at a
    simp only [isRt, wi_true] at b
    unfold prA prB
    cases e1 : hsB s (lnAt ls i).to <;> cases e2 : hsB s (lnAt ls i).fr <;> simp only [e1, e2, cond_true, cond_false] at b ⊢
    · omega
    · have := b rfl; omega
    · have := b rfl; omega
    · omega
  have hC : ∀ j, j < np → prC s pl j ≤ -(bif hsB s (j : Int) then chgN ls ws ss (j : Int) nl else 0) ∧ -(bif hsB s (j : Int) then chgN ls ws ss (j : Int) nl else 0) ≤ prD s pl j := fun j hj => by
    have a := hch j hj
    rw [wi_true] at a
    unfold prC prD
    cases hsB s (j : Int) <;> simp <;> omega
  have s1 := sumF_le fun i hi => (hA i hi).1
  have s2 := sumF_le fun i hi => (hA i hi).2
  have s3 := sumF_le fun j hj => (hC j hj).1
  have s4 := sumF_le fun j hj => (hC j hj).2
  rw [sumF_neg] at s3 s4
  unfold prvB leastV mostV
  simp
  omega
/-- what came from outside, less what went there, less what was lost on the way to places -/
def flI (ls : List Ln) (ws ss : List Int) (i : Nat) : Int := (bif decide ((lnAt ls i).fr < 0) then iAt ws i else 0) - (bif decide ((lnAt ls i).to < 0) then iAt ws i else iAt ss i)
theorem flow_sum (c : Ctx np nl pl ls) : sumF (flI ls ws ss) nl = sumF (fun j : Nat => chgN ls ws ss (j : Int) nl) np := by
  have h := set_sum (ws := ws) (ss := ss) c (2 ^ np - 1) (by have := Nat.two_pow_pos np; omega)
  have hb : ∀ n : Int, (n = -1 ∨ (0 ≤ n ∧ n < np)) → hsB (2 ^ np - 1) n = !decide (n < 0) := fun n hn => by
    rcases hn with rfl | ⟨h1, h2⟩
    · rw [hsB_neg]; rfl
    · have e1 : decide (0 ≤ n) = true := by simpa using h1
      have e2 : decide (n.toNat < np) = true := by simp; omega
      have e3 : decide (n < 0) = false := by simp; omega
      rw [hsB, Nat.testBit_two_pow_sub_one, e1, e2, e3]; rfl
  have e1 : sumF (flI ls ws ss) nl = sumF (fun i => (bif hsB (2 ^ np - 1) (lnAt ls i).to then iAt ws i - iAt ss i else 0) - (bif hsB (2 ^ np - 1) (lnAt ls i).fr then iAt ws i else 0)) nl := sumF_congr fun i hi => by
    rw [hb _ (c.inb.to i hi), hb _ (c.inb.fr i hi)]
    unfold flI
    generalize decide ((lnAt ls i).to < 0) = a
    generalize decide ((lnAt ls i).fr < 0) = b
    cases a <;> cases b <;> simp only [cond_true, cond_false, Bool.not_true, Bool.not_false] <;> omega
  have e2 : sumF (fun j : Nat => bif hsB (2 ^ np - 1) (j : Int) then chgN ls ws ss (j : Int) nl else 0) np = sumF (fun j : Nat => chgN ls ws ss (j : Int) nl) np := sumF_congr fun j hj => by
    rw [hb _ (.inr ⟨by omega, by omega⟩)]
    have : decide ((j : Int) < 0) = false := by simp
    rw [this]; rfl
  rw [e1, h, e2]
/-- Stock lies within the place's span -/
theorem stock_bd (c : Ctx np nl pl ls) (hw : 0 ≤ wrg) (hne : truthSets np nl pl ls wrg ≠ []) {j : Nat} (hj : j < np) :
    (spAt pl j).lo ≤ (endsB np nl pl ls wrg (2 * nl + j)).lo ∧ (endsB np nl pl ls wrg (2 * nl + j)).hi ≤ (spAt pl j).hi := by
  have hne' : (truthSets np nl pl ls wrg).map (endsS np nl pl ls (2 * nl + j)) ≠ [] := by simpa using hne
  have key : ∀ s, s ∈ truthSets np nl pl ls wrg → (spAt pl j).lo ≤ (endsS np nl pl ls (2 * nl + j) s).lo ∧ (endsS np nl pl ls (2 * nl + j) s).hi ≤ (spAt pl j).hi := fun s hs => by
    obtain ⟨-, -, a3⟩ := (mem_loL c).1 (truth_in c hw hs)
    have hl : 2 * nl + j < (flowL np nl pl ls s.testBit).length := by rw [flow_len]; omega
    have h1 := (endsP_low hl (flow_nodes c.ok) (flow_lohi c.ok) a3).lo
    have h2 := (endsP_high hl (flow_nodes c.ok) (flow_lohi c.ok) a3).hi
    rw [pp_p hj, flow_len] at h1 h2
    exact ⟨h1, h2⟩
  refine ⟨hull_low hne' fun x hx => ?_, hull_high hne' fun x hx => ?_⟩
  · obtain ⟨s, hs, rfl⟩ := List.mem_map.1 hx
    exact (key s hs).1
  · obtain ⟨s, hs, rfl⟩ := List.mem_map.1 hx
    exact (key s hs).2
end

end Go.Proofs.Ytoehifincdflhaa
