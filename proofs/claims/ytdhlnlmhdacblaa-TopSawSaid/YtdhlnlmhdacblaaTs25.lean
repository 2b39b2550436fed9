/- Alike and Room of the specification (layer 1); Room and Rest of the specification (layer 1); Both Sawn answer alike, in plain terms. -/
import Derived.Handy
import Derived.Test.YtdhlnlmhdacblaaTs24
import Derived.Test.YtdhlnlmhdacblaaTs20
namespace Go.Proofs.Ytdhlnlmhdacblaa
open Go.RowKit
open Go.Sort (grow)
set_option linter.unusedVariables false
set_option linter.unusedSimpArgs false

theorem cnt_lAt {p : List Nat → Bool} {T : List (List Nat)} {k : Nat} (h : k < T.length) : cntL p T (k + 1) = cntL p T k + (bif p (lAt T k) then 1 else 0) :=
  cntL_succ (by unfold lAt; rw [List.getD_eq_getElem?_getD, List.getElem?_eq_getElem h]; rfl)
theorem trs_of {bs : List Br} {ps : List Pc} {kf wr : Int} {is : Bool} (h : askE bs ps kf wr is = 0) : is = true ∧ ckS bs ps kf wr = true ∧ trsL bs ps kf wr is = trL bs ps kf wr ∧ trL bs ps kf wr ≠ [] := by
  obtain ⟨hc, hi, -⟩ := askE_0 h
  subst hi
  refine ⟨rfl, hc, trs_ok hc, fun e => ?_⟩
  rw [askE_ok hc, if_pos e] at h
  cases h
section
variable (Ab Ap : Option Addr) (nb cb np cp : Nat) (kf wrg : Int) (bs : List Br) (ms : List Pm) (ps : List Pc) (w : World)
end

end Go.Proofs.Ytdhlnlmhdacblaa

namespace Go.Proofs.Ytdhlnlmhdacblaa
open Go.RowKit
open Go.Sort (grow)
set_option linter.unusedVariables false
set_option linter.unusedSimpArgs false

section
variable (Ab Ap : Option Addr) (nb cb np cp : Nat) (kf wrg : Int) (bs : List Br) (ms : List Pm) (ps : List Pc) (w : World)
/-- the span so far -/
def RsInv (f : List Nat → Int) (T : List (List Nat)) (k : Nat) (lo hi : Int) : Prop := (k = 0 ∧ lo = 0 ∧ hi = 0) ∨ (0 < k ∧ (∃ j, j < k ∧ f (lAt T j) = lo) ∧ (∃ j, j < k ∧ f (lAt T j) = hi) ∧ ∀ j, j < k → lo ≤ f (lAt T j) ∧ f (lAt T j) ≤ hi)
theorem RsInv.first {f : List Nat → Int} {T : List (List Nat)} : RsInv f T 1 (f (lAt T 0)) (f (lAt T 0)) :=
  .inr ⟨by omega, ⟨0, by omega, rfl⟩, ⟨0, by omega, rfl⟩, fun j hj => (by
    obtain rfl : j = 0 := by omega
    exact ⟨Int.le_refl _, Int.le_refl _⟩)⟩
theorem RsInv.step {f : List Nat → Int} {T : List (List Nat)} {k : Nat} {lo hi : Int} (h : RsInv f T k lo hi) (hk : k ≠ 0) : RsInv f T (k + 1) (min lo (f (lAt T k))) (max hi (f (lAt T k))) := by
  rcases h with ⟨h, -⟩ | ⟨h0, ⟨j1, hj1, e1⟩, ⟨j2, hj2, e2⟩, h3⟩
  · exact absurd h hk
  · refine .inr ⟨Nat.succ_pos k, ?_, ?_, fun j hj => ?_⟩
    · rcases Int.le_total lo (f (lAt T k)) with c | c
      · exact ⟨j1, Nat.lt_succ_of_lt hj1, by rw [e1, Int.min_eq_left c]⟩
      · exact ⟨k, Nat.lt_succ_self k, by rw [Int.min_eq_right c]⟩
    · rcases Int.le_total hi (f (lAt T k)) with c | c
      · exact ⟨k, Nat.lt_succ_self k, by rw [Int.max_eq_right c]⟩
      · exact ⟨j2, Nat.lt_succ_of_lt hj2, by rw [e2, Int.max_eq_left c]⟩
    · rcases Nat.lt_succ_iff_lt_or_eq.1 hj with h' | rfl
      · have := h3 j h'
        exact ⟨Int.le_trans (Int.min_le_left _ _) this.1, Int.le_trans this.2 (Int.le_max_left _ _)⟩
      · exact ⟨Int.min_le_right _ _, Int.le_max_right _ _⟩
theorem rest_end {bar lo hi : Int} (hi' : RsInv (fun l => rsB bs ps kf l bar.toNat) (trsL bs ps kf wrg (wi bar 0 ((bs.length : Int) - 1))) (trsL bs ps kf wrg (wi bar 0 ((bs.length : Int) - 1))).length lo hi) :
    restP bs ps kf wrg bar = (⟨lo, hi⟩, askE bs ps kf wrg (wi bar 0 ((bs.length : Int) - 1))) := by
  by_cases hz : askE bs ps kf wrg (wi bar 0 ((bs.length : Int) - 1)) = 0
  · obtain ⟨hi, hc, ht, hne⟩ := trs_of hz
    have rb := wi_true.1 hi
    obtain ⟨b, rfl⟩ := Int.eq_ofNat_of_zero_le rb.1
    have hb : b < bs.length := by omega
    rw [hz, rest_ok hc hb, if_neg hne]
    rw [ht, Int.toNat_natCast] at hi'
    obtain ⟨a1, a2, a3⟩ := spF_mem (L := (trL bs ps kf wrg).map fun l => rsB bs ps kf l b) (by simpa using hne) (fun x hx => by
      obtain ⟨l, hl, rfl⟩ := List.mem_map.1 hx
      exact rs_bd hc hl hb)
    rcases hi' with ⟨h, -⟩ | ⟨-, ⟨j1, hj1, e1⟩, ⟨j2, hj2, e2⟩, h3⟩
    · exact absurd (List.eq_nil_of_length_eq_zero h) hne
    · have m1 : lo ∈ (trL bs ps kf wrg).map fun l => rsB bs ps kf l b := List.mem_map.2 ⟨_, lAt_mem hj1, e1⟩
      have m2 : _ ∈ (trL bs ps kf wrg).map fun l => rsB bs ps kf l b := List.mem_map.2 ⟨_, lAt_mem hj2, e2⟩
      have key : ∀ x ∈ (trL bs ps kf wrg).map fun l => rsB bs ps kf l b, ∃ j, j < (trL bs ps kf wrg).length ∧ rsB bs ps kf (lAt (trL bs ps kf wrg) j) b = x := fun x hx => by
        obtain ⟨l, hl, rfl⟩ := List.mem_map.1 hx
        obtain ⟨i, hi, rfl⟩ := List.getElem_of_mem hl
        have e : lAt (trL bs ps kf wrg) i = (trL bs ps kf wrg)[i] := by unfold lAt; rw [List.getD_eq_getElem?_getD, List.getElem?_eq_getElem hi]; rfl
        exact ⟨i, hi, by rw [e]⟩
      obtain ⟨i1, hi1, f1⟩ := key _ a1
      obtain ⟨i2, hi2, f2⟩ := key _ a2
      have b1 := (h3 i1 hi1).1
      have b2 := (h3 i2 hi2).2
      have c1 := (a3 _ m1).1
      have c2 := (a3 _ m2).2
      simp only at f1 f2 b1 b2
      obtain ⟨S, hS⟩ : ∃ S, ((trL bs ps kf wrg).map fun l => rsB bs ps kf l b).foldl spF ⟨999, 0⟩ = S := ⟨_, rfl⟩
      rw [hS] at f1 f2 c1 c2 ⊢
      obtain ⟨sl, sh⟩ := S
      simp only at f1 f2 c1 c2
      congr 1
      congr 1 <;> omega
  · have e0 : trsL bs ps kf wrg (wi bar 0 ((bs.length : Int) - 1)) = [] := by
      unfold trsL
      rw [show (askE bs ps kf wrg (wi bar 0 ((bs.length : Int) - 1)) == 0) = false by rw [beq_eq_false_iff_ne]; exact hz]; rfl
    rw [e0] at hi'
    unfold restP
    rw [show (askE bs ps kf wrg (wi bar 0 ((bs.length : Int) - 1)) == 0) = false by rw [beq_eq_false_iff_ne]; exact hz]
    rcases hi' with ⟨-, rfl, rfl⟩ | ⟨h, -⟩
    · rfl
    · simp at h
end

end Go.Proofs.Ytdhlnlmhdacblaa

namespace Go.Proofs.Ytdhlnlmhdacblaa
open Go.RowKit
open Go.Sort (grow)
set_option linter.unusedVariables false
set_option linter.unusedSimpArgs false

section
variable {bs : List Br} {ps : List Pc} {kf wr : Int}
theorem lAt_get {T : List (List Nat)} {i : Nat} (h : i < T.length) : lAt T i = T[i] := by unfold lAt; rw [List.getD_eq_getElem?_getD, List.getElem?_eq_getElem h]; rfl
theorem RsInv.ends {f : List Nat → Int} {T : List (List Nat)} {lo hi : Int} (h : RsInv f T T.length lo hi) (hne : T ≠ []) : (∃ l ∈ T, f l = lo) ∧ (∃ l ∈ T, f l = hi) ∧ ∀ l ∈ T, lo ≤ f l ∧ f l ≤ hi := by
  rcases h with ⟨h, -⟩ | ⟨-, ⟨j1, hj1, e1⟩, ⟨j2, hj2, e2⟩, h3⟩
  · exact absurd (List.eq_nil_of_length_eq_zero h) hne
  · refine ⟨⟨_, lAt_mem hj1, e1⟩, ⟨_, lAt_mem hj2, e2⟩, fun l hl => ?_⟩
    obtain ⟨i, hi, rfl⟩ := List.getElem_of_mem hl
    have := h3 i hi
    rw [lAt_get hi] at this
    exact this
/-- the spans of the specification are those that the program reckons from the least and the greatest number -/
theorem sawn_law (h : ckS bs ps kf wr = true) (hne : trL bs ps kf wr ≠ []) {lo : Nat} (hlo : leastP bs ps kf wr = (lo : Int)) {cl ch rl rh : Int}
    (hc : RsInv (kfC bs.length kf) (trL bs ps kf wr) (trL bs ps kf wr).length cl ch) (hr : RsInv (rsT bs ps kf) (trL bs ps kf wr) (trL bs ps kf wr).length rl rh) :
    cl = kf * ((ps.length : Int) - (cutV bs ps kf wr ps.length [] lo : Nat)) ∧ ch = kf * ((ps.length : Int) - lo) ∧ rl = brS bs - pcS ps - ch ∧ rh = brS bs - pcS ps - cl := by
  have hk := (ckS_vals h).2.2.1.1
  obtain ⟨h1, hm⟩ : (∃ l ∈ trL bs ps kf wr, usL bs.length l = lo) ∧ ∀ l ∈ trL bs ps kf wr, lo ≤ usL bs.length l := by
    rcases least_ok h with ⟨e, -⟩ | ⟨l, hl, e, hm⟩
    · exact absurd e hne
    · have : usL bs.length l = lo := by rw [e] at hlo; omega
      exact ⟨⟨l, hl, this⟩, fun m hm' => by rw [← this]; exact hm m hm'⟩
  obtain ⟨b1, b2⟩ := cut_best h h1
  obtain ⟨best, hb⟩ : ∃ b, cutV bs ps kf wr ps.length [] lo = b := ⟨_, rfl⟩
  rw [hb] at b1 b2 ⊢
  have key : ∀ l ∈ trL bs ps kf wr, kfC bs.length kf l = kf * ((ps.length : Int) - (usL bs.length l : Nat)) ∧ rsT bs ps kf l = brS bs - pcS ps - kfC bs.length kf l := fun l hl => by
    obtain ⟨⟨k1, k2⟩, -⟩ := trL_mem.1 hl
    exact ⟨by rw [kfC_eq k2, k1], rsT_eq k1 k2⟩
  obtain ⟨s1, s2, s3⟩ := sawn_ends (np := ps.length) (kf := kf) (L := 0) hk (fun l hl => ⟨hm l hl, b1 l hl⟩) h1 b2
  obtain ⟨⟨u1, hu1, e1⟩, ⟨u2, hu2, e2⟩, c3⟩ := hc.ends hne
  obtain ⟨⟨v1, hv1, f1⟩, ⟨v2, hv2, f2⟩, r3⟩ := hr.ends hne
  obtain ⟨m1, hm1, g1⟩ := s2
  obtain ⟨m2, hm2, g2⟩ := s3
  have a1 := c3 m1 hm1
  have a2 := c3 m2 hm2
  have a3 := s1 u1 hu1
  have a4 := s1 u2 hu2
  rw [(key m1 hm1).1] at a1
  rw [(key m2 hm2).1] at a2
  rw [(key u1 hu1).1] at e1
  rw [(key u2 hu2).1] at e2
  have ecl : cl = kf * ((ps.length : Int) - (best : Nat)) := by omega
  have ech : ch = kf * ((ps.length : Int) - lo) := by omega
  have b3 := r3 m1 hm1
  have b4 := r3 m2 hm2
  have b5 := c3 v1 hv1
  have b6 := c3 v2 hv2
  rw [(key m1 hm1).2, (key m1 hm1).1] at b3
  rw [(key m2 hm2).2, (key m2 hm2).1] at b4
  rw [(key v1 hv1).2] at f1
  rw [(key v2 hv2).2] at f2
  refine ⟨ecl, ech, ?_, ?_⟩ <;> omega
end

end Go.Proofs.Ytdhlnlmhdacblaa
