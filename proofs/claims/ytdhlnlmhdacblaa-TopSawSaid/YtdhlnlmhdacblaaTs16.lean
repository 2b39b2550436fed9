/- Far, ready, isKnown of the statements, IsPiece, Agrees, Subset of the specification (layer 1). -/
import Derived.Test.YtdhlnlmhdacblaaTs09
import Derived.Test.YtdhlnlmhdacblaaTs05
import Derived.Test.YtdhlnlmhdacblaaTs04
namespace Go.Proofs.Ytdhlnlmhdacblaa
open Go.RowKit
open Go.Sort (grow)
set_option linter.unusedVariables false
set_option linter.unusedSimpArgs false

def bigH (ps : List Pc) (np : Nat) : Bool := anyN np fun k => decide (40 < (pcAt ps k).hs.length)
def farB (bs : List Br) (ps : List Pc) (kf wr : Int) (nb np : Nat) : Bool :=
  decide ((40 : Int) < nb) || (decide ((40 : Int) < np) || (bigH ps np || (ckS bs ps kf wr && (decide ((4 : Int) < nb) || decide ((5 : Int) < np)))))
def rdyS (bs : List Br) (ps : List Pc) (kf wr : Int) (nb np : Nat) : Bool := !farB bs ps kf wr nb np && ckS bs ps kf wr
theorem farB_no {bs : List Br} {ps : List Pc} {kf wr : Int} {nb np : Nat} (h : farB bs ps kf wr nb np = false) :
    nb ≤ 40 ∧ np ≤ 40 ∧ (∀ k, k < np → (pcAt ps k).hs.length ≤ 40) ∧ (ckS bs ps kf wr = true → nb ≤ 4 ∧ np ≤ 5) := by
  simp only [farB, Bool.or_eq_false_iff, decide_eq_false_iff_not, Bool.and_eq_false_iff] at h
  obtain ⟨h1, h2, h3, h4⟩ := h
  refine ⟨by omega, by omega, fun k hk => ?_, fun hc => ?_⟩
  · rcases Nat.lt_or_ge 40 (pcAt ps k).hs.length with h | h
    · rw [show bigH ps np = true from anyN_yes hk (by simpa using h)] at h3
      cases h3
    · exact h
  · rw [hc] at h4
    rcases h4 with h4 | h4
    · cases h4
    · omega
theorem rdyS_ok {bs : List Br} {ps : List Pc} {kf wr : Int} {nb np : Nat} (h : rdyS bs ps kf wr nb np = true) :
    nb ≤ 4 ∧ np ≤ 5 ∧ (∀ k, k < np → (pcAt ps k).hs.length ≤ 40) ∧ ckS bs ps kf wr = true := by
  simp only [rdyS, Bool.and_eq_true, Bool.not_eq_true'] at h
  obtain ⟨-, -, h3, h4⟩ := farB_no h.1
  exact ⟨(h4 h.2).1, (h4 h.2).2, h3, h.2⟩
set_option maxRecDepth 100000 in
set_option maxHeartbeats 1600000 in
theorem Far_c (Ab Ap : Option Addr) (nb cb np cp : Nat) (kf wrg : Int) (bs : List Br) (ms : List Pm) (ps : List Pc) (w : World) (HB : BrsAt w Ab nb bs) (HP : PcsAt w Ap np ms ps) :
    Calls Try.prog 6 #[.agg #[.slice Ab nb cb, .int .i64 kf, .slice Ap np cp, .int .i64 wrg]] w fun e w' => e = .returned (.bool (farB bs ps kf wrg nb np)) ∧ Below w.heap.size w w' := by
  by_cases h40 : (40 : Int) < nb
  · have hB : decide ((40 : Int) < nb) = true := by simpa using h40
    have e1 : farB bs ps kf wrg nb np = true := by simp only [farB, hB]; rfl
    rw [e1]
    clear e1 HB HP
    go_enter Try.func6, Try.ntmps6
    go_wp2_with fail
    go_ret
    exact ⟨rfl, by (repeat first | with_reducible assumption | with_reducible exact Below.refl _ _ | (with_reducible refine Below.alloc ?_ ?side _; case side => (first | omega | (with_reducible exact Below.size (by assumption)) | (simp; done) | (simp; omega))) | (with_reducible refine Below.setCell ?_ ?side _; case side => (first | omega | (with_reducible exact Below.size (by assumption)) | (simp; done) | (simp; omega))) | with_reducible refine Below.drew ?_ | with_reducible refine below_drewN ?_ _ | (with_reducible refine below_step (by assumption) ?side ?_; case side => (first | omega | (with_reducible exact Below.size (by assumption)) | (simp; done) | (simp; omega))))⟩
  have hB : decide ((40 : Int) < nb) = false := by simpa using h40
  by_cases h41 : (40 : Int) < np
  · have hB1 : decide ((40 : Int) < np) = true := by simpa using h41
    have e1 : farB bs ps kf wrg nb np = true := by simp only [farB, hB, hB1]; rfl
    rw [e1]
    clear e1 HB HP
    go_enter Try.func6, Try.ntmps6
    go_wp2_with fail
    go_ret
    exact ⟨rfl, by (repeat first | with_reducible assumption | with_reducible exact Below.refl _ _ | (with_reducible refine Below.alloc ?_ ?side _; case side => (first | omega | (with_reducible exact Below.size (by assumption)) | (simp; done) | (simp; omega))) | (with_reducible refine Below.setCell ?_ ?side _; case side => (first | omega | (with_reducible exact Below.size (by assumption)) | (simp; done) | (simp; omega))) | with_reducible refine Below.drew ?_ | with_reducible refine below_drewN ?_ _ | (with_reducible refine below_step (by assumption) ?side ?_; case side => (first | omega | (with_reducible exact Below.size (by assumption)) | (simp; done) | (simp; omega))))⟩
  have hB1 : decide ((40 : Int) < np) = false := by simpa using h41
  have hn1 : nb ≤ 40 := by omega
  have hn2 : np ≤ 40 := by omega
  have e1 : farB bs ps kf wrg nb np = (bigH ps np || (ckS bs ps kf wrg && (decide ((4 : Int) < nb) || decide ((5 : Int) < np)))) := by simp only [farB, hB, hB1]; rfl
  rw [e1]
  clear e1
  obtain ⟨R, hR⟩ : ∃ R, (bigH ps np || (ckS bs ps kf wrg && (decide ((4 : Int) < nb) || decide ((5 : Int) < np)))) = R := ⟨_, rfl⟩
  have HR := Lib.hid hR
  rw [hR]
  clear hR
  have HPI := Lib.hid HP
  have hck : Hid (∀ W, Below w.heap.size w W → (∀ k, k < np → (pcAt ps k).hs.length ≤ 40) → Calls Try.prog 18 #[.agg #[.slice Ab nb cb, .int .i64 kf, .slice Ap np cp, .int .i64 wrg]] W fun e w' => e = .returned (.int .i64 (erS (ckS bs ps kf wrg))) ∧ Below W.heap.size W w') :=
    Lib.hid fun W hb h3 => refCheck_c Ab Ap nb cb np cp kf wrg bs ms ps W hn1 hn2 h3 (HB.later hb) (HP.later hb)
  clear HB HP h40 h41
  go_enter Try.func6, Try.ntmps6
  go_wp2_with fail
  obtain ⟨W, hW⟩ : ∃ W, w.alloc (.cells #[.slice Ab nb cb, .int .i64 kf, .slice Ap np cp, .int .i64 wrg] 25) = W := ⟨_, rfl⟩
  have B0 : Below w.heap.size w W := by rw [← hW]; exact (Below.refl _ _).alloc (Nat.le_refl _) _
  have c0 := (al1_0 hW).2.1
  have f0 := (al1_0 hW).2.2
  have l0 := (al1_0 hW).1
  rw [hW]
  clear hW
  have zW := B0.size
  go_loopw [3] (fun i (wr : World) => ∃ k : Nat, k ≤ np ∧ i = .int .i64 k ∧ Hid (∀ j, j < k → (pcAt ps j).hs.length ≤ 40) ∧ wr = W) (fun i _ => np - (intOf i).toNat)
  case atStart => exact ⟨0, by omega, rfl, fun j hj => absurd hj (by omega), rfl⟩
  case round =>
    obtain ⟨k, hk, rfl, H1, rfl⟩ := hrel
    by_cases hlt : k < np
    · have hqB : decide ((k : Int) < np) = true := by simp; omega
      obtain ⟨bp, op, rfl, hbp, x0, x1, hI⟩ := (HPI.out.later B0).get hlt
      have hln := HPI.out.len hlt
      obtain ⟨hd, hhd⟩ : ∃ h, (pmAt ms k).h = h := ⟨_, rfl⟩
      rw [hhd] at x1 hln
      clear hI hhd x0
      by_cases g : (40 : Int) < hd.n
      · have hqG : decide ((40 : Int) < hd.n) = true := by simpa using g
        have e1 : bigH ps np = true := anyN_yes hlt (by simp; omega)
        have hE : Hid (R = true) := Lib.hid (by rw [← HR.out, e1]; rfl)
        clear e1 hln
        go_wp2_with fail
        go_ret
        exact ⟨by rw [hE.out]; rfl, B0⟩
      · have hqG : decide ((40 : Int) < hd.n) = false := by simpa using g
        have hK : Hid ((pcAt ps k).hs.length ≤ 40) := Lib.hid (by omega)
        clear hln
        go_wp2_with fail
        go_roundw
        case rel => exact ⟨k + 1, by omega, by go_num, fun j hj => by
          rcases Nat.lt_succ_iff_lt_or_eq.1 hj with h | rfl
          · exact H1.out j h
          · exact hK.out, trivial⟩
        case measure => simp [intOf]; omega
    · obtain rfl : np = k := by omega
      have hqB : decide (((np : Nat) : Int) < np) = false := by simp
      have e1 : bigH ps np = false := anyN_no fun j hj => by have := H1.out j hj; simp; omega
      have hE : Hid (R = (ckS bs ps kf wrg && (decide ((4 : Int) < nb) || decide ((5 : Int) < np)))) := Lib.hid (by rw [← HR.out, e1, Bool.false_or])
      have hcc : Hid (Calls Try.prog 18 #[.agg #[.slice Ab nb cb, .int .i64 kf, .slice Ap np cp, .int .i64 wrg]] wr fun e w' => e = .returned (.int .i64 (erS (ckS bs ps kf wrg))) ∧ Below wr.heap.size wr w') := Lib.hid (hck.out wr B0 H1.out)
      clear e1 H1 hck
      cases ek : ckS bs ps kf wrg
      · rw [ek, show erS false = 10 from rfl] at hcc
        have hE1 : Hid (R = false) := Lib.hid (by rw [hE.out, ek]; rfl)
        clear ek
        go_wp2_with (go_at_call 18; with_reducible refine hcc.out.mono ?_; rintro e w1 ⟨rfl, hb1⟩)
        go_ret
        exact ⟨by rw [hE1.out]; rfl, B0.trans (hb1.mono zW)⟩
      · rw [ek, show erS true = 0 from rfl] at hcc
        have hE1 : Hid (R = (decide ((4 : Int) < nb) || decide ((5 : Int) < np))) := Lib.hid (by rw [hE.out, ek]; rfl)
        clear ek
        cases g4 : decide ((4 : Int) < nb) <;> cases g5 : decide ((5 : Int) < np)
        all_goals
          go_wp2_with (go_at_call 18; with_reducible refine hcc.out.mono ?_; rintro e w1 ⟨rfl, hb1⟩; have c1 := (fun i => (hb1.cell (p := ⟨w.heap.size, i, none⟩) l0).trans (c0 i)))
          go_ret
          exact ⟨by rw [hE1.out, g4, g5]; rfl, B0.trans (hb1.mono zW)⟩
def agrB (k : Int) (is : Bool) : Bool := bif k == 1 then is else (bif k == 2 then !is else k == 3)
def subI (xs ys : List Int) : Bool := allN xs.length (fun k => hasI ys (iAt xs k)) && decide (xs.length ≤ ys.length)

end Go.Proofs.Ytdhlnlmhdacblaa
