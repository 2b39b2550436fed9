/- same of the statements (layer 11): two books that read alike. -/
import Derived.Test.YtoehifincdflhaaCp11
namespace Go.Proofs.Ytoehifincdflhaa
open Go.RowKit
open Go.Sort (grow)
set_option linter.unusedVariables false

set_option maxRecDepth 100000 in
set_option maxHeartbeats 1600000 in
theorem same_c (Ap Al Bp Bl : Option Addr) (np cp nl cl dp dl : Nat) (wrg : Int) (pl : List Sp) (ls : List Ln) (w : World) (hp : np ≤ 40) (hl : nl ≤ 40) (HP : SpsAt w Ap np pl) (HL : LnsAt w Al nl ls) (HQ : SpsAt w Bp np pl) (HM : LnsAt w Bl nl ls) :
    Calls Try.prog 33 #[.agg #[.slice Ap np cp, .slice Al nl cl, .int .i64 wrg], .agg #[.slice Bp np dp, .slice Bl nl dl, .int .i64 wrg]] w
      fun e w' => e = .returned (.bool true) ∧ Below w.heap.size w w' := by
  have HPI := Lib.hid HP
  have HLI := Lib.hid HL
  have HQI := Lib.hid HQ
  have HMI := Lib.hid HM
  clear HP HL HQ HM
  go_enter Try.func33, Try.ntmps33
  go_wp2_with fail
  go_name_world W hW
  obtain ⟨hB, hz⟩ := al2 hW
  obtain ⟨l_0, q_0, f_0⟩ := al2_0 hW
  obtain ⟨l_1, q_1, f_1⟩ := al2_1 hW
  have HZ := Lib.hid hz
  have zs := hB.size
  clear hW hz
  go_loopw [5] (fun i (wr : World) => ∃ k : Nat, k ≤ np ∧ i = .int .i64 k ∧ Below W.heap.size W wr) (fun i _ => np - (intOf i).toNat)
  case atStart => exact ⟨0, by omega, rfl, Below.refl _ _⟩
  case round =>
    obtain ⟨k, hk, rfl, hb⟩ := hrel
    obtain ⟨hc, hf⟩ := bcell hb
    have zb := hb.size
    have m0 := Nat.lt_of_lt_of_le l_0 zb
    have m1 := Nat.lt_of_lt_of_le l_1 zb
    have hbw : Below w.heap.size w wr := by (repeat first | with_reducible assumption | with_reducible exact Below.refl _ _ | (with_reducible refine Below.alloc ?_ ?side _; case side => (first | omega | (with_reducible exact Below.size (by assumption)) | (simp; done) | (simp; omega))) | (with_reducible refine Below.setCell ?_ ?side _; case side => (first | omega | (with_reducible exact Below.size (by assumption)) | (simp; done) | (simp; omega))) | with_reducible refine Below.drew ?_ | with_reducible refine below_drewN ?_ _ | (with_reducible refine below_step (by assumption) ?side ?_; case side => (first | omega | (with_reducible exact Below.size (by assumption)) | (simp; done) | (simp; omega))))
    by_cases hlt : k < np
    · have hltB : decide ((k : Int) < np) = true := by simp; omega
      obtain ⟨b1, o1, rfl, hb1, x0, x1⟩ := (HPI.out.later hbw).get hlt
      obtain ⟨b2, o2, rfl, hb2, x2, x3⟩ := (HQI.out.later hbw).get hlt
      go_wp2_with fail
      go_quiet (fail)
      go_wp2_with fail
      refine ⟨⟨k + 1, by omega, by simp, by (repeat first | with_reducible assumption | with_reducible exact Below.refl _ _ | (with_reducible refine Below.alloc ?_ ?side _; case side => (first | omega | (with_reducible exact Below.size (by assumption)) | (simp; done) | (simp; omega))) | (with_reducible refine Below.setCell ?_ ?side _; case side => (first | omega | (with_reducible exact Below.size (by assumption)) | (simp; done) | (simp; omega))) | with_reducible refine Below.drew ?_ | with_reducible refine below_drewN ?_ _ | (with_reducible refine below_step (by assumption) ?side ?_; case side => (first | omega | (with_reducible exact Below.size (by assumption)) | (simp; done) | (simp; omega))))⟩, by simp [intOf]; omega⟩
    · obtain rfl : np = k := by omega
      have hltB : decide (((np : Nat) : Int) < np) = false := by simp
      have d0 := fun i => (hc w.heap.size i l_0).trans (q_0 i)
      have d1 := fun i => (hc (w.heap.size + 1) i l_1).trans (q_1 i)
      go_wp2_with fail
      clear hc hf
      obtain ⟨wo, rfl⟩ : ∃ wo : World, wo = wr := ⟨_, rfl⟩
      go_loopw [6] (fun i (ws : World) => ∃ k : Nat, k ≤ nl ∧ i = .int .i64 k ∧ Below wo.heap.size wo ws) (fun i _ => nl - (intOf i).toNat)
      case atStart => exact ⟨0, by omega, rfl, Below.refl _ _⟩
      case round =>
        obtain ⟨j, hj, rfl, hb'⟩ := hrel
        obtain ⟨hc', hf'⟩ := bcell hb'
        have zb' := hb'.size
        have n0 : w.heap.size < wr.heap.size := by omega
        have n1 : w.heap.size + 1 < wr.heap.size := by omega
        have e0 := fun i => (hc' w.heap.size i m0).trans (d0 i)
        have e1 := fun i => (hc' (w.heap.size + 1) i m1).trans (d1 i)
        have hbw' : Below w.heap.size w wr := by (repeat first | with_reducible assumption | with_reducible exact Below.refl _ _ | (with_reducible refine Below.alloc ?_ ?side _; case side => (first | omega | (with_reducible exact Below.size (by assumption)) | (simp; done) | (simp; omega))) | (with_reducible refine Below.setCell ?_ ?side _; case side => (first | omega | (with_reducible exact Below.size (by assumption)) | (simp; done) | (simp; omega))) | with_reducible refine Below.drew ?_ | with_reducible refine below_drewN ?_ _ | (with_reducible refine below_step (by assumption) ?side ?_; case side => (first | omega | (with_reducible exact Below.size (by assumption)) | (simp; done) | (simp; omega))))
        clear hc' hf' d0 d1 q_0 q_1 f_0 f_1
        by_cases hjl : j < nl
        · have hjB : decide ((j : Int) < nl) = true := by simp; omega
          obtain ⟨b1, o1, rfl, hb1, x0, x1, x2, x3, x4, x5⟩ := (HLI.out.later hbw').get hjl
          obtain ⟨b2, o2, rfl, hb2, y0, y1, y2, y3, y4, y5⟩ := (HMI.out.later hbw').get hjl
          go_wp2_with fail
          go_quiet (fail)
          go_wp2_with fail
          refine ⟨⟨j + 1, by omega, by simp, by (repeat first | with_reducible assumption | with_reducible exact Below.refl _ _ | (with_reducible refine Below.alloc ?_ ?side _; case side => (first | omega | (with_reducible exact Below.size (by assumption)) | (simp; done) | (simp; omega))) | (with_reducible refine Below.setCell ?_ ?side _; case side => (first | omega | (with_reducible exact Below.size (by assumption)) | (simp; done) | (simp; omega))) | with_reducible refine Below.drew ?_ | with_reducible refine below_drewN ?_ _ | (with_reducible refine below_step (by assumption) ?side ?_; case side => (first | omega | (with_reducible exact Below.size (by assumption)) | (simp; done) | (simp; omega))))⟩, by simp [intOf]; omega⟩
        · obtain rfl : nl = j := by omega
          have hjB : decide (((nl : Nat) : Int) < nl) = false := by simp
          go_wp2_with fail
          go_ret
          exact ⟨rfl, by (repeat first | with_reducible assumption | with_reducible exact Below.refl _ _ | (with_reducible refine Below.alloc ?_ ?side _; case side => (first | omega | (with_reducible exact Below.size (by assumption)) | (simp; done) | (simp; omega))) | (with_reducible refine Below.setCell ?_ ?side _; case side => (first | omega | (with_reducible exact Below.size (by assumption)) | (simp; done) | (simp; omega))) | with_reducible refine Below.drew ?_ | with_reducible refine below_drewN ?_ _ | (with_reducible refine below_step (by assumption) ?side ?_; case side => (first | omega | (with_reducible exact Below.size (by assumption)) | (simp; done) | (simp; omega))))⟩

end Go.Proofs.Ytoehifincdflhaa
