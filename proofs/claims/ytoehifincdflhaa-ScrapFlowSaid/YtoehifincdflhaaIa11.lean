/- IsAccount and IsTruth of the specification (layer 11). -/
import Derived.Test.YtoehifincdflhaaAc11
namespace Go.Proofs.Ytoehifincdflhaa
open Go.RowKit
open Go.Sort (grow)
set_option linter.unusedVariables false

def acK (ls : List Ln) (ws ss : List Int) (k : Nat) : Bool := wi (iAt ws k) (lnAt ls k).s.hi 999 && wi (iAt ss k) (lnAt ls k).s.lo (lnAt ls k).s.hi
def isAc (nl nw ns : Nat) (ls : List Ln) (ws ss : List Int) : Bool := (nw == nl && ns == nl) && allN nl (acK ls ws ss)

set_option maxRecDepth 100000 in
set_option maxHeartbeats 1600000 in
theorem IsAccount_c (Ap Al Aw As : Option Addr) (np cp nl cl nw cw ns cs : Nat) (wrg : Int) (ls : List Ln) (ws ss : List Int) (w : World) (hl : nl ≤ 40) (hw : nw ≤ 40) (hs : ns ≤ 40) (HL : LnsAt w Al nl ls) (HW : IntsAt w Aw nw ws) (HS : IntsAt w As ns ss) :
    Calls Try.prog 50 #[.agg #[.slice Ap np cp, .slice Al nl cl, .int .i64 wrg], .agg #[.slice Aw nw cw, .slice As ns cs]] w
      fun e w' => e = .returned (.bool (isAc nl nw ns ls ws ss)) ∧ Below w.heap.size w w' := by
  have HLI := Lib.hid HL
  have HWI := Lib.hid HW
  have HSI := Lib.hid HS
  clear HL HW HS
  cases e0 : (nw == nl)
  · have hne : ((nw : Int) != nl) = true := by simp at e0 ⊢; omega
    go_enter Try.func50, Try.ntmps50
    go_wp2
    go_ret
    exact ⟨ret_bool (by simp [isAc, e0]), by (repeat first | with_reducible assumption | with_reducible exact Below.refl _ _ | refine below_drewN ?_ _ | refine Below.drew ?_ | refine Below.alloc ?_ (by first | omega | (with_reducible exact Below.size (by assumption)) | (simp; done) | (simp; omega)) _ | refine Below.setCell ?_ (by first | omega | (with_reducible exact Below.size (by assumption)) | (simp; done) | (simp; omega)) _ | refine below_step (by assumption) (by first | omega | (with_reducible exact Below.size (by assumption)) | (simp; done) | (simp; omega)) ?_)⟩
  obtain rfl : nw = nl := by simpa using e0
  cases e1 : (ns == nw)
  · have hne : ((ns : Int) != nw) = true := by simp at e1 ⊢; omega
    go_enter Try.func50, Try.ntmps50
    go_wp2
    go_ret
    exact ⟨ret_bool (by simp [isAc, e1]), by (repeat first | with_reducible assumption | with_reducible exact Below.refl _ _ | refine below_drewN ?_ _ | refine Below.drew ?_ | refine Below.alloc ?_ (by first | omega | (with_reducible exact Below.size (by assumption)) | (simp; done) | (simp; omega)) _ | refine Below.setCell ?_ (by first | omega | (with_reducible exact Below.size (by assumption)) | (simp; done) | (simp; omega)) _ | refine below_step (by assumption) (by first | omega | (with_reducible exact Below.size (by assumption)) | (simp; done) | (simp; omega)) ?_)⟩
  obtain rfl : ns = nw := by simpa using e1
  have hac : isAc ns ns ns ls ws ss = allN ns (acK ls ws ss) := by simp [isAc]
  rw [hac]
  clear hac e0 e1
  go_enter Try.func50, Try.ntmps50
  go_wp2
  go_name_world W hW
  obtain ⟨hB, hz⟩ := al2 hW
  obtain ⟨l_0, q_0, f_0⟩ := al2_0 hW
  obtain ⟨l_1, q_1, f_1⟩ := al2_1 hW
  have HZ := Lib.hid hz
  have zs := hB.size
  clear hW hz
  go_loopw [5] (fun i (wr : World) => ∃ k : Nat, k ≤ ns ∧ i = .int .i64 k ∧ Hid (∀ j, j < k → acK ls ws ss j = true) ∧ Below W.heap.size W wr) (fun i _ => ns - (intOf i).toNat)
  case atStart => exact ⟨0, by omega, rfl, fun j hj => absurd hj (by omega), Below.refl _ _⟩
  case round =>
    obtain ⟨k, hk, rfl, H, hb⟩ := hrel
    obtain ⟨hc, hf⟩ := bcell hb
    have zb := hb.size
    have m0 := Nat.lt_of_lt_of_le l_0 zb
    have m1 := Nat.lt_of_lt_of_le l_1 zb
    by_cases hlt : k < ns
    · have hB' : decide ((k : Int) < ns) = true := by simp; omega
      obtain ⟨bl, ol, rfl, hbl, x0, x1, x2, x3, x4, x5⟩ := (HLI.out.later (by (repeat first | with_reducible assumption | with_reducible exact Below.refl _ _ | refine below_drewN ?_ _ | refine Below.drew ?_ | refine Below.alloc ?_ (by first | omega | (with_reducible exact Below.size (by assumption)) | (simp; done) | (simp; omega)) _ | refine Below.setCell ?_ (by first | omega | (with_reducible exact Below.size (by assumption)) | (simp; done) | (simp; omega)) _ | refine below_step (by assumption) (by first | omega | (with_reducible exact Below.size (by assumption)) | (simp; done) | (simp; omega)) ?_) : Below w.heap.size w wr)).get hlt
      obtain ⟨bw, ow, rfl, hbw, y0⟩ := (HWI.out.later (by (repeat first | with_reducible assumption | with_reducible exact Below.refl _ _ | refine below_drewN ?_ _ | refine Below.drew ?_ | refine Below.alloc ?_ (by first | omega | (with_reducible exact Below.size (by assumption)) | (simp; done) | (simp; omega)) _ | refine Below.setCell ?_ (by first | omega | (with_reducible exact Below.size (by assumption)) | (simp; done) | (simp; omega)) _ | refine below_step (by assumption) (by first | omega | (with_reducible exact Below.size (by assumption)) | (simp; done) | (simp; omega)) ?_) : Below w.heap.size w wr)).get hlt
      obtain ⟨bs, os, rfl, hbs, z0⟩ := (HSI.out.later (by (repeat first | with_reducible assumption | with_reducible exact Below.refl _ _ | refine below_drewN ?_ _ | refine Below.drew ?_ | refine Below.alloc ?_ (by first | omega | (with_reducible exact Below.size (by assumption)) | (simp; done) | (simp; omega)) _ | refine Below.setCell ?_ (by first | omega | (with_reducible exact Below.size (by assumption)) | (simp; done) | (simp; omega)) _ | refine below_step (by assumption) (by first | omega | (with_reducible exact Below.size (by assumption)) | (simp; done) | (simp; omega)) ?_) : Below w.heap.size w wr)).get hlt
      cases e1 : wi (iAt ws k) (lnAt ls k).s.hi 999
      · have hA : allN ns (acK ls ws ss) = false := allN_no hlt (by simp [acK, e1])
        replace hA := Lib.hid hA
        go_wp2
        go_quiet ((go_at_call 45; exact quiet_left (withinR_c _ _ _ _)))
        go_wp2
        go_ret
        exact ⟨ret_bool (by rw [hA.out]), by (repeat first | with_reducible assumption | with_reducible exact Below.refl _ _ | refine below_drewN ?_ _ | refine Below.drew ?_ | refine Below.alloc ?_ (by first | omega | (with_reducible exact Below.size (by assumption)) | (simp; done) | (simp; omega)) _ | refine Below.setCell ?_ (by first | omega | (with_reducible exact Below.size (by assumption)) | (simp; done) | (simp; omega)) _ | refine below_step (by assumption) (by first | omega | (with_reducible exact Below.size (by assumption)) | (simp; done) | (simp; omega)) ?_)⟩
      cases e2 : wi (iAt ss k) (lnAt ls k).s.lo (lnAt ls k).s.hi
      · have hA : allN ns (acK ls ws ss) = false := allN_no hlt (by simp [acK, e2])
        replace hA := Lib.hid hA
        go_wp2
        go_quiet ((go_at_call 45; exact quiet_left (withinR_c _ _ _ _)))
        go_wp2
        go_ret
        exact ⟨ret_bool (by rw [hA.out]), by (repeat first | with_reducible assumption | with_reducible exact Below.refl _ _ | refine below_drewN ?_ _ | refine Below.drew ?_ | refine Below.alloc ?_ (by first | omega | (with_reducible exact Below.size (by assumption)) | (simp; done) | (simp; omega)) _ | refine Below.setCell ?_ (by first | omega | (with_reducible exact Below.size (by assumption)) | (simp; done) | (simp; omega)) _ | refine below_step (by assumption) (by first | omega | (with_reducible exact Below.size (by assumption)) | (simp; done) | (simp; omega)) ?_)⟩
      go_wp2
      go_quiet ((go_at_call 45; exact quiet_left (withinR_c _ _ _ _)))
      go_wp2
      go_roundw
      case rel => exact ⟨k + 1, by omega, by go_num, fun j hj => by
        rcases Nat.lt_succ_iff_lt_or_eq.1 hj with h | rfl
        · exact H.out j h
        · simp [acK, e1, e2], by (repeat first | with_reducible assumption | with_reducible exact Below.refl _ _ | refine below_drewN ?_ _ | refine Below.drew ?_ | refine Below.alloc ?_ (by first | omega | (with_reducible exact Below.size (by assumption)) | (simp; done) | (simp; omega)) _ | refine Below.setCell ?_ (by first | omega | (with_reducible exact Below.size (by assumption)) | (simp; done) | (simp; omega)) _ | refine below_step (by assumption) (by first | omega | (with_reducible exact Below.size (by assumption)) | (simp; done) | (simp; omega)) ?_)⟩
      case measure => simp [intOf]; omega
    · obtain rfl : ns = k := by omega
      have hA := Lib.hid (allN_iff.2 H.out)
      have hB' : decide (((ns : Nat) : Int) < ns) = false := by simp
      clear H
      go_wp2
      go_ret
      exact ⟨ret_bool (by rw [hA.out]), by (repeat first | with_reducible assumption | with_reducible exact Below.refl _ _ | refine below_drewN ?_ _ | refine Below.drew ?_ | refine Below.alloc ?_ (by first | omega | (with_reducible exact Below.size (by assumption)) | (simp; done) | (simp; omega)) _ | refine Below.setCell ?_ (by first | omega | (with_reducible exact Below.size (by assumption)) | (simp; done) | (simp; omega)) _ | refine below_step (by assumption) (by first | omega | (with_reducible exact Below.size (by assumption)) | (simp; done) | (simp; omega)) ?_)⟩

end Go.Proofs.Ytoehifincdflhaa
