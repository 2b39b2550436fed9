/- The looks at a store (layer 1): Check of bars and of the specification. -/
import Derived.Test.YtmopnbijfcamjaaSw1
namespace Go.Proofs.Ytmopnbijfcamjaa
open Go.RowKit
open Go.Sort (grow)
set_option linter.unusedVariables false

def erS (b : Bool) : Int := bif b then 0 else 10
def ckH1 (l : List Int) (k : Nat) : Bool := wi (iAt l k) 0 9 && !(decide (0 < k) && decide (iAt l k ≤ iAt l (k - 1)))
theorem ckH_eq (l : List Int) : ckH l = allN l.length (ckH1 l) := rfl
set_option maxRecDepth 100000 in
set_option maxHeartbeats 1600000 in
theorem areHeats_c (A : Option Addr) (n c : Nat) (xs : List Int) (w : World) (hn : n ≤ 40) (HX : IntsAt w A n xs) :
    Calls Try.prog 75 #[.slice A n c] w fun e w' => e = .returned (.bool (ckH xs)) ∧ Below w.heap.size w w' := by
  have hl := HX.1
  rw [ckH_eq, hl]
  have HXI := Lib.hid HX
  clear HX hl
  go_enter Try.func75, Try.ntmps75
  go_wp2
  go_loopw [3] (fun i (wr : World) => ∃ k : Nat, k ≤ n ∧ i = .int .i64 k ∧ Hid (∀ j, j < k → ckH1 xs j = true) ∧ Below w.heap.size w wr) (fun i _ => n - (intOf i).toNat)
  case atStart => exact ⟨0, by omega, rfl, fun j hj => absurd hj (by omega), Below.refl _ _⟩
  case round =>
    obtain ⟨k, hk, rfl, H1, hb⟩ := hrel
    have zb := hb.size
    by_cases hlt : k < n
    · have hB : decide ((k : Int) < n) = true := by simp; omega
      have hI := HXI.out.later hb
      obtain ⟨bp, op, rfl, hbp, x0⟩ := hI.get hlt
      cases e1 : wi (iAt xs k) 0 9
      · have hN := Lib.hid (allN_no (p := ckH1 xs) hlt (by simp [ckH1, e1]))
        clear hI
        go_wp2
        go_quiet ((go_at_call 34; exact quiet_left (Within1_c _ _ _ _)))
        go_wp2
        go_ret
        exact ⟨by rw [hN.out]; rfl, by (repeat first | with_reducible assumption | with_reducible exact Below.refl _ _ | (with_reducible refine Below.alloc ?_ ?side _; case side => (first | omega | (with_reducible exact Below.size (by assumption)) | (simp; done) | (simp; omega))) | (with_reducible refine Below.setCell ?_ ?side _; case side => (first | omega | (with_reducible exact Below.size (by assumption)) | (simp; done) | (simp; omega))) | with_reducible refine Below.drew ?_ | with_reducible refine below_drewN ?_ _ | (with_reducible refine below_step (by assumption) ?side ?_; case side => (first | omega | (with_reducible exact Below.size (by assumption)) | (simp; done) | (simp; omega))))⟩
      · rcases Nat.eq_zero_or_pos k with hk0 | hk0
        · have hK := Lib.hid (by subst hk0; simp [ckH1, e1] : ckH1 xs k = true)
          have hkB : decide (0 < (k : Int)) = false := by simp; omega
          have hkN : decide (0 < k) = false := by simp; omega
          replace hk0 := Lib.hid hk0
          clear hI
          go_wp2
          go_quiet ((go_at_call 34; exact quiet_left (Within1_c _ _ _ _)))
          go_wp2
          go_roundw
          case rel => exact ⟨k + 1, by omega, by go_num, fun j hj => by
            rcases Nat.lt_succ_iff_lt_or_eq.1 hj with h | rfl
            · exact H1.out j h
            · exact hK.out, by (repeat first | with_reducible assumption | with_reducible exact Below.refl _ _ | (with_reducible refine Below.alloc ?_ ?side _; case side => (first | omega | (with_reducible exact Below.size (by assumption)) | (simp; done) | (simp; omega))) | (with_reducible refine Below.setCell ?_ ?side _; case side => (first | omega | (with_reducible exact Below.size (by assumption)) | (simp; done) | (simp; omega))) | with_reducible refine Below.drew ?_ | with_reducible refine below_drewN ?_ _ | (with_reducible refine below_step (by assumption) ?side ?_; case side => (first | omega | (with_reducible exact Below.size (by assumption)) | (simp; done) | (simp; omega))))⟩
          case measure => simp [intOf]; omega
        · have hkB : decide (0 < (k : Int)) = true := by simp; omega
          obtain ⟨bq, oq, e, hbq, x1⟩ := hI.get (show k - 1 < n by omega)
          cases e
          have hm : IntKind.i64.wrap ((k : Int) - 1) = ((k - 1 : Nat) : Int) := by rw [IntWalk.i64_in _ (by omega)]; omega
          have hm1 : decide ((0 : Int) ≤ ((k - 1 : Nat) : Int)) = true := by simp
          have hm2 : decide (((k - 1 : Nat) : Int) < n) = true := by simp; omega
          obtain ⟨u, hu⟩ : ∃ u, iAt xs k = u := ⟨_, rfl⟩
          obtain ⟨v, hv⟩ : ∃ v, iAt xs (k - 1) = v := ⟨_, rfl⟩
          rw [hu] at x0 e1
          rw [hv] at x1
          clear hI
          by_cases e2 : u ≤ v
          · have e2B : decide (u ≤ v) = true := by simpa using e2
            have hN := Lib.hid (allN_no (p := ckH1 xs) hlt (by simp [ckH1, hu, hv, e1, e2]; omega))
            clear hu hv
            go_wp2
            go_quiet ((go_at_call 34; exact quiet_left (Within1_c _ _ _ _)))
            go_wp2
            go_ret
            exact ⟨by rw [hN.out]; rfl, by (repeat first | with_reducible assumption | with_reducible exact Below.refl _ _ | (with_reducible refine Below.alloc ?_ ?side _; case side => (first | omega | (with_reducible exact Below.size (by assumption)) | (simp; done) | (simp; omega))) | (with_reducible refine Below.setCell ?_ ?side _; case side => (first | omega | (with_reducible exact Below.size (by assumption)) | (simp; done) | (simp; omega))) | with_reducible refine Below.drew ?_ | with_reducible refine below_drewN ?_ _ | (with_reducible refine below_step (by assumption) ?side ?_; case side => (first | omega | (with_reducible exact Below.size (by assumption)) | (simp; done) | (simp; omega))))⟩
          · have e2B : decide (u ≤ v) = false := by simpa using e2
            have hK := Lib.hid (by simp [ckH1, hu, hv, e1, e2] : ckH1 xs k = true)
            clear hu hv
            go_wp2
            go_quiet ((go_at_call 34; exact quiet_left (Within1_c _ _ _ _)))
            go_wp2
            go_roundw
            case rel => exact ⟨k + 1, by omega, by go_num, fun j hj => by
              rcases Nat.lt_succ_iff_lt_or_eq.1 hj with h | rfl
              · exact H1.out j h
              · exact hK.out, by (repeat first | with_reducible assumption | with_reducible exact Below.refl _ _ | (with_reducible refine Below.alloc ?_ ?side _; case side => (first | omega | (with_reducible exact Below.size (by assumption)) | (simp; done) | (simp; omega))) | (with_reducible refine Below.setCell ?_ ?side _; case side => (first | omega | (with_reducible exact Below.size (by assumption)) | (simp; done) | (simp; omega))) | with_reducible refine Below.drew ?_ | with_reducible refine below_drewN ?_ _ | (with_reducible refine below_step (by assumption) ?side ?_; case side => (first | omega | (with_reducible exact Below.size (by assumption)) | (simp; done) | (simp; omega))))⟩
            case measure => simp [intOf]; omega
    · obtain rfl : n = k := by omega
      have hB : decide (((n : Nat) : Int) < n) = false := by simp
      have HC := Lib.hid (allN_iff.2 H1.out)
      clear H1
      go_wp2
      go_ret
      exact ⟨by rw [HC.out]; rfl, by (repeat first | with_reducible assumption | with_reducible exact Below.refl _ _ | (with_reducible refine Below.alloc ?_ ?side _; case side => (first | omega | (with_reducible exact Below.size (by assumption)) | (simp; done) | (simp; omega))) | (with_reducible refine Below.setCell ?_ ?side _; case side => (first | omega | (with_reducible exact Below.size (by assumption)) | (simp; done) | (simp; omega))) | with_reducible refine Below.drew ?_ | with_reducible refine below_drewN ?_ _ | (with_reducible refine below_step (by assumption) ?side ?_; case side => (first | omega | (with_reducible exact Below.size (by assumption)) | (simp; done) | (simp; omega))))⟩

end Go.Proofs.Ytmopnbijfcamjaa
