/- IsRepair and in of the specification (layer 7). -/
import Derived.Test.YthjjakhmbgnnnaaRi1
import Derived.Test.YthjjakhmbgnnnaaGv7
namespace Go.Proofs.Ythjjakhmbgnnnaa
open Go.RowKit
open Go.Sort (grow)
set_option linter.unusedVariables false

set_option maxHeartbeats 400000 in
theorem in7_c (A : Option Addr) (n c : Nat) (x : Int) (xs : List Int) (w : World) (hn : n ≤ 40) (HX : IntsAt w A n xs) :
    Calls Try.prog 62 #[.slice A n c, .int .i64 x] w fun e w' => e = .returned (.bool (anyN n fun k => iAt xs k == x)) ∧ w = w' := by
  have hin := In_c A n c x xs w hn HX
  obtain ⟨r, hr⟩ : ∃ r, (anyN n fun k => iAt xs k == x) = r := ⟨_, rfl⟩
  rw [hr] at hin ⊢
  replace hin := Lib.hid hin
  clear hr HX
  go_enter Try.func62, Try.ntmps62
  go_wp2_with (go_at_call 27; refine hin.out.mono ?_; rintro e w' ⟨rfl, rfl⟩)
  go_ret
  exact ⟨rfl, rfl⟩
set_option maxRecDepth 100000 in
set_option maxHeartbeats 3200000 in
theorem IsRepair_c (A B : Option Addr) (n c m d : Nat) (q : Cb) (l : List Int) (w : World) (hn : n ≤ 40) (hm : m ≤ 40) (HX : IntsAt w B m l) :
    Calls Try.prog 26 #[.agg #[.slice A n c, .int .i64 q.need, .int .i64 q.gap, .int .i64 q.doubt, .int .i64 q.joins, .int .i64 q.least], .slice B m d] w
      fun e w' => e = .returned (.bool (isR n m l)) ∧ Below w.heap.size w w' := by
  have HXI := Lib.hid HX
  clear HX
  go_enter Try.func26, Try.ntmps26
  go_wp2
  go_name_world W hW
  obtain ⟨hB, hz⟩ := al1 hW
  obtain ⟨l_0, q_0, f_0⟩ := al1_0 hW
  have HZ := Lib.hid hz
  have zs := hB.size
  clear hW hz
  go_loopw [5] (fun i (wr : World) => ∃ k : Nat, k ≤ m ∧ i = .int .i64 k ∧ Hid (∀ j, j < k → stO n l j = true) ∧ Below W.heap.size W wr) (fun i _ => m - (intOf i).toNat)
  case atStart => exact ⟨0, by omega, rfl, fun j hj => absurd hj (by omega), Below.refl _ _⟩
  case round =>
    obtain ⟨k, hk, rfl, H, hb⟩ := hrel
    obtain ⟨hc, hf⟩ := bcell hb
    have zb := hb.size
    have m0 := Nat.lt_of_lt_of_le l_0 zb
    by_cases hlt : k < m
    · have hltB : decide ((k : Int) < m) = true := by simp; omega
      have HX1 := Lib.hid (HXI.out.later (by (repeat first | with_reducible assumption | with_reducible exact Below.refl _ _ | refine below_drewN ?_ _ | refine Below.drew ?_ | refine Below.alloc ?_ (by first | omega | (with_reducible exact Below.size (by assumption)) | (simp; done) | (simp; omega)) _ | refine Below.setCell ?_ (by first | omega | (with_reducible exact Below.size (by assumption)) | (simp; done) | (simp; omega)) _ | refine below_step (by assumption) (by first | omega | (with_reducible exact Below.size (by assumption)) | (simp; done) | (simp; omega)) ?_) : Below w.heap.size w wr))
      obtain ⟨b, o, hB, hb0, x0⟩ := HX1.out.get hlt
      have hst : Hid (stO n l k = (wi (iAt l k) 0 ((n : Int) - 1) && !(decide (0 < k) && decide (iAt l k ≤ iAt l (k - 1))))) := rfl
      have HN := Lib.hid (fun h : stO n l k = false => allN_no (p := stO n l) hlt h)
      have HS := Lib.hid (fun (h : stO n l k = true) j (hj : j < k + 1) => by
        rcases Nat.lt_succ_iff_lt_or_eq.1 hj with h' | rfl
        · exact H.out j h'
        · exact h : stO n l k = true → ∀ j, j < k + 1 → stO n l j = true)
      have hwi := fun v => withinR_c v 0 ((n : Int) - 1)
      have hs1 : IntKind.i64.wrap ((n : Int) - 1) = (n : Int) - 1 := IntWalk.i64_in _ (by omega)
      cases e1 : wi (iAt l k) 0 ((n : Int) - 1)
      · have HF := Lib.hid (HN.out (by rw [hst.out, e1]; rfl))
        obtain ⟨v, hv⟩ : ∃ v, iAt l k = v := ⟨_, rfl⟩
        rw [hv] at x0 e1
        have hwv : ∀ W, Calls Try.prog 52 #[.int .i64 v, .int .i64 0, .int .i64 ((n : Int) - 1)] W fun e w' => e = .returned (.bool false) ∧ W = w' := fun W => by rw [← e1]; exact hwi v W
        replace hwv := Lib.hid hwv
        clear hwi e1 hv
        subst hB
        go_wp2
        go_quiet ((go_at_call 52; exact quiet_left (hwv.out _)))
        go_wp2
        go_ret
        exact ⟨ret_bool HF.out.symm, by (repeat first | with_reducible assumption | with_reducible exact Below.refl _ _ | refine below_drewN ?_ _ | refine Below.drew ?_ | refine Below.alloc ?_ (by first | omega | (with_reducible exact Below.size (by assumption)) | (simp; done) | (simp; omega)) _ | refine Below.setCell ?_ (by first | omega | (with_reducible exact Below.size (by assumption)) | (simp; done) | (simp; omega)) _ | refine below_step (by assumption) (by first | omega | (with_reducible exact Below.size (by assumption)) | (simp; done) | (simp; omega)) ?_)⟩
      · obtain ⟨v, hv⟩ : ∃ v, iAt l k = v := ⟨_, rfl⟩
        rw [hv] at x0 e1 hst
        have hwv : ∀ W, Calls Try.prog 52 #[.int .i64 v, .int .i64 0, .int .i64 ((n : Int) - 1)] W fun e w' => e = .returned (.bool true) ∧ W = w' := fun W => by rw [← e1]; exact hwi v W
        replace hwv := Lib.hid hwv
        rw [e1] at hst
        clear hwi e1 hv
        cases k with
        | zero =>
          have HT := Lib.hid (HS.out (by rw [hst.out]; rfl))
          replace x0 : wr.cell? ⟨b, o, none⟩ = some (.int .i64 v) := x0
          have hz : decide ((0 : Int) < ((0 : Nat) : Int)) = false := rfl
          subst hB
          go_wp2
          go_quiet ((go_at_call 52; exact quiet_left (hwv.out _)))
          go_wp2
          go_roundw
          case rel => exact ⟨0 + 1, by omega, by go_num, HT, by (repeat first | with_reducible assumption | with_reducible exact Below.refl _ _ | refine below_drewN ?_ _ | refine Below.drew ?_ | refine Below.alloc ?_ (by first | omega | (with_reducible exact Below.size (by assumption)) | (simp; done) | (simp; omega)) _ | refine Below.setCell ?_ (by first | omega | (with_reducible exact Below.size (by assumption)) | (simp; done) | (simp; omega)) _ | refine below_step (by assumption) (by first | omega | (with_reducible exact Below.size (by assumption)) | (simp; done) | (simp; omega)) ?_)⟩
          case measure => simp [intOf]; omega
        | succ j =>
          obtain ⟨b2, o2, hB2, hb2, x1⟩ := HX1.out.get (show j < m by omega)
          obtain ⟨rfl, rfl⟩ : b = b2 ∧ o = o2 := by
            rw [hB] at hB2
            simpa using hB2
          rw [show j + 1 - 1 = j from rfl] at hst
          obtain ⟨y, hy⟩ : ∃ y, iAt l j = y := ⟨_, rfl⟩
          rw [hy] at hst x1
          clear hy hB2
          subst hB
          have hs2 : IntKind.i64.wrap (((j + 1 : Nat) : Int) - 1) = (j : Int) := by rw [IntWalk.i64_in _ (by omega)]; omega
          have hs3 : IntKind.i64.wrap ((j : Int) + 1 - 1) = (j : Int) := by rw [IntWalk.i64_in _ (by omega)]; omega
          cases e2 : decide (v ≤ y)
          · rw [e2] at hst
            have HT := Lib.hid (HS.out (by rw [hst.out]; simp))
            go_wp2
            go_quiet ((go_at_call 52; exact quiet_left (hwv.out _)))
            go_wp2
            go_roundw
            case rel => exact ⟨j + 1 + 1, by omega, by go_num, HT, by (repeat first | with_reducible assumption | with_reducible exact Below.refl _ _ | refine below_drewN ?_ _ | refine Below.drew ?_ | refine Below.alloc ?_ (by first | omega | (with_reducible exact Below.size (by assumption)) | (simp; done) | (simp; omega)) _ | refine Below.setCell ?_ (by first | omega | (with_reducible exact Below.size (by assumption)) | (simp; done) | (simp; omega)) _ | refine below_step (by assumption) (by first | omega | (with_reducible exact Below.size (by assumption)) | (simp; done) | (simp; omega)) ?_)⟩
            case measure => simp [intOf]; omega
          · rw [e2] at hst
            have HF := Lib.hid (HN.out (by rw [hst.out]; simp))
            go_wp2
            go_quiet ((go_at_call 52; exact quiet_left (hwv.out _)))
            go_wp2
            go_ret
            exact ⟨ret_bool HF.out.symm, by (repeat first | with_reducible assumption | with_reducible exact Below.refl _ _ | refine below_drewN ?_ _ | refine Below.drew ?_ | refine Below.alloc ?_ (by first | omega | (with_reducible exact Below.size (by assumption)) | (simp; done) | (simp; omega)) _ | refine Below.setCell ?_ (by first | omega | (with_reducible exact Below.size (by assumption)) | (simp; done) | (simp; omega)) _ | refine below_step (by assumption) (by first | omega | (with_reducible exact Below.size (by assumption)) | (simp; done) | (simp; omega)) ?_)⟩
    · obtain rfl : k = m := by omega
      have hltB : decide (((k : Nat) : Int) < k) = false := by simp
      have HT := Lib.hid (allN_iff.2 H.out)
      clear H
      go_wp2
      go_ret
      exact ⟨ret_bool (by rw [isR, HT.out]), by (repeat first | with_reducible assumption | with_reducible exact Below.refl _ _ | refine below_drewN ?_ _ | refine Below.drew ?_ | refine Below.alloc ?_ (by first | omega | (with_reducible exact Below.size (by assumption)) | (simp; done) | (simp; omega)) _ | refine Below.setCell ?_ (by first | omega | (with_reducible exact Below.size (by assumption)) | (simp; done) | (simp; omega)) _ | refine below_step (by assumption) (by first | omega | (with_reducible exact Below.size (by assumption)) | (simp; done) | (simp; omega)) ?_)⟩

end Go.Proofs.Ythjjakhmbgnnnaa
