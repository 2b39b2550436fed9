/- The looks at a store (layer 1): Check of bars and of the specification. -/
import Derived.Test.YtdhlnlmhdacblaaTs07
namespace Go.Proofs.Ytdhlnlmhdacblaa
open Go.RowKit
open Go.Sort (grow)
set_option linter.unusedVariables false
set_option linter.unusedSimpArgs false

def erS (b : Bool) : Int := bif b then 0 else 10
def ckH1 (l : List Int) (k : Nat) : Bool := wi (iAt l k) 0 9 && !(decide (0 < k) && decide (iAt l k ≤ iAt l (k - 1)))
theorem ckH_eq (l : List Int) : ckH l = allN l.length (ckH1 l) := rfl
set_option maxRecDepth 100000 in
set_option maxHeartbeats 1600000 in
theorem areHeats_c (A : Option Addr) (n c : Nat) (xs : List Int) (w : World) (hn : n ≤ 40) (HX : IntsAt w A n xs) :
    Calls Try.prog 41 #[.slice A n c] w fun e w' => e = .returned (.bool (ckH xs)) ∧ Below w.heap.size w w' := by
  have hl := HX.1
  rw [ckH_eq, hl]
  have HXI := Lib.hid HX
  clear HX hl
  go_enter Try.func41, Try.ntmps41
  go_wp2
  go_loopw [3] (fun i (wr : World) => ∃ k : Nat, k ≤ n ∧ i = .int .i64 k ∧ Hid (∀ j, j < k → ckH1 xs j = true) ∧ Below w.heap.size w wr) (fun i _ => n - (intOf i).toNat)
  case atStart => exact ⟨0, by omega, rfl, fun j hj => absurd hj (by omega), Below.refl _ _⟩
  case round =>
    obtain ⟨k, hk, rfl, H1, hb⟩ := hrel
    have zb := hb.size
    by_cases hlt : k < n
    · have hB : decide ((k : Int) < n) = true := by simp; omega
      have hI := HXI.out.later hb
      obtain ⟨bp, op, rfl, hbp, x0⟩ := hI.get hlt
      cases e1 : wi (iAt xs k) 0 9
      · have hN := Lib.hid (allN_no (p := ckH1 xs) hlt (by simp [ckH1, e1]))
        clear hI
        go_wp2
        go_quiet ((go_at_call 40; exact quiet_left (Within1_c _ _ _ _)))
        go_wp2
        go_ret
        exact ⟨by rw [hN.out]; rfl, by (repeat first | with_reducible assumption | with_reducible exact Below.refl _ _ | (with_reducible refine Below.alloc ?_ ?side _; case side => (first | omega | (with_reducible exact Below.size (by assumption)) | (simp; done) | (simp; omega))) | (with_reducible refine Below.setCell ?_ ?side _; case side => (first | omega | (with_reducible exact Below.size (by assumption)) | (simp; done) | (simp; omega))) | with_reducible refine Below.drew ?_ | with_reducible refine below_drewN ?_ _ | (with_reducible refine below_step (by assumption) ?side ?_; case side => (first | omega | (with_reducible exact Below.size (by assumption)) | (simp; done) | (simp; omega))))⟩
      · rcases Nat.eq_zero_or_pos k with hk0 | hk0
        · have hK := Lib.hid (by subst hk0; simp [ckH1, e1] : ckH1 xs k = true)
          have hkB : decide (0 < (k : Int)) = false := by simp; omega
          have hkN : decide (0 < k) = false := by simp; omega
          replace hk0 := Lib.hid hk0
          clear hI
          go_wp2
          go_quiet ((go_at_call 40; exact quiet_left (Within1_c _ _ _ _)))
          go_wp2
          go_roundw
          case rel => exact ⟨k + 1, by omega, by go_num, fun j hj => by
            rcases Nat.lt_succ_iff_lt_or_eq.1 hj with h | rfl
            · exact H1.out j h
            · exact hK.out, by (repeat first | with_reducible assumption | with_reducible exact Below.refl _ _ | (with_reducible refine Below.alloc ?_ ?side _; case side => (first | omega | (with_reducible exact Below.size (by assumption)) | (simp; done) | (simp; omega))) | (with_reducible refine Below.setCell ?_ ?side _; case side => (first | omega | (with_reducible exact Below.size (by assumption)) | (simp; done) | (simp; omega))) | with_reducible refine Below.drew ?_ | with_reducible refine below_drewN ?_ _ | (with_reducible refine below_step (by assumption) ?side ?_; case side => (first | omega | (with_reducible exact Below.size (by assumption)) | (simp; done) | (simp; omega))))⟩
          case measure => simp [intOf]; omega
        · have hkB : decide (0 < (k : Int)) = true := by simp; omega
          obtain ⟨bq, oq, e, hbq, x1⟩ := hI.get (show k - 1 < n by omega)
          cases e
          have hm : IntKind.i64.wrap ((k : Int) - 1) = ((k - 1 : Nat) : Int) := by rw [IntWalk.i64_in _ (by omega)]; omega
          have hm1 : decide ((0 : Int) ≤ ((k - 1 : Nat) : Int)) = true := by simp
          have hm2 : decide (((k - 1 : Nat) : Int) < n) = true := by simp; omega
          obtain ⟨u, hu⟩ : ∃ u, iAt xs k = u := ⟨_, rfl⟩
          obtain ⟨v, hv⟩ : ∃ v, iAt xs (k - 1) = v := ⟨_, rfl⟩
          rw [hu] at x0 e1
          rw [hv] at x1
          clear hI
          by_cases e2 : u ≤ v
          · have e2B : decide (u ≤ v) = true := by simpa using e2
            have hN := Lib.hid (allN_no (p := ckH1 xs) hlt (by simp [ckH1, hu, hv, e1, e2]; omega))
            clear hu hv
            go_wp2
            go_quiet ((go_at_call 40; exact quiet_left (Within1_c _ _ _ _)))
            go_wp2
            go_ret
            exact ⟨by rw [hN.out]; rfl, by (repeat first | with_reducible assumption | with_reducible exact Below.refl _ _ | (with_reducible refine Below.alloc ?_ ?side _; case side => (first | omega | (with_reducible exact Below.size (by assumption)) | (simp; done) | (simp; omega))) | (with_reducible refine Below.setCell ?_ ?side _; case side => (first | omega | (with_reducible exact Below.size (by assumption)) | (simp; done) | (simp; omega))) | with_reducible refine Below.drew ?_ | with_reducible refine below_drewN ?_ _ | (with_reducible refine below_step (by assumption) ?side ?_; case side => (first | omega | (with_reducible exact Below.size (by assumption)) | (simp; done) | (simp; omega))))⟩
          · have e2B : decide (u ≤ v) = false := by simpa using e2
            have hK := Lib.hid (by simp [ckH1, hu, hv, e1, e2] : ckH1 xs k = true)
            clear hu hv
            go_wp2
            go_quiet ((go_at_call 40; exact quiet_left (Within1_c _ _ _ _)))
            go_wp2
            go_roundw
            case rel => exact ⟨k + 1, by omega, by go_num, fun j hj => by
              rcases Nat.lt_succ_iff_lt_or_eq.1 hj with h | rfl
              · exact H1.out j h
              · exact hK.out, by (repeat first | with_reducible assumption | with_reducible exact Below.refl _ _ | (with_reducible refine Below.alloc ?_ ?side _; case side => (first | omega | (with_reducible exact Below.size (by assumption)) | (simp; done) | (simp; omega))) | (with_reducible refine Below.setCell ?_ ?side _; case side => (first | omega | (with_reducible exact Below.size (by assumption)) | (simp; done) | (simp; omega))) | with_reducible refine Below.drew ?_ | with_reducible refine below_drewN ?_ _ | (with_reducible refine below_step (by assumption) ?side ?_; case side => (first | omega | (with_reducible exact Below.size (by assumption)) | (simp; done) | (simp; omega))))⟩
            case measure => simp [intOf]; omega
    · obtain rfl : n = k := by omega
      have hB : decide (((n : Nat) : Int) < n) = false := by simp
      have HC := Lib.hid (allN_iff.2 H1.out)
      clear H1
      go_wp2
      go_ret
      exact ⟨by rw [HC.out]; rfl, by (repeat first | with_reducible assumption | with_reducible exact Below.refl _ _ | (with_reducible refine Below.alloc ?_ ?side _; case side => (first | omega | (with_reducible exact Below.size (by assumption)) | (simp; done) | (simp; omega))) | (with_reducible refine Below.setCell ?_ ?side _; case side => (first | omega | (with_reducible exact Below.size (by assumption)) | (simp; done) | (simp; omega))) | with_reducible refine Below.drew ?_ | with_reducible refine below_drewN ?_ _ | (with_reducible refine below_step (by assumption) ?side ?_; case side => (first | omega | (with_reducible exact Below.size (by assumption)) | (simp; done) | (simp; omega))))⟩

def ckB1 (b : Br) : Bool := wi b.heat 0 9 && wi b.long 1 999
def ckP1 (p : Pc) : Bool := wi p.long 1 999 && ckH p.hs
theorem ckS_eq (bs : List Br) (ps : List Pc) (kf wr : Int) {nb np : Nat} (hb : bs.length = nb) (hp : ps.length = np) :
    ckS bs ps kf wr = ((decide (nb ≤ 6) && (decide (np ≤ 8) && (wi kf 0 20 && wi wr 0 8))) && (allN nb (fun k => ckB1 (brAt bs k)) && allN np (fun k => ckP1 (pcAt ps k)))) := by
  subst hb; subst hp; rfl
theorem ckS_x {bs : List Br} {ps : List Pc} {kf wr : Int} {nb np : Nat} (hb : bs.length = nb) (hp : ps.length = np)
    (h : 6 < (nb : Int) ∨ 8 < (np : Int) ∨ wi kf 0 20 = false ∨ wi wr 0 8 = false ∨ (allN nb fun k => ckB1 (brAt bs k)) = false ∨ (allN np fun k => ckP1 (pcAt ps k)) = false) : erS (ckS bs ps kf wr) = 10 := by
  rw [ckS_eq bs ps kf wr hb hp]
  rcases h with h | h | h | h | h | h
  · have : decide (nb ≤ 6) = false := by simp; omega
    simp [erS, this]
  · have : decide (np ≤ 8) = false := by simp; omega
    simp [erS, this]
  all_goals simp [erS, h]
theorem ckS_ok {bs : List Br} {ps : List Pc} {kf wr : Int} {nb np : Nat} (hb : bs.length = nb) (hp : ps.length = np) (h1 : ¬ 6 < (nb : Int)) (h2 : ¬ 8 < (np : Int)) (h3 : wi kf 0 20 = true) (h4 : wi wr 0 8 = true)
    (h5 : ∀ k, k < nb → ckB1 (brAt bs k) = true) (h6 : ∀ k, k < np → ckP1 (pcAt ps k) = true) : erS (ckS bs ps kf wr) = 0 := by
  rw [ckS_eq bs ps kf wr hb hp]
  have e1 : decide (nb ≤ 6) = true := by simp; omega
  have e2 : decide (np ≤ 8) = true := by simp; omega
  rw [e1, e2, h3, h4, allN_iff.2 h5, allN_iff.2 h6]; rfl
set_option maxRecDepth 100000 in
set_option maxHeartbeats 3200000 in
theorem refCheck_c (Ab Ap : Option Addr) (nb cb np cp : Nat) (kf wrg : Int) (bs : List Br) (ms : List Pm) (ps : List Pc) (w : World) (h1 : nb ≤ 40) (h2 : np ≤ 40) (h3 : ∀ k, k < np → (pcAt ps k).hs.length ≤ 40) (HB : BrsAt w Ab nb bs) (HP : PcsAt w Ap np ms ps) :
    Calls Try.prog 18 #[.agg #[.slice Ab nb cb, .int .i64 kf, .slice Ap np cp, .int .i64 wrg]] w fun e w' => e = .returned (.int .i64 (erS (ckS bs ps kf wrg))) ∧ Below w.heap.size w w' := by
  have hBl := HB.1
  have hPl := HP.pl
  have HBI := Lib.hid HB
  have HPI := Lib.hid HP
  have H3 := Lib.hid h3
  clear HB HP h3
  by_cases g1 : (6 : Int) < nb
  · have hE := Lib.hid (ckS_x (kf := kf) (wr := wrg) hBl hPl (.inl g1))
    go_enter Try.func18, Try.ntmps18
    go_wp2
    go_ret
    exact ⟨by rw [hE.out]; rfl, by (repeat first | with_reducible assumption | with_reducible exact Below.refl _ _ | (with_reducible refine Below.alloc ?_ ?side _; case side => (first | omega | (with_reducible exact Below.size (by assumption)) | (simp; done) | (simp; omega))) | (with_reducible refine Below.setCell ?_ ?side _; case side => (first | omega | (with_reducible exact Below.size (by assumption)) | (simp; done) | (simp; omega))) | with_reducible refine Below.drew ?_ | with_reducible refine below_drewN ?_ _ | (with_reducible refine below_step (by assumption) ?side ?_; case side => (first | omega | (with_reducible exact Below.size (by assumption)) | (simp; done) | (simp; omega))))⟩
  by_cases g2 : (8 : Int) < np
  · have hE := Lib.hid (ckS_x (kf := kf) (wr := wrg) hBl hPl (.inr (.inl g2)))
    go_enter Try.func18, Try.ntmps18
    go_wp2_with (go_at_call 40; refine (Within1_c _ _ _ _).mono ?_; rintro e w' ⟨rfl, rfl⟩)
    all_goals
      go_ret
      exact ⟨by rw [hE.out]; rfl, by (repeat first | with_reducible assumption | with_reducible exact Below.refl _ _ | (with_reducible refine Below.alloc ?_ ?side _; case side => (first | omega | (with_reducible exact Below.size (by assumption)) | (simp; done) | (simp; omega))) | (with_reducible refine Below.setCell ?_ ?side _; case side => (first | omega | (with_reducible exact Below.size (by assumption)) | (simp; done) | (simp; omega))) | with_reducible refine Below.drew ?_ | with_reducible refine below_drewN ?_ _ | (with_reducible refine below_step (by assumption) ?side ?_; case side => (first | omega | (with_reducible exact Below.size (by assumption)) | (simp; done) | (simp; omega))))⟩
  cases g3 : wi kf 0 20
  · have hE := Lib.hid (ckS_x (wr := wrg) hBl hPl (.inr (.inr (.inl g3))))
    go_enter Try.func18, Try.ntmps18
    go_wp2_with (go_at_call 40; refine (Within1_c _ _ _ _).mono ?_; rintro e w' ⟨rfl, rfl⟩)
    go_ret
    exact ⟨by rw [hE.out]; rfl, by (repeat first | with_reducible assumption | with_reducible exact Below.refl _ _ | (with_reducible refine Below.alloc ?_ ?side _; case side => (first | omega | (with_reducible exact Below.size (by assumption)) | (simp; done) | (simp; omega))) | (with_reducible refine Below.setCell ?_ ?side _; case side => (first | omega | (with_reducible exact Below.size (by assumption)) | (simp; done) | (simp; omega))) | with_reducible refine Below.drew ?_ | with_reducible refine below_drewN ?_ _ | (with_reducible refine below_step (by assumption) ?side ?_; case side => (first | omega | (with_reducible exact Below.size (by assumption)) | (simp; done) | (simp; omega))))⟩
  cases g4 : wi wrg 0 8
  · have hE := Lib.hid (ckS_x (kf := kf) hBl hPl (.inr (.inr (.inr (.inl g4)))))
    go_enter Try.func18, Try.ntmps18
    go_wp2_with (go_at_call 40; refine (Within1_c _ _ _ _).mono ?_; rintro e w' ⟨rfl, rfl⟩)
    go_ret
    exact ⟨by rw [hE.out]; rfl, by (repeat first | with_reducible assumption | with_reducible exact Below.refl _ _ | (with_reducible refine Below.alloc ?_ ?side _; case side => (first | omega | (with_reducible exact Below.size (by assumption)) | (simp; done) | (simp; omega))) | (with_reducible refine Below.setCell ?_ ?side _; case side => (first | omega | (with_reducible exact Below.size (by assumption)) | (simp; done) | (simp; omega))) | with_reducible refine Below.drew ?_ | with_reducible refine below_drewN ?_ _ | (with_reducible refine below_step (by assumption) ?side ?_; case side => (first | omega | (with_reducible exact Below.size (by assumption)) | (simp; done) | (simp; omega))))⟩
  have HOK := Lib.hid (fun h5 h6 => ckS_ok (bs := bs) (ps := ps) hBl hPl g1 g2 g3 g4 h5 h6)
  have HNB := Lib.hid (fun h => ckS_x (bs := bs) (ps := ps) (kf := kf) (wr := wrg) hBl hPl (.inr (.inr (.inr (.inr (.inl h))))))
  have HNP := Lib.hid (fun h => ckS_x (bs := bs) (ps := ps) (kf := kf) (wr := wrg) hBl hPl (.inr (.inr (.inr (.inr (.inr h))))))
  have n1 : nb ≤ 6 := by omega
  have n2 : np ≤ 8 := by omega
  go_enter Try.func18, Try.ntmps18
  go_wp2_with (go_at_call 40; refine (Within1_c _ _ _ _).mono ?_; rintro e w' ⟨rfl, rfl⟩)
  clear g1 g2 g3 g4 hBl hPl
  go_name_world W hW
  obtain ⟨hB, hz⟩ := al1 hW
  obtain ⟨l_0, q_0, f_0⟩ := al1_0 hW
  have HZ := Lib.hid hz
  have zs := hB.size
  clear hW hz
  go_loopw [3] (fun i (wr : World) => ∃ k : Nat, k ≤ nb ∧ i = .int .i64 k ∧ Hid (∀ j, j < k → ckB1 (brAt bs j) = true) ∧ Below W.heap.size W wr) (fun i _ => nb - (intOf i).toNat)
  case atStart => exact ⟨0, by omega, rfl, fun j hj => absurd hj (by omega), Below.refl _ _⟩
  case round =>
    obtain ⟨k, hk, rfl, H1, hb⟩ := hrel
    obtain ⟨hc, hf⟩ := bcell hb
    have zb := hb.size
    have m0 := Nat.lt_of_lt_of_le l_0 zb
    by_cases hlt : k < nb
    · have hqB : decide ((k : Int) < nb) = true := by simp; omega
      obtain ⟨bp, op, rfl, hbp, x0, x1⟩ := (HBI.out.later (by (repeat first | with_reducible assumption | with_reducible exact Below.refl _ _ | (with_reducible refine Below.alloc ?_ ?side _; case side => (first | omega | (with_reducible exact Below.size (by assumption)) | (simp; done) | (simp; omega))) | (with_reducible refine Below.setCell ?_ ?side _; case side => (first | omega | (with_reducible exact Below.size (by assumption)) | (simp; done) | (simp; omega))) | with_reducible refine Below.drew ?_ | with_reducible refine below_drewN ?_ _ | (with_reducible refine below_step (by assumption) ?side ?_; case side => (first | omega | (with_reducible exact Below.size (by assumption)) | (simp; done) | (simp; omega)))) : Below w.heap.size w wr)).get hlt
      cases e1 : wi (brAt bs k).heat 0 9
      · have hN := Lib.hid (HNB.out (allN_no hlt (by simp [ckB1, e1])))
        go_wp2_with (go_at_call 40; refine (Within1_c _ _ _ _).mono ?_; rintro e w' ⟨rfl, rfl⟩)
        go_ret
        exact ⟨by rw [hN.out]; rfl, by (repeat first | with_reducible assumption | with_reducible exact Below.refl _ _ | (with_reducible refine Below.alloc ?_ ?side _; case side => (first | omega | (with_reducible exact Below.size (by assumption)) | (simp; done) | (simp; omega))) | (with_reducible refine Below.setCell ?_ ?side _; case side => (first | omega | (with_reducible exact Below.size (by assumption)) | (simp; done) | (simp; omega))) | with_reducible refine Below.drew ?_ | with_reducible refine below_drewN ?_ _ | (with_reducible refine below_step (by assumption) ?side ?_; case side => (first | omega | (with_reducible exact Below.size (by assumption)) | (simp; done) | (simp; omega))))⟩
      · cases e2 : wi (brAt bs k).long 1 999
        · have hN := Lib.hid (HNB.out (allN_no hlt (by simp [ckB1, e2])))
          go_wp2_with (go_at_call 40; refine (Within1_c _ _ _ _).mono ?_; rintro e w' ⟨rfl, rfl⟩)
          go_ret
          exact ⟨by rw [hN.out]; rfl, by (repeat first | with_reducible assumption | with_reducible exact Below.refl _ _ | (with_reducible refine Below.alloc ?_ ?side _; case side => (first | omega | (with_reducible exact Below.size (by assumption)) | (simp; done) | (simp; omega))) | (with_reducible refine Below.setCell ?_ ?side _; case side => (first | omega | (with_reducible exact Below.size (by assumption)) | (simp; done) | (simp; omega))) | with_reducible refine Below.drew ?_ | with_reducible refine below_drewN ?_ _ | (with_reducible refine below_step (by assumption) ?side ?_; case side => (first | omega | (with_reducible exact Below.size (by assumption)) | (simp; done) | (simp; omega))))⟩
        · have hK := Lib.hid (by simp [ckB1, e1, e2] : ckB1 (brAt bs k) = true)
          go_wp2_with (go_at_call 40; refine (Within1_c _ _ _ _).mono ?_; rintro e w' ⟨rfl, rfl⟩)
          go_roundw
          case rel => exact ⟨k + 1, by omega, by go_num, fun j hj => by
            rcases Nat.lt_succ_iff_lt_or_eq.1 hj with h | rfl
            · exact H1.out j h
            · exact hK.out, by (repeat first | with_reducible assumption | with_reducible exact Below.refl _ _ | (with_reducible refine Below.alloc ?_ ?side _; case side => (first | omega | (with_reducible exact Below.size (by assumption)) | (simp; done) | (simp; omega))) | (with_reducible refine Below.setCell ?_ ?side _; case side => (first | omega | (with_reducible exact Below.size (by assumption)) | (simp; done) | (simp; omega))) | with_reducible refine Below.drew ?_ | with_reducible refine below_drewN ?_ _ | (with_reducible refine below_step (by assumption) ?side ?_; case side => (first | omega | (with_reducible exact Below.size (by assumption)) | (simp; done) | (simp; omega))))⟩
          case measure => simp [intOf]; omega
    · obtain rfl : nb = k := by omega
      have hqB : decide (((nb : Nat) : Int) < nb) = false := by simp
      go_wp2_with fail
      obtain ⟨wo, hwo⟩ : ∃ wo : World, wo = wr := ⟨_, rfl⟩
      subst hwo
      go_loopw [4] (fun i (wr : World) => ∃ k : Nat, k ≤ np ∧ i = .int .i64 k ∧ Hid (∀ j, j < k → ckP1 (pcAt ps j) = true) ∧ Below wo.heap.size wo wr) (fun i _ => np - (intOf i).toNat)
      case atStart => exact ⟨0, by omega, rfl, fun j hj => absurd hj (by omega), Below.refl _ _⟩
      case round =>
        obtain ⟨k, hk, rfl, H2, hb2⟩ := hrel
        have hbw : Below W.heap.size W wr := hb.trans (hb2.mono zb)
        obtain ⟨hc2, hf2⟩ := bcell hbw
        have zb2 := hbw.size
        have m02 : w.heap.size < wr.heap.size := by omega
        by_cases hlt : k < np
        · have hqB : decide ((k : Int) < np) = true := by simp; omega
          have hPK := HPI.out.later (by (repeat first | with_reducible assumption | with_reducible exact Below.refl _ _ | (with_reducible refine Below.alloc ?_ ?side _; case side => (first | omega | (with_reducible exact Below.size (by assumption)) | (simp; done) | (simp; omega))) | (with_reducible refine Below.setCell ?_ ?side _; case side => (first | omega | (with_reducible exact Below.size (by assumption)) | (simp; done) | (simp; omega))) | with_reducible refine Below.drew ?_ | with_reducible refine below_drewN ?_ _ | (with_reducible refine below_step (by assumption) ?side ?_; case side => (first | omega | (with_reducible exact Below.size (by assumption)) | (simp; done) | (simp; omega)))) : Below w.heap.size w wr)
          obtain ⟨bp, op, rfl, hbp, x0, x1, hI⟩ := hPK.get hlt
          have hln := HPI.out.len hlt
          have h40 := H3.out k hlt
          obtain ⟨hd, hhd⟩ : ∃ h, (pmAt ms k).h = h := ⟨_, rfl⟩
          rw [hhd] at x1 hI hln
          have hah := areHeats_c hd.A hd.n hd.c (pcAt ps k).hs wr (by omega) hI
          clear hhd hln
          clear hPK hI
          cases e1 : wi (pcAt ps k).long 1 999
          · have hN := Lib.hid (HNP.out (allN_no hlt (by simp [ckP1, e1])))
            go_wp2_with (go_at_call 40; refine (Within1_c _ _ _ _).mono ?_; rintro e w' ⟨rfl, rfl⟩)
            go_ret
            exact ⟨by rw [hN.out]; rfl, by (repeat first | with_reducible assumption | with_reducible exact Below.refl _ _ | (with_reducible refine Below.alloc ?_ ?side _; case side => (first | omega | (with_reducible exact Below.size (by assumption)) | (simp; done) | (simp; omega))) | (with_reducible refine Below.setCell ?_ ?side _; case side => (first | omega | (with_reducible exact Below.size (by assumption)) | (simp; done) | (simp; omega))) | with_reducible refine Below.drew ?_ | with_reducible refine below_drewN ?_ _ | (with_reducible refine below_step (by assumption) ?side ?_; case side => (first | omega | (with_reducible exact Below.size (by assumption)) | (simp; done) | (simp; omega))))⟩
          · cases e2 : ckH (pcAt ps k).hs
            · have hN := Lib.hid (HNP.out (allN_no hlt (by simp [ckP1, e2])))
              rw [e2] at hah
              replace hah := Lib.hid hah
              go_wp2_with (first | (go_at_call 40; refine (Within1_c _ _ _ _).mono ?_; rintro e w' ⟨rfl, rfl⟩) | (go_at_call 41; with_reducible refine hah.out.mono ?_; rintro e w' ⟨rfl, hb5⟩))
              go_ret
              exact ⟨by rw [hN.out]; rfl, by (repeat first | with_reducible assumption | with_reducible exact Below.refl _ _ | (with_reducible refine Below.alloc ?_ ?side _; case side => (first | omega | (with_reducible exact Below.size (by assumption)) | (simp; done) | (simp; omega))) | (with_reducible refine Below.setCell ?_ ?side _; case side => (first | omega | (with_reducible exact Below.size (by assumption)) | (simp; done) | (simp; omega))) | with_reducible refine Below.drew ?_ | with_reducible refine below_drewN ?_ _ | (with_reducible refine below_step (by assumption) ?side ?_; case side => (first | omega | (with_reducible exact Below.size (by assumption)) | (simp; done) | (simp; omega))))⟩
            · have hK := Lib.hid (by simp [ckP1, e1, e2] : ckP1 (pcAt ps k) = true)
              rw [e2] at hah
              replace hah := Lib.hid hah
              go_wp2_with (first | (go_at_call 40; refine (Within1_c _ _ _ _).mono ?_; rintro e w' ⟨rfl, rfl⟩) | (go_at_call 41; with_reducible refine hah.out.mono ?_; rintro e w' ⟨rfl, hb5⟩))
              go_roundw
              case rel => exact ⟨k + 1, by omega, by go_num, fun j hj => by
                rcases Nat.lt_succ_iff_lt_or_eq.1 hj with h | rfl
                · exact H2.out j h
                · exact hK.out, by (repeat first | with_reducible assumption | with_reducible exact Below.refl _ _ | (with_reducible refine Below.alloc ?_ ?side _; case side => (first | omega | (with_reducible exact Below.size (by assumption)) | (simp; done) | (simp; omega))) | (with_reducible refine Below.setCell ?_ ?side _; case side => (first | omega | (with_reducible exact Below.size (by assumption)) | (simp; done) | (simp; omega))) | with_reducible refine Below.drew ?_ | with_reducible refine below_drewN ?_ _ | (with_reducible refine below_step (by assumption) ?side ?_; case side => (first | omega | (with_reducible exact Below.size (by assumption)) | (simp; done) | (simp; omega))))⟩
              case measure => simp [intOf]; omega
        · obtain rfl : np = k := by omega
          have hqB : decide (((np : Nat) : Int) < np) = false := by simp
          have HC := Lib.hid (HOK.out H1.out H2.out)
          clear H1 H2
          go_wp2
          go_ret
          exact ⟨by rw [HC.out]; rfl, by (repeat first | with_reducible assumption | with_reducible exact Below.refl _ _ | (with_reducible refine Below.alloc ?_ ?side _; case side => (first | omega | (with_reducible exact Below.size (by assumption)) | (simp; done) | (simp; omega))) | (with_reducible refine Below.setCell ?_ ?side _; case side => (first | omega | (with_reducible exact Below.size (by assumption)) | (simp; done) | (simp; omega))) | with_reducible refine Below.drew ?_ | with_reducible refine below_drewN ?_ _ | (with_reducible refine below_step (by assumption) ?side ?_; case side => (first | omega | (with_reducible exact Below.size (by assumption)) | (simp; done) | (simp; omega))))⟩

set_option maxHeartbeats 400000 in
theorem check1_c (n : Int) (w : World) : Calls Try.prog 101 #[.int .i64 n] w fun e w' => e = .returned (.bool (wi n 0 9)) ∧ w = w' := by
  go_enter Try.func101, Try.ntmps101
  go_wp2_with (go_at_call 102; refine (within_c _ _ _ _).mono ?_; rintro e w' ⟨rfl, rfl⟩)
  go_ret
  exact ⟨rfl, rfl⟩
set_option maxRecDepth 100000 in
set_option maxHeartbeats 6400000 in
theorem check_c (Ab Ap : Option Addr) (nb cb np cp : Nat) (kf wrg : Int) (bs : List Br) (ms : List Pm) (ps : List Pc) (w : World) (h1 : nb ≤ 40) (h2 : np ≤ 40) (h3 : ∀ k, k < np → (pcAt ps k).hs.length ≤ 40) (HB : BrsAt w Ab nb bs) (HP : PcsAt w Ap np ms ps) :
    Calls Try.prog 87 #[.agg #[.slice Ab nb cb, .int .i64 kf, .slice Ap np cp, .int .i64 wrg]] w fun e w' => e = .returned (.int .i64 (erS (ckS bs ps kf wrg))) ∧ Below w.heap.size w w' := by
  have hBl := HB.1
  have hPl := HP.pl
  have HBI := Lib.hid HB
  have HPI := Lib.hid HP
  have H3 := Lib.hid h3
  have en : ∀ args w, (callFunc 101 args).run Try.prog w = .ok (.enter 101 args) w := enters_of Try.func101 (by kernel_rfl) rfl
  clear HB HP h3
  by_cases g1 : (6 : Int) < nb
  · have hE := Lib.hid (ckS_x (kf := kf) (wr := wrg) hBl hPl (.inl g1))
    go_enter Try.func87, Try.ntmps87
    go_wp2
    go_ret
    exact ⟨by rw [hE.out]; rfl, by (repeat first | with_reducible assumption | with_reducible exact Below.refl _ _ | (with_reducible refine Below.alloc ?_ ?side _; case side => (first | omega | (with_reducible exact Below.size (by assumption)) | (simp; done) | (simp; omega))) | (with_reducible refine Below.setCell ?_ ?side _; case side => (first | omega | (with_reducible exact Below.size (by assumption)) | (simp; done) | (simp; omega))) | with_reducible refine Below.drew ?_ | with_reducible refine below_drewN ?_ _ | (with_reducible refine below_step (by assumption) ?side ?_; case side => (first | omega | (with_reducible exact Below.size (by assumption)) | (simp; done) | (simp; omega))))⟩
  by_cases g2 : (8 : Int) < np
  · have hE := Lib.hid (ckS_x (kf := kf) (wr := wrg) hBl hPl (.inr (.inl g2)))
    go_enter Try.func87, Try.ntmps87
    go_wp2_with (go_at_call 102; refine (within_c _ _ _ _).mono ?_; rintro e w' ⟨rfl, rfl⟩)
    all_goals
      go_ret
      exact ⟨by rw [hE.out]; rfl, by (repeat first | with_reducible assumption | with_reducible exact Below.refl _ _ | (with_reducible refine Below.alloc ?_ ?side _; case side => (first | omega | (with_reducible exact Below.size (by assumption)) | (simp; done) | (simp; omega))) | (with_reducible refine Below.setCell ?_ ?side _; case side => (first | omega | (with_reducible exact Below.size (by assumption)) | (simp; done) | (simp; omega))) | with_reducible refine Below.drew ?_ | with_reducible refine below_drewN ?_ _ | (with_reducible refine below_step (by assumption) ?side ?_; case side => (first | omega | (with_reducible exact Below.size (by assumption)) | (simp; done) | (simp; omega))))⟩
  cases g3 : wi kf 0 20
  · have hE := Lib.hid (ckS_x (wr := wrg) hBl hPl (.inr (.inr (.inl g3))))
    go_enter Try.func87, Try.ntmps87
    go_wp2_with (go_at_call 102; refine (within_c _ _ _ _).mono ?_; rintro e w' ⟨rfl, rfl⟩)
    go_ret
    exact ⟨by rw [hE.out]; rfl, by (repeat first | with_reducible assumption | with_reducible exact Below.refl _ _ | (with_reducible refine Below.alloc ?_ ?side _; case side => (first | omega | (with_reducible exact Below.size (by assumption)) | (simp; done) | (simp; omega))) | (with_reducible refine Below.setCell ?_ ?side _; case side => (first | omega | (with_reducible exact Below.size (by assumption)) | (simp; done) | (simp; omega))) | with_reducible refine Below.drew ?_ | with_reducible refine below_drewN ?_ _ | (with_reducible refine below_step (by assumption) ?side ?_; case side => (first | omega | (with_reducible exact Below.size (by assumption)) | (simp; done) | (simp; omega))))⟩
  cases g4 : wi wrg 0 8
  · have hE := Lib.hid (ckS_x (kf := kf) hBl hPl (.inr (.inr (.inr (.inl g4)))))
    go_enter Try.func87, Try.ntmps87
    go_wp2_with (go_at_call 102; refine (within_c _ _ _ _).mono ?_; rintro e w' ⟨rfl, rfl⟩)
    go_ret
    exact ⟨by rw [hE.out]; rfl, by (repeat first | with_reducible assumption | with_reducible exact Below.refl _ _ | (with_reducible refine Below.alloc ?_ ?side _; case side => (first | omega | (with_reducible exact Below.size (by assumption)) | (simp; done) | (simp; omega))) | (with_reducible refine Below.setCell ?_ ?side _; case side => (first | omega | (with_reducible exact Below.size (by assumption)) | (simp; done) | (simp; omega))) | with_reducible refine Below.drew ?_ | with_reducible refine below_drewN ?_ _ | (with_reducible refine below_step (by assumption) ?side ?_; case side => (first | omega | (with_reducible exact Below.size (by assumption)) | (simp; done) | (simp; omega))))⟩
  have HOK := Lib.hid (fun h5 h6 => ckS_ok (bs := bs) (ps := ps) hBl hPl g1 g2 g3 g4 h5 h6)
  have HNB := Lib.hid (fun h => ckS_x (bs := bs) (ps := ps) (kf := kf) (wr := wrg) hBl hPl (.inr (.inr (.inr (.inr (.inl h))))))
  have HNP := Lib.hid (fun h => ckS_x (bs := bs) (ps := ps) (kf := kf) (wr := wrg) hBl hPl (.inr (.inr (.inr (.inr (.inr h))))))
  have n1 : nb ≤ 6 := by omega
  have n2 : np ≤ 8 := by omega
  go_enter Try.func87, Try.ntmps87
  go_wp2_with (go_at_call 102; refine (within_c _ _ _ _).mono ?_; rintro e w' ⟨rfl, rfl⟩)
  clear g1 g2 g3 g4 hBl hPl
  go_name_world W hW
  obtain ⟨hB, hz⟩ := al1 hW
  obtain ⟨l_0, q_0, f_0⟩ := al1_0 hW
  have HZ := Lib.hid hz
  have zs := hB.size
  clear hW hz
  go_loopw [35] (fun i (wr : World) => ∃ k : Nat, k ≤ nb ∧ i = .int .i64 k ∧ Hid (∀ j, j < k → ckB1 (brAt bs j) = true) ∧ Below W.heap.size W wr) (fun i _ => nb - (intOf i).toNat)
  case atStart => exact ⟨0, by omega, rfl, fun j hj => absurd hj (by omega), Below.refl _ _⟩
  case round =>
    obtain ⟨k, hk, rfl, H1, hb⟩ := hrel
    obtain ⟨hc, hf⟩ := bcell hb
    have zb := hb.size
    have m0 := Nat.lt_of_lt_of_le l_0 zb
    by_cases hlt : k < nb
    · have hqB : decide ((k : Int) < nb) = true := by simp; omega
      obtain ⟨bp, op, rfl, hbp, x0, x1⟩ := (HBI.out.later (by (repeat first | with_reducible assumption | with_reducible exact Below.refl _ _ | (with_reducible refine Below.alloc ?_ ?side _; case side => (first | omega | (with_reducible exact Below.size (by assumption)) | (simp; done) | (simp; omega))) | (with_reducible refine Below.setCell ?_ ?side _; case side => (first | omega | (with_reducible exact Below.size (by assumption)) | (simp; done) | (simp; omega))) | with_reducible refine Below.drew ?_ | with_reducible refine below_drewN ?_ _ | (with_reducible refine below_step (by assumption) ?side ?_; case side => (first | omega | (with_reducible exact Below.size (by assumption)) | (simp; done) | (simp; omega)))) : Below w.heap.size w wr)).get hlt
      cases e1 : wi (brAt bs k).heat 0 9
      · have hN := Lib.hid (HNB.out (allN_no hlt (by simp [ckB1, e1])))
        go_wp2_with (first | (go_at_call 102; refine (within_c _ _ _ _).mono ?_; rintro e w' ⟨rfl, rfl⟩) | (go_at_call 101; refine (check1_c _ _).mono ?_; rintro e w' ⟨rfl, rfl⟩))
        go_ret
        exact ⟨by rw [hN.out]; rfl, by (repeat first | with_reducible assumption | with_reducible exact Below.refl _ _ | (with_reducible refine Below.alloc ?_ ?side _; case side => (first | omega | (with_reducible exact Below.size (by assumption)) | (simp; done) | (simp; omega))) | (with_reducible refine Below.setCell ?_ ?side _; case side => (first | omega | (with_reducible exact Below.size (by assumption)) | (simp; done) | (simp; omega))) | with_reducible refine Below.drew ?_ | with_reducible refine below_drewN ?_ _ | (with_reducible refine below_step (by assumption) ?side ?_; case side => (first | omega | (with_reducible exact Below.size (by assumption)) | (simp; done) | (simp; omega))))⟩
      · cases e2 : wi (brAt bs k).long 1 999
        · have hN := Lib.hid (HNB.out (allN_no hlt (by simp [ckB1, e2])))
          go_wp2_with (first | (go_at_call 102; refine (within_c _ _ _ _).mono ?_; rintro e w' ⟨rfl, rfl⟩) | (go_at_call 101; refine (check1_c _ _).mono ?_; rintro e w' ⟨rfl, rfl⟩))
          go_ret
          exact ⟨by rw [hN.out]; rfl, by (repeat first | with_reducible assumption | with_reducible exact Below.refl _ _ | (with_reducible refine Below.alloc ?_ ?side _; case side => (first | omega | (with_reducible exact Below.size (by assumption)) | (simp; done) | (simp; omega))) | (with_reducible refine Below.setCell ?_ ?side _; case side => (first | omega | (with_reducible exact Below.size (by assumption)) | (simp; done) | (simp; omega))) | with_reducible refine Below.drew ?_ | with_reducible refine below_drewN ?_ _ | (with_reducible refine below_step (by assumption) ?side ?_; case side => (first | omega | (with_reducible exact Below.size (by assumption)) | (simp; done) | (simp; omega))))⟩
        · have hK := Lib.hid (by simp [ckB1, e1, e2] : ckB1 (brAt bs k) = true)
          go_wp2_with (first | (go_at_call 102; refine (within_c _ _ _ _).mono ?_; rintro e w' ⟨rfl, rfl⟩) | (go_at_call 101; refine (check1_c _ _).mono ?_; rintro e w' ⟨rfl, rfl⟩))
          go_roundw
          case rel => exact ⟨k + 1, by omega, by go_num, fun j hj => by
            rcases Nat.lt_succ_iff_lt_or_eq.1 hj with h | rfl
            · exact H1.out j h
            · exact hK.out, by (repeat first | with_reducible assumption | with_reducible exact Below.refl _ _ | (with_reducible refine Below.alloc ?_ ?side _; case side => (first | omega | (with_reducible exact Below.size (by assumption)) | (simp; done) | (simp; omega))) | (with_reducible refine Below.setCell ?_ ?side _; case side => (first | omega | (with_reducible exact Below.size (by assumption)) | (simp; done) | (simp; omega))) | with_reducible refine Below.drew ?_ | with_reducible refine below_drewN ?_ _ | (with_reducible refine below_step (by assumption) ?side ?_; case side => (first | omega | (with_reducible exact Below.size (by assumption)) | (simp; done) | (simp; omega))))⟩
          case measure => simp [intOf]; omega
    · obtain rfl : nb = k := by omega
      have hqB : decide (((nb : Nat) : Int) < nb) = false := by simp
      go_wp2_with fail
      obtain ⟨wo, hwo⟩ : ∃ wo : World, wo = wr := ⟨_, rfl⟩
      subst hwo
      go_loopw [54] (fun i (wr : World) => ∃ k : Nat, k ≤ np ∧ i = .int .i64 k ∧ Hid (∀ j, j < k → ckP1 (pcAt ps j) = true) ∧ Below wo.heap.size wo wr) (fun i _ => np - (intOf i).toNat)
      case atStart => exact ⟨0, by omega, rfl, fun j hj => absurd hj (by omega), Below.refl _ _⟩
      case round =>
        obtain ⟨k, hk, rfl, H2, hb2⟩ := hrel
        have hbw : Below W.heap.size W wr := hb.trans (hb2.mono zb)
        obtain ⟨hc2, hf2⟩ := bcell hbw
        have zb2 := hbw.size
        have m02 : w.heap.size < wr.heap.size := by omega
        by_cases hlt : k < np
        · have hqB : decide ((k : Int) < np) = true := by simp; omega
          have hPK := HPI.out.later (by (repeat first | with_reducible assumption | with_reducible exact Below.refl _ _ | (with_reducible refine Below.alloc ?_ ?side _; case side => (first | omega | (with_reducible exact Below.size (by assumption)) | (simp; done) | (simp; omega))) | (with_reducible refine Below.setCell ?_ ?side _; case side => (first | omega | (with_reducible exact Below.size (by assumption)) | (simp; done) | (simp; omega))) | with_reducible refine Below.drew ?_ | with_reducible refine below_drewN ?_ _ | (with_reducible refine below_step (by assumption) ?side ?_; case side => (first | omega | (with_reducible exact Below.size (by assumption)) | (simp; done) | (simp; omega)))) : Below w.heap.size w wr)
          obtain ⟨bp, op, rfl, hbp, x0, x1, hI⟩ := hPK.get hlt
          have hln := HPI.out.len hlt
          have h40 := H3.out k hlt
          obtain ⟨hd, hhd⟩ : ∃ h, (pmAt ms k).h = h := ⟨_, rfl⟩
          rw [hhd] at x1 hI hln
          have hpl : pcAt ps k = pcAt ps k := rfl
          have hn40 : hd.n ≤ 40 := by omega
          have HLN := Lib.hid hln
          have HI := Lib.hid hI
          clear hhd hln hPK hI hpl
          cases e1 : wi (pcAt ps k).long 1 999
          · have hN := Lib.hid (HNP.out (allN_no hlt (by simp [ckP1, e1])))
            go_wp2_with (first | (go_at_call 102; refine (within_c _ _ _ _).mono ?_; rintro e w' ⟨rfl, rfl⟩))
            go_ret
            exact ⟨by rw [hN.out]; rfl, by (repeat first | with_reducible assumption | with_reducible exact Below.refl _ _ | (with_reducible refine Below.alloc ?_ ?side _; case side => (first | omega | (with_reducible exact Below.size (by assumption)) | (simp; done) | (simp; omega))) | (with_reducible refine Below.setCell ?_ ?side _; case side => (first | omega | (with_reducible exact Below.size (by assumption)) | (simp; done) | (simp; omega))) | with_reducible refine Below.drew ?_ | with_reducible refine below_drewN ?_ _ | (with_reducible refine below_step (by assumption) ?side ?_; case side => (first | omega | (with_reducible exact Below.size (by assumption)) | (simp; done) | (simp; omega))))⟩
          · have E1 := Lib.hid e1
            go_wp2_with (first | (go_at_call 102; refine (within_c _ _ _ _).mono ?_; rintro e w' ⟨rfl, rfl⟩))
            go_name_world Wi hWi
            have BWi : Below wr.heap.size wr Wi := (al1 hWi).1
            have zWi := (al1 hWi).2
            have b1 := (al1_0 hWi).2.1 1
            have s0 := hc2
            have hbWi : Below wo.heap.size wo Wi := hb2.trans (BWi.mono hb2.size)
            have hIW := Lib.hid (HI.out.later BWi)
            clear hWi e1 hc2 hf2 x0 x1
            obtain ⟨wo2, hwo2⟩ : ∃ wo2 : World, wo2 = wr := ⟨_, rfl⟩
            subst hwo2
            go_loopw [65] (fun i (wr : World) => ∃ j : Nat, j ≤ hd.n ∧ i = .int .i64 j ∧ Hid (∀ m, m < j → ckH1 (pcAt ps k).hs m = true) ∧ wr = Wi) (fun i _ => hd.n - (intOf i).toNat)
            case atStart => exact ⟨0, by omega, rfl, fun j hj => absurd hj (by omega), rfl⟩
            case round =>
              obtain ⟨j, hj, rfl, H4, rfl⟩ := hrel
              by_cases hlj : j < hd.n
              · have hqB : decide ((j : Int) < hd.n) = true := by simp; omega
                obtain ⟨bq, oq, e, hbq, x0⟩ := hIW.out.get hlj
                obtain ⟨u, hu⟩ : ∃ u, iAt (pcAt ps k).hs j = u := ⟨_, rfl⟩
                rw [hu] at x0
                obtain ⟨A', n', c'⟩ := hd
                simp only at e
                subst e
                simp only at hlj hqB hj hn40 b1 hIW
                have hno : ckH1 (pcAt ps k).hs j = false → erS (ckS bs ps kf wrg) = 10 := fun h => HNP.out (allN_no hlt (by
                  have h5 : ckH (pcAt ps k).hs = false := by rw [ckH_eq]; exact allN_no (by have := HLN.out; simp only at this; omega) h
                  simp [ckP1, h5]))
                cases e2 : wi u 0 9
                · have hN := Lib.hid (hno (by simp [ckH1, hu, e2]))
                  clear hno hu
                  go_wp2_with (first | (go_at_call 101; refine (check1_c _ _).mono ?_; rintro e w' ⟨rfl, rfl⟩))
                  go_ret
                  exact ⟨by rw [hN.out]; rfl, by (repeat first | with_reducible assumption | with_reducible exact Below.refl _ _ | (with_reducible refine Below.alloc ?_ ?side _; case side => (first | omega | (with_reducible exact Below.size (by assumption)) | (simp; done) | (simp; omega))) | (with_reducible refine Below.setCell ?_ ?side _; case side => (first | omega | (with_reducible exact Below.size (by assumption)) | (simp; done) | (simp; omega))) | with_reducible refine Below.drew ?_ | with_reducible refine below_drewN ?_ _ | (with_reducible refine below_step (by assumption) ?side ?_; case side => (first | omega | (with_reducible exact Below.size (by assumption)) | (simp; done) | (simp; omega))))⟩
                · rcases Nat.eq_zero_or_pos j with hk0 | hk0
                  · have hK := Lib.hid (by rw [hk0] at hu ⊢; simp [ckH1, e2, hu] : ckH1 (pcAt ps k).hs j = true)
                    have hkB : decide (0 < (j : Int)) = false := by simp; omega
                    have hkN : decide (0 < j) = false := by simp; omega
                    replace hk0 := Lib.hid hk0
                    clear hno hu
                    go_wp2_with (first | (go_at_call 101; refine (check1_c _ _).mono ?_; rintro e w' ⟨rfl, rfl⟩))
                    go_roundw
                    case rel => exact ⟨j + 1, by omega, by go_num, fun m hm => by
                      rcases Nat.lt_succ_iff_lt_or_eq.1 hm with h | rfl
                      · exact H4.out m h
                      · exact hK.out, trivial⟩
                    case measure => simp [intOf]; omega
                  · have hkB : decide (0 < (j : Int)) = true := by simp; omega
                    obtain ⟨bq', oq', e, hbq', x1⟩ := hIW.out.get (show j - 1 < n' by omega)
                    cases e
                    have hm : IntKind.i64.wrap ((j : Int) - 1) = ((j - 1 : Nat) : Int) := by rw [IntWalk.i64_in _ (by omega)]; omega
                    have hm1 : decide ((0 : Int) ≤ ((j - 1 : Nat) : Int)) = true := by simp
                    have hm2 : decide (((j - 1 : Nat) : Int) < n') = true := by simp; omega
                    obtain ⟨v, hv⟩ : ∃ v, iAt (pcAt ps k).hs (j - 1) = v := ⟨_, rfl⟩
                    rw [hv] at x1
                    by_cases e3 : u ≤ v
                    · have e3B : decide (u ≤ v) = true := by simpa using e3
                      have hN := Lib.hid (hno (by simp [ckH1, hu, hv, e3]; omega))
                      clear hno hu hv
                      go_wp2_with (first | (go_at_call 101; refine (check1_c _ _).mono ?_; rintro e w' ⟨rfl, rfl⟩))
                      go_ret
                      exact ⟨by rw [hN.out]; rfl, by (repeat first | with_reducible assumption | with_reducible exact Below.refl _ _ | (with_reducible refine Below.alloc ?_ ?side _; case side => (first | omega | (with_reducible exact Below.size (by assumption)) | (simp; done) | (simp; omega))) | (with_reducible refine Below.setCell ?_ ?side _; case side => (first | omega | (with_reducible exact Below.size (by assumption)) | (simp; done) | (simp; omega))) | with_reducible refine Below.drew ?_ | with_reducible refine below_drewN ?_ _ | (with_reducible refine below_step (by assumption) ?side ?_; case side => (first | omega | (with_reducible exact Below.size (by assumption)) | (simp; done) | (simp; omega))))⟩
                    · have e3B : decide (u ≤ v) = false := by simpa using e3
                      have hK := Lib.hid (by simp [ckH1, hu, hv, e2, e3] : ckH1 (pcAt ps k).hs j = true)
                      clear hno hu hv
                      go_wp2_with (first | (go_at_call 101; refine (check1_c _ _).mono ?_; rintro e w' ⟨rfl, rfl⟩))
                      go_roundw
                      case rel => exact ⟨j + 1, by omega, by go_num, fun m hm => by
                        rcases Nat.lt_succ_iff_lt_or_eq.1 hm with h | rfl
                        · exact H4.out m h
                        · exact hK.out, trivial⟩
                      case measure => simp [intOf]; omega
              · obtain rfl : hd.n = j := by omega
                have hqB : decide (((hd.n : Nat) : Int) < hd.n) = false := by simp
                have hK : Hid (ckP1 (pcAt ps k) = true) := by
                  show _ = _
                  unfold ckP1; rw [E1.out, ckH_eq, ← HLN.out, allN_iff.2 H4.out]; rfl
                clear H4
                go_wp2
                go_roundw
                case rel => exact ⟨k + 1, by omega, by go_num, fun j hj => by
                  rcases Nat.lt_succ_iff_lt_or_eq.1 hj with h | rfl
                  · exact H2.out j h
                  · exact hK.out, by (repeat first | with_reducible assumption | with_reducible exact Below.refl _ _ | (with_reducible refine Below.alloc ?_ ?side _; case side => (first | omega | (with_reducible exact Below.size (by assumption)) | (simp; done) | (simp; omega))) | (with_reducible refine Below.setCell ?_ ?side _; case side => (first | omega | (with_reducible exact Below.size (by assumption)) | (simp; done) | (simp; omega))) | with_reducible refine Below.drew ?_ | with_reducible refine below_drewN ?_ _ | (with_reducible refine below_step (by assumption) ?side ?_; case side => (first | omega | (with_reducible exact Below.size (by assumption)) | (simp; done) | (simp; omega))))⟩
                case measure => simp [intOf]; omega
        · obtain rfl : np = k := by omega
          have hqB : decide (((np : Nat) : Int) < np) = false := by simp
          have HC := Lib.hid (HOK.out H1.out H2.out)
          clear H1 H2
          go_wp2
          go_ret
          exact ⟨by rw [HC.out]; rfl, by (repeat first | with_reducible assumption | with_reducible exact Below.refl _ _ | (with_reducible refine Below.alloc ?_ ?side _; case side => (first | omega | (with_reducible exact Below.size (by assumption)) | (simp; done) | (simp; omega))) | (with_reducible refine Below.setCell ?_ ?side _; case side => (first | omega | (with_reducible exact Below.size (by assumption)) | (simp; done) | (simp; omega))) | with_reducible refine Below.drew ?_ | with_reducible refine below_drewN ?_ _ | (with_reducible refine below_step (by assumption) ?side ?_; case side => (first | omega | (with_reducible exact Below.size (by assumption)) | (simp; done) | (simp; omega))))⟩

end Go.Proofs.Ytdhlnlmhdacblaa
