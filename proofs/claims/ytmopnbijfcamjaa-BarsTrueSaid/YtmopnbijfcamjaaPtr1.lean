/- BarsTrue (layer 1): the walk. -/
import Derived.Test.YtmopnbijfcamjaaSq12
import Derived.Test.YtmopnbijfcamjaaEv1
namespace Go.Proofs.Ytmopnbijfcamjaa
open Go.RowKit
open Go.Sort (grow)
set_option linter.unusedVariables false

set_option maxRecDepth 100000 in
set_option maxHeartbeats 6400000 in
theorem TrueMain_c (Ab Ap As : Option Addr) (nb cb np cp ns cs : Nat) (kf wrg xa xb xr xl : Int) (bs : List Br) (ms : List Pm) (ps : List Pc) (l : List Nat) (w : World) (HB : BrsAt w Ab nb bs) (HP : PcsAt w Ap np ms ps) (HS : IntsAt w As ns (toI l)) (er : rdyS bs ps kf wrg nb np = true)
    (hT : l ∈ trL bs ps kf wrg)
    (hrd : Hid (∀ Z, Below w.heap.size w Z → Calls Try.prog 13 #[.agg #[.slice Ab nb cb, .int .i64 kf, .slice Ap np cp, .int .i64 wrg]] Z fun e Z' => e = .returned (.bool true) ∧ Below Z.heap.size Z Z'))
    (hit : Hid (∀ Z, Below w.heap.size w Z → Calls Try.prog 27 #[.agg #[.slice Ab nb cb, .int .i64 kf, .slice Ap np cp, .int .i64 wrg], .slice As ns cs] Z fun e Z' => e = .returned (.bool true) ∧ Below Z.heap.size Z Z')) :
    Calls Try.prog 12 #[.agg #[.slice Ab nb cb, .int .i64 kf, .slice Ap np cp, .int .i64 wrg], .slice As ns cs, .agg #[.int .i64 xa, .int .i64 xb, .int .i64 xr, .int .i64 xl]] w fun e w' => e = .returned (.bool true) ∧ Below w.heap.size w w' := by
  have hwk := Lib.hid works_c
  obtain ⟨hn4, hp5, h3, hck⟩ := rdyS_ok er
  have h1 : nb ≤ 40 := by omega
  have h2 : np ≤ 40 := by omega
  obtain ⟨⟨hll, hlb⟩, -⟩ := trL_mem.1 hT
  have hbl := HB.1
  have hpl := HP.pl
  rw [hpl] at hll
  rw [hbl] at hlb
  have hns : np = ns := by rw [← HS.1, toI_len]; exact hll.symm
  subst hns
  have h4 : np ≤ 40 := h2
  obtain ⟨L1, L2, L3, L4, L5, L6⟩ := true_law hck hT
  have hfi : ∀ V, Below w.heap.size w V → Calls Try.prog 45 #[.agg #[.slice Ab nb cb, .int .i64 kf, .slice Ap np cp, .int .i64 wrg], .slice As np cs] V fun e V' => e = .returned (.tuple #[.bool true, .int .i64 0]) ∧ Below V.heap.size V V' := fun V hV => by
    have := fits_c1 Ab Ap As nb cb np cp np cs kf wrg bs ms ps (toI l) V h1 h2 h2 h3 (HB.later hV) (HP.later hV) (HS.later hV)
    rw [L1] at this
    exact this
  replace hfi := Lib.hid hfi
  have hfe : ∀ V, Below w.heap.size w V → Calls Try.prog 35 #[.agg #[.slice Ab nb cb, .int .i64 kf, .slice Ap np cp, .int .i64 wrg]] V fun e V' => e = .returned (.tuple #[.int .i64 (fewP bs ps kf wrg).1, .int .i64 0]) ∧ Below V.heap.size V V' := fun V hV => by
    have := fewest_c Ab Ap nb cb np cp kf wrg bs ms ps V h1 h2 h3 (HB.later hV) (HP.later hV)
    rw [L3] at this
    exact this
  have hle : ∀ V, Below w.heap.size w V → Calls Try.prog 23 #[.agg #[.slice Ab nb cb, .int .i64 kf, .slice Ap np cp, .int .i64 wrg]] V fun e V' => e = .returned (.tuple #[.int .i64 (leastP bs ps kf wrg), .int .i64 0]) ∧ Below V.heap.size V V' := fun V hV => by
    have := least_c Ab Ap nb cb np cp kf wrg bs ms ps V h1 h2 h3 (HB.later hV) (HP.later hV)
    rw [L2] at this
    exact this
  have hst : ∀ V, Below w.heap.size w V → Calls Try.prog 40 #[.agg #[.slice Ab nb cb, .int .i64 kf, .slice Ap np cp, .int .i64 wrg]] V fun e V' => ∃ A c, e = .returned (.tuple #[.slice A (strP bs ps kf wrg).length c, .int .i64 0]) ∧ IntsAt V' A (strP bs ps kf wrg).length (strP bs ps kf wrg) ∧ Below V.heap.size V V' := fun V hV => by
    have := strange_c Ab Ap nb cb np cp kf wrg bs ms ps V h1 h2 h3 (HB.later hV) (HP.later hV)
    rw [L2] at this
    refine this.mono fun e W' => ?_
    rintro ⟨v, rfl, ho, hb⟩
    obtain ⟨A, c, rfl, -, hs⟩ := SlAt.of_own (d := (0 : Int)) encI_len ho rfl
    exact ⟨A, c, rfl, ints_iff.2 hs, hb⟩
  have hwg : ∀ V, Below w.heap.size w V → Calls Try.prog 49 #[.agg #[.slice Ab nb cb, .int .i64 kf, .slice Ap np cp, .int .i64 wrg], .slice As np cs] V fun e V' => e = .returned (.int .i64 (wgB bs ps l : Nat)) ∧ Below V.heap.size V V' := fun V hV =>
    refWrongs_c Ab Ap As nb cb np cp np cs kf wrg bs ms ps l V h2 hlb h3 (HB.later hV) (HP.later hV) (HS.later hV) (Nat.le_refl _)
  have hus : ∀ V, Below w.heap.size w V → Calls Try.prog 28 #[.agg #[.slice Ab nb cb, .int .i64 kf, .slice Ap np cp, .int .i64 wrg], .slice As np cs] V fun e V' => e = .returned (.int .i64 (usL nb l : Nat)) ∧ Below V.heap.size V V' := fun V hV =>
    refUsed_c Ab Ap As nb cb np cp np cs kf wrg l V h1 h2 (HS.later hV)
  rw [hbl] at L6
  obtain ⟨LS1, LS2⟩ := true_str hck hT
  rw [hpl] at LS1
  obtain ⟨S, hS⟩ : ∃ S, strP bs ps kf wrg = S := ⟨_, rfl⟩
  rw [hS] at hst LS1 LS2
  obtain ⟨m9, hm9⟩ : ∃ m, S.length = m := ⟨_, rfl⟩
  rw [hm9] at hst LS1 LS2
  obtain ⟨fa, hfa⟩ : ∃ m, (fewP bs ps kf wrg).1 = m := ⟨_, rfl⟩
  rw [hfa] at hfe L4
  obtain ⟨la, hla⟩ : ∃ m, leastP bs ps kf wrg = m := ⟨_, rfl⟩
  rw [hla] at hle L5 L6
  obtain ⟨wg, hwgE⟩ : ∃ m : Int, ((wgB bs ps l : Nat) : Int) = m := ⟨_, rfl⟩
  rw [hwgE] at hwg L4
  obtain ⟨us, husE⟩ : ∃ m : Int, ((usL nb l : Nat) : Int) = m := ⟨_, rfl⟩
  rw [husE] at hus L6
  rw [hpl] at LS2
  replace LS2 := Lib.hid LS2
  replace hfe := Lib.hid hfe
  replace hle := Lib.hid hle
  replace hst := Lib.hid hst
  replace hwg := Lib.hid hwg
  replace hus := Lib.hid hus
  have t0 : decide ((40 : Int) < np) = false := by simp; omega
  have t1 : decide (wg < fa) = false := by simp; omega
  have t2 : decide (us < la) = false := by simp; omega
  have t3 : decide (fa < 0) = false := by simp; omega
  have t4 : decide (la < 0) = false := by simp; omega
  have t5 : decide ((40 : Int) < m9) = false := by simp; omega
  have hm40 : m9 ≤ 40 := by omega
  have hip : Hid (∀ V x, Calls Try.prog 14 #[.agg #[.slice Ab nb cb, .int .i64 kf, .slice Ap np cp, .int .i64 wrg], .int .i64 x] V fun e V' => e = .returned (.bool (wi x 0 ((np : Int) - 1))) ∧ Below V.heap.size V V') := Lib.hid fun V x => IsPiece_c Ab Ap nb cb np cp kf wrg x V h2
  have hiw : Hid (∀ q, q < np → ∀ V, Below w.heap.size w V → Calls Try.prog 50 #[.agg #[.slice Ab nb cb, .int .i64 kf, .slice Ap np cp, .int .i64 wrg], .slice As np cs, .int .i64 q] V fun e V' => e = .returned (.bool (wrB bs ps q (gN l q))) ∧ Below V.heap.size V V') := Lib.hid fun q hq V hV =>
    refWrong_c Ab Ap As nb cb np cp np cs kf wrg bs ms ps l V q hlb h3 (HB.later hV) (HP.later hV) (HS.later hV) (Nat.le_refl _) hq
  have hre : Hid (∀ b, b < nb → ∀ V, Below w.heap.size w V → Calls Try.prog 31 #[.agg #[.slice Ab nb cb, .int .i64 kf, .slice Ap np cp, .int .i64 wrg], .int .i64 b] V fun e V' => e = .returned (.tuple #[.agg #[.int .i64 (restP bs ps kf wrg b).1.lo, .int .i64 (restP bs ps kf wrg b).1.hi], .int .i64 0]) ∧ Below V.heap.size V V') := Lib.hid fun b hb V hV => by
    have := rest_c Ab Ap nb cb np cp kf wrg b bs ms ps V h1 h2 h3 (HB.later hV) (HP.later hV)
    rw [(true_rest hck hT (by rw [hbl]; exact hb)).1] at this
    exact this
  have hrl : Hid (∀ b, b < nb → (restP bs ps kf wrg b).1.lo ≤ rsB bs ps kf l b ∧ rsB bs ps kf l b ≤ (restP bs ps kf wrg b).1.hi) := Lib.hid fun b hb => (true_rest hck hT (by rw [hbl]; exact hb)).2
  have hro : Hid (∀ b, b < nb → ∀ V, Below w.heap.size w V → Calls Try.prog 51 #[.agg #[.slice Ab nb cb, .int .i64 kf, .slice Ap np cp, .int .i64 wrg], .slice As np cs, .int .i64 b] V fun e V' => e = .returned (.int .i64 (rsB bs ps kf l b)) ∧ Below V.heap.size V V') := Lib.hid fun b hb V hV =>
    RestOf_c Ab Ap As nb cb np cp np cs b kf wrg bs ms ps l V hck (HB.later hV) (HP.later hV) (HS.later hV) hb (Nat.le_refl _)
  have hrm : ∀ V, Below w.heap.size w V → Calls Try.prog 21 #[.agg #[.slice Ab nb cb, .int .i64 kf, .slice Ap np cp, .int .i64 wrg], .int .i64 xl] V fun e V' => e = .returned (.tuple #[.int .i64 (roomP bs ps kf wrg xl).1, .int .i64 (roomP bs ps kf wrg xl).2]) ∧ Below V.heap.size V V' := fun V hV =>
    room_c Ab Ap nb cb np cp kf wrg xl bs ms ps V h1 h2 h3 (HB.later hV) (HP.later hV)
  have hhr : wi xl 1 999 = true → ∀ V, Below w.heap.size w V → Calls Try.prog 53 #[.agg #[.slice Ab nb cb, .int .i64 kf, .slice Ap np cp, .int .i64 wrg], .slice As np cs, .int .i64 xl] V fun e V' => e = .returned (.bool (hrB bs ps kf xl l)) ∧ Below V.heap.size V V' := fun hx V hV =>
    refHasRoom_c Ab Ap As nb cb np cp np cs kf wrg bs ms ps l V xl hx hck (HB.later hV) (HP.later hV) (HS.later hV) (Nat.le_refl _)
  have LR := true_room (lg := xl) hck hT
  have HBI := Lib.hid HB
  have HPI := Lib.hid HP
  have HSI := Lib.hid HS
  have H3 := Lib.hid h3
  have HCK := Lib.hid hck
  have HT := Lib.hid hT
  have HBL := Lib.hid hbl
  have HPL := Lib.hid hpl
  have HLB := Lib.hid hlb
  obtain ⟨rk, hrk⟩ : ∃ r, (roomP bs ps kf wrg xl).1 = r := ⟨_, rfl⟩
  obtain ⟨re, hre2⟩ : ∃ r, (roomP bs ps kf wrg xl).2 = r := ⟨_, rfl⟩
  obtain ⟨hr, hhrE⟩ : ∃ r, hrB bs ps kf xl l = r := ⟨_, rfl⟩
  rw [hrk, hre2] at hrm LR
  rw [hhrE] at hhr LR
  replace hrm := Lib.hid hrm
  replace hhr := Lib.hid hhr
  replace LR := Lib.hid LR
  clear er HB HP HS h3 hck hT hll hlb hbl hpl L1 L2 L3 L4 L5 L6 hS hfa hla hwgE husE hrk hre2 hhrE LS1 hm9
  go_enter Try.func12, Try.ntmps12
  go_wp2_with fail
  obtain ⟨X, hX⟩ : ∃ X, (w.alloc (.cells #[.slice Ab nb cb, .int .i64 kf, .slice Ap np cp, .int .i64 wrg] 25)).alloc (.cells #[.int .i64 xa, .int .i64 xb, .int .i64 xr, .int .i64 xl] 49) = X := ⟨_, rfl⟩
  rw [hX]
  have BX : Below w.heap.size w X := (al2 hX).1
  have zX : X.heap.size = w.heap.size + 2 := (al2 hX).2
  have P0 := Lib.hid (al2_0 hX).2.1
  have P1 := Lib.hid (al2_1 hX).2.1
  have zw : w.heap.size ≤ X.heap.size := by omega
  have n0 : w.heap.size < X.heap.size := by omega
  have n1 : w.heap.size + 1 < X.heap.size := by omega
  clear hX
  refine (hrd.out X BX).mono ?_
  rintro e w1 ⟨rfl, b1⟩
  have D := Lib.hid (fun V (h : Below X.heap.size X V) => BX.trans (h.mono zw))
  have c1_0 := fun j => (b1.cell (p := ⟨w.heap.size, j, none⟩) n0).trans (P0.out j)
  have c1_1 := fun j => (b1.cell (p := ⟨w.heap.size + 1, j, none⟩) n1).trans (P1.out j)
  have z1 := b1.size
  go_wp2_with fail
  refine (hit.out _ (D.out _ b1)).mono ?_
  rintro e w2 ⟨rfl, hb2⟩
  have b2 : Below X.heap.size X w2 := b1.trans (hb2.mono z1)
  clear hb2 c1_0 c1_1 b1 z1
  have c2_0 := fun j => (b2.cell (p := ⟨w.heap.size, j, none⟩) n0).trans (P0.out j)
  have c2_1 := fun j => (b2.cell (p := ⟨w.heap.size + 1, j, none⟩) n1).trans (P1.out j)
  have z2 := b2.size
  go_wp2_with fail
  refine (hfi.out _ (D.out _ b2)).mono ?_
  rintro e w3 ⟨rfl, hb3⟩
  have b3 : Below X.heap.size X w3 := b2.trans (hb3.mono z2)
  clear hb3 c2_0 c2_1 b2 z2
  have c3_0 := fun j => (b3.cell (p := ⟨w.heap.size, j, none⟩) n0).trans (P0.out j)
  have c3_1 := fun j => (b3.cell (p := ⟨w.heap.size + 1, j, none⟩) n1).trans (P1.out j)
  have z3 := b3.size
  go_wp2_with fail
  refine (hfe.out _ (D.out _ b3)).mono ?_
  rintro e w4 ⟨rfl, hb4⟩
  have b4 : Below X.heap.size X w4 := b3.trans (hb4.mono z3)
  clear hb4 c3_0 c3_1 b3 z3
  have c4_0 := fun j => (b4.cell (p := ⟨w.heap.size, j, none⟩) n0).trans (P0.out j)
  have c4_1 := fun j => (b4.cell (p := ⟨w.heap.size + 1, j, none⟩) n1).trans (P1.out j)
  have z4 := b4.size
  go_wp2_with fail
  refine (hle.out _ (D.out _ b4)).mono ?_
  rintro e w5 ⟨rfl, hb5⟩
  have b5 : Below X.heap.size X w5 := b4.trans (hb5.mono z4)
  clear hb5 c4_0 c4_1 b4 z4
  have c5_0 := fun j => (b5.cell (p := ⟨w.heap.size, j, none⟩) n0).trans (P0.out j)
  have c5_1 := fun j => (b5.cell (p := ⟨w.heap.size + 1, j, none⟩) n1).trans (P1.out j)
  have z5 := b5.size
  go_wp2_with fail
  refine (hst.out _ (D.out _ b5)).mono ?_
  rintro e w6 ⟨A9, c9, rfl, hi9, hb6⟩
  have b6 : Below X.heap.size X w6 := b5.trans (hb6.mono z5)
  have HI9 := Lib.hid hi9
  clear hb6 c5_0 c5_1 b5 z5 hi9
  have c6_0 := fun j => (b6.cell (p := ⟨w.heap.size, j, none⟩) n0).trans (P0.out j)
  have c6_1 := fun j => (b6.cell (p := ⟨w.heap.size + 1, j, none⟩) n1).trans (P1.out j)
  have z6 := b6.size
  go_wp2_with fail
  refine (hwg.out _ (D.out _ b6)).mono ?_
  rintro e w7 ⟨rfl, hb7⟩
  replace HI9 := Lib.hid (HI9.out.later hb7)
  have b7 : Below X.heap.size X w7 := b6.trans (hb7.mono z6)
  clear hb7 c6_0 c6_1 b6 z6
  have c7_0 := fun j => (b7.cell (p := ⟨w.heap.size, j, none⟩) n0).trans (P0.out j)
  have c7_1 := fun j => (b7.cell (p := ⟨w.heap.size + 1, j, none⟩) n1).trans (P1.out j)
  have z7 := b7.size
  go_wp2_with fail
  refine (hus.out _ (D.out _ b7)).mono ?_
  rintro e w8 ⟨rfl, hb8⟩
  replace HI9 := Lib.hid (HI9.out.later hb8)
  have b8 : Below X.heap.size X w8 := b7.trans (hb8.mono z7)
  clear hb8 c7_0 c7_1 b7 z7
  have c8_0 := fun j => (b8.cell (p := ⟨w.heap.size, j, none⟩) n0).trans (P0.out j)
  have c8_1 := fun j => (b8.cell (p := ⟨w.heap.size + 1, j, none⟩) n1).trans (P1.out j)
  have z8 := b8.size
  go_wp2_with fail
  clear c8_0 c8_1
  clear hit hfi hfe hle hst hwg hus hrd t0 t1 t2 t3 t4 t5
  go_loopw [15] (fun i (wr : World) => ∃ k : Nat, k ≤ m9 ∧ i = .int .i64 k ∧ Below w8.heap.size w8 wr) (fun i _ => m9 - (intOf i).toNat)
  case atStart => exact ⟨0, by omega, rfl, Below.refl _ _⟩
  case round =>
    obtain ⟨k, hk, rfl, hb⟩ := hrel
    have b9 : Below X.heap.size X wr := b8.trans (hb.mono z8)
    have c9_0 := fun j => (b9.cell (p := ⟨w.heap.size, j, none⟩) n0).trans (P0.out j)
    have c9_1 := fun j => (b9.cell (p := ⟨w.heap.size + 1, j, none⟩) n1).trans (P1.out j)
    have z9 := b9.size
    have zr := hb.size
    by_cases hlt : k < m9
    · have hqB : decide ((k : Int) < m9) = true := by simp; omega
      obtain ⟨g, o, rfl, hg, x0⟩ := (HI9.out.later hb).get hlt
      obtain ⟨q, hq, eq, hqw⟩ := LS2.out k hlt
      rw [eq] at x0
      have hp1 := hip.out
      have hw1 := hiw.out q hq
      rw [hqw] at hw1
      have hq1 : wi (q : Int) 0 ((np : Int) - 1) = true := wi_true.2 (by omega)
      have hp2 := fun V => hp1 V (q : Int)
      rw [hq1] at hp2
      have HP2 := Lib.hid hp2
      have HW1 := Lib.hid hw1
      clear hp1 hp2 hw1 eq hqw hq1
      have m0 : w.heap.size < wr.heap.size := by omega
      go_upto_region 12 with (fail)
      have hcq := fun p : Regrown => (bcell (below_regrown wr p.d p.os)).1
      refine wp_region_quiet_below (by kernel_rfl) (by kernel_rfl) ?_
      repeat (go_big_quiet_step ((first | (go_at_call 14; exact Calls.regrown_of (HP2.out _)) | (go_at_call 50; exact Calls.regrown_of (HW1.out _ (D.out _ (b9.trans ((below_regrown _ _ _).mono z9))))))))
      refine wpQuiet_nil ?_
      intro wq hq
      obtain ⟨pq, hq⟩ := hq
      have hbq : Below wr.heap.size wr wq := by rw [hq]; exact below_regrown _ _ _
      clear hq hcq pq
      obtain ⟨hcq, hfq⟩ := bcell hbq
      have zq := hbq.size
      go_wp2_with fail
      go_roundw
      case rel => exact ⟨k + 1, by omega, by go_num, by (repeat first | with_reducible assumption | with_reducible exact Below.refl _ _ | (with_reducible refine Below.alloc ?_ ?side _; case side => (first | omega | (with_reducible exact Below.size (by assumption)) | (simp; done) | (simp; omega))) | (with_reducible refine Below.setCell ?_ ?side _; case side => (first | omega | (with_reducible exact Below.size (by assumption)) | (simp; done) | (simp; omega))) | with_reducible refine Below.drew ?_ | with_reducible refine below_drewN ?_ _ | (with_reducible refine below_step (by assumption) ?side ?_; case side => (first | omega | (with_reducible exact Below.size (by assumption)) | (simp; done) | (simp; omega))))⟩
      case measure => simp [intOf]; omega
    · obtain rfl : m9 = k := by omega
      have hqB : decide (((m9 : Nat) : Int) < m9) = false := by simp
      clear HI9 LS2
      go_wp2_with fail
      clear c9_0 c9_1
      obtain ⟨wo, rfl⟩ : ∃ wo : World, wo = wr := ⟨_, rfl⟩
      clear hqB hk
      go_loopw [16] (fun i (wr : World) => ∃ k : Nat, k ≤ nb ∧ i = .int .i64 k ∧ Below wo.heap.size wo wr) (fun i _ => nb - (intOf i).toNat)
      case atStart => exact ⟨0, by omega, rfl, Below.refl _ _⟩
      case round =>
        obtain ⟨k, hk, rfl, hb⟩ := hrel
        have b10 : Below X.heap.size X wr := b9.trans (hb.mono z9)
        have c10_0 := fun j => (b10.cell (p := ⟨w.heap.size, j, none⟩) n0).trans (P0.out j)
        have c10_1 := fun j => (b10.cell (p := ⟨w.heap.size + 1, j, none⟩) n1).trans (P1.out j)
        have z10 := b10.size
        have zr := hb.size
        by_cases hlt : k < nb
        · have hqB : decide ((k : Int) < nb) = true := by simp; omega
          have hq1 := hre.out k hlt
          have hq2 := hro.out k hlt
          have hq3 := hrl.out k hlt
          obtain ⟨lo, hlo⟩ : ∃ v, (restP bs ps kf wrg k).1.lo = v := ⟨_, rfl⟩
          obtain ⟨hi, hhi⟩ : ∃ v, (restP bs ps kf wrg k).1.hi = v := ⟨_, rfl⟩
          obtain ⟨rs, hrs⟩ : ∃ v, rsB bs ps kf l k = v := ⟨_, rfl⟩
          rw [hlo, hhi] at hq1 hq3
          rw [hrs] at hq2 hq3
          have u1 : decide (rs < lo) = false := by simp; omega
          have u2 : decide (hi < rs) = false := by simp; omega
          have HQ1 := Lib.hid hq1
          have HQ2 := Lib.hid hq2
          clear hq1 hq2 hq3 hlo hhi hrs
          go_wp2_with fail
          refine (HQ1.out _ (D.out _ b10)).mono ?_
          rintro e w11 ⟨rfl, hb11⟩
          have b11 : Below X.heap.size X w11 := b10.trans (hb11.mono z10)
          clear c10_0 c10_1
          have c11_0 := fun j => (b11.cell (p := ⟨w.heap.size, j, none⟩) n0).trans (P0.out j)
          have c11_1 := fun j => (b11.cell (p := ⟨w.heap.size + 1, j, none⟩) n1).trans (P1.out j)
          have z11 := b11.size
          have hbb : Below wo.heap.size wo w11 := hb.trans (hb11.mono zr)
          have zbb := hbb.size
          go_upto_region 18 with (fail)
          go_name_world Y hY
          have KY : Hid (Blk Y w11.heap.size 52 #[.int .i64 lo, .int .i64 hi]) := Lib.hid (by rw [← hY]; exact Blk.new w11 _ _)
          have bY : Below w11.heap.size w11 Y := by rw [← hY]; (repeat first | with_reducible assumption | with_reducible exact Below.refl _ _ | (with_reducible refine Below.alloc ?_ ?side _; case side => (first | omega | (with_reducible exact Below.size (by assumption)) | (simp; done) | (simp; omega))) | (with_reducible refine Below.setCell ?_ ?side _; case side => (first | omega | (with_reducible exact Below.size (by assumption)) | (simp; done) | (simp; omega))) | with_reducible refine Below.drew ?_ | with_reducible refine below_drewN ?_ _ | (with_reducible refine below_step (by assumption) ?side ?_; case side => (first | omega | (with_reducible exact Below.size (by assumption)) | (simp; done) | (simp; omega))))
          clear hY c11_0 c11_1
          have b12 : Below X.heap.size X Y := b11.trans (bY.mono z11)
          have hbY : Below wo.heap.size wo Y := hbb.trans (bY.mono zbb)
          have lY := KY.out.lt
          have c12_0 := fun j => (b12.cell (p := ⟨w.heap.size, j, none⟩) n0).trans (P0.out j)
          have c12_1 := fun j => (b12.cell (p := ⟨w.heap.size + 1, j, none⟩) n1).trans (P1.out j)
          have z12 := b12.size
          go_wp2_with fail
          refine (HQ2.out _ (D.out _ b12)).mono ?_
          rintro e w13 ⟨rfl, hb13⟩
          have b13 : Below X.heap.size X w13 := b12.trans (hb13.mono z12)
          have K13 := KY.out.below hb13 lY
          have cK := K13.cell
          have hb0 : Below wo.heap.size wo w13 := hbY.trans (hb13.mono hbY.size)
          clear c12_0 c12_1 K13
          go_wp2_with fail
          go_roundw
          case rel => exact ⟨k + 1, by omega, by go_num, by (repeat first | with_reducible assumption | with_reducible exact Below.refl _ _ | (with_reducible refine Below.alloc ?_ ?side _; case side => (first | omega | (with_reducible exact Below.size (by assumption)) | (simp; done) | (simp; omega))) | (with_reducible refine Below.setCell ?_ ?side _; case side => (first | omega | (with_reducible exact Below.size (by assumption)) | (simp; done) | (simp; omega))) | with_reducible refine Below.drew ?_ | with_reducible refine below_drewN ?_ _ | (with_reducible refine below_step (by assumption) ?side ?_; case side => (first | omega | (with_reducible exact Below.size (by assumption)) | (simp; done) | (simp; omega))))⟩
          case measure => simp [intOf]; omega
        · obtain rfl : nb = k := by omega
          have hqB : decide (((nb : Nat) : Int) < nb) = false := by simp
          clear hre hrl hro hiw
          go_wp2_with fail
          clear hlt hqB hk hb
          rcases LR.out with rfl | ⟨rfl, hwi, hagr⟩
          · refine (hrm.out _ (D.out _ b10)).mono ?_
            rintro e w11 ⟨rfl, hb11⟩
            have b11 : Below X.heap.size X w11 := b10.trans (hb11.mono z10)
            clear hb11 c10_0 c10_1 b10 z10
            have c11_0 := fun j => (b11.cell (p := ⟨w.heap.size, j, none⟩) n0).trans (P0.out j)
            have c11_1 := fun j => (b11.cell (p := ⟨w.heap.size + 1, j, none⟩) n1).trans (P1.out j)
            have z11 := b11.size
            go_wp2_with fail
            clear hrm hhr LR
            cases ea : wi xa 0 ((np : Int) - 1)
            · have hpA : ∀ V, Calls Try.prog 14 #[.agg #[.slice Ab nb cb, .int .i64 kf, .slice Ap np cp, .int .i64 wrg], .int .i64 xa] V fun e V' => e = .returned (.bool false) ∧ Below V.heap.size V V' := fun V => by have := hip.out V xa; rw [ea] at this; exact this
              replace hpA := Lib.hid hpA
              refine (hpA.out _).mono ?_
              rintro e w12 ⟨rfl, hb12⟩
              have b12 : Below X.heap.size X w12 := b11.trans (hb12.mono z11)
              clear hb12 c11_0 c11_1 b11 z11
              have c12_0 := fun j => (b12.cell (p := ⟨w.heap.size, j, none⟩) n0).trans (P0.out j)
              have c12_1 := fun j => (b12.cell (p := ⟨w.heap.size + 1, j, none⟩) n1).trans (P1.out j)
              have z12 := b12.size
              go_wp2_with fail
              refine (hwk.out _).mono ?_
              rintro e w99 ⟨rfl, hb99⟩
              go_wp2
              go_ret
              exact ⟨rfl, BX.trans (Below.mono (b12.trans (hb99.mono z12)) zw)⟩
            have hpA : ∀ V, Calls Try.prog 14 #[.agg #[.slice Ab nb cb, .int .i64 kf, .slice Ap np cp, .int .i64 wrg], .int .i64 xa] V fun e V' => e = .returned (.bool true) ∧ Below V.heap.size V V' := fun V => by have := hip.out V xa; rw [ea] at this; exact this
            replace hpA := Lib.hid hpA
            refine (hpA.out _).mono ?_
            rintro e w12 ⟨rfl, hb12⟩
            have b12 : Below X.heap.size X w12 := b11.trans (hb12.mono z11)
            clear hb12 c11_0 c11_1 b11 z11
            have c12_0 := fun j => (b12.cell (p := ⟨w.heap.size, j, none⟩) n0).trans (P0.out j)
            have c12_1 := fun j => (b12.cell (p := ⟨w.heap.size + 1, j, none⟩) n1).trans (P1.out j)
            have z12 := b12.size
            go_wp2_with fail
            cases eb : wi xb 0 ((np : Int) - 1)
            · have hpB : ∀ V, Calls Try.prog 14 #[.agg #[.slice Ab nb cb, .int .i64 kf, .slice Ap np cp, .int .i64 wrg], .int .i64 xb] V fun e V' => e = .returned (.bool false) ∧ Below V.heap.size V V' := fun V => by have := hip.out V xb; rw [eb] at this; exact this
              replace hpB := Lib.hid hpB
              refine (hpB.out _).mono ?_
              rintro e w13 ⟨rfl, hb13⟩
              have b13 : Below X.heap.size X w13 := b12.trans (hb13.mono z12)
              clear hb13 c12_0 c12_1 b12 z12
              have c13_0 := fun j => (b13.cell (p := ⟨w.heap.size, j, none⟩) n0).trans (P0.out j)
              have c13_1 := fun j => (b13.cell (p := ⟨w.heap.size + 1, j, none⟩) n1).trans (P1.out j)
              have z13 := b13.size
              go_wp2_with fail
              refine (hwk.out _).mono ?_
              rintro e w99 ⟨rfl, hb99⟩
              go_wp2
              go_ret
              exact ⟨rfl, BX.trans (Below.mono (b13.trans (hb99.mono z13)) zw)⟩
            have hpB : ∀ V, Calls Try.prog 14 #[.agg #[.slice Ab nb cb, .int .i64 kf, .slice Ap np cp, .int .i64 wrg], .int .i64 xb] V fun e V' => e = .returned (.bool true) ∧ Below V.heap.size V V' := fun V => by have := hip.out V xb; rw [eb] at this; exact this
            replace hpB := Lib.hid hpB
            refine (hpB.out _).mono ?_
            rintro e w13 ⟨rfl, hb13⟩
            have b13 : Below X.heap.size X w13 := b12.trans (hb13.mono z12)
            clear hb13 c12_0 c12_1 b12 z12
            have c13_0 := fun j => (b13.cell (p := ⟨w.heap.size, j, none⟩) n0).trans (P0.out j)
            have c13_1 := fun j => (b13.cell (p := ⟨w.heap.size + 1, j, none⟩) n1).trans (P1.out j)
            have z13 := b13.size
            go_wp2_with fail
            clear hpA hpB hip
            have ra := wi_true.1 ea
            have rb := wi_true.1 eb
            clear ea eb
            obtain ⟨a, rfl⟩ := Int.eq_ofNat_of_zero_le ra.1
            obtain ⟨c, rfl⟩ := Int.eq_ofNat_of_zero_le rb.1
            have ha : a < np := by omega
            have hc : c < np := by omega
            obtain ⟨T1, T2, T3, T4⟩ := true_of HCK.out HT.out (by rw [HPL.out]; exact ha) (by rw [HPL.out]; exact hc)
            have e11 : wi (a : Int) 0 ((np : Int) - 1) = true := wi_true.2 (by omega)
            have hof := of_c Ab Ap nb cb np cp kf wrg a bs ms ps w13 h1 h2 H3.out (HBI.out.later (D.out _ b13)) (HPI.out.later (D.out _ b13))
            have ask0 : askE bs ps kf wrg true = 0 := (true_law HCK.out HT.out).2.1
            rw [e11, ask0] at hof
            have LE1 := ofP_len (bs := bs) (ps := ps) (kf := kf) (wr := wrg) (piece := (a : Int))
            have LE2 := heatsP_le HCK.out (show a < ps.length by rw [HPL.out]; exact ha)
            rw [HBL.out] at LE1
            have hhe : ∀ V, Below w.heap.size w V → Calls Try.prog 38 #[.agg #[.slice Ab nb cb, .int .i64 kf, .slice Ap np cp, .int .i64 wrg], .int .i64 a] V fun e V' => ∃ A c, e = .returned (.tuple #[.slice A (heatsP bs ps kf wrg a).length c, .int .i64 0]) ∧ IntsAt V' A (heatsP bs ps kf wrg a).length (heatsP bs ps kf wrg a) ∧ Below V.heap.size V V' := fun V hV => by
              have := heats_c Ab Ap nb cb np cp kf wrg a bs ms ps V h1 h2 H3.out (HBI.out.later hV) (HPI.out.later hV)
              rw [e11, ask0] at this
              exact this
            have hal : ∀ V, Below w.heap.size w V → Calls Try.prog 29 #[.agg #[.slice Ab nb cb, .int .i64 kf, .slice Ap np cp, .int .i64 wrg], .int .i64 a, .int .i64 c] V fun e V' => e = .returned (.tuple #[.int .i64 (alikeP bs ps kf wrg a c).1, .int .i64 0]) ∧ Below V.heap.size V V' := fun V hV => by
              have := alike_c Ab Ap nb cb np cp kf wrg a c bs ms ps V h1 h2 H3.out (HBI.out.later hV) (HPI.out.later hV)
              rw [T3] at this
              exact this
            obtain ⟨O, hO⟩ : ∃ O, ofP bs ps kf wrg a = O := ⟨_, rfl⟩
            obtain ⟨G, hG⟩ : ∃ O, heatsP bs ps kf wrg a = O := ⟨_, rfl⟩
            obtain ⟨kk, hkk⟩ : ∃ O, (alikeP bs ps kf wrg a c).1 = O := ⟨_, rfl⟩
            rw [hO] at hof T1 LE1
            rw [hG] at hhe T2 LE2
            rw [hkk] at hal T4
            obtain ⟨n8, hn8⟩ : ∃ n, O.length = n := ⟨_, rfl⟩
            obtain ⟨n9, hn9⟩ : ∃ n, G.length = n := ⟨_, rfl⟩
            rw [hn8] at hof LE1
            rw [hn9] at hhe LE2
            have hga := HLB.out _ (gN_lt (l := l) (p := a) (by rw [← toI_len, HSI.out.1]; exact ha))
            obtain ⟨hv, hhv⟩ : ∃ v, (brAt bs (gN l a)).heat = v := ⟨_, rfl⟩
            rw [hhv] at T2
            replace hhe := Lib.hid hhe
            replace hal := Lib.hid hal
            replace T1 := Lib.hid T1
            replace T2 := Lib.hid T2
            replace T4 := Lib.hid T4
            have HN8 := Lib.hid hn8
            have HN9 := Lib.hid hn9
            have HHV := Lib.hid hhv
            clear hO hG hkk hn8 hn9 T3 ask0 e11 HCK HT ra rb hhv
            refine hof.mono ?_
            rintro e w14 ⟨v8, rfl, ho8, hb14⟩
            obtain ⟨A8, c8, rfl, -, hs8⟩ := SlAt.of_own (d := (0 : Int)) encI_len ho8 HN8.out
            have I8 := Lib.hid (ints_iff.2 hs8)
            have b14 : Below X.heap.size X w14 := b13.trans (hb14.mono z13)
            clear hof ho8 hs8 hb14 c13_0 c13_1 b13 z13
            have c14_0 := fun j => (b14.cell (p := ⟨w.heap.size, j, none⟩) n0).trans (P0.out j)
            have c14_1 := fun j => (b14.cell (p := ⟨w.heap.size + 1, j, none⟩) n1).trans (P1.out j)
            have z14 := b14.size
            go_wp2_with fail
            refine (hhe.out _ (D.out _ b14)).mono ?_
            rintro e w15 ⟨A7, c7, rfl, hi7, hb15⟩
            have I7 := Lib.hid hi7
            replace I8 := Lib.hid (I8.out.later hb15)
            have b15 : Below X.heap.size X w15 := b14.trans (hb15.mono z14)
            clear hi7 hb15 c14_0 c14_1 b14 z14
            have c15_0 := fun j => (b15.cell (p := ⟨w.heap.size, j, none⟩) n0).trans (P0.out j)
            have c15_1 := fun j => (b15.cell (p := ⟨w.heap.size + 1, j, none⟩) n1).trans (P1.out j)
            have z15 := b15.size
            go_wp2_with fail
            refine (hal.out _ (D.out _ b15)).mono ?_
            rintro e w16 ⟨rfl, hb16⟩
            replace I8 := Lib.hid (I8.out.later hb16)
            replace I7 := Lib.hid (I7.out.later hb16)
            have b16 : Below X.heap.size X w16 := b15.trans (hb16.mono z15)
            clear hb16 c15_0 c15_1 b15 z15
            have c16_0 := fun j => (b16.cell (p := ⟨w.heap.size, j, none⟩) n0).trans (P0.out j)
            have c16_1 := fun j => (b16.cell (p := ⟨w.heap.size + 1, j, none⟩) n1).trans (P1.out j)
            have z16 := b16.size
            have bw := D.out _ b16
            have m0 : w.heap.size < w16.heap.size := by omega
            have m1 : w.heap.size + 1 < w16.heap.size := by omega
            obtain ⟨gs, os, rfl, hgs, y1⟩ := (HSI.out.later bw).get ha
            obtain ⟨_, _, ee, -, y2⟩ := (HSI.out.later bw).get hc
            cases ee
            rw [toI_at] at y1 y2
            obtain ⟨gb, ob, rfl, hgb, y3, -⟩ := (HBI.out.later bw).get hga
            rw [HHV.out] at y3
            have hin1 : ∀ V, Below w16.heap.size w16 V → Calls Try.prog 54 #[.slice A8 n8 c8, .int .i64 (gN l a)] V fun e V' => e = .returned (.bool true) ∧ Below V.heap.size V V' := fun V hV => by
              have := In_c A8 n8 c8 (gN l a) O V (by omega) (I8.out.later hV)
              rw [show (anyN n8 fun k => iAt O k == (gN l a : Int)) = true by have := T1.out; unfold hasI at this; rw [HN8.out] at this; exact this] at this
              exact this.mono fun e w' h => ⟨h.1, h.2 ▸ Below.refl _ _⟩
            have hin2 : ∀ V, Below w16.heap.size w16 V → Calls Try.prog 54 #[.slice A7 n9 c7, .int .i64 hv] V fun e V' => e = .returned (.bool true) ∧ Below V.heap.size V V' := fun V hV => by
              have := In_c A7 n9 c7 hv G V (by omega) (I7.out.later hV)
              rw [show (anyN n9 fun k => iAt G k == hv) = true by have := T2.out; unfold hasI at this; rw [HN9.out] at this; exact this] at this
              exact this.mono fun e w' h => ⟨h.1, h.2 ▸ Below.refl _ _⟩
            obtain ⟨bb, hbb⟩ : ∃ bb, (gN l a == gN l c) = bb := ⟨_, rfl⟩
            have eqB : ((gN l a : Int) == (gN l c : Int)) = bb := by rw [← hbb, Bool.eq_iff_iff, beq_iff_eq, beq_iff_eq]; omega
            have t4 := T4.out
            rw [hbb] at t4
            have hag : ∀ V, Calls Try.prog 52 #[.int .i64 kk, .bool bb] V fun e V' => e = .returned (.bool true) ∧ Below V.heap.size V V' := fun V => by
              have := Agrees_c kk bb V
              rw [t4] at this
              exact this.mono fun e w' h => ⟨h.1, h.2 ▸ Below.refl _ _⟩
            have i1 : decide ((a : Int) < np) = true := by simp; omega
            have i2 : decide ((c : Int) < np) = true := by simp; omega
            have i3 : decide ((gN l a : Int) < nb) = true := by simp; omega
            replace hin1 := Lib.hid hin1
            replace hin2 := Lib.hid hin2
            replace hag := Lib.hid hag
            obtain ⟨va, hva⟩ : ∃ v, gN l a = v := ⟨_, rfl⟩
            obtain ⟨vc, hvc⟩ : ∃ v, gN l c = v := ⟨_, rfl⟩
            rw [hva] at y1 y3 hin1 eqB i3 hga
            rw [hvc] at y2 eqB
            clear hva hvc hbb t4 T1 T2 T4 I7 I8 HBI HPI HSI H3 HLB HHV
            cases bb
            all_goals
              go_upto_region 29 with (fail)
              have hcq := fun p : Regrown => (bcell (below_regrown w16 p.d p.os)).1
              refine wp_region_quiet_below (by kernel_rfl) (by kernel_rfl) ?_
              repeat (go_big_quiet_step ((first | (go_at_call 54; first | with_reducible exact Calls.regrown_of (hin1.out _ (below_regrown _ _ _)) | with_reducible exact Calls.regrown_of (hin2.out _ (below_regrown _ _ _))) | (go_at_call 52; exact Calls.regrown_of (hag.out _)) | (go_at_call 15; exact Calls.regrown_of (hwk.out _)))))
              refine wpQuiet_nil ?_
              intro wq hq
              obtain ⟨pq, hq⟩ := hq
              have hbq : Below w16.heap.size w16 wq := by rw [hq]; exact below_regrown _ _ _
              clear hq hcq pq
              obtain ⟨hcq, hfq⟩ := bcell hbq
              have zq := hbq.size
              go_wp2_with fail
              go_ret
              exact ⟨rfl, by (repeat first | with_reducible assumption | with_reducible exact Below.refl _ _ | (with_reducible refine Below.alloc ?_ ?side _; case side => (first | omega | (with_reducible exact Below.size (by assumption)) | (simp; done) | (simp; omega))) | (with_reducible refine Below.setCell ?_ ?side _; case side => (first | omega | (with_reducible exact Below.size (by assumption)) | (simp; done) | (simp; omega))) | with_reducible refine Below.drew ?_ | with_reducible refine below_drewN ?_ _ | (with_reducible refine below_step (by assumption) ?side ?_; case side => (first | omega | (with_reducible exact Below.size (by assumption)) | (simp; done) | (simp; omega))))⟩
          · have hh := Lib.hid (hhr.out hwi)
            have hgr : ∀ V, Calls Try.prog 52 #[.int .i64 rk, .bool hr] V fun e V' => e = .returned (.bool true) ∧ V = V' := fun V => by
              have := Agrees_c rk hr V
              rw [hagr] at this
              exact this
            replace hgr := Lib.hid hgr
            refine (hrm.out _ (D.out _ b10)).mono ?_
            rintro e w11 ⟨rfl, hb11⟩
            have b11 : Below X.heap.size X w11 := b10.trans (hb11.mono z10)
            clear hb11 c10_0 c10_1 b10 z10
            have c11_0 := fun j => (b11.cell (p := ⟨w.heap.size, j, none⟩) n0).trans (P0.out j)
            have c11_1 := fun j => (b11.cell (p := ⟨w.heap.size + 1, j, none⟩) n1).trans (P1.out j)
            have z11 := b11.size
            go_wp2_with fail
            refine (hh.out _ (D.out _ b11)).mono ?_
            rintro e w12 ⟨rfl, hb12⟩
            have b12 : Below X.heap.size X w12 := b11.trans (hb12.mono z11)
            clear hb12 c11_0 c11_1 b11 z11
            have c12_0 := fun j => (b12.cell (p := ⟨w.heap.size, j, none⟩) n0).trans (P0.out j)
            have c12_1 := fun j => (b12.cell (p := ⟨w.heap.size + 1, j, none⟩) n1).trans (P1.out j)
            have z12 := b12.size
            go_wp2_with fail
            refine (hgr.out _).mono ?_
            rintro e w' ⟨rfl, rfl⟩
            go_wp2_with fail
            clear hrm hhr LR hgr hh hagr hwi
            cases ea : wi xa 0 ((np : Int) - 1)
            · have hpA : ∀ V, Calls Try.prog 14 #[.agg #[.slice Ab nb cb, .int .i64 kf, .slice Ap np cp, .int .i64 wrg], .int .i64 xa] V fun e V' => e = .returned (.bool false) ∧ Below V.heap.size V V' := fun V => by have := hip.out V xa; rw [ea] at this; exact this
              replace hpA := Lib.hid hpA
              refine (hpA.out _).mono ?_
              rintro e w13 ⟨rfl, hb13⟩
              have b13 : Below X.heap.size X w13 := b12.trans (hb13.mono z12)
              clear hb13 c12_0 c12_1 b12 z12
              have c13_0 := fun j => (b13.cell (p := ⟨w.heap.size, j, none⟩) n0).trans (P0.out j)
              have c13_1 := fun j => (b13.cell (p := ⟨w.heap.size + 1, j, none⟩) n1).trans (P1.out j)
              have z13 := b13.size
              go_wp2_with fail
              refine (hwk.out _).mono ?_
              rintro e w99 ⟨rfl, hb99⟩
              go_wp2
              go_ret
              exact ⟨rfl, BX.trans (Below.mono (b13.trans (hb99.mono z13)) zw)⟩
            have hpA : ∀ V, Calls Try.prog 14 #[.agg #[.slice Ab nb cb, .int .i64 kf, .slice Ap np cp, .int .i64 wrg], .int .i64 xa] V fun e V' => e = .returned (.bool true) ∧ Below V.heap.size V V' := fun V => by have := hip.out V xa; rw [ea] at this; exact this
            replace hpA := Lib.hid hpA
            refine (hpA.out _).mono ?_
            rintro e w13 ⟨rfl, hb13⟩
            have b13 : Below X.heap.size X w13 := b12.trans (hb13.mono z12)
            clear hb13 c12_0 c12_1 b12 z12
            have c13_0 := fun j => (b13.cell (p := ⟨w.heap.size, j, none⟩) n0).trans (P0.out j)
            have c13_1 := fun j => (b13.cell (p := ⟨w.heap.size + 1, j, none⟩) n1).trans (P1.out j)
            have z13 := b13.size
            go_wp2_with fail
            cases eb : wi xb 0 ((np : Int) - 1)
            · have hpB : ∀ V, Calls Try.prog 14 #[.agg #[.slice Ab nb cb, .int .i64 kf, .slice Ap np cp, .int .i64 wrg], .int .i64 xb] V fun e V' => e = .returned (.bool false) ∧ Below V.heap.size V V' := fun V => by have := hip.out V xb; rw [eb] at this; exact this
              replace hpB := Lib.hid hpB
              refine (hpB.out _).mono ?_
              rintro e w14 ⟨rfl, hb14⟩
              have b14 : Below X.heap.size X w14 := b13.trans (hb14.mono z13)
              clear hb14 c13_0 c13_1 b13 z13
              have c14_0 := fun j => (b14.cell (p := ⟨w.heap.size, j, none⟩) n0).trans (P0.out j)
              have c14_1 := fun j => (b14.cell (p := ⟨w.heap.size + 1, j, none⟩) n1).trans (P1.out j)
              have z14 := b14.size
              go_wp2_with fail
              refine (hwk.out _).mono ?_
              rintro e w99 ⟨rfl, hb99⟩
              go_wp2
              go_ret
              exact ⟨rfl, BX.trans (Below.mono (b14.trans (hb99.mono z14)) zw)⟩
            have hpB : ∀ V, Calls Try.prog 14 #[.agg #[.slice Ab nb cb, .int .i64 kf, .slice Ap np cp, .int .i64 wrg], .int .i64 xb] V fun e V' => e = .returned (.bool true) ∧ Below V.heap.size V V' := fun V => by have := hip.out V xb; rw [eb] at this; exact this
            replace hpB := Lib.hid hpB
            refine (hpB.out _).mono ?_
            rintro e w14 ⟨rfl, hb14⟩
            have b14 : Below X.heap.size X w14 := b13.trans (hb14.mono z13)
            clear hb14 c13_0 c13_1 b13 z13
            have c14_0 := fun j => (b14.cell (p := ⟨w.heap.size, j, none⟩) n0).trans (P0.out j)
            have c14_1 := fun j => (b14.cell (p := ⟨w.heap.size + 1, j, none⟩) n1).trans (P1.out j)
            have z14 := b14.size
            go_wp2_with fail
            clear hpA hpB hip
            have ra := wi_true.1 ea
            have rb := wi_true.1 eb
            clear ea eb
            obtain ⟨a, rfl⟩ := Int.eq_ofNat_of_zero_le ra.1
            obtain ⟨c, rfl⟩ := Int.eq_ofNat_of_zero_le rb.1
            have ha : a < np := by omega
            have hc : c < np := by omega
            obtain ⟨T1, T2, T3, T4⟩ := true_of HCK.out HT.out (by rw [HPL.out]; exact ha) (by rw [HPL.out]; exact hc)
            have e11 : wi (a : Int) 0 ((np : Int) - 1) = true := wi_true.2 (by omega)
            have hof := of_c Ab Ap nb cb np cp kf wrg a bs ms ps w14 h1 h2 H3.out (HBI.out.later (D.out _ b14)) (HPI.out.later (D.out _ b14))
            have ask0 : askE bs ps kf wrg true = 0 := (true_law HCK.out HT.out).2.1
            rw [e11, ask0] at hof
            have LE1 := ofP_len (bs := bs) (ps := ps) (kf := kf) (wr := wrg) (piece := (a : Int))
            have LE2 := heatsP_le HCK.out (show a < ps.length by rw [HPL.out]; exact ha)
            rw [HBL.out] at LE1
            have hhe : ∀ V, Below w.heap.size w V → Calls Try.prog 38 #[.agg #[.slice Ab nb cb, .int .i64 kf, .slice Ap np cp, .int .i64 wrg], .int .i64 a] V fun e V' => ∃ A c, e = .returned (.tuple #[.slice A (heatsP bs ps kf wrg a).length c, .int .i64 0]) ∧ IntsAt V' A (heatsP bs ps kf wrg a).length (heatsP bs ps kf wrg a) ∧ Below V.heap.size V V' := fun V hV => by
              have := heats_c Ab Ap nb cb np cp kf wrg a bs ms ps V h1 h2 H3.out (HBI.out.later hV) (HPI.out.later hV)
              rw [e11, ask0] at this
              exact this
            have hal : ∀ V, Below w.heap.size w V → Calls Try.prog 29 #[.agg #[.slice Ab nb cb, .int .i64 kf, .slice Ap np cp, .int .i64 wrg], .int .i64 a, .int .i64 c] V fun e V' => e = .returned (.tuple #[.int .i64 (alikeP bs ps kf wrg a c).1, .int .i64 0]) ∧ Below V.heap.size V V' := fun V hV => by
              have := alike_c Ab Ap nb cb np cp kf wrg a c bs ms ps V h1 h2 H3.out (HBI.out.later hV) (HPI.out.later hV)
              rw [T3] at this
              exact this
            obtain ⟨O, hO⟩ : ∃ O, ofP bs ps kf wrg a = O := ⟨_, rfl⟩
            obtain ⟨G, hG⟩ : ∃ O, heatsP bs ps kf wrg a = O := ⟨_, rfl⟩
            obtain ⟨kk, hkk⟩ : ∃ O, (alikeP bs ps kf wrg a c).1 = O := ⟨_, rfl⟩
            rw [hO] at hof T1 LE1
            rw [hG] at hhe T2 LE2
            rw [hkk] at hal T4
            obtain ⟨n8, hn8⟩ : ∃ n, O.length = n := ⟨_, rfl⟩
            obtain ⟨n9, hn9⟩ : ∃ n, G.length = n := ⟨_, rfl⟩
            rw [hn8] at hof LE1
            rw [hn9] at hhe LE2
            have hga := HLB.out _ (gN_lt (l := l) (p := a) (by rw [← toI_len, HSI.out.1]; exact ha))
            obtain ⟨hv, hhv⟩ : ∃ v, (brAt bs (gN l a)).heat = v := ⟨_, rfl⟩
            rw [hhv] at T2
            replace hhe := Lib.hid hhe
            replace hal := Lib.hid hal
            replace T1 := Lib.hid T1
            replace T2 := Lib.hid T2
            replace T4 := Lib.hid T4
            have HN8 := Lib.hid hn8
            have HN9 := Lib.hid hn9
            have HHV := Lib.hid hhv
            clear hO hG hkk hn8 hn9 T3 ask0 e11 HCK HT ra rb hhv
            refine hof.mono ?_
            rintro e w15 ⟨v8, rfl, ho8, hb15⟩
            obtain ⟨A8, c8, rfl, -, hs8⟩ := SlAt.of_own (d := (0 : Int)) encI_len ho8 HN8.out
            have I8 := Lib.hid (ints_iff.2 hs8)
            have b15 : Below X.heap.size X w15 := b14.trans (hb15.mono z14)
            clear hof ho8 hs8 hb15 c14_0 c14_1 b14 z14
            have c15_0 := fun j => (b15.cell (p := ⟨w.heap.size, j, none⟩) n0).trans (P0.out j)
            have c15_1 := fun j => (b15.cell (p := ⟨w.heap.size + 1, j, none⟩) n1).trans (P1.out j)
            have z15 := b15.size
            go_wp2_with fail
            refine (hhe.out _ (D.out _ b15)).mono ?_
            rintro e w16 ⟨A7, c7, rfl, hi7, hb16⟩
            have I7 := Lib.hid hi7
            replace I8 := Lib.hid (I8.out.later hb16)
            have b16 : Below X.heap.size X w16 := b15.trans (hb16.mono z15)
            clear hi7 hb16 c15_0 c15_1 b15 z15
            have c16_0 := fun j => (b16.cell (p := ⟨w.heap.size, j, none⟩) n0).trans (P0.out j)
            have c16_1 := fun j => (b16.cell (p := ⟨w.heap.size + 1, j, none⟩) n1).trans (P1.out j)
            have z16 := b16.size
            go_wp2_with fail
            refine (hal.out _ (D.out _ b16)).mono ?_
            rintro e w17 ⟨rfl, hb17⟩
            replace I8 := Lib.hid (I8.out.later hb17)
            replace I7 := Lib.hid (I7.out.later hb17)
            have b17 : Below X.heap.size X w17 := b16.trans (hb17.mono z16)
            clear hb17 c16_0 c16_1 b16 z16
            have c17_0 := fun j => (b17.cell (p := ⟨w.heap.size, j, none⟩) n0).trans (P0.out j)
            have c17_1 := fun j => (b17.cell (p := ⟨w.heap.size + 1, j, none⟩) n1).trans (P1.out j)
            have z17 := b17.size
            have bw := D.out _ b17
            have m0 : w.heap.size < w17.heap.size := by omega
            have m1 : w.heap.size + 1 < w17.heap.size := by omega
            obtain ⟨gs, os, rfl, hgs, y1⟩ := (HSI.out.later bw).get ha
            obtain ⟨_, _, ee, -, y2⟩ := (HSI.out.later bw).get hc
            cases ee
            rw [toI_at] at y1 y2
            obtain ⟨gb, ob, rfl, hgb, y3, -⟩ := (HBI.out.later bw).get hga
            rw [HHV.out] at y3
            have hin1 : ∀ V, Below w17.heap.size w17 V → Calls Try.prog 54 #[.slice A8 n8 c8, .int .i64 (gN l a)] V fun e V' => e = .returned (.bool true) ∧ Below V.heap.size V V' := fun V hV => by
              have := In_c A8 n8 c8 (gN l a) O V (by omega) (I8.out.later hV)
              rw [show (anyN n8 fun k => iAt O k == (gN l a : Int)) = true by have := T1.out; unfold hasI at this; rw [HN8.out] at this; exact this] at this
              exact this.mono fun e w' h => ⟨h.1, h.2 ▸ Below.refl _ _⟩
            have hin2 : ∀ V, Below w17.heap.size w17 V → Calls Try.prog 54 #[.slice A7 n9 c7, .int .i64 hv] V fun e V' => e = .returned (.bool true) ∧ Below V.heap.size V V' := fun V hV => by
              have := In_c A7 n9 c7 hv G V (by omega) (I7.out.later hV)
              rw [show (anyN n9 fun k => iAt G k == hv) = true by have := T2.out; unfold hasI at this; rw [HN9.out] at this; exact this] at this
              exact this.mono fun e w' h => ⟨h.1, h.2 ▸ Below.refl _ _⟩
            obtain ⟨bb, hbb⟩ : ∃ bb, (gN l a == gN l c) = bb := ⟨_, rfl⟩
            have eqB : ((gN l a : Int) == (gN l c : Int)) = bb := by rw [← hbb, Bool.eq_iff_iff, beq_iff_eq, beq_iff_eq]; omega
            have t4 := T4.out
            rw [hbb] at t4
            have hag : ∀ V, Calls Try.prog 52 #[.int .i64 kk, .bool bb] V fun e V' => e = .returned (.bool true) ∧ Below V.heap.size V V' := fun V => by
              have := Agrees_c kk bb V
              rw [t4] at this
              exact this.mono fun e w' h => ⟨h.1, h.2 ▸ Below.refl _ _⟩
            have i1 : decide ((a : Int) < np) = true := by simp; omega
            have i2 : decide ((c : Int) < np) = true := by simp; omega
            have i3 : decide ((gN l a : Int) < nb) = true := by simp; omega
            replace hin1 := Lib.hid hin1
            replace hin2 := Lib.hid hin2
            replace hag := Lib.hid hag
            obtain ⟨va, hva⟩ : ∃ v, gN l a = v := ⟨_, rfl⟩
            obtain ⟨vc, hvc⟩ : ∃ v, gN l c = v := ⟨_, rfl⟩
            rw [hva] at y1 y3 hin1 eqB i3 hga
            rw [hvc] at y2 eqB
            clear hva hvc hbb t4 T1 T2 T4 I7 I8 HBI HPI HSI H3 HLB HHV
            cases bb
            all_goals
              go_upto_region 29 with (fail)
              have hcq := fun p : Regrown => (bcell (below_regrown w17 p.d p.os)).1
              refine wp_region_quiet_below (by kernel_rfl) (by kernel_rfl) ?_
              repeat (go_big_quiet_step ((first | (go_at_call 54; first | with_reducible exact Calls.regrown_of (hin1.out _ (below_regrown _ _ _)) | with_reducible exact Calls.regrown_of (hin2.out _ (below_regrown _ _ _))) | (go_at_call 52; exact Calls.regrown_of (hag.out _)) | (go_at_call 15; exact Calls.regrown_of (hwk.out _)))))
              refine wpQuiet_nil ?_
              intro wq hq
              obtain ⟨pq, hq⟩ := hq
              have hbq : Below w17.heap.size w17 wq := by rw [hq]; exact below_regrown _ _ _
              clear hq hcq pq
              obtain ⟨hcq, hfq⟩ := bcell hbq
              have zq := hbq.size
              go_wp2_with fail
              go_ret
              exact ⟨rfl, by (repeat first | with_reducible assumption | with_reducible exact Below.refl _ _ | (with_reducible refine Below.alloc ?_ ?side _; case side => (first | omega | (with_reducible exact Below.size (by assumption)) | (simp; done) | (simp; omega))) | (with_reducible refine Below.setCell ?_ ?side _; case side => (first | omega | (with_reducible exact Below.size (by assumption)) | (simp; done) | (simp; omega))) | with_reducible refine Below.drew ?_ | with_reducible refine below_drewN ?_ _ | (with_reducible refine below_step (by assumption) ?side ?_; case side => (first | omega | (with_reducible exact Below.size (by assumption)) | (simp; done) | (simp; omega))))⟩

set_option maxRecDepth 100000 in
set_option maxHeartbeats 1600000 in
theorem True_law_c (Ab Ap As : Option Addr) (nb cb np cp ns cs : Nat) (kf wrg xa xb xr xl : Int) (bs : List Br) (ms : List Pm) (ps : List Pc) (ls : List Int) (w : World) (HB : BrsAt w Ab nb bs) (HP : PcsAt w Ap np ms ps) (HS : IntsAt w As ns ls) :
    Calls Try.prog 12 #[.agg #[.slice Ab nb cb, .int .i64 kf, .slice Ap np cp, .int .i64 wrg], .slice As ns cs, .agg #[.int .i64 xa, .int .i64 xb, .int .i64 xr, .int .i64 xl]] w fun e w' => e = .returned (.bool true) ∧ Below w.heap.size w w' := by
  have hwk := Lib.hid works_c
  have hrd : ∀ Z, Below w.heap.size w Z → Calls Try.prog 13 #[.agg #[.slice Ab nb cb, .int .i64 kf, .slice Ap np cp, .int .i64 wrg]] Z fun e Z' => e = .returned (.bool (rdyS bs ps kf wrg nb np)) ∧ Below Z.heap.size Z Z' := fun Z hZ => ready_c Ab Ap nb cb np cp kf wrg bs ms ps Z (HB.later hZ) (HP.later hZ)
  cases er : rdyS bs ps kf wrg nb np
  · rw [er] at hrd
    replace hrd := Lib.hid hrd
    clear er HB HP HS
    go_enter Try.func12, Try.ntmps12
    go_wp2_with fail
    obtain ⟨X, hX⟩ : ∃ X, (w.alloc (.cells #[.slice Ab nb cb, .int .i64 kf, .slice Ap np cp, .int .i64 wrg] 25)).alloc (.cells #[.int .i64 xa, .int .i64 xb, .int .i64 xr, .int .i64 xl] 49) = X := ⟨_, rfl⟩
    rw [hX]
    have BX : Below w.heap.size w X := (al2 hX).1
    have zX : X.heap.size = w.heap.size + 2 := (al2 hX).2
    have P0 := Lib.hid (al2_0 hX).2.1
    have P1 := Lib.hid (al2_1 hX).2.1
    have zw : w.heap.size ≤ X.heap.size := by omega
    have n0 : w.heap.size < X.heap.size := by omega
    have n1 : w.heap.size + 1 < X.heap.size := by omega
    clear hX
    refine (hrd.out X BX).mono ?_
    rintro e w1 ⟨rfl, b1⟩
    have c1_0 := fun j => (b1.cell (p := ⟨w.heap.size, j, none⟩) n0).trans (P0.out j)
    have c1_1 := fun j => (b1.cell (p := ⟨w.heap.size + 1, j, none⟩) n1).trans (P1.out j)
    have z1 := b1.size
    go_wp2_with fail
    refine (hwk.out _).mono ?_
    rintro e w99 ⟨rfl, hb99⟩
    go_wp2
    go_ret
    exact ⟨rfl, BX.trans (Below.mono (b1.trans (hb99.mono z1)) zw)⟩
  rw [er] at hrd
  replace hrd := Lib.hid hrd
  by_cases g1 : (40 : Int) < ns
  · have hlB : decide ((40 : Int) < ns) = true := by simpa using g1
    clear er HB HP HS
    go_enter Try.func12, Try.ntmps12
    go_wp2_with fail
    obtain ⟨X, hX⟩ : ∃ X, (w.alloc (.cells #[.slice Ab nb cb, .int .i64 kf, .slice Ap np cp, .int .i64 wrg] 25)).alloc (.cells #[.int .i64 xa, .int .i64 xb, .int .i64 xr, .int .i64 xl] 49) = X := ⟨_, rfl⟩
    rw [hX]
    have BX : Below w.heap.size w X := (al2 hX).1
    have zX : X.heap.size = w.heap.size + 2 := (al2 hX).2
    have P0 := Lib.hid (al2_0 hX).2.1
    have P1 := Lib.hid (al2_1 hX).2.1
    have zw : w.heap.size ≤ X.heap.size := by omega
    have n0 : w.heap.size < X.heap.size := by omega
    have n1 : w.heap.size + 1 < X.heap.size := by omega
    clear hX
    refine (hrd.out X BX).mono ?_
    rintro e w1 ⟨rfl, b1⟩
    have c1_0 := fun j => (b1.cell (p := ⟨w.heap.size, j, none⟩) n0).trans (P0.out j)
    have c1_1 := fun j => (b1.cell (p := ⟨w.heap.size + 1, j, none⟩) n1).trans (P1.out j)
    have z1 := b1.size
    go_wp2_with fail
    refine (hwk.out _).mono ?_
    rintro e w99 ⟨rfl, hb99⟩
    go_wp2
    go_ret
    exact ⟨rfl, BX.trans (Below.mono (b1.trans (hb99.mono z1)) zw)⟩
  obtain ⟨hn4, hp5, h3, hck⟩ := rdyS_ok er
  have hit : ∀ Z, Below w.heap.size w Z → Calls Try.prog 27 #[.agg #[.slice Ab nb cb, .int .i64 kf, .slice Ap np cp, .int .i64 wrg], .slice As ns cs] Z fun e Z' => e = .returned (.bool (isT bs ps kf wrg ls)) ∧ Below Z.heap.size Z Z' := fun Z hZ =>
    refTruth_c Ab Ap As nb cb np cp ns cs kf wrg bs ms ps Z ls (by omega) h3 hck (HB.later hZ) (HP.later hZ) (HS.later hZ)
  cases et : isT bs ps kf wrg ls
  · have hlB : decide ((40 : Int) < ns) = false := by simpa using g1
    rw [et] at hit
    replace hit := Lib.hid hit
    clear er HB HP HS et h3 hck g1
    go_enter Try.func12, Try.ntmps12
    go_wp2_with fail
    obtain ⟨X, hX⟩ : ∃ X, (w.alloc (.cells #[.slice Ab nb cb, .int .i64 kf, .slice Ap np cp, .int .i64 wrg] 25)).alloc (.cells #[.int .i64 xa, .int .i64 xb, .int .i64 xr, .int .i64 xl] 49) = X := ⟨_, rfl⟩
    rw [hX]
    have BX : Below w.heap.size w X := (al2 hX).1
    have zX : X.heap.size = w.heap.size + 2 := (al2 hX).2
    have P0 := Lib.hid (al2_0 hX).2.1
    have P1 := Lib.hid (al2_1 hX).2.1
    have zw : w.heap.size ≤ X.heap.size := by omega
    have n0 : w.heap.size < X.heap.size := by omega
    have n1 : w.heap.size + 1 < X.heap.size := by omega
    clear hX
    refine (hrd.out X BX).mono ?_
    rintro e w1 ⟨rfl, b1⟩
    have c1_0 := fun j => (b1.cell (p := ⟨w.heap.size, j, none⟩) n0).trans (P0.out j)
    have c1_1 := fun j => (b1.cell (p := ⟨w.heap.size + 1, j, none⟩) n1).trans (P1.out j)
    have z1 := b1.size
    go_wp2_with fail
    refine (hit.out _ (BX.trans (b1.mono zw))).mono ?_
    rintro e w2 ⟨rfl, hb2⟩
    have b2 : Below X.heap.size X w2 := b1.trans (hb2.mono z1)
    clear hb2 c1_0 c1_1 b1
    have c2_0 := fun j => (b2.cell (p := ⟨w.heap.size, j, none⟩) n0).trans (P0.out j)
    have c2_1 := fun j => (b2.cell (p := ⟨w.heap.size + 1, j, none⟩) n1).trans (P1.out j)
    have z2 := b2.size
    go_wp2_with fail
    refine (hwk.out _).mono ?_
    rintro e w99 ⟨rfl, hb99⟩
    go_wp2
    go_ret
    exact ⟨rfl, BX.trans (Below.mono (b2.trans (hb99.mono z2)) zw)⟩
  rw [et] at hit
  obtain ⟨l, rfl, hT⟩ := isT_iff.1 et
  exact TrueMain_c Ab Ap As nb cb np cp ns cs kf wrg xa xb xr xl bs ms ps l w HB HP HS er hT hrd (Lib.hid hit)

end Go.Proofs.Ytmopnbijfcamjaa
