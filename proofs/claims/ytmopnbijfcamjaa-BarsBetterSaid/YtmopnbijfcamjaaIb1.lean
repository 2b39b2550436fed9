/- inside of the statements (layer 1). -/
import Derived.Deep.DeepCutAuto
import Derived.Test.YtmopnbijfcamjaaSq11
import Derived.Test.YtmopnbijfcamjaaEv1
namespace Go.Proofs.Ytmopnbijfcamjaa
open Go.RowKit
open Go.Sort (grow)
set_option linter.unusedVariables false

set_option maxRecDepth 100000 in
set_option maxHeartbeats 6400000 in
theorem inside_c (A1 A2 B1 B2 : Option Addr) (nb c1 d1 np c2 d2 : Nat) (kf wa wb xa xb xr xl : Int) (bs : List Br) (ms1 ms2 : List Pm) (ps1 ps2 : List Pc) (w : World) (HBA : BrsAt w A1 nb bs) (HPA : PcsAt w A2 np ms1 ps1) (HBB : BrsAt w B1 nb bs) (HPB : PcsAt w B2 np ms2 ps2)
    (hn4 : nb ≤ 4) (hp5 : np ≤ 5) (h31 : ∀ k, k < np → (pcAt ps1 k).hs.length ≤ 40) (h32 : ∀ k, k < np → (pcAt ps2 k).hs.length ≤ 40) (hc1 : ckS bs ps1 kf wa = true) (hc2 : ckS bs ps2 kf wb = true) (hI : Ins bs ps1 kf wa ps2 wb) :
    Calls Try.prog 36 #[.agg #[.slice A1 nb c1, .int .i64 kf, .slice A2 np c2, .int .i64 wa], .agg #[.slice B1 nb d1, .int .i64 kf, .slice B2 np d2, .int .i64 wb], .agg #[.int .i64 xa, .int .i64 xb, .int .i64 xr, .int .i64 xl]] w fun e w' => e = .returned (.bool true) ∧ Below w.heap.size w w' := by
  have h1 : nb ≤ 40 := by omega
  have h2 : np ≤ 40 := by omega
  have hbl := HBA.1
  have hpl := HPA.pl
  have hm1 : ∀ V, Below w.heap.size w V → Calls Try.prog 17 #[.agg #[.slice A1 nb c1, .int .i64 kf, .slice A2 np c2, .int .i64 wa]] V fun e V' => e = .returned (.tuple #[.int .i64 (manyR bs ps1 kf wa), .int .i64 (askE bs ps1 kf wa true)]) ∧ Below V.heap.size V V' := fun V hV =>
    many_c A1 A2 nb c1 np c2 kf wa bs ms1 ps1 V h1 h2 h31 (HBA.later hV) (HPA.later hV)
  have hm2 : ∀ V, Below w.heap.size w V → Calls Try.prog 17 #[.agg #[.slice B1 nb d1, .int .i64 kf, .slice B2 np d2, .int .i64 wb]] V fun e V' => e = .returned (.tuple #[.int .i64 (manyR bs ps2 kf wb), .int .i64 (askE bs ps2 kf wb true)]) ∧ Below V.heap.size V V' := fun V hV =>
    many_c B1 B2 nb d1 np d2 kf wb bs ms2 ps2 V h1 h2 h32 (HBB.later hV) (HPB.later hV)
  have ik0 : ∀ V : World, Calls Try.prog 18 #[.int .i64 0] V fun x V' => x = .returned (.bool true) ∧ V = V' := fun V => isKnown_c 0 V
  have ik3 : ∀ V : World, Calls Try.prog 18 #[.int .i64 3] V fun x V' => x = .returned (.bool true) ∧ V = V' := fun V => isKnown_c 3 V
  replace ik0 := Lib.hid ik0
  replace ik3 := Lib.hid ik3
  by_cases hne : trL bs ps1 kf wa = []
  · rw [askE_ok hc1, if_pos hne] at hm1
    obtain ⟨m1, hm1e⟩ : ∃ m, manyR bs ps1 kf wa = m := ⟨_, rfl⟩
    obtain ⟨m2, hm2e⟩ : ∃ m, manyR bs ps2 kf wb = m := ⟨_, rfl⟩
    rw [hm1e] at hm1
    rw [hm2e] at hm2
    have hz2 : askE bs ps2 kf wb true = 0 ∨ askE bs ps2 kf wb true = 3 := by rw [askE_ok hc2]; split <;> simp
    replace hm1 := Lib.hid hm1
    clear HBA HPA HBB HPB h31 h32 hc1 hc2 hI hne hm1e hm2e
    rcases hz2 with hz | hz
    all_goals
      rw [hz] at hm2
      replace hm2 := Lib.hid hm2
      clear hz
      go_enter Try.func36, Try.ntmps36
      go_wp2_with fail
      obtain ⟨X, hX⟩ : ∃ X, ((w.alloc (.cells #[.slice A1 nb c1, .int .i64 kf, .slice A2 np c2, .int .i64 wa] 25)).alloc (.cells #[.slice B1 nb d1, .int .i64 kf, .slice B2 np d2, .int .i64 wb] 25)).alloc (.cells #[.int .i64 xa, .int .i64 xb, .int .i64 xr, .int .i64 xl] 49) = X := ⟨_, rfl⟩
      rw [hX]
      have BX : Below w.heap.size w X := (al3 hX).1
      have zX : X.heap.size = w.heap.size + 3 := (al3 hX).2
      have P0 := Lib.hid (al3_0 hX).2.1
      have P1 := Lib.hid (al3_1 hX).2.1
      have P2 := Lib.hid (al3_2 hX).2.1
      have zw : w.heap.size ≤ X.heap.size := by omega
      have n0 : w.heap.size < X.heap.size := by omega
      have n1 : w.heap.size + 1 < X.heap.size := by omega
      have n2 : w.heap.size + 1 + 1 < X.heap.size := by omega
      have D := Lib.hid (fun V (h : Below X.heap.size X V) => BX.trans (h.mono zw))
      have b0 := Below.refl X.heap.size X
      clear hX
      refine (hm1.out X BX).mono ?_
      rintro e w1 ⟨rfl, hb1⟩
      have b1 : Below X.heap.size X w1 := b0.trans (hb1.mono (by first | exact z0 | exact Nat.le_refl _))
      clear hb1
      try clear c0_0 c0_1 c0_2
      have c1_0 := fun j => (b1.cell (p := ⟨w.heap.size, j, none⟩) n0).trans (P0.out j)
      have c1_1 := fun j => (b1.cell (p := ⟨w.heap.size + 1, j, none⟩) n1).trans (P1.out j)
      have c1_2 := fun j => (b1.cell (p := ⟨w.heap.size + 1 + 1, j, none⟩) n2).trans (P2.out j)
      have z1 := b1.size
      go_wp2_with first | (go_at_call 18; (first | (with_reducible refine (ik0.out _).mono ?_) | (with_reducible refine (ik3.out _).mono ?_)); rintro e w' ⟨rfl, rfl⟩)
      refine (hm2.out _ (D.out _ b1)).mono ?_
      rintro e w2 ⟨rfl, hb2⟩
      have b2 : Below X.heap.size X w2 := b1.trans (hb2.mono (by first | exact z1 | exact Nat.le_refl _))
      clear hb2
      try clear c1_0 c1_1 c1_2
      have c2_0 := fun j => (b2.cell (p := ⟨w.heap.size, j, none⟩) n0).trans (P0.out j)
      have c2_1 := fun j => (b2.cell (p := ⟨w.heap.size + 1, j, none⟩) n1).trans (P1.out j)
      have c2_2 := fun j => (b2.cell (p := ⟨w.heap.size + 1 + 1, j, none⟩) n2).trans (P2.out j)
      have z2 := b2.size
      go_wp2_with first | (go_at_call 18; (first | (with_reducible refine (ik0.out _).mono ?_) | (with_reducible refine (ik3.out _).mono ?_)); rintro e w' ⟨rfl, rfl⟩)
      go_ret
      exact ⟨rfl, D.out _ b2⟩
  have hne2 := hI.ne hne
  rw [askE_ok hc1, if_neg hne] at hm1
  rw [askE_ok hc2, if_neg hne2] at hm2
  obtain ⟨M1, M2⟩ := hI.many hc1 hc2 hne
  obtain ⟨m1, hm1e⟩ : ∃ m, manyR bs ps1 kf wa = m := ⟨_, rfl⟩
  obtain ⟨m2, hm2e⟩ : ∃ m, manyR bs ps2 kf wb = m := ⟨_, rfl⟩
  rw [hm1e] at hm1 M1 M2
  rw [hm2e] at hm2 M2
  have t1 : decide (m1 < 1) = false := by simp; omega
  have t2 : decide (m2 < m1) = false := by simp; omega
  replace hm1 := Lib.hid hm1
  replace hm2 := Lib.hid hm2
  have hr1 : ∀ V, Below w.heap.size w V → Calls Try.prog 31 #[.agg #[.slice A1 nb c1, .int .i64 kf, .slice A2 np c2, .int .i64 wa], .int .i64 xr] V fun e V' => e = .returned (.tuple #[.agg #[.int .i64 (restP bs ps1 kf wa xr).1.lo, .int .i64 (restP bs ps1 kf wa xr).1.hi], .int .i64 (restP bs ps1 kf wa xr).2]) ∧ Below V.heap.size V V' := fun V hV =>
    rest_c A1 A2 nb c1 np c2 kf wa xr bs ms1 ps1 V h1 h2 h31 (HBA.later hV) (HPA.later hV)
  have hr2 : ∀ V, Below w.heap.size w V → Calls Try.prog 31 #[.agg #[.slice B1 nb d1, .int .i64 kf, .slice B2 np d2, .int .i64 wb], .int .i64 xr] V fun e V' => e = .returned (.tuple #[.agg #[.int .i64 (restP bs ps2 kf wb xr).1.lo, .int .i64 (restP bs ps2 kf wb xr).1.hi], .int .i64 (restP bs ps2 kf wb xr).2]) ∧ Below V.heap.size V V' := fun V hV =>
    rest_c B1 B2 nb d1 np d2 kf wb xr bs ms2 ps2 V h1 h2 h32 (HBB.later hV) (HPB.later hV)
  have LR : ((restP bs ps1 kf wa xr).2 = 1) ∨ ((restP bs ps1 kf wa xr).2 = 0 ∧ (restP bs ps2 kf wb xr).2 = 0 ∧ (restP bs ps2 kf wb xr).1.lo ≤ (restP bs ps1 kf wa xr).1.lo ∧ (restP bs ps1 kf wa xr).1.hi ≤ (restP bs ps2 kf wb xr).1.hi ∧ (restP bs ps1 kf wa xr).1.lo ≤ (restP bs ps1 kf wa xr).1.hi) := by
    cases e : wi xr 0 ((bs.length : Int) - 1)
    · left
      unfold restP
      rw [e]
      have : askE bs ps1 kf wa false = 1 := by unfold askE; rw [hc1]; rfl
      rw [this]; rfl
    · right
      have re := wi_true.1 e
      obtain ⟨b, rfl⟩ := Int.eq_ofNat_of_zero_le re.1
      have hb : b < bs.length := by omega
      obtain ⟨q1, q2, q3, q4⟩ := hI.restP hc1 hc2 hne hb
      exact ⟨by rw [rest_ok hc1 hb, if_neg hne], q1, q2, q3, q4⟩
  have ho1 : ∀ V, Below w.heap.size w V → Calls Try.prog 21 #[.agg #[.slice A1 nb c1, .int .i64 kf, .slice A2 np c2, .int .i64 wa], .int .i64 xl] V fun e V' => e = .returned (.tuple #[.int .i64 (roomP bs ps1 kf wa xl).1, .int .i64 (roomP bs ps1 kf wa xl).2]) ∧ Below V.heap.size V V' := fun V hV =>
    room_c A1 A2 nb c1 np c2 kf wa xl bs ms1 ps1 V h1 h2 h31 (HBA.later hV) (HPA.later hV)
  have ho2 : ∀ V, Below w.heap.size w V → Calls Try.prog 21 #[.agg #[.slice B1 nb d1, .int .i64 kf, .slice B2 np d2, .int .i64 wb], .int .i64 xl] V fun e V' => e = .returned (.tuple #[.int .i64 (roomP bs ps2 kf wb xl).1, .int .i64 (roomP bs ps2 kf wb xl).2]) ∧ Below V.heap.size V V' := fun V hV =>
    room_c B1 B2 nb d1 np d2 kf wb xl bs ms2 ps2 V h1 h2 h32 (HBB.later hV) (HPB.later hV)
  have LO := hI.room hc1 hc2 hne xl
  have hip : Hid (∀ V x, Calls Try.prog 14 #[.agg #[.slice A1 nb c1, .int .i64 kf, .slice A2 np c2, .int .i64 wa], .int .i64 x] V fun e V' => e = .returned (.bool (wi x 0 ((np : Int) - 1))) ∧ Below V.heap.size V V') := Lib.hid fun V x => IsPiece_c A1 A2 nb c1 np c2 kf wa x V h2
  have HBA' := Lib.hid HBA
  have HPA' := Lib.hid HPA
  have HBB' := Lib.hid HBB
  have HPB' := Lib.hid HPB
  have H31 := Lib.hid h31
  have H32 := Lib.hid h32
  have HC1 := Lib.hid hc1
  have HC2 := Lib.hid hc2
  have HI := Lib.hid hI
  have HNE := Lib.hid hne
  have HNE2 := Lib.hid hne2
  have HBL := Lib.hid hbl
  have HPL := Lib.hid hpl
  obtain ⟨r1, hr1e⟩ : ∃ m, restP bs ps1 kf wa xr = m := ⟨_, rfl⟩
  obtain ⟨r2, hr2e⟩ : ∃ m, restP bs ps2 kf wb xr = m := ⟨_, rfl⟩
  obtain ⟨o1, ho1e⟩ : ∃ m, roomP bs ps1 kf wa xl = m := ⟨_, rfl⟩
  obtain ⟨o2, ho2e⟩ : ∃ m, roomP bs ps2 kf wb xl = m := ⟨_, rfl⟩
  rw [hr1e] at hr1 LR
  rw [hr2e] at hr2 LR
  rw [ho1e] at ho1 LO
  rw [ho2e] at ho2 LO
  clear HBA HPA HBB HPB h31 h32 hc1 hc2 hI hne hne2 hbl hpl hm1e hm2e hr1e hr2e ho1e ho2e M1 M2
  obtain ⟨⟨rl1, rh1⟩, re1⟩ := r1
  obtain ⟨⟨rl2, rh2⟩, re2⟩ := r2
  obtain ⟨ov1, oe1⟩ := o1
  obtain ⟨ov2, oe2⟩ := o2
  simp only at hr1 hr2 ho1 ho2 LR LO
  replace hr1 := Lib.hid hr1
  replace hr2 := Lib.hid hr2
  replace ho1 := Lib.hid ho1
  replace ho2 := Lib.hid ho2
  replace LR := Lib.hid LR
  replace LO := Lib.hid LO
  go_enter Try.func36, Try.ntmps36
  go_wp2_with fail
  obtain ⟨X, hX⟩ : ∃ X, ((w.alloc (.cells #[.slice A1 nb c1, .int .i64 kf, .slice A2 np c2, .int .i64 wa] 25)).alloc (.cells #[.slice B1 nb d1, .int .i64 kf, .slice B2 np d2, .int .i64 wb] 25)).alloc (.cells #[.int .i64 xa, .int .i64 xb, .int .i64 xr, .int .i64 xl] 49) = X := ⟨_, rfl⟩
  rw [hX]
  have BX : Below w.heap.size w X := (al3 hX).1
  have zX : X.heap.size = w.heap.size + 3 := (al3 hX).2
  have P0 := Lib.hid (al3_0 hX).2.1
  have P1 := Lib.hid (al3_1 hX).2.1
  have P2 := Lib.hid (al3_2 hX).2.1
  have zw : w.heap.size ≤ X.heap.size := by omega
  have n0 : w.heap.size < X.heap.size := by omega
  have n1 : w.heap.size + 1 < X.heap.size := by omega
  have n2 : w.heap.size + 1 + 1 < X.heap.size := by omega
  have D := Lib.hid (fun V (h : Below X.heap.size X V) => BX.trans (h.mono zw))
  have b0 := Below.refl X.heap.size X
  clear hX
  refine (hm1.out X BX).mono ?_
  rintro e w1 ⟨rfl, hb1⟩
  have b1 : Below X.heap.size X w1 := b0.trans (hb1.mono (by first | exact z0 | exact Nat.le_refl _))
  clear hb1
  try clear c0_0 c0_1 c0_2
  have c1_0 := fun j => (b1.cell (p := ⟨w.heap.size, j, none⟩) n0).trans (P0.out j)
  have c1_1 := fun j => (b1.cell (p := ⟨w.heap.size + 1, j, none⟩) n1).trans (P1.out j)
  have c1_2 := fun j => (b1.cell (p := ⟨w.heap.size + 1 + 1, j, none⟩) n2).trans (P2.out j)
  have z1 := b1.size
  go_wp2_with first | (go_at_call 18; (first | (with_reducible refine (ik0.out _).mono ?_) | (with_reducible refine (ik3.out _).mono ?_)); rintro e w' ⟨rfl, rfl⟩)
  refine (hm2.out _ (D.out _ b1)).mono ?_
  rintro e w2 ⟨rfl, hb2⟩
  have b2 : Below X.heap.size X w2 := b1.trans (hb2.mono (by first | exact z1 | exact Nat.le_refl _))
  clear hb2
  try clear c1_0 c1_1 c1_2
  have c2_0 := fun j => (b2.cell (p := ⟨w.heap.size, j, none⟩) n0).trans (P0.out j)
  have c2_1 := fun j => (b2.cell (p := ⟨w.heap.size + 1, j, none⟩) n1).trans (P1.out j)
  have c2_2 := fun j => (b2.cell (p := ⟨w.heap.size + 1 + 1, j, none⟩) n2).trans (P2.out j)
  have z2 := b2.size
  go_wp2_with first | (go_at_call 18; (first | (with_reducible refine (ik0.out _).mono ?_) | (with_reducible refine (ik3.out _).mono ?_)); rintro e w' ⟨rfl, rfl⟩)
  clear hm1 hm2 t1 t2 ik0 ik3
  refine (hr1.out _ (D.out _ b2)).mono ?_
  rintro e w3 ⟨rfl, hb3⟩
  have b3 : Below X.heap.size X w3 := b2.trans (hb3.mono (by first | exact z2 | exact Nat.le_refl _))
  clear hb3 c2_0 c2_1 c2_2
  have c3_0 := fun j => (b3.cell (p := ⟨w.heap.size, j, none⟩) n0).trans (P0.out j)
  have c3_1 := fun j => (b3.cell (p := ⟨w.heap.size + 1, j, none⟩) n1).trans (P1.out j)
  have c3_2 := fun j => (b3.cell (p := ⟨w.heap.size + 1 + 1, j, none⟩) n2).trans (P2.out j)
  have z3 := b3.size
  go_upto_region 8 with (fail)
  go_name_world w4 hw4
  have K4 : Hid (Blk w4 w3.heap.size 52 #[.int .i64 rl1, .int .i64 rh1]) := Lib.hid (by rw [← hw4]; exact Blk.new w3 _ _)
  have hb4 : Below w3.heap.size w3 w4 := (al1 hw4).1
  have b4 : Below X.heap.size X w4 := b3.trans (hb4.mono z3)
  clear hb4 hw4 c3_0 c3_1 c3_2
  have c4_0 := fun j => (b4.cell (p := ⟨w.heap.size, j, none⟩) n0).trans (P0.out j)
  have c4_1 := fun j => (b4.cell (p := ⟨w.heap.size + 1, j, none⟩) n1).trans (P1.out j)
  have c4_2 := fun j => (b4.cell (p := ⟨w.heap.size + 1 + 1, j, none⟩) n2).trans (P2.out j)
  have z4 := b4.size
  go_upto_if 72 with (fail)
  go_cut [] (fun wx => Below X.heap.size X wx)
  case first =>
    as_aux_lemma =>
      rcases LR.out with rfl | ⟨rfl, rfl, q2, q3, q4⟩
      · go_wp2_with fail
        go_meet
        exact b4
      · have u1 : decide (rl1 < rl2) = false := by simp; omega
        have u2 : decide (rh2 < rh1) = false := by simp; omega
        have u3 : decide (rh1 < rl1) = false := by simp; omega
        clear q2 q3 q4
        go_wp2_with fail
        refine (hr2.out _ (D.out _ b4)).mono ?_
        rintro e w5 ⟨rfl, hb5⟩
        have b5 : Below X.heap.size X w5 := b4.trans (hb5.mono (by first | exact z4 | exact Nat.le_refl _))
        have K5 := Lib.hid (K4.out.below hb5 K4.out.lt)
        clear hb5 c4_0 c4_1 c4_2
        have c5_0 := fun j => (b5.cell (p := ⟨w.heap.size, j, none⟩) n0).trans (P0.out j)
        have c5_1 := fun j => (b5.cell (p := ⟨w.heap.size + 1, j, none⟩) n1).trans (P1.out j)
        have c5_2 := fun j => (b5.cell (p := ⟨w.heap.size + 1 + 1, j, none⟩) n2).trans (P2.out j)
        have z5 := b5.size
        go_upto_region 10 with (fail)
        go_name_world w6 hw6
        have K6 : Hid (Blk w6 w5.heap.size 52 #[.int .i64 rl2, .int .i64 rh2]) := Lib.hid (by rw [← hw6]; exact Blk.new w5 _ _)
        have hb6 : Below w5.heap.size w5 w6 := (al1 hw6).1
        have b6 : Below X.heap.size X w6 := b5.trans (hb6.mono z5)
        have k5 := (K5.out.below hb6 K5.out.lt).cell
        have k6 := K6.out.cell
        clear hb6 hw6
        go_wp2_with fail
        go_meet
        exact b6
  case rest =>
    obtain ⟨w7, hw7⟩ : ∃ Z, wc = Z := ⟨_, rfl⟩
    rw [hw7] at hcut ⊢
    have b7 := hcut
    clear hw7 hcut hr1 hr2 LR K4 c4_0 c4_1 c4_2 b4 z4 b3 z3
    have c7_0 := fun j => (b7.cell (p := ⟨w.heap.size, j, none⟩) n0).trans (P0.out j)
    have c7_1 := fun j => (b7.cell (p := ⟨w.heap.size + 1, j, none⟩) n1).trans (P1.out j)
    have c7_2 := fun j => (b7.cell (p := ⟨w.heap.size + 1 + 1, j, none⟩) n2).trans (P2.out j)
    have z7 := b7.size
    go_wp2_with fail
    refine (ho2.out _ (D.out _ b7)).mono ?_
    rintro e w8 ⟨rfl, hb8⟩
    have b8 : Below X.heap.size X w8 := b7.trans (hb8.mono (by first | exact z7 | exact Nat.le_refl _))
    clear hb8 c7_0 c7_1 c7_2
    have c8_0 := fun j => (b8.cell (p := ⟨w.heap.size, j, none⟩) n0).trans (P0.out j)
    have c8_1 := fun j => (b8.cell (p := ⟨w.heap.size + 1, j, none⟩) n1).trans (P1.out j)
    have c8_2 := fun j => (b8.cell (p := ⟨w.heap.size + 1 + 1, j, none⟩) n2).trans (P2.out j)
    have z8 := b8.size
    by_cases g1 : oe2 = 0
    · subst g1
      by_cases g2 : ov2 = 3
      · subst g2
        clear LO
        go_wp2_with fail
        cases ea : wi xa 0 ((np : Int) - 1)
        · have hpA : ∀ V, Calls Try.prog 14 #[.agg #[.slice A1 nb c1, .int .i64 kf, .slice A2 np c2, .int .i64 wa], .int .i64 xa] V fun e V' => e = .returned (.bool false) ∧ Below V.heap.size V V' := fun V => by have := hip.out V xa; rw [ea] at this; exact this
          replace hpA := Lib.hid hpA
          refine (hpA.out _).mono ?_
          rintro e w9 ⟨rfl, hb9⟩
          have b9 : Below X.heap.size X w9 := b8.trans (hb9.mono (by first | exact z8 | exact Nat.le_refl _))
          clear hb9 c8_0 c8_1 c8_2
          have c9_0 := fun j => (b9.cell (p := ⟨w.heap.size, j, none⟩) n0).trans (P0.out j)
          have c9_1 := fun j => (b9.cell (p := ⟨w.heap.size + 1, j, none⟩) n1).trans (P1.out j)
          have c9_2 := fun j => (b9.cell (p := ⟨w.heap.size + 1 + 1, j, none⟩) n2).trans (P2.out j)
          have z9 := b9.size
          go_wp2_with fail
          go_ret
          exact ⟨rfl, D.out _ b9⟩
        have hpA : ∀ V, Calls Try.prog 14 #[.agg #[.slice A1 nb c1, .int .i64 kf, .slice A2 np c2, .int .i64 wa], .int .i64 xa] V fun e V' => e = .returned (.bool true) ∧ Below V.heap.size V V' := fun V => by have := hip.out V xa; rw [ea] at this; exact this
        replace hpA := Lib.hid hpA
        refine (hpA.out _).mono ?_
        rintro e w9 ⟨rfl, hb9⟩
        have b9 : Below X.heap.size X w9 := b8.trans (hb9.mono (by first | exact z8 | exact Nat.le_refl _))
        clear hb9 c8_0 c8_1 c8_2
        have c9_0 := fun j => (b9.cell (p := ⟨w.heap.size, j, none⟩) n0).trans (P0.out j)
        have c9_1 := fun j => (b9.cell (p := ⟨w.heap.size + 1, j, none⟩) n1).trans (P1.out j)
        have c9_2 := fun j => (b9.cell (p := ⟨w.heap.size + 1 + 1, j, none⟩) n2).trans (P2.out j)
        have z9 := b9.size
        go_wp2_with fail
        cases eb : wi xb 0 ((np : Int) - 1)
        · have hpB : ∀ V, Calls Try.prog 14 #[.agg #[.slice A1 nb c1, .int .i64 kf, .slice A2 np c2, .int .i64 wa], .int .i64 xb] V fun e V' => e = .returned (.bool false) ∧ Below V.heap.size V V' := fun V => by have := hip.out V xb; rw [eb] at this; exact this
          replace hpB := Lib.hid hpB
          refine (hpB.out _).mono ?_
          rintro e w10 ⟨rfl, hb10⟩
          have b10 : Below X.heap.size X w10 := b9.trans (hb10.mono (by first | exact z9 | exact Nat.le_refl _))
          clear hb10 c9_0 c9_1 c9_2
          have c10_0 := fun j => (b10.cell (p := ⟨w.heap.size, j, none⟩) n0).trans (P0.out j)
          have c10_1 := fun j => (b10.cell (p := ⟨w.heap.size + 1, j, none⟩) n1).trans (P1.out j)
          have c10_2 := fun j => (b10.cell (p := ⟨w.heap.size + 1 + 1, j, none⟩) n2).trans (P2.out j)
          have z10 := b10.size
          go_wp2_with fail
          go_ret
          exact ⟨rfl, D.out _ b10⟩
        have hpB : ∀ V, Calls Try.prog 14 #[.agg #[.slice A1 nb c1, .int .i64 kf, .slice A2 np c2, .int .i64 wa], .int .i64 xb] V fun e V' => e = .returned (.bool true) ∧ Below V.heap.size V V' := fun V => by have := hip.out V xb; rw [eb] at this; exact this
        replace hpB := Lib.hid hpB
        refine (hpB.out _).mono ?_
        rintro e w10 ⟨rfl, hb10⟩
        have b10 : Below X.heap.size X w10 := b9.trans (hb10.mono (by first | exact z9 | exact Nat.le_refl _))
        clear hb10 c9_0 c9_1 c9_2
        have c10_0 := fun j => (b10.cell (p := ⟨w.heap.size, j, none⟩) n0).trans (P0.out j)
        have c10_1 := fun j => (b10.cell (p := ⟨w.heap.size + 1, j, none⟩) n1).trans (P1.out j)
        have c10_2 := fun j => (b10.cell (p := ⟨w.heap.size + 1 + 1, j, none⟩) n2).trans (P2.out j)
        have z10 := b10.size
        go_wp2_with fail
        clear hpA hpB hip
        have ra := wi_true.1 ea
        have rb := wi_true.1 eb
        clear ea eb
        obtain ⟨a, rfl⟩ := Int.eq_ofNat_of_zero_le ra.1
        obtain ⟨c, rfl⟩ := Int.eq_ofNat_of_zero_le rb.1
        have ha : a < ps1.length := by rw [HPL.out]; omega
        have hc : c < ps1.length := by rw [HPL.out]; omega
        obtain ⟨T1, T2, T3⟩ := HI.out.alike HC1.out HC2.out HNE.out ha hc
        have T4 := HI.out.of HC1.out HC2.out HNE.out ha
        have e11 : wi (a : Int) 0 ((np : Int) - 1) = true := wi_true.2 (by omega)
        have hof1 : ∀ V, Below w.heap.size w V → Calls Try.prog 19 #[.agg #[.slice A1 nb c1, .int .i64 kf, .slice A2 np c2, .int .i64 wa], .int .i64 a] V fun e V' => ∃ A c, e = .returned (.tuple #[.slice A (ofP bs ps1 kf wa a).length c, .int .i64 0]) ∧ IntsAt V' A (ofP bs ps1 kf wa a).length (ofP bs ps1 kf wa a) ∧ Below V.heap.size V V' := fun V hV => by
          have := of_c A1 A2 nb c1 np c2 kf wa a bs ms1 ps1 V h1 h2 H31.out (HBA'.out.later hV) (HPA'.out.later hV)
          rw [e11, askE_ok HC1.out, if_neg HNE.out] at this
          refine this.mono fun e W' => ?_
          rintro ⟨v, rfl, ho, hb⟩
          obtain ⟨A, c, rfl, -, hs⟩ := SlAt.of_own (d := (0 : Int)) encI_len ho rfl
          exact ⟨A, c, rfl, ints_iff.2 hs, hb⟩
        have hof2 : ∀ V, Below w.heap.size w V → Calls Try.prog 19 #[.agg #[.slice B1 nb d1, .int .i64 kf, .slice B2 np d2, .int .i64 wb], .int .i64 a] V fun e V' => ∃ A c, e = .returned (.tuple #[.slice A (ofP bs ps2 kf wb a).length c, .int .i64 0]) ∧ IntsAt V' A (ofP bs ps2 kf wb a).length (ofP bs ps2 kf wb a) ∧ Below V.heap.size V V' := fun V hV => by
          have := of_c B1 B2 nb d1 np d2 kf wb a bs ms2 ps2 V h1 h2 H32.out (HBB'.out.later hV) (HPB'.out.later hV)
          rw [e11, askE_ok HC2.out, if_neg HNE2.out] at this
          refine this.mono fun e W' => ?_
          rintro ⟨v, rfl, ho, hb⟩
          obtain ⟨A, c, rfl, -, hs⟩ := SlAt.of_own (d := (0 : Int)) encI_len ho rfl
          exact ⟨A, c, rfl, ints_iff.2 hs, hb⟩
        have hal1 : ∀ V, Below w.heap.size w V → Calls Try.prog 29 #[.agg #[.slice A1 nb c1, .int .i64 kf, .slice A2 np c2, .int .i64 wa], .int .i64 a, .int .i64 c] V fun e V' => e = .returned (.tuple #[.int .i64 (alikeP bs ps1 kf wa a c).1, .int .i64 0]) ∧ Below V.heap.size V V' := fun V hV => by
          have := alike_c A1 A2 nb c1 np c2 kf wa a c bs ms1 ps1 V h1 h2 H31.out (HBA'.out.later hV) (HPA'.out.later hV)
          rw [T1] at this
          exact this
        have hal2 : ∀ V, Below w.heap.size w V → Calls Try.prog 29 #[.agg #[.slice B1 nb d1, .int .i64 kf, .slice B2 np d2, .int .i64 wb], .int .i64 a, .int .i64 c] V fun e V' => e = .returned (.tuple #[.int .i64 (alikeP bs ps2 kf wb a c).1, .int .i64 0]) ∧ Below V.heap.size V V' := fun V hV => by
          have := alike_c B1 B2 nb d1 np d2 kf wb a c bs ms2 ps2 V h1 h2 H32.out (HBB'.out.later hV) (HPB'.out.later hV)
          rw [T2] at this
          exact this
        have LE1 := ofP_len (bs := bs) (ps := ps1) (kf := kf) (wr := wa) (piece := (a : Int))
        have LE2 := ofP_len (bs := bs) (ps := ps2) (kf := kf) (wr := wb) (piece := (a : Int))
        rw [HBL.out] at LE1 LE2
        obtain ⟨O1, hO1⟩ : ∃ O, ofP bs ps1 kf wa a = O := ⟨_, rfl⟩
        obtain ⟨O2, hO2⟩ : ∃ O, ofP bs ps2 kf wb a = O := ⟨_, rfl⟩
        obtain ⟨q1, hq1⟩ : ∃ O, (alikeP bs ps1 kf wa a c).1 = O := ⟨_, rfl⟩
        obtain ⟨q2, hq2⟩ : ∃ O, (alikeP bs ps2 kf wb a c).1 = O := ⟨_, rfl⟩
        rw [hO1] at hof1 T4 LE1
        rw [hO2] at hof2 T4 LE2
        rw [hq1] at hal1 T3
        rw [hq2] at hal2 T3
        obtain ⟨n8, hn8⟩ : ∃ n, O1.length = n := ⟨_, rfl⟩
        obtain ⟨n9, hn9⟩ : ∃ n, O2.length = n := ⟨_, rfl⟩
        rw [hn8] at hof1 LE1
        rw [hn9] at hof2 LE2
        have t9 : decide ((n9 : Int) ≤ 40) = true := by simp; omega
        replace hof1 := Lib.hid hof1
        replace hof2 := Lib.hid hof2
        replace hal1 := Lib.hid hal1
        replace hal2 := Lib.hid hal2
        replace T4 := Lib.hid T4
        clear hO1 hO2 hq1 hq2 hn8 hn9 T1 T2 ra rb e11 ha hc
        refine (hof1.out _ (D.out _ b10)).mono ?_
        rintro e w11 ⟨A8, c8, rfl, hi8, hb11⟩
        have I8 := Lib.hid hi8
        have b11 : Below X.heap.size X w11 := b10.trans (hb11.mono z10)
        clear hi8 hb11 c10_0 c10_1 c10_2
        have c11_0 := fun j => (b11.cell (p := ⟨w.heap.size, j, none⟩) n0).trans (P0.out j)
        have c11_1 := fun j => (b11.cell (p := ⟨w.heap.size + 1, j, none⟩) n1).trans (P1.out j)
        have c11_2 := fun j => (b11.cell (p := ⟨w.heap.size + 1 + 1, j, none⟩) n2).trans (P2.out j)
        have z11 := b11.size
        go_wp2_with fail
        refine (hof2.out _ (D.out _ b11)).mono ?_
        rintro e w12 ⟨A9, c9, rfl, hi9, hb12⟩
        replace I8 := Lib.hid (I8.out.later hb12)
        have I9 := Lib.hid hi9
        have b12 : Below X.heap.size X w12 := b11.trans (hb12.mono z11)
        clear hi9 hb12 c11_0 c11_1 c11_2
        have c12_0 := fun j => (b12.cell (p := ⟨w.heap.size, j, none⟩) n0).trans (P0.out j)
        have c12_1 := fun j => (b12.cell (p := ⟨w.heap.size + 1, j, none⟩) n1).trans (P1.out j)
        have c12_2 := fun j => (b12.cell (p := ⟨w.heap.size + 1 + 1, j, none⟩) n2).trans (P2.out j)
        have z12 := b12.size
        go_wp2_with fail
        refine (hal1.out _ (D.out _ b12)).mono ?_
        rintro e w13 ⟨rfl, hb13⟩
        have b13 : Below X.heap.size X w13 := b12.trans (hb13.mono (by first | exact z12 | exact Nat.le_refl _))
        replace I8 := Lib.hid (I8.out.later hb13)
        replace I9 := Lib.hid (I9.out.later hb13)
        clear hb13 c12_0 c12_1 c12_2
        have c13_0 := fun j => (b13.cell (p := ⟨w.heap.size, j, none⟩) n0).trans (P0.out j)
        have c13_1 := fun j => (b13.cell (p := ⟨w.heap.size + 1, j, none⟩) n1).trans (P1.out j)
        have c13_2 := fun j => (b13.cell (p := ⟨w.heap.size + 1 + 1, j, none⟩) n2).trans (P2.out j)
        have z13 := b13.size
        go_wp2_with fail
        refine (hal2.out _ (D.out _ b13)).mono ?_
        rintro e w14 ⟨rfl, hb14⟩
        have b14 : Below X.heap.size X w14 := b13.trans (hb14.mono (by first | exact z13 | exact Nat.le_refl _))
        have hsu := Subset_c A8 A9 n8 n9 c8 c9 O1 O2 w14 (by omega) (by omega) (I8.out.later hb14) (I9.out.later hb14)
        rw [T4.out] at hsu
        replace hsu := Lib.hid hsu
        clear hb14 c13_0 c13_1 c13_2 T4 I8 I9
        have c14_0 := fun j => (b14.cell (p := ⟨w.heap.size, j, none⟩) n0).trans (P0.out j)
        have c14_1 := fun j => (b14.cell (p := ⟨w.heap.size + 1, j, none⟩) n1).trans (P1.out j)
        have c14_2 := fun j => (b14.cell (p := ⟨w.heap.size + 1 + 1, j, none⟩) n2).trans (P2.out j)
        have z14 := b14.size
        rcases T3 with rfl | rfl
        · go_wp2_with fail
          refine hsu.out.mono ?_
          rintro e w' ⟨rfl, rfl⟩
          go_wp2_with fail
          go_ret
          exact ⟨rfl, D.out _ b14⟩
        · have qq : (q1 == q1) = true := by simp
          cases q3 : (q1 == (3 : Int))
          all_goals
            go_wp2_with fail
            refine hsu.out.mono ?_
            rintro e w' ⟨rfl, rfl⟩
            go_wp2_with fail
            go_ret
            exact ⟨rfl, D.out _ b14⟩
      · obtain ⟨rfl, rfl⟩ := LO.out rfl g2
        have g3 : (ov1 != 3) = true := by simpa using g2
        have g4 : (ov1 != ov1) = false := by simp
        clear LO g2
        go_wp2_with fail
        refine (ho1.out _ (D.out _ b8)).mono ?_
        rintro e w9 ⟨rfl, hb9⟩
        have b9 : Below X.heap.size X w9 := b8.trans (hb9.mono (by first | exact z8 | exact Nat.le_refl _))
        clear hb9 c8_0 c8_1 c8_2
        have c9_0 := fun j => (b9.cell (p := ⟨w.heap.size, j, none⟩) n0).trans (P0.out j)
        have c9_1 := fun j => (b9.cell (p := ⟨w.heap.size + 1, j, none⟩) n1).trans (P1.out j)
        have c9_2 := fun j => (b9.cell (p := ⟨w.heap.size + 1 + 1, j, none⟩) n2).trans (P2.out j)
        have z9 := b9.size
        go_wp2_with fail
        clear ho1 ho2 g3 g4
        cases ea : wi xa 0 ((np : Int) - 1)
        · have hpA : ∀ V, Calls Try.prog 14 #[.agg #[.slice A1 nb c1, .int .i64 kf, .slice A2 np c2, .int .i64 wa], .int .i64 xa] V fun e V' => e = .returned (.bool false) ∧ Below V.heap.size V V' := fun V => by have := hip.out V xa; rw [ea] at this; exact this
          replace hpA := Lib.hid hpA
          refine (hpA.out _).mono ?_
          rintro e w10 ⟨rfl, hb10⟩
          have b10 : Below X.heap.size X w10 := b9.trans (hb10.mono (by first | exact z9 | exact Nat.le_refl _))
          clear hb10 c9_0 c9_1 c9_2
          have c10_0 := fun j => (b10.cell (p := ⟨w.heap.size, j, none⟩) n0).trans (P0.out j)
          have c10_1 := fun j => (b10.cell (p := ⟨w.heap.size + 1, j, none⟩) n1).trans (P1.out j)
          have c10_2 := fun j => (b10.cell (p := ⟨w.heap.size + 1 + 1, j, none⟩) n2).trans (P2.out j)
          have z10 := b10.size
          go_wp2_with fail
          go_ret
          exact ⟨rfl, D.out _ b10⟩
        have hpA : ∀ V, Calls Try.prog 14 #[.agg #[.slice A1 nb c1, .int .i64 kf, .slice A2 np c2, .int .i64 wa], .int .i64 xa] V fun e V' => e = .returned (.bool true) ∧ Below V.heap.size V V' := fun V => by have := hip.out V xa; rw [ea] at this; exact this
        replace hpA := Lib.hid hpA
        refine (hpA.out _).mono ?_
        rintro e w10 ⟨rfl, hb10⟩
        have b10 : Below X.heap.size X w10 := b9.trans (hb10.mono (by first | exact z9 | exact Nat.le_refl _))
        clear hb10 c9_0 c9_1 c9_2
        have c10_0 := fun j => (b10.cell (p := ⟨w.heap.size, j, none⟩) n0).trans (P0.out j)
        have c10_1 := fun j => (b10.cell (p := ⟨w.heap.size + 1, j, none⟩) n1).trans (P1.out j)
        have c10_2 := fun j => (b10.cell (p := ⟨w.heap.size + 1 + 1, j, none⟩) n2).trans (P2.out j)
        have z10 := b10.size
        go_wp2_with fail
        cases eb : wi xb 0 ((np : Int) - 1)
        · have hpB : ∀ V, Calls Try.prog 14 #[.agg #[.slice A1 nb c1, .int .i64 kf, .slice A2 np c2, .int .i64 wa], .int .i64 xb] V fun e V' => e = .returned (.bool false) ∧ Below V.heap.size V V' := fun V => by have := hip.out V xb; rw [eb] at this; exact this
          replace hpB := Lib.hid hpB
          refine (hpB.out _).mono ?_
          rintro e w11 ⟨rfl, hb11⟩
          have b11 : Below X.heap.size X w11 := b10.trans (hb11.mono (by first | exact z10 | exact Nat.le_refl _))
          clear hb11 c10_0 c10_1 c10_2
          have c11_0 := fun j => (b11.cell (p := ⟨w.heap.size, j, none⟩) n0).trans (P0.out j)
          have c11_1 := fun j => (b11.cell (p := ⟨w.heap.size + 1, j, none⟩) n1).trans (P1.out j)
          have c11_2 := fun j => (b11.cell (p := ⟨w.heap.size + 1 + 1, j, none⟩) n2).trans (P2.out j)
          have z11 := b11.size
          go_wp2_with fail
          go_ret
          exact ⟨rfl, D.out _ b11⟩
        have hpB : ∀ V, Calls Try.prog 14 #[.agg #[.slice A1 nb c1, .int .i64 kf, .slice A2 np c2, .int .i64 wa], .int .i64 xb] V fun e V' => e = .returned (.bool true) ∧ Below V.heap.size V V' := fun V => by have := hip.out V xb; rw [eb] at this; exact this
        replace hpB := Lib.hid hpB
        refine (hpB.out _).mono ?_
        rintro e w11 ⟨rfl, hb11⟩
        have b11 : Below X.heap.size X w11 := b10.trans (hb11.mono (by first | exact z10 | exact Nat.le_refl _))
        clear hb11 c10_0 c10_1 c10_2
        have c11_0 := fun j => (b11.cell (p := ⟨w.heap.size, j, none⟩) n0).trans (P0.out j)
        have c11_1 := fun j => (b11.cell (p := ⟨w.heap.size + 1, j, none⟩) n1).trans (P1.out j)
        have c11_2 := fun j => (b11.cell (p := ⟨w.heap.size + 1 + 1, j, none⟩) n2).trans (P2.out j)
        have z11 := b11.size
        go_wp2_with fail
        clear hpA hpB hip
        have ra := wi_true.1 ea
        have rb := wi_true.1 eb
        clear ea eb
        obtain ⟨a, rfl⟩ := Int.eq_ofNat_of_zero_le ra.1
        obtain ⟨c, rfl⟩ := Int.eq_ofNat_of_zero_le rb.1
        have ha : a < ps1.length := by rw [HPL.out]; omega
        have hc : c < ps1.length := by rw [HPL.out]; omega
        obtain ⟨T1, T2, T3⟩ := HI.out.alike HC1.out HC2.out HNE.out ha hc
        have T4 := HI.out.of HC1.out HC2.out HNE.out ha
        have e11 : wi (a : Int) 0 ((np : Int) - 1) = true := wi_true.2 (by omega)
        have hof1 : ∀ V, Below w.heap.size w V → Calls Try.prog 19 #[.agg #[.slice A1 nb c1, .int .i64 kf, .slice A2 np c2, .int .i64 wa], .int .i64 a] V fun e V' => ∃ A c, e = .returned (.tuple #[.slice A (ofP bs ps1 kf wa a).length c, .int .i64 0]) ∧ IntsAt V' A (ofP bs ps1 kf wa a).length (ofP bs ps1 kf wa a) ∧ Below V.heap.size V V' := fun V hV => by
          have := of_c A1 A2 nb c1 np c2 kf wa a bs ms1 ps1 V h1 h2 H31.out (HBA'.out.later hV) (HPA'.out.later hV)
          rw [e11, askE_ok HC1.out, if_neg HNE.out] at this
          refine this.mono fun e W' => ?_
          rintro ⟨v, rfl, ho, hb⟩
          obtain ⟨A, c, rfl, -, hs⟩ := SlAt.of_own (d := (0 : Int)) encI_len ho rfl
          exact ⟨A, c, rfl, ints_iff.2 hs, hb⟩
        have hof2 : ∀ V, Below w.heap.size w V → Calls Try.prog 19 #[.agg #[.slice B1 nb d1, .int .i64 kf, .slice B2 np d2, .int .i64 wb], .int .i64 a] V fun e V' => ∃ A c, e = .returned (.tuple #[.slice A (ofP bs ps2 kf wb a).length c, .int .i64 0]) ∧ IntsAt V' A (ofP bs ps2 kf wb a).length (ofP bs ps2 kf wb a) ∧ Below V.heap.size V V' := fun V hV => by
          have := of_c B1 B2 nb d1 np d2 kf wb a bs ms2 ps2 V h1 h2 H32.out (HBB'.out.later hV) (HPB'.out.later hV)
          rw [e11, askE_ok HC2.out, if_neg HNE2.out] at this
          refine this.mono fun e W' => ?_
          rintro ⟨v, rfl, ho, hb⟩
          obtain ⟨A, c, rfl, -, hs⟩ := SlAt.of_own (d := (0 : Int)) encI_len ho rfl
          exact ⟨A, c, rfl, ints_iff.2 hs, hb⟩
        have hal1 : ∀ V, Below w.heap.size w V → Calls Try.prog 29 #[.agg #[.slice A1 nb c1, .int .i64 kf, .slice A2 np c2, .int .i64 wa], .int .i64 a, .int .i64 c] V fun e V' => e = .returned (.tuple #[.int .i64 (alikeP bs ps1 kf wa a c).1, .int .i64 0]) ∧ Below V.heap.size V V' := fun V hV => by
          have := alike_c A1 A2 nb c1 np c2 kf wa a c bs ms1 ps1 V h1 h2 H31.out (HBA'.out.later hV) (HPA'.out.later hV)
          rw [T1] at this
          exact this
        have hal2 : ∀ V, Below w.heap.size w V → Calls Try.prog 29 #[.agg #[.slice B1 nb d1, .int .i64 kf, .slice B2 np d2, .int .i64 wb], .int .i64 a, .int .i64 c] V fun e V' => e = .returned (.tuple #[.int .i64 (alikeP bs ps2 kf wb a c).1, .int .i64 0]) ∧ Below V.heap.size V V' := fun V hV => by
          have := alike_c B1 B2 nb d1 np d2 kf wb a c bs ms2 ps2 V h1 h2 H32.out (HBB'.out.later hV) (HPB'.out.later hV)
          rw [T2] at this
          exact this
        have LE1 := ofP_len (bs := bs) (ps := ps1) (kf := kf) (wr := wa) (piece := (a : Int))
        have LE2 := ofP_len (bs := bs) (ps := ps2) (kf := kf) (wr := wb) (piece := (a : Int))
        rw [HBL.out] at LE1 LE2
        obtain ⟨O1, hO1⟩ : ∃ O, ofP bs ps1 kf wa a = O := ⟨_, rfl⟩
        obtain ⟨O2, hO2⟩ : ∃ O, ofP bs ps2 kf wb a = O := ⟨_, rfl⟩
        obtain ⟨q1, hq1⟩ : ∃ O, (alikeP bs ps1 kf wa a c).1 = O := ⟨_, rfl⟩
        obtain ⟨q2, hq2⟩ : ∃ O, (alikeP bs ps2 kf wb a c).1 = O := ⟨_, rfl⟩
        rw [hO1] at hof1 T4 LE1
        rw [hO2] at hof2 T4 LE2
        rw [hq1] at hal1 T3
        rw [hq2] at hal2 T3
        obtain ⟨n8, hn8⟩ : ∃ n, O1.length = n := ⟨_, rfl⟩
        obtain ⟨n9, hn9⟩ : ∃ n, O2.length = n := ⟨_, rfl⟩
        rw [hn8] at hof1 LE1
        rw [hn9] at hof2 LE2
        have t9 : decide ((n9 : Int) ≤ 40) = true := by simp; omega
        replace hof1 := Lib.hid hof1
        replace hof2 := Lib.hid hof2
        replace hal1 := Lib.hid hal1
        replace hal2 := Lib.hid hal2
        replace T4 := Lib.hid T4
        clear hO1 hO2 hq1 hq2 hn8 hn9 T1 T2 ra rb e11 ha hc
        refine (hof1.out _ (D.out _ b11)).mono ?_
        rintro e w12 ⟨A8, c8, rfl, hi8, hb12⟩
        have I8 := Lib.hid hi8
        have b12 : Below X.heap.size X w12 := b11.trans (hb12.mono z11)
        clear hi8 hb12 c11_0 c11_1 c11_2
        have c12_0 := fun j => (b12.cell (p := ⟨w.heap.size, j, none⟩) n0).trans (P0.out j)
        have c12_1 := fun j => (b12.cell (p := ⟨w.heap.size + 1, j, none⟩) n1).trans (P1.out j)
        have c12_2 := fun j => (b12.cell (p := ⟨w.heap.size + 1 + 1, j, none⟩) n2).trans (P2.out j)
        have z12 := b12.size
        go_wp2_with fail
        refine (hof2.out _ (D.out _ b12)).mono ?_
        rintro e w13 ⟨A9, c9, rfl, hi9, hb13⟩
        replace I8 := Lib.hid (I8.out.later hb13)
        have I9 := Lib.hid hi9
        have b13 : Below X.heap.size X w13 := b12.trans (hb13.mono z12)
        clear hi9 hb13 c12_0 c12_1 c12_2
        have c13_0 := fun j => (b13.cell (p := ⟨w.heap.size, j, none⟩) n0).trans (P0.out j)
        have c13_1 := fun j => (b13.cell (p := ⟨w.heap.size + 1, j, none⟩) n1).trans (P1.out j)
        have c13_2 := fun j => (b13.cell (p := ⟨w.heap.size + 1 + 1, j, none⟩) n2).trans (P2.out j)
        have z13 := b13.size
        go_wp2_with fail
        refine (hal1.out _ (D.out _ b13)).mono ?_
        rintro e w14 ⟨rfl, hb14⟩
        have b14 : Below X.heap.size X w14 := b13.trans (hb14.mono (by first | exact z13 | exact Nat.le_refl _))
        replace I8 := Lib.hid (I8.out.later hb14)
        replace I9 := Lib.hid (I9.out.later hb14)
        clear hb14 c13_0 c13_1 c13_2
        have c14_0 := fun j => (b14.cell (p := ⟨w.heap.size, j, none⟩) n0).trans (P0.out j)
        have c14_1 := fun j => (b14.cell (p := ⟨w.heap.size + 1, j, none⟩) n1).trans (P1.out j)
        have c14_2 := fun j => (b14.cell (p := ⟨w.heap.size + 1 + 1, j, none⟩) n2).trans (P2.out j)
        have z14 := b14.size
        go_wp2_with fail
        refine (hal2.out _ (D.out _ b14)).mono ?_
        rintro e w15 ⟨rfl, hb15⟩
        have b15 : Below X.heap.size X w15 := b14.trans (hb15.mono (by first | exact z14 | exact Nat.le_refl _))
        have hsu := Subset_c A8 A9 n8 n9 c8 c9 O1 O2 w15 (by omega) (by omega) (I8.out.later hb15) (I9.out.later hb15)
        rw [T4.out] at hsu
        replace hsu := Lib.hid hsu
        clear hb15 c14_0 c14_1 c14_2 T4 I8 I9
        have c15_0 := fun j => (b15.cell (p := ⟨w.heap.size, j, none⟩) n0).trans (P0.out j)
        have c15_1 := fun j => (b15.cell (p := ⟨w.heap.size + 1, j, none⟩) n1).trans (P1.out j)
        have c15_2 := fun j => (b15.cell (p := ⟨w.heap.size + 1 + 1, j, none⟩) n2).trans (P2.out j)
        have z15 := b15.size
        rcases T3 with rfl | rfl
        · go_wp2_with fail
          refine hsu.out.mono ?_
          rintro e w' ⟨rfl, rfl⟩
          go_wp2_with fail
          go_ret
          exact ⟨rfl, D.out _ b15⟩
        · have qq : (q1 == q1) = true := by simp
          cases q3 : (q1 == (3 : Int))
          all_goals
            go_wp2_with fail
            refine hsu.out.mono ?_
            rintro e w' ⟨rfl, rfl⟩
            go_wp2_with fail
            go_ret
            exact ⟨rfl, D.out _ b15⟩
    · have g3 : (oe2 == 0) = false := by rw [beq_eq_false_iff_ne]; exact g1
      clear LO g1
      go_wp2_with fail
      cases ea : wi xa 0 ((np : Int) - 1)
      · have hpA : ∀ V, Calls Try.prog 14 #[.agg #[.slice A1 nb c1, .int .i64 kf, .slice A2 np c2, .int .i64 wa], .int .i64 xa] V fun e V' => e = .returned (.bool false) ∧ Below V.heap.size V V' := fun V => by have := hip.out V xa; rw [ea] at this; exact this
        replace hpA := Lib.hid hpA
        refine (hpA.out _).mono ?_
        rintro e w9 ⟨rfl, hb9⟩
        have b9 : Below X.heap.size X w9 := b8.trans (hb9.mono (by first | exact z8 | exact Nat.le_refl _))
        clear hb9 c8_0 c8_1 c8_2
        have c9_0 := fun j => (b9.cell (p := ⟨w.heap.size, j, none⟩) n0).trans (P0.out j)
        have c9_1 := fun j => (b9.cell (p := ⟨w.heap.size + 1, j, none⟩) n1).trans (P1.out j)
        have c9_2 := fun j => (b9.cell (p := ⟨w.heap.size + 1 + 1, j, none⟩) n2).trans (P2.out j)
        have z9 := b9.size
        go_wp2_with fail
        go_ret
        exact ⟨rfl, D.out _ b9⟩
      have hpA : ∀ V, Calls Try.prog 14 #[.agg #[.slice A1 nb c1, .int .i64 kf, .slice A2 np c2, .int .i64 wa], .int .i64 xa] V fun e V' => e = .returned (.bool true) ∧ Below V.heap.size V V' := fun V => by have := hip.out V xa; rw [ea] at this; exact this
      replace hpA := Lib.hid hpA
      refine (hpA.out _).mono ?_
      rintro e w9 ⟨rfl, hb9⟩
      have b9 : Below X.heap.size X w9 := b8.trans (hb9.mono (by first | exact z8 | exact Nat.le_refl _))
      clear hb9 c8_0 c8_1 c8_2
      have c9_0 := fun j => (b9.cell (p := ⟨w.heap.size, j, none⟩) n0).trans (P0.out j)
      have c9_1 := fun j => (b9.cell (p := ⟨w.heap.size + 1, j, none⟩) n1).trans (P1.out j)
      have c9_2 := fun j => (b9.cell (p := ⟨w.heap.size + 1 + 1, j, none⟩) n2).trans (P2.out j)
      have z9 := b9.size
      go_wp2_with fail
      cases eb : wi xb 0 ((np : Int) - 1)
      · have hpB : ∀ V, Calls Try.prog 14 #[.agg #[.slice A1 nb c1, .int .i64 kf, .slice A2 np c2, .int .i64 wa], .int .i64 xb] V fun e V' => e = .returned (.bool false) ∧ Below V.heap.size V V' := fun V => by have := hip.out V xb; rw [eb] at this; exact this
        replace hpB := Lib.hid hpB
        refine (hpB.out _).mono ?_
        rintro e w10 ⟨rfl, hb10⟩
        have b10 : Below X.heap.size X w10 := b9.trans (hb10.mono (by first | exact z9 | exact Nat.le_refl _))
        clear hb10 c9_0 c9_1 c9_2
        have c10_0 := fun j => (b10.cell (p := ⟨w.heap.size, j, none⟩) n0).trans (P0.out j)
        have c10_1 := fun j => (b10.cell (p := ⟨w.heap.size + 1, j, none⟩) n1).trans (P1.out j)
        have c10_2 := fun j => (b10.cell (p := ⟨w.heap.size + 1 + 1, j, none⟩) n2).trans (P2.out j)
        have z10 := b10.size
        go_wp2_with fail
        go_ret
        exact ⟨rfl, D.out _ b10⟩
      have hpB : ∀ V, Calls Try.prog 14 #[.agg #[.slice A1 nb c1, .int .i64 kf, .slice A2 np c2, .int .i64 wa], .int .i64 xb] V fun e V' => e = .returned (.bool true) ∧ Below V.heap.size V V' := fun V => by have := hip.out V xb; rw [eb] at this; exact this
      replace hpB := Lib.hid hpB
      refine (hpB.out _).mono ?_
      rintro e w10 ⟨rfl, hb10⟩
      have b10 : Below X.heap.size X w10 := b9.trans (hb10.mono (by first | exact z9 | exact Nat.le_refl _))
      clear hb10 c9_0 c9_1 c9_2
      have c10_0 := fun j => (b10.cell (p := ⟨w.heap.size, j, none⟩) n0).trans (P0.out j)
      have c10_1 := fun j => (b10.cell (p := ⟨w.heap.size + 1, j, none⟩) n1).trans (P1.out j)
      have c10_2 := fun j => (b10.cell (p := ⟨w.heap.size + 1 + 1, j, none⟩) n2).trans (P2.out j)
      have z10 := b10.size
      go_wp2_with fail
      clear hpA hpB hip
      have ra := wi_true.1 ea
      have rb := wi_true.1 eb
      clear ea eb
      obtain ⟨a, rfl⟩ := Int.eq_ofNat_of_zero_le ra.1
      obtain ⟨c, rfl⟩ := Int.eq_ofNat_of_zero_le rb.1
      have ha : a < ps1.length := by rw [HPL.out]; omega
      have hc : c < ps1.length := by rw [HPL.out]; omega
      obtain ⟨T1, T2, T3⟩ := HI.out.alike HC1.out HC2.out HNE.out ha hc
      have T4 := HI.out.of HC1.out HC2.out HNE.out ha
      have e11 : wi (a : Int) 0 ((np : Int) - 1) = true := wi_true.2 (by omega)
      have hof1 : ∀ V, Below w.heap.size w V → Calls Try.prog 19 #[.agg #[.slice A1 nb c1, .int .i64 kf, .slice A2 np c2, .int .i64 wa], .int .i64 a] V fun e V' => ∃ A c, e = .returned (.tuple #[.slice A (ofP bs ps1 kf wa a).length c, .int .i64 0]) ∧ IntsAt V' A (ofP bs ps1 kf wa a).length (ofP bs ps1 kf wa a) ∧ Below V.heap.size V V' := fun V hV => by
        have := of_c A1 A2 nb c1 np c2 kf wa a bs ms1 ps1 V h1 h2 H31.out (HBA'.out.later hV) (HPA'.out.later hV)
        rw [e11, askE_ok HC1.out, if_neg HNE.out] at this
        refine this.mono fun e W' => ?_
        rintro ⟨v, rfl, ho, hb⟩
        obtain ⟨A, c, rfl, -, hs⟩ := SlAt.of_own (d := (0 : Int)) encI_len ho rfl
        exact ⟨A, c, rfl, ints_iff.2 hs, hb⟩
      have hof2 : ∀ V, Below w.heap.size w V → Calls Try.prog 19 #[.agg #[.slice B1 nb d1, .int .i64 kf, .slice B2 np d2, .int .i64 wb], .int .i64 a] V fun e V' => ∃ A c, e = .returned (.tuple #[.slice A (ofP bs ps2 kf wb a).length c, .int .i64 0]) ∧ IntsAt V' A (ofP bs ps2 kf wb a).length (ofP bs ps2 kf wb a) ∧ Below V.heap.size V V' := fun V hV => by
        have := of_c B1 B2 nb d1 np d2 kf wb a bs ms2 ps2 V h1 h2 H32.out (HBB'.out.later hV) (HPB'.out.later hV)
        rw [e11, askE_ok HC2.out, if_neg HNE2.out] at this
        refine this.mono fun e W' => ?_
        rintro ⟨v, rfl, ho, hb⟩
        obtain ⟨A, c, rfl, -, hs⟩ := SlAt.of_own (d := (0 : Int)) encI_len ho rfl
        exact ⟨A, c, rfl, ints_iff.2 hs, hb⟩
      have hal1 : ∀ V, Below w.heap.size w V → Calls Try.prog 29 #[.agg #[.slice A1 nb c1, .int .i64 kf, .slice A2 np c2, .int .i64 wa], .int .i64 a, .int .i64 c] V fun e V' => e = .returned (.tuple #[.int .i64 (alikeP bs ps1 kf wa a c).1, .int .i64 0]) ∧ Below V.heap.size V V' := fun V hV => by
        have := alike_c A1 A2 nb c1 np c2 kf wa a c bs ms1 ps1 V h1 h2 H31.out (HBA'.out.later hV) (HPA'.out.later hV)
        rw [T1] at this
        exact this
      have hal2 : ∀ V, Below w.heap.size w V → Calls Try.prog 29 #[.agg #[.slice B1 nb d1, .int .i64 kf, .slice B2 np d2, .int .i64 wb], .int .i64 a, .int .i64 c] V fun e V' => e = .returned (.tuple #[.int .i64 (alikeP bs ps2 kf wb a c).1, .int .i64 0]) ∧ Below V.heap.size V V' := fun V hV => by
        have := alike_c B1 B2 nb d1 np d2 kf wb a c bs ms2 ps2 V h1 h2 H32.out (HBB'.out.later hV) (HPB'.out.later hV)
        rw [T2] at this
        exact this
      have LE1 := ofP_len (bs := bs) (ps := ps1) (kf := kf) (wr := wa) (piece := (a : Int))
      have LE2 := ofP_len (bs := bs) (ps := ps2) (kf := kf) (wr := wb) (piece := (a : Int))
      rw [HBL.out] at LE1 LE2
      obtain ⟨O1, hO1⟩ : ∃ O, ofP bs ps1 kf wa a = O := ⟨_, rfl⟩
      obtain ⟨O2, hO2⟩ : ∃ O, ofP bs ps2 kf wb a = O := ⟨_, rfl⟩
      obtain ⟨q1, hq1⟩ : ∃ O, (alikeP bs ps1 kf wa a c).1 = O := ⟨_, rfl⟩
      obtain ⟨q2, hq2⟩ : ∃ O, (alikeP bs ps2 kf wb a c).1 = O := ⟨_, rfl⟩
      rw [hO1] at hof1 T4 LE1
      rw [hO2] at hof2 T4 LE2
      rw [hq1] at hal1 T3
      rw [hq2] at hal2 T3
      obtain ⟨n8, hn8⟩ : ∃ n, O1.length = n := ⟨_, rfl⟩
      obtain ⟨n9, hn9⟩ : ∃ n, O2.length = n := ⟨_, rfl⟩
      rw [hn8] at hof1 LE1
      rw [hn9] at hof2 LE2
      have t9 : decide ((n9 : Int) ≤ 40) = true := by simp; omega
      replace hof1 := Lib.hid hof1
      replace hof2 := Lib.hid hof2
      replace hal1 := Lib.hid hal1
      replace hal2 := Lib.hid hal2
      replace T4 := Lib.hid T4
      clear hO1 hO2 hq1 hq2 hn8 hn9 T1 T2 ra rb e11 ha hc
      refine (hof1.out _ (D.out _ b10)).mono ?_
      rintro e w11 ⟨A8, c8, rfl, hi8, hb11⟩
      have I8 := Lib.hid hi8
      have b11 : Below X.heap.size X w11 := b10.trans (hb11.mono z10)
      clear hi8 hb11 c10_0 c10_1 c10_2
      have c11_0 := fun j => (b11.cell (p := ⟨w.heap.size, j, none⟩) n0).trans (P0.out j)
      have c11_1 := fun j => (b11.cell (p := ⟨w.heap.size + 1, j, none⟩) n1).trans (P1.out j)
      have c11_2 := fun j => (b11.cell (p := ⟨w.heap.size + 1 + 1, j, none⟩) n2).trans (P2.out j)
      have z11 := b11.size
      go_wp2_with fail
      refine (hof2.out _ (D.out _ b11)).mono ?_
      rintro e w12 ⟨A9, c9, rfl, hi9, hb12⟩
      replace I8 := Lib.hid (I8.out.later hb12)
      have I9 := Lib.hid hi9
      have b12 : Below X.heap.size X w12 := b11.trans (hb12.mono z11)
      clear hi9 hb12 c11_0 c11_1 c11_2
      have c12_0 := fun j => (b12.cell (p := ⟨w.heap.size, j, none⟩) n0).trans (P0.out j)
      have c12_1 := fun j => (b12.cell (p := ⟨w.heap.size + 1, j, none⟩) n1).trans (P1.out j)
      have c12_2 := fun j => (b12.cell (p := ⟨w.heap.size + 1 + 1, j, none⟩) n2).trans (P2.out j)
      have z12 := b12.size
      go_wp2_with fail
      refine (hal1.out _ (D.out _ b12)).mono ?_
      rintro e w13 ⟨rfl, hb13⟩
      have b13 : Below X.heap.size X w13 := b12.trans (hb13.mono (by first | exact z12 | exact Nat.le_refl _))
      replace I8 := Lib.hid (I8.out.later hb13)
      replace I9 := Lib.hid (I9.out.later hb13)
      clear hb13 c12_0 c12_1 c12_2
      have c13_0 := fun j => (b13.cell (p := ⟨w.heap.size, j, none⟩) n0).trans (P0.out j)
      have c13_1 := fun j => (b13.cell (p := ⟨w.heap.size + 1, j, none⟩) n1).trans (P1.out j)
      have c13_2 := fun j => (b13.cell (p := ⟨w.heap.size + 1 + 1, j, none⟩) n2).trans (P2.out j)
      have z13 := b13.size
      go_wp2_with fail
      refine (hal2.out _ (D.out _ b13)).mono ?_
      rintro e w14 ⟨rfl, hb14⟩
      have b14 : Below X.heap.size X w14 := b13.trans (hb14.mono (by first | exact z13 | exact Nat.le_refl _))
      have hsu := Subset_c A8 A9 n8 n9 c8 c9 O1 O2 w14 (by omega) (by omega) (I8.out.later hb14) (I9.out.later hb14)
      rw [T4.out] at hsu
      replace hsu := Lib.hid hsu
      clear hb14 c13_0 c13_1 c13_2 T4 I8 I9
      have c14_0 := fun j => (b14.cell (p := ⟨w.heap.size, j, none⟩) n0).trans (P0.out j)
      have c14_1 := fun j => (b14.cell (p := ⟨w.heap.size + 1, j, none⟩) n1).trans (P1.out j)
      have c14_2 := fun j => (b14.cell (p := ⟨w.heap.size + 1 + 1, j, none⟩) n2).trans (P2.out j)
      have z14 := b14.size
      rcases T3 with rfl | rfl
      · go_wp2_with fail
        refine hsu.out.mono ?_
        rintro e w' ⟨rfl, rfl⟩
        go_wp2_with fail
        go_ret
        exact ⟨rfl, D.out _ b14⟩
      · have qq : (q1 == q1) = true := by simp
        cases q3 : (q1 == (3 : Int))
        all_goals
          go_wp2_with fail
          refine hsu.out.mono ?_
          rintro e w' ⟨rfl, rfl⟩
          go_wp2_with fail
          go_ret
          exact ⟨rfl, D.out _ b14⟩

end Go.Proofs.Ytmopnbijfcamjaa
