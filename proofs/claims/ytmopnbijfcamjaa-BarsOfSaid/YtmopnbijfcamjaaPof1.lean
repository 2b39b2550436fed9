/- BarsOf (layer 1): the law. -/
import Derived.Test.YtmopnbijfcamjaaRo1
import Derived.Test.YtmopnbijfcamjaaEv1
namespace Go.Proofs.Ytmopnbijfcamjaa
open Go.RowKit
open Go.Sort (grow)
set_option linter.unusedVariables false

theorem heatsP_le' {bs : List Br} {ps : List Pc} {kf wr a : Int} : (heatsP bs ps kf wr a).length ≤ 10 := by
  by_cases hz : askE bs ps kf wr (wi a 0 ((ps.length : Int) - 1)) = 0
  · obtain ⟨-, hc, -, -⟩ := trs_of hz
    rw [heats_upto (bs := bs) (ps := ps) (kf := kf) (wrg := wr) hc]
    exact upto_le
  · have hO : ofP bs ps kf wr a = [] := by unfold ofP; rw [show (askE bs ps kf wr (wi a 0 ((ps.length : Int) - 1)) == 0) = false by rw [beq_eq_false_iff_ne]; exact hz]; rfl
    have e0 : heatsP bs ps kf wr a = srtC (htL bs (ofP bs ps kf wr a)) := rfl
    have : heatsP bs ps kf wr a = [] := by
      rw [e0, hO]
      exact List.eq_nil_iff_forall_not_mem.2 fun v hv => by have := srtC_mem.1 hv; cases this
    rw [this]; simp
theorem strP_le {bs : List Br} {ps : List Pc} {kf wr : Int} : (strP bs ps kf wr).length ≤ ps.length := by
  unfold strP
  cases askE bs ps kf wr true == 0
  · simp
  · unfold stL
    simp only [cond_true, List.length_map]
    exact Nat.le_trans (List.length_filter_le _ _) (by simp)
theorem same_ints (A B : Option Addr) (c d : Nat) (L : List Int) (V : World) (hl : L.length ≤ 40) (HA : IntsAt V A L.length L) (HB : IntsAt V B L.length L) :
    Calls Try.prog 42 #[.slice A L.length c, .slice B L.length d] V fun e V' => e = .returned (.bool true) ∧ Below V.heap.size V V' := by
  have := SameInts_c A B L.length L.length c d L L V hl hl HA HB
  rw [show (L.length == L.length) = true by simp, show (allN L.length fun j => iAt L j == iAt L j) = true by rw [allN_iff]; intro j _; simp] at this
  exact this
set_option maxRecDepth 100000 in
set_option maxHeartbeats 3200000 in
theorem Of_law_c (Ab Ap : Option Addr) (nb cb np cp : Nat) (kf wrg x : Int) (bs : List Br) (ms : List Pm) (ps : List Pc) (w : World) (HB : BrsAt w Ab nb bs) (HP : PcsAt w Ap np ms ps) :
    Calls Try.prog 9 #[.agg #[.slice Ab nb cb, .int .i64 kf, .slice Ap np cp, .int .i64 wrg], .int .i64 x] w fun e w' => e = .returned (.bool true) ∧ Below w.heap.size w w' := by
  have hwk := Lib.hid works_c
  have hfar : ∀ Z, Below w.heap.size w Z → Calls Try.prog 22 #[.agg #[.slice Ab nb cb, .int .i64 kf, .slice Ap np cp, .int .i64 wrg]] Z fun e Z' => e = .returned (.bool (farB bs ps kf wrg nb np)) ∧ Below Z.heap.size Z Z' := fun Z hZ => Far_c Ab Ap nb cb np cp kf wrg bs ms ps Z (HB.later hZ) (HP.later hZ)
  cases er : farB bs ps kf wrg nb np
  rotate_left 1
  · rw [er] at hfar
    replace hfar := Lib.hid hfar
    clear er HB HP
    go_enter Try.func9, Try.ntmps9
    go_wp2_with fail
    obtain ⟨X, hX⟩ : ∃ X, w.alloc (.cells #[.slice Ab nb cb, .int .i64 kf, .slice Ap np cp, .int .i64 wrg] 25) = X := ⟨_, rfl⟩
    rw [hX]
    have BX : Below w.heap.size w X := (al1 hX).1
    have zX : X.heap.size = w.heap.size + 1 := (al1 hX).2
    have P0 := Lib.hid (al1_0 hX).2.1
    have zw : w.heap.size ≤ X.heap.size := by omega
    have n0 : w.heap.size < X.heap.size := by omega
    clear hX
    refine (hfar.out X BX).mono ?_
    rintro e w1 ⟨rfl, b1⟩
    have c1_0 := fun j => (b1.cell (p := ⟨w.heap.size, j, none⟩) n0).trans (P0.out j)
    have z1 := b1.size
    go_wp2_with fail
    refine (hwk.out _).mono ?_
    rintro e w99 ⟨rfl, hb99⟩
    go_wp2
    go_ret
    exact ⟨rfl, BX.trans (Below.mono (b1.trans (hb99.mono z1)) zw)⟩
  obtain ⟨h1, h2, h3, hsm⟩ := farB_no er
  rw [er] at hfar
  replace hfar := Lib.hid hfar
  have HBI := Lib.hid HB
  have HPI := Lib.hid HP
  have H3 := Lib.hid h3
  have HSM := Lib.hid hsm
  have LE1 := ofP_len (bs := bs) (ps := ps) (kf := kf) (wr := wrg) (piece := x)
  have LE2 := heatsP_le' (bs := bs) (ps := ps) (kf := kf) (wr := wrg) (a := x)
  have LE3 := strP_le (bs := bs) (ps := ps) (kf := kf) (wr := wrg)
  rw [HB.1] at LE1
  rw [HP.pl] at LE3
  clear er HB HP h3 hsm
  go_enter Try.func9, Try.ntmps9
  go_wp2_with fail
  obtain ⟨X, hX⟩ : ∃ X, w.alloc (.cells #[.slice Ab nb cb, .int .i64 kf, .slice Ap np cp, .int .i64 wrg] 25) = X := ⟨_, rfl⟩
  rw [hX]
  have BX : Below w.heap.size w X := (al1 hX).1
  have zX : X.heap.size = w.heap.size + 1 := (al1 hX).2
  have P0 := Lib.hid (al1_0 hX).2.1
  have zw : w.heap.size ≤ X.heap.size := by omega
  have n0 : w.heap.size < X.heap.size := by omega
  clear hX
  refine (hfar.out X BX).mono ?_
  rintro e w1 ⟨rfl, b1⟩
  have c1_0 := fun j => (b1.cell (p := ⟨w.heap.size, j, none⟩) n0).trans (P0.out j)
  have z1 := b1.size
  go_wp2_with fail
  refine (Copy_c Ab Ap nb cb np cp kf wrg bs ms ps w1 h1 h2 H3.out (HBI.out.later (BX.trans (b1.mono zw))) (HPI.out.later (BX.trans (b1.mono zw)))).mono ?_
  rintro e w2 ⟨A1, d1, A2, d2, ms', mid, rfl, hO, hb2⟩
  obtain ⟨hB2, hP2⟩ := hO.st
  have HB2 := Lib.hid hB2
  have HP2 := Lib.hid hP2
  have b2 : Below X.heap.size X w2 := b1.trans (hb2.mono z1)
  clear hb2 hO c1_0 b1 hB2 hP2
  have c2_0 := fun j => (b2.cell (p := ⟨w.heap.size, j, none⟩) n0).trans (P0.out j)
  have z2 := b2.size
  go_upto_region 4 with (fail)
  go_name_world Y hY
  have KY : Hid (Blk Y w2.heap.size 25 #[.slice A1 nb d1, .int .i64 kf, .slice A2 np d2, .int .i64 wrg]) := Lib.hid (by rw [← hY]; exact Blk.new w2 _ _)
  have bY := (al1 hY).1
  have b4 : Below X.heap.size X Y := b2.trans (bY.mono z2)
  have HBY := Lib.hid (HB2.out.later bY)
  have HPY := Lib.hid (HP2.out.later bY)
  clear hY bY c2_0 HB2 HP2
  have PZ := Lib.hid (fun j => (b4.cell (p := ⟨w.heap.size, j, none⟩) n0).trans (P0.out j))
  have zZ := b4.size
  have N0 : w.heap.size < Y.heap.size := by omega
  have Ng : w2.heap.size < Y.heap.size := KY.out.lt
  have hw : ∀ V, Below Y.heap.size Y V → Below w.heap.size w V := fun V hV => BX.trans ((b4.trans (hV.mono zZ)).mono zw)
  have v0 := Below.refl Y.heap.size Y
  have ho1 : ∀ V, Below Y.heap.size Y V → Calls Try.prog 19 #[.agg #[.slice A1 nb d1, .int .i64 kf, .slice A2 np d2, .int .i64 wrg], .int .i64 x] V (IntsRet (ofP bs ps kf wrg x) (askE bs ps kf wrg (wi x 0 ((np : Int) - 1))) V) := fun V hV => by
    refine (of_c A1 A2 nb d1 np d2 kf wrg x bs ms' ps V h1 h2 H3.out (HBY.out.later hV) (HPY.out.later hV)).mono fun e W' => ?_
    rintro ⟨v, rfl, ho, hb⟩
    obtain ⟨A, c, rfl, -, hs⟩ := SlAt.of_own (d := (0 : Int)) encI_len ho rfl
    exact ⟨A, c, rfl, ints_iff.2 hs, hb⟩
  have ho2 : ∀ V, Below Y.heap.size Y V → Calls Try.prog 37 #[.agg #[.slice Ab nb cb, .int .i64 kf, .slice Ap np cp, .int .i64 wrg], .int .i64 x] V (IntsRet (ofP bs ps kf wrg x) (askE bs ps kf wrg (wi x 0 ((np : Int) - 1))) V) := fun V hV =>
    refOf_c Ab Ap nb cb np cp kf wrg bs ms ps V x h1 h2 H3.out HSM.out (HBI.out.later (hw V hV)) (HPI.out.later (hw V hV))
  have hh1 : ∀ V, Below Y.heap.size Y V → Calls Try.prog 38 #[.agg #[.slice A1 nb d1, .int .i64 kf, .slice A2 np d2, .int .i64 wrg], .int .i64 x] V (IntsRet (heatsP bs ps kf wrg x) (askE bs ps kf wrg (wi x 0 ((np : Int) - 1))) V) := fun V hV =>
    (heats_c A1 A2 nb d1 np d2 kf wrg x bs ms' ps V h1 h2 H3.out (HBY.out.later hV) (HPY.out.later hV)).mono fun e W' h => h
  have hh2 : ∀ V, Below Y.heap.size Y V → Calls Try.prog 39 #[.agg #[.slice Ab nb cb, .int .i64 kf, .slice Ap np cp, .int .i64 wrg], .int .i64 x] V (IntsRet (heatsP bs ps kf wrg x) (askE bs ps kf wrg (wi x 0 ((np : Int) - 1))) V) := fun V hV =>
    refHeats_c Ab Ap nb cb np cp kf wrg bs ms ps V x h1 h2 H3.out HSM.out (HBI.out.later (hw V hV)) (HPI.out.later (hw V hV))
  have hs1 : ∀ V, Below Y.heap.size Y V → Calls Try.prog 40 #[.agg #[.slice A1 nb d1, .int .i64 kf, .slice A2 np d2, .int .i64 wrg]] V (IntsRet (strP bs ps kf wrg) (askE bs ps kf wrg true) V) := fun V hV => by
    refine (strange_c A1 A2 nb d1 np d2 kf wrg bs ms' ps V h1 h2 H3.out (HBY.out.later hV) (HPY.out.later hV)).mono fun e W' => ?_
    rintro ⟨v, rfl, ho, hb⟩
    obtain ⟨A, c, rfl, -, hs⟩ := SlAt.of_own (d := (0 : Int)) encI_len ho rfl
    exact ⟨A, c, rfl, ints_iff.2 hs, hb⟩
  have hs2 : ∀ V, Below Y.heap.size Y V → Calls Try.prog 41 #[.agg #[.slice Ab nb cb, .int .i64 kf, .slice Ap np cp, .int .i64 wrg]] V (IntsRet (strP bs ps kf wrg) (askE bs ps kf wrg true) V) := fun V hV =>
    refStrange_c Ab Ap nb cb np cp kf wrg bs ms ps V h1 h2 H3.out HSM.out (HBI.out.later (hw V hV)) (HPI.out.later (hw V hV))
  have hsa : Hid (∀ V, Below Y.heap.size Y V → Calls Try.prog 26 #[.agg #[.slice A1 nb d1, .int .i64 kf, .slice A2 np d2, .int .i64 wrg], .agg #[.slice Ab nb cb, .int .i64 kf, .slice Ap np cp, .int .i64 wrg]] V fun e V' => e = .returned (.bool true) ∧ Below V.heap.size V V') := Lib.hid fun V hV =>
    same_c A1 A2 Ab Ap nb d1 cb np d2 cp kf wrg bs ms ms' ps V h1 h2 H3.out (HBY.out.later hV) (HPY.out.later hV) (HBI.out.later (hw V hV)) (HPI.out.later (hw V hV))
  obtain ⟨L1, hL1⟩ : ∃ P, ofP bs ps kf wrg x = P := ⟨_, rfl⟩
  obtain ⟨L2, hL2⟩ : ∃ P, heatsP bs ps kf wrg x = P := ⟨_, rfl⟩
  obtain ⟨L3, hL3⟩ : ∃ P, strP bs ps kf wrg = P := ⟨_, rfl⟩
  obtain ⟨z1', hz1⟩ : ∃ P, askE bs ps kf wrg (wi x 0 ((np : Int) - 1)) = P := ⟨_, rfl⟩
  obtain ⟨z2', hz2⟩ : ∃ P, askE bs ps kf wrg true = P := ⟨_, rfl⟩
  rw [hL1, hz1] at ho1 ho2
  rw [hL2, hz1] at hh1 hh2
  rw [hL3, hz2] at hs1 hs2
  rw [hL1] at LE1
  rw [hL2] at LE2
  rw [hL3] at LE3
  replace ho1 := Lib.hid ho1
  replace ho2 := Lib.hid ho2
  replace hh1 := Lib.hid hh1
  replace hh2 := Lib.hid hh2
  replace hs1 := Lib.hid hs1
  replace hs2 := Lib.hid hs2
  have k0 : (z1' == z1') = true := by simp
  have k1 : (z2' == z2') = true := by simp
  clear hL1 hL2 hL3 hz1 hz2 hw
  have c0_0 := fun j => (v0.cell (p := ⟨w.heap.size, j, none⟩) N0).trans (PZ.out j)
  have c0_g := fun j => (v0.cell (p := ⟨w2.heap.size, j, none⟩) Ng).trans (KY.out.cell j)
  have y0 := v0.size
  go_wp2_with fail
  refine (ho1.out _ v0).mono ?_
  rintro e u1 ⟨A1', C1', rfl, hi1, hv1⟩
  have I1 := Lib.hid hi1
  have G1 := Lib.hid hv1
  have v1 : Below Y.heap.size Y u1 := v0.trans (hv1.mono y0)
  clear hv1 hi1 c0_0 c0_g
  have c1_0 := fun j => (v1.cell (p := ⟨w.heap.size, j, none⟩) N0).trans (PZ.out j)
  have c1_g := fun j => (v1.cell (p := ⟨w2.heap.size, j, none⟩) Ng).trans (KY.out.cell j)
  have y1 := v1.size
  go_wp2_with fail
  refine (ho2.out _ v1).mono ?_
  rintro e u2 ⟨A2', C2', rfl, hi2, hv2⟩
  have I2 := Lib.hid hi2
  have G2 := Lib.hid hv2
  have v2 : Below Y.heap.size Y u2 := v1.trans (hv2.mono y1)
  clear hv2 hi2 c1_0 c1_g
  have c2_0 := fun j => (v2.cell (p := ⟨w.heap.size, j, none⟩) N0).trans (PZ.out j)
  have c2_g := fun j => (v2.cell (p := ⟨w2.heap.size, j, none⟩) Ng).trans (KY.out.cell j)
  have y2 := v2.size
  go_wp2_with fail
  refine (hh1.out _ v2).mono ?_
  rintro e u3 ⟨A3', C3', rfl, hi3, hv3⟩
  have I3 := Lib.hid hi3
  have G3 := Lib.hid hv3
  have v3 : Below Y.heap.size Y u3 := v2.trans (hv3.mono y2)
  clear hv3 hi3 c2_0 c2_g
  have c3_0 := fun j => (v3.cell (p := ⟨w.heap.size, j, none⟩) N0).trans (PZ.out j)
  have c3_g := fun j => (v3.cell (p := ⟨w2.heap.size, j, none⟩) Ng).trans (KY.out.cell j)
  have y3 := v3.size
  go_wp2_with fail
  refine (hh2.out _ v3).mono ?_
  rintro e u4 ⟨A4', C4', rfl, hi4, hv4⟩
  have I4 := Lib.hid hi4
  have G4 := Lib.hid hv4
  have v4 : Below Y.heap.size Y u4 := v3.trans (hv4.mono y3)
  clear hv4 hi4 c3_0 c3_g
  have c4_0 := fun j => (v4.cell (p := ⟨w.heap.size, j, none⟩) N0).trans (PZ.out j)
  have c4_g := fun j => (v4.cell (p := ⟨w2.heap.size, j, none⟩) Ng).trans (KY.out.cell j)
  have y4 := v4.size
  go_wp2_with fail
  refine (hs1.out _ v4).mono ?_
  rintro e u5 ⟨A5', C5', rfl, hi5, hv5⟩
  have I5 := Lib.hid hi5
  have G5 := Lib.hid hv5
  have v5 : Below Y.heap.size Y u5 := v4.trans (hv5.mono y4)
  clear hv5 hi5 c4_0 c4_g
  have c5_0 := fun j => (v5.cell (p := ⟨w.heap.size, j, none⟩) N0).trans (PZ.out j)
  have c5_g := fun j => (v5.cell (p := ⟨w2.heap.size, j, none⟩) Ng).trans (KY.out.cell j)
  have y5 := v5.size
  go_wp2_with fail
  refine (hs2.out _ v5).mono ?_
  rintro e u6 ⟨A6', C6', rfl, hi6, hv6⟩
  have I6 := Lib.hid hi6
  have G6 := Lib.hid hv6
  have v6 : Below Y.heap.size Y u6 := v5.trans (hv6.mono y5)
  clear hv6 hi6 c5_0 c5_g
  have c6_0 := fun j => (v6.cell (p := ⟨w.heap.size, j, none⟩) N0).trans (PZ.out j)
  have c6_g := fun j => (v6.cell (p := ⟨w2.heap.size, j, none⟩) Ng).trans (KY.out.cell j)
  have y6 := v6.size
  go_wp2_with fail
  have J1 := Lib.hid (((((I1.out.later G2.out).later G3.out).later G4.out).later G5.out).later G6.out)
  have J2 := Lib.hid ((((I2.out.later G3.out).later G4.out).later G5.out).later G6.out)
  have J3 := Lib.hid (((I3.out.later G4.out).later G5.out).later G6.out)
  have J4 := Lib.hid ((I4.out.later G5.out).later G6.out)
  have J5 := Lib.hid (I5.out.later G6.out)
  refine (same_ints _ _ _ _ L1 u6 (by omega) J1.out J2.out).mono ?_
  rintro e u7 ⟨rfl, hv7⟩
  have v7 : Below Y.heap.size Y u7 := v6.trans (hv7.mono y6)
  have F7 := Lib.hid hv7
  clear hv7 c6_0 c6_g
  have c7_0 := fun j => (v7.cell (p := ⟨w.heap.size, j, none⟩) N0).trans (PZ.out j)
  have c7_g := fun j => (v7.cell (p := ⟨w2.heap.size, j, none⟩) Ng).trans (KY.out.cell j)
  have y7 := v7.size
  go_wp2_with fail
  refine (same_ints _ _ _ _ L2 u7 (by omega) (J3.out.later F7.out) (J4.out.later F7.out)).mono ?_
  rintro e u8 ⟨rfl, hv8⟩
  have v8 : Below Y.heap.size Y u8 := v7.trans (hv8.mono y7)
  have F8 := Lib.hid hv8
  clear hv8 c7_0 c7_g
  have c8_0 := fun j => (v8.cell (p := ⟨w.heap.size, j, none⟩) N0).trans (PZ.out j)
  have c8_g := fun j => (v8.cell (p := ⟨w2.heap.size, j, none⟩) Ng).trans (KY.out.cell j)
  have y8 := v8.size
  go_wp2_with fail
  refine (same_ints _ _ _ _ L3 u8 (by omega) ((J5.out.later F7.out).later F8.out) ((I6.out.later F7.out).later F8.out)).mono ?_
  rintro e u9 ⟨rfl, hv9⟩
  have v9 : Below Y.heap.size Y u9 := v8.trans (hv9.mono y8)
  clear hv9 c8_0 c8_g
  have c9_0 := fun j => (v9.cell (p := ⟨w.heap.size, j, none⟩) N0).trans (PZ.out j)
  have c9_g := fun j => (v9.cell (p := ⟨w2.heap.size, j, none⟩) Ng).trans (KY.out.cell j)
  have y9 := v9.size
  go_wp2_with fail
  refine (hsa.out _ v9).mono ?_
  rintro e u10 ⟨rfl, hv10⟩
  have v10 : Below Y.heap.size Y u10 := v9.trans (hv10.mono y9)
  clear hv10 c9_0 c9_g
  have c10_0 := fun j => (v10.cell (p := ⟨w.heap.size, j, none⟩) N0).trans (PZ.out j)
  have c10_g := fun j => (v10.cell (p := ⟨w2.heap.size, j, none⟩) Ng).trans (KY.out.cell j)
  have y10 := v10.size
  go_wp2_with fail
  refine (hwk.out _).mono ?_
  rintro e w99 ⟨rfl, hb99⟩
  go_wp2
  go_ret
  exact ⟨rfl, BX.trans (Below.mono (b4.trans ((v10.trans (hb99.mono y10)).mono zZ)) zw)⟩

end Go.Proofs.Ytmopnbijfcamjaa
