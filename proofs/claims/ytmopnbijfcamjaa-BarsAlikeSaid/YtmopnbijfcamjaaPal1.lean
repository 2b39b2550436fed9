/- BarsAlike (layer 1): the law. -/
import Derived.Test.YtmopnbijfcamjaaRr1
import Derived.Test.YtmopnbijfcamjaaEv1
namespace Go.Proofs.Ytmopnbijfcamjaa
open Go.RowKit
open Go.Sort (grow)
set_option linter.unusedVariables false

set_option maxRecDepth 100000 in
set_option maxHeartbeats 3200000 in
theorem Alike_law_c (Ab Ap : Option Addr) (nb cb np cp : Nat) (kf wrg xa xb xr xl : Int) (bs : List Br) (ms : List Pm) (ps : List Pc) (w : World) (HB : BrsAt w Ab nb bs) (HP : PcsAt w Ap np ms ps) :
    Calls Try.prog 6 #[.agg #[.slice Ab nb cb, .int .i64 kf, .slice Ap np cp, .int .i64 wrg], .agg #[.int .i64 xa, .int .i64 xb, .int .i64 xr, .int .i64 xl]] w fun e w' => e = .returned (.bool true) ∧ Below w.heap.size w w' := by
  have hwk := Lib.hid works_c
  have hfar : ∀ Z, Below w.heap.size w Z → Calls Try.prog 22 #[.agg #[.slice Ab nb cb, .int .i64 kf, .slice Ap np cp, .int .i64 wrg]] Z fun e Z' => e = .returned (.bool (farB bs ps kf wrg nb np)) ∧ Below Z.heap.size Z Z' := fun Z hZ => Far_c Ab Ap nb cb np cp kf wrg bs ms ps Z (HB.later hZ) (HP.later hZ)
  cases er : farB bs ps kf wrg nb np
  rotate_left 1
  · rw [er] at hfar
    replace hfar := Lib.hid hfar
    clear er HB HP
    go_enter Try.func6, Try.ntmps6
    go_wp2_with fail
    obtain ⟨X, hX⟩ : ∃ X, (w.alloc (.cells #[.slice Ab nb cb, .int .i64 kf, .slice Ap np cp, .int .i64 wrg] 25)).alloc (.cells #[.int .i64 xa, .int .i64 xb, .int .i64 xr, .int .i64 xl] 49) = X := ⟨_, rfl⟩
    rw [hX]
    have BX : Below w.heap.size w X := (al2 hX).1
    have zX : X.heap.size = w.heap.size + 2 := (al2 hX).2
    have P0 := Lib.hid (al2_0 hX).2.1
    have P1 := Lib.hid (al2_1 hX).2.1
    have zw : w.heap.size ≤ X.heap.size := by omega
    have n0 : w.heap.size < X.heap.size := by omega
    have n1 : w.heap.size + 1 < X.heap.size := by omega
    clear hX
    refine (hfar.out X BX).mono ?_
    rintro e w1 ⟨rfl, b1⟩
    have c1_0 := fun j => (b1.cell (p := ⟨w.heap.size, j, none⟩) n0).trans (P0.out j)
    have c1_1 := fun j => (b1.cell (p := ⟨w.heap.size + 1, j, none⟩) n1).trans (P1.out j)
    have z1 := b1.size
    go_wp2_with fail
    refine (hwk.out _).mono ?_
    rintro e w99 ⟨rfl, hb99⟩
    go_wp2
    go_ret
    exact ⟨rfl, BX.trans (Below.mono (b1.trans (hb99.mono z1)) zw)⟩
  obtain ⟨h1, h2, h3, hsm⟩ := farB_no er
  rw [er] at hfar
  replace hfar := Lib.hid hfar
  have HBI := Lib.hid HB
  have HPI := Lib.hid HP
  have H3 := Lib.hid h3
  have HSM := Lib.hid hsm
  clear er HB HP h3 hsm
  go_enter Try.func6, Try.ntmps6
  go_wp2_with fail
  obtain ⟨X, hX⟩ : ∃ X, (w.alloc (.cells #[.slice Ab nb cb, .int .i64 kf, .slice Ap np cp, .int .i64 wrg] 25)).alloc (.cells #[.int .i64 xa, .int .i64 xb, .int .i64 xr, .int .i64 xl] 49) = X := ⟨_, rfl⟩
  rw [hX]
  have BX : Below w.heap.size w X := (al2 hX).1
  have zX : X.heap.size = w.heap.size + 2 := (al2 hX).2
  have P0 := Lib.hid (al2_0 hX).2.1
  have P1 := Lib.hid (al2_1 hX).2.1
  have zw : w.heap.size ≤ X.heap.size := by omega
  have n0 : w.heap.size < X.heap.size := by omega
  have n1 : w.heap.size + 1 < X.heap.size := by omega
  clear hX
  refine (hfar.out X BX).mono ?_
  rintro e w1 ⟨rfl, b1⟩
  have c1_0 := fun j => (b1.cell (p := ⟨w.heap.size, j, none⟩) n0).trans (P0.out j)
  have c1_1 := fun j => (b1.cell (p := ⟨w.heap.size + 1, j, none⟩) n1).trans (P1.out j)
  have z1 := b1.size
  go_wp2_with fail
  refine (Copy_c Ab Ap nb cb np cp kf wrg bs ms ps w1 h1 h2 H3.out (HBI.out.later (BX.trans (b1.mono zw))) (HPI.out.later (BX.trans (b1.mono zw)))).mono ?_
  rintro e w2 ⟨A1, d1, A2, d2, ms', mid, rfl, hO, hb2⟩
  obtain ⟨hB2, hP2⟩ := hO.st
  have HB2 := Lib.hid hB2
  have HP2 := Lib.hid hP2
  have b2 : Below X.heap.size X w2 := b1.trans (hb2.mono z1)
  clear hb2 hO c1_0 c1_1 b1 hB2 hP2
  have c2_0 := fun j => (b2.cell (p := ⟨w.heap.size, j, none⟩) n0).trans (P0.out j)
  have c2_1 := fun j => (b2.cell (p := ⟨w.heap.size + 1, j, none⟩) n1).trans (P1.out j)
  have z2 := b2.size
  go_upto_region 4 with (fail)
  go_name_world Y hY
  have KY : Hid (Blk Y w2.heap.size 25 #[.slice A1 nb d1, .int .i64 kf, .slice A2 np d2, .int .i64 wrg]) := Lib.hid (by rw [← hY]; exact Blk.new w2 _ _)
  have bY := (al1 hY).1
  have b4 : Below X.heap.size X Y := b2.trans (bY.mono z2)
  have HBY := Lib.hid (HB2.out.later bY)
  have HPY := Lib.hid (HP2.out.later bY)
  clear hY bY c2_0 c2_1 HB2 HP2
  have PZ := Lib.hid (fun j => (b4.cell (p := ⟨w.heap.size, j, none⟩) n0).trans (P0.out j))
  have PZ1 := Lib.hid (fun j => (b4.cell (p := ⟨w.heap.size + 1, j, none⟩) n1).trans (P1.out j))
  have zZ := b4.size
  have N0 : w.heap.size < Y.heap.size := by omega
  have N1 : w.heap.size + 1 < Y.heap.size := by omega
  have Ng : w2.heap.size < Y.heap.size := KY.out.lt
  have hw : ∀ V, Below Y.heap.size Y V → Below w.heap.size w V := fun V hV => BX.trans ((b4.trans (hV.mono zZ)).mono zw)
  have v0 := Below.refl Y.heap.size Y
  have ha1 : ∀ V, Below Y.heap.size Y V → Calls Try.prog 29 #[.agg #[.slice A1 nb d1, .int .i64 kf, .slice A2 np d2, .int .i64 wrg], .int .i64 xa, .int .i64 xb] V fun e V' => e = .returned (.tuple #[.int .i64 (alikeP bs ps kf wrg xa xb).1, .int .i64 (alikeP bs ps kf wrg xa xb).2]) ∧ Below V.heap.size V V' := fun V hV =>
    alike_c A1 A2 nb d1 np d2 kf wrg xa xb bs ms' ps V h1 h2 H3.out (HBY.out.later hV) (HPY.out.later hV)
  have ha2 : ∀ V, Below Y.heap.size Y V → Calls Try.prog 30 #[.agg #[.slice Ab nb cb, .int .i64 kf, .slice Ap np cp, .int .i64 wrg], .int .i64 xa, .int .i64 xb] V fun e V' => e = .returned (.tuple #[.int .i64 (alikeP bs ps kf wrg xa xb).1, .int .i64 (alikeP bs ps kf wrg xa xb).2]) ∧ Below V.heap.size V V' := fun V hV =>
    refAlike_c Ab Ap nb cb np cp kf wrg bs ms ps V xa xb h1 h2 H3.out HSM.out (HBI.out.later (hw V hV)) (HPI.out.later (hw V hV))
  have hr1 : ∀ V, Below Y.heap.size Y V → Calls Try.prog 31 #[.agg #[.slice A1 nb d1, .int .i64 kf, .slice A2 np d2, .int .i64 wrg], .int .i64 xr] V fun e V' => e = .returned (.tuple #[.agg #[.int .i64 (restP bs ps kf wrg xr).1.lo, .int .i64 (restP bs ps kf wrg xr).1.hi], .int .i64 (restP bs ps kf wrg xr).2]) ∧ Below V.heap.size V V' := fun V hV =>
    rest_c A1 A2 nb d1 np d2 kf wrg xr bs ms' ps V h1 h2 H3.out (HBY.out.later hV) (HPY.out.later hV)
  have hr2 : ∀ V, Below Y.heap.size Y V → Calls Try.prog 32 #[.agg #[.slice Ab nb cb, .int .i64 kf, .slice Ap np cp, .int .i64 wrg], .int .i64 xr] V fun e V' => e = .returned (.tuple #[.agg #[.int .i64 (restP bs ps kf wrg xr).1.lo, .int .i64 (restP bs ps kf wrg xr).1.hi], .int .i64 (restP bs ps kf wrg xr).2]) ∧ Below V.heap.size V V' := fun V hV =>
    refRest_c Ab Ap nb cb np cp kf wrg bs ms ps V xr h1 h2 H3.out HSM.out (HBI.out.later (hw V hV)) (HPI.out.later (hw V hV))
  have hm1 : ∀ V, Below Y.heap.size Y V → Calls Try.prog 21 #[.agg #[.slice A1 nb d1, .int .i64 kf, .slice A2 np d2, .int .i64 wrg], .int .i64 xl] V fun e V' => e = .returned (.tuple #[.int .i64 (roomP bs ps kf wrg xl).1, .int .i64 (roomP bs ps kf wrg xl).2]) ∧ Below V.heap.size V V' := fun V hV =>
    room_c A1 A2 nb d1 np d2 kf wrg xl bs ms' ps V h1 h2 H3.out (HBY.out.later hV) (HPY.out.later hV)
  have hm2 : ∀ V, Below Y.heap.size Y V → Calls Try.prog 33 #[.agg #[.slice Ab nb cb, .int .i64 kf, .slice Ap np cp, .int .i64 wrg], .int .i64 xl] V fun e V' => e = .returned (.tuple #[.int .i64 (roomP bs ps kf wrg xl).1, .int .i64 (roomP bs ps kf wrg xl).2]) ∧ Below V.heap.size V V' := fun V hV =>
    refRoom_c Ab Ap nb cb np cp kf wrg bs ms ps V xl h1 h2 H3.out HSM.out (HBI.out.later (hw V hV)) (HPI.out.later (hw V hV))
  have hsa : Hid (∀ V, Below Y.heap.size Y V → Calls Try.prog 26 #[.agg #[.slice A1 nb d1, .int .i64 kf, .slice A2 np d2, .int .i64 wrg], .agg #[.slice Ab nb cb, .int .i64 kf, .slice Ap np cp, .int .i64 wrg]] V fun e V' => e = .returned (.bool true) ∧ Below V.heap.size V V') := Lib.hid fun V hV =>
    same_c A1 A2 Ab Ap nb d1 cb np d2 cp kf wrg bs ms ms' ps V h1 h2 H3.out (HBY.out.later hV) (HPY.out.later hV) (HBI.out.later (hw V hV)) (HPI.out.later (hw V hV))
  obtain ⟨ga, hga⟩ : ∃ P, (alikeP bs ps kf wrg xa xb).1 = P := ⟨_, rfl⟩
  obtain ⟨gb, hgb⟩ : ∃ P, (alikeP bs ps kf wrg xa xb).2 = P := ⟨_, rfl⟩
  obtain ⟨rl, hrl⟩ : ∃ P, (restP bs ps kf wrg xr).1.lo = P := ⟨_, rfl⟩
  obtain ⟨rh, hrh⟩ : ∃ P, (restP bs ps kf wrg xr).1.hi = P := ⟨_, rfl⟩
  obtain ⟨re, hre⟩ : ∃ P, (restP bs ps kf wrg xr).2 = P := ⟨_, rfl⟩
  obtain ⟨ma, hma⟩ : ∃ P, (roomP bs ps kf wrg xl).1 = P := ⟨_, rfl⟩
  obtain ⟨mb, hmb⟩ : ∃ P, (roomP bs ps kf wrg xl).2 = P := ⟨_, rfl⟩
  rw [hga, hgb] at ha1 ha2
  rw [hrl, hrh, hre] at hr1 hr2
  rw [hma, hmb] at hm1 hm2
  replace ha1 := Lib.hid ha1
  replace ha2 := Lib.hid ha2
  replace hr1 := Lib.hid hr1
  replace hr2 := Lib.hid hr2
  replace hm1 := Lib.hid hm1
  replace hm2 := Lib.hid hm2
  have k0 : (ga == ga) = true := by simp
  have k1 : (gb == gb) = true := by simp
  have k2 : (rl == rl) = true := by simp
  have k3 : (rh == rh) = true := by simp
  have k4 : (re == re) = true := by simp
  have k5 : (ma == ma) = true := by simp
  have k6 : (mb == mb) = true := by simp
  clear hga hgb hrl hrh hre hma hmb hw
  have c0_0 := fun j => (v0.cell (p := ⟨w.heap.size, j, none⟩) N0).trans (PZ.out j)
  have c0_1 := fun j => (v0.cell (p := ⟨w.heap.size + 1, j, none⟩) N1).trans (PZ1.out j)
  have c0_g := fun j => (v0.cell (p := ⟨w2.heap.size, j, none⟩) Ng).trans (KY.out.cell j)
  have y0 := v0.size
  go_wp2_with fail
  refine (ha1.out _ v0).mono ?_
  rintro e u1 ⟨rfl, hv1⟩
  have v1 : Below Y.heap.size Y u1 := v0.trans (hv1.mono y0)
  clear hv1 c0_0 c0_1 c0_g
  have c1_0 := fun j => (v1.cell (p := ⟨w.heap.size, j, none⟩) N0).trans (PZ.out j)
  have c1_1 := fun j => (v1.cell (p := ⟨w.heap.size + 1, j, none⟩) N1).trans (PZ1.out j)
  have c1_g := fun j => (v1.cell (p := ⟨w2.heap.size, j, none⟩) Ng).trans (KY.out.cell j)
  have y1 := v1.size
  go_wp2_with fail
  refine (ha2.out _ v1).mono ?_
  rintro e u2 ⟨rfl, hv2⟩
  have v2 : Below Y.heap.size Y u2 := v1.trans (hv2.mono y1)
  clear hv2 c1_0 c1_1 c1_g
  have c2_0 := fun j => (v2.cell (p := ⟨w.heap.size, j, none⟩) N0).trans (PZ.out j)
  have c2_1 := fun j => (v2.cell (p := ⟨w.heap.size + 1, j, none⟩) N1).trans (PZ1.out j)
  have c2_g := fun j => (v2.cell (p := ⟨w2.heap.size, j, none⟩) Ng).trans (KY.out.cell j)
  have y2 := v2.size
  go_wp2_with fail
  refine (hr1.out _ v2).mono ?_
  rintro e u3 ⟨rfl, hv3⟩
  have v3 : Below Y.heap.size Y u3 := v2.trans (hv3.mono y2)
  clear hv3 c2_0 c2_1 c2_g
  have c3_0 := fun j => (v3.cell (p := ⟨w.heap.size, j, none⟩) N0).trans (PZ.out j)
  have c3_1 := fun j => (v3.cell (p := ⟨w.heap.size + 1, j, none⟩) N1).trans (PZ1.out j)
  have c3_g := fun j => (v3.cell (p := ⟨w2.heap.size, j, none⟩) Ng).trans (KY.out.cell j)
  have y3 := v3.size
  go_upto_region 7 with (fail)
  go_name_world u4 hu4
  have KS : Hid (Blk u4 u3.heap.size 52 #[.int .i64 rl, .int .i64 rh]) := Lib.hid (by rw [← hu4]; exact Blk.new u3 _ _)
  have hv4 : Below u3.heap.size u3 u4 := (al1 hu4).1
  have v4 : Below Y.heap.size Y u4 := v3.trans (hv4.mono y3)
  clear hv4 hu4 c3_0 c3_1 c3_g
  have c4_0 := fun j => (v4.cell (p := ⟨w.heap.size, j, none⟩) N0).trans (PZ.out j)
  have c4_1 := fun j => (v4.cell (p := ⟨w.heap.size + 1, j, none⟩) N1).trans (PZ1.out j)
  have c4_g := fun j => (v4.cell (p := ⟨w2.heap.size, j, none⟩) Ng).trans (KY.out.cell j)
  have y4 := v4.size
  go_wp2_with fail
  refine (hr2.out _ v4).mono ?_
  rintro e u5 ⟨rfl, hv5⟩
  have v5 : Below Y.heap.size Y u5 := v4.trans (hv5.mono y4)
  replace KS := Lib.hid (KS.out.below hv5 KS.out.lt)
  clear hv5 c4_0 c4_1 c4_g
  have c5_0 := fun j => (v5.cell (p := ⟨w.heap.size, j, none⟩) N0).trans (PZ.out j)
  have c5_1 := fun j => (v5.cell (p := ⟨w.heap.size + 1, j, none⟩) N1).trans (PZ1.out j)
  have c5_g := fun j => (v5.cell (p := ⟨w2.heap.size, j, none⟩) Ng).trans (KY.out.cell j)
  have y5 := v5.size
  go_upto_region 8 with (fail)
  go_name_world u6 hu6
  have KT : Hid (Blk u6 u5.heap.size 52 #[.int .i64 rl, .int .i64 rh]) := Lib.hid (by rw [← hu6]; exact Blk.new u5 _ _)
  have hv6 : Below u5.heap.size u5 u6 := (al1 hu6).1
  replace KS := Lib.hid (KS.out.below hv6 KS.out.lt)
  have v6 : Below Y.heap.size Y u6 := v5.trans (hv6.mono y5)
  clear hv6 hu6 c5_0 c5_1 c5_g
  have c6_0 := fun j => (v6.cell (p := ⟨w.heap.size, j, none⟩) N0).trans (PZ.out j)
  have c6_1 := fun j => (v6.cell (p := ⟨w.heap.size + 1, j, none⟩) N1).trans (PZ1.out j)
  have c6_g := fun j => (v6.cell (p := ⟨w2.heap.size, j, none⟩) Ng).trans (KY.out.cell j)
  have y6 := v6.size
  go_wp2_with fail
  refine (hm1.out _ v6).mono ?_
  rintro e u7 ⟨rfl, hv7⟩
  have v7 : Below Y.heap.size Y u7 := v6.trans (hv7.mono y6)
  replace KS := Lib.hid (KS.out.below hv7 KS.out.lt)
  replace KT := Lib.hid (KT.out.below hv7 KT.out.lt)
  clear hv7 c6_0 c6_1 c6_g
  have c7_0 := fun j => (v7.cell (p := ⟨w.heap.size, j, none⟩) N0).trans (PZ.out j)
  have c7_1 := fun j => (v7.cell (p := ⟨w.heap.size + 1, j, none⟩) N1).trans (PZ1.out j)
  have c7_g := fun j => (v7.cell (p := ⟨w2.heap.size, j, none⟩) Ng).trans (KY.out.cell j)
  have y7 := v7.size
  go_wp2_with fail
  refine (hm2.out _ v7).mono ?_
  rintro e u8 ⟨rfl, hv8⟩
  have v8 : Below Y.heap.size Y u8 := v7.trans (hv8.mono y7)
  have ks := (KS.out.below hv8 KS.out.lt).cell
  have kt := (KT.out.below hv8 KT.out.lt).cell
  clear hv8 c7_0 c7_1 c7_g
  have c8_0 := fun j => (v8.cell (p := ⟨w.heap.size, j, none⟩) N0).trans (PZ.out j)
  have c8_1 := fun j => (v8.cell (p := ⟨w.heap.size + 1, j, none⟩) N1).trans (PZ1.out j)
  have c8_g := fun j => (v8.cell (p := ⟨w2.heap.size, j, none⟩) Ng).trans (KY.out.cell j)
  have y8 := v8.size
  go_wp2_with fail
  refine (hsa.out _ v8).mono ?_
  rintro e u9 ⟨rfl, hv9⟩
  have v9 : Below Y.heap.size Y u9 := v8.trans (hv9.mono y8)
  clear hv9 c8_0 c8_1 c8_g
  have c9_0 := fun j => (v9.cell (p := ⟨w.heap.size, j, none⟩) N0).trans (PZ.out j)
  have c9_1 := fun j => (v9.cell (p := ⟨w.heap.size + 1, j, none⟩) N1).trans (PZ1.out j)
  have c9_g := fun j => (v9.cell (p := ⟨w2.heap.size, j, none⟩) Ng).trans (KY.out.cell j)
  have y9 := v9.size
  go_wp2_with fail
  refine (hwk.out _).mono ?_
  rintro e w99 ⟨rfl, hb99⟩
  go_wp2
  go_ret
  exact ⟨rfl, BX.trans (Below.mono (b4.trans ((v9.trans (hb99.mono y9)).mono zZ)) zw)⟩

end Go.Proofs.Ytmopnbijfcamjaa
