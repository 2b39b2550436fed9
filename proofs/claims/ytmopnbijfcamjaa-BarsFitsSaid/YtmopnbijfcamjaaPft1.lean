/- BarsFits (layer 1): the law. -/
import Derived.Test.YtmopnbijfcamjaaRf8
import Derived.Test.YtmopnbijfcamjaaEv1
namespace Go.Proofs.Ytmopnbijfcamjaa
open Go.RowKit
open Go.Sort (grow)
set_option linter.unusedVariables false

set_option maxRecDepth 100000 in
set_option maxHeartbeats 3200000 in
theorem Fits_law_c (Ab Ap As : Option Addr) (nb cb np cp ns cs : Nat) (kf wrg : Int) (bs : List Br) (ms : List Pm) (ps : List Pc) (ls : List Int) (w : World) (HB : BrsAt w Ab nb bs) (HP : PcsAt w Ap np ms ps) (HS : IntsAt w As ns ls) :
    Calls Try.prog 11 #[.agg #[.slice Ab nb cb, .int .i64 kf, .slice Ap np cp, .int .i64 wrg], .slice As ns cs] w fun e w' => e = .returned (.bool true) ∧ Below w.heap.size w w' := by
  have hwk := Lib.hid works_c
  have hfar : ∀ Z, Below w.heap.size w Z → Calls Try.prog 22 #[.agg #[.slice Ab nb cb, .int .i64 kf, .slice Ap np cp, .int .i64 wrg]] Z fun e Z' => e = .returned (.bool (farB bs ps kf wrg nb np)) ∧ Below Z.heap.size Z Z' := fun Z hZ => Far_c Ab Ap nb cb np cp kf wrg bs ms ps Z (HB.later hZ) (HP.later hZ)
  cases er : farB bs ps kf wrg nb np
  rotate_left 1
  · rw [er] at hfar
    replace hfar := Lib.hid hfar
    clear er HB HP HS
    go_enter Try.func11, Try.ntmps11
    go_wp2_with fail
    obtain ⟨X, hX⟩ : ∃ X, w.alloc (.cells #[.slice Ab nb cb, .int .i64 kf, .slice Ap np cp, .int .i64 wrg] 25) = X := ⟨_, rfl⟩
    rw [hX]
    have BX : Below w.heap.size w X := (al1 hX).1
    have zX : X.heap.size = w.heap.size + 1 := (al1 hX).2
    have P0 := Lib.hid (al1_0 hX).2.1
    have zw : w.heap.size ≤ X.heap.size := by omega
    have n0 : w.heap.size < X.heap.size := by omega
    clear hX
    refine (hfar.out X BX).mono ?_
    rintro e w1 ⟨rfl, b1⟩
    have c1_0 := fun j => (b1.cell (p := ⟨w.heap.size, j, none⟩) n0).trans (P0.out j)
    have z1 := b1.size
    go_wp2_with fail
    refine (hwk.out _).mono ?_
    rintro e w99 ⟨rfl, hb99⟩
    go_wp2
    go_ret
    exact ⟨rfl, BX.trans (Below.mono (b1.trans (hb99.mono z1)) zw)⟩
  obtain ⟨h1, h2, h3, hsm⟩ := farB_no er
  rw [er] at hfar
  replace hfar := Lib.hid hfar
  by_cases g1 : (40 : Int) < ns
  · have hlB : decide ((40 : Int) < ns) = true := by simpa using g1
    clear er HB HP HS h3 hsm
    go_enter Try.func11, Try.ntmps11
    go_wp2_with fail
    obtain ⟨X, hX⟩ : ∃ X, w.alloc (.cells #[.slice Ab nb cb, .int .i64 kf, .slice Ap np cp, .int .i64 wrg] 25) = X := ⟨_, rfl⟩
    rw [hX]
    have BX : Below w.heap.size w X := (al1 hX).1
    have zX : X.heap.size = w.heap.size + 1 := (al1 hX).2
    have P0 := Lib.hid (al1_0 hX).2.1
    have zw : w.heap.size ≤ X.heap.size := by omega
    have n0 : w.heap.size < X.heap.size := by omega
    clear hX
    refine (hfar.out X BX).mono ?_
    rintro e w1 ⟨rfl, b1⟩
    have c1_0 := fun j => (b1.cell (p := ⟨w.heap.size, j, none⟩) n0).trans (P0.out j)
    have z1 := b1.size
    go_wp2_with fail
    refine (hwk.out _).mono ?_
    rintro e w99 ⟨rfl, hb99⟩
    go_wp2
    go_ret
    exact ⟨rfl, BX.trans (Below.mono (b1.trans (hb99.mono z1)) zw)⟩
  have hlB : decide ((40 : Int) < ns) = false := by simpa using g1
  have h4 : ns ≤ 40 := by omega
  have HBI := Lib.hid HB
  have HPI := Lib.hid HP
  have HSI := Lib.hid HS
  have H3 := Lib.hid h3
  have HSM := Lib.hid hsm
  clear er HB HP HS h3 hsm g1
  go_enter Try.func11, Try.ntmps11
  go_wp2_with fail
  obtain ⟨X, hX⟩ : ∃ X, w.alloc (.cells #[.slice Ab nb cb, .int .i64 kf, .slice Ap np cp, .int .i64 wrg] 25) = X := ⟨_, rfl⟩
  rw [hX]
  have BX : Below w.heap.size w X := (al1 hX).1
  have zX : X.heap.size = w.heap.size + 1 := (al1 hX).2
  have P0 := Lib.hid (al1_0 hX).2.1
  have zw : w.heap.size ≤ X.heap.size := by omega
  have n0 : w.heap.size < X.heap.size := by omega
  clear hX
  refine (hfar.out X BX).mono ?_
  rintro e w1 ⟨rfl, b1⟩
  have c1_0 := fun j => (b1.cell (p := ⟨w.heap.size, j, none⟩) n0).trans (P0.out j)
  have z1 := b1.size
  go_wp2_with fail
  refine (Copy_c Ab Ap nb cb np cp kf wrg bs ms ps w1 h1 h2 H3.out (HBI.out.later (BX.trans (b1.mono zw))) (HPI.out.later (BX.trans (b1.mono zw)))).mono ?_
  rintro e w2 ⟨A1, d1, A2, d2, ms', mid, rfl, hO, hb2⟩
  obtain ⟨hB2, hP2⟩ := hO.st
  have HB2 := Lib.hid hB2
  have HP2 := Lib.hid hP2
  have b2 : Below X.heap.size X w2 := b1.trans (hb2.mono z1)
  clear hb2 hO c1_0 b1 hB2 hP2 hlB
  have c2_0 := fun j => (b2.cell (p := ⟨w.heap.size, j, none⟩) n0).trans (P0.out j)
  have z2 := b2.size
  have BW2 : Below w.heap.size w w2 := BX.trans (b2.mono zw)
  go_upto_region 4 with (at_builtin; go_must (refine wpList_append_T _ (d := (0 : Int)) rfl (.tmp 29) (.tmp 30) _ rfl w2.heap.size _ 1 8 intE encI_len encI_one (.slice (some ⟨w2.heap.size, 0, none⟩) 0 0) (some w2.heap.size) 0 [] rfl rfl ?ow As ns cs ls rfl ?sl (by omega) ?sz ?_; (case ow => exact own_empty (by first | (simp; done) | (simp; omega)) (by simp)); (case sz => go_size); (case sl => exact ints_iff.1 (HSI.out.later (by have := BW2.size; (repeat first | with_reducible assumption | with_reducible exact Below.refl _ _ | (with_reducible refine Below.alloc ?_ ?side _; case side => (first | omega | (with_reducible exact Below.size (by assumption)) | (simp; done) | (simp; omega))) | (with_reducible refine Below.setCell ?_ ?side _; case side => (first | omega | (with_reducible exact Below.size (by assumption)) | (simp; done) | (simp; omega))) | with_reducible refine Below.drew ?_ | with_reducible refine below_drewN ?_ _ | (with_reducible refine below_step (by assumption) ?side ?_; case side => (first | omega | (with_reducible exact Below.size (by assumption)) | (simp; done) | (simp; omega))))))); (rintro v8 w8 ho8 hg8 ha8); (rw [Nat.zero_add, List.nil_append] at ho8); (obtain ⟨A8, C8, rfl, -, hs8⟩ := SlAt.of_own (d := (0 : Int)) encI_len ho8 HSI.out.1); (have hb8 : Below w2.heap.size w2 w8 := (Below.grown (by (repeat first | with_reducible assumption | with_reducible exact Below.refl _ _ | (with_reducible refine Below.alloc ?_ ?side _; case side => (first | omega | (with_reducible exact Below.size (by assumption)) | (simp; done) | (simp; omega))) | (with_reducible refine Below.setCell ?_ ?side _; case side => (first | omega | (with_reducible exact Below.size (by assumption)) | (simp; done) | (simp; omega))) | with_reducible refine Below.drew ?_ | with_reducible refine below_drewN ?_ _ | (with_reducible refine below_step (by assumption) ?side ?_; case side => (first | omega | (with_reducible exact Below.size (by assumption)) | (simp; done) | (simp; omega))))) hg8 (by go_size) (fun k hk => (by cases hk; omega)))); (have HI8 := Lib.hid (ints_iff.2 hs8)); (clear ho8 ha8 hg8 hs8)))
  go_name_world Y hY
  have KY : Hid (Blk Y w8.heap.size 25 #[.slice A1 nb d1, .int .i64 kf, .slice A2 np d2, .int .i64 wrg]) := Lib.hid (by rw [← hY]; exact Blk.new w8 _ _)
  have bY := (al1 hY).1
  have b8 : Below X.heap.size X w8 := b2.trans (hb8.mono z2)
  have b4 : Below X.heap.size X Y := b8.trans (bY.mono b8.size)
  have HBY := Lib.hid ((HB2.out.later hb8).later bY)
  have HPY := Lib.hid ((HP2.out.later hb8).later bY)
  have HIY := Lib.hid (HI8.out.later bY)
  clear hY bY c2_0 HB2 HP2 hb8 HI8
  have PZ := Lib.hid (fun j => (b4.cell (p := ⟨w.heap.size, j, none⟩) n0).trans (P0.out j))
  have zZ := b4.size
  have N0 : w.heap.size < Y.heap.size := by omega
  have Ng : w8.heap.size < Y.heap.size := KY.out.lt
  have hw : ∀ V, Below Y.heap.size Y V → Below w.heap.size w V := fun V hV => BX.trans ((b4.trans (hV.mono zZ)).mono zw)
  have c0_0 := PZ.out
  have c0_g := KY.out.cell
  have hk1 : Hid (∀ V, Below Y.heap.size Y V → Calls Try.prog 43 #[.agg #[.slice A1 nb d1, .int .i64 kf, .slice A2 np d2, .int .i64 wrg]] V fun e V' => e = .returned (.int .i64 (erS (ckS bs ps kf wrg))) ∧ Below V.heap.size V V') := Lib.hid fun V hV =>
    check_c A1 A2 nb d1 np d2 kf wrg bs ms' ps V h1 h2 H3.out (HBY.out.later hV) (HPY.out.later hV)
  have hk2 : Hid (∀ V, Below Y.heap.size Y V → Calls Try.prog 44 #[.agg #[.slice Ab nb cb, .int .i64 kf, .slice Ap np cp, .int .i64 wrg]] V fun e V' => e = .returned (.int .i64 (erS (ckS bs ps kf wrg))) ∧ Below V.heap.size V V') := Lib.hid fun V hV =>
    refCheck_c Ab Ap nb cb np cp kf wrg bs ms ps V h1 h2 H3.out (HBI.out.later (hw V hV)) (HPI.out.later (hw V hV))
  have hf1 : ∀ V, Below Y.heap.size Y V → Calls Try.prog 45 #[.agg #[.slice A1 nb d1, .int .i64 kf, .slice A2 np d2, .int .i64 wrg], .slice A8 ns C8] V fun e V' => e = .returned (.tuple #[.bool (fitP bs ps kf wrg ls).1, .int .i64 (fitP bs ps kf wrg ls).2]) ∧ Below V.heap.size V V' := fun V hV =>
    fits_c1 A1 A2 A8 nb d1 np d2 ns C8 kf wrg bs ms' ps ls V h1 h2 h4 H3.out (HBY.out.later hV) (HPY.out.later hV) (HIY.out.later hV)
  have hf2 : ∀ V, Below Y.heap.size Y V → Calls Try.prog 46 #[.agg #[.slice Ab nb cb, .int .i64 kf, .slice Ap np cp, .int .i64 wrg], .slice As ns cs] V fun e V' => e = .returned (.tuple #[.bool (fitP bs ps kf wrg ls).1, .int .i64 (fitP bs ps kf wrg ls).2]) ∧ Below V.heap.size V V' := fun V hV =>
    refFits_c Ab Ap nb cb np cp kf wrg bs ms ps V As ns cs ls h1 h2 h4 H3.out (HBI.out.later (hw V hV)) (HPI.out.later (hw V hV)) (HSI.out.later (hw V hV))
  have hg1 : ∀ V, Below Y.heap.size Y V → Calls Try.prog 35 #[.agg #[.slice A1 nb d1, .int .i64 kf, .slice A2 np d2, .int .i64 wrg]] V fun e V' => e = .returned (.tuple #[.int .i64 (fewP bs ps kf wrg).1, .int .i64 (fewP bs ps kf wrg).2]) ∧ Below V.heap.size V V' := fun V hV =>
    fewest_c A1 A2 nb d1 np d2 kf wrg bs ms' ps V h1 h2 H3.out (HBY.out.later hV) (HPY.out.later hV)
  have hg2 : ∀ V, Below Y.heap.size Y V → Calls Try.prog 47 #[.agg #[.slice Ab nb cb, .int .i64 kf, .slice Ap np cp, .int .i64 wrg]] V fun e V' => e = .returned (.tuple #[.int .i64 (fewP bs ps kf wrg).1, .int .i64 (fewP bs ps kf wrg).2]) ∧ Below V.heap.size V V' := fun V hV =>
    refFewest_c Ab Ap nb cb np cp kf wrg bs ms ps V h1 h2 H3.out HSM.out (HBI.out.later (hw V hV)) (HPI.out.later (hw V hV))
  have hm1 : ∀ V, Below Y.heap.size Y V → Calls Try.prog 17 #[.agg #[.slice A1 nb d1, .int .i64 kf, .slice A2 np d2, .int .i64 wrg]] V fun e V' => e = .returned (.tuple #[.int .i64 (manyR bs ps kf wrg), .int .i64 (askE bs ps kf wrg true)]) ∧ Below V.heap.size V V' := fun V hV =>
    many_c A1 A2 nb d1 np d2 kf wrg bs ms' ps V h1 h2 H3.out (HBY.out.later hV) (HPY.out.later hV)
  have hm2 : ∀ V, Below Y.heap.size Y V → Calls Try.prog 48 #[.agg #[.slice Ab nb cb, .int .i64 kf, .slice Ap np cp, .int .i64 wrg]] V fun e V' => e = .returned (.tuple #[.int .i64 (manyR bs ps kf wrg), .int .i64 (askE bs ps kf wrg true)]) ∧ Below V.heap.size V V' := fun V hV =>
    refMany_c Ab Ap nb cb np cp kf wrg bs ms ps V h1 h2 H3.out HSM.out (HBI.out.later (hw V hV)) (HPI.out.later (hw V hV))
  have hsa : Hid (∀ V, Below Y.heap.size Y V → Calls Try.prog 26 #[.agg #[.slice A1 nb d1, .int .i64 kf, .slice A2 np d2, .int .i64 wrg], .agg #[.slice Ab nb cb, .int .i64 kf, .slice Ap np cp, .int .i64 wrg]] V fun e V' => e = .returned (.bool true) ∧ Below V.heap.size V V') := Lib.hid fun V hV =>
    same_c A1 A2 Ab Ap nb d1 cb np d2 cp kf wrg bs ms ms' ps V h1 h2 H3.out (HBY.out.later hV) (HPY.out.later hV) (HBI.out.later (hw V hV)) (HPI.out.later (hw V hV))
  have hsi : Hid (∀ V, Below Y.heap.size Y V → Calls Try.prog 42 #[.slice A8 ns C8, .slice As ns cs] V fun e V' => e = .returned (.bool true) ∧ Below V.heap.size V V') := Lib.hid fun V hV => by
    have := SameInts_c A8 As ns ns C8 cs ls ls V h4 h4 (HIY.out.later hV) (HSI.out.later (hw V hV))
    rw [show (ns == ns) = true by simp, show (allN ns fun j => iAt ls j == iAt ls j) = true by rw [allN_iff]; intro j _; simp] at this
    exact this
  obtain ⟨zc, hzc⟩ : ∃ P, erS (ckS bs ps kf wrg) = P := ⟨_, rfl⟩
  obtain ⟨fb, hfb⟩ : ∃ P, (fitP bs ps kf wrg ls).1 = P := ⟨_, rfl⟩
  obtain ⟨fe, hfe⟩ : ∃ P, (fitP bs ps kf wrg ls).2 = P := ⟨_, rfl⟩
  obtain ⟨gb, hgb⟩ : ∃ P, (fewP bs ps kf wrg).1 = P := ⟨_, rfl⟩
  obtain ⟨ge, hge⟩ : ∃ P, (fewP bs ps kf wrg).2 = P := ⟨_, rfl⟩
  obtain ⟨mb, hmb⟩ : ∃ P, manyR bs ps kf wrg = P := ⟨_, rfl⟩
  obtain ⟨me, hme⟩ : ∃ P, askE bs ps kf wrg true = P := ⟨_, rfl⟩
  rw [hzc] at hk1 hk2
  rw [hfb, hfe] at hf1 hf2
  rw [hgb, hge] at hg1 hg2
  rw [hmb, hme] at hm1 hm2
  replace hf1 := Lib.hid hf1
  replace hf2 := Lib.hid hf2
  replace hg1 := Lib.hid hg1
  replace hg2 := Lib.hid hg2
  replace hm1 := Lib.hid hm1
  replace hm2 := Lib.hid hm2
  have k0 : (zc != zc) = false := by simp
  have k1 : (fb == fb) = true := by simp
  have k2 : (fe == fe) = true := by simp
  have k3 : (gb == gb) = true := by simp
  have k4 : (ge == ge) = true := by simp
  have k5 : (mb == mb) = true := by simp
  have k6 : (me == me) = true := by simp
  clear hzc hfb hfe hgb hge hmb hme hw
  have hcq := fun p : Regrown => (bcell (below_regrown Y p.d p.os)).1
  refine wp_region_quiet_below (by kernel_rfl) (by kernel_rfl) ?_
  repeat (go_big_quiet_step ((first | (go_at_call 43; exact Calls.regrown_of (hk1.out _ (below_regrown _ _ _))) | (go_at_call 44; exact Calls.regrown_of (hk2.out _ (below_regrown _ _ _))))))
  refine wpQuiet_nil ?_
  intro wq hq
  obtain ⟨pq, hq⟩ := hq
  have hbq : Below Y.heap.size Y wq := by rw [hq]; exact below_regrown _ _ _
  clear hq hcq pq
  obtain ⟨hcq, hfq⟩ := bcell hbq
  have zq := hbq.size
  have v0 := hbq
  clear c0_0 c0_g hcq hfq hk1 hk2
  have c0_0 := fun j => (v0.cell (p := ⟨w.heap.size, j, none⟩) N0).trans (PZ.out j)
  have c0_g := fun j => (v0.cell (p := ⟨w8.heap.size, j, none⟩) Ng).trans (KY.out.cell j)
  have y0 := v0.size
  go_wp2_with fail
  refine (hf1.out _ v0).mono ?_
  rintro e u1 ⟨rfl, hv1⟩
  have v1 : Below Y.heap.size Y u1 := v0.trans (hv1.mono y0)
  clear hv1 c0_0 c0_g
  have c1_0 := fun j => (v1.cell (p := ⟨w.heap.size, j, none⟩) N0).trans (PZ.out j)
  have c1_g := fun j => (v1.cell (p := ⟨w8.heap.size, j, none⟩) Ng).trans (KY.out.cell j)
  have y1 := v1.size
  go_wp2_with fail
  refine (hf2.out _ v1).mono ?_
  rintro e u2 ⟨rfl, hv2⟩
  have v2 : Below Y.heap.size Y u2 := v1.trans (hv2.mono y1)
  clear hv2 c1_0 c1_g
  have c2_0 := fun j => (v2.cell (p := ⟨w.heap.size, j, none⟩) N0).trans (PZ.out j)
  have c2_g := fun j => (v2.cell (p := ⟨w8.heap.size, j, none⟩) Ng).trans (KY.out.cell j)
  have y2 := v2.size
  go_wp2_with fail
  refine (hg1.out _ v2).mono ?_
  rintro e u3 ⟨rfl, hv3⟩
  have v3 : Below Y.heap.size Y u3 := v2.trans (hv3.mono y2)
  clear hv3 c2_0 c2_g
  have c3_0 := fun j => (v3.cell (p := ⟨w.heap.size, j, none⟩) N0).trans (PZ.out j)
  have c3_g := fun j => (v3.cell (p := ⟨w8.heap.size, j, none⟩) Ng).trans (KY.out.cell j)
  have y3 := v3.size
  go_wp2_with fail
  refine (hg2.out _ v3).mono ?_
  rintro e u4 ⟨rfl, hv4⟩
  have v4 : Below Y.heap.size Y u4 := v3.trans (hv4.mono y3)
  clear hv4 c3_0 c3_g
  have c4_0 := fun j => (v4.cell (p := ⟨w.heap.size, j, none⟩) N0).trans (PZ.out j)
  have c4_g := fun j => (v4.cell (p := ⟨w8.heap.size, j, none⟩) Ng).trans (KY.out.cell j)
  have y4 := v4.size
  go_wp2_with fail
  refine (hm1.out _ v4).mono ?_
  rintro e u5 ⟨rfl, hv5⟩
  have v5 : Below Y.heap.size Y u5 := v4.trans (hv5.mono y4)
  clear hv5 c4_0 c4_g
  have c5_0 := fun j => (v5.cell (p := ⟨w.heap.size, j, none⟩) N0).trans (PZ.out j)
  have c5_g := fun j => (v5.cell (p := ⟨w8.heap.size, j, none⟩) Ng).trans (KY.out.cell j)
  have y5 := v5.size
  go_wp2_with fail
  refine (hm2.out _ v5).mono ?_
  rintro e u6 ⟨rfl, hv6⟩
  have v6 : Below Y.heap.size Y u6 := v5.trans (hv6.mono y5)
  clear hv6 c5_0 c5_g
  have c6_0 := fun j => (v6.cell (p := ⟨w.heap.size, j, none⟩) N0).trans (PZ.out j)
  have c6_g := fun j => (v6.cell (p := ⟨w8.heap.size, j, none⟩) Ng).trans (KY.out.cell j)
  have y6 := v6.size
  go_wp2_with fail
  refine (hsa.out _ v6).mono ?_
  rintro e u7 ⟨rfl, hv7⟩
  have v7 : Below Y.heap.size Y u7 := v6.trans (hv7.mono y6)
  clear hv7 c6_0 c6_g
  have c7_0 := fun j => (v7.cell (p := ⟨w.heap.size, j, none⟩) N0).trans (PZ.out j)
  have c7_g := fun j => (v7.cell (p := ⟨w8.heap.size, j, none⟩) Ng).trans (KY.out.cell j)
  have y7 := v7.size
  go_wp2_with fail
  refine (hsi.out _ v7).mono ?_
  rintro e u8 ⟨rfl, hv8⟩
  have v8 : Below Y.heap.size Y u8 := v7.trans (hv8.mono y7)
  clear hv8 c7_0 c7_g
  have c8_0 := fun j => (v8.cell (p := ⟨w.heap.size, j, none⟩) N0).trans (PZ.out j)
  have c8_g := fun j => (v8.cell (p := ⟨w8.heap.size, j, none⟩) Ng).trans (KY.out.cell j)
  have y8 := v8.size
  go_wp2_with fail
  refine (hwk.out _).mono ?_
  rintro e w99 ⟨rfl, hb99⟩
  go_wp2
  go_ret
  exact ⟨rfl, BX.trans (Below.mono (b4.trans ((v8.trans (hb99.mono y8)).mono zZ)) zw)⟩

end Go.Proofs.Ytmopnbijfcamjaa
