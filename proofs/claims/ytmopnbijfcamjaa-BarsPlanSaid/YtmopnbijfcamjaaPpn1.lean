/- BarsPlan (layer 1): the law. -/
import Derived.Test.YtmopnbijfcamjaaRf5
import Derived.Test.YtmopnbijfcamjaaEv1
namespace Go.Proofs.Ytmopnbijfcamjaa
open Go.RowKit
open Go.Sort (grow)
set_option linter.unusedVariables false

theorem plan_law {bs : List Br} {ps : List Pc} {kf wr : Int} : (askE bs ps kf wr true ≠ 0 ∧ planP bs ps kf wr = []) ∨ (askE bs ps kf wr true = 0 ∧ ckS bs ps kf wr = true ∧ ∃ l, l ∈ trL bs ps kf wr ∧ planP bs ps kf wr = toI l ∧ leastP bs ps kf wr = (usL bs.length l : Nat)) := by
  by_cases hz : askE bs ps kf wr true = 0
  · right
    obtain ⟨hc, -, -⟩ := askE_0 hz
    refine ⟨hz, hc, ?_⟩
    have hne : trL bs ps kf wr ≠ [] := fun e => by rw [askE_ok hc, if_pos e] at hz; cases hz
    rcases plan_ok hc with ⟨e, -⟩ | ⟨l, hl, e, h1⟩
    · exact absurd e hne
    · rcases least_ok hc with ⟨e2, -⟩ | ⟨m, hm, e2, h2⟩
      · exact absurd e2 hne
      · have a := h1 m hm
        have b := h2 l hl
        exact ⟨l, hl, e, by rw [e2]; omega⟩
  · left
    refine ⟨hz, ?_⟩
    unfold planP
    rw [show (askE bs ps kf wr true == 0) = false by rw [beq_eq_false_iff_ne]; exact hz]
    rfl
set_option maxRecDepth 100000 in
set_option maxHeartbeats 3200000 in
theorem Plan_law_c (Ab Ap : Option Addr) (nb cb np cp : Nat) (kf wrg : Int) (bs : List Br) (ms : List Pm) (ps : List Pc) (w : World) (HB : BrsAt w Ab nb bs) (HP : PcsAt w Ap np ms ps) :
    Calls Try.prog 5 #[.agg #[.slice Ab nb cb, .int .i64 kf, .slice Ap np cp, .int .i64 wrg]] w fun e w' => e = .returned (.bool true) ∧ Below w.heap.size w w' := by
  have hwk := Lib.hid works_c
  have hfar : ∀ Z, Below w.heap.size w Z → Calls Try.prog 22 #[.agg #[.slice Ab nb cb, .int .i64 kf, .slice Ap np cp, .int .i64 wrg]] Z fun e Z' => e = .returned (.bool (farB bs ps kf wrg nb np)) ∧ Below Z.heap.size Z Z' := fun Z hZ => Far_c Ab Ap nb cb np cp kf wrg bs ms ps Z (HB.later hZ) (HP.later hZ)
  cases er : farB bs ps kf wrg nb np
  rotate_left 1
  · rw [er] at hfar
    replace hfar := Lib.hid hfar
    clear er HB HP
    go_enter Try.func5, Try.ntmps5
    go_wp2_with fail
    obtain ⟨X, hX⟩ : ∃ X, w.alloc (.cells #[.slice Ab nb cb, .int .i64 kf, .slice Ap np cp, .int .i64 wrg] 25) = X := ⟨_, rfl⟩
    rw [hX]
    have BX : Below w.heap.size w X := (al1 hX).1
    have zX : X.heap.size = w.heap.size + 1 := (al1 hX).2
    have P0 := Lib.hid (al1_0 hX).2.1
    have zw : w.heap.size ≤ X.heap.size := by omega
    have n0 : w.heap.size < X.heap.size := by omega
    clear hX
    refine (hfar.out X BX).mono ?_
    rintro e w1 ⟨rfl, b1⟩
    have c1_0 := fun j => (b1.cell (p := ⟨w.heap.size, j, none⟩) n0).trans (P0.out j)
    have z1 := b1.size
    go_wp2_with fail
    refine (hwk.out _).mono ?_
    rintro e w99 ⟨rfl, hb99⟩
    go_wp2
    go_ret
    exact ⟨rfl, BX.trans (Below.mono (b1.trans (hb99.mono z1)) zw)⟩
  obtain ⟨h1, h2, h3, hsm⟩ := farB_no er
  rw [er] at hfar
  replace hfar := Lib.hid hfar
  have HBI := Lib.hid HB
  have HPI := Lib.hid HP
  have H3 := Lib.hid h3
  have HSM := Lib.hid hsm
  have hbl := HB.1
  have hpl := HP.pl
  have HBL := Lib.hid hbl
  have HPL := Lib.hid hpl
  have LAW := Lib.hid (plan_law (bs := bs) (ps := ps) (kf := kf) (wr := wrg))
  have HLN := Lib.hid (planP_len (bs := bs) (ps := ps) (kf := kf) (wr := wrg))
  clear er HB HP h3 hsm hbl hpl
  go_enter Try.func5, Try.ntmps5
  go_wp2_with fail
  obtain ⟨X, hX⟩ : ∃ X, w.alloc (.cells #[.slice Ab nb cb, .int .i64 kf, .slice Ap np cp, .int .i64 wrg] 25) = X := ⟨_, rfl⟩
  rw [hX]
  have BX : Below w.heap.size w X := (al1 hX).1
  have zX : X.heap.size = w.heap.size + 1 := (al1 hX).2
  have P0 := Lib.hid (al1_0 hX).2.1
  have zw : w.heap.size ≤ X.heap.size := by omega
  have n0 : w.heap.size < X.heap.size := by omega
  clear hX
  refine (hfar.out X BX).mono ?_
  rintro e w1 ⟨rfl, b1⟩
  have c1_0 := fun j => (b1.cell (p := ⟨w.heap.size, j, none⟩) n0).trans (P0.out j)
  have z1 := b1.size
  go_wp2_with fail
  refine (Copy_c Ab Ap nb cb np cp kf wrg bs ms ps w1 h1 h2 H3.out (HBI.out.later (BX.trans (b1.mono zw))) (HPI.out.later (BX.trans (b1.mono zw)))).mono ?_
  rintro e w2 ⟨A1, d1, A2, d2, ms', mid, rfl, hO, hb2⟩
  obtain ⟨hB2, hP2⟩ := hO.st
  have HB2 := Lib.hid hB2
  have HP2 := Lib.hid hP2
  have b2 : Below X.heap.size X w2 := b1.trans (hb2.mono z1)
  clear hb2 hO c1_0 b1 hB2 hP2
  have c2_0 := fun j => (b2.cell (p := ⟨w.heap.size, j, none⟩) n0).trans (P0.out j)
  have z2 := b2.size
  go_upto_region 4 with (fail)
  go_name_world Y hY
  have KY : Hid (Blk Y w2.heap.size 25 #[.slice A1 nb d1, .int .i64 kf, .slice A2 np d2, .int .i64 wrg]) := Lib.hid (by rw [← hY]; exact Blk.new w2 _ _)
  have bY := (al1 hY).1
  have b4 : Below X.heap.size X Y := b2.trans (bY.mono z2)
  have HBY := Lib.hid (HB2.out.later bY)
  have HPY := Lib.hid (HP2.out.later bY)
  clear hY bY c2_0 HB2 HP2
  have PZ := Lib.hid (fun j => (b4.cell (p := ⟨w.heap.size, j, none⟩) n0).trans (P0.out j))
  have zZ := b4.size
  have N0 : w.heap.size < Y.heap.size := by omega
  have Ng : w2.heap.size < Y.heap.size := KY.out.lt
  have hw : ∀ V, Below Y.heap.size Y V → Below w.heap.size w V := fun V hV => BX.trans ((b4.trans (hV.mono zZ)).mono zw)
  have v0 := Below.refl Y.heap.size Y
  have c0_0 := fun j => (v0.cell (p := ⟨w.heap.size, j, none⟩) N0).trans (PZ.out j)
  have c0_g := fun j => (v0.cell (p := ⟨w2.heap.size, j, none⟩) Ng).trans (KY.out.cell j)
  have y0 := v0.size
  have hl1 : ∀ V, Below Y.heap.size Y V → Calls Try.prog 23 #[.agg #[.slice A1 nb d1, .int .i64 kf, .slice A2 np d2, .int .i64 wrg]] V fun e V' => e = .returned (.tuple #[.int .i64 (leastP bs ps kf wrg), .int .i64 (askE bs ps kf wrg true)]) ∧ Below V.heap.size V V' := fun V hV =>
    least_c A1 A2 nb d1 np d2 kf wrg bs ms' ps V h1 h2 H3.out (HBY.out.later hV) (HPY.out.later hV)
  have hl2 : ∀ V, Below Y.heap.size Y V → Calls Try.prog 24 #[.agg #[.slice Ab nb cb, .int .i64 kf, .slice Ap np cp, .int .i64 wrg]] V fun e V' => e = .returned (.tuple #[.int .i64 (leastP bs ps kf wrg), .int .i64 (askE bs ps kf wrg true)]) ∧ Below V.heap.size V V' := fun V hV =>
    refLeast_c Ab Ap nb cb np cp kf wrg bs ms ps V h1 h2 H3.out HSM.out (HBI.out.later (hw V hV)) (HPI.out.later (hw V hV))
  have hp1 : ∀ V, Below Y.heap.size Y V → Calls Try.prog 25 #[.agg #[.slice A1 nb d1, .int .i64 kf, .slice A2 np d2, .int .i64 wrg]] V fun e V' => ∃ A c, e = .returned (.tuple #[.slice A (planP bs ps kf wrg).length c, .int .i64 (askE bs ps kf wrg true)]) ∧ IntsAt V' A (planP bs ps kf wrg).length (planP bs ps kf wrg) ∧ Below V.heap.size V V' := fun V hV => by
    refine (plan_c A1 A2 nb d1 np d2 kf wrg bs ms' ps V h1 h2 H3.out (HBY.out.later hV) (HPY.out.later hV)).mono fun e W' => ?_
    rintro ⟨A, c, rfl, ho, hb⟩
    obtain ⟨A', c', e', -, hs⟩ := SlAt.of_own (d := (0 : Int)) encI_len ho rfl
    cases e'
    exact ⟨A, c, rfl, ints_iff.2 hs, hb⟩
  have hsa : Hid (∀ V, Below Y.heap.size Y V → Calls Try.prog 26 #[.agg #[.slice A1 nb d1, .int .i64 kf, .slice A2 np d2, .int .i64 wrg], .agg #[.slice Ab nb cb, .int .i64 kf, .slice Ap np cp, .int .i64 wrg]] V fun e V' => e = .returned (.bool true) ∧ Below V.heap.size V V') := Lib.hid fun V hV =>
    same_c A1 A2 Ab Ap nb d1 cb np d2 cp kf wrg bs ms ms' ps V h1 h2 H3.out (HBY.out.later hV) (HPY.out.later hV) (HBI.out.later (hw V hV)) (HPI.out.later (hw V hV))
  have hit : Hid (∀ (A : Option Addr) (c : Nat) (l : List Nat) V, ckS bs ps kf wrg = true → l ∈ trL bs ps kf wrg → Below Y.heap.size Y V → IntsAt V A np (toI l) → Calls Try.prog 27 #[.agg #[.slice Ab nb cb, .int .i64 kf, .slice Ap np cp, .int .i64 wrg], .slice A np c] V fun e V' => e = .returned (.bool true) ∧ Below V.heap.size V V') := Lib.hid fun A c l V hc hl hV hI => by
    have := refTruth_c Ab Ap A nb cb np cp np c kf wrg bs ms ps V (toI l) h2 H3.out hc (HBI.out.later (hw V hV)) (HPI.out.later (hw V hV)) hI
    rw [show isT bs ps kf wrg (toI l) = true from isT_iff.2 ⟨l, rfl, hl⟩] at this
    exact this
  have hus : Hid (∀ (A : Option Addr) (c : Nat) (l : List Nat) V, IntsAt V A np (toI l) → Calls Try.prog 28 #[.agg #[.slice Ab nb cb, .int .i64 kf, .slice Ap np cp, .int .i64 wrg], .slice A np c] V fun e V' => e = .returned (.int .i64 (usL nb l : Nat)) ∧ Below V.heap.size V V') := Lib.hid fun A c l V hI =>
    refUsed_c Ab Ap A nb cb np cp np c kf wrg l V h1 h2 hI
  have law := LAW.out
  have hln := HLN.out
  obtain ⟨P, hP⟩ : ∃ P, planP bs ps kf wrg = P := ⟨_, rfl⟩
  obtain ⟨z, hz⟩ : ∃ P, askE bs ps kf wrg true = P := ⟨_, rfl⟩
  obtain ⟨q, hq⟩ : ∃ P, leastP bs ps kf wrg = P := ⟨_, rfl⟩
  rw [hq, hz] at hl1 hl2
  rw [hP, hz] at hp1
  rw [hP, hz, hq] at law
  rw [hP, HPL.out] at hln
  replace hl1 := Lib.hid hl1
  replace hl2 := Lib.hid hl2
  replace hp1 := Lib.hid hp1
  have k1 : (q != q) = false := by simp
  have k2 : (z != z) = false := by simp
  clear hP hz hq LAW HLN hw
  rcases law with ⟨hz0, rfl⟩ | ⟨rfl, hck, l, hl, rfl, rfl⟩
  · have k3 : (z != 0) = true := by simpa using hz0
    clear hz0
    go_wp2_with fail
    refine (hl1.out _ v0).mono ?_
    rintro e u1 ⟨rfl, hv1⟩
    have v1 : Below Y.heap.size Y u1 := v0.trans (hv1.mono y0)
    clear hv1 c0_0 c0_g
    have c1_0 := fun j => (v1.cell (p := ⟨w.heap.size, j, none⟩) N0).trans (PZ.out j)
    have c1_g := fun j => (v1.cell (p := ⟨w2.heap.size, j, none⟩) Ng).trans (KY.out.cell j)
    have y1 := v1.size
    go_wp2_with fail
    refine (hl2.out _ v1).mono ?_
    rintro e u2 ⟨rfl, hv2⟩
    have v2 : Below Y.heap.size Y u2 := v1.trans (hv2.mono y1)
    clear hv2 c1_0 c1_g
    have c2_0 := fun j => (v2.cell (p := ⟨w.heap.size, j, none⟩) N0).trans (PZ.out j)
    have c2_g := fun j => (v2.cell (p := ⟨w2.heap.size, j, none⟩) Ng).trans (KY.out.cell j)
    have y2 := v2.size
    go_wp2_with fail
    refine (hp1.out _ v2).mono ?_
    rintro e u3 ⟨A3, e3, rfl, hi3, hv3⟩
    have v3 : Below Y.heap.size Y u3 := v2.trans (hv3.mono y2)
    clear hv3 c2_0 c2_g hi3
    have c3_0 := fun j => (v3.cell (p := ⟨w.heap.size, j, none⟩) N0).trans (PZ.out j)
    have c3_g := fun j => (v3.cell (p := ⟨w2.heap.size, j, none⟩) Ng).trans (KY.out.cell j)
    have y3 := v3.size
    go_wp2_with fail
    refine (hsa.out _ v3).mono ?_
    rintro e u4 ⟨rfl, hv4⟩
    have v4 : Below Y.heap.size Y u4 := v3.trans (hv4.mono y3)
    clear hv4 c3_0 c3_g
    have c4_0 := fun j => (v4.cell (p := ⟨w.heap.size, j, none⟩) N0).trans (PZ.out j)
    have c4_g := fun j => (v4.cell (p := ⟨w2.heap.size, j, none⟩) Ng).trans (KY.out.cell j)
    have y4 := v4.size
    go_wp2_with fail
    refine (hwk.out _).mono ?_
    rintro e w99 ⟨rfl, hb99⟩
    go_wp2
    go_ret
    exact ⟨rfl, BX.trans (Below.mono (b4.trans ((v4.trans (hb99.mono y4)).mono zZ)) zw)⟩
  · have hll : (toI l).length = np := by rw [toI_len, (trL_mem.1 hl).1.1, HPL.out]
    rw [hll] at hp1
    have HL := Lib.hid hl
    have k4 : decide ((40 : Int) < np) = false := by simp; omega
    rw [HBL.out] at *
    have k5 : (((usL nb l : Nat) : Int) == ((usL nb l : Nat) : Int)) = true := by simp
    have HCK := Lib.hid hck
    clear hl hll hln hck
    go_wp2_with fail
    refine (hl1.out _ v0).mono ?_
    rintro e u1 ⟨rfl, hv1⟩
    have v1 : Below Y.heap.size Y u1 := v0.trans (hv1.mono y0)
    clear hv1 c0_0 c0_g
    have c1_0 := fun j => (v1.cell (p := ⟨w.heap.size, j, none⟩) N0).trans (PZ.out j)
    have c1_g := fun j => (v1.cell (p := ⟨w2.heap.size, j, none⟩) Ng).trans (KY.out.cell j)
    have y1 := v1.size
    go_wp2_with fail
    refine (hl2.out _ v1).mono ?_
    rintro e u2 ⟨rfl, hv2⟩
    have v2 : Below Y.heap.size Y u2 := v1.trans (hv2.mono y1)
    clear hv2 c1_0 c1_g
    have c2_0 := fun j => (v2.cell (p := ⟨w.heap.size, j, none⟩) N0).trans (PZ.out j)
    have c2_g := fun j => (v2.cell (p := ⟨w2.heap.size, j, none⟩) Ng).trans (KY.out.cell j)
    have y2 := v2.size
    go_wp2_with fail
    refine (hp1.out _ v2).mono ?_
    rintro e u3 ⟨A3, e3, rfl, hi3, hv3⟩
    have v3 : Below Y.heap.size Y u3 := v2.trans (hv3.mono y2)
    have HI3 := Lib.hid hi3
    clear hv3 c2_0 c2_g hi3
    have c3_0 := fun j => (v3.cell (p := ⟨w.heap.size, j, none⟩) N0).trans (PZ.out j)
    have c3_g := fun j => (v3.cell (p := ⟨w2.heap.size, j, none⟩) Ng).trans (KY.out.cell j)
    have y3 := v3.size
    go_wp2_with fail
    refine (hsa.out _ v3).mono ?_
    rintro e u4 ⟨rfl, hv4⟩
    replace HI3 := Lib.hid (HI3.out.later hv4)
    have v4 : Below Y.heap.size Y u4 := v3.trans (hv4.mono y3)
    clear hv4 c3_0 c3_g
    have c4_0 := fun j => (v4.cell (p := ⟨w.heap.size, j, none⟩) N0).trans (PZ.out j)
    have c4_g := fun j => (v4.cell (p := ⟨w2.heap.size, j, none⟩) Ng).trans (KY.out.cell j)
    have y4 := v4.size
    go_wp2_with fail
    refine (hit.out A3 e3 l u4 HCK.out HL.out v4 HI3.out).mono ?_
    rintro e u5 ⟨rfl, hv5⟩
    replace HI3 := Lib.hid (HI3.out.later hv5)
    have v5 : Below Y.heap.size Y u5 := v4.trans (hv5.mono y4)
    clear hv5 c4_0 c4_g
    have c5_0 := fun j => (v5.cell (p := ⟨w.heap.size, j, none⟩) N0).trans (PZ.out j)
    have c5_g := fun j => (v5.cell (p := ⟨w2.heap.size, j, none⟩) Ng).trans (KY.out.cell j)
    have y5 := v5.size
    go_wp2_with fail
    refine (hus.out A3 e3 l _ HI3.out).mono ?_
    rintro e u6 ⟨rfl, hv6⟩
    have v6 : Below Y.heap.size Y u6 := v5.trans (hv6.mono y5)
    clear hv6 c5_0 c5_g
    have c6_0 := fun j => (v6.cell (p := ⟨w.heap.size, j, none⟩) N0).trans (PZ.out j)
    have c6_g := fun j => (v6.cell (p := ⟨w2.heap.size, j, none⟩) Ng).trans (KY.out.cell j)
    have y6 := v6.size
    go_wp2_with fail
    refine (hwk.out _).mono ?_
    rintro e w99 ⟨rfl, hb99⟩
    go_wp2
    go_ret
    exact ⟨rfl, BX.trans (Below.mono (b4.trans ((v6.trans (hb99.mono y6)).mono zZ)) zw)⟩

end Go.Proofs.Ytmopnbijfcamjaa
