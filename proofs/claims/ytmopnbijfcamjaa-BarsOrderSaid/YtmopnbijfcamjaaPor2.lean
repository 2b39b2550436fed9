/- BarsOrder (layer 1): the walk. -/
import Derived.Deep.DeepCutAuto
import Derived.Test.YtmopnbijfcamjaaPor1
namespace Go.Proofs.Ytmopnbijfcamjaa
open Go.RowKit
open Go.Sort (grow)
set_option linter.unusedVariables false

theorem brAt_set1 {bs : List Br} {x : Br} {p k : Nat} (hp : p < bs.length) : brAt (bs.set p x) k = if p = k then x else brAt bs k := by
  unfold brAt
  rw [List.getD_eq_getElem?_getD, List.getD_eq_getElem?_getD, List.getElem?_set]
  split <;> simp_all
set_option maxRecDepth 100000 in
set_option maxHeartbeats 6400000 in
theorem OrderMain_c (Ab Ap : Option Addr) (nb cb np cp y : Nat) (kf wrg xa xb xr xl : Int) (bs : List Br) (ms : List Pm) (ps : List Pc) (w : World) (HB : BrsAt w Ab nb bs) (HP : PcsAt w Ap np ms ps) (er : rdyS bs ps kf wrg nb np = true) (hy : y ≤ 100)
    (hrd : Hid (∀ Z, Below w.heap.size w Z → Calls Try.prog 13 #[.agg #[.slice Ab nb cb, .int .i64 kf, .slice Ap np cp, .int .i64 wrg]] Z fun e Z' => e = .returned (.bool true) ∧ Below Z.heap.size Z Z')) :
    Calls Try.prog 10 #[.agg #[.slice Ab nb cb, .int .i64 kf, .slice Ap np cp, .int .i64 wrg], .int .i64 y, .agg #[.int .i64 xa, .int .i64 xb, .int .i64 xr, .int .i64 xl]] w fun e w' => e = .returned (.bool true) ∧ Below w.heap.size w w' := by
  have hwk := Lib.hid works_c
  obtain ⟨hn4, hp5, h3, hck⟩ := rdyS_ok er
  have h1 : nb ≤ 40 := by omega
  have h2 : np ≤ 40 := by omega
  have HBI := Lib.hid HB
  have HPI := Lib.hid HP
  have H3 := Lib.hid h3
  have HCK := Lib.hid hck
  have HBL := Lib.hid HB.1
  have HPL := Lib.hid HP.pl
  have g1 : decide ((y : Int) < 0) = false := by simp
  have g2 : decide ((100 : Int) < (y : Int)) = false := by simp; omega
  clear er HB HP h3 hck
  go_enter Try.func10, Try.ntmps10
  go_wp2_with fail
  obtain ⟨X, hX⟩ : ∃ X, (w.alloc (.cells #[.slice Ab nb cb, .int .i64 kf, .slice Ap np cp, .int .i64 wrg] 25)).alloc (.cells #[.int .i64 xa, .int .i64 xb, .int .i64 xr, .int .i64 xl] 49) = X := ⟨_, rfl⟩
  rw [hX]
  have BX : Below w.heap.size w X := (al2 hX).1
  have zX : X.heap.size = w.heap.size + 2 := (al2 hX).2
  have P0 := Lib.hid (al2_0 hX).2.1
  have P1 := Lib.hid (al2_1 hX).2.1
  have zw : w.heap.size ≤ X.heap.size := by omega
  have n0 : w.heap.size < X.heap.size := by omega
  have n1 : w.heap.size + 1 < X.heap.size := by omega
  clear hX
  refine (hrd.out X BX).mono ?_
  rintro e w1 ⟨rfl, b1⟩
  have c1_0 := fun j => (b1.cell (p := ⟨w.heap.size, j, none⟩) n0).trans (P0.out j)
  have c1_1 := fun j => (b1.cell (p := ⟨w.heap.size + 1, j, none⟩) n1).trans (P1.out j)
  have z1 := b1.size
  go_wp2_with fail
  refine (Copy_c Ab Ap nb cb np cp kf wrg bs ms ps w1 h1 h2 H3.out (HBI.out.later (BX.trans (b1.mono zw))) (HPI.out.later (BX.trans (b1.mono zw)))).mono ?_
  rintro e w2 ⟨A1, d1, A2, d2, ms', mid, rfl, hO, hb2⟩
  have HO := Lib.hid hO
  have b2 : Below X.heap.size X w2 := b1.trans (hb2.mono z1)
  clear hb2 hO c1_0 c1_1 g1 g2
  have c2_0 := fun j => (b2.cell (p := ⟨w.heap.size, j, none⟩) n0).trans (P0.out j)
  have c2_1 := fun j => (b2.cell (p := ⟨w.heap.size + 1, j, none⟩) n1).trans (P1.out j)
  have z2 := b2.size
  go_upto_region 4 with (fail)
  go_name_world Y hY
  have KY : Hid (Blk Y w2.heap.size 25 #[.slice A1 nb d1, .int .i64 kf, .slice A2 np d2, .int .i64 wrg]) := Lib.hid (by rw [← hY]; exact Blk.new w2 _ _)
  have bY := (al1 hY).1
  have b4 : Below X.heap.size X Y := b2.trans (bY.mono z2)
  have HOY := Lib.hid (HO.out.later bY)
  have hmid := HO.out.mh
  have hmid0 := HO.out.le
  have NB1 := Lib.hid (fun g (hg : (Value.slice A1 nb d1).ownBlock = some g) => HO.out.bm g hg)
  have NB0 := Lib.hid (fun g (hg : (Value.slice A1 nb d1).ownBlock = some g) => (HO.out.bar.lt g hg).1)
  have NP1 := Lib.hid (fun g (hg : (Value.slice A2 np d2).ownBlock = some g) => HO.out.pcs.own.lt g hg)
  have zY : w2.heap.size < Y.heap.size := KY.out.lt
  have z12 : X.heap.size ≤ w1.heap.size := z1
  clear hY bY c2_0 c2_1
  go_wp2_with fail
  have kb0 := Lib.hid (show ∃ bs' : List Br, bs'.length = nb ∧ (∀ j, j < 0 → brAt bs' j = brAt bs (tuF nb y j)) ∧ Y.ownsRow w1.heap.size 60 2 (.slice A1 nb d1) nb (bs'.flatMap encB) from ⟨bs, HBL.out, fun j hj => absurd hj (by omega), HOY.out.bar⟩)
  go_loopw [8] (fun i (wr : World) => ∃ (k : Nat), k ≤ nb ∧ i = .int .i64 k ∧ Hid (Blk wr w2.heap.size 25 #[.slice A1 nb d1, .int .i64 kf, .slice A2 np d2, .int .i64 wrg]) ∧ Hid (∃ bs' : List Br, bs'.length = nb ∧ (∀ j, j < k → brAt bs' j = brAt bs (tuF nb y j)) ∧ wr.ownsRow w1.heap.size 60 2 (.slice A1 nb d1) nb (bs'.flatMap encB)) ∧ Hid (OwnPs mid wr (.slice A2 np d2) np ms' ps) ∧ Below X.heap.size X wr ∧ wr.heap.size = Y.heap.size) (fun i _ => nb - (intOf i).toNat)
  case atStart => exact ⟨0, by omega, rfl, KY, kb0, Lib.hid HOY.out.pcs, b4, rfl⟩
  case round =>
    obtain ⟨k, hk, rfl, HK, HR, HQ, b5, zr⟩ := hrel
    have c5_0 := fun j => (b5.cell (p := ⟨w.heap.size, j, none⟩) n0).trans (P0.out j)
    have c5_1 := fun j => (b5.cell (p := ⟨w.heap.size + 1, j, none⟩) n1).trans (P1.out j)
    have z5 := b5.size
    by_cases hlt : k < nb
    · have hqB : decide ((k : Int) < nb) = true := by simp; omega
      obtain ⟨bs', e1, e2, hO1⟩ := HR.out
      obtain ⟨ga, d1', e3, hga, hga'⟩ := hO1.form (by omega)
      injection e3 with e3a e3b e3c
      subst e3a e3c
      have hgm : ga < mid := NB1.out ga rfl
      have hg0 : w1.heap.size ≤ ga := NB0.out ga rfl
      have htu : tuF nb y k < nb := tuF_lt (by omega)
      have hbw : Below w.heap.size w wr := BX.trans (b5.mono zw)
      obtain ⟨bb, ob, e4, hbb, x0, x1⟩ := (HBI.out.later hbw).get htu
      have hbb' : bb < w.heap.size := by
        obtain ⟨b0, o0, e0, hb0, -⟩ := HBI.out.get htu
        rw [e4] at e0
        cases e0; exact hb0
      subst e4
      obtain ⟨hv, hhv⟩ : ∃ v, (brAt bs (tuF nb y k)).heat = v := ⟨_, rfl⟩
      obtain ⟨lv, hlv⟩ : ∃ v, (brAt bs (tuF nb y k)).long = v := ⟨_, rfl⟩
      rw [hhv] at x0
      rw [hlv] at x1
      have ft0 := hO1.frozenAt (k * 2)
      have ft1 := hO1.frozenAt (k * 2 + 1)
      obtain ⟨oh, hoh⟩ : ∃ v, (brAt bs' k).heat = v := ⟨_, rfl⟩
      obtain ⟨ol, hol⟩ : ∃ v, (brAt bs' k).long = v := ⟨_, rfl⟩
      have q0 : wr.cell? ⟨ga, k * 2, none⟩ = some (.int .i64 oh) := (hO1.cellAt (k * 2) (by omega)).trans ((flat_get (d := (⟨0, 0⟩ : Br)) encB_len bs' k 0 (by omega) (by omega)).trans (by rw [← hoh]; rfl))
      have q1 : wr.cell? ⟨ga, k * 2 + 1, none⟩ = some (.int .i64 ol) := (hO1.cellAt (k * 2 + 1) (by omega)).trans ((flat_get (d := (⟨0, 0⟩ : Br)) encB_len bs' k 1 (by omega) (by omega)).trans (by rw [← hol]; rfl))
      have kc := HK.out.cell 0
      have HO1 := Lib.hid hO1
      have E1 := Lib.hid e1
      have E2 := Lib.hid e2
      have HV := Lib.hid hhv
      have LV := Lib.hid hlv
      have hsw : IntKind.i64.wrap ((k : Int) + (y : Int)) = (k : Int) + (y : Int) := IntWalk.i64_in _ (by omega)
      have htm : Int.tmod ((k : Int) + (y : Int)) (nb : Int) = (tuF nb y k : Nat) := by
        rw [show (k : Int) + (y : Int) = ((k + y : Nat) : Int) from rfl]
        rfl
      obtain ⟨t, ht⟩ : ∃ t, tuF nb y k = t := ⟨_, rfl⟩
      rw [ht] at x0 x1 htm htu
      have HTT := Lib.hid ht
      have i1 : decide ((t : Int) < nb) = true := by simp; omega
      have zn : ¬ nb = 0 := by omega
      have hst : IntKind.i64.wrap (t : Int) = (t : Int) := IntWalk.i64_in _ (by omega)
      have m0 : w.heap.size < wr.heap.size := by omega
      have m1 : w2.heap.size < wr.heap.size := HK.out.lt
      have hS0 : ∀ W', Below wr.heap.size wr W' → (∀ i, W'.cell? ⟨w.heap.size, i, none⟩ = #[Value.slice (some ⟨bb, ob, none⟩) nb cb, .int .i64 kf, .slice Ap np cp, .int .i64 wrg][i]?) ∧ W'.cell? ⟨w2.heap.size, 0, none⟩ = some (.slice (some ⟨ga, 0, none⟩) nb d1) ∧ W'.cell? ⟨bb, ob + t * 2, none⟩ = some (.int .i64 hv) ∧ W'.cell? ⟨bb, ob + t * 2 + 1, none⟩ = some (.int .i64 lv) ∧ W'.frozen? ⟨ga, k * 2, none⟩ = false ∧ W'.frozen? ⟨ga, k * 2 + 1, none⟩ = false ∧ W'.cell? ⟨ga, k * 2, none⟩ = some (.int .i64 oh) ∧ W'.cell? ⟨ga, k * 2 + 1, none⟩ = some (.int .i64 ol) := fun W' h =>
        ⟨fun i => (h.cell (p := ⟨w.heap.size, i, none⟩) m0).trans (c5_0 i), (h.cell (p := ⟨w2.heap.size, 0, none⟩) m1).trans kc, (h.cell (p := ⟨bb, ob + t * 2, none⟩) hbb).trans x0, (h.cell (p := ⟨bb, ob + t * 2 + 1, none⟩) hbb).trans x1, (h.frozen (p := ⟨ga, k * 2, none⟩) (by show ga < _; omega)).trans ft0, (h.frozen (p := ⟨ga, k * 2 + 1, none⟩) (by show ga < _; omega)).trans ft1, (h.cell (p := ⟨ga, k * 2, none⟩) (by show ga < _; omega)).trans q0, (h.cell (p := ⟨ga, k * 2 + 1, none⟩) (by show ga < _; omega)).trans q1⟩
      have hS := hS0 wr.drew (by (repeat first | with_reducible assumption | with_reducible exact Below.refl _ _ | (with_reducible refine Below.alloc ?_ ?side _; case side => (first | omega | (with_reducible exact Below.size (by assumption)) | (simp; done) | (simp; omega))) | (with_reducible refine Below.setCell ?_ ?side _; case side => (first | omega | (with_reducible exact Below.size (by assumption)) | (simp; done) | (simp; omega))) | with_reducible refine Below.drew ?_ | with_reducible refine below_drewN ?_ _ | (with_reducible refine below_step (by assumption) ?side ?_; case side => (first | omega | (with_reducible exact Below.size (by assumption)) | (simp; done) | (simp; omega)))))
      go_upto_region 7 with (fail)
      clear hS0 hhv hlv x0 x1 ft0 ft1 kc hO1 e1 e2 ht c5_0 c5_1 e3b q0 q1 hoh hol
      refine wp_region_L (by kernel_rfl) (fun W' => (∀ i, W'.cell? ⟨w.heap.size, i, none⟩ = #[Value.slice (some ⟨bb, ob, none⟩) nb cb, .int .i64 kf, .slice Ap np cp, .int .i64 wrg][i]?) ∧ W'.cell? ⟨w2.heap.size, 0, none⟩ = some (.slice (some ⟨ga, 0, none⟩) nb d1) ∧ W'.cell? ⟨bb, ob + t * 2, none⟩ = some (.int .i64 hv) ∧ W'.cell? ⟨bb, ob + t * 2 + 1, none⟩ = some (.int .i64 lv) ∧ W'.frozen? ⟨ga, k * 2, none⟩ = false ∧ W'.frozen? ⟨ga, k * 2 + 1, none⟩ = false ∧ W'.cell? ⟨ga, k * 2, none⟩ = some (.int .i64 oh) ∧ W'.cell? ⟨ga, k * 2 + 1, none⟩ = some (.int .i64 ol)) 15 ?_
      refine wpAnyL_take (i := 0) (v := ?_) rfl (by kernel_rfl) (by kernel_rfl) (by kernel_rfl) (by kernel_rfl) (fun _ _ _ h => h) hS (Or.inl ⟨by rfl, ?_⟩) ?_
      rotate_left 1
      · intro w9 hw9
        obtain ⟨k0, k1, k2, k3, k4, k5, k6, k7⟩ := hw9
        go_simp
        try with_reducible rfl
      simp only [List.getElem_toArray, List.getElem_cons_zero, Act.put, List.setIfInBounds_toArray, List.set_cons_zero, List.set_cons_succ]
      refine wpAnyL_take (i := 1) (v := ?_) rfl (by kernel_rfl) (by kernel_rfl) (by kernel_rfl) (by kernel_rfl) (fun _ _ _ h => h) hS (Or.inl ⟨by rfl, ?_⟩) ?_
      rotate_left 1
      · intro w9 hw9
        obtain ⟨k0, k1, k2, k3, k4, k5, k6, k7⟩ := hw9
        go_simp
        try with_reducible rfl
      simp only [List.getElem_toArray, List.getElem_cons_zero, List.getElem_cons_succ, Act.put, List.setIfInBounds_toArray, List.set_cons_zero, List.set_cons_succ]
      refine wpAnyL_take (i := 2) (v := ?_) rfl (by kernel_rfl) (by kernel_rfl) (by kernel_rfl) (by kernel_rfl) (fun _ _ _ h => h) hS (Or.inl ⟨by rfl, ?_⟩) ?_
      rotate_left 1
      · intro w9 hw9
        obtain ⟨k0, k1, k2, k3, k4, k5, k6, k7⟩ := hw9
        go_simp
        try with_reducible rfl
      simp only [List.getElem_toArray, List.getElem_cons_zero, List.getElem_cons_succ, Act.put, List.setIfInBounds_toArray, List.set_cons_zero, List.set_cons_succ]
      refine wpAnyL_take (i := 3) (v := ?_) rfl (by kernel_rfl) (by kernel_rfl) (by kernel_rfl) (by kernel_rfl) (fun _ _ _ h => h) hS (Or.inl ⟨by rfl, ?_⟩) ?_
      rotate_left 1
      · intro w9 hw9
        obtain ⟨k0, k1, k2, k3, k4, k5, k6, k7⟩ := hw9
        go_simp
        try with_reducible rfl
      simp only [List.getElem_toArray, List.getElem_cons_zero, List.getElem_cons_succ, Act.put, List.setIfInBounds_toArray, List.set_cons_zero, List.set_cons_succ]
      refine wpAnyL_take (i := 4) (v := ?_) rfl (by kernel_rfl) (by kernel_rfl) (by kernel_rfl) (by kernel_rfl) (fun _ _ _ h => h) hS (Or.inl ⟨by rfl, ?_⟩) ?_
      rotate_left 1
      · intro w9 hw9
        obtain ⟨k0, k1, k2, k3, k4, k5, k6, k7⟩ := hw9
        go_simp
        try with_reducible rfl
      simp only [List.getElem_toArray, List.getElem_cons_zero, List.getElem_cons_succ, Act.put, List.setIfInBounds_toArray, List.set_cons_zero, List.set_cons_succ]
      refine wpAnyL_take (i := 5) (v := ?_) rfl (by kernel_rfl) (by kernel_rfl) (by kernel_rfl) (by kernel_rfl) (fun _ _ _ h => h) hS (Or.inl ⟨by rfl, ?_⟩) ?_
      rotate_left 1
      · intro w9 hw9
        obtain ⟨k0, k1, k2, k3, k4, k5, k6, k7⟩ := hw9
        go_simp
        try with_reducible rfl
      simp only [List.getElem_toArray, List.getElem_cons_zero, List.getElem_cons_succ, Act.put, List.setIfInBounds_toArray, List.set_cons_zero, List.set_cons_succ]
      refine wpAnyL_take (i := 6) (v := ?_) rfl (by kernel_rfl) (by kernel_rfl) (by kernel_rfl) (by kernel_rfl) (fun _ _ _ h => h) hS (Or.inl ⟨by rfl, ?_⟩) ?_
      rotate_left 1
      · intro w9 hw9
        obtain ⟨k0, k1, k2, k3, k4, k5, k6, k7⟩ := hw9
        go_simp
        try with_reducible rfl
      simp only [List.getElem_toArray, List.getElem_cons_zero, List.getElem_cons_succ, Act.put, List.setIfInBounds_toArray, List.set_cons_zero, List.set_cons_succ]
      refine wpAnyL_take (i := 7) (v := ?_) rfl (by kernel_rfl) (by kernel_rfl) (by kernel_rfl) (by kernel_rfl) (fun _ _ _ h => h) hS (Or.inl ⟨by rfl, ?_⟩) ?_
      rotate_left 1
      · intro w9 hw9
        obtain ⟨k0, k1, k2, k3, k4, k5, k6, k7⟩ := hw9
        go_simp
        try with_reducible rfl
      simp only [List.getElem_toArray, List.getElem_cons_zero, List.getElem_cons_succ, Act.put, List.setIfInBounds_toArray, List.set_cons_zero, List.set_cons_succ]
      refine wpAnyL_take (i := 8) (v := ?_) rfl (by kernel_rfl) (by kernel_rfl) (by kernel_rfl) (by kernel_rfl) (fun _ _ _ h => h) hS (Or.inl ⟨by rfl, ?_⟩) ?_
      rotate_left 1
      · intro w9 hw9
        obtain ⟨k0, k1, k2, k3, k4, k5, k6, k7⟩ := hw9
        go_simp
        try with_reducible rfl
      simp only [List.getElem_toArray, List.getElem_cons_zero, List.getElem_cons_succ, Act.put, List.setIfInBounds_toArray, List.set_cons_zero, List.set_cons_succ]
      refine wpAnyL_take (i := 9) (v := ?_) rfl (by kernel_rfl) (by kernel_rfl) (by kernel_rfl) (by kernel_rfl) (fun _ _ _ h => h) hS (Or.inl ⟨by rfl, ?_⟩) ?_
      rotate_left 1
      · intro w9 hw9
        obtain ⟨k0, k1, k2, k3, k4, k5, k6, k7⟩ := hw9
        go_simp
        try with_reducible rfl
      simp only [List.getElem_toArray, List.getElem_cons_zero, List.getElem_cons_succ, Act.put, List.setIfInBounds_toArray, List.set_cons_zero, List.set_cons_succ]
      refine wpAnyL_take (i := 10) (v := ?_) rfl (by kernel_rfl) (by kernel_rfl) (by kernel_rfl) (by kernel_rfl) (fun _ _ _ h => h) hS (Or.inl ⟨by rfl, ?_⟩) ?_
      rotate_left 1
      · intro w9 hw9
        obtain ⟨k0, k1, k2, k3, k4, k5, k6, k7⟩ := hw9
        go_simp
        try with_reducible rfl
      simp only [List.getElem_toArray, List.getElem_cons_zero, List.getElem_cons_succ, Act.put, List.setIfInBounds_toArray, List.set_cons_zero, List.set_cons_succ]
      refine wpAnyL_take (i := 11) (v := ?_) rfl (by kernel_rfl) (by kernel_rfl) (by kernel_rfl) (by kernel_rfl) (fun _ _ _ h => h) hS (Or.inl ⟨by rfl, ?_⟩) ?_
      rotate_left 1
      · intro w9 hw9
        obtain ⟨k0, k1, k2, k3, k4, k5, k6, k7⟩ := hw9
        go_simp
        try with_reducible rfl
      simp only [List.getElem_toArray, List.getElem_cons_zero, List.getElem_cons_succ, Act.put, List.setIfInBounds_toArray, List.set_cons_zero, List.set_cons_succ]
      refine wpAnyL_take (i := 12) (v := ?_) rfl (by kernel_rfl) (by kernel_rfl) (by kernel_rfl) (by kernel_rfl) (fun _ _ _ h => h) hS (Or.inl ⟨by rfl, ?_⟩) ?_
      rotate_left 1
      · intro w9 hw9
        obtain ⟨k0, k1, k2, k3, k4, k5, k6, k7⟩ := hw9
        go_simp
        try with_reducible rfl
      simp only [List.getElem_toArray, List.getElem_cons_zero, List.getElem_cons_succ, Act.put, List.setIfInBounds_toArray, List.set_cons_zero, List.set_cons_succ]
      refine wpAnyL_take (i := 13) (v := ?_) rfl (by kernel_rfl) (by kernel_rfl) (by kernel_rfl) (by kernel_rfl) (fun _ _ _ h => h) hS (Or.inl ⟨by rfl, ?_⟩) ?_
      rotate_left 1
      · intro w9 hw9
        obtain ⟨k0, k1, k2, k3, k4, k5, k6, k7⟩ := hw9
        go_simp
        try with_reducible rfl
      simp only [List.getElem_toArray, List.getElem_cons_zero, List.getElem_cons_succ, Act.put, List.setIfInBounds_toArray, List.set_cons_zero, List.set_cons_succ]
      refine wpAnyL_take (i := 14) (v := ?_) rfl (by kernel_rfl) (by kernel_rfl) (by kernel_rfl) (by kernel_rfl) (fun _ _ _ h => h) hS (Or.inl ⟨by rfl, ?_⟩) ?_
      rotate_left 1
      · intro w9 hw9
        obtain ⟨k0, k1, k2, k3, k4, k5, k6, k7⟩ := hw9
        go_simp
        try with_reducible rfl
      simp only [List.getElem_toArray, List.getElem_cons_zero, List.getElem_cons_succ, Act.put, List.setIfInBounds_toArray, List.set_cons_zero, List.set_cons_succ]
      obtain ⟨-, -, -, -, f0, f1, q0', q1'⟩ := hS
      have q1w := q1'
      have f1w := f1
      have q0w := q0'
      have f0w := f0
      simp only [World.cell?_drew] at q1w q0w
      simp only [World.frozen?_drew] at f1w f0w
      refine wpAnyL_one (i := 15) (by kernel_rfl) rfl (fun K hK => ?_)
      go_simp
      refine hK.out _ _ (fun h => absurd rfl h) (fun _ => ?_)
      refine wpAnyL_done (by kernel_rfl) ?_ _
      clear hK K
      have hO2 : ((wr.setCell ⟨ga, k * 2, none⟩ (.int .i64 hv)).setCell ⟨ga, k * 2 + 1, none⟩ (.int .i64 lv)).drew.ownsRow w1.heap.size 60 2 (.slice (some ⟨ga, 0, none⟩) nb d1) nb ((bs'.set k ⟨hv, lv⟩).flatMap encB) := by
        have hE1 := E1.out
        have a1 := ((HO1.out).stored (k * 2 + 0) (.int .i64 hv)).1
        rw [flat_set encB_len bs' k 0 ⟨hv, (brAt bs' k).long⟩ (⟨0, 0⟩ : Br) _ (by omega) (by omega) rfl] at a1
        have a2 := (a1.stored (k * 2 + 1) (.int .i64 lv)).1
        rw [flat_set encB_len (bs'.set k ⟨hv, (brAt bs' k).long⟩) k 1 ⟨hv, lv⟩ (⟨0, 0⟩ : Br) _ (by simp; omega) (by omega) (by
          have e : (bs'.set k ⟨hv, (brAt bs' k).long⟩).getD k (⟨0, 0⟩ : Br) = ⟨hv, (brAt bs' k).long⟩ := by
            rw [List.getD_eq_getElem?_getD, List.getElem?_set, if_pos rfl, if_pos (by omega)]; rfl
          rw [e]; rfl), List.set_set] at a2
        exact own_below a2 (Below.drew (Below.refl _ _))
      have HR2 : Hid (∃ bs2 : List Br, bs2.length = nb ∧ (∀ j, j < k + 1 → brAt bs2 j = brAt bs (tuF nb y j)) ∧ ((wr.setCell ⟨ga, k * 2, none⟩ (.int .i64 hv)).setCell ⟨ga, k * 2 + 1, none⟩ (.int .i64 lv)).drew.ownsRow w1.heap.size 60 2 (.slice (some ⟨ga, 0, none⟩) nb d1) nb (bs2.flatMap encB)) := Lib.hid ⟨_, by simp [E1.out], fun j hj => by
        rw [brAt_set1 (by rw [E1.out]; exact hlt)]
        split
        · rename_i e; subst e; rw [HTT.out]
          have := HV.out
          have := LV.out
          rw [← HTT.out, ← HV.out, ← LV.out]
        · exact E2.out j (by omega), hO2⟩
      have HK2 := Lib.hid (((HK.out).far (p := ⟨ga, k * 2, none⟩) (by show w2.heap.size ≠ ga; omega) (.int .i64 hv)).far (p := ⟨ga, k * 2 + 1, none⟩) (by show w2.heap.size ≠ ga; omega) (.int .i64 lv)).drew
      have HQ2 := Lib.hid (((HQ.out.far (p := ⟨ga, k * 2, none⟩) hgm (.int .i64 hv)).far (p := ⟨ga, k * 2 + 1, none⟩) hgm (.int .i64 lv)).later (Below.drew (Below.refl _ _)))
      have bn : Below X.heap.size X ((wr.setCell ⟨ga, k * 2, none⟩ (.int .i64 hv)).setCell ⟨ga, k * 2 + 1, none⟩ (.int .i64 lv)).drew := ((b5.setCell (show X.heap.size ≤ ga by omega) _).setCell (show X.heap.size ≤ ga by omega) _).drew
      clear hO2
      go_wp2_with fail
      go_roundw
      case rel => exact ⟨k + 1, by omega, by go_num, HK2, HR2, HQ2, bn, by simpa using zr⟩
      case measure => simp [intOf]; omega
    · obtain rfl : nb = k := by omega
      have hqB : decide (((nb : Nat) : Int) < nb) = false := by simp
      obtain ⟨bs', e1, e2, hO1⟩ := HR.out
      have HB' := Lib.hid hO1
      have E1 := Lib.hid e1
      have E2 := Lib.hid e2
      go_wp2_with fail
      clear hqB hk hlt HR hO1 e1 e2 c5_0 c5_1 HOY kb0 KY
      obtain ⟨wo, rfl⟩ : ∃ wo : World, wo = wr := ⟨_, rfl⟩
      go_loopw [9] (fun i (wr : World) => ∃ (q : Nat) (ms2 : List Pm) (ps2 : List Pc), q ≤ np ∧ i = .int .i64 q ∧ Hid (Blk wr w2.heap.size 25 #[.slice A1 nb d1, .int .i64 kf, .slice A2 np d2, .int .i64 wrg]) ∧ Hid (wr.ownsRow w1.heap.size 60 2 (.slice A1 nb d1) nb (bs'.flatMap encB)) ∧ Hid (OwnPs mid wr (.slice A2 np d2) np ms2 ps2) ∧ Hid (∀ j, j < q → pcAt ps2 (np - 1 - j) = pcAt ps j) ∧ Below X.heap.size X wr ∧ Y.heap.size ≤ wr.heap.size) (fun i _ => np - (intOf i).toNat)
      case atStart => exact ⟨0, _, _, by omega, rfl, HK, HB', HQ, Lib.hid (fun j hj => absurd hj (by omega)), b5, by omega⟩
      case round =>
        obtain ⟨q, ms2, ps2, hq, rfl, HK2, HB2, HQ2, HPE, b6, zr2⟩ := hrel
        have c6_0 := fun j => (b6.cell (p := ⟨w.heap.size, j, none⟩) n0).trans (P0.out j)
        have c6_1 := fun j => (b6.cell (p := ⟨w.heap.size + 1, j, none⟩) n1).trans (P1.out j)
        have z6 := b6.size
        by_cases hlq : q < np
        · have hqC : decide ((q : Int) < np) = true := by simp; omega
          have hQ1 := HQ2.out
          obtain ⟨ga, d1', e3, hga, hga'⟩ := hQ1.own.form (by omega)
          injection e3 with e3a e3b e3c
          subst e3a e3c
          have hgm : mid ≤ ga ∧ ga < w2.heap.size := NP1.out ga rfl
          obtain ⟨r, hr⟩ : ∃ r : Nat, r = np - 1 - q := ⟨_, rfl⟩
          have hrq : r < np := by omega
          have kc := HK2.out.cell 2
          have hs1 : IntKind.i64.wrap ((np : Int) - 1) = (np : Int) - 1 := IntWalk.i64_in _ (by omega)
          have hs2 : IntKind.i64.wrap ((np : Int) - 1 - (q : Int)) = (r : Int) := by
            rw [show (np : Int) - 1 - (q : Int) = (r : Int) by omega]
            exact IntWalk.i64_in _ (by omega)
          have i1 : decide ((r : Int) < np) = true := by simp; omega
          have m0 : w.heap.size < wr.heap.size := by omega
          have m1 : w2.heap.size < wr.heap.size := HK2.out.lt
          obtain ⟨ol, hol⟩ : ∃ v, (pmAt ms2 r).long = v := ⟨_, rfl⟩
          obtain ⟨oh, hoh⟩ : ∃ v, (pmAt ms2 r).h = v := ⟨_, rfl⟩
          have hml := hQ1.ml
          have q0 : wr.cell? ⟨ga, r * 2, none⟩ = some (.int .i64 ol) := (hQ1.own.cellAt (r * 2) (by omega)).trans ((flat_get (d := (⟨0, ⟨none, 0, 0⟩⟩ : Pm)) encP_len ms2 r 0 (by omega) (by omega)).trans (by rw [← hol]; rfl))
          have q1 : wr.cell? ⟨ga, r * 2 + 1, none⟩ = some (.slice oh.A oh.n oh.c) := (hQ1.own.cellAt (r * 2 + 1) (by omega)).trans ((flat_get (d := (⟨0, ⟨none, 0, 0⟩⟩ : Pm)) encP_len ms2 r 1 (by omega) (by omega)).trans (by rw [← hoh]; rfl))
          have ft0 := hQ1.own.frozenAt (r * 2)
          have ft1 := hQ1.own.frozenAt (r * 2 + 1)
          have F0 := Lib.hid (fun W' (h : Below wr.heap.size wr W') => (h.cell (p := ⟨ga, r * 2, none⟩) hga').trans q0)
          have F1 := Lib.hid (fun W' (h : Below wr.heap.size wr W') => (h.cell (p := ⟨ga, r * 2 + 1, none⟩) hga').trans q1)
          have F2 := Lib.hid (fun W' (h : Below wr.heap.size wr W') => (h.frozen (p := ⟨ga, r * 2, none⟩) hga').trans ft0)
          have F3 := Lib.hid (fun W' (h : Below wr.heap.size wr W') => (h.frozen (p := ⟨ga, r * 2 + 1, none⟩) hga').trans ft1)
          have HS : Hid (∀ W', Below wr.heap.size wr W' → (∀ i, W'.cell? ⟨w.heap.size, i, none⟩ = #[Value.slice Ab nb cb, .int .i64 kf, .slice Ap np cp, .int .i64 wrg][i]?) ∧ W'.cell? ⟨w2.heap.size, 2, none⟩ = some (.slice (some ⟨ga, 0, none⟩) np d2)) := Lib.hid fun W' h =>
            ⟨fun i => (h.cell (p := ⟨w.heap.size, i, none⟩) m0).trans (c6_0 i), (h.cell (p := ⟨w2.heap.size, 2, none⟩) m1).trans kc⟩
          have hS := HS.out wr.drew (by (repeat first | with_reducible assumption | with_reducible exact Below.refl _ _ | (with_reducible refine Below.alloc ?_ ?side _; case side => (first | omega | (with_reducible exact Below.size (by assumption)) | (simp; done) | (simp; omega))) | (with_reducible refine Below.setCell ?_ ?side _; case side => (first | omega | (with_reducible exact Below.size (by assumption)) | (simp; done) | (simp; omega))) | with_reducible refine Below.drew ?_ | with_reducible refine below_drewN ?_ _ | (with_reducible refine below_step (by assumption) ?side ?_; case side => (first | omega | (with_reducible exact Below.size (by assumption)) | (simp; done) | (simp; omega)))))
          have hbw : Below w.heap.size w wr := BX.trans (b6.mono zw)
          replace hr := Lib.hid hr
          go_upto_region 11 with (fail)
          clear q0 q1 ft0 ft1 kc hQ1 hol hoh c6_0 c6_1 e3b hml
          refine wp_region_L (by kernel_rfl) (fun W' => (∀ i, W'.cell? ⟨w.heap.size, i, none⟩ = #[Value.slice Ab nb cb, .int .i64 kf, .slice Ap np cp, .int .i64 wrg][i]?) ∧ W'.cell? ⟨w2.heap.size, 2, none⟩ = some (.slice (some ⟨ga, 0, none⟩) np d2)) 15 ?_
          refine wpAnyL_take (i := 0) (v := ?_) rfl (by kernel_rfl) (by kernel_rfl) (by kernel_rfl) (by kernel_rfl) (fun _ _ _ h => h) hS (Or.inl ⟨by rfl, ?_⟩) ?_
          rotate_left 1
          · intro w9 hw9
            obtain ⟨k0, k1⟩ := hw9
            go_simp
            try with_reducible rfl
          simp only [List.getElem_toArray, List.getElem_cons_zero, Act.put, List.setIfInBounds_toArray, List.set_cons_zero, List.set_cons_succ]
          refine wpAnyL_take (i := 1) (v := ?_) rfl (by kernel_rfl) (by kernel_rfl) (by kernel_rfl) (by kernel_rfl) (fun _ _ _ h => h) hS (Or.inl ⟨by rfl, ?_⟩) ?_
          rotate_left 1
          · intro w9 hw9
            obtain ⟨k0, k1⟩ := hw9
            go_simp
            try with_reducible rfl
          simp only [List.getElem_toArray, List.getElem_cons_zero, List.getElem_cons_succ, Act.put, List.setIfInBounds_toArray, List.set_cons_zero, List.set_cons_succ]
          refine wpAnyL_take (i := 2) (v := ?_) rfl (by kernel_rfl) (by kernel_rfl) (by kernel_rfl) (by kernel_rfl) (fun _ _ _ h => h) hS (Or.inl ⟨by rfl, ?_⟩) ?_
          rotate_left 1
          · intro w9 hw9
            obtain ⟨k0, k1⟩ := hw9
            go_simp
            try with_reducible rfl
          simp only [List.getElem_toArray, List.getElem_cons_zero, List.getElem_cons_succ, Act.put, List.setIfInBounds_toArray, List.set_cons_zero, List.set_cons_succ]
          refine wpAnyL_take (i := 3) (v := ?_) rfl (by kernel_rfl) (by kernel_rfl) (by kernel_rfl) (by kernel_rfl) (fun _ _ _ h => h) hS (Or.inl ⟨by rfl, ?_⟩) ?_
          rotate_left 1
          · intro w9 hw9
            obtain ⟨k0, k1⟩ := hw9
            go_simp
            try with_reducible rfl
          simp only [List.getElem_toArray, List.getElem_cons_zero, List.getElem_cons_succ, Act.put, List.setIfInBounds_toArray, List.set_cons_zero, List.set_cons_succ]
          refine wpAnyL_take (i := 4) (v := ?_) rfl (by kernel_rfl) (by kernel_rfl) (by kernel_rfl) (by kernel_rfl) (fun _ _ _ h => h) hS (Or.inl ⟨by rfl, ?_⟩) ?_
          rotate_left 1
          · intro w9 hw9
            obtain ⟨k0, k1⟩ := hw9
            go_simp
            try with_reducible rfl
          simp only [List.getElem_toArray, List.getElem_cons_zero, List.getElem_cons_succ, Act.put, List.setIfInBounds_toArray, List.set_cons_zero, List.set_cons_succ]
          refine wpAnyL_take (i := 5) (v := ?_) rfl (by kernel_rfl) (by kernel_rfl) (by kernel_rfl) (by kernel_rfl) (fun _ _ _ h => h) hS (Or.inl ⟨by rfl, ?_⟩) ?_
          rotate_left 1
          · intro w9 hw9
            obtain ⟨k0, k1⟩ := hw9
            go_simp
            try with_reducible rfl
          simp only [List.getElem_toArray, List.getElem_cons_zero, List.getElem_cons_succ, Act.put, List.setIfInBounds_toArray, List.set_cons_zero, List.set_cons_succ]
          refine wpAnyL_take (i := 6) (v := ?_) rfl (by kernel_rfl) (by kernel_rfl) (by kernel_rfl) (by kernel_rfl) (fun _ _ _ h => h) hS (Or.inl ⟨by rfl, ?_⟩) ?_
          rotate_left 1
          · intro w9 hw9
            obtain ⟨k0, k1⟩ := hw9
            go_simp
            try with_reducible rfl
          simp only [List.getElem_toArray, List.getElem_cons_zero, List.getElem_cons_succ, Act.put, List.setIfInBounds_toArray, List.set_cons_zero, List.set_cons_succ]
          refine wpAnyL_take (i := 7) (v := ?_) rfl (by kernel_rfl) (by kernel_rfl) (by kernel_rfl) (by kernel_rfl) (fun _ _ _ h => h) hS (Or.inl ⟨by rfl, ?_⟩) ?_
          rotate_left 1
          · intro w9 hw9
            obtain ⟨k0, k1⟩ := hw9
            go_simp
            try with_reducible rfl
          simp only [List.getElem_toArray, List.getElem_cons_zero, List.getElem_cons_succ, Act.put, List.setIfInBounds_toArray, List.set_cons_zero, List.set_cons_succ]
          refine wpAnyL_take (i := 8) (v := ?_) rfl (by kernel_rfl) (by kernel_rfl) (by kernel_rfl) (by kernel_rfl) (fun _ _ _ h => h) hS (Or.inl ⟨by rfl, ?_⟩) ?_
          rotate_left 1
          · intro w9 hw9
            obtain ⟨k0, k1⟩ := hw9
            go_simp
            try with_reducible rfl
          simp only [List.getElem_toArray, List.getElem_cons_zero, List.getElem_cons_succ, Act.put, List.setIfInBounds_toArray, List.set_cons_zero, List.set_cons_succ]
          refine wpAnyL_take (i := 11) (v := ?_) rfl (by kernel_rfl) (by kernel_rfl) (by kernel_rfl) (by kernel_rfl) (fun _ _ _ h => h) hS (Or.inl ⟨by rfl, ?_⟩) ?_
          rotate_left 1
          · intro w9 hw9
            obtain ⟨k0, k1⟩ := hw9
            go_simp
            try with_reducible rfl
          simp only [List.getElem_toArray, List.getElem_cons_zero, List.getElem_cons_succ, Act.put, List.setIfInBounds_toArray, List.set_cons_zero, List.set_cons_succ]
          refine wpAnyL_one (i := 9) (by kernel_rfl) rfl (fun K hK => ?_)
          go_simp
          go_at_call 16
          refine (Copy_c Ab Ap nb cb np cp kf wrg bs ms ps _ h1 h2 H3.out (HBI.out.later (hbw.trans (by have := hbw.size; (repeat first | with_reducible assumption | with_reducible exact Below.refl _ _ | (with_reducible refine Below.alloc ?_ ?side _; case side => (first | omega | (with_reducible exact Below.size (by assumption)) | (simp; done) | (simp; omega))) | (with_reducible refine Below.setCell ?_ ?side _; case side => (first | omega | (with_reducible exact Below.size (by assumption)) | (simp; done) | (simp; omega))) | with_reducible refine Below.drew ?_ | with_reducible refine below_drewN ?_ _ | (with_reducible refine below_step (by assumption) ?side ?_; case side => (first | omega | (with_reducible exact Below.size (by assumption)) | (simp; done) | (simp; omega))))))) (HPI.out.later (hbw.trans (by have := hbw.size; (repeat first | with_reducible assumption | with_reducible exact Below.refl _ _ | (with_reducible refine Below.alloc ?_ ?side _; case side => (first | omega | (with_reducible exact Below.size (by assumption)) | (simp; done) | (simp; omega))) | (with_reducible refine Below.setCell ?_ ?side _; case side => (first | omega | (with_reducible exact Below.size (by assumption)) | (simp; done) | (simp; omega))) | with_reducible refine Below.drew ?_ | with_reducible refine below_drewN ?_ _ | (with_reducible refine below_step (by assumption) ?side ?_; case side => (first | omega | (with_reducible exact Below.size (by assumption)) | (simp; done) | (simp; omega)))))))).mono ?_
          rintro e w7 ⟨B1, e1, B2, e2, ms3, mid3, rfl, hO3, hb7⟩
          have hb7' : Below wr.heap.size wr w7 := Below.trans (Below.drew (Below.refl _ _)) hb7
          have hS7 := HS.out w7 hb7'
          refine hK.out _ _ (fun _ => hS7) (fun hS' => ?_)
          clear hK K hS' hS hb7
          obtain ⟨-, hP7⟩ := hO3.st
          obtain ⟨gp, op, rfl, hgp, y0, y1, hI7⟩ := hP7.get hlq
          obtain ⟨nl, hnl⟩ : ∃ v, (pcAt ps q).long = v := ⟨_, rfl⟩
          obtain ⟨nh, hnh⟩ : ∃ v, (pmAt ms3 q).h = v := ⟨_, rfl⟩
          have hin7 := (hO3.pcs.inn q hlq).2
          have hm3 := hO3.le
          rw [hnl] at y0
          rw [hnh] at y1 hI7 hin7
          have HIN := Lib.hid hin7
          have HI7 := Lib.hid hI7
          have HNL := Lib.hid hnl
          have z7 := hb7'.size
          have hdz : (wr.drew).heap.size = wr.heap.size := rfl
          have hm3' : wr.heap.size ≤ mid3 := hm3
          have HM3 := Lib.hid hm3'
          clear hP7 hO3 hnl hnh hin7 hI7 hm3 hdz hm3'
          have f0 := F0.out w7 hb7'
          have f1 := F1.out w7 hb7'
          have f2 := F2.out w7 hb7'
          have f3 := F3.out w7 hb7'
          obtain ⟨sS1, sS2⟩ := hS7
          try simp only [List.getElem_toArray, List.getElem_cons_zero, List.getElem_cons_succ, Act.put, List.setIfInBounds_toArray, List.set_cons_zero, List.set_cons_succ]
          refine wpAnyL_one (i := 10) (by kernel_rfl) rfl (fun K hK => ?_)
          go_simp
          refine hK.out _ _ (fun _ => ⟨sS1, sS2⟩) (fun hS' => ?_)
          clear hK K hS'
          refine wpAnyL_one (i := 12) (by kernel_rfl) rfl (fun K hK => ?_)
          go_simp
          refine hK.out _ _ (fun _ => ⟨sS1, sS2⟩) (fun hS' => ?_)
          clear hK K hS'
          refine wpAnyL_one (i := 13) (by kernel_rfl) rfl (fun K hK => ?_)
          go_simp
          refine hK.out _ _ (fun _ => ⟨sS1, sS2⟩) (fun hS' => ?_)
          clear hK K hS'
          refine wpAnyL_one (i := 14) (by kernel_rfl) rfl (fun K hK => ?_)
          go_simp
          refine hK.out _ _ (fun _ => ⟨sS1, sS2⟩) (fun hS' => ?_)
          clear hK K hS'
          refine wpAnyL_one (i := 15) (by kernel_rfl) rfl (fun K hK => ?_)
          go_simp
          refine hK.out _ _ (fun h => absurd rfl h) (fun _ => ?_)
          refine wpAnyL_done (by kernel_rfl) ?_ _
          clear hK K f0 f1 f2 f3 sS1 sS2 y0 y1
          have HOQ := ((HQ2.out.later hb7')).setPc (p := r) (x := ⟨nl, nh⟩) (q := pcAt ps q) hrq HNL.out.symm HI7.out (fun a ha => ⟨by have := (HIN.out a ha).1; have := HM3.out; omega, by have := (HIN.out a ha).1; have := HM3.out; omega, (HIN.out a ha).2.2⟩)
          have HPE2 : Hid (∀ j, j < q + 1 → pcAt (ps2.set r (pcAt ps q)) (np - 1 - j) = pcAt ps j) := Lib.hid fun j hj => by
            have hpl2 := HQ2.out.pl
            have hrr := hr.out
            rw [pcAt_set (by omega)]
            split
            · rename_i e
              rw [show j = q by omega]
            · rename_i e
              exact HPE.out j (by omega)
          have HK3 := Lib.hid (((HK2.out.below hb7' HK2.out.lt).far (p := ⟨ga, r * 2, none⟩) (by show w2.heap.size ≠ ga; omega) (.int .i64 nl)).far (p := ⟨ga, r * 2 + 1, none⟩) (by show w2.heap.size ≠ ga; omega) (.slice nh.A nh.n nh.c))
          have HB3 := Lib.hid (own_set (p := ⟨ga, r * 2 + 1, none⟩) (u := .slice nh.A nh.n nh.c) (own_set (p := ⟨ga, r * 2, none⟩) (u := .int .i64 nl) (own_below HB2.out hb7') (fun g hg => by have := NB1.out g hg; show g ≠ ga; omega)) (fun g hg => by have := NB1.out g hg; show g ≠ ga; omega))
          have bn : Below X.heap.size X ((w7.setCell ⟨ga, r * 2, none⟩ (.int .i64 nl)).setCell ⟨ga, r * 2 + 1, none⟩ (.slice nh.A nh.n nh.c)) := (((b6.trans (hb7'.mono (by omega))).setCell (show X.heap.size ≤ ga by omega) _).setCell (show X.heap.size ≤ ga by omega) _)
          go_wp2_with fail
          go_roundw
          case rel => exact ⟨q + 1, _, _, by omega, by go_num, HK3, HB3, Lib.hid HOQ, HPE2, bn, by simp; omega⟩
          case measure => simp [intOf]; omega
        · obtain rfl : np = q := by omega
          have hqC : decide (((np : Nat) : Int) < np) = false := by simp
          have hTU : Turned bs ps y bs' ps2 := by
            have a1 := HBL.out
            have a2 := HPL.out
            have a3 := E1.out
            have a4 := HQ2.out.pl
            refine ⟨by omega, fun j hj => ?_, ?_⟩
            · rw [a1]; exact E2.out j (by omega)
            · refine List.ext_getElem (by simp; omega) fun j hj1 hj2 => ?_
              have e := HPE.out (np - 1 - j) (by omega)
              rw [show np - 1 - (np - 1 - j) = j by omega] at e
              have g1 : pcAt ps2 j = ps2[j] := by unfold pcAt; rw [List.getD_eq_getElem?_getD, List.getElem?_eq_getElem hj1]; rfl
              rw [← g1, e, List.getElem_reverse]
              have hlt : np - 1 - j < ps.length := by omega
              have g2 : pcAt ps (np - 1 - j) = ps[np - 1 - j] := by unfold pcAt; rw [List.getD_eq_getElem?_getD, List.getElem?_eq_getElem hlt]; rfl
              rw [g2]
              congr 1
              omega
          obtain ⟨A3, d3, e3, hP3⟩ := HQ2.out.at_
          cases e3
          have HPZ := Lib.hid hP3
          have HBZ : Hid (BrsAt wr A1 nb bs') := Lib.hid (sl_of_own encB_len HB2.out E1.out)
          have HTU := Lib.hid hTU
          have KZ := HK2
          go_wp2_with fail
          clear hTU hP3 hqC HPE HB2 HQ2 HK2 hlq hq E1 E2 HB' b5 HQ HK NB1 NB0 NP1 HO zr zr2 b1 b2 b4 z1 z2 z5 zY hmid hmid0 z12
          obtain ⟨Z, hZ⟩ : ∃ Z, wr = Z := ⟨_, rfl⟩
          rw [hZ] at HPZ HBZ KZ b6 c6_0 c6_1 z6 ⊢
          clear hZ
          have PZ := Lib.hid c6_0
          have PZ1 := Lib.hid c6_1
          have N0 : w.heap.size < Z.heap.size := by omega
          have N1 : w.heap.size + 1 < Z.heap.size := by omega
          have Ng : w2.heap.size < Z.heap.size := KZ.out.lt
          have zZ := b6.size
          have hw : ∀ V, Below Z.heap.size Z V → Below w.heap.size w V := fun V hV => BX.trans ((b6.trans (hV.mono zZ)).mono zw)
          have v0 := Below.refl Z.heap.size Z
          have hck := HCK.out
          have hck' := ck_turn HTU.out hck
          have h3' : ∀ k, k < np → (pcAt ps2 k).hs.length ≤ 40 := fun k hk => by
            rw [HTU.out.pr, pcAt_rev (by rw [HPL.out]; exact hk)]
            exact H3.out _ (by rw [HPL.out]; omega)
          have H3' := Lib.hid h3'
          have HW := Lib.hid hw
          have hm1 : ∀ V, Below Z.heap.size Z V → Calls Try.prog 17 #[.agg #[.slice Ab nb cb, .int .i64 kf, .slice Ap np cp, .int .i64 wrg]] V fun e V' => e = .returned (.tuple #[.int .i64 (manyR bs ps kf wrg), .int .i64 (askE bs ps kf wrg true)]) ∧ Below V.heap.size V V' := fun V hV =>
            many_c Ab Ap nb cb np cp kf wrg bs ms ps V h1 h2 H3.out (HBI.out.later (hw V hV)) (HPI.out.later (hw V hV))
          have hm2 : ∀ V, Below Z.heap.size Z V → Calls Try.prog 17 #[.agg #[.slice A1 nb d1, .int .i64 kf, .slice A2 np d2, .int .i64 wrg]] V fun e V' => e = .returned (.tuple #[.int .i64 (manyR bs ps kf wrg), .int .i64 (askE bs ps kf wrg true)]) ∧ Below V.heap.size V V' := fun V hV => by
            have := many_c A1 A2 nb d1 np d2 kf wrg bs' ms2 ps2 V h1 h2 h3' (HBZ.out.later hV) (HPZ.out.later hV)
            rw [many_turn HTU.out hck, ask_turn HTU.out hck] at this
            exact this
          have hf1 : ∀ V, Below Z.heap.size Z V → Calls Try.prog 35 #[.agg #[.slice Ab nb cb, .int .i64 kf, .slice Ap np cp, .int .i64 wrg]] V fun e V' => e = .returned (.tuple #[.int .i64 (fewP bs ps kf wrg).1, .int .i64 (fewP bs ps kf wrg).2]) ∧ Below V.heap.size V V' := fun V hV =>
            fewest_c Ab Ap nb cb np cp kf wrg bs ms ps V h1 h2 H3.out (HBI.out.later (hw V hV)) (HPI.out.later (hw V hV))
          have hf2 : ∀ V, Below Z.heap.size Z V → Calls Try.prog 35 #[.agg #[.slice A1 nb d1, .int .i64 kf, .slice A2 np d2, .int .i64 wrg]] V fun e V' => e = .returned (.tuple #[.int .i64 (fewP bs ps kf wrg).1, .int .i64 (fewP bs ps kf wrg).2]) ∧ Below V.heap.size V V' := fun V hV => by
            have := fewest_c A1 A2 nb d1 np d2 kf wrg bs' ms2 ps2 V h1 h2 h3' (HBZ.out.later hV) (HPZ.out.later hV)
            rw [few_turn HTU.out hck] at this
            exact this
          have hl1 : ∀ V, Below Z.heap.size Z V → Calls Try.prog 23 #[.agg #[.slice Ab nb cb, .int .i64 kf, .slice Ap np cp, .int .i64 wrg]] V fun e V' => e = .returned (.tuple #[.int .i64 (leastP bs ps kf wrg), .int .i64 (askE bs ps kf wrg true)]) ∧ Below V.heap.size V V' := fun V hV =>
            least_c Ab Ap nb cb np cp kf wrg bs ms ps V h1 h2 H3.out (HBI.out.later (hw V hV)) (HPI.out.later (hw V hV))
          have hl2 : ∀ V, Below Z.heap.size Z V → Calls Try.prog 23 #[.agg #[.slice A1 nb d1, .int .i64 kf, .slice A2 np d2, .int .i64 wrg]] V fun e V' => e = .returned (.tuple #[.int .i64 (leastP bs ps kf wrg), .int .i64 (askE bs ps kf wrg true)]) ∧ Below V.heap.size V V' := fun V hV => by
            have := least_c A1 A2 nb d1 np d2 kf wrg bs' ms2 ps2 V h1 h2 h3' (HBZ.out.later hV) (HPZ.out.later hV)
            rw [least_turn HTU.out hck, ask_turn HTU.out hck] at this
            exact this
          have ho1 : ∀ V, Below Z.heap.size Z V → Calls Try.prog 21 #[.agg #[.slice Ab nb cb, .int .i64 kf, .slice Ap np cp, .int .i64 wrg], .int .i64 xl] V fun e V' => e = .returned (.tuple #[.int .i64 (roomP bs ps kf wrg xl).1, .int .i64 (roomP bs ps kf wrg xl).2]) ∧ Below V.heap.size V V' := fun V hV =>
            room_c Ab Ap nb cb np cp kf wrg xl bs ms ps V h1 h2 H3.out (HBI.out.later (hw V hV)) (HPI.out.later (hw V hV))
          have ho2 : ∀ V, Below Z.heap.size Z V → Calls Try.prog 21 #[.agg #[.slice A1 nb d1, .int .i64 kf, .slice A2 np d2, .int .i64 wrg], .int .i64 xl] V fun e V' => e = .returned (.tuple #[.int .i64 (roomP bs ps kf wrg xl).1, .int .i64 (roomP bs ps kf wrg xl).2]) ∧ Below V.heap.size V V' := fun V hV => by
            have := room_c A1 A2 nb d1 np d2 kf wrg xl bs' ms2 ps2 V h1 h2 h3' (HBZ.out.later hV) (HPZ.out.later hV)
            rw [room_turn HTU.out hck] at this
            exact this
          have hip : Hid (∀ V x, Calls Try.prog 14 #[.agg #[.slice Ab nb cb, .int .i64 kf, .slice Ap np cp, .int .i64 wrg], .int .i64 x] V fun e V' => e = .returned (.bool (wi x 0 ((np : Int) - 1))) ∧ Below V.heap.size V V') := Lib.hid fun V x => IsPiece_c Ab Ap nb cb np cp kf wrg x V h2
          obtain ⟨mv, hmv⟩ : ∃ P, manyR bs ps kf wrg = P := ⟨_, rfl⟩
          obtain ⟨me, hme⟩ : ∃ P, askE bs ps kf wrg true = P := ⟨_, rfl⟩
          obtain ⟨fv, hfv⟩ : ∃ P, (fewP bs ps kf wrg).1 = P := ⟨_, rfl⟩
          obtain ⟨fe, hfe⟩ : ∃ P, (fewP bs ps kf wrg).2 = P := ⟨_, rfl⟩
          obtain ⟨lv, hlv⟩ : ∃ P, leastP bs ps kf wrg = P := ⟨_, rfl⟩
          obtain ⟨ov, hov⟩ : ∃ P, (roomP bs ps kf wrg xl).1 = P := ⟨_, rfl⟩
          obtain ⟨oe, hoe⟩ : ∃ P, (roomP bs ps kf wrg xl).2 = P := ⟨_, rfl⟩
          rw [hmv, hme] at hm1 hm2
          rw [hfv, hfe] at hf1 hf2
          rw [hlv, hme] at hl1 hl2
          rw [hov, hoe] at ho1 ho2
          replace hm1 := Lib.hid hm1
          replace hm2 := Lib.hid hm2
          replace hf1 := Lib.hid hf1
          replace hf2 := Lib.hid hf2
          replace hl1 := Lib.hid hl1
          replace hl2 := Lib.hid hl2
          replace ho1 := Lib.hid ho1
          replace ho2 := Lib.hid ho2
          have e0 : (mv != mv) = false := by simp
          have e1 : (me != me) = false := by simp
          have e2 : (fv != fv) = false := by simp
          have e3 : (fe != fe) = false := by simp
          have e4 : (lv != lv) = false := by simp
          have e5 : (ov != ov) = false := by simp
          have e6 : (oe != oe) = false := by simp
          have hs1 : IntKind.i64.wrap ((np : Int) - 1) = (np : Int) - 1 := IntWalk.i64_in _ (by omega)
          have hs3 : IntKind.i64.wrap ((nb : Int) - 1) = (nb : Int) - 1 := IntWalk.i64_in _ (by omega)
          clear hmv hme hfv hfe hlv hov hoe hw hck hck' h3' c6_0 c6_1 z6
          have c0_0 := fun j => (v0.cell (p := ⟨w.heap.size, j, none⟩) N0).trans (PZ.out j)
          have c0_1 := fun j => (v0.cell (p := ⟨w.heap.size + 1, j, none⟩) N1).trans (PZ1.out j)
          have c0_g := fun j => (v0.cell (p := ⟨w2.heap.size, j, none⟩) Ng).trans (KZ.out.cell j)
          have y0 := v0.size
          refine (hm1.out _ v0).mono ?_
          rintro e u1 ⟨rfl, hv1⟩
          have v1 : Below Z.heap.size Z u1 := v0.trans (hv1.mono y0)
          clear hv1 c0_0 c0_1 c0_g
          have c1_0 := fun j => (v1.cell (p := ⟨w.heap.size, j, none⟩) N0).trans (PZ.out j)
          have c1_1 := fun j => (v1.cell (p := ⟨w.heap.size + 1, j, none⟩) N1).trans (PZ1.out j)
          have c1_g := fun j => (v1.cell (p := ⟨w2.heap.size, j, none⟩) Ng).trans (KZ.out.cell j)
          have y1 := v1.size
          go_wp2_with fail
          refine (hm2.out _ v1).mono ?_
          rintro e u2 ⟨rfl, hv2⟩
          have v2 : Below Z.heap.size Z u2 := v1.trans (hv2.mono y1)
          clear hv2 c1_0 c1_1 c1_g
          have c2_0 := fun j => (v2.cell (p := ⟨w.heap.size, j, none⟩) N0).trans (PZ.out j)
          have c2_1 := fun j => (v2.cell (p := ⟨w.heap.size + 1, j, none⟩) N1).trans (PZ1.out j)
          have c2_g := fun j => (v2.cell (p := ⟨w2.heap.size, j, none⟩) Ng).trans (KZ.out.cell j)
          have y2 := v2.size
          go_wp2_with fail
          refine (hf1.out _ v2).mono ?_
          rintro e u3 ⟨rfl, hv3⟩
          have v3 : Below Z.heap.size Z u3 := v2.trans (hv3.mono y2)
          clear hv3 c2_0 c2_1 c2_g
          have c3_0 := fun j => (v3.cell (p := ⟨w.heap.size, j, none⟩) N0).trans (PZ.out j)
          have c3_1 := fun j => (v3.cell (p := ⟨w.heap.size + 1, j, none⟩) N1).trans (PZ1.out j)
          have c3_g := fun j => (v3.cell (p := ⟨w2.heap.size, j, none⟩) Ng).trans (KZ.out.cell j)
          have y3 := v3.size
          go_wp2_with fail
          refine (hf2.out _ v3).mono ?_
          rintro e u4 ⟨rfl, hv4⟩
          have v4 : Below Z.heap.size Z u4 := v3.trans (hv4.mono y3)
          clear hv4 c3_0 c3_1 c3_g
          have c4_0 := fun j => (v4.cell (p := ⟨w.heap.size, j, none⟩) N0).trans (PZ.out j)
          have c4_1 := fun j => (v4.cell (p := ⟨w.heap.size + 1, j, none⟩) N1).trans (PZ1.out j)
          have c4_g := fun j => (v4.cell (p := ⟨w2.heap.size, j, none⟩) Ng).trans (KZ.out.cell j)
          have y4 := v4.size
          go_wp2_with fail
          refine (hl1.out _ v4).mono ?_
          rintro e u5 ⟨rfl, hv5⟩
          have v5 : Below Z.heap.size Z u5 := v4.trans (hv5.mono y4)
          clear hv5 c4_0 c4_1 c4_g
          have c5_0 := fun j => (v5.cell (p := ⟨w.heap.size, j, none⟩) N0).trans (PZ.out j)
          have c5_1 := fun j => (v5.cell (p := ⟨w.heap.size + 1, j, none⟩) N1).trans (PZ1.out j)
          have c5_g := fun j => (v5.cell (p := ⟨w2.heap.size, j, none⟩) Ng).trans (KZ.out.cell j)
          have y5 := v5.size
          go_wp2_with fail
          refine (hl2.out _ v5).mono ?_
          rintro e u6 ⟨rfl, hv6⟩
          have v6 : Below Z.heap.size Z u6 := v5.trans (hv6.mono y5)
          clear hv6 c5_0 c5_1 c5_g
          have c6_0 := fun j => (v6.cell (p := ⟨w.heap.size, j, none⟩) N0).trans (PZ.out j)
          have c6_1 := fun j => (v6.cell (p := ⟨w.heap.size + 1, j, none⟩) N1).trans (PZ1.out j)
          have c6_g := fun j => (v6.cell (p := ⟨w2.heap.size, j, none⟩) Ng).trans (KZ.out.cell j)
          have y6 := v6.size
          go_wp2_with fail
          refine (ho1.out _ v6).mono ?_
          rintro e u7 ⟨rfl, hv7⟩
          have v7 : Below Z.heap.size Z u7 := v6.trans (hv7.mono y6)
          clear hv7 c6_0 c6_1 c6_g
          have c7_0 := fun j => (v7.cell (p := ⟨w.heap.size, j, none⟩) N0).trans (PZ.out j)
          have c7_1 := fun j => (v7.cell (p := ⟨w.heap.size + 1, j, none⟩) N1).trans (PZ1.out j)
          have c7_g := fun j => (v7.cell (p := ⟨w2.heap.size, j, none⟩) Ng).trans (KZ.out.cell j)
          have y7 := v7.size
          go_wp2_with fail
          refine (ho2.out _ v7).mono ?_
          rintro e u8 ⟨rfl, hv8⟩
          have v8 : Below Z.heap.size Z u8 := v7.trans (hv8.mono y7)
          clear hv8 c7_0 c7_1 c7_g
          have c8_0 := fun j => (v8.cell (p := ⟨w.heap.size, j, none⟩) N0).trans (PZ.out j)
          have c8_1 := fun j => (v8.cell (p := ⟨w.heap.size + 1, j, none⟩) N1).trans (PZ1.out j)
          have c8_g := fun j => (v8.cell (p := ⟨w2.heap.size, j, none⟩) Ng).trans (KZ.out.cell j)
          have y8 := v8.size
          go_wp2_with fail
          clear e0 e1 e2 e3 e4 e5 e6 hm1 hm2 hf1 hf2 hl1 hl2 ho1 ho2
          cases ea : wi xa 0 ((np : Int) - 1)
          · have hpA : ∀ V, Calls Try.prog 14 #[.agg #[.slice Ab nb cb, .int .i64 kf, .slice Ap np cp, .int .i64 wrg], .int .i64 xa] V fun e V' => e = .returned (.bool false) ∧ Below V.heap.size V V' := fun V => by have := hip.out V xa; rw [ea] at this; exact this
            replace hpA := Lib.hid hpA
            clear ea hip
            refine (hpA.out _).mono ?_
            rintro e u9 ⟨rfl, hv9⟩
            have v9 : Below Z.heap.size Z u9 := v8.trans (hv9.mono y8)
            clear hv9 c8_0 c8_1 c8_g
            have c9_0 := fun j => (v9.cell (p := ⟨w.heap.size, j, none⟩) N0).trans (PZ.out j)
            have c9_1 := fun j => (v9.cell (p := ⟨w.heap.size + 1, j, none⟩) N1).trans (PZ1.out j)
            have c9_g := fun j => (v9.cell (p := ⟨w2.heap.size, j, none⟩) Ng).trans (KZ.out.cell j)
            have y9 := v9.size
            cases eb : wi xr 0 ((nb : Int) - 1)
            · have hwi : ∀ V, Calls Try.prog 34 #[.int .i64 xr, .int .i64 0, .int .i64 ((nb : Int) - 1)] V fun e V' => e = .returned (.bool false) ∧ V = V' := fun V => by have := Within1_c xr 0 ((nb : Int) - 1) V; rw [eb] at this; exact this
              replace hwi := Lib.hid hwi
              clear eb
              go_wp2_with (go_at_call 34; refine (hwi.out _).mono ?_; rintro e w' ⟨rfl, rfl⟩)
              refine (hwk.out _).mono ?_
              rintro e w99 ⟨rfl, hb99⟩
              go_wp2
              go_ret
              exact ⟨rfl, BX.trans (Below.mono (b6.trans ((v9.trans (hb99.mono y9)).mono zZ)) zw)⟩
            have hwi : ∀ V, Calls Try.prog 34 #[.int .i64 xr, .int .i64 0, .int .i64 ((nb : Int) - 1)] V fun e V' => e = .returned (.bool true) ∧ V = V' := fun V => by have := Within1_c xr 0 ((nb : Int) - 1) V; rw [eb] at this; exact this
            replace hwi := Lib.hid hwi
            have rb := wi_true.1 eb
            obtain ⟨b, rfl⟩ := Int.eq_ofNat_of_zero_le rb.1
            have hb : b < nb := by omega
            have hrt := rest_turn HTU.out HCK.out (show b < bs.length by rw [HBL.out]; exact hb)
            rw [HBL.out] at hrt
            have htl : tuF nb y b < nb := tuF_lt (by omega)
            have hr2 : ∀ V, Below Z.heap.size Z V → Calls Try.prog 31 #[.agg #[.slice A1 nb d1, .int .i64 kf, .slice A2 np d2, .int .i64 wrg], .int .i64 b] V fun e V' => e = .returned (.tuple #[.agg #[.int .i64 (restP bs ps kf wrg ((tuF nb y b : Nat) : Int)).1.lo, .int .i64 (restP bs ps kf wrg ((tuF nb y b : Nat) : Int)).1.hi], .int .i64 (restP bs ps kf wrg ((tuF nb y b : Nat) : Int)).2]) ∧ Below V.heap.size V V' := fun V hV => by
              have := rest_c A1 A2 nb d1 np d2 kf wrg b bs' ms2 ps2 V h1 h2 H3'.out (HBZ.out.later hV) (HPZ.out.later hV)
              rw [hrt] at this
              exact this
            have hr1 : ∀ V, Below Z.heap.size Z V → Calls Try.prog 31 #[.agg #[.slice Ab nb cb, .int .i64 kf, .slice Ap np cp, .int .i64 wrg], .int .i64 (tuF nb y b : Nat)] V fun e V' => e = .returned (.tuple #[.agg #[.int .i64 (restP bs ps kf wrg ((tuF nb y b : Nat) : Int)).1.lo, .int .i64 (restP bs ps kf wrg ((tuF nb y b : Nat) : Int)).1.hi], .int .i64 (restP bs ps kf wrg ((tuF nb y b : Nat) : Int)).2]) ∧ Below V.heap.size V V' := fun V hV =>
              rest_c Ab Ap nb cb np cp kf wrg _ bs ms ps V h1 h2 H3.out (HBI.out.later (HW.out V hV)) (HPI.out.later (HW.out V hV))
            obtain ⟨rl, hrl⟩ : ∃ P, (restP bs ps kf wrg ((tuF nb y b : Nat) : Int)).1.lo = P := ⟨_, rfl⟩
            obtain ⟨rh, hrh⟩ : ∃ P, (restP bs ps kf wrg ((tuF nb y b : Nat) : Int)).1.hi = P := ⟨_, rfl⟩
            obtain ⟨re, hre⟩ : ∃ P, (restP bs ps kf wrg ((tuF nb y b : Nat) : Int)).2 = P := ⟨_, rfl⟩
            rw [hrl, hrh, hre] at hr1 hr2
            have htm : Int.tmod ((b : Int) + (y : Int)) (nb : Int) = (tuF nb y b : Nat) := by
              rw [show (b : Int) + (y : Int) = ((b + y : Nat) : Int) from rfl]
              rfl
            obtain ⟨t, ht⟩ : ∃ t, tuF nb y b = t := ⟨_, rfl⟩
            rw [ht] at hr1 htm htl
            have hsw : IntKind.i64.wrap ((b : Int) + (y : Int)) = (b : Int) + (y : Int) := IntWalk.i64_in _ (by omega)
            have hst : IntKind.i64.wrap (t : Int) = (t : Int) := IntWalk.i64_in _ (by omega)
            have zn : ¬ nb = 0 := by omega
            have k2 : (rl == rl) = true := by simp
            have k3 : (rh == rh) = true := by simp
            have k4 : (re == re) = true := by simp
            replace hr1 := Lib.hid hr1
            replace hr2 := Lib.hid hr2
            clear hrl hrh hre ht hrt eb rb htl
            go_wp2_with (go_at_call 34; refine (hwi.out _).mono ?_; rintro e w' ⟨rfl, rfl⟩)
            refine (hr2.out _ v9).mono ?_
            rintro e u10 ⟨rfl, hv10⟩
            have v10 : Below Z.heap.size Z u10 := v9.trans (hv10.mono y9)
            clear hv10 c9_0 c9_1 c9_g
            have c10_0 := fun j => (v10.cell (p := ⟨w.heap.size, j, none⟩) N0).trans (PZ.out j)
            have c10_1 := fun j => (v10.cell (p := ⟨w.heap.size + 1, j, none⟩) N1).trans (PZ1.out j)
            have c10_g := fun j => (v10.cell (p := ⟨w2.heap.size, j, none⟩) Ng).trans (KZ.out.cell j)
            have y10 := v10.size
            go_upto_region 33 with (fail)
            go_name_world Z3 hZ3
            have K3 : Hid (Blk Z3 u10.heap.size 52 #[.int .i64 rl, .int .i64 rh]) := Lib.hid (by rw [← hZ3]; exact Blk.new u10 _ _)
            have hb3 : Below u10.heap.size u10 Z3 := (al1 hZ3).1
            have v33 : Below Z.heap.size Z Z3 := v10.trans (hb3.mono y10)
            have y33 := v33.size
            clear hb3 hZ3 c10_0 c10_1 c10_g hwi
            have HSS : Hid (∀ W', Below Z3.heap.size Z3 W' → (∀ i, W'.cell? ⟨w.heap.size, i, none⟩ = #[Value.slice Ab nb cb, .int .i64 kf, .slice Ap np cp, .int .i64 wrg][i]?) ∧ (∀ i, W'.cell? ⟨w.heap.size + 1, i, none⟩ = #[Value.int .i64 xa, .int .i64 xb, .int .i64 b, .int .i64 xl][i]?)) := Lib.hid fun W' h =>
              have hv := v33.trans (h.mono y33)
              ⟨fun i => (hv.cell (p := ⟨w.heap.size, i, none⟩) N0).trans (PZ.out i), fun i => (hv.cell (p := ⟨w.heap.size + 1, i, none⟩) N1).trans (PZ1.out i)⟩
            have hS := HSS.out Z3.drew (by (repeat first | with_reducible assumption | with_reducible exact Below.refl _ _ | (with_reducible refine Below.alloc ?_ ?side _; case side => (first | omega | (with_reducible exact Below.size (by assumption)) | (simp; done) | (simp; omega))) | (with_reducible refine Below.setCell ?_ ?side _; case side => (first | omega | (with_reducible exact Below.size (by assumption)) | (simp; done) | (simp; omega))) | with_reducible refine Below.drew ?_ | with_reducible refine below_drewN ?_ _ | (with_reducible refine below_step (by assumption) ?side ?_; case side => (first | omega | (with_reducible exact Below.size (by assumption)) | (simp; done) | (simp; omega)))))
            refine wp_region_L (by kernel_rfl) (fun W' => (∀ i, W'.cell? ⟨w.heap.size, i, none⟩ = #[Value.slice Ab nb cb, .int .i64 kf, .slice Ap np cp, .int .i64 wrg][i]?) ∧ (∀ i, W'.cell? ⟨w.heap.size + 1, i, none⟩ = #[Value.int .i64 xa, .int .i64 xb, .int .i64 b, .int .i64 xl][i]?)) 15 ?_
            refine wpAnyL_take (i := 0) (v := ?_) rfl (by kernel_rfl) (by kernel_rfl) (by kernel_rfl) (by kernel_rfl) (fun _ _ _ h => h) hS (Or.inl ⟨by rfl, ?_⟩) ?_
            rotate_left 1
            · intro w9 hw9
              obtain ⟨k0, k1⟩ := hw9
              go_simp
              try with_reducible rfl
            simp only [List.getElem_toArray, List.getElem_cons_zero, Act.put, List.setIfInBounds_toArray, List.set_cons_zero, List.set_cons_succ]
            refine wpAnyL_take (i := 1) (v := ?_) rfl (by kernel_rfl) (by kernel_rfl) (by kernel_rfl) (by kernel_rfl) (fun _ _ _ h => h) hS (Or.inl ⟨by rfl, ?_⟩) ?_
            rotate_left 1
            · intro w9 hw9
              obtain ⟨k0, k1⟩ := hw9
              go_simp
              try with_reducible rfl
            simp only [List.getElem_toArray, List.getElem_cons_zero, List.getElem_cons_succ, Act.put, List.setIfInBounds_toArray, List.set_cons_zero, List.set_cons_succ]
            refine wpAnyL_take (i := 2) (v := ?_) rfl (by kernel_rfl) (by kernel_rfl) (by kernel_rfl) (by kernel_rfl) (fun _ _ _ h => h) hS (Or.inl ⟨by rfl, ?_⟩) ?_
            rotate_left 1
            · intro w9 hw9
              obtain ⟨k0, k1⟩ := hw9
              go_simp
              try with_reducible rfl
            simp only [List.getElem_toArray, List.getElem_cons_zero, List.getElem_cons_succ, Act.put, List.setIfInBounds_toArray, List.set_cons_zero, List.set_cons_succ]
            refine wpAnyL_take (i := 3) (v := ?_) rfl (by kernel_rfl) (by kernel_rfl) (by kernel_rfl) (by kernel_rfl) (fun _ _ _ h => h) hS (Or.inl ⟨by rfl, ?_⟩) ?_
            rotate_left 1
            · intro w9 hw9
              obtain ⟨k0, k1⟩ := hw9
              go_simp
              try with_reducible rfl
            simp only [List.getElem_toArray, List.getElem_cons_zero, List.getElem_cons_succ, Act.put, List.setIfInBounds_toArray, List.set_cons_zero, List.set_cons_succ]
            refine wpAnyL_take (i := 4) (v := ?_) rfl (by kernel_rfl) (by kernel_rfl) (by kernel_rfl) (by kernel_rfl) (fun _ _ _ h => h) hS (Or.inl ⟨by rfl, ?_⟩) ?_
            rotate_left 1
            · intro w9 hw9
              obtain ⟨k0, k1⟩ := hw9
              go_simp
              try with_reducible rfl
            simp only [List.getElem_toArray, List.getElem_cons_zero, List.getElem_cons_succ, Act.put, List.setIfInBounds_toArray, List.set_cons_zero, List.set_cons_succ]
            refine wpAnyL_take (i := 5) (v := ?_) rfl (by kernel_rfl) (by kernel_rfl) (by kernel_rfl) (by kernel_rfl) (fun _ _ _ h => h) hS (Or.inl ⟨by rfl, ?_⟩) ?_
            rotate_left 1
            · intro w9 hw9
              obtain ⟨k0, k1⟩ := hw9
              go_simp
              try with_reducible rfl
            simp only [List.getElem_toArray, List.getElem_cons_zero, List.getElem_cons_succ, Act.put, List.setIfInBounds_toArray, List.set_cons_zero, List.set_cons_succ]
            refine wpAnyL_take (i := 6) (v := ?_) rfl (by kernel_rfl) (by kernel_rfl) (by kernel_rfl) (by kernel_rfl) (fun _ _ _ h => h) hS (Or.inl ⟨by rfl, ?_⟩) ?_
            rotate_left 1
            · intro w9 hw9
              obtain ⟨k0, k1⟩ := hw9
              go_simp
              try with_reducible rfl
            simp only [List.getElem_toArray, List.getElem_cons_zero, List.getElem_cons_succ, Act.put, List.setIfInBounds_toArray, List.set_cons_zero, List.set_cons_succ]
            refine wpAnyL_take (i := 7) (v := ?_) rfl (by kernel_rfl) (by kernel_rfl) (by kernel_rfl) (by kernel_rfl) (fun _ _ _ h => h) hS (Or.inl ⟨by rfl, ?_⟩) ?_
            rotate_left 1
            · intro w9 hw9
              obtain ⟨k0, k1⟩ := hw9
              go_simp
              try with_reducible rfl
            simp only [List.getElem_toArray, List.getElem_cons_zero, List.getElem_cons_succ, Act.put, List.setIfInBounds_toArray, List.set_cons_zero, List.set_cons_succ]
            refine wpAnyL_take (i := 8) (v := ?_) rfl (by kernel_rfl) (by kernel_rfl) (by kernel_rfl) (by kernel_rfl) (fun _ _ _ h => h) hS (Or.inl ⟨by rfl, ?_⟩) ?_
            rotate_left 1
            · intro w9 hw9
              obtain ⟨k0, k1⟩ := hw9
              go_simp
              try with_reducible rfl
            simp only [List.getElem_toArray, List.getElem_cons_zero, List.getElem_cons_succ, Act.put, List.setIfInBounds_toArray, List.set_cons_zero, List.set_cons_succ]
            refine wpAnyL_two (i := 9) (j := 13) (by kernel_rfl) rfl rfl (fun K hK => ?_) (fun K hK => ?_)
            · go_simp
              go_at_call 31
              refine (hr1.out _ (v33.trans (Below.drew (Below.refl _ _)))).mono ?_
              rintro e w34 ⟨rfl, hb34⟩
              have hb34' : Below Z3.heap.size Z3 w34 := Below.trans (Below.drew (Below.refl _ _)) hb34
              have y34 := hb34'.size
              refine hK.out _ _ (fun _ => HSS.out w34 hb34') (fun hS' => ?_)
              clear hK K hS' hS hb34
              have hS := HSS.out w34 hb34'
              try simp only [List.getElem_toArray, List.getElem_cons_zero, List.getElem_cons_succ, Act.put, List.setIfInBounds_toArray, List.set_cons_zero, List.set_cons_succ]
              refine wpAnyL_take (i := 10) (v := ?_) rfl (by kernel_rfl) (by kernel_rfl) (by kernel_rfl) (by kernel_rfl) (fun _ _ _ h => h) hS (Or.inl ⟨by rfl, ?_⟩) ?_
              rotate_left 1
              · intro w9 hw9
                obtain ⟨k0, k1⟩ := hw9
                go_simp
                try with_reducible rfl
              simp only [List.getElem_toArray, List.getElem_cons_zero, List.getElem_cons_succ, Act.put, List.setIfInBounds_toArray, List.set_cons_zero, List.set_cons_succ]
              refine wpAnyL_take (i := 11) (v := ?_) rfl (by kernel_rfl) (by kernel_rfl) (by kernel_rfl) (by kernel_rfl) (fun _ _ _ h => h) hS (Or.inl ⟨by rfl, ?_⟩) ?_
              rotate_left 1
              · intro w9 hw9
                obtain ⟨k0, k1⟩ := hw9
                go_simp
                try with_reducible rfl
              simp only [List.getElem_toArray, List.getElem_cons_zero, List.getElem_cons_succ, Act.put, List.setIfInBounds_toArray, List.set_cons_zero, List.set_cons_succ]
              refine wpAnyL_take (i := 12) (v := ?_) rfl (by kernel_rfl) (by kernel_rfl) (by kernel_rfl) (by kernel_rfl) (fun _ _ _ h => h) hS (Or.inl ⟨by rfl, ?_⟩) ?_
              rotate_left 1
              · intro w9 hw9
                obtain ⟨k0, k1⟩ := hw9
                go_simp
                try with_reducible rfl
              simp only [List.getElem_toArray, List.getElem_cons_zero, List.getElem_cons_succ, Act.put, List.setIfInBounds_toArray, List.set_cons_zero, List.set_cons_succ]
              refine wpAnyL_one (i := 13) (by kernel_rfl) rfl (fun K hK => ?_)
              go_simp
              refine hK.out _ _ (fun _ => HSS.out _ (by (repeat first | with_reducible assumption | with_reducible exact Below.refl _ _ | (with_reducible refine Below.alloc ?_ ?side _; case side => (first | omega | (with_reducible exact Below.size (by assumption)) | (simp; done) | (simp; omega))) | (with_reducible refine Below.setCell ?_ ?side _; case side => (first | omega | (with_reducible exact Below.size (by assumption)) | (simp; done) | (simp; omega))) | with_reducible refine Below.drew ?_ | with_reducible refine below_drewN ?_ _ | (with_reducible refine below_step (by assumption) ?side ?_; case side => (first | omega | (with_reducible exact Below.size (by assumption)) | (simp; done) | (simp; omega)))))) (fun hS' => ?_)
              clear hK K hS' hS
              try simp only [List.getElem_toArray, List.getElem_cons_zero, List.getElem_cons_succ, Act.put, List.setIfInBounds_toArray, List.set_cons_zero, List.set_cons_succ]
              refine wpAnyL_one (i := 14) (by kernel_rfl) rfl (fun K hK => ?_)
              go_simp
              refine hK.out _ _ (fun _ => HSS.out _ (by (repeat first | with_reducible assumption | with_reducible exact Below.refl _ _ | (with_reducible refine Below.alloc ?_ ?side _; case side => (first | omega | (with_reducible exact Below.size (by assumption)) | (simp; done) | (simp; omega))) | (with_reducible refine Below.setCell ?_ ?side _; case side => (first | omega | (with_reducible exact Below.size (by assumption)) | (simp; done) | (simp; omega))) | with_reducible refine Below.drew ?_ | with_reducible refine below_drewN ?_ _ | (with_reducible refine below_step (by assumption) ?side ?_; case side => (first | omega | (with_reducible exact Below.size (by assumption)) | (simp; done) | (simp; omega)))))) (fun hS' => ?_)
              clear hK K hS'
              refine wpAnyL_one (i := 15) (by kernel_rfl) rfl (fun K hK => ?_)
              go_simp
              refine hK.out _ _ (fun h => absurd rfl h) (fun _ => ?_)
              refine wpAnyL_done (by kernel_rfl) ?_ _
              clear hK K
              go_upto_region 34 with (fail)
              go_name_world Z4 hZ4
              have KT : Hid (Blk Z4 w34.heap.size 52 #[.int .i64 rl, .int .i64 rh]) := Lib.hid (by rw [← hZ4]; exact Blk.new w34 _ _)
              have hb4 : Below Z3.heap.size Z3 Z4 := by rw [← hZ4]; exact hb34'.alloc y34 _
              have ks := (K3.out.below hb4 K3.out.lt).cell
              have kt := KT.out.cell
              clear hZ4
              go_wp2_with fail
              refine (hwk.out _).mono ?_
              rintro e w99 ⟨rfl, hb99⟩
              go_wp2
              go_ret
              exact ⟨rfl, BX.trans (Below.mono (b6.trans (((v33.trans (hb4.mono y33)).trans (hb99.mono (v33.trans (hb4.mono y33)).size)).mono zZ)) zw)⟩
            · go_simp
              refine hK.out _ _ (fun _ => HSS.out _ (by (repeat first | with_reducible assumption | with_reducible exact Below.refl _ _ | (with_reducible refine Below.alloc ?_ ?side _; case side => (first | omega | (with_reducible exact Below.size (by assumption)) | (simp; done) | (simp; omega))) | (with_reducible refine Below.setCell ?_ ?side _; case side => (first | omega | (with_reducible exact Below.size (by assumption)) | (simp; done) | (simp; omega))) | with_reducible refine Below.drew ?_ | with_reducible refine below_drewN ?_ _ | (with_reducible refine below_step (by assumption) ?side ?_; case side => (first | omega | (with_reducible exact Below.size (by assumption)) | (simp; done) | (simp; omega)))))) (fun hS' => ?_)
              clear hK K hS' hS
              try simp only [List.getElem_toArray, List.getElem_cons_zero, List.getElem_cons_succ, Act.put, List.setIfInBounds_toArray, List.set_cons_zero, List.set_cons_succ]
              refine wpAnyL_one (i := 9) (by kernel_rfl) rfl (fun K hK => ?_)
              go_simp
              go_at_call 31
              refine (hr1.out _ (v33.trans (Below.alloc (Below.drew (Below.refl _ _)) (by simp; omega) _))).mono ?_
              rintro e w34 ⟨rfl, hb34⟩
              have K34 : Hid (Blk w34 Z3.heap.size 52 #[.int .i64 0, .int .i64 0]) := Lib.hid ((Blk.new Z3.drew 52 #[.int .i64 0, .int .i64 0]).below hb34 (by simp))
              have hb34' : Below Z3.heap.size Z3 w34 := Below.trans (Below.alloc (Below.drew (Below.refl _ _)) (Nat.le_refl _) _) (hb34.mono (by simp))
              have y34 := hb34'.size
              refine hK.out _ _ (fun _ => HSS.out w34 hb34') (fun hS' => ?_)
              clear hK K hS' hb34
              have hS := HSS.out w34 hb34'
              try simp only [List.getElem_toArray, List.getElem_cons_zero, List.getElem_cons_succ, Act.put, List.setIfInBounds_toArray, List.set_cons_zero, List.set_cons_succ]
              refine wpAnyL_take (i := 10) (v := ?_) rfl (by kernel_rfl) (by kernel_rfl) (by kernel_rfl) (by kernel_rfl) (fun _ _ _ h => h) hS (Or.inl ⟨by rfl, ?_⟩) ?_
              rotate_left 1
              · intro w9 hw9
                obtain ⟨k0, k1⟩ := hw9
                go_simp
                try with_reducible rfl
              simp only [List.getElem_toArray, List.getElem_cons_zero, List.getElem_cons_succ, Act.put, List.setIfInBounds_toArray, List.set_cons_zero, List.set_cons_succ]
              refine wpAnyL_take (i := 11) (v := ?_) rfl (by kernel_rfl) (by kernel_rfl) (by kernel_rfl) (by kernel_rfl) (fun _ _ _ h => h) hS (Or.inl ⟨by rfl, ?_⟩) ?_
              rotate_left 1
              · intro w9 hw9
                obtain ⟨k0, k1⟩ := hw9
                go_simp
                try with_reducible rfl
              simp only [List.getElem_toArray, List.getElem_cons_zero, List.getElem_cons_succ, Act.put, List.setIfInBounds_toArray, List.set_cons_zero, List.set_cons_succ]
              refine wpAnyL_take (i := 12) (v := ?_) rfl (by kernel_rfl) (by kernel_rfl) (by kernel_rfl) (by kernel_rfl) (fun _ _ _ h => h) hS (Or.inl ⟨by rfl, ?_⟩) ?_
              rotate_left 1
              · intro w9 hw9
                obtain ⟨k0, k1⟩ := hw9
                go_simp
                try with_reducible rfl
              simp only [List.getElem_toArray, List.getElem_cons_zero, List.getElem_cons_succ, Act.put, List.setIfInBounds_toArray, List.set_cons_zero, List.set_cons_succ]
              have kk := K34.out.cell
              have kf' := K34.out.frozen
              refine wpAnyL_one (i := 14) (by kernel_rfl) rfl (fun K hK => ?_)
              go_simp
              refine hK.out _ _ (fun _ => HSS.out _ (by (repeat first | with_reducible assumption | with_reducible exact Below.refl _ _ | (with_reducible refine Below.alloc ?_ ?side _; case side => (first | omega | (with_reducible exact Below.size (by assumption)) | (simp; done) | (simp; omega))) | (with_reducible refine Below.setCell ?_ ?side _; case side => (first | omega | (with_reducible exact Below.size (by assumption)) | (simp; done) | (simp; omega))) | with_reducible refine Below.drew ?_ | with_reducible refine below_drewN ?_ _ | (with_reducible refine below_step (by assumption) ?side ?_; case side => (first | omega | (with_reducible exact Below.size (by assumption)) | (simp; done) | (simp; omega)))))) (fun hS' => ?_)
              clear hK K hS'
              refine wpAnyL_one (i := 15) (by kernel_rfl) rfl (fun K hK => ?_)
              go_simp
              refine hK.out _ _ (fun h => absurd rfl h) (fun _ => ?_)
              refine wpAnyL_done (by kernel_rfl) ?_ _
              clear hK K
              go_upto_region 34 with (fail)
              go_name_world Z4 hZ4
              have KT : Hid (Blk Z4 Z3.heap.size 52 #[.int .i64 rl, .int .i64 rh]) := Lib.hid (by rw [← hZ4]; have h := (K34.out.set_ 0 (.int .i64 rl)).set_ 1 (.int .i64 rh); simpa using h)
              have hb4 : Below Z3.heap.size Z3 Z4 := by rw [← hZ4]; exact ((hb34'.setCell (Nat.le_refl _) _).setCell (Nat.le_refl _) _)
              have ks := (K3.out.below hb4 K3.out.lt).cell
              have kt := KT.out.cell
              clear hZ4 kk kf'
              go_wp2_with fail
              refine (hwk.out _).mono ?_
              rintro e w99 ⟨rfl, hb99⟩
              go_wp2
              go_ret
              exact ⟨rfl, BX.trans (Below.mono (b6.trans (((v33.trans (hb4.mono y33)).trans (hb99.mono (v33.trans (hb4.mono y33)).size)).mono zZ)) zw)⟩
          · have hpA : ∀ V, Calls Try.prog 14 #[.agg #[.slice Ab nb cb, .int .i64 kf, .slice Ap np cp, .int .i64 wrg], .int .i64 xa] V fun e V' => e = .returned (.bool true) ∧ Below V.heap.size V V' := fun V => by have := hip.out V xa; rw [ea] at this; exact this
            replace hpA := Lib.hid hpA
            refine (hpA.out _).mono ?_
            rintro e u9 ⟨rfl, hv9⟩
            have v9 : Below Z.heap.size Z u9 := v8.trans (hv9.mono y8)
            clear hv9 c8_0 c8_1 c8_g
            have c9_0 := fun j => (v9.cell (p := ⟨w.heap.size, j, none⟩) N0).trans (PZ.out j)
            have c9_1 := fun j => (v9.cell (p := ⟨w.heap.size + 1, j, none⟩) N1).trans (PZ1.out j)
            have c9_g := fun j => (v9.cell (p := ⟨w2.heap.size, j, none⟩) Ng).trans (KZ.out.cell j)
            have y9 := v9.size
            go_wp2_with fail
            cases eb : wi xb 0 ((np : Int) - 1)
            · have hpB : ∀ V, Calls Try.prog 14 #[.agg #[.slice Ab nb cb, .int .i64 kf, .slice Ap np cp, .int .i64 wrg], .int .i64 xb] V fun e V' => e = .returned (.bool false) ∧ Below V.heap.size V V' := fun V => by have := hip.out V xb; rw [eb] at this; exact this
              replace hpB := Lib.hid hpB
              clear ea eb hip hpA
              refine (hpB.out _).mono ?_
              rintro e u10 ⟨rfl, hv10⟩
              have v10 : Below Z.heap.size Z u10 := v9.trans (hv10.mono y9)
              clear hv10 c9_0 c9_1 c9_g
              have c10_0 := fun j => (v10.cell (p := ⟨w.heap.size, j, none⟩) N0).trans (PZ.out j)
              have c10_1 := fun j => (v10.cell (p := ⟨w.heap.size + 1, j, none⟩) N1).trans (PZ1.out j)
              have c10_g := fun j => (v10.cell (p := ⟨w2.heap.size, j, none⟩) Ng).trans (KZ.out.cell j)
              have y10 := v10.size
              cases eb : wi xr 0 ((nb : Int) - 1)
              · have hwi : ∀ V, Calls Try.prog 34 #[.int .i64 xr, .int .i64 0, .int .i64 ((nb : Int) - 1)] V fun e V' => e = .returned (.bool false) ∧ V = V' := fun V => by have := Within1_c xr 0 ((nb : Int) - 1) V; rw [eb] at this; exact this
                replace hwi := Lib.hid hwi
                clear eb
                go_wp2_with (go_at_call 34; refine (hwi.out _).mono ?_; rintro e w' ⟨rfl, rfl⟩)
                refine (hwk.out _).mono ?_
                rintro e w99 ⟨rfl, hb99⟩
                go_wp2
                go_ret
                exact ⟨rfl, BX.trans (Below.mono (b6.trans ((v10.trans (hb99.mono y10)).mono zZ)) zw)⟩
              have hwi : ∀ V, Calls Try.prog 34 #[.int .i64 xr, .int .i64 0, .int .i64 ((nb : Int) - 1)] V fun e V' => e = .returned (.bool true) ∧ V = V' := fun V => by have := Within1_c xr 0 ((nb : Int) - 1) V; rw [eb] at this; exact this
              replace hwi := Lib.hid hwi
              have rb := wi_true.1 eb
              obtain ⟨b, rfl⟩ := Int.eq_ofNat_of_zero_le rb.1
              have hb : b < nb := by omega
              have hrt := rest_turn HTU.out HCK.out (show b < bs.length by rw [HBL.out]; exact hb)
              rw [HBL.out] at hrt
              have htl : tuF nb y b < nb := tuF_lt (by omega)
              have hr2 : ∀ V, Below Z.heap.size Z V → Calls Try.prog 31 #[.agg #[.slice A1 nb d1, .int .i64 kf, .slice A2 np d2, .int .i64 wrg], .int .i64 b] V fun e V' => e = .returned (.tuple #[.agg #[.int .i64 (restP bs ps kf wrg ((tuF nb y b : Nat) : Int)).1.lo, .int .i64 (restP bs ps kf wrg ((tuF nb y b : Nat) : Int)).1.hi], .int .i64 (restP bs ps kf wrg ((tuF nb y b : Nat) : Int)).2]) ∧ Below V.heap.size V V' := fun V hV => by
                have := rest_c A1 A2 nb d1 np d2 kf wrg b bs' ms2 ps2 V h1 h2 H3'.out (HBZ.out.later hV) (HPZ.out.later hV)
                rw [hrt] at this
                exact this
              have hr1 : ∀ V, Below Z.heap.size Z V → Calls Try.prog 31 #[.agg #[.slice Ab nb cb, .int .i64 kf, .slice Ap np cp, .int .i64 wrg], .int .i64 (tuF nb y b : Nat)] V fun e V' => e = .returned (.tuple #[.agg #[.int .i64 (restP bs ps kf wrg ((tuF nb y b : Nat) : Int)).1.lo, .int .i64 (restP bs ps kf wrg ((tuF nb y b : Nat) : Int)).1.hi], .int .i64 (restP bs ps kf wrg ((tuF nb y b : Nat) : Int)).2]) ∧ Below V.heap.size V V' := fun V hV =>
                rest_c Ab Ap nb cb np cp kf wrg _ bs ms ps V h1 h2 H3.out (HBI.out.later (HW.out V hV)) (HPI.out.later (HW.out V hV))
              obtain ⟨rl, hrl⟩ : ∃ P, (restP bs ps kf wrg ((tuF nb y b : Nat) : Int)).1.lo = P := ⟨_, rfl⟩
              obtain ⟨rh, hrh⟩ : ∃ P, (restP bs ps kf wrg ((tuF nb y b : Nat) : Int)).1.hi = P := ⟨_, rfl⟩
              obtain ⟨re, hre⟩ : ∃ P, (restP bs ps kf wrg ((tuF nb y b : Nat) : Int)).2 = P := ⟨_, rfl⟩
              rw [hrl, hrh, hre] at hr1 hr2
              have htm : Int.tmod ((b : Int) + (y : Int)) (nb : Int) = (tuF nb y b : Nat) := by
                rw [show (b : Int) + (y : Int) = ((b + y : Nat) : Int) from rfl]
                rfl
              obtain ⟨t, ht⟩ : ∃ t, tuF nb y b = t := ⟨_, rfl⟩
              rw [ht] at hr1 htm htl
              have hsw : IntKind.i64.wrap ((b : Int) + (y : Int)) = (b : Int) + (y : Int) := IntWalk.i64_in _ (by omega)
              have hst : IntKind.i64.wrap (t : Int) = (t : Int) := IntWalk.i64_in _ (by omega)
              have zn : ¬ nb = 0 := by omega
              have k2 : (rl == rl) = true := by simp
              have k3 : (rh == rh) = true := by simp
              have k4 : (re == re) = true := by simp
              replace hr1 := Lib.hid hr1
              replace hr2 := Lib.hid hr2
              clear hrl hrh hre ht hrt eb rb htl
              go_wp2_with (go_at_call 34; refine (hwi.out _).mono ?_; rintro e w' ⟨rfl, rfl⟩)
              refine (hr2.out _ v10).mono ?_
              rintro e u11 ⟨rfl, hv11⟩
              have v11 : Below Z.heap.size Z u11 := v10.trans (hv11.mono y10)
              clear hv11 c10_0 c10_1 c10_g
              have c11_0 := fun j => (v11.cell (p := ⟨w.heap.size, j, none⟩) N0).trans (PZ.out j)
              have c11_1 := fun j => (v11.cell (p := ⟨w.heap.size + 1, j, none⟩) N1).trans (PZ1.out j)
              have c11_g := fun j => (v11.cell (p := ⟨w2.heap.size, j, none⟩) Ng).trans (KZ.out.cell j)
              have y11 := v11.size
              go_upto_region 33 with (fail)
              go_name_world Z3 hZ3
              have K3 : Hid (Blk Z3 u11.heap.size 52 #[.int .i64 rl, .int .i64 rh]) := Lib.hid (by rw [← hZ3]; exact Blk.new u11 _ _)
              have hb3 : Below u11.heap.size u11 Z3 := (al1 hZ3).1
              have v33 : Below Z.heap.size Z Z3 := v11.trans (hb3.mono y11)
              have y33 := v33.size
              clear hb3 hZ3 c11_0 c11_1 c11_g hwi
              have HSS : Hid (∀ W', Below Z3.heap.size Z3 W' → (∀ i, W'.cell? ⟨w.heap.size, i, none⟩ = #[Value.slice Ab nb cb, .int .i64 kf, .slice Ap np cp, .int .i64 wrg][i]?) ∧ (∀ i, W'.cell? ⟨w.heap.size + 1, i, none⟩ = #[Value.int .i64 xa, .int .i64 xb, .int .i64 b, .int .i64 xl][i]?)) := Lib.hid fun W' h =>
                have hv := v33.trans (h.mono y33)
                ⟨fun i => (hv.cell (p := ⟨w.heap.size, i, none⟩) N0).trans (PZ.out i), fun i => (hv.cell (p := ⟨w.heap.size + 1, i, none⟩) N1).trans (PZ1.out i)⟩
              have hS := HSS.out Z3.drew (by (repeat first | with_reducible assumption | with_reducible exact Below.refl _ _ | (with_reducible refine Below.alloc ?_ ?side _; case side => (first | omega | (with_reducible exact Below.size (by assumption)) | (simp; done) | (simp; omega))) | (with_reducible refine Below.setCell ?_ ?side _; case side => (first | omega | (with_reducible exact Below.size (by assumption)) | (simp; done) | (simp; omega))) | with_reducible refine Below.drew ?_ | with_reducible refine below_drewN ?_ _ | (with_reducible refine below_step (by assumption) ?side ?_; case side => (first | omega | (with_reducible exact Below.size (by assumption)) | (simp; done) | (simp; omega)))))
              refine wp_region_L (by kernel_rfl) (fun W' => (∀ i, W'.cell? ⟨w.heap.size, i, none⟩ = #[Value.slice Ab nb cb, .int .i64 kf, .slice Ap np cp, .int .i64 wrg][i]?) ∧ (∀ i, W'.cell? ⟨w.heap.size + 1, i, none⟩ = #[Value.int .i64 xa, .int .i64 xb, .int .i64 b, .int .i64 xl][i]?)) 15 ?_
              refine wpAnyL_take (i := 0) (v := ?_) rfl (by kernel_rfl) (by kernel_rfl) (by kernel_rfl) (by kernel_rfl) (fun _ _ _ h => h) hS (Or.inl ⟨by rfl, ?_⟩) ?_
              rotate_left 1
              · intro w9 hw9
                obtain ⟨k0, k1⟩ := hw9
                go_simp
                try with_reducible rfl
              simp only [List.getElem_toArray, List.getElem_cons_zero, Act.put, List.setIfInBounds_toArray, List.set_cons_zero, List.set_cons_succ]
              refine wpAnyL_take (i := 1) (v := ?_) rfl (by kernel_rfl) (by kernel_rfl) (by kernel_rfl) (by kernel_rfl) (fun _ _ _ h => h) hS (Or.inl ⟨by rfl, ?_⟩) ?_
              rotate_left 1
              · intro w9 hw9
                obtain ⟨k0, k1⟩ := hw9
                go_simp
                try with_reducible rfl
              simp only [List.getElem_toArray, List.getElem_cons_zero, List.getElem_cons_succ, Act.put, List.setIfInBounds_toArray, List.set_cons_zero, List.set_cons_succ]
              refine wpAnyL_take (i := 2) (v := ?_) rfl (by kernel_rfl) (by kernel_rfl) (by kernel_rfl) (by kernel_rfl) (fun _ _ _ h => h) hS (Or.inl ⟨by rfl, ?_⟩) ?_
              rotate_left 1
              · intro w9 hw9
                obtain ⟨k0, k1⟩ := hw9
                go_simp
                try with_reducible rfl
              simp only [List.getElem_toArray, List.getElem_cons_zero, List.getElem_cons_succ, Act.put, List.setIfInBounds_toArray, List.set_cons_zero, List.set_cons_succ]
              refine wpAnyL_take (i := 3) (v := ?_) rfl (by kernel_rfl) (by kernel_rfl) (by kernel_rfl) (by kernel_rfl) (fun _ _ _ h => h) hS (Or.inl ⟨by rfl, ?_⟩) ?_
              rotate_left 1
              · intro w9 hw9
                obtain ⟨k0, k1⟩ := hw9
                go_simp
                try with_reducible rfl
              simp only [List.getElem_toArray, List.getElem_cons_zero, List.getElem_cons_succ, Act.put, List.setIfInBounds_toArray, List.set_cons_zero, List.set_cons_succ]
              refine wpAnyL_take (i := 4) (v := ?_) rfl (by kernel_rfl) (by kernel_rfl) (by kernel_rfl) (by kernel_rfl) (fun _ _ _ h => h) hS (Or.inl ⟨by rfl, ?_⟩) ?_
              rotate_left 1
              · intro w9 hw9
                obtain ⟨k0, k1⟩ := hw9
                go_simp
                try with_reducible rfl
              simp only [List.getElem_toArray, List.getElem_cons_zero, List.getElem_cons_succ, Act.put, List.setIfInBounds_toArray, List.set_cons_zero, List.set_cons_succ]
              refine wpAnyL_take (i := 5) (v := ?_) rfl (by kernel_rfl) (by kernel_rfl) (by kernel_rfl) (by kernel_rfl) (fun _ _ _ h => h) hS (Or.inl ⟨by rfl, ?_⟩) ?_
              rotate_left 1
              · intro w9 hw9
                obtain ⟨k0, k1⟩ := hw9
                go_simp
                try with_reducible rfl
              simp only [List.getElem_toArray, List.getElem_cons_zero, List.getElem_cons_succ, Act.put, List.setIfInBounds_toArray, List.set_cons_zero, List.set_cons_succ]
              refine wpAnyL_take (i := 6) (v := ?_) rfl (by kernel_rfl) (by kernel_rfl) (by kernel_rfl) (by kernel_rfl) (fun _ _ _ h => h) hS (Or.inl ⟨by rfl, ?_⟩) ?_
              rotate_left 1
              · intro w9 hw9
                obtain ⟨k0, k1⟩ := hw9
                go_simp
                try with_reducible rfl
              simp only [List.getElem_toArray, List.getElem_cons_zero, List.getElem_cons_succ, Act.put, List.setIfInBounds_toArray, List.set_cons_zero, List.set_cons_succ]
              refine wpAnyL_take (i := 7) (v := ?_) rfl (by kernel_rfl) (by kernel_rfl) (by kernel_rfl) (by kernel_rfl) (fun _ _ _ h => h) hS (Or.inl ⟨by rfl, ?_⟩) ?_
              rotate_left 1
              · intro w9 hw9
                obtain ⟨k0, k1⟩ := hw9
                go_simp
                try with_reducible rfl
              simp only [List.getElem_toArray, List.getElem_cons_zero, List.getElem_cons_succ, Act.put, List.setIfInBounds_toArray, List.set_cons_zero, List.set_cons_succ]
              refine wpAnyL_take (i := 8) (v := ?_) rfl (by kernel_rfl) (by kernel_rfl) (by kernel_rfl) (by kernel_rfl) (fun _ _ _ h => h) hS (Or.inl ⟨by rfl, ?_⟩) ?_
              rotate_left 1
              · intro w9 hw9
                obtain ⟨k0, k1⟩ := hw9
                go_simp
                try with_reducible rfl
              simp only [List.getElem_toArray, List.getElem_cons_zero, List.getElem_cons_succ, Act.put, List.setIfInBounds_toArray, List.set_cons_zero, List.set_cons_succ]
              refine wpAnyL_two (i := 9) (j := 13) (by kernel_rfl) rfl rfl (fun K hK => ?_) (fun K hK => ?_)
              · go_simp
                go_at_call 31
                refine (hr1.out _ (v33.trans (Below.drew (Below.refl _ _)))).mono ?_
                rintro e w34 ⟨rfl, hb34⟩
                have hb34' : Below Z3.heap.size Z3 w34 := Below.trans (Below.drew (Below.refl _ _)) hb34
                have y34 := hb34'.size
                refine hK.out _ _ (fun _ => HSS.out w34 hb34') (fun hS' => ?_)
                clear hK K hS' hS hb34
                have hS := HSS.out w34 hb34'
                try simp only [List.getElem_toArray, List.getElem_cons_zero, List.getElem_cons_succ, Act.put, List.setIfInBounds_toArray, List.set_cons_zero, List.set_cons_succ]
                refine wpAnyL_take (i := 10) (v := ?_) rfl (by kernel_rfl) (by kernel_rfl) (by kernel_rfl) (by kernel_rfl) (fun _ _ _ h => h) hS (Or.inl ⟨by rfl, ?_⟩) ?_
                rotate_left 1
                · intro w9 hw9
                  obtain ⟨k0, k1⟩ := hw9
                  go_simp
                  try with_reducible rfl
                simp only [List.getElem_toArray, List.getElem_cons_zero, List.getElem_cons_succ, Act.put, List.setIfInBounds_toArray, List.set_cons_zero, List.set_cons_succ]
                refine wpAnyL_take (i := 11) (v := ?_) rfl (by kernel_rfl) (by kernel_rfl) (by kernel_rfl) (by kernel_rfl) (fun _ _ _ h => h) hS (Or.inl ⟨by rfl, ?_⟩) ?_
                rotate_left 1
                · intro w9 hw9
                  obtain ⟨k0, k1⟩ := hw9
                  go_simp
                  try with_reducible rfl
                simp only [List.getElem_toArray, List.getElem_cons_zero, List.getElem_cons_succ, Act.put, List.setIfInBounds_toArray, List.set_cons_zero, List.set_cons_succ]
                refine wpAnyL_take (i := 12) (v := ?_) rfl (by kernel_rfl) (by kernel_rfl) (by kernel_rfl) (by kernel_rfl) (fun _ _ _ h => h) hS (Or.inl ⟨by rfl, ?_⟩) ?_
                rotate_left 1
                · intro w9 hw9
                  obtain ⟨k0, k1⟩ := hw9
                  go_simp
                  try with_reducible rfl
                simp only [List.getElem_toArray, List.getElem_cons_zero, List.getElem_cons_succ, Act.put, List.setIfInBounds_toArray, List.set_cons_zero, List.set_cons_succ]
                refine wpAnyL_one (i := 13) (by kernel_rfl) rfl (fun K hK => ?_)
                go_simp
                refine hK.out _ _ (fun _ => HSS.out _ (by (repeat first | with_reducible assumption | with_reducible exact Below.refl _ _ | (with_reducible refine Below.alloc ?_ ?side _; case side => (first | omega | (with_reducible exact Below.size (by assumption)) | (simp; done) | (simp; omega))) | (with_reducible refine Below.setCell ?_ ?side _; case side => (first | omega | (with_reducible exact Below.size (by assumption)) | (simp; done) | (simp; omega))) | with_reducible refine Below.drew ?_ | with_reducible refine below_drewN ?_ _ | (with_reducible refine below_step (by assumption) ?side ?_; case side => (first | omega | (with_reducible exact Below.size (by assumption)) | (simp; done) | (simp; omega)))))) (fun hS' => ?_)
                clear hK K hS' hS
                try simp only [List.getElem_toArray, List.getElem_cons_zero, List.getElem_cons_succ, Act.put, List.setIfInBounds_toArray, List.set_cons_zero, List.set_cons_succ]
                refine wpAnyL_one (i := 14) (by kernel_rfl) rfl (fun K hK => ?_)
                go_simp
                refine hK.out _ _ (fun _ => HSS.out _ (by (repeat first | with_reducible assumption | with_reducible exact Below.refl _ _ | (with_reducible refine Below.alloc ?_ ?side _; case side => (first | omega | (with_reducible exact Below.size (by assumption)) | (simp; done) | (simp; omega))) | (with_reducible refine Below.setCell ?_ ?side _; case side => (first | omega | (with_reducible exact Below.size (by assumption)) | (simp; done) | (simp; omega))) | with_reducible refine Below.drew ?_ | with_reducible refine below_drewN ?_ _ | (with_reducible refine below_step (by assumption) ?side ?_; case side => (first | omega | (with_reducible exact Below.size (by assumption)) | (simp; done) | (simp; omega)))))) (fun hS' => ?_)
                clear hK K hS'
                refine wpAnyL_one (i := 15) (by kernel_rfl) rfl (fun K hK => ?_)
                go_simp
                refine hK.out _ _ (fun h => absurd rfl h) (fun _ => ?_)
                refine wpAnyL_done (by kernel_rfl) ?_ _
                clear hK K
                go_upto_region 34 with (fail)
                go_name_world Z4 hZ4
                have KT : Hid (Blk Z4 w34.heap.size 52 #[.int .i64 rl, .int .i64 rh]) := Lib.hid (by rw [← hZ4]; exact Blk.new w34 _ _)
                have hb4 : Below Z3.heap.size Z3 Z4 := by rw [← hZ4]; exact hb34'.alloc y34 _
                have ks := (K3.out.below hb4 K3.out.lt).cell
                have kt := KT.out.cell
                clear hZ4
                go_wp2_with fail
                refine (hwk.out _).mono ?_
                rintro e w99 ⟨rfl, hb99⟩
                go_wp2
                go_ret
                exact ⟨rfl, BX.trans (Below.mono (b6.trans (((v33.trans (hb4.mono y33)).trans (hb99.mono (v33.trans (hb4.mono y33)).size)).mono zZ)) zw)⟩
              · go_simp
                refine hK.out _ _ (fun _ => HSS.out _ (by (repeat first | with_reducible assumption | with_reducible exact Below.refl _ _ | (with_reducible refine Below.alloc ?_ ?side _; case side => (first | omega | (with_reducible exact Below.size (by assumption)) | (simp; done) | (simp; omega))) | (with_reducible refine Below.setCell ?_ ?side _; case side => (first | omega | (with_reducible exact Below.size (by assumption)) | (simp; done) | (simp; omega))) | with_reducible refine Below.drew ?_ | with_reducible refine below_drewN ?_ _ | (with_reducible refine below_step (by assumption) ?side ?_; case side => (first | omega | (with_reducible exact Below.size (by assumption)) | (simp; done) | (simp; omega)))))) (fun hS' => ?_)
                clear hK K hS' hS
                try simp only [List.getElem_toArray, List.getElem_cons_zero, List.getElem_cons_succ, Act.put, List.setIfInBounds_toArray, List.set_cons_zero, List.set_cons_succ]
                refine wpAnyL_one (i := 9) (by kernel_rfl) rfl (fun K hK => ?_)
                go_simp
                go_at_call 31
                refine (hr1.out _ (v33.trans (Below.alloc (Below.drew (Below.refl _ _)) (by simp; omega) _))).mono ?_
                rintro e w34 ⟨rfl, hb34⟩
                have K34 : Hid (Blk w34 Z3.heap.size 52 #[.int .i64 0, .int .i64 0]) := Lib.hid ((Blk.new Z3.drew 52 #[.int .i64 0, .int .i64 0]).below hb34 (by simp))
                have hb34' : Below Z3.heap.size Z3 w34 := Below.trans (Below.alloc (Below.drew (Below.refl _ _)) (Nat.le_refl _) _) (hb34.mono (by simp))
                have y34 := hb34'.size
                refine hK.out _ _ (fun _ => HSS.out w34 hb34') (fun hS' => ?_)
                clear hK K hS' hb34
                have hS := HSS.out w34 hb34'
                try simp only [List.getElem_toArray, List.getElem_cons_zero, List.getElem_cons_succ, Act.put, List.setIfInBounds_toArray, List.set_cons_zero, List.set_cons_succ]
                refine wpAnyL_take (i := 10) (v := ?_) rfl (by kernel_rfl) (by kernel_rfl) (by kernel_rfl) (by kernel_rfl) (fun _ _ _ h => h) hS (Or.inl ⟨by rfl, ?_⟩) ?_
                rotate_left 1
                · intro w9 hw9
                  obtain ⟨k0, k1⟩ := hw9
                  go_simp
                  try with_reducible rfl
                simp only [List.getElem_toArray, List.getElem_cons_zero, List.getElem_cons_succ, Act.put, List.setIfInBounds_toArray, List.set_cons_zero, List.set_cons_succ]
                refine wpAnyL_take (i := 11) (v := ?_) rfl (by kernel_rfl) (by kernel_rfl) (by kernel_rfl) (by kernel_rfl) (fun _ _ _ h => h) hS (Or.inl ⟨by rfl, ?_⟩) ?_
                rotate_left 1
                · intro w9 hw9
                  obtain ⟨k0, k1⟩ := hw9
                  go_simp
                  try with_reducible rfl
                simp only [List.getElem_toArray, List.getElem_cons_zero, List.getElem_cons_succ, Act.put, List.setIfInBounds_toArray, List.set_cons_zero, List.set_cons_succ]
                refine wpAnyL_take (i := 12) (v := ?_) rfl (by kernel_rfl) (by kernel_rfl) (by kernel_rfl) (by kernel_rfl) (fun _ _ _ h => h) hS (Or.inl ⟨by rfl, ?_⟩) ?_
                rotate_left 1
                · intro w9 hw9
                  obtain ⟨k0, k1⟩ := hw9
                  go_simp
                  try with_reducible rfl
                simp only [List.getElem_toArray, List.getElem_cons_zero, List.getElem_cons_succ, Act.put, List.setIfInBounds_toArray, List.set_cons_zero, List.set_cons_succ]
                have kk := K34.out.cell
                have kf' := K34.out.frozen
                refine wpAnyL_one (i := 14) (by kernel_rfl) rfl (fun K hK => ?_)
                go_simp
                refine hK.out _ _ (fun _ => HSS.out _ (by (repeat first | with_reducible assumption | with_reducible exact Below.refl _ _ | (with_reducible refine Below.alloc ?_ ?side _; case side => (first | omega | (with_reducible exact Below.size (by assumption)) | (simp; done) | (simp; omega))) | (with_reducible refine Below.setCell ?_ ?side _; case side => (first | omega | (with_reducible exact Below.size (by assumption)) | (simp; done) | (simp; omega))) | with_reducible refine Below.drew ?_ | with_reducible refine below_drewN ?_ _ | (with_reducible refine below_step (by assumption) ?side ?_; case side => (first | omega | (with_reducible exact Below.size (by assumption)) | (simp; done) | (simp; omega)))))) (fun hS' => ?_)
                clear hK K hS'
                refine wpAnyL_one (i := 15) (by kernel_rfl) rfl (fun K hK => ?_)
                go_simp
                refine hK.out _ _ (fun h => absurd rfl h) (fun _ => ?_)
                refine wpAnyL_done (by kernel_rfl) ?_ _
                clear hK K
                go_upto_region 34 with (fail)
                go_name_world Z4 hZ4
                have KT : Hid (Blk Z4 Z3.heap.size 52 #[.int .i64 rl, .int .i64 rh]) := Lib.hid (by rw [← hZ4]; have h := (K34.out.set_ 0 (.int .i64 rl)).set_ 1 (.int .i64 rh); simpa using h)
                have hb4 : Below Z3.heap.size Z3 Z4 := by rw [← hZ4]; exact ((hb34'.setCell (Nat.le_refl _) _).setCell (Nat.le_refl _) _)
                have ks := (K3.out.below hb4 K3.out.lt).cell
                have kt := KT.out.cell
                clear hZ4 kk kf'
                go_wp2_with fail
                refine (hwk.out _).mono ?_
                rintro e w99 ⟨rfl, hb99⟩
                go_wp2
                go_ret
                exact ⟨rfl, BX.trans (Below.mono (b6.trans (((v33.trans (hb4.mono y33)).trans (hb99.mono (v33.trans (hb4.mono y33)).size)).mono zZ)) zw)⟩
            · have hpB : ∀ V, Calls Try.prog 14 #[.agg #[.slice Ab nb cb, .int .i64 kf, .slice Ap np cp, .int .i64 wrg], .int .i64 xb] V fun e V' => e = .returned (.bool true) ∧ Below V.heap.size V V' := fun V => by have := hip.out V xb; rw [eb] at this; exact this
              replace hpB := Lib.hid hpB
              clear hpA hip
              refine (hpB.out _).mono ?_
              rintro e u10 ⟨rfl, hv10⟩
              have v10 : Below Z.heap.size Z u10 := v9.trans (hv10.mono y9)
              clear hv10 c9_0 c9_1 c9_g
              have c10_0 := fun j => (v10.cell (p := ⟨w.heap.size, j, none⟩) N0).trans (PZ.out j)
              have c10_1 := fun j => (v10.cell (p := ⟨w.heap.size + 1, j, none⟩) N1).trans (PZ1.out j)
              have c10_g := fun j => (v10.cell (p := ⟨w2.heap.size, j, none⟩) Ng).trans (KZ.out.cell j)
              have y10 := v10.size
              have hck := HCK.out
              have hck' := ck_turn HTU.out hck
              have ra0 := wi_true.1 ea
              have rc0 := wi_true.1 eb
              obtain ⟨a, rfl⟩ := Int.eq_ofNat_of_zero_le ra0.1
              obtain ⟨c, rfl⟩ := Int.eq_ofNat_of_zero_le rc0.1
              have ha : a < ps.length := by rw [HPL.out]; omega
              have hc : c < ps.length := by rw [HPL.out]; omega
              have hpl' : ps2.length = ps.length := by rw [HTU.out.pr]; simp
              have at1 := alike_turn HTU.out hck ha hc
              have ht1 := heats_turn HTU.out hck ha
              have L10 := heats10 hck ha
              rw [HPL.out] at at1 ht1
              obtain ⟨ra, hra⟩ : ∃ r, np - 1 - a = r := ⟨_, rfl⟩
              obtain ⟨rc, hrc⟩ : ∃ r, np - 1 - c = r := ⟨_, rfl⟩
              rw [hra, hrc] at at1
              rw [hra] at ht1
              have hsA : IntKind.i64.wrap ((np : Int) - 1 - (a : Int)) = (ra : Int) := by
                rw [show (np : Int) - 1 - (a : Int) = (ra : Int) by omega]
                exact IntWalk.i64_in _ (by omega)
              have hsC : IntKind.i64.wrap ((np : Int) - 1 - (c : Int)) = (rc : Int) := by
                rw [show (np : Int) - 1 - (c : Int) = (rc : Int) by omega]
                exact IntWalk.i64_in _ (by omega)
              have wra : wi (ra : Int) 0 ((np : Int) - 1) = true := wi_true.2 (by omega)
              have ha1 : ∀ V, Below Z.heap.size Z V → Calls Try.prog 29 #[.agg #[.slice Ab nb cb, .int .i64 kf, .slice Ap np cp, .int .i64 wrg], .int .i64 a, .int .i64 c] V fun e V' => e = .returned (.tuple #[.int .i64 (alikeP bs ps kf wrg a c).1, .int .i64 (alikeP bs ps kf wrg a c).2]) ∧ Below V.heap.size V V' := fun V hV =>
                alike_c Ab Ap nb cb np cp kf wrg a c bs ms ps V h1 h2 H3.out (HBI.out.later (HW.out V hV)) (HPI.out.later (HW.out V hV))
              have ha2 : ∀ V, Below Z.heap.size Z V → Calls Try.prog 29 #[.agg #[.slice A1 nb d1, .int .i64 kf, .slice A2 np d2, .int .i64 wrg], .int .i64 ra, .int .i64 rc] V fun e V' => e = .returned (.tuple #[.int .i64 (alikeP bs ps kf wrg a c).1, .int .i64 (alikeP bs ps kf wrg a c).2]) ∧ Below V.heap.size V V' := fun V hV => by
                have := alike_c A1 A2 nb d1 np d2 kf wrg ra rc bs' ms2 ps2 V h1 h2 H3'.out (HBZ.out.later hV) (HPZ.out.later hV)
                rw [at1] at this
                exact this
              have hh1 : ∀ V, Below Z.heap.size Z V → Calls Try.prog 38 #[.agg #[.slice Ab nb cb, .int .i64 kf, .slice Ap np cp, .int .i64 wrg], .int .i64 a] V fun e V' => ∃ A c, e = .returned (.tuple #[.slice A (heatsP bs ps kf wrg a).length c, .int .i64 (askE bs ps kf wrg true)]) ∧ IntsAt V' A (heatsP bs ps kf wrg a).length (heatsP bs ps kf wrg a) ∧ Below V.heap.size V V' := fun V hV => by
                have := heats_c Ab Ap nb cb np cp kf wrg a bs ms ps V h1 h2 H3.out (HBI.out.later (HW.out V hV)) (HPI.out.later (HW.out V hV))
                rw [ea] at this
                exact this
              have hh2 : ∀ V, Below Z.heap.size Z V → Calls Try.prog 38 #[.agg #[.slice A1 nb d1, .int .i64 kf, .slice A2 np d2, .int .i64 wrg], .int .i64 ra] V fun e V' => ∃ A c, e = .returned (.tuple #[.slice A (heatsP bs ps kf wrg a).length c, .int .i64 (askE bs ps kf wrg true)]) ∧ IntsAt V' A (heatsP bs ps kf wrg a).length (heatsP bs ps kf wrg a) ∧ Below V.heap.size V V' := fun V hV => by
                have := heats_c A1 A2 nb d1 np d2 kf wrg ra bs' ms2 ps2 V h1 h2 H3'.out (HBZ.out.later hV) (HPZ.out.later hV)
                rw [wra, ht1, ask_turn HTU.out hck] at this
                exact this
              obtain ⟨av, hav⟩ : ∃ P, (alikeP bs ps kf wrg a c).1 = P := ⟨_, rfl⟩
              obtain ⟨ae, hae⟩ : ∃ P, (alikeP bs ps kf wrg a c).2 = P := ⟨_, rfl⟩
              obtain ⟨LL, hLL⟩ : ∃ P, heatsP bs ps kf wrg a = P := ⟨_, rfl⟩
              obtain ⟨he, hhe⟩ : ∃ P, askE bs ps kf wrg true = P := ⟨_, rfl⟩
              rw [hav, hae] at ha1 ha2
              rw [hLL, hhe] at hh1 hh2
              rw [hLL] at L10
              replace ha1 := Lib.hid ha1
              replace ha2 := Lib.hid ha2
              replace hh1 := Lib.hid hh1
              replace hh2 := Lib.hid hh2
              have e0 : (av != av) = false := by simp
              have e1 : (ae != ae) = false := by simp
              have e2 : (he != he) = false := by simp
              clear hav hae hLL hhe at1 ht1 hra hrc wra ea eb ra0 rc0 hck hck' ha hc hpl'
              go_wp2_with fail
              refine (ha1.out _ v10).mono ?_
              rintro e u11 ⟨rfl, hv11⟩
              have v11 : Below Z.heap.size Z u11 := v10.trans (hv11.mono y10)
              clear hv11 c10_0 c10_1 c10_g
              have c11_0 := fun j => (v11.cell (p := ⟨w.heap.size, j, none⟩) N0).trans (PZ.out j)
              have c11_1 := fun j => (v11.cell (p := ⟨w.heap.size + 1, j, none⟩) N1).trans (PZ1.out j)
              have c11_g := fun j => (v11.cell (p := ⟨w2.heap.size, j, none⟩) Ng).trans (KZ.out.cell j)
              have y11 := v11.size
              go_wp2_with fail
              refine (ha2.out _ v11).mono ?_
              rintro e u12 ⟨rfl, hv12⟩
              have v12 : Below Z.heap.size Z u12 := v11.trans (hv12.mono y11)
              clear hv12 c11_0 c11_1 c11_g
              have c12_0 := fun j => (v12.cell (p := ⟨w.heap.size, j, none⟩) N0).trans (PZ.out j)
              have c12_1 := fun j => (v12.cell (p := ⟨w.heap.size + 1, j, none⟩) N1).trans (PZ1.out j)
              have c12_g := fun j => (v12.cell (p := ⟨w2.heap.size, j, none⟩) Ng).trans (KZ.out.cell j)
              have y12 := v12.size
              go_wp2_with fail
              refine (hh1.out _ v12).mono ?_
              rintro e u13 ⟨A13, C13, rfl, hi13, hv13⟩
              have I13 := Lib.hid hi13
              have v13 : Below Z.heap.size Z u13 := v12.trans (hv13.mono y12)
              clear hv13 hi13 c12_0 c12_1 c12_g
              have c13_0 := fun j => (v13.cell (p := ⟨w.heap.size, j, none⟩) N0).trans (PZ.out j)
              have c13_1 := fun j => (v13.cell (p := ⟨w.heap.size + 1, j, none⟩) N1).trans (PZ1.out j)
              have c13_g := fun j => (v13.cell (p := ⟨w2.heap.size, j, none⟩) Ng).trans (KZ.out.cell j)
              have y13 := v13.size
              go_wp2_with fail
              refine (hh2.out _ v13).mono ?_
              rintro e u14 ⟨A14, C14, rfl, hi14, hv14⟩
              have I14 := Lib.hid hi14
              replace I13 := Lib.hid (I13.out.later hv14)
              have v14 : Below Z.heap.size Z u14 := v13.trans (hv14.mono y13)
              clear hv14 hi14 c13_0 c13_1 c13_g
              have c14_0 := fun j => (v14.cell (p := ⟨w.heap.size, j, none⟩) N0).trans (PZ.out j)
              have c14_1 := fun j => (v14.cell (p := ⟨w.heap.size + 1, j, none⟩) N1).trans (PZ1.out j)
              have c14_g := fun j => (v14.cell (p := ⟨w2.heap.size, j, none⟩) Ng).trans (KZ.out.cell j)
              have y14 := v14.size
              go_wp2_with fail
              refine (same_ints2 _ _ _ _ LL u14 (by omega) I13.out I14.out).mono ?_
              rintro e u15 ⟨rfl, hv15⟩
              have v15 : Below Z.heap.size Z u15 := v14.trans (hv15.mono y14)
              clear hv15 c14_0 c14_1 c14_g ha1 ha2 hh1 hh2 hsA hsC I13 I14
              have c15_0 := fun j => (v15.cell (p := ⟨w.heap.size, j, none⟩) N0).trans (PZ.out j)
              have c15_1 := fun j => (v15.cell (p := ⟨w.heap.size + 1, j, none⟩) N1).trans (PZ1.out j)
              have c15_g := fun j => (v15.cell (p := ⟨w2.heap.size, j, none⟩) Ng).trans (KZ.out.cell j)
              have y15 := v15.size
              cases eb : wi xr 0 ((nb : Int) - 1)
              · have hwi : ∀ V, Calls Try.prog 34 #[.int .i64 xr, .int .i64 0, .int .i64 ((nb : Int) - 1)] V fun e V' => e = .returned (.bool false) ∧ V = V' := fun V => by have := Within1_c xr 0 ((nb : Int) - 1) V; rw [eb] at this; exact this
                replace hwi := Lib.hid hwi
                clear eb
                go_wp2_with (go_at_call 34; refine (hwi.out _).mono ?_; rintro e w' ⟨rfl, rfl⟩)
                refine (hwk.out _).mono ?_
                rintro e w99 ⟨rfl, hb99⟩
                go_wp2
                go_ret
                exact ⟨rfl, BX.trans (Below.mono (b6.trans ((v15.trans (hb99.mono y15)).mono zZ)) zw)⟩
              have hwi : ∀ V, Calls Try.prog 34 #[.int .i64 xr, .int .i64 0, .int .i64 ((nb : Int) - 1)] V fun e V' => e = .returned (.bool true) ∧ V = V' := fun V => by have := Within1_c xr 0 ((nb : Int) - 1) V; rw [eb] at this; exact this
              replace hwi := Lib.hid hwi
              have rb := wi_true.1 eb
              obtain ⟨b, rfl⟩ := Int.eq_ofNat_of_zero_le rb.1
              have hb : b < nb := by omega
              have hrt := rest_turn HTU.out HCK.out (show b < bs.length by rw [HBL.out]; exact hb)
              rw [HBL.out] at hrt
              have htl : tuF nb y b < nb := tuF_lt (by omega)
              have hr2 : ∀ V, Below Z.heap.size Z V → Calls Try.prog 31 #[.agg #[.slice A1 nb d1, .int .i64 kf, .slice A2 np d2, .int .i64 wrg], .int .i64 b] V fun e V' => e = .returned (.tuple #[.agg #[.int .i64 (restP bs ps kf wrg ((tuF nb y b : Nat) : Int)).1.lo, .int .i64 (restP bs ps kf wrg ((tuF nb y b : Nat) : Int)).1.hi], .int .i64 (restP bs ps kf wrg ((tuF nb y b : Nat) : Int)).2]) ∧ Below V.heap.size V V' := fun V hV => by
                have := rest_c A1 A2 nb d1 np d2 kf wrg b bs' ms2 ps2 V h1 h2 H3'.out (HBZ.out.later hV) (HPZ.out.later hV)
                rw [hrt] at this
                exact this
              have hr1 : ∀ V, Below Z.heap.size Z V → Calls Try.prog 31 #[.agg #[.slice Ab nb cb, .int .i64 kf, .slice Ap np cp, .int .i64 wrg], .int .i64 (tuF nb y b : Nat)] V fun e V' => e = .returned (.tuple #[.agg #[.int .i64 (restP bs ps kf wrg ((tuF nb y b : Nat) : Int)).1.lo, .int .i64 (restP bs ps kf wrg ((tuF nb y b : Nat) : Int)).1.hi], .int .i64 (restP bs ps kf wrg ((tuF nb y b : Nat) : Int)).2]) ∧ Below V.heap.size V V' := fun V hV =>
                rest_c Ab Ap nb cb np cp kf wrg _ bs ms ps V h1 h2 H3.out (HBI.out.later (HW.out V hV)) (HPI.out.later (HW.out V hV))
              obtain ⟨rl, hrl⟩ : ∃ P, (restP bs ps kf wrg ((tuF nb y b : Nat) : Int)).1.lo = P := ⟨_, rfl⟩
              obtain ⟨rh, hrh⟩ : ∃ P, (restP bs ps kf wrg ((tuF nb y b : Nat) : Int)).1.hi = P := ⟨_, rfl⟩
              obtain ⟨re, hre⟩ : ∃ P, (restP bs ps kf wrg ((tuF nb y b : Nat) : Int)).2 = P := ⟨_, rfl⟩
              rw [hrl, hrh, hre] at hr1 hr2
              have htm : Int.tmod ((b : Int) + (y : Int)) (nb : Int) = (tuF nb y b : Nat) := by
                rw [show (b : Int) + (y : Int) = ((b + y : Nat) : Int) from rfl]
                rfl
              obtain ⟨t, ht⟩ : ∃ t, tuF nb y b = t := ⟨_, rfl⟩
              rw [ht] at hr1 htm htl
              have hsw : IntKind.i64.wrap ((b : Int) + (y : Int)) = (b : Int) + (y : Int) := IntWalk.i64_in _ (by omega)
              have hst : IntKind.i64.wrap (t : Int) = (t : Int) := IntWalk.i64_in _ (by omega)
              have zn : ¬ nb = 0 := by omega
              have k2 : (rl == rl) = true := by simp
              have k3 : (rh == rh) = true := by simp
              have k4 : (re == re) = true := by simp
              replace hr1 := Lib.hid hr1
              replace hr2 := Lib.hid hr2
              clear hrl hrh hre ht hrt eb rb htl
              go_wp2_with (go_at_call 34; refine (hwi.out _).mono ?_; rintro e w' ⟨rfl, rfl⟩)
              refine (hr2.out _ v15).mono ?_
              rintro e u16 ⟨rfl, hv16⟩
              have v16 : Below Z.heap.size Z u16 := v15.trans (hv16.mono y15)
              clear hv16 c15_0 c15_1 c15_g
              have c16_0 := fun j => (v16.cell (p := ⟨w.heap.size, j, none⟩) N0).trans (PZ.out j)
              have c16_1 := fun j => (v16.cell (p := ⟨w.heap.size + 1, j, none⟩) N1).trans (PZ1.out j)
              have c16_g := fun j => (v16.cell (p := ⟨w2.heap.size, j, none⟩) Ng).trans (KZ.out.cell j)
              have y16 := v16.size
              go_upto_region 33 with (fail)
              go_name_world Z3 hZ3
              have K3 : Hid (Blk Z3 u16.heap.size 52 #[.int .i64 rl, .int .i64 rh]) := Lib.hid (by rw [← hZ3]; exact Blk.new u16 _ _)
              have hb3 : Below u16.heap.size u16 Z3 := (al1 hZ3).1
              have v33 : Below Z.heap.size Z Z3 := v16.trans (hb3.mono y16)
              have y33 := v33.size
              clear hb3 hZ3 c16_0 c16_1 c16_g hwi
              have HSS : Hid (∀ W', Below Z3.heap.size Z3 W' → (∀ i, W'.cell? ⟨w.heap.size, i, none⟩ = #[Value.slice Ab nb cb, .int .i64 kf, .slice Ap np cp, .int .i64 wrg][i]?) ∧ (∀ i, W'.cell? ⟨w.heap.size + 1, i, none⟩ = #[Value.int .i64 (a : Int), .int .i64 (c : Int), .int .i64 b, .int .i64 xl][i]?)) := Lib.hid fun W' h =>
                have hv := v33.trans (h.mono y33)
                ⟨fun i => (hv.cell (p := ⟨w.heap.size, i, none⟩) N0).trans (PZ.out i), fun i => (hv.cell (p := ⟨w.heap.size + 1, i, none⟩) N1).trans (PZ1.out i)⟩
              have hS := HSS.out Z3.drew (by (repeat first | with_reducible assumption | with_reducible exact Below.refl _ _ | (with_reducible refine Below.alloc ?_ ?side _; case side => (first | omega | (with_reducible exact Below.size (by assumption)) | (simp; done) | (simp; omega))) | (with_reducible refine Below.setCell ?_ ?side _; case side => (first | omega | (with_reducible exact Below.size (by assumption)) | (simp; done) | (simp; omega))) | with_reducible refine Below.drew ?_ | with_reducible refine below_drewN ?_ _ | (with_reducible refine below_step (by assumption) ?side ?_; case side => (first | omega | (with_reducible exact Below.size (by assumption)) | (simp; done) | (simp; omega)))))
              refine wp_region_L (by kernel_rfl) (fun W' => (∀ i, W'.cell? ⟨w.heap.size, i, none⟩ = #[Value.slice Ab nb cb, .int .i64 kf, .slice Ap np cp, .int .i64 wrg][i]?) ∧ (∀ i, W'.cell? ⟨w.heap.size + 1, i, none⟩ = #[Value.int .i64 (a : Int), .int .i64 (c : Int), .int .i64 b, .int .i64 xl][i]?)) 15 ?_
              refine wpAnyL_take (i := 0) (v := ?_) rfl (by kernel_rfl) (by kernel_rfl) (by kernel_rfl) (by kernel_rfl) (fun _ _ _ h => h) hS (Or.inl ⟨by rfl, ?_⟩) ?_
              rotate_left 1
              · intro w9 hw9
                obtain ⟨k0, k1⟩ := hw9
                go_simp
                try with_reducible rfl
              simp only [List.getElem_toArray, List.getElem_cons_zero, Act.put, List.setIfInBounds_toArray, List.set_cons_zero, List.set_cons_succ]
              refine wpAnyL_take (i := 1) (v := ?_) rfl (by kernel_rfl) (by kernel_rfl) (by kernel_rfl) (by kernel_rfl) (fun _ _ _ h => h) hS (Or.inl ⟨by rfl, ?_⟩) ?_
              rotate_left 1
              · intro w9 hw9
                obtain ⟨k0, k1⟩ := hw9
                go_simp
                try with_reducible rfl
              simp only [List.getElem_toArray, List.getElem_cons_zero, List.getElem_cons_succ, Act.put, List.setIfInBounds_toArray, List.set_cons_zero, List.set_cons_succ]
              refine wpAnyL_take (i := 2) (v := ?_) rfl (by kernel_rfl) (by kernel_rfl) (by kernel_rfl) (by kernel_rfl) (fun _ _ _ h => h) hS (Or.inl ⟨by rfl, ?_⟩) ?_
              rotate_left 1
              · intro w9 hw9
                obtain ⟨k0, k1⟩ := hw9
                go_simp
                try with_reducible rfl
              simp only [List.getElem_toArray, List.getElem_cons_zero, List.getElem_cons_succ, Act.put, List.setIfInBounds_toArray, List.set_cons_zero, List.set_cons_succ]
              refine wpAnyL_take (i := 3) (v := ?_) rfl (by kernel_rfl) (by kernel_rfl) (by kernel_rfl) (by kernel_rfl) (fun _ _ _ h => h) hS (Or.inl ⟨by rfl, ?_⟩) ?_
              rotate_left 1
              · intro w9 hw9
                obtain ⟨k0, k1⟩ := hw9
                go_simp
                try with_reducible rfl
              simp only [List.getElem_toArray, List.getElem_cons_zero, List.getElem_cons_succ, Act.put, List.setIfInBounds_toArray, List.set_cons_zero, List.set_cons_succ]
              refine wpAnyL_take (i := 4) (v := ?_) rfl (by kernel_rfl) (by kernel_rfl) (by kernel_rfl) (by kernel_rfl) (fun _ _ _ h => h) hS (Or.inl ⟨by rfl, ?_⟩) ?_
              rotate_left 1
              · intro w9 hw9
                obtain ⟨k0, k1⟩ := hw9
                go_simp
                try with_reducible rfl
              simp only [List.getElem_toArray, List.getElem_cons_zero, List.getElem_cons_succ, Act.put, List.setIfInBounds_toArray, List.set_cons_zero, List.set_cons_succ]
              refine wpAnyL_take (i := 5) (v := ?_) rfl (by kernel_rfl) (by kernel_rfl) (by kernel_rfl) (by kernel_rfl) (fun _ _ _ h => h) hS (Or.inl ⟨by rfl, ?_⟩) ?_
              rotate_left 1
              · intro w9 hw9
                obtain ⟨k0, k1⟩ := hw9
                go_simp
                try with_reducible rfl
              simp only [List.getElem_toArray, List.getElem_cons_zero, List.getElem_cons_succ, Act.put, List.setIfInBounds_toArray, List.set_cons_zero, List.set_cons_succ]
              refine wpAnyL_take (i := 6) (v := ?_) rfl (by kernel_rfl) (by kernel_rfl) (by kernel_rfl) (by kernel_rfl) (fun _ _ _ h => h) hS (Or.inl ⟨by rfl, ?_⟩) ?_
              rotate_left 1
              · intro w9 hw9
                obtain ⟨k0, k1⟩ := hw9
                go_simp
                try with_reducible rfl
              simp only [List.getElem_toArray, List.getElem_cons_zero, List.getElem_cons_succ, Act.put, List.setIfInBounds_toArray, List.set_cons_zero, List.set_cons_succ]
              refine wpAnyL_take (i := 7) (v := ?_) rfl (by kernel_rfl) (by kernel_rfl) (by kernel_rfl) (by kernel_rfl) (fun _ _ _ h => h) hS (Or.inl ⟨by rfl, ?_⟩) ?_
              rotate_left 1
              · intro w9 hw9
                obtain ⟨k0, k1⟩ := hw9
                go_simp
                try with_reducible rfl
              simp only [List.getElem_toArray, List.getElem_cons_zero, List.getElem_cons_succ, Act.put, List.setIfInBounds_toArray, List.set_cons_zero, List.set_cons_succ]
              refine wpAnyL_take (i := 8) (v := ?_) rfl (by kernel_rfl) (by kernel_rfl) (by kernel_rfl) (by kernel_rfl) (fun _ _ _ h => h) hS (Or.inl ⟨by rfl, ?_⟩) ?_
              rotate_left 1
              · intro w9 hw9
                obtain ⟨k0, k1⟩ := hw9
                go_simp
                try with_reducible rfl
              simp only [List.getElem_toArray, List.getElem_cons_zero, List.getElem_cons_succ, Act.put, List.setIfInBounds_toArray, List.set_cons_zero, List.set_cons_succ]
              refine wpAnyL_two (i := 9) (j := 13) (by kernel_rfl) rfl rfl (fun K hK => ?_) (fun K hK => ?_)
              · go_simp
                go_at_call 31
                refine (hr1.out _ (v33.trans (Below.drew (Below.refl _ _)))).mono ?_
                rintro e w34 ⟨rfl, hb34⟩
                have hb34' : Below Z3.heap.size Z3 w34 := Below.trans (Below.drew (Below.refl _ _)) hb34
                have y34 := hb34'.size
                refine hK.out _ _ (fun _ => HSS.out w34 hb34') (fun hS' => ?_)
                clear hK K hS' hS hb34
                have hS := HSS.out w34 hb34'
                try simp only [List.getElem_toArray, List.getElem_cons_zero, List.getElem_cons_succ, Act.put, List.setIfInBounds_toArray, List.set_cons_zero, List.set_cons_succ]
                refine wpAnyL_take (i := 10) (v := ?_) rfl (by kernel_rfl) (by kernel_rfl) (by kernel_rfl) (by kernel_rfl) (fun _ _ _ h => h) hS (Or.inl ⟨by rfl, ?_⟩) ?_
                rotate_left 1
                · intro w9 hw9
                  obtain ⟨k0, k1⟩ := hw9
                  go_simp
                  try with_reducible rfl
                simp only [List.getElem_toArray, List.getElem_cons_zero, List.getElem_cons_succ, Act.put, List.setIfInBounds_toArray, List.set_cons_zero, List.set_cons_succ]
                refine wpAnyL_take (i := 11) (v := ?_) rfl (by kernel_rfl) (by kernel_rfl) (by kernel_rfl) (by kernel_rfl) (fun _ _ _ h => h) hS (Or.inl ⟨by rfl, ?_⟩) ?_
                rotate_left 1
                · intro w9 hw9
                  obtain ⟨k0, k1⟩ := hw9
                  go_simp
                  try with_reducible rfl
                simp only [List.getElem_toArray, List.getElem_cons_zero, List.getElem_cons_succ, Act.put, List.setIfInBounds_toArray, List.set_cons_zero, List.set_cons_succ]
                refine wpAnyL_take (i := 12) (v := ?_) rfl (by kernel_rfl) (by kernel_rfl) (by kernel_rfl) (by kernel_rfl) (fun _ _ _ h => h) hS (Or.inl ⟨by rfl, ?_⟩) ?_
                rotate_left 1
                · intro w9 hw9
                  obtain ⟨k0, k1⟩ := hw9
                  go_simp
                  try with_reducible rfl
                simp only [List.getElem_toArray, List.getElem_cons_zero, List.getElem_cons_succ, Act.put, List.setIfInBounds_toArray, List.set_cons_zero, List.set_cons_succ]
                refine wpAnyL_one (i := 13) (by kernel_rfl) rfl (fun K hK => ?_)
                go_simp
                refine hK.out _ _ (fun _ => HSS.out _ (by (repeat first | with_reducible assumption | with_reducible exact Below.refl _ _ | (with_reducible refine Below.alloc ?_ ?side _; case side => (first | omega | (with_reducible exact Below.size (by assumption)) | (simp; done) | (simp; omega))) | (with_reducible refine Below.setCell ?_ ?side _; case side => (first | omega | (with_reducible exact Below.size (by assumption)) | (simp; done) | (simp; omega))) | with_reducible refine Below.drew ?_ | with_reducible refine below_drewN ?_ _ | (with_reducible refine below_step (by assumption) ?side ?_; case side => (first | omega | (with_reducible exact Below.size (by assumption)) | (simp; done) | (simp; omega)))))) (fun hS' => ?_)
                clear hK K hS' hS
                try simp only [List.getElem_toArray, List.getElem_cons_zero, List.getElem_cons_succ, Act.put, List.setIfInBounds_toArray, List.set_cons_zero, List.set_cons_succ]
                refine wpAnyL_one (i := 14) (by kernel_rfl) rfl (fun K hK => ?_)
                go_simp
                refine hK.out _ _ (fun _ => HSS.out _ (by (repeat first | with_reducible assumption | with_reducible exact Below.refl _ _ | (with_reducible refine Below.alloc ?_ ?side _; case side => (first | omega | (with_reducible exact Below.size (by assumption)) | (simp; done) | (simp; omega))) | (with_reducible refine Below.setCell ?_ ?side _; case side => (first | omega | (with_reducible exact Below.size (by assumption)) | (simp; done) | (simp; omega))) | with_reducible refine Below.drew ?_ | with_reducible refine below_drewN ?_ _ | (with_reducible refine below_step (by assumption) ?side ?_; case side => (first | omega | (with_reducible exact Below.size (by assumption)) | (simp; done) | (simp; omega)))))) (fun hS' => ?_)
                clear hK K hS'
                refine wpAnyL_one (i := 15) (by kernel_rfl) rfl (fun K hK => ?_)
                go_simp
                refine hK.out _ _ (fun h => absurd rfl h) (fun _ => ?_)
                refine wpAnyL_done (by kernel_rfl) ?_ _
                clear hK K
                go_upto_region 34 with (fail)
                go_name_world Z4 hZ4
                have KT : Hid (Blk Z4 w34.heap.size 52 #[.int .i64 rl, .int .i64 rh]) := Lib.hid (by rw [← hZ4]; exact Blk.new w34 _ _)
                have hb4 : Below Z3.heap.size Z3 Z4 := by rw [← hZ4]; exact hb34'.alloc y34 _
                have ks := (K3.out.below hb4 K3.out.lt).cell
                have kt := KT.out.cell
                clear hZ4
                go_wp2_with fail
                refine (hwk.out _).mono ?_
                rintro e w99 ⟨rfl, hb99⟩
                go_wp2
                go_ret
                exact ⟨rfl, BX.trans (Below.mono (b6.trans (((v33.trans (hb4.mono y33)).trans (hb99.mono (v33.trans (hb4.mono y33)).size)).mono zZ)) zw)⟩
              · go_simp
                refine hK.out _ _ (fun _ => HSS.out _ (by (repeat first | with_reducible assumption | with_reducible exact Below.refl _ _ | (with_reducible refine Below.alloc ?_ ?side _; case side => (first | omega | (with_reducible exact Below.size (by assumption)) | (simp; done) | (simp; omega))) | (with_reducible refine Below.setCell ?_ ?side _; case side => (first | omega | (with_reducible exact Below.size (by assumption)) | (simp; done) | (simp; omega))) | with_reducible refine Below.drew ?_ | with_reducible refine below_drewN ?_ _ | (with_reducible refine below_step (by assumption) ?side ?_; case side => (first | omega | (with_reducible exact Below.size (by assumption)) | (simp; done) | (simp; omega)))))) (fun hS' => ?_)
                clear hK K hS' hS
                try simp only [List.getElem_toArray, List.getElem_cons_zero, List.getElem_cons_succ, Act.put, List.setIfInBounds_toArray, List.set_cons_zero, List.set_cons_succ]
                refine wpAnyL_one (i := 9) (by kernel_rfl) rfl (fun K hK => ?_)
                go_simp
                go_at_call 31
                refine (hr1.out _ (v33.trans (Below.alloc (Below.drew (Below.refl _ _)) (by simp; omega) _))).mono ?_
                rintro e w34 ⟨rfl, hb34⟩
                have K34 : Hid (Blk w34 Z3.heap.size 52 #[.int .i64 0, .int .i64 0]) := Lib.hid ((Blk.new Z3.drew 52 #[.int .i64 0, .int .i64 0]).below hb34 (by simp))
                have hb34' : Below Z3.heap.size Z3 w34 := Below.trans (Below.alloc (Below.drew (Below.refl _ _)) (Nat.le_refl _) _) (hb34.mono (by simp))
                have y34 := hb34'.size
                refine hK.out _ _ (fun _ => HSS.out w34 hb34') (fun hS' => ?_)
                clear hK K hS' hb34
                have hS := HSS.out w34 hb34'
                try simp only [List.getElem_toArray, List.getElem_cons_zero, List.getElem_cons_succ, Act.put, List.setIfInBounds_toArray, List.set_cons_zero, List.set_cons_succ]
                refine wpAnyL_take (i := 10) (v := ?_) rfl (by kernel_rfl) (by kernel_rfl) (by kernel_rfl) (by kernel_rfl) (fun _ _ _ h => h) hS (Or.inl ⟨by rfl, ?_⟩) ?_
                rotate_left 1
                · intro w9 hw9
                  obtain ⟨k0, k1⟩ := hw9
                  go_simp
                  try with_reducible rfl
                simp only [List.getElem_toArray, List.getElem_cons_zero, List.getElem_cons_succ, Act.put, List.setIfInBounds_toArray, List.set_cons_zero, List.set_cons_succ]
                refine wpAnyL_take (i := 11) (v := ?_) rfl (by kernel_rfl) (by kernel_rfl) (by kernel_rfl) (by kernel_rfl) (fun _ _ _ h => h) hS (Or.inl ⟨by rfl, ?_⟩) ?_
                rotate_left 1
                · intro w9 hw9
                  obtain ⟨k0, k1⟩ := hw9
                  go_simp
                  try with_reducible rfl
                simp only [List.getElem_toArray, List.getElem_cons_zero, List.getElem_cons_succ, Act.put, List.setIfInBounds_toArray, List.set_cons_zero, List.set_cons_succ]
                refine wpAnyL_take (i := 12) (v := ?_) rfl (by kernel_rfl) (by kernel_rfl) (by kernel_rfl) (by kernel_rfl) (fun _ _ _ h => h) hS (Or.inl ⟨by rfl, ?_⟩) ?_
                rotate_left 1
                · intro w9 hw9
                  obtain ⟨k0, k1⟩ := hw9
                  go_simp
                  try with_reducible rfl
                simp only [List.getElem_toArray, List.getElem_cons_zero, List.getElem_cons_succ, Act.put, List.setIfInBounds_toArray, List.set_cons_zero, List.set_cons_succ]
                have kk := K34.out.cell
                have kf' := K34.out.frozen
                refine wpAnyL_one (i := 14) (by kernel_rfl) rfl (fun K hK => ?_)
                go_simp
                refine hK.out _ _ (fun _ => HSS.out _ (by (repeat first | with_reducible assumption | with_reducible exact Below.refl _ _ | (with_reducible refine Below.alloc ?_ ?side _; case side => (first | omega | (with_reducible exact Below.size (by assumption)) | (simp; done) | (simp; omega))) | (with_reducible refine Below.setCell ?_ ?side _; case side => (first | omega | (with_reducible exact Below.size (by assumption)) | (simp; done) | (simp; omega))) | with_reducible refine Below.drew ?_ | with_reducible refine below_drewN ?_ _ | (with_reducible refine below_step (by assumption) ?side ?_; case side => (first | omega | (with_reducible exact Below.size (by assumption)) | (simp; done) | (simp; omega)))))) (fun hS' => ?_)
                clear hK K hS'
                refine wpAnyL_one (i := 15) (by kernel_rfl) rfl (fun K hK => ?_)
                go_simp
                refine hK.out _ _ (fun h => absurd rfl h) (fun _ => ?_)
                refine wpAnyL_done (by kernel_rfl) ?_ _
                clear hK K
                go_upto_region 34 with (fail)
                go_name_world Z4 hZ4
                have KT : Hid (Blk Z4 Z3.heap.size 52 #[.int .i64 rl, .int .i64 rh]) := Lib.hid (by rw [← hZ4]; have h := (K34.out.set_ 0 (.int .i64 rl)).set_ 1 (.int .i64 rh); simpa using h)
                have hb4 : Below Z3.heap.size Z3 Z4 := by rw [← hZ4]; exact ((hb34'.setCell (Nat.le_refl _) _).setCell (Nat.le_refl _) _)
                have ks := (K3.out.below hb4 K3.out.lt).cell
                have kt := KT.out.cell
                clear hZ4 kk kf'
                go_wp2_with fail
                refine (hwk.out _).mono ?_
                rintro e w99 ⟨rfl, hb99⟩
                go_wp2
                go_ret
                exact ⟨rfl, BX.trans (Below.mono (b6.trans (((v33.trans (hb4.mono y33)).trans (hb99.mono (v33.trans (hb4.mono y33)).size)).mono zZ)) zw)⟩

end Go.Proofs.Ytmopnbijfcamjaa
