/- BarsLonger (layer 1): the walk. -/
import Derived.Deep.DeepCutAuto
import Derived.Test.YtmopnbijfcamjaaSq5
import Derived.Test.YtmopnbijfcamjaaPtw1
import Derived.Test.YtmopnbijfcamjaaRst1
namespace Go.Proofs.Ytmopnbijfcamjaa
open Go.RowKit
open Go.Sort (grow)
set_option linter.unusedVariables false

theorem min2_int {x y : Int} : Builtin.min2 (.int .i64 x) (.int .i64 y) = pure (.int .i64 (mn2 x y)) := rfl
theorem max2_int {x y : Int} : Builtin.max2 (.int .i64 x) (.int .i64 y) = pure (.int .i64 (mx2 x y)) := rfl
def mn3 (a b c : Int) : Int := mn2 (mn2 a b) c
def mx3 (a b c : Int) : Int := mx2 (mx2 a b) c
theorem mn3_ge {a b c : Int} (h : ¬ mn3 a b c < 0) : 0 ≤ a ∧ 0 ≤ b ∧ 0 ≤ c := by unfold mn3 mn2 at h; repeat' split at h <;> omega
theorem mx3_le {a b c k : Int} (h : ¬ k < mx3 a b c) : a ≤ k ∧ b ≤ k ∧ c ≤ k := by unfold mx3 mx2 at h; repeat' split at h <;> omega
theorem run_min3 {P : Program} {w : World} (ts : Array TypeId) (t : TypeId) (a b c : Int) : (Builtin.min_ ts t #[.int .i64 a, .int .i64 b, .int .i64 c]).run P w = .ok (.int .i64 (mn3 a b c)) w := by
  simp [Builtin.min_, min2_int, mn3]
theorem run_max3 {P : Program} {w : World} (ts : Array TypeId) (t : TypeId) (a b c : Int) : (Builtin.max_ ts t #[.int .i64 a, .int .i64 b, .int .i64 c]).run P w = .ok (.int .i64 (mx3 a b c)) w := by
  simp [Builtin.max_, max2_int, mx3]
attribute [local go_sem high] run_min3 run_max3
/-- the copy, where the ways by its bar meet -/
def CutB (X : World) (g base mid : Nat) (A1 : Option Addr) (c1 : Nat) (A2 : Option Addr) (c2 nb np : Nat) (kf wrg : Int) (bs : List Br) (ms : List Pm) (ps : List Pc) (wx : World) : Prop :=
  ∃ bs' : List Br, bs'.length = nb ∧ (∀ k, (brAt bs' k).heat = (brAt bs k).heat) ∧ (∀ k, k < nb → (brAt bs k).long ≤ (brAt bs' k).long) ∧
    Blk wx g 25 #[.slice A1 nb c1, .int .i64 kf, .slice A2 np c2, .int .i64 wrg] ∧ wx.ownsRow base 60 2 (.slice A1 nb c1) nb (bs'.flatMap encB) ∧
    OwnPs mid wx (.slice A2 np c2) np ms ps ∧ Below X.heap.size X wx
/-- the copy, where the ways by its piece meet -/
def CutP (X : World) (g : Nat) (A1 : Option Addr) (c1 : Nat) (A2 : Option Addr) (c2 nb np : Nat) (kf kf' wrg : Int) (bs : List Br) (ps : List Pc) (wx : World) : Prop :=
  ∃ bs' ms' ps', LongTo bs ps kf bs' ps' kf' ∧ Blk wx g 25 #[.slice A1 nb c1, .int .i64 kf', .slice A2 np c2, .int .i64 wrg] ∧ BrsAt wx A1 nb bs' ∧ PcsAt wx A2 np ms' ps' ∧ Below X.heap.size X wx
theorem brAt_set {bs : List Br} {x : Br} {p k : Nat} (hp : p < bs.length) : brAt (bs.set p x) k = if p = k then x else brAt bs k := by
  unfold brAt
  rw [List.getD_eq_getElem?_getD, List.getD_eq_getElem?_getD, List.getElem?_set]
  split <;> simp_all
set_option maxRecDepth 100000 in
set_option maxHeartbeats 6400000 in
theorem LongMain_c (Ab Ap : Option Addr) (nb cb np cp : Nat) (kf wrg yb yl yk yp ys : Int) (bs : List Br) (ms : List Pm) (ps : List Pc) (w : World) (HB : BrsAt w Ab nb bs) (HP : PcsAt w Ap np ms ps) (er : rdyS bs ps kf wrg nb np = true)
    (hmn : ¬ mn3 yl yk ys < 0) (hmx : ¬ 999 < mx3 yl yk ys)
    (hrd : Hid (∀ Z, Below w.heap.size w Z → Calls Try.prog 13 #[.agg #[.slice Ab nb cb, .int .i64 kf, .slice Ap np cp, .int .i64 wrg]] Z fun e Z' => e = .returned (.bool true) ∧ Below Z.heap.size Z Z')) :
    Calls Try.prog 7 #[.agg #[.slice Ab nb cb, .int .i64 kf, .slice Ap np cp, .int .i64 wrg], .agg #[.int .i64 yb, .int .i64 yl, .int .i64 yk, .int .i64 yp, .int .i64 ys]] w fun e w' => e = .returned (.bool true) ∧ Below w.heap.size w w' := by
  have hwk := Lib.hid works_c
  obtain ⟨hn4, hp5, h3, hck⟩ := rdyS_ok er
  obtain ⟨l1, l2, l3⟩ := mn3_ge hmn
  obtain ⟨g1, g2, g3⟩ := mx3_le hmx
  have h1 : nb ≤ 40 := by omega
  have h2 : np ≤ 40 := by omega
  have HBI := Lib.hid HB
  have HPI := Lib.hid HP
  have H3 := Lib.hid h3
  have HCK := Lib.hid hck
  have hK := (ckS_vals hck).2.2.1
  have hmB : decide (mn3 yl yk ys < 0) = false := by simpa using hmn
  have hmC : decide (999 < mx3 yl yk ys) = false := by simpa using hmx
  clear er HB HP h3 hck
  go_enter Try.func7, Try.ntmps7
  go_wp2_with fail
  obtain ⟨X, hX⟩ : ∃ X, (w.alloc (.cells #[.slice Ab nb cb, .int .i64 kf, .slice Ap np cp, .int .i64 wrg] 25)).alloc (.cells #[.int .i64 yb, .int .i64 yl, .int .i64 yk, .int .i64 yp, .int .i64 ys] 57) = X := ⟨_, rfl⟩
  rw [hX]
  have BX : Below w.heap.size w X := (al2 hX).1
  have zX : X.heap.size = w.heap.size + 2 := (al2 hX).2
  have P0 := Lib.hid (al2_0 hX).2.1
  have P1 := Lib.hid (al2_1 hX).2.1
  have zw : w.heap.size ≤ X.heap.size := by omega
  have n0 : w.heap.size < X.heap.size := by omega
  have n1 : w.heap.size + 1 < X.heap.size := by omega
  clear hX
  refine (hrd.out X BX).mono ?_
  rintro e w1 ⟨rfl, b1⟩
  have c1_0 := fun j => (b1.cell (p := ⟨w.heap.size, j, none⟩) n0).trans (P0.out j)
  have c1_1 := fun j => (b1.cell (p := ⟨w.heap.size + 1, j, none⟩) n1).trans (P1.out j)
  have z1 := b1.size
  go_wp2_with fail
  refine (Copy_c Ab Ap nb cb np cp kf wrg bs ms ps w1 h1 h2 H3.out (HBI.out.later (BX.trans (b1.mono zw))) (HPI.out.later (BX.trans (b1.mono zw)))).mono ?_
  rintro e w2 ⟨A1, c1, A2, c2, ms', mid, rfl, hO, hb2⟩
  have HO := Lib.hid hO
  have b2 : Below X.heap.size X w2 := b1.trans (hb2.mono z1)
  clear hb2 hO c1_0 c1_1 hmB hmC hmn hmx
  have c2_0 := fun j => (b2.cell (p := ⟨w.heap.size, j, none⟩) n0).trans (P0.out j)
  have c2_1 := fun j => (b2.cell (p := ⟨w.heap.size + 1, j, none⟩) n1).trans (P1.out j)
  have z2 := b2.size
  go_upto_region 4 with (fail)
  go_name_world Y hY
  have KY : Hid (Blk Y w2.heap.size 25 #[.slice A1 nb c1, .int .i64 kf, .slice A2 np c2, .int .i64 wrg]) := Lib.hid (by rw [← hY]; exact Blk.new w2 _ _)
  have bY := (al1 hY).1
  have b4 : Below X.heap.size X Y := b2.trans (bY.mono z2)
  have HOY := Lib.hid (HO.out.later bY)
  clear hY bY c2_0 c2_1
  have cY := KY.out.cell
  have fY := KY.out.frozen
  have lY := KY.out.lt
  obtain ⟨kf', hkf'⟩ : ∃ v, v = kf - yk := ⟨_, rfl⟩
  have hsW : IntKind.i64.wrap (kf - yk) = kf' := by rw [hkf']; exact IntWalk.i64_in _ (by omega)
  have HKF := Lib.hid (show kf' ≤ kf by omega)
  clear hkf'
  have c4_0 := fun j => (b4.cell (p := ⟨w.heap.size, j, none⟩) n0).trans (P0.out j)
  have c4_1 := fun j => (b4.cell (p := ⟨w.heap.size + 1, j, none⟩) n1).trans (P1.out j)
  have z4 := b4.size
  go_upto_region 5 with (fail)
  go_name_world Y1 hY1
  have NE := Lib.hid (fun k (hk : k < np) a (ha : (pmAt ms' k).h.A = some a) => ((HO.out.pcs.inn k hk).2 a ha).2.2)
  have N1 := Lib.hid (fun g (hg : (Value.slice A1 nb c1).ownBlock = some g) => (HO.out.bar.lt g hg).2)
  have N2 := Lib.hid (fun g (hg : (Value.slice A2 np c2).ownBlock = some g) => (HO.out.pcs.own.lt g hg).2)
  have M2 := Lib.hid (fun g (hg : (Value.slice A2 np c2).ownBlock = some g) => (HO.out.pcs.own.lt g hg).1)
  have BM := Lib.hid HO.out.bm
  have hmid := HO.out.mh
  have hmid0 := HO.out.le
  have hBL := HBI.out.1
  have hPL := HPI.out.pl
  have KY1 : Hid (Blk Y1 w2.heap.size 25 #[.slice A1 nb c1, .int .i64 kf', .slice A2 np c2, .int .i64 wrg]) := Lib.hid (by rw [← hY1]; have h := KY.out.set_ 1 (.int .i64 kf'); simpa using h)
  have OB1 : Hid (Y1.ownsRow w1.heap.size 60 2 (.slice A1 nb c1) nb (bs.flatMap encB)) := Lib.hid (by rw [← hY1]; exact own_set HOY.out.bar (fun g hg => by have := N1.out g hg; show g ≠ w2.heap.size; omega))
  have OP1 : Hid (OwnPs mid Y1 (.slice A2 np c2) np ms' ps) := Lib.hid (by
    rw [← hY1]
    exact HOY.out.pcs.other (fun g hg => by have := N2.out g hg; show g ≠ w2.heap.size; omega) (fun k hk a ha => by have := NE.out k hk a ha; show a.block ≠ w2.heap.size; omega) _)
  have b5 : Below X.heap.size X Y1 := by rw [← hY1]; exact b4.setCell (show X.heap.size ≤ w2.heap.size by omega) _
  have hsn : IntKind.i64.wrap ((nb : Int) - 1) = (nb : Int) - 1 := IntWalk.i64_in _ (by omega)
  have zY1 : Y1.heap.size = Y.heap.size := by rw [← hY1]; simp
  have lY1 : w2.heap.size < Y1.heap.size := by omega
  replace zY1 := Lib.hid zY1
  replace hBL := Lib.hid hBL
  replace hPL := Lib.hid hPL
  clear hY1 c4_0 c4_1 cY fY hsW KY b4
  have c5_0 := fun j => (b5.cell (p := ⟨w.heap.size, j, none⟩) n0).trans (P0.out j)
  have c5_1 := fun j => (b5.cell (p := ⟨w.heap.size + 1, j, none⟩) n1).trans (P1.out j)
  have z5 := b5.size
  go_upto_if 56 with (go_at_call 34; refine (Within1_c _ _ _ _).mono ?_; rintro e w' ⟨rfl, rfl⟩)
  go_cut [] (fun wx => CutB X w2.heap.size w1.heap.size mid A1 c1 A2 c2 nb np kf' wrg bs ms' ps wx)
  case first =>
    as_aux_lemma =>
      cases hno : wi yb 0 ((nb : Int) - 1)
      · go_wp2_with fail
        go_meet
        exact ⟨bs, hBL.out, fun _ => rfl, fun _ _ => Int.le_refl _, KY1.out, OB1.out, OP1.out, b5⟩
      · have hin := wi_true.1 hno
        obtain ⟨j, rfl⟩ := Int.eq_ofNat_of_zero_le hin.1
        have hj : j < nb := by omega
        have hv := (ckS_vals HCK.out).2.2.2.2.1 j (by rw [hBL.out]; exact hj)
        obtain ⟨lg, hlg⟩ : ∃ l, (brAt bs j).long = l := ⟨_, rfl⟩
        rw [hlg] at hv
        have hLg := hv.2
        obtain ⟨ga, d1', e2, hga, hga'⟩ := OB1.out.form (by omega)
        injection e2 with e2a e2b e2c
        subst e2a e2c
        have hgm : ga < mid := BM.out ga rfl
        have q0 := KY1.out.cell 0
        have t0 : Y1.cell? ⟨ga, j * 2 + 1, none⟩ = some (.int .i64 lg) := (OB1.out.cellAt (j * 2 + 1) (by omega)).trans ((flat_get (d := (⟨0, 0⟩ : Br)) encB_len bs j 1 (by omega) (by rw [hBL.out]; exact hj)).trans (by rw [← hlg]; rfl))
        have ft := OB1.out.frozenAt (j * 2 + 1)
        have hs6 : IntKind.i64.wrap (lg + yl) = lg + yl := IntWalk.i64_in _ (by omega)
        have hjB : decide ((j : Int) < nb) = true := by simp; omega
        have HLG := Lib.hid hlg
        have hS0 : ∀ W', Below Y1.heap.size Y1 W' → W'.cell? ⟨w2.heap.size, 0, none⟩ = some (.slice (some ⟨ga, 0, none⟩) nb c1) ∧ (∀ i, W'.cell? ⟨w.heap.size + 1, i, none⟩ = #[Value.int .i64 j, .int .i64 yl, .int .i64 yk, .int .i64 yp, .int .i64 ys][i]?) ∧ W'.cell? ⟨ga, j * 2 + 1, none⟩ = some (.int .i64 lg) ∧ W'.frozen? ⟨ga, j * 2 + 1, none⟩ = false := fun W' h =>
          ⟨(h.cell (p := ⟨w2.heap.size, 0, none⟩) lY1).trans q0, fun i => (h.cell (p := ⟨w.heap.size + 1, i, none⟩) (by show w.heap.size + 1 < _; omega)).trans (c5_1 i), (h.cell (p := ⟨ga, j * 2 + 1, none⟩) (by show ga < _; omega)).trans t0, (h.frozen (p := ⟨ga, j * 2 + 1, none⟩) (by show ga < _; omega)).trans ft⟩
        have hS := hS0 Y1.drew (by (repeat first | with_reducible assumption | with_reducible exact Below.refl _ _ | (with_reducible refine Below.alloc ?_ ?side _; case side => (first | omega | (with_reducible exact Below.size (by assumption)) | (simp; done) | (simp; omega))) | (with_reducible refine Below.setCell ?_ ?side _; case side => (first | omega | (with_reducible exact Below.size (by assumption)) | (simp; done) | (simp; omega))) | with_reducible refine Below.drew ?_ | with_reducible refine below_drewN ?_ _ | (with_reducible refine below_step (by assumption) ?side ?_; case side => (first | omega | (with_reducible exact Below.size (by assumption)) | (simp; done) | (simp; omega)))))
        clear hS0 hlg hv q0 t0 ft c5_0 c5_1 e2b hin
        go_upto_region 6 with (fail)
        clear hno
        refine wp_region_L (by kernel_rfl) (fun W' => W'.cell? ⟨w2.heap.size, 0, none⟩ = some (.slice (some ⟨ga, 0, none⟩) nb c1) ∧ (∀ i, W'.cell? ⟨w.heap.size + 1, i, none⟩ = #[Value.int .i64 j, .int .i64 yl, .int .i64 yk, .int .i64 yp, .int .i64 ys][i]?) ∧ W'.cell? ⟨ga, j * 2 + 1, none⟩ = some (.int .i64 lg) ∧ W'.frozen? ⟨ga, j * 2 + 1, none⟩ = false) 12 ?_
        refine wpAnyL_take (i := 0) (v := ?_) rfl (by kernel_rfl) (by kernel_rfl) (by kernel_rfl) (by kernel_rfl) (fun _ _ _ h => h) hS (Or.inl ⟨by rfl, ?_⟩) ?_
        rotate_left 1
        · intro w9 hw9
          obtain ⟨k0, k1, k2, k3⟩ := hw9
          go_simp
          try with_reducible rfl
        simp only [List.getElem_toArray, List.getElem_cons_zero, Act.put, List.setIfInBounds_toArray, List.set_cons_zero, List.set_cons_succ]
        refine wpAnyL_take (i := 1) (v := ?_) rfl (by kernel_rfl) (by kernel_rfl) (by kernel_rfl) (by kernel_rfl) (fun _ _ _ h => h) hS (Or.inl ⟨by rfl, ?_⟩) ?_
        rotate_left 1
        · intro w9 hw9
          obtain ⟨k0, k1, k2, k3⟩ := hw9
          go_simp
          try with_reducible rfl
        simp only [List.getElem_toArray, List.getElem_cons_zero, List.getElem_cons_succ, Act.put, List.setIfInBounds_toArray, List.set_cons_zero, List.set_cons_succ]
        refine wpAnyL_take (i := 2) (v := ?_) rfl (by kernel_rfl) (by kernel_rfl) (by kernel_rfl) (by kernel_rfl) (fun _ _ _ h => h) hS (Or.inl ⟨by rfl, ?_⟩) ?_
        rotate_left 1
        · intro w9 hw9
          obtain ⟨k0, k1, k2, k3⟩ := hw9
          go_simp
          try with_reducible rfl
        simp only [List.getElem_toArray, List.getElem_cons_zero, List.getElem_cons_succ, Act.put, List.setIfInBounds_toArray, List.set_cons_zero, List.set_cons_succ]
        refine wpAnyL_take (i := 3) (v := ?_) rfl (by kernel_rfl) (by kernel_rfl) (by kernel_rfl) (by kernel_rfl) (fun _ _ _ h => h) hS (Or.inl ⟨by rfl, ?_⟩) ?_
        rotate_left 1
        · intro w9 hw9
          obtain ⟨k0, k1, k2, k3⟩ := hw9
          go_simp
          try with_reducible rfl
        simp only [List.getElem_toArray, List.getElem_cons_zero, List.getElem_cons_succ, Act.put, List.setIfInBounds_toArray, List.set_cons_zero, List.set_cons_succ]
        refine wpAnyL_take (i := 4) (v := ?_) rfl (by kernel_rfl) (by kernel_rfl) (by kernel_rfl) (by kernel_rfl) (fun _ _ _ h => h) hS (Or.inl ⟨by rfl, ?_⟩) ?_
        rotate_left 1
        · intro w9 hw9
          obtain ⟨k0, k1, k2, k3⟩ := hw9
          go_simp
          try with_reducible rfl
        simp only [List.getElem_toArray, List.getElem_cons_zero, List.getElem_cons_succ, Act.put, List.setIfInBounds_toArray, List.set_cons_zero, List.set_cons_succ]
        refine wpAnyL_take (i := 5) (v := ?_) rfl (by kernel_rfl) (by kernel_rfl) (by kernel_rfl) (by kernel_rfl) (fun _ _ _ h => h) hS (Or.inl ⟨by rfl, ?_⟩) ?_
        rotate_left 1
        · intro w9 hw9
          obtain ⟨k0, k1, k2, k3⟩ := hw9
          go_simp
          try with_reducible rfl
        simp only [List.getElem_toArray, List.getElem_cons_zero, List.getElem_cons_succ, Act.put, List.setIfInBounds_toArray, List.set_cons_zero, List.set_cons_succ]
        refine wpAnyL_take (i := 6) (v := ?_) rfl (by kernel_rfl) (by kernel_rfl) (by kernel_rfl) (by kernel_rfl) (fun _ _ _ h => h) hS (Or.inl ⟨by rfl, ?_⟩) ?_
        rotate_left 1
        · intro w9 hw9
          obtain ⟨k0, k1, k2, k3⟩ := hw9
          go_simp
          try with_reducible rfl
        simp only [List.getElem_toArray, List.getElem_cons_zero, List.getElem_cons_succ, Act.put, List.setIfInBounds_toArray, List.set_cons_zero, List.set_cons_succ]
        refine wpAnyL_take (i := 7) (v := ?_) rfl (by kernel_rfl) (by kernel_rfl) (by kernel_rfl) (by kernel_rfl) (fun _ _ _ h => h) hS (Or.inl ⟨by rfl, ?_⟩) ?_
        rotate_left 1
        · intro w9 hw9
          obtain ⟨k0, k1, k2, k3⟩ := hw9
          go_simp
          try with_reducible rfl
        simp only [List.getElem_toArray, List.getElem_cons_zero, List.getElem_cons_succ, Act.put, List.setIfInBounds_toArray, List.set_cons_zero, List.set_cons_succ]
        refine wpAnyL_take (i := 8) (v := ?_) rfl (by kernel_rfl) (by kernel_rfl) (by kernel_rfl) (by kernel_rfl) (fun _ _ _ h => h) hS (Or.inl ⟨by rfl, ?_⟩) ?_
        rotate_left 1
        · intro w9 hw9
          obtain ⟨k0, k1, k2, k3⟩ := hw9
          go_simp
          try with_reducible rfl
        simp only [List.getElem_toArray, List.getElem_cons_zero, List.getElem_cons_succ, Act.put, List.setIfInBounds_toArray, List.set_cons_zero, List.set_cons_succ]
        refine wpAnyL_take (i := 9) (v := ?_) rfl (by kernel_rfl) (by kernel_rfl) (by kernel_rfl) (by kernel_rfl) (fun _ _ _ h => h) hS (Or.inl ⟨by rfl, ?_⟩) ?_
        rotate_left 1
        · intro w9 hw9
          obtain ⟨k0, k1, k2, k3⟩ := hw9
          go_simp
          try with_reducible rfl
        simp only [List.getElem_toArray, List.getElem_cons_zero, List.getElem_cons_succ, Act.put, List.setIfInBounds_toArray, List.set_cons_zero, List.set_cons_succ]
        refine wpAnyL_one (i := 10) (by kernel_rfl) rfl (fun K hK => ?_)
        go_simp
        refine hK.out _ _ (fun _ => hS) (fun hS' => ?_)
        clear hK K hS'
        refine wpAnyL_one (i := 11) (by kernel_rfl) rfl (fun K hK => ?_)
        go_simp
        refine hK.out _ _ (fun _ => hS) (fun hS' => ?_)
        clear hK K hS'
        obtain ⟨-, -, d2, f2⟩ := hS
        refine wpAnyL_one (i := 12) (by kernel_rfl) rfl (fun K hK => ?_)
        go_simp
        refine hK.out _ _ (fun h => absurd rfl h) (fun _ => ?_)
        refine wpAnyL_done (by kernel_rfl) ?_ _
        clear hK K
        have bd : Below Y1.heap.size Y1 Y1.drew := by (repeat first | with_reducible assumption | with_reducible exact Below.refl _ _ | (with_reducible refine Below.alloc ?_ ?side _; case side => (first | omega | (with_reducible exact Below.size (by assumption)) | (simp; done) | (simp; omega))) | (with_reducible refine Below.setCell ?_ ?side _; case side => (first | omega | (with_reducible exact Below.size (by assumption)) | (simp; done) | (simp; omega))) | with_reducible refine Below.drew ?_ | with_reducible refine below_drewN ?_ _ | (with_reducible refine below_step (by assumption) ?side ?_; case side => (first | omega | (with_reducible exact Below.size (by assumption)) | (simp; done) | (simp; omega))))
        go_wp2_with fail
        go_meet
        have hO1 : (Y1.drew.setCell ⟨ga, j * 2 + 1, none⟩ (.int .i64 (lg + yl))).ownsRow w1.heap.size 60 2 (.slice (some ⟨ga, 0, none⟩) nb c1) nb ((bs.set j ⟨(brAt bs j).heat, lg + yl⟩).flatMap encB) := by
          have a1 := ((own_below OB1.out bd).stored (j * 2 + 1) (.int .i64 (lg + yl))).1
          rw [flat_set encB_len bs j 1 ⟨(brAt bs j).heat, lg + yl⟩ (⟨0, 0⟩ : Br) _ (by rw [hBL.out]; exact hj) (by omega) rfl] at a1
          exact a1
        refine ⟨bs.set j ⟨(brAt bs j).heat, lg + yl⟩, by simp [hBL.out], fun k => ?_, fun k hk => ?_, ?_, hO1, ?_, ?_⟩
        · rw [brAt_set (by rw [hBL.out]; exact hj)]
          split
          · rename_i e; subst e; rfl
          · rfl
        · rw [brAt_set (by rw [hBL.out]; exact hj)]
          split
          · rename_i e; subst e; rw [HLG.out]; show lg ≤ lg + yl; omega
          · exact Int.le_refl _
        · exact (KY1.out.below bd lY1).far (p := ⟨ga, j * 2 + 1, none⟩) (by show w2.heap.size ≠ ga; omega) _
        · exact (OP1.out.later bd).far (p := ⟨ga, j * 2 + 1, none⟩) hgm _
        · exact (b5.trans (bd.mono (by omega))).setCell (show X.heap.size ≤ ga by omega) _
  case rest =>
    obtain ⟨bs1, e1, e2, e3, kc, oc, pc, b6⟩ := hcut
    have E1 := Lib.hid e1
    have E2 := Lib.hid e2
    have E3 := Lib.hid e3
    have KC := Lib.hid kc
    have OC := Lib.hid oc
    have PC := Lib.hid pc
    clear e1 e2 e3 kc oc pc c5_0 c5_1 hsn lY1 zY1 KY1 OB1 OP1 b5 HOY lY b2 b1
    have c6_0 := fun j => (b6.cell (p := ⟨w.heap.size, j, none⟩) n0).trans (P0.out j)
    have c6_1 := fun j => (b6.cell (p := ⟨w.heap.size + 1, j, none⟩) n1).trans (P1.out j)
    have z6 := b6.size
    go_upto_if 72 with (go_at_call 14; refine (IsPiece_c Ab Ap nb cb np cp kf wrg yp _ h2).mono ?_; rintro e wd ⟨rfl, hbd⟩)
    have b7 : Below X.heap.size X wd := b6.trans (hbd.mono z6)
    have lC := KC.out.lt
    have KD := Lib.hid (KC.out.below hbd lC)
    have OD := Lib.hid (own_below OC.out hbd)
    have PD := Lib.hid (PC.out.later hbd)
    have zd := hbd.size
    have lD : w2.heap.size < wd.heap.size := by omega
    clear hbd c6_0 c6_1 KC OC PC b6
    have c7_0 := fun j => (b7.cell (p := ⟨w.heap.size, j, none⟩) n0).trans (P0.out j)
    have c7_1 := fun j => (b7.cell (p := ⟨w.heap.size + 1, j, none⟩) n1).trans (P1.out j)
    have z7 := b7.size
    go_cut [] (fun wx => CutP X w2.heap.size A1 c1 A2 c2 nb np kf kf' wrg bs ps wx)
    case first =>
      as_aux_lemma =>
        cases hno : wi yp 0 ((np : Int) - 1)
        · go_wp2_with fail
          go_meet
          obtain ⟨_, _, e, hp6⟩ := PD.out.at_
          cases e
          exact ⟨bs1, ms', ps, ⟨by rw [E1.out, hBL.out], rfl, E2.out, fun k hk => E3.out k (by rw [← hBL.out]; exact hk), fun _ _ => rfl, fun _ _ => Int.le_refl _, HKF.out⟩, KD.out, sl_of_own encB_len OD.out E1.out, hp6, b7⟩
        · have hin := wi_true.1 hno
          obtain ⟨q, rfl⟩ := Int.eq_ofNat_of_zero_le hin.1
          have hq : q < np := by omega
          have hv := (ckS_vals HCK.out).2.2.2.2.2 q (by rw [hPL.out]; exact hq)
          obtain ⟨lg, hlg⟩ : ∃ l, (pcAt ps q).long = l := ⟨_, rfl⟩
          rw [hlg] at hv
          have hLg := hv.1
          obtain ⟨ga, d1', e2', hga, hga'⟩ := PD.out.own.form (by omega)
          injection e2' with e2a e2b e2c
          subst e2a e2c
          have hgm : ga < w2.heap.size := N2.out ga rfl
          have q0 := KD.out.cell 2
          have t0 : wd.cell? ⟨ga, q * 2, none⟩ = some (.int .i64 lg) := (PD.out.own.cellAt (q * 2) (by omega)).trans ((flat_get (d := (⟨0, ⟨none, 0, 0⟩⟩ : Pm)) encP_len ms' q 0 (by omega) (by rw [PD.out.ml]; exact hq)).trans (by rw [← hlg, ← PD.out.lg q hq]; rfl))
          have ft := PD.out.own.frozenAt (q * 2)
          have hs6 : IntKind.i64.wrap (lg - ys) = lg - ys := IntWalk.i64_in _ (by omega)
          have hjB : decide ((q : Int) < np) = true := by simp; omega
          have HLG := Lib.hid hlg
          have hS0 : ∀ W', Below wd.heap.size wd W' → W'.cell? ⟨w2.heap.size, 2, none⟩ = some (.slice (some ⟨ga, 0, none⟩) np c2) ∧ (∀ i, W'.cell? ⟨w.heap.size + 1, i, none⟩ = #[Value.int .i64 yb, .int .i64 yl, .int .i64 yk, .int .i64 q, .int .i64 ys][i]?) ∧ W'.cell? ⟨ga, q * 2, none⟩ = some (.int .i64 lg) ∧ W'.frozen? ⟨ga, q * 2, none⟩ = false := fun W' h =>
            ⟨(h.cell (p := ⟨w2.heap.size, 2, none⟩) lD).trans q0, fun i => (h.cell (p := ⟨w.heap.size + 1, i, none⟩) (by show w.heap.size + 1 < _; omega)).trans (c7_1 i), (h.cell (p := ⟨ga, q * 2, none⟩) (by show ga < _; omega)).trans t0, (h.frozen (p := ⟨ga, q * 2, none⟩) (by show ga < _; omega)).trans ft⟩
          have hS := hS0 wd.drew (by (repeat first | with_reducible assumption | with_reducible exact Below.refl _ _ | (with_reducible refine Below.alloc ?_ ?side _; case side => (first | omega | (with_reducible exact Below.size (by assumption)) | (simp; done) | (simp; omega))) | (with_reducible refine Below.setCell ?_ ?side _; case side => (first | omega | (with_reducible exact Below.size (by assumption)) | (simp; done) | (simp; omega))) | with_reducible refine Below.drew ?_ | with_reducible refine below_drewN ?_ _ | (with_reducible refine below_step (by assumption) ?side ?_; case side => (first | omega | (with_reducible exact Below.size (by assumption)) | (simp; done) | (simp; omega)))))
          clear hS0 hlg hv q0 t0 ft c7_0 c7_1 e2b hin
          go_upto_region 8 with (fail)
          clear hno
          refine wp_region_L (by kernel_rfl) (fun W' => W'.cell? ⟨w2.heap.size, 2, none⟩ = some (.slice (some ⟨ga, 0, none⟩) np c2) ∧ (∀ i, W'.cell? ⟨w.heap.size + 1, i, none⟩ = #[Value.int .i64 yb, .int .i64 yl, .int .i64 yk, .int .i64 q, .int .i64 ys][i]?) ∧ W'.cell? ⟨ga, q * 2, none⟩ = some (.int .i64 lg) ∧ W'.frozen? ⟨ga, q * 2, none⟩ = false) 12 ?_
          refine wpAnyL_take (i := 0) (v := ?_) rfl (by kernel_rfl) (by kernel_rfl) (by kernel_rfl) (by kernel_rfl) (fun _ _ _ h => h) hS (Or.inl ⟨by rfl, ?_⟩) ?_
          rotate_left 1
          · intro w9 hw9
            obtain ⟨k0, k1, k2, k3⟩ := hw9
            go_simp
            try with_reducible rfl
          simp only [List.getElem_toArray, List.getElem_cons_zero, Act.put, List.setIfInBounds_toArray, List.set_cons_zero, List.set_cons_succ]
          refine wpAnyL_take (i := 1) (v := ?_) rfl (by kernel_rfl) (by kernel_rfl) (by kernel_rfl) (by kernel_rfl) (fun _ _ _ h => h) hS (Or.inl ⟨by rfl, ?_⟩) ?_
          rotate_left 1
          · intro w9 hw9
            obtain ⟨k0, k1, k2, k3⟩ := hw9
            go_simp
            try with_reducible rfl
          simp only [List.getElem_toArray, List.getElem_cons_zero, List.getElem_cons_succ, Act.put, List.setIfInBounds_toArray, List.set_cons_zero, List.set_cons_succ]
          refine wpAnyL_take (i := 2) (v := ?_) rfl (by kernel_rfl) (by kernel_rfl) (by kernel_rfl) (by kernel_rfl) (fun _ _ _ h => h) hS (Or.inl ⟨by rfl, ?_⟩) ?_
          rotate_left 1
          · intro w9 hw9
            obtain ⟨k0, k1, k2, k3⟩ := hw9
            go_simp
            try with_reducible rfl
          simp only [List.getElem_toArray, List.getElem_cons_zero, List.getElem_cons_succ, Act.put, List.setIfInBounds_toArray, List.set_cons_zero, List.set_cons_succ]
          refine wpAnyL_take (i := 3) (v := ?_) rfl (by kernel_rfl) (by kernel_rfl) (by kernel_rfl) (by kernel_rfl) (fun _ _ _ h => h) hS (Or.inl ⟨by rfl, ?_⟩) ?_
          rotate_left 1
          · intro w9 hw9
            obtain ⟨k0, k1, k2, k3⟩ := hw9
            go_simp
            try with_reducible rfl
          simp only [List.getElem_toArray, List.getElem_cons_zero, List.getElem_cons_succ, Act.put, List.setIfInBounds_toArray, List.set_cons_zero, List.set_cons_succ]
          refine wpAnyL_take (i := 4) (v := ?_) rfl (by kernel_rfl) (by kernel_rfl) (by kernel_rfl) (by kernel_rfl) (fun _ _ _ h => h) hS (Or.inl ⟨by rfl, ?_⟩) ?_
          rotate_left 1
          · intro w9 hw9
            obtain ⟨k0, k1, k2, k3⟩ := hw9
            go_simp
            try with_reducible rfl
          simp only [List.getElem_toArray, List.getElem_cons_zero, List.getElem_cons_succ, Act.put, List.setIfInBounds_toArray, List.set_cons_zero, List.set_cons_succ]
          refine wpAnyL_take (i := 5) (v := ?_) rfl (by kernel_rfl) (by kernel_rfl) (by kernel_rfl) (by kernel_rfl) (fun _ _ _ h => h) hS (Or.inl ⟨by rfl, ?_⟩) ?_
          rotate_left 1
          · intro w9 hw9
            obtain ⟨k0, k1, k2, k3⟩ := hw9
            go_simp
            try with_reducible rfl
          simp only [List.getElem_toArray, List.getElem_cons_zero, List.getElem_cons_succ, Act.put, List.setIfInBounds_toArray, List.set_cons_zero, List.set_cons_succ]
          refine wpAnyL_take (i := 6) (v := ?_) rfl (by kernel_rfl) (by kernel_rfl) (by kernel_rfl) (by kernel_rfl) (fun _ _ _ h => h) hS (Or.inl ⟨by rfl, ?_⟩) ?_
          rotate_left 1
          · intro w9 hw9
            obtain ⟨k0, k1, k2, k3⟩ := hw9
            go_simp
            try with_reducible rfl
          simp only [List.getElem_toArray, List.getElem_cons_zero, List.getElem_cons_succ, Act.put, List.setIfInBounds_toArray, List.set_cons_zero, List.set_cons_succ]
          refine wpAnyL_take (i := 7) (v := ?_) rfl (by kernel_rfl) (by kernel_rfl) (by kernel_rfl) (by kernel_rfl) (fun _ _ _ h => h) hS (Or.inl ⟨by rfl, ?_⟩) ?_
          rotate_left 1
          · intro w9 hw9
            obtain ⟨k0, k1, k2, k3⟩ := hw9
            go_simp
            try with_reducible rfl
          simp only [List.getElem_toArray, List.getElem_cons_zero, List.getElem_cons_succ, Act.put, List.setIfInBounds_toArray, List.set_cons_zero, List.set_cons_succ]
          refine wpAnyL_take (i := 8) (v := ?_) rfl (by kernel_rfl) (by kernel_rfl) (by kernel_rfl) (by kernel_rfl) (fun _ _ _ h => h) hS (Or.inl ⟨by rfl, ?_⟩) ?_
          rotate_left 1
          · intro w9 hw9
            obtain ⟨k0, k1, k2, k3⟩ := hw9
            go_simp
            try with_reducible rfl
          simp only [List.getElem_toArray, List.getElem_cons_zero, List.getElem_cons_succ, Act.put, List.setIfInBounds_toArray, List.set_cons_zero, List.set_cons_succ]
          refine wpAnyL_take (i := 9) (v := ?_) rfl (by kernel_rfl) (by kernel_rfl) (by kernel_rfl) (by kernel_rfl) (fun _ _ _ h => h) hS (Or.inl ⟨by rfl, ?_⟩) ?_
          rotate_left 1
          · intro w9 hw9
            obtain ⟨k0, k1, k2, k3⟩ := hw9
            go_simp
            try with_reducible rfl
          simp only [List.getElem_toArray, List.getElem_cons_zero, List.getElem_cons_succ, Act.put, List.setIfInBounds_toArray, List.set_cons_zero, List.set_cons_succ]
          refine wpAnyL_one (i := 10) (by kernel_rfl) rfl (fun K hK => ?_)
          go_simp
          refine hK.out _ _ (fun _ => hS) (fun hS' => ?_)
          clear hK K hS'
          refine wpAnyL_one (i := 11) (by kernel_rfl) rfl (fun K hK => ?_)
          go_simp
          refine hK.out _ _ (fun _ => hS) (fun hS' => ?_)
          clear hK K hS'
          obtain ⟨-, -, d2, f2⟩ := hS
          refine wpAnyL_one (i := 12) (by kernel_rfl) rfl (fun K hK => ?_)
          go_simp
          refine hK.out _ _ (fun h => absurd rfl h) (fun _ => ?_)
          refine wpAnyL_done (by kernel_rfl) ?_ _
          clear hK K
          have bd : Below wd.heap.size wd wd.drew := by (repeat first | with_reducible assumption | with_reducible exact Below.refl _ _ | (with_reducible refine Below.alloc ?_ ?side _; case side => (first | omega | (with_reducible exact Below.size (by assumption)) | (simp; done) | (simp; omega))) | (with_reducible refine Below.setCell ?_ ?side _; case side => (first | omega | (with_reducible exact Below.size (by assumption)) | (simp; done) | (simp; omega))) | with_reducible refine Below.drew ?_ | with_reducible refine below_drewN ?_ _ | (with_reducible refine below_step (by assumption) ?side ?_; case side => (first | omega | (with_reducible exact Below.size (by assumption)) | (simp; done) | (simp; omega))))
          go_wp2_with fail
          go_meet
          have hP1 := (PD.out.later bd).setLong (y := lg - ys) hq
          obtain ⟨_, _, e, hp6⟩ := hP1.at_
          cases e
          refine ⟨bs1, _, _, ⟨by rw [E1.out, hBL.out], by simp, E2.out, fun k hk => E3.out k (by rw [← hBL.out]; exact hk), fun k _ => ?_, fun k _ => ?_, HKF.out⟩, ?_, ?_, hp6, ?_⟩
          · rw [pcAt_set (by rw [hPL.out]; exact hq)]
            split
            · rename_i e; subst e; rfl
            · rfl
          · rw [pcAt_set (by rw [hPL.out]; exact hq)]
            split
            · rename_i e; subst e; rw [HLG.out]; show lg - ys ≤ lg; omega
            · exact Int.le_refl _
          · exact (KD.out.below bd lD).far (p := ⟨ga, q * 2, none⟩) (by show w2.heap.size ≠ ga; omega) _
          · exact sl_of_own encB_len (own_set (own_below OD.out bd) (fun g hg => by have := BM.out g hg; show g ≠ ga; omega)) E1.out
          · exact (b7.trans (bd.mono (by omega))).setCell (show X.heap.size ≤ ga by omega) _
    case rest =>
      obtain ⟨bs2, ms2, ps2, HLT, kz, hbz, hpz, bZ⟩ := hcut
      obtain ⟨Z, hZ⟩ : ∃ Z, wc = Z := ⟨_, rfl⟩
      rw [hZ] at kz hbz hpz bZ ⊢
      have KZ := Lib.hid kz
      have HBZ := Lib.hid hbz
      have HPZ := Lib.hid hpz
      have HLT' := Lib.hid HLT
      clear hZ kz hbz hpz HLT c7_0 c7_1 KD OD PD b7 lD zd lC E1 E2 E3 BM M2 N1 N2 NE HO hmid hmid0
      have PZ := Lib.hid (fun j => (bZ.cell (p := ⟨w.heap.size, j, none⟩) n0).trans (P0.out j))
      have PZ1 := Lib.hid (fun j => (bZ.cell (p := ⟨w.heap.size + 1, j, none⟩) n1).trans (P1.out j))
      have zZ := bZ.size
      have N0 : w.heap.size < Z.heap.size := by omega
      have N1' : w.heap.size + 1 < Z.heap.size := by omega
      have Ng : w2.heap.size < Z.heap.size := KZ.out.lt
      have hw : ∀ V, Below Z.heap.size Z V → Below w.heap.size w V := fun V hV => BX.trans ((bZ.trans (hV.mono zZ)).mono zw)
      have hrz : Hid (∀ V, Below Z.heap.size Z V → Calls Try.prog 13 #[.agg #[.slice A1 nb c1, .int .i64 kf', .slice A2 np c2, .int .i64 wrg]] V fun e V' => e = .returned (.bool (rdyS bs2 ps2 kf' wrg nb np)) ∧ Below V.heap.size V V') :=
        Lib.hid fun V hV => ready_c A1 A2 nb c1 np c2 kf' wrg bs2 _ _ V (HBZ.out.later hV) (HPZ.out.later hV)
      have hm1 : Hid (∀ V, Below Z.heap.size Z V → Calls Try.prog 17 #[.agg #[.slice Ab nb cb, .int .i64 kf, .slice Ap np cp, .int .i64 wrg]] V fun e V' => e = .returned (.tuple #[.int .i64 (manyR bs ps kf wrg), .int .i64 (askE bs ps kf wrg true)]) ∧ Below V.heap.size V V') := Lib.hid fun V hV =>
        many_c Ab Ap nb cb np cp kf wrg bs ms ps V h1 h2 H3.out (HBI.out.later (hw V hV)) (HPI.out.later (hw V hV))
      have hf1 : Hid (∀ V, Below Z.heap.size Z V → Calls Try.prog 35 #[.agg #[.slice Ab nb cb, .int .i64 kf, .slice Ap np cp, .int .i64 wrg]] V fun e V' => e = .returned (.tuple #[.int .i64 (fewP bs ps kf wrg).1, .int .i64 (fewP bs ps kf wrg).2]) ∧ Below V.heap.size V V') := Lib.hid fun V hV =>
        fewest_c Ab Ap nb cb np cp kf wrg bs ms ps V h1 h2 H3.out (HBI.out.later (hw V hV)) (HPI.out.later (hw V hV))
      have hl1 : Hid (∀ V, Below Z.heap.size Z V → Calls Try.prog 23 #[.agg #[.slice Ab nb cb, .int .i64 kf, .slice Ap np cp, .int .i64 wrg]] V fun e V' => e = .returned (.tuple #[.int .i64 (leastP bs ps kf wrg), .int .i64 (askE bs ps kf wrg true)]) ∧ Below V.heap.size V V') := Lib.hid fun V hV =>
        least_c Ab Ap nb cb np cp kf wrg bs ms ps V h1 h2 H3.out (HBI.out.later (hw V hV)) (HPI.out.later (hw V hV))
      clear hw
      have v0 := Below.refl Z.heap.size Z
      have c0_0 := fun j => (v0.cell (p := ⟨w.heap.size, j, none⟩) N0).trans (PZ.out j)
      have c0_1 := fun j => (v0.cell (p := ⟨w.heap.size + 1, j, none⟩) N1').trans (PZ1.out j)
      have c0_g := fun j => (v0.cell (p := ⟨w2.heap.size, j, none⟩) Ng).trans (KZ.out.cell j)
      have y0 := v0.size
      go_wp2_with fail
      refine (hrz.out _ v0).mono ?_
      rintro e u1 ⟨rfl, hv1⟩
      have v1 : Below Z.heap.size Z u1 := v0.trans (hv1.mono y0)
      clear hv1 c0_0 c0_1 c0_g
      have c1_0 := fun j => (v1.cell (p := ⟨w.heap.size, j, none⟩) N0).trans (PZ.out j)
      have c1_1 := fun j => (v1.cell (p := ⟨w.heap.size + 1, j, none⟩) N1').trans (PZ1.out j)
      have c1_g := fun j => (v1.cell (p := ⟨w2.heap.size, j, none⟩) Ng).trans (KZ.out.cell j)
      have y1 := v1.size
      cases er2 : rdyS bs2 ps2 kf' wrg nb np
      · go_wp2_with fail
        refine (hwk.out _).mono ?_
        rintro e w99 ⟨rfl, hb99⟩
        go_wp2
        go_ret
        exact ⟨rfl, BX.trans (Below.mono (bZ.trans ((v1.trans (hb99.mono y1)).mono zZ)) zw)⟩
      obtain ⟨-, -, h3', hck'⟩ := rdyS_ok er2
      obtain ⟨hA, hB⟩ := longer_law HLT'.out HCK.out hck'
      have hm2 : Hid (∀ V, Below Z.heap.size Z V → Calls Try.prog 17 #[.agg #[.slice A1 nb c1, .int .i64 kf', .slice A2 np c2, .int .i64 wrg]] V fun e V' => e = .returned (.tuple #[.int .i64 (manyR bs2 ps2 kf' wrg), .int .i64 (askE bs2 ps2 kf' wrg true)]) ∧ Below V.heap.size V V') := Lib.hid fun V hV =>
        many_c A1 A2 nb c1 np c2 kf' wrg bs2 _ _ V h1 h2 h3' (HBZ.out.later hV) (HPZ.out.later hV)
      have hf2 : Hid (∀ V, Below Z.heap.size Z V → Calls Try.prog 35 #[.agg #[.slice A1 nb c1, .int .i64 kf', .slice A2 np c2, .int .i64 wrg]] V fun e V' => e = .returned (.tuple #[.int .i64 (fewP bs2 ps2 kf' wrg).1, .int .i64 (fewP bs2 ps2 kf' wrg).2]) ∧ Below V.heap.size V V') := Lib.hid fun V hV =>
        fewest_c A1 A2 nb c1 np c2 kf' wrg bs2 _ _ V h1 h2 h3' (HBZ.out.later hV) (HPZ.out.later hV)
      have hl2 : Hid (∀ V, Below Z.heap.size Z V → Calls Try.prog 23 #[.agg #[.slice A1 nb c1, .int .i64 kf', .slice A2 np c2, .int .i64 wrg]] V fun e V' => e = .returned (.tuple #[.int .i64 (leastP bs2 ps2 kf' wrg), .int .i64 (askE bs2 ps2 kf' wrg true)]) ∧ Below V.heap.size V V') := Lib.hid fun V hV =>
        least_c A1 A2 nb c1 np c2 kf' wrg bs2 _ _ V h1 h2 h3' (HBZ.out.later hV) (HPZ.out.later hV)
      clear er2 h3' hck' hrz
      generalize r1 : manyR bs ps kf wrg = ma at hm1 hA
      generalize r2 : askE bs ps kf wrg true = ea at hm1 hl1 hA
      generalize r3 : manyR bs2 ps2 kf' wrg = mb at hm2 hA
      generalize r4 : askE bs2 ps2 kf' wrg true = eb at hm2 hl2 hA
      generalize r5 : leastP bs ps kf wrg = la at hl1 hA
      generalize r6 : leastP bs2 ps2 kf' wrg = lb at hl2 hA
      generalize r7 : (fewP bs ps kf wrg).1 = fa at hf1 hB
      generalize r8 : (fewP bs ps kf wrg).2 = ga at hf1 hB
      generalize r9 : (fewP bs2 ps2 kf' wrg).1 = fb at hf2 hB
      generalize r0 : (fewP bs2 ps2 kf' wrg).2 = gb at hf2 hB
      have HA := Lib.hid hA
      have HB' := Lib.hid hB
      clear r0 r1 r2 r3 r4 r5 r6 r7 r8 r9 hA hB
      have ik0 : ∀ V : World, Calls Try.prog 18 #[.int .i64 0] V fun x V' => x = .returned (.bool true) ∧ V = V' := fun V => isKnown_c 0 V
      have ik3 : ∀ V : World, Calls Try.prog 18 #[.int .i64 3] V fun x V' => x = .returned (.bool true) ∧ V = V' := fun V => isKnown_c 3 V
      replace ik0 := Lib.hid ik0
      replace ik3 := Lib.hid ik3
      go_wp2_with fail
      refine (hm1.out _ v1).mono ?_
      rintro e u2 ⟨rfl, hv2⟩
      have v2 : Below Z.heap.size Z u2 := v1.trans (hv2.mono y1)
      clear hv2 c1_0 c1_1 c1_g
      have c2_0 := fun j => (v2.cell (p := ⟨w.heap.size, j, none⟩) N0).trans (PZ.out j)
      have c2_1 := fun j => (v2.cell (p := ⟨w.heap.size + 1, j, none⟩) N1').trans (PZ1.out j)
      have c2_g := fun j => (v2.cell (p := ⟨w2.heap.size, j, none⟩) Ng).trans (KZ.out.cell j)
      have y2 := v2.size
      go_wp2_with fail
      refine (hm2.out _ v2).mono ?_
      rintro e u3 ⟨rfl, hv3⟩
      have v3 : Below Z.heap.size Z u3 := v2.trans (hv3.mono y2)
      clear hv3 c2_0 c2_1 c2_g
      have c3_0 := fun j => (v3.cell (p := ⟨w.heap.size, j, none⟩) N0).trans (PZ.out j)
      have c3_1 := fun j => (v3.cell (p := ⟨w.heap.size + 1, j, none⟩) N1').trans (PZ1.out j)
      have c3_g := fun j => (v3.cell (p := ⟨w2.heap.size, j, none⟩) Ng).trans (KZ.out.cell j)
      have y3 := v3.size
      go_wp2_with fail
      refine (hf1.out _ v3).mono ?_
      rintro e u4 ⟨rfl, hv4⟩
      have v4 : Below Z.heap.size Z u4 := v3.trans (hv4.mono y3)
      clear hv4 c3_0 c3_1 c3_g
      have c4_0 := fun j => (v4.cell (p := ⟨w.heap.size, j, none⟩) N0).trans (PZ.out j)
      have c4_1 := fun j => (v4.cell (p := ⟨w.heap.size + 1, j, none⟩) N1').trans (PZ1.out j)
      have c4_g := fun j => (v4.cell (p := ⟨w2.heap.size, j, none⟩) Ng).trans (KZ.out.cell j)
      have y4 := v4.size
      go_wp2_with fail
      refine (hf2.out _ v4).mono ?_
      rintro e u5 ⟨rfl, hv5⟩
      have v5 : Below Z.heap.size Z u5 := v4.trans (hv5.mono y4)
      clear hv5 c4_0 c4_1 c4_g
      have c5_0 := fun j => (v5.cell (p := ⟨w.heap.size, j, none⟩) N0).trans (PZ.out j)
      have c5_1 := fun j => (v5.cell (p := ⟨w.heap.size + 1, j, none⟩) N1').trans (PZ1.out j)
      have c5_g := fun j => (v5.cell (p := ⟨w2.heap.size, j, none⟩) Ng).trans (KZ.out.cell j)
      have y5 := v5.size
      go_wp2_with fail
      refine (hl1.out _ v5).mono ?_
      rintro e u6 ⟨rfl, hv6⟩
      have v6 : Below Z.heap.size Z u6 := v5.trans (hv6.mono y5)
      clear hv6 c5_0 c5_1 c5_g
      have c6_0 := fun j => (v6.cell (p := ⟨w.heap.size, j, none⟩) N0).trans (PZ.out j)
      have c6_1 := fun j => (v6.cell (p := ⟨w.heap.size + 1, j, none⟩) N1').trans (PZ1.out j)
      have c6_g := fun j => (v6.cell (p := ⟨w2.heap.size, j, none⟩) Ng).trans (KZ.out.cell j)
      have y6 := v6.size
      go_wp2_with fail
      refine (hl2.out _ v6).mono ?_
      rintro e u7 ⟨rfl, hv7⟩
      have v7 : Below Z.heap.size Z u7 := v6.trans (hv7.mono y6)
      clear hv7 c6_0 c6_1 c6_g
      have c7_0 := fun j => (v7.cell (p := ⟨w.heap.size, j, none⟩) N0).trans (PZ.out j)
      have c7_1 := fun j => (v7.cell (p := ⟨w.heap.size + 1, j, none⟩) N1').trans (PZ1.out j)
      have c7_g := fun j => (v7.cell (p := ⟨w2.heap.size, j, none⟩) Ng).trans (KZ.out.cell j)
      have y7 := v7.size
      have hA := HA.out
      have hB := HB'.out
      clear HA HB' hm1 hm2 hf1 hf2 hl1 hl2
      rcases hA with ⟨rfl, rfl | rfl⟩ | ⟨rfl, rfl, hge, hle⟩ <;> rcases hB with ⟨rfl, rfl | rfl⟩ | ⟨rfl, rfl, hdc⟩
      all_goals
        try have hgeB : decide (ma ≤ mb) = true := by simpa using hge
        try have hleB : decide (lb ≤ la) = true := by simpa using hle
        try have hdcB : decide (fb ≤ fa) = true := by simpa using hdc
        try clear hge hle
        try clear hdc
        go_wp2_with first | (go_at_call 18; (first | (with_reducible refine (ik0.out _).mono ?_) | (with_reducible refine (ik3.out _).mono ?_)); rintro e w' ⟨rfl, rfl⟩) | (go_at_call 15; refine (hwk.out _).mono ?_; rintro e w99 ⟨rfl, hb99⟩)
        go_ret
        exact ⟨rfl, BX.trans (Below.mono (bZ.trans ((v7.trans (hb99.mono y7)).mono zZ)) zw)⟩

end Go.Proofs.Ytmopnbijfcamjaa
