/- BarsTwo (layer 1): the walk. -/
import Derived.Deep.DeepCutAuto
import Derived.Test.YtmopnbijfcamjaaSq4
import Derived.Test.YtmopnbijfcamjaaPrm1
import Derived.Test.YtmopnbijfcamjaaOwn
namespace Go.Proofs.Ytmopnbijfcamjaa
open Go.RowKit
open Go.Sort (grow)
set_option linter.unusedVariables false

section
variable {base : Nat} {w w' : World} {v : Value} {n : Nat} {ms : List Pm} {ps : List Pc}
/-- a store beside -/
theorem OwnPs.other (h : OwnPs base w v n ms ps) {p : Addr} (hv : ∀ g, v.ownBlock = some g → g ≠ p.block) (hh : ∀ k, k < n → ∀ a, (pmAt ms k).h.A = some a → a.block ≠ p.block) (u : Value) : OwnPs base (w.setCell p u) v n ms ps := by
  refine ⟨own_set h.own hv, h.ml, h.pl, h.lg, fun k hk => ⟨?_, fun a ha => ⟨((h.inn k hk).2 a ha).1, ((h.inn k hk).2 a ha).2.1, by simpa using ((h.inn k hk).2 a ha).2.2⟩⟩⟩
  have h1 := (h.inn k hk).1
  refine ⟨h1.1, fun hn => ?_⟩
  obtain ⟨g, off, e, hg, hc⟩ := h1.2 hn
  refine ⟨g, off, e, by simpa using hg, fun j hj i u hu => (World.cell?_setCell_other _ _ _ _ (by
    have k1 := hh k hk _ e
    intro e'
    exact k1 (by rw [e']))).trans (hc j hj i u hu)⟩
theorem pmAt_set {x : Pm} {p k : Nat} (hp : p < ms.length) : pmAt (ms.set p x) k = if p = k then x else pmAt ms k := by
  unfold pmAt
  rw [List.getD_eq_getElem?_getD, List.getD_eq_getElem?_getD, List.getElem?_set]
  split <;> simp_all
theorem pcAt_set {x : Pc} {p k : Nat} (hp : p < ps.length) : pcAt (ps.set p x) k = if p = k then x else pcAt ps k := by
  unfold pcAt
  rw [List.getD_eq_getElem?_getD, List.getD_eq_getElem?_getD, List.getElem?_set]
  split <;> simp_all
/-- one piece's length stored -/
theorem OwnPs.setLong {g c p : Nat} {y : Int} (h : OwnPs base w (.slice (some ⟨g, 0, none⟩) n c) n ms ps) (hp : p < n) :
    OwnPs base (w.setCell ⟨g, p * 2, none⟩ (.int .i64 y)) (.slice (some ⟨g, 0, none⟩) n c) n (ms.set p ⟨y, (pmAt ms p).h⟩) (ps.set p ⟨y, (pcAt ps p).hs⟩) := by
  have hml := h.ml
  have hpl := h.pl
  refine ⟨?_, by simp [hml], by simp [hpl], fun k hk => ?_, fun k hk => ?_⟩
  · have a1 := (h.own.stored (p * 2 + 0) (.int .i64 y)).1
    rw [flat_set encP_len ms p 0 ⟨y, (pmAt ms p).h⟩ (⟨0, ⟨none, 0, 0⟩⟩ : Pm) _ (by omega) (by omega) rfl] at a1
    exact a1
  · rw [pmAt_set (by omega), pcAt_set (by omega)]
    split
    · rfl
    · exact h.lg k hk
  · have e1 : (pmAt (ms.set p ⟨y, (pmAt ms p).h⟩) k).h = (pmAt ms k).h := by
      rw [pmAt_set (by omega)]
      split
      · rename_i e; subst e; rfl
      · rfl
    have e2 : (pcAt (ps.set p ⟨y, (pcAt ps p).hs⟩) k).hs = (pcAt ps k).hs := by
      rw [pcAt_set (by omega)]
      split
      · rename_i e; subst e; rfl
      · rfl
    rw [e1, e2]
    have h0 := h.inn k hk
    refine ⟨⟨h0.1.1, fun hn => ?_⟩, fun a ha => ⟨(h0.2 a ha).1, (h0.2 a ha).2.1, by simpa using (h0.2 a ha).2.2⟩⟩
    obtain ⟨g', off, e, hg, hc⟩ := h0.1.2 hn
    refine ⟨g', off, e, by simpa using hg, fun j hj i u hu => (World.cell?_setCell_other _ _ _ _ (by
      have k1 := (h0.2 _ e).2.1
      intro e'
      apply k1
      have e3 := congrArg Addr.block e'
      simp only at e3
      rw [← e3]
      rfl)).trans (hc j hj i u hu)⟩
end
set_option maxRecDepth 100000 in
set_option maxHeartbeats 6400000 in
theorem TwoMain_c (Ab Ap : Option Addr) (nb cb np cp p : Nat) (kf wrg y : Int) (bs : List Br) (ms : List Pm) (ps : List Pc) (w : World) (HB : BrsAt w Ab nb bs) (HP : PcsAt w Ap np ms ps) (er : rdyS bs ps kf wrg nb np = true)
    (hp : p < np) (g1 : ¬ y < 1) (g2 : ¬ 999 < y)
    (hrd : Hid (∀ Z, Below w.heap.size w Z → Calls Try.prog 13 #[.agg #[.slice Ab nb cb, .int .i64 kf, .slice Ap np cp, .int .i64 wrg]] Z fun e Z' => e = .returned (.bool true) ∧ Below Z.heap.size Z Z'))
    (hip : Hid (∀ Z, Calls Try.prog 14 #[.agg #[.slice Ab nb cb, .int .i64 kf, .slice Ap np cp, .int .i64 wrg], .int .i64 p] Z fun e Z' => e = .returned (.bool true) ∧ Below Z.heap.size Z Z')) :
    Calls Try.prog 3 #[.agg #[.slice Ab nb cb, .int .i64 kf, .slice Ap np cp, .int .i64 wrg], .agg #[.int .i64 p, .int .i64 y]] w fun e w' => e = .returned (.bool true) ∧ Below w.heap.size w w' := by
  have hwk := Lib.hid works_c
  obtain ⟨hn4, hp5, h3, hck⟩ := rdyS_ok er
  have h1 : nb ≤ 40 := by omega
  have h2 : np ≤ 40 := by omega
  have HBI := Lib.hid HB
  have HPI := Lib.hid HP
  have H3 := Lib.hid h3
  have HCK := Lib.hid hck
  have hlB : decide (y < 1) = false := by simpa using g1
  have hlC : decide (999 < y) = false := by simpa using g2
  have hv := ckS_vals hck
  have hL := (hv.2.2.2.2.2 p (by rw [HP.pl]; exact hp)).1
  have hK := hv.2.2.1
  have hW := hv.2.2.2.1
  obtain ⟨x, hx⟩ : ∃ x : Int, x = (p : Int) := ⟨_, rfl⟩
  rw [← hx] at hip ⊢
  replace hx := Lib.hid hx
  clear er HB HP h3 hck hv
  go_enter Try.func3, Try.ntmps3
  go_wp2_with fail
  obtain ⟨X, hX⟩ : ∃ X, (w.alloc (.cells #[.slice Ab nb cb, .int .i64 kf, .slice Ap np cp, .int .i64 wrg] 25)).alloc (.cells #[.int .i64 x, .int .i64 y] 27) = X := ⟨_, rfl⟩
  rw [hX]
  have BX : Below w.heap.size w X := (al2 hX).1
  have zX : X.heap.size = w.heap.size + 2 := (al2 hX).2
  have P0 := Lib.hid (al2_0 hX).2.1
  have P1 := Lib.hid (al2_1 hX).2.1
  have zw : w.heap.size ≤ X.heap.size := by omega
  have n0 : w.heap.size < X.heap.size := by omega
  have n1 : w.heap.size + 1 < X.heap.size := by omega
  clear hX
  refine (hrd.out X BX).mono ?_
  rintro e w1 ⟨rfl, b1⟩
  have c1_0 := fun j => (b1.cell (p := ⟨w.heap.size, j, none⟩) n0).trans (P0.out j)
  have c1_1 := fun j => (b1.cell (p := ⟨w.heap.size + 1, j, none⟩) n1).trans (P1.out j)
  have z1 := b1.size
  go_wp2_with fail
  refine (hip.out _).mono ?_
  rintro e w2 ⟨rfl, hb2⟩
  have b2 : Below X.heap.size X w2 := b1.trans (hb2.mono z1)
  clear hb2 c1_0 c1_1 b1
  have c2_0 := fun j => (b2.cell (p := ⟨w.heap.size, j, none⟩) n0).trans (P0.out j)
  have c2_1 := fun j => (b2.cell (p := ⟨w.heap.size + 1, j, none⟩) n1).trans (P1.out j)
  have z2 := b2.size
  go_wp2_with fail
  refine (Copy_c Ab Ap nb cb np cp kf wrg bs ms ps w2 h1 h2 H3.out (HBI.out.later (BX.trans (b2.mono zw))) (HPI.out.later (BX.trans (b2.mono zw)))).mono ?_
  rintro e w3 ⟨A1, c1, A2, c2, ms', mid, rfl, hO, hb3⟩
  have HO := Lib.hid hO
  have b3 : Below X.heap.size X w3 := b2.trans (hb3.mono z2)
  clear hb3 hO c2_0 c2_1 b2
  have c3_0 := fun j => (b3.cell (p := ⟨w.heap.size, j, none⟩) n0).trans (P0.out j)
  have c3_1 := fun j => (b3.cell (p := ⟨w.heap.size + 1, j, none⟩) n1).trans (P1.out j)
  have z3 := b3.size
  go_upto_region 4 with (fail)
  go_name_world Y hY
  have KY : Hid (Blk Y w3.heap.size 25 #[.slice A1 nb c1, .int .i64 kf, .slice A2 np c2, .int .i64 wrg]) := Lib.hid (by rw [← hY]; exact Blk.new w3 _ _)
  have bY := (al1 hY).1
  have b4 : Below X.heap.size X Y := b3.trans (bY.mono z3)
  have HOY := Lib.hid (HO.out.later bY)
  have BYh := Lib.hid bY
  clear hY bY c3_0 c3_1
  have cY := KY.out.cell
  have fY := KY.out.frozen
  have lY := KY.out.lt
  have hsW : IntKind.i64.wrap (wrg + 1) = wrg + 1 := IntWalk.i64_in _ (by omega)
  have c4_0 := fun j => (b4.cell (p := ⟨w.heap.size, j, none⟩) n0).trans (P0.out j)
  have c4_1 := fun j => (b4.cell (p := ⟨w.heap.size + 1, j, none⟩) n1).trans (P1.out j)
  have z4 := b4.size
  go_upto_region 5 with (fail)
  go_name_world Y1 hY1
  have KY1 : Hid (Blk Y1 w3.heap.size 25 #[.slice A1 nb c1, .int .i64 kf, .slice A2 np c2, .int .i64 (wrg + 1)]) := Lib.hid (by rw [← hY1]; have h := KY.out.set_ 3 (.int .i64 (wrg + 1)); simpa using h)
  have b5 : Below X.heap.size X Y1 := by rw [← hY1]; exact b4.setCell (show X.heap.size ≤ w3.heap.size by omega) _
  have NE := Lib.hid (fun k (hk : k < np) a (ha : (pmAt ms' k).h.A = some a) => ((HO.out.pcs.inn k hk).2 a ha).2.2)
  have N1 := Lib.hid (fun g (hg : (Value.slice A1 nb c1).ownBlock = some g) => (HO.out.bar.lt g hg).2)
  have N2 := Lib.hid (fun g (hg : (Value.slice A2 np c2).ownBlock = some g) => (HO.out.pcs.own.lt g hg).2)
  have OP1 : Hid (OwnPs mid Y1 (.slice A2 np c2) np ms' ps) := Lib.hid (by
    rw [← hY1]
    exact HOY.out.pcs.other (fun g hg => by have := N2.out g hg; show g ≠ w3.heap.size; omega) (fun k hk a ha => by have := NE.out k hk a ha; show a.block ≠ w3.heap.size; omega) _)
  have OB1 : Hid (Y1.ownsRow w2.heap.size 60 2 (.slice A1 nb c1) nb (bs.flatMap encB)) := Lib.hid (by
    rw [← hY1]
    exact own_set HOY.out.bar (fun g hg => by have := N1.out g hg; show g ≠ w3.heap.size; omega))
  have BM := Lib.hid HO.out.bm
  have hmid := HO.out.mh
  have hmid0 := HO.out.le
  have hBL := Lib.hid HO.out.bl
  have hzY1 : Y1.heap.size = Y.heap.size := by rw [← hY1]; simp
  have lY1 : w3.heap.size < Y1.heap.size := by omega
  replace hzY1 := Lib.hid hzY1
  clear hY1 c4_0 c4_1 cY fY hsW KY b4
  have cY := KY1.out.cell
  have fY := KY1.out.frozen
  have c5_0 := fun j => (b5.cell (p := ⟨w.heap.size, j, none⟩) n0).trans (P0.out j)
  have c5_1 := fun j => (b5.cell (p := ⟨w.heap.size + 1, j, none⟩) n1).trans (P1.out j)
  have z5 := b5.size
  obtain ⟨bp, op, rfl, hbp, x0, x1, hI⟩ := (HPI.out.later (BX.trans (b5.mono zw))).get hp
  have hbp' : bp < w.heap.size := by
    obtain ⟨b0, o0, e0, hb0, -⟩ := HPI.out.get hp
    cases e0; exact hb0
  have hln := HPI.out.len hp
  obtain ⟨hd, hhd⟩ : ∃ h, (pmAt ms p).h = h := ⟨_, rfl⟩
  obtain ⟨lg, hlg⟩ : ∃ l, (pcAt ps p).long = l := ⟨_, rfl⟩
  rw [hhd] at x1 hI hln
  rw [hlg] at x0 hL
  have HLG := Lib.hid hlg
  have hIw := HPI.out.inn p hp
  rw [hhd] at hIw
  have HIw := Lib.hid hIw
  have HLN := Lib.hid hln
  have hqB : decide ((p : Int) < np) = true := by simp; omega
  have hs5 : IntKind.i64.wrap (lg - kf) = lg - kf := IntWalk.i64_in _ (by omega)
  have hs6 : IntKind.i64.wrap (lg - kf - y) = lg - kf - y := IntWalk.i64_in _ (by omega)
  have HHD := Lib.hid hhd
  clear hhd hlg hI hln hIw
  have hx' := hx.out
  clear hx
  subst hx'
  go_quiet (fail)
  go_upto_region 6 with (fail)
  go_name_world Yq hYq
  have bq : Below Y1.heap.size Y1 Yq := by rw [← hYq]; (repeat first | with_reducible assumption | with_reducible exact Below.refl _ _ | (with_reducible refine Below.alloc ?_ ?side _; case side => (first | omega | (with_reducible exact Below.size (by assumption)) | (simp; done) | (simp; omega))) | (with_reducible refine Below.setCell ?_ ?side _; case side => (first | omega | (with_reducible exact Below.size (by assumption)) | (simp; done) | (simp; omega))) | with_reducible refine Below.drew ?_ | with_reducible refine below_drewN ?_ _ | (with_reducible refine below_step (by assumption) ?side ?_; case side => (first | omega | (with_reducible exact Below.size (by assumption)) | (simp; done) | (simp; omega))))
  have b6 : Below X.heap.size X Yq := b5.trans (bq.mono z5)
  have KYq := Lib.hid (KY1.out.below bq lY1)
  have OPq := Lib.hid (OP1.out.later bq)
  have OBq := Lib.hid (own_below OB1.out bq)
  have zq := bq.size
  have x1q := Lib.hid ((bq.cell (p := ⟨bp, op + p * 2 + 1, none⟩) (by show bp < _; omega)).trans x1)
  clear hYq c5_0 c5_1 cY fY x0 x1 bq hs5 hs6
  obtain ⟨g2, d2', e2, hg2, hg2'⟩ := OPq.out.own.form (by omega)
  injection e2 with e2a e2b e2c
  subst e2a e2c
  have hg3 : g2 < w3.heap.size := N2.out g2 rfl
  have cY := KYq.out.cell
  have fY := KYq.out.frozen
  have c6_0 := fun j => (b6.cell (p := ⟨w.heap.size, j, none⟩) n0).trans (P0.out j)
  have c6_1 := fun j => (b6.cell (p := ⟨w.heap.size + 1, j, none⟩) n1).trans (P1.out j)
  have z6 := b6.size
  have t0 : Yq.cell? ⟨g2, p * 2, none⟩ = some (.int .i64 (pmAt ms' p).long) := (OPq.out.own.cellAt (p * 2) (by omega)).trans (flat_get (d := (⟨0, ⟨none, 0, 0⟩⟩ : Pm)) encP_len ms' p 0 (by omega) (by rw [OPq.out.ml]; exact hp))
  have ft := OPq.out.own.frozenAt (p * 2)
  clear e2b
  go_upto_region 7 with (fail)
  go_name_world Y2 hY2
  have OP2 : Hid (OwnPs mid Y2 (.slice (some ⟨g2, 0, none⟩) np c2) np (ms'.set p ⟨y, (pmAt ms' p).h⟩) (ps.set p ⟨y, (pcAt ps p).hs⟩)) := Lib.hid (by rw [← hY2]; exact OPq.out.setLong hp)
  have KY2 : Hid (Blk Y2 w3.heap.size 25 #[.slice A1 nb c1, .int .i64 kf, .slice (some ⟨g2, 0, none⟩) np c2, .int .i64 (wrg + 1)]) := Lib.hid (by rw [← hY2]; exact KYq.out.far (p := ⟨g2, p * 2, none⟩) (by show w3.heap.size ≠ g2; omega) _)
  have OB2 : Hid (Y2.ownsRow w2.heap.size 60 2 (.slice A1 nb c1) nb (bs.flatMap encB)) := Lib.hid (by
    rw [← hY2]
    exact own_set OBq.out (fun g hg => by have := BM.out g hg; show g ≠ g2; omega))
  have b7 : Below X.heap.size X Y2 := by rw [← hY2]; exact b6.setCell (show X.heap.size ≤ g2 by omega) _
  have z27 : Y2.heap.size = Yq.heap.size := by rw [← hY2]; simp
  have x12 := Lib.hid (by rw [← hY2]; exact (World.cell?_setCell_other _ _ _ _ (by intro h; have h3 := congrArg Addr.block h; simp only at h3; omega)).trans x1q.out : Y2.cell? ⟨bp, op + p * 2 + 1, none⟩ = some (.slice hd.A hd.n hd.c))
  have HI2 := Lib.hid (HIw.out.later (BX.trans (b7.mono zw)))
  have z27h := Lib.hid z27
  have l2 : w3.heap.size < Y2.heap.size := by omega
  clear hY2 c6_0 c6_1 cY fY t0 ft z27
  have c7_0 := fun j => (b7.cell (p := ⟨w.heap.size, j, none⟩) n0).trans (P0.out j)
  have c7_1 := fun j => (b7.cell (p := ⟨w.heap.size + 1, j, none⟩) n1).trans (P1.out j)
  have z7 := b7.size
  have hln := HLN.out
  have h40 := H3.out p hp
  have hn40 : hd.n ≤ 40 := by omega
  have zmid : mid ≤ Y2.heap.size := by omega
  have hS0 : ∀ W', Below mid Y2 W' → W'.cell? ⟨w3.heap.size, 2, none⟩ = some (.slice (some ⟨g2, 0, none⟩) np c2) → (∀ j, W'.cell? ⟨w.heap.size, j, none⟩ = #[Value.slice Ab nb cb, .int .i64 kf, .slice (some ⟨bp, op, none⟩) np cp, .int .i64 wrg][j]?) ∧ (∀ j, W'.cell? ⟨w.heap.size + 1, j, none⟩ = #[Value.int .i64 p, .int .i64 y][j]?) ∧ W'.cell? ⟨w3.heap.size, 2, none⟩ = some (.slice (some ⟨g2, 0, none⟩) np c2) ∧ W'.cell? ⟨bp, op + p * 2 + 1, none⟩ = some (.slice hd.A hd.n hd.c) := fun W' h h2 =>
    ⟨fun j => (h.cell (p := ⟨w.heap.size, j, none⟩) (by show w.heap.size < _; omega)).trans (c7_0 j), fun j => (h.cell (p := ⟨w.heap.size + 1, j, none⟩) (by show w.heap.size + 1 < _; omega)).trans (c7_1 j), h2, (h.cell (p := ⟨bp, op + p * 2 + 1, none⟩) (by show bp < _; omega)).trans x12.out⟩
  have HS := Lib.hid hS0
  have HC := Lib.hid (fun W' (h : Below Y2.heap.size Y2 W') => (h.cell (p := ⟨w3.heap.size, 2, none⟩) l2).trans (KY2.out.cell 2))
  have HS2 := Lib.hid (fun W' (h : Below Y2.heap.size Y2 W') => HS.out W' (h.mono zmid) (HC.out W' h))
  have hS := HS2.out Y2.drew (by (repeat first | with_reducible assumption | with_reducible exact Below.refl _ _ | (with_reducible refine Below.alloc ?_ ?side _; case side => (first | omega | (with_reducible exact Below.size (by assumption)) | (simp; done) | (simp; omega))) | (with_reducible refine Below.setCell ?_ ?side _; case side => (first | omega | (with_reducible exact Below.size (by assumption)) | (simp; done) | (simp; omega))) | with_reducible refine Below.drew ?_ | with_reducible refine below_drewN ?_ _ | (with_reducible refine below_step (by assumption) ?side ?_; case side => (first | omega | (with_reducible exact Below.size (by assumption)) | (simp; done) | (simp; omega)))))
  clear hS0 hln c7_0 c7_1
  refine wp_region_L (by kernel_rfl) (fun W' => (∀ j, W'.cell? ⟨w.heap.size, j, none⟩ = #[Value.slice Ab nb cb, .int .i64 kf, .slice (some ⟨bp, op, none⟩) np cp, .int .i64 wrg][j]?) ∧ (∀ j, W'.cell? ⟨w.heap.size + 1, j, none⟩ = #[Value.int .i64 p, .int .i64 y][j]?) ∧ W'.cell? ⟨w3.heap.size, 2, none⟩ = some (.slice (some ⟨g2, 0, none⟩) np c2) ∧ W'.cell? ⟨bp, op + p * 2 + 1, none⟩ = some (.slice hd.A hd.n hd.c)) 16 ?_
  refine wpAnyL_take (i := 0) (v := ?_) rfl (by kernel_rfl) (by kernel_rfl) (by kernel_rfl) (by kernel_rfl) (fun _ _ _ h => h) hS (Or.inl ⟨by rfl, ?_⟩) ?_
  rotate_left 1
  · intro w9 hw9
    obtain ⟨k0, k1, k2, k3⟩ := hw9
    go_simp
    try with_reducible rfl
  simp only [List.getElem_toArray, List.getElem_cons_zero, Act.put, List.setIfInBounds_toArray, List.set_cons_zero, List.set_cons_succ]
  refine wpAnyL_take (i := 1) (v := ?_) rfl (by kernel_rfl) (by kernel_rfl) (by kernel_rfl) (by kernel_rfl) (fun _ _ _ h => h) hS (Or.inl ⟨by rfl, ?_⟩) ?_
  rotate_left 1
  · intro w9 hw9
    obtain ⟨k0, k1, k2, k3⟩ := hw9
    go_simp
    try with_reducible rfl
  simp only [List.getElem_toArray, List.getElem_cons_zero, List.getElem_cons_succ, Act.put, List.setIfInBounds_toArray, List.set_cons_zero, List.set_cons_succ]
  refine wpAnyL_take (i := 2) (v := ?_) rfl (by kernel_rfl) (by kernel_rfl) (by kernel_rfl) (by kernel_rfl) (fun _ _ _ h => h) hS (Or.inl ⟨by rfl, ?_⟩) ?_
  rotate_left 1
  · intro w9 hw9
    obtain ⟨k0, k1, k2, k3⟩ := hw9
    go_simp
    try with_reducible rfl
  simp only [List.getElem_toArray, List.getElem_cons_zero, List.getElem_cons_succ, Act.put, List.setIfInBounds_toArray, List.set_cons_zero, List.set_cons_succ]
  refine wpAnyL_take (i := 4) (v := ?_) rfl (by kernel_rfl) (by kernel_rfl) (by kernel_rfl) (by kernel_rfl) (fun _ _ _ h => h) hS (Or.inl ⟨by rfl, ?_⟩) ?_
  rotate_left 1
  · intro w9 hw9
    obtain ⟨k0, k1, k2, k3⟩ := hw9
    go_simp
    try with_reducible rfl
  simp only [List.getElem_toArray, List.getElem_cons_zero, List.getElem_cons_succ, Act.put, List.setIfInBounds_toArray, List.set_cons_zero, List.set_cons_succ]
  refine wpAnyL_take (i := 5) (v := ?_) rfl (by kernel_rfl) (by kernel_rfl) (by kernel_rfl) (by kernel_rfl) (fun _ _ _ h => h) hS (Or.inl ⟨by rfl, ?_⟩) ?_
  rotate_left 1
  · intro w9 hw9
    obtain ⟨k0, k1, k2, k3⟩ := hw9
    go_simp
    try with_reducible rfl
  simp only [List.getElem_toArray, List.getElem_cons_zero, List.getElem_cons_succ, Act.put, List.setIfInBounds_toArray, List.set_cons_zero, List.set_cons_succ]
  refine wpAnyL_take (i := 6) (v := ?_) rfl (by kernel_rfl) (by kernel_rfl) (by kernel_rfl) (by kernel_rfl) (fun _ _ _ h => h) hS (Or.inl ⟨by rfl, ?_⟩) ?_
  rotate_left 1
  · intro w9 hw9
    obtain ⟨k0, k1, k2, k3⟩ := hw9
    go_simp
    try with_reducible rfl
  simp only [List.getElem_toArray, List.getElem_cons_zero, List.getElem_cons_succ, Act.put, List.setIfInBounds_toArray, List.set_cons_zero, List.set_cons_succ]
  refine wpAnyL_take (i := 7) (v := ?_) rfl (by kernel_rfl) (by kernel_rfl) (by kernel_rfl) (by kernel_rfl) (fun _ _ _ h => h) hS (Or.inl ⟨by rfl, ?_⟩) ?_
  rotate_left 1
  · intro w9 hw9
    obtain ⟨k0, k1, k2, k3⟩ := hw9
    go_simp
    try with_reducible rfl
  simp only [List.getElem_toArray, List.getElem_cons_zero, List.getElem_cons_succ, Act.put, List.setIfInBounds_toArray, List.set_cons_zero, List.set_cons_succ]
  refine wpAnyL_take (i := 8) (v := ?_) rfl (by kernel_rfl) (by kernel_rfl) (by kernel_rfl) (by kernel_rfl) (fun _ _ _ h => h) hS (Or.inl ⟨by rfl, ?_⟩) ?_
  rotate_left 1
  · intro w9 hw9
    obtain ⟨k0, k1, k2, k3⟩ := hw9
    go_simp
    try with_reducible rfl
  simp only [List.getElem_toArray, List.getElem_cons_zero, List.getElem_cons_succ, Act.put, List.setIfInBounds_toArray, List.set_cons_zero, List.set_cons_succ]
  refine wpAnyL_take (i := 9) (v := ?_) rfl (by kernel_rfl) (by kernel_rfl) (by kernel_rfl) (by kernel_rfl) (fun _ _ _ h => h) hS (Or.inl ⟨by rfl, ?_⟩) ?_
  rotate_left 1
  · intro w9 hw9
    obtain ⟨k0, k1, k2, k3⟩ := hw9
    go_simp
    try with_reducible rfl
  simp only [List.getElem_toArray, List.getElem_cons_zero, List.getElem_cons_succ, Act.put, List.setIfInBounds_toArray, List.set_cons_zero, List.set_cons_succ]
  refine wpAnyL_take (i := 10) (v := ?_) rfl (by kernel_rfl) (by kernel_rfl) (by kernel_rfl) (by kernel_rfl) (fun _ _ _ h => h) hS (Or.inl ⟨by rfl, ?_⟩) ?_
  rotate_left 1
  · intro w9 hw9
    obtain ⟨k0, k1, k2, k3⟩ := hw9
    go_simp
    try with_reducible rfl
  simp only [List.getElem_toArray, List.getElem_cons_zero, List.getElem_cons_succ, Act.put, List.setIfInBounds_toArray, List.set_cons_zero, List.set_cons_succ]
  refine wpAnyL_one (i := 3) (by kernel_rfl) rfl (fun K hK => ?_)
  go_simp
  refine hK.out _ _ (fun _ => HS2.out _ (by (repeat first | with_reducible assumption | with_reducible exact Below.refl _ _ | (with_reducible refine Below.alloc ?_ ?side _; case side => (first | omega | (with_reducible exact Below.size (by assumption)) | (simp; done) | (simp; omega))) | (with_reducible refine Below.setCell ?_ ?side _; case side => (first | omega | (with_reducible exact Below.size (by assumption)) | (simp; done) | (simp; omega))) | with_reducible refine Below.drew ?_ | with_reducible refine below_drewN ?_ _ | (with_reducible refine below_step (by assumption) ?side ?_; case side => (first | omega | (with_reducible exact Below.size (by assumption)) | (simp; done) | (simp; omega)))))) (fun hS' => ?_)
  clear hK K
  refine wpAnyL_one (i := 11) (by kernel_rfl) rfl (fun K hK => ?_)
  refine step_append_T _ (d := (0 : Int)) rfl (.tmp 68) (.tmp 75) _ rfl Y2.heap.size _ 1 8 intE encI_len encI_one (.slice (some ⟨Y2.heap.size, 0, none⟩) 0 0) (some Y2.heap.size) 0 [] rfl rfl (own_empty (by go_size) (by first | rfl | simp)) hd.A hd.n hd.c (pcAt ps p).hs rfl (ints_iff.1 (HI2.out.later (by (repeat first | with_reducible assumption | with_reducible exact Below.refl _ _ | (with_reducible refine Below.alloc ?_ ?side _; case side => (first | omega | (with_reducible exact Below.size (by assumption)) | (simp; done) | (simp; omega))) | (with_reducible refine Below.setCell ?_ ?side _; case side => (first | omega | (with_reducible exact Below.size (by assumption)) | (simp; done) | (simp; omega))) | with_reducible refine Below.drew ?_ | with_reducible refine below_drewN ?_ _ | (with_reducible refine below_step (by assumption) ?side ?_; case side => (first | omega | (with_reducible exact Below.size (by assumption)) | (simp; done) | (simp; omega))))))) (by omega) (by go_size) (fun v9 w9 ho9 hg9 ha9 => ?_)
  rw [Nat.zero_add, List.nil_append] at ho9
  obtain ⟨A9, c9, rfl, -, hs9⟩ := SlAt.of_own (d := (0 : Int)) encI_len ho9 (HI2.out.1)
  have hb9 : Below Y2.heap.size Y2 w9 := Below.grown (by (repeat first | with_reducible assumption | with_reducible exact Below.refl _ _ | (with_reducible refine Below.alloc ?_ ?side _; case side => (first | omega | (with_reducible exact Below.size (by assumption)) | (simp; done) | (simp; omega))) | (with_reducible refine Below.setCell ?_ ?side _; case side => (first | omega | (with_reducible exact Below.size (by assumption)) | (simp; done) | (simp; omega))) | with_reducible refine Below.drew ?_ | with_reducible refine below_drewN ?_ _ | (with_reducible refine below_step (by assumption) ?side ?_; case side => (first | omega | (with_reducible exact Below.size (by assumption)) | (simp; done) | (simp; omega))))) hg9 (by go_size) (fun g hg => by cases hg; exact Nat.le_refl _)
  have hS9 := HS2.out w9 hb9
  refine hK.out _ _ (fun _ => hS9) (fun hS' => ?_)
  clear hK K hg9 ha9 hS'
  simp only [List.getElem_toArray, List.getElem_cons_zero, List.getElem_cons_succ, Act.put, List.setIfInBounds_toArray, List.set_cons_zero, List.set_cons_succ]
  have hS := hS9
  have z9 := hb9.size
  have HO9 := Lib.hid ho9
  have HI9 := Lib.hid (ints_iff.2 hs9)
  have HA9 := Lib.hid (fun a e => own_addr ho9 a e)
  clear ho9 hs9
  refine wpAnyL_take (i := 12) (v := ?_) rfl (by kernel_rfl) (by kernel_rfl) (by kernel_rfl) (by kernel_rfl) (fun _ _ _ h => h) hS (Or.inl ⟨by rfl, ?_⟩) ?_
  rotate_left 1
  · intro w9 hw9
    obtain ⟨k0, k1, k2, k3⟩ := hw9
    go_simp
    try with_reducible rfl
  simp only [List.getElem_toArray, List.getElem_cons_zero, List.getElem_cons_succ, Act.put, List.setIfInBounds_toArray, List.set_cons_zero, List.set_cons_succ]
  refine wpAnyL_one (i := 13) (by kernel_rfl) rfl (fun K hK => ?_)
  go_simp
  refine hK.out _ _ (fun _ => HS2.out _ (by (repeat first | with_reducible assumption | with_reducible exact Below.refl _ _ | (with_reducible refine Below.alloc ?_ ?side _; case side => (first | omega | (with_reducible exact Below.size (by assumption)) | (simp; done) | (simp; omega))) | (with_reducible refine Below.setCell ?_ ?side _; case side => (first | omega | (with_reducible exact Below.size (by assumption)) | (simp; done) | (simp; omega))) | with_reducible refine Below.drew ?_ | with_reducible refine below_drewN ?_ _ | (with_reducible refine below_step (by assumption) ?side ?_; case side => (first | omega | (with_reducible exact Below.size (by assumption)) | (simp; done) | (simp; omega)))))) (fun hS' => ?_)
  clear hK K hS'
  refine wpAnyL_one (i := 14) (by kernel_rfl) rfl (fun K hK => ?_)
  refine step_append_T _ (d := (⟨0, ⟨none, 0, 0⟩⟩ : Pm)) rfl (.tmp 66) (.tmp 78) _ rfl mid _ 2 32 pcE encP_len encP_one (.slice (some ⟨g2, 0, none⟩) np c2) (some g2) np (ms'.set p ⟨y, (pmAt ms' p).h⟩) rfl rfl (own_below OP2.out.own (by (repeat first | with_reducible assumption | with_reducible exact Below.refl _ _ | (with_reducible refine Below.alloc ?_ ?side _; case side => (first | omega | (with_reducible exact Below.size (by assumption)) | (simp; done) | (simp; omega))) | (with_reducible refine Below.setCell ?_ ?side _; case side => (first | omega | (with_reducible exact Below.size (by assumption)) | (simp; done) | (simp; omega))) | with_reducible refine Below.drew ?_ | with_reducible refine below_drewN ?_ _ | (with_reducible refine below_step (by assumption) ?side ?_; case side => (first | omega | (with_reducible exact Below.size (by assumption)) | (simp; done) | (simp; omega)))))) _ 1 _ [⟨lg - kf - y, ⟨A9, hd.n, c9⟩⟩] rfl (sl_new encP_len (by first | rfl | simp) rfl rfl) (by omega) (by go_size) (fun v10 w10 ho10 hg10 ha10 => ?_)
  have hk1 : 0 < np + 1 := by omega
  obtain ⟨g10, d10, rfl, hg0, hg1⟩ := ho10.form hk1
  have hb10 : Below mid w9 w10 := Below.grown (by (repeat first | with_reducible assumption | with_reducible exact Below.refl _ _ | (with_reducible refine Below.alloc ?_ ?side _; case side => (first | omega | (with_reducible exact Below.size (by assumption)) | (simp; done) | (simp; omega))) | (with_reducible refine Below.setCell ?_ ?side _; case side => (first | omega | (with_reducible exact Below.size (by assumption)) | (simp; done) | (simp; omega))) | with_reducible refine Below.drew ?_ | with_reducible refine below_drewN ?_ _ | (with_reducible refine below_step (by assumption) ?side ?_; case side => (first | omega | (with_reducible exact Below.size (by assumption)) | (simp; done) | (simp; omega))))) hg10 (by go_size) (own_ge OP2.out.own)
  have hb90 : Below mid Y2 w10 := (hb9.mono zmid).trans hb10
  have K10 : Hid (Blk w10 w3.heap.size 25 #[.slice A1 nb c1, .int .i64 kf, .slice (some ⟨g2, 0, none⟩) np c2, .int .i64 (wrg + 1)]) := Lib.hid ((hg10.block w3.heap.size (by go_size) (fun e => by have := Option.some.inj e; omega)).trans ((KY2.out.below hb9 l2).alloc _))
  have hS10 := HS.out w10 hb90 (K10.out.cell 2)
  refine hK.out _ _ (fun _ => hS10) (fun hS' => ?_)
  clear hK K hS'
  have hS := hS10
  simp only [List.getElem_toArray, List.getElem_cons_zero, List.getElem_cons_succ, Act.put, List.setIfInBounds_toArray, List.set_cons_zero, List.set_cons_succ]
  refine wpAnyL_take (i := 15) (v := ?_) rfl (by kernel_rfl) (by kernel_rfl) (by kernel_rfl) (by kernel_rfl) (fun _ _ _ h => h) hS (Or.inl ⟨by rfl, ?_⟩) ?_
  rotate_left 1
  · intro w9 hw9
    obtain ⟨k0, k1, k2, k3⟩ := hw9
    go_simp
    try with_reducible rfl
  simp only [List.getElem_toArray, List.getElem_cons_zero, List.getElem_cons_succ, Act.put, List.setIfInBounds_toArray, List.set_cons_zero, List.set_cons_succ]
  have d2 := K10.out.cell 2
  have f2 := K10.out.frozen 2
  refine wpAnyL_one (i := 16) (by kernel_rfl) rfl (fun K hK => ?_)
  go_simp
  refine hK.out _ _ (fun h => absurd rfl h) (fun _ => ?_)
  refine wpAnyL_done (by kernel_rfl) ?_ _
  clear hK K hS hS9 hS10 d2 f2
  obtain ⟨Z, hZ⟩ : ∃ Z, w10.setCell ⟨w3.heap.size, 2, none⟩ (.slice (some ⟨g10, 0, none⟩) (np + 1) d10) = Z := ⟨_, rfl⟩
  rw [hZ]
  have hz27 := z27h.out
  have HO6 := (OP2.out.later hb9).push (x := ⟨lg - kf - y, ⟨A9, hd.n, c9⟩⟩) (y := ⟨lg - kf - y, (pcAt ps p).hs⟩) rfl HI9.out (fun a e => ⟨by have := (HA9.out a e).1; omega, fun e' => by have e'' : g2 = a.block := Option.some.inj e'; have := (HA9.out a e).1; omega, (HA9.out a e).2⟩) ho10 hg10 ha10
  have NG : g10 ≠ w3.heap.size := ng_of (v := .slice (some ⟨g2, 0, none⟩) np c2) ha10 N2.out (by go_size)
  have KZ : Hid (Blk Z w3.heap.size 25 #[.slice A1 nb c1, .int .i64 kf, .slice (some ⟨g10, 0, none⟩) (np + 1) d10, .int .i64 (wrg + 1)]) := Lib.hid (by
    rw [← hZ]
    have h := K10.out.set_ 2 (.slice (some ⟨g10, 0, none⟩) (np + 1) d10)
    simpa using h)
  have HBZ : Hid (BrsAt Z A1 nb bs) := Lib.hid (by
    rw [← hZ]
    exact sl_of_own encB_len (own_set (own_belowB OB2.out hb90 BM.out) (fun g hg => by have := BM.out g hg; show g ≠ w3.heap.size; omega)) hBL.out)
  have HPZ : Hid (PcsAt Z (some ⟨g10, 0, none⟩) (np + 1) (ms'.set p ⟨y, (pmAt ms' p).h⟩ ++ [⟨lg - kf - y, ⟨A9, hd.n, c9⟩⟩]) (twP ps p y (lg - kf - y))) := Lib.hid (by
    rw [← hZ]
    obtain ⟨_, _, e, hp6⟩ := HO6.at_
    cases e
    have hml := HO.out.pcs.ml
    refine hp6.set (fun a ha => by cases ha; exact NG) (fun k hk a ha => ?_) _
    rcases Nat.lt_succ_iff_lt_or_eq.1 hk with h' | rfl
    · rw [pmAt_lt (by simp; omega), pmAt_set (by omega)] at ha
      have ha' : (pmAt ms' k).h.A = some a := by
        split at ha
        · rename_i e; subst e; exact ha
        · exact ha
      have := NE.out k h' a ha'
      show a.block ≠ w3.heap.size
      omega
    · have e1 := pmAt_eq (hs := ms'.set p ⟨y, (pmAt ms' p).h⟩) (h := ⟨lg - kf - y, ⟨A9, hd.n, c9⟩⟩)
      rw [List.length_set, hml] at e1
      rw [e1] at ha
      have := (HA9.out a ha).1
      show a.block ≠ w3.heap.size
      omega)
  have bZ : Below X.heap.size X Z := by
    rw [← hZ]
    exact (b7.trans (hb90.mono (by omega))).setCell (show X.heap.size ≤ w3.heap.size by omega) _
  have PZ := Lib.hid (fun j => (bZ.cell (p := ⟨w.heap.size, j, none⟩) n0).trans (P0.out j))
  have PZ1 := Lib.hid (fun j => (bZ.cell (p := ⟨w.heap.size + 1, j, none⟩) n1).trans (P1.out j))
  have zZ := bZ.size
  have N0 : w.heap.size < Z.heap.size := by omega
  have N1' : w.heap.size + 1 < Z.heap.size := by omega
  have Ng : w3.heap.size < Z.heap.size := KZ.out.lt
  clear hZ HO6 NG hb9 hb90 hb10 hg10 ho10 ha10 hg0 hg1 K10 HS HS2 HC HA9 HO9 HI9 z9 hk1 hz27 z27h l2 hg3 hg2' hg2 lY1 hmid0 hmid lY b7 b6 b5 b3 zmid
  have hpl := HPI.out.pl
  have hbl := HBI.out.1
  have hrz : Hid (∀ V, Below Z.heap.size Z V → Calls Try.prog 13 #[.agg #[.slice A1 nb c1, .int .i64 kf, .slice (some ⟨g10, 0, none⟩) (np + 1) d10, .int .i64 (wrg + 1)]] V fun e V' => e = .returned (.bool (rdyS bs (twP ps p y (lg - kf - y)) kf (wrg + 1) nb (np + 1))) ∧ Below V.heap.size V V') :=
    Lib.hid fun V hV => ready_c A1 (some ⟨g10, 0, none⟩) nb c1 (np + 1) d10 kf (wrg + 1) bs _ _ V (HBZ.out.later hV) (HPZ.out.later hV)
  have hm1 : Hid (∀ V, Below Z.heap.size Z V → Calls Try.prog 17 #[.agg #[.slice Ab nb cb, .int .i64 kf, .slice (some ⟨bp, op, none⟩) np cp, .int .i64 wrg]] V fun e V' => e = .returned (.tuple #[.int .i64 (manyR bs ps kf wrg), .int .i64 (askE bs ps kf wrg true)]) ∧ Below V.heap.size V V') := Lib.hid fun V hV => by
    have hw : Below w.heap.size w V := BX.trans ((bZ.trans (hV.mono zZ)).mono zw)
    exact many_c Ab (some ⟨bp, op, none⟩) nb cb np cp kf wrg bs ms ps V h1 h2 H3.out (HBI.out.later hw) (HPI.out.later hw)
  have ho1 : Hid (∀ V, Below Z.heap.size Z V → Calls Try.prog 19 #[.agg #[.slice Ab nb cb, .int .i64 kf, .slice (some ⟨bp, op, none⟩) np cp, .int .i64 wrg], .int .i64 p] V fun e V' => ∃ B c, e = .returned (.tuple #[.slice B (ofP bs ps kf wrg (p : Int)).length c, .int .i64 (askE bs ps kf wrg true)]) ∧ IntsAt V' B (ofP bs ps kf wrg (p : Int)).length (ofP bs ps kf wrg (p : Int)) ∧ Below V.heap.size V V') := Lib.hid fun V hV => by
    have hw : Below w.heap.size w V := BX.trans ((bZ.trans (hV.mono zZ)).mono zw)
    have := of_c Ab (some ⟨bp, op, none⟩) nb cb np cp kf wrg p bs ms ps V h1 h2 H3.out (HBI.out.later hw) (HPI.out.later hw)
    rw [show wi (p : Int) 0 ((np : Int) - 1) = true from wi_true.2 (by omega)] at this
    refine this.mono fun e W' => ?_
    rintro ⟨v, rfl, ho, hb⟩
    obtain ⟨A, c, rfl, -, hs⟩ := SlAt.of_own (d := (0 : Int)) encI_len ho rfl
    exact ⟨A, c, rfl, ints_iff.2 hs, hb⟩
  have LEN1 := Lib.hid (ofP_len (bs := bs) (ps := ps) (kf := kf) (wr := wrg) (piece := (p : Int)))
  have LEN2 := Lib.hid (ofP_len (bs := bs) (ps := twP ps p y (lg - kf - y)) (kf := kf) (wr := wrg + 1) (piece := (p : Int)))
  have LEN3 := Lib.hid (ofP_len (bs := bs) (ps := twP ps p y (lg - kf - y)) (kf := kf) (wr := wrg + 1) (piece := (np : Int)))
  rw [hbl] at LEN1 LEN2 LEN3
  have LAW := Lib.hid (fun ho => two_law (bs := bs) (ps := ps) (kf := kf) (wr := wrg) (y := y) (r := lg - kf - y) (p := p) HCK.out (by rw [hpl]; exact hp) (by rw [HLG.out]) ho)
  rw [hpl] at LAW
  clear hpl hbl
  have v0 := Below.refl Z.heap.size Z
  have c0_0 := fun j => (v0.cell (p := ⟨w.heap.size, j, none⟩) N0).trans (PZ.out j)
  have c0_1 := fun j => (v0.cell (p := ⟨w.heap.size + 1, j, none⟩) N1').trans (PZ1.out j)
  have c0_g := fun j => (v0.cell (p := ⟨w3.heap.size, j, none⟩) Ng).trans (KZ.out.cell j)
  have y0 := v0.size
  go_wp2_with fail
  refine (hrz.out _ v0).mono ?_
  rintro e u1 ⟨rfl, hv1⟩
  have v1 : Below Z.heap.size Z u1 := v0.trans (hv1.mono y0)
  clear hv1 c0_0 c0_1 c0_g
  have c1_0 := fun j => (v1.cell (p := ⟨w.heap.size, j, none⟩) N0).trans (PZ.out j)
  have c1_1 := fun j => (v1.cell (p := ⟨w.heap.size + 1, j, none⟩) N1').trans (PZ1.out j)
  have c1_g := fun j => (v1.cell (p := ⟨w3.heap.size, j, none⟩) Ng).trans (KZ.out.cell j)
  have y1 := v1.size
  cases er2 : rdyS bs (twP ps p y (lg - kf - y)) kf (wrg + 1) nb (np + 1)
  · go_wp2_with fail
    refine (hwk.out _).mono ?_
    rintro e w99 ⟨rfl, hb99⟩
    go_wp2
    go_ret
    exact ⟨rfl, BX.trans (Below.mono (bZ.trans ((v1.trans (hb99.mono y1)).mono zZ)) zw)⟩
  obtain ⟨-, hp6, h3', hck'⟩ := rdyS_ok er2
  have hL' := LAW.out hck'
  have hm2 : Hid (∀ V, Below Z.heap.size Z V → Calls Try.prog 17 #[.agg #[.slice A1 nb c1, .int .i64 kf, .slice (some ⟨g10, 0, none⟩) (np + 1) d10, .int .i64 (wrg + 1)]] V fun e V' => e = .returned (.tuple #[.int .i64 (manyR bs (twP ps p y (lg - kf - y)) kf (wrg + 1)), .int .i64 (askE bs (twP ps p y (lg - kf - y)) kf (wrg + 1) true)]) ∧ Below V.heap.size V V') := Lib.hid fun V hV =>
    many_c A1 (some ⟨g10, 0, none⟩) nb c1 (np + 1) d10 kf (wrg + 1) bs _ _ V h1 (by omega) h3' (HBZ.out.later hV) (HPZ.out.later hV)
  have ho2 : Hid (∀ (q : Nat) V, q ≤ np → Below Z.heap.size Z V → Calls Try.prog 19 #[.agg #[.slice A1 nb c1, .int .i64 kf, .slice (some ⟨g10, 0, none⟩) (np + 1) d10, .int .i64 (wrg + 1)], .int .i64 q] V fun e V' => ∃ B c, e = .returned (.tuple #[.slice B (ofP bs (twP ps p y (lg - kf - y)) kf (wrg + 1) (q : Int)).length c, .int .i64 (askE bs (twP ps p y (lg - kf - y)) kf (wrg + 1) true)]) ∧ IntsAt V' B (ofP bs (twP ps p y (lg - kf - y)) kf (wrg + 1) (q : Int)).length (ofP bs (twP ps p y (lg - kf - y)) kf (wrg + 1) (q : Int)) ∧ Below V.heap.size V V') := Lib.hid fun q V hq hV => by
    have := of_c A1 (some ⟨g10, 0, none⟩) nb c1 (np + 1) d10 kf (wrg + 1) q bs _ _ V h1 (by omega) h3' (HBZ.out.later hV) (HPZ.out.later hV)
    rw [show wi (q : Int) 0 (((np + 1 : Nat) : Int) - 1) = true from wi_true.2 (by omega)] at this
    refine this.mono fun e W' => ?_
    rintro ⟨v, rfl, ho, hb⟩
    obtain ⟨A, c, rfl, -, hs⟩ := SlAt.of_own (d := (0 : Int)) encI_len ho rfl
    exact ⟨A, c, rfl, ints_iff.2 hs, hb⟩
  have ho3 := Lib.hid (ho2.out p · (by omega) ·)
  have ho4 := Lib.hid (ho2.out np · (Nat.le_refl _) ·)
  clear ho2 h3' hck' er2 LAW
  generalize hX1 : ofP bs ps kf wrg (p : Int) = X1 at ho1 LEN1 hL'
  generalize hX2 : ofP bs (twP ps p y (lg - kf - y)) kf (wrg + 1) (p : Int) = X2 at ho3 LEN2 hL'
  generalize hX3 : ofP bs (twP ps p y (lg - kf - y)) kf (wrg + 1) (np : Int) = X3 at ho4 LEN3 hL'
  generalize hm0 : manyR bs ps kf wrg = m0 at hm1 hL'
  generalize he0 : askE bs ps kf wrg true = e0 at hm1 ho1 hL'
  generalize hn0' : manyR bs (twP ps p y (lg - kf - y)) kf (wrg + 1) = q0 at hm2 hL'
  generalize hf0 : askE bs (twP ps p y (lg - kf - y)) kf (wrg + 1) true = f0 at hm2 ho3 ho4 hL'
  have HL := Lib.hid hL'
  clear hX1 hX2 hX3 hm0 he0 hn0' hf0 hL'
  have ik0 : ∀ V : World, Calls Try.prog 18 #[.int .i64 0] V fun x V' => x = .returned (.bool true) ∧ V = V' := fun V => isKnown_c 0 V
  have ik3 : ∀ V : World, Calls Try.prog 18 #[.int .i64 3] V fun x V' => x = .returned (.bool true) ∧ V = V' := fun V => isKnown_c 3 V
  replace ik0 := Lib.hid ik0
  replace ik3 := Lib.hid ik3
  go_wp2_with fail
  refine (hm1.out _ v1).mono ?_
  rintro e u2 ⟨rfl, hv2⟩
  have v2 : Below Z.heap.size Z u2 := v1.trans (hv2.mono y1)
  clear hv2 c1_0 c1_1 c1_g
  have c2_0 := fun j => (v2.cell (p := ⟨w.heap.size, j, none⟩) N0).trans (PZ.out j)
  have c2_1 := fun j => (v2.cell (p := ⟨w.heap.size + 1, j, none⟩) N1').trans (PZ1.out j)
  have c2_g := fun j => (v2.cell (p := ⟨w3.heap.size, j, none⟩) Ng).trans (KZ.out.cell j)
  have y2 := v2.size
  go_wp2_with fail
  refine (hm2.out _ v2).mono ?_
  rintro e u3 ⟨rfl, hv3⟩
  have v3 : Below Z.heap.size Z u3 := v2.trans (hv3.mono y2)
  clear hv3 c2_0 c2_1 c2_g
  have c3_0 := fun j => (v3.cell (p := ⟨w.heap.size, j, none⟩) N0).trans (PZ.out j)
  have c3_1 := fun j => (v3.cell (p := ⟨w.heap.size + 1, j, none⟩) N1').trans (PZ1.out j)
  have c3_g := fun j => (v3.cell (p := ⟨w3.heap.size, j, none⟩) Ng).trans (KZ.out.cell j)
  have y3 := v3.size
  obtain ⟨hf, hLL⟩ := HL.out
  clear HL
  rcases hLL with rfl | ⟨rfl, rfl, hge, hsb1, hsb2⟩
  · rcases hf with rfl | rfl
    all_goals
      go_wp2_with first | (go_at_call 18; (first | (with_reducible refine (ik0.out _).mono ?_) | (with_reducible refine (ik3.out _).mono ?_)); rintro e w' ⟨rfl, rfl⟩) | (go_at_call 15; refine (hwk.out _).mono ?_; rintro e w99 ⟨rfl, hb99⟩)
      go_ret
      exact ⟨rfl, BX.trans (Below.mono (bZ.trans ((v3.trans (hb99.mono y3)).mono zZ)) zw)⟩
  clear hf
  have hgeB : decide (m0 ≤ q0) = true := by simpa using hge
  have HS1 := Lib.hid hsb1
  have HS2 := Lib.hid hsb2
  clear hge hsb1 hsb2
  go_wp2_with (go_at_call 18; (with_reducible refine (ik0.out _).mono ?_); rintro e w' ⟨rfl, rfl⟩)
  refine (ho1.out _ v3).mono ?_
  rintro e u4 ⟨B1, d1, rfl, hi1, hv4⟩
  have v4 : Below Z.heap.size Z u4 := v3.trans (hv4.mono y3)
  have HI1 := Lib.hid hi1
  clear hv4 c3_0 c3_1 c3_g hi1
  have c4_0 := fun j => (v4.cell (p := ⟨w.heap.size, j, none⟩) N0).trans (PZ.out j)
  have c4_1 := fun j => (v4.cell (p := ⟨w.heap.size + 1, j, none⟩) N1').trans (PZ1.out j)
  have c4_g := fun j => (v4.cell (p := ⟨w3.heap.size, j, none⟩) Ng).trans (KZ.out.cell j)
  have y4 := v4.size
  go_wp2_with fail
  refine (ho3.out _ v4).mono ?_
  rintro e u5 ⟨B2, d2, rfl, hi2, hv5⟩
  have v5 : Below Z.heap.size Z u5 := v4.trans (hv5.mono y4)
  have HI1' := Lib.hid (HI1.out.later hv5)
  have HI2 := Lib.hid hi2
  clear hv5 c4_0 c4_1 c4_g hi2 HI1
  have c5_0 := fun j => (v5.cell (p := ⟨w.heap.size, j, none⟩) N0).trans (PZ.out j)
  have c5_1 := fun j => (v5.cell (p := ⟨w.heap.size + 1, j, none⟩) N1').trans (PZ1.out j)
  have c5_g := fun j => (v5.cell (p := ⟨w3.heap.size, j, none⟩) Ng).trans (KZ.out.cell j)
  have y5 := v5.size
  go_wp2_with fail
  refine (ho4.out _ v5).mono ?_
  rintro e u6 ⟨B3, d3, rfl, hi3, hv6⟩
  have v6 : Below Z.heap.size Z u6 := v5.trans (hv6.mono y5)
  have HJ1 := Lib.hid (HI1'.out.later hv6)
  have HJ2 := Lib.hid (HI2.out.later hv6)
  have HJ3 := Lib.hid hi3
  clear hv6 c5_0 c5_1 c5_g hi3 HI1' HI2
  have c6_0 := fun j => (v6.cell (p := ⟨w.heap.size, j, none⟩) N0).trans (PZ.out j)
  have c6_1 := fun j => (v6.cell (p := ⟨w.heap.size + 1, j, none⟩) N1').trans (PZ1.out j)
  have c6_g := fun j => (v6.cell (p := ⟨w3.heap.size, j, none⟩) Ng).trans (KZ.out.cell j)
  have y6 := v6.size
  have hk2 : decide ((X2.length : Int) ≤ 40) = true := by have := LEN2.out; simp; omega
  have hk3 : decide ((X3.length : Int) ≤ 40) = true := by have := LEN3.out; simp; omega
  have hsu1 : Hid (Calls Try.prog 20 #[.slice B1 X1.length d1, .slice B2 X2.length d2] u6 fun e w' => e = .returned (.bool true) ∧ u6 = w') := Lib.hid (by
    have l1 := LEN1.out
    have l2 := LEN2.out
    have := Subset_c B1 B2 X1.length X2.length d1 d2 X1 X2 u6 (by omega) (by omega) HJ1.out HJ2.out
    rw [HS1.out] at this
    exact this)
  have hsu2 : Hid (Calls Try.prog 20 #[.slice B1 X1.length d1, .slice B3 X3.length d3] u6 fun e w' => e = .returned (.bool true) ∧ u6 = w') := Lib.hid (by
    have l1 := LEN1.out
    have l3 := LEN3.out
    have := Subset_c B1 B3 X1.length X3.length d1 d3 X1 X3 u6 (by omega) (by omega) HJ1.out HJ3.out
    rw [HS2.out] at this
    exact this)
  clear HJ1 HJ2 HJ3 ho1 ho3 ho4 hm1 hm2 hrz
  go_wp2_with first | (go_at_call 20; (first | (with_reducible refine hsu1.out.mono ?_) | (with_reducible refine hsu2.out.mono ?_)); rintro e w' ⟨rfl, rfl⟩) | (go_at_call 15; refine (hwk.out _).mono ?_; rintro e w99 ⟨rfl, hb99⟩)
  go_ret
  exact ⟨rfl, BX.trans (Below.mono (bZ.trans ((v6.trans (hb99.mono y6)).mono zZ)) zw)⟩
set_option maxRecDepth 100000 in
set_option maxHeartbeats 1600000 in
theorem Two_law_c (Ab Ap : Option Addr) (nb cb np cp : Nat) (kf wrg x y : Int) (bs : List Br) (ms : List Pm) (ps : List Pc) (w : World) (HB : BrsAt w Ab nb bs) (HP : PcsAt w Ap np ms ps) :
    Calls Try.prog 3 #[.agg #[.slice Ab nb cb, .int .i64 kf, .slice Ap np cp, .int .i64 wrg], .agg #[.int .i64 x, .int .i64 y]] w fun e w' => e = .returned (.bool true) ∧ Below w.heap.size w w' := by
  have hwk := Lib.hid works_c
  have hrd : ∀ Z, Below w.heap.size w Z → Calls Try.prog 13 #[.agg #[.slice Ab nb cb, .int .i64 kf, .slice Ap np cp, .int .i64 wrg]] Z fun e Z' => e = .returned (.bool (rdyS bs ps kf wrg nb np)) ∧ Below Z.heap.size Z Z' := fun Z hZ => ready_c Ab Ap nb cb np cp kf wrg bs ms ps Z (HB.later hZ) (HP.later hZ)
  cases er : rdyS bs ps kf wrg nb np
  · rw [er] at hrd
    replace hrd := Lib.hid hrd
    clear er HB HP
    go_enter Try.func3, Try.ntmps3
    go_wp2_with fail
    obtain ⟨X, hX⟩ : ∃ X, (w.alloc (.cells #[.slice Ab nb cb, .int .i64 kf, .slice Ap np cp, .int .i64 wrg] 25)).alloc (.cells #[.int .i64 x, .int .i64 y] 27) = X := ⟨_, rfl⟩
    rw [hX]
    have BX : Below w.heap.size w X := (al2 hX).1
    have zX : X.heap.size = w.heap.size + 2 := (al2 hX).2
    have P0 := Lib.hid (al2_0 hX).2.1
    have P1 := Lib.hid (al2_1 hX).2.1
    have zw : w.heap.size ≤ X.heap.size := by omega
    have n0 : w.heap.size < X.heap.size := by omega
    have n1 : w.heap.size + 1 < X.heap.size := by omega
    clear hX
    refine (hrd.out X BX).mono ?_
    rintro e w1 ⟨rfl, b1⟩
    have c1_0 := fun j => (b1.cell (p := ⟨w.heap.size, j, none⟩) n0).trans (P0.out j)
    have c1_1 := fun j => (b1.cell (p := ⟨w.heap.size + 1, j, none⟩) n1).trans (P1.out j)
    have z1 := b1.size
    go_wp2_with fail
    refine (hwk.out _).mono ?_
    rintro e w99 ⟨rfl, hb99⟩
    go_wp2
    go_ret
    exact ⟨rfl, BX.trans (Below.mono (b1.trans (hb99.mono z1)) zw)⟩
  rw [er] at hrd
  replace hrd := Lib.hid hrd
  have hnp : np ≤ 40 := by have := (rdyS_ok er).2.1; omega
  have hip : ∀ Z, Calls Try.prog 14 #[.agg #[.slice Ab nb cb, .int .i64 kf, .slice Ap np cp, .int .i64 wrg], .int .i64 x] Z fun e Z' => e = .returned (.bool (wi x 0 ((np : Int) - 1))) ∧ Below Z.heap.size Z Z' := fun Z => IsPiece_c Ab Ap nb cb np cp kf wrg x Z hnp
  cases ei : wi x 0 ((np : Int) - 1)
  · rw [ei] at hip
    replace hip := Lib.hid hip
    clear er HB HP ei
    go_enter Try.func3, Try.ntmps3
    go_wp2_with fail
    obtain ⟨X, hX⟩ : ∃ X, (w.alloc (.cells #[.slice Ab nb cb, .int .i64 kf, .slice Ap np cp, .int .i64 wrg] 25)).alloc (.cells #[.int .i64 x, .int .i64 y] 27) = X := ⟨_, rfl⟩
    rw [hX]
    have BX : Below w.heap.size w X := (al2 hX).1
    have zX : X.heap.size = w.heap.size + 2 := (al2 hX).2
    have P0 := Lib.hid (al2_0 hX).2.1
    have P1 := Lib.hid (al2_1 hX).2.1
    have zw : w.heap.size ≤ X.heap.size := by omega
    have n0 : w.heap.size < X.heap.size := by omega
    have n1 : w.heap.size + 1 < X.heap.size := by omega
    clear hX
    refine (hrd.out X BX).mono ?_
    rintro e w1 ⟨rfl, b1⟩
    have c1_0 := fun j => (b1.cell (p := ⟨w.heap.size, j, none⟩) n0).trans (P0.out j)
    have c1_1 := fun j => (b1.cell (p := ⟨w.heap.size + 1, j, none⟩) n1).trans (P1.out j)
    have z1 := b1.size
    go_wp2_with fail
    refine (hip.out _).mono ?_
    rintro e w2 ⟨rfl, hb2⟩
    have b2 : Below X.heap.size X w2 := b1.trans (hb2.mono z1)
    clear hb2 c1_0 c1_1 b1
    have c2_0 := fun j => (b2.cell (p := ⟨w.heap.size, j, none⟩) n0).trans (P0.out j)
    have c2_1 := fun j => (b2.cell (p := ⟨w.heap.size + 1, j, none⟩) n1).trans (P1.out j)
    have z2 := b2.size
    go_wp2_with fail
    refine (hwk.out _).mono ?_
    rintro e w99 ⟨rfl, hb99⟩
    go_wp2
    go_ret
    exact ⟨rfl, BX.trans (Below.mono (b2.trans (hb99.mono z2)) zw)⟩
  rw [ei] at hip
  replace hip := Lib.hid hip
  by_cases g1 : y < 1
  · have hlB : decide (y < 1) = true := by simpa using g1
    clear er HB HP ei
    go_enter Try.func3, Try.ntmps3
    go_wp2_with fail
    obtain ⟨X, hX⟩ : ∃ X, (w.alloc (.cells #[.slice Ab nb cb, .int .i64 kf, .slice Ap np cp, .int .i64 wrg] 25)).alloc (.cells #[.int .i64 x, .int .i64 y] 27) = X := ⟨_, rfl⟩
    rw [hX]
    have BX : Below w.heap.size w X := (al2 hX).1
    have zX : X.heap.size = w.heap.size + 2 := (al2 hX).2
    have P0 := Lib.hid (al2_0 hX).2.1
    have P1 := Lib.hid (al2_1 hX).2.1
    have zw : w.heap.size ≤ X.heap.size := by omega
    have n0 : w.heap.size < X.heap.size := by omega
    have n1 : w.heap.size + 1 < X.heap.size := by omega
    clear hX
    refine (hrd.out X BX).mono ?_
    rintro e w1 ⟨rfl, b1⟩
    have c1_0 := fun j => (b1.cell (p := ⟨w.heap.size, j, none⟩) n0).trans (P0.out j)
    have c1_1 := fun j => (b1.cell (p := ⟨w.heap.size + 1, j, none⟩) n1).trans (P1.out j)
    have z1 := b1.size
    go_wp2_with fail
    refine (hip.out _).mono ?_
    rintro e w2 ⟨rfl, hb2⟩
    have b2 : Below X.heap.size X w2 := b1.trans (hb2.mono z1)
    clear hb2 c1_0 c1_1 b1
    have c2_0 := fun j => (b2.cell (p := ⟨w.heap.size, j, none⟩) n0).trans (P0.out j)
    have c2_1 := fun j => (b2.cell (p := ⟨w.heap.size + 1, j, none⟩) n1).trans (P1.out j)
    have z2 := b2.size
    go_wp2_with fail
    refine (hwk.out _).mono ?_
    rintro e w99 ⟨rfl, hb99⟩
    go_wp2
    go_ret
    exact ⟨rfl, BX.trans (Below.mono (b2.trans (hb99.mono z2)) zw)⟩
  by_cases g2 : 999 < y
  · have hlB : decide (y < 1) = false := by simpa using g1
    have hlC : decide (999 < y) = true := by simpa using g2
    clear er HB HP ei
    go_enter Try.func3, Try.ntmps3
    go_wp2_with fail
    obtain ⟨X, hX⟩ : ∃ X, (w.alloc (.cells #[.slice Ab nb cb, .int .i64 kf, .slice Ap np cp, .int .i64 wrg] 25)).alloc (.cells #[.int .i64 x, .int .i64 y] 27) = X := ⟨_, rfl⟩
    rw [hX]
    have BX : Below w.heap.size w X := (al2 hX).1
    have zX : X.heap.size = w.heap.size + 2 := (al2 hX).2
    have P0 := Lib.hid (al2_0 hX).2.1
    have P1 := Lib.hid (al2_1 hX).2.1
    have zw : w.heap.size ≤ X.heap.size := by omega
    have n0 : w.heap.size < X.heap.size := by omega
    have n1 : w.heap.size + 1 < X.heap.size := by omega
    clear hX
    refine (hrd.out X BX).mono ?_
    rintro e w1 ⟨rfl, b1⟩
    have c1_0 := fun j => (b1.cell (p := ⟨w.heap.size, j, none⟩) n0).trans (P0.out j)
    have c1_1 := fun j => (b1.cell (p := ⟨w.heap.size + 1, j, none⟩) n1).trans (P1.out j)
    have z1 := b1.size
    go_wp2_with fail
    refine (hip.out _).mono ?_
    rintro e w2 ⟨rfl, hb2⟩
    have b2 : Below X.heap.size X w2 := b1.trans (hb2.mono z1)
    clear hb2 c1_0 c1_1 b1
    have c2_0 := fun j => (b2.cell (p := ⟨w.heap.size, j, none⟩) n0).trans (P0.out j)
    have c2_1 := fun j => (b2.cell (p := ⟨w.heap.size + 1, j, none⟩) n1).trans (P1.out j)
    have z2 := b2.size
    go_wp2_with fail
    refine (hwk.out _).mono ?_
    rintro e w99 ⟨rfl, hb99⟩
    go_wp2
    go_ret
    exact ⟨rfl, BX.trans (Below.mono (b2.trans (hb99.mono z2)) zw)⟩
  have hin := wi_true.1 ei
  obtain ⟨p, rfl⟩ := Int.eq_ofNat_of_zero_le hin.1
  exact TwoMain_c Ab Ap nb cb np cp p kf wrg y bs ms ps w HB HP er (by omega) g1 g2 hrd hip

end Go.Proofs.Ytmopnbijfcamjaa
