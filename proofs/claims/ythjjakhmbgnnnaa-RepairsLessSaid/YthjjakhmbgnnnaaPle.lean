/- RepairsLess (layer 7): the walk. -/
import Derived.Deep.DeepCutAuto
import Derived.Test.YthjjakhmbgnnnaaLv7
import Derived.Test.YthjjakhmbgnnnaaCp7
namespace Go.Proofs.Ythjjakhmbgnnnaa
open Go.RowKit
open Go.Sort (grow)
set_option linter.unusedVariables false

def mn2 (a b : Int) : Int := if b < a then b else a
def mx2 (a b : Int) : Int := if a < b then b else a
theorem min2_int {x y : Int} : Builtin.min2 (.int .i64 x) (.int .i64 y) = pure (.int .i64 (mn2 x y)) := rfl
theorem max2_int {x y : Int} : Builtin.max2 (.int .i64 x) (.int .i64 y) = pure (.int .i64 (mx2 x y)) := rfl
def mn7 (a b c d e f g : Int) : Int := mn2 (mn2 (mn2 (mn2 (mn2 (mn2 a b) c) d) e) f) g
def mx7 (a b c d e f g : Int) : Int := mx2 (mx2 (mx2 (mx2 (mx2 (mx2 a b) c) d) e) f) g
theorem mn2_ge {a b : Int} (h : ¬ mn2 a b < 0) : ¬ a < 0 ∧ 0 ≤ b := by unfold mn2 at h; split at h <;> omega
theorem mx2_le {a b k : Int} (h : ¬ k < mx2 a b) : ¬ k < a ∧ b ≤ k := by unfold mx2 at h; split at h <;> omega
theorem mn7_ge {a b c d e f g : Int} (h : ¬ mn7 a b c d e f g < 0) : 0 ≤ a ∧ 0 ≤ b ∧ 0 ≤ c ∧ 0 ≤ d ∧ 0 ≤ e ∧ 0 ≤ f ∧ 0 ≤ g := by
  unfold mn7 at h
  obtain ⟨h, h6⟩ := mn2_ge h
  obtain ⟨h, h5⟩ := mn2_ge h
  obtain ⟨h, h4⟩ := mn2_ge h
  obtain ⟨h, h3⟩ := mn2_ge h
  obtain ⟨h, h2⟩ := mn2_ge h
  obtain ⟨h, h1⟩ := mn2_ge h
  exact ⟨by omega, h1, h2, h3, h4, h5, h6⟩
theorem mx7_le {a b c d e f g k : Int} (h : ¬ k < mx7 a b c d e f g) : a ≤ k ∧ b ≤ k ∧ c ≤ k ∧ d ≤ k ∧ e ≤ k ∧ f ≤ k ∧ g ≤ k := by
  unfold mx7 at h
  obtain ⟨h, h6⟩ := mx2_le h
  obtain ⟨h, h5⟩ := mx2_le h
  obtain ⟨h, h4⟩ := mx2_le h
  obtain ⟨h, h3⟩ := mx2_le h
  obtain ⟨h, h2⟩ := mx2_le h
  obtain ⟨h, h1⟩ := mx2_le h
  exact ⟨by omega, h1, h2, h3, h4, h5, h6⟩
theorem run_min7 {P : Program} {w : World} (ts : Array TypeId) (t : TypeId) (a b c d e f g : Int) : (Builtin.min_ ts t #[.int .i64 a, .int .i64 b, .int .i64 c, .int .i64 d, .int .i64 e, .int .i64 f, .int .i64 g]).run P w = .ok (.int .i64 (mn7 a b c d e f g)) w := by
  simp [Builtin.min_, min2_int, mn7]
theorem run_max7 {P : Program} {w : World} (ts : Array TypeId) (t : TypeId) (a b c d e f g : Int) : (Builtin.max_ ts t #[.int .i64 a, .int .i64 b, .int .i64 c, .int .i64 d, .int .i64 e, .int .i64 f, .int .i64 g]).run P w = .ok (.int .i64 (mx7 a b c d e f g)) w := by
  simp [Builtin.max_, max2_int, mx7]
attribute [local go_sem] run_min7 run_max7
/-- the copied cable, where both ways meet again -/
def CutLe (X : World) (g n : Nat) (q' : Cb) (A1 : Option Addr) (k1 : Nat) (ls : List Sp) (wx : World) : Prop :=
  ∃ ls' : List Sp, (∀ i, i < n → (spAt ls i).lo ≤ (spAt ls' i).lo ∧ (spAt ls i).hi ≤ (spAt ls' i).hi) ∧ SpsAt wx A1 n ls' ∧ Below X.heap.size X wx ∧
    (∀ j, wx.cell? ⟨g, j, none⟩ = #[Value.slice A1 n k1, .int .i64 q'.need, .int .i64 q'.gap, .int .i64 q'.doubt, .int .i64 q'.joins, .int .i64 q'.least][j]?) ∧ g < wx.heap.size
theorem ck_bd {n : Nat} {ls : List Sp} {q : Cb} (h : ckC n ls q = true) : (0 ≤ q.need ∧ q.need ≤ 9999) ∧ (1 ≤ q.gap ∧ q.gap ≤ 12) ∧ (0 ≤ q.doubt ∧ q.doubt ≤ 12) ∧ (0 ≤ q.joins ∧ q.joins ≤ 12) ∧ 1 ≤ q.least ∧ q.least ≤ 12 := by
  simp only [ckC, Bool.and_eq_true] at h
  obtain ⟨⟨h1, h2, h3, h4, h5, h6⟩, -⟩ := h
  exact ⟨wi_true.1 h2, wi_true.1 h3, wi_true.1 h4, wi_true.1 h5, wi_true.1 h6⟩
set_option maxRecDepth 100000 in
set_option maxHeartbeats 6400000 in
theorem LessMain_c (A : Option Addr) (n c : Nat) (q : Cb) (ls : List Sp) (y0 y1 y2 y3 y4 y5 y6 y7 x0 x1 x2 : Int) (w : World) (hq : CbOk q) (HL : SpsAt w A n ls) (er : rdyC n ls q = true) (ea : askC x0 x1 x2 = true)
    (hmn : ¬ mn7 y0 y1 y2 y3 y4 y6 y7 < 0) (hmx : ¬ 9999 < mx7 y0 y1 y2 y3 y4 y6 y7)
    (hrd : Hid (∀ Z, Below w.heap.size w Z → Calls Try.prog 12 #[.agg #[.slice A n c, .int .i64 q.need, .int .i64 q.gap, .int .i64 q.doubt, .int .i64 q.joins, .int .i64 q.least]] Z fun e Z' => e = .returned (.bool true) ∧ Below Z.heap.size Z Z'))
    (hak : Hid (∀ Z, Calls Try.prog 13 #[.agg #[.int .i64 x0, .int .i64 x1, .int .i64 x2]] Z fun e Z' => e = .returned (.bool true) ∧ Below Z.heap.size Z Z')) :
    Calls Try.prog 3 #[.agg #[.slice A n c, .int .i64 q.need, .int .i64 q.gap, .int .i64 q.doubt, .int .i64 q.joins, .int .i64 q.least], .agg #[.int .i64 y0, .int .i64 y1, .int .i64 y2, .int .i64 y3, .int .i64 y4, .int .i64 y5, .int .i64 y6, .int .i64 y7], .agg #[.int .i64 x0, .int .i64 x1, .int .i64 x2]] w
      fun e w' => e = .returned (.bool true) ∧ Below w.heap.size w w' := by
  have hwk := Lib.hid works_c
  obtain ⟨l0, l1, l2, l3, l4, l6, l7⟩ := mn7_ge hmn
  obtain ⟨g0, g1, g2, g3, g4, g6, g7⟩ := mx7_le hmx
  obtain ⟨hn8, hck⟩ := rdyC_len er
  have HLI := Lib.hid HL
  have HCK := Lib.hid hck
  have HEA := Lib.hid ea
  have HQ := Lib.hid hq
  clear er ea HL hq hck
  go_enter Try.func3, Try.ntmps3
  go_wp2_with fail
  obtain ⟨X, hX⟩ : ∃ X, ((w.alloc (.cells #[.slice A n c, .int .i64 q.need, .int .i64 q.gap, .int .i64 q.doubt, .int .i64 q.joins, .int .i64 q.least] 24)).alloc (.cells #[.int .i64 y0, .int .i64 y1, .int .i64 y2, .int .i64 y3, .int .i64 y4, .int .i64 y5, .int .i64 y6, .int .i64 y7] 26)).alloc (.cells #[.int .i64 x0, .int .i64 x1, .int .i64 x2] 28) = X := ⟨_, rfl⟩
  rw [hX]
  have BX : Below w.heap.size w X := (al3 hX).1
  have zX : X.heap.size = w.heap.size + 3 := (al3 hX).2
  have P0 := Lib.hid (al3_0 hX).2.1
  have P1 := Lib.hid (al3_1 hX).2.1
  have P2 := Lib.hid (al3_2 hX).2.1
  have zw : w.heap.size ≤ X.heap.size := by omega
  have n0 : w.heap.size < X.heap.size := by omega
  have n1 : w.heap.size + 1 < X.heap.size := by omega
  have n2 : w.heap.size + 1 + 1 < X.heap.size := by omega
  clear hX
  refine (hrd.out X BX).mono ?_
  rintro e w1 ⟨rfl, hb1⟩
  have b1 := hb1
  clear hb1
  have c1_0 := fun j => (b1.cell (p := ⟨w.heap.size, j, none⟩) n0).trans (P0.out j)
  have c1_1 := fun j => (b1.cell (p := ⟨w.heap.size + 1, j, none⟩) n1).trans (P1.out j)
  have c1_2 := fun j => (b1.cell (p := ⟨w.heap.size + 1 + 1, j, none⟩) n2).trans (P2.out j)
  have z1 := b1.size
  go_wp2_with fail
  refine (hak.out _).mono ?_
  rintro e w2 ⟨rfl, hb2⟩
  have b2 : Below X.heap.size X w2 := b1.trans (hb2.mono z1)
  clear hb2 c1_0 c1_1 c1_2 b1
  have c2_0 := fun j => (b2.cell (p := ⟨w.heap.size, j, none⟩) n0).trans (P0.out j)
  have c2_1 := fun j => (b2.cell (p := ⟨w.heap.size + 1, j, none⟩) n1).trans (P1.out j)
  have c2_2 := fun j => (b2.cell (p := ⟨w.heap.size + 1 + 1, j, none⟩) n2).trans (P2.out j)
  have z2 := b2.size
  go_wp2_with fail
  refine (Copy_c A n c q ls w2 (by omega) (HLI.out.later (BX.trans (b2.mono zw)))).mono ?_
  rintro e w3 ⟨A1, k1, rfl, hO, hb3⟩
  have HO := Lib.hid hO
  have b3 : Below X.heap.size X w3 := b2.trans (hb3.mono z2)
  have z3' := hb3.size
  clear hb3 hO c2_0 c2_1 c2_2
  have c3_0 := fun j => (b3.cell (p := ⟨w.heap.size, j, none⟩) n0).trans (P0.out j)
  have c3_1 := fun j => (b3.cell (p := ⟨w.heap.size + 1, j, none⟩) n1).trans (P1.out j)
  have c3_2 := fun j => (b3.cell (p := ⟨w.heap.size + 1 + 1, j, none⟩) n2).trans (P2.out j)
  have z3 := b3.size
  go_wp2_with fail
  obtain ⟨t0, t1, t2, t3, t4⟩ := ck_bd HCK.out
  obtain ⟨q', e0, e1, e2, e3, e4, e5⟩ : ∃ q' : Cb, q'.need = q.need - y0 ∧ q'.gap = q.gap - y1 ∧ q'.least = q.least - y2 ∧ q'.doubt = q.doubt + y3 ∧ q'.joins = q.joins + y4 ∧ CbOk q' := ⟨⟨q.need - y0, q.gap - y1, q.doubt + y3, q.joins + y4, q.least - y2⟩, rfl, rfl, rfl, rfl, rfl, by unfold CbOk; simp only; omega⟩
  have hs0 : IntKind.i64.wrap (q.need - y0) = q'.need := by rw [e0, IntWalk.i64_in _ (by omega)]
  have hs1 : IntKind.i64.wrap (q.gap - y1) = q'.gap := by rw [e1, IntWalk.i64_in _ (by omega)]
  have hs2 : IntKind.i64.wrap (q.least - y2) = q'.least := by rw [e2, IntWalk.i64_in _ (by omega)]
  have hs3 : IntKind.i64.wrap (q.doubt + y3) = q'.doubt := by rw [e3, IntWalk.i64_in _ (by omega)]
  have hs4 : IntKind.i64.wrap (q.joins + y4) = q'.joins := by rw [e4, IntWalk.i64_in _ (by omega)]
  have HE := Lib.hid (show q'.need ≤ q.need ∧ q'.gap ≤ q.gap ∧ q'.least ≤ q.least ∧ q.doubt ≤ q'.doubt ∧ q.joins ≤ q'.joins by omega)
  have HQ' := Lib.hid e5
  clear e0 e1 e2 e3 e4 e5
  go_name_world Y hY
  have BL : Blk Y w3.heap.size 24 #[.slice A1 n k1, .int .i64 q.need, .int .i64 q.gap, .int .i64 q.doubt, .int .i64 q.joins, .int .i64 q.least] := by rw [← hY]; exact Blk.new _ _ _
  have o0 := BL.cell
  have of := BL.frozen
  have lY := BL.lt
  have bY := (al1 hY).1
  have b4 : Below X.heap.size X Y := b3.trans (bY.mono z3)
  have HOY := Lib.hid (own_below HO.out bY)
  replace BL := Lib.hid BL
  clear hY bY c3_0 c3_1 c3_2
  have c4_0 := fun j => (b4.cell (p := ⟨w.heap.size, j, none⟩) n0).trans (P0.out j)
  have c4_1 := fun j => (b4.cell (p := ⟨w.heap.size + 1, j, none⟩) n1).trans (P1.out j)
  have c4_2 := fun j => (b4.cell (p := ⟨w.heap.size + 1 + 1, j, none⟩) n2).trans (P2.out j)
  have z4 := b4.size
  go_region_held3 (fun w' => (∀ j, w'.cell? ⟨w.heap.size, j, none⟩ = #[Value.slice A n c, .int .i64 q.need, .int .i64 q.gap, .int .i64 q.doubt, .int .i64 q.joins, .int .i64 q.least][j]?) ∧ (∀ j, w'.cell? ⟨w.heap.size + 1, j, none⟩ = #[Value.int .i64 y0, .int .i64 y1, .int .i64 y2, .int .i64 y3, .int .i64 y4, .int .i64 y5, .int .i64 y6, .int .i64 y7][j]?))
    (first | with_reducible exact ⟨c4_0, c4_1⟩ | ((simp only [World.cell?_drew]; refine ⟨fun j => ?_, fun j => ?_⟩) <;> (repeat first | with_reducible exact c4_0 _ | with_reducible exact c4_1 _ | ((with_reducible refine (World.cell?_setCell_other _ _ _ _ ?side).trans ?_); case side => (intro h; simp only [Addr.mk.injEq] at h; omega))); done) | go_keep)
    (fail)
  clear hs0 hs1 hs2 hs3 hs4
  go_upto_region 5 with (fail)
  go_name_world Z hZ
  have bZ : Below X.heap.size X Z := by rw [← hZ]; (repeat first | with_reducible assumption | with_reducible exact Below.refl _ _ | (with_reducible refine Below.alloc ?_ ?side _; case side => (first | omega | (with_reducible exact Below.size (by assumption)) | (simp; done) | (simp; omega))) | (with_reducible refine Below.setCell ?_ ?side _; case side => (first | omega | (with_reducible exact Below.size (by assumption)) | (simp; done) | (simp; omega))) | with_reducible refine Below.drew ?_ | with_reducible refine below_drewN ?_ _ | (with_reducible refine below_step (by assumption) ?side ?_; case side => (first | omega | (with_reducible exact Below.size (by assumption)) | (simp; done) | (simp; omega))))
  have BZ : Blk Z w3.heap.size 24 #[.slice A1 n k1, .int .i64 q'.need, .int .i64 q'.gap, .int .i64 q'.doubt, .int .i64 q'.joins, .int .i64 q'.least] := by
    have h := ((((BL.out.set_ 1 (.int .i64 q'.need)).set_ 2 (.int .i64 q'.gap)).set_ 5 (.int .i64 q'.least)).set_ 3 (.int .i64 q'.doubt)).set_ 4 (.int .i64 q'.joins)
    rw [← hZ]
    refine Blk.drew ?_
    simpa using h
  have OZ : Hid (Z.ownsRow w2.heap.size 35 2 (.slice A1 n k1) n (ls.flatMap encS)) := by
    rw [← hZ]
    repeat first | with_reducible exact HOY.out | with_reducible refine World.ownsRow.drew ?_ | refine own_set ?_ (fun k hk => by have := (HO.out.lt k hk).2; simp; omega)
  have NE := Lib.hid (fun k hk (e : k = w3.heap.size) => by have := (HO.out.lt k hk).2; omega : ∀ k, (Value.slice A1 n k1).ownBlock = some k → k = w3.heap.size → False)
  clear hZ c4_0 c4_1 c4_2 o0 of BL HOY
  have o0 := BZ.cell
  have of := BZ.frozen
  have lZ := BZ.lt
  have b5 := bZ
  clear bZ
  have c5_0 := fun j => (b5.cell (p := ⟨w.heap.size, j, none⟩) n0).trans (P0.out j)
  have c5_1 := fun j => (b5.cell (p := ⟨w.heap.size + 1, j, none⟩) n1).trans (P1.out j)
  have c5_2 := fun j => (b5.cell (p := ⟨w.heap.size + 1 + 1, j, none⟩) n2).trans (P2.out j)
  have z5 := b5.size
  go_upto_if 103 with (go_at_call 16; refine (Within1_c _ _ _ _).mono ?_; rintro e w' ⟨rfl, rfl⟩)
  go_cut [8] (fun s8 wx => CutLe X w3.heap.size n q' A1 k1 ls wx)
  case first =>
    as_aux_lemma =>
      cases hno : wi y5 0 ((n : Int) - 1)
      · go_wp2_with fail
        go_meet
        exact ⟨ls, fun i _ => ⟨Int.le_refl _, Int.le_refl _⟩, sps_iff.2 (sl_of_own encS_len OZ.out HLI.out.1), b5, o0, lZ⟩
      · have hin := wi_true.1 hno
        obtain ⟨k, rfl⟩ := Int.eq_ofNat_of_zero_le hin.1
        have hk : k < n := by omega
        have bwZ : Below w.heap.size w Z := BX.trans (b5.mono zw)
        obtain ⟨b0, f0, rfl, hb0, s0, s1⟩ := (HLI.out.later bwZ).get hk
        have hb0' : b0 < w.heap.size := by
          obtain ⟨b1, f1, e1, hb1, -⟩ := HLI.out.get hk
          cases e1
          exact hb1
        obtain ⟨ga, k1', e4s, hga, hga'⟩ := OZ.out.form (by omega)
        injection e4s with e4a e4b e4c
        subst e4a e4c
        have r1 : ga ≠ w3.heap.size := fun e => NE.out ga rfl e
        have t0 : Z.cell? ⟨ga, k * 2, none⟩ = some (.int .i64 (spAt ls k).lo) := (OZ.out.cellAt (k * 2) (by omega)).trans (flat_get (d := (⟨0, 0⟩ : Sp)) encS_len ls k 0 (by omega) (by rw [HLI.out.1]; exact hk))
        have t1 : Z.cell? ⟨ga, k * 2 + 1, none⟩ = some (.int .i64 (spAt ls k).hi) := (OZ.out.cellAt (k * 2 + 1) (by omega)).trans (flat_get (d := (⟨0, 0⟩ : Sp)) encS_len ls k 1 (by omega) (by rw [HLI.out.1]; exact hk))
        have fz0 := OZ.out.frozenAt (k * 2)
        have fz1 := OZ.out.frozenAt (k * 2 + 1)
        have hsp := (okSp_of HLI.out.1 HCK.out).2 k hk
        have m0 : IntKind.i64.wrap ((spAt ls k).lo + y6) = (spAt ls k).lo + y6 := IntWalk.i64_in _ (by omega)
        have m1 : IntKind.i64.wrap ((spAt ls k).hi + y7) = (spAt ls k).hi + y7 := IntWalk.i64_in _ (by omega)
        have SPL := Lib.hid (rfl : spAt ls k = spAt ls k)
        have q1 : w2.heap.size ≤ ga := hga
        have q2 := b2.size
        clear e4b hin
        go_upto_region 6 with (fail)
        clear hno
        go_region_held3 (fun w' => (∀ j, w'.cell? ⟨w.heap.size, j, none⟩ = #[Value.slice (some ⟨b0, f0, none⟩) n c, .int .i64 q.need, .int .i64 q.gap, .int .i64 q.doubt, .int .i64 q.joins, .int .i64 q.least][j]?) ∧ (∀ j, w'.cell? ⟨w.heap.size + 1, j, none⟩ = #[Value.int .i64 y0, .int .i64 y1, .int .i64 y2, .int .i64 y3, .int .i64 y4, .int .i64 k, .int .i64 y6, .int .i64 y7][j]?) ∧
            (∀ j, w'.cell? ⟨w3.heap.size, j, none⟩ = #[Value.slice (some ⟨ga, 0, none⟩) n k1, .int .i64 q'.need, .int .i64 q'.gap, .int .i64 q'.doubt, .int .i64 q'.joins, .int .i64 q'.least][j]?) ∧ w'.cell? ⟨b0, f0 + k * 2, none⟩ = some (.int .i64 (spAt ls k).lo) ∧ w'.cell? ⟨b0, f0 + k * 2 + 1, none⟩ = some (.int .i64 (spAt ls k).hi))
          (first | with_reducible exact ⟨c5_0, c5_1, o0, s0, s1⟩ | ((simp only [World.cell?_drew]; refine ⟨fun j => ?_, fun j => ?_, fun j => ?_, ?_, ?_⟩) <;> (repeat first | with_reducible exact c5_0 _ | with_reducible exact c5_1 _ | with_reducible exact o0 _ | with_reducible exact s0 | with_reducible exact s1 | ((with_reducible refine (World.cell?_setCell_other _ _ _ _ ?side).trans ?_); case side => (intro h; simp only [Addr.mk.injEq] at h; omega))); done) | go_keep)
          (fail)
        go_wp2_with fail
        go_meet
        have hO1 : ((Z.setCell ⟨ga, k * 2, none⟩ (.int .i64 ((spAt ls k).lo + y6))).setCell ⟨ga, k * 2 + 1, none⟩ (.int .i64 ((spAt ls k).hi + y7))).ownsRow w2.heap.size 35 2 (.slice (some ⟨ga, 0, none⟩) n k1) n ((ls.set k ⟨(spAt ls k).lo + y6, (spAt ls k).hi + y7⟩).flatMap encS) := by
          have a1 := (OZ.out.stored (k * 2 + 0) (.int .i64 ((spAt ls k).lo + y6))).1
          rw [flat_set encS_len ls k 0 ⟨(spAt ls k).lo + y6, (spAt ls k).hi⟩ (⟨0, 0⟩ : Sp) _ (by rw [HLI.out.1]; exact hk) (by omega) rfl] at a1
          have a2 := (a1.stored (k * 2 + 1) (.int .i64 ((spAt ls k).hi + y7))).1
          rw [flat_set encS_len _ k 1 ⟨(spAt ls k).lo + y6, (spAt ls k).hi + y7⟩ (⟨0, 0⟩ : Sp) _ (by rw [List.length_set, HLI.out.1]; exact hk) (by omega) (by
            rw [List.getD_eq_getElem?_getD, List.getElem?_set]
            simp [HLI.out.1, hk, encS]), List.set_set] at a2
          exact a2
        refine ⟨ls.set k ⟨(spAt ls k).lo + y6, (spAt ls k).hi + y7⟩, fun i hi => ?_, ?_, ?_, fun j => ?_, ?_⟩
        · have e : spAt (ls.set k ⟨(spAt ls k).lo + y6, (spAt ls k).hi + y7⟩) i = if i = k then ⟨(spAt ls k).lo + y6, (spAt ls k).hi + y7⟩ else spAt ls i := by
            show (ls.set k _).getD i _ = _
            rw [List.getD_eq_getElem?_getD, List.getElem?_set]
            by_cases e : i = k
            · subst e; simp [HLI.out.1, hk]
            · rw [if_neg (fun h => e h.symm), if_neg e]; unfold spAt; rw [List.getD_eq_getElem?_getD]
          rw [e]
          split
          · rename_i e; subst e; simp only; omega
          · omega
        · exact sps_iff.2 (sl_of_own encS_len hO1.drew (by rw [List.length_set]; exact HLI.out.1))
        · (repeat first | with_reducible assumption | with_reducible exact Below.refl _ _ | (with_reducible refine Below.alloc ?_ ?side _; case side => (first | omega | (with_reducible exact Below.size (by assumption)) | (simp; done) | (simp; omega))) | (with_reducible refine Below.setCell ?_ ?side _; case side => (first | omega | (with_reducible exact Below.size (by assumption)) | (simp; done) | (simp; omega))) | with_reducible refine Below.drew ?_ | with_reducible refine below_drewN ?_ _ | (with_reducible refine below_step (by assumption) ?side ?_; case side => (first | omega | (with_reducible exact Below.size (by assumption)) | (simp; done) | (simp; omega))))
        · rw [World.cell?_drew]
          refine (World.cell?_setCell_other _ _ _ _ (by intro h; simp only [Addr.mk.injEq] at h; omega)).trans ((World.cell?_setCell_other _ _ _ _ (by intro h; simp only [Addr.mk.injEq] at h; omega)).trans (o0 j))
        · show _ < ((Z.setCell _ _).setCell _ _).heap.size
          simp only [World.size_setCell]; exact lZ
  case rest =>
    obtain ⟨ls', hwid, hSP, bc, hcg, hlg⟩ := hcut
    have E : Easier q q' ls ls' n := ⟨HE.out.1, HE.out.2.1, HE.out.2.2.1, HE.out.2.2.2.1, HE.out.2.2.2.2, fun i hi => (hwid i hi).1, fun i hi => (hwid i hi).2⟩
    have hrc : ∀ V, Below wc.heap.size wc V → Calls Try.prog 12 #[.agg #[.slice A1 n k1, .int .i64 q'.need, .int .i64 q'.gap, .int .i64 q'.doubt, .int .i64 q'.joins, .int .i64 q'.least]] V fun e V' => e = .returned (.bool (rdyC n ls' q')) ∧ Below V.heap.size V V' := fun V hV => ready_c A1 n k1 q' ls' V (hSP.later hV)
    have BW : Below w.heap.size w wc := BX.trans (bc.mono zw)
    have hvV : ∀ V, Below wc.heap.size wc V → Below w.heap.size w V := fun V hV => BW.trans (hV.mono BW.size)
    have hfa : ∀ V, Below wc.heap.size wc V → Calls Try.prog 17 #[.agg #[.slice A n c, .int .i64 q.need, .int .i64 q.gap, .int .i64 q.doubt, .int .i64 q.joins, .int .i64 q.least]] V fun e V' => e = .returned (.tuple #[.int .i64 ((plC n ls q).length : Nat), .int .i64 (erS n ls q)]) ∧ Below V.heap.size V V' := fun V hV => fewest_c A n c q ls V (by omega) HQ.out (HLI.out.later (hvV V hV))
    have hfb : ∀ V, Below wc.heap.size wc V → Calls Try.prog 17 #[.agg #[.slice A1 n k1, .int .i64 q'.need, .int .i64 q'.gap, .int .i64 q'.doubt, .int .i64 q'.joins, .int .i64 q'.least]] V fun e V' => e = .returned (.tuple #[.int .i64 ((plC n ls' q').length : Nat), .int .i64 (erS n ls' q')]) ∧ Below V.heap.size V V' := fun V hV => fewest_c A1 n k1 q' ls' V (by omega) HQ'.out (hSP.later hV)
    have hca : ∀ V, Below wc.heap.size wc V → Calls Try.prog 18 #[.agg #[.slice A n c, .int .i64 q.need, .int .i64 q.gap, .int .i64 q.doubt, .int .i64 q.joins, .int .i64 q.least], .int .i64 x0, .int .i64 x1] V fun e V' => e = .returned (.tuple #[.int .i64 (chR n ls q x0 x1).1, .int .i64 (chR n ls q x0 x1).2]) ∧ Below V.heap.size V V' := fun V hV => cheapest_c A n c q x0 x1 ls V (by omega) HQ.out (HLI.out.later (hvV V hV))
    have hcb : ∀ V, Below wc.heap.size wc V → Calls Try.prog 18 #[.agg #[.slice A1 n k1, .int .i64 q'.need, .int .i64 q'.gap, .int .i64 q'.doubt, .int .i64 q'.joins, .int .i64 q'.least], .int .i64 x0, .int .i64 x1] V fun e V' => e = .returned (.tuple #[.int .i64 (chR n ls' q' x0 x1).1, .int .i64 (chR n ls' q' x0 x1).2]) ∧ Below V.heap.size V V' := fun V hV => cheapest_c A1 n k1 q' x0 x1 ls' V (by omega) HQ'.out (hSP.later hV)
    have hsa : ∀ V, Below wc.heap.size wc V → Calls Try.prog 19 #[.agg #[.slice A n c, .int .i64 q.need, .int .i64 q.gap, .int .i64 q.doubt, .int .i64 q.joins, .int .i64 q.least], .int .i64 x2] V fun e V' => e = .returned (.tuple #[.int .i64 (stR n ls q x2).1, .int .i64 (stR n ls q x2).2]) ∧ Below V.heap.size V V' := fun V hV => strong_c A n c q x2 ls V (by omega) HQ.out (HLI.out.later (hvV V hV))
    have hsb : ∀ V, Below wc.heap.size wc V → Calls Try.prog 19 #[.agg #[.slice A1 n k1, .int .i64 q'.need, .int .i64 q'.gap, .int .i64 q'.doubt, .int .i64 q'.joins, .int .i64 q'.least], .int .i64 x2] V fun e V' => e = .returned (.tuple #[.int .i64 (stR n ls' q' x2).1, .int .i64 (stR n ls' q' x2).2]) ∧ Below V.heap.size V V' := fun V hV => strong_c A1 n k1 q' x2 ls' V (by omega) HQ'.out (hSP.later hV)
    have C0 := Lib.hid (fun j => (bc.cell (p := ⟨w.heap.size, j, none⟩) n0).trans (P0.out j))
    have C2 := Lib.hid (fun j => (bc.cell (p := ⟨w.heap.size + 1 + 1, j, none⟩) n2).trans (P2.out j))
    have CG := Lib.hid hcg
    have N0 : w.heap.size < wc.heap.size := Nat.lt_of_lt_of_le n0 bc.size
    have N2 : w.heap.size + 1 + 1 < wc.heap.size := Nat.lt_of_lt_of_le n2 bc.size
    have Ng := hlg
    have zc := BW.size
    have hl := HLI.out.1
    have hl' := hSP.1
    have v0 : Below wc.heap.size wc wc := Below.refl _ _
    clear hcg hwid hlg b5 o0 of c5_0 c5_1 c5_2 BZ OZ NE bc hrd hak HO b2 b3
    cases er' : rdyC n ls' q'
    · rw [er'] at hrc
      replace hrc := Lib.hid hrc
      clear hfa hfb hca hcb hsa hsb E hSP hvV hl hl' er'
      have d0_0 := fun j => (v0.cell (p := ⟨w.heap.size, j, none⟩) N0).trans (C0.out j)
      have d0_2 := fun j => (v0.cell (p := ⟨w.heap.size + 1 + 1, j, none⟩) N2).trans (C2.out j)
      have d0_g := fun j => (v0.cell (p := ⟨w3.heap.size, j, none⟩) Ng).trans (CG.out j)
      have y0 := v0.size
      go_wp2_with fail
      refine (hrc.out _ v0).mono ?_
      rintro e u1 ⟨rfl, hv1⟩
      have v1 : Below wc.heap.size wc u1 := v0.trans (hv1.mono y0)
      clear hv1 d0_0 d0_2 d0_g
      have d1_0 := fun j => (v1.cell (p := ⟨w.heap.size, j, none⟩) N0).trans (C0.out j)
      have d1_2 := fun j => (v1.cell (p := ⟨w.heap.size + 1 + 1, j, none⟩) N2).trans (C2.out j)
      have d1_g := fun j => (v1.cell (p := ⟨w3.heap.size, j, none⟩) Ng).trans (CG.out j)
      have y1 := v1.size
      go_wp2_with fail
      refine (hwk.out _).mono ?_
      rintro e u99 ⟨rfl, hb99⟩
      go_wp2
      go_ret
      exact ⟨rfl, BW.trans (Below.mono (v1.trans (hb99.mono y1)) zc)⟩
    · rw [er'] at hrc
      replace hrc := Lib.hid hrc
      obtain ⟨-, hck'⟩ := rdyC_len er'
      have HV := less_vals E HCK.out hck' hl hl' HEA.out
      obtain ⟨va, ha⟩ : ∃ a, (plC n ls q).length = a := ⟨_, rfl⟩
      obtain ⟨vb, hb⟩ : ∃ a, (plC n ls' q').length = a := ⟨_, rfl⟩
      obtain ⟨ve, he⟩ : ∃ a, erS n ls q = a := ⟨_, rfl⟩
      obtain ⟨vf, hf⟩ : ∃ a, erS n ls' q' = a := ⟨_, rfl⟩
      obtain ⟨⟨vm, vg⟩, hm⟩ : ∃ a, chR n ls q x0 x1 = a := ⟨_, rfl⟩
      obtain ⟨⟨vn, vh⟩, hn⟩ : ∃ a, chR n ls' q' x0 x1 = a := ⟨_, rfl⟩
      obtain ⟨⟨vp, vi⟩, hp⟩ : ∃ a, stR n ls q x2 = a := ⟨_, rfl⟩
      obtain ⟨⟨vq, vj⟩, hqq⟩ : ∃ a, stR n ls' q' x2 = a := ⟨_, rfl⟩
      rw [ha, hb, he, hf, hm, hn, hp, hqq] at HV
      rw [ha, he] at hfa
      rw [hb, hf] at hfb
      rw [hm] at hca
      rw [hn] at hcb
      rw [hp] at hsa
      rw [hqq] at hsb
      obtain ⟨HV1, rfl, rfl, HV2⟩ := HV
      simp only at HV1 HV2 hca hcb hsa hsb
      replace HV1 := Lib.hid HV1
      replace HV2 := Lib.hid HV2
      replace hfa := Lib.hid hfa
      replace hfb := Lib.hid hfb
      replace hca := Lib.hid hca
      replace hcb := Lib.hid hcb
      replace hsa := Lib.hid hsa
      replace hsb := Lib.hid hsb
      clear E hSP hvV hl hl' er' ha hb he hf hm hn hp hqq hck'
      have d0_0 := fun j => (v0.cell (p := ⟨w.heap.size, j, none⟩) N0).trans (C0.out j)
      have d0_2 := fun j => (v0.cell (p := ⟨w.heap.size + 1 + 1, j, none⟩) N2).trans (C2.out j)
      have d0_g := fun j => (v0.cell (p := ⟨w3.heap.size, j, none⟩) Ng).trans (CG.out j)
      have y0 := v0.size
      go_wp2_with fail
      refine (hrc.out _ v0).mono ?_
      rintro e u1 ⟨rfl, hv1⟩
      have v1 : Below wc.heap.size wc u1 := v0.trans (hv1.mono y0)
      clear hv1 d0_0 d0_2 d0_g
      have d1_0 := fun j => (v1.cell (p := ⟨w.heap.size, j, none⟩) N0).trans (C0.out j)
      have d1_2 := fun j => (v1.cell (p := ⟨w.heap.size + 1 + 1, j, none⟩) N2).trans (C2.out j)
      have d1_g := fun j => (v1.cell (p := ⟨w3.heap.size, j, none⟩) Ng).trans (CG.out j)
      have y1 := v1.size
      go_wp2_with fail
      refine (hfa.out _ v1).mono ?_
      rintro e u2 ⟨rfl, hv2⟩
      have v2 : Below wc.heap.size wc u2 := v1.trans (hv2.mono y1)
      clear hv2 d1_0 d1_2 d1_g
      have d2_0 := fun j => (v2.cell (p := ⟨w.heap.size, j, none⟩) N0).trans (C0.out j)
      have d2_2 := fun j => (v2.cell (p := ⟨w.heap.size + 1 + 1, j, none⟩) N2).trans (C2.out j)
      have d2_g := fun j => (v2.cell (p := ⟨w3.heap.size, j, none⟩) Ng).trans (CG.out j)
      have y2 := v2.size
      go_wp2_with fail
      refine (hfb.out _ v2).mono ?_
      rintro e u3 ⟨rfl, hv3⟩
      have v3 : Below wc.heap.size wc u3 := v2.trans (hv3.mono y2)
      clear hv3 d2_0 d2_2 d2_g
      have d3_0 := fun j => (v3.cell (p := ⟨w.heap.size, j, none⟩) N0).trans (C0.out j)
      have d3_2 := fun j => (v3.cell (p := ⟨w.heap.size + 1 + 1, j, none⟩) N2).trans (C2.out j)
      have d3_g := fun j => (v3.cell (p := ⟨w3.heap.size, j, none⟩) Ng).trans (CG.out j)
      have y3 := v3.size
      go_wp2_with fail
      refine (hca.out _ v3).mono ?_
      rintro e u4 ⟨rfl, hv4⟩
      have v4 : Below wc.heap.size wc u4 := v3.trans (hv4.mono y3)
      clear hv4 d3_0 d3_2 d3_g
      have d4_0 := fun j => (v4.cell (p := ⟨w.heap.size, j, none⟩) N0).trans (C0.out j)
      have d4_2 := fun j => (v4.cell (p := ⟨w.heap.size + 1 + 1, j, none⟩) N2).trans (C2.out j)
      have d4_g := fun j => (v4.cell (p := ⟨w3.heap.size, j, none⟩) Ng).trans (CG.out j)
      have y4 := v4.size
      go_wp2_with fail
      refine (hcb.out _ v4).mono ?_
      rintro e u5 ⟨rfl, hv5⟩
      have v5 : Below wc.heap.size wc u5 := v4.trans (hv5.mono y4)
      clear hv5 d4_0 d4_2 d4_g
      have d5_0 := fun j => (v5.cell (p := ⟨w.heap.size, j, none⟩) N0).trans (C0.out j)
      have d5_2 := fun j => (v5.cell (p := ⟨w.heap.size + 1 + 1, j, none⟩) N2).trans (C2.out j)
      have d5_g := fun j => (v5.cell (p := ⟨w3.heap.size, j, none⟩) Ng).trans (CG.out j)
      have y5 := v5.size
      go_wp2_with fail
      refine (hsa.out _ v5).mono ?_
      rintro e u6 ⟨rfl, hv6⟩
      have v6 : Below wc.heap.size wc u6 := v5.trans (hv6.mono y5)
      clear hv6 d5_0 d5_2 d5_g
      have d6_0 := fun j => (v6.cell (p := ⟨w.heap.size, j, none⟩) N0).trans (C0.out j)
      have d6_2 := fun j => (v6.cell (p := ⟨w.heap.size + 1 + 1, j, none⟩) N2).trans (C2.out j)
      have d6_g := fun j => (v6.cell (p := ⟨w3.heap.size, j, none⟩) Ng).trans (CG.out j)
      have y6 := v6.size
      go_wp2_with fail
      refine (hsb.out _ v6).mono ?_
      rintro e u7 ⟨rfl, hv7⟩
      have v7 : Below wc.heap.size wc u7 := v6.trans (hv7.mono y6)
      clear hv7 d6_0 d6_2 d6_g
      have d7_0 := fun j => (v7.cell (p := ⟨w.heap.size, j, none⟩) N0).trans (C0.out j)
      have d7_2 := fun j => (v7.cell (p := ⟨w.heap.size + 1 + 1, j, none⟩) N2).trans (C2.out j)
      have d7_g := fun j => (v7.cell (p := ⟨w3.heap.size, j, none⟩) Ng).trans (CG.out j)
      have y7 := v7.size
      have hk0 : isKn 0 = true := rfl
      have hk3 : isKn 3 = true := rfl
      rcases HV1.out with ⟨rfl, rfl | rfl⟩ | ⟨rfl, rfl, k1', k2'⟩ <;> rcases HV2.out with ⟨rfl, rfl | rfl⟩ | ⟨rfl, rfl, k3'⟩
      all_goals
        go_wp2_with (first | (go_at_call 20; refine (isKnown_c _ _).mono ?_; rintro e w' ⟨rfl, rfl⟩) | (go_at_call 14; refine (hwk.out _).mono ?_; rintro e u99 ⟨rfl, hb99⟩))
        go_ret
        exact ⟨rfl, BW.trans (Below.mono (v7.trans (hb99.mono y7)) zc)⟩

end Go.Proofs.Ythjjakhmbgnnnaa
